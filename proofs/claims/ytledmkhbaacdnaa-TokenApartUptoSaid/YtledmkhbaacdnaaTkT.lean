/- The token server: Load of a new namespace. -/
import Derived.Test.YtledmkhbaacdnaaTkS
namespace Go.Proofs.Ytledmkhbaacdnaa
open Go Go.Fw
set_option linter.unusedSimpArgs false
set_option linter.unusedVariables false

theorem SrvR.noS {h h' : Heap} {T T' : Nat → Option Nat} {sb cb nb : Nat} {sp so : Sl} {ls : List Sp3} {S : Srv} (hR : SrvR h T sb cb nb sp so ls S) (st : Stp T T' h h') {k : Nat} (h1 : T k = none) (h2 : k < sz h) : T' k = none := by
  cases hT : T' k with
  | none => rfl
  | some t =>
    rcases st.new k (by rw [hT]; exact fun e => by cases e) with h9 | h9
    · exact (h9 h1).elim
    · rw [size_def] at h9; omega

theorem load_step {h : Heap} {T : Nat → Option Nat} {sb cb nb : Nat} {sp so : Sl} {ls : List Sp3} {S : Srv} (hR : SrvR h T sb cb nb sp so ls S) {f : F4} (hf : rightF f = true) {b o : Nat} (hcell : ∀ j v, (f4L f)[j]? = some v → objCell (o + j) (obj h b) = some v) {i : Int} {Q : (Int × Unit) → Heap → Prop}
    (hQ : ∀ h2 T2, SrvR h2 T2 sb cb nb sp so ls (S.fresh1 f) → Stp T T2 h h2 → Q (IntKind.wrap .i64 (i + 1), ()) h2) {kt ct : TypeId} (hkt : kt = 53) (hct : ct = 74) :
    ldI h b o .i64 fun t50 => ldI h b (o + 1) .i64 fun t51 => ldI h b (o + 2) .i64 fun t52 => ldI h b (o + 3) .i64 fun t53 =>
    newC h [Value.int .i64 0, Value.int .i64 0, Value.int .i64 0, Value.int .i64 0] kt fun b54 h55 => sts h55 b54 0 [Value.int .i64 t50, Value.int .i64 t51, Value.int .i64 t52, Value.int .i64 t53] fun h56 =>
    cutP (σ := Option Addr × Bool × Unit) (fun s73 h74 => (fun (c : Option Addr) (there72 : Bool) =>
      iteP (!there72) (derefP (some ⟨sb, 0, none⟩) fun b75 o76 => ldM h74 b75 (o76 + 3) fun t77 => ldI h74 b54 0 .i64 fun t78 => ldI h74 b54 0 .i64 fun t79 => ldI h74 b54 (0 + 1) .i64 fun t80 => ldI h74 b54 (0 + 2) .i64 fun t81 => ldI h74 b54 (0 + 3) .i64 fun t82 => ldI h74 b54 (0 + 2) .i64 fun t83 =>
          m_token_fresh (t79, t80, t81, t82, ()) (fun t84 h85 => need (heldL h85 [(b54, 0 + 2, Value.int .i64 t83)]) <| need (heldL h85 [(b54, 0, Value.int .i64 t78)]) <| need (heldL h85 [(b75, o76 + 3, Value.map t77)]) <| need (oneCell t84 = true) <| mapPut (.int .i64) h85 t77 (Value.int .i64 t78) (Value.agg #[t84, Value.int .i64 t83]) fun h86 => Q (IntKind.wrap .i64 (i + 1), ()) h86) h74)
        (derefP c fun b87 o88 => ldI h74 b87 (o88 + 1) .i64 fun t89 => ldI h74 b54 (0 + 2) .i64 fun t90 => iteP (t89 != t90)
          (derefP (some ⟨sb, 0, none⟩) fun b91 o92 => ldM h74 b91 (o92 + 3) fun t93 => ldI h74 b54 0 .i64 fun t94 => ldI h74 b54 0 .i64 fun t95 => ldI h74 b54 (0 + 1) .i64 fun t96 => ldI h74 b54 (0 + 2) .i64 fun t97 => ldI h74 b54 (0 + 3) .i64 fun t98 => ldI h74 b54 (0 + 2) .i64 fun t99 =>
            m_token_fresh (t95, t96, t97, t98, ()) (fun t100 h101 => need (heldL h101 [(b54, 0 + 2, Value.int .i64 t99)]) <| need (heldL h101 [(b54, 0, Value.int .i64 t94)]) <| need (heldL h101 [(b91, o92 + 3, Value.map t93)]) <| need (oneCell t100 = true) <| mapPut (.int .i64) h101 t93 (Value.int .i64 t94) (Value.agg #[t100, Value.int .i64 t99]) fun h102 => Q (IntKind.wrap .i64 (i + 1), ()) h102) h74)
          (Q (IntKind.wrap .i64 (i + 1), ()) h74))) s73.1 s73.2.1) (fun J57 =>
      derefP (some ⟨sb, 0, none⟩) fun b58 o59 => ldM h56 b58 (o59 + 3) fun t60 => ldI h56 b54 0 .i64 fun t61 => bothP
        (mapGet (.int .i64) h56 t60 (Value.int .i64 t61) fun r => exG (r.getD (Value.agg #[Value.nilIface, Value.int .i64 0])) (fun t62 : Value × Int × Unit => Value.agg #[t62.1, Value.int .i64 t62.2.1]) fun t62 => newC h56 [Value.nilIface, Value.int .i64 0] ct fun b63 h64 => sts h64 b63 0 [t62.1, Value.int .i64 t62.2.1] fun h65 => bindB r.isSome fun there => J57 (some ⟨b63, 0, none⟩, there, ()) h65)
        (newC h56 [Value.nilIface, Value.int .i64 0] ct fun b66 h67 => need (heldL h67 [(b54, 0, Value.int .i64 t61)]) <| need (heldL h67 [(b58, o59 + 3, Value.map t60)]) <| mapGet (.int .i64) h67 t60 (Value.int .i64 t61) fun r68 => exG (r68.getD (Value.agg #[Value.nilIface, Value.int .i64 0])) (fun t69 : Value × Int × Unit => Value.agg #[t69.1, Value.int .i64 t69.2.1]) fun t69 => sts h67 b66 0 [t69.1, Value.int .i64 t69.2.1] fun h70 => bindB r68.isSome fun there71 => J57 (some ⟨b66, 0, none⟩, there71, ()) h70)) := by
  subst hkt hct
  obtain ⟨f1, f2, f3, f4, _⟩ := f
  have w0 := hcell 0 _ rfl
  have w1 := hcell 1 _ rfl
  have w2 := hcell 2 _ rfl
  have w3 := hcell 3 _ rfl
  simp only [Nat.add_zero] at w0
  simp (maxDischargeDepth := 60) only [ldI_ex, w0, w1, w2, w3, Option.some.injEq, Value.int.injEq, true_and, exists_eq_left', exists_eq_left]
  rw [newC_ev, sts_ev (by simp (maxDischargeDepth := 60) only [evAll, listPuts, Addr.mk.injEq, Option.map_some, Option.getD_some, Option.getD_none, Option.isSome_some, Option.isSome_none, Option.isNone_some, Option.isNone_none, List.all_cons, List.all_nil, List.length_cons, List.length_nil, List.set_cons_zero, List.set_cons_succ, List.getElem?_cons_zero, List.getElem?_cons_succ, List.getElem?_nil, Option.some.injEq, Value.int.injEq, Value.bool.injEq, Value.string.injEq, Value.pointer.injEq, Value.map.injEq, Prod.mk.injEq, exists_eq_left, exists_eq_left', if_true, if_false, decide_true, decide_false, Nat.reduceAdd, Nat.reduceLT, Nat.reduceLeDiff, Nat.reduceEqDiff, Nat.reduceMul, reduceCtorEq, beq_self_eq_true]) (by simp (maxDischargeDepth := 60) only [evAll, listPuts, Addr.mk.injEq, Option.map_some, Option.getD_some, Option.getD_none, Option.isSome_some, Option.isSome_none, Option.isNone_some, Option.isNone_none, List.all_cons, List.all_nil, List.length_cons, List.length_nil, List.set_cons_zero, List.set_cons_succ, List.getElem?_cons_zero, List.getElem?_cons_succ, List.getElem?_nil, Option.some.injEq, Value.int.injEq, Value.bool.injEq, Value.string.injEq, Value.pointer.injEq, Value.map.injEq, Prod.mk.injEq, exists_eq_left, exists_eq_left', if_true, if_false, decide_true, decide_false, Nat.reduceAdd, Nat.reduceLT, Nat.reduceLeDiff, Nat.reduceEqDiff, Nat.reduceMul, reduceCtorEq, beq_self_eq_true])]
  have e4 : Ext h (Heap.puts (h.push (.cells [iv 0, iv 0, iv 0, iv 0].toArray 53 (0, 0))) (sz h) 0 [iv f1, iv f2, iv f3, iv f4]) := ext_puts (ext_push (Ext.refl _)) (Nat.le_refl _)
  have a4 : obj (Heap.puts (h.push (.cells [iv 0, iv 0, iv 0, iv 0].toArray 53 (0, 0))) (sz h) 0 [iv f1, iv f2, iv f3, iv f4]) (sz h) = some (.cells [iv f1, iv f2, iv f3, iv f4].toArray 53 (0, 0)) := by simp (maxDischargeDepth := 60) only [evAll, listPuts, Addr.mk.injEq, Option.map_some, Option.getD_some, Option.getD_none, Option.isSome_some, Option.isSome_none, Option.isNone_some, Option.isNone_none, List.all_cons, List.all_nil, List.length_cons, List.length_nil, List.set_cons_zero, List.set_cons_succ, List.getElem?_cons_zero, List.getElem?_cons_succ, List.getElem?_nil, Option.some.injEq, Value.int.injEq, Value.bool.injEq, Value.string.injEq, Value.pointer.injEq, Value.map.injEq, Prod.mk.injEq, exists_eq_left, exists_eq_left', if_true, if_false, decide_true, decide_false, Nat.reduceAdd, Nat.reduceLT, Nat.reduceLeDiff, Nat.reduceEqDiff, Nat.reduceMul, reduceCtorEq, beq_self_eq_true]
  have z4 : sz (Heap.puts (h.push (.cells [iv 0, iv 0, iv 0, iv 0].toArray 53 (0, 0))) (sz h) 0 [iv f1, iv f2, iv f3, iv f4]) = sz h + 1 := by simp only [sz_puts, sz_push]
  change cutP _ _
  generalize Heap.puts (h.push (.cells [iv 0, iv 0, iv 0, iv 0].toArray 53 (0, 0))) (sz h) 0 [iv f1, iv f2, iv f3, iv f4] = h4 at e4 a4 z4 ⊢
  have hR4 := hR.ext e4
  have c4 := hR4.cells
  refine cutQ (fun s h5 => ∃ bc, s = (some ⟨bc, 0, none⟩, (S.counts f1).isSome, ()) ∧ Ext h4 h5 ∧ ∀ c, S.counts f1 = some c → objCell 1 (obj h5 bc) = some (iv c.kind)) ?_ ?_
  · rintro _ h5 ⟨bc, rfl, e5, hbc⟩
    dsimp only
    have hR5 := hR4.ext e5
    have a5 := keepX a4 e5
    have c5 := hR5.cells
    have st5 : ∀ {T2 h6}, Stp T T2 h5 h6 → Stp T T2 h h6 := fun {T2 h6} st => ⟨((e4.trans e5).upd _).trans st.upd, fun k hk => (st.new k hk).imp id fun h9 => Nat.le_trans (e4.trans e5).size h9⟩
    have put : ∀ (n : Nat), n = (if (S.counts f1).isSome then S.nc else S.nc + 1) → S.fresh1 (f1, f2, f3, f4, ()) = { S with counts := fun i => if i = f1 then some (freshC (f1, f2, f3, f4, ())) else S.counts i, nc := n } →
        m_token_fresh (f1, f2, f3, f4, ()) (fun t84 h85 => objCell 2 (obj h85 (sz h)) = some (Value.int .i64 f3) ∧ objCell 0 (obj h85 (sz h)) = some (Value.int .i64 f1) ∧ objCell 3 (obj h85 sb) = some (Value.map (some cb)) ∧ oneCell t84 = true ∧ mapPut (.int .i64) h85 (some cb) (Value.int .i64 f1) (Value.agg #[t84, Value.int .i64 f3]) fun h86 => Q (IntKind.wrap .i64 (i + 1), ()) h86) h5 := fun n hn hS => by
      refine fresh_put hR5 (f := (f1, f2, f3, f4, ())) hf hn (fun v h6 e6 hv hm => ?_) fun h6 T6 hR6 st6 => hQ h6 T6 (by rw [hS]; exact hR6) (st5 st6)
      have a6 := keepX a5 e6
      have c6 := keepX c5 e6
      simp (maxDischargeDepth := 60) only [evAll, listPuts, Addr.mk.injEq, Option.map_some, Option.getD_some, Option.getD_none, Option.isSome_some, Option.isSome_none, Option.isNone_some, Option.isNone_none, List.all_cons, List.all_nil, List.length_cons, List.length_nil, List.set_cons_zero, List.set_cons_succ, List.getElem?_cons_zero, List.getElem?_cons_succ, List.getElem?_nil, Option.some.injEq, Value.int.injEq, Value.bool.injEq, Value.string.injEq, Value.pointer.injEq, Value.map.injEq, Prod.mk.injEq, exists_eq_left, exists_eq_left', if_true, if_false, decide_true, decide_false, Nat.reduceAdd, Nat.reduceLT, Nat.reduceLeDiff, Nat.reduceEqDiff, Nat.reduceMul, reduceCtorEq, beq_self_eq_true, a6, c6]
      exact ⟨hv, hm⟩
    cases hc : S.counts f1 with
    | none =>
      refine iteP_true ?_
      simp (maxDischargeDepth := 60) only [evAll, listPuts, Addr.mk.injEq, Option.map_some, Option.getD_some, Option.getD_none, Option.isSome_some, Option.isSome_none, Option.isNone_some, Option.isNone_none, List.all_cons, List.all_nil, List.length_cons, List.length_nil, List.set_cons_zero, List.set_cons_succ, List.getElem?_cons_zero, List.getElem?_cons_succ, List.getElem?_nil, Option.some.injEq, Value.int.injEq, Value.bool.injEq, Value.string.injEq, Value.pointer.injEq, Value.map.injEq, Prod.mk.injEq, exists_eq_left, exists_eq_left', if_true, if_false, decide_true, decide_false, Nat.reduceAdd, Nat.reduceLT, Nat.reduceLeDiff, Nat.reduceEqDiff, Nat.reduceMul, reduceCtorEq, beq_self_eq_true, c5, a5]
      exact put (S.nc + 1) (by rw [hc]; rfl) (fresh1_none hc)
    | some c =>
      refine iteP_false ?_
      have hkc := hbc c hc
      simp (maxDischargeDepth := 60) only [evAll, listPuts, Addr.mk.injEq, Option.map_some, Option.getD_some, Option.getD_none, Option.isSome_some, Option.isSome_none, Option.isNone_some, Option.isNone_none, List.all_cons, List.all_nil, List.length_cons, List.length_nil, List.set_cons_zero, List.set_cons_succ, List.getElem?_cons_zero, List.getElem?_cons_succ, List.getElem?_nil, Option.some.injEq, Value.int.injEq, Value.bool.injEq, Value.string.injEq, Value.pointer.injEq, Value.map.injEq, Prod.mk.injEq, exists_eq_left, exists_eq_left', if_true, if_false, decide_true, decide_false, Nat.reduceAdd, Nat.reduceLT, Nat.reduceLeDiff, Nat.reduceEqDiff, Nat.reduceMul, reduceCtorEq, beq_self_eq_true, c5, a5, hkc]
      refine ⟨fun q => ?_, fun q => ?_⟩
      · have q1 : c.kind ≠ f3 := by simpa using q
        have := fresh1_turn (S := S) (f := (f1, f2, f3, f4, ())) hc q1
        exact put S.nc (by rw [hc]; rfl) this
      · have q1 : ¬ c.kind ≠ f3 := by simpa using q
        have := fresh1_same (S := S) (f := (f1, f2, f3, f4, ())) hc q1
        exact hQ h5 T (by rw [this]; exact hR5) (st5 (Stp.refl _ _))
  · intro Q2 hQ2
    have lc4 := obj_lt c4
    have la4 := obj_lt a4
    simp (maxDischargeDepth := 60) only [evAll, listPuts, Addr.mk.injEq, Option.map_some, Option.getD_some, Option.getD_none, Option.isSome_some, Option.isSome_none, Option.isNone_some, Option.isNone_none, List.all_cons, List.all_nil, List.length_cons, List.length_nil, List.set_cons_zero, List.set_cons_succ, List.getElem?_cons_zero, List.getElem?_cons_succ, List.getElem?_nil, Option.some.injEq, Value.int.injEq, Value.bool.injEq, Value.string.injEq, Value.pointer.injEq, Value.map.injEq, Prod.mk.injEq, exists_eq_left, exists_eq_left', if_true, if_false, decide_true, decide_false, Nat.reduceAdd, Nat.reduceLT, Nat.reduceLeDiff, Nat.reduceEqDiff, Nat.reduceMul, reduceCtorEq, beq_self_eq_true, c4, a4, lt_ne0 lc4, lt_ne0 la4]
    refine ⟨?_, ?_⟩
    · refine hR4.counts.get f1 (fun hn => ?_) fun c v hc9 hv => ?_
      · refine ⟨(.nilIface, 0, ()), rfl, ?_⟩
        simp (maxDischargeDepth := 60) only [evAll, listPuts, Addr.mk.injEq, Option.map_some, Option.getD_some, Option.getD_none, Option.isSome_some, Option.isSome_none, Option.isNone_some, Option.isNone_none, List.all_cons, List.all_nil, List.length_cons, List.length_nil, List.set_cons_zero, List.set_cons_succ, List.getElem?_cons_zero, List.getElem?_cons_succ, List.getElem?_nil, Option.some.injEq, Value.int.injEq, Value.bool.injEq, Value.string.injEq, Value.pointer.injEq, Value.map.injEq, Prod.mk.injEq, exists_eq_left, exists_eq_left', if_true, if_false, decide_true, decide_false, Nat.reduceAdd, Nat.reduceLT, Nat.reduceLeDiff, Nat.reduceEqDiff, Nat.reduceMul, reduceCtorEq, beq_self_eq_true]
        exact hQ2 _ _ ⟨_, by rw [hn]; rfl, ext_puts (ext_push (Ext.refl _)) (Nat.le_refl _), fun c hc9 => by rw [hn] at hc9; cases hc9⟩
      · refine ⟨(v, c.kind, ()), rfl, ?_⟩
        simp (maxDischargeDepth := 60) only [evAll, listPuts, Addr.mk.injEq, Option.map_some, Option.getD_some, Option.getD_none, Option.isSome_some, Option.isSome_none, Option.isNone_some, Option.isNone_none, List.all_cons, List.all_nil, List.length_cons, List.length_nil, List.set_cons_zero, List.set_cons_succ, List.getElem?_cons_zero, List.getElem?_cons_succ, List.getElem?_nil, Option.some.injEq, Value.int.injEq, Value.bool.injEq, Value.string.injEq, Value.pointer.injEq, Value.map.injEq, Prod.mk.injEq, exists_eq_left, exists_eq_left', if_true, if_false, decide_true, decide_false, Nat.reduceAdd, Nat.reduceLT, Nat.reduceLeDiff, Nat.reduceEqDiff, Nat.reduceMul, reduceCtorEq, beq_self_eq_true, hv.one]
        refine hQ2 _ _ ⟨_, by rw [hc9]; rfl, ext_puts (ext_push (Ext.refl _)) (Nat.le_refl _), fun c' hc' => ?_⟩
        rw [hc9] at hc'
        cases hc'
        simp (maxDischargeDepth := 60) only [evAll, listPuts, Addr.mk.injEq, Option.map_some, Option.getD_some, Option.getD_none, Option.isSome_some, Option.isSome_none, Option.isNone_some, Option.isNone_none, List.all_cons, List.all_nil, List.length_cons, List.length_nil, List.set_cons_zero, List.set_cons_succ, List.getElem?_cons_zero, List.getElem?_cons_succ, List.getElem?_nil, Option.some.injEq, Value.int.injEq, Value.bool.injEq, Value.string.injEq, Value.pointer.injEq, Value.map.injEq, Prod.mk.injEq, exists_eq_left, exists_eq_left', if_true, if_false, decide_true, decide_false, Nat.reduceAdd, Nat.reduceLT, Nat.reduceLeDiff, Nat.reduceEqDiff, Nat.reduceMul, reduceCtorEq, beq_self_eq_true]
    · have hR5 := hR4.ext (Ext.push h4 (.cells [Value.nilIface, iv 0].toArray 74 (0, 0)))
      refine hR5.counts.get f1 (fun hn => ?_) fun c v hc9 hv => ?_
      · refine ⟨(.nilIface, 0, ()), rfl, ?_⟩
        simp (maxDischargeDepth := 60) only [evAll, listPuts, Addr.mk.injEq, Option.map_some, Option.getD_some, Option.getD_none, Option.isSome_some, Option.isSome_none, Option.isNone_some, Option.isNone_none, List.all_cons, List.all_nil, List.length_cons, List.length_nil, List.set_cons_zero, List.set_cons_succ, List.getElem?_cons_zero, List.getElem?_cons_succ, List.getElem?_nil, Option.some.injEq, Value.int.injEq, Value.bool.injEq, Value.string.injEq, Value.pointer.injEq, Value.map.injEq, Prod.mk.injEq, exists_eq_left, exists_eq_left', if_true, if_false, decide_true, decide_false, Nat.reduceAdd, Nat.reduceLT, Nat.reduceLeDiff, Nat.reduceEqDiff, Nat.reduceMul, reduceCtorEq, beq_self_eq_true]
        exact hQ2 _ _ ⟨_, by rw [hn]; rfl, ext_puts (ext_push (Ext.refl _)) (Nat.le_refl _), fun c hc9 => by rw [hn] at hc9; cases hc9⟩
      · refine ⟨(v, c.kind, ()), rfl, ?_⟩
        simp (maxDischargeDepth := 60) only [evAll, listPuts, Addr.mk.injEq, Option.map_some, Option.getD_some, Option.getD_none, Option.isSome_some, Option.isSome_none, Option.isNone_some, Option.isNone_none, List.all_cons, List.all_nil, List.length_cons, List.length_nil, List.set_cons_zero, List.set_cons_succ, List.getElem?_cons_zero, List.getElem?_cons_succ, List.getElem?_nil, Option.some.injEq, Value.int.injEq, Value.bool.injEq, Value.string.injEq, Value.pointer.injEq, Value.map.injEq, Prod.mk.injEq, exists_eq_left, exists_eq_left', if_true, if_false, decide_true, decide_false, Nat.reduceAdd, Nat.reduceLT, Nat.reduceLeDiff, Nat.reduceEqDiff, Nat.reduceMul, reduceCtorEq, beq_self_eq_true, hv.one]
        refine hQ2 _ _ ⟨_, by rw [hc9]; rfl, ext_puts (ext_push (Ext.refl _)) (Nat.le_refl _), fun c' hc' => ?_⟩
        rw [hc9] at hc'
        cases hc'
        simp (maxDischargeDepth := 60) only [evAll, listPuts, Addr.mk.injEq, Option.map_some, Option.getD_some, Option.getD_none, Option.isSome_some, Option.isSome_none, Option.isNone_some, Option.isNone_none, List.all_cons, List.all_nil, List.length_cons, List.length_nil, List.set_cons_zero, List.set_cons_succ, List.getElem?_cons_zero, List.getElem?_cons_succ, List.getElem?_nil, Option.some.injEq, Value.int.injEq, Value.bool.injEq, Value.string.injEq, Value.pointer.injEq, Value.map.injEq, Prod.mk.injEq, exists_eq_left, exists_eq_left', if_true, if_false, decide_true, decide_false, Nat.reduceAdd, Nat.reduceLT, Nat.reduceLeDiff, Nat.reduceEqDiff, Nat.reduceMul, reduceCtorEq, beq_self_eq_true]
end Go.Proofs.Ytledmkhbaacdnaa
