/- The token server: Load of a new namespace, whole. -/
import Derived.Test.YtledmkhbaacdnaaTkT
namespace Go.Proofs.Ytledmkhbaacdnaa
open Go Go.Fw
set_option linter.unusedSimpArgs false
set_option linter.unusedVariables false

theorem Load_spec {h : Heap} {T : Nat → Option Nat} {sb : Nat} {S : Srv} (hS : Server h T sb S) {name : ByteArray} (hname : name.size < 9223372036854775808) (hnew : hasV S name = false) (hsp : S.spaces.length ≤ 1099511627776) {s : Sl} {fl : List F4} (hr : Row h s 4 (fl.flatMap f4L)) (hfl : fl.length ≤ 1099511627776) (hsl : ∀ k, s.blk = some k → T k = none ∧ k < sz h) {K : Int → Heap → Prop}
    (hk1 : ∀ e h', e ≠ 0 → ¬ LoadOK S name fl → Ext h h' → K e h') (hk2 : LoadOK S name fl → ∀ h' T', Server h' T' sb (S.loaded name fl) → Stp T T' h h' → K 0 h') : m_token_Server_Load (some ⟨sb, 0, none⟩) name s K h := by
  obtain ⟨cb, nb, sp, so, ls, hR⟩ := hS
  unfold m_token_Server_Load g_token_Server_Load
  rw [bindI_ev, bindB_ev]
  refine iteP_false ?_
  refine rName_spec hname ?_
  rw [bindB_ev]
  cases hnb : nameB name with
  | false => exact iteP_true (hk1 _ _ (by decide) (fun h => by rw [h.1] at hnb; cases hnb) (Ext.refl _))
  | true =>
  refine iteP_false ?_
  refine contains_spec hr fun h8 e8 => ?_
  rw [bindB_ev]
  cases hcf : fl.any fun f => !rightF f with
  | true => exact iteP_true (hk1 _ _ (by decide) (fun h => by rw [h.2.1] at hcf; cases hcf) e8)
  | false =>
  refine iteP_false ?_
  have hR8 := hR.ext e8
  refine twice_spec hR8.cells hR8.spaces hR8.names (hr.ext e8) fun b h12 hb e12 => ?_
  rw [bindB_ev]
  have e012 := e8.trans e12
  cases b with
  | true => exact iteP_true (hk1 _ _ (by decide) (fun h => by have := hb.2 h.2.2.1; cases this) e012)
  | false =>
  refine iteP_false ?_
  have hR12 := hR.ext e012
  refine full_spec hR12 (hr.ext e012) fun h16 e16 => ?_
  rw [bindB_ev]
  have e016 := e012.trans e16
  cases hfull : fullV S name fl with
  | true => exact iteP_true (hk1 _ _ (by decide) (fun h => by rw [h.2.2.2] at hfull; cases hfull) e016)
  | false =>
  have hok : LoadOK S name fl := ⟨hnb, hcf, hb.1 rfl, hfull⟩
  have hk := hk2 hok
  refine iteP_false ?_
  have hR16 := hR.ext e016
  refine space_spec hR16.cells hR16.spaces.own.row fun h20 e20 => ?_
  rw [bindI_ev]
  have hixn : ixV (fun x => strEq x.1 name) ls = -1 := by
    refine ixV_none ?_
    rw [List.findIdx?_eq_none_iff]
    intro x hx
    have h9 : (S.spaces.any fun x => strEq x.1 name) = false := hnew
    rw [← hR.names, List.any_map, List.any_eq_false] at h9
    have := h9 x hx
    simpa using this
  rw [hixn]
  have e020 := e016.trans e20
  have hR20 := hR.ext e020
  have c20 := hR20.cells
  have sbh := obj_lt hR.cells
  have hslen : ls.length ≤ 1099511627776 := by
    have : S.spaces.length = ls.length := by rw [← hR.names, List.length_map]
    omega
  have splen := rowLen spL_len hR.spaces.own.row (by decide)
  have hTn : ∀ k, sz h ≤ k → T k = none := fun k hk => hR.no hk
  have hright : ∀ f, f ∈ fl → rightF f = true := fun f hf => by
    have := List.any_eq_false.1 hcf f hf
    simpa using this
  -- the row with the new namespace, and the server's block
  refine cutQ (fun st h36 => ∃ t29 : Sl, st = ((ls.length : Int), ()) ∧ Upd (fun k => k = sb ∨ T k = some 1 ∨ T k = none) h20 h36 ∧ obj h36 sb = some (.cells [iv S.begun, iv S.last, slV t29, .map (some cb), .map (some nb), slV so, iv S.next].toArray 60 (0, 0)) ∧
      Own h36 0 t29 2 ((ls ++ [((name, ⟨none, 0, 0⟩, fl) : Sp3)]).flatMap spL) ∧ (∀ k, t29.blk = some k → T k = some 1 ∨ sz h20 ≤ k) ∧ ∀ k, k < sz h20 → k ≠ sb → sp.blk ≠ some k → h36[k]? = h20[k]?) ?_ ?_
  · rintro _ h36 ⟨t29, rfl, u36, c36, o36, b36, q36⟩
    dsimp only
    have z36 : sz h20 ≤ sz h36 := u36.size
    have z20 := ext_sz e020
    have hrow36 : Row h36 s 4 (fl.flatMap f4L) := (hr.ext e020).congr fun b o hp _ hb => q36 b hb (fun e => by
      have := (hsl b (by simp [Sl.blk, hp])).1; rw [e, hR.tsb] at this; cases this) fun e => by
      have := (hsl b (by simp [Sl.blk, hp])).1; rw [hR.spaces.tag b e] at this; cases this
    refine deref_ (ldLk c36 rfl ?_)
    refine flowClone_spec hrow36 hfl fun t40 h41 ho41 e41 => ?_
    have c41 := keepX c36 e41
    have o41 := o36.congr (h' := h41) fun b hb _ _ => e41.old b (o36.lt hb).2
    refine ⟨⟨(cell_block c41).trans rfl, trivial⟩, ?_⟩
    have hl9 : (ls ++ [((name, ⟨none, 0, 0⟩, fl) : Sp3)]).length = ls.length + 1 := by simp
    have t29l := rowLen spL_len o41.row (by decide)
    rw [hl9] at t29l
    have hgt : (ls ++ [((name, ⟨none, 0, 0⟩, fl) : Sp3)])[ls.length]? = some (name, ⟨none, 0, 0⟩, fl) := by simp
    obtain ⟨bp, hbp, hbb⟩ := Own.ptr_ o41 (o := ls.length * 2 + 1) (by rw [flat_len spL_len, hl9]; omega)
    refine ⟨bp, 0, hbp, by omega, by omega, ?_⟩
    rw [show 0 + ((ls.length : Int)).toNat * 2 = ls.length * 2 from by simp]
    refine Own.stCell o41 hbb (by rw [flat_len spL_len, hl9]; omega) one_slV fun h44 o44 u44 z44 => ?_
    have hfs := flat_set spL_len (ls ++ [((name, ⟨none, 0, 0⟩, fl) : Sp3)]) ls.length 1 (slV t40) _ (name, t40, fl) hgt (by decide) (by rfl)
    rw [hfs, List.set_append_right _ _ (Nat.le_refl _), Nat.sub_self, List.set_cons_zero] at o44
    have t29n : ∀ k, t29.blk = some k → k ≠ sb := fun k hkk e => by
      subst e
      rcases b36 k hkk with h9 | h9
      · rw [hR.tsb] at h9; cases h9
      · omega
    have c44 : obj h44 sb = _ := keepU c41 u44 (fun e => t29n sb e rfl)
    -- tags
    have t40n : ∀ k, t40.blk = some k → sz h36 ≤ k ∧ k < sz h41 := fun k hk => ho41.lt hk
    have ho44 := ho41.congr (h' := h44) fun b hb _ _ => u44.old b (ho41.lt hb).2 fun e => by
      have h8 := (o36.lt e).2
      have h7 := (ho41.lt hb).1
      omega
    have uall : Upd (fun k => k = sb ∨ T k = some 1 ∨ T k = none) h h44 := by
      refine ⟨?_, fun k hk hn => ?_⟩
      · have h9 := e41.size
        have h8 := u44.size
        simp only [size_def] at *
        omega
      · have hk' : k < sz h := hk
        have h3 : k < sz h36 := by omega
        rw [u44.old k (by have := e41.size; simp only [size_def] at *; omega) (fun e => by
          rcases b36 k e with h9 | h9
          · exact hn (.inr (.inl h9))
          · omega), e41.old k h3, u36.old k (by rw [size_def]; omega) hn, e020.old k hk]
    have z44' : sz h44 = sz h41 := z44
    have z41 := ext_sz e41
    let T2 : Nat → Option Nat := fun k => if t40.blk = some k then some 5 else if t29.blk = some k then some 1 else T k
    have hT2 : ∀ k t, T k = some t → T2 k = some t := fun k t hk => by
      have hkl := hR.lt k (by rw [hk]; exact fun e => by cases e)
      show (if t40.blk = some k then some 5 else if t29.blk = some k then some 1 else T k) = some t
      rw [if_neg (fun e => by have := (t40n k e).1; omega)]
      split
      · rename_i e
        rcases b36 k e with h9 | h9
        · rw [← h9, hk]
        · omega
      · exact hk
    have hT2n : ∀ k, T2 k ≠ none → T k ≠ none ∨ sz h ≤ k := fun k hk => by
      change (if t40.blk = some k then some 5 else if t29.blk = some k then some 1 else T k) ≠ none at hk
      split at hk
      · rename_i e; right; have := (t40n k e).1; omega
      · split at hk
        · rename_i e
          rcases b36 k e with h9 | h9
          · left; rw [h9]; exact fun e => by cases e
          · right; omega
        · exact .inl hk
    have hT2l : ∀ k, T2 k ≠ none → k < sz h44 := fun k hk => by
      change (if t40.blk = some k then some 5 else if t29.blk = some k then some 1 else T k) ≠ none at hk
      split at hk
      · rename_i e; have := (t40n k e).2; omega
      · split at hk
        · rename_i e
          have := (o36.lt e).2
          simp only [size_def] at this
          omega
        · have := hR.lt k hk; omega
    have sp2 : SpR h44 T2 t29 (ls ++ [(name, t40, fl)]) := by
      refine ⟨o44, fun k hk => ?_, fun x hx => ?_⟩
      · show (if t40.blk = some k then some 5 else if t29.blk = some k then some 1 else T k) = some 1
        rw [if_neg (fun e => ?_), if_pos hk]
        have h8 := (o36.lt hk).2
        have h7 := (t40n k e).1
        simp only [size_def] at h8
        omega
      · rcases List.mem_append.1 hx with hx | hx
        · obtain ⟨hrx, htx⟩ := hR.spaces.rows x hx
          refine ⟨hrx.congr fun b o hp _ hb => uall.old b hb fun e => ?_, fun k hk => hT2 _ _ (htx k hk)⟩
          have h9 := htx b (by simp [Sl.blk, hp])
          rcases e with e | e | e
          · subst e; rw [hR.tsb] at h9; cases h9
          · rw [h9] at e; cases e
          · rw [h9] at e; cases e
        · simp at hx
          subst hx
          exact ⟨ho44.row, fun k hk => if_pos hk⟩
    have hR44 := hR.setP uall c44 hT2 hT2l sp2
    have hnm : (ls ++ [((name, t40, fl) : Sp3)]).map (fun x => (x.1, x.2.2)) = S.spaces ++ [(name, fl)] := by rw [List.map_append, hR.names]; rfl
    rw [hnm] at hR44
    have st44 : Stp T T2 h h44 := ⟨⟨uall.size, fun k hk hn => by
      have hk' : k < sz h := hk
      have hTk : T k = none := by
        cases h9 : T k with
        | none => rfl
        | some t => exact (hn (by rw [h9]; exact fun e => by cases e)).elim
      rw [u44.old k (by have := e41.size; simp only [size_def] at *; omega) (fun e => by
          rcases b36 k e with h9 | h9
          · rw [hTk] at h9; cases h9
          · omega), e41.old k (by rw [size_def]; omega), q36 k (by omega) (fun e => by subst e; rw [hR.tsb] at hTk; cases hTk) (fun e => by rw [hR.spaces.tag k e] at hTk; cases hTk), e020.old k hk]⟩, hT2n⟩
    have hr44 : Row h44 s 4 (fl.flatMap f4L) := hr.congr fun b o hp _ hb => by
      have hbl : s.blk = some b := by simp [Sl.blk, hp]
      exact st44.upd.old b hb fun e => e (hsl b hbl).1
    refine loaded_loop hR44 hr44 (fun k hk => ?_) (fun f hf => ?_) (K := fun h9 => bindI 0 fun t103 => K t103 h9)
      (body := fun J45 b48 o49 s64 h47 => ldI h47 b48 o49 .i64 fun t50 => ldI h47 b48 (o49 + 1) .i64 fun t51 => ldI h47 b48 (o49 + 2) .i64 fun t52 => ldI h47 b48 (o49 + 3) .i64 fun t53 =>
        newC h47 [Value.int .i64 0, Value.int .i64 0, Value.int .i64 0, Value.int .i64 0] 53 fun b54 h55 => sts h55 b54 0 [Value.int .i64 t50, Value.int .i64 t51, Value.int .i64 t52, Value.int .i64 t53] fun h56 =>
        cutP (σ := Option Addr × Bool × Unit) (fun s73 h74 => (fun (c : Option Addr) (there72 : Bool) =>
          iteP (!there72) (derefP (some ⟨sb, 0, none⟩) fun b75 o76 => ldM h74 b75 (o76 + 3) fun t77 => ldI h74 b54 0 .i64 fun t78 => ldI h74 b54 0 .i64 fun t79 => ldI h74 b54 (0 + 1) .i64 fun t80 => ldI h74 b54 (0 + 2) .i64 fun t81 => ldI h74 b54 (0 + 3) .i64 fun t82 => ldI h74 b54 (0 + 2) .i64 fun t83 =>
              m_token_fresh (t79, t80, t81, t82, ()) (fun t84 h85 => need (heldL h85 [(b54, 0 + 2, Value.int .i64 t83)]) <| need (heldL h85 [(b54, 0, Value.int .i64 t78)]) <| need (heldL h85 [(b75, o76 + 3, Value.map t77)]) <| need (oneCell t84 = true) <| mapPut (.int .i64) h85 t77 (Value.int .i64 t78) (Value.agg #[t84, Value.int .i64 t83]) fun h86 => J45 (IntKind.wrap .i64 (s64 + 1), ()) h86) h74)
            (derefP c fun b87 o88 => ldI h74 b87 (o88 + 1) .i64 fun t89 => ldI h74 b54 (0 + 2) .i64 fun t90 => iteP (t89 != t90)
              (derefP (some ⟨sb, 0, none⟩) fun b91 o92 => ldM h74 b91 (o92 + 3) fun t93 => ldI h74 b54 0 .i64 fun t94 => ldI h74 b54 0 .i64 fun t95 => ldI h74 b54 (0 + 1) .i64 fun t96 => ldI h74 b54 (0 + 2) .i64 fun t97 => ldI h74 b54 (0 + 3) .i64 fun t98 => ldI h74 b54 (0 + 2) .i64 fun t99 =>
                m_token_fresh (t95, t96, t97, t98, ()) (fun t100 h101 => need (heldL h101 [(b54, 0 + 2, Value.int .i64 t99)]) <| need (heldL h101 [(b54, 0, Value.int .i64 t94)]) <| need (heldL h101 [(b91, o92 + 3, Value.map t93)]) <| need (oneCell t100 = true) <| mapPut (.int .i64) h101 t93 (Value.int .i64 t94) (Value.agg #[t100, Value.int .i64 t99]) fun h102 => J45 (IntKind.wrap .i64 (s64 + 1), ()) h102) h74)
              (J45 (IntKind.wrap .i64 (s64 + 1), ()) h74))) s73.1 s73.2.1) (fun J57 =>
          derefP (some ⟨sb, 0, none⟩) fun b58 o59 => ldM h56 b58 (o59 + 3) fun t60 => ldI h56 b54 0 .i64 fun t61 => bothP
            (mapGet (.int .i64) h56 t60 (Value.int .i64 t61) fun r => exG (r.getD (Value.agg #[Value.nilIface, Value.int .i64 0])) (fun t62 : Value × Int × Unit => Value.agg #[t62.1, Value.int .i64 t62.2.1]) fun t62 => newC h56 [Value.nilIface, Value.int .i64 0] 74 fun b63 h64 => sts h64 b63 0 [t62.1, Value.int .i64 t62.2.1] fun h65 => bindB r.isSome fun there => J57 (some ⟨b63, 0, none⟩, there, ()) h65)
            (newC h56 [Value.nilIface, Value.int .i64 0] 74 fun b66 h67 => need (heldL h67 [(b54, 0, Value.int .i64 t61)]) <| need (heldL h67 [(b58, o59 + 3, Value.map t60)]) <| mapGet (.int .i64) h67 t60 (Value.int .i64 t61) fun r68 => exG (r68.getD (Value.agg #[Value.nilIface, Value.int .i64 0])) (fun t69 : Value × Int × Unit => Value.agg #[t69.1, Value.int .i64 t69.2.1]) fun t69 => sts h67 b66 0 [t69.1, Value.int .i64 t69.2.1] fun h70 => bindB r68.isSome fun there71 => J57 (some ⟨b66, 0, none⟩, there71, ()) h70)))
      (fun i f b o h1 T1 S1 Q hfi hR1 hcell hQ => load_step hR1 ?_ hcell hQ rfl rfl) (fun h9 T9 hR9 st9 => ?_)
    · show (if t40.blk = some k then some 5 else if t29.blk = some k then some 1 else T k) = none
      rw [if_neg, if_neg]
      · exact (hsl k hk).1
      · intro e
        rcases b36 k e with h9 | h9
        · rw [(hsl k hk).1] at h9; cases h9
        · have := (hsl k hk).2
          omega
      · intro e
        have := (hsl k hk).2
        have := (t40n k e).1
        omega
    · exact hright f hf
    · exact hright f (List.mem_of_getElem? hfi)
    · rw [bindI_ev]
      exact hk h9 T9 ⟨cb, nb, t29, so, _, hR9⟩ (st44.trans st9)
  · intro Q hQ
    refine iteP_true ?_
    have z20 := ext_sz e020
    simp (maxDischargeDepth := 60) only [evAll, listPuts, Addr.mk.injEq, Option.map_some, Option.getD_some, Option.getD_none, Option.isSome_some, Option.isSome_none, Option.isNone_some, Option.isNone_none, List.all_cons, List.all_nil, List.length_cons, List.length_nil, List.set_cons_zero, List.set_cons_succ, List.getElem?_cons_zero, List.getElem?_cons_succ, List.getElem?_nil, Option.some.injEq, Value.int.injEq, Value.bool.injEq, Value.string.injEq, Value.pointer.injEq, Value.map.injEq, Prod.mk.injEq, exists_eq_left, exists_eq_left', if_true, if_false, decide_true, decide_false, Nat.reduceAdd, Nat.reduceLT, Nat.reduceLeDiff, Nat.reduceEqDiff, Nat.reduceMul, reduceCtorEq, beq_self_eq_true, c20]
    have hsl20 := hR20.spaces.own
    have hcap := hsl20.cap
    have hrow : Row (h20.push (.cells (spL (name, ⟨none, 0, 0⟩, fl)).toArray 69 (0, 0))) ⟨some ⟨sz h20, 0, none⟩, 1, 1⟩ 2 (spL (name, ⟨none, 0, 0⟩, fl)) :=
      (Own.newC (h := h20) (cells := spL (name, ⟨none, 0, 0⟩, fl)) (t := 69) (size := 2) (n := 1) rfl (by decide)).row
    have e28 : Ext h20 (h20.push (.cells (spL (name, ⟨none, 0, 0⟩, fl)).toArray 69 (0, 0))) := Ext.push _ _
    refine hrow.rd ?_
    change app _ _ _ _ _ _ _ (h20.push (.cells (spL (name, ⟨none, 0, 0⟩, fl)).toArray 69 (0, 0))) _
    generalize h20.push (.cells (spL (name, ⟨none, 0, 0⟩, fl)).toArray 69 (0, 0)) = h28 at e28 hrow ⊢
    have o28 := hsl20.congr (h' := h28) fun b hb _ _ => e28.old b (hsl20.lt hb).2
    refine Own.app o28 rfl (by simp [spL, one_str, one_slV]) rfl (by omega) (by omega) (Nat.zero_le _) fun t29 h30 o30 l30 u30 b30 => ?_
    have spn : ∀ k, sp.blk = some k → T k = some 1 := hR.spaces.tag
    have nsb : ¬ sp.blk = some sb := fun e => by have := spn sb e; rw [hR.tsb] at this; cases this
    have c30 := keepU (keepX c20 e28) u30 nsb
    simp (maxDischargeDepth := 60) only [evAll, listPuts, Addr.mk.injEq, Option.map_some, Option.getD_some, Option.getD_none, Option.isSome_some, Option.isSome_none, Option.isNone_some, Option.isNone_none, List.all_cons, List.all_nil, List.length_cons, List.length_nil, List.set_cons_zero, List.set_cons_succ, List.getElem?_cons_zero, List.getElem?_cons_succ, List.getElem?_nil, Option.some.injEq, Value.int.injEq, Value.bool.injEq, Value.string.injEq, Value.pointer.injEq, Value.map.injEq, Prod.mk.injEq, exists_eq_left, exists_eq_left', if_true, if_false, decide_true, decide_false, Nat.reduceAdd, Nat.reduceLT, Nat.reduceLeDiff, Nat.reduceEqDiff, Nat.reduceMul, reduceCtorEq, beq_self_eq_true, c30]
    have u33 : Upd (· = sb) h30 (Heap.put h30 sb 2 (slV t29)) := Upd.put _ _ _ _
    have b29 : ∀ k, t29.blk = some k → T k = some 1 ∨ sz h20 ≤ k := fun k hk => by
      rcases b30 with e | e
      · rw [e] at hk; exact .inl (spn k hk)
      · rw [e] at hk; cases hk; right; have := e28.size; simp only [size_def] at *; omega
    have t29n : ∀ k, t29.blk = some k → k ≠ sb := fun k hkk e => by
      subst e
      rcases b29 k hkk with h9 | h9
      · rw [hR.tsb] at h9; cases h9
      · omega
    rw [splen]
    refine hQ _ _ ⟨t29, rfl, ?_, ?_, ?_, b29, fun k h1 h2 h3 => ?_⟩
    · refine ⟨?_, fun k hk hn => ?_⟩
      · have h9 := e28.size
        have h8 := u30.size
        have h7 := u33.size
        simp only [size_def] at *
        omega
      · have h9 := e28.size
        rw [u33.old k (by have := u30.size; simp only [size_def] at *; omega) (fun e => hn (.inl e)), u30.old k (by simp only [size_def] at *; omega) (fun e => hn (.inr (.inl (spn k e)))), e28.old k hk]
    · simp (maxDischargeDepth := 60) only [evAll, listPuts, Addr.mk.injEq, Option.map_some, Option.getD_some, Option.getD_none, Option.isSome_some, Option.isSome_none, Option.isNone_some, Option.isNone_none, List.all_cons, List.all_nil, List.length_cons, List.length_nil, List.set_cons_zero, List.set_cons_succ, List.getElem?_cons_zero, List.getElem?_cons_succ, List.getElem?_nil, Option.some.injEq, Value.int.injEq, Value.bool.injEq, Value.string.injEq, Value.pointer.injEq, Value.map.injEq, Prod.mk.injEq, exists_eq_left, exists_eq_left', if_true, if_false, decide_true, decide_false, Nat.reduceAdd, Nat.reduceLT, Nat.reduceLeDiff, Nat.reduceEqDiff, Nat.reduceMul, reduceCtorEq, beq_self_eq_true, c30]
    · rw [List.flatMap_append]
      have : [((name, ⟨none, 0, 0⟩, fl) : Sp3)].flatMap spL = spL (name, ⟨none, 0, 0⟩, fl) := by simp
      rw [this]
      exact o30.congr fun b hb _ _ => u33.old b (o30.lt hb).2 (t29n b hb)
    · have h9 := e28.size
      have h8 := u30.size
      rw [u33.old k (by simp only [size_def] at *; omega) h2, u30.old k (by simp only [size_def] at *; omega) h3, e28.old k (by simp only [size_def] at *; omega)]
end Go.Proofs.Ytledmkhbaacdnaa
