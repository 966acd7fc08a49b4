/- The token server: a grant. -/
import Derived.Test.YtledmkhbaacdnaaTkL
namespace Go.Proofs.Ytledmkhbaacdnaa
open Go Go.Fw
set_option linter.unusedSimpArgs false
set_option linter.unusedVariables false

/-- more would be used than the flow has -/
def overV (used : Int) (f : F4) (r : Rq) : Bool := decide (used > IntKind.wrap .i64 (f.2.1 - r.2.2.2.1))
def leftV (used : Int) (f : F4) (r : Rq) : Int := IntKind.wrap .i64 (IntKind.wrap .i64 (f.2.1 - used) - r.2.2.2.1)
def refusedA (used : Int) (f : F4) : An := (0, 2, maxV (IntKind.wrap .i64 (f.2.1 - used)) 0, 0, 0, ())
def Srv.take (S : Srv) (at_ : Int) (f : F4) (r : Rq) : Srv := { S with counts := fun i => if i = f.1 then (S.counts f.1).map (fun c => c.took at_ r.2.2.2.2.1 r.2.2.2.1) else S.counts i }
def Srv.lease (S : Srv) (at_ : Int) (f : F4) (r : Rq) : Srv := { S with out := aliveV at_ S.out ++ [(S.next, f.1, r.2.2.2.1, IntKind.wrap .i64 (at_ + f.2.2.2.1), ())], next := IntKind.wrap .i64 (S.next + 1) }
def grantV (S : Srv) (at_ : Int) (f : F4) (r : Rq) : An × Srv :=
  if overV (usedV S at_ f r.2.2.2.2.1) f r then (refusedA (usedV S at_ f r.2.2.2.2.1) f, S)
  else if f.2.2.1 ≠ 3 then ((0, 1, leftV (usedV S at_ f r.2.2.2.2.1) f r, 0, 0, ()), S.take at_ f r)
  else if (aliveV at_ S.out).length ≥ 1024 then ((0, 6, 0, 0, 0, ()), { S with out := aliveV at_ S.out })
  else ((0, 1, leftV (usedV S at_ f r.2.2.2.2.1) f r, f.2.2.2.1, S.next, ()), S.lease at_ f r)

theorem grant_spec {h : Heap} {T : Nat → Option Nat} {sb cb nb : Nat} {sp so : Sl} {ls : List Sp3} {S : Srv} (hR : SrvR h T sb cb nb sp so ls S) (hl : S.out.length ≤ 4096) {at_ : Int} {f : F4} (hf : f.2.2.1 ≠ 3 → ∃ c, S.counts f.1 = some c) {r : Rq} (hr : 0 ≤ r.2.2.2.1 ∧ r.2.2.2.1 ≤ 1099511627776) (hrs : r.2.2.2.2.1.size < 9223372036854775808) {K : An → Heap → Prop}
    (hk : ∀ h' T' so', SrvR h' T' sb cb nb sp so' ls (grantV S at_ f r).2 → Stp T T' h h' → K (grantV S at_ f r).1 h') : m_token_Server_grant (some ⟨sb, 0, none⟩) at_ f r K h := by
  unfold m_token_Server_grant g_token_Server_grant
  have l0 := obj_lt hR.cells
  obtain ⟨f1, f2, f3, f4, _⟩ := f
  obtain ⟨r1, r2, r3, r4, r5, r6, _⟩ := r
  dsimp only at hf hr hrs
  have e1 : Ext h (((h.push (.cells [iv f1, iv f2, iv f3, iv f4].toArray 53 (0, 0))).push (.cells [iv r1, .int .u8 r2, iv r3, iv r4, .string r5, iv r6].toArray 41 (0, 0))).push (.cells [iv 0, .int .u8 0, iv 0, iv 0, iv 0].toArray 36 (0, 0))) :=
    ext_push (ext_push (ext_push (Ext.refl _)))
  simp (maxDischargeDepth := 60) only [evAll, listPuts, Addr.mk.injEq, Option.map_some, Option.getD_some, Option.getD_none, Option.isSome_some, Option.isSome_none, Option.isNone_some, Option.isNone_none, List.all_cons, List.all_nil, List.length_cons, List.length_nil, List.set_cons_zero, List.set_cons_succ, List.getElem?_cons_zero, List.getElem?_cons_succ, List.getElem?_nil, Option.some.injEq, Value.int.injEq, Value.bool.injEq, Value.string.injEq, Value.pointer.injEq, Value.map.injEq, Prod.mk.injEq, exists_eq_left, exists_eq_left', if_true, if_false, decide_true, decide_false, Nat.reduceAdd, Nat.reduceLT, Nat.reduceLeDiff, Nat.reduceEqDiff, Nat.reduceMul, reduceCtorEq, beq_self_eq_true]
  generalize hh1 : (((h.push (.cells [iv f1, iv f2, iv f3, iv f4].toArray 53 (0, 0))).push (.cells [iv r1, .int .u8 r2, iv r3, iv r4, .string r5, iv r6].toArray 41 (0, 0))).push (.cells [iv 0, .int .u8 0, iv 0, iv 0, iv 0].toArray 36 (0, 0))) = h1 at e1 ⊢
  have a1 : obj h1 (sz h) = some (.cells [iv f1, iv f2, iv f3, iv f4].toArray 53 (0, 0)) := by subst hh1; simp (maxDischargeDepth := 60) only [evAll, listPuts, Addr.mk.injEq, Option.map_some, Option.getD_some, Option.getD_none, Option.isSome_some, Option.isSome_none, Option.isNone_some, Option.isNone_none, List.all_cons, List.all_nil, List.length_cons, List.length_nil, List.set_cons_zero, List.set_cons_succ, List.getElem?_cons_zero, List.getElem?_cons_succ, List.getElem?_nil, Option.some.injEq, Value.int.injEq, Value.bool.injEq, Value.string.injEq, Value.pointer.injEq, Value.map.injEq, Prod.mk.injEq, exists_eq_left, exists_eq_left', if_true, if_false, decide_true, decide_false, Nat.reduceAdd, Nat.reduceLT, Nat.reduceLeDiff, Nat.reduceEqDiff, Nat.reduceMul, reduceCtorEq, beq_self_eq_true]
  have b1 : obj h1 (sz h + 1) = some (.cells [iv r1, .int .u8 r2, iv r3, iv r4, .string r5, iv r6].toArray 41 (0, 0)) := by subst hh1; simp (maxDischargeDepth := 60) only [evAll, listPuts, Addr.mk.injEq, Option.map_some, Option.getD_some, Option.getD_none, Option.isSome_some, Option.isSome_none, Option.isNone_some, Option.isNone_none, List.all_cons, List.all_nil, List.length_cons, List.length_nil, List.set_cons_zero, List.set_cons_succ, List.getElem?_cons_zero, List.getElem?_cons_succ, List.getElem?_nil, Option.some.injEq, Value.int.injEq, Value.bool.injEq, Value.string.injEq, Value.pointer.injEq, Value.map.injEq, Prod.mk.injEq, exists_eq_left, exists_eq_left', if_true, if_false, decide_true, decide_false, Nat.reduceAdd, Nat.reduceLT, Nat.reduceLeDiff, Nat.reduceEqDiff, Nat.reduceMul, reduceCtorEq, beq_self_eq_true]
  have d1 : obj h1 (sz h + 2) = some (.cells [iv 0, .int .u8 0, iv 0, iv 0, iv 0].toArray 36 (0, 0)) := by subst hh1; simp (maxDischargeDepth := 60) only [evAll, listPuts, Addr.mk.injEq, Option.map_some, Option.getD_some, Option.getD_none, Option.isSome_some, Option.isSome_none, Option.isNone_some, Option.isNone_none, List.all_cons, List.all_nil, List.length_cons, List.length_nil, List.set_cons_zero, List.set_cons_succ, List.getElem?_cons_zero, List.getElem?_cons_succ, List.getElem?_nil, Option.some.injEq, Value.int.injEq, Value.bool.injEq, Value.string.injEq, Value.pointer.injEq, Value.map.injEq, Prod.mk.injEq, exists_eq_left, exists_eq_left', if_true, if_false, decide_true, decide_false, Nat.reduceAdd, Nat.reduceLT, Nat.reduceLeDiff, Nat.reduceEqDiff, Nat.reduceMul, reduceCtorEq, beq_self_eq_true]
  have hR1 := hR.ext e1
  refine used_spec hR1 hl (f := (f1, f2, f3, f4, ())) hf hrs fun h2 e2 => ?_
  have hR2 := hR1.ext e2
  have a2 := keepX a1 e2
  have b2 := keepX b1 e2
  have d2 := keepX d1 e2
  generalize hu : usedV S at_ (f1, f2, f3, f4, ()) r5 = u at hk ⊢
  have la := obj_lt a2
  have lb := obj_lt b2
  have ld := obj_lt d2
  have e12 := e1.trans e2
  simp (maxDischargeDepth := 60) only [evAll, listPuts, Addr.mk.injEq, Option.map_some, Option.getD_some, Option.getD_none, Option.isSome_some, Option.isSome_none, Option.isNone_some, Option.isNone_none, List.all_cons, List.all_nil, List.length_cons, List.length_nil, List.set_cons_zero, List.set_cons_succ, List.getElem?_cons_zero, List.getElem?_cons_succ, List.getElem?_nil, Option.some.injEq, Value.int.injEq, Value.bool.injEq, Value.string.injEq, Value.pointer.injEq, Value.map.injEq, Prod.mk.injEq, exists_eq_left, exists_eq_left', if_true, if_false, decide_true, decide_false, Nat.reduceAdd, Nat.reduceLT, Nat.reduceLeDiff, Nat.reduceEqDiff, Nat.reduceMul, reduceCtorEq, beq_self_eq_true, a2, b2, d2, lt_ne la, lt_ne0 la, lt_ne lb, lt_ne0 lb, lt_ne ld, lt_ne0 ld, lt_en la, lt_en0 la, lt_en lb, lt_en0 lb, lt_en ld, lt_en0 ld]
  have gv : grantV S at_ (f1, f2, f3, f4, ()) (r1, r2, r3, r4, r5, r6, ()) = if overV u (f1, f2, f3, f4, ()) (r1, r2, r3, r4, r5, r6, ()) then (refusedA u (f1, f2, f3, f4, ()), S)
    else if f3 ≠ 3 then ((0, 1, leftV u (f1, f2, f3, f4, ()) (r1, r2, r3, r4, r5, r6, ()), 0, 0, ()), S.take at_ (f1, f2, f3, f4, ()) (r1, r2, r3, r4, r5, r6, ()))
    else if (aliveV at_ S.out).length ≥ 1024 then ((0, 6, 0, 0, 0, ()), { S with out := aliveV at_ S.out })
    else ((0, 1, leftV u (f1, f2, f3, f4, ()) (r1, r2, r3, r4, r5, r6, ()), f4, S.next, ()), S.lease at_ (f1, f2, f3, f4, ()) (r1, r2, r3, r4, r5, r6, ())) := by unfold grantV; rw [hu]
  rw [gv] at hk
  clear gv
  refine iteP_dec (fun q => ?_) fun q => ?_
  · rw [if_pos (by unfold overV; simpa using q)] at hk
    exact hk _ T so (hR.ext (ext_puts e12 (by omega))) ⟨(ext_puts e12 (by omega)).upd _, fun _ h => .inl h⟩
  rw [if_neg (by unfold overV; simpa using q)] at hk
  have e3 : Ext h2 (Heap.puts (h2.push (.cells [iv 0, .int .u8 0, iv 0, iv 0, iv 0].toArray 36 (0, 0))) (sz h2) 0 [iv 0, .int .u8 1, iv (IntKind.wrap .i64 (IntKind.wrap .i64 (f2 - u) - r4)), iv 0, iv 0]) := ext_puts (ext_push (Ext.refl _)) (Nat.le_refl _)
  have g3 : obj (Heap.puts (h2.push (.cells [iv 0, .int .u8 0, iv 0, iv 0, iv 0].toArray 36 (0, 0))) (sz h2) 0 [iv 0, .int .u8 1, iv (IntKind.wrap .i64 (IntKind.wrap .i64 (f2 - u) - r4)), iv 0, iv 0]) (sz h2) = some (.cells [iv 0, .int .u8 1, iv (IntKind.wrap .i64 (IntKind.wrap .i64 (f2 - u) - r4)), iv 0, iv 0].toArray 36 (0, 0)) := by
    simp (maxDischargeDepth := 60) only [evAll, listPuts, Addr.mk.injEq, Option.map_some, Option.getD_some, Option.getD_none, Option.isSome_some, Option.isSome_none, Option.isNone_some, Option.isNone_none, List.all_cons, List.all_nil, List.length_cons, List.length_nil, List.set_cons_zero, List.set_cons_succ, List.getElem?_cons_zero, List.getElem?_cons_succ, List.getElem?_nil, Option.some.injEq, Value.int.injEq, Value.bool.injEq, Value.string.injEq, Value.pointer.injEq, Value.map.injEq, Prod.mk.injEq, exists_eq_left, exists_eq_left', if_true, if_false, decide_true, decide_false, Nat.reduceAdd, Nat.reduceLT, Nat.reduceLeDiff, Nat.reduceEqDiff, Nat.reduceMul, reduceCtorEq, beq_self_eq_true]
  have hl3 : leftV u (f1, f2, f3, f4, ()) (r1, r2, r3, r4, r5, r6, ()) = IntKind.wrap .i64 (IntKind.wrap .i64 (f2 - u) - r4) := rfl
  rw [hl3] at hk
  have ls2 := obj_lt hR2.cells
  simp only [lt_ne0 ls2, if_false]
  generalize IntKind.wrap .i64 (IntKind.wrap .i64 (f2 - u) - r4) = lft at hk e3 g3 ⊢
  generalize Heap.puts (h2.push (.cells [iv 0, .int .u8 0, iv 0, iv 0, iv 0].toArray 36 (0, 0))) (sz h2) 0 [iv 0, .int .u8 1, iv lft, iv 0, iv 0] = h3 at e3 g3 ⊢
  have hR3 := hR2.ext e3
  have a3 := keepX a2 e3
  have b3 := keepX b2 e3
  have d3 := keepX d2 e3
  have e13 := e12.trans e3
  have c3 := hR3.cells
  have z2 := ext_sz e12
  have z3 := ext_sz e3
  have lgg := obj_lt g3
  have ndg : (sz h2 = sz h + 2) = False := eq_false (by omega)
  have ngd : (sz h + 2 = sz h2) = False := eq_false (by omega)
  have sbh := obj_lt hR.cells
  have hTn : ∀ k, sz h ≤ k → T k = none := fun k hk => by
    cases hT : T k with
    | none => rfl
    | some t =>
      have := hR.lt k (by rw [hT]; exact fun e => by cases e)
      omega
  have fin : ∀ (h9 : Heap) (T9 : Nat → Option Nat) (so9 : Sl) (S9 : Srv) (a : An) (vs : List Value), SrvR h9 T9 sb cb nb sp so9 ls S9 → Upd (fun k => T k ≠ none) h h9 → ((∀ k, T9 k ≠ none → T k ≠ none ∨ sz h ≤ k) ∧ T9 (sz h + 2) = none) →
      (∀ h' T' so', SrvR h' T' sb cb nb sp so' ls S9 → Stp T T' h h' → K a h') → K a (h9.puts (sz h + 2) 0 vs) := fun h9 T9 so9 S9 a vs hR9 u9 ⟨t9, n9⟩ hk9 => by
    refine hk9 _ T9 so9 (hR9.congr (by rw [sz_puts]; exact Nat.le_refl _) fun k hk => puts_other fun e => ?_) ⟨upd_puts u9 (.inl (by omega)), fun k hk => (t9 k hk).imp id fun h => h⟩
    subst e
    exact hk n9
  refine ⟨fun q1 => ?_, fun q1 => ?_⟩
  · have q3 : f3 ≠ 3 := by simpa using q1
    rw [if_pos q3] at hk
    obtain ⟨c, hc⟩ := hf q3
    obtain ⟨m, hm, hm1, hcs⟩ := hR3.counts
    obtain ⟨hid, v, hv, hr9⟩ := hcs f1 c hc
    simp (maxDischargeDepth := 60) only [evAll, listPuts, Addr.mk.injEq, Option.map_some, Option.getD_some, Option.getD_none, Option.isSome_some, Option.isSome_none, Option.isNone_some, Option.isNone_none, List.all_cons, List.all_nil, List.length_cons, List.length_nil, List.set_cons_zero, List.set_cons_succ, List.getElem?_cons_zero, List.getElem?_cons_succ, List.getElem?_nil, Option.some.injEq, Value.int.injEq, Value.bool.injEq, Value.string.injEq, Value.pointer.injEq, Value.map.injEq, Prod.mk.injEq, exists_eq_left, exists_eq_left', if_true, if_false, decide_true, decide_false, Nat.reduceAdd, Nat.reduceLT, Nat.reduceLeDiff, Nat.reduceEqDiff, Nat.reduceMul, reduceCtorEq, beq_self_eq_true, hR2.cells]
    refine hm.get f1 ?_
    rw [hv]
    refine ⟨(v, c.kind, ()), rfl, ?_⟩
    dsimp only
    have fin : ∀ h4 T', SrvR h4 T' sb cb nb sp so ls (S.take at_ (f1, f2, f3, f4, ()) (r1, r2, r3, r4, r5, r6, ())) → Stp T T' h3 h4 → Upd (fun k => T k ≠ none) h3 h4 → (∀ k, T' k = none → k < sz h4) → True := fun _ _ _ _ _ _ => trivial
    have hS : ∀ c', c.took at_ r5 r4 = c' → S.take at_ (f1, f2, f3, f4, ()) (r1, r2, r3, r4, r5, r6, ()) = { S with counts := fun i => if i = f1 then some c' else S.counts i } := fun c' hc' => by
      subst hc'
      unfold Srv.take
      dsimp only
      rw [hc]
      rfl
    have done : ∀ h4 T', SrvR h4 T' sb cb nb sp so ls (S.take at_ (f1, f2, f3, f4, ()) (r1, r2, r3, r4, r5, r6, ())) → Upd (fun k => T k ≠ none) h3 h4 → (∀ k, T' k ≠ none → T k ≠ none ∨ sz h3 ≤ k) →
        ∃ n, objCell 0 (obj h4 (sz h2)) = some (Value.int .i64 n) ∧ ∃ n_1, objCell 1 (obj h4 (sz h2)) = some (Value.int .u8 n_1) ∧ ∃ n_2, objCell 2 (obj h4 (sz h2)) = some (Value.int .i64 n_2) ∧ ∃ n_3, objCell 3 (obj h4 (sz h2)) = some (Value.int .i64 n_3) ∧ ∃ n_4, objCell 4 (obj h4 (sz h2)) = some (Value.int .i64 n_4) ∧
          sts h4 (sz h + 2) 0 [Value.int .i64 n, Value.int .u8 n_1, Value.int .i64 n_2, Value.int .i64 n_3, Value.int .i64 n_4] fun h15 =>
            ∃ n, objCell 0 (obj h15 (sz h + 2)) = some (Value.int .i64 n) ∧ ∃ n_5, objCell 1 (obj h15 (sz h + 2)) = some (Value.int .u8 n_5) ∧ ∃ n_6, objCell 2 (obj h15 (sz h + 2)) = some (Value.int .i64 n_6) ∧ ∃ n_7, objCell 3 (obj h15 (sz h + 2)) = some (Value.int .i64 n_7) ∧ ∃ n_8, objCell 4 (obj h15 (sz h + 2)) = some (Value.int .i64 n_8) ∧ K (n, n_5, n_6, n_7, n_8, ()) h15 := fun h4 T' hR4 u4 hT4 => by
      have tn : ∀ k, sz h ≤ k → ¬ T k ≠ none := fun k hk ht => by have := hR.lt k ht; omega
      have g4 := keepU g3 u4 (tn _ (by omega))
      have d4 := keepU d3 u4 (tn _ (by omega))
      simp (maxDischargeDepth := 60) only [evAll, listPuts, Addr.mk.injEq, Option.map_some, Option.getD_some, Option.getD_none, Option.isSome_some, Option.isSome_none, Option.isNone_some, Option.isNone_none, List.all_cons, List.all_nil, List.length_cons, List.length_nil, List.set_cons_zero, List.set_cons_succ, List.getElem?_cons_zero, List.getElem?_cons_succ, List.getElem?_nil, Option.some.injEq, Value.int.injEq, Value.bool.injEq, Value.string.injEq, Value.pointer.injEq, Value.map.injEq, Prod.mk.injEq, exists_eq_left, exists_eq_left', if_true, if_false, decide_true, decide_false, Nat.reduceAdd, Nat.reduceLT, Nat.reduceLeDiff, Nat.reduceEqDiff, Nat.reduceMul, reduceCtorEq, beq_self_eq_true, g4, d4]
      have eu : Upd (fun k => T k ≠ none) h (h4.puts (sz h + 2) 0 [iv 0, .int .u8 1, iv lft, iv 0, iv 0]) := upd_puts ((e13.upd _).trans u4) (.inl (by omega))
      refine hk _ T' so (hR4.congr (by rw [sz_puts]; exact Nat.le_refl _) fun k hk => puts_other fun e => ?_) ⟨eu, fun k hk => ?_⟩
      · subst e
        rcases hT4 _ hk with h9 | h9
        · exact tn _ (by omega) h9
        · omega
      · rcases hT4 _ hk with h9 | h9
        · exact .inl h9
        · right; rw [size_def]; omega
    cases c with
    | rate w =>
      obtain ⟨wb, mb, rfl, hw, t1, t2⟩ := hr9
      refine .inl ⟨(some ⟨wb, 0, none⟩, ()), rfl, rateTake_spec hw (by omega) fun h4 hw4 u4 => done h4 T ?_ (u4.mono fun k _ hk => ?_) fun k hk => .inl hk⟩
      · rw [hS _ rfl]
        refine hR3.setC (c := .rate (w.took at_ r4)) hid (u4.mono fun k _ hk => ?_) (fun _ _ h => h) (fun k hk => Nat.lt_of_lt_of_le (hR3.lt k hk) u4.size) hm hm1 hcs hv ⟨wb, mb, rfl, hw4, t1, t2⟩
        rcases hk with rfl | rfl
        · exact ⟨0, by decide, t1⟩
        · exact ⟨1, by decide, t2⟩
      · rcases hk with rfl | rfl
        · rw [t1]; exact fun e => by cases e
        · rw [t2]; exact fun e => by cases e
    | value s =>
      obtain ⟨wb, sl, lb, rfl, hs⟩ := hr9
      refine .inr (.inl ⟨(some ⟨wb, 0, none⟩, ()), rfl, valueTake_spec hs hR3.lt hr hrs fun h4 T4 sl4 lb4 hs4 hg4 => done h4 T4 ?_ (hg4.upd.mono fun k _ ⟨j, _, e⟩ => ?_) hg4.new⟩)
      · rw [hS _ rfl]
        exact hR3.setC (c := .value (s.took at_ r4 r5)) hid hg4.upd hg4.keep hg4.lt hm hm1 hcs hv ⟨wb, sl4, lb4, rfl, hs4⟩
      · rw [e]; exact fun e => by cases e
    | leased =>
      cases hr9
      refine .inr (.inr (.inl ⟨(), rfl, ?_⟩))
      unfold m_token_leased_take g_token_leased_take
      simp only [newC_ev]
      have e4 : Ext h3 (h3.push (.cells [].toArray 96 (0, 0))) := Ext.push _ _
      refine done _ T ?_ (e4.upd _) fun k hk => .inl hk
      rw [hS _ rfl]
      exact hR3.setC (c := .leased) hid (e4.upd _) (fun _ _ h => h) (fun k hk => Nat.lt_of_lt_of_le (hR3.lt k hk) e4.size) hm hm1 hcs hv rfl |>.ext (Ext.refl _)
  · have q3 : ¬ f3 ≠ 3 := by simpa using q1
    rw [if_neg q3] at hk
    refine alive_spec c3 hR3.out hl fun t4 h4 ho4 e4 => ?_
    have hR4 := hR3.ext e4
    have a4 := keepX a3 e4
    have b4 := keepX b3 e4
    have d4 := keepX d3 e4
    have g4 := keepX g3 e4
    have e14 := e13.trans e4
    have z4 := ext_sz e4
    have z14 := ext_sz e14
    have hlen := rowLen f4L_len ho4.row (by decide)
    have hn4 : ∀ k, t4.blk = some k → sz h3 ≤ k ∧ k < sz h4 ∧ T k = none := fun k hk => by
      have h9 := ho4.lt hk
      refine ⟨h9.1, h9.2, ?_⟩
      cases hT : T k with
      | none => rfl
      | some t =>
        have := hR.lt k (by rw [hT]; exact fun e => by cases e)
        have h10 : sz h3 ≤ k := h9.1
        omega
    have ls4 := obj_lt hR4.cells
    have u5 : Upd (· = sb) h4 (h4.put sb 5 (slV t4)) := Upd.put _ _ _ _
    have c5 : obj (h4.put sb 5 (slV t4)) sb = some (.cells [iv S.begun, iv S.last, slV sp, .map (some cb), .map (some nb), slV t4, iv S.next].toArray 60 (0, 0)) := by
      simp (maxDischargeDepth := 60) only [evAll, listPuts, Addr.mk.injEq, Option.map_some, Option.getD_some, Option.getD_none, Option.isSome_some, Option.isSome_none, Option.isNone_some, Option.isNone_none, List.all_cons, List.all_nil, List.length_cons, List.length_nil, List.set_cons_zero, List.set_cons_succ, List.getElem?_cons_zero, List.getElem?_cons_succ, List.getElem?_nil, Option.some.injEq, Value.int.injEq, Value.bool.injEq, Value.string.injEq, Value.pointer.injEq, Value.map.injEq, Prod.mk.injEq, exists_eq_left, exists_eq_left', if_true, if_false, decide_true, decide_false, Nat.reduceAdd, Nat.reduceLT, Nat.reduceLeDiff, Nat.reduceEqDiff, Nat.reduceMul, reduceCtorEq, beq_self_eq_true, hR4.cells]
    have hR5 := hR4.setO (n := S.next) (u5.mono fun k _ hk => .inl hk) c5 ((ho4.congr fun b hb _ _ => u5.old b (ho4.lt hb).2 fun e => by
      have := (hn4 b hb).1
      subst e
      omega).base (Nat.zero_le _)) fun k hk => .inr (hn4 k hk).2.2
    have z5 : sz (h4.put sb 5 (slV t4)) = sz h4 := sz_put
    simp (maxDischargeDepth := 60) only [evAll, listPuts, Addr.mk.injEq, Option.map_some, Option.getD_some, Option.getD_none, Option.isSome_some, Option.isSome_none, Option.isNone_some, Option.isNone_none, List.all_cons, List.all_nil, List.length_cons, List.length_nil, List.set_cons_zero, List.set_cons_succ, List.getElem?_cons_zero, List.getElem?_cons_succ, List.getElem?_nil, Option.some.injEq, Value.int.injEq, Value.bool.injEq, Value.string.injEq, Value.pointer.injEq, Value.map.injEq, Prod.mk.injEq, exists_eq_left, exists_eq_left', if_true, if_false, decide_true, decide_false, Nat.reduceAdd, Nat.reduceLT, Nat.reduceLeDiff, Nat.reduceEqDiff, Nat.reduceMul, reduceCtorEq, beq_self_eq_true, hR4.cells]
    generalize h4.put sb 5 (slV t4) = h5 at u5 c5 hR5 z5 ⊢
    have ne : ∀ k, sz h ≤ k → k ≠ sb := fun k hk e => by omega
    have a5 := keepU a4 u5 (ne _ (Nat.le_refl _))
    have b5 := keepU b4 u5 (ne _ (by omega))
    have d5 := keepU d4 u5 (ne _ (by omega))
    have g5 := keepU g4 u5 (ne _ (by omega))
    have u15 : Upd (fun k => T k ≠ none) h h5 := (e14.upd _).trans (u5.mono fun k _ hk => by subst hk; rw [hR.tsb]; exact fun e => by cases e)
    have hT5 : (∀ k, (fun k => if t4.blk = some k then some 4 else T k) k ≠ none → T k ≠ none ∨ sz h ≤ k) ∧ (fun k => if t4.blk = some k then some 4 else T k) (sz h + 2) = none := by
      refine ⟨fun k hk => ?_, ?_⟩
      · dsimp only at hk
        split at hk
        · right; have := (hn4 k (by assumption)).1; omega
        · exact .inl hk
      · dsimp only
        rw [if_neg (fun e => by have := (hn4 _ e).1; omega)]
        exact hTn _ (by omega)
    refine iteP_dec (fun q5 => ?_) fun q5 => ?_
    · rw [if_pos (by omega)] at hk
      simp (maxDischargeDepth := 60) only [evAll, listPuts, Addr.mk.injEq, Option.map_some, Option.getD_some, Option.getD_none, Option.isSome_some, Option.isSome_none, Option.isNone_some, Option.isNone_none, List.all_cons, List.all_nil, List.length_cons, List.length_nil, List.set_cons_zero, List.set_cons_succ, List.getElem?_cons_zero, List.getElem?_cons_succ, List.getElem?_nil, Option.some.injEq, Value.int.injEq, Value.bool.injEq, Value.string.injEq, Value.pointer.injEq, Value.map.injEq, Prod.mk.injEq, exists_eq_left, exists_eq_left', if_true, if_false, decide_true, decide_false, Nat.reduceAdd, Nat.reduceLT, Nat.reduceLeDiff, Nat.reduceEqDiff, Nat.reduceMul, reduceCtorEq, beq_self_eq_true, d5]
      exact fin h5 _ t4 _ _ _ hR5 u15 hT5 hk
    rw [if_neg (by omega)] at hk
    have n0b : (sz h = sb) = False := eq_false (fun e => by omega)
    have n1b : (sz h + 1 = sb) = False := eq_false (fun e => by omega)
    have n2b : (sz h2 = sb) = False := eq_false (fun e => by omega)
    have nb0 : (sb = sz h2) = False := eq_false (fun e => by omega)
    have n02 : (sz h = sz h2) = False := eq_false (fun e => by omega)
    have n12 : (sz h + 1 = sz h2) = False := eq_false (fun e => by omega)
    have la5 := obj_lt a5
    have lb5 := obj_lt b5
    have lc5 := obj_lt c5
    simp (maxDischargeDepth := 60) only [evAll, listPuts, Addr.mk.injEq, Option.map_some, Option.getD_some, Option.getD_none, Option.isSome_some, Option.isSome_none, Option.isNone_some, Option.isNone_none, List.all_cons, List.all_nil, List.length_cons, List.length_nil, List.set_cons_zero, List.set_cons_succ, List.getElem?_cons_zero, List.getElem?_cons_succ, List.getElem?_nil, Option.some.injEq, Value.int.injEq, Value.bool.injEq, Value.string.injEq, Value.pointer.injEq, Value.map.injEq, Prod.mk.injEq, exists_eq_left, exists_eq_left', if_true, if_false, decide_true, decide_false, Nat.reduceAdd, Nat.reduceLT, Nat.reduceLeDiff, Nat.reduceEqDiff, Nat.reduceMul, reduceCtorEq, beq_self_eq_true, n0b, n1b, n2b, nb0, n02, n12, a4, a5, b5, c5, g5, lt_ne0 la5, lt_ne0 lb5, lt_ne0 lc5]
    have u6 : Upd (fun k => k = sz h2) h5 ((h5.put (sz h2) 4 (iv S.next)).put (sz h2) 3 (iv f4)) := (Upd.put _ _ _ _).trans (Upd.put _ _ _ _)
    have g6 : obj ((h5.put (sz h2) 4 (iv S.next)).put (sz h2) 3 (iv f4)) (sz h2) = some (.cells [iv 0, .int .u8 1, iv lft, iv f4, iv S.next].toArray 36 (0, 0)) := by
      simp (maxDischargeDepth := 60) only [evAll, listPuts, Addr.mk.injEq, Option.map_some, Option.getD_some, Option.getD_none, Option.isSome_some, Option.isSome_none, Option.isNone_some, Option.isNone_none, List.all_cons, List.all_nil, List.length_cons, List.length_nil, List.set_cons_zero, List.set_cons_succ, List.getElem?_cons_zero, List.getElem?_cons_succ, List.getElem?_nil, Option.some.injEq, Value.int.injEq, Value.bool.injEq, Value.string.injEq, Value.pointer.injEq, Value.map.injEq, Prod.mk.injEq, exists_eq_left, exists_eq_left', if_true, if_false, decide_true, decide_false, Nat.reduceAdd, Nat.reduceLT, Nat.reduceLeDiff, Nat.reduceEqDiff, Nat.reduceMul, reduceCtorEq, beq_self_eq_true, g5]
    have z6 : sz ((h5.put (sz h2) 4 (iv S.next)).put (sz h2) 3 (iv f4)) = sz h5 := by simp only [sz_put]
    generalize (h5.put (sz h2) 4 (iv S.next)).put (sz h2) 3 (iv f4) = h6 at u6 g6 z6 ⊢
    have hcap := ho4.cap
    have ho6 : Own h6 (sz h3) t4 4 ((aliveV at_ S.out).flatMap f4L) := ho4.congr fun b hb _ _ => by
      have := hn4 b hb
      rw [u6.old b (by show b < sz h5; omega) (by omega), u5.old b this.2.1 (by omega)]
    have e7 : Ext h6 (h6.push (.cells (f4L (S.next, f1, r4, IntKind.wrap .i64 (at_ + f4), ())).toArray 115 (0, 0))) := Ext.push _ _
    have hrow : Row (h6.push (.cells (f4L (S.next, f1, r4, IntKind.wrap .i64 (at_ + f4), ())).toArray 115 (0, 0))) ⟨some ⟨sz h5, 0, none⟩, 1, 1⟩ 4 (f4L (S.next, f1, r4, IntKind.wrap .i64 (at_ + f4), ())) := by
      have := (Own.newC (h := h6) (cells := f4L (S.next, f1, r4, IntKind.wrap .i64 (at_ + f4), ())) (t := 115) (size := 4) (n := 1) rfl (by decide)).row
      rw [size_def, z6] at this
      exact this
    have z7 : sz (h6.push (.cells (f4L (S.next, f1, r4, IntKind.wrap .i64 (at_ + f4), ())).toArray 115 (0, 0))) = sz h5 + 1 := by rw [sz_push, z6]
    refine hrow.rd ?_
    change app _ _ _ _ _ _ _ (h6.push (.cells (f4L (S.next, f1, r4, IntKind.wrap .i64 (at_ + f4), ())).toArray 115 (0, 0))) _
    generalize h6.push (.cells (f4L (S.next, f1, r4, IntKind.wrap .i64 (at_ + f4), ())).toArray 115 (0, 0)) = h7 at e7 hrow z7 ⊢
    have ho7 := ho6.congr (h' := h7) fun b hb _ _ => e7.old b (ho6.lt hb).2
    refine Own.app ho7 (by rfl) (by simp [f4L, one_int]) rfl (by omega) (by omega) (by show sz h3 ≤ sz h7; omega) fun t8 h8 ho8 hl8 u8 hb8 => ?_
    have nb8 : ∀ k, t4.blk = some k → sz h2 < k := fun k hk => by have := (hn4 k hk).1; omega
    have z8 : sz h7 ≤ sz h8 := u8.size
    have nx : ∀ k, k ≤ sz h2 → ¬ t4.blk = some k := fun k hk e => by have := nb8 k e; omega
    have a8 := keepU (keepX (keepU a5 u6 (by omega)) e7) u8 (nx _ (by omega))
    have b8 := keepU (keepX (keepU b5 u6 (by omega)) e7) u8 (nx _ (by omega))
    have d8 := keepU (keepX (keepU d5 u6 (by omega)) e7) u8 (nx _ (by omega))
    have c8 := keepU (keepX (keepU c5 u6 (by omega)) e7) u8 (nx _ (by omega))
    have g8 := keepU (keepX g6 e7) u8 (nx _ (by omega))
    have ndb : (sz h + 2 = sb) = False := eq_false (fun e => by omega)
    simp (maxDischargeDepth := 60) only [evAll, listPuts, Addr.mk.injEq, Option.map_some, Option.getD_some, Option.getD_none, Option.isSome_some, Option.isSome_none, Option.isNone_some, Option.isNone_none, List.all_cons, List.all_nil, List.length_cons, List.length_nil, List.set_cons_zero, List.set_cons_succ, List.getElem?_cons_zero, List.getElem?_cons_succ, List.getElem?_nil, Option.some.injEq, Value.int.injEq, Value.bool.injEq, Value.string.injEq, Value.pointer.injEq, Value.map.injEq, Prod.mk.injEq, exists_eq_left, exists_eq_left', if_true, if_false, decide_true, decide_false, Nat.reduceAdd, Nat.reduceLT, Nat.reduceLeDiff, Nat.reduceEqDiff, Nat.reduceMul, reduceCtorEq, beq_self_eq_true, a8, b8, c8, d8, g8, n0b, n1b, n2b, ndb, ndg]
    have u9 : Upd (· = sb) h8 ((h8.put sb 5 (slV t8)).put sb 6 (iv (IntKind.wrap .i64 (S.next + 1)))) := (Upd.put _ _ _ _).trans (Upd.put _ _ _ _)
    have c9 : obj ((h8.put sb 5 (slV t8)).put sb 6 (iv (IntKind.wrap .i64 (S.next + 1)))) sb = some (.cells [iv S.begun, iv S.last, slV sp, .map (some cb), .map (some nb), slV t8, iv (IntKind.wrap .i64 (S.next + 1))].toArray 60 (0, 0)) := by
      simp (maxDischargeDepth := 60) only [evAll, listPuts, Addr.mk.injEq, Option.map_some, Option.getD_some, Option.getD_none, Option.isSome_some, Option.isSome_none, Option.isNone_some, Option.isNone_none, List.all_cons, List.all_nil, List.length_cons, List.length_nil, List.set_cons_zero, List.set_cons_succ, List.getElem?_cons_zero, List.getElem?_cons_succ, List.getElem?_nil, Option.some.injEq, Value.int.injEq, Value.bool.injEq, Value.string.injEq, Value.pointer.injEq, Value.map.injEq, Prod.mk.injEq, exists_eq_left, exists_eq_left', if_true, if_false, decide_true, decide_false, Nat.reduceAdd, Nat.reduceLT, Nat.reduceLeDiff, Nat.reduceEqDiff, Nat.reduceMul, reduceCtorEq, beq_self_eq_true, c8]
    generalize (h8.put sb 5 (slV t8)).put sb 6 (iv (IntKind.wrap .i64 (S.next + 1))) = h9 at u9 c9 ⊢
    have h8n : ∀ k, t8.blk = some k → sz h3 ≤ k := fun k hk => by
      rcases hb8 with e | e
      · rw [e] at hk; exact (hn4 k hk).1
      · rw [e] at hk; cases hk; rw [size_def]; omega
    have ua : Upd (fun k => k = sb ∨ T k = some 4 ∨ T k = none) h h9 := by
      refine ⟨by have := u9.size; rw [size_def, size_def] at this; rw [size_def, size_def]; omega, fun k hk hn => ?_⟩
      have hk' : k < sz h := hk
      rw [u9.old k (by rw [size_def]; omega) (fun e => hn (.inl e)), u8.old k (by rw [size_def]; omega) (nx _ (by omega)), e7.old k (by rw [size_def]; omega), u6.old k (by rw [size_def]; omega) (by omega), u5.old k (by rw [size_def]; omega) (fun e => hn (.inl e)), e14.old k hk]
    have u19 : Upd (fun k => T k ≠ none) h h9 := by
      refine ⟨ua.size, fun k hk hn => ?_⟩
      have hk' : k < sz h := hk
      have hsbk : k ≠ sb := fun e => by subst e; exact hn (by rw [hR.tsb]; exact fun e => by cases e)
      rw [u9.old k (by rw [size_def]; omega) hsbk, u8.old k (by rw [size_def]; omega) (nx _ (by omega)), e7.old k (by rw [size_def]; omega), u6.old k (by rw [size_def]; omega) (by omega), u5.old k (by rw [size_def]; omega) hsbk, e14.old k hk]
    have ho9 := (ho8.congr (h' := h9) fun b hb _ _ => u9.old b (ho8.lt hb).2 fun e => by have := h8n b hb; omega).base (Nat.zero_le _)
    have e9 : (aliveV at_ S.out).flatMap f4L ++ f4L (S.next, f1, r4, IntKind.wrap .i64 (at_ + f4), ()) = (aliveV at_ S.out ++ [((S.next, f1, r4, IntKind.wrap .i64 (at_ + f4), ()) : F4)]).flatMap f4L := by simp
    rw [e9] at ho9
    have hR9 := hR.setO ua c9 ho9 fun k hk => .inr (hTn k (by have := h8n k hk; omega))
    refine fin h9 _ t8 _ _ _ hR9 u19 ⟨fun k hk => ?_, ?_⟩ hk
    · split at hk
      · right; have := h8n k (by assumption); omega
      · exact .inl hk
    · rw [if_neg (fun e => by have := h8n _ e; omega)]
      exact hTn _ (by omega)
end Go.Proofs.Ytledmkhbaacdnaa
