/- The windows of buckets: what their functions do, where only passes are counted. -/
import Derived.Test.YtckcdkhiehdkkaaTkA
import Derived.Test.YtckcdkhiehdkkaaEv
namespace Go.Proofs.Ytckcdkhiehdkkaa
open Go Go.Fw
set_option linter.unusedSimpArgs false
set_option linter.unusedVariables false

abbrev C6 := Int × Int × Int × Int × Int × Int × Unit
def plusV (a b : Int) : Int := IntKind.wrap .i64 (minV a (IntKind.wrap .i64 (4611686018427387904 - b)) + b)
theorem plus_spec {a b : Int} {K : Int → Heap → Prop} {h : Heap} : m_window_plus a b K h = K (plusV a b) h := propext ⟨fun h => h, fun h => h⟩
def twoV (a b : C6) : C6 := (plusV a.1 b.1, plusV a.2.1 b.2.1, plusV a.2.2.1 b.2.2.1, plusV a.2.2.2.1 b.2.2.2.1, plusV a.2.2.2.2.1 b.2.2.2.2.1,
  (if a.2.2.1 = 0 then b.2.2.2.2.2.1 else if b.2.2.1 = 0 then a.2.2.2.2.2.1 else minV a.2.2.2.2.2.1 b.2.2.2.2.2.1), ())
def c6L (c : C6) : List Value := [iv c.1, iv c.2.1, iv c.2.2.1, iv c.2.2.2.1, iv c.2.2.2.2.1, iv c.2.2.2.2.2.1]

theorem iteP_dec' {a b : Int} {A B : Prop} (h1 : a = b → A) (h2 : a ≠ b → B) : iteP (a == b) A B := ⟨fun h => h1 (by simpa using h), fun h => h2 (by simpa using h)⟩
theorem two_spec {a b : C6} {K : C6 → Heap → Prop} {h : Heap} (hk : ∀ h', Ext h h' → K (twoV a b) h') : m_window_two a b K h := by
  unfold m_window_two g_window_two
  refine cutP_intro (fun t h' => ∃ q, t = (some ⟨q, 0, none⟩, ()) ∧ Ext h h' ∧ sz h + 3 ≤ q ∧ q < sz h' ∧ obj h' (sz h) = some (.cells (c6L a).toArray 146 (0, 0)) ∧ obj h' (sz h + 1) = some (.cells (c6L b).toArray 146 (0, 0)) ∧ obj h' (sz h + 2) = some (.cells [iv 0, iv 0, iv 0, iv 0, iv 0, iv 0].toArray 146 (0, 0)) ∧
      obj h' q = some (.cells [iv (plusV a.1 b.1), iv (plusV a.2.1 b.2.1), iv (plusV a.2.2.1 b.2.2.1), iv (plusV a.2.2.2.1 b.2.2.2.1), iv (plusV a.2.2.2.2.1 b.2.2.2.2.1), iv 0].toArray 146 (0, 0))) ?_ ?_
  · rintro _ h' ⟨q, rfl, he, hq, hq2, h0, h1, h2, h3⟩
    dsimp only
    have n0 : (sz h = q) = False := eq_false (by omega)
    have n1 : (sz h + 1 = q) = False := eq_false (by omega)
    have n2 : (sz h + 2 = q) = False := eq_false (by omega)
    have n3 : (q = sz h + 2) = False := eq_false (by omega)
    have sh : sz h ≤ q := by omega
    have fin : ∀ (r : C6) (h9 : Heap), r = twoV a b → Ext h h9 → K r h9 := fun r h9 e1 e2 => by subst e1; exact hk h9 e2
    simp (maxDischargeDepth := 60) only [newC_ev, newMap_ev, bindI_ev, bindB_ev, need_ev, bothP_ev, deref_ev, iteT_ev, iteF_ev, ldI_ex, ldB_ex, ldS_ex, ldP_ex, ldM_ex, ldV_ex, ldL_ex, st_ev, sts_ev, sz_push, sz_put, sz_puts, obj_push, obj_put, obj_puts, objSet_cells, objPuts_cells, objCell_cells, objFree_cells, freeN_cells, listPuts, heldL_nil, heldL_cons, size_def, slV_eq, sl_eta, one_int, one_bool, one_str, one_ptr, one_sl, one_slV, one_map, one_iface, one_nilI, one_fn, Ext.refl, ext_push, ext_put, ext_puts, Addr.mk.injEq, and_self, Option.map_some, Option.getD_some, Option.getD_none, Option.isSome_some, Option.isSome_none, Option.isNone_some, Option.isNone_none, List.all_cons, List.all_nil, Bool.and_self, Bool.true_and, Bool.and_true, List.length_cons, List.length_nil, List.set_cons_zero, List.set_cons_succ, List.getElem?_cons_zero, List.getElem?_cons_succ, List.getElem?_nil, Option.some.injEq, Value.int.injEq, Value.bool.injEq, Value.string.injEq, Value.pointer.injEq, Value.map.injEq, Prod.mk.injEq, true_and, and_true, exists_eq_left, exists_eq_left', if_true, if_false, decide_true, decide_false, decide_eq_true_eq, Bool.not_true, Bool.not_false, Nat.zero_add, Nat.add_zero, Nat.reduceAdd, Nat.reduceLT, Nat.reduceLeDiff, Nat.reduceEqDiff, Nat.reduceMul, Nat.add_assoc, Nat.add_left_cancel_iff, Nat.add_eq_left, Nat.left_eq_add, Nat.add_le_add_iff_left, Nat.le_add_right, Nat.le_refl, Nat.one_ne_zero, Nat.add_lt_add_iff_left, Nat.lt_add_right_iff_pos, Nat.add_lt_add_iff_left,  reduceCtorEq, beq_self_eq_true, h0, h1, h2, h3, c6L, n0, n1, n2, n3, sh, he, if_false]
    refine iteP_dec' (fun q1 => ?_) fun q1 => iteP_dec' (fun q2 => ?_) fun q2 => ?_
    all_goals
      refine fin _ _ ?_ ?_
      · simp [twoV, q1]; try simp [q2]
      · simp +arith (maxDischargeDepth := 60) only [ext_puts, ext_put, he, sh]
  · simp (maxDischargeDepth := 60) only [newC_ev, newMap_ev, bindI_ev, bindB_ev, need_ev, bothP_ev, deref_ev, iteT_ev, iteF_ev, ldI_ex, ldB_ex, ldS_ex, ldP_ex, ldM_ex, ldV_ex, ldL_ex, st_ev, sts_ev, sz_push, sz_put, sz_puts, obj_push, obj_put, obj_puts, objSet_cells, objPuts_cells, objCell_cells, objFree_cells, freeN_cells, listPuts, heldL_nil, heldL_cons, size_def, slV_eq, sl_eta, one_int, one_bool, one_str, one_ptr, one_sl, one_slV, one_map, one_iface, one_nilI, one_fn, Ext.refl, ext_push, ext_put, ext_puts, Addr.mk.injEq, and_self, Option.map_some, Option.getD_some, Option.getD_none, Option.isSome_some, Option.isSome_none, Option.isNone_some, Option.isNone_none, List.all_cons, List.all_nil, Bool.and_self, Bool.true_and, Bool.and_true, List.length_cons, List.length_nil, List.set_cons_zero, List.set_cons_succ, List.getElem?_cons_zero, List.getElem?_cons_succ, List.getElem?_nil, Option.some.injEq, Value.int.injEq, Value.bool.injEq, Value.string.injEq, Value.pointer.injEq, Value.map.injEq, Prod.mk.injEq, true_and, and_true, exists_eq_left, exists_eq_left', if_true, if_false, decide_true, decide_false, decide_eq_true_eq, Bool.not_true, Bool.not_false, Nat.zero_add, Nat.add_zero, Nat.reduceAdd, Nat.reduceLT, Nat.reduceLeDiff, Nat.reduceEqDiff, Nat.reduceMul, Nat.add_assoc, Nat.add_left_cancel_iff, Nat.add_eq_left, Nat.left_eq_add, Nat.add_le_add_iff_left, Nat.le_add_right, Nat.le_refl, Nat.one_ne_zero, Nat.add_lt_add_iff_left, Nat.lt_add_right_iff_pos, Nat.add_lt_add_iff_left,  reduceCtorEq, beq_self_eq_true, plus_spec, c6L]

/-! ### numbers -/
abbrev MOST : Int := 4611686018427387904
theorem minV_eq (a b : Int) : minV a b = min a b := by unfold minV; split <;> omega
theorem maxV_eq (a b : Int) : maxV a b = max a b := by unfold maxV; split <;> omega
theorem plusV_eq {a b : Int} (ha : 0 ≤ a ∧ a ≤ 4611686018427387904) (hb : 0 ≤ b ∧ b ≤ 4611686018427387904) : plusV a b = min a (4611686018427387904 - b) + b := by
  unfold plusV
  rw [wrap64 (n := 4611686018427387904 - b) (by omega) (by omega), minV_eq, wrap64 (by omega) (by omega)]
theorem plusV_rng {a b : Int} (ha : 0 ≤ a ∧ a ≤ 4611686018427387904) (hb : 0 ≤ b ∧ b ≤ 4611686018427387904) : 0 ≤ plusV a b ∧ plusV a b ≤ 4611686018427387904 := by
  rw [plusV_eq ha hb]; omega
theorem plusV_zero {a : Int} (ha : 0 ≤ a ∧ a ≤ 4611686018427387904) : plusV a 0 = a := by
  rw [plusV_eq ha (by omega)]; omega
def c6 (x : Int) : C6 := (x, 0, 0, 0, 0, 0, ())
def c6V (x : Int) : Value := .agg (c6L (c6 x)).toArray
theorem two_c6 (a b : Int) : twoV (c6 a) (c6 b) = c6 (plusV a b) := by
  have : plusV 0 0 = 0 := by decide
  simp [twoV, c6, this]
def bkt (t : Int) : Int := t / 100000
theorem tdiv_bkt {t : Int} (h0 : 0 ≤ t) (h1 : t ≤ 1152921504606846976) : IntKind.wrap .i64 (Int.tdiv t 100000) = bkt t := by
  unfold bkt
  rw [Int.tdiv_eq_ediv_of_nonneg h0, wrap64 (by omega) (by omega)]
theorem bkt_rng {t : Int} (h0 : 0 ≤ t) (h1 : t ≤ 1152921504606846976) : 0 ≤ bkt t ∧ bkt t ≤ 11529215046069 := by unfold bkt; omega
theorem bkt_mono {s t : Int} (h : s ≤ t) : bkt s ≤ bkt t := by unfold bkt; omega

/-! ### a window in memory -/
structure Win where
  last : Int
  p : Int → Int
structure Win.OK (w : Win) : Prop where
  lo : 0 ≤ w.last
  hi : w.last ≤ 1152921504606846976
  p : ∀ i, 0 ≤ w.p i ∧ w.p i ≤ 4611686018427387904
structure WinR (h : Heap) (wb mb : Nat) (w : Win) : Prop where
  ok : w.OK
  cells : obj h wb = some (.cells [iv 1000000, iv 10, iv w.last, .map (some mb)].toArray 115 (0, 0))
  map : ∃ f n, MapV h mb f n ∧ (∀ i v, f i = some v → ∃ x, v = c6V x ∧ 0 ≤ x ∧ x ≤ 4611686018427387904) ∧ ∀ i, bkt w.last - 10 < i → f i = some (c6V (w.p i)) ∨ (f i = none ∧ w.p i = 0)
theorem WinR.mlt {h : Heap} {wb mb : Nat} {w : Win} (hw : WinR h wb mb w) : mb < sz h := by
  obtain ⟨f, n, hm, _⟩ := hw.map
  exact hm.lt
theorem WinR.congr {h h' : Heap} {wb mb : Nat} {w : Win} (hw : WinR h wb mb w) (h1 : obj h' wb = obj h wb) (h2 : obj h' mb = obj h mb) : WinR h' wb mb w := by
  obtain ⟨f, n, hm, r⟩ := hw.map
  exact ⟨hw.ok, h1.trans hw.cells, f, n, hm.congr h2, r⟩

def wrongE (last at_ : Int) : Int := if at_ < 0 then 2 else if at_ > 1152921504606846976 then 2 else if at_ < last then 7 else 0
theorem wrongE_ok {last at_ : Int} (h : wrongE last at_ = 0) : 0 ≤ at_ ∧ at_ ≤ 1152921504606846976 ∧ last ≤ at_ := by
  unfold wrongE at h
  split at h
  · cases h
  · split at h
    · cases h
    · split at h
      · cases h
      · omega
theorem wrong_spec {h : Heap} {wb mb : Nat} {w : Win} (hw : WinR h wb mb w) {at_ : Int} {K : Int → Heap → Prop} (hk : K (wrongE w.last at_) h) : m_window_Window_wrong (some ⟨wb, 0, none⟩) at_ K h := by
  unfold m_window_Window_wrong g_window_Window_wrong
  unfold wrongE at hk
  simp (maxDischargeDepth := 60) only [newC_ev, newMap_ev, bindI_ev, bindB_ev, need_ev, bothP_ev, deref_ev, iteT_ev, iteF_ev, ldI_ex, ldB_ex, ldS_ex, ldP_ex, ldM_ex, ldV_ex, ldL_ex, st_ev, sts_ev, sz_push, sz_put, sz_puts, obj_push, obj_put, obj_puts, objSet_cells, objPuts_cells, objCell_cells, objFree_cells, freeN_cells, listPuts, heldL_nil, heldL_cons, size_def, slV_eq, sl_eta, one_int, one_bool, one_str, one_ptr, one_sl, one_slV, one_map, one_iface, one_nilI, one_fn, Ext.refl, ext_push, ext_put, ext_puts, Addr.mk.injEq, and_self, Option.map_some, Option.getD_some, Option.getD_none, Option.isSome_some, Option.isSome_none, Option.isNone_some, Option.isNone_none, List.all_cons, List.all_nil, Bool.and_self, Bool.true_and, Bool.and_true, List.length_cons, List.length_nil, List.set_cons_zero, List.set_cons_succ, List.getElem?_cons_zero, List.getElem?_cons_succ, List.getElem?_nil, Option.some.injEq, Value.int.injEq, Value.bool.injEq, Value.string.injEq, Value.pointer.injEq, Value.map.injEq, Prod.mk.injEq, true_and, and_true, exists_eq_left, exists_eq_left', if_true, if_false, decide_true, decide_false, decide_eq_true_eq, Bool.not_true, Bool.not_false, Nat.zero_add, Nat.add_zero, Nat.reduceAdd, Nat.reduceLT, Nat.reduceLeDiff, Nat.reduceEqDiff, Nat.reduceMul, Nat.add_assoc, Nat.add_left_cancel_iff, Nat.add_eq_left, Nat.left_eq_add, Nat.add_le_add_iff_left, Nat.le_add_right, Nat.le_refl, Nat.one_ne_zero, Nat.add_lt_add_iff_left, Nat.lt_add_right_iff_pos, Nat.add_lt_add_iff_left,  reduceCtorEq, beq_self_eq_true, hw.cells]
  refine iteP_dec (fun q => ?_) fun q => iteP_dec (fun q2 => ?_) fun q2 => iteP_dec (fun q3 => ?_) fun q3 => ?_
  · rw [if_pos q] at hk; exact hk
  · rw [if_neg q, if_pos q2] at hk; exact hk
  · rw [if_neg q, if_neg q2, if_pos q3] at hk; exact hk
  · rw [if_neg q, if_neg q2, if_neg q3] at hk; exact hk
theorem bucket_ev {h : Heap} {wb : Nat} {r : List Value} (hc : obj h wb = some (.cells (iv 1000000 :: iv 10 :: r).toArray 115 (0, 0))) {at_ : Int} (h0 : 0 ≤ at_) (h1 : at_ ≤ 1152921504606846976) {K : Int → Heap → Prop} :
    m_window_Window_bucket (some ⟨wb, 0, none⟩) at_ K h = K (bkt at_) h := by
  unfold m_window_Window_bucket g_window_Window_bucket
  have e1 : (IntKind.wrap .i64 (Int.tdiv 1000000 10)) = 100000 := by decide
  simp (maxDischargeDepth := 60) only [newC_ev, newMap_ev, bindI_ev, bindB_ev, need_ev, bothP_ev, deref_ev, iteT_ev, iteF_ev, ldI_ex, ldB_ex, ldS_ex, ldP_ex, ldM_ex, ldV_ex, ldL_ex, st_ev, sts_ev, sz_push, sz_put, sz_puts, obj_push, obj_put, obj_puts, objSet_cells, objPuts_cells, objCell_cells, objFree_cells, freeN_cells, listPuts, heldL_nil, heldL_cons, size_def, slV_eq, sl_eta, one_int, one_bool, one_str, one_ptr, one_sl, one_slV, one_map, one_iface, one_nilI, one_fn, Ext.refl, ext_push, ext_put, ext_puts, Addr.mk.injEq, and_self, Option.map_some, Option.getD_some, Option.getD_none, Option.isSome_some, Option.isSome_none, Option.isNone_some, Option.isNone_none, List.all_cons, List.all_nil, Bool.and_self, Bool.true_and, Bool.and_true, List.length_cons, List.length_nil, List.set_cons_zero, List.set_cons_succ, List.getElem?_cons_zero, List.getElem?_cons_succ, List.getElem?_nil, Option.some.injEq, Value.int.injEq, Value.bool.injEq, Value.string.injEq, Value.pointer.injEq, Value.map.injEq, Prod.mk.injEq, true_and, and_true, exists_eq_left, exists_eq_left', if_true, if_false, decide_true, decide_false, decide_eq_true_eq, Bool.not_true, Bool.not_false, Nat.zero_add, Nat.add_zero, Nat.reduceAdd, Nat.reduceLT, Nat.reduceLeDiff, Nat.reduceEqDiff, Nat.reduceMul, Nat.add_assoc, Nat.add_left_cancel_iff, Nat.add_eq_left, Nat.left_eq_add, Nat.add_le_add_iff_left, Nat.le_add_right, Nat.le_refl, Nat.one_ne_zero, Nat.add_lt_add_iff_left, Nat.lt_add_right_iff_pos, Nat.add_lt_add_iff_left,  reduceCtorEq, beq_self_eq_true, hc, e1, tdiv_bkt h0 h1]
  simp
def loW (at_ : Int) : Int := max 0 (bkt at_ - 9)

end Go.Proofs.Ytckcdkhiehdkkaa
