/- A window's Add, and New. -/
import Derived.Test.YtckcdkhiehdkkaaTkD
namespace Go.Proofs.Ytckcdkhiehdkkaa
open Go Go.Fw
set_option linter.unusedSimpArgs false
set_option linter.unusedVariables false

/-- how many entries of a range are left -/
def leftH (h : Heap) (mb it : Nat) : Nat := match h[it]?, h[mb]? with
  | some (.mapIter _ _ seen _), some (.map es _) => (leftOf es seen).size
  | _, _ => 0
theorem leftH_eq {h : Heap} {mb it : Nat} {f : Int → Option Value} {n : Nat} {rem : Int → Prop} {L : Nat} (hr : RangeV h mb it f n rem L) : leftH h mb it = L := by
  obtain ⟨es, c, since, seen, c0, hb, hs, hn, he, hi, hold, hsc, hL, hrem⟩ := hr
  unfold leftH
  rw [hi, hb]
  exact hL

def Win.add (w : Win) (at_ x : Int) : Win := ⟨at_, fun i => if i = bkt at_ then plusV (w.p i) x else w.p i⟩

theorem newWin_spec {h : Heap} {K : Option Addr → Int → Heap → Prop} (hk : ∀ h', WinR h' (sz h + 1) (sz h) ⟨0, fun _ => 0⟩ → Ext h h' → sz h' = sz h + 2 → K (some ⟨sz h + 1, 0, none⟩) 0 h') : m_window_New 1000000 10 K h := by
  unfold m_window_New g_window_New
  have e1 : ((Int.tmod 1000000 10) != 0) = false := by decide
  simp (maxDischargeDepth := 60) only [bindI_ev, bindB_ev, need_ev, e1]
  refine iteP_false (iteP_false (iteP_false (iteP_false ⟨by decide, iteP_false ?_⟩)))
  refine MapV.new fun h1 hm e1 z1 => ?_
  simp (maxDischargeDepth := 60) only [newC_ev, newMap_ev, bindI_ev, bindB_ev, need_ev, bothP_ev, deref_ev, iteT_ev, iteF_ev, ldI_ex, ldB_ex, ldS_ex, ldP_ex, ldM_ex, ldV_ex, ldL_ex, st_ev, sts_ev, sz_push, sz_put, sz_puts, obj_push, obj_put, obj_puts, objSet_cells, objPuts_cells, objCell_cells, objFree_cells, freeN_cells, listPuts, heldL_nil, heldL_cons, size_def, slV_eq, sl_eta, one_int, one_bool, one_str, one_ptr, one_sl, one_slV, one_map, one_iface, one_nilI, one_fn, Ext.refl, ext_push, ext_put, ext_puts, Addr.mk.injEq, and_self, Option.map_some, Option.getD_some, Option.getD_none, Option.isSome_some, Option.isSome_none, Option.isNone_some, Option.isNone_none, List.all_cons, List.all_nil, Bool.and_self, Bool.true_and, Bool.and_true, List.length_cons, List.length_nil, List.set_cons_zero, List.set_cons_succ, List.getElem?_cons_zero, List.getElem?_cons_succ, List.getElem?_nil, Option.some.injEq, Value.int.injEq, Value.bool.injEq, Value.string.injEq, Value.pointer.injEq, Value.map.injEq, Prod.mk.injEq, true_and, and_true, exists_eq_left, exists_eq_left', if_true, if_false, decide_true, decide_false, decide_eq_true_eq, Bool.not_true, Bool.not_false, Nat.zero_add, Nat.add_zero, Nat.reduceAdd, Nat.reduceLT, Nat.reduceLeDiff, Nat.reduceEqDiff, Nat.reduceMul, Nat.add_assoc, Nat.add_left_cancel_iff, Nat.add_eq_left, Nat.left_eq_add, Nat.add_le_add_iff_left, Nat.le_add_right, Nat.le_refl, Nat.one_ne_zero, Nat.add_lt_add_iff_left, Nat.lt_add_right_iff_pos, Nat.add_lt_add_iff_left,  reduceCtorEq, beq_self_eq_true]
  simp only [size_def] at hm z1
  rw [z1]
  refine hk _ ⟨⟨by decide, by decide, fun i => ⟨by simp, by simp⟩⟩, ?_, ?_⟩ (ext_push e1) ?_
  · simp (maxDischargeDepth := 60) only [newC_ev, newMap_ev, bindI_ev, bindB_ev, need_ev, bothP_ev, deref_ev, iteT_ev, iteF_ev, ldI_ex, ldB_ex, ldS_ex, ldP_ex, ldM_ex, ldV_ex, ldL_ex, st_ev, sts_ev, sz_push, sz_put, sz_puts, obj_push, obj_put, obj_puts, objSet_cells, objPuts_cells, objCell_cells, objFree_cells, freeN_cells, listPuts, heldL_nil, heldL_cons, size_def, slV_eq, sl_eta, one_int, one_bool, one_str, one_ptr, one_sl, one_slV, one_map, one_iface, one_nilI, one_fn, Ext.refl, ext_push, ext_put, ext_puts, Addr.mk.injEq, and_self, Option.map_some, Option.getD_some, Option.getD_none, Option.isSome_some, Option.isSome_none, Option.isNone_some, Option.isNone_none, List.all_cons, List.all_nil, Bool.and_self, Bool.true_and, Bool.and_true, List.length_cons, List.length_nil, List.set_cons_zero, List.set_cons_succ, List.getElem?_cons_zero, List.getElem?_cons_succ, List.getElem?_nil, Option.some.injEq, Value.int.injEq, Value.bool.injEq, Value.string.injEq, Value.pointer.injEq, Value.map.injEq, Prod.mk.injEq, true_and, and_true, exists_eq_left, exists_eq_left', if_true, if_false, decide_true, decide_false, decide_eq_true_eq, Bool.not_true, Bool.not_false, Nat.zero_add, Nat.add_zero, Nat.reduceAdd, Nat.reduceLT, Nat.reduceLeDiff, Nat.reduceEqDiff, Nat.reduceMul, Nat.add_assoc, Nat.add_left_cancel_iff, Nat.add_eq_left, Nat.left_eq_add, Nat.add_le_add_iff_left, Nat.le_add_right, Nat.le_refl, Nat.one_ne_zero, Nat.add_lt_add_iff_left, Nat.lt_add_right_iff_pos, Nat.add_lt_add_iff_left,  reduceCtorEq, beq_self_eq_true, z1]
  · exact ⟨_, _, hm.congr (push_old hm.lt), (fun i v hv => by cases hv), fun i _ => .inr ⟨rfl, rfl⟩⟩
  · simp (maxDischargeDepth := 60) only [newC_ev, newMap_ev, bindI_ev, bindB_ev, need_ev, bothP_ev, deref_ev, iteT_ev, iteF_ev, ldI_ex, ldB_ex, ldS_ex, ldP_ex, ldM_ex, ldV_ex, ldL_ex, st_ev, sts_ev, sz_push, sz_put, sz_puts, obj_push, obj_put, obj_puts, objSet_cells, objPuts_cells, objCell_cells, objFree_cells, freeN_cells, listPuts, heldL_nil, heldL_cons, size_def, slV_eq, sl_eta, one_int, one_bool, one_str, one_ptr, one_sl, one_slV, one_map, one_iface, one_nilI, one_fn, Ext.refl, ext_push, ext_put, ext_puts, Addr.mk.injEq, and_self, Option.map_some, Option.getD_some, Option.getD_none, Option.isSome_some, Option.isSome_none, Option.isNone_some, Option.isNone_none, List.all_cons, List.all_nil, Bool.and_self, Bool.true_and, Bool.and_true, List.length_cons, List.length_nil, List.set_cons_zero, List.set_cons_succ, List.getElem?_cons_zero, List.getElem?_cons_succ, List.getElem?_nil, Option.some.injEq, Value.int.injEq, Value.bool.injEq, Value.string.injEq, Value.pointer.injEq, Value.map.injEq, Prod.mk.injEq, true_and, and_true, exists_eq_left, exists_eq_left', if_true, if_false, decide_true, decide_false, decide_eq_true_eq, Bool.not_true, Bool.not_false, Nat.zero_add, Nat.add_zero, Nat.reduceAdd, Nat.reduceLT, Nat.reduceLeDiff, Nat.reduceEqDiff, Nat.reduceMul, Nat.add_assoc, Nat.add_left_cancel_iff, Nat.add_eq_left, Nat.left_eq_add, Nat.add_le_add_iff_left, Nat.le_add_right, Nat.le_refl, Nat.one_ne_zero, Nat.add_lt_add_iff_left, Nat.lt_add_right_iff_pos, Nat.add_lt_add_iff_left,  reduceCtorEq, beq_self_eq_true, z1]

theorem Add_spec {h : Heap} {wb mb : Nat} {w : Win} (hw : WinR h wb mb w) {at_ x : Int} (hx : 0 ≤ x ∧ x ≤ 4611686018427387904) {s : Sl} (hs : Row h s 6 (c6L (c6 x))) (hsb : ∀ b, s.blk = some b → b ≠ wb ∧ b ≠ mb) {K : Int → Heap → Prop}
    (hk : ∀ h', WinR h' wb mb (if wrongE w.last at_ = 0 then w.add at_ x else w) → Upd (fun k => k = wb ∨ k = mb) h h' → K (wrongE w.last at_) h') : m_window_Window_Add (some ⟨wb, 0, none⟩) at_ s K h := by
  have hl : s.len = 1 := by have := hs.len; simp [c6L] at this; omega
  have l3 := obj_lt hw.cells
  have l4 := hw.mlt
  have hne : wb ≠ mb := fun e => by
    obtain ⟨f, n, ⟨es, c, hb, _⟩, _⟩ := hw.map
    have := hw.cells
    rw [e] at this
    rw [show obj h mb = h[mb]? from rfl, hb] at this
    cases this
  unfold m_window_Window_Add g_window_Window_Add
  simp (maxDischargeDepth := 60) only [newC_ev, newMap_ev, bindI_ev, bindB_ev, need_ev, bothP_ev, deref_ev, iteT_ev, iteF_ev, ldI_ex, ldB_ex, ldS_ex, ldP_ex, ldM_ex, ldV_ex, ldL_ex, st_ev, sts_ev, sz_push, sz_put, sz_puts, obj_push, obj_put, obj_puts, objSet_cells, objPuts_cells, objCell_cells, objFree_cells, freeN_cells, listPuts, heldL_nil, heldL_cons, size_def, slV_eq, sl_eta, one_int, one_bool, one_str, one_ptr, one_sl, one_slV, one_map, one_iface, one_nilI, one_fn, Ext.refl, ext_push, ext_put, ext_puts, Addr.mk.injEq, and_self, Option.map_some, Option.getD_some, Option.getD_none, Option.isSome_some, Option.isSome_none, Option.isNone_some, Option.isNone_none, List.all_cons, List.all_nil, Bool.and_self, Bool.true_and, Bool.and_true, List.length_cons, List.length_nil, List.set_cons_zero, List.set_cons_succ, List.getElem?_cons_zero, List.getElem?_cons_succ, List.getElem?_nil, Option.some.injEq, Value.int.injEq, Value.bool.injEq, Value.string.injEq, Value.pointer.injEq, Value.map.injEq, Prod.mk.injEq, true_and, and_true, exists_eq_left, exists_eq_left', if_true, if_false, decide_true, decide_false, decide_eq_true_eq, Bool.not_true, Bool.not_false, Nat.zero_add, Nat.add_zero, Nat.reduceAdd, Nat.reduceLT, Nat.reduceLeDiff, Nat.reduceEqDiff, Nat.reduceMul, Nat.add_assoc, Nat.add_left_cancel_iff, Nat.add_eq_left, Nat.left_eq_add, Nat.add_le_add_iff_left, Nat.le_add_right, Nat.le_refl, Nat.one_ne_zero, Nat.add_lt_add_iff_left, Nat.lt_add_right_iff_pos, Nat.add_lt_add_iff_left,  reduceCtorEq, beq_self_eq_true]
  refine wrong_spec hw ?_
  rcases Decidable.em (wrongE w.last at_ = 0) with he | he
  case inr =>
    have : (wrongE w.last at_ != 0) = true := by simpa using he
    rw [this]
    rw [if_neg he] at hk
    exact iteP_true (hk _ hw (Upd.refl _ _))
  rw [if_pos he] at hk
  rw [he] at hk ⊢
  obtain ⟨a0, a1, a2⟩ := wrongE_ok he
  have hbk := bkt_rng a0 a1
  have hbm := bkt_mono a2
  refine iteP_false ?_
  -- the counts are right
  refine loopM_intro (fun st hh => ∃ i : Nat, st = ((i : Int), ()) ∧ i ≤ 1 ∧ Ext h hh) (fun s _ => (1 - s.1).toNat) ⟨0, rfl, by omega, Ext.refl _⟩ ?_
  rintro _ hh ⟨i, rfl, hi, hee⟩
  dsimp only
  have zz := ext_sz hee
  refine iteP_dec (fun q => ?_) fun q => ?_
  · have hi0 : i = 0 := by omega
    subst hi0
    obtain ⟨bb, o, hidx, hcell⟩ := row_elem (i := 0) (hs.ext hee) (by omega)
    refine hidx rfl ?_
    have v0 := hcell 0 _ (by omega) (show (c6L (c6 x))[0]? = some (iv x) from rfl)
    have v1 := hcell 1 _ (by omega) (show (c6L (c6 x))[1]? = some (iv 0) from rfl)
    have v2 := hcell 2 _ (by omega) (show (c6L (c6 x))[2]? = some (iv 0) from rfl)
    have v3 := hcell 3 _ (by omega) (show (c6L (c6 x))[3]? = some (iv 0) from rfl)
    have v4 := hcell 4 _ (by omega) (show (c6L (c6 x))[4]? = some (iv 0) from rfl)
    have v5 := hcell 5 _ (by omega) (show (c6L (c6 x))[5]? = some (iv 0) from rfl)
    simp only [Nat.add_zero] at v0
    simp (maxDischargeDepth := 60) only [newC_ev, newMap_ev, bindI_ev, bindB_ev, need_ev, bothP_ev, deref_ev, iteT_ev, iteF_ev, ldI_ex, ldB_ex, ldS_ex, ldP_ex, ldM_ex, ldV_ex, ldL_ex, st_ev, sts_ev, sz_push, sz_put, sz_puts, obj_push, obj_put, obj_puts, objSet_cells, objPuts_cells, objCell_cells, objFree_cells, freeN_cells, listPuts, heldL_nil, heldL_cons, size_def, slV_eq, sl_eta, one_int, one_bool, one_str, one_ptr, one_sl, one_slV, one_map, one_iface, one_nilI, one_fn, Ext.refl, ext_push, ext_put, ext_puts, Addr.mk.injEq, and_self, Option.map_some, Option.getD_some, Option.getD_none, Option.isSome_some, Option.isSome_none, Option.isNone_some, Option.isNone_none, List.all_cons, List.all_nil, Bool.and_self, Bool.true_and, Bool.and_true, List.length_cons, List.length_nil, List.set_cons_zero, List.set_cons_succ, List.getElem?_cons_zero, List.getElem?_cons_succ, List.getElem?_nil, Option.some.injEq, Value.int.injEq, Value.bool.injEq, Value.string.injEq, Value.pointer.injEq, Value.map.injEq, Prod.mk.injEq, true_and, and_true, exists_eq_left, exists_eq_left', if_true, if_false, decide_true, decide_false, decide_eq_true_eq, Bool.not_true, Bool.not_false, Nat.zero_add, Nat.add_zero, Nat.reduceAdd, Nat.reduceLT, Nat.reduceLeDiff, Nat.reduceEqDiff, Nat.reduceMul, Nat.add_assoc, Nat.add_left_cancel_iff, Nat.add_eq_left, Nat.left_eq_add, Nat.add_le_add_iff_left, Nat.le_add_right, Nat.le_refl, Nat.one_ne_zero, Nat.add_lt_add_iff_left, Nat.lt_add_right_iff_pos, Nat.add_lt_add_iff_left,  reduceCtorEq, beq_self_eq_true, v0, v1, v2, v3, v4, v5]
    refine right_spec hx fun h1 e1 => ?_
    have hwr : IntKind.wrap .i64 (((0 : Nat) : Int) + 1) = ((1 : Nat) : Int) := by decide
    simp (maxDischargeDepth := 60) only [newC_ev, newMap_ev, bindI_ev, bindB_ev, need_ev, bothP_ev, deref_ev, iteT_ev, iteF_ev, ldI_ex, ldB_ex, ldS_ex, ldP_ex, ldM_ex, ldV_ex, ldL_ex, st_ev, sts_ev, sz_push, sz_put, sz_puts, obj_push, obj_put, obj_puts, objSet_cells, objPuts_cells, objCell_cells, objFree_cells, freeN_cells, listPuts, heldL_nil, heldL_cons, size_def, slV_eq, sl_eta, one_int, one_bool, one_str, one_ptr, one_sl, one_slV, one_map, one_iface, one_nilI, one_fn, Ext.refl, ext_push, ext_put, ext_puts, Addr.mk.injEq, and_self, Option.map_some, Option.getD_some, Option.getD_none, Option.isSome_some, Option.isSome_none, Option.isNone_some, Option.isNone_none, List.all_cons, List.all_nil, Bool.and_self, Bool.true_and, Bool.and_true, List.length_cons, List.length_nil, List.set_cons_zero, List.set_cons_succ, List.getElem?_cons_zero, List.getElem?_cons_succ, List.getElem?_nil, Option.some.injEq, Value.int.injEq, Value.bool.injEq, Value.string.injEq, Value.pointer.injEq, Value.map.injEq, Prod.mk.injEq, true_and, and_true, exists_eq_left, exists_eq_left', if_true, if_false, decide_true, decide_false, decide_eq_true_eq, Bool.not_true, Bool.not_false, Nat.zero_add, Nat.add_zero, Nat.reduceAdd, Nat.reduceLT, Nat.reduceLeDiff, Nat.reduceEqDiff, Nat.reduceMul, Nat.add_assoc, Nat.add_left_cancel_iff, Nat.add_eq_left, Nat.left_eq_add, Nat.add_le_add_iff_left, Nat.le_add_right, Nat.le_refl, Nat.one_ne_zero, Nat.add_lt_add_iff_left, Nat.lt_add_right_iff_pos, Nat.add_lt_add_iff_left,  reduceCtorEq, beq_self_eq_true, hwr]
    exact ⟨⟨1, rfl, by omega, (ext_puts (ext_push hee) (by omega)).trans e1⟩, by decide⟩
  · clear q
    have c3 := keepX hw.cells hee
    have n3 : wb < sz hh := by omega
    have n4 : mb < sz hh := by omega
    have hne' : mb ≠ wb := fun e => hne e.symm
    have c3' : obj (Heap.put hh wb 2 (iv at_)) wb = some (.cells [iv 1000000, iv 10, iv at_, .map (some mb)].toArray 115 (0, 0)) := by
      simp (maxDischargeDepth := 60) only [newC_ev, newMap_ev, bindI_ev, bindB_ev, need_ev, bothP_ev, deref_ev, iteT_ev, iteF_ev, ldI_ex, ldB_ex, ldS_ex, ldP_ex, ldM_ex, ldV_ex, ldL_ex, st_ev, sts_ev, sz_push, sz_put, sz_puts, obj_push, obj_put, obj_puts, objSet_cells, objPuts_cells, objCell_cells, objFree_cells, freeN_cells, listPuts, heldL_nil, heldL_cons, size_def, slV_eq, sl_eta, one_int, one_bool, one_str, one_ptr, one_sl, one_slV, one_map, one_iface, one_nilI, one_fn, Ext.refl, ext_push, ext_put, ext_puts, Addr.mk.injEq, and_self, Option.map_some, Option.getD_some, Option.getD_none, Option.isSome_some, Option.isSome_none, Option.isNone_some, Option.isNone_none, List.all_cons, List.all_nil, Bool.and_self, Bool.true_and, Bool.and_true, List.length_cons, List.length_nil, List.set_cons_zero, List.set_cons_succ, List.getElem?_cons_zero, List.getElem?_cons_succ, List.getElem?_nil, Option.some.injEq, Value.int.injEq, Value.bool.injEq, Value.string.injEq, Value.pointer.injEq, Value.map.injEq, Prod.mk.injEq, true_and, and_true, exists_eq_left, exists_eq_left', if_true, if_false, decide_true, decide_false, decide_eq_true_eq, Bool.not_true, Bool.not_false, Nat.zero_add, Nat.add_zero, Nat.reduceAdd, Nat.reduceLT, Nat.reduceLeDiff, Nat.reduceEqDiff, Nat.reduceMul, Nat.add_assoc, Nat.add_left_cancel_iff, Nat.add_eq_left, Nat.left_eq_add, Nat.add_le_add_iff_left, Nat.le_add_right, Nat.le_refl, Nat.one_ne_zero, Nat.add_lt_add_iff_left, Nat.lt_add_right_iff_pos, Nat.add_lt_add_iff_left,  reduceCtorEq, beq_self_eq_true, c3]
    have u1 : Upd (fun k => k = wb ∨ k = mb) h (Heap.put hh wb 2 (iv at_)) := upd_put (hee.upd _) (.inr (.inl rfl))
    have hm1 := (hw.congr (h' := hh) (ext_obj hee l3) (ext_obj hee l4)).map
    simp (maxDischargeDepth := 60) only [newC_ev, newMap_ev, bindI_ev, bindB_ev, need_ev, bothP_ev, deref_ev, iteT_ev, iteF_ev, ldI_ex, ldB_ex, ldS_ex, ldP_ex, ldM_ex, ldV_ex, ldL_ex, st_ev, sts_ev, sz_push, sz_put, sz_puts, obj_push, obj_put, obj_puts, objSet_cells, objPuts_cells, objCell_cells, objFree_cells, freeN_cells, listPuts, heldL_nil, heldL_cons, size_def, slV_eq, sl_eta, one_int, one_bool, one_str, one_ptr, one_sl, one_slV, one_map, one_iface, one_nilI, one_fn, Ext.refl, ext_push, ext_put, ext_puts, Addr.mk.injEq, and_self, Option.map_some, Option.getD_some, Option.getD_none, Option.isSome_some, Option.isSome_none, Option.isNone_some, Option.isNone_none, List.all_cons, List.all_nil, Bool.and_self, Bool.true_and, Bool.and_true, List.length_cons, List.length_nil, List.set_cons_zero, List.set_cons_succ, List.getElem?_cons_zero, List.getElem?_cons_succ, List.getElem?_nil, Option.some.injEq, Value.int.injEq, Value.bool.injEq, Value.string.injEq, Value.pointer.injEq, Value.map.injEq, Prod.mk.injEq, true_and, and_true, exists_eq_left, exists_eq_left', if_true, if_false, decide_true, decide_false, decide_eq_true_eq, Bool.not_true, Bool.not_false, Nat.zero_add, Nat.add_zero, Nat.reduceAdd, Nat.reduceLT, Nat.reduceLeDiff, Nat.reduceEqDiff, Nat.reduceMul, Nat.add_assoc, Nat.add_left_cancel_iff, Nat.add_eq_left, Nat.left_eq_add, Nat.add_le_add_iff_left, Nat.le_add_right, Nat.le_refl, Nat.one_ne_zero, Nat.add_lt_add_iff_left, Nat.lt_add_right_iff_pos, Nat.add_lt_add_iff_left,  reduceCtorEq, beq_self_eq_true, c3, bucket_ev c3' a0 a1]
    obtain ⟨f, n, hm, hfv, hfp⟩ := hm1
    have hm2 : MapV (Heap.put hh wb 2 (iv at_)) mb f n := hm.congr (put_other hne')
    have zz2 : sz (Heap.put hh wb 2 (iv at_)) = sz hh := sz_put
    generalize Heap.put hh wb 2 (iv at_) = h2 at c3' u1 hm2 zz2 ⊢
    -- behind: what the map holds
    refine cutP_intro (fun _ h9 => ∃ f' n', MapV h9 mb f' n' ∧ (∀ i v, f' i = some v → ∃ x, v = c6V x ∧ 0 ≤ x ∧ x ≤ 4611686018427387904) ∧ (∀ i, bkt at_ - 10 < i → f' i = some (c6V ((w.add at_ x).p i)) ∨ (f' i = none ∧ (w.add at_ x).p i = 0)) ∧
      obj h9 wb = some (.cells [iv 1000000, iv 10, iv at_, .map (some mb)].toArray 115 (0, 0)) ∧ Upd (fun k => k = wb ∨ k = mb) h h9) ?_ ?_
    · rintro _ h9 ⟨f', n', hm9, hfv9, hfp9, c9, u9⟩
      have l9 := obj_lt c9
      have g9 := hm9.lt
      simp (maxDischargeDepth := 60) only [newC_ev, newMap_ev, bindI_ev, bindB_ev, need_ev, bothP_ev, deref_ev, iteT_ev, iteF_ev, ldI_ex, ldB_ex, ldS_ex, ldP_ex, ldM_ex, ldV_ex, ldL_ex, st_ev, sts_ev, sz_push, sz_put, sz_puts, obj_push, obj_put, obj_puts, objSet_cells, objPuts_cells, objCell_cells, objFree_cells, freeN_cells, listPuts, heldL_nil, heldL_cons, size_def, slV_eq, sl_eta, one_int, one_bool, one_str, one_ptr, one_sl, one_slV, one_map, one_iface, one_nilI, one_fn, Ext.refl, ext_push, ext_put, ext_puts, Addr.mk.injEq, and_self, Option.map_some, Option.getD_some, Option.getD_none, Option.isSome_some, Option.isSome_none, Option.isNone_some, Option.isNone_none, List.all_cons, List.all_nil, Bool.and_self, Bool.true_and, Bool.and_true, List.length_cons, List.length_nil, List.set_cons_zero, List.set_cons_succ, List.getElem?_cons_zero, List.getElem?_cons_succ, List.getElem?_nil, Option.some.injEq, Value.int.injEq, Value.bool.injEq, Value.string.injEq, Value.pointer.injEq, Value.map.injEq, Prod.mk.injEq, true_and, and_true, exists_eq_left, exists_eq_left', if_true, if_false, decide_true, decide_false, decide_eq_true_eq, Bool.not_true, Bool.not_false, Nat.zero_add, Nat.add_zero, Nat.reduceAdd, Nat.reduceLT, Nat.reduceLeDiff, Nat.reduceEqDiff, Nat.reduceMul, Nat.add_assoc, Nat.add_left_cancel_iff, Nat.add_eq_left, Nat.left_eq_add, Nat.add_le_add_iff_left, Nat.le_add_right, Nat.le_refl, Nat.one_ne_zero, Nat.add_lt_add_iff_left, Nat.lt_add_right_iff_pos, Nat.add_lt_add_iff_left,  reduceCtorEq, beq_self_eq_true, c9]
      refine hm9.range fun h10 hr10 e10 z10 => ?_
      simp only [size_def] at hr10 z10 ⊢
      have okw : (w.add at_ x).OK := ⟨a0, a1, fun i => by
        have := hw.ok.p i
        unfold Win.add
        dsimp only
        split
        · exact plusV_rng this hx
        · exact this⟩
      refine loopM_intro (fun _ hh => ∃ f'' n'' rem L, RangeV hh mb (sz h9) f'' n'' rem L ∧ (∀ i, bkt at_ - 10 < i → f'' i = f' i) ∧ (∀ i v, f'' i = some v → f' i = some v) ∧ obj hh wb = some (.cells [iv 1000000, iv 10, iv at_, .map (some mb)].toArray 115 (0, 0)) ∧ Upd (fun k => k = wb ∨ k = mb) h hh)
        (fun _ hh => leftH hh mb (sz h9)) ⟨f', n', _, _, hr10, fun _ _ => rfl, fun _ _ hv => hv, keepX c9 e10, u9.trans (e10.upd _)⟩ ?_
      rintro _ h11 ⟨f'', n'', rem, L, hr, hf1, hf2, c11, u11⟩
      have hsz9 : sz h ≤ sz h9 := u9.size
      refine cutP_intro (fun s h12 => (s.1 = true ∧ ∃ k rem' L', RangeAt h12 mb (sz h9) f'' n'' rem' L' k ∧ L' < L ∧ obj h12 wb = some (.cells [iv 1000000, iv 10, iv at_, .map (some mb)].toArray 115 (0, 0)) ∧ Upd (fun k => k = wb ∨ k = mb) h h12) ∨ (s.1 = false ∧ h12 = h11)) ?_ ?_
      · rintro ⟨b, _⟩ h12 (⟨hb, k, rem', L', hra, hL, c12, u12⟩ | ⟨hb, rfl⟩)
        · simp only at hb
          subst hb
          refine iteP_true (hra.ent fun v hv => ⟨k, rfl, ?_⟩)
          obtain ⟨y, rfl, hy⟩ := hfv9 _ _ (hf2 _ _ hv)
          refine ⟨c6 y, rfl, ?_⟩
          simp (maxDischargeDepth := 60) only [newC_ev, newMap_ev, bindI_ev, bindB_ev, need_ev, bothP_ev, deref_ev, iteT_ev, iteF_ev, ldI_ex, ldB_ex, ldS_ex, ldP_ex, ldM_ex, ldV_ex, ldL_ex, st_ev, sts_ev, sz_push, sz_put, sz_puts, obj_push, obj_put, obj_puts, objSet_cells, objPuts_cells, objCell_cells, objFree_cells, freeN_cells, listPuts, heldL_nil, heldL_cons, size_def, slV_eq, sl_eta, one_int, one_bool, one_str, one_ptr, one_sl, one_slV, one_map, one_iface, one_nilI, one_fn, Ext.refl, ext_push, ext_put, ext_puts, Addr.mk.injEq, and_self, Option.map_some, Option.getD_some, Option.getD_none, Option.isSome_some, Option.isSome_none, Option.isNone_some, Option.isNone_none, List.all_cons, List.all_nil, Bool.and_self, Bool.true_and, Bool.and_true, List.length_cons, List.length_nil, List.set_cons_zero, List.set_cons_succ, List.getElem?_cons_zero, List.getElem?_cons_succ, List.getElem?_nil, Option.some.injEq, Value.int.injEq, Value.bool.injEq, Value.string.injEq, Value.pointer.injEq, Value.map.injEq, Prod.mk.injEq, true_and, and_true, exists_eq_left, exists_eq_left', if_true, if_false, decide_true, decide_false, decide_eq_true_eq, Bool.not_true, Bool.not_false, Nat.zero_add, Nat.add_zero, Nat.reduceAdd, Nat.reduceLT, Nat.reduceLeDiff, Nat.reduceEqDiff, Nat.reduceMul, Nat.add_assoc, Nat.add_left_cancel_iff, Nat.add_eq_left, Nat.left_eq_add, Nat.add_le_add_iff_left, Nat.le_add_right, Nat.le_refl, Nat.one_ne_zero, Nat.add_lt_add_iff_left, Nat.lt_add_right_iff_pos, Nat.add_lt_add_iff_left,  reduceCtorEq, beq_self_eq_true, c12]
          refine iteP_dec (fun q => ?_) fun q => ?_
          · refine hra.del fun h13 n13 hr13 u13 z13 => ⟨⟨_, _, _, _, hr13, fun i hi => ?_, fun i v hv => ?_, keepU c12 u13 hne, u12.trans (u13.mono fun k _ hk => .inr hk)⟩, ?_⟩
            · rw [wrap64 (by omega) (by omega)] at q
              rw [upd_ne _ _ (by omega)]
              exact hf1 i hi
            · unfold upd at hv
              split at hv
              · cases hv
              · exact hf2 i v hv
            · rw [leftH_eq hr13, leftH_eq hr]; exact hL
          · exact ⟨⟨_, _, _, _, hra.go, hf1, hf2, u12⟩, by rw [leftH_eq hra.go, leftH_eq hr]; exact hL⟩
        · simp only at hb
          subst hb
          refine iteP_false ?_
          refine hk _ ⟨okw, c11, f'', n'', hr.map, fun i v hv => hfv9 i v (hf2 i v hv), fun i hi => ?_⟩ u11
          rw [hf1 i hi]
          exact hfp9 i hi
      · refine hr.next (fun _ => ?_) fun k v h12 L' hk1 hv hra hL u12 z12 => ?_
        · exact .inr ⟨rfl, rfl⟩
        · have hwi : wb ≠ sz h9 := by omega
          exact .inl ⟨rfl, k, _, L', hra, hL, keepU c11 u12 hwi, ⟨Nat.le_trans u11.size u12.size, fun j hj hn => (u12.old j (Nat.lt_of_lt_of_le hj u11.size) (fun e => by have : j < sz h := hj; omega)).trans (u11.old j hj hn)⟩⟩
    · have ck : objCell 3 (obj h2 wb) = some (.map (some mb)) := by rw [c3']; rfl
      have l2 := obj_lt c3'
      simp (maxDischargeDepth := 60) only [newC_ev, newMap_ev, bindI_ev, bindB_ev, need_ev, bothP_ev, deref_ev, iteT_ev, iteF_ev, ldI_ex, ldB_ex, ldS_ex, ldP_ex, ldM_ex, ldV_ex, ldL_ex, st_ev, sts_ev, sz_push, sz_put, sz_puts, obj_push, obj_put, obj_puts, objSet_cells, objPuts_cells, objCell_cells, objFree_cells, freeN_cells, listPuts, heldL_nil, heldL_cons, size_def, slV_eq, sl_eta, one_int, one_bool, one_str, one_ptr, one_sl, one_slV, one_map, one_iface, one_nilI, one_fn, Ext.refl, ext_push, ext_put, ext_puts, Addr.mk.injEq, and_self, Option.map_some, Option.getD_some, Option.getD_none, Option.isSome_some, Option.isSome_none, Option.isNone_some, Option.isNone_none, List.all_cons, List.all_nil, Bool.and_self, Bool.true_and, Bool.and_true, List.length_cons, List.length_nil, List.set_cons_zero, List.set_cons_succ, List.getElem?_cons_zero, List.getElem?_cons_succ, List.getElem?_nil, Option.some.injEq, Value.int.injEq, Value.bool.injEq, Value.string.injEq, Value.pointer.injEq, Value.map.injEq, Prod.mk.injEq, true_and, and_true, exists_eq_left, exists_eq_left', if_true, if_false, decide_true, decide_false, decide_eq_true_eq, Bool.not_true, Bool.not_false, Nat.zero_add, Nat.add_zero, Nat.reduceAdd, Nat.reduceLT, Nat.reduceLeDiff, Nat.reduceEqDiff, Nat.reduceMul, Nat.add_assoc, Nat.add_left_cancel_iff, Nat.add_eq_left, Nat.left_eq_add, Nat.add_le_add_iff_left, Nat.le_add_right, Nat.le_refl, Nat.one_ne_zero, Nat.add_lt_add_iff_left, Nat.lt_add_right_iff_pos, Nat.add_lt_add_iff_left,  reduceCtorEq, beq_self_eq_true, c3']
      have hfk : (f (bkt at_)).getD (.agg #[iv 0, iv 0, iv 0, iv 0, iv 0, iv 0]) = c6V (w.p (bkt at_)) := by
        rcases hfp (bkt at_) (by omega) with e | ⟨e, ep⟩
        · rw [e]; rfl
        · rw [e, ep]; rfl
      have hpk := hw.ok.p (bkt at_)
      refine hm2.get (bkt at_) ⟨c6 (w.p (bkt at_)), hfk, ?_⟩
      rw [← zz2]
      have ho : Own (h2.push (.cells [iv (c6 (w.p (bkt at_))).1, iv (c6 (w.p (bkt at_))).2.1, iv (c6 (w.p (bkt at_))).2.2.1, iv (c6 (w.p (bkt at_))).2.2.2.1, iv (c6 (w.p (bkt at_))).2.2.2.2.1, iv (c6 (w.p (bkt at_))).2.2.2.2.2.1].toArray 146 (0, 0))) (sz h2) ⟨some ⟨sz h2, 0, none⟩, 1, 1⟩ 6 (c6L (c6 (w.p (bkt at_)))) :=
        Own.newC (h := h2) (cells := c6L (c6 (w.p (bkt at_)))) (t := 146) (size := 6) (n := 1) rfl (by decide)
      have hs2 : Row h2 s 6 (c6L (c6 x)) := (hs.congr fun b o hb _ hlb => u1.old b hlb fun e => by
        have := hsb b (by simp [Sl.blk, hb])
        omega)
      refine (hs2.ext (Ext.push _ _)).rd (Own.app ho (by rw [hl]; rfl) (by simp [c6L, c6, one_int]) rfl (by rw [hl]; show (1 + 1) * 48 ≤ 140737488355328; decide) (by rw [hl]; show 1 + 1 ≤ 140737488355328; decide) (by rw [size_def, sz_push]; omega) fun t h4 ho4 hl4 hu4 hblk => ?_)
      have e4 : Ext h2 h4 := (Ext.push h2 _).then hu4 fun k hk => by
        simp [Sl.blk] at hk
        subst hk
        exact Nat.le_refl _
      refine Join_spec ho4.row hpk hx fun h5 e5 => ?_
      have e25 := e4.trans e5
      have c5 := keepX c3' e25
      have u5 : Upd (fun k => k = wb ∨ k = mb) h h5 := u1.trans (e25.upd _)
      have hm5 : MapV h5 mb f n := hm2.congr (ext_obj e25 hm2.lt)
      have pr := plusV_rng hpk hx
      have l5 := obj_lt c5
      have lm5 := hm5.lt
      generalize hpv : plusV (w.p (bkt at_)) x = pv at pr ⊢
      have old : ∀ i, bkt at_ - 10 < i → i ≠ bkt at_ → f i = some (c6V ((w.add at_ x).p i)) ∨ (f i = none ∧ (w.add at_ x).p i = 0) := fun i hi hne => by
        have : (w.add at_ x).p i = w.p i := if_neg hne
        rw [this]
        exact hfp i (by omega)
      have new : (w.add at_ x).p (bkt at_) = pv := (if_pos rfl).trans hpv
      simp (maxDischargeDepth := 60) only [newC_ev, newMap_ev, bindI_ev, bindB_ev, need_ev, bothP_ev, deref_ev, iteT_ev, iteF_ev, ldI_ex, ldB_ex, ldS_ex, ldP_ex, ldM_ex, ldV_ex, ldL_ex, st_ev, sts_ev, sz_push, sz_put, sz_puts, obj_push, obj_put, obj_puts, objSet_cells, objPuts_cells, objCell_cells, objFree_cells, freeN_cells, listPuts, heldL_nil, heldL_cons, size_def, slV_eq, sl_eta, one_int, one_bool, one_str, one_ptr, one_sl, one_slV, one_map, one_iface, one_nilI, one_fn, Ext.refl, ext_push, ext_put, ext_puts, Addr.mk.injEq, and_self, Option.map_some, Option.getD_some, Option.getD_none, Option.isSome_some, Option.isSome_none, Option.isNone_some, Option.isNone_none, List.all_cons, List.all_nil, Bool.and_self, Bool.true_and, Bool.and_true, List.length_cons, List.length_nil, List.set_cons_zero, List.set_cons_succ, List.getElem?_cons_zero, List.getElem?_cons_succ, List.getElem?_nil, Option.some.injEq, Value.int.injEq, Value.bool.injEq, Value.string.injEq, Value.pointer.injEq, Value.map.injEq, Prod.mk.injEq, true_and, and_true, exists_eq_left, exists_eq_left', if_true, if_false, decide_true, decide_false, decide_eq_true_eq, Bool.not_true, Bool.not_false, Nat.zero_add, Nat.add_zero, Nat.reduceAdd, Nat.reduceLT, Nat.reduceLeDiff, Nat.reduceEqDiff, Nat.reduceMul, Nat.add_assoc, Nat.add_left_cancel_iff, Nat.add_eq_left, Nat.left_eq_add, Nat.add_le_add_iff_left, Nat.le_add_right, Nat.le_refl, Nat.one_ne_zero, Nat.add_lt_add_iff_left, Nat.lt_add_right_iff_pos, Nat.add_lt_add_iff_left,  reduceCtorEq, beq_self_eq_true, c6, c6L, c5, lt_ne l5, lt_ne0 l5, lt_en l5, lt_en0 l5]
      have u6 : Upd (fun k => k = wb ∨ k = mb) h (Heap.puts (h5.push (.cells [iv 0, iv 0, iv 0, iv 0, iv 0, iv 0].toArray 146 (0, 0))) (sz h5) 0 [iv pv, iv 0, iv 0, iv 0, iv 0, iv 0]) :=
        upd_puts (upd_push u5) (.inl (by have : sz h ≤ sz h5 := u5.size; omega))
      have hm6 : MapV (Heap.puts (h5.push (.cells [iv 0, iv 0, iv 0, iv 0, iv 0, iv 0].toArray 146 (0, 0))) (sz h5) 0 [iv pv, iv 0, iv 0, iv 0, iv 0, iv 0]) mb f n :=
        hm5.congr ((puts_other (by have := lm5; simp only [size_def] at this; omega)).trans (push_old lm5))
      have c6_ : obj (Heap.puts (h5.push (.cells [iv 0, iv 0, iv 0, iv 0, iv 0, iv 0].toArray 146 (0, 0))) (sz h5) 0 [iv pv, iv 0, iv 0, iv 0, iv 0, iv 0]) wb = some (.cells [iv 1000000, iv 10, iv at_, .map (some mb)].toArray 115 (0, 0)) := by
        simp (maxDischargeDepth := 60) only [newC_ev, newMap_ev, bindI_ev, bindB_ev, need_ev, bothP_ev, deref_ev, iteT_ev, iteF_ev, ldI_ex, ldB_ex, ldS_ex, ldP_ex, ldM_ex, ldV_ex, ldL_ex, st_ev, sts_ev, sz_push, sz_put, sz_puts, obj_push, obj_put, obj_puts, objSet_cells, objPuts_cells, objCell_cells, objFree_cells, freeN_cells, listPuts, heldL_nil, heldL_cons, size_def, slV_eq, sl_eta, one_int, one_bool, one_str, one_ptr, one_sl, one_slV, one_map, one_iface, one_nilI, one_fn, Ext.refl, ext_push, ext_put, ext_puts, Addr.mk.injEq, and_self, Option.map_some, Option.getD_some, Option.getD_none, Option.isSome_some, Option.isSome_none, Option.isNone_some, Option.isNone_none, List.all_cons, List.all_nil, Bool.and_self, Bool.true_and, Bool.and_true, List.length_cons, List.length_nil, List.set_cons_zero, List.set_cons_succ, List.getElem?_cons_zero, List.getElem?_cons_succ, List.getElem?_nil, Option.some.injEq, Value.int.injEq, Value.bool.injEq, Value.string.injEq, Value.pointer.injEq, Value.map.injEq, Prod.mk.injEq, true_and, and_true, exists_eq_left, exists_eq_left', if_true, if_false, decide_true, decide_false, decide_eq_true_eq, Bool.not_true, Bool.not_false, Nat.zero_add, Nat.add_zero, Nat.reduceAdd, Nat.reduceLT, Nat.reduceLeDiff, Nat.reduceEqDiff, Nat.reduceMul, Nat.add_assoc, Nat.add_left_cancel_iff, Nat.add_eq_left, Nat.left_eq_add, Nat.add_le_add_iff_left, Nat.le_add_right, Nat.le_refl, Nat.one_ne_zero, Nat.add_lt_add_iff_left, Nat.lt_add_right_iff_pos, Nat.add_lt_add_iff_left,  reduceCtorEq, beq_self_eq_true, c5, lt_ne0 l5]
      rcases Decidable.em (pv = 0) with h0 | h0
      · have : (!(bif pv == 0 then (bif (0 : Int) == 0 then (bif (0 : Int) == 0 then (bif (0 : Int) == 0 then (bif (0 : Int) == 0 then (bif (0 : Int) == 0 then true else false) else false) else false) else false) else false) else false)) = false := by rw [h0]; decide
        refine iteP_neg this ?_
        refine ⟨f, n, hm6, hfv, fun i hi => ?_, u6⟩
        by_cases hik : i = bkt at_
        · subst hik
          rw [new, h0]
          rcases hfp (bkt at_) (by omega) with e | ⟨e, ep⟩
          · have : w.p (bkt at_) = 0 := by
              rw [plusV_eq hpk hx] at hpv
              omega
            rw [this] at e
            exact .inl e
          · exact .inr ⟨e, rfl⟩
        · exact old i hi hik
      · have : (!(bif pv == 0 then (bif (0 : Int) == 0 then (bif (0 : Int) == 0 then (bif (0 : Int) == 0 then (bif (0 : Int) == 0 then (bif (0 : Int) == 0 then true else false) else false) else false) else false) else false) else false)) = true := by
          have : (pv == 0) = false := by simpa using h0
          rw [this]; rfl
        refine iteP_pos this ?_
        refine hm6.put (bkt at_) (c6V pv) fun h7 hm7 u7 z7 => ⟨_, _, hm7, fun i v hv => ?_, fun i hi => ?_, keepU c6_ u7 hne, u6.trans (u7.mono fun k _ hk => .inr hk)⟩
        · unfold upd at hv
          split at hv
          · cases hv; exact ⟨pv, rfl, pr⟩
          · exact hfv i v hv
        · by_cases hik : i = bkt at_
          · subst hik
            rw [upd_same, new]
            exact .inl rfl
          · rw [upd_ne _ _ hik]
            exact old i hi hik

end Go.Proofs.Ytckcdkhiehdkkaa
