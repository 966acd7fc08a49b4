/- The token server: what is alive, given back, quiet. -/
import Derived.Test.YtledmkhbaacdnaaTkI
namespace Go.Proofs.Ytledmkhbaacdnaa
open Go Go.Fw
set_option linter.unusedSimpArgs false
set_option linter.unusedVariables false

def deadF (at_ : Int) (t : F4) : Bool := decide (at_ ≥ t.2.2.2.1)
def aliveV (at_ : Int) (l : List F4) : List F4 := l.filter fun t => !deadF at_ t
theorem alive1_ev {t : F4} {ab : Nat} {at_ : Int} {T : TypeId} {h : Heap} (hc : obj h ab = some (.cells [iv at_].toArray T (0, 0))) {K : Bool → Heap → Prop} :
    m_token_Server_alive_1 t (some ⟨ab, 0, none⟩) K h = K (deadF at_ t) (h.push (.cells [iv t.1, iv t.2.1, iv t.2.2.1, iv t.2.2.2.1].toArray 115 (0, 0))) := by
  unfold m_token_Server_alive_1 g_token_Server_alive_1 deadF
  have l0 := obj_lt hc
  simp (maxDischargeDepth := 60) only [evAll, listPuts, Addr.mk.injEq, Option.map_some, Option.getD_some, Option.getD_none, Option.isSome_some, Option.isSome_none, Option.isNone_some, Option.isNone_none, List.all_cons, List.all_nil, List.length_cons, List.length_nil, List.set_cons_zero, List.set_cons_succ, List.getElem?_cons_zero, List.getElem?_cons_succ, List.getElem?_nil, Option.some.injEq, Value.int.injEq, Value.bool.injEq, Value.string.injEq, Value.pointer.injEq, Value.map.injEq, Prod.mk.injEq, exists_eq_left, exists_eq_left', if_true, if_false, decide_true, decide_false, Nat.reduceAdd, Nat.reduceLT, Nat.reduceLeDiff, Nat.reduceEqDiff, Nat.reduceMul, reduceCtorEq, beq_self_eq_true, hc, lt_ne0 l0]

theorem aliveIx_spec {ab : Nat} {at_ : Int} {h : Heap} {T : TypeId} (hc : obj h ab = some (.cells [iv at_].toArray T (0, 0))) {s : Sl} {l : List F4} (hr : Row h s 4 (l.flatMap f4L)) {K : Int → Heap → Prop}
    (hk : ∀ h', Ext h h' → K (ixV (deadF at_) l) h') : m_slices_IndexFunc_token_Token_token_Token___token_Server_alive_1 s (some ⟨ab, 0, none⟩, ()) K h := by
  unfold m_slices_IndexFunc_token_Token_token_Token___token_Server_alive_1 g_slices_IndexFunc_token_Token_token_Token___token_Server_alive_1
  refine index_loop f4L_len hr (by decide) (p := deadF at_) (tst := fun Q b o h3 => ldI h3 b o .i64 fun t4 => ldI h3 b (o + 1) .i64 fun t5 => ldI h3 b (o + 2) .i64 fun t6 => ldI h3 b (o + 3) .i64 fun t7 => m_token_Server_alive_1 (t4, t5, t6, t7, ()) (some ⟨ab, 0, none⟩) Q h3) ?_ hk
  intro i a b o hh Q ha he hcell hQ
  have v0 := hcell 0 _ rfl
  have v1 := hcell 1 _ rfl
  have v2 := hcell 2 _ rfl
  have v3 := hcell 3 _ rfl
  simp only [Nat.add_zero] at v0
  simp (maxDischargeDepth := 60) only [evAll, listPuts, Addr.mk.injEq, Option.map_some, Option.getD_some, Option.getD_none, Option.isSome_some, Option.isSome_none, Option.isNone_some, Option.isNone_none, List.all_cons, List.all_nil, List.length_cons, List.length_nil, List.set_cons_zero, List.set_cons_succ, List.getElem?_cons_zero, List.getElem?_cons_succ, List.getElem?_nil, Option.some.injEq, Value.int.injEq, Value.bool.injEq, Value.string.injEq, Value.pointer.injEq, Value.map.injEq, Prod.mk.injEq, exists_eq_left, exists_eq_left', if_true, if_false, decide_true, decide_false, Nat.reduceAdd, Nat.reduceLT, Nat.reduceLeDiff, Nat.reduceEqDiff, Nat.reduceMul, reduceCtorEq, beq_self_eq_true, v0, v1, v2, v3, alive1_ev (keepX hc he)]
  exact hQ _ (ext_push he)

theorem aliveDel_spec {ab : Nat} {at_ : Int} {h : Heap} {T : TypeId} (hc : obj h ab = some (.cells [iv at_].toArray T (0, 0))) {s : Sl} {base : Nat} {l : List F4} (ho : Own h base s 4 (l.flatMap f4L)) (hb : ab < base) {K : Sl → Heap → Prop}
    (hk : ∀ t h', Own h' base t 4 ((aliveV at_ l).flatMap f4L) → Upd (fun k => base ≤ k) h h' → K t h') : m_slices_DeleteFunc_token_Token_token_Token___token_Server_alive_1 s (some ⟨ab, 0, none⟩, ()) K h := by
  unfold m_slices_DeleteFunc_token_Token_token_Token___token_Server_alive_1 g_slices_DeleteFunc_token_Token_token_Token___token_Server_alive_1
  refine aliveIx_spec hc ho.row fun h1 e1 => bindI_intro ?_
  have ho1 := ho.congr (h' := h1) fun b hb _ _ => e1.old b (ho.lt hb).2
  have hc1 := keepX hc e1
  have hlen := rowLen f4L_len ho.row (by decide)
  cases hf : l.findIdx? (deadF at_) with
  | none =>
    rw [ixV_none hf]
    refine iteP_true ?_
    have : aliveV at_ l = l := by
      unfold aliveV
      rw [List.filter_eq_self]
      intro a ha
      rw [List.findIdx?_eq_none_iff.1 hf a ha]
      rfl
    exact hk s h1 (by rw [this]; exact ho1) (e1.upd _)
  | some i =>
    rw [ixV_some hf]
    have hi := List.findIdx?_eq_some_iff_getElem.1 hf
    obtain ⟨hil, hpi, hpj⟩ := hi
    have hbig := ho.big
    have hcap := ho.cap
    refine iteP_neg (by simp) (bindI_intro ?_)
    rw [show IntKind.wrap .i64 ((i : Int) + 1) = ((i + 1 : Nat) : Int) from by rw [wrap64 (by omega) (by omega)]; rfl]
    refine delete_loop f4L_len ho1 (by decide) (p := deadF at_) (zs := [.int .i64 0, .int .i64 0, .int .i64 0, .int .i64 0]) rfl (by simp [one_int]) (fun a => by simp [f4L, one_int]) hil (fun j a hj ha => ?_) (fun a ha => ?_) (Good := fun h => obj h ab = some (.cells [iv at_].toArray T (0, 0)))
      (tst := fun Q b o h6 => ldI h6 b o .i64 fun t7 => ldI h6 b (o + 1) .i64 fun t8 => ldI h6 b (o + 2) .i64 fun t9 => ldI h6 b (o + 3) .i64 fun t10 =>
        newC h6 [Value.int .i64 0, Value.int .i64 0, Value.int .i64 0, Value.int .i64 0] 115 fun b11 h12 => sts h12 b11 0 [Value.int .i64 t7, Value.int .i64 t8, Value.int .i64 t9, Value.int .i64 t10] fun h13 =>
        ldI h13 b11 0 .i64 fun t14 => ldI h13 b11 (0 + 1) .i64 fun t15 => ldI h13 b11 (0 + 2) .i64 fun t16 => ldI h13 b11 (0 + 3) .i64 fun t17 => m_token_Server_alive_1 (t14, t15, t16, t17, ()) (some ⟨ab, 0, none⟩) (fun b h => Q b b11 h) h13)
      (wr := fun b11 R h19 => ldI h19 b11 0 .i64 fun t20 => ldI h19 b11 (0 + 1) .i64 fun t21 => ldI h19 b11 (0 + 2) .i64 fun t22 => ldI h19 b11 (0 + 3) .i64 fun t23 => R [Value.int .i64 t20, Value.int .i64 t21, Value.int .i64 t22, Value.int .i64 t23])
      (fun h1 h2 hg hu => ?_) ?_ hc1 (fun k hk => (ho1.lt hk).2) (fun t h' ho' _ hu _ => hk t h' ho' ((e1.upd _).trans (hu.mono fun k _ hk => (ho1.lt hk).1)))
    · have := hpj j hj
      rw [List.getElem?_eq_getElem (by omega)] at ha
      cases ha
      simpa using this
    · rw [List.getElem?_eq_getElem hil] at ha
      cases ha
      exact hpi
    · exact keepU hg hu fun e => by have := (ho1.lt e).1; omega
    · intro a b o hh Q hg hbl hcell hQ
      have v0 := hcell 0 _ rfl
      have v1 := hcell 1 _ rfl
      have v2 := hcell 2 _ rfl
      have v3 := hcell 3 _ rfl
      simp only [Nat.add_zero] at v0
      have lg := obj_lt hg
      simp (maxDischargeDepth := 60) only [evAll, listPuts, Addr.mk.injEq, Option.map_some, Option.getD_some, Option.getD_none, Option.isSome_some, Option.isSome_none, Option.isNone_some, Option.isNone_none, List.all_cons, List.all_nil, List.length_cons, List.length_nil, List.set_cons_zero, List.set_cons_succ, List.getElem?_cons_zero, List.getElem?_cons_succ, List.getElem?_nil, Option.some.injEq, Value.int.injEq, Value.bool.injEq, Value.string.injEq, Value.pointer.injEq, Value.map.injEq, Prod.mk.injEq, exists_eq_left, exists_eq_left', if_true, if_false, decide_true, decide_false, Nat.reduceAdd, Nat.reduceLT, Nat.reduceLeDiff, Nat.reduceEqDiff, Nat.reduceMul, reduceCtorEq, beq_self_eq_true, v0, v1, v2, v3]
      rw [alive1_ev (at_ := at_) (T := T) (by simp (maxDischargeDepth := 60) only [evAll, listPuts, Addr.mk.injEq, Option.map_some, Option.getD_some, Option.getD_none, Option.isSome_some, Option.isSome_none, Option.isNone_some, Option.isNone_none, List.all_cons, List.all_nil, List.length_cons, List.length_nil, List.set_cons_zero, List.set_cons_succ, List.getElem?_cons_zero, List.getElem?_cons_succ, List.getElem?_nil, Option.some.injEq, Value.int.injEq, Value.bool.injEq, Value.string.injEq, Value.pointer.injEq, Value.map.injEq, Prod.mk.injEq, exists_eq_left, exists_eq_left', if_true, if_false, decide_true, decide_false, Nat.reduceAdd, Nat.reduceLT, Nat.reduceLeDiff, Nat.reduceEqDiff, Nat.reduceMul, reduceCtorEq, beq_self_eq_true, hg, lt_ne0 lg])]
      refine hQ _ _ ?_ ?_ fun R hR => ?_
      · have n1 : (ab = sz hh + 1) = False := eq_false (by omega)
        simp (maxDischargeDepth := 60) only [evAll, listPuts, Addr.mk.injEq, Option.map_some, Option.getD_some, Option.getD_none, Option.isSome_some, Option.isSome_none, Option.isNone_some, Option.isNone_none, List.all_cons, List.all_nil, List.length_cons, List.length_nil, List.set_cons_zero, List.set_cons_succ, List.getElem?_cons_zero, List.getElem?_cons_succ, List.getElem?_nil, Option.some.injEq, Value.int.injEq, Value.bool.injEq, Value.string.injEq, Value.pointer.injEq, Value.map.injEq, Prod.mk.injEq, exists_eq_left, exists_eq_left', if_true, if_false, decide_true, decide_false, Nat.reduceAdd, Nat.reduceLT, Nat.reduceLeDiff, Nat.reduceEqDiff, Nat.reduceMul, reduceCtorEq, beq_self_eq_true, hg, lt_ne0 lg, n1]
      · exact ext_push (ext_puts (ext_push (Ext.refl _)) (by omega))
      · simp (maxDischargeDepth := 60) only [evAll, listPuts, Addr.mk.injEq, Option.map_some, Option.getD_some, Option.getD_none, Option.isSome_some, Option.isSome_none, Option.isNone_some, Option.isNone_none, List.all_cons, List.all_nil, List.length_cons, List.length_nil, List.set_cons_zero, List.set_cons_succ, List.getElem?_cons_zero, List.getElem?_cons_succ, List.getElem?_nil, Option.some.injEq, Value.int.injEq, Value.bool.injEq, Value.string.injEq, Value.pointer.injEq, Value.map.injEq, Prod.mk.injEq, exists_eq_left, exists_eq_left', if_true, if_false, decide_true, decide_false, Nat.reduceAdd, Nat.reduceLT, Nat.reduceLeDiff, Nat.reduceEqDiff, Nat.reduceMul, reduceCtorEq, beq_self_eq_true]
        exact hR

theorem tokClone_spec {h : Heap} {s : Sl} {l : List F4} (hr : Row h s 4 (l.flatMap f4L)) (hl : l.length ≤ 1099511627776) {K : Sl → Heap → Prop}
    (hk : ∀ t h', Own h' h.size t 4 (l.flatMap f4L) → Ext h h' → K t h') : m_slices_Clone_token_Token_token_Token_ s K h := by
  unfold m_slices_Clone_token_Token_token_Token_ g_slices_Clone_token_Token_token_Token_
  have hlen := rowLen f4L_len hr (by decide)
  exact clone_row (bytes := 32) (zs := [.int .i64 0, .int .i64 0, .int .i64 0, .int .i64 0]) hr (f4L_all l) rfl (by omega) (by omega) fun t h' ho he _ => hk t h' ho he
theorem alive_spec {h : Heap} {sb : Nat} {x0 x1 x2 x3 x4 : Value} {so : Sl} {r : List Value} (hc : obj h sb = some (.cells (x0 :: x1 :: x2 :: x3 :: x4 :: slV so :: r).toArray 60 (0, 0))) {base : Nat} {l : List F4} (ho : Own h base so 4 (l.flatMap f4L)) (hl : l.length ≤ 4096) {at_ : Int} {K : Sl → Heap → Prop}
    (hk : ∀ t h', Own h' h.size t 4 ((aliveV at_ l).flatMap f4L) → Ext h h' → K t h') : m_token_Server_alive (some ⟨sb, 0, none⟩) at_ K h := by
  unfold m_token_Server_alive g_token_Server_alive
  have l0 := obj_lt hc
  have hlen := rowLen f4L_len ho.row (by decide)
  simp (maxDischargeDepth := 60) only [evAll, listPuts, Addr.mk.injEq, Option.map_some, Option.getD_some, Option.getD_none, Option.isSome_some, Option.isSome_none, Option.isNone_some, Option.isNone_none, List.all_cons, List.all_nil, List.length_cons, List.length_nil, List.set_cons_zero, List.set_cons_succ, List.getElem?_cons_zero, List.getElem?_cons_succ, List.getElem?_nil, Option.some.injEq, Value.int.injEq, Value.bool.injEq, Value.string.injEq, Value.pointer.injEq, Value.map.injEq, Prod.mk.injEq, exists_eq_left, exists_eq_left', if_true, if_false, decide_true, decide_false, Nat.reduceAdd, Nat.reduceLT, Nat.reduceLeDiff, Nat.reduceEqDiff, Nat.reduceMul, reduceCtorEq, beq_self_eq_true, hc, lt_ne0 l0]
  have e1 := Ext.push h (.cells [iv at_].toArray 3 (0, 0))
  refine tokClone_spec (ho.row.ext e1) (by omega) fun t h2 ho2 he2 => ?_
  have c2 : obj h2 (sz h) = some (.cells [iv at_].toArray 3 (0, 0)) := keepX (by simp (maxDischargeDepth := 60) only [evAll, listPuts, Addr.mk.injEq, Option.map_some, Option.getD_some, Option.getD_none, Option.isSome_some, Option.isSome_none, Option.isNone_some, Option.isNone_none, List.all_cons, List.all_nil, List.length_cons, List.length_nil, List.set_cons_zero, List.set_cons_succ, List.getElem?_cons_zero, List.getElem?_cons_succ, List.getElem?_nil, Option.some.injEq, Value.int.injEq, Value.bool.injEq, Value.string.injEq, Value.pointer.injEq, Value.map.injEq, Prod.mk.injEq, exists_eq_left, exists_eq_left', if_true, if_false, decide_true, decide_false, Nat.reduceAdd, Nat.reduceLT, Nat.reduceLeDiff, Nat.reduceEqDiff, Nat.reduceMul, reduceCtorEq, beq_self_eq_true]) he2
  refine aliveDel_spec c2 ho2 (by rw [size_def, sz_push]; omega) fun t3 h3 ho3 hu3 => hk t3 h3 (ho3.base (by rw [size_def, size_def, sz_push]; omega)) (e1.trans (he2.then hu3 fun k hk => hk))
theorem quiet_spec {h : Heap} {sb : Nat} {b : Int} {r : List Value} (hc : obj h sb = some (.cells (iv b :: r).toArray 60 (0, 0))) {at_ : Int} {f : F4} {K : Bool → Heap → Prop}
    (hk : ∀ h', Ext h h' → K (decide (at_ < IntKind.wrap .i64 (b + maxV 1000000 f.2.2.2.1))) h') : m_token_Server_isQuiet (some ⟨sb, 0, none⟩) at_ f K h := by
  unfold m_token_Server_isQuiet g_token_Server_isQuiet
  have l0 := obj_lt hc
  simp (maxDischargeDepth := 60) only [evAll, listPuts, Addr.mk.injEq, Option.map_some, Option.getD_some, Option.getD_none, Option.isSome_some, Option.isSome_none, Option.isNone_some, Option.isNone_none, List.all_cons, List.all_nil, List.length_cons, List.length_nil, List.set_cons_zero, List.set_cons_succ, List.getElem?_cons_zero, List.getElem?_cons_succ, List.getElem?_nil, Option.some.injEq, Value.int.injEq, Value.bool.injEq, Value.string.injEq, Value.pointer.injEq, Value.map.injEq, Prod.mk.injEq, exists_eq_left, exists_eq_left', if_true, if_false, decide_true, decide_false, Nat.reduceAdd, Nat.reduceLT, Nat.reduceLeDiff, Nat.reduceEqDiff, Nat.reduceMul, reduceCtorEq, beq_self_eq_true, hc, lt_ne0 l0]
  exact hk _ (Ext.push _ _)
end Go.Proofs.Ytledmkhbaacdnaa
