/- The token server: Out, Namespaces; loops that only read. -/
import Derived.Test.YtckcdkhiehdkkaaTkGa
namespace Go.Proofs.Ytckcdkhiehdkkaa
open Go Go.Fw
set_option linter.unusedSimpArgs false
set_option linter.unusedVariables false

theorem sv_ext {h h' : Heap} {T : Nat → Option Nat} {sb : Nat} {S : Srv} (hS : Server h T sb S) (he : Ext h h') : Server h' T sb S := by
  obtain ⟨cb, nb, sp, so, ls, hR⟩ := hS
  exact ⟨cb, nb, sp, so, ls, hR.ext he⟩
theorem sv_no {h : Heap} {T : Nat → Option Nat} {sb : Nat} {S : Srv} (hS : Server h T sb S) {k : Nat} (hk : sz h ≤ k) : T k = none := by
  obtain ⟨cb, nb, sp, so, ls, hR⟩ := hS
  exact hR.no hk
theorem sv_congr {h h' : Heap} {T : Nat → Option Nat} {sb : Nat} {S : Srv} (hS : Server h T sb S) (hz : sz h ≤ sz h') (he : ∀ k, T k ≠ none → h'[k]? = h[k]?) : Server h' T sb S := by
  obtain ⟨cb, nb, sp, so, ls, hR⟩ := hS
  exact ⟨cb, nb, sp, so, ls, hR.congr hz he⟩
theorem st_no {h h' : Heap} {T T' : Nat → Option Nat} {sb : Nat} {S : Srv} (_ : Server h T sb S) (st : Stp T T' h h') {k : Nat} (h1 : T k = none) (h2 : k < sz h) : T' k = none := by
  cases hT : T' k with
  | none => rfl
  | some t =>
    rcases st.new k (by rw [hT]; exact fun e => by cases e) with h3 | h3
    · exact (h3 h1).elim
    · rw [size_def] at h3; omega

theorem Out_spec {h : Heap} {T : Nat → Option Nat} {sb : Nat} {S : Srv} (hS : Server h T sb S) (hl : S.out.length ≤ 4096) {at_ : Int} {K : Sl → Int → Heap → Prop}
    (hk1 : lookE S.last at_ ≠ 0 → K ⟨none, 0, 0⟩ (lookE S.last at_) h) (hk2 : lookE S.last at_ = 0 → ∀ t h', Row h' t 4 ((aliveV at_ S.out).flatMap f4L) → Ext h h' → K t 0 h') : m_token_Server_Out (some ⟨sb, 0, none⟩) at_ K h := by
  obtain ⟨cb, nb, sp, so, ls, hR⟩ := hS
  unfold m_token_Server_Out g_token_Server_Out
  rw [bindI_ev, look_ev hR.cells, bindI_ev]
  rcases Decidable.em (lookE S.last at_ = 0) with q | q
  · refine iteP_neg (by simpa using q) ?_
    exact alive_spec hR.cells hR.out hl fun t h' ho he => hk2 q t h' ho.row he
  · refine iteP_pos (by simpa using q) ?_
    exact hk1 q

theorem Namespaces_spec {h : Heap} {T : Nat → Option Nat} {sb : Nat} {S : Srv} (hS : Server h T sb S) (hl : S.spaces.length ≤ 1099511627776) {K : Sl → Heap → Prop}
    (hk : ∀ t h', Own h' h.size t 1 (S.spaces.map fun x => .string x.1) → Ext h h' → K t h') : m_token_Server_Namespaces (some ⟨sb, 0, none⟩) K h := by
  obtain ⟨cb, nb, sp, so, ls, hR⟩ := hS
  unfold m_token_Server_Namespaces g_token_Server_Namespaces
  have c0 := hR.cells
  have hsp := hR.spaces.own.row
  have hlen := rowLen spL_len hsp (by decide)
  have hn : S.spaces.length = ls.length := by rw [← hR.names, List.length_map]
  have l0 := obj_lt c0
  refine iteP_false ?_
  rw [deref_ev]
  rw [show (0 : Nat) + 2 = 2 from rfl, ldL_evS (s := sp) (by rw [c0]; rfl)]
  refine loopM_intro (fun st hh => ∃ (ps : Sl) (i : Nat), st = (ps, (i : Int), ()) ∧ i ≤ ls.length ∧ Own hh h.size ps 1 ((ls.take i).map fun x => .string x.1) ∧ Ext h hh) (fun st _ => (sp.len - st.2.1).toNat) ⟨_, 0, rfl, Nat.zero_le _, Own.nil _ _ _, Ext.refl _⟩ ?_
  rintro _ hh ⟨ps, i, rfl, hi, ho, he⟩
  dsimp only
  refine iteP_dec (fun q => ?_) fun q => ?_
  · have hil : i < ls.length := by omega
    obtain ⟨b, o, hb, _, hidx, hcell⟩ := elemR spL_len (hsp.ext he) (List.getElem?_eq_getElem hil) (by decide)
    refine hidx rfl ?_
    have v0 := hcell 0 _ rfl
    have v1 := hcell 1 _ rfl
    simp only [Nat.add_zero] at v0
    rw [ldS_ev v0, ldL_evS v1, newC_ev, sts_ev (by simp (maxDischargeDepth := 60) only [newC_ev, newMap_ev, bindI_ev, bindB_ev, need_ev, bothP_ev, deref_ev, iteT_ev, iteF_ev, ldI_ex, ldB_ex, ldS_ex, ldP_ex, ldM_ex, ldV_ex, ldL_ex, st_ev, sts_ev, sz_push, sz_put, sz_puts, obj_push, obj_put, obj_puts, objSet_cells, objPuts_cells, objCell_cells, objFree_cells, freeN_cells, listPuts, heldL_nil, heldL_cons, size_def, slV_eq, sl_eta, one_int, one_bool, one_str, one_ptr, one_sl, one_slV, one_map, one_iface, one_nilI, one_fn, Ext.refl, ext_push, ext_put, ext_puts, Addr.mk.injEq, and_self, Option.map_some, Option.getD_some, Option.getD_none, Option.isSome_some, Option.isSome_none, Option.isNone_some, Option.isNone_none, List.all_cons, List.all_nil, Bool.and_self, Bool.true_and, Bool.and_true, List.length_cons, List.length_nil, List.set_cons_zero, List.set_cons_succ, List.getElem?_cons_zero, List.getElem?_cons_succ, List.getElem?_nil, Option.some.injEq, Value.int.injEq, Value.bool.injEq, Value.string.injEq, Value.pointer.injEq, Value.map.injEq, Prod.mk.injEq, true_and, and_true, exists_eq_left, exists_eq_left', if_true, if_false, decide_true, decide_false, decide_eq_true_eq, Bool.not_true, Bool.not_false, Nat.zero_add, Nat.add_zero, Nat.reduceAdd, Nat.reduceLT, Nat.reduceLeDiff, Nat.reduceEqDiff, Nat.reduceMul, Nat.add_assoc, Nat.add_left_cancel_iff, Nat.add_eq_left, Nat.left_eq_add, Nat.add_le_add_iff_left, Nat.le_add_right, Nat.le_refl, Nat.one_ne_zero, Nat.add_lt_add_iff_left, Nat.lt_add_right_iff_pos, Nat.add_lt_add_iff_left,  reduceCtorEq, beq_self_eq_true]) (by simp (maxDischargeDepth := 60) only [newC_ev, newMap_ev, bindI_ev, bindB_ev, need_ev, bothP_ev, deref_ev, iteT_ev, iteF_ev, ldI_ex, ldB_ex, ldS_ex, ldP_ex, ldM_ex, ldV_ex, ldL_ex, st_ev, sts_ev, sz_push, sz_put, sz_puts, obj_push, obj_put, obj_puts, objSet_cells, objPuts_cells, objCell_cells, objFree_cells, freeN_cells, listPuts, heldL_nil, heldL_cons, size_def, slV_eq, sl_eta, one_int, one_bool, one_str, one_ptr, one_sl, one_slV, one_map, one_iface, one_nilI, one_fn, Ext.refl, ext_push, ext_put, ext_puts, Addr.mk.injEq, and_self, Option.map_some, Option.getD_some, Option.getD_none, Option.isSome_some, Option.isSome_none, Option.isNone_some, Option.isNone_none, List.all_cons, List.all_nil, Bool.and_self, Bool.true_and, Bool.and_true, List.length_cons, List.length_nil, List.set_cons_zero, List.set_cons_succ, List.getElem?_cons_zero, List.getElem?_cons_succ, List.getElem?_nil, Option.some.injEq, Value.int.injEq, Value.bool.injEq, Value.string.injEq, Value.pointer.injEq, Value.map.injEq, Prod.mk.injEq, true_and, and_true, exists_eq_left, exists_eq_left', if_true, if_false, decide_true, decide_false, decide_eq_true_eq, Bool.not_true, Bool.not_false, Nat.zero_add, Nat.add_zero, Nat.reduceAdd, Nat.reduceLT, Nat.reduceLeDiff, Nat.reduceEqDiff, Nat.reduceMul, Nat.add_assoc, Nat.add_left_cancel_iff, Nat.add_eq_left, Nat.left_eq_add, Nat.add_le_add_iff_left, Nat.le_add_right, Nat.le_refl, Nat.one_ne_zero, Nat.add_lt_add_iff_left, Nat.lt_add_right_iff_pos, Nat.add_lt_add_iff_left,  reduceCtorEq, beq_self_eq_true])]
    have e1 : Ext hh (Heap.puts (hh.push (.cells [Value.string (ByteArray.mk #[]), Value.slice none 0 0].toArray 70 (0, 0))) (sz hh) 0 [Value.string ls[i].1, Value.slice ls[i].2.1.ptr ls[i].2.1.len ls[i].2.1.cap]) := ext_puts (ext_push (Ext.refl _)) (Nat.le_refl _)
    have g1 : objCell 0 (obj (Heap.puts (hh.push (.cells [Value.string (ByteArray.mk #[]), Value.slice none 0 0].toArray 70 (0, 0))) (sz hh) 0 [Value.string ls[i].1, Value.slice ls[i].2.1.ptr ls[i].2.1.len ls[i].2.1.cap]) (sz hh)) = some (.string ls[i].1) := by simp (maxDischargeDepth := 60) only [newC_ev, newMap_ev, bindI_ev, bindB_ev, need_ev, bothP_ev, deref_ev, iteT_ev, iteF_ev, ldI_ex, ldB_ex, ldS_ex, ldP_ex, ldM_ex, ldV_ex, ldL_ex, st_ev, sts_ev, sz_push, sz_put, sz_puts, obj_push, obj_put, obj_puts, objSet_cells, objPuts_cells, objCell_cells, objFree_cells, freeN_cells, listPuts, heldL_nil, heldL_cons, size_def, slV_eq, sl_eta, one_int, one_bool, one_str, one_ptr, one_sl, one_slV, one_map, one_iface, one_nilI, one_fn, Ext.refl, ext_push, ext_put, ext_puts, Addr.mk.injEq, and_self, Option.map_some, Option.getD_some, Option.getD_none, Option.isSome_some, Option.isSome_none, Option.isNone_some, Option.isNone_none, List.all_cons, List.all_nil, Bool.and_self, Bool.true_and, Bool.and_true, List.length_cons, List.length_nil, List.set_cons_zero, List.set_cons_succ, List.getElem?_cons_zero, List.getElem?_cons_succ, List.getElem?_nil, Option.some.injEq, Value.int.injEq, Value.bool.injEq, Value.string.injEq, Value.pointer.injEq, Value.map.injEq, Prod.mk.injEq, true_and, and_true, exists_eq_left, exists_eq_left', if_true, if_false, decide_true, decide_false, decide_eq_true_eq, Bool.not_true, Bool.not_false, Nat.zero_add, Nat.add_zero, Nat.reduceAdd, Nat.reduceLT, Nat.reduceLeDiff, Nat.reduceEqDiff, Nat.reduceMul, Nat.add_assoc, Nat.add_left_cancel_iff, Nat.add_eq_left, Nat.left_eq_add, Nat.add_le_add_iff_left, Nat.le_add_right, Nat.le_refl, Nat.one_ne_zero, Nat.add_lt_add_iff_left, Nat.lt_add_right_iff_pos, Nat.add_lt_add_iff_left,  reduceCtorEq, beq_self_eq_true]
    generalize Heap.puts (hh.push (.cells [Value.string (ByteArray.mk #[]), Value.slice none 0 0].toArray 70 (0, 0))) (sz hh) 0 [Value.string ls[i].1, Value.slice ls[i].2.1.ptr ls[i].2.1.len ls[i].2.1.cap] = h1 at e1 g1 ⊢
    rw [ldS_ev g1, newC_ev]
    have e2 : Ext hh (h1.push (.cells [Value.string ls[i].1].toArray 9 (0, 0))) := ext_push e1
    have hrow : Row (h1.push (.cells [Value.string ls[i].1].toArray 9 (0, 0))) ⟨some ⟨sz h1, 0, none⟩, 1, 1⟩ 1 [Value.string ls[i].1] := (Own.newC (h := h1) (cells := [Value.string ls[i].1]) (t := 9) (size := 1) (n := 1) rfl (by decide)).row
    generalize h1.push (.cells [Value.string ls[i].1].toArray 9 (0, 0)) = h2 at e2 hrow ⊢
    refine hrow.rd ?_
    have hpl : ps.len = i := by
      have := ho.row.len
      simp only [List.length_map, List.length_take, Nat.mul_one] at this
      omega
    refine Own.app (ho.congr (h' := h2) fun b hb hlt _ => e2.old b hlt) rfl (by simp [one_str]) rfl (by omega) (by omega) (Nat.le_trans he.size e2.size) fun t3 h3 ho3 hl3 u3 hb3 => ?_
    refine ⟨⟨t3, i + 1, ?_, by omega, ?_, (he.trans e2).then u3 fun k hk => (ho.lt hk).1⟩, ?_⟩
    · rw [wrap64 (by omega) (by omega)]; rfl
    · rw [List.take_add_one, List.getElem?_eq_getElem hil, List.map_append]
      exact ho3
    · rw [wrap64 (by omega) (by omega)]
      omega
  · have hii : i = ls.length := by omega
    subst hii
    rw [List.take_length] at ho
    refine hk ps hh ?_ he
    rw [← hR.names, List.map_map]
    exact ho

/-- what is near: a loop that only reads -/
def nL (x : Int × Int) : List Value := [iv x.1, iv x.2]
theorem nL_len (x : Int × Int) : (nL x).length = 2 := rfl
theorem near_take (t : Int) {l : List (Int × Int)} {i : Nat} (hi : i < l.length) : nearN t (l.take (i + 1)) = nearN t (l.take i) + if t - l[i].1 < 900000 then l[i].2 else 0 := by
  rw [List.take_add_one, List.getElem?_eq_getElem hi, near_app]
  congr 1
  show nearN t [l[i]] = _
  unfold nearN
  by_cases h : t - l[i].1 < 900000
  · simp [h]
  · simp [h]
theorem near_nonneg (t : Int) {l : List (Int × Int)} (h : ∀ x, x ∈ l → 0 ≤ x.2) : 0 ≤ nearN t l := sum_nonneg fun x hx => by
  obtain ⟨y, hy, rfl⟩ := List.mem_map.1 hx
  exact h y (List.mem_filter.1 hy).1
theorem near_loop {h : Heap} {ps : Sl} {got : List (Int × Int)} (hr : Row h ps 2 (got.flatMap nL)) (hp : ∀ x, x ∈ got → 0 ≤ x.2) {at_ : Int} (ha : 0 ≤ at_ ∧ at_ ≤ 1152921504606846976) (hx : ∀ x, x ∈ got → 0 ≤ x.1 ∧ x.1 ≤ 1152921504606846976) {c : Int} (hc : nearN at_ got ≤ c) (hcm : c ≤ 4611686018427387904)
    {ap : Option Addr} {al asz : Nat} {ai : Int} (hat : ∀ K : Int → Prop, K at_ → idxA ap al ai asz fun b o => ldI h b o .i64 K) {R : (Int × Int × Unit) → Heap → Prop} (hk : ∀ x, R (nearN at_ got, x, ()) h) :
    loopM (σ := Int × Int × Unit) (fun J s hh =>
      iteP (decide (s.2.1 < (ps.len : Int))) (
        idxA ap al ai asz fun b o => ldI hh b o .i64 fun t1 =>
        idxA ps.ptr ps.len s.2.1 2 fun b1 o1 => ldI hh b1 o1 .i64 fun t2 =>
        iteP (decide (IntKind.wrap .i64 (t1 - t2) < 900000)) (
          idxA ps.ptr ps.len s.2.1 2 fun b2 o2 => ldI hh b2 (o2 + 1) .i64 fun t3 =>
          bindI (IntKind.wrap .i64 (s.1 + t3)) fun n4 => bindI (IntKind.wrap .i64 (s.2.1 + 1)) fun x5 => J (n4, x5, ()) hh) (
          bindI (IntKind.wrap .i64 (s.2.1 + 1)) fun x6 => J (s.1, x6, ()) hh)) (R s hh)) (0, 0, ()) h := by
  have hlen := rowLen nL_len hr (by decide)
  have hbig := hr.big
  have hcap := hr.cap
  refine loopM_intro (fun st hh => hh = h ∧ ∃ i : Nat, st = (nearN at_ (got.take i), (i : Int), ()) ∧ i ≤ got.length) (fun st _ => (ps.len - st.2.1).toNat) ⟨rfl, 0, rfl, Nat.zero_le _⟩ ?_
  rintro _ hh ⟨rfl, i, rfl, hi⟩
  dsimp only
  refine iteP_dec (fun q => ?_) fun q => ?_
  · have hil : i < got.length := by omega
    obtain ⟨b, o, hb, _, hidx, hcell⟩ := elemR nL_len hr (List.getElem?_eq_getElem hil) (by decide)
    have v0 := hcell 0 _ rfl
    have v1 := hcell 1 _ rfl
    simp only [Nat.add_zero] at v0
    have hm := List.getElem_mem hil
    have hxi := hx _ hm
    have hpi := hp _ hm
    have hni : 0 ≤ nearN at_ (got.take i) := near_nonneg _ fun x hx => hp x (List.mem_of_mem_take hx)
    have hnj : nearN at_ (got.take (i + 1)) ≤ c := by
      have e := near_app at_ (got.take (i + 1)) (got.drop (i + 1))
      rw [List.take_append_drop] at e
      have := near_nonneg at_ (l := got.drop (i + 1)) fun x hx => hp x (List.mem_of_mem_drop hx)
      omega
    have hs := near_take at_ hil
    refine hat _ (hidx rfl ?_)
    rw [ldI_ev v0, wrap64 (by omega) (by omega)]
    refine iteP_dec (fun q1 => ?_) fun q1 => ?_
    · rw [if_pos q1] at hs
      refine hidx rfl ?_
      rw [ldI_ev v1, bindI_ev, bindI_ev, wrap64 (by omega) (by omega), wrap64 (by omega) (by omega), ← hs]
      exact ⟨⟨rfl, i + 1, rfl, by omega⟩, by omega⟩
    · rw [if_neg q1] at hs
      rw [bindI_ev, wrap64 (by omega) (by omega)]
      refine ⟨⟨rfl, i + 1, ?_, by omega⟩, by omega⟩
      rw [hs, Int.add_zero]; rfl
  · have hii : i = got.length := by omega
    subst hii
    rw [List.take_length]
    exact hk _
theorem sumC_take {l : List F4} {i : Nat} (hi : i < l.length) : sumC (l.take (i + 1)) = sumC (l.take i) + l[i].2.2.1 := by
  unfold sumC
  rw [List.take_add_one, List.getElem?_eq_getElem hi, List.map_append, List.sum_append]
  simp
theorem sumC_nonneg {l : List F4} (h : ∀ x, x ∈ l → 0 ≤ x.2.2.1) : 0 ≤ sumC l := sum_nonneg fun x hx => by
  obtain ⟨y, hy, rfl⟩ := List.mem_map.1 hx
  exact h y hy
theorem sum_loop {h : Heap} {t : Sl} {l : List F4} (hr : Row h t 4 (l.flatMap f4L)) (hp : ∀ x, x ∈ l → 0 ≤ x.2.2.1) {c : Int} (hc : sumC l ≤ c) (hcm : c ≤ 4611686018427387904) {R : (Int × Int × Unit) → Heap → Prop} (hk : ∀ x, R (sumC l, x, ()) h) :
    loopM (σ := Int × Int × Unit) (fun J s hh =>
      iteP (decide (s.2.1 < (t.len : Int))) (
        idxA t.ptr t.len s.2.1 4 fun b o => ldI hh b (o + 2) .i64 fun t1 =>
        bindI (IntKind.wrap .i64 (s.1 + t1)) fun n4 => bindI (IntKind.wrap .i64 (s.2.1 + 1)) fun x5 => J (n4, x5, ()) hh) (R s hh)) (0, 0, ()) h := by
  have hlen := rowLen f4L_len hr (by decide)
  have hbig := hr.big
  have hcap := hr.cap
  refine loopM_intro (fun st hh => hh = h ∧ ∃ i : Nat, st = (sumC (l.take i), (i : Int), ()) ∧ i ≤ l.length) (fun st _ => (t.len - st.2.1).toNat) ⟨rfl, 0, rfl, Nat.zero_le _⟩ ?_
  rintro _ hh ⟨rfl, i, rfl, hi⟩
  dsimp only
  refine iteP_dec (fun q => ?_) fun q => ?_
  · have hil : i < l.length := by omega
    obtain ⟨b, o, hb, _, hidx, hcell⟩ := elemR f4L_len hr (List.getElem?_eq_getElem hil) (by decide)
    have v2 := hcell 2 _ rfl
    have hm := List.getElem_mem hil
    have hpi := hp _ hm
    have hni : 0 ≤ sumC (l.take i) := sumC_nonneg fun x hx => hp x (List.mem_of_mem_take hx)
    have hnj : sumC (l.take (i + 1)) ≤ c := by
      have : sumC (l.take (i + 1)) ≤ sumC l := sub_sum (List.take_sublist _ _) hp
      omega
    have hs := sumC_take hil
    refine hidx rfl ?_
    rw [ldI_ev v2, bindI_ev, bindI_ev, wrap64 (by omega) (by omega), wrap64 (by omega) (by omega), ← hs]
    exact ⟨⟨rfl, i + 1, rfl, by omega⟩, by omega⟩
  · have hii : i = l.length := by omega
    subst hii
    rw [List.take_length]
    exact hk _
theorem which_spec {n : Int} {K : Int → Heap → Prop} {h : Heap} (hk : ∀ k, 0 ≤ k ∧ k ≤ 2 → K k h) : m_spillwaytop_which n 3 K h := by
  unfold m_spillwaytop_which g_spillwaytop_which
  have h1 : -3 < Int.tmod n 3 ∧ Int.tmod n 3 < 3 := by
    have := Int.tmod_lt_of_pos n (show (0 : Int) < 3 by decide)
    have := Int.lt_tmod_of_pos n (show (0 : Int) < 3 by decide)
    omega
  refine bindI_intro ⟨by decide, bindI_intro (iteP_dec (fun q => bindI_intro (bindI_intro (hk _ ?_))) fun q => bindI_intro (hk _ (by omega)))⟩
  rw [wrap64 (by omega) (by omega)]
  omega
end Go.Proofs.Ytckcdkhiehdkkaa
