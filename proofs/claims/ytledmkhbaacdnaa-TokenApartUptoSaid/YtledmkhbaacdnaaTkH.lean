/- The token server: times, namespaces, flows. -/
import Derived.Test.YtledmkhbaacdnaaTkG
namespace Go.Proofs.Ytledmkhbaacdnaa
open Go Go.Fw
set_option linter.unusedSimpArgs false
set_option linter.unusedVariables false

def lookE (last at_ : Int) : Int := if 0 ≤ at_ ∧ at_ ≤ 1152921504606846976 then (if at_ < last then 7 else 0) else 2
theorem isTime_ev {at_ : Int} {K : Bool → Heap → Prop} {h : Heap} : m_token_isTime at_ K h = K (decide (0 ≤ at_ ∧ at_ ≤ 1152921504606846976)) h := by
  unfold m_token_isTime g_token_isTime
  rcases Decidable.em (0 ≤ at_) with h0 | h0
  · have e2 : decide (0 ≤ at_ ∧ at_ ≤ 1152921504606846976) = decide (at_ ≤ 1152921504606846976) := decide_eq_decide.2 ⟨fun h => h.2, fun h => ⟨h0, h⟩⟩
    rw [e2]
    exact propext ⟨fun hk => hk.1 (by simpa using h0), fun hk => iteP_pos (by simpa using h0) hk⟩
  · have e2 : decide (0 ≤ at_ ∧ at_ ≤ 1152921504606846976) = false := by simp [h0]
    rw [e2]
    exact propext ⟨fun hk => hk.2 (by simpa using h0), fun hk => iteP_neg (by simpa using h0) hk⟩
theorem look_ev {h : Heap} {sb : Nat} {b l : Int} {r : List Value} (hc : obj h sb = some (.cells (iv b :: iv l :: r).toArray 60 (0, 0))) {at_ : Int} {K : Int → Heap → Prop} :
    m_token_Server_look (some ⟨sb, 0, none⟩) at_ K h = K (lookE l at_) h := by
  unfold m_token_Server_look g_token_Server_look lookE
  simp (maxDischargeDepth := 60) only [evAll, listPuts, Addr.mk.injEq, Option.map_some, Option.getD_some, Option.getD_none, Option.isSome_some, Option.isSome_none, Option.isNone_some, Option.isNone_none, List.all_cons, List.all_nil, List.length_cons, List.length_nil, List.set_cons_zero, List.set_cons_succ, List.getElem?_cons_zero, List.getElem?_cons_succ, List.getElem?_nil, Option.some.injEq, Value.int.injEq, Value.bool.injEq, Value.string.injEq, Value.pointer.injEq, Value.map.injEq, Prod.mk.injEq, exists_eq_left, exists_eq_left', if_true, if_false, decide_true, decide_false, Nat.reduceAdd, Nat.reduceLT, Nat.reduceLeDiff, Nat.reduceEqDiff, Nat.reduceMul, reduceCtorEq, beq_self_eq_true, isTime_ev]
  by_cases h1 : 0 ≤ at_ ∧ at_ ≤ 1152921504606846976
  · simp (maxDischargeDepth := 60) only [evAll, listPuts, Addr.mk.injEq, Option.map_some, Option.getD_some, Option.getD_none, Option.isSome_some, Option.isSome_none, Option.isNone_some, Option.isNone_none, List.all_cons, List.all_nil, List.length_cons, List.length_nil, List.set_cons_zero, List.set_cons_succ, List.getElem?_cons_zero, List.getElem?_cons_succ, List.getElem?_nil, Option.some.injEq, Value.int.injEq, Value.bool.injEq, Value.string.injEq, Value.pointer.injEq, Value.map.injEq, Prod.mk.injEq, exists_eq_left, exists_eq_left', if_true, if_false, decide_true, decide_false, Nat.reduceAdd, Nat.reduceLT, Nat.reduceLeDiff, Nat.reduceEqDiff, Nat.reduceMul, reduceCtorEq, beq_self_eq_true, h1, hc]
    by_cases h2 : at_ < l
    · simp only [h2, decide_true, iteT_ev, if_true]
    · simp only [h2, decide_false, iteF_ev, if_false]
  · simp (maxDischargeDepth := 60) only [evAll, listPuts, Addr.mk.injEq, Option.map_some, Option.getD_some, Option.getD_none, Option.isSome_some, Option.isSome_none, Option.isNone_some, Option.isNone_none, List.all_cons, List.all_nil, List.length_cons, List.length_nil, List.set_cons_zero, List.set_cons_succ, List.getElem?_cons_zero, List.getElem?_cons_succ, List.getElem?_nil, Option.some.injEq, Value.int.injEq, Value.bool.injEq, Value.string.injEq, Value.pointer.injEq, Value.map.injEq, Prod.mk.injEq, exists_eq_left, exists_eq_left', if_true, if_false, decide_true, decide_false, Nat.reduceAdd, Nat.reduceLT, Nat.reduceLeDiff, Nat.reduceEqDiff, Nat.reduceMul, reduceCtorEq, beq_self_eq_true, h1]
theorem look_nil {at_ : Int} {K : Int → Heap → Prop} {h : Heap} : m_token_Server_look none at_ K h = K 1 h := by
  unfold m_token_Server_look g_token_Server_look
  simp (maxDischargeDepth := 60) only [evAll, listPuts, Addr.mk.injEq, Option.map_some, Option.getD_some, Option.getD_none, Option.isSome_some, Option.isSome_none, Option.isNone_some, Option.isNone_none, List.all_cons, List.all_nil, List.length_cons, List.length_nil, List.set_cons_zero, List.set_cons_succ, List.getElem?_cons_zero, List.getElem?_cons_succ, List.getElem?_nil, Option.some.injEq, Value.int.injEq, Value.bool.injEq, Value.string.injEq, Value.pointer.injEq, Value.map.injEq, Prod.mk.injEq, exists_eq_left, exists_eq_left', if_true, if_false, decide_true, decide_false, Nat.reduceAdd, Nat.reduceLT, Nat.reduceLeDiff, Nat.reduceEqDiff, Nat.reduceMul, reduceCtorEq, beq_self_eq_true]

/-! ### the first of a list -/
theorem find_some {α : Type} {p : α → Bool} : ∀ {l : List α} {i : Nat} {a : α}, l[i]? = some a → p a = true → (∀ (j : Nat) (b : α), j < i → l[j]? = some b → p b = false) → l.findIdx? p = some i
  | [], i, a, h, _, _ => by simp at h
  | x :: l, 0, a, h, hp, _ => by
    simp at h
    subst h
    simp [List.findIdx?_cons, hp]
  | x :: l, i + 1, a, h, hp, hn => by
    have hx := hn 0 x (by omega) (by simp)
    rw [List.findIdx?_cons, hx, find_some (l := l) (i := i) (by simpa using h) hp fun j b hj hb => hn (j + 1) b (by omega) (by simpa using hb)]
    rfl
theorem find_none {α : Type} {p : α → Bool} {l : List α} (hn : ∀ (j : Nat) (b : α), l[j]? = some b → p b = false) : l.findIdx? p = none := by
  rw [List.findIdx?_eq_none_iff]
  intro x hx
  obtain ⟨j, hj⟩ := List.getElem?_of_mem hx
  exact hn j x hj
def ixV {α : Type} (p : α → Bool) (l : List α) : Int := match l.findIdx? p with
  | some i => i
  | none => -1
theorem ixV_some {α : Type} {p : α → Bool} {l : List α} {i : Nat} (h : l.findIdx? p = some i) : ixV p l = i := by unfold ixV; rw [h]
theorem ixV_none {α : Type} {p : α → Bool} {l : List α} (h : l.findIdx? p = none) : ixV p l = -1 := by unfold ixV; rw [h]

/-- the place of the first that a test lets through -/
theorem index_loop {α : Type} {g : α → List Value} {n : Nat} (hg : ∀ a, (g a).length = n) {h : Heap} {s : Sl} {l : List α} (hr : Row h s n (l.flatMap g)) (hn : 0 < n) {p : α → Bool} {K : Int → Heap → Prop}
    {tst : (Bool → Heap → Prop) → Nat → Nat → Heap → Prop}
    (ht : ∀ (i : Nat) (a : α) (b o : Nat) (hh : Heap) (Q : Bool → Heap → Prop), l[i]? = some a → Ext h hh → (∀ j v, (g a)[j]? = some v → objCell (o + j) (obj hh b) = some v) → (∀ h', Ext h h' → Q (p a) h') → tst Q b o hh)
    (hk : ∀ h', Ext h h' → K (ixV p l) h') :
    bindI 0 fun _ => loopM (σ := Int × Unit) (fun J1 s2 h3 =>
      (fun (s8 : Int) => iteP (decide (s8 < (s.len : Int))) (bindI s8 fun i => idxA s.ptr s.len i n fun b o => tst (fun t6 h7 => iteP t6 (bindI i fun t8 => K t8 h7) (J1 (IntKind.wrap .i64 (s8 + 1), ()) h7)) b o h3) (bindI (-1) fun t9 => K t9 h3)) s2.1) (0, ()) h := by
  have hl := rowLen hg hr hn
  have hbig := hr.big
  have hcap := hr.cap
  refine bindI_intro (loopM_intro (fun st hh => ∃ i : Nat, st = ((i : Int), ()) ∧ i ≤ l.length ∧ Ext h hh ∧ ∀ (j : Nat) (b : α), j < i → l[j]? = some b → p b = false) (fun st _ => (s.len - st.1).toNat) ⟨0, rfl, by omega, Ext.refl _, fun j b hj => by omega⟩ ?_)
  rintro _ hh ⟨i, rfl, hi, he, hp⟩
  dsimp only
  refine iteP_dec (fun q => ?_) fun q => ?_
  · obtain ⟨a, ha⟩ : ∃ a, l[i]? = some a := ⟨_, List.getElem?_eq_getElem (by omega)⟩
    obtain ⟨b, o, hb, _, hidx, hcell⟩ := elemR hg (hr.ext he) ha hn
    refine bindI_intro (hidx rfl (ht i a b o hh _ ha he hcell fun h' he' => ?_))
    cases hpa : p a with
    | true =>
      refine iteP_true (bindI_intro ?_)
      rw [← ixV_some (find_some ha hpa hp)]
      exact hk h' he'
    | false =>
      refine iteP_false ⟨⟨i + 1, ?_, by omega, he', fun j b hj hb => ?_⟩, ?_⟩
      · rw [wrap64 (by omega) (by omega)]; rfl
      · rcases (show j < i ∨ j = i by omega) with hji | rfl
        · exact hp j b hji hb
        · rw [ha] at hb; cases hb; exact hpa
      · rw [wrap64 (by omega) (by omega)]
        omega
  · refine bindI_intro ?_
    rw [← ixV_none (find_none (p := p) (l := l) fun j b hb => hp j b (by have := idx_lt hb; omega) hb)]
    exact hk hh he

theorem space_spec {h : Heap} {sb : Nat} {x0 x1 : Value} {sp : Sl} {r : List Value} (hc : obj h sb = some (.cells (x0 :: x1 :: slV sp :: r).toArray 60 (0, 0))) {ls : List Sp3} (hs : Row h sp 2 (ls.flatMap spL)) {name : ByteArray} {K : Int → Heap → Prop}
    (hk : ∀ h', Ext h h' → K (ixV (fun x => strEq x.1 name) ls) h') : m_token_Server_space (some ⟨sb, 0, none⟩) name K h := by
  unfold m_token_Server_space g_token_Server_space
  have l0 := obj_lt hc
  simp (maxDischargeDepth := 60) only [evAll, listPuts, Addr.mk.injEq, Option.map_some, Option.getD_some, Option.getD_none, Option.isSome_some, Option.isSome_none, Option.isNone_some, Option.isNone_none, List.all_cons, List.all_nil, List.length_cons, List.length_nil, List.set_cons_zero, List.set_cons_succ, List.getElem?_cons_zero, List.getElem?_cons_succ, List.getElem?_nil, Option.some.injEq, Value.int.injEq, Value.bool.injEq, Value.string.injEq, Value.pointer.injEq, Value.map.injEq, Prod.mk.injEq, exists_eq_left, exists_eq_left', if_true, if_false, decide_true, decide_false, Nat.reduceAdd, Nat.reduceLT, Nat.reduceLeDiff, Nat.reduceEqDiff, Nat.reduceMul, reduceCtorEq, beq_self_eq_true, hc, lt_ne0 l0]
  unfold m_slices_IndexFunc_token_space_token_space___token_Server_space_1 g_slices_IndexFunc_token_space_token_space___token_Server_space_1
  have e1 := Ext.push h (.cells [Value.string name].toArray 9 (0, 0))
  refine index_loop spL_len (hs.ext e1) (by decide) (p := fun x => strEq x.1 name) (tst := fun Q b o h3 => ldS h3 b o fun t4 => ldL h3 b (o + 1) fun t5 => m_token_Server_space_1 (t4, t5, ()) (some ⟨sz h, 0, none⟩) Q h3) ?_ ?_
  · intro i a b o hh Q ha he hcell hQ
    have v0 := hcell 0 _ rfl
    have v1 := hcell 1 _ rfl
    simp only [Nat.add_zero] at v0
    have c0 : obj hh (sz h) = some (.cells [Value.string name].toArray 9 (0, 0)) := keepX (by simp (maxDischargeDepth := 60) only [evAll, listPuts, Addr.mk.injEq, Option.map_some, Option.getD_some, Option.getD_none, Option.isSome_some, Option.isSome_none, Option.isNone_some, Option.isNone_none, List.all_cons, List.all_nil, List.length_cons, List.length_nil, List.set_cons_zero, List.set_cons_succ, List.getElem?_cons_zero, List.getElem?_cons_succ, List.getElem?_nil, Option.some.injEq, Value.int.injEq, Value.bool.injEq, Value.string.injEq, Value.pointer.injEq, Value.map.injEq, Prod.mk.injEq, exists_eq_left, exists_eq_left', if_true, if_false, decide_true, decide_false, Nat.reduceAdd, Nat.reduceLT, Nat.reduceLeDiff, Nat.reduceEqDiff, Nat.reduceMul, reduceCtorEq, beq_self_eq_true]) he
    have l1 := obj_lt c0
    simp (maxDischargeDepth := 60) only [evAll, listPuts, Addr.mk.injEq, Option.map_some, Option.getD_some, Option.getD_none, Option.isSome_some, Option.isSome_none, Option.isNone_some, Option.isNone_none, List.all_cons, List.all_nil, List.length_cons, List.length_nil, List.set_cons_zero, List.set_cons_succ, List.getElem?_cons_zero, List.getElem?_cons_succ, List.getElem?_nil, Option.some.injEq, Value.int.injEq, Value.bool.injEq, Value.string.injEq, Value.pointer.injEq, Value.map.injEq, Prod.mk.injEq, exists_eq_left, exists_eq_left', if_true, if_false, decide_true, decide_false, Nat.reduceAdd, Nat.reduceLT, Nat.reduceLeDiff, Nat.reduceEqDiff, Nat.reduceMul, reduceCtorEq, beq_self_eq_true, v0, v1]
    unfold m_token_Server_space_1 g_token_Server_space_1
    simp (maxDischargeDepth := 60) only [evAll, listPuts, Addr.mk.injEq, Option.map_some, Option.getD_some, Option.getD_none, Option.isSome_some, Option.isSome_none, Option.isNone_some, Option.isNone_none, List.all_cons, List.all_nil, List.length_cons, List.length_nil, List.set_cons_zero, List.set_cons_succ, List.getElem?_cons_zero, List.getElem?_cons_succ, List.getElem?_nil, Option.some.injEq, Value.int.injEq, Value.bool.injEq, Value.string.injEq, Value.pointer.injEq, Value.map.injEq, Prod.mk.injEq, exists_eq_left, exists_eq_left', if_true, if_false, decide_true, decide_false, Nat.reduceAdd, Nat.reduceLT, Nat.reduceLeDiff, Nat.reduceEqDiff, Nat.reduceMul, reduceCtorEq, beq_self_eq_true, c0, lt_ne0 l1]
    exact hQ _ (ext_push he)
  · intro h' he
    exact hk h' (e1.trans he)

/-! ### which flow -/
def hitF (ns : ByteArray) (id : Int) (name : ByteArray) (f : F4) : Bool := f.1 == id && (strEq ns (ByteArray.mk #[]) || strEq name ns)
def flowV (l : List (ByteArray × List F4)) (ns : ByteArray) (id : Int) : Option F4 := (l.flatMap fun x => x.2.filter (hitF ns id x.1)).head?
theorem flow_none {l : List (ByteArray × List F4)} {ns : ByteArray} {id : Int} (h : ∀ x, x ∈ l → ∀ f, f ∈ x.2 → hitF ns id x.1 f = false) : flowV l ns id = none := by
  unfold flowV
  rw [List.head?_eq_none_iff, List.flatMap_eq_nil_iff]
  intro x hx
  rw [List.filter_eq_nil_iff]
  intro f hf
  rw [h x hx f hf]
  decide
theorem flow_some {l : List (ByteArray × List F4)} {ns : ByteArray} {id : Int} {i k : Nat} {x : ByteArray × List F4} {f : F4} (hx : l[i]? = some x) (hf : x.2[k]? = some f) (hh : hitF ns id x.1 f = true)
    (h1 : ∀ (j : Nat) (y : ByteArray × List F4), j < i → l[j]? = some y → ∀ f, f ∈ y.2 → hitF ns id y.1 f = false) (h2 : ∀ (j : Nat) (g : F4), j < k → x.2[j]? = some g → hitF ns id x.1 g = false) : flowV l ns id = some f := by
  have sp1 : l = l.take i ++ x :: l.drop (i + 1) := by
    obtain ⟨hil, e⟩ := List.getElem?_eq_some_iff.1 hx
    rw [← e, List.getElem_cons_drop, List.take_append_drop]
  have sp2 : x.2 = x.2.take k ++ f :: x.2.drop (k + 1) := by
    obtain ⟨hil, e⟩ := List.getElem?_eq_some_iff.1 hf
    rw [← e, List.getElem_cons_drop, List.take_append_drop]
  have n1 : (l.take i).flatMap (fun x => x.2.filter (hitF ns id x.1)) = [] := by
    rw [List.flatMap_eq_nil_iff]
    intro y hy
    obtain ⟨j, hj⟩ := List.getElem?_of_mem hy
    rw [List.getElem?_take] at hj
    split at hj
    · rw [List.filter_eq_nil_iff]
      intro g hg
      rw [h1 j y (by assumption) hj g hg]
      decide
    · cases hj
  have n2 : (x.2.take k).filter (hitF ns id x.1) = [] := by
    rw [List.filter_eq_nil_iff]
    intro g hg
    obtain ⟨j, hj⟩ := List.getElem?_of_mem hg
    rw [List.getElem?_take] at hj
    split at hj
    · rw [h2 j g (by assumption) hj]
      decide
    · cases hj
  have n3 : x.2.filter (hitF ns id x.1) = f :: (x.2.drop (k + 1)).filter (hitF ns id x.1) := by
    conv => lhs; rw [sp2]
    rw [List.filter_append, n2, List.nil_append, List.filter_cons, hh]
    simp
  unfold flowV
  rw [sp1, List.flatMap_append, n1, List.nil_append, List.flatMap_cons, n3]
  rfl

theorem flow_spec {h : Heap} {sb : Nat} {x0 x1 : Value} {sp : Sl} {r : List Value} (hc : obj h sb = some (.cells (x0 :: x1 :: slV sp :: r).toArray 60 (0, 0))) {T : Nat → Option Nat} {ls : List Sp3} (hs : SpR h T sp ls) {l : List (ByteArray × List F4)} (hl : ls.map (fun x => (x.1, x.2.2)) = l) {ns : ByteArray} {id : Int} {K : F4 → Bool → Heap → Prop}
    (hk : ∀ h', Ext h h' → K ((flowV l ns id).getD zF) (flowV l ns id).isSome h') : m_token_Server_flow (some ⟨sb, 0, none⟩) ns id K h := by
  unfold m_token_Server_flow g_token_Server_flow
  have l0 := obj_lt hc
  simp (maxDischargeDepth := 60) only [evAll, listPuts, Addr.mk.injEq, Option.map_some, Option.getD_some, Option.getD_none, Option.isSome_some, Option.isSome_none, Option.isNone_some, Option.isNone_none, List.all_cons, List.all_nil, List.length_cons, List.length_nil, List.set_cons_zero, List.set_cons_succ, List.getElem?_cons_zero, List.getElem?_cons_succ, List.getElem?_nil, Option.some.injEq, Value.int.injEq, Value.bool.injEq, Value.string.injEq, Value.pointer.injEq, Value.map.injEq, Prod.mk.injEq, exists_eq_left, exists_eq_left', if_true, if_false, decide_true, decide_false, Nat.reduceAdd, Nat.reduceLT, Nat.reduceLeDiff, Nat.reduceEqDiff, Nat.reduceMul, reduceCtorEq, beq_self_eq_true, hc, lt_ne0 l0]
  have e1 : Ext h (h.push (.cells [iv 0, iv 0, iv 0, iv 0].toArray 53 (0, 0))) := Ext.push _ _
  have hrow := hs.own.row
  have hlen := rowLen spL_len hrow (by decide)
  have hb1 := hrow.big
  have hb2 := hrow.cap
  have sub : ∀ (i : Nat) (y : ByteArray × List F4), l[i]? = some y → ∃ x, ls[i]? = some x ∧ (x.1, x.2.2) = y := fun i y hy => by
    rw [← hl, List.getElem?_map] at hy
    cases hx : ls[i]? with
    | none => rw [hx] at hy; cases hy
    | some x => rw [hx] at hy; exact ⟨x, rfl, Option.some.inj hy⟩
  refine loopQ (fun st hh => ∃ i : Nat, st = ((i : Int), ()) ∧ i ≤ ls.length ∧ Ext h hh ∧ obj hh (sz h) = some (.cells [iv 0, iv 0, iv 0, iv 0].toArray 53 (0, 0)) ∧ ∀ (j : Nat) (y : ByteArray × List F4), j < i → l[j]? = some y → ∀ f, f ∈ y.2 → hitF ns id y.1 f = false)
    (fun st _ => (sp.len - st.1).toNat) ⟨0, rfl, by omega, e1, by simp (maxDischargeDepth := 60) only [evAll, listPuts, Addr.mk.injEq, Option.map_some, Option.getD_some, Option.getD_none, Option.isSome_some, Option.isSome_none, Option.isNone_some, Option.isNone_none, List.all_cons, List.all_nil, List.length_cons, List.length_nil, List.set_cons_zero, List.set_cons_succ, List.getElem?_cons_zero, List.getElem?_cons_succ, List.getElem?_nil, Option.some.injEq, Value.int.injEq, Value.bool.injEq, Value.string.injEq, Value.pointer.injEq, Value.map.injEq, Prod.mk.injEq, exists_eq_left, exists_eq_left', if_true, if_false, decide_true, decide_false, Nat.reduceAdd, Nat.reduceLT, Nat.reduceLeDiff, Nat.reduceEqDiff, Nat.reduceMul, reduceCtorEq, beq_self_eq_true], fun j y hj => by omega⟩ ?_
  rintro _ hh ⟨i, rfl, hi, he, hz0, hp⟩ Q hQ
  have g0 := obj_lt hz0
  dsimp only
  refine iteP_dec (fun q => ?_) fun q => ?_
  · obtain ⟨x, hx⟩ : ∃ x, ls[i]? = some x := ⟨_, List.getElem?_eq_getElem (by omega)⟩
    obtain ⟨b, o, hb, _, hidx, hcell⟩ := elemR spL_len (hrow.ext he) hx (by decide)
    have hrf := ((hs.rows x (List.mem_of_getElem? hx)).1).ext he
    have hlx : l[i]? = some (x.1, x.2.2) := by rw [← hl, List.getElem?_map, hx]; rfl
    have v0 := hcell 0 _ rfl
    have v1 := hcell 1 _ rfl
    simp only [Nat.add_zero] at v0
    refine hidx rfl ?_
    simp (maxDischargeDepth := 60) only [evAll, listPuts, Addr.mk.injEq, Option.map_some, Option.getD_some, Option.getD_none, Option.isSome_some, Option.isSome_none, Option.isNone_some, Option.isNone_none, List.all_cons, List.all_nil, List.length_cons, List.length_nil, List.set_cons_zero, List.set_cons_succ, List.getElem?_cons_zero, List.getElem?_cons_succ, List.getElem?_nil, Option.some.injEq, Value.int.injEq, Value.bool.injEq, Value.string.injEq, Value.pointer.injEq, Value.map.injEq, Prod.mk.injEq, exists_eq_left, exists_eq_left', if_true, if_false, decide_true, decide_false, Nat.reduceAdd, Nat.reduceLT, Nat.reduceLeDiff, Nat.reduceEqDiff, Nat.reduceMul, reduceCtorEq, beq_self_eq_true, v0, v1]
    have hlf := rowLen f4L_len hrf (by decide)
    have hb3 := hrf.big
    have hb4 := hrf.cap
    refine loopQ (fun st h2 => ∃ k : Nat, st = ((k : Int), ()) ∧ k ≤ x.2.2.length ∧ Ext hh h2 ∧ obj h2 (sz hh) = some (.cells [.string x.1, slV x.2.1].toArray 69 (0, 0)) ∧ ∀ (j : Nat) (g : F4), j < k → x.2.2[j]? = some g → hitF ns id x.1 g = false)
      (fun st _ => (x.2.1.len - st.1).toNat) ⟨0, rfl, by omega, ?_, ?_, fun j y hj => by omega⟩ ?_
    · simp +arith (maxDischargeDepth := 60) only [evAll, listPuts, Addr.mk.injEq, Option.map_some, Option.getD_some, Option.getD_none, Option.isSome_some, Option.isSome_none, Option.isNone_some, Option.isNone_none, List.all_cons, List.all_nil, List.length_cons, List.length_nil, List.set_cons_zero, List.set_cons_succ, List.getElem?_cons_zero, List.getElem?_cons_succ, List.getElem?_nil, Option.some.injEq, Value.int.injEq, Value.bool.injEq, Value.string.injEq, Value.pointer.injEq, Value.map.injEq, Prod.mk.injEq, exists_eq_left, exists_eq_left', if_true, if_false, decide_true, decide_false, Nat.reduceAdd, Nat.reduceLT, Nat.reduceLeDiff, Nat.reduceEqDiff, Nat.reduceMul, reduceCtorEq, beq_self_eq_true, ext_puts, ext_push]
    · simp (maxDischargeDepth := 60) only [evAll, listPuts, Addr.mk.injEq, Option.map_some, Option.getD_some, Option.getD_none, Option.isSome_some, Option.isSome_none, Option.isNone_some, Option.isNone_none, List.all_cons, List.all_nil, List.length_cons, List.length_nil, List.set_cons_zero, List.set_cons_succ, List.getElem?_cons_zero, List.getElem?_cons_succ, List.getElem?_nil, Option.some.injEq, Value.int.injEq, Value.bool.injEq, Value.string.injEq, Value.pointer.injEq, Value.map.injEq, Prod.mk.injEq, exists_eq_left, exists_eq_left', if_true, if_false, decide_true, decide_false, Nat.reduceAdd, Nat.reduceLT, Nat.reduceLeDiff, Nat.reduceEqDiff, Nat.reduceMul, reduceCtorEq, beq_self_eq_true]
    rintro _ h2 ⟨k, rfl, hk2, he2, hsp, hp2⟩ Q2 hQ2
    have g1 := obj_lt hsp
    have z2 := ext_sz he2
    dsimp only
    refine iteP_dec (fun q2 => ?_) fun q2 => ?_
    · obtain ⟨f, hf⟩ : ∃ f, x.2.2[k]? = some f := ⟨_, List.getElem?_eq_getElem (by omega)⟩
      obtain ⟨b2, o2, _, _, hidx2, hcell2⟩ := elemR f4L_len (hrf.ext he2) hf (by decide)
      refine hidx2 rfl ?_
      have w0 := hcell2 0 _ rfl
      have w1 := hcell2 1 _ rfl
      have w2 := hcell2 2 _ rfl
      have w3 := hcell2 3 _ rfl
      simp only [Nat.add_zero] at w0
      have hz2 := keepX hz0 he2
      have g2 := obj_lt hz2
      have hwr : IntKind.wrap .i64 ((k : Int) + 1) = ((k + 1 : Nat) : Int) := by rw [wrap64 (by omega) (by omega)]; rfl
      have n01 : (sz h = sz h2) = False := eq_false (by omega)
      have n02 : (sz h2 = sz h) = False := eq_false (by omega)
      have n03 : (sz hh = sz h2) = False := eq_false (by omega)
      have goF : hitF ns id x.1 f = true → ∀ h9, Ext h h9 → K f true h9 := fun hh9 h9 he9 => by
        have := hk h9 he9
        rw [flow_some hlx hf hh9 hp hp2] at this
        exact this
      have goN : ∀ h9, Ext hh h9 → obj h9 (sz hh) = some (.cells [.string x.1, slV x.2.1].toArray 69 (0, 0)) → hitF ns id x.1 f = false → Q2 (((k + 1 : Nat) : Int), ()) h9 := fun h9 e9 o9 hn9 =>
        hQ2 _ _ ⟨k + 1, rfl, by omega, e9, o9, fun j g hj hg => by
          rcases (show j < k ∨ j = k by omega) with hjk | rfl
          · exact hp2 j g hjk hg
          · rw [hf] at hg; cases hg; exact hn9⟩ (by dsimp only; omega)
      have eN : Ext hh (Heap.puts (h2.push (.cells [iv 0, iv 0, iv 0, iv 0].toArray 53 (0, 0))) (sz h2) 0 [iv f.1, iv f.2.1, iv f.2.2.1, iv f.2.2.2.1]) := ext_puts (ext_push he2) z2
      simp (maxDischargeDepth := 60) only [evAll, listPuts, Addr.mk.injEq, Option.map_some, Option.getD_some, Option.getD_none, Option.isSome_some, Option.isSome_none, Option.isNone_some, Option.isNone_none, List.all_cons, List.all_nil, List.length_cons, List.length_nil, List.set_cons_zero, List.set_cons_succ, List.getElem?_cons_zero, List.getElem?_cons_succ, List.getElem?_nil, Option.some.injEq, Value.int.injEq, Value.bool.injEq, Value.string.injEq, Value.pointer.injEq, Value.map.injEq, Prod.mk.injEq, exists_eq_left, exists_eq_left', if_true, if_false, decide_true, decide_false, Nat.reduceAdd, Nat.reduceLT, Nat.reduceLeDiff, Nat.reduceEqDiff, Nat.reduceMul, reduceCtorEq, beq_self_eq_true, w0, w1, w2, w3]
      refine ⟨fun c1 => ⟨fun c2 => ?_, fun c2 => ?_⟩, fun c1 => ?_⟩
      · have hF := goF (by unfold hitF; rw [c1, c2]; rfl)
        simp (maxDischargeDepth := 60) only [evAll, listPuts, Addr.mk.injEq, Option.map_some, Option.getD_some, Option.getD_none, Option.isSome_some, Option.isSome_none, Option.isNone_some, Option.isNone_none, List.all_cons, List.all_nil, List.length_cons, List.length_nil, List.set_cons_zero, List.set_cons_succ, List.getElem?_cons_zero, List.getElem?_cons_succ, List.getElem?_nil, Option.some.injEq, Value.int.injEq, Value.bool.injEq, Value.string.injEq, Value.pointer.injEq, Value.map.injEq, Prod.mk.injEq, exists_eq_left, exists_eq_left', if_true, if_false, decide_true, decide_false, Nat.reduceAdd, Nat.reduceLT, Nat.reduceLeDiff, Nat.reduceEqDiff, Nat.reduceMul, reduceCtorEq, beq_self_eq_true, hz2, n01, n02]
        exact hF _ (ext_puts (he.trans eN) (by omega))
      · simp (maxDischargeDepth := 60) only [evAll, listPuts, Addr.mk.injEq, Option.map_some, Option.getD_some, Option.getD_none, Option.isSome_some, Option.isSome_none, Option.isNone_some, Option.isNone_none, List.all_cons, List.all_nil, List.length_cons, List.length_nil, List.set_cons_zero, List.set_cons_succ, List.getElem?_cons_zero, List.getElem?_cons_succ, List.getElem?_nil, Option.some.injEq, Value.int.injEq, Value.bool.injEq, Value.string.injEq, Value.pointer.injEq, Value.map.injEq, Prod.mk.injEq, exists_eq_left, exists_eq_left', if_true, if_false, decide_true, decide_false, Nat.reduceAdd, Nat.reduceLT, Nat.reduceLeDiff, Nat.reduceEqDiff, Nat.reduceMul, reduceCtorEq, beq_self_eq_true, hsp, n03]
        refine ⟨fun c3 => ?_, fun c3 => ?_⟩
        · have hF := goF (by unfold hitF; rw [c1, c2, c3]; rfl)
          simp (maxDischargeDepth := 60) only [evAll, listPuts, Addr.mk.injEq, Option.map_some, Option.getD_some, Option.getD_none, Option.isSome_some, Option.isSome_none, Option.isNone_some, Option.isNone_none, List.all_cons, List.all_nil, List.length_cons, List.length_nil, List.set_cons_zero, List.set_cons_succ, List.getElem?_cons_zero, List.getElem?_cons_succ, List.getElem?_nil, Option.some.injEq, Value.int.injEq, Value.bool.injEq, Value.string.injEq, Value.pointer.injEq, Value.map.injEq, Prod.mk.injEq, exists_eq_left, exists_eq_left', if_true, if_false, decide_true, decide_false, Nat.reduceAdd, Nat.reduceLT, Nat.reduceLeDiff, Nat.reduceEqDiff, Nat.reduceMul, reduceCtorEq, beq_self_eq_true, hz2, n01, n02]
          exact hF _ (ext_puts (he.trans eN) (by omega))
        · rw [hwr]
          exact goN _ eN (by simp (maxDischargeDepth := 60) only [evAll, listPuts, Addr.mk.injEq, Option.map_some, Option.getD_some, Option.getD_none, Option.isSome_some, Option.isSome_none, Option.isNone_some, Option.isNone_none, List.all_cons, List.all_nil, List.length_cons, List.length_nil, List.set_cons_zero, List.set_cons_succ, List.getElem?_cons_zero, List.getElem?_cons_succ, List.getElem?_nil, Option.some.injEq, Value.int.injEq, Value.bool.injEq, Value.string.injEq, Value.pointer.injEq, Value.map.injEq, Prod.mk.injEq, exists_eq_left, exists_eq_left', if_true, if_false, decide_true, decide_false, Nat.reduceAdd, Nat.reduceLT, Nat.reduceLeDiff, Nat.reduceEqDiff, Nat.reduceMul, reduceCtorEq, beq_self_eq_true, hsp, n03]) (by unfold hitF; rw [c1, c2, c3]; rfl)
      · rw [hwr]
        exact goN _ eN (by simp (maxDischargeDepth := 60) only [evAll, listPuts, Addr.mk.injEq, Option.map_some, Option.getD_some, Option.getD_none, Option.isSome_some, Option.isSome_none, Option.isNone_some, Option.isNone_none, List.all_cons, List.all_nil, List.length_cons, List.length_nil, List.set_cons_zero, List.set_cons_succ, List.getElem?_cons_zero, List.getElem?_cons_succ, List.getElem?_nil, Option.some.injEq, Value.int.injEq, Value.bool.injEq, Value.string.injEq, Value.pointer.injEq, Value.map.injEq, Prod.mk.injEq, exists_eq_left, exists_eq_left', if_true, if_false, decide_true, decide_false, Nat.reduceAdd, Nat.reduceLT, Nat.reduceLeDiff, Nat.reduceEqDiff, Nat.reduceMul, reduceCtorEq, beq_self_eq_true, hsp, n03]) (by unfold hitF; rw [c1]; rfl)
    · have hwr : IntKind.wrap .i64 ((i : Int) + 1) = ((i + 1 : Nat) : Int) := by rw [wrap64 (by omega) (by omega)]; rfl
      rw [hwr]
      refine hQ _ _ ⟨i + 1, rfl, by omega, he.trans he2, keepX hz0 he2, fun j y hj hy f hf => ?_⟩ (by dsimp only; omega)
      rcases (show j < i ∨ j = i by omega) with hji | rfl
      · exact hp j y hji hy f hf
      · rw [hlx] at hy
        cases hy
        obtain ⟨m, hm⟩ := List.getElem?_of_mem hf
        exact hp2 m f (by have := idx_lt hm; dsimp only at this; omega) hm
  · have hn : flowV l ns id = none := flow_none fun x hx f hf => by
      obtain ⟨j, hj⟩ := List.getElem?_of_mem hx
      obtain ⟨y, hy, _⟩ := sub j x hj
      exact hp j x (by have := idx_lt hy; omega) hj f hf
    rw [hn] at hk
    simp (maxDischargeDepth := 60) only [evAll, listPuts, Addr.mk.injEq, Option.map_some, Option.getD_some, Option.getD_none, Option.isSome_some, Option.isSome_none, Option.isNone_some, Option.isNone_none, List.all_cons, List.all_nil, List.length_cons, List.length_nil, List.set_cons_zero, List.set_cons_succ, List.getElem?_cons_zero, List.getElem?_cons_succ, List.getElem?_nil, Option.some.injEq, Value.int.injEq, Value.bool.injEq, Value.string.injEq, Value.pointer.injEq, Value.map.injEq, Prod.mk.injEq, exists_eq_left, exists_eq_left', if_true, if_false, decide_true, decide_false, Nat.reduceAdd, Nat.reduceLT, Nat.reduceLeDiff, Nat.reduceEqDiff, Nat.reduceMul, reduceCtorEq, beq_self_eq_true, hz0]
    exact hk _ (ext_puts he (by omega))
end Go.Proofs.Ytledmkhbaacdnaa
