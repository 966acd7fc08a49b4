/- The token server: which flows may be. -/
import Derived.Test.YtledmkhbaacdnaaTkO
namespace Go.Proofs.Ytledmkhbaacdnaa
open Go Go.Fw
set_option linter.unusedSimpArgs false
set_option linter.unusedVariables false

theorem within_spec {n lo hi : Int} {K : Bool → Heap → Prop} {h : Heap} (hk : K (inB n lo hi) h) : m_rules_within n lo hi K h := by
  unfold m_rules_within g_rules_within
  unfold inB at hk
  refine ⟨fun e => bindB_intro ?_, fun e => ?_⟩
  · rw [e] at hk; exact hk
  · rw [e] at hk; exact hk

theorem rName_spec {s : ByteArray} (hs : s.size < 9223372036854775808) {K : Bool → Heap → Prop} {h : Heap} (hk : K (nameB s) h) : m_rules_IsName s K h := by
  unfold m_rules_IsName g_rules_IsName
  refine loopM_intro (fun p h' => h' = h ∧ ∃ k : Nat, p.1 = (k : Int) ∧ k ≤ s.size ∧ (s.data.toList.take k).all nameC = true) (fun p _ => s.size - p.1.toNat) ⟨rfl, 0, rfl, Nat.zero_le _, by simp⟩ ?_
  rintro ⟨i, u⟩ h' ⟨rfl, k, hi, hkl, hall⟩
  dsimp only at hi
  subst hi
  dsimp only
  refine iteP_dec (fun hlt => bindI_intro ?_) (fun hge => ?_)
  · have hk1 : k < s.size := by omega
    obtain ⟨c, h1, h2⟩ := byte_at hk1
    have hc8 := c.toNat_lt
    refine ⟨c, by omega, by rw [Int.toNat_natCast]; exact h1, within_spec ?_⟩
    rw [wrap64 (by omega) (by omega)]
    have e : inB (c.toNat : Int) 33 126 = nameC c := by
      unfold inB nameC
      congr 1
      · exact decide_eq_decide.2 (by omega)
      · exact decide_eq_decide.2 (by omega)
    rw [e]
    refine ⟨fun hb => ?_, fun hb => ?_⟩
    · have hb' : nameC c = false := by simpa using hb
      have : nameB s = false := by unfold nameB; rw [all_bad h2 hb', Bool.and_false]
      rw [this] at hk; exact hk
    · have hb' : nameC c = true := by simpa using hb
      rw [wrap64 (n := (k : Int) + 1) (by omega) (by omega)]
      exact ⟨⟨rfl, k + 1, by omega, by omega, all_take h2 hb' hall⟩, by omega⟩
  · have hfull : s.data.toList.take k = s.data.toList := List.take_of_length_le (by
      have : s.data.toList.length = s.size := by simp
      omega)
    rw [hfull] at hall
    refine within_spec (bindB_intro ?_)
    have : nameB s = inB (s.size : Int) 1 64 := by
      unfold nameB inB
      rw [hall, Bool.and_true]
      congr 1
      · exact decide_eq_decide.2 (by omega)
      · exact decide_eq_decide.2 (by omega)
    rw [← this]
    exact hk


theorem rin_spec {n lo hi : Int} {K : Bool → Heap → Prop} {h : Heap} (hk : K (inB n lo hi) h) : m_token_Right_1 n lo hi K h := by
  unfold m_token_Right_1 g_token_Right_1
  unfold inB at hk
  refine ⟨fun e => bindB_intro ?_, fun e => ?_⟩
  · rw [e] at hk; exact hk
  · rw [e] at hk; exact hk
def leaseF (f : F4) : Bool := if f.2.2.1 = 3 then inB f.2.2.2.1 1000000 3600000000 else f.2.2.2.1 == 0
def rightF (f : F4) : Bool := inB f.1 1 1099511627776 && (inB f.2.1 0 1099511627776 && (inB f.2.2.1 1 3 && leaseF f))
theorem rightF_spec {f : F4} {K : Bool → Heap → Prop} {h : Heap} (hk : ∀ h', Ext h h' → K (rightF f) h') : m_token_Right f K h := by
  unfold m_token_Right g_token_Right
  obtain ⟨f1, f2, f3, f4, _⟩ := f
  have e1 : Ext h (h.push (.cells [iv f1, iv f2, iv f3, iv f4].toArray 53 (0, 0))) := Ext.push _ _
  have c1 : obj (h.push (.cells [iv f1, iv f2, iv f3, iv f4].toArray 53 (0, 0))) (sz h) = some (.cells [iv f1, iv f2, iv f3, iv f4].toArray 53 (0, 0)) := by simp (maxDischargeDepth := 60) only [evAll, listPuts, Addr.mk.injEq, Option.map_some, Option.getD_some, Option.getD_none, Option.isSome_some, Option.isSome_none, Option.isNone_some, Option.isNone_none, List.all_cons, List.all_nil, List.length_cons, List.length_nil, List.set_cons_zero, List.set_cons_succ, List.getElem?_cons_zero, List.getElem?_cons_succ, List.getElem?_nil, Option.some.injEq, Value.int.injEq, Value.bool.injEq, Value.string.injEq, Value.pointer.injEq, Value.map.injEq, Prod.mk.injEq, exists_eq_left, exists_eq_left', if_true, if_false, decide_true, decide_false, Nat.reduceAdd, Nat.reduceLT, Nat.reduceLeDiff, Nat.reduceEqDiff, Nat.reduceMul, reduceCtorEq, beq_self_eq_true]
  simp (maxDischargeDepth := 60) only [evAll, listPuts, Addr.mk.injEq, Option.map_some, Option.getD_some, Option.getD_none, Option.isSome_some, Option.isSome_none, Option.isNone_some, Option.isNone_none, List.all_cons, List.all_nil, List.length_cons, List.length_nil, List.set_cons_zero, List.set_cons_succ, List.getElem?_cons_zero, List.getElem?_cons_succ, List.getElem?_nil, Option.some.injEq, Value.int.injEq, Value.bool.injEq, Value.string.injEq, Value.pointer.injEq, Value.map.injEq, Prod.mk.injEq, exists_eq_left, exists_eq_left', if_true, if_false, decide_true, decide_false, Nat.reduceAdd, Nat.reduceLT, Nat.reduceLeDiff, Nat.reduceEqDiff, Nat.reduceMul, reduceCtorEq, beq_self_eq_true]
  generalize h.push (.cells [iv f1, iv f2, iv f3, iv f4].toArray 53 (0, 0)) = h1 at e1 c1 ⊢
  have hk1 := hk h1 e1
  refine cutQ (fun s h9 => s = (leaseF (f1, f2, f3, f4, ()), ()) ∧ h9 = h1) ?_ ?_
  · rintro _ _ ⟨rfl, rfl⟩
    dsimp only
    simp (maxDischargeDepth := 60) only [evAll, listPuts, Addr.mk.injEq, Option.map_some, Option.getD_some, Option.getD_none, Option.isSome_some, Option.isSome_none, Option.isNone_some, Option.isNone_none, List.all_cons, List.all_nil, List.length_cons, List.length_nil, List.set_cons_zero, List.set_cons_succ, List.getElem?_cons_zero, List.getElem?_cons_succ, List.getElem?_nil, Option.some.injEq, Value.int.injEq, Value.bool.injEq, Value.string.injEq, Value.pointer.injEq, Value.map.injEq, Prod.mk.injEq, exists_eq_left, exists_eq_left', if_true, if_false, decide_true, decide_false, Nat.reduceAdd, Nat.reduceLT, Nat.reduceLeDiff, Nat.reduceEqDiff, Nat.reduceMul, reduceCtorEq, beq_self_eq_true, c1]
    unfold rightF at hk1
    dsimp only at hk1
    refine rin_spec ?_
    refine ⟨fun q => ?_, fun q => ?_⟩
    · rw [q, Bool.true_and] at hk1
      simp (maxDischargeDepth := 60) only [evAll, listPuts, Addr.mk.injEq, Option.map_some, Option.getD_some, Option.getD_none, Option.isSome_some, Option.isSome_none, Option.isNone_some, Option.isNone_none, List.all_cons, List.all_nil, List.length_cons, List.length_nil, List.set_cons_zero, List.set_cons_succ, List.getElem?_cons_zero, List.getElem?_cons_succ, List.getElem?_nil, Option.some.injEq, Value.int.injEq, Value.bool.injEq, Value.string.injEq, Value.pointer.injEq, Value.map.injEq, Prod.mk.injEq, exists_eq_left, exists_eq_left', if_true, if_false, decide_true, decide_false, Nat.reduceAdd, Nat.reduceLT, Nat.reduceLeDiff, Nat.reduceEqDiff, Nat.reduceMul, reduceCtorEq, beq_self_eq_true, c1]
      refine rin_spec ?_
      refine ⟨fun q2 => ?_, fun q2 => ?_⟩
      · rw [q2, Bool.true_and] at hk1
        unfold inB at hk1
        simp (maxDischargeDepth := 60) only [evAll, listPuts, Addr.mk.injEq, Option.map_some, Option.getD_some, Option.getD_none, Option.isSome_some, Option.isSome_none, Option.isNone_some, Option.isNone_none, List.all_cons, List.all_nil, List.length_cons, List.length_nil, List.set_cons_zero, List.set_cons_succ, List.getElem?_cons_zero, List.getElem?_cons_succ, List.getElem?_nil, Option.some.injEq, Value.int.injEq, Value.bool.injEq, Value.string.injEq, Value.pointer.injEq, Value.map.injEq, Prod.mk.injEq, exists_eq_left, exists_eq_left', if_true, if_false, decide_true, decide_false, Nat.reduceAdd, Nat.reduceLT, Nat.reduceLeDiff, Nat.reduceEqDiff, Nat.reduceMul, reduceCtorEq, beq_self_eq_true, c1]
        refine ⟨fun q3 => ⟨fun q4 => ?_, fun q4 => ?_⟩, fun q3 => ?_⟩
        · rw [q3, q4, Bool.true_and, Bool.true_and] at hk1; exact hk1
        · rw [q4, Bool.and_false, Bool.false_and] at hk1; exact hk1
        · rw [q3, Bool.false_and, Bool.false_and] at hk1; exact hk1
      · rw [q2, Bool.false_and] at hk1; exact hk1
    · rw [q, Bool.false_and] at hk1; exact hk1
  · intro Q hQ
    try simp (maxDischargeDepth := 60) only [evAll, listPuts, Addr.mk.injEq, Option.map_some, Option.getD_some, Option.getD_none, Option.isSome_some, Option.isSome_none, Option.isNone_some, Option.isNone_none, List.all_cons, List.all_nil, List.length_cons, List.length_nil, List.set_cons_zero, List.set_cons_succ, List.getElem?_cons_zero, List.getElem?_cons_succ, List.getElem?_nil, Option.some.injEq, Value.int.injEq, Value.bool.injEq, Value.string.injEq, Value.pointer.injEq, Value.map.injEq, Prod.mk.injEq, exists_eq_left, exists_eq_left', if_true, if_false, decide_true, decide_false, Nat.reduceAdd, Nat.reduceLT, Nat.reduceLeDiff, Nat.reduceEqDiff, Nat.reduceMul, reduceCtorEq, beq_self_eq_true, c1]
    refine ⟨fun q => ?_, fun q => ?_⟩
    · have q1 : f3 = 3 := by simpa using q
      have : leaseF (f1, f2, f3, f4, ()) = inB f4 1000000 3600000000 := by unfold leaseF; rw [if_pos q1]
      rw [this] at hQ
      exact rin_spec (hQ _ _ ⟨rfl, rfl⟩)
    · have q1 : ¬ f3 = 3 := by simpa using q
      refine hQ _ _ ⟨?_, rfl⟩
      unfold leaseF
      rw [if_neg q1]
theorem contains_spec {s : Sl} {l : List F4} {h : Heap} (hr : Row h s 4 (l.flatMap f4L)) {K : Bool → Heap → Prop} (hk : ∀ h', Ext h h' → K (l.any fun f => !rightF f) h') : m_slices_ContainsFunc_token_Flow_token_Flow___token_Server_Load_1 s K h := by
  unfold m_slices_ContainsFunc_token_Flow_token_Flow___token_Server_Load_1 g_slices_ContainsFunc_token_Flow_token_Flow___token_Server_Load_1
  unfold m_slices_IndexFunc_token_Flow_token_Flow___token_Server_Load_1 g_slices_IndexFunc_token_Flow_token_Flow___token_Server_Load_1
  refine index_loop f4L_len hr (by decide) (p := fun f => !rightF f) (tst := fun Q b o h3 => ldI h3 b o .i64 fun t4 => ldI h3 b (o + 1) .i64 fun t5 => ldI h3 b (o + 2) .i64 fun t6 => ldI h3 b (o + 3) .i64 fun t7 => m_token_Server_Load_1 (t4, t5, t6, t7, ()) Q h3) ?_ ?_
  · intro i a b o hh Q ha he hcell hQ
    have v0 := hcell 0 _ rfl
    have v1 := hcell 1 _ rfl
    have v2 := hcell 2 _ rfl
    have v3 := hcell 3 _ rfl
    simp only [Nat.add_zero] at v0
    simp (maxDischargeDepth := 60) only [evAll, listPuts, Addr.mk.injEq, Option.map_some, Option.getD_some, Option.getD_none, Option.isSome_some, Option.isSome_none, Option.isNone_some, Option.isNone_none, List.all_cons, List.all_nil, List.length_cons, List.length_nil, List.set_cons_zero, List.set_cons_succ, List.getElem?_cons_zero, List.getElem?_cons_succ, List.getElem?_nil, Option.some.injEq, Value.int.injEq, Value.bool.injEq, Value.string.injEq, Value.pointer.injEq, Value.map.injEq, Prod.mk.injEq, exists_eq_left, exists_eq_left', if_true, if_false, decide_true, decide_false, Nat.reduceAdd, Nat.reduceLT, Nat.reduceLeDiff, Nat.reduceEqDiff, Nat.reduceMul, reduceCtorEq, beq_self_eq_true, v0, v1, v2, v3]
    unfold m_token_Server_Load_1 g_token_Server_Load_1
    simp (maxDischargeDepth := 60) only [evAll, listPuts, Addr.mk.injEq, Option.map_some, Option.getD_some, Option.getD_none, Option.isSome_some, Option.isSome_none, Option.isNone_some, Option.isNone_none, List.all_cons, List.all_nil, List.length_cons, List.length_nil, List.set_cons_zero, List.set_cons_succ, List.getElem?_cons_zero, List.getElem?_cons_succ, List.getElem?_nil, Option.some.injEq, Value.int.injEq, Value.bool.injEq, Value.string.injEq, Value.pointer.injEq, Value.map.injEq, Prod.mk.injEq, exists_eq_left, exists_eq_left', if_true, if_false, decide_true, decide_false, Nat.reduceAdd, Nat.reduceLT, Nat.reduceLeDiff, Nat.reduceEqDiff, Nat.reduceMul, reduceCtorEq, beq_self_eq_true]
    exact rightF_spec fun h' e => hQ h' ((ext_push he).trans e)
  · intro h' e
    refine bindB_intro ?_
    have : decide (ixV (fun f => !rightF f) l ≥ 0) = l.any fun f => !rightF f := by
      cases hf : l.findIdx? (fun f => !rightF f) with
      | none =>
        rw [ixV_none hf]
        have : (l.any fun f => !rightF f) = false := by
          rw [List.any_eq_false]
          intro x hx
          rw [List.findIdx?_eq_none_iff.1 hf x hx]
          decide
        rw [this]
        rfl
      | some i =>
        rw [ixV_some hf]
        obtain ⟨hil, hp, _⟩ := List.findIdx?_eq_some_iff_getElem.1 hf
        have : (l.any fun f => !rightF f) = true := List.any_eq_true.2 ⟨_, List.getElem_mem hil, hp⟩
        rw [this]
        simp
    rw [this]
    exact hk h' e

/-! ### ids that stand twice -/
def usedI (l : List (ByteArray × List F4)) (name : ByteArray) (i : Int) : Prop := ∃ x, x ∈ l ∧ strEq x.1 name = false ∧ ∃ g, g ∈ x.2 ∧ g.1 = i
def NoTwice (l : List (ByteArray × List F4)) (name : ByteArray) (fl : List F4) : Prop := (fl.map (·.1)).Nodup ∧ ∀ f, f ∈ fl → ¬ usedI l name f.1
def SetM (h : Heap) (b : Nat) (P : Int → Prop) : Prop := ∃ f n, MapV h b f n ∧ (∀ i v, f i = some v → v = .bool true) ∧ ∀ i, (f i).isSome = true ↔ P i
theorem SetM.put {h : Heap} {b : Nat} {P : Int → Prop} (hs : SetM h b P) (k : Int) {K : Heap → Prop} (hk : ∀ h', SetM h' b (fun i => i = k ∨ P i) → Upd (· = b) h h' → K h') : mapPut (.int .i64) h (some b) (iv k) (.bool true) K := by
  obtain ⟨f, n, hm, h1, h2⟩ := hs
  refine hm.put k (.bool true) fun h' hm' hu _ => hk h' ⟨_, _, hm', fun i v hv => ?_, fun i => ?_⟩ hu
  · unfold upd at hv
    split at hv
    · cases hv; rfl
    · exact h1 i v hv
  · unfold upd
    split
    · rename_i e; simp [e]
    · rename_i e; simp [e, h2 i]
theorem SetM.congr {h h' : Heap} {b : Nat} {P : Int → Prop} (hs : SetM h b P) (he : h'[b]? = h[b]?) : SetM h' b P := by
  obtain ⟨f, n, hm, r⟩ := hs
  exact ⟨f, n, hm.congr he, r⟩
theorem SetM.iff {h : Heap} {b : Nat} {P P' : Int → Prop} (hs : SetM h b P) (he : ∀ i, P i ↔ P' i) : SetM h b P' := by
  obtain ⟨f, n, hm, h1, h2⟩ := hs
  exact ⟨f, n, hm, h1, fun i => (h2 i).trans (he i)⟩
theorem SetM.lt {h : Heap} {b : Nat} {P : Int → Prop} (hs : SetM h b P) : b < sz h := by
  obtain ⟨f, n, hm, _⟩ := hs
  exact hm.lt
theorem SetM.get {h : Heap} {b : Nat} {P : Int → Prop} (hs : SetM h b P) (k : Int) {K : Bool → Prop} (h1 : P k → K true) (h2 : ¬ P k → K false) : mapGet (.int .i64) h (some b) (iv k) fun r => asB (r.getD (.bool false)) K := by
  obtain ⟨f, n, hm, g1, g2⟩ := hs
  refine hm.get k ?_
  cases hf : f k with
  | none => exact ⟨false, rfl, h2 fun hp => by rw [← g2, hf] at hp; cases hp⟩
  | some v => exact ⟨true, g1 k v hf, h1 ((g2 k).1 (by rw [hf]; rfl))⟩

theorem twice_spec {h : Heap} {sb : Nat} {x0 x1 : Value} {sp : Sl} {r : List Value} (hc : obj h sb = some (.cells (x0 :: x1 :: slV sp :: r).toArray 60 (0, 0))) {T : Nat → Option Nat} {ls : List Sp3} (hs : SpR h T sp ls) {l : List (ByteArray × List F4)} (hl : ls.map (fun x => (x.1, x.2.2)) = l) {name : ByteArray} {s : Sl} {fl : List F4} (hr : Row h s 4 (fl.flatMap f4L)) {K : Bool → Heap → Prop}
    (hk : ∀ b h', (b = false ↔ NoTwice l name fl) → Ext h h' → K b h') : m_token_Server_twice (some ⟨sb, 0, none⟩) name s K h := by
  unfold m_token_Server_twice g_token_Server_twice
  have l0 := obj_lt hc
  refine MapV.new fun h1 hm1 e1 z1 => ?_
  simp only [size_def] at hm1 z1 e1 ⊢
  have c1 := keepX hc e1
  simp (maxDischargeDepth := 60) only [evAll, listPuts, Addr.mk.injEq, Option.map_some, Option.getD_some, Option.getD_none, Option.isSome_some, Option.isSome_none, Option.isNone_some, Option.isNone_none, List.all_cons, List.all_nil, List.length_cons, List.length_nil, List.set_cons_zero, List.set_cons_succ, List.getElem?_cons_zero, List.getElem?_cons_succ, List.getElem?_nil, Option.some.injEq, Value.int.injEq, Value.bool.injEq, Value.string.injEq, Value.pointer.injEq, Value.map.injEq, Prod.mk.injEq, exists_eq_left, exists_eq_left', if_true, if_false, decide_true, decide_false, Nat.reduceAdd, Nat.reduceLT, Nat.reduceLeDiff, Nat.reduceEqDiff, Nat.reduceMul, reduceCtorEq, beq_self_eq_true, c1]
  have hrow := hs.own.row
  have hlen := rowLen spL_len hrow (by decide)
  have hb1 := hrow.big
  have hb2 := hrow.cap
  have hset : SetM h1 (sz h) (usedI (ls.take 0 |>.map fun x => (x.1, x.2.2)) name) := ⟨_, _, hm1, (fun _ _ hv => by cases hv), fun i => ⟨(fun e => by cases e), fun ⟨x, hx, _⟩ => (by cases hx)⟩⟩
  refine loopQ (fun st hh => ∃ i : Nat, st = ((i : Int), ()) ∧ i ≤ ls.length ∧ Ext h hh ∧ SetM hh (sz h) (usedI ((ls.take i).map fun x => (x.1, x.2.2)) name))
    (fun st _ => (sp.len - st.1).toNat) ⟨0, rfl, by omega, e1, hset⟩ ?_
  rintro _ hh ⟨i, rfl, hi, he, hset⟩ Q hQ
  dsimp only
  refine iteP_dec (fun q => ?_) fun q => ?_
  · obtain ⟨x, hx⟩ : ∃ x, ls[i]? = some x := ⟨_, List.getElem?_eq_getElem (by omega)⟩
    obtain ⟨b, o, hb, _, hidx, hcell⟩ := elemR spL_len (hrow.ext he) hx (by decide)
    have hrf := ((hs.rows x (List.mem_of_getElem? hx)).1).ext he
    have v0 := hcell 0 _ rfl
    have v1 := hcell 1 _ rfl
    simp only [Nat.add_zero] at v0
    refine hidx rfl ?_
    have hsl := hset.lt
    simp (maxDischargeDepth := 60) only [evAll, listPuts, Addr.mk.injEq, Option.map_some, Option.getD_some, Option.getD_none, Option.isSome_some, Option.isSome_none, Option.isNone_some, Option.isNone_none, List.all_cons, List.all_nil, List.length_cons, List.length_nil, List.set_cons_zero, List.set_cons_succ, List.getElem?_cons_zero, List.getElem?_cons_succ, List.getElem?_nil, Option.some.injEq, Value.int.injEq, Value.bool.injEq, Value.string.injEq, Value.pointer.injEq, Value.map.injEq, Prod.mk.injEq, exists_eq_left, exists_eq_left', if_true, if_false, decide_true, decide_false, Nat.reduceAdd, Nat.reduceLT, Nat.reduceLeDiff, Nat.reduceEqDiff, Nat.reduceMul, reduceCtorEq, beq_self_eq_true, v0, v1]
    have hlf := rowLen f4L_len hrf (by decide)
    have hb3 := hrf.big
    have hb4 := hrf.cap
    have zhh := ext_sz he
    have e2 : Ext hh (Heap.puts (hh.push (.cells [.string (ByteArray.mk #[]), slV ⟨none, 0, 0⟩].toArray 69 (0, 0))) (sz hh) 0 [.string x.1, slV x.2.1]) := ext_puts (ext_push (Ext.refl _)) (Nat.le_refl _)
    refine loopQ (fun st h2 => ∃ k : Nat, st = ((k : Int), ()) ∧ k ≤ x.2.2.length ∧ Ext h h2 ∧ obj h2 (sz hh) = some (.cells [.string x.1, slV x.2.1].toArray 69 (0, 0)) ∧ SetM h2 (sz h) (fun j => usedI ((ls.take i).map fun x => (x.1, x.2.2)) name j ∨ (strEq x.1 name = false ∧ ∃ g, g ∈ x.2.2.take k ∧ g.1 = j)))
      (fun st _ => (x.2.1.len - st.1).toNat) ⟨0, rfl, by omega, he.trans e2, ?_, (hset.congr (e2.old _ hsl)).iff fun j => by simp⟩ ?_
    · simp (maxDischargeDepth := 60) only [evAll, listPuts, Addr.mk.injEq, Option.map_some, Option.getD_some, Option.getD_none, Option.isSome_some, Option.isSome_none, Option.isNone_some, Option.isNone_none, List.all_cons, List.all_nil, List.length_cons, List.length_nil, List.set_cons_zero, List.set_cons_succ, List.getElem?_cons_zero, List.getElem?_cons_succ, List.getElem?_nil, Option.some.injEq, Value.int.injEq, Value.bool.injEq, Value.string.injEq, Value.pointer.injEq, Value.map.injEq, Prod.mk.injEq, exists_eq_left, exists_eq_left', if_true, if_false, decide_true, decide_false, Nat.reduceAdd, Nat.reduceLT, Nat.reduceLeDiff, Nat.reduceEqDiff, Nat.reduceMul, reduceCtorEq, beq_self_eq_true]
    rintro _ h2 ⟨k, rfl, hk2, he2, hsp, hset2⟩ Q2 hQ2
    have g1 := obj_lt hsp
    have z2 := ext_sz he2
    have hsl2 := hset2.lt
    dsimp only
    refine iteP_dec (fun q2 => ?_) fun q2 => ?_
    · obtain ⟨f, hf⟩ : ∃ f, x.2.2[k]? = some f := ⟨_, List.getElem?_eq_getElem (by omega)⟩
      obtain ⟨b2, o2, _, _, hidx2, hcell2⟩ := elemR f4L_len (((hs.rows x (List.mem_of_getElem? hx)).1).ext he2) hf (by decide)
      refine hidx2 rfl ?_
      have w0 := hcell2 0 _ rfl
      have w1 := hcell2 1 _ rfl
      have w2 := hcell2 2 _ rfl
      have w3 := hcell2 3 _ rfl
      simp only [Nat.add_zero] at w0
      have hwr : IntKind.wrap .i64 ((k : Int) + 1) = ((k + 1 : Nat) : Int) := by rw [wrap64 (by omega) (by omega)]; rfl
      have tk : x.2.2.take (k + 1) = x.2.2.take k ++ [f] := by rw [List.take_add_one, hf]; rfl
      have e3 : Ext h2 (Heap.puts (h2.push (.cells [iv 0, iv 0, iv 0, iv 0].toArray 53 (0, 0))) (sz h2) 0 [iv f.1, iv f.2.1, iv f.2.2.1, iv f.2.2.2.1]) := ext_puts (ext_push (Ext.refl _)) (Nat.le_refl _)
      have hsp3 := keepX hsp e3
      have set3 := hset2.congr (e3.old _ hsl2)
      simp (maxDischargeDepth := 60) only [evAll, listPuts, Addr.mk.injEq, Option.map_some, Option.getD_some, Option.getD_none, Option.isSome_some, Option.isSome_none, Option.isNone_some, Option.isNone_none, List.all_cons, List.all_nil, List.length_cons, List.length_nil, List.set_cons_zero, List.set_cons_succ, List.getElem?_cons_zero, List.getElem?_cons_succ, List.getElem?_nil, Option.some.injEq, Value.int.injEq, Value.bool.injEq, Value.string.injEq, Value.pointer.injEq, Value.map.injEq, Prod.mk.injEq, exists_eq_left, exists_eq_left', if_true, if_false, decide_true, decide_false, Nat.reduceAdd, Nat.reduceLT, Nat.reduceLeDiff, Nat.reduceEqDiff, Nat.reduceMul, reduceCtorEq, beq_self_eq_true, w0, w1, w2, w3, hsp, lt_ne0 g1]
      refine ⟨fun q3 => ?_, fun q3 => ?_⟩
      · have q4 : strEq x.1 name = false := by simpa using q3
        refine set3.put f.1 fun h4 set4 u4 => hQ2 _ _ ⟨k + 1, by rw [hwr], by omega, ?_, keepU hsp3 u4 (by omega), set4.iff fun j => ?_⟩ (by rw [hwr]; dsimp only; omega)
        · exact (he2.trans e3).then u4 fun j hj => by rw [hj, size_def]; exact Nat.le_refl _
        · rw [tk]
          constructor
          · rintro (rfl | h9 | ⟨h9, g, hg, rfl⟩)
            · exact .inr ⟨q4, f, by simp, rfl⟩
            · exact .inl h9
            · exact .inr ⟨q4, g, List.mem_append_left _ hg, rfl⟩
          · rintro (h9 | ⟨h9, g, hg, rfl⟩)
            · exact .inr (.inl h9)
            · rcases List.mem_append.1 hg with hg | hg
              · exact .inr (.inr ⟨q4, g, hg, rfl⟩)
              · simp at hg; subst hg; exact .inl rfl
      · have q4 : strEq x.1 name = true := by simpa using q3
        refine hQ2 _ _ ⟨k + 1, by rw [hwr], by omega, he2.trans e3, hsp3, set3.iff fun j => ?_⟩ (by rw [hwr]; dsimp only; omega)
        simp [q4]
    · have hwr : IntKind.wrap .i64 ((i : Int) + 1) = ((i + 1 : Nat) : Int) := by rw [wrap64 (by omega) (by omega)]; rfl
      refine hQ _ _ ⟨i + 1, by rw [hwr], by omega, he2, hset2.iff fun j => ?_⟩ (by rw [hwr]; dsimp only; omega)
      have tk : ls.take (i + 1) = ls.take i ++ [x] := by rw [List.take_add_one, hx]; rfl
      rw [tk, List.map_append, show x.2.2.take k = x.2.2 from List.take_of_length_le (by omega)]
      unfold usedI
      constructor
      · rintro (⟨y, hy, h9⟩ | ⟨h9, g, hg, rfl⟩)
        · exact ⟨y, List.mem_append_left _ hy, h9⟩
        · exact ⟨(x.1, x.2.2), List.mem_append_right _ (by simp), h9, g, hg, rfl⟩
      · rintro ⟨y, hy, h9, g, hg, rfl⟩
        rcases List.mem_append.1 hy with hy | hy
        · exact .inl ⟨y, hy, h9, g, hg, rfl⟩
        · simp at hy; subst hy; exact .inr ⟨h9, g, hg, rfl⟩
  · rw [List.take_of_length_le (by omega), hl] at hset
    have hr1 := hr.ext he
    have hlf := rowLen f4L_len hr (by decide)
    have hb3 := hr.big
    have hb4 := hr.cap
    refine loopQ (fun st h2 => ∃ k : Nat, st = ((k : Int), ()) ∧ k ≤ fl.length ∧ Ext h h2 ∧ SetM h2 (sz h) (fun j => usedI l name j ∨ ∃ g, g ∈ fl.take k ∧ g.1 = j) ∧ NoTwice l name (fl.take k))
      (fun st _ => (s.len - st.1).toNat) ⟨0, rfl, by omega, he, hset.iff fun j => by simp, by simp, fun f hf => by simp at hf⟩ ?_
    rintro _ h2 ⟨k, rfl, hk2, he2, hset2, hnt⟩ Q2 hQ2
    have z2 := ext_sz he2
    have hsl2 := hset2.lt
    dsimp only
    refine iteP_dec (fun q2 => ?_) fun q2 => ?_
    · obtain ⟨f, hf⟩ : ∃ f, fl[k]? = some f := ⟨_, List.getElem?_eq_getElem (by omega)⟩
      obtain ⟨b2, o2, _, _, hidx2, hcell2⟩ := elemR f4L_len (hr.ext he2) hf (by decide)
      refine hidx2 rfl ?_
      have w0 := hcell2 0 _ rfl
      have w1 := hcell2 1 _ rfl
      have w2 := hcell2 2 _ rfl
      have w3 := hcell2 3 _ rfl
      simp only [Nat.add_zero] at w0
      have hwr : IntKind.wrap .i64 ((k : Int) + 1) = ((k + 1 : Nat) : Int) := by rw [wrap64 (by omega) (by omega)]; rfl
      have tk : fl.take (k + 1) = fl.take k ++ [f] := by rw [List.take_add_one, hf]; rfl
      have e3 : Ext h2 (Heap.puts (h2.push (.cells [iv 0, iv 0, iv 0, iv 0].toArray 53 (0, 0))) (sz h2) 0 [iv f.1, iv f.2.1, iv f.2.2.1, iv f.2.2.2.1]) := ext_puts (ext_push (Ext.refl _)) (Nat.le_refl _)
      have set3 := hset2.congr (e3.old _ hsl2)
      simp (maxDischargeDepth := 60) only [evAll, listPuts, Addr.mk.injEq, Option.map_some, Option.getD_some, Option.getD_none, Option.isSome_some, Option.isSome_none, Option.isNone_some, Option.isNone_none, List.all_cons, List.all_nil, List.length_cons, List.length_nil, List.set_cons_zero, List.set_cons_succ, List.getElem?_cons_zero, List.getElem?_cons_succ, List.getElem?_nil, Option.some.injEq, Value.int.injEq, Value.bool.injEq, Value.string.injEq, Value.pointer.injEq, Value.map.injEq, Prod.mk.injEq, exists_eq_left, exists_eq_left', if_true, if_false, decide_true, decide_false, Nat.reduceAdd, Nat.reduceLT, Nat.reduceLeDiff, Nat.reduceEqDiff, Nat.reduceMul, reduceCtorEq, beq_self_eq_true, w0, w1, w2, w3]
      refine set3.get f.1 (fun hp => iteP_true (hk true _ ⟨(fun e => by cases e), fun hn => ?_⟩ (he2.trans e3))) fun hp => iteP_false ?_
      · rcases hp with hp | ⟨g, hg, hge⟩
        · exact (hn.2 f (List.mem_of_getElem? hf) hp).elim
        · have h9 : (fl.take (k + 1)).map (·.1) |>.Nodup := (List.map_take ▸ (hn.1.sublist (List.take_sublist _ _)))
          rw [tk, List.map_append, List.nodup_append] at h9
          exact (h9.2.2 g.1 (List.mem_map_of_mem hg) f.1 (by simp) hge).elim
      · refine set3.put f.1 fun h4 set4 u4 => hQ2 _ _ ⟨k + 1, by rw [hwr], by omega, ?_, set4.iff fun j => ?_, ?_⟩ (by rw [hwr]; dsimp only; omega)
        · exact (he2.trans e3).then u4 fun j hj => by rw [hj, size_def]; exact Nat.le_refl _
        · rw [tk]
          constructor
          · rintro (rfl | h9 | ⟨g, hg, rfl⟩)
            · exact .inr ⟨f, by simp, rfl⟩
            · exact .inl h9
            · exact .inr ⟨g, List.mem_append_left _ hg, rfl⟩
          · rintro (h9 | ⟨g, hg, rfl⟩)
            · exact .inr (.inl h9)
            · rcases List.mem_append.1 hg with hg | hg
              · exact .inr (.inr ⟨g, hg, rfl⟩)
              · simp at hg; subst hg; exact .inl rfl
        · rw [tk]
          refine ⟨?_, fun g hg => ?_⟩
          · rw [List.map_append, List.nodup_append]
            refine ⟨hnt.1, by simp, fun a ha b hb hab => hp (.inr ?_)⟩
            obtain ⟨g, hg, rfl⟩ := List.mem_map.1 ha
            simp at hb
            exact ⟨g, hg, hab.trans hb⟩
          · rcases List.mem_append.1 hg with hg | hg
            · exact hnt.2 g hg
            · simp at hg; subst hg; exact fun h9 => hp (.inl h9)
    · rw [List.take_of_length_le (by omega)] at hnt
      exact hk false h2 ⟨fun _ => hnt, fun _ => rfl⟩ he2
end Go.Proofs.Ytledmkhbaacdnaa
