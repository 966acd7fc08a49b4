/- The token server: what a counter tells and takes; what is used. -/
import Derived.Test.YtledmkhbaacdnaaTkK
import Derived.Test.YtledmkhbaacdnaaTkSb
namespace Go.Proofs.Ytledmkhbaacdnaa
open Go Go.Fw
set_option linter.unusedSimpArgs false
set_option linter.unusedVariables false

def Win.used (w : Win) (at_ : Int) : Int := if wrongE w.last at_ = 0 then w.sum at_ else 0
def Win.took (w : Win) (at_ n : Int) : Win := if wrongE w.last at_ = 0 then w.add at_ n else w
theorem rateUsed_spec {h : Heap} {wb mb : Nat} {w : Win} (hw : WinR h wb mb w) {at_ : Int} {x : ByteArray} {K : Int → Heap → Prop} (hk : ∀ h', Ext h h' → K (w.used at_) h') : m_token_rate_used (some ⟨wb, 0, none⟩, ()) at_ x K h := by
  unfold m_token_rate_used g_token_rate_used
  simp (maxDischargeDepth := 60) only [evAll, listPuts, Addr.mk.injEq, Option.map_some, Option.getD_some, Option.getD_none, Option.isSome_some, Option.isSome_none, Option.isNone_some, Option.isNone_none, List.all_cons, List.all_nil, List.length_cons, List.length_nil, List.set_cons_zero, List.set_cons_succ, List.getElem?_cons_zero, List.getElem?_cons_succ, List.getElem?_nil, Option.some.injEq, Value.int.injEq, Value.bool.injEq, Value.string.injEq, Value.pointer.injEq, Value.map.injEq, Prod.mk.injEq, exists_eq_left, exists_eq_left', if_true, if_false, decide_true, decide_false, Nat.reduceAdd, Nat.reduceLT, Nat.reduceLeDiff, Nat.reduceEqDiff, Nat.reduceMul, reduceCtorEq, beq_self_eq_true]
  have l3 := obj_lt hw.cells
  have l4 := hw.mlt
  refine Sum_spec (hw.congr (by simp (maxDischargeDepth := 60) only [evAll, listPuts, Addr.mk.injEq, Option.map_some, Option.getD_some, Option.getD_none, Option.isSome_some, Option.isSome_none, Option.isNone_some, Option.isNone_none, List.all_cons, List.all_nil, List.length_cons, List.length_nil, List.set_cons_zero, List.set_cons_succ, List.getElem?_cons_zero, List.getElem?_cons_succ, List.getElem?_nil, Option.some.injEq, Value.int.injEq, Value.bool.injEq, Value.string.injEq, Value.pointer.injEq, Value.map.injEq, Prod.mk.injEq, exists_eq_left, exists_eq_left', if_true, if_false, decide_true, decide_false, Nat.reduceAdd, Nat.reduceLT, Nat.reduceLeDiff, Nat.reduceEqDiff, Nat.reduceMul, reduceCtorEq, beq_self_eq_true, lt_ne0 l3]) (by simp (maxDischargeDepth := 60) only [evAll, listPuts, Addr.mk.injEq, Option.map_some, Option.getD_some, Option.getD_none, Option.isSome_some, Option.isSome_none, Option.isNone_some, Option.isNone_none, List.all_cons, List.all_nil, List.length_cons, List.length_nil, List.set_cons_zero, List.set_cons_succ, List.getElem?_cons_zero, List.getElem?_cons_succ, List.getElem?_nil, Option.some.injEq, Value.int.injEq, Value.bool.injEq, Value.string.injEq, Value.pointer.injEq, Value.map.injEq, Prod.mk.injEq, exists_eq_left, exists_eq_left', if_true, if_false, decide_true, decide_false, Nat.reduceAdd, Nat.reduceLT, Nat.reduceLeDiff, Nat.reduceEqDiff, Nat.reduceMul, reduceCtorEq, beq_self_eq_true, lt_ne0 l4])) fun h5 e5 => ?_
  simp (maxDischargeDepth := 60) only [evAll, listPuts, Addr.mk.injEq, Option.map_some, Option.getD_some, Option.getD_none, Option.isSome_some, Option.isSome_none, Option.isNone_some, Option.isNone_none, List.all_cons, List.all_nil, List.length_cons, List.length_nil, List.set_cons_zero, List.set_cons_succ, List.getElem?_cons_zero, List.getElem?_cons_succ, List.getElem?_nil, Option.some.injEq, Value.int.injEq, Value.bool.injEq, Value.string.injEq, Value.pointer.injEq, Value.map.injEq, Prod.mk.injEq, exists_eq_left, exists_eq_left', if_true, if_false, decide_true, decide_false, Nat.reduceAdd, Nat.reduceLT, Nat.reduceLeDiff, Nat.reduceEqDiff, Nat.reduceMul, reduceCtorEq, beq_self_eq_true, c6]
  exact hk _ (((Ext.push _ _).trans e5).trans (ext_puts (ext_push (Ext.refl _)) (Nat.le_refl _)))
theorem rateTake_spec {h : Heap} {wb mb : Nat} {w : Win} (hw : WinR h wb mb w) {at_ n : Int} (hn : 0 ≤ n ∧ n ≤ 4611686018427387904) {x : ByteArray} {K : Heap → Prop} (hk : ∀ h', WinR h' wb mb (w.took at_ n) → Upd (fun k => k = wb ∨ k = mb) h h' → K h') : m_token_rate_take (some ⟨wb, 0, none⟩, ()) at_ x n K h := by
  unfold m_token_rate_take g_token_rate_take
  simp (maxDischargeDepth := 60) only [evAll, listPuts, Addr.mk.injEq, Option.map_some, Option.getD_some, Option.getD_none, Option.isSome_some, Option.isSome_none, Option.isNone_some, Option.isNone_none, List.all_cons, List.all_nil, List.length_cons, List.length_nil, List.set_cons_zero, List.set_cons_succ, List.getElem?_cons_zero, List.getElem?_cons_succ, List.getElem?_nil, Option.some.injEq, Value.int.injEq, Value.bool.injEq, Value.string.injEq, Value.pointer.injEq, Value.map.injEq, Prod.mk.injEq, exists_eq_left, exists_eq_left', if_true, if_false, decide_true, decide_false, Nat.reduceAdd, Nat.reduceLT, Nat.reduceLeDiff, Nat.reduceEqDiff, Nat.reduceMul, reduceCtorEq, beq_self_eq_true]
  have l3 := obj_lt hw.cells
  have l4 := hw.mlt
  have e1 : Ext h ((h.push (.cells [Value.pointer (some ⟨wb, 0, none⟩)].toArray 88 (0, 0))).push (.cells (c6L (c6 n)).toArray 141 (0, 0))) := ext_push (ext_push (Ext.refl _))
  refine Add_spec (hw.congr (e1.old wb l3) (e1.old mb l4)) hn (s := ⟨some ⟨sz h + 1, 0, none⟩, 1, 1⟩) ?_ ?_ fun h5 hw5 u5 => hk h5 hw5 ((e1.upd _).trans u5)
  · have := (Own.newC (h := h.push (.cells [Value.pointer (some ⟨wb, 0, none⟩)].toArray 88 (0, 0))) (cells := c6L (c6 n)) (t := 141) (size := 6) (n := 1) rfl (by decide)).row
    rw [size_def, sz_push] at this
    exact this
  · intro b hb
    simp [Sl.blk] at hb
    omega

def Cnt.used (c : Cnt) (at_ : Int) (text : ByteArray) : Int := match c with
  | .rate w => w.used at_
  | .value s => s.used at_ text
  | .leased => 0
def Cnt.took (c : Cnt) (at_ : Int) (text : ByteArray) (n : Int) : Cnt := match c with
  | .rate w => .rate (w.took at_ n)
  | .value s => .value (s.took at_ n text)
  | .leased => .leased
theorem Cnt.took_kind (c : Cnt) (at_ : Int) (text : ByteArray) (n : Int) : (c.took at_ text n).kind = c.kind := by cases c <;> rfl

def sumL (id : Int) (l : List F4) : Int := l.foldl (fun n t => if t.2.1 = id then IntKind.wrap .i64 (n + t.2.2.1) else n) 0
theorem sumL_snoc (id : Int) (l : List F4) (t : F4) : sumL id (l ++ [t]) = if t.2.1 = id then IntKind.wrap .i64 (sumL id l + t.2.2.1) else sumL id l := by unfold sumL; rw [List.foldl_append]; rfl
def usedV (S : Srv) (at_ : Int) (f : F4) (text : ByteArray) : Int :=
  if f.2.2.1 = 3 then sumL f.1 (aliveV at_ S.out) else match S.counts f.1 with
    | some c => c.used at_ text
    | none => 0

theorem used_spec {h : Heap} {T : Nat → Option Nat} {sb cb nb : Nat} {sp so : Sl} {ls : List Sp3} {S : Srv} (hR : SrvR h T sb cb nb sp so ls S) (hl : S.out.length ≤ 4096) {at_ : Int} {f : F4} (hf : f.2.2.1 ≠ 3 → ∃ c, S.counts f.1 = some c) {text : ByteArray} (ht : text.size < 9223372036854775808) {K : Int → Heap → Prop}
    (hk : ∀ h', Ext h h' → K (usedV S at_ f text) h') : m_token_Server_used (some ⟨sb, 0, none⟩) at_ f text K h := by
  unfold m_token_Server_used g_token_Server_used
  have l0 := obj_lt hR.cells
  have e1 : Ext h (h.push (.cells (f4L f).toArray 53 (0, 0))) := Ext.push _ _
  have hR1 := hR.ext e1
  have c1 : obj (h.push (.cells (f4L f).toArray 53 (0, 0))) (sz h) = some (.cells (f4L f).toArray 53 (0, 0)) := by simp (maxDischargeDepth := 60) only [evAll, listPuts, Addr.mk.injEq, Option.map_some, Option.getD_some, Option.getD_none, Option.isSome_some, Option.isSome_none, Option.isNone_some, Option.isNone_none, List.all_cons, List.all_nil, List.length_cons, List.length_nil, List.set_cons_zero, List.set_cons_succ, List.getElem?_cons_zero, List.getElem?_cons_succ, List.getElem?_nil, Option.some.injEq, Value.int.injEq, Value.bool.injEq, Value.string.injEq, Value.pointer.injEq, Value.map.injEq, Prod.mk.injEq, exists_eq_left, exists_eq_left', if_true, if_false, decide_true, decide_false, Nat.reduceAdd, Nat.reduceLT, Nat.reduceLeDiff, Nat.reduceEqDiff, Nat.reduceMul, reduceCtorEq, beq_self_eq_true]
  have hk1 : ∀ h', Ext (h.push (.cells (f4L f).toArray 53 (0, 0))) h' → K (usedV S at_ f text) h' := fun h' e => hk h' (e1.trans e)
  rw [newC_ev]
  change _ at c1
  generalize hh1 : h.push (.cells (f4L f).toArray 53 (0, 0)) = h1 at c1 hk1 hR1
  rw [show h.push (.cells [Value.int .i64 f.1, Value.int .i64 f.2.1, Value.int .i64 f.2.2.1, Value.int .i64 f.2.2.2.1].toArray 53) = h1 from hh1]
  have cl := hR1.cells
  simp only [f4L] at c1
  simp (maxDischargeDepth := 60) only [evAll, listPuts, Addr.mk.injEq, Option.map_some, Option.getD_some, Option.getD_none, Option.isSome_some, Option.isSome_none, Option.isNone_some, Option.isNone_none, List.all_cons, List.all_nil, List.length_cons, List.length_nil, List.set_cons_zero, List.set_cons_succ, List.getElem?_cons_zero, List.getElem?_cons_succ, List.getElem?_nil, Option.some.injEq, Value.int.injEq, Value.bool.injEq, Value.string.injEq, Value.pointer.injEq, Value.map.injEq, Prod.mk.injEq, exists_eq_left, exists_eq_left', if_true, if_false, decide_true, decide_false, Nat.reduceAdd, Nat.reduceLT, Nat.reduceLeDiff, Nat.reduceEqDiff, Nat.reduceMul, reduceCtorEq, beq_self_eq_true, c1]
  refine ⟨fun q => ?_, fun q => ?_⟩
  · have q3 : f.2.2.1 ≠ 3 := by simpa using q
    obtain ⟨c, hc⟩ := hf q3
    obtain ⟨m, hm, _, hcs⟩ := hR1.counts
    obtain ⟨hid, v, hv, hr⟩ := hcs f.1 c hc
    have hu : usedV S at_ f text = c.used at_ text := by unfold usedV; rw [if_neg q3, hc]
    rw [hu] at hk1
    simp (maxDischargeDepth := 60) only [evAll, listPuts, Addr.mk.injEq, Option.map_some, Option.getD_some, Option.getD_none, Option.isSome_some, Option.isSome_none, Option.isNone_some, Option.isNone_none, List.all_cons, List.all_nil, List.length_cons, List.length_nil, List.set_cons_zero, List.set_cons_succ, List.getElem?_cons_zero, List.getElem?_cons_succ, List.getElem?_nil, Option.some.injEq, Value.int.injEq, Value.bool.injEq, Value.string.injEq, Value.pointer.injEq, Value.map.injEq, Prod.mk.injEq, exists_eq_left, exists_eq_left', if_true, if_false, decide_true, decide_false, Nat.reduceAdd, Nat.reduceLT, Nat.reduceLeDiff, Nat.reduceEqDiff, Nat.reduceMul, reduceCtorEq, beq_self_eq_true, cl, c1]
    refine hm.get f.1 ?_
    rw [hv]
    refine ⟨(v, c.kind, ()), rfl, ?_⟩
    dsimp only
    cases c with
    | rate w =>
      obtain ⟨wb, mb, rfl, hw, _, _⟩ := hr
      exact .inl ⟨(some ⟨wb, 0, none⟩, ()), rfl, rateUsed_spec hw fun h7 e7 => hk1 h7 e7⟩
    | value s =>
      obtain ⟨wb, sl, lb, rfl, hs⟩ := hr
      exact .inr (.inl ⟨(some ⟨wb, 0, none⟩, ()), rfl, valueUsed_spec hs ht fun h7 e7 => hk1 h7 e7⟩)
    | leased =>
      cases hr
      refine .inr (.inr (.inl ⟨(), rfl, ?_⟩))
      unfold m_token_leased_used g_token_leased_used
      simp (maxDischargeDepth := 60) only [evAll, listPuts, Addr.mk.injEq, Option.map_some, Option.getD_some, Option.getD_none, Option.isSome_some, Option.isSome_none, Option.isNone_some, Option.isNone_none, List.all_cons, List.all_nil, List.length_cons, List.length_nil, List.set_cons_zero, List.set_cons_succ, List.getElem?_cons_zero, List.getElem?_cons_succ, List.getElem?_nil, Option.some.injEq, Value.int.injEq, Value.bool.injEq, Value.string.injEq, Value.pointer.injEq, Value.map.injEq, Prod.mk.injEq, exists_eq_left, exists_eq_left', if_true, if_false, decide_true, decide_false, Nat.reduceAdd, Nat.reduceLT, Nat.reduceLeDiff, Nat.reduceEqDiff, Nat.reduceMul, reduceCtorEq, beq_self_eq_true]
      exact hk1 _ (Ext.push _ _)
  · have q3 : f.2.2.1 = 3 := by simpa using q
    have hu : usedV S at_ f text = sumL f.1 (aliveV at_ S.out) := by unfold usedV; rw [if_pos q3]
    rw [hu] at hk1
    refine alive_spec cl hR1.out hl fun t h2 ho2 e2 => ?_
    have hlen := rowLen f4L_len ho2.row (by decide)
    have hbig := ho2.big
    have hcap := ho2.cap
    refine loopQ (fun st hh => ∃ i : Nat, st = (sumL f.1 ((aliveV at_ S.out).take i), (i : Int), ()) ∧ i ≤ (aliveV at_ S.out).length ∧ Ext h2 hh) (fun st _ => (t.len - st.2.1).toNat) ⟨0, rfl, by omega, Ext.refl _⟩ ?_
    rintro _ hh ⟨i, rfl, hi, he⟩ Q hQ
    dsimp only
    refine iteP_dec (fun q => ?_) fun q => ?_
    · obtain ⟨a, ha⟩ : ∃ a, (aliveV at_ S.out)[i]? = some a := ⟨_, List.getElem?_eq_getElem (by omega)⟩
      obtain ⟨b, o, _, _, hidx, hcell⟩ := elemR f4L_len (ho2.row.ext he) ha (by decide)
      refine hidx rfl ?_
      have v0 := hcell 0 _ rfl
      have v1 := hcell 1 _ rfl
      have v2 := hcell 2 _ rfl
      have v3 := hcell 3 _ rfl
      simp only [Nat.add_zero] at v0
      have cc := keepX (keepX c1 e2) he
      have lc := obj_lt cc
      have hwr : IntKind.wrap .i64 ((i : Int) + 1) = ((i + 1 : Nat) : Int) := by rw [wrap64 (by omega) (by omega)]; rfl
      have st : sumL f.1 ((aliveV at_ S.out).take (i + 1)) = if a.2.1 = f.1 then IntKind.wrap .i64 (sumL f.1 ((aliveV at_ S.out).take i) + a.2.2.1) else sumL f.1 ((aliveV at_ S.out).take i) := by
        rw [List.take_add_one, ha]
        exact sumL_snoc _ _ _
      simp (maxDischargeDepth := 60) only [evAll, listPuts, Addr.mk.injEq, Option.map_some, Option.getD_some, Option.getD_none, Option.isSome_some, Option.isSome_none, Option.isNone_some, Option.isNone_none, List.all_cons, List.all_nil, List.length_cons, List.length_nil, List.set_cons_zero, List.set_cons_succ, List.getElem?_cons_zero, List.getElem?_cons_succ, List.getElem?_nil, Option.some.injEq, Value.int.injEq, Value.bool.injEq, Value.string.injEq, Value.pointer.injEq, Value.map.injEq, Prod.mk.injEq, exists_eq_left, exists_eq_left', if_true, if_false, decide_true, decide_false, Nat.reduceAdd, Nat.reduceLT, Nat.reduceLeDiff, Nat.reduceEqDiff, Nat.reduceMul, reduceCtorEq, beq_self_eq_true, v0, v1, v2, v3, cc, lt_ne0 lc]
      refine ⟨fun q1 => ?_, fun q1 => ?_⟩
      · have q2 : a.2.1 = f.1 := by simpa using q1
        refine hQ _ _ ⟨i + 1, ?_, by omega, ext_puts (ext_push he) (by have := ext_sz he; omega)⟩ (by rw [hwr]; dsimp only; omega)
        rw [hwr, st, if_pos q2]
      · have q2 : ¬ a.2.1 = f.1 := by simpa using q1
        refine hQ _ _ ⟨i + 1, ?_, by omega, ext_puts (ext_push he) (by have := ext_sz he; omega)⟩ (by rw [hwr]; dsimp only; omega)
        rw [hwr, st, if_neg q2]
    · rw [List.take_of_length_le (by omega)]
      exact hk1 hh (e2.trans he)
end Go.Proofs.Ytledmkhbaacdnaa
