/- The windows of buckets: what their functions do, where only passes are counted. -/
import Derived.Test.YtledmkhbaacdnaaTkA
import Derived.Test.YtledmkhbaacdnaaEv
namespace Go.Proofs.Ytledmkhbaacdnaa
open Go Go.Fw
set_option linter.unusedSimpArgs false
set_option linter.unusedVariables false

/-! ### The windows of buckets: what their functions do, where only passes are counted. -/
abbrev C6 := Int × Int × Int × Int × Int × Int × Unit
def plusV (a b : Int) : Int := IntKind.wrap .i64 (minV a (IntKind.wrap .i64 (4611686018427387904 - b)) + b)
theorem plus_spec {a b : Int} {K : Int → Heap → Prop} {h : Heap} : m_window_plus a b K h = K (plusV a b) h := propext ⟨fun h => h, fun h => h⟩
def twoV (a b : C6) : C6 := (plusV a.1 b.1, plusV a.2.1 b.2.1, plusV a.2.2.1 b.2.2.1, plusV a.2.2.2.1 b.2.2.2.1, plusV a.2.2.2.2.1 b.2.2.2.2.1,
  (if a.2.2.1 = 0 then b.2.2.2.2.2.1 else if b.2.2.1 = 0 then a.2.2.2.2.2.1 else minV a.2.2.2.2.2.1 b.2.2.2.2.2.1), ())
def c6L (c : C6) : List Value := [iv c.1, iv c.2.1, iv c.2.2.1, iv c.2.2.2.1, iv c.2.2.2.2.1, iv c.2.2.2.2.2.1]

theorem iteP_dec' {a b : Int} {A B : Prop} (h1 : a = b → A) (h2 : a ≠ b → B) : iteP (a == b) A B := ⟨fun h => h1 (by simpa using h), fun h => h2 (by simpa using h)⟩
theorem two_spec {a b : C6} {K : C6 → Heap → Prop} {h : Heap} (hk : ∀ h', Ext h h' → K (twoV a b) h') : m_window_two a b K h := by
  unfold m_window_two g_window_two
  refine cutP_intro (fun t h' => ∃ q, t = (some ⟨q, 0, none⟩, ()) ∧ Ext h h' ∧ sz h + 3 ≤ q ∧ q < sz h' ∧ obj h' (sz h) = some (.cells (c6L a).toArray 141 (0, 0)) ∧ obj h' (sz h + 1) = some (.cells (c6L b).toArray 141 (0, 0)) ∧ obj h' (sz h + 2) = some (.cells [iv 0, iv 0, iv 0, iv 0, iv 0, iv 0].toArray 141 (0, 0)) ∧
      obj h' q = some (.cells [iv (plusV a.1 b.1), iv (plusV a.2.1 b.2.1), iv (plusV a.2.2.1 b.2.2.1), iv (plusV a.2.2.2.1 b.2.2.2.1), iv (plusV a.2.2.2.2.1 b.2.2.2.2.1), iv 0].toArray 141 (0, 0))) ?_ ?_
  · rintro _ h' ⟨q, rfl, he, hq, hq2, h0, h1, h2, h3⟩
    dsimp only
    have n0 : (sz h = q) = False := eq_false (by omega)
    have n1 : (sz h + 1 = q) = False := eq_false (by omega)
    have n2 : (sz h + 2 = q) = False := eq_false (by omega)
    have n3 : (q = sz h + 2) = False := eq_false (by omega)
    have sh : sz h ≤ q := by omega
    have fin : ∀ (r : C6) (h9 : Heap), r = twoV a b → Ext h h9 → K r h9 := fun r h9 e1 e2 => by subst e1; exact hk h9 e2
    simp (maxDischargeDepth := 60) only [evAll, listPuts, Addr.mk.injEq, Option.map_some, Option.getD_some, Option.getD_none, Option.isSome_some, Option.isSome_none, Option.isNone_some, Option.isNone_none, List.all_cons, List.all_nil, List.length_cons, List.length_nil, List.set_cons_zero, List.set_cons_succ, List.getElem?_cons_zero, List.getElem?_cons_succ, List.getElem?_nil, Option.some.injEq, Value.int.injEq, Value.bool.injEq, Value.string.injEq, Value.pointer.injEq, Value.map.injEq, Prod.mk.injEq, exists_eq_left, exists_eq_left', if_true, if_false, decide_true, decide_false, Nat.reduceAdd, Nat.reduceLT, Nat.reduceLeDiff, Nat.reduceEqDiff, Nat.reduceMul, reduceCtorEq, beq_self_eq_true, h0, h1, h2, h3, c6L, n0, n1, n2, n3, sh, he, if_false]
    refine iteP_dec' (fun q1 => ?_) fun q1 => iteP_dec' (fun q2 => ?_) fun q2 => ?_
    all_goals
      refine fin _ _ ?_ ?_
      · simp [twoV, q1]; try simp [q2]
      · simp +arith (maxDischargeDepth := 60) only [ext_puts, ext_put, he, sh]
  · simp (maxDischargeDepth := 60) only [evAll, listPuts, Addr.mk.injEq, Option.map_some, Option.getD_some, Option.getD_none, Option.isSome_some, Option.isSome_none, Option.isNone_some, Option.isNone_none, List.all_cons, List.all_nil, List.length_cons, List.length_nil, List.set_cons_zero, List.set_cons_succ, List.getElem?_cons_zero, List.getElem?_cons_succ, List.getElem?_nil, Option.some.injEq, Value.int.injEq, Value.bool.injEq, Value.string.injEq, Value.pointer.injEq, Value.map.injEq, Prod.mk.injEq, exists_eq_left, exists_eq_left', if_true, if_false, decide_true, decide_false, Nat.reduceAdd, Nat.reduceLT, Nat.reduceLeDiff, Nat.reduceEqDiff, Nat.reduceMul, reduceCtorEq, beq_self_eq_true, plus_spec, c6L]

/-! ### numbers -/
abbrev MOST : Int := 4611686018427387904
theorem minV_eq (a b : Int) : minV a b = min a b := by unfold minV; split <;> omega
theorem maxV_eq (a b : Int) : maxV a b = max a b := by unfold maxV; split <;> omega
theorem plusV_eq {a b : Int} (ha : 0 ≤ a ∧ a ≤ 4611686018427387904) (hb : 0 ≤ b ∧ b ≤ 4611686018427387904) : plusV a b = min a (4611686018427387904 - b) + b := by
  unfold plusV
  rw [wrap64 (n := 4611686018427387904 - b) (by omega) (by omega), minV_eq, wrap64 (by omega) (by omega)]
theorem plusV_rng {a b : Int} (ha : 0 ≤ a ∧ a ≤ 4611686018427387904) (hb : 0 ≤ b ∧ b ≤ 4611686018427387904) : 0 ≤ plusV a b ∧ plusV a b ≤ 4611686018427387904 := by
  rw [plusV_eq ha hb]; omega
theorem plusV_zero {a : Int} (ha : 0 ≤ a ∧ a ≤ 4611686018427387904) : plusV a 0 = a := by
  rw [plusV_eq ha (by omega)]; omega
def c6 (x : Int) : C6 := (x, 0, 0, 0, 0, 0, ())
def c6V (x : Int) : Value := .agg (c6L (c6 x)).toArray
theorem two_c6 (a b : Int) : twoV (c6 a) (c6 b) = c6 (plusV a b) := by
  have : plusV 0 0 = 0 := by decide
  simp [twoV, c6, this]
def bkt (t : Int) : Int := t / 100000
theorem tdiv_bkt {t : Int} (h0 : 0 ≤ t) (h1 : t ≤ 1152921504606846976) : IntKind.wrap .i64 (Int.tdiv t 100000) = bkt t := by
  unfold bkt
  rw [Int.tdiv_eq_ediv_of_nonneg h0, wrap64 (by omega) (by omega)]
theorem bkt_rng {t : Int} (h0 : 0 ≤ t) (h1 : t ≤ 1152921504606846976) : 0 ≤ bkt t ∧ bkt t ≤ 11529215046069 := by unfold bkt; omega
theorem bkt_mono {s t : Int} (h : s ≤ t) : bkt s ≤ bkt t := by unfold bkt; omega

/-! ### a window in memory -/
structure Win where
  last : Int
  p : Int → Int
structure Win.OK (w : Win) : Prop where
  lo : 0 ≤ w.last
  hi : w.last ≤ 1152921504606846976
  p : ∀ i, 0 ≤ w.p i ∧ w.p i ≤ 4611686018427387904
structure WinR (h : Heap) (wb mb : Nat) (w : Win) : Prop where
  ok : w.OK
  cells : obj h wb = some (.cells [iv 1000000, iv 10, iv w.last, .map (some mb)].toArray 105 (0, 0))
  map : ∃ f n, MapV h mb f n ∧ (∀ i v, f i = some v → ∃ x, v = c6V x ∧ 0 ≤ x ∧ x ≤ 4611686018427387904) ∧ ∀ i, bkt w.last - 10 < i → f i = some (c6V (w.p i)) ∨ (f i = none ∧ w.p i = 0)
theorem WinR.mlt {h : Heap} {wb mb : Nat} {w : Win} (hw : WinR h wb mb w) : mb < sz h := by
  obtain ⟨f, n, hm, _⟩ := hw.map
  exact hm.lt
theorem WinR.congr {h h' : Heap} {wb mb : Nat} {w : Win} (hw : WinR h wb mb w) (h1 : obj h' wb = obj h wb) (h2 : obj h' mb = obj h mb) : WinR h' wb mb w := by
  obtain ⟨f, n, hm, r⟩ := hw.map
  exact ⟨hw.ok, h1.trans hw.cells, f, n, hm.congr h2, r⟩

def wrongE (last at_ : Int) : Int := if at_ < 0 then 2 else if at_ > 1152921504606846976 then 2 else if at_ < last then 7 else 0
theorem wrongE_ok {last at_ : Int} (h : wrongE last at_ = 0) : 0 ≤ at_ ∧ at_ ≤ 1152921504606846976 ∧ last ≤ at_ := by
  unfold wrongE at h
  split at h
  · cases h
  · split at h
    · cases h
    · split at h
      · cases h
      · omega
theorem wrong_spec {h : Heap} {wb mb : Nat} {w : Win} (hw : WinR h wb mb w) {at_ : Int} {K : Int → Heap → Prop} (hk : K (wrongE w.last at_) h) : m_window_Window_wrong (some ⟨wb, 0, none⟩) at_ K h := by
  unfold m_window_Window_wrong g_window_Window_wrong
  unfold wrongE at hk
  simp (maxDischargeDepth := 60) only [evAll, listPuts, Addr.mk.injEq, Option.map_some, Option.getD_some, Option.getD_none, Option.isSome_some, Option.isSome_none, Option.isNone_some, Option.isNone_none, List.all_cons, List.all_nil, List.length_cons, List.length_nil, List.set_cons_zero, List.set_cons_succ, List.getElem?_cons_zero, List.getElem?_cons_succ, List.getElem?_nil, Option.some.injEq, Value.int.injEq, Value.bool.injEq, Value.string.injEq, Value.pointer.injEq, Value.map.injEq, Prod.mk.injEq, exists_eq_left, exists_eq_left', if_true, if_false, decide_true, decide_false, Nat.reduceAdd, Nat.reduceLT, Nat.reduceLeDiff, Nat.reduceEqDiff, Nat.reduceMul, reduceCtorEq, beq_self_eq_true, hw.cells]
  refine iteP_dec (fun q => ?_) fun q => iteP_dec (fun q2 => ?_) fun q2 => iteP_dec (fun q3 => ?_) fun q3 => ?_
  · rw [if_pos q] at hk; exact hk
  · rw [if_neg q, if_pos q2] at hk; exact hk
  · rw [if_neg q, if_neg q2, if_pos q3] at hk; exact hk
  · rw [if_neg q, if_neg q2, if_neg q3] at hk; exact hk
theorem bucket_ev {h : Heap} {wb : Nat} {r : List Value} (hc : obj h wb = some (.cells (iv 1000000 :: iv 10 :: r).toArray 105 (0, 0))) {at_ : Int} (h0 : 0 ≤ at_) (h1 : at_ ≤ 1152921504606846976) {K : Int → Heap → Prop} :
    m_window_Window_bucket (some ⟨wb, 0, none⟩) at_ K h = K (bkt at_) h := by
  unfold m_window_Window_bucket g_window_Window_bucket
  have e1 : (IntKind.wrap .i64 (Int.tdiv 1000000 10)) = 100000 := by decide
  simp (maxDischargeDepth := 60) only [evAll, listPuts, Addr.mk.injEq, Option.map_some, Option.getD_some, Option.getD_none, Option.isSome_some, Option.isSome_none, Option.isNone_some, Option.isNone_none, List.all_cons, List.all_nil, List.length_cons, List.length_nil, List.set_cons_zero, List.set_cons_succ, List.getElem?_cons_zero, List.getElem?_cons_succ, List.getElem?_nil, Option.some.injEq, Value.int.injEq, Value.bool.injEq, Value.string.injEq, Value.pointer.injEq, Value.map.injEq, Prod.mk.injEq, exists_eq_left, exists_eq_left', if_true, if_false, decide_true, decide_false, Nat.reduceAdd, Nat.reduceLT, Nat.reduceLeDiff, Nat.reduceEqDiff, Nat.reduceMul, reduceCtorEq, beq_self_eq_true, hc, e1, tdiv_bkt h0 h1]
  simp
def loW (at_ : Int) : Int := max 0 (bkt at_ - 9)

/-! ### The window's iterator, and its sum. -/
theorem at_spec {h : Heap} {w : Option Addr} {at_ : Int} {K : (Option Addr × Option Addr × Unit) → Heap → Prop} : m_window_Window_at w at_ K h = K (some ⟨sz h, 0, none⟩, some ⟨sz h + 1, 0, none⟩, ()) ((h.push (.cells [.pointer w].toArray 84 (0, 0))).push (.cells [iv at_].toArray 3 (0, 0))) := by
  unfold m_window_Window_at g_window_Window_at
  simp (maxDischargeDepth := 60) only [evAll, listPuts, Addr.mk.injEq, Option.map_some, Option.getD_some, Option.getD_none, Option.isSome_some, Option.isSome_none, Option.isNone_some, Option.isNone_none, List.all_cons, List.all_nil, List.length_cons, List.length_nil, List.set_cons_zero, List.set_cons_succ, List.getElem?_cons_zero, List.getElem?_cons_succ, List.getElem?_nil, Option.some.injEq, Value.int.injEq, Value.bool.injEq, Value.string.injEq, Value.pointer.injEq, Value.map.injEq, Prod.mk.injEq, exists_eq_left, exists_eq_left', if_true, if_false, decide_true, decide_false, Nat.reduceAdd, Nat.reduceLT, Nat.reduceLeDiff, Nat.reduceEqDiff, Nat.reduceMul, reduceCtorEq, beq_self_eq_true]

theorem at1_spec {Y : Yld} {y : Nat} {b1 b2 wb mb : Nat} {w : Win} {at_ : Int} {h0 : Heap} {T1 T2 : TypeId} (hw : WinR h0 wb mb w) (hb1 : obj h0 b1 = some (.cells [.pointer (some ⟨wb, 0, none⟩)].toArray T1 (0, 0)))
    (hb2 : obj h0 b2 = some (.cells [iv at_].toArray T2 (0, 0))) (ha : wrongE w.last at_ = 0) {S : Nat → Prop} (hS : ∀ k, S k → k < sz h0) (s1 : ¬ S b1) (s2 : ¬ S b2) (s3 : ¬ S wb) (s4 : ¬ S mb)
    (J : Int → Heap → Prop) (hJe : ∀ i h h', J i h → Ext h h' → J i h')
    (hN : ∀ i h, J i h → w.p i = 0 → J (i + 1) h)
    (hY : ∀ i h (K : Bool → Heap → Prop), J i h → Upd S h0 h → (∀ h', J (i + 1) h' → Upd S h h' → K true h') → Y y [.agg (iv (IntKind.wrap .i64 (i * 100000)) :: c6L (c6 (w.p i))).toArray] K h)
    {K : Heap → Prop} (hJ : J (loW at_) h0) (hk : ∀ h, J (bkt at_ + 1) h → Upd S h0 h → K h) : m_window_Window_at_1 Y y (some ⟨b1, 0, none⟩) (some ⟨b2, 0, none⟩) K h0 := by
  obtain ⟨a0, a1, a2⟩ := wrongE_ok ha
  have hbk := bkt_rng a0 a1
  have hbm := bkt_mono a2
  unfold m_window_Window_at_1 g_window_Window_at_1
  have e1 : (IntKind.wrap .i64 (Int.tdiv 1000000 10)) = 100000 := by decide
  have e2 : maxV 0 (IntKind.wrap .i64 ((IntKind.wrap .i64 (bkt at_ - 10)) + 1)) = loW at_ := by
    rw [wrap64 (n := bkt at_ - 10) (by omega) (by omega), wrap64 (by omega) (by omega), maxV_eq]
    unfold loW
    congr 1
    omega
  simp (maxDischargeDepth := 60) only [evAll, listPuts, Addr.mk.injEq, Option.map_some, Option.getD_some, Option.getD_none, Option.isSome_some, Option.isSome_none, Option.isNone_some, Option.isNone_none, List.all_cons, List.all_nil, List.length_cons, List.length_nil, List.set_cons_zero, List.set_cons_succ, List.getElem?_cons_zero, List.getElem?_cons_succ, List.getElem?_nil, Option.some.injEq, Value.int.injEq, Value.bool.injEq, Value.string.injEq, Value.pointer.injEq, Value.map.injEq, Prod.mk.injEq, exists_eq_left, exists_eq_left', if_true, if_false, decide_true, decide_false, Nat.reduceAdd, Nat.reduceLT, Nat.reduceLeDiff, Nat.reduceEqDiff, Nat.reduceMul, reduceCtorEq, beq_self_eq_true, hb1, hb2, hw.cells, bucket_ev hw.cells a0 a1, e2]
  refine loopM_intro (fun s h => ∃ i, s = (i, ()) ∧ loW at_ ≤ i ∧ i ≤ bkt at_ + 1 ∧ J i h ∧ Upd S h0 h) (fun s _ => (bkt at_ + 1 - s.1).toNat) ⟨_, rfl, Int.le_refl _, by unfold loW; omega, hJ, Upd.refl _ _⟩ ?_
  rintro _ h ⟨i, rfl, hi0, hi1, hJi, hu⟩
  dsimp only
  have hi2 : bkt at_ - 9 ≤ i ∧ 0 ≤ i := by unfold loW at hi0; omega
  refine iteP_dec (fun q => ?_) fun q => hk h (by rw [show bkt at_ + 1 = i from by omega]; exact hJi) hu
  have l1 := obj_lt hb1
  have l3 := obj_lt hw.cells
  have c1 : obj h b1 = some (.cells [.pointer (some ⟨wb, 0, none⟩)].toArray T1 (0, 0)) := (upd_obj hu l1 s1).trans hb1
  have c3 : obj h wb = some (.cells [iv 1000000, iv 10, iv w.last, .map (some mb)].toArray 105 (0, 0)) := (upd_obj hu l3 s3).trans hw.cells
  have hsz : sz h0 ≤ sz h := hu.size
  have n1 : b1 < sz h := by omega
  have n3 : wb < sz h := by omega
  have hwr : IntKind.wrap .i64 (i + 1) = i + 1 := wrap64 (by omega) (by omega)
  obtain ⟨f, n, hm, hfv, hfp⟩ := (hw.congr (h' := h) (upd_obj hu l3 s3) (upd_obj hu hw.mlt s4)).map
  simp (maxDischargeDepth := 60) only [evAll, listPuts, Addr.mk.injEq, Option.map_some, Option.getD_some, Option.getD_none, Option.isSome_some, Option.isSome_none, Option.isNone_some, Option.isNone_none, List.all_cons, List.all_nil, List.length_cons, List.length_nil, List.set_cons_zero, List.set_cons_succ, List.getElem?_cons_zero, List.getElem?_cons_succ, List.getElem?_nil, Option.some.injEq, Value.int.injEq, Value.bool.injEq, Value.string.injEq, Value.pointer.injEq, Value.map.injEq, Prod.mk.injEq, exists_eq_left, exists_eq_left', if_true, if_false, decide_true, decide_false, Nat.reduceAdd, Nat.reduceLT, Nat.reduceLeDiff, Nat.reduceEqDiff, Nat.reduceMul, reduceCtorEq, beq_self_eq_true, c1, c3]
  refine hm.get i ?_
  rcases hfp i (by omega) with hf | ⟨hf, hp⟩
  · rw [hf]
    refine ⟨c6 (w.p i), rfl, ?_⟩
    simp (maxDischargeDepth := 60) only [evAll, listPuts, Addr.mk.injEq, Option.map_some, Option.getD_some, Option.getD_none, Option.isSome_some, Option.isSome_none, Option.isNone_some, Option.isNone_none, List.all_cons, List.all_nil, List.length_cons, List.length_nil, List.set_cons_zero, List.set_cons_succ, List.getElem?_cons_zero, List.getElem?_cons_succ, List.getElem?_nil, Option.some.injEq, Value.int.injEq, Value.bool.injEq, Value.string.injEq, Value.pointer.injEq, Value.map.injEq, Prod.mk.injEq, exists_eq_left, exists_eq_left', if_true, if_false, decide_true, decide_false, Nat.reduceAdd, Nat.reduceLT, Nat.reduceLeDiff, Nat.reduceEqDiff, Nat.reduceMul, reduceCtorEq, beq_self_eq_true, c6, c1, c3, lt_ne n1, lt_ne0 n1, lt_ne n3, lt_ne0 n3, lt_en n1, lt_en0 n1, lt_en n3, lt_en0 n3, e1]
    refine ⟨by decide, hY i _ _ (hJe _ _ _ hJi ?_) ?_ fun h' hJ' hu' => ?_⟩
    · simp (maxDischargeDepth := 60) only [evAll, listPuts, Addr.mk.injEq, Option.map_some, Option.getD_some, Option.getD_none, Option.isSome_some, Option.isSome_none, Option.isNone_some, Option.isNone_none, List.all_cons, List.all_nil, List.length_cons, List.length_nil, List.set_cons_zero, List.set_cons_succ, List.getElem?_cons_zero, List.getElem?_cons_succ, List.getElem?_nil, Option.some.injEq, Value.int.injEq, Value.bool.injEq, Value.string.injEq, Value.pointer.injEq, Value.map.injEq, Prod.mk.injEq, exists_eq_left, exists_eq_left', if_true, if_false, decide_true, decide_false, Nat.reduceAdd, Nat.reduceLT, Nat.reduceLeDiff, Nat.reduceEqDiff, Nat.reduceMul, reduceCtorEq, beq_self_eq_true]
    · exact upd_puts (upd_push hu) (.inl (by omega))
    · have hsz' : sz h + 1 ≤ sz h' := by have := hu'.size; simp only [size_def, sz_push, sz_puts] at this; exact this
      have ns : ∀ k, sz h0 ≤ k → ¬ S k := fun k hk hs => by have := hS k hs; omega
      have g0 := upd_obj hu' (b := sz h) (by simp only [sz_push, sz_puts]; omega) (ns _ hsz)
      have g1 := upd_obj hu' (b := b1) (by simp only [sz_push, sz_puts]; omega) s1
      have g3 := upd_obj hu' (b := wb) (by simp only [sz_push, sz_puts]; omega) s3
      simp (maxDischargeDepth := 60) only [evAll, listPuts, Addr.mk.injEq, Option.map_some, Option.getD_some, Option.getD_none, Option.isSome_some, Option.isSome_none, Option.isNone_some, Option.isNone_none, List.all_cons, List.all_nil, List.length_cons, List.length_nil, List.set_cons_zero, List.set_cons_succ, List.getElem?_cons_zero, List.getElem?_cons_succ, List.getElem?_nil, Option.some.injEq, Value.int.injEq, Value.bool.injEq, Value.string.injEq, Value.pointer.injEq, Value.map.injEq, Prod.mk.injEq, exists_eq_left, exists_eq_left', if_true, if_false, decide_true, decide_false, Nat.reduceAdd, Nat.reduceLT, Nat.reduceLeDiff, Nat.reduceEqDiff, Nat.reduceMul, reduceCtorEq, beq_self_eq_true, g0, g1, g3, c1, c3, lt_ne n1, lt_ne0 n1, lt_ne n3, lt_ne0 n3, c6, hwr]
      refine ⟨⟨by omega, by omega, hJ', ?_⟩, by omega⟩
      · refine (Upd.then (T := S) (upd_puts (upd_push hu) (.inl hsz)) hu' fun k hk hs => hs)
  · rw [hf]
    refine ⟨c6 0, rfl, ?_⟩
    simp (maxDischargeDepth := 60) only [evAll, listPuts, Addr.mk.injEq, Option.map_some, Option.getD_some, Option.getD_none, Option.isSome_some, Option.isSome_none, Option.isNone_some, Option.isNone_none, List.all_cons, List.all_nil, List.length_cons, List.length_nil, List.set_cons_zero, List.set_cons_succ, List.getElem?_cons_zero, List.getElem?_cons_succ, List.getElem?_nil, Option.some.injEq, Value.int.injEq, Value.bool.injEq, Value.string.injEq, Value.pointer.injEq, Value.map.injEq, Prod.mk.injEq, exists_eq_left, exists_eq_left', if_true, if_false, decide_true, decide_false, Nat.reduceAdd, Nat.reduceLT, Nat.reduceLeDiff, Nat.reduceEqDiff, Nat.reduceMul, reduceCtorEq, beq_self_eq_true, c6, hwr]
    refine ⟨⟨by omega, by omega, hN i _ (hJe _ _ _ hJi ?_) hp, ?_⟩, by omega⟩
    · simp (maxDischargeDepth := 60) only [evAll, listPuts, Addr.mk.injEq, Option.map_some, Option.getD_some, Option.getD_none, Option.isSome_some, Option.isSome_none, Option.isNone_some, Option.isNone_none, List.all_cons, List.all_nil, List.length_cons, List.length_nil, List.set_cons_zero, List.set_cons_succ, List.getElem?_cons_zero, List.getElem?_cons_succ, List.getElem?_nil, Option.some.injEq, Value.int.injEq, Value.bool.injEq, Value.string.injEq, Value.pointer.injEq, Value.map.injEq, Prod.mk.injEq, exists_eq_left, exists_eq_left', if_true, if_false, decide_true, decide_false, Nat.reduceAdd, Nat.reduceLT, Nat.reduceLeDiff, Nat.reduceEqDiff, Nat.reduceMul, reduceCtorEq, beq_self_eq_true]
    · exact upd_puts (upd_push hu) (.inl (by omega))

/-! ### the sum -/
def sumP (p : Int → Int) : Nat → Int → Int → Int
  | 0, _, acc => acc
  | n + 1, i, acc => sumP p n (i + 1) (plusV acc (p i))
def sumTo (p : Int → Int) (lo i : Int) : Int := sumP p (i - lo).toNat lo 0
theorem sumP_snoc (p : Int → Int) : ∀ (n : Nat) (i acc : Int), sumP p (n + 1) i acc = plusV (sumP p n i acc) (p (i + n))
  | 0, i, acc => by simp [sumP]
  | n + 1, i, acc => by
    have := sumP_snoc p n (i + 1) (plusV acc (p i))
    show sumP p (n + 1) (i + 1) (plusV acc (p i)) = _
    rw [this]
    show plusV _ _ = plusV (sumP p n (i + 1) (plusV acc (p i))) _
    congr 2
    omega
theorem sumTo_next (p : Int → Int) {lo i : Int} (h : lo ≤ i) : sumTo p lo (i + 1) = plusV (sumTo p lo i) (p i) := by
  unfold sumTo
  rw [show (i + 1 - lo).toNat = (i - lo).toNat + 1 from by omega, sumP_snoc]
  congr 2
  omega
theorem sumTo_lo (p : Int → Int) (lo : Int) : sumTo p lo lo = 0 := by unfold sumTo; simp [sumP]
theorem sumTo_rng {p : Int → Int} (hp : ∀ i, 0 ≤ p i ∧ p i ≤ 4611686018427387904) (lo : Int) (n : Nat) : 0 ≤ sumTo p lo (lo + n) ∧ sumTo p lo (lo + n) ≤ 4611686018427387904 := by
  induction n with
  | zero => rw [show lo + ((0 : Nat) : Int) = lo from by omega, sumTo_lo]; omega
  | succ n ih =>
    rw [show lo + ((n + 1 : Nat) : Int) = lo + n + 1 from by omega, sumTo_next p (by omega)]
    exact plusV_rng ih (hp _)
def Win.sum (w : Win) (at_ : Int) : Int := sumTo w.p (loW at_) (bkt at_ + 1)
theorem sumTo_rng' {p : Int → Int} (hp : ∀ i, 0 ≤ p i ∧ p i ≤ 4611686018427387904) {lo i : Int} (h : lo ≤ i) : 0 ≤ sumTo p lo i ∧ sumTo p lo i ≤ 4611686018427387904 := by
  have := sumTo_rng hp lo (i - lo).toNat
  rwa [show lo + ((i - lo).toNat : Int) = i from by omega] at this

theorem Sum_spec {h : Heap} {wb mb : Nat} {w : Win} (hw : WinR h wb mb w) {at_ : Int} {K : C6 → Int → Heap → Prop}
    (hk : ∀ h', Ext h h' → K (c6 (if wrongE w.last at_ = 0 then w.sum at_ else 0)) (wrongE w.last at_) h') : m_window_Window_Sum (some ⟨wb, 0, none⟩) at_ K h := by
  unfold m_window_Window_Sum g_window_Window_Sum
  have l3 := obj_lt hw.cells
  have l4 := hw.mlt
  simp (maxDischargeDepth := 60) only [evAll, listPuts, Addr.mk.injEq, Option.map_some, Option.getD_some, Option.getD_none, Option.isSome_some, Option.isSome_none, Option.isNone_some, Option.isNone_none, List.all_cons, List.all_nil, List.length_cons, List.length_nil, List.set_cons_zero, List.set_cons_succ, List.getElem?_cons_zero, List.getElem?_cons_succ, List.getElem?_nil, Option.some.injEq, Value.int.injEq, Value.bool.injEq, Value.string.injEq, Value.pointer.injEq, Value.map.injEq, Prod.mk.injEq, exists_eq_left, exists_eq_left', if_true, if_false, decide_true, decide_false, Nat.reduceAdd, Nat.reduceLT, Nat.reduceLeDiff, Nat.reduceEqDiff, Nat.reduceMul, reduceCtorEq, beq_self_eq_true]
  refine wrong_spec (hw.congr (by simp (maxDischargeDepth := 60) only [evAll, listPuts, Addr.mk.injEq, Option.map_some, Option.getD_some, Option.getD_none, Option.isSome_some, Option.isSome_none, Option.isNone_some, Option.isNone_none, List.all_cons, List.all_nil, List.length_cons, List.length_nil, List.set_cons_zero, List.set_cons_succ, List.getElem?_cons_zero, List.getElem?_cons_succ, List.getElem?_nil, Option.some.injEq, Value.int.injEq, Value.bool.injEq, Value.string.injEq, Value.pointer.injEq, Value.map.injEq, Prod.mk.injEq, exists_eq_left, exists_eq_left', if_true, if_false, decide_true, decide_false, Nat.reduceAdd, Nat.reduceLT, Nat.reduceLeDiff, Nat.reduceEqDiff, Nat.reduceMul, reduceCtorEq, beq_self_eq_true, lt_ne0 l3]) (by simp (maxDischargeDepth := 60) only [evAll, listPuts, Addr.mk.injEq, Option.map_some, Option.getD_some, Option.getD_none, Option.isSome_some, Option.isSome_none, Option.isNone_some, Option.isNone_none, List.all_cons, List.all_nil, List.length_cons, List.length_nil, List.set_cons_zero, List.set_cons_succ, List.getElem?_cons_zero, List.getElem?_cons_succ, List.getElem?_nil, Option.some.injEq, Value.int.injEq, Value.bool.injEq, Value.string.injEq, Value.pointer.injEq, Value.map.injEq, Prod.mk.injEq, exists_eq_left, exists_eq_left', if_true, if_false, decide_true, decide_false, Nat.reduceAdd, Nat.reduceLT, Nat.reduceLeDiff, Nat.reduceEqDiff, Nat.reduceMul, reduceCtorEq, beq_self_eq_true, lt_ne0 l4])) ?_
  rcases Decidable.em (wrongE w.last at_ = 0) with he | he
  · rw [if_pos he] at hk
    rw [he] at hk ⊢
    obtain ⟨a0, a1, a2⟩ := wrongE_ok he
    have hbk := bkt_rng a0 a1
    simp (maxDischargeDepth := 60) only [evAll, listPuts, Addr.mk.injEq, Option.map_some, Option.getD_some, Option.getD_none, Option.isSome_some, Option.isSome_none, Option.isNone_some, Option.isNone_none, List.all_cons, List.all_nil, List.length_cons, List.length_nil, List.set_cons_zero, List.set_cons_succ, List.getElem?_cons_zero, List.getElem?_cons_succ, List.getElem?_nil, Option.some.injEq, Value.int.injEq, Value.bool.injEq, Value.string.injEq, Value.pointer.injEq, Value.map.injEq, Prod.mk.injEq, exists_eq_left, exists_eq_left', if_true, if_false, decide_true, decide_false, Nat.reduceAdd, Nat.reduceLT, Nat.reduceLeDiff, Nat.reduceEqDiff, Nat.reduceMul, reduceCtorEq, beq_self_eq_true, bne_self_eq_false, at_spec, rangeM_ev]
    intro r
    have hlo : loW at_ ≤ bkt at_ + 1 := by unfold loW; omega
    have n3 := lt_ne l3
    have n30 := lt_ne0 l3
    have n4 := lt_ne l4
    have n40 := lt_ne0 l4
    refine at1_spec (w := w) (at_ := at_) (wb := wb) (mb := mb) (hw.congr ?_ ?_) ?_ ?_ he (S := fun k => k = sz h + 1 ∨ k = sz h + 5) ?_ ?_ ?_ ?_ ?_
      (fun i hh => obj hh (sz h + 5) = some (recSt r .ready none) ∧ obj hh (sz h + 4) = some (.deferred (some [])) ∧ obj hh (sz h + 1) = some (.cells (c6L (c6 (sumTo w.p (loW at_) i))).toArray 141 (0, 0)) ∧
        obj hh (sz h) = some (.cells [iv 0, iv 0, iv 0, iv 0, iv 0, iv 0].toArray 141 (0, 0)) ∧ Ext h hh ∧ loW at_ ≤ i) (T1 := 84) (T2 := 3) ?_ ?_ ?_ ?_ ?_
    · simp (maxDischargeDepth := 60) only [evAll, listPuts, Addr.mk.injEq, Option.map_some, Option.getD_some, Option.getD_none, Option.isSome_some, Option.isSome_none, Option.isNone_some, Option.isNone_none, List.all_cons, List.all_nil, List.length_cons, List.length_nil, List.set_cons_zero, List.set_cons_succ, List.getElem?_cons_zero, List.getElem?_cons_succ, List.getElem?_nil, Option.some.injEq, Value.int.injEq, Value.bool.injEq, Value.string.injEq, Value.pointer.injEq, Value.map.injEq, Prod.mk.injEq, exists_eq_left, exists_eq_left', if_true, if_false, decide_true, decide_false, Nat.reduceAdd, Nat.reduceLT, Nat.reduceLeDiff, Nat.reduceEqDiff, Nat.reduceMul, reduceCtorEq, beq_self_eq_true, n3, n30]
    · simp (maxDischargeDepth := 60) only [evAll, listPuts, Addr.mk.injEq, Option.map_some, Option.getD_some, Option.getD_none, Option.isSome_some, Option.isSome_none, Option.isNone_some, Option.isNone_none, List.all_cons, List.all_nil, List.length_cons, List.length_nil, List.set_cons_zero, List.set_cons_succ, List.getElem?_cons_zero, List.getElem?_cons_succ, List.getElem?_nil, Option.some.injEq, Value.int.injEq, Value.bool.injEq, Value.string.injEq, Value.pointer.injEq, Value.map.injEq, Prod.mk.injEq, exists_eq_left, exists_eq_left', if_true, if_false, decide_true, decide_false, Nat.reduceAdd, Nat.reduceLT, Nat.reduceLeDiff, Nat.reduceEqDiff, Nat.reduceMul, reduceCtorEq, beq_self_eq_true, n4, n40]
    · simp (maxDischargeDepth := 60) only [evAll, listPuts, Addr.mk.injEq, Option.map_some, Option.getD_some, Option.getD_none, Option.isSome_some, Option.isSome_none, Option.isNone_some, Option.isNone_none, List.all_cons, List.all_nil, List.length_cons, List.length_nil, List.set_cons_zero, List.set_cons_succ, List.getElem?_cons_zero, List.getElem?_cons_succ, List.getElem?_nil, Option.some.injEq, Value.int.injEq, Value.bool.injEq, Value.string.injEq, Value.pointer.injEq, Value.map.injEq, Prod.mk.injEq, exists_eq_left, exists_eq_left', if_true, if_false, decide_true, decide_false, Nat.reduceAdd, Nat.reduceLT, Nat.reduceLeDiff, Nat.reduceEqDiff, Nat.reduceMul, reduceCtorEq, beq_self_eq_true]
    · simp (maxDischargeDepth := 60) only [evAll, listPuts, Addr.mk.injEq, Option.map_some, Option.getD_some, Option.getD_none, Option.isSome_some, Option.isSome_none, Option.isNone_some, Option.isNone_none, List.all_cons, List.all_nil, List.length_cons, List.length_nil, List.set_cons_zero, List.set_cons_succ, List.getElem?_cons_zero, List.getElem?_cons_succ, List.getElem?_nil, Option.some.injEq, Value.int.injEq, Value.bool.injEq, Value.string.injEq, Value.pointer.injEq, Value.map.injEq, Prod.mk.injEq, exists_eq_left, exists_eq_left', if_true, if_false, decide_true, decide_false, Nat.reduceAdd, Nat.reduceLT, Nat.reduceLeDiff, Nat.reduceEqDiff, Nat.reduceMul, reduceCtorEq, beq_self_eq_true]
    · intro k hk9
      simp (maxDischargeDepth := 60) only [evAll, listPuts, Addr.mk.injEq, Option.map_some, Option.getD_some, Option.getD_none, Option.isSome_some, Option.isSome_none, Option.isNone_some, Option.isNone_none, List.all_cons, List.all_nil, List.length_cons, List.length_nil, List.set_cons_zero, List.set_cons_succ, List.getElem?_cons_zero, List.getElem?_cons_succ, List.getElem?_nil, Option.some.injEq, Value.int.injEq, Value.bool.injEq, Value.string.injEq, Value.pointer.injEq, Value.map.injEq, Prod.mk.injEq, exists_eq_left, exists_eq_left', if_true, if_false, decide_true, decide_false, Nat.reduceAdd, Nat.reduceLT, Nat.reduceLeDiff, Nat.reduceEqDiff, Nat.reduceMul, reduceCtorEq, beq_self_eq_true]
      omega
    · omega
    · omega
    · omega
    · omega
    · rintro i hh h' ⟨j1, j2, j3, j4, j5, j6⟩ e
      exact ⟨keepX j1 e, keepX j2 e, keepX j3 e, keepX j4 e, j5.trans e, j6⟩
    · rintro i hh ⟨j1, j2, j3, j4, j5, j6⟩ hp
      rw [sumTo_next _ j6, hp, plusV_zero (sumTo_rng' hw.ok.p j6)]
      exact ⟨j1, j2, j3, j4, j5, by omega⟩
    · rintro i hh K9 ⟨j1, j2, j3, j4, j5, j6⟩ hu hK9
      rw [yieldM_ev]
      refine ⟨rfl, rfl, j1, ⟨((IntKind.wrap .i64 (i * 100000), w.p i, 0, 0, 0, 0, 0, ()), ()), rfl, ?_⟩⟩
      have g1 := obj_lt j1
      have g2 := obj_lt j2
      have g3 := obj_lt j3
      have g4 := obj_lt j4
      have g5 : sz h + 5 < sz hh + 1 := by omega
      have nn : ∀ k, k ≤ 5 → (sz h + k = sz hh) = False ∧ (sz hh = sz h + k) = False := fun k hk => ⟨eq_false (by omega), eq_false (by omega)⟩
      have m1 := nn 1 (by omega)
      have m5 := nn 5 (by omega)
      simp (maxDischargeDepth := 60) only [evAll, listPuts, Addr.mk.injEq, Option.map_some, Option.getD_some, Option.getD_none, Option.isSome_some, Option.isSome_none, Option.isNone_some, Option.isNone_none, List.all_cons, List.all_nil, List.length_cons, List.length_nil, List.set_cons_zero, List.set_cons_succ, List.getElem?_cons_zero, List.getElem?_cons_succ, List.getElem?_nil, Option.some.injEq, Value.int.injEq, Value.bool.injEq, Value.string.injEq, Value.pointer.injEq, Value.map.injEq, Prod.mk.injEq, exists_eq_left, exists_eq_left', if_true, if_false, decide_true, decide_false, Nat.reduceAdd, Nat.reduceLT, Nat.reduceLeDiff, Nat.reduceEqDiff, Nat.reduceMul, reduceCtorEq, beq_self_eq_true, busyM_ev, obj_setO, sz_setO, j1, j3, m1.1, m1.2, m5.1, m5.2, c6L, c6, g5]
      refine two_spec (a := c6 (sumTo w.p (loW at_) i)) (b := c6 (w.p i)) fun h' e' => ?_
      have z' := ext_sz e'
      simp (maxDischargeDepth := 60) only [evAll, listPuts, Addr.mk.injEq, Option.map_some, Option.getD_some, Option.getD_none, Option.isSome_some, Option.isSome_none, Option.isNone_some, Option.isNone_none, List.all_cons, List.all_nil, List.length_cons, List.length_nil, List.set_cons_zero, List.set_cons_succ, List.getElem?_cons_zero, List.getElem?_cons_succ, List.getElem?_nil, Option.some.injEq, Value.int.injEq, Value.bool.injEq, Value.string.injEq, Value.pointer.injEq, Value.map.injEq, Prod.mk.injEq, exists_eq_left, exists_eq_left', if_true, if_false, decide_true, decide_false, Nat.reduceAdd, Nat.reduceLT, Nat.reduceLeDiff, Nat.reduceEqDiff, Nat.reduceMul, reduceCtorEq, beq_self_eq_true, sz_setO] at z'
      have g6 : sz h + 5 < sz h' := by omega
      have o1 := ext_obj e' (b := sz h + 1) (by simp (maxDischargeDepth := 60) only [evAll, listPuts, Addr.mk.injEq, Option.map_some, Option.getD_some, Option.getD_none, Option.isSome_some, Option.isSome_none, Option.isNone_some, Option.isNone_none, List.all_cons, List.all_nil, List.length_cons, List.length_nil, List.set_cons_zero, List.set_cons_succ, List.getElem?_cons_zero, List.getElem?_cons_succ, List.getElem?_nil, Option.some.injEq, Value.int.injEq, Value.bool.injEq, Value.string.injEq, Value.pointer.injEq, Value.map.injEq, Prod.mk.injEq, exists_eq_left, exists_eq_left', if_true, if_false, decide_true, decide_false, Nat.reduceAdd, Nat.reduceLT, Nat.reduceLeDiff, Nat.reduceEqDiff, Nat.reduceMul, reduceCtorEq, beq_self_eq_true, sz_setO]; omega)
      have o5 := ext_obj e' (b := sz h + 5) (by simp (maxDischargeDepth := 60) only [evAll, listPuts, Addr.mk.injEq, Option.map_some, Option.getD_some, Option.getD_none, Option.isSome_some, Option.isSome_none, Option.isNone_some, Option.isNone_none, List.all_cons, List.all_nil, List.length_cons, List.length_nil, List.set_cons_zero, List.set_cons_succ, List.getElem?_cons_zero, List.getElem?_cons_succ, List.getElem?_nil, Option.some.injEq, Value.int.injEq, Value.bool.injEq, Value.string.injEq, Value.pointer.injEq, Value.map.injEq, Prod.mk.injEq, exists_eq_left, exists_eq_left', if_true, if_false, decide_true, decide_false, Nat.reduceAdd, Nat.reduceLT, Nat.reduceLeDiff, Nat.reduceEqDiff, Nat.reduceMul, reduceCtorEq, beq_self_eq_true, sz_setO]; omega)
      have o4 := ext_obj e' (b := sz h + 4) (by simp (maxDischargeDepth := 60) only [evAll, listPuts, Addr.mk.injEq, Option.map_some, Option.getD_some, Option.getD_none, Option.isSome_some, Option.isSome_none, Option.isNone_some, Option.isNone_none, List.all_cons, List.all_nil, List.length_cons, List.length_nil, List.set_cons_zero, List.set_cons_succ, List.getElem?_cons_zero, List.getElem?_cons_succ, List.getElem?_nil, Option.some.injEq, Value.int.injEq, Value.bool.injEq, Value.string.injEq, Value.pointer.injEq, Value.map.injEq, Prod.mk.injEq, exists_eq_left, exists_eq_left', if_true, if_false, decide_true, decide_false, Nat.reduceAdd, Nat.reduceLT, Nat.reduceLeDiff, Nat.reduceEqDiff, Nat.reduceMul, reduceCtorEq, beq_self_eq_true, sz_setO]; omega)
      have o0 := ext_obj e' (b := sz h) (by simp (maxDischargeDepth := 60) only [evAll, listPuts, Addr.mk.injEq, Option.map_some, Option.getD_some, Option.getD_none, Option.isSome_some, Option.isSome_none, Option.isNone_some, Option.isNone_none, List.all_cons, List.all_nil, List.length_cons, List.length_nil, List.set_cons_zero, List.set_cons_succ, List.getElem?_cons_zero, List.getElem?_cons_succ, List.getElem?_nil, Option.some.injEq, Value.int.injEq, Value.bool.injEq, Value.string.injEq, Value.pointer.injEq, Value.map.injEq, Prod.mk.injEq, exists_eq_left, exists_eq_left', if_true, if_false, decide_true, decide_false, Nat.reduceAdd, Nat.reduceLT, Nat.reduceLeDiff, Nat.reduceEqDiff, Nat.reduceMul, reduceCtorEq, beq_self_eq_true, sz_setO]; omega)
      have m4 := nn 4 (by omega)
      have m0 : (sz h = sz hh) = False := eq_false (by omega)
      simp (maxDischargeDepth := 60) only [evAll, listPuts, Addr.mk.injEq, Option.map_some, Option.getD_some, Option.getD_none, Option.isSome_some, Option.isSome_none, Option.isNone_some, Option.isNone_none, List.all_cons, List.all_nil, List.length_cons, List.length_nil, List.set_cons_zero, List.set_cons_succ, List.getElem?_cons_zero, List.getElem?_cons_succ, List.getElem?_nil, Option.some.injEq, Value.int.injEq, Value.bool.injEq, Value.string.injEq, Value.pointer.injEq, Value.map.injEq, Prod.mk.injEq, exists_eq_left, exists_eq_left', if_true, if_false, decide_true, decide_false, Nat.reduceAdd, Nat.reduceLT, Nat.reduceLeDiff, Nat.reduceEqDiff, Nat.reduceMul, reduceCtorEq, beq_self_eq_true, obj_setO, sz_setO, j1, j2, j3, j4, m0, m1.1, m4.1, m5.1, m1.2, m4.2, m5.2, g5] at o1 o5 o4 o0
      rw [two_c6, ← sumTo_next _ j6]
      simp (maxDischargeDepth := 60) only [evAll, listPuts, Addr.mk.injEq, Option.map_some, Option.getD_some, Option.getD_none, Option.isSome_some, Option.isSome_none, Option.isNone_some, Option.isNone_none, List.all_cons, List.all_nil, List.length_cons, List.length_nil, List.set_cons_zero, List.set_cons_succ, List.getElem?_cons_zero, List.getElem?_cons_succ, List.getElem?_nil, Option.some.injEq, Value.int.injEq, Value.bool.injEq, Value.string.injEq, Value.pointer.injEq, Value.map.injEq, Prod.mk.injEq, exists_eq_left, exists_eq_left', if_true, if_false, decide_true, decide_false, Nat.reduceAdd, Nat.reduceLT, Nat.reduceLeDiff, Nat.reduceEqDiff, Nat.reduceMul, reduceCtorEq, beq_self_eq_true, obj_setO, sz_setO, o1, o5, g6, c6L, c6]
      refine hK9 _ ⟨?_, ?_, ?_, ?_, ?_, by omega⟩ ?_
      · simp (maxDischargeDepth := 60) only [evAll, listPuts, Addr.mk.injEq, Option.map_some, Option.getD_some, Option.getD_none, Option.isSome_some, Option.isSome_none, Option.isNone_some, Option.isNone_none, List.all_cons, List.all_nil, List.length_cons, List.length_nil, List.set_cons_zero, List.set_cons_succ, List.getElem?_cons_zero, List.getElem?_cons_succ, List.getElem?_nil, Option.some.injEq, Value.int.injEq, Value.bool.injEq, Value.string.injEq, Value.pointer.injEq, Value.map.injEq, Prod.mk.injEq, exists_eq_left, exists_eq_left', if_true, if_false, decide_true, decide_false, Nat.reduceAdd, Nat.reduceLT, Nat.reduceLeDiff, Nat.reduceEqDiff, Nat.reduceMul, reduceCtorEq, beq_self_eq_true, obj_setO, sz_setO, g6]
      · simp (maxDischargeDepth := 60) only [evAll, listPuts, Addr.mk.injEq, Option.map_some, Option.getD_some, Option.getD_none, Option.isSome_some, Option.isSome_none, Option.isNone_some, Option.isNone_none, List.all_cons, List.all_nil, List.length_cons, List.length_nil, List.set_cons_zero, List.set_cons_succ, List.getElem?_cons_zero, List.getElem?_cons_succ, List.getElem?_nil, Option.some.injEq, Value.int.injEq, Value.bool.injEq, Value.string.injEq, Value.pointer.injEq, Value.map.injEq, Prod.mk.injEq, exists_eq_left, exists_eq_left', if_true, if_false, decide_true, decide_false, Nat.reduceAdd, Nat.reduceLT, Nat.reduceLeDiff, Nat.reduceEqDiff, Nat.reduceMul, reduceCtorEq, beq_self_eq_true, obj_setO, sz_setO, g6, o4]
      · simp (maxDischargeDepth := 60) only [evAll, listPuts, Addr.mk.injEq, Option.map_some, Option.getD_some, Option.getD_none, Option.isSome_some, Option.isSome_none, Option.isNone_some, Option.isNone_none, List.all_cons, List.all_nil, List.length_cons, List.length_nil, List.set_cons_zero, List.set_cons_succ, List.getElem?_cons_zero, List.getElem?_cons_succ, List.getElem?_nil, Option.some.injEq, Value.int.injEq, Value.bool.injEq, Value.string.injEq, Value.pointer.injEq, Value.map.injEq, Prod.mk.injEq, exists_eq_left, exists_eq_left', if_true, if_false, decide_true, decide_false, Nat.reduceAdd, Nat.reduceLT, Nat.reduceLeDiff, Nat.reduceEqDiff, Nat.reduceMul, reduceCtorEq, beq_self_eq_true, obj_setO, sz_setO, g6, o1, c6L, c6]
      · simp (maxDischargeDepth := 60) only [evAll, listPuts, Addr.mk.injEq, Option.map_some, Option.getD_some, Option.getD_none, Option.isSome_some, Option.isSome_none, Option.isNone_some, Option.isNone_none, List.all_cons, List.all_nil, List.length_cons, List.length_nil, List.set_cons_zero, List.set_cons_succ, List.getElem?_cons_zero, List.getElem?_cons_succ, List.getElem?_nil, Option.some.injEq, Value.int.injEq, Value.bool.injEq, Value.string.injEq, Value.pointer.injEq, Value.map.injEq, Prod.mk.injEq, exists_eq_left, exists_eq_left', if_true, if_false, decide_true, decide_false, Nat.reduceAdd, Nat.reduceLT, Nat.reduceLeDiff, Nat.reduceEqDiff, Nat.reduceMul, reduceCtorEq, beq_self_eq_true, obj_setO, sz_setO, g6, o0]
      · exact ext_setO (ext_puts ((ext_setO (ext_puts (ext_push j5) (by omega)) (by omega)).trans e') (by omega)) (by omega)
      · exact upd_setO (upd_puts ((upd_setO (upd_puts (upd_push (Upd.refl _ _)) (.inl (by omega))) (.inr (.inr rfl))).trans (e'.upd _)) (.inr (.inl rfl))) (.inr (.inr rfl))
    · simp (maxDischargeDepth := 60) only [evAll, listPuts, Addr.mk.injEq, Option.map_some, Option.getD_some, Option.getD_none, Option.isSome_some, Option.isSome_none, Option.isNone_some, Option.isNone_none, List.all_cons, List.all_nil, List.length_cons, List.length_nil, List.set_cons_zero, List.set_cons_succ, List.getElem?_cons_zero, List.getElem?_cons_succ, List.getElem?_nil, Option.some.injEq, Value.int.injEq, Value.bool.injEq, Value.string.injEq, Value.pointer.injEq, Value.map.injEq, Prod.mk.injEq, exists_eq_left, exists_eq_left', if_true, if_false, decide_true, decide_false, Nat.reduceAdd, Nat.reduceLT, Nat.reduceLeDiff, Nat.reduceEqDiff, Nat.reduceMul, reduceCtorEq, beq_self_eq_true, sumTo_lo, c6L, c6, Int.le_refl]
    · rintro hh ⟨j1, j2, j3, j4, j5, j6⟩ hu
      refine ⟨.ready, none, by decide, j1, ?_⟩
      have g1 := obj_lt j1
      have g2 := obj_lt j2
      rw [jump_none]
      simp (maxDischargeDepth := 60) only [evAll, listPuts, Addr.mk.injEq, Option.map_some, Option.getD_some, Option.getD_none, Option.isSome_some, Option.isSome_none, Option.isNone_some, Option.isNone_none, List.all_cons, List.all_nil, List.length_cons, List.length_nil, List.set_cons_zero, List.set_cons_succ, List.getElem?_cons_zero, List.getElem?_cons_succ, List.getElem?_nil, Option.some.injEq, Value.int.injEq, Value.bool.injEq, Value.string.injEq, Value.pointer.injEq, Value.map.injEq, Prod.mk.injEq, exists_eq_left, exists_eq_left', if_true, if_false, decide_true, decide_false, Nat.reduceAdd, Nat.reduceLT, Nat.reduceLeDiff, Nat.reduceEqDiff, Nat.reduceMul, reduceCtorEq, beq_self_eq_true, obj_setO, sz_setO, shutM_ev, j1, j2, j3, j4, g1, g2, c6L, c6]
      exact hk _ (ext_setO (ext_puts (ext_setO j5 (by omega)) (by omega)) (by omega))
  · have : (wrongE w.last at_ != 0) = true := by simpa using he
    rw [this]
    rw [if_neg he] at hk
    simp (maxDischargeDepth := 60) only [evAll, listPuts, Addr.mk.injEq, Option.map_some, Option.getD_some, Option.getD_none, Option.isSome_some, Option.isSome_none, Option.isNone_some, Option.isNone_none, List.all_cons, List.all_nil, List.length_cons, List.length_nil, List.set_cons_zero, List.set_cons_succ, List.getElem?_cons_zero, List.getElem?_cons_succ, List.getElem?_nil, Option.some.injEq, Value.int.injEq, Value.bool.injEq, Value.string.injEq, Value.pointer.injEq, Value.map.injEq, Prod.mk.injEq, exists_eq_left, exists_eq_left', if_true, if_false, decide_true, decide_false, Nat.reduceAdd, Nat.reduceLT, Nat.reduceLeDiff, Nat.reduceEqDiff, Nat.reduceMul, reduceCtorEq, beq_self_eq_true]
    exact hk _ (by simp (maxDischargeDepth := 60) only [evAll, listPuts, Addr.mk.injEq, Option.map_some, Option.getD_some, Option.getD_none, Option.isSome_some, Option.isSome_none, Option.isNone_some, Option.isNone_none, List.all_cons, List.all_nil, List.length_cons, List.length_nil, List.set_cons_zero, List.set_cons_succ, List.getElem?_cons_zero, List.getElem?_cons_succ, List.getElem?_nil, Option.some.injEq, Value.int.injEq, Value.bool.injEq, Value.string.injEq, Value.pointer.injEq, Value.map.injEq, Prod.mk.injEq, exists_eq_left, exists_eq_left', if_true, if_false, decide_true, decide_false, Nat.reduceAdd, Nat.reduceLT, Nat.reduceLeDiff, Nat.reduceEqDiff, Nat.reduceMul, reduceCtorEq, beq_self_eq_true])

/-! ### What a window's Add does. -/
/-- an element of a row, cell by cell -/
theorem row_elem {h : Heap} {s : Sl} {size : Nat} {vs : List Value} (hr : Row h s size vs) {i : Nat} (hi : i < s.len) : ∃ b o, (∀ {K : Nat → Nat → Prop} {n : Int}, n = (i : Int) → K b o → idxA s.ptr s.len n size K) ∧ ∀ j v, j < size → vs[i * size + j]? = some v → objCell (o + j) (obj h b) = some v := by
  rcases hr.at_ with h0 | ⟨b, o, hp, hh⟩
  · omega
  · refine ⟨b, o + i * size, fun {K n} hn hk => ?_, fun j v hj hv => ?_⟩
    · subst hn
      exact ⟨b, o, hp, by omega, by omega, by simpa using hk⟩
    · have := has_get hh hv
      rw [cell_def, ← Nat.add_assoc] at this
      exact this

theorem right_spec {x : Int} (hx : 0 ≤ x ∧ x ≤ 4611686018427387904) {K : Bool → Heap → Prop} {h : Heap} (hk : ∀ h', Ext h h' → K true h') : m_window_right (c6 x) K h := by
  unfold m_window_right g_window_right
  simp (maxDischargeDepth := 60) only [evAll, listPuts, Addr.mk.injEq, Option.map_some, Option.getD_some, Option.getD_none, Option.isSome_some, Option.isSome_none, Option.isNone_some, Option.isNone_none, List.all_cons, List.all_nil, List.length_cons, List.length_nil, List.set_cons_zero, List.set_cons_succ, List.getElem?_cons_zero, List.getElem?_cons_succ, List.getElem?_nil, Option.some.injEq, Value.int.injEq, Value.bool.injEq, Value.string.injEq, Value.pointer.injEq, Value.map.injEq, Prod.mk.injEq, exists_eq_left, exists_eq_left', if_true, if_false, decide_true, decide_false, Nat.reduceAdd, Nat.reduceLT, Nat.reduceLeDiff, Nat.reduceEqDiff, Nat.reduceMul, reduceCtorEq, beq_self_eq_true, c6]
  refine loopM_intro (fun s hh => ∃ i : Int, s = (i, ()) ∧ 0 ≤ i ∧ i ≤ 6 ∧ hh = ((h.push (.cells [iv x, iv 0, iv 0, iv 0, iv 0, iv 0].toArray 141 (0, 0))).push (.cells [iv x, iv 0, iv 0, iv 0, iv 0, iv 0].toArray 3 (0, 0)))) (fun s _ => (6 - s.1).toNat) ⟨0, rfl, by omega, by omega, rfl⟩ ?_
  rintro _ _ ⟨i, rfl, hi0, hi, rfl⟩
  dsimp only
  refine iteP_dec (fun q => ?_) fun q => ?_
  · refine ⟨_, _, rfl, by omega, by omega, ?_⟩
    have hwr : IntKind.wrap .i64 (i + 1) = i + 1 := wrap64 (by omega) (by omega)
    have h6 : i = 0 ∨ i = 1 ∨ i = 2 ∨ i = 3 ∨ i = 4 ∨ i = 5 := by omega
    have d1 : decide (x < 0) = false := by simp; omega
    have d2 : decide (x > 4611686018427387904) = false := by simp; omega
    have d3 : decide ((0 : Int) < 0) = false := by decide
    have d4 : decide ((0 : Int) > 4611686018427387904) = false := by decide
    rcases h6 with rfl | rfl | rfl | rfl | rfl | rfl <;> simp (maxDischargeDepth := 60) only [evAll, listPuts, Addr.mk.injEq, Option.map_some, Option.getD_some, Option.getD_none, Option.isSome_some, Option.isSome_none, Option.isNone_some, Option.isNone_none, List.all_cons, List.all_nil, List.length_cons, List.length_nil, List.set_cons_zero, List.set_cons_succ, List.getElem?_cons_zero, List.getElem?_cons_succ, List.getElem?_nil, Option.some.injEq, Value.int.injEq, Value.bool.injEq, Value.string.injEq, Value.pointer.injEq, Value.map.injEq, Prod.mk.injEq, exists_eq_left, exists_eq_left', if_true, if_false, decide_true, decide_false, Nat.reduceAdd, Nat.reduceLT, Nat.reduceLeDiff, Nat.reduceEqDiff, Nat.reduceMul, reduceCtorEq, beq_self_eq_true, Nat.mul_one, d1, d2, d3, d4, hwr, Int.toNat_zero, Int.reduceToNat] <;> exact ⟨⟨by omega, by omega⟩, by omega⟩
  · simp (maxDischargeDepth := 60) only [evAll, listPuts, Addr.mk.injEq, Option.map_some, Option.getD_some, Option.getD_none, Option.isSome_some, Option.isSome_none, Option.isNone_some, Option.isNone_none, List.all_cons, List.all_nil, List.length_cons, List.length_nil, List.set_cons_zero, List.set_cons_succ, List.getElem?_cons_zero, List.getElem?_cons_succ, List.getElem?_nil, Option.some.injEq, Value.int.injEq, Value.bool.injEq, Value.string.injEq, Value.pointer.injEq, Value.map.injEq, Prod.mk.injEq, exists_eq_left, exists_eq_left', if_true, if_false, decide_true, decide_false, Nat.reduceAdd, Nat.reduceLT, Nat.reduceLeDiff, Nat.reduceEqDiff, Nat.reduceMul, reduceCtorEq, beq_self_eq_true]
    simp [iteT_ev, iteF_ev]
    exact hk _ (ext_push (ext_push (Ext.refl _)))

theorem plusV_zl {a : Int} (ha : 0 ≤ a ∧ a ≤ 4611686018427387904) : plusV 0 a = a := by
  rw [plusV_eq (by omega) ha]; omega

theorem Join_spec {h : Heap} {s : Sl} {a b : Int} (hr : Row h s 6 (c6L (c6 a) ++ c6L (c6 b))) (ha : 0 ≤ a ∧ a ≤ 4611686018427387904) (hb : 0 ≤ b ∧ b ≤ 4611686018427387904) {K : C6 → Heap → Prop} (hk : ∀ h', Ext h h' → K (c6 (plusV a b)) h') : m_window_Join s K h := by
  have hl : s.len = 2 := by have := hr.len; simp [c6L] at this; omega
  unfold m_window_Join g_window_Join
  simp (maxDischargeDepth := 60) only [evAll, listPuts, Addr.mk.injEq, Option.map_some, Option.getD_some, Option.getD_none, Option.isSome_some, Option.isSome_none, Option.isNone_some, Option.isNone_none, List.all_cons, List.all_nil, List.length_cons, List.length_nil, List.set_cons_zero, List.set_cons_succ, List.getElem?_cons_zero, List.getElem?_cons_succ, List.getElem?_nil, Option.some.injEq, Value.int.injEq, Value.bool.injEq, Value.string.injEq, Value.pointer.injEq, Value.map.injEq, Prod.mk.injEq, exists_eq_left, exists_eq_left', if_true, if_false, decide_true, decide_false, Nat.reduceAdd, Nat.reduceLT, Nat.reduceLeDiff, Nat.reduceEqDiff, Nat.reduceMul, reduceCtorEq, beq_self_eq_true]
  refine loopM_intro (fun st hh => ∃ i : Nat, st = ((i : Int), ()) ∧ i ≤ 2 ∧ Ext h hh ∧ obj hh (sz h) = some (.cells [iv 0, iv 0, iv 0, iv 0, iv 0, iv 0].toArray 141 (0, 0)) ∧ obj hh (sz h + 1) = some (.cells (c6L (c6 (if i = 0 then 0 else if i = 1 then a else plusV a b))).toArray 141 (0, 0)))
    (fun s _ => (2 - s.1).toNat) ⟨0, rfl, by omega, by simp (maxDischargeDepth := 60) only [evAll, listPuts, Addr.mk.injEq, Option.map_some, Option.getD_some, Option.getD_none, Option.isSome_some, Option.isSome_none, Option.isNone_some, Option.isNone_none, List.all_cons, List.all_nil, List.length_cons, List.length_nil, List.set_cons_zero, List.set_cons_succ, List.getElem?_cons_zero, List.getElem?_cons_succ, List.getElem?_nil, Option.some.injEq, Value.int.injEq, Value.bool.injEq, Value.string.injEq, Value.pointer.injEq, Value.map.injEq, Prod.mk.injEq, exists_eq_left, exists_eq_left', if_true, if_false, decide_true, decide_false, Nat.reduceAdd, Nat.reduceLT, Nat.reduceLeDiff, Nat.reduceEqDiff, Nat.reduceMul, reduceCtorEq, beq_self_eq_true], by simp (maxDischargeDepth := 60) only [evAll, listPuts, Addr.mk.injEq, Option.map_some, Option.getD_some, Option.getD_none, Option.isSome_some, Option.isSome_none, Option.isNone_some, Option.isNone_none, List.all_cons, List.all_nil, List.length_cons, List.length_nil, List.set_cons_zero, List.set_cons_succ, List.getElem?_cons_zero, List.getElem?_cons_succ, List.getElem?_nil, Option.some.injEq, Value.int.injEq, Value.bool.injEq, Value.string.injEq, Value.pointer.injEq, Value.map.injEq, Prod.mk.injEq, exists_eq_left, exists_eq_left', if_true, if_false, decide_true, decide_false, Nat.reduceAdd, Nat.reduceLT, Nat.reduceLeDiff, Nat.reduceEqDiff, Nat.reduceMul, reduceCtorEq, beq_self_eq_true], by simp (maxDischargeDepth := 60) only [evAll, listPuts, Addr.mk.injEq, Option.map_some, Option.getD_some, Option.getD_none, Option.isSome_some, Option.isSome_none, Option.isNone_some, Option.isNone_none, List.all_cons, List.all_nil, List.length_cons, List.length_nil, List.set_cons_zero, List.set_cons_succ, List.getElem?_cons_zero, List.getElem?_cons_succ, List.getElem?_nil, Option.some.injEq, Value.int.injEq, Value.bool.injEq, Value.string.injEq, Value.pointer.injEq, Value.map.injEq, Prod.mk.injEq, exists_eq_left, exists_eq_left', if_true, if_false, decide_true, decide_false, Nat.reduceAdd, Nat.reduceLT, Nat.reduceLeDiff, Nat.reduceEqDiff, Nat.reduceMul, reduceCtorEq, beq_self_eq_true, c6, c6L]⟩ ?_
  rintro _ hh ⟨i, rfl, hi, he, o0, o1⟩
  dsimp only
  have g1 := obj_lt o1
  have g0 := obj_lt o0
  refine iteP_dec (fun q => ?_) fun q => ?_
  · have hi2 : i < s.len := by omega
    obtain ⟨bb, o, hidx, hcell⟩ := row_elem (hr.ext he) hi2
    refine hidx rfl ?_
    have hv : ∀ j, j < 6 → objCell (o + j) (obj hh bb) = (c6L (c6 (if i = 0 then a else b)))[j]? := fun j hj => by
      rcases (show i = 0 ∨ i = 1 by omega) with rfl | rfl
      · rw [if_pos rfl]
        obtain ⟨v, hv⟩ : ∃ v, (c6L (c6 a))[j]? = some v := ⟨_, List.getElem?_eq_getElem (by simpa [c6L] using hj)⟩
        rw [hv]
        exact hcell j v hj (by rw [Nat.zero_mul, Nat.zero_add, List.getElem?_append_left (by simpa [c6L] using hj)]; exact hv)
      · rw [if_neg (by omega)]
        obtain ⟨v, hv⟩ : ∃ v, (c6L (c6 b))[j]? = some v := ⟨_, List.getElem?_eq_getElem (by simpa [c6L] using hj)⟩
        rw [hv]
        exact hcell j v hj (by rw [Nat.one_mul, List.getElem?_append_right (by simp [c6L])]; simpa [c6L] using hv)
    have v0 := hv 0 (by omega)
    have v1 := hv 1 (by omega)
    have v2 := hv 2 (by omega)
    have v3 := hv 3 (by omega)
    have v4 := hv 4 (by omega)
    have v5 := hv 5 (by omega)
    have hc : 0 ≤ (if i = 0 then a else b) ∧ (if i = 0 then a else b) ≤ 4611686018427387904 := by split <;> assumption
    generalize hcc : (if i = 0 then a else b) = cc at v0 v1 v2 v3 v4 v5 hc
    generalize hac : (if i = 0 then (0 : Int) else if i = 1 then a else plusV a b) = ac at o1
    simp only [c6L, c6, List.getElem?_cons_zero, List.getElem?_cons_succ, Nat.add_zero] at v0 v1 v2 v3 v4 v5
    have m1 : (sz h + 1 = sz hh) = False := eq_false (by omega)
    have m0 : (sz h = sz hh) = False := eq_false (by omega)
    simp (maxDischargeDepth := 60) only [evAll, listPuts, Addr.mk.injEq, Option.map_some, Option.getD_some, Option.getD_none, Option.isSome_some, Option.isSome_none, Option.isNone_some, Option.isNone_none, List.all_cons, List.all_nil, List.length_cons, List.length_nil, List.set_cons_zero, List.set_cons_succ, List.getElem?_cons_zero, List.getElem?_cons_succ, List.getElem?_nil, Option.some.injEq, Value.int.injEq, Value.bool.injEq, Value.string.injEq, Value.pointer.injEq, Value.map.injEq, Prod.mk.injEq, exists_eq_left, exists_eq_left', if_true, if_false, decide_true, decide_false, Nat.reduceAdd, Nat.reduceLT, Nat.reduceLeDiff, Nat.reduceEqDiff, Nat.reduceMul, reduceCtorEq, beq_self_eq_true, v0, v1, v2, v3, v4, v5]
    refine right_spec hc fun h1 e1 => ?_
    have z1 := ext_sz e1
    simp (maxDischargeDepth := 60) only [evAll, listPuts, Addr.mk.injEq, Option.map_some, Option.getD_some, Option.getD_none, Option.isSome_some, Option.isSome_none, Option.isNone_some, Option.isNone_none, List.all_cons, List.all_nil, List.length_cons, List.length_nil, List.set_cons_zero, List.set_cons_succ, List.getElem?_cons_zero, List.getElem?_cons_succ, List.getElem?_nil, Option.some.injEq, Value.int.injEq, Value.bool.injEq, Value.string.injEq, Value.pointer.injEq, Value.map.injEq, Prod.mk.injEq, exists_eq_left, exists_eq_left', if_true, if_false, decide_true, decide_false, Nat.reduceAdd, Nat.reduceLT, Nat.reduceLeDiff, Nat.reduceEqDiff, Nat.reduceMul, reduceCtorEq, beq_self_eq_true] at z1
    have p0 := ext_obj e1 (b := sz hh) (by simp (maxDischargeDepth := 60) only [evAll, listPuts, Addr.mk.injEq, Option.map_some, Option.getD_some, Option.getD_none, Option.isSome_some, Option.isSome_none, Option.isNone_some, Option.isNone_none, List.all_cons, List.all_nil, List.length_cons, List.length_nil, List.set_cons_zero, List.set_cons_succ, List.getElem?_cons_zero, List.getElem?_cons_succ, List.getElem?_nil, Option.some.injEq, Value.int.injEq, Value.bool.injEq, Value.string.injEq, Value.pointer.injEq, Value.map.injEq, Prod.mk.injEq, exists_eq_left, exists_eq_left', if_true, if_false, decide_true, decide_false, Nat.reduceAdd, Nat.reduceLT, Nat.reduceLeDiff, Nat.reduceEqDiff, Nat.reduceMul, reduceCtorEq, beq_self_eq_true] <;> omega)
    have p1 := ext_obj e1 (b := sz h + 1) (by simp (maxDischargeDepth := 60) only [evAll, listPuts, Addr.mk.injEq, Option.map_some, Option.getD_some, Option.getD_none, Option.isSome_some, Option.isSome_none, Option.isNone_some, Option.isNone_none, List.all_cons, List.all_nil, List.length_cons, List.length_nil, List.set_cons_zero, List.set_cons_succ, List.getElem?_cons_zero, List.getElem?_cons_succ, List.getElem?_nil, Option.some.injEq, Value.int.injEq, Value.bool.injEq, Value.string.injEq, Value.pointer.injEq, Value.map.injEq, Prod.mk.injEq, exists_eq_left, exists_eq_left', if_true, if_false, decide_true, decide_false, Nat.reduceAdd, Nat.reduceLT, Nat.reduceLeDiff, Nat.reduceEqDiff, Nat.reduceMul, reduceCtorEq, beq_self_eq_true] <;> omega)
    have p2 := ext_obj e1 (b := sz h) (by simp (maxDischargeDepth := 60) only [evAll, listPuts, Addr.mk.injEq, Option.map_some, Option.getD_some, Option.getD_none, Option.isSome_some, Option.isSome_none, Option.isNone_some, Option.isNone_none, List.all_cons, List.all_nil, List.length_cons, List.length_nil, List.set_cons_zero, List.set_cons_succ, List.getElem?_cons_zero, List.getElem?_cons_succ, List.getElem?_nil, Option.some.injEq, Value.int.injEq, Value.bool.injEq, Value.string.injEq, Value.pointer.injEq, Value.map.injEq, Prod.mk.injEq, exists_eq_left, exists_eq_left', if_true, if_false, decide_true, decide_false, Nat.reduceAdd, Nat.reduceLT, Nat.reduceLeDiff, Nat.reduceEqDiff, Nat.reduceMul, reduceCtorEq, beq_self_eq_true] <;> omega)
    simp (maxDischargeDepth := 60) only [evAll, listPuts, Addr.mk.injEq, Option.map_some, Option.getD_some, Option.getD_none, Option.isSome_some, Option.isSome_none, Option.isNone_some, Option.isNone_none, List.all_cons, List.all_nil, List.length_cons, List.length_nil, List.set_cons_zero, List.set_cons_succ, List.getElem?_cons_zero, List.getElem?_cons_succ, List.getElem?_nil, Option.some.injEq, Value.int.injEq, Value.bool.injEq, Value.string.injEq, Value.pointer.injEq, Value.map.injEq, Prod.mk.injEq, exists_eq_left, exists_eq_left', if_true, if_false, decide_true, decide_false, Nat.reduceAdd, Nat.reduceLT, Nat.reduceLeDiff, Nat.reduceEqDiff, Nat.reduceMul, reduceCtorEq, beq_self_eq_true, m1, m0, o1, o0] at p0 p1 p2
    simp (maxDischargeDepth := 60) only [evAll, listPuts, Addr.mk.injEq, Option.map_some, Option.getD_some, Option.getD_none, Option.isSome_some, Option.isSome_none, Option.isNone_some, Option.isNone_none, List.all_cons, List.all_nil, List.length_cons, List.length_nil, List.set_cons_zero, List.set_cons_succ, List.getElem?_cons_zero, List.getElem?_cons_succ, List.getElem?_nil, Option.some.injEq, Value.int.injEq, Value.bool.injEq, Value.string.injEq, Value.pointer.injEq, Value.map.injEq, Prod.mk.injEq, exists_eq_left, exists_eq_left', if_true, if_false, decide_true, decide_false, Nat.reduceAdd, Nat.reduceLT, Nat.reduceLeDiff, Nat.reduceEqDiff, Nat.reduceMul, reduceCtorEq, beq_self_eq_true, p0, p1, c6L, c6]
    refine two_spec (a := c6 ac) (b := c6 cc) fun h2 e2 => ?_
    have z2 := ext_sz e2
    have q1 := keepX p1 e2
    have q2 := keepX p2 e2
    rw [two_c6]
    have hwr : IntKind.wrap .i64 ((i : Int) + 1) = ((i + 1 : Nat) : Int) := by rw [wrap64 (by omega) (by omega)]; omega
    have n01 : (sz h = sz h + 1) = False := eq_false (by omega)
    simp (maxDischargeDepth := 60) only [evAll, listPuts, Addr.mk.injEq, Option.map_some, Option.getD_some, Option.getD_none, Option.isSome_some, Option.isSome_none, Option.isNone_some, Option.isNone_none, List.all_cons, List.all_nil, List.length_cons, List.length_nil, List.set_cons_zero, List.set_cons_succ, List.getElem?_cons_zero, List.getElem?_cons_succ, List.getElem?_nil, Option.some.injEq, Value.int.injEq, Value.bool.injEq, Value.string.injEq, Value.pointer.injEq, Value.map.injEq, Prod.mk.injEq, exists_eq_left, exists_eq_left', if_true, if_false, decide_true, decide_false, Nat.reduceAdd, Nat.reduceLT, Nat.reduceLeDiff, Nat.reduceEqDiff, Nat.reduceMul, reduceCtorEq, beq_self_eq_true, q1, c6L, c6, hwr]
    refine ⟨⟨i + 1, rfl, by omega, ext_puts (((ext_puts (ext_push he) (by omega)).trans e1).trans e2) (by omega), ?_, ?_⟩, by omega⟩
    · simp (maxDischargeDepth := 60) only [evAll, listPuts, Addr.mk.injEq, Option.map_some, Option.getD_some, Option.getD_none, Option.isSome_some, Option.isSome_none, Option.isNone_some, Option.isNone_none, List.all_cons, List.all_nil, List.length_cons, List.length_nil, List.set_cons_zero, List.set_cons_succ, List.getElem?_cons_zero, List.getElem?_cons_succ, List.getElem?_nil, Option.some.injEq, Value.int.injEq, Value.bool.injEq, Value.string.injEq, Value.pointer.injEq, Value.map.injEq, Prod.mk.injEq, exists_eq_left, exists_eq_left', if_true, if_false, decide_true, decide_false, Nat.reduceAdd, Nat.reduceLT, Nat.reduceLeDiff, Nat.reduceEqDiff, Nat.reduceMul, reduceCtorEq, beq_self_eq_true, q2, n01]
    · have : plusV ac cc = (if i + 1 = 0 then (0 : Int) else if i + 1 = 1 then a else plusV a b) := by
        rw [← hac, ← hcc]
        rcases (show i = 0 ∨ i = 1 by omega) with rfl | rfl
        · simp [plusV_zl ha]
        · simp
      rw [← this]
  · have hi2 : i = 2 := by omega
    subst hi2
    simp (maxDischargeDepth := 60) only [evAll, listPuts, Addr.mk.injEq, Option.map_some, Option.getD_some, Option.getD_none, Option.isSome_some, Option.isSome_none, Option.isNone_some, Option.isNone_none, List.all_cons, List.all_nil, List.length_cons, List.length_nil, List.set_cons_zero, List.set_cons_succ, List.getElem?_cons_zero, List.getElem?_cons_succ, List.getElem?_nil, Option.some.injEq, Value.int.injEq, Value.bool.injEq, Value.string.injEq, Value.pointer.injEq, Value.map.injEq, Prod.mk.injEq, exists_eq_left, exists_eq_left', if_true, if_false, decide_true, decide_false, Nat.reduceAdd, Nat.reduceLT, Nat.reduceLeDiff, Nat.reduceEqDiff, Nat.reduceMul, reduceCtorEq, beq_self_eq_true, o0, o1, c6L, c6]
    exact hk _ (ext_puts he (by omega))

/-! ### A window's Add, and New. -/
/-- how many entries of a range are left -/
def leftH (h : Heap) (mb it : Nat) : Nat := match h[it]?, h[mb]? with
  | some (.mapIter _ _ seen _), some (.map es _) => (leftOf es seen).size
  | _, _ => 0
theorem leftH_eq {h : Heap} {mb it : Nat} {f : Int → Option Value} {n : Nat} {rem : Int → Prop} {L : Nat} (hr : RangeV h mb it f n rem L) : leftH h mb it = L := by
  obtain ⟨es, c, since, seen, c0, hb, hs, hn, he, hi, hold, hsc, hL, hrem⟩ := hr
  unfold leftH
  rw [hi, hb]
  exact hL

def Win.add (w : Win) (at_ x : Int) : Win := ⟨at_, fun i => if i = bkt at_ then plusV (w.p i) x else w.p i⟩

theorem newWin_spec {h : Heap} {K : Option Addr → Int → Heap → Prop} (hk : ∀ h', WinR h' (sz h + 1) (sz h) ⟨0, fun _ => 0⟩ → Ext h h' → sz h' = sz h + 2 → K (some ⟨sz h + 1, 0, none⟩) 0 h') : m_window_New 1000000 10 K h := by
  unfold m_window_New g_window_New
  have e1 : ((Int.tmod 1000000 10) != 0) = false := by decide
  simp (maxDischargeDepth := 60) only [bindI_ev, bindB_ev, need_ev, e1]
  refine iteP_false (iteP_false (iteP_false (iteP_false ⟨by decide, iteP_false ?_⟩)))
  refine MapV.new fun h1 hm e1 z1 => ?_
  simp (maxDischargeDepth := 60) only [evAll, listPuts, Addr.mk.injEq, Option.map_some, Option.getD_some, Option.getD_none, Option.isSome_some, Option.isSome_none, Option.isNone_some, Option.isNone_none, List.all_cons, List.all_nil, List.length_cons, List.length_nil, List.set_cons_zero, List.set_cons_succ, List.getElem?_cons_zero, List.getElem?_cons_succ, List.getElem?_nil, Option.some.injEq, Value.int.injEq, Value.bool.injEq, Value.string.injEq, Value.pointer.injEq, Value.map.injEq, Prod.mk.injEq, exists_eq_left, exists_eq_left', if_true, if_false, decide_true, decide_false, Nat.reduceAdd, Nat.reduceLT, Nat.reduceLeDiff, Nat.reduceEqDiff, Nat.reduceMul, reduceCtorEq, beq_self_eq_true]
  simp only [size_def] at hm z1
  rw [z1]
  refine hk _ ⟨⟨by decide, by decide, fun i => ⟨by simp, by simp⟩⟩, ?_, ?_⟩ (ext_push e1) ?_
  · simp (maxDischargeDepth := 60) only [evAll, listPuts, Addr.mk.injEq, Option.map_some, Option.getD_some, Option.getD_none, Option.isSome_some, Option.isSome_none, Option.isNone_some, Option.isNone_none, List.all_cons, List.all_nil, List.length_cons, List.length_nil, List.set_cons_zero, List.set_cons_succ, List.getElem?_cons_zero, List.getElem?_cons_succ, List.getElem?_nil, Option.some.injEq, Value.int.injEq, Value.bool.injEq, Value.string.injEq, Value.pointer.injEq, Value.map.injEq, Prod.mk.injEq, exists_eq_left, exists_eq_left', if_true, if_false, decide_true, decide_false, Nat.reduceAdd, Nat.reduceLT, Nat.reduceLeDiff, Nat.reduceEqDiff, Nat.reduceMul, reduceCtorEq, beq_self_eq_true, z1]
  · exact ⟨_, _, hm.congr (push_old hm.lt), (fun i v hv => by cases hv), fun i _ => .inr ⟨rfl, rfl⟩⟩
  · simp (maxDischargeDepth := 60) only [evAll, listPuts, Addr.mk.injEq, Option.map_some, Option.getD_some, Option.getD_none, Option.isSome_some, Option.isSome_none, Option.isNone_some, Option.isNone_none, List.all_cons, List.all_nil, List.length_cons, List.length_nil, List.set_cons_zero, List.set_cons_succ, List.getElem?_cons_zero, List.getElem?_cons_succ, List.getElem?_nil, Option.some.injEq, Value.int.injEq, Value.bool.injEq, Value.string.injEq, Value.pointer.injEq, Value.map.injEq, Prod.mk.injEq, exists_eq_left, exists_eq_left', if_true, if_false, decide_true, decide_false, Nat.reduceAdd, Nat.reduceLT, Nat.reduceLeDiff, Nat.reduceEqDiff, Nat.reduceMul, reduceCtorEq, beq_self_eq_true, z1]

theorem Add_spec {h : Heap} {wb mb : Nat} {w : Win} (hw : WinR h wb mb w) {at_ x : Int} (hx : 0 ≤ x ∧ x ≤ 4611686018427387904) {s : Sl} (hs : Row h s 6 (c6L (c6 x))) (hsb : ∀ b, s.blk = some b → b ≠ wb ∧ b ≠ mb) {K : Int → Heap → Prop}
    (hk : ∀ h', WinR h' wb mb (if wrongE w.last at_ = 0 then w.add at_ x else w) → Upd (fun k => k = wb ∨ k = mb) h h' → K (wrongE w.last at_) h') : m_window_Window_Add (some ⟨wb, 0, none⟩) at_ s K h := by
  have hl : s.len = 1 := by have := hs.len; simp [c6L] at this; omega
  have l3 := obj_lt hw.cells
  have l4 := hw.mlt
  have hne : wb ≠ mb := fun e => by
    obtain ⟨f, n, ⟨es, c, hb, _⟩, _⟩ := hw.map
    have := hw.cells
    rw [e] at this
    rw [show obj h mb = h[mb]? from rfl, hb] at this
    cases this
  unfold m_window_Window_Add g_window_Window_Add
  simp (maxDischargeDepth := 60) only [evAll, listPuts, Addr.mk.injEq, Option.map_some, Option.getD_some, Option.getD_none, Option.isSome_some, Option.isSome_none, Option.isNone_some, Option.isNone_none, List.all_cons, List.all_nil, List.length_cons, List.length_nil, List.set_cons_zero, List.set_cons_succ, List.getElem?_cons_zero, List.getElem?_cons_succ, List.getElem?_nil, Option.some.injEq, Value.int.injEq, Value.bool.injEq, Value.string.injEq, Value.pointer.injEq, Value.map.injEq, Prod.mk.injEq, exists_eq_left, exists_eq_left', if_true, if_false, decide_true, decide_false, Nat.reduceAdd, Nat.reduceLT, Nat.reduceLeDiff, Nat.reduceEqDiff, Nat.reduceMul, reduceCtorEq, beq_self_eq_true]
  refine wrong_spec hw ?_
  rcases Decidable.em (wrongE w.last at_ = 0) with he | he
  case inr =>
    have : (wrongE w.last at_ != 0) = true := by simpa using he
    rw [this]
    rw [if_neg he] at hk
    exact iteP_true (hk _ hw (Upd.refl _ _))
  rw [if_pos he] at hk
  rw [he] at hk ⊢
  obtain ⟨a0, a1, a2⟩ := wrongE_ok he
  have hbk := bkt_rng a0 a1
  have hbm := bkt_mono a2
  refine iteP_false ?_
  -- the counts are right
  refine loopM_intro (fun st hh => ∃ i : Nat, st = ((i : Int), ()) ∧ i ≤ 1 ∧ Ext h hh) (fun s _ => (1 - s.1).toNat) ⟨0, rfl, by omega, Ext.refl _⟩ ?_
  rintro _ hh ⟨i, rfl, hi, hee⟩
  dsimp only
  have zz := ext_sz hee
  refine iteP_dec (fun q => ?_) fun q => ?_
  · have hi0 : i = 0 := by omega
    subst hi0
    obtain ⟨bb, o, hidx, hcell⟩ := row_elem (i := 0) (hs.ext hee) (by omega)
    refine hidx rfl ?_
    have v0 := hcell 0 _ (by omega) (show (c6L (c6 x))[0]? = some (iv x) from rfl)
    have v1 := hcell 1 _ (by omega) (show (c6L (c6 x))[1]? = some (iv 0) from rfl)
    have v2 := hcell 2 _ (by omega) (show (c6L (c6 x))[2]? = some (iv 0) from rfl)
    have v3 := hcell 3 _ (by omega) (show (c6L (c6 x))[3]? = some (iv 0) from rfl)
    have v4 := hcell 4 _ (by omega) (show (c6L (c6 x))[4]? = some (iv 0) from rfl)
    have v5 := hcell 5 _ (by omega) (show (c6L (c6 x))[5]? = some (iv 0) from rfl)
    simp only [Nat.add_zero] at v0
    simp (maxDischargeDepth := 60) only [evAll, listPuts, Addr.mk.injEq, Option.map_some, Option.getD_some, Option.getD_none, Option.isSome_some, Option.isSome_none, Option.isNone_some, Option.isNone_none, List.all_cons, List.all_nil, List.length_cons, List.length_nil, List.set_cons_zero, List.set_cons_succ, List.getElem?_cons_zero, List.getElem?_cons_succ, List.getElem?_nil, Option.some.injEq, Value.int.injEq, Value.bool.injEq, Value.string.injEq, Value.pointer.injEq, Value.map.injEq, Prod.mk.injEq, exists_eq_left, exists_eq_left', if_true, if_false, decide_true, decide_false, Nat.reduceAdd, Nat.reduceLT, Nat.reduceLeDiff, Nat.reduceEqDiff, Nat.reduceMul, reduceCtorEq, beq_self_eq_true, v0, v1, v2, v3, v4, v5]
    refine right_spec hx fun h1 e1 => ?_
    have hwr : IntKind.wrap .i64 (((0 : Nat) : Int) + 1) = ((1 : Nat) : Int) := by decide
    simp (maxDischargeDepth := 60) only [evAll, listPuts, Addr.mk.injEq, Option.map_some, Option.getD_some, Option.getD_none, Option.isSome_some, Option.isSome_none, Option.isNone_some, Option.isNone_none, List.all_cons, List.all_nil, List.length_cons, List.length_nil, List.set_cons_zero, List.set_cons_succ, List.getElem?_cons_zero, List.getElem?_cons_succ, List.getElem?_nil, Option.some.injEq, Value.int.injEq, Value.bool.injEq, Value.string.injEq, Value.pointer.injEq, Value.map.injEq, Prod.mk.injEq, exists_eq_left, exists_eq_left', if_true, if_false, decide_true, decide_false, Nat.reduceAdd, Nat.reduceLT, Nat.reduceLeDiff, Nat.reduceEqDiff, Nat.reduceMul, reduceCtorEq, beq_self_eq_true, hwr]
    exact ⟨⟨1, rfl, by omega, (ext_puts (ext_push hee) (by omega)).trans e1⟩, by decide⟩
  · clear q
    have c3 := keepX hw.cells hee
    have n3 : wb < sz hh := by omega
    have n4 : mb < sz hh := by omega
    have hne' : mb ≠ wb := fun e => hne e.symm
    have c3' : obj (Heap.put hh wb 2 (iv at_)) wb = some (.cells [iv 1000000, iv 10, iv at_, .map (some mb)].toArray 105 (0, 0)) := by
      simp (maxDischargeDepth := 60) only [evAll, listPuts, Addr.mk.injEq, Option.map_some, Option.getD_some, Option.getD_none, Option.isSome_some, Option.isSome_none, Option.isNone_some, Option.isNone_none, List.all_cons, List.all_nil, List.length_cons, List.length_nil, List.set_cons_zero, List.set_cons_succ, List.getElem?_cons_zero, List.getElem?_cons_succ, List.getElem?_nil, Option.some.injEq, Value.int.injEq, Value.bool.injEq, Value.string.injEq, Value.pointer.injEq, Value.map.injEq, Prod.mk.injEq, exists_eq_left, exists_eq_left', if_true, if_false, decide_true, decide_false, Nat.reduceAdd, Nat.reduceLT, Nat.reduceLeDiff, Nat.reduceEqDiff, Nat.reduceMul, reduceCtorEq, beq_self_eq_true, c3]
    have u1 : Upd (fun k => k = wb ∨ k = mb) h (Heap.put hh wb 2 (iv at_)) := upd_put (hee.upd _) (.inr (.inl rfl))
    have hm1 := (hw.congr (h' := hh) (ext_obj hee l3) (ext_obj hee l4)).map
    simp (maxDischargeDepth := 60) only [evAll, listPuts, Addr.mk.injEq, Option.map_some, Option.getD_some, Option.getD_none, Option.isSome_some, Option.isSome_none, Option.isNone_some, Option.isNone_none, List.all_cons, List.all_nil, List.length_cons, List.length_nil, List.set_cons_zero, List.set_cons_succ, List.getElem?_cons_zero, List.getElem?_cons_succ, List.getElem?_nil, Option.some.injEq, Value.int.injEq, Value.bool.injEq, Value.string.injEq, Value.pointer.injEq, Value.map.injEq, Prod.mk.injEq, exists_eq_left, exists_eq_left', if_true, if_false, decide_true, decide_false, Nat.reduceAdd, Nat.reduceLT, Nat.reduceLeDiff, Nat.reduceEqDiff, Nat.reduceMul, reduceCtorEq, beq_self_eq_true, c3, bucket_ev c3' a0 a1]
    obtain ⟨f, n, hm, hfv, hfp⟩ := hm1
    have hm2 : MapV (Heap.put hh wb 2 (iv at_)) mb f n := hm.congr (put_other hne')
    have zz2 : sz (Heap.put hh wb 2 (iv at_)) = sz hh := sz_put
    generalize Heap.put hh wb 2 (iv at_) = h2 at c3' u1 hm2 zz2 ⊢
    -- behind: what the map holds
    refine cutP_intro (fun _ h9 => ∃ f' n', MapV h9 mb f' n' ∧ (∀ i v, f' i = some v → ∃ x, v = c6V x ∧ 0 ≤ x ∧ x ≤ 4611686018427387904) ∧ (∀ i, bkt at_ - 10 < i → f' i = some (c6V ((w.add at_ x).p i)) ∨ (f' i = none ∧ (w.add at_ x).p i = 0)) ∧
      obj h9 wb = some (.cells [iv 1000000, iv 10, iv at_, .map (some mb)].toArray 105 (0, 0)) ∧ Upd (fun k => k = wb ∨ k = mb) h h9) ?_ ?_
    · rintro _ h9 ⟨f', n', hm9, hfv9, hfp9, c9, u9⟩
      have l9 := obj_lt c9
      have g9 := hm9.lt
      simp (maxDischargeDepth := 60) only [evAll, listPuts, Addr.mk.injEq, Option.map_some, Option.getD_some, Option.getD_none, Option.isSome_some, Option.isSome_none, Option.isNone_some, Option.isNone_none, List.all_cons, List.all_nil, List.length_cons, List.length_nil, List.set_cons_zero, List.set_cons_succ, List.getElem?_cons_zero, List.getElem?_cons_succ, List.getElem?_nil, Option.some.injEq, Value.int.injEq, Value.bool.injEq, Value.string.injEq, Value.pointer.injEq, Value.map.injEq, Prod.mk.injEq, exists_eq_left, exists_eq_left', if_true, if_false, decide_true, decide_false, Nat.reduceAdd, Nat.reduceLT, Nat.reduceLeDiff, Nat.reduceEqDiff, Nat.reduceMul, reduceCtorEq, beq_self_eq_true, c9]
      refine hm9.range fun h10 hr10 e10 z10 => ?_
      simp only [size_def] at hr10 z10 ⊢
      have okw : (w.add at_ x).OK := ⟨a0, a1, fun i => by
        have := hw.ok.p i
        unfold Win.add
        dsimp only
        split
        · exact plusV_rng this hx
        · exact this⟩
      refine loopM_intro (fun _ hh => ∃ f'' n'' rem L, RangeV hh mb (sz h9) f'' n'' rem L ∧ (∀ i, bkt at_ - 10 < i → f'' i = f' i) ∧ (∀ i v, f'' i = some v → f' i = some v) ∧ obj hh wb = some (.cells [iv 1000000, iv 10, iv at_, .map (some mb)].toArray 105 (0, 0)) ∧ Upd (fun k => k = wb ∨ k = mb) h hh)
        (fun _ hh => leftH hh mb (sz h9)) ⟨f', n', _, _, hr10, fun _ _ => rfl, fun _ _ hv => hv, keepX c9 e10, u9.trans (e10.upd _)⟩ ?_
      rintro _ h11 ⟨f'', n'', rem, L, hr, hf1, hf2, c11, u11⟩
      have hsz9 : sz h ≤ sz h9 := u9.size
      refine cutP_intro (fun s h12 => (s.1 = true ∧ ∃ k rem' L', RangeAt h12 mb (sz h9) f'' n'' rem' L' k ∧ L' < L ∧ obj h12 wb = some (.cells [iv 1000000, iv 10, iv at_, .map (some mb)].toArray 105 (0, 0)) ∧ Upd (fun k => k = wb ∨ k = mb) h h12) ∨ (s.1 = false ∧ h12 = h11)) ?_ ?_
      · rintro ⟨b, _⟩ h12 (⟨hb, k, rem', L', hra, hL, c12, u12⟩ | ⟨hb, rfl⟩)
        · simp only at hb
          subst hb
          refine iteP_true (hra.ent fun v hv => ⟨k, rfl, ?_⟩)
          obtain ⟨y, rfl, hy⟩ := hfv9 _ _ (hf2 _ _ hv)
          refine ⟨c6 y, rfl, ?_⟩
          simp (maxDischargeDepth := 60) only [evAll, listPuts, Addr.mk.injEq, Option.map_some, Option.getD_some, Option.getD_none, Option.isSome_some, Option.isSome_none, Option.isNone_some, Option.isNone_none, List.all_cons, List.all_nil, List.length_cons, List.length_nil, List.set_cons_zero, List.set_cons_succ, List.getElem?_cons_zero, List.getElem?_cons_succ, List.getElem?_nil, Option.some.injEq, Value.int.injEq, Value.bool.injEq, Value.string.injEq, Value.pointer.injEq, Value.map.injEq, Prod.mk.injEq, exists_eq_left, exists_eq_left', if_true, if_false, decide_true, decide_false, Nat.reduceAdd, Nat.reduceLT, Nat.reduceLeDiff, Nat.reduceEqDiff, Nat.reduceMul, reduceCtorEq, beq_self_eq_true, c12]
          refine iteP_dec (fun q => ?_) fun q => ?_
          · refine hra.del fun h13 n13 hr13 u13 z13 => ⟨⟨_, _, _, _, hr13, fun i hi => ?_, fun i v hv => ?_, keepU c12 u13 hne, u12.trans (u13.mono fun k _ hk => .inr hk)⟩, ?_⟩
            · rw [wrap64 (by omega) (by omega)] at q
              rw [upd_ne _ _ (by omega)]
              exact hf1 i hi
            · unfold upd at hv
              split at hv
              · cases hv
              · exact hf2 i v hv
            · rw [leftH_eq hr13, leftH_eq hr]; exact hL
          · exact ⟨⟨_, _, _, _, hra.go, hf1, hf2, u12⟩, by rw [leftH_eq hra.go, leftH_eq hr]; exact hL⟩
        · simp only at hb
          subst hb
          refine iteP_false ?_
          refine hk _ ⟨okw, c11, f'', n'', hr.map, fun i v hv => hfv9 i v (hf2 i v hv), fun i hi => ?_⟩ u11
          rw [hf1 i hi]
          exact hfp9 i hi
      · refine hr.next (fun _ => ?_) fun k v h12 L' hk1 hv hra hL u12 z12 => ?_
        · exact .inr ⟨rfl, rfl⟩
        · have hwi : wb ≠ sz h9 := by omega
          exact .inl ⟨rfl, k, _, L', hra, hL, keepU c11 u12 hwi, ⟨Nat.le_trans u11.size u12.size, fun j hj hn => (u12.old j (Nat.lt_of_lt_of_le hj u11.size) (fun e => by have : j < sz h := hj; omega)).trans (u11.old j hj hn)⟩⟩
    · have ck : objCell 3 (obj h2 wb) = some (.map (some mb)) := by rw [c3']; rfl
      have l2 := obj_lt c3'
      simp (maxDischargeDepth := 60) only [evAll, listPuts, Addr.mk.injEq, Option.map_some, Option.getD_some, Option.getD_none, Option.isSome_some, Option.isSome_none, Option.isNone_some, Option.isNone_none, List.all_cons, List.all_nil, List.length_cons, List.length_nil, List.set_cons_zero, List.set_cons_succ, List.getElem?_cons_zero, List.getElem?_cons_succ, List.getElem?_nil, Option.some.injEq, Value.int.injEq, Value.bool.injEq, Value.string.injEq, Value.pointer.injEq, Value.map.injEq, Prod.mk.injEq, exists_eq_left, exists_eq_left', if_true, if_false, decide_true, decide_false, Nat.reduceAdd, Nat.reduceLT, Nat.reduceLeDiff, Nat.reduceEqDiff, Nat.reduceMul, reduceCtorEq, beq_self_eq_true, c3']
      have hfk : (f (bkt at_)).getD (.agg #[iv 0, iv 0, iv 0, iv 0, iv 0, iv 0]) = c6V (w.p (bkt at_)) := by
        rcases hfp (bkt at_) (by omega) with e | ⟨e, ep⟩
        · rw [e]; rfl
        · rw [e, ep]; rfl
      have hpk := hw.ok.p (bkt at_)
      refine hm2.get (bkt at_) ⟨c6 (w.p (bkt at_)), hfk, ?_⟩
      rw [← zz2]
      have ho : Own (h2.push (.cells [iv (c6 (w.p (bkt at_))).1, iv (c6 (w.p (bkt at_))).2.1, iv (c6 (w.p (bkt at_))).2.2.1, iv (c6 (w.p (bkt at_))).2.2.2.1, iv (c6 (w.p (bkt at_))).2.2.2.2.1, iv (c6 (w.p (bkt at_))).2.2.2.2.2.1].toArray 141 (0, 0))) (sz h2) ⟨some ⟨sz h2, 0, none⟩, 1, 1⟩ 6 (c6L (c6 (w.p (bkt at_)))) :=
        Own.newC (h := h2) (cells := c6L (c6 (w.p (bkt at_)))) (t := 141) (size := 6) (n := 1) rfl (by decide)
      have hs2 : Row h2 s 6 (c6L (c6 x)) := (hs.congr fun b o hb _ hlb => u1.old b hlb fun e => by
        have := hsb b (by simp [Sl.blk, hb])
        omega)
      refine (hs2.ext (Ext.push _ _)).rd (Own.app ho (by rw [hl]; rfl) (by simp [c6L, c6, one_int]) rfl (by rw [hl]; show (1 + 1) * 48 ≤ 140737488355328; decide) (by rw [hl]; show 1 + 1 ≤ 140737488355328; decide) (by rw [size_def, sz_push]; omega) fun t h4 ho4 hl4 hu4 hblk => ?_)
      have e4 : Ext h2 h4 := (Ext.push h2 _).then hu4 fun k hk => by
        simp [Sl.blk] at hk
        subst hk
        exact Nat.le_refl _
      refine Join_spec ho4.row hpk hx fun h5 e5 => ?_
      have e25 := e4.trans e5
      have c5 := keepX c3' e25
      have u5 : Upd (fun k => k = wb ∨ k = mb) h h5 := u1.trans (e25.upd _)
      have hm5 : MapV h5 mb f n := hm2.congr (ext_obj e25 hm2.lt)
      have pr := plusV_rng hpk hx
      have l5 := obj_lt c5
      have lm5 := hm5.lt
      generalize hpv : plusV (w.p (bkt at_)) x = pv at pr ⊢
      have old : ∀ i, bkt at_ - 10 < i → i ≠ bkt at_ → f i = some (c6V ((w.add at_ x).p i)) ∨ (f i = none ∧ (w.add at_ x).p i = 0) := fun i hi hne => by
        have : (w.add at_ x).p i = w.p i := if_neg hne
        rw [this]
        exact hfp i (by omega)
      have new : (w.add at_ x).p (bkt at_) = pv := (if_pos rfl).trans hpv
      simp (maxDischargeDepth := 60) only [evAll, listPuts, Addr.mk.injEq, Option.map_some, Option.getD_some, Option.getD_none, Option.isSome_some, Option.isSome_none, Option.isNone_some, Option.isNone_none, List.all_cons, List.all_nil, List.length_cons, List.length_nil, List.set_cons_zero, List.set_cons_succ, List.getElem?_cons_zero, List.getElem?_cons_succ, List.getElem?_nil, Option.some.injEq, Value.int.injEq, Value.bool.injEq, Value.string.injEq, Value.pointer.injEq, Value.map.injEq, Prod.mk.injEq, exists_eq_left, exists_eq_left', if_true, if_false, decide_true, decide_false, Nat.reduceAdd, Nat.reduceLT, Nat.reduceLeDiff, Nat.reduceEqDiff, Nat.reduceMul, reduceCtorEq, beq_self_eq_true, c6, c6L, c5, lt_ne l5, lt_ne0 l5, lt_en l5, lt_en0 l5]
      have u6 : Upd (fun k => k = wb ∨ k = mb) h (Heap.puts (h5.push (.cells [iv 0, iv 0, iv 0, iv 0, iv 0, iv 0].toArray 141 (0, 0))) (sz h5) 0 [iv pv, iv 0, iv 0, iv 0, iv 0, iv 0]) :=
        upd_puts (upd_push u5) (.inl (by have : sz h ≤ sz h5 := u5.size; omega))
      have hm6 : MapV (Heap.puts (h5.push (.cells [iv 0, iv 0, iv 0, iv 0, iv 0, iv 0].toArray 141 (0, 0))) (sz h5) 0 [iv pv, iv 0, iv 0, iv 0, iv 0, iv 0]) mb f n :=
        hm5.congr ((puts_other (by have := lm5; simp only [size_def] at this; omega)).trans (push_old lm5))
      have c6_ : obj (Heap.puts (h5.push (.cells [iv 0, iv 0, iv 0, iv 0, iv 0, iv 0].toArray 141 (0, 0))) (sz h5) 0 [iv pv, iv 0, iv 0, iv 0, iv 0, iv 0]) wb = some (.cells [iv 1000000, iv 10, iv at_, .map (some mb)].toArray 105 (0, 0)) := by
        simp (maxDischargeDepth := 60) only [evAll, listPuts, Addr.mk.injEq, Option.map_some, Option.getD_some, Option.getD_none, Option.isSome_some, Option.isSome_none, Option.isNone_some, Option.isNone_none, List.all_cons, List.all_nil, List.length_cons, List.length_nil, List.set_cons_zero, List.set_cons_succ, List.getElem?_cons_zero, List.getElem?_cons_succ, List.getElem?_nil, Option.some.injEq, Value.int.injEq, Value.bool.injEq, Value.string.injEq, Value.pointer.injEq, Value.map.injEq, Prod.mk.injEq, exists_eq_left, exists_eq_left', if_true, if_false, decide_true, decide_false, Nat.reduceAdd, Nat.reduceLT, Nat.reduceLeDiff, Nat.reduceEqDiff, Nat.reduceMul, reduceCtorEq, beq_self_eq_true, c5, lt_ne0 l5]
      rcases Decidable.em (pv = 0) with h0 | h0
      · have : (!(bif pv == 0 then (bif (0 : Int) == 0 then (bif (0 : Int) == 0 then (bif (0 : Int) == 0 then (bif (0 : Int) == 0 then (bif (0 : Int) == 0 then true else false) else false) else false) else false) else false) else false)) = false := by rw [h0]; decide
        refine iteP_neg this ?_
        refine ⟨f, n, hm6, hfv, fun i hi => ?_, u6⟩
        by_cases hik : i = bkt at_
        · subst hik
          rw [new, h0]
          rcases hfp (bkt at_) (by omega) with e | ⟨e, ep⟩
          · have : w.p (bkt at_) = 0 := by
              rw [plusV_eq hpk hx] at hpv
              omega
            rw [this] at e
            exact .inl e
          · exact .inr ⟨e, rfl⟩
        · exact old i hi hik
      · have : (!(bif pv == 0 then (bif (0 : Int) == 0 then (bif (0 : Int) == 0 then (bif (0 : Int) == 0 then (bif (0 : Int) == 0 then (bif (0 : Int) == 0 then true else false) else false) else false) else false) else false) else false)) = true := by
          have : (pv == 0) = false := by simpa using h0
          rw [this]; rfl
        refine iteP_pos this ?_
        refine hm6.put (bkt at_) (c6V pv) fun h7 hm7 u7 z7 => ⟨_, _, hm7, fun i v hv => ?_, fun i hi => ?_, keepU c6_ u7 hne, u6.trans (u7.mono fun k _ hk => .inr hk)⟩
        · unfold upd at hv
          split at hv
          · cases hv; exact ⟨pv, rfl, pr⟩
          · exact hfv i v hv
        · by_cases hik : i = bkt at_
          · subst hik
            rw [upd_same, new]
            exact .inl rfl
          · rw [upd_ne _ _ hik]
            exact old i hi hik
end Go.Proofs.Ytledmkhbaacdnaa
