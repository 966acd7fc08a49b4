/- The reference's network: its place in memory; wrong, Write, Move, Read, Shut, Look, Port. -/
import Derived.Test.YtgkgheaanfgecaaStG
namespace Go.Proofs.Ytgkgheaanfgecaa
open Go Go.Fw

def rC (q : Q) : List Value := [.int .i64 q.2.port, .bool q.2.brk, slV q.1.w0, slV q.1.c0, .bool q.2.s0.x, slV q.1.w1, slV q.1.c1, .bool q.2.s1.x]
theorem rC_len (q : Q) : (rC q).length = 8 := rfl
theorem rC_get (q : Q) {e c : Nat} (he : e < 2) (hc : c < 2) : (rC q)[2 + (e * 3 + c)]? = some (slV (q.1.get e c)) := by
  rcases two e he with rfl | rfl <;> rcases two c hc with rfl | rfl <;> rfl
theorem rC_shut (q : Q) {e : Nat} (he : e < 2) : (rC q)[2 + (e * 3 + 2)]? = some (.bool (q.2.side e).x) := by
  rcases two e he with rfl | rfl <;> rfl
theorem rC_put (q : Q) {e c : Nat} (he : e < 2) (hc : c < 2) (x : Sl) (l : List UInt8) : rC (Q.put q e c x l) = (rC q).set (2 + (e * 3 + c)) (slV x) := by
  rcases two e he with rfl | rfl <;> rcases two c hc with rfl | rfl <;> rfl
theorem rC_putX (q : Q) {e : Nat} (he : e < 2) (x : Bool) : rC (q.1, q.2.putS e { q.2.side e with x := x }) = (rC q).set (2 + (e * 3 + 2)) (.bool x) := by
  rcases two e he with rfl | rfl <;> rfl

/-- a row that nobody writes -/
structure RowZ (h : Heap) (Z : Nat → Prop) (x : Sl) (l : List UInt8) : Prop where
  row : Bytes h x l
  z : ∀ k, x.blk = some k → Z k
structure ZR (h : Heap) (Z : Nat → Prop) (q : Q) : Prop where
  w0 : RowZ h Z q.1.w0 q.2.s0.way
  c0 : RowZ h Z q.1.c0 q.2.s0.come
  w1 : RowZ h Z q.1.w1 q.2.s1.way
  c1 : RowZ h Z q.1.c1 q.2.s1.come
theorem ZR.get {h : Heap} {Z : Nat → Prop} {q : Q} (hq : ZR h Z q) {e c : Nat} (he : e < 2) (hc : c < 2) : RowZ h Z (q.1.get e c) ((q.2.side e).get c) := by
  rcases two e he with rfl | rfl <;> rcases two c hc with rfl | rfl
  · exact hq.w0
  · exact hq.c0
  · exact hq.w1
  · exact hq.c1
theorem ZR.put {h : Heap} {Z : Nat → Prop} {q : Q} (hq : ZR h Z q) {e c : Nat} (he : e < 2) (hc : c < 2) {x : Sl} {l : List UInt8} (hx : RowZ h Z x l) : ZR h Z (Q.put q e c x l) := by
  rcases two e he with rfl | rfl <;> rcases two c hc with rfl | rfl
  · exact ⟨hx, hq.c0, hq.w1, hq.c1⟩
  · exact ⟨hq.w0, hx, hq.w1, hq.c1⟩
  · exact ⟨hq.w0, hq.c0, hx, hq.c1⟩
  · exact ⟨hq.w0, hq.c0, hq.w1, hx⟩
theorem ZR.putX {h : Heap} {Z : Nat → Prop} {q : Q} (hq : ZR h Z q) {e : Nat} (he : e < 2) (x : Bool) : ZR h Z (q.1, q.2.putS e { q.2.side e with x := x }) := by
  rcases two e he with rfl | rfl
  · exact ⟨hq.w0, hq.c0, hq.w1, hq.c1⟩
  · exact ⟨hq.w0, hq.c0, hq.w1, hq.c1⟩
theorem RowZ.congr {h h' : Heap} {Z Z' : Nat → Prop} {x : Sl} {l : List UInt8} (hr : RowZ h Z x l) (he : ∀ k, Z k → k < h.size → h'[k]? = h[k]?) (hz : ∀ k, Z k → Z' k) : RowZ h' Z' x l :=
  ⟨Row.congr hr.row fun b o hp _ hl => he b (hr.z b (by simp [Sl.blk, hp])) hl, fun k hk => hz k (hr.z k hk)⟩
theorem ZR.congr {h h' : Heap} {Z Z' : Nat → Prop} {q : Q} (hq : ZR h Z q) (he : ∀ k, Z k → k < h.size → h'[k]? = h[k]?) (hz : ∀ k, Z k → Z' k) : ZR h' Z' q :=
  ⟨hq.w0.congr he hz, hq.c0.congr he hz, hq.w1.congr he hz, hq.c1.congr he hz⟩

structure RefR (h : Heap) (T : Nat → Option Nat) (Z : Nat → Prop) (rb : Nat) (so sc : Sl) (op : List Int) (qs : List Q) : Prop where
  cells : h[rb]? = some (.cells #[slV so, slV sc] 74 (0, 0))
  tn : T rb = some 0
  opn : Own h 0 so 1 (op.map iv)
  to : ∀ k, so.blk = some k → T k = some 1
  row : Own h 0 sc 8 (qs.flatMap rC)
  tr : ∀ k, sc.blk = some k → T k = some 2
  each : ∀ (i : Nat) (q : Q), qs[i]? = some q → ZR h Z q
  lt : ∀ k, T k ≠ none → k < h.size
  ltz : ∀ k, Z k → k < h.size
  dis : ∀ k, Z k → T k = none
def PsR (ps : Int → Bool) (op : List Int) : Prop := op.Nodup ∧ ∀ n, ps n = true ↔ n ∈ op
def Ref (h : Heap) (T : Nat → Option Nat) (Z : Nat → Prop) (rb ob : Nat) (ps : Int → Bool) (cs : List Cn) : Prop := ∃ so sc op qs, RefR h T Z rb so sc op qs ∧ PsR ps op ∧ op.length ≤ ob ∧ qs.map (·.2) = cs

/-- one step of a reference's network -/
structure Stz (T : Nat → Option Nat) (Z : Nat → Prop) (T' : Nat → Option Nat) (Z' : Nat → Prop) (h h' : Heap) : Prop where
  upd : Upd (fun k => T k ≠ none) h h'
  new : ∀ k, T' k ≠ none → T k ≠ none ∨ h.size ≤ k
  zz : ∀ k, Z k → Z' k
  newz : ∀ k, Z' k → Z k ∨ h.size ≤ k
theorem Stz.refl (T : Nat → Option Nat) (Z : Nat → Prop) (h : Heap) : Stz T Z T Z h h := ⟨Upd.refl _ _, fun _ h => .inl h, fun _ h => h, fun _ h => .inl h⟩
theorem Stz.trans {T T' T'' : Nat → Option Nat} {Z Z' Z'' : Nat → Prop} {a b c : Heap} (h : Stz T Z T' Z' a b) (h' : Stz T' Z' T'' Z'' b c) : Stz T Z T'' Z'' a c := by
  have z := h.upd.size
  refine ⟨Upd.then h.upd h'.upd fun k hk hT => ?_, fun k hk => ?_, fun k hk => h'.zz k (h.zz k hk), fun k hk => ?_⟩
  · rcases h.new k hT with h1 | h1
    · exact h1
    · omega
  · rcases h'.new k hk with h1 | h1
    · exact h.new k h1
    · exact .inr (by omega)
  · rcases h'.newz k hk with h1 | h1
    · exact h.newz k h1
    · exact .inr (by omega)

theorem RefR.congr {h h' : Heap} {T : Nat → Option Nat} {Z Z' : Nat → Prop} {rb : Nat} {so sc : Sl} {op : List Int} {qs : List Q} (hn : RefR h T Z rb so sc op qs) (he : ∀ k, T k ≠ none ∨ Z k → k < h.size → h'[k]? = h[k]?) (hs : h.size ≤ h'.size)
    (hz : ∀ k, Z k → Z' k) (hl : ∀ k, Z' k → k < h'.size) (hd : ∀ k, Z' k → T k = none) : RefR h' T Z' rb so sc op qs := by
  refine ⟨?_, hn.tn, hn.opn.congr fun k hk hl _ => he k (.inl (by rw [hn.to k hk]; simp)) hl, hn.to, hn.row.congr fun k hk hl _ => he k (.inl (by rw [hn.tr k hk]; simp)) hl, hn.tr, fun i q hq => (hn.each i q hq).congr (fun k hk hl => he k (.inr hk) hl) hz, fun k hk => Nat.lt_of_lt_of_le (hn.lt k hk) hs, hl, hd⟩
  rw [he rb (.inl (by rw [hn.tn]; simp)) (blk_lt hn.cells)]
  exact hn.cells
theorem RefR.upd {h h' : Heap} {T : Nat → Option Nat} {Z : Nat → Prop} {rb : Nat} {so sc : Sl} {op : List Int} {qs : List Q} {S : Nat → Prop} (hn : RefR h T Z rb so sc op qs) (hu : Upd S h h') (hd : ∀ k, k < h.size → S k → T k = none ∧ ¬ Z k) : RefR h' T Z rb so sc op qs :=
  hn.congr (fun k hk hl => hu.old k hl fun hS => by
    obtain ⟨a, b⟩ := hd k hl hS
    rcases hk with h9 | h9
    · exact h9 a
    · exact b h9) hu.size (fun _ h => h) (fun k hk => Nat.lt_of_lt_of_le (hn.ltz k hk) hu.size) hn.dis
theorem RefR.ext {h h' : Heap} {T : Nat → Option Nat} {Z : Nat → Prop} {rb : Nat} {so sc : Sl} {op : List Int} {qs : List Q} (hn : RefR h T Z rb so sc op qs) (he : Ext h h') : RefR h' T Z rb so sc op qs :=
  hn.upd (he.upd fun _ => False) fun _ _ h => h.elim
/-- more rows that nobody writes -/
theorem RefR.more {h : Heap} {T : Nat → Option Nat} {Z Z' : Nat → Prop} {rb : Nat} {so sc : Sl} {op : List Int} {qs : List Q} (hn : RefR h T Z rb so sc op qs) (hz : ∀ k, Z k → Z' k) (hl : ∀ k, Z' k → k < h.size) (hd : ∀ k, Z' k → T k = none) : RefR h T Z' rb so sc op qs :=
  hn.congr (fun _ _ _ => rfl) (Nat.le_refl _) hz hl hd
theorem Ref.ext {h h' : Heap} {T : Nat → Option Nat} {Z : Nat → Prop} {rb ob : Nat} {ps : Int → Bool} {cs : List Cn} (hn : Ref h T Z rb ob ps cs) (he : Ext h h') : Ref h' T Z rb ob ps cs := by
  obtain ⟨so, sc, op, qs, a, b⟩ := hn
  exact ⟨so, sc, op, qs, a.ext he, b⟩
theorem Ref.upd {h h' : Heap} {T : Nat → Option Nat} {Z : Nat → Prop} {rb ob : Nat} {ps : Int → Bool} {cs : List Cn} {S : Nat → Prop} (hn : Ref h T Z rb ob ps cs) (hu : Upd S h h') (hd : ∀ k, k < h.size → S k → T k = none ∧ ¬ Z k) : Ref h' T Z rb ob ps cs := by
  obtain ⟨so, sc, op, qs, a, b⟩ := hn
  exact ⟨so, sc, op, qs, a.upd hu hd, b⟩
theorem Ref.lt {h : Heap} {T : Nat → Option Nat} {Z : Nat → Prop} {rb ob : Nat} {ps : Int → Bool} {cs : List Cn} (hn : Ref h T Z rb ob ps cs) : (∀ k, T k ≠ none → k < h.size) ∧ (∀ k, Z k → k < h.size) ∧ (∀ k, Z k → T k = none) := by
  obtain ⟨so, sc, op, qs, a, b⟩ := hn
  exact ⟨a.lt, a.ltz, a.dis⟩

theorem RefR.length {h : Heap} {T : Nat → Option Nat} {Z : Nat → Prop} {rb : Nat} {so sc : Sl} {op : List Int} {qs : List Q} (hn : RefR h T Z rb so sc op qs) : sc.len = qs.length := by
  have hl := hn.row.len
  rw [flat_len rC_len] at hl
  omega
theorem idxR {h : Heap} {T : Nat → Option Nat} {Z : Nat → Prop} {rb : Nat} {so sc : Sl} {op : List Int} {qs : List Q} (hn : RefR h T Z rb so sc op qs) {i : Nat} {q : Q} (hq : qs[i]? = some q) {k : Int} (hi : k = (i : Int)) {K : Nat → Nat → Prop}
    (hk : ∀ b, sc.blk = some b → K b (i * 8)) : idxA sc.ptr sc.len k 8 K := by
  subst hi
  have hl := hn.length
  have hlt : i < qs.length := by
    rcases Nat.lt_or_ge i qs.length with h9 | h9
    · exact h9
    · rw [List.getElem?_eq_none h9] at hq; cases hq
  obtain ⟨b, hp, hb⟩ := Own.ptr_ hn.row (o := 0) (by rw [flat_len rC_len]; omega)
  refine ⟨b, 0, hp, by omega, by omega, ?_⟩
  have e : 0 + (i : Int).toNat * 8 = i * 8 := by omega
  rw [e]
  exact hk b hb
theorem RefR.cell {h : Heap} {T : Nat → Option Nat} {Z : Nat → Prop} {rb : Nat} {so sc : Sl} {op : List Int} {qs : List Q} (hn : RefR h T Z rb so sc op qs) {i : Nat} {q : Q} (hq : qs[i]? = some q) {b m : Nat} (hb : sc.blk = some b) {v : Value} (hm : m < 8) (hv : (rC q)[m]? = some v) : h.cell b (i * 8 + m) = some v :=
  Own.cell_ hn.row hb (by rw [flat_get rC_len qs i m q hq hm]; exact hv)

/-- one cell of one connection is written; what is new besides may be a row that nobody writes -/
theorem RefR.setCell {h h1 : Heap} {T : Nat → Option Nat} {Z : Nat → Prop} {rb : Nat} {so sc : Sl} {op : List Int} {qs : List Q} (hn : RefR h T Z rb so sc op qs) (he : Ext h h1) {i : Nat} {q q' : Q} (hq : qs[i]? = some q) {m : Nat} (hm : m < 8) {v : Value} (hv : oneCell v = true)
    (hC : rC q' = (rC q).set m v) {b : Nat} (hb : sc.blk = some b) (hQ : ZR h1 (fun k => Z k ∨ (h.size ≤ k ∧ k < h1.size)) q') {K : Heap → Prop}
    (hfin : ∀ h2, RefR h2 T (fun k => Z k ∨ (h.size ≤ k ∧ k < h1.size)) rb so sc op (qs.set i q') → Stz T Z T (fun k => Z k ∨ (h.size ≤ k ∧ k < h1.size)) h h2 → Upd (· = b) h1 h2 → h2.size = h1.size → K h2) : st h1 b (i * 8 + m) v K := by
  have hlt : i < qs.length := by
    rcases Nat.lt_or_ge i qs.length with h9 | h9
    · exact h9
    · rw [List.getElem?_eq_none h9] at hq; cases hq
  have hT0 : ∀ k, h.size ≤ k → T k = none := fun k hk => none_new hn.lt hk
  have hn1 : RefR h1 T (fun k => Z k ∨ (h.size ≤ k ∧ k < h1.size)) rb so sc op qs := (hn.ext he).more (fun k hk => .inl hk) (fun k hk => by
      rcases hk with h9 | h9
      · have := hn.ltz k h9; have := he.size; omega
      · exact h9.2) (fun k hk => by
      rcases hk with h9 | h9
      · exact hn.dis k h9
      · exact hT0 k h9.1)
  refine Own.stCell hn1.row hb (by rw [flat_len rC_len]; omega) hv fun h2 o2 u2 z2 => ?_
  rw [flat_set rC_len qs i m v q q' hq hm hC] at o2
  have hbT : T b = some 2 := hn.tr b hb
  have hbl : b < h.size := hn.lt b (by rw [hbT]; simp)
  have u2' : Upd (· = b) h1 h2 := u2.mono fun k _ hk => by rw [hb] at hk; exact (Option.some.inj hk).symm
  have zold : ∀ k, (Z k ∨ (h.size ≤ k ∧ k < h1.size)) → k < h1.size → h2[k]? = h1[k]? := fun k hk hl => u2'.old k hl (by
    rintro rfl
    have := hn1.dis _ hk
    rw [hbT] at this
    cases this)
  refine hfin h2 ⟨?_, hn.tn, hn1.opn.congr fun k hk hl _ => u2'.old k hl (by rintro rfl; rw [hn.to _ hk] at hbT; cases hbT), hn.to, o2, hn.tr, fun i' r hr => ?_, fun k hk => by have := hn1.lt k hk; omega, fun k hk => by have := hn1.ltz k hk; omega, hn1.dis⟩
    ⟨Upd.then (he.upd _) u2' fun k _ hk => by subst hk; show T k ≠ none; rw [hbT]; simp, fun k hk => .inl hk, fun k hk => .inl hk, fun k hk => hk.imp id (·.1)⟩ u2' z2
  · rw [u2'.old rb (blk_lt hn1.cells) (by rintro rfl; rw [hn.tn] at hbT; cases hbT)]
    exact hn1.cells
  · by_cases hii : i' = i
    · subst hii
      rw [List.getElem?_set_self hlt] at hr
      cases hr
      exact hQ.congr zold fun _ h => h
    · rw [List.getElem?_set_ne (Ne.symm hii)] at hr
      exact (hn1.each i' r hr).congr zold fun _ h => h

theorem RefR.setRow {h h1 : Heap} {T : Nat → Option Nat} {Z : Nat → Prop} {rb : Nat} {so sc : Sl} {op : List Int} {qs : List Q} (hn : RefR h T Z rb so sc op qs) (he : Ext h h1) {i : Nat} {q : Q} (hq : qs[i]? = some q) {e c : Nat} (he2 : e < 2) (hc : c < 2) {x : Sl} {l : List UInt8}
    (hx : Own h1 h.size x 1 (l.map bv)) {b : Nat} (hb : sc.blk = some b) {K : Heap → Prop}
    (hfin : ∀ h2, RefR h2 T (fun k => Z k ∨ (h.size ≤ k ∧ k < h1.size)) rb so sc op (qs.set i (Q.put q e c x l)) → Stz T Z T (fun k => Z k ∨ (h.size ≤ k ∧ k < h1.size)) h h2 → Upd (· = b) h1 h2 → h2.size = h1.size → K h2) : st h1 b (i * 8 + (2 + (e * 3 + c))) (slV x) K :=
  hn.setCell he hq (by omega) rfl (rC_put q he2 hc x l) hb (((hn.each i q hq).congr (fun k _ hl => he.old k hl) fun k hk => .inl hk).put he2 hc ⟨hx.row, fun k hk => .inr (hx.lt hk)⟩) hfin

/-! ### new rows out of others -/
theorem newE {h : Heap} {t : TypeId} {K : Nat → Heap → Prop} (size : Nat) (hk : ∀ h1, Own h1 h.size ⟨some ⟨h.size, 0, none⟩, 0, 0⟩ size [] → Ext h h1 → h1.size = h.size + 1 → K h.size h1) : newC h [] t K := by
  refine newC_intro (hk _ ?_ (Ext.push _ _) (by simp))
  exact Own.newC (h := h) (cells := []) (t := t) (size := size) (n := 0) (by simp) (by decide)
theorem appE {h h1 : Heap} {s : Sl} {size bytes n : Nat} {vs new zs : List Value} {elem : TypeId} {K : Sl → Heap → Prop} (ho : Own h1 h.size s size vs) (e : Ext h h1) (hnew : new.length = n * size) (hone : new.all oneCell = true) (hz : zs.length = size) (hb : (s.len + n) * bytes ≤ 140737488355328) (hl : s.len + n ≤ 140737488355328)
    (hk : ∀ s' h', Own h' h.size s' size (vs ++ new) → s'.len = s.len + n → Ext h h' → Upd (fun k => s.blk = some k) h1 h' → K s' h') : Fw.app elem size bytes zs s n new h1 K :=
  Own.app ho hnew hone hz hb hl e.size fun s' h' ho' hl' hu _ => hk s' h' ho' hl' (e.then hu fun k hk => (ho.lt hk).1) hu

/-! ### wrong -/
theorem wrong_spec {h : Heap} {T : Nat → Option Nat} {Z : Nat → Prop} {rb : Nat} {so sc : Sl} {op : List Int} {qs : List Q} (hn : RefR h T Z rb so sc op qs) {k e most : Int} {K : Int → Heap → Prop}
    (h1 : errS (csOf qs) k e most ≠ 0 → K (errS (csOf qs) k e most) h)
    (h2 : ∀ (i j : Nat) (q : Q) (b : Nat), errS (csOf qs) k e most = 0 → k = (i : Int) + 1 → e = (j : Int) → j < 2 → 0 ≤ most → qs[i]? = some q → sc.blk = some b → K 0 h) :
    m_spillwayref22_Net_wrong (some ⟨rb, 0, none⟩) k e most K h := by
  unfold m_spillwayref22_Net_wrong g_spillwayref22_Net_wrong
  have hl := hn.length
  have hcap := hn.row.cap
  have hbig := hn.row.big
  unfold errS at h1 h2
  rw [List.length_map] at h1 h2
  refine bindI_intro (bindB_intro (iteP_false (iteP_dec (fun c1 => bindI_intro ?_) (fun c1 => deref_ (ldLk hn.cells rfl (bindB_intro ?_))))))
  · rw [if_pos c1] at h1; exact h1 (by decide)
  refine iteP_dec (fun c2 => bindI_intro ?_) (fun c2 => iteP_dec (fun c3 => bindI_intro ?_) (fun c3 => iteP_dec (fun c4 => bindI_intro ?_) (fun c4 => bindB_intro (iteP_dec (fun c5 => bindI_intro ?_) (fun c5 => ?_)))))
  · rw [if_neg c1, if_pos (by omega)] at h1; exact h1 (by decide)
  · rw [if_neg c1, if_neg (by omega), if_pos c3] at h1; exact h1 (by decide)
  · rw [if_neg c1, if_neg (by omega), if_neg c3, if_pos c4] at h1; exact h1 (by decide)
  · rw [if_neg c1, if_neg (by omega), if_neg c3, if_neg c4, if_pos c5] at h1; exact h1 (by decide)
  · rw [if_neg c1, if_neg (by omega), if_neg c3, if_neg c4, if_neg c5] at h1 h2
    obtain ⟨i, hi⟩ := Int.eq_ofNat_of_zero_le (show 0 ≤ k - 1 by omega)
    obtain ⟨j, hj⟩ := Int.eq_ofNat_of_zero_le (show 0 ≤ e by omega)
    have hlt : i < qs.length := by omega
    have hq : qs[i]? = some qs[i] := List.getElem?_eq_getElem hlt
    generalize qs[i] = q at hq
    have hcs : (qs.map (·.2))[(k - 1).toNat]? = some q.2 := by rw [hi, Int.toNat_natCast, List.getElem?_map, hq]; rfl
    rw [hcs] at h1 h2
    dsimp only at h1 h2
    rw [wrap64 (n := k - 1) (by omega) (by omega)]
    refine deref_ (ldLk hn.cells rfl (idxR hn hq hi fun b hb => ⟨_, hn.cell hq hb (m := 1) (by omega) rfl, bindB_intro ⟨fun cb => bindI_intro ?_, fun cb => bindI_intro ?_⟩⟩))
    · rw [if_pos cb] at h1; exact h1 (by decide)
    · rw [if_neg (by rw [cb]; simp)] at h2
      exact h2 i j q b rfl (by omega) hj (by omega) (by omega) hq hb

theorem least_spec {a b : Int} {K : Int → Heap → Prop} {h : Heap} (hk : K (minV a b) h) : m_spillwayref22_least a b K h := by
  unfold m_spillwayref22_least g_spillwayref22_least
  unfold minV at hk
  refine bindI_intro (iteP_dec (fun h1 => bindI_intro ?_) (fun h1 => bindI_intro ?_))
  · rw [if_neg (by omega)] at hk; exact hk
  · by_cases h2 : b < a
    · rw [if_pos h2] at hk; exact hk
    · rw [if_neg h2] at hk
      have : a = b := by omega
      rw [← this]; exact hk

theorem RWrite_spec {h : Heap} {T : Nat → Option Nat} {Z : Nat → Prop} {rb ob : Nat} {ps : Int → Bool} {cs : List Cn} (hn : Ref h T Z rb ob ps cs) {k e : Int} {b : Sl} {l : List UInt8} (hb : Bytes h b l) (hb2 : l.length ≤ 1099511627776) (hw : ∀ c j, c ∈ cs → j < 2 → (c.side j).way.length ≤ 65536) {K : Int → Heap → Prop}
    (hk : ∀ h' Z', Ref h' T Z' rb ob ps (wrS cs k e l).2 → Stz T Z T Z' h h' → K (wrS cs k e l).1 h') : m_spillwayref22_Net_Write (some ⟨rb, 0, none⟩) k e b K h := by
  obtain ⟨so, sc, op, qs, hn, hps, hopl, rfl⟩ := hn
  unfold m_spillwayref22_Net_Write g_spillwayref22_Net_Write
  unfold wrS at hk
  have hbl := Bytes.length hb
  have hcap := hn.row.cap
  have hbig := hn.row.big
  have hsl := hn.length
  refine bindI_intro (wrong_spec hn (fun he => bindI_intro (iteP_pos (by simpa using he) (bindI_intro ?_))) (fun i j q b' he hk' hj hj2 _ hq hb' => bindI_intro (iteP_neg rfl ?_)))
  · rw [if_pos he] at hk
    exact hk h Z ⟨so, sc, op, qs, hn, hps, hopl, rfl⟩ (Stz.refl _ _ _)
  · rw [if_neg (by rw [he]; simp)] at hk
    have ei : (k - 1).toNat = i := by omega
    have ej : e.toNat = j := by omega
    rw [ei, ej] at hk
    unfold wrI at hk
    have hcs : (qs.map (·.2))[i]? = some q.2 := by rw [List.getElem?_map, hq]; rfl
    rw [hcs] at hk
    dsimp only at hk
    have hlt : i < qs.length := by
      rcases Nat.lt_or_ge i qs.length with h9 | h9
      · exact h9
      · rw [List.getElem?_eq_none h9] at hq; cases hq
    have hqr := (hn.each i q hq).get hj2 (c := 0) (by omega)
    have hqo : Bytes h (q.1.get j 0) (q.2.side j).way := hqr.row
    have hway := hw q.2 j (List.mem_map.2 ⟨q, List.mem_of_getElem? hq, rfl⟩) hj2
    have hrl : (q.1.get j 0).len = (q.2.side j).way.length := Bytes.length hqo
    have hwk : IntKind.wrap .i64 (k - 1) = (i : Int) := by rw [wrap64 (by omega) (by omega)]; omega
    rw [hwk]
    refine deref_ (ldLk hn.cells rfl (idxR hn hq rfl fun b9 hb9 => idxN_ hj hj2 ?_))
    have hbb : b9 = b' := by rw [hb'] at hb9; exact (Option.some.inj hb9).symm
    subst hbb
    have a1 : i * 8 + 2 + j * 3 = i * 8 + (2 + (j * 3 + 0)) := by omega
    have a2 : i * 8 + 2 + j * 3 + 2 = i * 8 + (2 + (j * 3 + 2)) := by omega
    rw [a2, a1]
    refine ⟨_, hn.cell hq hb' (by omega) (rC_shut q hj2), bindB_intro ⟨fun cx => bindI_intro ?_, fun cx => ?_⟩⟩
    · rw [if_pos cx] at hk
      exact hk h Z ⟨so, sc, op, qs, hn, hps, hopl, rfl⟩ (Stz.refl _ _ _)
    · rw [if_neg (by rw [cx]; simp)] at hk
      have hc0 := hn.cell hq hb' (m := 2 + (j * 3 + 0)) (by omega) (rC_get q hj2 (by omega : 0 < 2))
      refine ⟨q.1.get j 0, hc0, ?_⟩
      dsimp only
      by_cases hbig2 : (q.2.side j).way.length + l.length > 65536
      · rw [wrap64 (by omega) (by omega)]
        refine bindB_intro (iteP_pos (decide_eq_true (by omega)) (bindI_intro ?_))
        rw [if_pos hbig2] at hk
        exact hk h Z ⟨so, sc, op, qs, hn, hps, hopl, rfl⟩ (Stz.refl _ _ _)
      · rw [wrap64 (by omega) (by omega)]
        refine bindB_intro (iteP_neg (decide_eq_false (by omega)) (newE 1 fun h15 ho15 e15 z15 => ?_))
        rw [if_neg hbig2] at hk
        refine ⟨q.1.get j 0, by rw [cell_congr (e15.old _ (cell_lt hc0))]; exact hc0, ?_⟩
        refine Row.rd (Row.ext hqo e15) (appE ho15 e15 (by simp [hrl]) (bv_one _) rfl (by simp [hrl]; omega) (by simp [hrl]; omega) fun t17 h18 ho18 hl18 e18 _ => ?_)
        rw [List.nil_append] at ho18
        have hl18' := Own.blen_ ho18
        refine Row.rd (Row.ext hb e18) (appE ho18 e18 (by simp [hbl]) (bv_one _) rfl (by omega) (by omega) fun t19 h20 ho20 hl20 e20 _ => ?_)
        rw [← List.map_append] at ho20
        refine hn.setRow e20 hq hj2 (c := 0) (by omega) ho20 hb' fun h2 hn2 hst _ _ => bindI_intro ?_
        refine hk h2 _ ⟨so, sc, op, _, hn2, hps, hopl, ?_⟩ hst
        rw [List.map_set]
        rfl

end Go.Proofs.Ytgkgheaanfgecaa
