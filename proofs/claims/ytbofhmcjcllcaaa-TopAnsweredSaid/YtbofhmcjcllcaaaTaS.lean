/- The network. (gathered by carve.py out of texts proved for other seats) -/
import Derived.Test.YtbofhmcjcllcaaaTaQ
import Derived.Test.YtbofhmcjcllcaaaTaC
namespace Go.Proofs.Ytbofhmcjcllcaaa.St
open Go Go.Fw

structure Side where
  way : List UInt8
  come : List UInt8
  x : Bool

structure Cn where
  s0 : Side
  s1 : Side
  port : Int
  brk : Bool

structure Rw where
  w0 : Sl
  c0 : Sl
  w1 : Sl
  c1 : Sl

abbrev Q := Rw × Cn

def qC (q : Q) : List Value := [slV q.1.w0, slV q.1.c0, .bool q.2.s0.x, slV q.1.w1, slV q.1.c1, .bool q.2.s1.x, .int .i64 q.2.port, .bool q.2.brk]

theorem qC_len (q : Q) : (qC q).length = 8 := rfl

/-- a row of bytes that only the place of this tag holds -/
structure RowT (h : Heap) (T : Nat → Option Nat) (x : Sl) (tag : Nat) (l : List UInt8) : Prop where
  own : Own h 0 x 1 (l.map bv)
  tag : ∀ k, x.blk = some k → T k = some tag

structure QR (h : Heap) (T : Nat → Option Nat) (i : Nat) (q : Q) : Prop where
  w0 : RowT h T q.1.w0 (4 * i + 3) q.2.s0.way
  c0 : RowT h T q.1.c0 (4 * i + 4) q.2.s0.come
  w1 : RowT h T q.1.w1 (4 * i + 5) q.2.s1.way
  c1 : RowT h T q.1.c1 (4 * i + 6) q.2.s1.come

/-- a map of numbers that are there -/
structure KeysI (es : Array MapEntry) (ps : Int → Bool) : Prop where
  key : ∀ x, x ∈ es.toList → ∃ n, x.key = iv n ∧ x.val = .bool true
  apart : es.toList.Pairwise fun x y => x.key ≠ y.key
  has : ∀ n, ps n = true ↔ ∃ x, x ∈ es.toList ∧ x.key = iv n

def PortsR (h : Heap) (mb : Nat) (ps : Int → Bool) : Prop :=
  ∃ es c, h[mb]? = some (.map es c) ∧ KeysI es ps

/-- the network at block nb: T tells what each of its blocks is for -/
structure NetR (h : Heap) (T : Nat → Option Nat) (nb mb : Nat) (s : Sl) (ps : Int → Bool) (qs : List Q) : Prop where
  cells : h[nb]? = some (.cells #[.map (some mb), slV s] 67 (0, 0))
  tn : T nb = some 0
  ports : PortsR h mb ps
  tm : T mb = some 1
  row : Own h 0 s 8 (qs.flatMap qC)
  tr : ∀ k, s.blk = some k → T k = some 2
  each : ∀ i q, qs[i]? = some q → QR h T i q
  lt : ∀ k, T k ≠ none → k < h.size

def Net (h : Heap) (T : Nat → Option Nat) (nb : Nat) (ps : Int → Bool) (cs : List Cn) : Prop := ∃ mb s qs, NetR h T nb mb s ps qs ∧ qs.map (·.2) = cs

theorem RowT.congr {h h' : Heap} {T : Nat → Option Nat} {x : Sl} {tag : Nat} {l : List UInt8} (hr : RowT h T x tag l) (he : ∀ k, T k = some tag → k < h.size → h'[k]? = h[k]?) : RowT h' T x tag l :=
  ⟨hr.own.congr fun k hk hl _ => he k (hr.tag k hk) hl, hr.tag⟩

theorem RowT.tags {h : Heap} {T T' : Nat → Option Nat} {x : Sl} {tag : Nat} {l : List UInt8} (hr : RowT h T x tag l) (he : ∀ k, T k ≠ none → T' k = T k) : RowT h T' x tag l :=
  ⟨hr.own, fun k hk => by have := hr.tag k hk; rw [he k (by rw [this]; simp), this]⟩

theorem NetR.congr {h h' : Heap} {T : Nat → Option Nat} {nb mb : Nat} {s : Sl} {ps : Int → Bool} {qs : List Q} (hn : NetR h T nb mb s ps qs) (he : ∀ k, T k ≠ none → k < h.size → h'[k]? = h[k]?) (hs : h.size ≤ h'.size) : NetR h' T nb mb s ps qs := by
  have hm := hn.ports
  refine ⟨?_, hn.tn, ?_, hn.tm, ?_, hn.tr, fun i q hq => ?_, fun k hk => Nat.lt_of_lt_of_le (hn.lt k hk) hs⟩
  · rw [he nb (by rw [hn.tn]; simp) (blk_lt hn.cells)]; exact hn.cells
  · obtain ⟨es, c, hb, hr⟩ := hm
    exact ⟨es, c, by rw [he mb (by rw [hn.tm]; simp) (blk_lt hb)]; exact hb, hr⟩
  · exact hn.row.congr fun k hk hl _ => he k (by rw [hn.tr k hk]; simp) hl
  · obtain ⟨a, b, c, d⟩ := hn.each i q hq
    exact ⟨a.congr fun k hk => he k (by rw [hk]; simp), b.congr fun k hk => he k (by rw [hk]; simp), c.congr fun k hk => he k (by rw [hk]; simp), d.congr fun k hk => he k (by rw [hk]; simp)⟩

theorem NetR.upd {h h' : Heap} {T : Nat → Option Nat} {nb mb : Nat} {s : Sl} {ps : Int → Bool} {qs : List Q} {S : Nat → Prop} (hn : NetR h T nb mb s ps qs) (hu : Upd S h h') (hd : ∀ k, k < h.size → S k → T k = none) : NetR h' T nb mb s ps qs :=
  hn.congr (fun k hk hl => hu.old k hl fun hS => hk (hd k hl hS)) hu.size

theorem NetR.ext {h h' : Heap} {T : Nat → Option Nat} {nb mb : Nat} {s : Sl} {ps : Int → Bool} {qs : List Q} (hn : NetR h T nb mb s ps qs) (he : Ext h h') : NetR h' T nb mb s ps qs :=
  hn.congr (fun k _ hl => he.old k hl) he.size

theorem Net.upd {h h' : Heap} {T : Nat → Option Nat} {nb : Nat} {ps : Int → Bool} {cs : List Cn} {S : Nat → Prop} (hn : Net h T nb ps cs) (hu : Upd S h h') (hd : ∀ k, k < h.size → S k → T k = none) : Net h' T nb ps cs := by
  obtain ⟨mb, s, qs, hr, hc⟩ := hn
  exact ⟨mb, s, qs, hr.upd hu hd, hc⟩

theorem Net.ext {h h' : Heap} {T : Nat → Option Nat} {nb : Nat} {ps : Int → Bool} {cs : List Cn} (hn : Net h T nb ps cs) (he : Ext h h') : Net h' T nb ps cs := hn.upd (he.upd fun _ => False) fun _ _ h => h.elim

def Rw.get (r : Rw) (e c : Nat) : Sl := if e = 0 then (if c = 0 then r.w0 else r.c0) else (if c = 0 then r.w1 else r.c1)

def Rw.put (r : Rw) (e c : Nat) (x : Sl) : Rw := if e = 0 then (if c = 0 then { r with w0 := x } else { r with c0 := x }) else (if c = 0 then { r with w1 := x } else { r with c1 := x })

def Cn.side (q : Cn) (e : Nat) : Side := if e = 0 then q.s0 else q.s1

def Cn.putS (q : Cn) (e : Nat) (s : Side) : Cn := if e = 0 then { q with s0 := s } else { q with s1 := s }

def Side.get (s : Side) (c : Nat) : List UInt8 := if c = 0 then s.way else s.come

def Side.put (s : Side) (c : Nat) (l : List UInt8) : Side := if c = 0 then { s with way := l } else { s with come := l }

def Q.put (q : Q) (e c : Nat) (x : Sl) (l : List UInt8) : Q := (q.1.put e c x, q.2.putS e ((q.2.side e).put c l))

theorem two (e : Nat) (h : e < 2) : e = 0 ∨ e = 1 := by omega

theorem QR.get {h : Heap} {T : Nat → Option Nat} {i : Nat} {q : Q} (hq : QR h T i q) {e c : Nat} (he : e < 2) (hc : c < 2) : RowT h T (q.1.get e c) (4 * i + 3 + 2 * e + c) ((q.2.side e).get c) := by
  rcases two e he with rfl | rfl <;> rcases two c hc with rfl | rfl
  · exact hq.w0
  · exact hq.c0
  · exact hq.w1
  · exact hq.c1

theorem qC_get (q : Q) {e c : Nat} (he : e < 2) (hc : c < 2) : (qC q)[e * 3 + c]? = some (slV (q.1.get e c)) := by
  rcases two e he with rfl | rfl <;> rcases two c hc with rfl | rfl <;> rfl

theorem qC_shut (q : Q) {e : Nat} (he : e < 2) : (qC q)[e * 3 + 2]? = some (.bool (q.2.side e).x) := by
  rcases two e he with rfl | rfl <;> rfl

theorem qC_put (q : Q) {e c : Nat} (he : e < 2) (hc : c < 2) (x : Sl) (l : List UInt8) : qC (Q.put q e c x l) = (qC q).set (e * 3 + c) (slV x) := by
  rcases two e he with rfl | rfl <;> rcases two c hc with rfl | rfl <;> rfl

theorem qC_putX (q : Q) {e : Nat} (he : e < 2) (x : Bool) : qC (q.1, q.2.putS e { q.2.side e with x := x }) = (qC q).set (e * 3 + 2) (.bool x) := by
  rcases two e he with rfl | rfl <;> rfl

theorem QR.put {h : Heap} {T : Nat → Option Nat} {i : Nat} {q : Q} (hq : QR h T i q) {e c : Nat} (he : e < 2) (hc : c < 2) {x : Sl} {l : List UInt8} (hx : RowT h T x (4 * i + 3 + 2 * e + c) l) : QR h T i (Q.put q e c x l) := by
  rcases two e he with rfl | rfl <;> rcases two c hc with rfl | rfl
  · exact ⟨hx, hq.c0, hq.w1, hq.c1⟩
  · exact ⟨hq.w0, hx, hq.w1, hq.c1⟩
  · exact ⟨hq.w0, hq.c0, hx, hq.c1⟩
  · exact ⟨hq.w0, hq.c0, hq.w1, hx⟩

theorem QR.putX {h : Heap} {T : Nat → Option Nat} {i : Nat} {q : Q} (hq : QR h T i q) {e : Nat} (he : e < 2) (x : Bool) : QR h T i (q.1, q.2.putS e { q.2.side e with x := x }) := by
  rcases two e he with rfl | rfl
  · exact ⟨hq.w0, hq.c0, hq.w1, hq.c1⟩
  · exact ⟨hq.w0, hq.c0, hq.w1, hq.c1⟩

theorem Clone_spec {b : Sl} {l : List UInt8} {h : Heap} {K : Sl → Heap → Prop} (hb : Bytes h b l) (hsz : l.length ≤ 1099511627776)
    (hk : ∀ s h', Own h' h.size s 1 (l.map bv) → Ext h h' → K s h') : m_slices_Clone_byte_byte_ b K h := by
  unfold m_slices_Clone_byte_byte_ g_slices_Clone_byte_byte_
  have hlen := Bytes.length hb
  cases hp : b.ptr with
  | none =>
    refine iteP_true ?_
    have : l = [] := by
      rcases hb.at_ with h0 | ⟨bb, o, hp', _⟩
      · exact List.eq_nil_of_length_eq_zero (by omega)
      · rw [hp] at hp'; cases hp'
    subst this
    exact hk _ _ (Own.nil h h.size 1) (Ext.refl h)
  | some a =>
    refine iteP_false ?_
    have hext := Ext.push h (.cells #[] 5)
    refine newC_intro ((hb.ext hext).rd ?_)
    have ho := Own.newC (h := h) (cells := []) (t := 5) (size := 1) (n := 0) rfl (by decide)
    refine Own.app ho (by simp [hlen]) (by simp [List.all_map, Function.comp_def, bv, oneCell]) rfl (by simp [hlen]; omega) (by simp [hlen]; omega) (by simp) ?_
    intro s' h' ho' hl' hu hblk
    refine hk s' h' (by simpa using ho') (hext.then hu ?_)
    intro k hk
    simp [Sl.blk] at hk
    omega

theorem idxQ {h : Heap} {T : Nat → Option Nat} {nb mb : Nat} {s : Sl} {ps : Int → Bool} {qs : List Q} (hn : NetR h T nb mb s ps qs) {i : Nat} {q : Q} (hq : qs[i]? = some q) {k : Int} (hi : k = (i : Int)) {K : Nat → Nat → Prop}
    (hk : ∀ b, s.blk = some b → K b (i * 8)) : idxA s.ptr s.len k 8 K := by
  subst hi
  have hl := hn.row.len
  rw [flat_len qC_len] at hl
  have hlt : i < qs.length := by
    rcases Nat.lt_or_ge i qs.length with h9 | h9
    · exact h9
    · rw [List.getElem?_eq_none h9] at hq; cases hq
  obtain ⟨b, hp, hb⟩ := Own.ptr_ hn.row (o := 0) (by rw [flat_len qC_len]; omega)
  refine ⟨b, 0, hp, by omega, by omega, ?_⟩
  have e : 0 + (i : Int).toNat * 8 = i * 8 := by omega
  rw [e]
  exact hk b hb

theorem NetR.cell {h : Heap} {T : Nat → Option Nat} {nb mb : Nat} {s : Sl} {ps : Int → Bool} {qs : List Q} (hn : NetR h T nb mb s ps qs) {i : Nat} {q : Q} (hq : qs[i]? = some q) {b m : Nat} (hb : s.blk = some b) {v : Value} (hm : m < 8) (hv : (qC q)[m]? = some v) : h.cell b (i * 8 + m) = some v :=
  Own.cell_ hn.row hb (by rw [flat_get qC_len qs i m q hq hm]; exact hv)

theorem NetR.length {h : Heap} {T : Nat → Option Nat} {nb mb : Nat} {s : Sl} {ps : Int → Bool} {qs : List Q} (hn : NetR h T nb mb s ps qs) : s.len = qs.length := by
  have hl := hn.row.len
  rw [flat_len qC_len] at hl
  omega

/-- one slot's row is another one's: its block is written, or a new one -/
theorem NetR.setRow {h h1 : Heap} {T : Nat → Option Nat} {nb mb : Nat} {s : Sl} {ps : Int → Bool} {qs : List Q} (hn : NetR h T nb mb s ps qs) {i : Nat} {q : Q} (hq : qs[i]? = some q) {e c : Nat} (he : e < 2) (hc : c < 2) {x : Sl} {l : List UInt8}
    (hx : Own h1 0 x 1 (l.map bv)) (hnew : ∀ k, x.blk = some k → T k = some (4 * i + 3 + 2 * e + c) ∨ h.size ≤ k) (hu : Upd (fun k => T k = some (4 * i + 3 + 2 * e + c)) h h1) {b : Nat} (hb : s.blk = some b) {K : Heap → Prop}
    (hfin : ∀ h2 T', NetR h2 T' nb mb s ps (qs.set i (Q.put q e c x l)) → Stp T T' h h2 → (∀ k, x.blk ≠ some k → T' k = T k) → Upd (· = b) h1 h2 → K h2) : st h1 b (i * 8 + (e * 3 + c)) (slV x) K := by
  have hT0 : ∀ k, h.size ≤ k → T k = none := fun k hk => by
    rcases hT : T k with _ | t
    · rfl
    · have := hn.lt k (by rw [hT]; simp); omega
  have ne2 : ∀ {k : Nat}, T k = some 2 → ¬ T k = some (4 * i + 3 + 2 * e + c) := fun {k} h1 h2 => by
    rw [h1] at h2
    simp only [Option.some.injEq] at h2
    omega
  have hrow1 := hn.row.congr (h' := h1) fun k hk hl _ => hu.old k hl (ne2 (hn.tr k hk))
  have hlt : i < qs.length := by
    rcases Nat.lt_or_ge i qs.length with h9 | h9
    · exact h9
    · rw [List.getElem?_eq_none h9] at hq; cases hq
  have hm : e * 3 + c < 8 := by omega
  refine Own.stCell hrow1 hb (by rw [flat_len qC_len]; omega) rfl fun h2 o2 u2 z2 => ?_
  rw [flat_set qC_len qs i _ _ q (Q.put q e c x l) hq hm (qC_put q he hc x l)] at o2
  have u2' : Upd (· = b) h1 h2 := u2.mono fun k _ hk => by rw [hb] at hk; exact (Option.some.inj hk).symm
  have hbT : T b = some 2 := hn.tr b hb
  have hblt : b < h.size := hn.lt b (by rw [hbT]; simp)
  have z1 := hu.size
  have old : ∀ k, k < h.size → T k ≠ some (4 * i + 3 + 2 * e + c) → k ≠ b → h2[k]? = h[k]? := fun k hk h1 h2 => (u2'.old k (by omega) h2).trans (hu.old k hk h1)
  have hT' : ∀ k, T k ≠ none → (if x.blk = some k then some (4 * i + 3 + 2 * e + c) else T k) = T k := fun k hk => by
    split
    · rename_i hx1
      rcases hnew k hx1 with h9 | h9
      · exact h9.symm
      · exact absurd (hT0 k h9) hk
    · rfl
  have move : ∀ {y : Sl} {tag : Nat} {m : List UInt8}, RowT h T y tag m → tag ≠ 4 * i + 3 + 2 * e + c → 2 < tag → RowT h2 (fun k => if x.blk = some k then some (4 * i + 3 + 2 * e + c) else T k) y tag m := fun {y tag m} hy h1 h9 =>
    (hy.congr fun k hk hl => old k hl (by rw [hk]; simp only [ne_eq, Option.some.injEq]; exact h1) (by rintro rfl; rw [hbT] at hk; have := Option.some.inj hk; omega)).tags hT'
  have hxr : RowT h2 (fun k => if x.blk = some k then some (4 * i + 3 + 2 * e + c) else T k) x (4 * i + 3 + 2 * e + c) l :=
    ⟨hx.congr fun k hk hl _ => u2'.old k hl (by
      rintro rfl
      rcases hnew _ hk with h9 | h9
      · exact ne2 hbT h9
      · omega), fun k hk => by simp only [hk, if_true]⟩
  refine hfin h2 (fun k => if x.blk = some k then some (4 * i + 3 + 2 * e + c) else T k) ⟨?_, by show (if _ then _ else _) = _; rw [hT' nb (by rw [hn.tn]; simp)]; exact hn.tn, ?_, by show (if _ then _ else _) = _; rw [hT' mb (by rw [hn.tm]; simp)]; exact hn.tm, o2, fun k hk => ?_, fun i' q' hq' => ?_, fun k hk => ?_⟩ ⟨?_, fun k hk => ?_⟩ (fun k hk => by simp only [hk, if_false]) u2'
  · rw [old nb (blk_lt hn.cells) (by rw [hn.tn]; simp only [ne_eq, Option.some.injEq]; omega) (by rintro rfl; rw [hn.tn] at hbT; cases hbT)]
    exact hn.cells
  · obtain ⟨es, cl, hp, hr⟩ := hn.ports
    exact ⟨es, cl, by rw [old mb (blk_lt hp) (by rw [hn.tm]; simp only [ne_eq, Option.some.injEq]; omega) (by rintro rfl; rw [hn.tm] at hbT; cases hbT)]; exact hp, hr⟩
  · show (if _ then _ else _) = _
    rw [hT' k (by rw [hn.tr k hk]; simp)]
    exact hn.tr k hk
  · by_cases hii : i' = i
    · subst hii
      rw [List.getElem?_set_self hlt] at hq'
      cases hq'
      obtain ⟨a1, a2, a3, a4⟩ := hn.each i' q hq
      rcases two e he with rfl | rfl <;> rcases two c hc with rfl | rfl
      · exact ⟨hxr, move a2 (by omega) (by omega), move a3 (by omega) (by omega), move a4 (by omega) (by omega)⟩
      · exact ⟨move a1 (by omega) (by omega), hxr, move a3 (by omega) (by omega), move a4 (by omega) (by omega)⟩
      · exact ⟨move a1 (by omega) (by omega), move a2 (by omega) (by omega), hxr, move a4 (by omega) (by omega)⟩
      · exact ⟨move a1 (by omega) (by omega), move a2 (by omega) (by omega), move a3 (by omega) (by omega), hxr⟩
    · rw [List.getElem?_set_ne (Ne.symm hii)] at hq'
      obtain ⟨a1, a2, a3, a4⟩ := hn.each i' q' hq'
      exact ⟨move a1 (by omega) (by omega), move a2 (by omega) (by omega), move a3 (by omega) (by omega), move a4 (by omega) (by omega)⟩
  · have z2' : h2.size = h1.size := z2
    by_cases hx1 : x.blk = some k
    · have := (hx.lt hx1).2; omega
    · simp only [hx1, if_false] at hk
      have := hn.lt k hk; omega
  · exact Upd.then (hu.mono fun k _ hk => by show T k ≠ none; rw [hk]; simp) u2' fun k _ hk => by subst hk; show T k ≠ none; rw [hbT]; simp
  · by_cases hx1 : x.blk = some k
    · rcases hnew k hx1 with h9 | h9
      · exact .inl (by rw [h9]; simp)
      · exact .inr h9
    · simp only [hx1, if_false] at hk
      exact .inl hk

def errS (cs : List Cn) (k e most : Int) : Int :=
  if k < 1 then 4 else if k > (cs.length : Int) then 4 else if e < 0 then 2 else if e > 1 then 2 else if most < 0 then 2 else match cs[(k - 1).toNat]? with
    | some c => if c.brk then 51 else 0
    | none => 0

abbrev csOf (qs : List Q) : List Cn := qs.map (·.2)

theorem at_spec {h : Heap} {T : Nat → Option Nat} {nb mb : Nat} {s : Sl} {ps : Int → Bool} {qs : List Q} (hn : NetR h T nb mb s ps qs) {k e most : Int} {K : Option Addr → Int → Heap → Prop}
    (h1 : errS (csOf qs) k e most ≠ 0 → K none (errS (csOf qs) k e most) h)
    (h2 : ∀ (i j : Nat) (q : Q) (b : Nat), errS (csOf qs) k e most = 0 → k = (i : Int) + 1 → e = (j : Int) → j < 2 → 0 ≤ most → qs[i]? = some q → s.blk = some b → K (some ⟨b, i * 8, none⟩) 0 h) :
    m_stream_Net_at (some ⟨nb, 0, none⟩) k e most K h := by
  unfold m_stream_Net_at g_stream_Net_at
  have hl := hn.length
  have hcap := hn.row.cap
  have hbig := hn.row.big
  unfold errS at h1 h2
  rw [List.length_map] at h1 h2
  refine bindI_intro (bindB_intro (iteP_false (iteP_dec (fun c1 => bindI_intro ?_) (fun c1 => deref_ (ldLk hn.cells rfl (bindB_intro ?_))))))
  · rw [if_pos c1] at h1; exact h1 (by decide)
  refine iteP_dec (fun c2 => bindI_intro ?_) (fun c2 => iteP_dec (fun c3 => bindI_intro ?_) (fun c3 => iteP_dec (fun c4 => bindI_intro ?_) (fun c4 => bindB_intro (iteP_dec (fun c5 => bindI_intro ?_) (fun c5 => ?_)))))
  · rw [if_neg c1, if_pos (by omega)] at h1; exact h1 (by decide)
  · rw [if_neg c1, if_neg (by omega), if_pos c3] at h1; exact h1 (by decide)
  · rw [if_neg c1, if_neg (by omega), if_neg c3, if_pos c4] at h1; exact h1 (by decide)
  · rw [if_neg c1, if_neg (by omega), if_neg c3, if_neg c4, if_pos c5] at h1; exact h1 (by decide)
  · rw [if_neg c1, if_neg (by omega), if_neg c3, if_neg c4, if_neg c5] at h1 h2
    obtain ⟨i, hi⟩ := Int.eq_ofNat_of_zero_le (show 0 ≤ k - 1 by omega)
    obtain ⟨j, hj⟩ := Int.eq_ofNat_of_zero_le (show 0 ≤ e by omega)
    have hlt : i < qs.length := by omega
    have hq : qs[i]? = some qs[i] := List.getElem?_eq_getElem hlt
    generalize qs[i] = q at hq
    have hcs : (qs.map (·.2))[(k - 1).toNat]? = some q.2 := by rw [hi, Int.toNat_natCast, List.getElem?_map, hq]; rfl
    rw [hcs] at h1 h2
    dsimp only at h1 h2
    rw [wrap64 (n := k - 1) (by omega) (by omega)]
    refine deref_ (ldLk hn.cells rfl (idxQ hn hq hi fun b hb => ⟨_, hn.cell hq hb (m := 7) (by omega) rfl, bindB_intro ⟨fun cb => bindI_intro ?_, fun cb => deref_ (ldLk hn.cells rfl (idxQ hn hq hi fun b hb => bindI_intro ?_))⟩⟩))
    · rw [if_pos cb] at h1; exact h1 (by decide)
    · rw [if_neg (by rw [cb]; simp)] at h2
      exact h2 i j q b rfl (by omega) hj (by omega) (by omega) hq hb

theorem idxN_ {j : Nat} {e : Int} (he : e = (j : Int)) (hj : j < 2) {K : Nat → Prop} (hk : K j) : idxN 2 e K := by
  subst he
  exact ⟨by omega, by omega, by simpa using hk⟩

def wrI (cs : List Cn) (i j : Nat) (b : List UInt8) : Int × List Cn := match cs[i]? with
  | none => (0, cs)
  | some c => if (c.side j).x then (51, cs) else if (c.side j).way.length + b.length > 65536 then (3, cs) else (0, cs.set i (c.putS j ((c.side j).put 0 ((c.side j).way ++ b))))

def wrS (cs : List Cn) (k e : Int) (b : List UInt8) : Int × List Cn := if errS cs k e 0 ≠ 0 then (errS cs k e 0, cs) else wrI cs (k - 1).toNat e.toNat b

theorem Upd.of_blk {T : Nat → Option Nat} {h h' : Heap} {x : Sl} {tag : Nat} {l : List UInt8} (hr : RowT h T x tag l) (hu : Upd (fun k => x.blk = some k) h h') : Upd (fun k => T k = some tag) h h' := hu.mono fun k _ hk => hr.tag k hk

theorem Write_spec {h : Heap} {T : Nat → Option Nat} {nb : Nat} {ps : Int → Bool} {cs : List Cn} (hn : Net h T nb ps cs) {k e : Int} {b : Sl} {l : List UInt8} (hb : Bytes h b l) (hb2 : l.length ≤ 1099511627776) (hw : ∀ c j, c ∈ cs → j < 2 → (c.side j).way.length ≤ 65536) {K : Int → Heap → Prop}
    (hk : ∀ h' T', Net h' T' nb ps (wrS cs k e l).2 → Stp T T' h h' → K (wrS cs k e l).1 h') : m_stream_Net_Write (some ⟨nb, 0, none⟩) k e b K h := by
  obtain ⟨mb, s, qs, hn, rfl⟩ := hn
  unfold m_stream_Net_Write g_stream_Net_Write
  unfold wrS at hk
  have hbl := Bytes.length hb
  have hbc := hb.cap
  have hbb := hb.big
  refine bindI_intro (at_spec hn (fun he => bindI_intro (iteP_pos (by simpa using he) (bindI_intro ?_))) (fun i j q b' he hk' hj hj2 _ hq hb' => bindI_intro (iteP_neg rfl ?_)))
  · rw [if_pos he] at hk
    exact hk h T ⟨mb, s, qs, hn, rfl⟩ (Stp.refl _ _)
  · rw [if_neg (by rw [he]; simp)] at hk
    have ei : (k - 1).toNat = i := by omega
    have ej : e.toNat = j := by omega
    rw [ei, ej] at hk
    unfold wrI at hk
    have hcs : (qs.map (·.2))[i]? = some q.2 := by rw [List.getElem?_map, hq]; rfl
    rw [hcs] at hk
    dsimp only at hk
    have hqr := (hn.each i q hq).get hj2 (c := 0) (by omega)
    have hway := hw q.2 j (List.mem_map.2 ⟨q, List.mem_of_getElem? hq, rfl⟩) hj2
    have hrl : (q.1.get j 0).len = (q.2.side j).way.length := Bytes.length hqr.own.row
    refine deref_ (idxN_ hj hj2 ⟨_, by rw [Nat.add_assoc]; exact hn.cell hq hb' (by omega) (qC_shut q hj2), bindB_intro ⟨fun cx => bindI_intro ?_, fun cx => ?_⟩⟩)
    · rw [if_pos cx] at hk
      exact hk h T ⟨mb, s, qs, hn, rfl⟩ (Stp.refl _ _)
    · rw [if_neg (by rw [cx]; simp)] at hk
      have hc0 := hn.cell hq hb' (m := j * 3 + 0) (by omega) (qC_get q hj2 (by omega : 0 < 2))
      refine ⟨q.1.get j 0, hc0, ?_⟩
      dsimp only
      by_cases hbig2 : (q.2.side j).way.length + l.length > 65536
      · rw [wrap64 (by omega) (by omega)]
        refine bindB_intro (iteP_pos (decide_eq_true (by omega)) (bindI_intro ?_))
        rw [if_pos hbig2] at hk
        exact hk h T ⟨mb, s, qs, hn, rfl⟩ (Stp.refl _ _)
      · rw [wrap64 (by omega) (by omega)]
        refine bindB_intro (iteP_neg (decide_eq_false (by omega)) ⟨q.1.get j 0, hc0, ?_⟩)
        rw [if_neg hbig2] at hk
        refine hb.rd (Own.app hqr.own (by simp [hbl]) (by simp [List.all_map, Function.comp_def, bv, oneCell]) rfl (by omega) (by omega) (Nat.zero_le _) fun x h14 ho hl hu hblk => ?_)
        rw [← List.map_append] at ho
        refine hn.setRow hq hj2 (c := 0) (by omega) ho (fun k hk => ?_) (Upd.of_blk hqr hu) hb' fun h2 T' hn2 hst _ _ => bindI_intro ?_
        · rcases hblk with e1 | e1
          · rw [e1] at hk; exact .inl (hqr.tag k hk)
          · rw [e1] at hk; exact .inr (by have := Option.some.inj hk; omega)
        · refine hk h2 T' ⟨mb, s, _, hn2, ?_⟩ hst
          rw [List.map_set]
          rfl

/-- one cell of one connection is written -/
theorem NetR.setCell {h : Heap} {T : Nat → Option Nat} {nb mb : Nat} {s : Sl} {ps : Int → Bool} {qs : List Q} (hn : NetR h T nb mb s ps qs) {i : Nat} {q q' : Q} (hq : qs[i]? = some q) {m : Nat} (hm : m < 8) {v : Value} (hv : oneCell v = true)
    (hC : qC q' = (qC q).set m v) (hQ : QR h T i q') {b : Nat} (hb : s.blk = some b) {K : Heap → Prop}
    (hfin : ∀ h2, NetR h2 T nb mb s ps (qs.set i q') → Stp T T h h2 → K h2) : st h b (i * 8 + m) v K := by
  have hlt : i < qs.length := by
    rcases Nat.lt_or_ge i qs.length with h9 | h9
    · exact h9
    · rw [List.getElem?_eq_none h9] at hq; cases hq
  refine Own.stCell hn.row hb (by rw [flat_len qC_len]; omega) hv fun h2 o2 u2 z2 => ?_
  rw [flat_set qC_len qs i m v q q' hq hm hC] at o2
  have hbT : T b = some 2 := hn.tr b hb
  have u2' : Upd (· = b) h h2 := u2.mono fun k _ hk => by rw [hb] at hk; exact (Option.some.inj hk).symm
  have old : ∀ k, k < h.size → k ≠ b → h2[k]? = h[k]? := fun k hk h2 => u2'.old k hk h2
  have mv : ∀ {i' : Nat} {r : Q}, QR h T i' r → QR h2 T i' r := fun {i' r} hr => by
    obtain ⟨a1, a2, a3, a4⟩ := hr
    have g : ∀ {tag k : Nat}, 2 < tag → T k = some tag → k ≠ b := fun {tag k} ht hk he => by
      subst he
      rw [hbT] at hk
      have := Option.some.inj hk
      omega
    exact ⟨a1.congr fun k hk hl => old k hl (g (by omega) hk), a2.congr fun k hk hl => old k hl (g (by omega) hk), a3.congr fun k hk hl => old k hl (g (by omega) hk), a4.congr fun k hk hl => old k hl (g (by omega) hk)⟩
  refine hfin h2 ⟨?_, hn.tn, ?_, hn.tm, o2, hn.tr, fun i' r hr => ?_, fun k hk => by have := hn.lt k hk; omega⟩ ⟨u2'.mono fun k _ hk => by subst hk; show T k ≠ none; rw [hbT]; simp, fun k hk => .inl hk⟩
  · rw [old nb (blk_lt hn.cells) (by rintro rfl; rw [hn.tn] at hbT; cases hbT)]
    exact hn.cells
  · obtain ⟨es, cl, hp, hr⟩ := hn.ports
    exact ⟨es, cl, by rw [old mb (blk_lt hp) (by rintro rfl; rw [hn.tm] at hbT; cases hbT)]; exact hp, hr⟩
  · by_cases hii : i' = i
    · subst hii
      rw [List.getElem?_set_self hlt] at hr
      cases hr
      exact mv hQ
    · rw [List.getElem?_set_ne (Ne.symm hii)] at hr
      exact mv (hn.each i' r hr)

def mvI (cs : List Cn) (i j : Nat) (m : Nat) : (Int × Int) × List Cn := match cs[i]? with
  | none => ((0, 0), cs)
  | some c => (((min m (c.side j).way.length : Nat), 0), cs.set i (c.putS j ⟨(c.side j).way.drop (min m (c.side j).way.length), (c.side j).come ++ (c.side j).way.take (min m (c.side j).way.length), (c.side j).x⟩))

def mvS (cs : List Cn) (k e most : Int) : (Int × Int) × List Cn := if errS cs k e most ≠ 0 then ((0, errS cs k e most), cs) else mvI cs (k - 1).toNat e.toNat most.toNat

theorem put_get (q : Q) {j : Nat} (hj : j < 2) (x : Sl) (l : List UInt8) : (Q.put q j 1 x l).1.get j 0 = q.1.get j 0 ∧ ((Q.put q j 1 x l).2.side j).get 0 = (q.2.side j).way := by
  rcases two j hj with rfl | rfl <;> exact ⟨rfl, rfl⟩

theorem put_put (q : Q) {j : Nat} (hj : j < 2) (x y : Sl) (l m : List UInt8) : (Q.put (Q.put q j 1 x l) j 0 y m).2 = q.2.putS j ⟨m, l, (q.2.side j).x⟩ := by
  rcases two j hj with rfl | rfl <;> rfl

theorem put_one (q : Q) {j : Nat} (hj : j < 2) (x : Sl) (l : List UInt8) : (Q.put q j 1 x l).2 = q.2.putS j ⟨(q.2.side j).way, l, (q.2.side j).x⟩ := by
  rcases two j hj with rfl | rfl <;> rfl

theorem Move_spec {h : Heap} {T : Nat → Option Nat} {nb : Nat} {ps : Int → Bool} {cs : List Cn} (hn : Net h T nb ps cs) {k e most : Int} (hw : ∀ c j, c ∈ cs → j < 2 → (c.side j).way.length ≤ 65536 ∧ (c.side j).come.length ≤ 1099511627776) {K : Int → Int → Heap → Prop}
    (hk : ∀ h' T', Net h' T' nb ps (mvS cs k e most).2 → Stp T T' h h' → K (mvS cs k e most).1.1 (mvS cs k e most).1.2 h') : m_stream_Net_Move (some ⟨nb, 0, none⟩) k e most K h := by
  obtain ⟨mb, s, qs, hn, rfl⟩ := hn
  unfold m_stream_Net_Move g_stream_Net_Move
  unfold mvS at hk
  refine bindI_intro (bindI_intro (at_spec hn (fun he => bindI_intro (iteP_pos (by simpa using he) (bindI_intro (bindI_intro ?_)))) (fun i j q b' he hk' hj hj2 hm0 hq hb' => bindI_intro (iteP_neg rfl ?_))))
  · rw [if_pos he] at hk
    exact hk h T ⟨mb, s, qs, hn, rfl⟩ (Stp.refl _ _)
  · rw [if_neg (by rw [he]; simp)] at hk
    have ei : (k - 1).toNat = i := by omega
    have ej : e.toNat = j := by omega
    rw [ei, ej] at hk
    unfold mvI at hk
    have hcs : (qs.map (·.2))[i]? = some q.2 := by rw [List.getElem?_map, hq]; rfl
    rw [hcs] at hk
    dsimp only at hk
    have hlt : i < qs.length := by
      rcases Nat.lt_or_ge i qs.length with h9 | h9
      · exact h9
      · rw [List.getElem?_eq_none h9] at hq; cases hq
    have hqw := (hn.each i q hq).get hj2 (c := 0) (by omega)
    have hqc := (hn.each i q hq).get hj2 (c := 1) (by omega)
    have hway := hw q.2 j (List.mem_map.2 ⟨q, List.mem_of_getElem? hq, rfl⟩) hj2
    have hrl : (q.1.get j 0).len = (q.2.side j).way.length := Bytes.length hqw.own.row
    have hcl : (q.1.get j 1).len = (q.2.side j).come.length := Bytes.length hqc.own.row
    have hwc := hqw.own.cap
    have hc0 := hn.cell hq hb' (m := j * 3 + 0) (by omega) (qC_get q hj2 (by omega : 0 < 2))
    have hc1 := hn.cell hq hb' (m := j * 3 + 1) (by omega) (qC_get q hj2 (by omega : 1 < 2))
    have hmin : minV most ((q.1.get j 0).len : Int) = ((min most.toNat (q.2.side j).way.length : Nat) : Int) := by
      unfold minV
      rw [hrl]
      split <;> omega
    generalize hmm : min most.toNat (q.2.side j).way.length = m at hk hmin
    have hm1 : m ≤ (q.2.side j).way.length := by omega
    refine deref_ (idxN_ hj hj2 ⟨q.1.get j 0, hc0, bindI_intro ?_⟩)
    rw [hmin]
    refine ⟨q.1.get j 1, by rw [Nat.add_assoc]; exact hc1, q.1.get j 0, hc0, ?_⟩
    refine Row.slc hqw.own.row (a := 0) (b := m) (m := (q.1.get j 0).cap) rfl rfl rfl (Nat.zero_le _) (by omega) (by omega) (Nat.le_refl _) fun t10 ht10 hl10 _ _ => ?_
    rw [List.drop_zero, Nat.sub_zero, ← List.map_take] at ht10
    have hnl : ((q.2.side j).way.take m).length = m := by rw [List.length_take]; omega
    refine ht10.rd (Own.app hqc.own (by simp only [List.length_map]; show ((q.2.side j).way.take m).length = _; omega) (bv_one _) rfl (by omega) (by omega) (Nat.zero_le _) fun x h12 ho hl hu hblk => ?_)
    rw [← List.map_append] at ho
    have hu' := Upd.of_blk hqc hu
    have hbT : T b' = some 2 := hn.tr b' hb'
    have hold : h12[b']? = h[b']? := hu'.old b' (hn.lt b' (by rw [hbT]; simp)) (by rw [hbT]; simp only [Option.some.injEq]; omega)
    refine ⟨⟨by rw [cell_congr hold]; exact hc0, trivial⟩, ?_⟩
    rw [Nat.add_assoc (i * 8) (j * 3) 1]
    refine hn.setRow hq hj2 (c := 1) (by omega) ho (fun k hk => ?_) hu' hb' fun h13 T1 hn1 hst1 _ _ => ?_
    · rcases hblk with e1 | e1
      · rw [e1] at hk; exact .inl (hqc.tag k hk)
      · rw [e1] at hk; exact .inr (by have := Option.some.inj hk; omega)
    · obtain ⟨g1, g2⟩ := put_get q hj2 x ((q.2.side j).get 1 ++ (q.2.side j).way.take m)
      have hq1 : (qs.set i (Q.put q j 1 x ((q.2.side j).get 1 ++ (q.2.side j).way.take m)))[i]? = some (Q.put q j 1 x ((q.2.side j).get 1 ++ (q.2.side j).way.take m)) := List.getElem?_set_self hlt
      have hqw1 := (hn1.each i _ hq1).get hj2 (c := 0) (by omega)
      rw [g1, g2] at hqw1
      have hc01 := hn1.cell hq1 hb' (m := j * 3 + 0) (by omega) (qC_get _ hj2 (by omega : 0 < 2))
      rw [g1] at hc01
      refine ⟨q.1.get j 0, hc01, ?_⟩
      refine Row.slc hqw1.own.row (a := m) (b := (q.1.get j 0).len) (m := (q.1.get j 0).cap) rfl rfl rfl (by omega) (Nat.le_refl _) (by omega) (Nat.le_refl _) fun t15 ht15 hl15 _ _ => ?_
      rw [← List.map_drop, ← List.map_take, List.take_of_length_le (by rw [List.length_drop]; omega)] at ht15
      refine Clone_spec ht15 (by rw [List.length_drop]; omega) fun t16 h17 ho16 e17 => ?_
      refine hn1.setRow hq1 hj2 (c := 0) (by omega) (ho16.base (Nat.zero_le _)) (fun k hk => .inr (ho16.lt hk).1) (e17.upd _) hb' fun h18 T2 hn2 hst2 _ _ => bindI_intro (bindI_intro ?_)
      refine hk h18 T2 ⟨mb, s, _, hn2, ?_⟩ (hst1.trans hst2)
      rw [List.set_set, List.map_set, put_put q hj2]
      rfl

def rdI (cs : List Cn) (i j : Nat) (m : Nat) : (List UInt8 × Bool × Int) × List Cn := match cs[i]? with
  | none => (([], false, 0), cs)
  | some c => (((c.side j).come.take (min m (c.side j).come.length), ((c.side j).x && ((c.side j).way.length == 0 && ((c.side j).come.drop (min m (c.side j).come.length)).length == 0)), 0),
      cs.set i (c.putS j ⟨(c.side j).way, (c.side j).come.drop (min m (c.side j).come.length), (c.side j).x⟩))

def rdS_ (cs : List Cn) (k e most : Int) : (List UInt8 × Bool × Int) × List Cn := if errS cs k e most ≠ 0 then (([], false, errS cs k e most), cs) else rdI cs (k - 1).toNat (1 - e.toNat) most.toNat

theorem Read_spec {h : Heap} {T : Nat → Option Nat} {nb : Nat} {ps : Int → Bool} {cs : List Cn} (hn : Net h T nb ps cs) {k e most : Int} (hw : ∀ c j, c ∈ cs → j < 2 → (c.side j).way.length ≤ 65536 ∧ (c.side j).come.length ≤ 1099511627776) {K : Sl → Bool → Int → Heap → Prop}
    (hk : ∀ out h' T', Net h' T' nb ps (rdS_ cs k e most).2 → Stp T T' h h' → Own h' h.size out 1 ((rdS_ cs k e most).1.1.map bv) → (∀ k, out.blk = some k → T' k = none) → K out (rdS_ cs k e most).1.2.1 (rdS_ cs k e most).1.2.2 h') : m_stream_Net_Read (some ⟨nb, 0, none⟩) k e most K h := by
  obtain ⟨mb, s, qs, hn, rfl⟩ := hn
  unfold m_stream_Net_Read g_stream_Net_Read
  unfold rdS_ at hk
  refine bindI_intro (at_spec hn (fun he => bindI_intro (iteP_pos (by simpa using he) (bindI_intro ?_))) (fun i j0 q b' he hk' hj hj2 hm0 hq hb' => bindI_intro (iteP_neg rfl ?_)))
  · rw [if_pos he] at hk
    exact hk ⟨none, 0, 0⟩ h T ⟨mb, s, qs, hn, rfl⟩ (Stp.refl _ _) (Own.nil _ _ 1) (fun k hk => by simp [Sl.blk] at hk)
  · rw [if_neg (by rw [he]; simp)] at hk
    have ei : (k - 1).toNat = i := by omega
    have ej : e.toNat = j0 := by omega
    rw [ei, ej] at hk
    have hwr : IntKind.wrap .i64 ((1 : Int) - e) = ((1 - j0 : Nat) : Int) := by rw [wrap64 (by omega) (by omega)]; omega
    have hj3 : 1 - j0 < 2 := by omega
    generalize 1 - j0 = j at hk hwr hj3
    unfold rdI at hk
    have hcs : (qs.map (·.2))[i]? = some q.2 := by rw [List.getElem?_map, hq]; rfl
    rw [hcs] at hk
    dsimp only at hk
    have hlt : i < qs.length := by
      rcases Nat.lt_or_ge i qs.length with h9 | h9
      · exact h9
      · rw [List.getElem?_eq_none h9] at hq; cases hq
    have hqc := (hn.each i q hq).get hj3 (c := 1) (by omega)
    have hway := hw q.2 j (List.mem_map.2 ⟨q, List.mem_of_getElem? hq, rfl⟩) hj3
    have hcl : (q.1.get j 1).len = (q.2.side j).come.length := Bytes.length hqc.own.row
    have hwc := hqc.own.cap
    have hc1 := hn.cell hq hb' (m := j * 3 + 1) (by omega) (qC_get q hj3 (by omega : 1 < 2))
    have hmin : minV most ((q.1.get j 1).len : Int) = ((min most.toNat (q.2.side j).come.length : Nat) : Int) := by
      unfold minV
      rw [hcl]
      split <;> omega
    generalize hmm : min most.toNat (q.2.side j).come.length = m at hk hmin
    have hm1 : m ≤ (q.2.side j).come.length := by omega
    have hqo : Bytes h (q.1.get j 1) (q.2.side j).come := hqc.own.row
    refine deref_ (idxN_ hwr hj3 ⟨q.1.get j 1, by rw [Nat.add_assoc]; exact hc1, bindI_intro ?_⟩)
    rw [hmin, Nat.add_assoc (i * 8) (j * 3) 1]
    refine ⟨q.1.get j 1, hc1, ?_⟩
    refine Row.slc hqo (a := 0) (b := m) (m := (q.1.get j 1).cap) rfl rfl rfl (Nat.zero_le _) (by omega) (by omega) (Nat.le_refl _) fun t7 ht7 hl7 _ _ => ?_
    rw [List.drop_zero, Nat.sub_zero, ← List.map_take] at ht7
    refine Clone_spec ht7 (by rw [List.length_take]; omega) fun t8 h9 ho8 e9 => ?_
    have hc19 : h9.cell b' (i * 8 + (j * 3 + 1)) = some (slV (q.1.get j 1)) := by rw [cell_congr (e9.old b' (cell_lt hc1))]; exact hc1
    refine ⟨q.1.get j 1, hc19, ?_⟩
    refine Row.slc (hqo.ext e9) (a := m) (b := (q.1.get j 1).len) (m := (q.1.get j 1).cap) rfl rfl rfl (by omega) (Nat.le_refl _) (by omega) (Nat.le_refl _) fun t11 ht11 hl11 _ _ => ?_
    rw [← List.map_drop, ← List.map_take, List.take_of_length_le (by rw [List.length_drop]; omega)] at ht11
    refine Clone_spec ht11 (by rw [List.length_drop]; omega) fun t12 h13 ho12 e13 => ?_
    have z9 := e9.size
    have z13 := e13.size
    refine hn.setRow hq hj3 (c := 1) (by omega) (ho12.base (Nat.zero_le _)) (fun k hk => .inr (by have := (ho12.lt hk).1; omega)) ((e9.trans e13).upd _) hb' fun h14 T' hn2 hst hT u14 => ?_
    have hq1 : (qs.set i (Q.put q j 1 t12 ((q.2.side j).come.drop m)))[i]? = some (Q.put q j 1 t12 ((q.2.side j).come.drop m)) := List.getElem?_set_self hlt
    have hcx := hn2.cell hq1 hb' (m := j * 3 + 2) (by omega) (qC_shut _ hj3)
    have hcw := hn2.cell hq1 hb' (m := j * 3 + 0) (by omega) (qC_get _ hj3 (by omega : 0 < 2))
    have hcc := hn2.cell hq1 hb' (m := j * 3 + 1) (by omega) (qC_get _ hj3 (by omega : 1 < 2))
    have hrw := ((hn2.each i _ hq1).get hj3 (c := 0) (by omega)).own.row
    have hrc := ((hn2.each i _ hq1).get hj3 (c := 1) (by omega)).own.row
    have p1 : ((Q.put q j 1 t12 ((q.2.side j).come.drop m)).2.side j) = ⟨(q.2.side j).way, (q.2.side j).come.drop m, (q.2.side j).x⟩ := by
      rcases two j hj3 with rfl | rfl <;> rfl
    rw [p1] at hcx hrw hrc
    have lw := Bytes.length hrw
    have lc := Bytes.length hrc
    have hbT : T b' = some 2 := hn.tr b' hb'
    have hblt := hn.lt b' (by rw [hbT]; simp)
    have done := hk t8 h14 T' ⟨mb, s, _, hn2, by rw [List.map_set, put_one q hj3]⟩ hst ((ho8.congr fun k _ hl _ => e13.old k hl).congr fun k hk hl hge => u14.old k hl (by omega)) (fun k hk => by
      have a := ho8.lt hk
      rw [hT k fun he => by have := (ho12.lt he).1; omega]
      rcases hTk : T k with _ | t
      · rfl
      · have := hn.lt k (by rw [hTk]; simp); omega)
    refine ⟨(q.2.side j).x, by rw [Nat.add_assoc]; exact hcx, ⟨fun cx => ?_, fun cx => bindI_intro ?_⟩⟩
    · refine ⟨_, hcw, ⟨fun c0 => ⟨_, hcc, bindB_intro (bindI_intro ?_)⟩, fun c0 => bindI_intro ?_⟩⟩
      · have e1 : (q.2.side j).way.length = 0 := by rw [lw] at c0; simpa [Side.get] using c0
        have e2 : ((((Q.put q j 1 t12 ((q.2.side j).come.drop m)).1.get j 1).len : Int) == 0) = (((q.2.side j).come.drop m).length == 0) := by
          rw [lc]
          show ((((q.2.side j).come.drop m).length : Int) == 0) = _
          rw [Bool.eq_iff_iff]
          simp only [beq_iff_eq]
          omega
        rw [e2]
        rw [cx, e1] at done
        simpa using done
      · have e1 : ((q.2.side j).way.length == 0) = false := by
          rw [lw] at c0
          have : ((((q.2.side j).way.length : Nat) : Int) == 0) = false := c0
          rw [beq_eq_false_iff_ne] at this ⊢
          omega
        rw [e1] at done
        simpa using done
    · rw [cx] at done
      simpa using done

def shI (cs : List Cn) (i j : Nat) : Int × List Cn := match cs[i]? with
  | none => (0, cs)
  | some c => if (c.side j).x then (51, cs) else (0, cs.set i (c.putS j { c.side j with x := true }))

def shS (cs : List Cn) (k e : Int) : Int × List Cn := if errS cs k e 0 ≠ 0 then (errS cs k e 0, cs) else shI cs (k - 1).toNat e.toNat

abbrev Found := Option (Nat × Value)

theorem KeysI.isKey {es : Array MapEntry} {ps : Int → Bool} (hk : KeysI es ps) : ∀ x, x ∈ es.toList → MapKept.IsKey (.int .i64) x.key := fun x hx => by
  obtain ⟨n, e, _⟩ := hk.key x hx
  rw [e]
  rfl

theorem KeysI.find {es : Array MapEntry} {ps : Int → Bool} (hk : KeysI es ps) (n : Int) : ∃ r : Found, Instr.findNow (.int .i64) (iv n) es.toList 0 = some r ∧
    ((ps n = false ∧ r = none) ∨ (ps n = true ∧ ∃ j e, r = some (j, .bool true) ∧ es.toList[j]? = some e ∧ e.key = iv n)) := by
  rcases MapKept.findNow_spec (d := .int .i64) (k := iv n) rfl es.toList 0 hk.isKey with ⟨h1, h2⟩ | ⟨j, e, h1, h2, h3⟩
  · refine ⟨none, h1, .inl ⟨?_, rfl⟩⟩
    cases hp : ps n with
    | false => rfl
    | true =>
      obtain ⟨x, hx, hxk⟩ := (hk.has n).1 hp
      exact absurd hxk (h2 x hx)
  · have hm := List.mem_of_getElem? h2
    obtain ⟨m, _, hv⟩ := hk.key e hm
    rw [Nat.zero_add, hv] at h1
    exact ⟨_, h1, .inr ⟨(hk.has n).2 ⟨e, hm, h3⟩, j, e, rfl, h2, h3⟩⟩

theorem KeysI.get {es : Array MapEntry} {ps : Int → Bool} (hk : KeysI es ps) (n : Int) : ∃ r : Found, Instr.findNow (.int .i64) (iv n) es.toList 0 = some r ∧ (r.map (·.2)).getD (.bool false) = .bool (ps n) := by
  obtain ⟨r, h, ⟨hp, rfl⟩ | ⟨hp, j, e, rfl, _⟩⟩ := hk.find n
  · exact ⟨_, h, by rw [hp]; rfl⟩
  · exact ⟨_, h, by rw [hp]; rfl⟩

theorem KeysI.put {es : Array MapEntry} {ps : Int → Bool} (hk : KeysI es ps) (n : Int) (c : Nat) : ∃ r : Found, Instr.findNow (.int .i64) (iv n) es.toList 0 = some r ∧ ∃ es' c', putO es c (iv n) (.bool true) r = .map es' c' ∧ KeysI es' (fun m => ps m || m == n) := by
  obtain ⟨r, h, ⟨hp, rfl⟩ | ⟨hp, j, e, rfl, hj, hje⟩⟩ := hk.find n
  · refine ⟨_, h, _, _, rfl, ⟨fun x hx => ?_, ?_, fun m => ?_⟩⟩
    · simp only [Array.toList_push, List.mem_append, List.mem_singleton] at hx
      rcases hx with hx | rfl
      · exact hk.key x hx
      · exact ⟨n, rfl, rfl⟩
    · rw [Array.toList_push, List.pairwise_append]
      refine ⟨hk.apart, List.pairwise_singleton _ _, fun x hx y hy => ?_⟩
      have : y = _ := List.mem_singleton.1 hy
      subst this
      intro he
      have : ps n = true := (hk.has n).2 ⟨x, hx, he⟩
      rw [hp] at this; cases this
    · simp only [Array.toList_push, List.mem_append, List.mem_singleton, Bool.or_eq_true, beq_iff_eq, hk.has m]
      constructor
      · rintro (⟨x, hx, hxk⟩ | rfl)
        · exact ⟨x, .inl hx, hxk⟩
        · exact ⟨_, .inr rfl, rfl⟩
      · rintro ⟨x, hx | rfl, hxk⟩
        · exact .inl ⟨x, hx, hxk⟩
        · exact .inr (by cases hxk; rfl)
  · have hm := List.mem_of_getElem? hj
    obtain ⟨m0, _, hv⟩ := hk.key e hm
    have he : (es.modify j fun x => { x with key := iv n, val := .bool true }) = es := by
      apply Array.ext_getElem?
      intro i
      rw [Array.getElem?_modify]
      by_cases hi : j = i
      · subst hi
        rw [if_pos rfl]
        have : es[j]? = some e := by simpa using hj
        rw [this]
        show some _ = some e
        obtain ⟨k0, v0, b0⟩ := e
        simp only at hje hv
        subst hje hv
        rfl
      · rw [if_neg hi]
    refine ⟨_, h, es, c, by show Obj.map _ _ = _; rw [he], ⟨hk.key, hk.apart, fun m => ?_⟩⟩
    rw [← hk.has m]
    by_cases hmn : m = n
    · subst hmn; simp [hp]
    · simp [hmn]

theorem KeysI.del {es : Array MapEntry} {ps : Int → Bool} (hk : KeysI es ps) (n : Int) (c : Nat) : ∃ r : Found, Instr.findNow (.int .i64) (iv n) es.toList 0 = some r ∧ ∃ es' c', delO es c r = .map es' c' ∧ KeysI es' (fun m => ps m && m != n) := by
  obtain ⟨r, h, ⟨hp, rfl⟩ | ⟨hp, j, e, rfl, hj, hje⟩⟩ := hk.find n
  · refine ⟨_, h, es, c, rfl, ⟨hk.key, hk.apart, fun m => ?_⟩⟩
    rw [← hk.has m]
    by_cases hmn : m = n
    · subst hmn; simp [hp]
    · simp [hmn]
  · have hlt : j < es.toList.length := by
      rcases Nat.lt_or_ge j es.toList.length with h9 | h9
      · exact h9
      · rw [List.getElem?_eq_none h9] at hj; cases hj
    have he : (es.eraseIdxIfInBounds j).toList = es.toList.eraseIdx j := by
      unfold Array.eraseIdxIfInBounds
      rw [dif_pos (by simpa using hlt)]
      simp
    have hs : (es.eraseIdxIfInBounds j).toList.Sublist es.toList := by rw [he]; exact List.eraseIdx_sublist _ _
    refine ⟨_, h, es.eraseIdxIfInBounds j, c, rfl, ⟨fun x hx => hk.key x (hs.subset hx), hk.apart.sublist hs, fun m => ?_⟩⟩
    have hj9 : es.toList[j] = e := by rw [List.getElem?_eq_getElem hlt] at hj; exact Option.some.inj hj
    have hap := List.pairwise_iff_getElem.1 hk.apart
    have mem : ∀ x, x ∈ es.toList.eraseIdx j ↔ x ∈ es.toList ∧ x.key ≠ iv n := fun x => by
      constructor
      · intro hx
        obtain ⟨i, hne, hi⟩ := List.mem_eraseIdx_iff_getElem?.1 hx
        refine ⟨List.mem_of_getElem? hi, fun hxk => ?_⟩
        have hil : i < es.toList.length := by
          rcases Nat.lt_or_ge i es.toList.length with h9 | h9
          · exact h9
          · rw [List.getElem?_eq_none h9] at hi; cases hi
        have hi9 : es.toList[i] = x := by rw [List.getElem?_eq_getElem hil] at hi; exact Option.some.inj hi
        rcases Nat.lt_or_ge i j with h9 | h9
        · exact hap i j hil hlt h9 (by rw [hi9, hj9, hxk, hje])
        · exact hap j i hlt hil (by omega) (by rw [hi9, hj9, hxk, hje])
      · rintro ⟨hx, hxk⟩
        obtain ⟨i, hil, hi⟩ := List.mem_iff_getElem.1 hx
        refine List.mem_eraseIdx_iff_getElem?.2 ⟨i, fun hij => ?_, by rw [List.getElem?_eq_getElem hil, hi]⟩
        subst hij
        rw [hj9] at hi
        subst hi
        exact hxk hje
    rw [he]
    simp only [Bool.and_eq_true, bne_iff_ne, hk.has m]
    constructor
    · rintro ⟨⟨x, hx, hxk⟩, hne⟩
      exact ⟨x, (mem x).2 ⟨hx, fun h9 => hne (by rw [hxk] at h9; cases h9; rfl)⟩, hxk⟩
    · rintro ⟨x, hx, hxk⟩
      obtain ⟨h8, h9⟩ := (mem x).1 hx
      exact ⟨⟨x, h8, hxk⟩, fun he9 => h9 (by rw [hxk, he9])⟩

theorem setMap {h : Heap} {mb : Nat} {x y : Obj} (hb : h[mb]? = some x) : (h.setIfInBounds mb y)[mb]? = some y ∧ Upd (· = mb) h (h.setIfInBounds mb y) ∧ (h.setIfInBounds mb y).size = h.size := by
  have hl := blk_lt hb
  refine ⟨by simp [hl], ⟨by simp, fun k _ hk => ?_⟩, by simp⟩
  rw [Array.getElem?_setIfInBounds_ne (Ne.symm hk)]

theorem PortsR.put {h : Heap} {mb : Nat} {ps : Int → Bool} (hp : PortsR h mb ps) (n : Int) {K : Heap → Prop} (hk : ∀ h', PortsR h' mb (fun m => ps m || m == n) → Upd (· = mb) h h' → h'.size = h.size → K h') : mapPut (.int .i64) h (some mb) (iv n) (.bool true) K := by
  obtain ⟨es, c, hb, hks⟩ := hp
  obtain ⟨r, hr, es', c', ho, hks'⟩ := hks.put n c
  obtain ⟨a, b, d⟩ := setMap (y := putO es c (iv n) (.bool true) r) hb
  exact ⟨mb, es, c, r, rfl, hb, hks.isKey, hr, hk _ ⟨es', c', by rw [a, ho], hks'⟩ b d⟩

theorem PortsR.del {h : Heap} {mb : Nat} {ps : Int → Bool} (hp : PortsR h mb ps) (n : Int) {K : Heap → Prop} (hk : ∀ h', PortsR h' mb (fun m => ps m && m != n) → Upd (· = mb) h h' → h'.size = h.size → K h') : mapDel (.int .i64) h (some mb) (iv n) K := by
  obtain ⟨es, c, hb, hks⟩ := hp
  obtain ⟨r, hr, es', c', ho, hks'⟩ := hks.del n c
  obtain ⟨a, b, d⟩ := setMap (y := delO es c r) hb
  refine ⟨(fun h => by cases h), fun m hm => ?_⟩
  cases hm
  exact ⟨es, c, r, hb, hr, hk _ ⟨es', c', by rw [a, ho], hks'⟩ b d⟩

theorem PortsR.get {h : Heap} {mb : Nat} {ps : Int → Bool} (hp : PortsR h mb ps) (n : Int) {K : Bool → Prop} (hk : K (ps n)) : mapGet (.int .i64) h (some mb) (iv n) fun r => asB (r.getD (.bool false)) K := by
  obtain ⟨es, c, hb, hks⟩ := hp
  obtain ⟨r, hr, hv⟩ := hks.get n
  refine ⟨(fun h => by cases h), fun m hm => ?_⟩
  cases hm
  exact ⟨es, c, r, hb, hr, ps n, hv, hk⟩

theorem PortsR.new (h : Heap) : PortsR (h.push (.map #[] 0)) h.size (fun _ => false) := ⟨#[], 0, push_new, ⟨by simp, by simp, by simp⟩⟩

theorem New_spec {h : Heap} {K : Option Addr → Heap → Prop} (hk : ∀ h' T, Net h' T (h.size + 1) (fun _ => false) [] → Ext h h' → (∀ k, T k ≠ none → h.size ≤ k) → K (some ⟨h.size + 1, 0, none⟩) h') : m_stream_New K h := by
  unfold m_stream_New g_stream_New
  have hp := PortsR.new h
  have e1 := Ext.push h (.map #[] 0)
  have z1 : (h.push (.map #[] 0)).size = h.size + 1 := by simp
  unfold newMap
  dsimp only
  generalize h.push (.map #[] 0) = h1 at hp e1 z1
  refine newK fun h2 c2 e2 z2 => ?_
  rw [z1] at c2 ⊢
  refine hk h2 (fun k => if k = h.size + 1 then some 0 else if k = h.size then some 1 else none) ⟨h.size, ⟨none, 0, 0⟩, [], ⟨c2, by simp, ?_, by simp, Own.nil _ _ 8, fun k hk => by simp [Sl.blk] at hk, fun i q hq => by simp at hq, fun k hk => ?_⟩, rfl⟩ (e1.trans e2) fun k hk => ?_
  · obtain ⟨es, c, hb, hr⟩ := hp
    exact ⟨es, c, keepE hb e2, hr⟩
  · by_cases q1 : k = h.size + 1
    · omega
    · by_cases q2 : k = h.size
      · omega
      · rw [if_neg q1, if_neg q2] at hk; exact absurd rfl hk
  · by_cases q1 : k = h.size + 1
    · omega
    · by_cases q2 : k = h.size
      · omega
      · rw [if_neg q1, if_neg q2] at hk; exact absurd rfl hk

def badP (p : Int) : Bool := decide (p < 1) || decide (p > 65535)

theorem areP1_spec {p : Int} {K : Bool → Heap → Prop} {h : Heap} (hk : K (badP p) h) : m_stream_Net_arePorts_1 p K h := by
  unfold m_stream_Net_arePorts_1 g_stream_Net_arePorts_1
  unfold badP at hk
  refine ⟨fun e => ?_, fun e => bindB_intro ?_⟩
  · rw [e] at hk; exact hk
  · rw [e] at hk; exact hk

theorem IndexP_spec {s : Sl} {l : List Int} {h : Heap} {K : Int → Heap → Prop} (hs : Ints h s l) (h1 : l.any badP = false → K (-1) h) (h2 : ∀ i : Nat, l.any badP = true → K (i : Int) h) : m_slices_IndexFunc_int_int___stream_Net_arePorts_1 s K h := by
  unfold m_slices_IndexFunc_int_int___stream_Net_arePorts_1 g_slices_IndexFunc_int_int___stream_Net_arePorts_1
  have hlen := hs.length
  have hcap := hs.cap
  have hbig := hs.big
  refine bindI_intro (loopM_intro (fun p h' => h' = h ∧ ∃ k : Nat, p.1 = (k : Int) ∧ k ≤ l.length ∧ (l.take k).any badP = false) (fun p _ => l.length - p.1.toNat) ⟨rfl, 0, rfl, Nat.zero_le _, rfl⟩ ?_)
  rintro ⟨i, u⟩ h' ⟨rfl, k, hi, hkl, ht⟩
  dsimp only at hi
  subst hi
  dsimp only
  refine iteP_dec (fun hlt => bindI_intro ?_) (fun hge => bindI_intro ?_)
  · have hk1 : k < l.length := by omega
    have htk : l.take (k + 1) = l.take k ++ [l[k]] := List.take_succ_eq_append_getElem hk1
    refine Ints.idx hs rfl (List.getElem?_eq_getElem hk1) (areP1_spec ⟨fun e => bindI_intro (h2 k ?_), fun e => ?_⟩)
    · exact List.any_eq_true.2 ⟨l[k], List.getElem_mem hk1, e⟩
    · rw [wrap64 (by omega) (by omega)]
      refine ⟨⟨rfl, k + 1, by omega, by omega, ?_⟩, by omega⟩
      rw [htk, List.any_append, ht]
      simpa using e
  · rw [List.take_of_length_le (by omega)] at ht
    exact h1 ht

def portE (l : List Int) : Int := if l.any badP then 2 else 0

theorem areP_spec {nb : Nat} {s : Sl} {l : List Int} {h : Heap} {K : Int → Heap → Prop} (hs : Ints h s l) (hk : K (portE l) h) : m_stream_Net_arePorts (some ⟨nb, 0, none⟩) s K h := by
  unfold m_stream_Net_arePorts g_stream_Net_arePorts
  unfold portE at hk
  refine bindI_intro (bindB_intro (iteP_false ?_))
  unfold m_slices_ContainsFunc_int_int___stream_Net_arePorts_1 g_slices_ContainsFunc_int_int___stream_Net_arePorts_1
  refine IndexP_spec hs (fun e => bindB_intro (bindB_intro (iteP_neg (by decide) (bindI_intro ?_)))) (fun i e => bindB_intro (bindB_intro (iteP_pos (decide_eq_true (by omega)) (bindI_intro ?_))))
  · rw [if_neg (by rw [e]; simp)] at hk; exact hk
  · rw [if_pos e] at hk; exact hk

theorem NetR.ports' {h h' : Heap} {T : Nat → Option Nat} {nb mb : Nat} {s : Sl} {ps ps' : Int → Bool} {qs : List Q} (hn : NetR h T nb mb s ps qs) (hp : PortsR h' mb ps') (hu : Upd (· = mb) h h') : NetR h' T nb mb s ps' qs ∧ Stp T T h h' := by
  have g : ∀ {k t : Nat}, T k = some t → t ≠ 1 → k ≠ mb := fun {k t} hk ht he => by
    subst he
    rw [hn.tm] at hk
    exact ht (Option.some.inj hk).symm
  have mv : ∀ {i' : Nat} {r : Q}, QR h T i' r → QR h' T i' r := fun {i' r} hr => by
    obtain ⟨a1, a2, a3, a4⟩ := hr
    exact ⟨a1.congr fun k hk hl => hu.old k hl (g hk (by omega)), a2.congr fun k hk hl => hu.old k hl (g hk (by omega)), a3.congr fun k hk hl => hu.old k hl (g hk (by omega)), a4.congr fun k hk hl => hu.old k hl (g hk (by omega))⟩
  refine ⟨⟨?_, hn.tn, hp, hn.tm, hn.row.congr fun k hk hl _ => hu.old k hl (g (hn.tr k hk) (by omega)), hn.tr, fun i q hq => mv (hn.each i q hq), fun k hk => Nat.lt_of_lt_of_le (hn.lt k hk) hu.size⟩, ⟨hu.mono fun k _ hk => by subst hk; show T k ≠ none; rw [hn.tm]; simp, fun k hk => .inl hk⟩⟩
  rw [hu.old nb (blk_lt hn.cells) (g hn.tn (by omega))]
  exact hn.cells

def addP (ps : Int → Bool) (l : List Int) : Int → Bool := l.foldl (fun ps n m => ps m || m == n) ps

def delP (ps : Int → Bool) (l : List Int) : Int → Bool := l.foldl (fun ps n m => ps m && m != n) ps

def liP (ps : Int → Bool) (l : List Int) : Int → Bool := if portE l = 0 then addP ps l else ps

def spP (ps : Int → Bool) (l : List Int) : Int → Bool := if portE l = 0 then delP ps l else ps

theorem Listen_spec {h : Heap} {T : Nat → Option Nat} {nb : Nat} {ps : Int → Bool} {cs : List Cn} (hn : Net h T nb ps cs) {s : Sl} {l : List Int} (hs : Ints h s l) (hd : ∀ k, s.blk = some k → T k = none) {K : Int → Heap → Prop}
    (hk : ∀ h', Net h' T nb (liP ps l) cs → Stp T T h h' → K (portE l) h') : m_stream_Net_Listen (some ⟨nb, 0, none⟩) s K h := by
  obtain ⟨mb, sc, qs, hn, rfl⟩ := hn
  unfold m_stream_Net_Listen g_stream_Net_Listen
  unfold liP at hk
  have hlen := hs.length
  have hcap := hs.cap
  have hbig := hs.big
  refine bindI_intro (areP_spec hs (bindI_intro ⟨fun e => bindI_intro ?_, fun e => ?_⟩))
  · rw [if_neg (by simpa using e)] at hk
    exact hk h ⟨mb, sc, qs, hn, rfl⟩ (Stp.refl _ _)
  · have e0 : portE l = 0 := by simpa using e
    rw [if_pos e0, e0] at hk
    refine loopM_intro (fun p h' => ∃ k : Nat, p.1 = (k : Int) ∧ k ≤ l.length ∧ NetR h' T nb mb sc (addP ps (l.take k)) qs ∧ Stp T T h h') (fun p _ => l.length - p.1.toNat) ⟨0, rfl, Nat.zero_le _, hn, Stp.refl _ _⟩ ?_
    rintro ⟨i, u⟩ h' ⟨k, hi, hkl, hn', hst⟩
    dsimp only at hi
    subst hi
    dsimp only
    refine iteP_dec (fun hlt => ?_) (fun hge => bindI_intro ?_)
    · have hk1 : k < l.length := by omega
      have htk : l.take (k + 1) = l.take k ++ [l[k]] := List.take_succ_eq_append_getElem hk1
      have hs' : Ints h' s l := Row.congr hs fun b o hp _ hl => hst.upd.old b hl fun hb => hb (hd b (by simp [Sl.blk, hp]))
      refine Ints.idx hs' rfl (List.getElem?_eq_getElem hk1) (bindI_intro (deref_ ⟨some mb, (cell_block hn'.cells).trans rfl, hn'.ports.put l[k] fun h2 hp2 hu2 z2 => ?_⟩))
      obtain ⟨hn2, hst2⟩ := hn'.ports' hp2 hu2
      rw [wrap64 (by omega) (by omega)]
      refine ⟨⟨k + 1, by omega, by omega, ?_, hst.trans hst2⟩, by omega⟩
      have e : addP ps (l.take (k + 1)) = fun m => addP ps (l.take k) m || m == l[k] := by unfold addP; rw [htk, List.foldl_append]; rfl
      rw [e]
      exact hn2
    · rw [List.take_of_length_le (by omega)] at hn'
      exact hk h' ⟨mb, sc, qs, hn', rfl⟩ hst

def connsF : Nat → List Cn → List Int
  | _, [] => []
  | k, c :: r => if c.brk then connsF (k + 1) r else ((k : Int) + 1) :: connsF (k + 1) r

theorem connsF_snoc (c : Cn) : ∀ (l : List Cn) (k : Nat), connsF k (l ++ [c]) = connsF k l ++ (if c.brk then [] else [((k + l.length : Nat) : Int) + 1])
  | [], k => by
    simp only [List.nil_append, connsF, List.length_nil, Nat.add_zero]
  | d :: l, k => by
    have e : k + 1 + l.length = k + (d :: l).length := by rw [List.length_cons]; omega
    simp only [List.cons_append, connsF, connsF_snoc c l (k + 1), e]
    split <;> rfl

theorem connsF_len : ∀ (l : List Cn) (k : Nat), (connsF k l).length ≤ l.length
  | [], _ => Nat.le_refl _
  | c :: l, k => by
    have := connsF_len l (k + 1)
    simp only [connsF, List.length_cons]
    split
    · omega
    · simp only [List.length_cons]; omega

theorem Conns_spec {h : Heap} {T : Nat → Option Nat} {nb : Nat} {ps : Int → Bool} {cs : List Cn} (hn : Net h T nb ps cs) (hlen : cs.length ≤ 1073741824) {K : Sl → Heap → Prop}
    (hk : ∀ out h', Own h' h.size out 1 ((connsF 0 cs).map iv) → Ext h h' → K out h') : m_stream_Net_Conns (some ⟨nb, 0, none⟩) K h := by
  obtain ⟨mb, s, qs, hn, rfl⟩ := hn
  unfold m_stream_Net_Conns g_stream_Net_Conns
  rw [List.length_map] at hlen
  have hl := hn.length
  refine iteP_false (deref_ (ldLk hn.cells rfl ?_))
  refine loopM_intro (fun p h' => ∃ k : Nat, p.2.1 = (k : Int) ∧ k ≤ qs.length ∧ Ext h h' ∧ Own h' h.size p.1 1 ((connsF 0 ((csOf qs).take k)).map iv)) (fun p _ => qs.length - p.2.1.toNat) ⟨0, rfl, Nat.zero_le _, Ext.refl _, Own.nil _ _ 1⟩ ?_
  rintro ⟨l, i, u⟩ h' ⟨k, hi, hkl, e1, ho⟩
  dsimp only at hi ho
  subst hi
  dsimp only
  have z1 := e1.size
  have hol := ho.len
  have hcl := connsF_len ((csOf qs).take k) 0
  rw [List.length_take] at hcl
  simp only [List.length_map, Nat.mul_one] at hol
  refine iteP_dec (fun hlt => ?_) (fun hge => ?_)
  · have hk1 : k < qs.length := by omega
    have hq : qs[k]? = some qs[k] := List.getElem?_eq_getElem hk1
    have htk : (csOf qs).take (k + 1) = (csOf qs).take k ++ [qs[k].2] := by
      rw [List.take_succ_eq_append_getElem (by simpa using hk1)]
      simp
    generalize qs[k] = q at hq htk
    have hn1 := hn.ext e1
    refine idxQ hn1 hq rfl fun b hb => ?_
    refine ⟨_, hn1.cell hq hb (m := 0) (by omega) rfl, _, hn1.cell hq hb (m := 1) (by omega) rfl, _, hn1.cell hq hb (m := 2) (by omega) rfl, _, hn1.cell hq hb (m := 3) (by omega) rfl, _, hn1.cell hq hb (m := 4) (by omega) rfl,
      _, hn1.cell hq hb (m := 5) (by omega) rfl, _, hn1.cell hq hb (m := 6) (by omega) rfl, _, hn1.cell hq hb (m := 7) (by omega) rfl, ?_⟩
    refine newK fun h14 c14 e14 z14 => bindI_intro (stsAll c14 rfl rfl fun h15 c15 u15 z15 => ldBk c15 rfl ?_)
    have e15 : Ext h h15 := (e1.trans e14).then u15 fun k hk => by omega
    have ho15 : Own h15 h.size l 1 ((connsF 0 ((csOf qs).take k)).map iv) := ho.congr fun k hk hl _ => (u15.old k (by omega) (by omega)).trans (e14.old k hl)
    have hw : IntKind.wrap .i64 ((k : Int) + 1) = (k : Int) + 1 := wrap64 (by omega) (by omega)
    have hl0 : ((csOf qs).take k).length = k := by rw [List.length_take, List.length_map]; omega
    refine ⟨fun hb0 => ?_, fun hb1 => ?_⟩
    · have hb0' : q.2.brk = false := by simpa using hb0
      refine newK fun h18 c18 e18 z18 => ?_
      have hrow : Row h18 ⟨some ⟨h15.size, 0, none⟩, 1, 1⟩ 1 [iv (IntKind.wrap .i64 ((k : Int) + 1))] := ⟨rfl, Nat.le_refl _, (show 1 < 9223372036854775808 by decide), .inr ⟨h15.size, 0, rfl, has_block c18 fun i v hi => by simpa using hi⟩⟩
      refine hrow.rd ?_
      have ho18 := ho15.congr (h' := h18) fun k _ hl _ => e18.old k hl
      refine Own.app ho18 rfl rfl rfl (by omega) (by omega) (by omega) fun s' h20 ho' hl' hu _ => ?_
      rw [hw] at ho' ⊢
      refine ⟨⟨k + 1, by omega, by omega, (e15.trans e18).then hu fun k hk => (ho15.lt hk).1, ?_⟩, by omega⟩
      rw [htk, connsF_snoc, hb0', hl0, Nat.zero_add, if_neg (by simp), List.map_append]
      exact ho'
    · have hb1' : q.2.brk = true := by simpa using hb1
      rw [hw]
      refine ⟨⟨k + 1, by omega, by omega, e15, ?_⟩, by omega⟩
      rw [htk, connsF_snoc, hb1', if_pos rfl, List.append_nil]
      exact ho15
  · rw [List.take_of_length_le (by rw [List.length_map]; omega)] at ho
    exact hk l h' ho e1

def newC_ (port : Int) : Cn := ⟨⟨[], [], false⟩, ⟨[], [], false⟩, port, false⟩

def diS (ps : Int → Bool) (cs : List Cn) (port : Int) : (Int × Int) × List Cn :=
  if badP port then ((0, 2), cs) else if ps port = false then ((0, 51), cs) else if (connsF 0 cs).length ≥ 64 then ((0, 3), cs) else (((cs.length : Int) + 1, 0), cs ++ [newC_ port])

theorem NetR.grow {h h1 : Heap} {T : Nat → Option Nat} {nb mb : Nat} {s s' : Sl} {ps : Int → Bool} {qs : List Q} (hn : NetR h T nb mb s ps qs) {q : Q} (ho : Own h1 0 s' 8 ((qs ++ [q]).flatMap qC)) (hu : Upd (fun k => s.blk = some k) h h1)
    (hnew : s'.blk = s.blk ∨ ∀ k, s'.blk = some k → h.size ≤ k) (hq : QR h T qs.length q) {K : Heap → Prop} (hfin : ∀ h2 T', NetR h2 T' nb mb s' ps (qs ++ [q]) → Stp T T' h h2 → K h2) : st h1 nb 1 (slV s') K := by
  have hT0 : ∀ k, h.size ≤ k → T k = none := fun k hk => by
    rcases hT : T k with _ | t
    · rfl
    · have := hn.lt k (by rw [hT]; simp); omega
  have hu' : Upd (fun k => T k = some 2) h h1 := hu.mono fun k _ hk => hn.tr k hk
  have hnbl := blk_lt hn.cells
  have hc1 : h1[nb]? = some (.cells #[.map (some mb), slV s] 67 (0, 0)) := by
    rw [hu'.old nb hnbl (by rw [hn.tn]; simp)]; exact hn.cells
  have z1 := hu.size
  refine put2 hc1 (by simp) rfl fun h2 c2 u2 z2 => ?_
  have hnew' : ∀ k, s'.blk = some k → T k = some 2 ∨ h.size ≤ k := fun k hk => by
    rcases hnew with e | e
    · rw [e] at hk; exact .inl (hn.tr k hk)
    · exact .inr (e k hk)
  have hT' : ∀ k, T k ≠ none → (if s'.blk = some k then some 2 else T k) = T k := fun k hk => by
    split
    · rename_i hx1
      rcases hnew' k hx1 with h9 | h9
      · exact h9.symm
      · exact absurd (hT0 k h9) hk
    · rfl
  have old : ∀ k t, T k = some t → t ≠ 0 → t ≠ 2 → k < h.size → h2[k]? = h[k]? := fun k t hk h0 h9 hl =>
    (u2.old k (by omega) (by rintro rfl; rw [hn.tn] at hk; exact h0 (Option.some.inj hk).symm)).trans (hu'.old k hl (by rw [hk]; simp only [Option.some.injEq]; exact h9))
  have mv : ∀ {y : Sl} {tag : Nat} {m : List UInt8}, RowT h T y tag m → 2 < tag → RowT h2 (fun k => if s'.blk = some k then some 2 else T k) y tag m := fun {y tag m} hy h9 =>
    (hy.congr fun k hk hl => old k tag hk (by omega) (by omega) hl).tags hT'
  refine hfin h2 (fun k => if s'.blk = some k then some 2 else T k) ⟨c2, by show (if _ then _ else _) = _; rw [hT' nb (by rw [hn.tn]; simp)]; exact hn.tn, ?_, by show (if _ then _ else _) = _; rw [hT' mb (by rw [hn.tm]; simp)]; exact hn.tm,
    ho.congr fun k hk hl _ => u2.old k hl ?_, fun k hk => by simp only [hk, if_true], fun i r hr => ?_, fun k hk => ?_⟩ ⟨?_, fun k hk => ?_⟩
  · obtain ⟨es, cl, hp, hr⟩ := hn.ports
    exact ⟨es, cl, by rw [old mb 1 hn.tm (by decide) (by decide) (blk_lt hp)]; exact hp, hr⟩
  · rintro rfl
    rcases hnew' _ hk with h9 | h9
    · rw [hn.tn] at h9; cases h9
    · omega
  · rcases Nat.lt_or_ge i qs.length with hi | hi
    · rw [List.getElem?_append_left hi] at hr
      obtain ⟨a1, a2, a3, a4⟩ := hn.each i r hr
      exact ⟨mv a1 (by omega), mv a2 (by omega), mv a3 (by omega), mv a4 (by omega)⟩
    · rw [List.getElem?_append_right hi] at hr
      have : i - qs.length = 0 := by
        rcases Nat.eq_zero_or_pos (i - qs.length) with h9 | h9
        · exact h9
        · rw [List.getElem?_eq_none (by simp; omega)] at hr; cases hr
      have hi' : i = qs.length := by omega
      subst hi'
      simp at hr
      subst hr
      obtain ⟨a1, a2, a3, a4⟩ := hq
      exact ⟨mv a1 (by omega), mv a2 (by omega), mv a3 (by omega), mv a4 (by omega)⟩
  · by_cases hx1 : s'.blk = some k
    · have := (ho.lt hx1).2; omega
    · simp only [hx1, if_false] at hk
      have := hn.lt k hk; omega
  · exact Upd.then (hu'.mono fun k _ hk => by show T k ≠ none; rw [hk]; simp) u2 fun k _ hk => by subst hk; show T k ≠ none; rw [hn.tn]; simp
  · by_cases hx1 : s'.blk = some k
    · rcases hnew' k hx1 with h9 | h9
      · exact .inl (by rw [h9]; simp)
      · exact .inr h9
    · simp only [hx1, if_false] at hk
      exact .inl hk

def nilRw : Rw := ⟨⟨none, 0, 0⟩, ⟨none, 0, 0⟩, ⟨none, 0, 0⟩, ⟨none, 0, 0⟩⟩

theorem nil_row (h : Heap) (T : Nat → Option Nat) (tag : Nat) : RowT h T ⟨none, 0, 0⟩ tag [] := ⟨Own.nil _ _ 1, fun k hk => by simp [Sl.blk] at hk⟩

theorem nil_q (h : Heap) (T : Nat → Option Nat) (i : Nat) (p : Int) (b : Bool) : QR h T i (nilRw, ⟨⟨[], [], false⟩, ⟨[], [], false⟩, p, b⟩) := ⟨nil_row _ _ _, nil_row _ _ _, nil_row _ _ _, nil_row _ _ _⟩

theorem Dial_spec {h : Heap} {T : Nat → Option Nat} {nb : Nat} {ps : Int → Bool} {cs : List Cn} (hn : Net h T nb ps cs) (hlen : cs.length ≤ 1073741824) {port : Int} {K : Int → Int → Heap → Prop}
    (hk : ∀ h' T', Net h' T' nb ps (diS ps cs port).2 → Stp T T' h h' → K (diS ps cs port).1.1 (diS ps cs port).1.2 h') : m_stream_Net_Dial (some ⟨nb, 0, none⟩) port K h := by
  unfold m_stream_Net_Dial g_stream_Net_Dial
  unfold diS at hk
  refine bindI_intro (bindI_intro (newK fun h2 c2 e2 z2 => ?_))
  have hrow : Ints h2 ⟨some ⟨h.size, 0, none⟩, 1, 1⟩ [port] := ⟨rfl, Nat.le_refl _, (show 1 < 9223372036854775808 by decide), .inr ⟨h.size, 0, rfl, has_block c2 fun i v hi => by simpa using hi⟩⟩
  have hn2 := hn.ext e2
  have st0 : Stp T T h h2 := ⟨e2.upd _, fun k hk => .inl hk⟩
  refine areP_spec hrow (bindI_intro ?_)
  have hpe : portE [port] = if badP port then 2 else 0 := by
    unfold portE
    simp
  rw [hpe]
  cases hbad : badP port with
  | true =>
    rw [hbad, if_pos rfl] at hk
    exact iteP_true (bindI_intro (bindI_intro (hk h2 T hn2 st0)))
  | false =>
    rw [hbad, if_neg (by simp)] at hk
    refine iteP_false ?_
    have hn2' := hn2
    obtain ⟨mb, s, qs, hnr, rfl⟩ := hn2'
    refine deref_ ⟨some mb, (cell_block hnr.cells).trans rfl, hnr.ports.get port (bindB_intro ?_)⟩
    cases hps : ps port with
    | false =>
      rw [hps, if_pos rfl] at hk
      exact iteP_true (bindI_intro (bindI_intro (hk h2 T hn2 st0)))
    | true =>
      rw [hps, if_neg (by simp)] at hk
      refine iteP_false (Conns_spec hn2 hlen fun out h14 ho14 e14 => bindB_intro ?_)
      have hol : out.len = (connsF 0 (qs.map (·.2))).length := Ints.length ho14.row
      have st14 : Stp T T h h14 := ⟨(e2.trans e14).upd _, fun k hk => .inl hk⟩
      rw [hol]
      refine iteP_dec (fun hfull => bindI_intro (bindI_intro ?_)) (fun hok => ?_)
      · rw [if_pos (by omega)] at hk
        exact hk h14 T (hn2.ext e14) st14
      · rw [if_neg (by omega)] at hk
        have hnr14 := hnr.ext e14
        refine deref_ (ldLk hnr14.cells rfl (newK fun h22 c22 e22 z22 => ?_))
        have hrow22 : Row h22 ⟨some ⟨h14.size, 0, none⟩, 1, 1⟩ 8 (qC (nilRw, newC_ port)) := ⟨rfl, Nat.le_refl _, (show 1 < 9223372036854775808 by decide), .inr ⟨h14.size, 0, rfl, has_block c22 fun i v hi => by simpa [qC, nilRw, newC_, slV] using hi⟩⟩
        refine hrow22.rd ?_
        have hnr22 := hnr14.ext e22
        have hsl := hnr.length
        rw [List.length_map] at hlen
        refine Own.app hnr22.row rfl rfl rfl (by omega) (by omega) (Nat.zero_le _) fun s' h24 ho' hl' hu hblk => deref_ ?_
        have e : qs.flatMap qC ++ qC (nilRw, newC_ port) = (qs ++ [(nilRw, newC_ port)]).flatMap qC := by simp
        rw [e] at ho'
        refine hnr22.grow ho' hu (hblk.imp id fun h9 k hk => by rw [h9] at hk; exact Nat.le_of_eq (Option.some.inj hk)) (nil_q _ _ _ _ _) fun h27 T' hn27 st27 => ?_
        refine deref_ (ldLk hn27.cells rfl (bindI_intro (bindI_intro ?_)))
        have hl27 := hn27.length
        rw [List.length_append, List.length_singleton] at hl27
        have := hk h27 T' ⟨mb, s', _, hn27, by simp [newC_]⟩ ((st14.trans ⟨e22.upd _, fun k hk => .inl hk⟩).trans st27)
        rw [List.length_map] at this
        rw [hl27]
        exact this

def brC (c : Cn) : Cn := ⟨⟨[], [], false⟩, ⟨[], [], false⟩, c.port, true⟩

def brF (cs : List Cn) : List Int → (Int → Bool) → Bool → Option Bool
  | [], _, d => some d
  | k :: r, seen, d => if errS cs k 0 0 = 4 then none else brF cs r (fun m => seen m || m == k) (d || (errS cs k 0 0 != 0 || seen k))

def brA (cs : List Cn) : List Int → List Cn
  | [] => cs
  | k :: r => brA (match cs[(k - 1).toNat]? with
    | some c => cs.set (k - 1).toNat (brC c)
    | none => cs) r

def brS (cs : List Cn) (l : List Int) : Int × List Cn := match brF cs l (fun _ => false) false with
  | none => (4, cs)
  | some true => (51, cs)
  | some false => (0, brA cs l)

theorem errS_in {cs : List Cn} {k : Int} (h : errS cs k 0 0 ≠ 4) : 1 ≤ k ∧ k ≤ cs.length := by
  unfold errS at h
  split at h
  · exact absurd rfl h
  · split at h
    · exact absurd rfl h
    · omega

theorem brF_in {cs : List Cn} : ∀ {l : List Int} {seen : Int → Bool} {d b : Bool}, brF cs l seen d = some b → ∀ k, k ∈ l → 1 ≤ k ∧ k ≤ cs.length
  | [], _, _, _, _, k, hk => by cases hk
  | x :: r, seen, d, b, h, k, hk => by
    unfold brF at h
    split at h
    · cases h
    · rename_i hx
      rcases List.mem_cons.1 hk with rfl | hk
      · exact errS_in hx
      · exact brF_in h k hk

theorem NetR.setConn {h : Heap} {T : Nat → Option Nat} {nb mb : Nat} {s : Sl} {ps : Int → Bool} {qs : List Q} (hn : NetR h T nb mb s ps qs) {i : Nat} {q : Q} (hq : qs[i]? = some q) {b : Nat} (hb : s.blk = some b) {K : Heap → Prop}
    (hfin : ∀ h2, NetR h2 T nb mb s ps (qs.set i (nilRw, brC q.2)) → Stp T T h h2 → K h2) : sts h b (i * 8) (qC (nilRw, brC q.2)) K := by
  have hlt : i < qs.length := by
    rcases Nat.lt_or_ge i qs.length with h9 | h9
    · exact h9
    · rw [List.getElem?_eq_none h9] at hq; cases hq
  have hn0 := hn
  have hrow := hn.row
  have hlen := hrow.len
  have hfl := flat_len qC_len qs
  rcases hrow.at_ with ⟨hp, _⟩ | ⟨b', c, e, hp, hbb, hc, hcs, hvs⟩
  · simp [Sl.blk, hp] at hb
  · simp [Sl.blk, hp] at hb
    subst hb
    have hcap := hrow.cap
    have hfit : i * 8 + (qC (nilRw, brC q.2)).length ≤ c.size := by
      rw [hcs, qC_len]
      omega
    obtain ⟨c', hc', hl'⟩ := puts_block (vs := qC (nilRw, brC q.2)) (o := i * 8) hc hfit
    have hflat : ∀ (l : List Q) (i : Nat) (r : Q), i < l.length → (l.set i r).flatMap qC = (l.flatMap qC).take (i * 8) ++ qC r ++ (l.flatMap qC).drop (i * 8 + 8) := by
      intro l
      induction l with
      | nil => intro i r h; simp at h
      | cons x l ih =>
        intro i r h
        cases i with
        | zero => simp [qC_len, List.drop_append]
        | succ i =>
          rw [List.set_cons_succ, List.flatMap_cons, ih i r (by simpa using h), List.flatMap_cons]
          have e1 : (i + 1) * 8 = (qC x).length + i * 8 := by rw [qC_len]; omega
          have e2 : (i + 1) * 8 + 8 = (qC x).length + (i * 8 + 8) := by rw [qC_len]; omega
          rw [e2, e1, List.take_length_add_append, List.drop_length_add_append]
          simp [List.append_assoc]
    refine ⟨free_block hc hfit, rfl, ?_⟩
    have hT : T b' = some 2 := hn.tr b' (by simp [Sl.blk, hp])
    have u : Upd (· = b') h (h.puts b' (i * 8) (qC (nilRw, brC q.2))) := Upd.puts h b' (i * 8) _
    have old : ∀ k t, T k = some t → t ≠ 2 → k < h.size → (h.puts b' (i * 8) (qC (nilRw, brC q.2)))[k]? = h[k]? := fun k t hk ht hl => u.old k hl (by rintro rfl; rw [hT] at hk; exact ht (Option.some.inj hk).symm)
    have mv : ∀ {i' : Nat} {r : Q}, QR h T i' r → QR (h.puts b' (i * 8) (qC (nilRw, brC q.2))) T i' r := fun {i' r} hr => by
      obtain ⟨a1, a2, a3, a4⟩ := hr
      exact ⟨a1.congr fun k hk hl => old k _ hk (by omega) hl, a2.congr fun k hk hl => old k _ hk (by omega) hl, a3.congr fun k hk hl => old k _ hk (by omega) hl, a4.congr fun k hk hl => old k _ hk (by omega) hl⟩
    refine hfin _ ⟨?_, hn.tn, ?_, hn.tm, ⟨?_, hrow.cap, hrow.big, .inr ⟨b', c', e, hp, hbb, hc', ?_, ?_⟩⟩, hn.tr, fun i' r hr => ?_, fun k hk => by rw [puts_size]; exact hn.lt k hk⟩ ⟨u.mono fun k _ hk => by subst hk; show T k ≠ none; rw [hT]; simp, fun k hk => .inl hk⟩
    · rw [old nb 0 hn.tn (by decide) (blk_lt hn.cells)]; exact hn.cells
    · obtain ⟨es, cl, hp, hr⟩ := hn.ports
      exact ⟨es, cl, by rw [old mb 1 hn.tm (by decide) (blk_lt hp)]; exact hp, hr⟩
    · rw [flat_len qC_len, List.length_set, ← hfl]; exact hlen
    · have := congrArg List.length hl'
      simp only [List.length_append, List.length_take, List.length_drop, Array.length_toList, qC_len] at this
      rw [qC_len] at hfit
      omega
    · rw [hl', hflat qs i _ hlt, hvs, qC_len]
      have hsl : s.len * 8 = qs.length * 8 := by omega
      have hA : i * 8 + 8 ≤ s.len * 8 := by omega
      have hcl : s.len * 8 ≤ c.toList.length := by rw [Array.length_toList, hcs]; omega
      have hlA : (c.toList.take (i * 8) ++ qC (nilRw, brC q.2)).length = i * 8 + 8 := by rw [List.length_append, List.length_take, qC_len]; omega
      rw [List.take_take, Nat.min_eq_left (by omega), List.drop_take, List.take_append, List.take_of_length_le (Nat.le_trans (Nat.le_of_eq hlA) hA), hlA]
    · by_cases hii : i' = i
      · subst hii
        rw [List.getElem?_set_self hlt] at hr
        cases hr
        exact nil_q _ _ _ _ _
      · rw [List.getElem?_set_ne (Ne.symm hii)] at hr
        exact mv (hn.each i' r hr)

theorem at_any {h : Heap} {T : Nat → Option Nat} {nb mb : Nat} {s : Sl} {ps : Int → Bool} {qs : List Q} (hn : NetR h T nb mb s ps qs) {k e most : Int} {K : Option Addr → Int → Heap → Prop}
    (hk : ∀ p, K p (errS (csOf qs) k e most) h) : m_stream_Net_at (some ⟨nb, 0, none⟩) k e most K h :=
  at_spec hn (fun _ => hk none) fun i j q b he _ _ _ _ _ _ => by rw [he] at hk; exact hk _

def lkS (cs : List Cn) (k e : Int) : Int × Int × Int := if errS cs k e 0 ≠ 0 then (0, 0, errS cs k e 0) else match cs[(k - 1).toNat]? with
  | none => (0, 0, 0)
  | some c => (((c.side e.toNat).way.length : Int), ((c.side (1 - e.toNat)).come.length : Int), 0)

theorem Look_spec {h : Heap} {T : Nat → Option Nat} {nb : Nat} {ps : Int → Bool} {cs : List Cn} (hn : Net h T nb ps cs) {k e : Int} {K : Int → Int → Int → Heap → Prop} (hk : K (lkS cs k e).1 (lkS cs k e).2.1 (lkS cs k e).2.2 h) : m_stream_Net_Look (some ⟨nb, 0, none⟩) k e K h := by
  obtain ⟨mb, s, qs, hn, rfl⟩ := hn
  unfold m_stream_Net_Look g_stream_Net_Look
  unfold lkS at hk
  refine bindI_intro (bindI_intro (bindI_intro (at_spec hn (fun he => bindI_intro (iteP_pos (by simpa using he) (bindI_intro (bindI_intro (bindI_intro ?_))))) (fun i j q b' he hk' hj hj2 hm0 hq hb' => bindI_intro (iteP_neg rfl ?_)))))
  · rw [if_pos he] at hk; exact hk
  · rw [if_neg (by rw [he]; simp)] at hk
    have ei : (k - 1).toNat = i := by omega
    have ej : e.toNat = j := by omega
    rw [ei, ej] at hk
    have hcs : (qs.map (·.2))[i]? = some q.2 := by rw [List.getElem?_map, hq]; rfl
    rw [hcs] at hk
    dsimp only at hk
    have hj3 : 1 - j < 2 := by omega
    have hwr : IntKind.wrap .i64 ((1 : Int) - e) = ((1 - j : Nat) : Int) := by rw [wrap64 (by omega) (by omega)]; omega
    have l0 := Bytes.length ((hn.each i q hq).get hj2 (c := 0) (by omega)).own.row
    have l1 := Bytes.length ((hn.each i q hq).get hj3 (c := 1) (by omega)).own.row
    refine deref_ (idxN_ hj hj2 ⟨_, hn.cell hq hb' (m := j * 3 + 0) (by omega) (qC_get q hj2 (by omega : 0 < 2)), deref_ (idxN_ hwr hj3 ⟨_, by rw [Nat.add_assoc]; exact hn.cell hq hb' (m := (1 - j) * 3 + 1) (by omega) (qC_get q hj3 (by omega : 1 < 2)), bindI_intro (bindI_intro (bindI_intro ?_))⟩)⟩)
    rw [l0, l1]
    exact hk

def ptS (cs : List Cn) (k : Int) : Int := if k < 1 then 0 else if k > (cs.length : Int) then 0 else match cs[(k - 1).toNat]? with
  | some c => c.port
  | none => 0

theorem one_row {h h' : Heap} {n : Int} (c : h'[h.size]? = some (.cells #[iv n] 3 (0, 0))) : Ints h' ⟨some ⟨h.size, 0, none⟩, 1, 1⟩ [n] :=
  ⟨rfl, Nat.le_refl _, (show 1 < 9223372036854775808 by decide), .inr ⟨h.size, 0, rfl, has_block c fun i v hi => by simpa using hi⟩⟩

theorem Net.lt {h : Heap} {T : Nat → Option Nat} {nb : Nat} {ps : Int → Bool} {cs : List Cn} (hn : Net h T nb ps cs) : ∀ k, T k ≠ none → k < h.size := by
  obtain ⟨mb, s, qs, hn, _⟩ := hn
  exact hn.lt

theorem side_put (c : Cn) {j i : Nat} (hj : j < 2) (hi : i < 2) (s : Side) : (c.putS j s).side i = if i = j then s else c.side i := by
  rcases two j hj with rfl | rfl <;> rcases two i hi with rfl | rfl <;> rfl

theorem brk_put (c : Cn) (j : Nat) (s : Side) : (c.putS j s).brk = c.brk := by
  unfold Cn.putS
  split <;> rfl

theorem errA {A B : Cn} (hA : A.brk = false) {j : Nat} (hj : j < 2) (most : Int) : errS [A, B] 1 (j : Int) most = if most < 0 then 2 else 0 := by
  unfold errS
  rw [if_neg (by decide), if_neg (by simp), if_neg (by omega), if_neg (by omega)]
  split
  · rfl
  · show (if A.brk then (51 : Int) else 0) = 0
    rw [hA]
    rfl

theorem wr_a {A B : Cn} (hA : A.brk = false) {j : Nat} (hj : j < 2) (hx : (A.side j).x = false) (l : List UInt8) :
    wrS [A, B] 1 (j : Int) l = if (A.side j).way.length + l.length > 65536 then (3, [A, B]) else (0, [A.putS j ((A.side j).put 0 ((A.side j).way ++ l)), B]) := by
  have e := errA (B := B) hA hj 0
  rw [if_neg (by decide)] at e
  unfold wrS
  rw [if_neg (by rw [e]; simp)]
  show wrI [A, B] 0 (j : Int).toNat l = _
  rw [Int.toNat_natCast]
  unfold wrI
  show (if (A.side j).x then _ else _) = _
  rw [if_neg (by rw [hx]; simp)]
  rfl

theorem mv_a {A B : Cn} (hA : A.brk = false) {j : Nat} (hj : j < 2) (most : Int) :
    mvS [A, B] 1 (j : Int) most = if most < 0 then ((0, 2), [A, B]) else ((((min most.toNat (A.side j).way.length : Nat) : Int), 0), [A.putS j ⟨(A.side j).way.drop (min most.toNat (A.side j).way.length), (A.side j).come ++ (A.side j).way.take (min most.toNat (A.side j).way.length), (A.side j).x⟩, B]) := by
  have e := errA (B := B) hA hj most
  unfold mvS
  rw [e]
  by_cases hm : most < 0
  · rw [if_pos hm, if_pos hm, if_pos (by decide)]
  · rw [if_neg hm, if_neg hm, if_neg (by simp)]
    show mvI [A, B] 0 (j : Int).toNat most.toNat = _
    rw [Int.toNat_natCast]
    rfl

theorem rd_a {A B : Cn} (hA : A.brk = false) {j : Nat} (hj : j < 2) (most : Int) :
    rdS_ [A, B] 1 (j : Int) most = if most < 0 then (([], false, 2), [A, B]) else (((A.side (1 - j)).come.take (min most.toNat (A.side (1 - j)).come.length), ((A.side (1 - j)).x && ((A.side (1 - j)).way.length == 0 && ((A.side (1 - j)).come.drop (min most.toNat (A.side (1 - j)).come.length)).length == 0)), 0),
      [A.putS (1 - j) ⟨(A.side (1 - j)).way, (A.side (1 - j)).come.drop (min most.toNat (A.side (1 - j)).come.length), (A.side (1 - j)).x⟩, B]) := by
  have e := errA (B := B) hA hj most
  unfold rdS_
  rw [e]
  by_cases hm : most < 0
  · rw [if_pos hm, if_pos hm, if_pos (by decide)]
  · rw [if_neg hm, if_neg hm, if_neg (by simp)]
    show rdI [A, B] 0 (1 - (j : Int).toNat) most.toNat = _
    rw [Int.toNat_natCast]
    rfl

theorem sh_a {A B : Cn} (hA : A.brk = false) {j : Nat} (hj : j < 2) (hx : (A.side j).x = false) : shS [A, B] 1 (j : Int) = (0, [A.putS j { A.side j with x := true }, B]) := by
  have e := errA (B := B) hA hj 0
  rw [if_neg (by decide)] at e
  unfold shS
  rw [if_neg (by rw [e]; simp)]
  show shI [A, B] 0 (j : Int).toNat = _
  rw [Int.toNat_natCast]
  unfold shI
  show (if (A.side j).x then _ else _) = _
  rw [if_neg (by rw [hx]; simp)]
  rfl

theorem wr_b {A B : Cn} {j : Nat} (hj : j < 2) (l : List UInt8) (hw : ∀ i, i < 2 → (B.side i).way.length ≤ 65536) : ∃ B', (wrS [A, B] 2 (j : Int) l).2 = [A, B'] ∧ ∀ i, i < 2 → (B'.side i).way.length ≤ 65536 ∧ (B'.side i).come.length = (B.side i).come.length := by
  unfold wrS
  split
  · exact ⟨B, rfl, fun i hi => ⟨hw i hi, rfl⟩⟩
  · show ∃ B', (wrI [A, B] 1 (j : Int).toNat l).2 = [A, B'] ∧ _
    rw [Int.toNat_natCast]
    unfold wrI
    show ∃ B', (if (B.side j).x then ((51 : Int), [A, B]) else if (B.side j).way.length + l.length > 65536 then (3, [A, B]) else (0, [A, B.putS j ((B.side j).put 0 ((B.side j).way ++ l))])).2 = [A, B'] ∧ _
    split
    · exact ⟨B, rfl, fun i hi => ⟨hw i hi, rfl⟩⟩
    · split
      · exact ⟨B, rfl, fun i hi => ⟨hw i hi, rfl⟩⟩
      · rename_i h1
        refine ⟨_, rfl, fun i hi => ?_⟩
        rw [side_put B hj hi]
        split
        · rename_i hij
          subst hij
          refine ⟨?_, rfl⟩
          show ((B.side i).way ++ l).length ≤ _
          rw [List.length_append]
          omega
        · exact ⟨hw i hi, rfl⟩

theorem mv_b {A B : Cn} {j : Nat} (hj : j < 2) (hw : ∀ i, i < 2 → (B.side i).way.length ≤ 65536) : ∃ B', (mvS [A, B] 2 (j : Int) 3).2 = [A, B'] ∧ ∀ i, i < 2 → (B'.side i).way.length ≤ 65536 ∧ (B'.side i).come.length ≤ (B.side i).come.length + 65536 := by
  unfold mvS
  split
  · exact ⟨B, rfl, fun i hi => ⟨hw i hi, by omega⟩⟩
  · show ∃ B', (mvI [A, B] 1 (j : Int).toNat 3).2 = [A, B'] ∧ _
    rw [Int.toNat_natCast]
    refine ⟨_, rfl, fun i hi => ?_⟩
    rw [side_put B hj hi]
    split
    · rename_i hij
      subst hij
      have := hw i hi
      refine ⟨?_, ?_⟩
      · show ((B.side i).way.drop _).length ≤ _
        rw [List.length_drop]; omega
      · show ((B.side i).come ++ (B.side i).way.take _).length ≤ _
        rw [List.length_append, List.length_take]; omega
    · exact ⟨hw i hi, by omega⟩

structure LawsO (A B : Cn) (w r : Nat → List UInt8) (m : Nat → Int) (n k0 : Nat) : Prop where
  brk : A.brk = false
  law : ∀ e, e < 2 → k0 ≤ e → (A.side e).x = false ∧ w e = r e ++ ((A.side e).come ++ (A.side e).way) ∧ m e = (((r e).length + (A.side e).come.length : Nat) : Int)
  bnd : ∀ e, e < 2 → (A.side e).way.length ≤ 65536 ∧ (A.side e).come.length ≤ 65536 * n ∧ (B.side e).way.length ≤ 65536 ∧ (B.side e).come.length ≤ 65536 * n ∧ (w e).length ≤ 65536 * n ∧ (r e).length ≤ 65536 * n

theorem LawsO.hw {A B : Cn} {w r : Nat → List UInt8} {m : Nat → Int} {n k0 : Nat} (hL : LawsO A B w r m n k0) (hn : n ≤ 1048580) : ∀ c j, c ∈ [A, B] → j < 2 → (c.side j).way.length ≤ 65536 ∧ (c.side j).come.length ≤ 1099511627776 := fun c j hc hj => by
  have := hL.bnd j hj
  rcases List.mem_cons.1 hc with rfl | hc
  · omega
  · have : c = B := List.mem_singleton.1 hc
    subst this
    omega

theorem LawsO.mono {A B : Cn} {w r : Nat → List UInt8} {m : Nat → Int} {n n' k0 : Nat} (hL : LawsO A B w r m n k0) (hn : n ≤ n') : LawsO A B w r m n' k0 :=
  ⟨hL.brk, hL.law, fun e he => by have := hL.bnd e he; omega⟩

/-- another connection plays no part -/
theorem LawsO.other {A B B' : Cn} {w r : Nat → List UInt8} {m : Nat → Int} {n k0 : Nat} (hL : LawsO A B w r m n k0) (hB : ∀ i, i < 2 → (B'.side i).way.length ≤ 65536 ∧ (B'.side i).come.length ≤ 65536 * n) : LawsO A B' w r m n k0 :=
  ⟨hL.brk, hL.law, fun e he => by have := hL.bnd e he; have := hB e he; omega⟩

theorem LawsO.write {A B : Cn} {w r : Nat → List UInt8} {m : Nat → Int} {n : Nat} (hL : LawsO A B w r m n 0) {j : Nat} (hj : j < 2) {l : List UInt8} (hf : ¬ (A.side j).way.length + l.length > 65536) :
    LawsO (A.putS j ((A.side j).put 0 ((A.side j).way ++ l))) B (fun i => if i = j then w j ++ l else w i) r m (n + 1) 0 := by
  refine ⟨by rw [brk_put]; exact hL.brk, fun e he _ => ?_, fun e he => ?_⟩
  · have h1 := hL.law e he (Nat.zero_le _)
    rw [side_put A hj he]
    by_cases hij : e = j
    · subst hij
      simp only [if_true]
      refine ⟨h1.1, ?_, h1.2.2⟩
      show w e ++ l = r e ++ ((A.side e).come ++ ((A.side e).way ++ l))
      rw [h1.2.1]
      simp only [List.append_assoc]
    · simp only [hij, if_false]; exact h1
  · have h1 := hL.bnd e he
    rw [side_put A hj he]
    by_cases hij : e = j
    · subst hij
      simp only [if_true]
      have e1 : ((A.side e).put 0 ((A.side e).way ++ l)).way = (A.side e).way ++ l := rfl
      have e2 : ((A.side e).put 0 ((A.side e).way ++ l)).come = (A.side e).come := rfl
      rw [e1, e2, List.length_append, List.length_append]
      omega
    · simp only [hij, if_false]; omega

theorem LawsO.move {A B : Cn} {w r : Nat → List UInt8} {m : Nat → Int} {n k0 : Nat} (hL : LawsO A B w r m n k0) {j : Nat} (hj : j < 2) (q : Nat) (hq : q ≤ (A.side j).way.length) :
    LawsO (A.putS j ⟨(A.side j).way.drop q, (A.side j).come ++ (A.side j).way.take q, (A.side j).x⟩) B w r (fun i => if i = j then m j + (q : Int) else m i) (n + 1) k0 := by
  refine ⟨by rw [brk_put]; exact hL.brk, fun e he hk => ?_, fun e he => ?_⟩
  · have h1 := hL.law e he hk
    rw [side_put A hj he]
    by_cases hij : e = j
    · subst hij
      simp only [if_true]
      refine ⟨h1.1, ?_, ?_⟩
      · rw [h1.2.1, List.append_assoc (A.side e).come, List.take_append_drop]
      · rw [h1.2.2, List.length_append, List.length_take]; omega
    · simp only [hij, if_false]; exact h1
  · have h1 := hL.bnd e he
    rw [side_put A hj he]
    by_cases hij : e = j
    · subst hij
      simp only [if_true]
      rw [List.length_append, List.length_take, List.length_drop]
      omega
    · simp only [hij, if_false]; omega

theorem LawsO.read {A B : Cn} {w r : Nat → List UInt8} {m : Nat → Int} {n : Nat} (hL : LawsO A B w r m n 0) {j : Nat} (hj : j < 2) (q : Nat) :
    LawsO (A.putS j ⟨(A.side j).way, (A.side j).come.drop q, (A.side j).x⟩) B w (fun i => if i = j then r j ++ (A.side j).come.take q else r i) m n 0 := by
  have hw : ∀ e, e < 2 → (r e).length + (A.side e).come.length ≤ (w e).length := fun e he => by
    rw [(hL.law e he (Nat.zero_le _)).2.1, List.length_append, List.length_append]; omega
  refine ⟨by rw [brk_put]; exact hL.brk, fun e he hk => ?_, fun e he => ?_⟩
  · have h1 := hL.law e he hk
    rw [side_put A hj he]
    by_cases hij : e = j
    · subst hij
      simp only [if_true]
      refine ⟨h1.1, ?_, ?_⟩
      · rw [h1.2.1, List.append_assoc, ← List.append_assoc ((A.side e).come.take q), List.take_append_drop]
      · rw [h1.2.2, List.length_append, List.length_take, List.length_drop]; omega
    · simp only [hij, if_false]; exact h1
  · have h1 := hL.bnd e he
    have h2 := hw e he
    rw [side_put A hj he]
    by_cases hij : e = j
    · subst hij
      simp only [if_true]
      rw [List.length_append, List.length_take, List.length_drop]
      omega
    · simp only [hij, if_false]; omega

theorem LawsO.weaken {A B : Cn} {w r : Nat → List UInt8} {m : Nat → Int} {n k0 : Nat} (hL : LawsO A B w r m n k0) : LawsO A B w r m n (k0 + 1) := ⟨hL.brk, fun e he hk => hL.law e he (by omega), hL.bnd⟩

/-- the side that is closed already may be what it likes -/
theorem LawsO.setK {A B : Cn} {w r : Nat → List UInt8} {m : Nat → Int} {n k : Nat} (hL : LawsO A B w r m n (k + 1)) (hk : k < 2) {s : Side} {l : List UInt8} (h1 : s.way.length ≤ 65536) (h2 : s.come.length ≤ 65536 * n) (h3 : l.length ≤ 65536 * n) :
    LawsO (A.putS k s) B w (fun i => if i = k then l else r i) m n (k + 1) := by
  refine ⟨by rw [brk_put]; exact hL.brk, fun e he hke => ?_, fun e he => ?_⟩
  · have hne : e ≠ k := by omega
    rw [side_put A hk he]
    simp only [hne, if_false]
    exact hL.law e he hke
  · have := hL.bnd e he
    rw [side_put A hk he]
    by_cases hek : e = k
    · simp only [hek, if_true]
      rw [hek] at this
      omega
    · simp only [hek, if_false]
      omega

theorem end_two (x : Int) : ∃ j : Nat, j < 2 ∧ IntKind.wrap .i64 (Int.tmod (IntKind.wrap .u64 x) 2) = (j : Int) := by
  have h0 : 0 ≤ IntKind.wrap .u64 x := by
    unfold IntKind.wrap
    have hb : (2 : Int) ^ IntKind.u64.bits = 18446744073709551616 := by decide
    have hs : IntKind.u64.signed = false := rfl
    simp only [hb, hs, Bool.false_and, Bool.false_eq_true, if_false]
    omega
  generalize IntKind.wrap .u64 x = y at h0
  have h1 := Int.tmod_nonneg 2 h0
  have h2 := Int.tmod_lt_of_pos y (show (0 : Int) < 2 by decide)
  rw [wrap64 (by omega) (by omega)]
  exact ⟨(Int.tmod y 2).toNat, by omega, by omega⟩

theorem Stp.none_ {T T' : Nat → Option Nat} {h h' : Heap} (st : Stp T T' h h') {k : Nat} (hk : T k = none) (hl : k < h.size) : T' k = none := by
  rcases hT : T' k with _ | t
  · rfl
  · rcases st.new k (by rw [hT]; simp) with h1 | h1
    · exact absurd hk h1
    · omega

theorem Stp.keep {T T' : Nat → Option Nat} {h h' : Heap} (st : Stp T T' h h') {k : Nat} {x : Obj} (hk : T k = none) (hx : h[k]? = some x) : h'[k]? = some x := by
  rw [st.upd.old k (blk_lt hx) fun h9 => h9 hk]; exact hx

end Go.Proofs.Ytbofhmcjcllcaaa.St
