/- Plain laws on memory for the models: rows of cells, rows that a call owns, what append and make leave. No program. -/
import Derived.Test.YtledmkhbaacdnaaFwA
namespace Go.Fw
open Go

/-! ### the small words -/
theorem iteP_true {A B : Prop} (h : A) : iteP true A B := ⟨fun _ => h, fun e => by cases e⟩
theorem iteP_false {A B : Prop} (h : B) : iteP false A B := ⟨fun e => (by cases e), fun _ => h⟩
theorem bindI_intro {n : Int} {K : Int → Prop} (h : K n) : bindI n K := h
theorem bindB_intro {n : Bool} {K : Bool → Prop} (h : K n) : bindB n K := h
theorem iteP_dec {p : Prop} [Decidable p] {A B : Prop} (h1 : p → A) (h2 : ¬ p → B) : iteP (decide p) A B :=
  ⟨fun e => h1 (of_decide_eq_true e), fun e => h2 (of_decide_eq_false e)⟩
theorem iteP_pos {b : Bool} {A B : Prop} (e : b = true) (h : A) : iteP b A B := by subst e; exact iteP_true h
theorem iteP_neg {b : Bool} {A B : Prop} (e : b = false) (h : B) : iteP b A B := by subst e; exact iteP_false h
theorem wrap64 {n : Int} (h0 : -9223372036854775808 ≤ n) (h1 : n ≤ 9223372036854775807) : IntKind.wrap .i64 n = n := by
  unfold IntKind.wrap
  have hb : (2 : Int) ^ IntKind.i64.bits = 18446744073709551616 := by decide
  have hb' : (2 : Int) ^ (IntKind.i64.bits - 1) = 9223372036854775808 := by decide
  have hs : IntKind.i64.signed = true := rfl
  simp only [hb, hb', hs, Bool.true_and]
  rcases Int.lt_or_le n 0 with h | h
  · have : n % 18446744073709551616 = n + 18446744073709551616 := by omega
    rw [this, if_pos (by simp; omega)]
    omega
  · have : n % 18446744073709551616 = n := by omega
    rw [this, if_neg (by simp; omega)]
theorem wrap8 {n : Int} (h0 : 0 ≤ n) (h1 : n < 256) : IntKind.wrap .u8 n = n := by
  unfold IntKind.wrap
  have hb : (2 : Int) ^ IntKind.u8.bits = 256 := by decide
  have hs : IntKind.u8.signed = false := rfl
  simp only [hb, hs, Bool.false_and, Bool.false_eq_true, if_false]
  omega
theorem wrap8_mod (n : Int) : IntKind.wrap .u8 n = n % 256 := by
  unfold IntKind.wrap
  have hb : (2 : Int) ^ IntKind.u8.bits = 256 := by decide
  have hs : IntKind.u8.signed = false := rfl
  simp only [hb, hs, Bool.false_and, Bool.false_eq_true, if_false]

/-! ### cells -/
theorem cell_lt {h : Heap} {b o : Nat} {v : Value} (hc : h.cell b o = some v) : b < h.size := by
  unfold Heap.cell at hc
  rcases Nat.lt_or_ge b h.size with hl | hl
  · exact hl
  · rw [Array.getElem?_eq_none hl] at hc; cases hc

theorem cell_congr {h h' : Heap} {b : Nat} (he : h'[b]? = h[b]?) (o : Nat) : h'.cell b o = h.cell b o := by
  unfold Heap.cell; rw [he]
theorem froz_congr {h h' : Heap} {b : Nat} (he : h'[b]? = h[b]?) (o : Nat) : h'.froz b o = h.froz b o := by
  unfold Heap.froz; rw [he]
theorem has_congr {h h' : Heap} {b : Nat} (he : h'[b]? = h[b]?) : ∀ {l : List Value} {o : Nat}, h.has b o l → h'.has b o l
  | [], _, _ => trivial
  | _ :: _, _, ⟨h1, h2⟩ => ⟨(cell_congr he _).trans h1, has_congr he h2⟩
theorem free_congr {h h' : Heap} {b : Nat} (he : h'[b]? = h[b]?) : ∀ {n o : Nat}, h.free b o n → h'.free b o n
  | 0, _, _ => trivial
  | _ + 1, _, ⟨⟨⟨u, hu⟩, hz⟩, h2⟩ => ⟨⟨⟨u, (cell_congr he _).trans hu⟩, (froz_congr he _).trans hz⟩, free_congr he h2⟩

theorem has_get {h : Heap} {b : Nat} : ∀ {l : List Value} {o i : Nat} {v : Value}, h.has b o l → l[i]? = some v → h.cell b (o + i) = some v
  | [], _, _, _, _, hv => by simp at hv
  | x :: l, o, 0, v, ⟨h1, _⟩, hv => by simp at hv; subst hv; exact h1
  | x :: l, o, i + 1, v, ⟨_, h2⟩, hv => by
    have := has_get (i := i) (v := v) h2 (by simpa using hv)
    rw [show o + (i + 1) = o + 1 + i from by omega]; exact this

theorem has_of {h : Heap} {b : Nat} : ∀ {l : List Value} {o : Nat}, (∀ i v, l[i]? = some v → h.cell b (o + i) = some v) → h.has b o l
  | [], _, _ => trivial
  | x :: l, o, hh => ⟨by have := hh 0 x (by simp); simpa using this, has_of fun i v hv => by have := hh (i + 1) v (by simpa using hv); rw [show o + 1 + i = o + (i + 1) from by omega]; exact this⟩

theorem has_lt {h : Heap} {b o : Nat} {l : List Value} (hh : h.has b o l) (hne : l ≠ []) : b < h.size := by
  cases l with
  | nil => exact absurd rfl hne
  | cons v l => exact cell_lt hh.1

theorem has_append {h : Heap} {b : Nat} : ∀ {l r : List Value} {o : Nat}, h.has b o (l ++ r) ↔ h.has b o l ∧ h.has b (o + l.length) r
  | [], r, o => by simp [Heap.has]
  | x :: l, r, o => by
    simp only [List.cons_append, Heap.has, has_append (l := l), List.length_cons]
    rw [show o + 1 + l.length = o + (l.length + 1) from by omega]
    exact and_assoc.symm

theorem has_sub {h : Heap} {b o : Nat} {l : List Value} (hh : h.has b o l) (k n : Nat) : h.has b (o + k) ((l.drop k).take n) := by
  refine has_of fun i v hv => ?_
  rw [List.getElem?_take] at hv
  split at hv
  · rw [List.getElem?_drop] at hv
    have := has_get hh hv
    rw [Nat.add_assoc]; exact this
  · cases hv

theorem cell_block {h : Heap} {b o : Nat} {c : Array Value} {e : TypeId} {f : Nat × Nat} (hb : h[b]? = some (.cells c e f)) : h.cell b o = c[o]? := by
  unfold Heap.cell; rw [hb]

theorem has_block {h : Heap} {b o : Nat} {c : Array Value} {e : TypeId} {f : Nat × Nat} {l : List Value} (hb : h[b]? = some (.cells c e f)) (hl : ∀ i v, l[i]? = some v → c[o + i]? = some v) : h.has b o l :=
  has_of fun i v hv => by rw [cell_block hb]; exact hl i v hv

theorem free_block {h : Heap} {b : Nat} {c : Array Value} {e : TypeId} (hb : h[b]? = some (.cells c e (0, 0))) : ∀ {n o : Nat}, o + n ≤ c.size → h.free b o n
  | 0, _, _ => trivial
  | n + 1, o, hle => by
    have hlt : o < c.size := by omega
    refine ⟨⟨⟨c[o], by rw [cell_block hb]; simp [hlt]⟩, ?_⟩, free_block hb (by omega)⟩
    unfold Heap.froz; rw [hb]; simp

theorem put_block {h : Heap} {b o : Nat} {v : Value} {c : Array Value} {e : TypeId} {f : Nat × Nat} (hb : h[b]? = some (.cells c e f)) : (h.put b o v)[b]? = some (.cells (c.setIfInBounds o v) e f) := by
  unfold Heap.put
  rw [Array.getElem?_modify, if_pos rfl, hb]
  rfl
theorem put_other {h : Heap} {b o k : Nat} {v : Value} (hk : k ≠ b) : (h.put b o v)[k]? = h[k]? := by
  unfold Heap.put
  rw [Array.getElem?_modify, if_neg (Ne.symm hk)]
theorem put_size {h : Heap} {b o : Nat} {v : Value} : (h.put b o v).size = h.size := by
  unfold Heap.put; simp
theorem puts_size {h : Heap} {b : Nat} : ∀ {vs : List Value} {o : Nat}, (h.puts b o vs).size = h.size
  | [], _ => rfl
  | v :: vs, o => by unfold Heap.puts; rw [puts_size, put_size]
theorem puts_other {b k : Nat} (hk : k ≠ b) : ∀ {vs : List Value} {h : Heap} {o : Nat}, (h.puts b o vs)[k]? = h[k]?
  | [], _, _ => rfl
  | v :: vs, h, o => by unfold Heap.puts; rw [puts_other hk, put_other hk]

theorem puts_block {b : Nat} {e : TypeId} {f : Nat × Nat} : ∀ {vs : List Value} {h : Heap} {o : Nat} {c : Array Value}, h[b]? = some (.cells c e f) → o + vs.length ≤ c.size →
    ∃ c', (h.puts b o vs)[b]? = some (.cells c' e f) ∧ c'.toList = c.toList.take o ++ vs ++ c.toList.drop (o + vs.length)
  | [], h, o, c, hb, _ => ⟨c, hb, by simp⟩
  | v :: vs, h, o, c, hb, hle => by
    simp only [List.length_cons] at hle
    obtain ⟨c', hc', hl⟩ := puts_block (vs := vs) (h := h.put b o v) (o := o + 1) (put_block hb) (by simp; omega)
    refine ⟨c', hc', ?_⟩
    rw [hl]
    have hlt : o < c.toList.length := by simp; omega
    simp only [Array.toList_setIfInBounds, List.length_cons]
    rw [List.take_succ_eq_append_getElem (by simp; omega), List.take_set_of_le (by omega), List.drop_set_of_lt (by omega)]
    simp
    omega

theorem push_old {h : Heap} {x : Obj} {k : Nat} (hk : k < h.size) : (h.push x)[k]? = h[k]? := by
  rw [Array.getElem?_push, if_neg (by omega)]
theorem push_new {h : Heap} {x : Obj} : (h.push x)[h.size]? = some x := by simp

/-! ### what a step leaves of memory -/
/-- all blocks that stood stand as they were -/
structure Ext (h h' : Heap) : Prop where
  size : h.size ≤ h'.size
  old : ∀ k, k < h.size → h'[k]? = h[k]?
theorem Ext.refl (h : Heap) : Ext h h := ⟨Nat.le_refl _, fun _ _ => rfl⟩
theorem Ext.trans {a b c : Heap} (h : Ext a b) (h' : Ext b c) : Ext a c :=
  ⟨Nat.le_trans h.size h'.size, fun k hk => (h'.old k (Nat.lt_of_lt_of_le hk h.size)).trans (h.old k hk)⟩
theorem Ext.push (h : Heap) (x : Obj) : Ext h (h.push x) := ⟨by simp, fun _ hk => push_old hk⟩

/-- all blocks that stood, but those of S, stand as they were -/
structure Upd (S : Nat → Prop) (h h' : Heap) : Prop where
  size : h.size ≤ h'.size
  old : ∀ k, k < h.size → ¬ S k → h'[k]? = h[k]?
theorem Upd.refl (S : Nat → Prop) (h : Heap) : Upd S h h := ⟨Nat.le_refl _, fun _ _ _ => rfl⟩
theorem Upd.trans {S : Nat → Prop} {a b c : Heap} (h : Upd S a b) (h' : Upd S b c) : Upd S a c :=
  ⟨Nat.le_trans h.size h'.size, fun k hk hs => (h'.old k (Nat.lt_of_lt_of_le hk h.size) hs).trans (h.old k hk hs)⟩
theorem Upd.mono {S T : Nat → Prop} {a b : Heap} (h : Upd S a b) (hs : ∀ k, k < a.size → S k → T k) : Upd T a b :=
  ⟨h.size, fun k hk hn => h.old k hk fun hS => hn (hs k hk hS)⟩
theorem Ext.upd {a b : Heap} (h : Ext a b) (S : Nat → Prop) : Upd S a b := ⟨h.size, fun k hk _ => h.old k hk⟩
theorem Upd.ext {S : Nat → Prop} {a b : Heap} (h : Upd S a b) (hs : ∀ k, k < a.size → ¬ S k) : Ext a b := ⟨h.size, fun k hk => h.old k hk (hs k hk)⟩
theorem Upd.put (h : Heap) (b o : Nat) (v : Value) : Upd (· = b) h (h.put b o v) := ⟨by rw [put_size]; exact Nat.le_refl _, fun k _ hk => put_other hk⟩
theorem Upd.puts (h : Heap) (b o : Nat) (vs : List Value) : Upd (· = b) h (h.puts b o vs) := ⟨by rw [puts_size]; exact Nat.le_refl _, fun k _ hk => puts_other hk⟩
/-- blocks from 'base' on may have turned -/
theorem Upd.low {base : Nat} {a b : Heap} (h : Upd (fun k => base ≤ k) a b) {k : Nat} (hk : k < base) (hk' : k < a.size) : b[k]? = a[k]? := h.old k hk' (by omega)

theorem newC_intro {h : Heap} {cells : List Value} {t : TypeId} {K : Nat → Heap → Prop} (hk : K h.size (h.push (.cells cells.toArray t))) : newC h cells t K := hk
/-- an update of new blocks alone -/
theorem Ext.then {a b c : Heap} {S : Nat → Prop} (h : Ext a b) (h' : Upd S b c) (hs : ∀ k, S k → a.size ≤ k) : Ext a c :=
  ⟨Nat.le_trans h.size h'.size, fun k hk => (h'.old k (Nat.lt_of_lt_of_le hk h.size) fun hS => by have := hs k hS; omega).trans (h.old k hk)⟩

/-! ### rows -/
def slV (s : Sl) : Value := .slice s.ptr s.len s.cap
/-- the block that a slice leads to -/
def Sl.blk (s : Sl) : Option Nat := s.ptr.map (·.block)
def bv (x : UInt8) : Value := .int .u8 x.toNat

/-- a slice's elements, each of 'size' cells -/
structure Row (h : Heap) (s : Sl) (size : Nat) (vs : List Value) : Prop where
  len : vs.length = s.len * size
  cap : s.len ≤ s.cap
  big : s.cap < 9223372036854775808
  at_ : s.len = 0 ∨ ∃ b o, s.ptr = some ⟨b, o, none⟩ ∧ h.has b o vs

abbrev Bytes (h : Heap) (s : Sl) (l : List UInt8) : Prop := Row h s 1 (l.map bv)

theorem Row.nil_of {h : Heap} {s : Sl} {size : Nat} {vs : List Value} (hr : Row h s size vs) (h0 : s.len = 0) : vs = [] :=
  List.eq_nil_of_length_eq_zero (by rw [hr.len, h0, Nat.zero_mul])

theorem Row.congr {h h' : Heap} {s : Sl} {size : Nat} {vs : List Value} (hr : Row h s size vs) (he : ∀ b o, s.ptr = some ⟨b, o, none⟩ → vs ≠ [] → b < h.size → h'[b]? = h[b]?) : Row h' s size vs := by
  refine ⟨hr.len, hr.cap, hr.big, ?_⟩
  rcases hr.at_ with h0 | ⟨b, o, hp, hh⟩
  · exact .inl h0
  · rcases Classical.em (vs = []) with hvs | hvs
    · subst hvs; exact .inr ⟨b, o, hp, trivial⟩
    · exact .inr ⟨b, o, hp, has_congr (he b o hp hvs (has_lt hh hvs)) hh⟩

theorem Row.ext {h h' : Heap} {s : Sl} {size : Nat} {vs : List Value} (hr : Row h s size vs) (he : Ext h h') : Row h' s size vs :=
  hr.congr fun b _ _ _ hb => he.old b hb

theorem Bytes.length {h : Heap} {s : Sl} {l : List UInt8} (hb : Bytes h s l) : s.len = l.length := by
  have := hb.len; simp at this; omega

/-- the i-th element's cell of a row of single cells -/
theorem Row.at1 {h : Heap} {s : Sl} {vs : List Value} (hr : Row h s 1 vs) {i : Nat} {v : Value} (hv : vs[i]? = some v) :
    ∃ b o, s.ptr = some ⟨b, o, none⟩ ∧ i < s.len ∧ h.cell b (o + i) = some v := by
  have hlt : i < vs.length := by
    rcases Nat.lt_or_ge i vs.length with h | h
    · exact h
    · rw [List.getElem?_eq_none h] at hv; cases hv
  rcases hr.at_ with h0 | ⟨b, o, hp, hh⟩
  · rw [hr.nil_of h0] at hv; simp at hv
  · exact ⟨b, o, hp, by have := hr.len; omega, has_get hh hv⟩

theorem Row.idx {h : Heap} {s : Sl} {vs : List Value} (hr : Row h s 1 vs) {i : Int} {n : Nat} (hi : i = n) {v : Value} (hv : vs[n]? = some v) {K : Nat → Nat → Prop}
    (hk : ∀ b o, s.ptr = some ⟨b, o, none⟩ → h.cell b (o + n) = some v → K b (o + n)) : idxA s.ptr s.len i 1 K := by
  obtain ⟨b, o, hp, hlt, hc⟩ := hr.at1 hv
  subst hi
  refine ⟨b, o, hp, by omega, by omega, ?_⟩
  rw [Int.toNat_natCast, Nat.mul_one]
  exact hk b o hp hc

theorem Bytes.idx {h : Heap} {s : Sl} {l : List UInt8} (hr : Bytes h s l) {i : Int} {n : Nat} (hi : i = n) {x : UInt8} (hv : l[n]? = some x) {K : Int → Prop} (hk : K x.toNat) :
    idxA s.ptr s.len i 1 fun b o => ldI h b o .u8 K :=
  Row.idx hr hi (v := bv x) (by simp [hv]) fun _ _ _ hc => ⟨_, hc, hk⟩

theorem Bytes.idx' {h : Heap} {s : Sl} {l : List UInt8} (hr : Bytes h s l) {L : Nat} (hL : L = s.len) {i : Int} {n : Nat} (hi : i = n) {x : UInt8} (hv : l[n]? = some x) {K : Int → Prop} (hk : K x.toNat) :
    idxA s.ptr L i 1 fun b o => ldI h b o .u8 K := by
  subst hL
  exact Bytes.idx hr hi hv hk

theorem Row.rd {h : Heap} {s : Sl} {size : Nat} {vs : List Value} (hr : Row h s size vs) {K : List Value → Prop} (hk : K vs) : rdS s size h K := by
  rcases hr.at_ with h0 | ⟨b, o, hp, hh⟩
  · rw [hr.nil_of h0] at hk; exact .inl ⟨h0, hk⟩
  · exact .inr ⟨b, o, vs, hp, hr.len, hh, hk⟩

theorem Row.nil (h : Heap) (size : Nat) : Row h ⟨none, 0, 0⟩ size [] := ⟨by simp, Nat.le_refl _, by decide, .inl rfl⟩

/-- a piece of a row -/
theorem Row.slc {h : Heap} {s : Sl} {vs : List Value} (hr : Row h s 1 vs) {lo hi mx : Int} {a b m : Nat} (ea : lo = a) (eb : hi = b) (em : mx = m) (h1 : a ≤ b) (h2 : b ≤ s.len) (h2' : b ≤ m) (h3 : m ≤ s.cap) {K : Sl → Prop}
    (hk : ∀ s', Row h s' 1 ((vs.drop a).take (b - a)) → s'.len = b - a → s'.cap = m - a → (∀ k, s'.blk = some k → s.blk = some k) → K s') : Fw.slc s.ptr s.cap 1 lo hi mx K := by
  subst ea eb em
  refine ⟨by omega, by omega, by omega, by omega, ?_⟩
  have hl := hr.len
  refine hk _ ⟨?_, ?_, ?_, ?_⟩ ?_ ?_ ?_
  · simp; omega
  · simp; omega
  · have := hr.big; simp; omega
  · simp only [Int.toNat_natCast]
    rcases Nat.eq_zero_or_pos (b - a) with h0 | h0
    · exact .inl h0
    · right
      rcases hr.at_ with h9 | ⟨bb, o, hp, hh⟩
      · omega
      · refine ⟨bb, o + a, ?_, has_sub hh a (b - a)⟩
        unfold slPtr
        rw [if_neg (by omega), hp]
        simp only [Option.map_some, Nat.mul_one]
        unfold Addr.add
        split
        · rename_i h; subst h; rfl
        · rfl
  · simp
  · simp
  · intro k
    unfold Sl.blk slPtr
    split
    · exact id
    · cases s.ptr with
      | none => simp
      | some x => simp [Addr.add]; split <;> exact id

/-! ### a row of the call's own, that may grow -/
structure Own (h : Heap) (base : Nat) (s : Sl) (size : Nat) (vs : List Value) : Prop where
  len : vs.length = s.len * size
  cap : s.len ≤ s.cap
  big : s.cap < 9223372036854775808
  at_ : (s.ptr = none ∧ s.cap = 0) ∨ ∃ b c e, s.ptr = some ⟨b, 0, none⟩ ∧ base ≤ b ∧ h[b]? = some (.cells c e (0, 0)) ∧ c.size = s.cap * size ∧ vs = c.toList.take (s.len * size)

theorem Own.row {h : Heap} {base : Nat} {s : Sl} {size : Nat} {vs : List Value} (ho : Own h base s size vs) : Row h s size vs := by
  refine ⟨ho.len, ho.cap, ho.big, ?_⟩
  rcases ho.at_ with ⟨_, h0⟩ | ⟨b, c, e, hp, _, hb, hc, hv⟩
  · exact .inl (by have := ho.cap; omega)
  · right
    refine ⟨b, 0, hp, has_block hb fun i v hi => ?_⟩
    rw [hv, List.getElem?_take] at hi
    split at hi
    · simpa using hi
    · cases hi

theorem Own.nil (h : Heap) (base size : Nat) : Own h base ⟨none, 0, 0⟩ size [] := ⟨by simp, Nat.le_refl _, by decide, .inl ⟨rfl, rfl⟩⟩

theorem Own.congr {h h' : Heap} {base : Nat} {s : Sl} {size : Nat} {vs : List Value} (ho : Own h base s size vs) (he : ∀ b, s.blk = some b → b < h.size → base ≤ b → h'[b]? = h[b]?) : Own h' base s size vs := by
  refine ⟨ho.len, ho.cap, ho.big, ?_⟩
  rcases ho.at_ with h0 | ⟨b, c, e, hp, hb, hc, hr⟩
  · exact .inl h0
  · refine .inr ⟨b, c, e, hp, hb, ?_, hr⟩
    rw [he b (by simp [Sl.blk, hp]) ?_ hb]
    · exact hc
    · rcases Nat.lt_or_ge b h.size with hl | hl
      · exact hl
      · rw [Array.getElem?_eq_none hl] at hc; cases hc

theorem Own.base {h : Heap} {base base' : Nat} {s : Sl} {size : Nat} {vs : List Value} (ho : Own h base s size vs) (hb : base' ≤ base) : Own h base' s size vs := by
  refine ⟨ho.len, ho.cap, ho.big, ?_⟩
  rcases ho.at_ with h0 | ⟨b, c, e, hp, hb', hr⟩
  · exact .inl h0
  · exact .inr ⟨b, c, e, hp, by omega, hr⟩

theorem Own.lt {h : Heap} {base : Nat} {s : Sl} {size : Nat} {vs : List Value} (ho : Own h base s size vs) {b : Nat} (hb : s.blk = some b) : base ≤ b ∧ b < h.size := by
  rcases ho.at_ with ⟨hp, _⟩ | ⟨b', c, e, hp, hb', hr, _⟩
  · simp [Sl.blk, hp] at hb
  · simp [Sl.blk, hp] at hb
    subst hb
    refine ⟨hb', ?_⟩
    rcases Nat.lt_or_ge b' h.size with hl | hl
    · exact hl
    · rw [Array.getElem?_eq_none hl] at hr; cases hr

theorem zerosL_length' (zs : List Value) (n : Nat) : (zerosL zs n).length = n * zs.length := by simp [zerosL]

/-- append to a row of the call's own -/
theorem Own.app {h : Heap} {base : Nat} {s : Sl} {size bytes n : Nat} {vs new zs : List Value} {elem : TypeId} {K : Sl → Heap → Prop}
    (ho : Own h base s size vs) (hnew : new.length = n * size) (hone : new.all oneCell = true) (hz : zs.length = size) (hb : (s.len + n) * bytes ≤ 140737488355328) (hl : s.len + n ≤ 140737488355328) (hbase : base ≤ h.size)
    (hk : ∀ s' h', Own h' base s' size (vs ++ new) → s'.len = s.len + n → Upd (fun k => s.blk = some k) h h' → (s'.blk = s.blk ∨ s'.blk = some h.size) → K s' h') :
    Fw.app elem size bytes zs s n new h K := by
  have hlen := ho.len
  have hcap := ho.cap
  refine ⟨fun hroom => ?_, fun hgt => ⟨hb, hl, ho.row.rd fun cap h1 h2 => ?_⟩⟩
  · rcases ho.at_ with ⟨hp, h0⟩ | ⟨b, c, e, hp, hbb, hblk, hc, hv⟩
    · left
      have hn : n = 0 := by omega
      have hnil : new = [] := List.eq_nil_of_length_eq_zero (by rw [hnew, hn, Nat.zero_mul])
      refine ⟨hnil, hk _ _ ?_ rfl (Upd.refl _ _) (.inl rfl)⟩
      refine ⟨by simp [hnil, hn, hlen], hroom, ho.big, .inl ⟨hp, h0⟩⟩
    · right
      have hle : s.len * size + new.length ≤ c.size := by
        rw [hc, hnew, ← Nat.add_mul]; exact Nat.mul_le_mul_right _ hroom
      refine ⟨b, 0, hp, free_block hblk (by simpa using hle), hone, ?_⟩
      obtain ⟨c', hc', hl'⟩ := puts_block (vs := new) (o := 0 + s.len * size) hblk (by simpa using hle)
      refine hk _ _ ⟨?_, hroom, ho.big, .inr ⟨b, c', e, hp, hbb, hc', ?_, ?_⟩⟩ rfl ((Upd.puts h b _ new).mono fun k _ hk => by subst hk; simp [Sl.blk, hp]) (.inl rfl)
      · simp [hlen, hnew, Nat.add_mul]
      · rw [← hc, ← Array.length_toList, hl']
        simp
        omega
      · rw [hl']
        simp only [Nat.zero_add]
        rw [Nat.add_mul, ← hnew, List.take_append_of_le_length (by simp; omega), List.take_of_length_le (by simp; omega), hv]
  · refine hk _ _ ⟨by simp [hlen, hnew, Nat.add_mul], h1, h2, .inr ⟨h.size, _, elem, rfl, hbase, push_new, ?_, ?_⟩⟩ rfl ((Ext.push h _).upd _) (.inr rfl)
    · simp only [List.size_toArray, List.length_append, zerosL_length', hz, hlen, hnew]
      rw [← Nat.add_mul, ← Nat.add_mul]
      congr 1
      omega
    · simp only []
      rw [List.take_append_of_le_length (by simp [hlen, hnew, Nat.add_mul]), List.take_of_length_le (by simp [hlen, hnew, Nat.add_mul])]

/-- a new block as a row of the call's own -/
theorem Own.newC {h : Heap} {cells : List Value} {t : TypeId} {size n : Nat} (hl : cells.length = n * size) (hn : n < 9223372036854775808) :
    Own (h.push (.cells cells.toArray t)) h.size ⟨some ⟨h.size, 0, none⟩, n, n⟩ size cells :=
  ⟨hl, Nat.le_refl _, hn, .inr ⟨h.size, _, t, rfl, Nat.le_refl _, push_new, by simp [hl], by simp; rw [List.take_of_length_le (by omega)]⟩⟩

/-! ### rows of bytes that a call made, each in a block of its own -/
structure OwnRows (h : Heap) (base : Nat) (s : Sl) (ll : List (List UInt8)) : Prop where
  rows : ∃ ss : List Sl, Own h base s 1 (ss.map slV) ∧ ss.length = ll.length ∧
    (∀ (i : Nat) (x : Sl) (l : List UInt8), ss[i]? = some x → ll[i]? = some l → Own h base x 1 (l.map bv)) ∧
    (∀ (i : Nat) (x : Sl) (k : Nat), ss[i]? = some x → x.blk = some k → s.blk ≠ some k) ∧
    (∀ (i j : Nat) (x y : Sl) (k : Nat), ss[i]? = some x → ss[j]? = some y → x.blk = some k → y.blk = some k → i = j)

theorem OwnRows.nil (h : Heap) (base : Nat) : OwnRows h base ⟨none, 0, 0⟩ [] :=
  ⟨[], Own.nil h base 1, rfl, by simp, by simp, by simp⟩

theorem OwnRows.len {h : Heap} {base : Nat} {s : Sl} {ll : List (List UInt8)} (ho : OwnRows h base s ll) : s.len = ll.length := by
  obtain ⟨ss, h1, h2, _⟩ := ho.rows
  have := h1.len
  simp at this
  omega

theorem OwnRows.congr {h h' : Heap} {base : Nat} {s : Sl} {ll : List (List UInt8)} (ho : OwnRows h base s ll) (he : ∀ b, b < h.size → base ≤ b → h'[b]? = h[b]?) : OwnRows h' base s ll := by
  obtain ⟨ss, h1, h2, h3, h4, h5⟩ := ho.rows
  exact ⟨ss, h1.congr fun b _ hl hb => he b hl hb, h2, fun i x l hx hl => (h3 i x l hx hl).congr fun b _ hl hb => he b hl hb, h4, h5⟩

theorem Own.blk_lt {h : Heap} {base : Nat} {s : Sl} {size : Nat} {vs : List Value} (ho : Own h base s size vs) {b : Nat} (hb : s.blk = some b) : b < h.size := (ho.lt hb).2

/-- one row more -/
theorem OwnRows.snoc {h h1 h' : Heap} {base : Nat} {s s' x : Sl} {ll : List (List UInt8)} {l : List UInt8} (ho : OwnRows h base s ll) (hext : Ext h h1) (hx : Own h1 h.size x 1 (l.map bv)) (hbase : base ≤ h.size)
    (hs : ∀ vs, Own h base s 1 vs → Own h1 base s 1 vs → Own h' base s' 1 (vs ++ [slV x])) (hu : Upd (fun k => s.blk = some k) h1 h') (hblk : s'.blk = s.blk ∨ s'.blk = some h1.size) : OwnRows h' base s' (ll ++ [l]) := by
  obtain ⟨ss, g1, g2, g3, g4, g5⟩ := ho.rows
  have g1' := g1.congr (h' := h1) fun b _ hl _ => hext.old b hl
  have hxlt : ∀ k, x.blk = some k → h.size ≤ k ∧ k < h1.size := fun k hk => hx.lt hk
  refine ⟨ss ++ [x], by rw [List.map_append]; exact hs _ g1 g1', by simp [g2], ?_, ?_, ?_⟩
  · intro i y m hy hm
    rcases Nat.lt_or_ge i ss.length with hi | hi
    · rw [List.getElem?_append_left hi] at hy
      rw [List.getElem?_append_left (by omega)] at hm
      refine ((g3 i y m hy hm).congr (h' := h1) fun b _ hl _ => hext.old b hl).congr fun b hb hl _ => hu.old b hl ?_
      exact g4 i y b hy hb
    · rw [List.getElem?_append_right hi] at hy
      rw [List.getElem?_append_right (by omega)] at hm
      have hi0 : i - ss.length = 0 := by
        rcases Nat.eq_zero_or_pos (i - ss.length) with h | h
        · exact h
        · rw [List.getElem?_eq_none (by simp; omega)] at hy; cases hy
      rw [hi0] at hy
      rw [← g2, hi0] at hm
      simp at hy hm
      subst hy hm
      refine (hx.base hbase).congr fun b hb hl _ => hu.old b hl fun hsb => ?_
      have := (g1.lt hsb).2
      have := (hxlt b hb).1
      omega
  · intro i y k hy hk
    rcases Nat.lt_or_ge i ss.length with hi | hi
    · rw [List.getElem?_append_left hi] at hy
      rcases hblk with h | h
      · rw [h]; exact g4 i y k hy hk
      · rw [h]
        intro he
        cases he
        have hlt : i < ll.length := by omega
        have := ((g3 i y _ hy (List.getElem?_eq_getElem hlt)).lt hk).2
        have := hext.size
        omega
    · rw [List.getElem?_append_right hi] at hy
      have hi0 : i - ss.length = 0 := by
        rcases Nat.eq_zero_or_pos (i - ss.length) with h | h
        · exact h
        · rw [List.getElem?_eq_none (by simp; omega)] at hy; cases hy
      rw [hi0] at hy
      simp at hy
      subst hy
      have := hxlt k hk
      rcases hblk with h | h
      · rw [h]; intro he; have := (g1.lt he).2; omega
      · rw [h]; intro he; cases he; omega
  · have last : ∀ i y, (ss ++ [x])[i]? = some y → ss.length ≤ i → i = ss.length ∧ y = x := by
      intro i y hy hi
      rw [List.getElem?_append_right hi] at hy
      have hi0 : i - ss.length = 0 := by
        rcases Nat.eq_zero_or_pos (i - ss.length) with h | h
        · exact h
        · rw [List.getElem?_eq_none (by simp; omega)] at hy; cases hy
      rw [hi0] at hy
      simp at hy
      exact ⟨by omega, hy.symm⟩
    have old : ∀ i y k, (ss ++ [x])[i]? = some y → i < ss.length → y.blk = some k → k < h.size := by
      intro i y k hy hi hk
      rw [List.getElem?_append_left hi] at hy
      have hlt : i < ll.length := by omega
      exact ((g3 i y _ hy (List.getElem?_eq_getElem hlt)).lt hk).2
    intro i j y z k hy hz hk hk'
    rcases Nat.lt_or_ge i ss.length with hi | hi
    · rcases Nat.lt_or_ge j ss.length with hj | hj
      · rw [List.getElem?_append_left hi] at hy
        rw [List.getElem?_append_left hj] at hz
        exact g5 i j y z k hy hz hk hk'
      · obtain ⟨_, rfl⟩ := last j z hz hj
        have := old i y k hy hi hk
        have := hxlt k hk'
        omega
    · rcases Nat.lt_or_ge j ss.length with hj | hj
      · obtain ⟨_, rfl⟩ := last i y hy hi
        have := old j z k hz hj hk'
        have := hxlt k hk
        omega
      · have h1 := (last i y hy hi).1
        have h2 := (last j z hz hj).1
        omega

/-! ### constants' bytes -/
theorem frz_block {h : Heap} {b : Nat} {c : Array Value} {e : TypeId} {f : Nat × Nat} (hb : h[b]? = some (.cells c e f)) : (h.frz b)[b]? = some (.cells c e (c.size, c.size + 1)) := by
  unfold Heap.frz
  rw [Array.getElem?_modify, if_pos rfl, hb]
  rfl
theorem frz_other {h : Heap} {b k : Nat} (hk : k ≠ b) : (h.frz b)[k]? = h[k]? := by
  unfold Heap.frz
  rw [Array.getElem?_modify, if_neg (Ne.symm hk)]
theorem frz_size {h : Heap} {b : Nat} : (h.frz b).size = h.size := by unfold Heap.frz; simp

/-- a new row of bytes -/
theorem newB {h : Heap} {cells : List Value} {t : TypeId} {K : Nat → Heap → Prop} (l : List UInt8) (n : Nat) (hc : cells = l.map bv) (hn : l.length = n) (hlt : n < 9223372036854775808)
    (hk : ∀ b h', Bytes h' ⟨some ⟨b, 0, none⟩, n, n⟩ l → Ext h h' → b = h.size → K b h') : newC h cells t K := by
  subst hc
  exact hk _ _ (Own.newC (h := h) (cells := l.map bv) (t := t) (size := 1) (n := n) (by simp [hn]) hlt).row (Ext.push h _) rfl

/-- a constant text's bytes -/
theorem newM {h : Heap} {cells : List Value} {t : TypeId} {K : Nat → Heap → Prop} (l : List UInt8) (n : Nat) (hc : cells = l.map bv) (hn : l.length = n) (hlt : n < 9223372036854775808)
    (hk : ∀ b h', Bytes h' ⟨some ⟨b, 0, none⟩, n, n⟩ l → Ext h h' → K b h') : newC h cells t fun b h1 => mark8 (some ⟨b, 0, none⟩) h1 fun h2 => K b h2 := by
  subst hc
  refine newC_intro ⟨h.size, 0, _, _, rfl, push_new, ?_⟩
  have hb := frz_block (push_new (h := h) (x := .cells (l.map bv).toArray t))
  have hext : Ext h (Heap.frz (h.push (.cells (l.map bv).toArray t)) h.size) := ⟨by rw [frz_size]; simp, fun k hk => by rw [frz_other (by omega)]; exact push_old hk⟩
  refine hk _ _ ⟨by simp [hn], Nat.le_refl _, hlt, .inr ⟨h.size, 0, rfl, has_block hb fun i v hv => ?_⟩⟩ hext
  simpa using hv

/-- the i-th row of rows that a call made -/
theorem OwnRows.idx {h : Heap} {base : Nat} {s : Sl} {ll : List (List UInt8)} (ho : OwnRows h base s ll) {i : Int} {n : Nat} (hi : i = n) {l : List UInt8} (hl : ll[n]? = some l) {K : Sl → Prop} (hk : ∀ x, Bytes h x l → K x) :
    idxA s.ptr s.len i 1 fun b o => ldL h b o K := by
  obtain ⟨ss, h1, h2, h3, _, _⟩ := ho.rows
  have hlt : n < ss.length := by
    rw [h2]
    rcases Nat.lt_or_ge n ll.length with h | h
    · exact h
    · rw [List.getElem?_eq_none h] at hl; cases hl
  have hx : ss[n]? = some ss[n] := List.getElem?_eq_getElem hlt
  refine Row.idx h1.row hi (v := slV ss[n]) (by simp [hx]) fun b o _ hc => ⟨ss[n], hc, hk _ (h3 n _ l hx hl).row⟩

theorem strEq_self (s : ByteArray) : strEq s s = true := by unfold strEq; simp

theorem b2s_bytes {h : Heap} {s : Sl} {l : List UInt8} (hb : Bytes h s l) {K : ByteArray → Prop} (hk : K ⟨l.toArray⟩) : b2s s h K := by
  rcases hb.at_ with h0 | ⟨b, o, hp, hh⟩
  · left
    refine ⟨h0, ?_⟩
    have : l = [] := List.eq_nil_of_length_eq_zero (by have := hb.length; omega)
    subst this
    exact hk
  · right
    refine ⟨b, o, ⟨l.toArray⟩, hp, ?_, ?_, hk⟩
    · have := hb.length; rw [this]; rfl
    · have : byteVals ⟨l.toArray⟩ = l.map bv := by unfold byteVals bv; simp
      rw [this]; exact hh

end Go.Fw
