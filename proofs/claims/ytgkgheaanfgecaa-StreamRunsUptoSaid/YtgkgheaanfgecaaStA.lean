/- Small words of the walks: blocks, loads, stores; rows of records; a network's place in memory. -/
import Derived.Test.YtgkgheaanfgecaaM
import Derived.Test.YtgkgheaanfgecaaFwU
namespace Go.Proofs.Ytgkgheaanfgecaa
open Go Go.Fw

theorem newK {h : Heap} {cells : List Value} {t : TypeId} {K : Nat → Heap → Prop} (hk : ∀ h1, h1[h.size]? = some (.cells cells.toArray t (0, 0)) → Ext h h1 → h1.size = h.size + 1 → K h.size h1) : newC h cells t K :=
  newC_intro (hk _ push_new (Ext.push _ _) (by simp))

theorem ldIk {h : Heap} {b o : Nat} {k : IntKind} {n : Int} {c : Array Value} {e : TypeId} {K : Int → Prop} (hb : h[b]? = some (.cells c e (0, 0))) (hc : c[o]? = some (.int k n)) (hk : K n) : ldI h b o k K := ⟨n, (cell_block hb).trans hc, hk⟩

theorem ldSk {h : Heap} {b o : Nat} {n : ByteArray} {c : Array Value} {e : TypeId} {K : ByteArray → Prop} (hb : h[b]? = some (.cells c e (0, 0))) (hc : c[o]? = some (.string n)) (hk : K n) : ldS h b o K := ⟨n, (cell_block hb).trans hc, hk⟩

theorem put2 {h : Heap} {b o : Nat} {v : Value} {K : Heap → Prop} {c : Array Value} {e : TypeId} (hb : h[b]? = some (.cells c e (0, 0))) (ho : o < c.size) (hv : oneCell v = true)
    (hk : ∀ h', h'[b]? = some (.cells (c.setIfInBounds o v) e (0, 0)) → Upd (· = b) h h' → h'.size = h.size → K h') : st h b o v K := by
  refine ⟨⟨c[o], by rw [cell_block hb]; simp [ho]⟩, ?_, hv, hk _ (put_block hb) (Upd.put h b o v) put_size⟩
  unfold Heap.froz; rw [hb]; simp

theorem deref_ {b o : Nat} {K : Nat → Nat → Prop} (hk : K b o) : derefP (some ⟨b, o, none⟩) K := ⟨b, o, rfl, hk⟩

theorem ldBk {h : Heap} {b o : Nat} {n : Bool} {c : Array Value} {e : TypeId} {K : Bool → Prop} (hb : h[b]? = some (.cells c e (0, 0))) (hc : c[o]? = some (.bool n)) (hk : K n) : ldB h b o K := ⟨n, (cell_block hb).trans hc, hk⟩

theorem ldLk {h : Heap} {b o : Nat} {s : Sl} {c : Array Value} {e : TypeId} {K : Sl → Prop} (hb : h[b]? = some (.cells c e (0, 0))) (hc : c[o]? = some (slV s)) (hk : K s) : ldL h b o K := ⟨s, (cell_block hb).trans hc, hk⟩

theorem stsAll {h : Heap} {b : Nat} {vs : List Value} {c : Array Value} {e : TypeId} {K : Heap → Prop} (hb : h[b]? = some (.cells c e (0, 0))) (hc : c.size = vs.length) (hv : vs.all oneCell = true)
    (hk : ∀ h', h'[b]? = some (.cells vs.toArray e (0, 0)) → Upd (· = b) h h' → h'.size = h.size → K h') : sts h b 0 vs K := by
  refine ⟨free_block hb (by omega), hv, hk _ ?_ (Upd.puts h b 0 vs) puts_size⟩
  obtain ⟨c', hc', hl⟩ := puts_block (vs := vs) (o := 0) hb (by omega)
  rw [hc']
  have : c' = vs.toArray := by
    apply Array.ext'
    rw [hl]
    simp
    omega
  rw [this]

theorem keepB {h h' : Heap} {b k : Nat} {x : Obj} (hq : h[b]? = some x) (hu : Upd (· = k) h h') (hne : b ≠ k) : h'[b]? = some x := by
  have hl : b < h.size := by
    rcases Nat.lt_or_ge b h.size with hl | hl
    · exact hl
    · rw [Array.getElem?_eq_none hl] at hq; cases hq
  rw [hu.old b hl hne]; exact hq

theorem keepE {h h' : Heap} {b : Nat} {x : Obj} (hq : h[b]? = some x) (hu : Ext h h') : h'[b]? = some x := by
  have hl : b < h.size := by
    rcases Nat.lt_or_ge b h.size with hl | hl
    · exact hl
    · rw [Array.getElem?_eq_none hl] at hq; cases hq
  rw [hu.old b hl]; exact hq

theorem Upd.then {S T : Nat → Prop} {a b c : Heap} (h : Upd S a b) (h' : Upd T b c) (hs : ∀ k, k < a.size → T k → S k) : Upd S a c :=
  ⟨Nat.le_trans h.size h'.size, fun k hk hn => (h'.old k (Nat.lt_of_lt_of_le hk h.size) fun hT => hn (hs k hk hT)).trans (h.old k hk hn)⟩

theorem wrapU64 {n : Int} (h0 : 0 ≤ n) (h1 : n < 18446744073709551616) : IntKind.wrap .u64 n = n := by
  unfold IntKind.wrap
  have hb : (2 : Int) ^ IntKind.u64.bits = 18446744073709551616 := by decide
  have hs : IntKind.u64.signed = false := rfl
  simp only [hb, hs, Bool.false_and, Bool.false_eq_true, if_false]
  omega

abbrev iv (n : Int) : Value := .int .i64 n
abbrev Ints (h : Heap) (s : Sl) (l : List Int) : Prop := Row h s 1 (l.map iv)
theorem Ints.length {h : Heap} {s : Sl} {l : List Int} (hb : Ints h s l) : s.len = l.length := by
  have := hb.len; simp at this; omega
theorem Ints.idx {h : Heap} {s : Sl} {l : List Int} (hr : Ints h s l) {i : Int} {n : Nat} (hi : i = n) {x : Int} (hv : l[n]? = some x) {K : Int → Prop} (hk : K x) :
    idxA s.ptr s.len i 1 fun b o => ldI h b o .i64 K :=
  Row.idx hr hi (v := iv x) (by simp [hv]) fun _ _ _ hc => ⟨_, hc, hk⟩
theorem blk_lt {h : Heap} {b : Nat} {x : Obj} (hq : h[b]? = some x) : b < h.size := by
  rcases Nat.lt_or_ge b h.size with hl | hl
  · exact hl
  · rw [Array.getElem?_eq_none hl] at hq; cases hq

/-! ### rows of records -/
theorem flat_len {α : Type} {f : α → List Value} {n : Nat} (hf : ∀ a, (f a).length = n) : ∀ l : List α, (l.flatMap f).length = l.length * n
  | [] => by simp
  | a :: l => by rw [List.flatMap_cons, List.length_append, hf, flat_len hf l, List.length_cons, Nat.succ_mul]; omega
theorem flat_get {α : Type} {f : α → List Value} {n : Nat} (hf : ∀ a, (f a).length = n) : ∀ (l : List α) (i m : Nat) (a : α), l[i]? = some a → m < n → (l.flatMap f)[i * n + m]? = (f a)[m]?
  | [], i, m, a, h, _ => by simp at h
  | x :: l, 0, m, a, h, hm => by
    simp only [List.getElem?_cons_zero, Option.some.injEq] at h
    subst h
    rw [List.flatMap_cons, Nat.zero_mul, Nat.zero_add, List.getElem?_append_left (by rw [hf]; exact hm)]
  | x :: l, i + 1, m, a, h, hm => by
    rw [List.flatMap_cons, List.getElem?_append_right (by rw [hf, Nat.succ_mul]; omega), hf]
    have e : (i + 1) * n + m - n = i * n + m := by rw [Nat.succ_mul]; omega
    rw [e]
    exact flat_get hf l i m a (by simpa using h) hm
theorem flat_set {α : Type} {f : α → List Value} {n : Nat} (hf : ∀ a, (f a).length = n) : ∀ (l : List α) (i m : Nat) (v : Value) (a b : α), l[i]? = some a → m < n → f b = (f a).set m v → (l.flatMap f).set (i * n + m) v = (l.set i b).flatMap f
  | [], i, m, v, a, b, h, _, _ => by simp at h
  | x :: l, 0, m, v, a, b, h, hm, hb => by
    simp only [List.getElem?_cons_zero, Option.some.injEq] at h
    subst h
    rw [List.flatMap_cons, Nat.zero_mul, Nat.zero_add, List.set_append_left _ _ (by rw [hf]; exact hm), List.set_cons_zero, List.flatMap_cons, hb]
  | x :: l, i + 1, m, v, a, b, h, hm, hb => by
    rw [List.flatMap_cons, List.set_append_right _ _ (by rw [hf, Nat.succ_mul]; omega), hf]
    have e : (i + 1) * n + m - n = i * n + m := by rw [Nat.succ_mul]; omega
    rw [e, flat_set hf l i m v a b (by simpa using h) hm hb, List.set_cons_succ, List.flatMap_cons]

theorem Own.ptr_ {h : Heap} {base : Nat} {s : Sl} {size : Nat} {vs : List Value} (ho : Own h base s size vs) {o : Nat} (hl : o < vs.length) : ∃ b, s.ptr = some ⟨b, 0, none⟩ ∧ s.blk = some b := by
  rcases ho.at_ with ⟨_, h0⟩ | ⟨b, c, e, hp, _⟩
  · have h1 := ho.cap
    have h2 := ho.len
    have : s.len = 0 := by omega
    rw [this, Nat.zero_mul] at h2
    omega
  · exact ⟨b, hp, by simp [Sl.blk, hp]⟩
theorem Own.cell_ {h : Heap} {base : Nat} {s : Sl} {size : Nat} {vs : List Value} (ho : Own h base s size vs) {b o : Nat} (hb : s.blk = some b) {v : Value} (hv : vs[o]? = some v) : h.cell b o = some v := by
  rcases ho.at_ with ⟨hp, _⟩ | ⟨b', c, e, hp, _, hc, _, hvs⟩
  · simp [Sl.blk, hp] at hb
  · simp [Sl.blk, hp] at hb
    subst hb
    rw [cell_block hc]
    rw [hvs, List.getElem?_take] at hv
    split at hv
    · simpa using hv
    · cases hv
theorem Own.stCell {h : Heap} {base : Nat} {s : Sl} {size : Nat} {vs : List Value} (ho : Own h base s size vs) {b o : Nat} (hb : s.blk = some b) (hl : o < vs.length) {v : Value} (hv : oneCell v = true) {K : Heap → Prop}
    (hk : ∀ h', Own h' base s size (vs.set o v) → Upd (fun k => s.blk = some k) h h' → h'.size = h.size → K h') : st h b o v K := by
  have hlen := ho.len
  rcases ho.at_ with ⟨hp, _⟩ | ⟨b', c, e, hp, hbb, hc, hcs, hvs⟩
  · simp [Sl.blk, hp] at hb
  · have hb' := hb
    simp [Sl.blk, hp] at hb
    subst hb
    have hlc : o < c.size := by
      have := congrArg List.length hvs
      simp at this
      omega
    refine put2 hc hlc hv fun h' c' u' z' => hk h' ⟨by simpa using hlen, ho.cap, ho.big, .inr ⟨b', _, e, hp, hbb, c', by simpa using hcs, ?_⟩⟩ (u'.mono fun k _ hk => by subst hk; exact hb') z'
    rw [hvs, Array.toList_setIfInBounds, List.take_set]

/-! ### a network: what it says -/
structure Side where
  way : List UInt8
  come : List UInt8
  x : Bool
structure Cn where
  s0 : Side
  s1 : Side
  port : Int
  brk : Bool
structure Rw where
  w0 : Sl
  c0 : Sl
  w1 : Sl
  c1 : Sl
abbrev Q := Rw × Cn
def qC (q : Q) : List Value := [slV q.1.w0, slV q.1.c0, .bool q.2.s0.x, slV q.1.w1, slV q.1.c1, .bool q.2.s1.x, .int .i64 q.2.port, .bool q.2.brk]
theorem qC_len (q : Q) : (qC q).length = 8 := rfl

/-- a row of bytes that only the place of this tag holds -/
structure RowT (h : Heap) (T : Nat → Option Nat) (x : Sl) (tag : Nat) (l : List UInt8) : Prop where
  own : Own h 0 x 1 (l.map bv)
  tag : ∀ k, x.blk = some k → T k = some tag
structure QR (h : Heap) (T : Nat → Option Nat) (i : Nat) (q : Q) : Prop where
  w0 : RowT h T q.1.w0 (4 * i + 3) q.2.s0.way
  c0 : RowT h T q.1.c0 (4 * i + 4) q.2.s0.come
  w1 : RowT h T q.1.w1 (4 * i + 5) q.2.s1.way
  c1 : RowT h T q.1.c1 (4 * i + 6) q.2.s1.come

/-- a map of numbers that are there -/
structure KeysI (es : Array MapEntry) (ps : Int → Bool) : Prop where
  key : ∀ x, x ∈ es.toList → ∃ n, x.key = iv n ∧ x.val = .bool true
  apart : es.toList.Pairwise fun x y => x.key ≠ y.key
  has : ∀ n, ps n = true ↔ ∃ x, x ∈ es.toList ∧ x.key = iv n
def PortsR (h : Heap) (mb : Nat) (ps : Int → Bool) : Prop :=
  ∃ es c, h[mb]? = some (.map es c) ∧ KeysI es ps

/-- the network at block nb: T tells what each of its blocks is for -/
structure NetR (h : Heap) (T : Nat → Option Nat) (nb mb : Nat) (s : Sl) (ps : Int → Bool) (qs : List Q) : Prop where
  cells : h[nb]? = some (.cells #[.map (some mb), slV s] 60 (0, 0))
  tn : T nb = some 0
  ports : PortsR h mb ps
  tm : T mb = some 1
  row : Own h 0 s 8 (qs.flatMap qC)
  tr : ∀ k, s.blk = some k → T k = some 2
  each : ∀ i q, qs[i]? = some q → QR h T i q
  lt : ∀ k, T k ≠ none → k < h.size

def Net (h : Heap) (T : Nat → Option Nat) (nb : Nat) (ps : Int → Bool) (cs : List Cn) : Prop := ∃ mb s qs, NetR h T nb mb s ps qs ∧ qs.map (·.2) = cs

/-- one step of a network: it writes its own blocks alone, and takes new ones -/
structure Stp (T T' : Nat → Option Nat) (h h' : Heap) : Prop where
  upd : Upd (fun k => T k ≠ none) h h'
  new : ∀ k, T' k ≠ none → T k ≠ none ∨ h.size ≤ k
theorem Stp.refl (T : Nat → Option Nat) (h : Heap) : Stp T T h h := ⟨Upd.refl _ _, fun _ h => .inl h⟩
theorem Stp.trans {T T' T'' : Nat → Option Nat} {a b c : Heap} (h : Stp T T' a b) (h' : Stp T' T'' b c) : Stp T T'' a c := by
  refine ⟨Upd.then h.upd h'.upd fun k hk hT => ?_, fun k hk => ?_⟩
  · rcases h.new k hT with h1 | h1
    · exact h1
    · omega
  · have := h.upd.size
    rcases h'.new k hk with h1 | h1
    · exact h.new k h1
    · exact .inr (by omega)
theorem Stp.ext {T T' : Nat → Option Nat} {a b c : Heap} (h : Ext a b) (h' : Stp T T' b c) (hT : ∀ k, T k ≠ none → a.size ≤ k) : Ext a c := h.then h'.upd hT
theorem Stp.low {T T' : Nat → Option Nat} {a b c : Heap} (h : Ext a b) (h' : Stp T T' b c) (hT : ∀ k, T k ≠ none → a.size ≤ k) : ∀ k, T' k ≠ none → a.size ≤ k := fun k hk => by
  have := h.size
  rcases h'.new k hk with h1 | h1
  · exact hT k h1
  · omega

theorem RowT.congr {h h' : Heap} {T : Nat → Option Nat} {x : Sl} {tag : Nat} {l : List UInt8} (hr : RowT h T x tag l) (he : ∀ k, T k = some tag → k < h.size → h'[k]? = h[k]?) : RowT h' T x tag l :=
  ⟨hr.own.congr fun k hk hl _ => he k (hr.tag k hk) hl, hr.tag⟩
theorem RowT.tags {h : Heap} {T T' : Nat → Option Nat} {x : Sl} {tag : Nat} {l : List UInt8} (hr : RowT h T x tag l) (he : ∀ k, T k ≠ none → T' k = T k) : RowT h T' x tag l :=
  ⟨hr.own, fun k hk => by have := hr.tag k hk; rw [he k (by rw [this]; simp), this]⟩
theorem NetR.congr {h h' : Heap} {T : Nat → Option Nat} {nb mb : Nat} {s : Sl} {ps : Int → Bool} {qs : List Q} (hn : NetR h T nb mb s ps qs) (he : ∀ k, T k ≠ none → k < h.size → h'[k]? = h[k]?) (hs : h.size ≤ h'.size) : NetR h' T nb mb s ps qs := by
  have hm := hn.ports
  refine ⟨?_, hn.tn, ?_, hn.tm, ?_, hn.tr, fun i q hq => ?_, fun k hk => Nat.lt_of_lt_of_le (hn.lt k hk) hs⟩
  · rw [he nb (by rw [hn.tn]; simp) (blk_lt hn.cells)]; exact hn.cells
  · obtain ⟨es, c, hb, hr⟩ := hm
    exact ⟨es, c, by rw [he mb (by rw [hn.tm]; simp) (blk_lt hb)]; exact hb, hr⟩
  · exact hn.row.congr fun k hk hl _ => he k (by rw [hn.tr k hk]; simp) hl
  · obtain ⟨a, b, c, d⟩ := hn.each i q hq
    exact ⟨a.congr fun k hk => he k (by rw [hk]; simp), b.congr fun k hk => he k (by rw [hk]; simp), c.congr fun k hk => he k (by rw [hk]; simp), d.congr fun k hk => he k (by rw [hk]; simp)⟩
theorem NetR.upd {h h' : Heap} {T : Nat → Option Nat} {nb mb : Nat} {s : Sl} {ps : Int → Bool} {qs : List Q} {S : Nat → Prop} (hn : NetR h T nb mb s ps qs) (hu : Upd S h h') (hd : ∀ k, k < h.size → S k → T k = none) : NetR h' T nb mb s ps qs :=
  hn.congr (fun k hk hl => hu.old k hl fun hS => hk (hd k hl hS)) hu.size
theorem NetR.ext {h h' : Heap} {T : Nat → Option Nat} {nb mb : Nat} {s : Sl} {ps : Int → Bool} {qs : List Q} (hn : NetR h T nb mb s ps qs) (he : Ext h h') : NetR h' T nb mb s ps qs :=
  hn.congr (fun k _ hl => he.old k hl) he.size
theorem Net.upd {h h' : Heap} {T : Nat → Option Nat} {nb : Nat} {ps : Int → Bool} {cs : List Cn} {S : Nat → Prop} (hn : Net h T nb ps cs) (hu : Upd S h h') (hd : ∀ k, k < h.size → S k → T k = none) : Net h' T nb ps cs := by
  obtain ⟨mb, s, qs, hr, hc⟩ := hn
  exact ⟨mb, s, qs, hr.upd hu hd, hc⟩
theorem Net.ext {h h' : Heap} {T : Nat → Option Nat} {nb : Nat} {ps : Int → Bool} {cs : List Cn} (hn : Net h T nb ps cs) (he : Ext h h') : Net h' T nb ps cs := hn.upd (he.upd fun _ => False) fun _ _ h => h.elim

/-! ### the slots of a connection -/
def Rw.get (r : Rw) (e c : Nat) : Sl := if e = 0 then (if c = 0 then r.w0 else r.c0) else (if c = 0 then r.w1 else r.c1)
def Rw.put (r : Rw) (e c : Nat) (x : Sl) : Rw := if e = 0 then (if c = 0 then { r with w0 := x } else { r with c0 := x }) else (if c = 0 then { r with w1 := x } else { r with c1 := x })
def Cn.side (q : Cn) (e : Nat) : Side := if e = 0 then q.s0 else q.s1
def Cn.putS (q : Cn) (e : Nat) (s : Side) : Cn := if e = 0 then { q with s0 := s } else { q with s1 := s }
def Side.get (s : Side) (c : Nat) : List UInt8 := if c = 0 then s.way else s.come
def Side.put (s : Side) (c : Nat) (l : List UInt8) : Side := if c = 0 then { s with way := l } else { s with come := l }
def Q.put (q : Q) (e c : Nat) (x : Sl) (l : List UInt8) : Q := (q.1.put e c x, q.2.putS e ((q.2.side e).put c l))

theorem two (e : Nat) (h : e < 2) : e = 0 ∨ e = 1 := by omega
theorem QR.get {h : Heap} {T : Nat → Option Nat} {i : Nat} {q : Q} (hq : QR h T i q) {e c : Nat} (he : e < 2) (hc : c < 2) : RowT h T (q.1.get e c) (4 * i + 3 + 2 * e + c) ((q.2.side e).get c) := by
  rcases two e he with rfl | rfl <;> rcases two c hc with rfl | rfl
  · exact hq.w0
  · exact hq.c0
  · exact hq.w1
  · exact hq.c1
theorem qC_get (q : Q) {e c : Nat} (he : e < 2) (hc : c < 2) : (qC q)[e * 3 + c]? = some (slV (q.1.get e c)) := by
  rcases two e he with rfl | rfl <;> rcases two c hc with rfl | rfl <;> rfl
theorem qC_shut (q : Q) {e : Nat} (he : e < 2) : (qC q)[e * 3 + 2]? = some (.bool (q.2.side e).x) := by
  rcases two e he with rfl | rfl <;> rfl
theorem qC_put (q : Q) {e c : Nat} (he : e < 2) (hc : c < 2) (x : Sl) (l : List UInt8) : qC (Q.put q e c x l) = (qC q).set (e * 3 + c) (slV x) := by
  rcases two e he with rfl | rfl <;> rcases two c hc with rfl | rfl <;> rfl
theorem qC_putX (q : Q) {e : Nat} (he : e < 2) (x : Bool) : qC (q.1, q.2.putS e { q.2.side e with x := x }) = (qC q).set (e * 3 + 2) (.bool x) := by
  rcases two e he with rfl | rfl <;> rfl
theorem QR.put {h : Heap} {T : Nat → Option Nat} {i : Nat} {q : Q} (hq : QR h T i q) {e c : Nat} (he : e < 2) (hc : c < 2) {x : Sl} {l : List UInt8} (hx : RowT h T x (4 * i + 3 + 2 * e + c) l) : QR h T i (Q.put q e c x l) := by
  rcases two e he with rfl | rfl <;> rcases two c hc with rfl | rfl
  · exact ⟨hx, hq.c0, hq.w1, hq.c1⟩
  · exact ⟨hq.w0, hx, hq.w1, hq.c1⟩
  · exact ⟨hq.w0, hq.c0, hx, hq.c1⟩
  · exact ⟨hq.w0, hq.c0, hq.w1, hx⟩
theorem QR.putX {h : Heap} {T : Nat → Option Nat} {i : Nat} {q : Q} (hq : QR h T i q) {e : Nat} (he : e < 2) (x : Bool) : QR h T i (q.1, q.2.putS e { q.2.side e with x := x }) := by
  rcases two e he with rfl | rfl
  · exact ⟨hq.w0, hq.c0, hq.w1, hq.c1⟩
  · exact ⟨hq.w0, hq.c0, hq.w1, hq.c1⟩

end Go.Proofs.Ytgkgheaanfgecaa
