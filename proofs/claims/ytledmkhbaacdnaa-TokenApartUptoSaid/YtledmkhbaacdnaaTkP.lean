/- Requests and answers as bytes; frames. (gathered by carve.py out of texts proved for other seats) -/
import Derived.Test.YtledmkhbaacdnaaM
import Derived.Test.YtledmkhbaacdnaaFwU
import Derived.Test.YtledmkhbaacdnaaArg
import Derived.Laws.Strings
import Derived.MapKept
namespace Go.Proofs.Ytledmkhbaacdnaa
open Go Go.Fw

theorem newK {h : Heap} {cells : List Value} {t : TypeId} {K : Nat → Heap → Prop} (hk : ∀ h1, h1[h.size]? = some (.cells cells.toArray t (0, 0)) → Ext h h1 → h1.size = h.size + 1 → K h.size h1) : newC h cells t K :=
  newC_intro (hk _ push_new (Ext.push _ _) (by simp))

theorem ldIk {h : Heap} {b o : Nat} {k : IntKind} {n : Int} {c : Array Value} {e : TypeId} {K : Int → Prop} (hb : h[b]? = some (.cells c e (0, 0))) (hc : c[o]? = some (.int k n)) (hk : K n) : ldI h b o k K := ⟨n, (cell_block hb).trans hc, hk⟩

theorem ldSk {h : Heap} {b o : Nat} {n : ByteArray} {c : Array Value} {e : TypeId} {K : ByteArray → Prop} (hb : h[b]? = some (.cells c e (0, 0))) (hc : c[o]? = some (.string n)) (hk : K n) : ldS h b o K := ⟨n, (cell_block hb).trans hc, hk⟩

theorem put2 {h : Heap} {b o : Nat} {v : Value} {K : Heap → Prop} {c : Array Value} {e : TypeId} (hb : h[b]? = some (.cells c e (0, 0))) (ho : o < c.size) (hv : oneCell v = true)
    (hk : ∀ h', h'[b]? = some (.cells (c.setIfInBounds o v) e (0, 0)) → Upd (· = b) h h' → h'.size = h.size → K h') : st h b o v K := by
  refine ⟨⟨c[o], by rw [cell_block hb]; simp [ho]⟩, ?_, hv, hk _ (put_block hb) (Upd.put h b o v) put_size⟩
  unfold Heap.froz; rw [hb]; simp

theorem deref_ {b o : Nat} {K : Nat → Nat → Prop} (hk : K b o) : derefP (some ⟨b, o, none⟩) K := ⟨b, o, rfl, hk⟩

theorem ldBk {h : Heap} {b o : Nat} {n : Bool} {c : Array Value} {e : TypeId} {K : Bool → Prop} (hb : h[b]? = some (.cells c e (0, 0))) (hc : c[o]? = some (.bool n)) (hk : K n) : ldB h b o K := ⟨n, (cell_block hb).trans hc, hk⟩

theorem ldLk {h : Heap} {b o : Nat} {s : Sl} {c : Array Value} {e : TypeId} {K : Sl → Prop} (hb : h[b]? = some (.cells c e (0, 0))) (hc : c[o]? = some (slV s)) (hk : K s) : ldL h b o K := ⟨s, (cell_block hb).trans hc, hk⟩

theorem stsAll {h : Heap} {b : Nat} {vs : List Value} {c : Array Value} {e : TypeId} {K : Heap → Prop} (hb : h[b]? = some (.cells c e (0, 0))) (hc : c.size = vs.length) (hv : vs.all oneCell = true)
    (hk : ∀ h', h'[b]? = some (.cells vs.toArray e (0, 0)) → Upd (· = b) h h' → h'.size = h.size → K h') : sts h b 0 vs K := by
  refine ⟨free_block hb (by omega), hv, hk _ ?_ (Upd.puts h b 0 vs) puts_size⟩
  obtain ⟨c', hc', hl⟩ := puts_block (vs := vs) (o := 0) hb (by omega)
  rw [hc']
  have : c' = vs.toArray := by
    apply Array.ext'
    rw [hl]
    simp
    omega
  rw [this]

theorem keepB {h h' : Heap} {b k : Nat} {x : Obj} (hq : h[b]? = some x) (hu : Upd (· = k) h h') (hne : b ≠ k) : h'[b]? = some x := by
  have hl : b < h.size := by
    rcases Nat.lt_or_ge b h.size with hl | hl
    · exact hl
    · rw [Array.getElem?_eq_none hl] at hq; cases hq
  rw [hu.old b hl hne]; exact hq

theorem keepE {h h' : Heap} {b : Nat} {x : Obj} (hq : h[b]? = some x) (hu : Ext h h') : h'[b]? = some x := by
  have hl : b < h.size := by
    rcases Nat.lt_or_ge b h.size with hl | hl
    · exact hl
    · rw [Array.getElem?_eq_none hl] at hq; cases hq
  rw [hu.old b hl]; exact hq

theorem Upd.then {S T : Nat → Prop} {a b c : Heap} (h : Upd S a b) (h' : Upd T b c) (hs : ∀ k, k < a.size → T k → S k) : Upd S a c :=
  ⟨Nat.le_trans h.size h'.size, fun k hk hn => (h'.old k (Nat.lt_of_lt_of_le hk h.size) fun hT => hn (hs k hk hT)).trans (h.old k hk hn)⟩

theorem wrapU64 {n : Int} (h0 : 0 ≤ n) (h1 : n < 18446744073709551616) : IntKind.wrap .u64 n = n := by
  unfold IntKind.wrap
  have hb : (2 : Int) ^ IntKind.u64.bits = 18446744073709551616 := by decide
  have hs : IntKind.u64.signed = false := rfl
  simp only [hb, hs, Bool.false_and, Bool.false_eq_true, if_false]
  omega

abbrev iv (n : Int) : Value := .int .i64 n

abbrev Ints (h : Heap) (s : Sl) (l : List Int) : Prop := Row h s 1 (l.map iv)

theorem Ints.length {h : Heap} {s : Sl} {l : List Int} (hb : Ints h s l) : s.len = l.length := by
  have := hb.len; simp at this; omega

theorem Ints.idx {h : Heap} {s : Sl} {l : List Int} (hr : Ints h s l) {i : Int} {n : Nat} (hi : i = n) {x : Int} (hv : l[n]? = some x) {K : Int → Prop} (hk : K x) :
    idxA s.ptr s.len i 1 fun b o => ldI h b o .i64 K :=
  Row.idx hr hi (v := iv x) (by simp [hv]) fun _ _ _ hc => ⟨_, hc, hk⟩

theorem blk_lt {h : Heap} {b : Nat} {x : Obj} (hq : h[b]? = some x) : b < h.size := by
  rcases Nat.lt_or_ge b h.size with hl | hl
  · exact hl
  · rw [Array.getElem?_eq_none hl] at hq; cases hq

theorem flat_len {α : Type} {f : α → List Value} {n : Nat} (hf : ∀ a, (f a).length = n) : ∀ l : List α, (l.flatMap f).length = l.length * n
  | [] => by simp
  | a :: l => by rw [List.flatMap_cons, List.length_append, hf, flat_len hf l, List.length_cons, Nat.succ_mul]; omega

theorem flat_get {α : Type} {f : α → List Value} {n : Nat} (hf : ∀ a, (f a).length = n) : ∀ (l : List α) (i m : Nat) (a : α), l[i]? = some a → m < n → (l.flatMap f)[i * n + m]? = (f a)[m]?
  | [], i, m, a, h, _ => by simp at h
  | x :: l, 0, m, a, h, hm => by
    simp only [List.getElem?_cons_zero, Option.some.injEq] at h
    subst h
    rw [List.flatMap_cons, Nat.zero_mul, Nat.zero_add, List.getElem?_append_left (by rw [hf]; exact hm)]
  | x :: l, i + 1, m, a, h, hm => by
    rw [List.flatMap_cons, List.getElem?_append_right (by rw [hf, Nat.succ_mul]; omega), hf]
    have e : (i + 1) * n + m - n = i * n + m := by rw [Nat.succ_mul]; omega
    rw [e]
    exact flat_get hf l i m a (by simpa using h) hm

theorem flat_set {α : Type} {f : α → List Value} {n : Nat} (hf : ∀ a, (f a).length = n) : ∀ (l : List α) (i m : Nat) (v : Value) (a b : α), l[i]? = some a → m < n → f b = (f a).set m v → (l.flatMap f).set (i * n + m) v = (l.set i b).flatMap f
  | [], i, m, v, a, b, h, _, _ => by simp at h
  | x :: l, 0, m, v, a, b, h, hm, hb => by
    simp only [List.getElem?_cons_zero, Option.some.injEq] at h
    subst h
    rw [List.flatMap_cons, Nat.zero_mul, Nat.zero_add, List.set_append_left _ _ (by rw [hf]; exact hm), List.set_cons_zero, List.flatMap_cons, hb]
  | x :: l, i + 1, m, v, a, b, h, hm, hb => by
    rw [List.flatMap_cons, List.set_append_right _ _ (by rw [hf, Nat.succ_mul]; omega), hf]
    have e : (i + 1) * n + m - n = i * n + m := by rw [Nat.succ_mul]; omega
    rw [e, flat_set hf l i m v a b (by simpa using h) hm hb, List.set_cons_succ, List.flatMap_cons]

theorem Own.ptr_ {h : Heap} {base : Nat} {s : Sl} {size : Nat} {vs : List Value} (ho : Own h base s size vs) {o : Nat} (hl : o < vs.length) : ∃ b, s.ptr = some ⟨b, 0, none⟩ ∧ s.blk = some b := by
  rcases ho.at_ with ⟨_, h0⟩ | ⟨b, c, e, hp, _⟩
  · have h1 := ho.cap
    have h2 := ho.len
    have : s.len = 0 := by omega
    rw [this, Nat.zero_mul] at h2
    omega
  · exact ⟨b, hp, by simp [Sl.blk, hp]⟩

theorem Own.cell_ {h : Heap} {base : Nat} {s : Sl} {size : Nat} {vs : List Value} (ho : Own h base s size vs) {b o : Nat} (hb : s.blk = some b) {v : Value} (hv : vs[o]? = some v) : h.cell b o = some v := by
  rcases ho.at_ with ⟨hp, _⟩ | ⟨b', c, e, hp, _, hc, _, hvs⟩
  · simp [Sl.blk, hp] at hb
  · simp [Sl.blk, hp] at hb
    subst hb
    rw [cell_block hc]
    rw [hvs, List.getElem?_take] at hv
    split at hv
    · simpa using hv
    · cases hv

theorem Own.stCell {h : Heap} {base : Nat} {s : Sl} {size : Nat} {vs : List Value} (ho : Own h base s size vs) {b o : Nat} (hb : s.blk = some b) (hl : o < vs.length) {v : Value} (hv : oneCell v = true) {K : Heap → Prop}
    (hk : ∀ h', Own h' base s size (vs.set o v) → Upd (fun k => s.blk = some k) h h' → h'.size = h.size → K h') : st h b o v K := by
  have hlen := ho.len
  rcases ho.at_ with ⟨hp, _⟩ | ⟨b', c, e, hp, hbb, hc, hcs, hvs⟩
  · simp [Sl.blk, hp] at hb
  · have hb' := hb
    simp [Sl.blk, hp] at hb
    subst hb
    have hlc : o < c.size := by
      have := congrArg List.length hvs
      simp at this
      omega
    refine put2 hc hlc hv fun h' c' u' z' => hk h' ⟨by simpa using hlen, ho.cap, ho.big, .inr ⟨b', _, e, hp, hbb, c', by simpa using hcs, ?_⟩⟩ (u'.mono fun k _ hk => by subst hk; exact hb') z'
    rw [hvs, Array.toList_setIfInBounds, List.take_set]

structure Side where
  way : List UInt8
  come : List UInt8
  x : Bool

structure Cn where
  s0 : Side
  s1 : Side
  port : Int
  brk : Bool

structure Rw where
  w0 : Sl
  c0 : Sl
  w1 : Sl
  c1 : Sl

abbrev Q := Rw × Cn

def qC (q : Q) : List Value := [slV q.1.w0, slV q.1.c0, .bool q.2.s0.x, slV q.1.w1, slV q.1.c1, .bool q.2.s1.x, .int .i64 q.2.port, .bool q.2.brk]

theorem qC_len (q : Q) : (qC q).length = 8 := rfl

/-- a row of bytes that only the place of this tag holds -/
structure RowT (h : Heap) (T : Nat → Option Nat) (x : Sl) (tag : Nat) (l : List UInt8) : Prop where
  own : Own h 0 x 1 (l.map bv)
  tag : ∀ k, x.blk = some k → T k = some tag

structure QR (h : Heap) (T : Nat → Option Nat) (i : Nat) (q : Q) : Prop where
  w0 : RowT h T q.1.w0 (4 * i + 3) q.2.s0.way
  c0 : RowT h T q.1.c0 (4 * i + 4) q.2.s0.come
  w1 : RowT h T q.1.w1 (4 * i + 5) q.2.s1.way
  c1 : RowT h T q.1.c1 (4 * i + 6) q.2.s1.come

/-- a map of numbers that are there -/
structure KeysI (es : Array MapEntry) (ps : Int → Bool) : Prop where
  key : ∀ x, x ∈ es.toList → ∃ n, x.key = iv n ∧ x.val = .bool true
  apart : es.toList.Pairwise fun x y => x.key ≠ y.key
  has : ∀ n, ps n = true ↔ ∃ x, x ∈ es.toList ∧ x.key = iv n

def PortsR (h : Heap) (mb : Nat) (ps : Int → Bool) : Prop :=
  ∃ es c, h[mb]? = some (.map es c) ∧ KeysI es ps

/-- the network at block nb: T tells what each of its blocks is for -/
structure NetR (h : Heap) (T : Nat → Option Nat) (nb mb : Nat) (s : Sl) (ps : Int → Bool) (qs : List Q) : Prop where
  cells : h[nb]? = some (.cells #[.map (some mb), slV s] 60 (0, 0))
  tn : T nb = some 0
  ports : PortsR h mb ps
  tm : T mb = some 1
  row : Own h 0 s 8 (qs.flatMap qC)
  tr : ∀ k, s.blk = some k → T k = some 2
  each : ∀ i q, qs[i]? = some q → QR h T i q
  lt : ∀ k, T k ≠ none → k < h.size

def Net (h : Heap) (T : Nat → Option Nat) (nb : Nat) (ps : Int → Bool) (cs : List Cn) : Prop := ∃ mb s qs, NetR h T nb mb s ps qs ∧ qs.map (·.2) = cs

/-- one step of a network: it writes its own blocks alone, and takes new ones -/
structure Stp (T T' : Nat → Option Nat) (h h' : Heap) : Prop where
  upd : Upd (fun k => T k ≠ none) h h'
  new : ∀ k, T' k ≠ none → T k ≠ none ∨ h.size ≤ k

theorem Stp.refl (T : Nat → Option Nat) (h : Heap) : Stp T T h h := ⟨Upd.refl _ _, fun _ h => .inl h⟩

theorem Stp.trans {T T' T'' : Nat → Option Nat} {a b c : Heap} (h : Stp T T' a b) (h' : Stp T' T'' b c) : Stp T T'' a c := by
  refine ⟨Upd.then h.upd h'.upd fun k hk hT => ?_, fun k hk => ?_⟩
  · rcases h.new k hT with h1 | h1
    · exact h1
    · omega
  · have := h.upd.size
    rcases h'.new k hk with h1 | h1
    · exact h.new k h1
    · exact .inr (by omega)

theorem Stp.ext {T T' : Nat → Option Nat} {a b c : Heap} (h : Ext a b) (h' : Stp T T' b c) (hT : ∀ k, T k ≠ none → a.size ≤ k) : Ext a c := h.then h'.upd hT

theorem Stp.low {T T' : Nat → Option Nat} {a b c : Heap} (h : Ext a b) (h' : Stp T T' b c) (hT : ∀ k, T k ≠ none → a.size ≤ k) : ∀ k, T' k ≠ none → a.size ≤ k := fun k hk => by
  have := h.size
  rcases h'.new k hk with h1 | h1
  · exact hT k h1
  · omega

theorem RowT.congr {h h' : Heap} {T : Nat → Option Nat} {x : Sl} {tag : Nat} {l : List UInt8} (hr : RowT h T x tag l) (he : ∀ k, T k = some tag → k < h.size → h'[k]? = h[k]?) : RowT h' T x tag l :=
  ⟨hr.own.congr fun k hk hl _ => he k (hr.tag k hk) hl, hr.tag⟩

theorem RowT.tags {h : Heap} {T T' : Nat → Option Nat} {x : Sl} {tag : Nat} {l : List UInt8} (hr : RowT h T x tag l) (he : ∀ k, T k ≠ none → T' k = T k) : RowT h T' x tag l :=
  ⟨hr.own, fun k hk => by have := hr.tag k hk; rw [he k (by rw [this]; simp), this]⟩

theorem NetR.congr {h h' : Heap} {T : Nat → Option Nat} {nb mb : Nat} {s : Sl} {ps : Int → Bool} {qs : List Q} (hn : NetR h T nb mb s ps qs) (he : ∀ k, T k ≠ none → k < h.size → h'[k]? = h[k]?) (hs : h.size ≤ h'.size) : NetR h' T nb mb s ps qs := by
  have hm := hn.ports
  refine ⟨?_, hn.tn, ?_, hn.tm, ?_, hn.tr, fun i q hq => ?_, fun k hk => Nat.lt_of_lt_of_le (hn.lt k hk) hs⟩
  · rw [he nb (by rw [hn.tn]; simp) (blk_lt hn.cells)]; exact hn.cells
  · obtain ⟨es, c, hb, hr⟩ := hm
    exact ⟨es, c, by rw [he mb (by rw [hn.tm]; simp) (blk_lt hb)]; exact hb, hr⟩
  · exact hn.row.congr fun k hk hl _ => he k (by rw [hn.tr k hk]; simp) hl
  · obtain ⟨a, b, c, d⟩ := hn.each i q hq
    exact ⟨a.congr fun k hk => he k (by rw [hk]; simp), b.congr fun k hk => he k (by rw [hk]; simp), c.congr fun k hk => he k (by rw [hk]; simp), d.congr fun k hk => he k (by rw [hk]; simp)⟩

theorem NetR.upd {h h' : Heap} {T : Nat → Option Nat} {nb mb : Nat} {s : Sl} {ps : Int → Bool} {qs : List Q} {S : Nat → Prop} (hn : NetR h T nb mb s ps qs) (hu : Upd S h h') (hd : ∀ k, k < h.size → S k → T k = none) : NetR h' T nb mb s ps qs :=
  hn.congr (fun k hk hl => hu.old k hl fun hS => hk (hd k hl hS)) hu.size

theorem NetR.ext {h h' : Heap} {T : Nat → Option Nat} {nb mb : Nat} {s : Sl} {ps : Int → Bool} {qs : List Q} (hn : NetR h T nb mb s ps qs) (he : Ext h h') : NetR h' T nb mb s ps qs :=
  hn.congr (fun k _ hl => he.old k hl) he.size

theorem Net.upd {h h' : Heap} {T : Nat → Option Nat} {nb : Nat} {ps : Int → Bool} {cs : List Cn} {S : Nat → Prop} (hn : Net h T nb ps cs) (hu : Upd S h h') (hd : ∀ k, k < h.size → S k → T k = none) : Net h' T nb ps cs := by
  obtain ⟨mb, s, qs, hr, hc⟩ := hn
  exact ⟨mb, s, qs, hr.upd hu hd, hc⟩

theorem Net.ext {h h' : Heap} {T : Nat → Option Nat} {nb : Nat} {ps : Int → Bool} {cs : List Cn} (hn : Net h T nb ps cs) (he : Ext h h') : Net h' T nb ps cs := hn.upd (he.upd fun _ => False) fun _ _ h => h.elim

def Rw.get (r : Rw) (e c : Nat) : Sl := if e = 0 then (if c = 0 then r.w0 else r.c0) else (if c = 0 then r.w1 else r.c1)

def Rw.put (r : Rw) (e c : Nat) (x : Sl) : Rw := if e = 0 then (if c = 0 then { r with w0 := x } else { r with c0 := x }) else (if c = 0 then { r with w1 := x } else { r with c1 := x })

def Cn.side (q : Cn) (e : Nat) : Side := if e = 0 then q.s0 else q.s1

def Cn.putS (q : Cn) (e : Nat) (s : Side) : Cn := if e = 0 then { q with s0 := s } else { q with s1 := s }

def Side.get (s : Side) (c : Nat) : List UInt8 := if c = 0 then s.way else s.come

def Side.put (s : Side) (c : Nat) (l : List UInt8) : Side := if c = 0 then { s with way := l } else { s with come := l }

def Q.put (q : Q) (e c : Nat) (x : Sl) (l : List UInt8) : Q := (q.1.put e c x, q.2.putS e ((q.2.side e).put c l))

theorem two (e : Nat) (h : e < 2) : e = 0 ∨ e = 1 := by omega

theorem QR.get {h : Heap} {T : Nat → Option Nat} {i : Nat} {q : Q} (hq : QR h T i q) {e c : Nat} (he : e < 2) (hc : c < 2) : RowT h T (q.1.get e c) (4 * i + 3 + 2 * e + c) ((q.2.side e).get c) := by
  rcases two e he with rfl | rfl <;> rcases two c hc with rfl | rfl
  · exact hq.w0
  · exact hq.c0
  · exact hq.w1
  · exact hq.c1

theorem qC_get (q : Q) {e c : Nat} (he : e < 2) (hc : c < 2) : (qC q)[e * 3 + c]? = some (slV (q.1.get e c)) := by
  rcases two e he with rfl | rfl <;> rcases two c hc with rfl | rfl <;> rfl

theorem qC_shut (q : Q) {e : Nat} (he : e < 2) : (qC q)[e * 3 + 2]? = some (.bool (q.2.side e).x) := by
  rcases two e he with rfl | rfl <;> rfl

theorem qC_put (q : Q) {e c : Nat} (he : e < 2) (hc : c < 2) (x : Sl) (l : List UInt8) : qC (Q.put q e c x l) = (qC q).set (e * 3 + c) (slV x) := by
  rcases two e he with rfl | rfl <;> rcases two c hc with rfl | rfl <;> rfl

theorem qC_putX (q : Q) {e : Nat} (he : e < 2) (x : Bool) : qC (q.1, q.2.putS e { q.2.side e with x := x }) = (qC q).set (e * 3 + 2) (.bool x) := by
  rcases two e he with rfl | rfl <;> rfl

theorem QR.put {h : Heap} {T : Nat → Option Nat} {i : Nat} {q : Q} (hq : QR h T i q) {e c : Nat} (he : e < 2) (hc : c < 2) {x : Sl} {l : List UInt8} (hx : RowT h T x (4 * i + 3 + 2 * e + c) l) : QR h T i (Q.put q e c x l) := by
  rcases two e he with rfl | rfl <;> rcases two c hc with rfl | rfl
  · exact ⟨hx, hq.c0, hq.w1, hq.c1⟩
  · exact ⟨hq.w0, hx, hq.w1, hq.c1⟩
  · exact ⟨hq.w0, hq.c0, hx, hq.c1⟩
  · exact ⟨hq.w0, hq.c0, hq.w1, hx⟩

theorem QR.putX {h : Heap} {T : Nat → Option Nat} {i : Nat} {q : Q} (hq : QR h T i q) {e : Nat} (he : e < 2) (x : Bool) : QR h T i (q.1, q.2.putS e { q.2.side e with x := x }) := by
  rcases two e he with rfl | rfl
  · exact ⟨hq.w0, hq.c0, hq.w1, hq.c1⟩
  · exact ⟨hq.w0, hq.c0, hq.w1, hq.c1⟩

abbrev Rq := Int × Int × Int × Int × ByteArray × Int × Unit

abbrev An := Int × Int × Int × Int × Int × Unit

def inB (n lo hi : Int) : Bool := decide (n ≥ lo) && decide (n ≤ hi)

theorem from_spec {n lo hi : Int} {K : Bool → Heap → Prop} {h : Heap} (hk : K (inB n lo hi) h) : m_proto_from n lo hi K h := by
  unfold m_proto_from g_proto_from
  unfold inB at hk
  refine ⟨fun e => bindB_intro ?_, fun e => ?_⟩
  · rw [e] at hk; exact hk
  · rw [e] at hk; exact hk

def nameC (c : UInt8) : Bool := decide (33 ≤ c.toNat) && decide (c.toNat ≤ 126)

def nameB (s : ByteArray) : Bool := decide (1 ≤ s.size) && decide (s.size ≤ 64) && s.data.toList.all nameC

theorem byte_at {s : ByteArray} {k : Nat} (h : k < s.size) : ∃ c : UInt8, s[k]? = some c ∧ s.data.toList[k]? = some c := by
  refine ⟨s[k], ?_, ?_⟩
  · exact getElem?_pos s k h
  · rw [Array.getElem?_toList]
    exact getElem?_pos s.data k h

theorem all_bad {l : List UInt8} {k : Nat} {c : UInt8} (h : l[k]? = some c) (hc : nameC c = false) : l.all nameC = false := by
  rw [List.all_eq_false]
  exact ⟨c, List.mem_of_getElem? h, by simp [hc]⟩

theorem all_take {l : List UInt8} {k : Nat} {c : UInt8} (h : l[k]? = some c) (hc : nameC c = true) (ht : (l.take k).all nameC = true) : (l.take (k + 1)).all nameC = true := by
  have hk : k < l.length := by
    rcases Nat.lt_or_ge k l.length with h9 | h9
    · exact h9
    · rw [List.getElem?_eq_none h9] at h; cases h
  rw [List.take_succ_eq_append_getElem hk]
  have : l[k] = c := by rw [List.getElem?_eq_getElem hk] at h; exact Option.some.inj h
  simp [ht, this, hc]

theorem isName_spec {s : ByteArray} (hs : s.size < 9223372036854775808) {K : Bool → Heap → Prop} {h : Heap} (hk : K (nameB s) h) : m_proto_isName s K h := by
  unfold m_proto_isName g_proto_isName
  refine loopM_intro (fun p h' => h' = h ∧ ∃ k : Nat, p.1 = (k : Int) ∧ k ≤ s.size ∧ (s.data.toList.take k).all nameC = true) (fun p _ => s.size - p.1.toNat) ⟨rfl, 0, rfl, Nat.zero_le _, by simp⟩ ?_
  rintro ⟨i, u⟩ h' ⟨rfl, k, hi, hkl, hall⟩
  dsimp only at hi
  subst hi
  dsimp only
  refine iteP_dec (fun hlt => bindI_intro ?_) (fun hge => ?_)
  · have hk1 : k < s.size := by omega
    obtain ⟨c, h1, h2⟩ := byte_at hk1
    have hc8 := c.toNat_lt
    refine ⟨c, by omega, by rw [Int.toNat_natCast]; exact h1, from_spec ?_⟩
    rw [wrap64 (by omega) (by omega)]
    have e : inB (c.toNat : Int) 33 126 = nameC c := by
      unfold inB nameC
      congr 1
      · exact decide_eq_decide.2 (by omega)
      · exact decide_eq_decide.2 (by omega)
    rw [e]
    refine ⟨fun hb => ?_, fun hb => ?_⟩
    · have hb' : nameC c = false := by simpa using hb
      have : nameB s = false := by unfold nameB; rw [all_bad h2 hb', Bool.and_false]
      rw [this] at hk; exact hk
    · have hb' : nameC c = true := by simpa using hb
      rw [wrap64 (n := (k : Int) + 1) (by omega) (by omega)]
      exact ⟨⟨rfl, k + 1, by omega, by omega, all_take h2 hb' hall⟩, by omega⟩
  · have hfull : s.data.toList.take k = s.data.toList := List.take_of_length_le (by
      have : s.data.toList.length = s.size := by simp
      omega)
    rw [hfull] at hall
    refine from_spec (bindB_intro ?_)
    have : nameB s = inB (s.size : Int) 1 64 := by
      unfold nameB inB
      rw [hall, Bool.and_true]
      congr 1
      · exact decide_eq_decide.2 (by omega)
      · exact decide_eq_decide.2 (by omega)
    rw [← this]
    exact hk

def flowB (r : Rq) : Bool := inB r.2.2.1 1 1099511627776 && inB r.2.2.2.1 1 1099511627776

def bareB (r : Rq) : Bool := r.2.2.1 == 0 && r.2.2.2.1 == 0

def rightB (r : Rq) : Bool :=
  inB r.1 0 2147483647 &&
  (bif (r.2.1 == 1 || r.2.1 == 3) then flowB r && r.2.2.2.2.2.1 == 0 && r.2.2.2.2.1.size == 0
   else bif r.2.1 == 2 then flowB r && r.2.2.2.2.2.1 == 0 && decide (r.2.2.2.2.1.size ≤ 64)
   else bif r.2.1 == 4 then bareB r && inB r.2.2.2.2.2.1 1 2147483647 && r.2.2.2.2.1.size == 0
   else bif r.2.1 == 5 then bareB r && r.2.2.2.2.2.1 == 0 && nameB r.2.2.2.2.1
   else false)

def rightA (a : An) : Bool := inB a.1 0 2147483647 && (decide (a.2.1 ≥ 1) && (decide (a.2.1 ≤ 8) && (inB a.2.2.1 0 1099511627776 && (inB a.2.2.2.1 0 1099511627776 && inB a.2.2.2.2.1 0 2147483647))))

theorem strEq_nil (s : ByteArray) : strEq s (ByteArray.mk #[]) = (s.size == 0) := by
  unfold strEq
  rw [ByteArray.toList_eq, ByteArray.toList_eq]
  obtain ⟨⟨l⟩⟩ := s
  show (l == []) = (l.length == 0)
  cases l <;> rfl

theorem size_dec (s : ByteArray) : decide ((s.size : Int) ≤ 64) = decide (s.size ≤ 64) := decide_eq_decide.2 (by omega)

/-- a request's cells -/
abbrev rqC (r : Rq) : List Value := [.int .i64 r.1, .int .u8 r.2.1, .int .i64 r.2.2.1, .int .i64 r.2.2.2.1, .string r.2.2.2.2.1, .int .i64 r.2.2.2.2.2.1]

abbrev anC (a : An) : List Value := [.int .i64 a.1, .int .u8 a.2.1, .int .i64 a.2.2.1, .int .i64 a.2.2.2.1, .int .i64 a.2.2.2.2.1]

theorem Right_spec {r : Rq} (hs : r.2.2.2.2.1.size < 9223372036854775808) {K : Bool → Heap → Prop} {h : Heap} (hk : ∀ h', Ext h h' → K (rightB r) h') : m_proto_Right r K h := by
  unfold m_proto_Right g_proto_Right
  obtain ⟨id, want, flow, count, text, token, u⟩ := r
  dsimp only at hs ⊢
  refine newK fun h1 hb hext _ => ?_
  replace hk := hk h1 hext
  refine cutP_intro (fun s h' => h' = h1 ∧ s.1 = (flowB (id, want, flow, count, text, token, u) && token == 0)) ?_ ?_
  · rintro ⟨asks, u2⟩ h' ⟨rfl, ha⟩
    dsimp only at ha ⊢
    refine cutP_intro (fun s h'' => h'' = h' ∧ s.1 = bareB (id, want, flow, count, text, token, u)) ?_ ?_
    · rintro ⟨bare, u2⟩ h'' ⟨rfl, hbare⟩
      dsimp only at hbare ⊢
      refine ldIk hb rfl (from_spec ?_)
      unfold rightB at hk
      dsimp only at hk
      rw [← ha, ← hbare] at hk
      refine ⟨fun e => ?_, fun e => ldIk hb rfl ?_⟩
      · have e' : inB id 0 2147483647 = false := by simpa using e
        rw [e'] at hk; exact hk
      have e' : inB id 0 2147483647 = true := by simpa using e
      rw [e', Bool.true_and] at hk
      refine cutP_intro (fun s h' => h' = h'' ∧ s.1 = (want == 1 || want == 3)) ?_ ?_
      · rintro ⟨s32, u2⟩ h' ⟨rfl, hw⟩
        dsimp only at hw ⊢
        rw [← hw] at hk
        refine ⟨fun e => ?_, fun e => bindB_intro ?_⟩
        · rw [e, cond_true] at hk
          refine ⟨fun e => ldSk hb rfl (bindB_intro ?_), fun e => ?_⟩
          · rw [strEq_nil]
            rw [e, Bool.true_and] at hk
            exact hk
          · rw [e] at hk; exact hk
        rw [e, cond_false] at hk
        refine ⟨fun e => ?_, fun e => bindB_intro ?_⟩
        · rw [e, cond_true] at hk
          refine ⟨fun e => ldSk hb rfl (bindB_intro ?_), fun e => ?_⟩
          · rw [size_dec]
            rw [e, Bool.true_and] at hk
            exact hk
          · rw [e] at hk; exact hk
        rw [e, cond_false] at hk
        refine ⟨fun e => ?_, fun e => bindB_intro ?_⟩
        · rw [e, cond_true] at hk
          refine ⟨fun e => ldIk hb rfl (from_spec ?_), fun e => ?_⟩
          · rw [e, Bool.true_and] at hk
            refine ⟨fun e => ldSk hb rfl (bindB_intro ?_), fun e => ?_⟩
            · rw [strEq_nil]
              rw [e, Bool.true_and] at hk
              exact hk
            · rw [e] at hk; exact hk
          · rw [e] at hk; exact hk
        rw [e, cond_false] at hk
        refine ⟨fun e => ?_, fun e => ?_⟩
        · rw [e, cond_true] at hk
          refine ⟨fun e => ldIk hb rfl ?_, fun e => ?_⟩
          · rw [e, Bool.true_and] at hk
            refine ⟨fun e => ldSk hb rfl (isName_spec hs (bindB_intro ?_)), fun e => ?_⟩
            · rw [e, Bool.true_and] at hk
              exact hk
            · rw [e] at hk; exact hk
          · rw [e] at hk; exact hk
        rw [e, cond_false] at hk
        exact hk
      · refine bindB_intro ⟨fun e => ⟨rfl, ?_⟩, fun e => bindB_intro ⟨rfl, ?_⟩⟩
        · rw [e]; rfl
        · rw [e]; rfl
    · refine ldIk hb rfl ⟨fun e => ldIk hb rfl (bindB_intro ⟨rfl, ?_⟩), fun e => ⟨rfl, ?_⟩⟩
      · unfold bareB; dsimp only; rw [e, Bool.true_and]
      · unfold bareB; dsimp only; rw [e]; rfl
  · refine ldIk hb rfl (from_spec ⟨fun e => ldIk hb rfl (from_spec ⟨fun e2 => ldIk hb rfl (bindB_intro ⟨rfl, ?_⟩), fun e2 => ⟨rfl, ?_⟩⟩), fun e => ⟨rfl, ?_⟩⟩)
    · unfold flowB; dsimp only; rw [e, e2]; rfl
    · unfold flowB; dsimp only; rw [e, e2]; rfl
    · unfold flowB; dsimp only; rw [e]; rfl

def be (l : List UInt8) : Nat := l.foldl (fun n c => n * 256 + c.toNat) 0

theorem be_snoc (l : List UInt8) (c : UInt8) : be (l ++ [c]) = be l * 256 + c.toNat := by unfold be; rw [List.foldl_append]; rfl

theorem be_lt : ∀ (n : Nat) (l : List UInt8), l.length = n → be l < 256 ^ n
  | 0, l, h => by
    have : l = [] := List.eq_nil_of_length_eq_zero h
    subst this
    simp [be]
  | n + 1, l, h => by
    have hne : l ≠ [] := by intro e; subst e; simp at h
    have e := List.dropLast_concat_getLast hne
    rw [← e, be_snoc, Nat.pow_succ]
    have h1 := be_lt n l.dropLast (by simp [h])
    have := (l.getLast hne).toNat_lt
    omega

theorem be_lt8 {l : List UInt8} (h : l.length ≤ 8) : be l < 18446744073709551616 := by
  have h1 := be_lt _ l rfl
  have : 256 ^ l.length ≤ 256 ^ 8 := Nat.pow_le_pow_right (by omega) h
  omega

theorem be_lt7 {l : List UInt8} (h : l.length ≤ 7) : be l < 72057594037927936 := by
  have h1 := be_lt _ l rfl
  have : 256 ^ l.length ≤ 256 ^ 7 := Nat.pow_le_pow_right (by omega) h
  omega

def numV (l : List UInt8) : Int := IntKind.wrap .i64 (be l : Int)

theorem wrap64_eq (n : Int) : IntKind.wrap .i64 n = if n % 18446744073709551616 ≥ 9223372036854775808 then n % 18446744073709551616 - 18446744073709551616 else n % 18446744073709551616 := by
  unfold IntKind.wrap
  have hb : (2 : Int) ^ IntKind.i64.bits = 18446744073709551616 := by decide
  have hb' : (2 : Int) ^ (IntKind.i64.bits - 1) = 9223372036854775808 := by decide
  have hs : IntKind.i64.signed = true := rfl
  simp only [hb, hb', hs, Bool.true_and, decide_eq_true_eq]

theorem or_toNat (N c : Nat) (hN : N < 72057594037927936) (hc : c < 256) : BitVec.toNat (BitVec.ofNat 64 (N * 256) ||| BitVec.ofNat 64 c) = N * 256 + c := by
  rw [BitVec.toNat_or]
  simp only [BitVec.toNat_ofNat]
  rw [Nat.mod_eq_of_lt (by omega), Nat.mod_eq_of_lt (by omega), Nat.mul_comm N 256, show (256 : Nat) = 2 ^ 8 from rfl, ← Nat.two_pow_add_eq_or_of_lt (by omega)]

theorem ofInt_wrap (n : Int) : BitVec.ofInt 64 (IntKind.wrap .i64 n) = BitVec.ofInt 64 n := by
  apply BitVec.eq_of_toNat_eq
  rw [BitVec.toNat_ofInt, BitVec.toNat_ofInt, wrap64_eq]
  have e : ((2 ^ 64 : Nat) : Int) = 18446744073709551616 := by decide
  rw [e]
  split <;> omega

theorem or_i64 (N c : Nat) (hN : N < 72057594037927936) (hc : c < 256) : orV .i64 (shlV .i64 (N : Int) 8) (IntKind.wrap .i64 (c : Int)) = IntKind.wrap .i64 ((N * 256 + c : Nat) : Int) := by
  unfold orV shlV
  have h8 : min (8 : Int).toNat IntKind.i64.bits = 8 := by decide
  have hb : IntKind.i64.bits = 64 := rfl
  rw [h8, hb, ofInt_wrap, ofInt_wrap]
  have e : (N : Int) * 2 ^ 8 = ((N * 256 : Nat) : Int) := by omega
  rw [e]
  simp only [BitVec.ofInt_natCast]
  rw [or_toNat N c hN hc]

theorem or_u64 (N c : Nat) (hN : N < 72057594037927936) (hc : c < 256) : orV .u64 (shlV .u64 (N : Int) 8) (IntKind.wrap .u64 (c : Int)) = ((N * 256 + c : Nat) : Int) := by
  unfold orV shlV
  have h8 : min (8 : Int).toNat IntKind.u64.bits = 8 := by decide
  have hb : IntKind.u64.bits = 64 := rfl
  rw [h8, hb, wrapU64 (n := (c : Int)) (by omega) (by omega)]
  have e : (N : Int) * 2 ^ 8 = ((N * 256 : Nat) : Int) := by omega
  rw [e, wrapU64 (n := ((N * 256 : Nat) : Int)) (by omega) (by omega)]
  simp only [BitVec.ofInt_natCast]
  rw [or_toNat N c hN hc]
  exact wrapU64 (by omega) (by omega)

def numR (lb : List UInt8) (t n : Nat) : Int := if t + n ≤ lb.length then numV ((lb.drop t).take n) else 0

def tl (lb : List UInt8) : Nat := if 34 ≤ lb.length then (lb.getD 33 0).toNat else 0

theorem tl_lt (lb : List UInt8) : tl lb ≤ 255 := by
  unfold tl
  split
  · have := (lb.getD 33 0).toNat_lt; omega
  · omega

theorem numR_tl (lb : List UInt8) : numR lb 33 1 = (tl lb : Int) := by
  unfold numR tl
  by_cases h : 33 + 1 ≤ lb.length
  · rw [if_pos h, if_pos (by omega)]
    have e : (lb.drop 33).take 1 = [lb.getD 33 0] := by
      rw [List.take_one, List.head?_drop, List.getD_eq_getElem?_getD, List.getElem?_eq_getElem (by omega)]
      rfl
    rw [e]
    have := (lb.getD 33 0).toNat_lt
    have e2 : be [lb.getD 33 0] = (lb.getD 33 0).toNat := by unfold be; simp
    unfold numV
    rw [e2]
    exact wrap64 (by omega) (by omega)
  · rw [if_neg h, if_neg (by omega)]
    rfl

def textR (lb : List UInt8) : ByteArray := if 34 + tl lb ≤ lb.length then ⟨((lb.drop 34).take (tl lb)).toArray⟩ else ByteArray.empty

theorem textR_lt (lb : List UInt8) : (textR lb).size ≤ 255 := by
  have := tl_lt lb
  unfold textR
  split
  · have e : (ByteArray.mk ((lb.drop 34).take (tl lb)).toArray).size = ((lb.drop 34).take (tl lb)).length := rfl
    rw [e, List.length_take]
    omega
  · show (0 : Nat) ≤ 255
    omega

def fieldsR (lb : List UInt8) : Rq := (numR lb 1 8, IntKind.wrap .u8 (numR lb 0 1), numR lb 9 8, numR lb 17 8, textR lb, numR lb 25 8, ())

def zR : Rq := (0, 0, 0, 0, ByteArray.mk #[], 0, ())

def errR (lb : List UInt8) : Int × Int := (if lb.length < 34 + tl lb then 6 else if 34 + tl lb < lb.length then 6 else if rightB (fieldsR lb) then 0 else 6,
  if lb.length < 34 + tl lb then (lb.length : Int) else if 34 + tl lb < lb.length then ((34 + tl lb : Nat) : Int) else 0)

def readR (lb : List UInt8) : Rq × Int × Int := if (errR lb).1 ≠ 0 then (zR, (errR lb).1, (errR lb).2) else (fieldsR lb, 0, 0)

def fieldsA (lb : List UInt8) : An := (numR lb 1 8, IntKind.wrap .u8 (numR lb 0 1), numR lb 9 8, numR lb 17 8, numR lb 25 8, ())

def zA : An := (0, 0, 0, 0, 0, ())

def errA (lb : List UInt8) : Int × Int := (if lb.length < 33 then 6 else if 33 < lb.length then 6 else if rightA (fieldsA lb) then 0 else 6,
  if lb.length < 33 then (lb.length : Int) else if 33 < lb.length then ((33 : Nat) : Int) else 0)

def readA (lb : List UInt8) : An × Int × Int := if (errA lb).1 ≠ 0 then (zA, (errA lb).1, (errA lb).2) else (fieldsA lb, 0, 0)

theorem bv_ofNat (n : Nat) : Value.int .u8 (IntKind.wrap .u8 (n : Int)) = bv (UInt8.ofNat n) := by
  unfold bv
  rw [wrap8_mod]
  simp

theorem oneCell_bv (l : List UInt8) : (l.map bv).all oneCell = true := by
  simp [bv, oneCell]

theorem st_intro {h : Heap} {b o : Nat} {v : Value} {K : Heap → Prop} {c : Array Value} {e : TypeId} (hb : h[b]? = some (.cells c e (0, 0))) (ho : o < c.size) (hv : oneCell v = true) (hk : K (h.put b o v)) : st h b o v K := by
  refine ⟨⟨c[o], by rw [cell_block hb]; simp [ho]⟩, ?_, hv, hk⟩
  unfold Heap.froz; rw [hb]; simp

def pat : List Value := (List.range 9).map fun j => bv (UInt8.ofNat (160 + j))

/-- bytes in a block of their own, with the room's pattern behind them -/
structure Handed (h : Heap) (base : Nat) (s : Sl) (l : List UInt8) : Prop where
  at_ : ∃ b e, s = ⟨some ⟨b, 0, none⟩, l.length, l.length + 9⟩ ∧ base ≤ b ∧ h[b]? = some (.cells (l.map bv ++ pat).toArray e (0, 0)) ∧ l.length + 9 < 9223372036854775808

theorem Handed.whole {h : Heap} {base : Nat} {s : Sl} {l : List UInt8} (hs : Handed h base s l) : Row h ⟨s.ptr, l.length + 9, s.cap⟩ 1 (l.map bv ++ pat) := by
  obtain ⟨b, e, rfl, _, hb, hl⟩ := hs.at_
  refine ⟨by simp [pat], Nat.le_refl _, hl, .inr ⟨b, 0, rfl, has_block hb fun i v hi => ?_⟩⟩
  simpa using hi

theorem Handed.bytes {h : Heap} {base : Nat} {s : Sl} {l : List UInt8} (hs : Handed h base s l) : Bytes h s l := by
  obtain ⟨b, e, rfl, _, hb, hl⟩ := hs.at_
  refine ⟨by simp, by simp, hl, .inr ⟨b, 0, rfl, has_block hb fun i v hi => ?_⟩⟩
  have hlt : i < (l.map bv).length := by
    rcases Nat.lt_or_ge i (l.map bv).length with h | h
    · exact h
    · rw [List.getElem?_eq_none h] at hi; cases hi
  simp only [Nat.zero_add, List.getElem?_toArray]
  rw [List.getElem?_append_left hlt]
  exact hi

theorem Handed.lt {h : Heap} {base : Nat} {s : Sl} {l : List UInt8} (hs : Handed h base s l) {k : Nat} (hk : s.blk = some k) : base ≤ k ∧ k < h.size := by
  obtain ⟨b, e, rfl, h1, hb, hl⟩ := hs.at_
  simp [Sl.blk] at hk
  subst hk
  refine ⟨h1, ?_⟩
  rcases Nat.lt_or_ge b h.size with hl | hl
  · exact hl
  · rw [Array.getElem?_eq_none hl] at hb; cases hb

theorem Handed.congr {h h' : Heap} {base : Nat} {s : Sl} {l : List UInt8} (hs : Handed h base s l) (he : ∀ k, s.blk = some k → k < h.size → h'[k]? = h[k]?) : Handed h' base s l := by
  have hlt := fun k hk => (hs.lt (k := k) hk).2
  obtain ⟨b, e, rfl, h1, hb, hl⟩ := hs.at_
  have hblk : Sl.blk ⟨some ⟨b, 0, none⟩, l.length, l.length + 9⟩ = some b := rfl
  exact ⟨b, e, rfl, h1, by rw [he b hblk (hlt b hblk)]; exact hb, hl⟩

theorem Handed.ext {h h' : Heap} {base : Nat} {s : Sl} {l : List UInt8} (hs : Handed h base s l) (he : Ext h h') : Handed h' base s l := hs.congr fun k _ hk => he.old k hk

theorem Handed.base {h : Heap} {base base' : Nat} {s : Sl} {l : List UInt8} (hs : Handed h base s l) (hb : base' ≤ base) : Handed h base' s l := by
  obtain ⟨b, e, h0, h1, h2⟩ := hs.at_
  exact ⟨b, e, h0, by omega, h2⟩

theorem take_set (c : Array Value) (k : Nat) (v : Value) (hk : k < c.size) : (c.setIfInBounds k v).toList.take (k + 1) = c.toList.take k ++ [v] := by
  rw [Array.toList_setIfInBounds, List.take_succ_eq_append_getElem (by simpa using hk), List.take_set_of_le (Nat.le_refl _)]
  simp

theorem numR_b0 {lb : List UInt8} {x : UInt8} (h : lb[0]? = some x) : IntKind.wrap .u8 (numR lb 0 1) = (x.toNat : Int) := by
  cases lb with
  | nil => simp at h
  | cons y l =>
    simp at h
    subst h
    have e : numR (y :: l) 0 1 = numV [y] := by
      unfold numR
      rw [if_pos (by simp)]
      rfl
    have := y.toNat_lt
    have e2 : be [y] = y.toNat := by unfold be; simp
    rw [e]
    unfold numV
    rw [e2, wrap64 (by omega) (by omega)]
    exact wrap8 (by omega) (by omega)

theorem sub_bytes {h : Heap} {b : Sl} {lb : List UInt8} (hb : Bytes h b lb) {a : Nat} (ha : a ≤ lb.length) {lo hi mx : Int} (e1 : lo = (a : Int)) (e2 : hi = (b.len : Int)) (e3 : mx = (b.cap : Int)) {K : Sl → Prop} (hk : ∀ s', Bytes h s' (lb.drop a) → K s') :
    slc b.ptr b.cap 1 lo hi mx K := by
  have hlen := hb.length
  have hcap := hb.cap
  refine Row.slc hb (a := a) (b := b.len) (m := b.cap) e1 e2 e3 (by omega) (Nat.le_refl _) hcap (Nat.le_refl _) fun s' hs _ _ _ => hk s' ?_
  have e : ((lb.map bv).drop a).take (b.len - a) = (lb.drop a).map bv := by rw [List.map_drop, List.take_of_length_le (by simp; omega)]
  rw [e] at hs
  exact hs

theorem numR_eq {lb : List UInt8} {t : Nat} (h : t + 8 ≤ lb.length) : numV ((lb.drop t).take 8) = numR lb t 8 := by unfold numR; rw [if_pos h]

def byteAt (n : Int) (s : Nat) : UInt8 := UInt8.ofNat ((n / 2 ^ s) % 256).toNat

def bytes8 (n : Int) : List UInt8 := [byteAt n 56, byteAt n 48, byteAt n 40, byteAt n 32, byteAt n 24, byteAt n 16, byteAt n 8, byteAt n 0]

theorem bv_byteAt (n : Int) (s : Nat) (hs : s < 64) : Value.int .u8 (IntKind.wrap .u8 (shrV .i64 n (s : Int))) = bv (byteAt n s) := by
  unfold shrV bv byteAt
  have hb : IntKind.i64.bits = 64 := rfl
  rw [hb]
  have : min (s : Int).toNat 64 = s := by omega
  rw [this, Int.fdiv_eq_ediv_of_nonneg _ (by have : (0 : Int) < 2 ^ s := Int.pow_pos (by decide); omega), wrap8_mod]
  generalize n / 2 ^ s = x
  have h1 := Int.emod_nonneg x (show (256 : Int) ≠ 0 by decide)
  have h2 := Int.emod_lt_of_pos x (show (0 : Int) < 256 by decide)
  have e : (UInt8.ofNat (x % 256).toNat).toNat = (x % 256).toNat % 256 := by simp
  rw [e]
  congr 1
  omega

/-- the eight bytes of a number, from one on -/
theorem drop8 (n : Int) {j : Nat} (hj : j < 8) : (bytes8 n)[j]? = some (byteAt n (56 - 8 * j)) := by
  have : j = 0 ∨ j = 1 ∨ j = 2 ∨ j = 3 ∨ j = 4 ∨ j = 5 ∨ j = 6 ∨ j = 7 := by omega
  rcases this with rfl | rfl | rfl | rfl | rfl | rfl | rfl | rfl <;> rfl

theorem take8 (n : Int) {j : Nat} (hj : j < 8) : (bytes8 n).take (j + 1) = (bytes8 n).take j ++ [byteAt n (56 - 8 * j)] := by
  have h := drop8 n hj
  have hl : j < (bytes8 n).length := hj
  rw [List.take_succ_eq_append_getElem hl]
  rw [List.getElem?_eq_getElem hl] at h
  rw [Option.some.inj h]

def reqL (r : Rq) : List UInt8 := [UInt8.ofNat r.2.1.toNat] ++ [r.1, r.2.2.1, r.2.2.2.1, r.2.2.2.2.2.1].flatMap bytes8 ++ [UInt8.ofNat r.2.2.2.2.1.size] ++ r.2.2.2.2.1.data.toList

def reqB (r : Rq) : List UInt8 := if rightB r then reqL r else []

def ansL (a : An) : List UInt8 := [UInt8.ofNat a.2.1.toNat] ++ [a.1, a.2.2.1, a.2.2.2.1, a.2.2.2.2.1].flatMap bytes8

def ansB (a : An) : List UInt8 := if rightA a then ansL a else []

theorem right_want {r : Rq} (h : rightB r = true) : 1 ≤ r.2.1 ∧ r.2.1 ≤ 5 := by
  unfold rightB at h
  rw [Bool.and_eq_true] at h
  have h2 := h.2
  by_cases h1 : r.2.1 = 1 ∨ r.2.1 = 2 ∨ r.2.1 = 3 ∨ r.2.1 = 4 ∨ r.2.1 = 5
  · omega
  · rw [not_or, not_or, not_or, not_or] at h1
    simp [h1] at h2

theorem right_text {r : Rq} (h : rightB r = true) : r.2.2.2.2.1.size ≤ 64 := by
  unfold rightB at h
  rw [Bool.and_eq_true] at h
  have h2 := h.2
  clear h
  generalize hc1 : (r.2.1 == 1 || r.2.1 == 3) = c1 at h2
  cases c1 with
  | true => simp only [cond_true, Bool.and_eq_true, beq_iff_eq] at h2; omega
  | false =>
    simp only [cond_false] at h2
    generalize hc2 : (r.2.1 == 2) = c2 at h2
    cases c2 with
    | true => simp only [cond_true, Bool.and_eq_true, decide_eq_true_eq] at h2; omega
    | false =>
      simp only [cond_false] at h2
      generalize hc3 : (r.2.1 == 4) = c3 at h2
      cases c3 with
      | true => simp only [cond_true, Bool.and_eq_true, beq_iff_eq] at h2; omega
      | false =>
        simp only [cond_false] at h2
        generalize hc4 : (r.2.1 == 5) = c4 at h2
        cases c4 with
        | true => simp only [cond_true, Bool.and_eq_true] at h2; have h3 := h2.2; unfold nameB at h3; simp only [Bool.and_eq_true, decide_eq_true_eq] at h3; omega
        | false => cases h2

theorem bv_toNat {n : Int} (h0 : 0 ≤ n) (h1 : n < 256) : Value.int .u8 n = bv (UInt8.ofNat n.toNat) := by
  unfold bv
  have e : (UInt8.ofNat n.toNat).toNat = n.toNat % 256 := by simp
  rw [e]
  congr 1
  omega

theorem byteAt_nat (n : Nat) (s : Nat) : byteAt (n : Int) s = UInt8.ofNat (n / 2 ^ s) := by
  unfold byteAt
  have e : ((n : Int) / 2 ^ s) % 256 = ((n / 2 ^ s % 256 : Nat) : Int) := by
    have : ((2 : Int) ^ s) = ((2 ^ s : Nat) : Int) := by simp
    rw [this]
    rfl
  rw [e, Int.toNat_natCast]
  apply UInt8.toNat_inj.1
  simp

theorem be_bytes8 (n : Nat) (h : n < 18446744073709551616) : be (bytes8 (n : Int)) = n := by
  unfold bytes8 be
  simp only [byteAt_nat, List.foldl_cons, List.foldl_nil, UInt8.toNat_ofNat']
  omega

theorem numV_bytes8 {n : Int} (h0 : 0 ≤ n) (h1 : n < 9223372036854775808) : numV (bytes8 n) = n := by
  obtain ⟨m, rfl⟩ := Int.eq_ofNat_of_zero_le h0
  unfold numV
  rw [be_bytes8 m (by omega)]
  exact wrap64 (by omega) (by omega)

theorem bytes8_be (l : List UInt8) (h : l.length = 8) : bytes8 (be l : Int) = l := by
  match l, h with
  | [a, b, c, d, e, f, g, i], _ =>
    have ha := a.toNat_lt
    have hb := b.toNat_lt
    have hc := c.toNat_lt
    have hd := d.toNat_lt
    have he := e.toNat_lt
    have hf := f.toNat_lt
    have hg := g.toNat_lt
    have hi := i.toNat_lt
    unfold bytes8
    simp only [byteAt_nat]
    have hbe : be [a, b, c, d, e, f, g, i] = ((((((a.toNat * 256 + b.toNat) * 256 + c.toNat) * 256 + d.toNat) * 256 + e.toNat) * 256 + f.toNat) * 256 + g.toNat) * 256 + i.toNat := by
      unfold be
      simp
    rw [hbe]
    have key : ∀ (x : UInt8) (N s : Nat), N / 2 ^ s % 256 = x.toNat → UInt8.ofNat (N / 2 ^ s) = x := fun x N s h => by
      apply UInt8.toNat_inj.1
      simpa using h
    rw [key a _ 56 (by omega), key b _ 48 (by omega), key c _ 40 (by omega), key d _ 32 (by omega), key e _ 24 (by omega), key f _ 16 (by omega), key g _ 8 (by omega), key i _ 0 (by omega)]

theorem bytes8_numV {l : List UInt8} (h : l.length = 8) (h0 : 0 ≤ numV l) : bytes8 (numV l) = l := by
  have hlt := be_lt8 (l := l) (by omega)
  have : numV l = (be l : Int) := by
    unfold numV at h0 ⊢
    rw [wrap64_eq] at h0 ⊢
    have e : (be l : Int) % 18446744073709551616 = be l := by omega
    rw [e] at h0 ⊢
    split at h0 <;> split <;> omega
  rw [this, bytes8_be l h]

theorem inB_spec {n lo hi : Int} (h : inB n lo hi = true) : lo ≤ n ∧ n ≤ hi := by
  unfold inB at h
  simp only [Bool.and_eq_true, decide_eq_true_eq] at h
  omega

/-- what may be lies within -/
theorem right_range {r : Rq} (h : rightB r = true) : (0 ≤ r.1 ∧ r.1 ≤ 2147483647) ∧ (0 ≤ r.2.2.1 ∧ r.2.2.1 ≤ 1099511627776) ∧ (0 ≤ r.2.2.2.1 ∧ r.2.2.2.1 ≤ 1099511627776) ∧ (0 ≤ r.2.2.2.2.2.1 ∧ r.2.2.2.2.2.1 ≤ 2147483647) := by
  unfold rightB at h
  rw [Bool.and_eq_true] at h
  obtain ⟨h1, h2⟩ := h
  have hid := inB_spec h1
  refine ⟨hid, ?_⟩
  have flow : flowB r = true → (0 ≤ r.2.2.1 ∧ r.2.2.1 ≤ 1099511627776) ∧ (0 ≤ r.2.2.2.1 ∧ r.2.2.2.1 ≤ 1099511627776) := fun hf => by
    unfold flowB at hf
    rw [Bool.and_eq_true] at hf
    have a := inB_spec hf.1
    have b := inB_spec hf.2
    omega
  have bare : bareB r = true → (0 ≤ r.2.2.1 ∧ r.2.2.1 ≤ 1099511627776) ∧ (0 ≤ r.2.2.2.1 ∧ r.2.2.2.1 ≤ 1099511627776) := fun hf => by
    unfold bareB at hf
    simp only [Bool.and_eq_true, beq_iff_eq] at hf
    omega
  generalize hc1 : (r.2.1 == 1 || r.2.1 == 3) = c1 at h2
  cases c1 with
  | true =>
    simp only [cond_true, Bool.and_eq_true, beq_iff_eq] at h2
    exact ⟨(flow h2.1.1).1, (flow h2.1.1).2, by omega⟩
  | false =>
    simp only [cond_false] at h2
    generalize hc2 : (r.2.1 == 2) = c2 at h2
    cases c2 with
    | true =>
      simp only [cond_true, Bool.and_eq_true, beq_iff_eq] at h2
      exact ⟨(flow h2.1.1).1, (flow h2.1.1).2, by omega⟩
    | false =>
      simp only [cond_false] at h2
      generalize hc3 : (r.2.1 == 4) = c3 at h2
      cases c3 with
      | true =>
        simp only [cond_true, Bool.and_eq_true] at h2
        have := inB_spec h2.1.2
        exact ⟨(bare h2.1.1).1, (bare h2.1.1).2, by omega⟩
      | false =>
        simp only [cond_false] at h2
        generalize hc4 : (r.2.1 == 5) = c4 at h2
        cases c4 with
        | true =>
          simp only [cond_true, Bool.and_eq_true, beq_iff_eq] at h2
          exact ⟨(bare h2.1.1).1, (bare h2.1.1).2, by omega⟩
        | false => cases h2

theorem numV_one (x : UInt8) : numV [x] = (x.toNat : Int) := by
  have := x.toNat_lt
  have e2 : be [x] = x.toNat := by unfold be; simp
  unfold numV
  rw [e2]
  exact wrap64 (by omega) (by omega)

theorem read_req {r : Rq} (h : rightB r = true) : readR (reqL r) = (r, 0, 0) := by
  obtain ⟨g1, g2, g3, g4⟩ := right_range h
  have hw := right_want h
  have ht := right_text h
  obtain ⟨id, want, flow, count, text, token, u⟩ := r
  dsimp only at g1 g2 g3 g4 hw ht
  have hsz : text.data.toList.length = text.size := by simp
  have hL : reqL (id, want, flow, count, text, token, u) = UInt8.ofNat want.toNat :: (bytes8 id ++ (bytes8 flow ++ (bytes8 count ++ (bytes8 token ++ (UInt8.ofNat text.size :: text.data.toList))))) := by
    unfold reqL
    simp
  have hlen : (reqL (id, want, flow, count, text, token, u)).length = 34 + text.size := by
    rw [hL]
    simp only [List.length_cons, List.length_append, hsz]
    show 8 + (8 + (8 + (8 + (text.size + 1)))) + 1 = _
    omega
  have h33 : (reqL (id, want, flow, count, text, token, u)).getD 33 0 = UInt8.ofNat text.size := by rw [hL]; rfl
  have htl : tl (reqL (id, want, flow, count, text, token, u)) = text.size := by
    unfold tl
    rw [if_pos (by omega), h33]
    simp
    omega
  have e1 : numR (reqL (id, want, flow, count, text, token, u)) 1 8 = id := by
    unfold numR
    rw [if_pos (by omega)]
    have : ((reqL (id, want, flow, count, text, token, u)).drop 1).take 8 = bytes8 id := by rw [hL]; rfl
    rw [this]
    exact numV_bytes8 (by omega) (by omega)
  have e2 : numR (reqL (id, want, flow, count, text, token, u)) 9 8 = flow := by
    unfold numR
    rw [if_pos (by omega)]
    have : ((reqL (id, want, flow, count, text, token, u)).drop 9).take 8 = bytes8 flow := by rw [hL]; rfl
    rw [this]
    exact numV_bytes8 (by omega) (by omega)
  have e3 : numR (reqL (id, want, flow, count, text, token, u)) 17 8 = count := by
    unfold numR
    rw [if_pos (by omega)]
    have : ((reqL (id, want, flow, count, text, token, u)).drop 17).take 8 = bytes8 count := by rw [hL]; rfl
    rw [this]
    exact numV_bytes8 (by omega) (by omega)
  have e4 : numR (reqL (id, want, flow, count, text, token, u)) 25 8 = token := by
    unfold numR
    rw [if_pos (by omega)]
    have : ((reqL (id, want, flow, count, text, token, u)).drop 25).take 8 = bytes8 token := by rw [hL]; rfl
    rw [this]
    exact numV_bytes8 (by omega) (by omega)
  have e5 : IntKind.wrap .u8 (numR (reqL (id, want, flow, count, text, token, u)) 0 1) = want := by
    rw [numR_b0 (x := UInt8.ofNat want.toNat) (by rw [hL]; rfl)]
    simp
    omega
  have e6 : textR (reqL (id, want, flow, count, text, token, u)) = text := by
    unfold textR
    rw [htl, if_pos (by omega)]
    have : (reqL (id, want, flow, count, text, token, u)).drop 34 = text.data.toList := by rw [hL]; rfl
    rw [this, List.take_of_length_le (by omega)]
  have hf : fieldsR (reqL (id, want, flow, count, text, token, u)) = (id, want, flow, count, text, token, u) := by
    unfold fieldsR
    rw [e1, e2, e3, e4, e5, e6]
  unfold readR
  have herr : errR (reqL (id, want, flow, count, text, token, u)) = (0, 0) := by
    unfold errR
    rw [htl, hlen, hf, h]
    simp
  rw [herr, hf]
  simp

theorem answer_range {a : An} (h : rightA a = true) : (0 ≤ a.1 ∧ a.1 ≤ 2147483647) ∧ (1 ≤ a.2.1 ∧ a.2.1 ≤ 8) ∧ (0 ≤ a.2.2.1 ∧ a.2.2.1 ≤ 1099511627776) ∧ (0 ≤ a.2.2.2.1 ∧ a.2.2.2.1 ≤ 1099511627776) ∧ (0 ≤ a.2.2.2.2.1 ∧ a.2.2.2.2.1 ≤ 2147483647) := by
  unfold rightA at h
  simp only [Bool.and_eq_true, decide_eq_true_eq] at h
  have h1 := inB_spec h.1
  have h2 := inB_spec h.2.2.2.1
  have h3 := inB_spec h.2.2.2.2.1
  have h4 := inB_spec h.2.2.2.2.2
  omega

theorem read_ans {r : An} (h : rightA r = true) : readA (ansL r) = (r, 0, 0) := by
  obtain ⟨g1, hw, g2, g3, g4⟩ := answer_range h
  obtain ⟨id, want, flow, count, token, u⟩ := r
  dsimp only at g1 g2 g3 g4 hw
  have hL : ansL (id, want, flow, count, token, u) = UInt8.ofNat want.toNat :: (bytes8 id ++ (bytes8 flow ++ (bytes8 count ++ bytes8 token))) := by
    unfold ansL
    simp
  have hlen : (ansL (id, want, flow, count, token, u)).length = 33 := by
    rw [hL]; rfl
  have e1 : numR (ansL (id, want, flow, count, token, u)) 1 8 = id := by
    unfold numR
    rw [if_pos (by omega)]
    have : ((ansL (id, want, flow, count, token, u)).drop 1).take 8 = bytes8 id := by rw [hL]; rfl
    rw [this]
    exact numV_bytes8 (by omega) (by omega)
  have e2 : numR (ansL (id, want, flow, count, token, u)) 9 8 = flow := by
    unfold numR
    rw [if_pos (by omega)]
    have : ((ansL (id, want, flow, count, token, u)).drop 9).take 8 = bytes8 flow := by rw [hL]; rfl
    rw [this]
    exact numV_bytes8 (by omega) (by omega)
  have e3 : numR (ansL (id, want, flow, count, token, u)) 17 8 = count := by
    unfold numR
    rw [if_pos (by omega)]
    have : ((ansL (id, want, flow, count, token, u)).drop 17).take 8 = bytes8 count := by rw [hL]; rfl
    rw [this]
    exact numV_bytes8 (by omega) (by omega)
  have e4 : numR (ansL (id, want, flow, count, token, u)) 25 8 = token := by
    unfold numR
    rw [if_pos (by omega)]
    have : ((ansL (id, want, flow, count, token, u)).drop 25).take 8 = bytes8 token := by rw [hL]; rfl
    rw [this]
    exact numV_bytes8 (by omega) (by omega)
  have e5 : IntKind.wrap .u8 (numR (ansL (id, want, flow, count, token, u)) 0 1) = want := by
    rw [numR_b0 (x := UInt8.ofNat want.toNat) (by rw [hL]; rfl)]
    simp
    omega
  have hf : fieldsA (ansL (id, want, flow, count, token, u)) = (id, want, flow, count, token, u) := by
    unfold fieldsA
    rw [e1, e2, e3, e4, e5]
  unfold readA
  have herr : errA (ansL (id, want, flow, count, token, u)) = (0, 0) := by
    unfold errA
    rw [hlen, hf, h]
    simp
  rw [herr, hf]
  simp

/-- bytes that are read are those that are written -/
theorem req_read {lb : List UInt8} (h : (readR lb).2.1 = 0) : rightB (readR lb).1 = true ∧ reqL (readR lb).1 = lb := by
  unfold readR at h ⊢
  by_cases hE : (errR lb).1 ≠ 0
  · rw [if_pos hE] at h
    exact absurd h hE
  · rw [if_neg hE]
    have hE' : (errR lb).1 = 0 := by simpa using hE
    unfold errR at hE'
    dsimp only at hE'
    have hL1 : ¬ lb.length < 34 + tl lb := by intro hc; rw [if_pos hc] at hE'; cases hE'
    rw [if_neg hL1] at hE'
    have hL2 : ¬ 34 + tl lb < lb.length := by intro hc; rw [if_pos hc] at hE'; cases hE'
    rw [if_neg hL2] at hE'
    have hR : rightB (fieldsR lb) = true := by
      cases hc : rightB (fieldsR lb) with
      | true => rfl
      | false => rw [hc] at hE'; simp at hE'
    refine ⟨hR, ?_⟩
    have hL : lb.length = 34 + tl lb := by omega
    obtain ⟨g1, g2, g3, g4⟩ := right_range hR
    have hx0 : lb[0]? = some lb[0] := List.getElem?_eq_getElem (by omega)
    have hx33 : lb[33]? = some lb[33] := List.getElem?_eq_getElem (by omega)
    have hw : IntKind.wrap .u8 (numR lb 0 1) = (lb[0].toNat : Int) := numR_b0 hx0
    have htl : tl lb = lb[33].toNat := by
      unfold tl
      rw [if_pos (by omega), List.getD_eq_getElem?_getD, hx33]
      rfl
    have nn : ∀ t, t + 8 ≤ 33 → 0 ≤ numR lb t 8 → bytes8 (numR lb t 8) = (lb.drop t).take 8 := fun t ht h0 => by
      have e : numR lb t 8 = numV ((lb.drop t).take 8) := by unfold numR; rw [if_pos (by omega)]
      rw [e] at h0 ⊢
      exact bytes8_numV (by simp; omega) h0
    have b1 := nn 1 (by omega) g1.1
    have b2 := nn 9 (by omega) g2.1
    have b3 := nn 17 (by omega) g3.1
    have b4 := nn 25 (by omega) g4.1
    have ht : textR lb = ⟨(lb.drop 34).toArray⟩ := by
      unfold textR
      rw [if_pos (by omega), List.take_of_length_le (by simp; omega)]
    have e0 : UInt8.ofNat (fieldsR lb).2.1.toNat = lb[0] := by
      show UInt8.ofNat (IntKind.wrap .u8 (numR lb 0 1)).toNat = lb[0]
      rw [hw, Int.toNat_natCast]
      apply UInt8.toNat_inj.1
      simp
    have e33 : UInt8.ofNat (fieldsR lb).2.2.2.2.1.size = lb[33] := by
      show UInt8.ofNat (textR lb).size = lb[33]
      have : (textR lb).size = lb[33].toNat := by
        rw [ht]
        show (lb.drop 34).toArray.size = _
        simp
        omega
      rw [this]
      apply UInt8.toNat_inj.1
      simp
    have et : (fieldsR lb).2.2.2.2.1.data.toList = lb.drop 34 := by
      show (textR lb).data.toList = _
      rw [ht]
    unfold reqL
    rw [e0, e33, et]
    have ef : [(fieldsR lb).1, (fieldsR lb).2.2.1, (fieldsR lb).2.2.2.1, (fieldsR lb).2.2.2.2.2.1].flatMap bytes8 = (lb.drop 1).take 32 := by
      show [numR lb 1 8, numR lb 9 8, numR lb 17 8, numR lb 25 8].flatMap bytes8 = _
      simp only [List.flatMap_cons, List.flatMap_nil, List.append_nil, b1, b2, b3, b4]
      have s1 : (lb.drop 1).take 32 = (lb.drop 1).take 8 ++ ((lb.drop 9).take 24) := by
        rw [show (32 : Nat) = 8 + 24 from rfl, List.take_add, List.drop_drop]
      have s2 : (lb.drop 9).take 24 = (lb.drop 9).take 8 ++ ((lb.drop 17).take 16) := by
        rw [show (24 : Nat) = 8 + 16 from rfl, List.take_add, List.drop_drop]
      have s3 : (lb.drop 17).take 16 = (lb.drop 17).take 8 ++ ((lb.drop 25).take 8) := by
        rw [show (16 : Nat) = 8 + 8 from rfl, List.take_add, List.drop_drop]
      rw [s1, s2, s3]
    rw [ef]
    have t0 : lb = [lb[0]] ++ lb.drop 1 := by
      rw [List.singleton_append]
      exact (List.getElem_cons_drop (by omega : 0 < lb.length)).symm
    have t1 : lb.drop 1 = (lb.drop 1).take 32 ++ lb.drop 33 := by
      have := List.take_append_drop 32 (lb.drop 1)
      rw [List.drop_drop] at this
      exact this.symm
    have t2 : lb.drop 33 = [lb[33]] ++ lb.drop 34 := by
      rw [List.singleton_append]
      exact (List.getElem_cons_drop (by omega : 33 < lb.length)).symm
    calc [lb[0]] ++ (lb.drop 1).take 32 ++ [lb[33]] ++ lb.drop 34 = [lb[0]] ++ ((lb.drop 1).take 32 ++ ([lb[33]] ++ lb.drop 34)) := by simp
      _ = lb := by rw [← t2, ← t1, ← t0]

variable {H : Type} {enc : TypeId × Value → H} {P : Program} {w : World} {base : Nat} {spare : Nat → Bool} {held : Bool}

/-- a slice of requests -/
structure RowsQ (h : Heap) (s : Sl) (rs : List Rq) : Prop where
  len : s.len = rs.length
  small : ∀ r, r ∈ rs → r.2.2.2.2.1.size < 9223372036854775808
  at_ : ∀ (i : Nat) (r : Rq), rs[i]? = some r → ∃ b o, s.ptr = some ⟨b, o, none⟩ ∧ h.has b (o + i * 6) (rqC r)

theorem RowsQ.ext {h h' : Heap} {s : Sl} {rs : List Rq} (hr : RowsQ h s rs) (he : Ext h h') : RowsQ h' s rs :=
  ⟨hr.len, hr.small, fun i r hi => by
    obtain ⟨b, o, hp, hh⟩ := hr.at_ i r hi
    exact ⟨b, o, hp, has_congr (he.old b (has_lt hh (by simp))) hh⟩⟩

theorem RowsQ.idx {h : Heap} {s : Sl} {rs : List Rq} (hr : RowsQ h s rs) {i : Int} {n : Nat} (hi : i = n) {r : Rq} (hx : rs[n]? = some r) {K : Nat → Nat → Prop} (hk : ∀ b o, h.has b o (rqC r) → K b o) : idxA s.ptr s.len i 6 K := by
  obtain ⟨b, o, hp, hh⟩ := hr.at_ n r hx
  have hlt : n < rs.length := by
    rcases Nat.lt_or_ge n rs.length with h9 | h9
    · exact h9
    · rw [List.getElem?_eq_none h9] at hx; cases hx
  have hl := hr.len
  subst hi
  exact ⟨b, o, hp, by omega, by omega, by rw [Int.toNat_natCast]; exact hk b _ hh⟩

def lenv (l : List UInt8) : Nat := (l.take 4).foldl (fun n c => n * 256 + c.toNat) 0

def lenok (l : List UInt8) : Bool :=
  if l.length = 0 ∨ l.length = 1 ∨ l.length = 2 then lenv l == 0 else if l.length = 3 then decide (lenv l ≤ 16) else decide (1 ≤ lenv l) && decide (lenv l ≤ 4096)

theorem or_shift (n c : Nat) (hn : n < 16777216) (hc : c < 256) : orV .i64 (shlV .i64 (n : Int) 8) (IntKind.wrap .i64 (c : Int)) = ((n * 256 + c : Nat) : Int) := by
  have h1 : shlV .i64 (n : Int) 8 = ((n * 256 : Nat) : Int) := by
    unfold shlV
    have : min (8 : Int).toNat IntKind.i64.bits = 8 := by decide
    rw [this, wrap64 (by omega) (by omega)]
    omega
  have h2 : IntKind.wrap .i64 (c : Int) = (c : Int) := wrap64 (by omega) (by omega)
  rw [h1, h2]
  unfold orV
  have hb : IntKind.i64.bits = 64 := rfl
  have e : BitVec.toNat (BitVec.ofInt IntKind.i64.bits ((n * 256 : Nat) : Int) ||| BitVec.ofInt IntKind.i64.bits (c : Int)) = n * 256 + c := by
    rw [hb, BitVec.toNat_or]
    simp only [BitVec.ofInt_natCast, BitVec.toNat_ofNat]
    rw [Nat.mod_eq_of_lt (by omega), Nat.mod_eq_of_lt (by omega), Nat.mul_comm n 256, show (256 : Nat) = 2 ^ 8 from rfl, ← Nat.two_pow_add_eq_or_of_lt (by omega)]
  rw [e, wrap64 (by omega) (by omega)]

theorem foldl_lt (l : List UInt8) (k : Nat) : (l.take k).foldl (fun n c => n * 256 + c.toNat) 0 < 256 ^ k := by
  induction k with
  | zero => simp
  | succ k ih =>
    rcases Nat.lt_or_ge k l.length with h | h
    · rw [List.take_succ_eq_append_getElem h, List.foldl_append]
      have := (l[k]).toNat_lt
      simp only [List.foldl_cons, List.foldl_nil]
      rw [Nat.pow_succ]
      omega
    · rw [List.take_of_length_le (by omega)]
      rw [List.take_of_length_le h] at ih
      refine Nat.lt_of_lt_of_le ih (Nat.pow_le_pow_right (by omega) (by omega))

theorem lenv_lt (l : List UInt8) : lenv l < 4294967296 := foldl_lt l 4

def header (n : Nat) : List UInt8 := [UInt8.ofNat (n / 16777216), UInt8.ofNat (n / 65536), UInt8.ofNat (n / 256), UInt8.ofNat n]

def frameE (p : List UInt8) : Int := if p.length > 4096 then 5 else if p.length = 0 then 6 else 0

def frameB (p : List UInt8) : List UInt8 := if p.length > 4096 ∨ p.length = 0 then [] else header p.length ++ p

theorem shr_nat (n k : Nat) (hk : k < 64) : shrV .i64 (n : Int) (k : Int) = ((n / 2 ^ k : Nat) : Int) := by
  unfold shrV
  have hb : IntKind.i64.bits = 64 := rfl
  rw [hb]
  have : min (k : Int).toNat 64 = k := by omega
  rw [this]
  rw [Int.fdiv_eq_ediv_of_nonneg _ (by have : (0 : Int) < 2 ^ k := Int.pow_pos (by decide); omega)]
  have e : ((2 : Int) ^ k) = ((2 ^ k : Nat) : Int) := by simp
  rw [e]
  rfl

theorem lenok_pos {all : List UInt8} (h : ¬ all.length < 4) (h2 : lenok all = true) : 1 ≤ lenv all ∧ lenv all ≤ 4096 := by
  unfold lenok at h2
  rw [if_neg (by omega), if_neg (by omega)] at h2
  simpa using h2

theorem mem_le_total {ll : List (List UInt8)} {k : Nat} {l : List UInt8} (h : ll[k]? = some l) : l.length + 1 ≤ total ll := by
  induction ll generalizing k with
  | nil => simp at h
  | cons x r ih =>
    cases k with
    | zero => simp at h; subst h; simp [total]
    | succ k =>
      have := ih (by simpa using h)
      simp only [total, List.map_cons, List.sum_cons] at this ⊢
      omega

def good (l : List UInt8) : Prop := 1 ≤ l.length ∧ l.length ≤ 4096

def fr (ll : List (List UInt8)) : List UInt8 := ll.flatMap fun l => header l.length ++ l

theorem header_len (n : Nat) : (header n).length = 4 := rfl

theorem header_lenv {n : Nat} (hn : n ≤ 4096) (r : List UInt8) : lenv (header n ++ r) = n := by
  unfold lenv
  rw [List.take_append_of_le_length (by simp [header_len]), List.take_of_length_le (by simp [header_len])]
  simp only [header, List.foldl_cons, List.foldl_nil]
  have e : ∀ m : Nat, (UInt8.ofNat m).toNat = m % 256 := fun m => by simp
  rw [e, e, e, e]
  omega

theorem fr_cons (l : List UInt8) (ll : List (List UInt8)) : fr (l :: ll) = header l.length ++ (l ++ fr ll) := by simp [fr]

theorem fr_len (ll : List (List UInt8)) : (fr ll).length ≤ 4 * total ll := by
  induction ll with
  | nil => simp [fr, total]
  | cons l ll ih =>
    rw [fr_cons]
    simp only [total, List.map_cons, List.sum_cons, List.length_append, header_len] at ih ⊢
    omega

theorem fr_step {l : List UInt8} {ll : List (List UInt8)} (hg : good l) : ¬ (fr (l :: ll)).length < 4 ∧ lenv (fr (l :: ll)) = l.length ∧ lenok (fr (l :: ll)) = true ∧ ¬ (fr (l :: ll)).length - 4 < l.length ∧
    ((fr (l :: ll)).drop 4).take l.length = l ∧ (fr (l :: ll)).drop (4 + l.length) = fr ll := by
  obtain ⟨g1, g2⟩ := hg
  rw [fr_cons]
  have hl : (header l.length ++ (l ++ fr ll)).length = 4 + l.length + (fr ll).length := by simp [header_len]; omega
  have hv := header_lenv g2 (l ++ fr ll)
  have e4 : (header l.length ++ (l ++ fr ll)).drop 4 = l ++ fr ll := by
    rw [List.drop_append_of_le_length (by simp [header_len]), List.drop_of_length_le (by simp [header_len])]; rfl
  refine ⟨by omega, hv, ?_, by omega, ?_, ?_⟩
  · unfold lenok
    rw [hv, if_neg (by omega), if_neg (by omega)]
    simp [g1, g2]
  · rw [e4]; simp
  · rw [← List.drop_drop, e4]; simp

theorem oneCell_sl (ss : List Sl) : (ss.map slV).all oneCell = true := by simp [slV, oneCell]

theorem total_count (ll : List (List UInt8)) : ll.length ≤ total ll := by
  unfold total
  induction ll with
  | nil => simp
  | cons x r ih => simp only [List.map_cons, List.sum_cons, List.length_cons]; omega

theorem frameE_cases (l : List UInt8) : (frameE l = 0 ∧ good l) ∨ frameE l = 5 ∨ frameE l = 6 := by
  unfold frameE good
  split
  · exact .inr (.inl rfl)
  · split
    · exact .inr (.inr rfl)
    · exact .inl ⟨rfl, by omega⟩

theorem frameB_good {l : List UInt8} (hg : good l) : frameB l = header l.length ++ l := by
  unfold frameB
  rw [if_neg (by unfold good at hg; omega)]

theorem fr_snoc (a : List (List UInt8)) (l : List UInt8) : fr (a ++ [l]) = fr a ++ (header l.length ++ l) := by simp [fr]

def splitA (all : List UInt8) : List (List UInt8) × Nat × Int :=
  if h0 : all.length = 0 then ([], 0, 0) else
  if lenok all = false then ([], 0, 50) else
  if h : all.length < 4 ∨ all.length - 4 < lenv all then ([], 0, 24) else
  ((all.drop 4).take (lenv all) :: (splitA (all.drop (4 + lenv all))).1, 4 + lenv all + (splitA (all.drop (4 + lenv all))).2.1, (splitA (all.drop (4 + lenv all))).2.2)
termination_by all.length
decreasing_by all_goals (simp; omega)

theorem splitA_nil {all : List UInt8} (h : all.length = 0) : splitA all = ([], 0, 0) := by rw [splitA, dif_pos h]

theorem splitA_bad {all : List UInt8} (h : ¬ all.length = 0) (h2 : lenok all = false) : splitA all = ([], 0, 50) := by rw [splitA, dif_neg h, if_pos h2]

theorem splitA_end {all : List UInt8} (h : ¬ all.length = 0) (h2 : lenok all = true) (h3 : all.length < 4 ∨ all.length - 4 < lenv all) : splitA all = ([], 0, 24) := by rw [splitA, dif_neg h, if_neg (by simp [h2]), dif_pos h3]

theorem splitA_one {all : List UInt8} (h : ¬ all.length = 0) (h2 : lenok all = true) (h3 : ¬ (all.length < 4 ∨ all.length - 4 < lenv all)) :
    splitA all = ((all.drop 4).take (lenv all) :: (splitA (all.drop (4 + lenv all))).1, 4 + lenv all + (splitA (all.drop (4 + lenv all))).2.1, (splitA (all.drop (4 + lenv all))).2.2) := by
  rw [splitA, dif_neg h, if_neg (by simp [h2]), dif_neg h3]

theorem splitA_fr : ∀ (ll : List (List UInt8)), (∀ l ∈ ll, good l) → splitA (fr ll) = (ll, (fr ll).length, 0)
  | [], _ => splitA_nil (by simp [fr])
  | l :: ll, h => by
    obtain ⟨h1, h2, h3, h4, h5, h6⟩ := fr_step (ll := ll) (h l (by simp))
    have hl : (fr (l :: ll)).length = 4 + l.length + (fr ll).length := by rw [fr_cons]; simp [header_len]; omega
    rw [splitA_one (by omega) h3 (by rw [h2]; omega), h2, h5, h6, splitA_fr ll fun x hx => h x (by simp [hx]), hl]

theorem good_of_E {l : List UInt8} (h : frameE l = 0) : good l := by
  rcases frameE_cases l with h0 | h0 | h0
  · exact h0.2
  · rw [h0] at h; cases h
  · rw [h0] at h; cases h

theorem E_of_good {l : List UInt8} (h : good l) : frameE l = 0 := by
  unfold frameE good at *
  rw [if_neg (by omega), if_neg (by omega)]

def framesE : List (List UInt8) → Int
  | [] => 0
  | l :: r => if frameE l = 0 then framesE r else frameE l

def framesB (ll : List (List UInt8)) : List UInt8 := if framesE ll = 0 then fr ll else []

theorem framesE_good : ∀ (ll : List (List UInt8)), (∀ l ∈ ll, good l) → framesE ll = 0
  | [], _ => rfl
  | l :: r, h => by rw [framesE, if_pos (E_of_good (h l (by simp)))]; exact framesE_good r fun x hx => h x (by simp [hx])

theorem framesE_bad : ∀ (ll : List (List UInt8)) (k : Nat) (l : List UInt8), (∀ l ∈ ll.take k, good l) → ll[k]? = some l → frameE l ≠ 0 → framesE ll = frameE l
  | [], k, l, _, hk, _ => by simp at hk
  | x :: r, 0, l, _, hk, he => by
    simp at hk
    subst hk
    rw [framesE, if_neg he]
  | x :: r, k + 1, l, h, hk, he => by
    rw [framesE, if_pos (E_of_good (h x (by simp)))]
    exact framesE_bad r k l (fun y hy => h y (by simp [hy])) (by simpa using hk) he

theorem idx_lt {α : Type} {l : List α} {i : Nat} {x : α} (h : l[i]? = some x) : i < l.length := by
  rcases Nat.lt_or_ge i l.length with h9 | h9
  · exact h9
  · rw [List.getElem?_eq_none h9] at h; cases h

theorem readR_small (lb : List UInt8) : (readR lb).1.2.2.2.2.1.size < 9223372036854775808 := by
  have := textR_lt lb
  unfold readR
  split
  · show (0 : Nat) < _
    omega
  · show (textR lb).size < _
    omega

theorem reqL_len (r : Rq) : (reqL r).length = 34 + r.2.2.2.2.1.size := by
  have hsz : r.2.2.2.2.1.data.toList.length = r.2.2.2.2.1.size := by simp
  unfold reqL
  simp only [List.length_append, hsz]
  show 1 + 32 + 1 + _ = _
  omega

/-- a row more -/
theorem push_row {T : TypeId} {h h1 : Heap} {base : Nat} {s x : Sl} {ll : List (List UInt8)} {l : List UInt8} {K : Sl → Heap → Prop} (ho : OwnRows h base s ll) (hext : Ext h h1) (hx : Own h1 h.size x 1 (l.map bv)) (hbase : base ≤ h.size) (hn : ll.length ≤ 1099511627776)
    (hk : ∀ s' h', OwnRows h' base s' (ll ++ [l]) → Upd (fun k => s.blk = some k) h1 h' → K s' h') :
    newC h1 [Value.slice x.ptr x.len x.cap] T fun b h2 => rdS ⟨some ⟨b, 0, none⟩, 1, 1⟩ 1 h2 fun new => app T 1 24 [Value.slice none 0 0] s 1 new h2 K := by
  refine newK fun h2 c2 e2 z2 => ?_
  have hrow : Row h2 ⟨some ⟨h1.size, 0, none⟩, 1, 1⟩ 1 [slV x] := ⟨rfl, Nat.le_refl _, (show 1 < 9223372036854775808 by decide), .inr ⟨h1.size, 0, rfl, has_block c2 fun i v hi => by simpa [slV] using hi⟩⟩
  refine hrow.rd ?_
  have hext2 := hext.trans e2
  have holen := OwnRows.len ho
  have z1 := hext.size
  obtain ⟨ss, g1, g2, g3, g4, g5⟩ := ho.rows
  have g1' := g1.congr (h' := h2) fun k _ hl _ => hext2.old k hl
  refine Own.app g1' (by simp) rfl rfl (by omega) (by omega) (by omega) fun s' h' ho' hl' hu hblk => hk s' h' ?_ ?_
  · refine OwnRows.snoc (x := x) (h1 := h2) ho hext2 (hx.congr fun k _ hl _ => e2.old k hl) hbase ?_ hu hblk
    intro vs hv1 _
    have : vs = ss.map slV := by
      rcases hv1.at_ with ⟨hz1, hz2⟩ | ⟨k1, c1, e1, z1, z2, z3, z4, z5⟩
      · have a1 := hv1.len
        have a2 := g1.len
        have a3 := hv1.cap
        have b1 : vs = [] := List.eq_nil_of_length_eq_zero (by rw [a1]; omega)
        have b2 : ss.map slV = [] := List.eq_nil_of_length_eq_zero (by rw [a2]; omega)
        rw [b1, b2]
      · rcases g1.at_ with ⟨hz1, hz2⟩ | ⟨k2, c2, e2, y1, y2, y3, y4, y5⟩
        · rw [hz1] at z1; cases z1
        · rw [z1] at y1
          cases y1
          rw [z3] at y3
          cases y3
          rw [z5, y5]
    rw [this]
    exact ho'
  · exact Upd.then (e2.upd _) hu fun k _ hk => hk

def allOk (rs : List Rq) : Bool := rs.all rightB

def allE (rs : List Rq) : Int := if allOk rs then 0 else 6

def allB (rs : List Rq) : List UInt8 := if allOk rs then fr (rs.map reqL) else []

theorem good_req {r : Rq} (h : rightB r = true) : good (reqL r) := by
  have := right_text h
  unfold good
  rw [reqL_len]
  omega

theorem total_req : ∀ (rs : List Rq), (∀ r, r ∈ rs → rightB r = true) → total (rs.map reqL) ≤ 99 * rs.length
  | [], _ => by simp [total]
  | r :: rs, h => by
    have h1 := total_req rs fun x hx => h x (.tail _ hx)
    have h2 := right_text (h r (.head _))
    have h3 := reqL_len r
    simp only [total, List.map_cons, List.sum_cons, List.length_cons] at h1 ⊢
    omega

/-- loads of a request's cells -/
theorem ldRq {h : Heap} {b o : Nat} {r : Rq} {K : Int → Int → Int → Int → ByteArray → Int → Prop} (hh : h.has b o (rqC r)) (hk : K r.1 r.2.1 r.2.2.1 r.2.2.2.1 r.2.2.2.2.1 r.2.2.2.2.2.1) :
    ldI h b o .i64 fun t3 => ldI h b (o + 1) .u8 fun t4 => ldI h b (o + 2) .i64 fun t5 => ldI h b (o + 3) .i64 fun t6 => ldS h b (o + 4) fun t7 => ldI h b (o + 5) .i64 fun t8 => K t3 t4 t5 t6 t7 t8 := by
  obtain ⟨h0, h1, h2, h3, h4, h5, _⟩ := hh
  exact ⟨_, h0, _, h1, _, h2, _, h3, _, h4, _, h5, hk⟩

/-- bytes of the call's own behind bytes of the call's own -/
theorem app_own {h0 h h1 : Heap} {base : Nat} {s x : Sl} {pre l : List UInt8} {K : Sl → Heap → Prop} (ho : Own h base s 1 (pre.map bv)) (he : Ext h h1) (hx : Own h1 h.size x 1 (l.map bv)) (hbase : base ≤ h.size) (hb0 : h0.size ≤ base) (he0 : Ext h0 h) (hn : pre.length + l.length ≤ 1099511627776)
    (hk : ∀ s' h', Own h' base s' 1 ((pre ++ l).map bv) → Ext h0 h' → (∀ k, k < h.size → s.blk ≠ some k → h'[k]? = h[k]?) → h.size ≤ h'.size → K s' h') :
    rdS x 1 h1 fun new => app 5 1 1 [Value.int .u8 0] s x.len new h1 K := by
  refine hx.row.rd ?_
  have ho1 := ho.congr (h' := h1) fun k _ hl _ => he.old k hl
  have h1l := Own.len ho
  have h2l := Own.len hx
  simp only [List.length_map, Nat.mul_one] at h1l h2l
  have hz := he.size
  refine Own.app ho1 (by simp only [List.length_map, Nat.mul_one]; exact h2l) (oneCell_bv l) rfl (by omega) (by omega) (by omega) fun s' h' ho' _ hu _ => hk s' h' ?_ ?_ ?_ ?_
  · rw [List.map_append]; exact ho'
  · exact (he0.trans he).then hu fun k hk => by have := (ho.lt hk).1; omega
  · intro k hk hne
    rw [hu.old k (by omega) hne, he.old k hk]
  · have := hu.size; omega

end Go.Proofs.Ytledmkhbaacdnaa
