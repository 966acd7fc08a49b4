/- The client, A. (gathered by carve.py out of texts proved for other seats) -/
import Derived.Test.YtbofhmcjcllcaaaClP
import Derived.Test.YtbofhmcjcllcaaaExM
namespace Go.Proofs.Ytbofhmcjcllcaaa
open Go Go.Fw

def MapI (h : Heap) (mb : Nat) (l : List (Int × Int)) : Prop :=
  ∃ es clk, h[mb]? = some (.map es clk) ∧ MapKept.Stamped es clk ∧ es.toList.map (fun e => (e.key, e.val)) = l.map (fun p => (iv p.1, iv p.2))

def Asc (l : List (Int × Int)) : Prop := l.Pairwise (fun a b => a.1 < b.1)

theorem MapI.congr {h h' : Heap} {mb : Nat} {l : List (Int × Int)} (hm : MapI h mb l) (he : h'[mb]? = h[mb]?) : MapI h' mb l := by
  obtain ⟨es, clk, hb, hs, hk⟩ := hm
  exact ⟨es, clk, he.trans hb, hs, hk⟩

theorem MapI.lt {h : Heap} {mb : Nat} {l : List (Int × Int)} (hm : MapI h mb l) : mb < h.size := by
  obtain ⟨es, clk, hb, hs, hk⟩ := hm
  exact blk_lt hb

theorem map_erase {α β : Type} (f : α → β) : ∀ (l : List α) (i : Nat), (l.map f).eraseIdx i = (l.eraseIdx i).map f
  | [], i => by simp
  | x :: l, 0 => rfl
  | x :: l, i + 1 => by simp [map_erase f l i]

theorem ents_get {es : List MapEntry} {l : List (Int × Int)} (hk : es.map (fun e => (e.key, e.val)) = l.map (fun p => (iv p.1, iv p.2))) {j : Nat} {e : MapEntry} (he : es[j]? = some e) : ∃ p, l[j]? = some p ∧ e.key = iv p.1 ∧ e.val = iv p.2 := by
  have h1 : (es.map (fun e => (e.key, e.val)))[j]? = some (e.key, e.val) := by rw [List.getElem?_map, he]; rfl
  rw [hk, List.getElem?_map] at h1
  cases hp : l[j]? with
  | none => rw [hp] at h1; cases h1
  | some p =>
    rw [hp] at h1
    simp only [Option.map_some, Option.some.injEq, Prod.mk.injEq] at h1
    exact ⟨p, rfl, h1.1.symm, h1.2.symm⟩

theorem ents_len {es : List MapEntry} {l : List (Int × Int)} (hk : es.map (fun e => (e.key, e.val)) = l.map (fun p => (iv p.1, iv p.2))) : es.length = l.length := by
  have := congrArg List.length hk
  simpa using this

theorem asc_inj {l : List (Int × Int)} (ha : Asc l) {i j : Nat} {p q : Int × Int} (hp : l[i]? = some p) (hq : l[j]? = some q) (he : p.1 = q.1) : i = j := by
  have hi := (List.getElem?_eq_some_iff.1 hp)
  have hj := (List.getElem?_eq_some_iff.1 hq)
  obtain ⟨hi, rfl⟩ := hi
  obtain ⟨hj, rfl⟩ := hj
  have := List.pairwise_iff_getElem.1 ha
  rcases Nat.lt_trichotomy i j with h1 | h1 | h1
  · have := this i j hi hj h1; omega
  · exact h1
  · have := this j i hj hi h1; omega

theorem ents_find {es : Array MapEntry} {l : List (Int × Int)} (hk : es.toList.map (fun e => (e.key, e.val)) = l.map (fun p => (iv p.1, iv p.2))) (n : Int) :
    (Instr.findNow (.int .i64) (iv n) es.toList 0 = some none ∧ ∀ p, p ∈ l → p.1 ≠ n) ∨ ∃ j p, Instr.findNow (.int .i64) (iv n) es.toList 0 = some (some (j, iv p.2)) ∧ l[j]? = some p ∧ p.1 = n := by
  have hkeys : ∀ x ∈ es.toList, MapKept.IsKey (.int .i64) x.key := fun x hx => by
    obtain ⟨j, hj⟩ := List.getElem?_of_mem hx
    obtain ⟨p, _, hp, _⟩ := ents_get hk hj
    rw [hp]
    rfl
  rcases MapKept.findNow_spec (d := .int .i64) (k := iv n) rfl es.toList 0 hkeys with ⟨h1, h2⟩ | ⟨j, e, h1, h2, h3⟩
  · refine .inl ⟨h1, fun p hp he => ?_⟩
    obtain ⟨j, hj⟩ := List.getElem?_of_mem hp
    have hl := ents_len hk
    have hjl : j < es.toList.length := by rw [hl]; exact (List.getElem?_eq_some_iff.1 hj).1
    have hx := List.getElem?_eq_getElem hjl
    obtain ⟨q, hq, hqk, _⟩ := ents_get hk hx
    rw [hj] at hq
    cases hq
    exact h2 _ (List.mem_of_getElem? hx) (by rw [hqk, he])
  · obtain ⟨p, hp, hpk, hpv⟩ := ents_get hk h2
    rw [Nat.zero_add] at h1
    rw [hpv] at h1
    refine .inr ⟨j, p, h1, hp, ?_⟩
    rw [hpk] at h3
    simpa using h3

theorem MapI.rising {h : Heap} {mb : Nat} {l : List (Int × Int)} (hm : MapI h mb l) (ha : Asc l) (hb : ∀ p, p ∈ l → -9223372036854775808 ≤ p.1 ∧ p.1 < 9223372036854775808) : Rising h mb (l.map (·.1)) := by
  obtain ⟨es, clk, h1, h2, h3⟩ := hm
  refine ⟨es, clk, h1, h2, ?_, ?_, fun x hx => ?_⟩
  · have := congrArg (List.map Prod.fst) h3
    simpa [List.map_map, Function.comp_def] using this
  · exact List.pairwise_map.2 ha
  · obtain ⟨p, hp, rfl⟩ := List.mem_map.1 hx
    exact hb p hp

theorem MapI.len_ {h : Heap} {mb : Nat} {l : List (Int × Int)} (hm : MapI h mb l) {K : Int → Prop} (hk : K (l.length : Int)) : lenM h (some mb) K := by
  obtain ⟨es, clk, h1, h2, h3⟩ := hm
  refine ⟨fun h9 => (by cases h9), fun b hb => ?_⟩
  cases hb
  refine ⟨es, clk, h1, ?_⟩
  have := ents_len h3
  simp at this
  rw [this]
  exact hk

theorem MapI.get {h : Heap} {mb : Nat} {l : List (Int × Int)} (hm : MapI h mb l) (ha : Asc l) {i : Nat} {p : Int × Int} (hp : l[i]? = some p) {K : Option Value → Prop} (hk : K (some (iv p.2))) : mapGet (.int .i64) h (some mb) (iv p.1) K := by
  obtain ⟨es, clk, h1, h2, h3⟩ := hm
  refine ⟨fun h9 => (by cases h9), fun b hb => ?_⟩
  cases hb
  rcases ents_find h3 p.1 with ⟨_, h5⟩ | ⟨j, q, h4, h5, h6⟩
  · exact absurd rfl (h5 p (List.mem_of_getElem? hp))
  · have := asc_inj ha hp h5 h6.symm
    subst this
    rw [hp] at h5
    cases h5
    exact ⟨es, clk, _, h1, h4, hk⟩

theorem MapI.getNone {h : Heap} {mb : Nat} {l : List (Int × Int)} (hm : MapI h mb l) {n : Int} (hn : ∀ p, p ∈ l → p.1 ≠ n) {K : Option Value → Prop} (hk : K none) : mapGet (.int .i64) h (some mb) (iv n) K := by
  obtain ⟨es, clk, h1, h2, h3⟩ := hm
  refine ⟨fun h9 => (by cases h9), fun b hb => ?_⟩
  cases hb
  rcases ents_find h3 n with ⟨h4, _⟩ | ⟨j, q, h4, h5, h6⟩
  · exact ⟨es, clk, _, h1, h4, hk⟩
  · exact absurd h6 (hn q (List.mem_of_getElem? h5))

theorem upd_set {h : Heap} {b : Nat} {x : Obj} : Upd (· = b) h (h.setIfInBounds b x) :=
  ⟨by simp, fun k _ hk => by rw [Array.getElem?_setIfInBounds_ne (fun e => hk e.symm)]⟩

theorem MapI.put {h : Heap} {mb : Nat} {l : List (Int × Int)} (hm : MapI h mb l) {n v : Int} (hn : ∀ p, p ∈ l → p.1 ≠ n) {K : Heap → Prop}
    (hk : ∀ h', MapI h' mb (l ++ [(n, v)]) → Upd (· = mb) h h' → h'.size = h.size → K h') : mapPut (.int .i64) h (some mb) (iv n) (iv v) K := by
  have hlt := hm.lt
  obtain ⟨es, clk, h1, h2, h3⟩ := hm
  have hkeys : ∀ x ∈ es.toList, ∃ p, p ∈ l ∧ x.key = iv p.1 := fun x hx => by
    obtain ⟨j, hj⟩ := List.getElem?_of_mem hx
    obtain ⟨p, hp, hpk, _⟩ := ents_get h3 hj
    exact ⟨p, List.mem_of_getElem? hp, hpk⟩
  rcases ents_find h3 n with ⟨h4, _⟩ | ⟨j, q, h4, h5, h6⟩
  · refine ⟨mb, es, clk, none, rfl, h1, fun x hx => ?_, h4, hk _ ⟨es.push { key := iv n, val := iv v, born := clk }, clk + 1, ?_, ?_, ?_⟩ upd_set (by simp)⟩
    · obtain ⟨p, _, hp⟩ := hkeys x hx
      rw [hp]
      rfl
    · rw [Array.getElem?_setIfInBounds_self_of_lt hlt]
      rfl
    · refine MapKept.stamped_push h2 fun x hx => ?_
      obtain ⟨p, hpl, hp⟩ := hkeys x hx
      rw [hp]
      intro he
      exact hn p hpl (by simpa using he)
    · rw [Array.toList_push, List.map_append, h3, List.map_append]
      rfl
  · exact absurd h6 (hn q (List.mem_of_getElem? h5))

theorem MapI.del {h : Heap} {mb : Nat} {l : List (Int × Int)} (hm : MapI h mb l) (ha : Asc l) {i : Nat} {p : Int × Int} (hp : l[i]? = some p) {K : Heap → Prop}
    (hk : ∀ h', MapI h' mb (l.eraseIdx i) → Upd (· = mb) h h' → h'.size = h.size → K h') : mapDel (.int .i64) h (some mb) (iv p.1) K := by
  have hlt := hm.lt
  obtain ⟨es, clk, h1, h2, h3⟩ := hm
  refine ⟨fun h9 => (by cases h9), fun b hb => ?_⟩
  cases hb
  rcases ents_find h3 p.1 with ⟨_, h5⟩ | ⟨j, q, h4, h5, h6⟩
  · exact absurd rfl (h5 p (List.mem_of_getElem? hp))
  · have := asc_inj ha hp h5 h6.symm
    subst this
    refine ⟨es, clk, _, h1, h4, hk _ ⟨es.eraseIdxIfInBounds i, clk, ?_, MapKept.stamped_erase h2 i, ?_⟩ upd_set (by simp)⟩
    · rw [Array.getElem?_setIfInBounds_self_of_lt hlt]
      rfl
    · have hil : i < es.size := by
        have := ents_len h3
        have h9 := (List.getElem?_eq_some_iff.1 hp).1
        simp at this
        omega
      unfold Array.eraseIdxIfInBounds
      rw [dif_pos hil, Array.toList_eraseIdx, ← map_erase, h3, map_erase]

structure Tld where
  id : Int
  a : An
  fb : Bool

def zAn : An := (0, 0, 0, 0, 0, ())

def fallT (id : Int) : Tld := ⟨id, zAn, true⟩

def tC (t : Tld) : List Value := [iv t.id, iv t.a.1, .int .u8 t.a.2.1, iv t.a.2.2.1, iv t.a.2.2.2.1, iv t.a.2.2.2.2.1, .bool t.fb]

theorem tC_len (t : Tld) : (tC t).length = 7 := rfl

theorem tC_one (l : List Tld) : (l.flatMap tC).all oneCell = true := by
  rw [List.all_eq_true]
  intro v hv
  obtain ⟨t, _, hv⟩ := List.mem_flatMap.1 hv
  simp only [tC, List.mem_cons, List.not_mem_nil, or_false] at hv
  rcases hv with rfl | rfl | rfl | rfl | rfl | rfl | rfl <;> rfl

structure Cl where
  tmo : Int
  least : Int
  most : Int
  name : ByteArray
  up : Bool
  last : Int
  next : Int
  waits : List (Int × Int)
  out : List UInt8
  told : List Tld
  dial : Int
  backoff : Int
  rb : List UInt8
  broken : Bool

def clC (rb mb : Nat) (so st : Sl) (c : Cl) : Array Value :=
  #[.pointer (some ⟨rb, 0, none⟩), iv c.tmo, iv c.least, iv c.most, .string c.name, .bool c.up, iv c.last, iv c.next, .map (some mb), slV so, slV st, iv c.dial, iv c.backoff]

structure ClR (h : Heap) (T : Nat → Option Nat) (cb rb mb : Nat) (so st sb : Sl) (c : Cl) : Prop where
  cells : h[cb]? = some (.cells (clC rb mb so st c) 79 (0, 0))
  rcell : h[rb]? = some (.cells #[slV sb, .bool c.broken] 108 (0, 0))
  map : MapI h mb c.waits
  out : Own h 0 so 1 (c.out.map bv)
  told : Own h 0 st 7 (c.told.flatMap tC)
  rbs : Bytes h sb c.rb
  tcb : T cb = some 0
  trb : T rb = some 1
  tmb : T mb = some 2
  tso : ∀ k, so.blk = some k → T k = some 3
  tst : ∀ k, st.blk = some k → T k = some 4
  tsb : ∀ k, sb.blk = some k → T k = some 5
  lt : ∀ k, T k ≠ none → k < h.size

def Client (h : Heap) (T : Nat → Option Nat) (cb : Nat) (c : Cl) : Prop := ∃ rb mb so st sb, ClR h T cb rb mb so st sb c

theorem ClR.congr {h h' : Heap} {T : Nat → Option Nat} {cb rb mb : Nat} {so st sb : Sl} {c : Cl} (hR : ClR h T cb rb mb so st sb c) (hs : h.size ≤ h'.size) (he : ∀ k, T k ≠ none → h'[k]? = h[k]?) : ClR h' T cb rb mb so st sb c :=
  ⟨(he cb (by rw [hR.tcb]; simp)).trans hR.cells, (he rb (by rw [hR.trb]; simp)).trans hR.rcell, hR.map.congr (he mb (by rw [hR.tmb]; simp)), hR.out.congr fun k hk _ _ => he k (by rw [hR.tso k hk]; simp), hR.told.congr fun k hk _ _ => he k (by rw [hR.tst k hk]; simp),
    hR.rbs.congr fun k o hk _ _ => he k (by rw [hR.tsb k (by simp [Sl.blk, hk])]; simp), hR.tcb, hR.trb, hR.tmb, hR.tso, hR.tst, hR.tsb, fun k hk => Nat.lt_of_lt_of_le (hR.lt k hk) hs⟩

theorem ClR.upd {h h' : Heap} {T : Nat → Option Nat} {cb rb mb : Nat} {so st sb : Sl} {c : Cl} {S : Nat → Prop} (hR : ClR h T cb rb mb so st sb c) (hu : Upd S h h') (hd : ∀ k, k < h.size → S k → T k = none) : ClR h' T cb rb mb so st sb c :=
  hR.congr hu.size fun k hk => hu.old k (hR.lt k hk) fun hS => hk (hd k (hR.lt k hk) hS)

theorem ClR.ext {h h' : Heap} {T : Nat → Option Nat} {cb rb mb : Nat} {so st sb : Sl} {c : Cl} (hR : ClR h T cb rb mb so st sb c) (he : Ext h h') : ClR h' T cb rb mb so st sb c := hR.upd (he.upd fun _ => False) fun _ _ h => h.elim

theorem Client.upd {h h' : Heap} {T : Nat → Option Nat} {cb : Nat} {c : Cl} {S : Nat → Prop} (hC : Client h T cb c) (hu : Upd S h h') (hd : ∀ k, k < h.size → S k → T k = none) : Client h' T cb c := by
  obtain ⟨rb, mb, so, st, sb, hR⟩ := hC
  exact ⟨rb, mb, so, st, sb, hR.upd hu hd⟩

theorem Client.ext {h h' : Heap} {T : Nat → Option Nat} {cb : Nat} {c : Cl} (hC : Client h T cb c) (he : Ext h h') : Client h' T cb c := hC.upd (he.upd fun _ => False) fun _ _ h => h.elim

theorem Client.lt {h : Heap} {T : Nat → Option Nat} {cb : Nat} {c : Cl} (hC : Client h T cb c) : ∀ k, T k ≠ none → k < h.size := by
  obtain ⟨rb, mb, so, st, sb, hR⟩ := hC
  exact hR.lt

theorem none_new {h : Heap} {T : Nat → Option Nat} (hT : ∀ k, T k ≠ none → k < h.size) {k : Nat} (hk : h.size ≤ k) : T k = none := by
  rcases hTk : T k with _ | t
  · rfl
  · have := hT k (by rw [hTk]; simp); omega

theorem ldPk {h : Heap} {b o : Nat} {p : Option Addr} {c : Array Value} {e : TypeId} {K : Option Addr → Prop} (hb : h[b]? = some (.cells c e (0, 0))) (hc : c[o]? = some (.pointer p)) (hk : K p) : ldP h b o K := ⟨p, (cell_block hb).trans hc, hk⟩

theorem ldMk {h : Heap} {b o : Nat} {p : Option Nat} {c : Array Value} {e : TypeId} {K : Option Nat → Prop} (hb : h[b]? = some (.cells c e (0, 0))) (hc : c[o]? = some (.map p)) (hk : K p) : ldM h b o K := ⟨p, (cell_block hb).trans hc, hk⟩

theorem Stp.keep {T T' : Nat → Option Nat} {h h' : Heap} (st : Stp T T' h h') {b : Nat} {x : Obj} (hT : T b = none) (hq : h[b]? = some x) : h'[b]? = some x := by
  rw [st.upd.old b (blk_lt hq) fun h9 => h9 hT]; exact hq

theorem Stp.none_ {T T' : Nat → Option Nat} {h h' : Heap} (st : Stp T T' h h') {b : Nat} (hT : T b = none) (hl : b < h.size) : T' b = none := by
  refine Classical.byContradiction fun h9 => ?_
  rcases st.new b h9 with h8 | h8
  · exact h8 hT
  · omega

theorem Stp.ofExt {T : Nat → Option Nat} {h h' : Heap} (e : Ext h h') : Stp T T h h' := ⟨e.upd _, fun _ h => .inl h⟩

theorem Stp.ofUpd {T : Nat → Option Nat} {h h' : Heap} {S : Nat → Prop} (u : Upd S h h') (hS : ∀ k, k < h.size → S k → T k ≠ none) : Stp T T h h' := ⟨u.mono hS, fun _ h => .inl h⟩

/-- a plain field is written -/
theorem ClR.setF {h : Heap} {T : Nat → Option Nat} {cb rb mb : Nat} {so st sb : Sl} {c : Cl} (hR : ClR h T cb rb mb so st sb c) (c' : Cl) {i : Nat} {v : Value} (hi : i < 13) (hv : oneCell v = true) (hc : clC rb mb so st c' = (clC rb mb so st c).setIfInBounds i v)
    (h1 : c'.waits = c.waits) (h2 : c'.out = c.out) (h3 : c'.told = c.told) (h4 : c'.rb = c.rb) (h5 : c'.broken = c.broken) {K : Heap → Prop}
    (hk : ∀ h', ClR h' T cb rb mb so st sb c' → Stp T T h h' → h'.size = h.size → K h') : Fw.st h cb i v K := by
  refine put2 hR.cells hi hv fun h' c1 u1 z1 => ?_
  have ne : ∀ {k t}, T k = some t → t ≠ 0 → k ≠ cb := fun {k t} h8 h9 h7 => by subst h7; rw [hR.tcb] at h8; cases h8; exact h9 rfl
  have old : ∀ {k t}, T k = some t → t ≠ 0 → h'[k]? = h[k]? := fun {k t} h8 h9 => u1.old k (hR.lt k (by rw [h8]; simp)) (ne h8 h9)
  refine hk h' ⟨by rw [c1, hc], by rw [h5]; exact (old hR.trb (by decide)).trans hR.rcell, by rw [h1]; exact hR.map.congr (old hR.tmb (by decide)), by rw [h2]; exact hR.out.congr fun k hk _ _ => old (hR.tso k hk) (by decide), by rw [h3]; exact hR.told.congr fun k hk _ _ => old (hR.tst k hk) (by decide),
    by rw [h4]; exact hR.rbs.congr fun k o hk _ _ => old (hR.tsb k (by simp [Sl.blk, hk])) (by decide), hR.tcb, hR.trb, hR.tmb, hR.tso, hR.tst, hR.tsb, fun k hk => by rw [z1]; exact hR.lt k hk⟩ (Stp.ofUpd u1 fun k _ hk => by subst hk; rw [hR.tcb]; simp) z1

end Go.Proofs.Ytbofhmcjcllcaaa
