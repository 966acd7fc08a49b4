/- The reference's client in memory; how each of its rows is replaced. -/
import Derived.Test.YtcmedplogmjiiaaGreatClR
import Derived.Test.YtcmedplogmjiiaaGreatClQ
namespace Go.Proofs.YtcmedplogmjiiaaGreat
open Go Go.Fw

def wC (p : Int × Int) : List Value := [iv p.1, iv p.2]
theorem wC_len (p : Int × Int) : (wC p).length = 2 := rfl
theorem wC_one (l : List (Int × Int)) : (l.flatMap wC).all oneCell = true := by
  rw [List.all_eq_true]
  intro v hv
  obtain ⟨t, _, hv⟩ := List.mem_flatMap.1 hv
  simp only [wC, List.mem_cons, List.not_mem_nil, or_false] at hv
  rcases hv with rfl | rfl <;> rfl
def rfC (rb : Nat) (sl so st : Sl) (c : Cl) : Array Value :=
  #[iv c.tmo, iv c.least, iv c.most, .string c.name, .bool c.up, slV sl, iv (c.next - 1), slV so, slV st, iv c.dial, iv c.backoff, .pointer (some ⟨rb, 0, none⟩), iv c.last]
structure RfR (h : Heap) (T : Nat → Option Nat) (cb rb : Nat) (sl so st sb : Sl) (c : Cl) : Prop where
  cells : h[cb]? = some (.cells (rfC rb sl so st c) 60 (0, 0))
  rcell : h[rb]? = some (.cells #[slV sb, .bool c.broken] 91 (0, 0))
  l : Own h 0 sl 2 (c.waits.flatMap wC)
  out : Own h 0 so 1 (c.out.map bv)
  told : Own h 0 st 7 (c.told.flatMap tC)
  rbs : Bytes h sb c.rb
  tcb : T cb = some 0
  trb : T rb = some 1
  tsl : ∀ k, sl.blk = some k → T k = some 2
  tso : ∀ k, so.blk = some k → T k = some 3
  tst : ∀ k, st.blk = some k → T k = some 4
  tsb : ∀ k, sb.blk = some k → T k = some 5
  lt : ∀ k, T k ≠ none → k < h.size
def RefC (h : Heap) (T : Nat → Option Nat) (cb : Nat) (c : Cl) : Prop := ∃ rb sl so st sb, RfR h T cb rb sl so st sb c

/-- one step of the reference's client: rows of the reader (5) are never written -/
structure StpR (T T' : Nat → Option Nat) (h h' : Heap) : Prop where
  upd : Upd (fun k => T k ≠ none ∧ T k ≠ some 5) h h'
  new : ∀ k, T' k ≠ none → T k ≠ none ∨ h.size ≤ k
  five : ∀ k, T k = some 5 → T' k = some 5
theorem StpR.refl (T : Nat → Option Nat) (h : Heap) : StpR T T h h := ⟨Upd.refl _ _, fun _ h => .inl h, fun _ h => h⟩
theorem StpR.trans {T T' T'' : Nat → Option Nat} {a b c : Heap} (h : StpR T T' a b) (h' : StpR T' T'' b c) : StpR T T'' a c := by
  refine ⟨Upd.then h.upd h'.upd fun k hk hT => ?_, fun k hk => ?_, fun k hk => h'.five k (h.five k hk)⟩
  · rcases h.new k hT.1 with h1 | h1
    · exact ⟨h1, fun h5 => hT.2 (h.five k h5)⟩
    · omega
  · have := h.upd.size
    rcases h'.new k hk with h1 | h1
    · exact h.new k h1
    · exact .inr (by omega)
theorem StpR.stp {T T' : Nat → Option Nat} {h h' : Heap} (s : StpR T T' h h') : Stp T T' h h' := ⟨s.upd.mono fun _ _ h => h.1, s.new⟩
theorem StpR.ofExt {T : Nat → Option Nat} {h h' : Heap} (e : Ext h h') : StpR T T h h' := ⟨e.upd _, fun _ h => .inl h, fun _ h => h⟩
theorem StpR.also {T T' : Nat → Option Nat} {h h' h'' : Heap} {S : Nat → Prop} (st : StpR T T' h h') (u : Upd S h' h'') (hS : ∀ k, S k → h.size ≤ k) : StpR T T' h h'' :=
  ⟨Upd.then st.upd u fun k hk h9 => by have := hS k h9; omega, st.new, st.five⟩
theorem RfR.congr {h h' : Heap} {T : Nat → Option Nat} {cb rb : Nat} {sl so st sb : Sl} {c : Cl} (hR : RfR h T cb rb sl so st sb c) (hs : h.size ≤ h'.size) (he : ∀ k, T k ≠ none → h'[k]? = h[k]?) : RfR h' T cb rb sl so st sb c :=
  ⟨(he cb (by rw [hR.tcb]; simp)).trans hR.cells, (he rb (by rw [hR.trb]; simp)).trans hR.rcell, hR.l.congr fun k hk _ _ => he k (by rw [hR.tsl k hk]; simp), hR.out.congr fun k hk _ _ => he k (by rw [hR.tso k hk]; simp), hR.told.congr fun k hk _ _ => he k (by rw [hR.tst k hk]; simp),
    hR.rbs.congr fun k o hk _ _ => he k (by rw [hR.tsb k (by simp [Sl.blk, hk])]; simp), hR.tcb, hR.trb, hR.tsl, hR.tso, hR.tst, hR.tsb, fun k hk => Nat.lt_of_lt_of_le (hR.lt k hk) hs⟩
theorem RfR.upd {h h' : Heap} {T : Nat → Option Nat} {cb rb : Nat} {sl so st sb : Sl} {c : Cl} {S : Nat → Prop} (hR : RfR h T cb rb sl so st sb c) (hu : Upd S h h') (hd : ∀ k, k < h.size → S k → T k = none) : RfR h' T cb rb sl so st sb c :=
  hR.congr hu.size fun k hk => hu.old k (hR.lt k hk) fun hS => hk (hd k (hR.lt k hk) hS)
theorem RfR.ext {h h' : Heap} {T : Nat → Option Nat} {cb rb : Nat} {sl so st sb : Sl} {c : Cl} (hR : RfR h T cb rb sl so st sb c) (he : Ext h h') : RfR h' T cb rb sl so st sb c := hR.upd (he.upd fun _ => False) fun _ _ h => h.elim
theorem RefC.upd {h h' : Heap} {T : Nat → Option Nat} {cb : Nat} {c : Cl} {S : Nat → Prop} (hC : RefC h T cb c) (hu : Upd S h h') (hd : ∀ k, k < h.size → S k → T k = none) : RefC h' T cb c := by
  obtain ⟨rb, sl, so, st, sb, hR⟩ := hC
  exact ⟨rb, sl, so, st, sb, hR.upd hu hd⟩
theorem RefC.ext {h h' : Heap} {T : Nat → Option Nat} {cb : Nat} {c : Cl} (hC : RefC h T cb c) (he : Ext h h') : RefC h' T cb c := hC.upd (he.upd fun _ => False) fun _ _ h => h.elim
theorem RefC.lt {h : Heap} {T : Nat → Option Nat} {cb : Nat} {c : Cl} (hC : RefC h T cb c) : ∀ k, T k ≠ none → k < h.size := by
  obtain ⟨rb, sl, so, st, sb, hR⟩ := hC
  exact hR.lt

/-- a plain field is written -/
theorem RfR.setF {h : Heap} {T : Nat → Option Nat} {cb rb : Nat} {sl so st sb : Sl} {c : Cl} (hR : RfR h T cb rb sl so st sb c) (c' : Cl) {i : Nat} {v : Value} (hi : i < 13) (hv : oneCell v = true) (hc : rfC rb sl so st c' = (rfC rb sl so st c).setIfInBounds i v)
    (h1 : c'.waits = c.waits) (h2 : c'.out = c.out) (h3 : c'.told = c.told) (h4 : c'.rb = c.rb) (h5 : c'.broken = c.broken) {K : Heap → Prop}
    (hk : ∀ h', RfR h' T cb rb sl so st sb c' → StpR T T h h' → h'.size = h.size → K h') : Fw.st h cb i v K := by
  refine put2 hR.cells hi hv fun h' c1 u1 z1 => ?_
  have ne : ∀ {k t}, T k = some t → t ≠ 0 → k ≠ cb := fun {k t} h8 h9 h7 => by subst h7; rw [hR.tcb] at h8; cases h8; exact h9 rfl
  have old : ∀ {k t}, T k = some t → t ≠ 0 → h'[k]? = h[k]? := fun {k t} h8 h9 => u1.old k (hR.lt k (by rw [h8]; simp)) (ne h8 h9)
  refine hk h' ⟨by rw [c1, hc], by rw [h5]; exact (old hR.trb (by decide)).trans hR.rcell, by rw [h1]; exact hR.l.congr fun k hk _ _ => old (hR.tsl k hk) (by decide), by rw [h2]; exact hR.out.congr fun k hk _ _ => old (hR.tso k hk) (by decide), by rw [h3]; exact hR.told.congr fun k hk _ _ => old (hR.tst k hk) (by decide),
    by rw [h4]; exact hR.rbs.congr fun k o hk _ _ => old (hR.tsb k (by simp [Sl.blk, hk])) (by decide), hR.tcb, hR.trb, hR.tsl, hR.tso, hR.tst, hR.tsb, fun k hk => by rw [z1]; exact hR.lt k hk⟩ ⟨u1.mono fun k _ hk => (by subst hk; rw [hR.tcb]; exact ⟨by simp, by simp⟩), fun _ h => .inl h, fun _ h => h⟩ z1

theorem RfR.setL {h h1 : Heap} {T : Nat → Option Nat} {cb rb : Nat} {sl so st sb : Sl} {c : Cl} (hR : RfR h T cb rb sl so st sb c) {x : Sl} {l : List (Int × Int)} (hx : Own h1 0 x 2 (l.flatMap wC)) (hnew : ∀ k, x.blk = some k → T k = some 2 ∨ h.size ≤ k) (hu : Upd (fun k => T k = some 2) h h1)
    {K : Heap → Prop} (hk : ∀ h2 T', RfR h2 T' cb rb x so st sb { c with waits := l } → StpR T T' h h2 → Upd (· = cb) h1 h2 → K h2) : Fw.st h1 cb 5 (slV x) K := by
  have ne : ∀ {k t}, T k = some t → t ≠ 2 → h1[k]? = h[k]? := fun {k t} h8 h9 => hu.old k (hR.lt k (by rw [h8]; simp)) fun h7 => by rw [h8] at h7; cases h7; exact h9 rfl
  have ncb : ∀ {k t}, T k = some t → t ≠ 0 → k ≠ cb := fun {k t} h8 h9 h7 => by subst h7; rw [hR.tcb] at h8; cases h8; exact h9 rfl
  have lcb := blk_lt hR.cells
  have c1 : h1[cb]? = some (.cells (rfC rb sl so st c) _ (0, 0)) := (ne hR.tcb (by decide)).trans hR.cells
  refine put2 c1 (by show 5 < 13; decide) rfl fun h2 c2 u2 z2 => ?_
  have x1 : ∀ k, x.blk = some k → k ≠ cb := fun k hx9 h9 => by
    subst h9
    rcases hnew k hx9 with h8 | h8
    · rw [hR.tcb] at h8; cases h8
    · omega
  have old : ∀ {k t}, T k = some t → t ≠ 0 → t ≠ 2 → h2[k]? = h[k]? := fun {k t} h8 h9 h7 => (u2.old k (by have := hR.lt k (by rw [h8]; simp); have := hu.size; omega) (ncb h8 h9)).trans (ne h8 h7)
  have tag : ∀ {k t}, T k = some t → t ≠ 2 → (if x.blk = some k then some 2 else T k) = some t := fun {k t} h8 h9 => by
    rw [if_neg fun h7 => ?_]
    · exact h8
    · rcases hnew k h7 with h6 | h6
      · rw [h8] at h6; cases h6; exact h9 rfl
      · have := hR.lt k (by rw [h8]; simp); omega
  refine hk h2 (fun k => if x.blk = some k then some 2 else T k) ⟨c2, (old hR.trb (by decide) (by decide)).trans hR.rcell, hx.congr fun k hk hl _ => u2.old k hl (x1 k hk), hR.out.congr fun k hk _ _ => old (hR.tso k hk) (by decide) (by decide), hR.told.congr fun k hk _ _ => old (hR.tst k hk) (by decide) (by decide), hR.rbs.congr fun k o hk _ _ => old (hR.tsb k (by simp [Sl.blk, hk])) (by decide) (by decide), tag hR.tcb (by decide), tag hR.trb (by decide), fun k hk => (by rw [if_pos hk]), fun k hk => tag (hR.tso k hk) (by decide), fun k hk => tag (hR.tst k hk) (by decide), fun k hk => tag (hR.tsb k hk) (by decide), fun k hk => ?_⟩
    ⟨Upd.then (hu.mono fun k _ h8 => by rw [h8]; exact ⟨by simp, by simp⟩) u2 fun k _ h8 => (by subst h8; rw [hR.tcb]; exact ⟨by simp, by simp⟩), fun k hk => ?_, fun k hk => tag hk (by decide)⟩ u2
  · have := hu.size
    by_cases h8 : x.blk = some k
    · have := (hx.lt h8).2; omega
    · rw [if_neg h8] at hk
      have := hR.lt k hk; omega
  · by_cases h8 : x.blk = some k
    · rcases hnew k h8 with h7 | h7
      · exact .inl (by rw [h7]; simp)
      · exact .inr h7
    · rw [if_neg h8] at hk
      exact .inl hk
theorem RfR.setOut {h h1 : Heap} {T : Nat → Option Nat} {cb rb : Nat} {sl so st sb : Sl} {c : Cl} (hR : RfR h T cb rb sl so st sb c) {x : Sl} {l : List UInt8} (hx : Own h1 0 x 1 (l.map bv)) (hnew : ∀ k, x.blk = some k → T k = some 3 ∨ h.size ≤ k) (hu : Upd (fun k => T k = some 3) h h1)
    {K : Heap → Prop} (hk : ∀ h2 T', RfR h2 T' cb rb sl x st sb { c with out := l } → StpR T T' h h2 → Upd (· = cb) h1 h2 → K h2) : Fw.st h1 cb 7 (slV x) K := by
  have ne : ∀ {k t}, T k = some t → t ≠ 3 → h1[k]? = h[k]? := fun {k t} h8 h9 => hu.old k (hR.lt k (by rw [h8]; simp)) fun h7 => by rw [h8] at h7; cases h7; exact h9 rfl
  have ncb : ∀ {k t}, T k = some t → t ≠ 0 → k ≠ cb := fun {k t} h8 h9 h7 => by subst h7; rw [hR.tcb] at h8; cases h8; exact h9 rfl
  have lcb := blk_lt hR.cells
  have c1 : h1[cb]? = some (.cells (rfC rb sl so st c) _ (0, 0)) := (ne hR.tcb (by decide)).trans hR.cells
  refine put2 c1 (by show 7 < 13; decide) rfl fun h2 c2 u2 z2 => ?_
  have x1 : ∀ k, x.blk = some k → k ≠ cb := fun k hx9 h9 => by
    subst h9
    rcases hnew k hx9 with h8 | h8
    · rw [hR.tcb] at h8; cases h8
    · omega
  have old : ∀ {k t}, T k = some t → t ≠ 0 → t ≠ 3 → h2[k]? = h[k]? := fun {k t} h8 h9 h7 => (u2.old k (by have := hR.lt k (by rw [h8]; simp); have := hu.size; omega) (ncb h8 h9)).trans (ne h8 h7)
  have tag : ∀ {k t}, T k = some t → t ≠ 3 → (if x.blk = some k then some 3 else T k) = some t := fun {k t} h8 h9 => by
    rw [if_neg fun h7 => ?_]
    · exact h8
    · rcases hnew k h7 with h6 | h6
      · rw [h8] at h6; cases h6; exact h9 rfl
      · have := hR.lt k (by rw [h8]; simp); omega
  refine hk h2 (fun k => if x.blk = some k then some 3 else T k) ⟨c2, (old hR.trb (by decide) (by decide)).trans hR.rcell, hR.l.congr fun k hk _ _ => old (hR.tsl k hk) (by decide) (by decide), hx.congr fun k hk hl _ => u2.old k hl (x1 k hk), hR.told.congr fun k hk _ _ => old (hR.tst k hk) (by decide) (by decide), hR.rbs.congr fun k o hk _ _ => old (hR.tsb k (by simp [Sl.blk, hk])) (by decide) (by decide), tag hR.tcb (by decide), tag hR.trb (by decide), fun k hk => tag (hR.tsl k hk) (by decide), fun k hk => (by rw [if_pos hk]), fun k hk => tag (hR.tst k hk) (by decide), fun k hk => tag (hR.tsb k hk) (by decide), fun k hk => ?_⟩
    ⟨Upd.then (hu.mono fun k _ h8 => by rw [h8]; exact ⟨by simp, by simp⟩) u2 fun k _ h8 => (by subst h8; rw [hR.tcb]; exact ⟨by simp, by simp⟩), fun k hk => ?_, fun k hk => tag hk (by decide)⟩ u2
  · have := hu.size
    by_cases h8 : x.blk = some k
    · have := (hx.lt h8).2; omega
    · rw [if_neg h8] at hk
      have := hR.lt k hk; omega
  · by_cases h8 : x.blk = some k
    · rcases hnew k h8 with h7 | h7
      · exact .inl (by rw [h7]; simp)
      · exact .inr h7
    · rw [if_neg h8] at hk
      exact .inl hk
theorem RfR.setTold {h h1 : Heap} {T : Nat → Option Nat} {cb rb : Nat} {sl so st sb : Sl} {c : Cl} (hR : RfR h T cb rb sl so st sb c) {x : Sl} {l : List Tld} (hx : Own h1 0 x 7 (l.flatMap tC)) (hnew : ∀ k, x.blk = some k → T k = some 4 ∨ h.size ≤ k) (hu : Upd (fun k => T k = some 4) h h1)
    {K : Heap → Prop} (hk : ∀ h2 T', RfR h2 T' cb rb sl so x sb { c with told := l } → StpR T T' h h2 → Upd (· = cb) h1 h2 → K h2) : Fw.st h1 cb 8 (slV x) K := by
  have ne : ∀ {k t}, T k = some t → t ≠ 4 → h1[k]? = h[k]? := fun {k t} h8 h9 => hu.old k (hR.lt k (by rw [h8]; simp)) fun h7 => by rw [h8] at h7; cases h7; exact h9 rfl
  have ncb : ∀ {k t}, T k = some t → t ≠ 0 → k ≠ cb := fun {k t} h8 h9 h7 => by subst h7; rw [hR.tcb] at h8; cases h8; exact h9 rfl
  have lcb := blk_lt hR.cells
  have c1 : h1[cb]? = some (.cells (rfC rb sl so st c) _ (0, 0)) := (ne hR.tcb (by decide)).trans hR.cells
  refine put2 c1 (by show 8 < 13; decide) rfl fun h2 c2 u2 z2 => ?_
  have x1 : ∀ k, x.blk = some k → k ≠ cb := fun k hx9 h9 => by
    subst h9
    rcases hnew k hx9 with h8 | h8
    · rw [hR.tcb] at h8; cases h8
    · omega
  have old : ∀ {k t}, T k = some t → t ≠ 0 → t ≠ 4 → h2[k]? = h[k]? := fun {k t} h8 h9 h7 => (u2.old k (by have := hR.lt k (by rw [h8]; simp); have := hu.size; omega) (ncb h8 h9)).trans (ne h8 h7)
  have tag : ∀ {k t}, T k = some t → t ≠ 4 → (if x.blk = some k then some 4 else T k) = some t := fun {k t} h8 h9 => by
    rw [if_neg fun h7 => ?_]
    · exact h8
    · rcases hnew k h7 with h6 | h6
      · rw [h8] at h6; cases h6; exact h9 rfl
      · have := hR.lt k (by rw [h8]; simp); omega
  refine hk h2 (fun k => if x.blk = some k then some 4 else T k) ⟨c2, (old hR.trb (by decide) (by decide)).trans hR.rcell, hR.l.congr fun k hk _ _ => old (hR.tsl k hk) (by decide) (by decide), hR.out.congr fun k hk _ _ => old (hR.tso k hk) (by decide) (by decide), hx.congr fun k hk hl _ => u2.old k hl (x1 k hk), hR.rbs.congr fun k o hk _ _ => old (hR.tsb k (by simp [Sl.blk, hk])) (by decide) (by decide), tag hR.tcb (by decide), tag hR.trb (by decide), fun k hk => tag (hR.tsl k hk) (by decide), fun k hk => tag (hR.tso k hk) (by decide), fun k hk => (by rw [if_pos hk]), fun k hk => tag (hR.tsb k hk) (by decide), fun k hk => ?_⟩
    ⟨Upd.then (hu.mono fun k _ h8 => by rw [h8]; exact ⟨by simp, by simp⟩) u2 fun k _ h8 => (by subst h8; rw [hR.tcb]; exact ⟨by simp, by simp⟩), fun k hk => ?_, fun k hk => tag hk (by decide)⟩ u2
  · have := hu.size
    by_cases h8 : x.blk = some k
    · have := (hx.lt h8).2; omega
    · rw [if_neg h8] at hk
      have := hR.lt k hk; omega
  · by_cases h8 : x.blk = some k
    · rcases hnew k h8 with h7 | h7
      · exact .inl (by rw [h7]; simp)
      · exact .inr h7
    · rw [if_neg h8] at hk
      exact .inl hk

end Go.Proofs.YtcmedplogmjiiaaGreat
