/- What Book's functions do: taking bytes; the other lists stay empty. -/
import Derived.Test.YtpbpooaleiolcaaFrQ
namespace Go.Proofs.Ytpbpooaleiolcaa
open Go Go.Fw

abbrev nilV : Value := .slice none 0 0
/-- a book at block bk: the rows that it keeps -/
structure BookR (h : Heap) (bk base : Nat) (s0 : Sl) (ss : List Sl) : Prop where
  cells : h[bk]? = some (.cells #[slV s0, nilV, nilV, nilV, nilV, nilV, nilV, nilV] 47 (0, 0))
  own : Own h base s0 1 (ss.map slV)
  lt : bk < base
  apart : ∀ x ∈ ss, ∀ k, x.blk = some k → k ≠ bk ∧ s0.blk ≠ some k ∧ k < h.size

theorem TakeBytes_spec {bk base : Nat} {s0 x : Sl} {ss : List Sl} {h : Heap} {K : Heap → Prop} (hb : BookR h bk base s0 ss) (hx : ∀ k, x.blk = some k → k ≠ bk ∧ s0.blk ≠ some k ∧ k < h.size) (hn : ss.length ≤ 1099511627776) (hbase : base ≤ h.size)
    (hk : ∀ s1 h', BookR h' bk base s1 (ss ++ [x]) → Upd (fun k => k = bk ∨ s0.blk = some k) h h' → (s1.blk = s0.blk ∨ ∀ k, s1.blk = some k → h.size ≤ k) → K h') :
    m_spillwaymem_Book_TakeBytes (some ⟨bk, 0, none⟩) x K h := by
  unfold m_spillwaymem_Book_TakeBytes g_spillwaymem_Book_TakeBytes
  refine deref_some ⟨s0, by rw [cell_block hb.cells]; rfl, newC_intro ?_⟩
  have hext := Ext.push h (.cells [slV x].toArray 29)
  have hrow : Row (h.push (.cells [slV x].toArray 29)) ⟨some ⟨h.size, 0, none⟩, 1, 1⟩ 1 [slV x] := (Own.newC (h := h) (cells := [slV x]) (t := 29) (size := 1) (n := 1) rfl (by decide)).row
  refine hrow.rd ?_
  have ho := hb.own.congr (h' := h.push (.cells [slV x].toArray 29)) fun k _ hl _ => hext.old k hl
  have hol := hb.own.len
  have hlt := hb.lt
  simp only [List.length_map, Nat.mul_one] at hol
  refine Own.app ho (by simp) rfl rfl (by omega) (by omega) (by simp; omega) fun s1 h2 ho2 hl2 hu2 hblk2 => ?_
  have hnb : ¬ s0.blk = some bk := fun he => by have := (hb.own.lt he).1; omega
  have hbs : bk < h.size := by omega
  have hbk2 : h2[bk]? = some (.cells #[slV s0, nilV, nilV, nilV, nilV, nilV, nilV, nilV] 47 (0, 0)) := by
    exact ((hu2.old bk (by simp; omega) hnb).trans (hext.old bk hbs)).trans hb.cells
  refine deref_some (st_intro hbk2 (by simp) rfl ?_)
  have hs2 := hu2.size
  simp at hs2
  have new1 : s1.blk = s0.blk ∨ ∀ k, s1.blk = some k → h.size ≤ k := by
    rcases hblk2 with e | e
    · exact .inl e
    · refine .inr fun k hk => ?_
      rw [e] at hk
      simp at hk
      omega
  refine hk s1 _ ⟨?_, ?_, hlt, ?_⟩ ?_ new1
  · rw [put_block hbk2]; rfl
  · rw [List.map_append]
    refine ho2.congr fun k hk hl hbk => put_other (by omega)
  · intro y hy k hky
    have hyk : k ≠ bk ∧ s0.blk ≠ some k ∧ k < h.size := by
      rcases List.mem_append.1 hy with hy | hy
      · exact hb.apart y hy k hky
      · have : y = x := by simpa using hy
        rw [this] at hky
        exact hx k hky
    refine ⟨hyk.1, ?_, by rw [put_size]; omega⟩
    rcases new1 with e | e
    · rw [e]; exact hyk.2.1
    · intro he
      have := e k he
      omega
  · refine ⟨by rw [put_size]; omega, fun k hk hS => ?_⟩
    rw [put_other (by intro he; exact hS (.inl he))]
    exact (hu2.old k (by simp; omega) (fun he => hS (.inr he))).trans (hext.old k hk)

theorem TakePayloads_spec {bk base : Nat} {s0 l : Sl} {ss us : List Sl} {h : Heap} {K : Heap → Prop} (hb : BookR h bk base s0 ss) (hl : Row h l 1 (us.map slV)) (hlb : ∀ k, l.blk = some k → k ≠ bk ∧ s0.blk ≠ some k)
    (hx : ∀ x ∈ us, ∀ k, x.blk = some k → k ≠ bk ∧ s0.blk ≠ some k ∧ k < h.size) (hn : ss.length + us.length ≤ 1099511627776) (hbase : base ≤ h.size)
    (hk : ∀ s1 h', BookR h' bk base s1 (ss ++ us) → Upd (fun k => k = bk ∨ s0.blk = some k) h h' → (s1.blk = s0.blk ∨ ∀ k, s1.blk = some k → h.size ≤ k) → K h') :
    m_spillwaymem_Book_TakePayloads (some ⟨bk, 0, none⟩) l K h := by
  unfold m_spillwaymem_Book_TakePayloads g_spillwaymem_Book_TakePayloads
  have hll := hl.len
  simp only [List.length_map, Nat.mul_one] at hll
  refine bindI_intro (loopM_intro (fun s h' => ∃ (k : Nat) (s1 : Sl), s.1 = (k : Int) ∧ k ≤ us.length ∧ BookR h' bk base s1 (ss ++ us.take k) ∧ Upd (fun k => k = bk ∨ s0.blk = some k) h h' ∧ (s1.blk = s0.blk ∨ ∀ k, s1.blk = some k → h.size ≤ k)) (fun s _ => us.length - s.1.toNat)
    ⟨0, s0, rfl, Nat.zero_le _, by simpa using hb, Upd.refl _ h, .inl rfl⟩ ?_)
  rintro ⟨i, u⟩ h' ⟨k, s1, hi, hkl, hb1, hu1, hs1⟩
  dsimp only at hi
  subst hi
  dsimp only
  have hsz := hu1.size
  refine iteP_dec (fun hlt => ?_) (fun hge => ?_)
  · have hk1 : k < us.length := by omega
    have hl' : Row h' l 1 (us.map slV) := hl.congr fun b o hp _ hlt => hu1.old b hlt fun hS => by
      have := hlb b (by simp [Sl.blk, hp])
      rcases hS with hS | hS
      · exact this.1 hS
      · exact this.2 hS
    refine Row.idx hl' (n := k) rfl (v := slV us[k]) (by simp [hk1]) fun b o _ hc => ⟨us[k], hc, ?_⟩
    refine TakeBytes_spec hb1 (fun j hj => ?_) (by simp; omega) (by omega) fun s2 h2 hb2 hu2 hs2 => bindI_intro ?_
    · have := hx us[k] (List.getElem_mem hk1) j hj
      refine ⟨this.1, ?_, by omega⟩
      rcases hs1 with e | e
      · rw [e]; exact this.2.1
      · intro he; have := e j he; omega
    · rw [wrap64 (n := (k : Int) + 1) (by omega) (by omega)]
      refine ⟨⟨k + 1, s2, by omega, by omega, ?_, ⟨by have := hu2.size; omega, fun j hj hS => ?_⟩, ?_⟩, by omega⟩
      · rw [List.take_succ_eq_append_getElem hk1, ← List.append_assoc]; exact hb2
      · rw [hu2.old j (by omega) (fun hS2 => ?_), hu1.old j hj hS]
        rcases hS2 with hS2 | hS2
        · exact hS (.inl hS2)
        · rcases hs1 with e | e
          · rw [e] at hS2; exact hS (.inr hS2)
          · have := e j hS2; omega
      · rcases hs2 with e2 | e2
        · rw [e2]; exact hs1
        · exact .inr fun j hj => by have := e2 j hj; omega
  · have hfull : us.take k = us := List.take_of_length_le (by omega)
    rw [hfull] at hb1
    exact hk s1 h' hb1 hu1 hs1

theorem aloneTexts_spec {bk : Nat} {c : Array Value} {h : Heap} {K : Bool → Heap → Prop} (hb : h[bk]? = some (.cells c 47 (0, 0))) (hc : c[1]? = some nilV) (hk : K true h) : m_spillwaymem_Book_aloneTexts (some ⟨bk, 0, none⟩) K h := by
  unfold m_spillwaymem_Book_aloneTexts g_spillwaymem_Book_aloneTexts
  have hcell : h.cell bk (0 + 1) = some nilV := by rw [cell_block hb, Nat.zero_add]; exact hc
  refine bindI_intro (loopM_intro (fun s h' => h' = h ∧ s.1 = 0) (fun _ _ => 0) ⟨rfl, rfl⟩ ?_)
  rintro ⟨i, u⟩ h' ⟨rfl, hi⟩
  dsimp only at hi
  subst hi
  dsimp only
  refine deref_some ⟨⟨none, 0, 0⟩, hcell, iteP_neg rfl (bindI_intro (loopM_intro (fun s h'' => h'' = h' ∧ s.1 = ⟨none, 0, 0⟩ ∧ s.2.1 = 0) (fun _ _ => 0) ⟨rfl, rfl, rfl⟩ ?_))⟩
  rintro ⟨all, i, u⟩ h'' ⟨rfl, ha, hi⟩
  dsimp only at ha hi
  subst ha hi
  dsimp only
  refine deref_some ⟨⟨none, 0, 0⟩, hcell, iteP_neg rfl (bindI_intro (loopM_intro (fun s h3 => h3 = h'' ∧ s.1 = 0) (fun _ _ => 0) ⟨rfl, rfl⟩ ?_))⟩
  rintro ⟨i, u⟩ h3 ⟨rfl, hi⟩
  dsimp only at hi
  subst hi
  exact iteP_neg rfl hk

theorem aloneInts_spec {bk : Nat} {c : Array Value} {h : Heap} {K : Bool → Heap → Prop} (hb : h[bk]? = some (.cells c 47 (0, 0))) (hc : c[2]? = some nilV) (hk : K true h) : m_spillwaymem_Book_aloneInts (some ⟨bk, 0, none⟩) K h := by
  unfold m_spillwaymem_Book_aloneInts g_spillwaymem_Book_aloneInts
  have hcell : h.cell bk (0 + 2) = some nilV := by rw [cell_block hb, Nat.zero_add]; exact hc
  refine bindI_intro (loopM_intro (fun s h' => h' = h ∧ s.1 = 0) (fun _ _ => 0) ⟨rfl, rfl⟩ ?_)
  rintro ⟨i, u⟩ h' ⟨rfl, hi⟩
  dsimp only at hi
  subst hi
  dsimp only
  refine deref_some ⟨⟨none, 0, 0⟩, hcell, iteP_neg rfl (bindI_intro (loopM_intro (fun s h'' => h'' = h' ∧ s.1 = ⟨none, 0, 0⟩ ∧ s.2.1 = 0) (fun _ _ => 0) ⟨rfl, rfl, rfl⟩ ?_))⟩
  rintro ⟨all, i, u⟩ h'' ⟨rfl, ha, hi⟩
  dsimp only at ha hi
  subst ha hi
  dsimp only
  refine deref_some ⟨⟨none, 0, 0⟩, hcell, iteP_neg rfl (bindI_intro (loopM_intro (fun s h3 => h3 = h'' ∧ s.1 = 0) (fun _ _ => 0) ⟨rfl, rfl⟩ ?_))⟩
  rintro ⟨i, u⟩ h3 ⟨rfl, hi⟩
  dsimp only at hi
  subst hi
  exact iteP_neg rfl hk

theorem aloneCounts_spec {bk : Nat} {c : Array Value} {h : Heap} {K : Bool → Heap → Prop} (hb : h[bk]? = some (.cells c 47 (0, 0))) (hc : c[3]? = some nilV) (hk : K true h) : m_spillwaymem_Book_aloneCounts (some ⟨bk, 0, none⟩) K h := by
  unfold m_spillwaymem_Book_aloneCounts g_spillwaymem_Book_aloneCounts
  have hcell : h.cell bk (0 + 3) = some nilV := by rw [cell_block hb, Nat.zero_add]; exact hc
  refine bindI_intro (loopM_intro (fun s h' => h' = h ∧ s.1 = 0) (fun _ _ => 0) ⟨rfl, rfl⟩ ?_)
  rintro ⟨i, u⟩ h' ⟨rfl, hi⟩
  dsimp only at hi
  subst hi
  dsimp only
  refine deref_some ⟨⟨none, 0, 0⟩, hcell, iteP_neg rfl (bindI_intro (loopM_intro (fun s h'' => h'' = h' ∧ s.1 = ⟨none, 0, 0⟩ ∧ s.2.1 = 0) (fun _ _ => 0) ⟨rfl, rfl, rfl⟩ ?_))⟩
  rintro ⟨all, i, u⟩ h'' ⟨rfl, ha, hi⟩
  dsimp only at ha hi
  subst ha hi
  dsimp only
  refine deref_some ⟨⟨none, 0, 0⟩, hcell, iteP_neg rfl (bindI_intro (loopM_intro (fun s h3 => h3 = h'' ∧ s.1 = 0) (fun _ _ => 0) ⟨rfl, rfl⟩ ?_))⟩
  rintro ⟨i, u⟩ h3 ⟨rfl, hi⟩
  dsimp only at hi
  subst hi
  exact iteP_neg rfl hk

theorem aloneItems_spec {bk : Nat} {c : Array Value} {h : Heap} {K : Bool → Heap → Prop} (hb : h[bk]? = some (.cells c 47 (0, 0))) (hc : c[4]? = some nilV) (hk : K true h) : m_spillwaymem_Book_aloneItems (some ⟨bk, 0, none⟩) K h := by
  unfold m_spillwaymem_Book_aloneItems g_spillwaymem_Book_aloneItems
  have hcell : h.cell bk (0 + 4) = some nilV := by rw [cell_block hb, Nat.zero_add]; exact hc
  refine bindI_intro (loopM_intro (fun s h' => h' = h ∧ s.1 = 0) (fun _ _ => 0) ⟨rfl, rfl⟩ ?_)
  rintro ⟨i, u⟩ h' ⟨rfl, hi⟩
  dsimp only at hi
  subst hi
  dsimp only
  refine deref_some ⟨⟨none, 0, 0⟩, hcell, iteP_neg rfl (bindI_intro (loopM_intro (fun s h'' => h'' = h' ∧ s.1 = ⟨none, 0, 0⟩ ∧ s.2.1 = 0) (fun _ _ => 0) ⟨rfl, rfl, rfl⟩ ?_))⟩
  rintro ⟨all, i, u⟩ h'' ⟨rfl, ha, hi⟩
  dsimp only at ha hi
  subst ha hi
  dsimp only
  refine deref_some ⟨⟨none, 0, 0⟩, hcell, iteP_neg rfl (bindI_intro (loopM_intro (fun s h3 => h3 = h'' ∧ s.1 = 0) (fun _ _ => 0) ⟨rfl, rfl⟩ ?_))⟩
  rintro ⟨i, u⟩ h3 ⟨rfl, hi⟩
  dsimp only at hi
  subst hi
  exact iteP_neg rfl hk

theorem aloneFlows_spec {bk : Nat} {c : Array Value} {h : Heap} {K : Bool → Heap → Prop} (hb : h[bk]? = some (.cells c 47 (0, 0))) (hc : c[5]? = some nilV) (hk : K true h) : m_spillwaymem_Book_aloneFlows (some ⟨bk, 0, none⟩) K h := by
  unfold m_spillwaymem_Book_aloneFlows g_spillwaymem_Book_aloneFlows
  have hcell : h.cell bk (0 + 5) = some nilV := by rw [cell_block hb, Nat.zero_add]; exact hc
  refine bindI_intro (loopM_intro (fun s h' => h' = h ∧ s.1 = 0) (fun _ _ => 0) ⟨rfl, rfl⟩ ?_)
  rintro ⟨i, u⟩ h' ⟨rfl, hi⟩
  dsimp only at hi
  subst hi
  dsimp only
  refine deref_some ⟨⟨none, 0, 0⟩, hcell, iteP_neg rfl (bindI_intro (loopM_intro (fun s h'' => h'' = h' ∧ s.1 = ⟨none, 0, 0⟩ ∧ s.2.1 = 0) (fun _ _ => 0) ⟨rfl, rfl, rfl⟩ ?_))⟩
  rintro ⟨all, i, u⟩ h'' ⟨rfl, ha, hi⟩
  dsimp only at ha hi
  subst ha hi
  dsimp only
  refine deref_some ⟨⟨none, 0, 0⟩, hcell, iteP_neg rfl (bindI_intro (loopM_intro (fun s h3 => h3 = h'' ∧ s.1 = 0) (fun _ _ => 0) ⟨rfl, rfl⟩ ?_))⟩
  rintro ⟨i, u⟩ h3 ⟨rfl, hi⟩
  dsimp only at hi
  subst hi
  exact iteP_neg rfl hk

theorem aloneBreaks_spec {bk : Nat} {c : Array Value} {h : Heap} {K : Bool → Heap → Prop} (hb : h[bk]? = some (.cells c 47 (0, 0))) (hc : c[6]? = some nilV) (hk : K true h) : m_spillwaymem_Book_aloneBreaks (some ⟨bk, 0, none⟩) K h := by
  unfold m_spillwaymem_Book_aloneBreaks g_spillwaymem_Book_aloneBreaks
  have hcell : h.cell bk (0 + 6) = some nilV := by rw [cell_block hb, Nat.zero_add]; exact hc
  refine bindI_intro (loopM_intro (fun s h' => h' = h ∧ s.1 = 0) (fun _ _ => 0) ⟨rfl, rfl⟩ ?_)
  rintro ⟨i, u⟩ h' ⟨rfl, hi⟩
  dsimp only at hi
  subst hi
  dsimp only
  refine deref_some ⟨⟨none, 0, 0⟩, hcell, iteP_neg rfl (bindI_intro (loopM_intro (fun s h'' => h'' = h' ∧ s.1 = ⟨none, 0, 0⟩ ∧ s.2.1 = 0) (fun _ _ => 0) ⟨rfl, rfl, rfl⟩ ?_))⟩
  rintro ⟨all, i, u⟩ h'' ⟨rfl, ha, hi⟩
  dsimp only at ha hi
  subst ha hi
  dsimp only
  refine deref_some ⟨⟨none, 0, 0⟩, hcell, iteP_neg rfl (bindI_intro (loopM_intro (fun s h3 => h3 = h'' ∧ s.1 = 0) (fun _ _ => 0) ⟨rfl, rfl⟩ ?_))⟩
  rintro ⟨i, u⟩ h3 ⟨rfl, hi⟩
  dsimp only at hi
  subst hi
  exact iteP_neg rfl hk

theorem aloneSystems_spec {bk : Nat} {c : Array Value} {h : Heap} {K : Bool → Heap → Prop} (hb : h[bk]? = some (.cells c 47 (0, 0))) (hc : c[7]? = some nilV) (hk : K true h) : m_spillwaymem_Book_aloneSystems (some ⟨bk, 0, none⟩) K h := by
  unfold m_spillwaymem_Book_aloneSystems g_spillwaymem_Book_aloneSystems
  have hcell : h.cell bk (0 + 7) = some nilV := by rw [cell_block hb, Nat.zero_add]; exact hc
  refine bindI_intro (loopM_intro (fun s h' => h' = h ∧ s.1 = 0) (fun _ _ => 0) ⟨rfl, rfl⟩ ?_)
  rintro ⟨i, u⟩ h' ⟨rfl, hi⟩
  dsimp only at hi
  subst hi
  dsimp only
  refine deref_some ⟨⟨none, 0, 0⟩, hcell, iteP_neg rfl (bindI_intro (loopM_intro (fun s h'' => h'' = h' ∧ s.1 = ⟨none, 0, 0⟩ ∧ s.2.1 = 0) (fun _ _ => 0) ⟨rfl, rfl, rfl⟩ ?_))⟩
  rintro ⟨all, i, u⟩ h'' ⟨rfl, ha, hi⟩
  dsimp only at ha hi
  subst ha hi
  dsimp only
  refine deref_some ⟨⟨none, 0, 0⟩, hcell, iteP_neg rfl (bindI_intro (loopM_intro (fun s h3 => h3 = h'' ∧ s.1 = 0) (fun _ _ => 0) ⟨rfl, rfl⟩ ?_))⟩
  rintro ⟨i, u⟩ h3 ⟨rfl, hi⟩
  dsimp only at hi
  subst hi
  exact iteP_neg rfl hk

end Go.Proofs.Ytpbpooaleiolcaa
