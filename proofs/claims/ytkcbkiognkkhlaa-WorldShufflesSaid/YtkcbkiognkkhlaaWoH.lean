/- What Book's functions do: taking ints; the other lists stay empty. -/
import Derived.Test.YtkcbkiognkkhlaaWoE
namespace Go.Proofs.Ytkcbkiognkkhlaa
open Go Go.Fw

theorem st_intro {h : Heap} {b o : Nat} {v : Value} {K : Heap → Prop} {c : Array Value} {e : TypeId} (hb : h[b]? = some (.cells c e (0, 0))) (ho : o < c.size) (hv : oneCell v = true) (hk : K (h.put b o v)) : st h b o v K := by
  refine ⟨⟨c[o], by rw [cell_block hb]; simp [ho]⟩, ?_, hv, hk⟩
  unfold Heap.froz; rw [hb]; simp

abbrev nilV : Value := .slice none 0 0
/-- a book at block bk: the rows that it keeps -/
structure BookR (h : Heap) (bk base : Nat) (s0 : Sl) (ss : List Sl) : Prop where
  cells : h[bk]? = some (.cells #[nilV, nilV, slV s0, nilV, nilV, nilV, nilV, nilV] 88 (0, 0))
  own : Own h base s0 1 (ss.map slV)
  lt : bk < base
  apart : ∀ x ∈ ss, ∀ k, x.blk = some k → k ≠ bk ∧ s0.blk ≠ some k ∧ k < h.size

theorem TakeInts_spec {bk base : Nat} {s0 x : Sl} {ss : List Sl} {h : Heap} {K : Heap → Prop} (hb : BookR h bk base s0 ss) (hx : ∀ k, x.blk = some k → k ≠ bk ∧ s0.blk ≠ some k ∧ k < h.size) (hn : ss.length ≤ 1099511627776) (hbase : base ≤ h.size)
    (hk : ∀ s1 h', BookR h' bk base s1 (ss ++ [x]) → Upd (fun k => k = bk ∨ s0.blk = some k) h h' → (s1.blk = s0.blk ∨ ∀ k, s1.blk = some k → h.size ≤ k) → K h') :
    m_spillwaymem_Book_TakeInts (some ⟨bk, 0, none⟩) x K h := by
  unfold m_spillwaymem_Book_TakeInts g_spillwaymem_Book_TakeInts
  refine deref_ ⟨s0, by rw [cell_block hb.cells]; rfl, newC_intro ?_⟩
  have hext := Ext.push h (.cells [slV x].toArray 29)
  have hrow : Row (h.push (.cells [slV x].toArray 29)) ⟨some ⟨h.size, 0, none⟩, 1, 1⟩ 1 [slV x] := (Own.newC (h := h) (cells := [slV x]) (t := 29) (size := 1) (n := 1) rfl (by decide)).row
  refine hrow.rd ?_
  have ho := hb.own.congr (h' := h.push (.cells [slV x].toArray 29)) fun k _ hl _ => hext.old k hl
  have hol := hb.own.len
  have hlt := hb.lt
  simp only [List.length_map, Nat.mul_one] at hol
  refine Own.app ho (by simp) rfl rfl (by omega) (by omega) (by simp; omega) fun s1 h2 ho2 hl2 hu2 hblk2 => ?_
  have hnb : ¬ s0.blk = some bk := fun he => by have := (hb.own.lt he).1; omega
  have hbs : bk < h.size := by omega
  have hbk2 : h2[bk]? = some (.cells #[nilV, nilV, slV s0, nilV, nilV, nilV, nilV, nilV] 88 (0, 0)) := by
    exact ((hu2.old bk (by simp; omega) hnb).trans (hext.old bk hbs)).trans hb.cells
  refine deref_ (st_intro hbk2 (by simp) rfl ?_)
  have hs2 := hu2.size
  simp at hs2
  have new1 : s1.blk = s0.blk ∨ ∀ k, s1.blk = some k → h.size ≤ k := by
    rcases hblk2 with e | e
    · exact .inl e
    · refine .inr fun k hk => ?_
      rw [e] at hk
      simp at hk
      omega
  refine hk s1 _ ⟨?_, ?_, hlt, ?_⟩ ?_ new1
  · rw [put_block hbk2]; rfl
  · rw [List.map_append]
    refine ho2.congr fun k hk hl hbk => put_other (by omega)
  · intro y hy k hky
    have hyk : k ≠ bk ∧ s0.blk ≠ some k ∧ k < h.size := by
      rcases List.mem_append.1 hy with hy | hy
      · exact hb.apart y hy k hky
      · have : y = x := by simpa using hy
        rw [this] at hky
        exact hx k hky
    refine ⟨hyk.1, ?_, by rw [put_size]; omega⟩
    rcases new1 with e | e
    · rw [e]; exact hyk.2.1
    · intro he
      have := e k he
      omega
  · refine ⟨by rw [put_size]; omega, fun k hk hS => ?_⟩
    rw [put_other (by intro he; exact hS (.inl he))]
    exact (hu2.old k (by simp; omega) (fun he => hS (.inr he))).trans (hext.old k hk)

theorem aloneTexts_spec {bk : Nat} {c : Array Value} {h : Heap} {K : Bool → Heap → Prop} (hb : h[bk]? = some (.cells c 88 (0, 0))) (hc : c[1]? = some nilV) (hk : K true h) : m_spillwaymem_Book_aloneTexts (some ⟨bk, 0, none⟩) K h := by
  unfold m_spillwaymem_Book_aloneTexts g_spillwaymem_Book_aloneTexts
  have hcell : h.cell bk (0 + 1) = some nilV := by rw [cell_block hb, Nat.zero_add]; exact hc
  refine bindI_intro (loopM_intro (fun s h' => h' = h ∧ s.1 = 0) (fun _ _ => 0) ⟨rfl, rfl⟩ ?_)
  rintro ⟨i, u⟩ h' ⟨rfl, hi⟩
  dsimp only at hi
  subst hi
  dsimp only
  refine deref_ ⟨⟨none, 0, 0⟩, hcell, iteP_neg rfl (bindI_intro (loopM_intro (fun s h'' => h'' = h' ∧ s.1 = ⟨none, 0, 0⟩ ∧ s.2.1 = 0) (fun _ _ => 0) ⟨rfl, rfl, rfl⟩ ?_))⟩
  rintro ⟨all, i, u⟩ h'' ⟨rfl, ha, hi⟩
  dsimp only at ha hi
  subst ha hi
  dsimp only
  refine deref_ ⟨⟨none, 0, 0⟩, hcell, iteP_neg rfl (bindI_intro (loopM_intro (fun s h3 => h3 = h'' ∧ s.1 = 0) (fun _ _ => 0) ⟨rfl, rfl⟩ ?_))⟩
  rintro ⟨i, u⟩ h3 ⟨rfl, hi⟩
  dsimp only at hi
  subst hi
  exact iteP_neg rfl hk

theorem aloneBytes_spec {bk : Nat} {c : Array Value} {h : Heap} {K : Bool → Heap → Prop} (hb : h[bk]? = some (.cells c 88 (0, 0))) (hc : c[0]? = some nilV) (hk : K true h) : m_spillwaymem_Book_aloneBytes (some ⟨bk, 0, none⟩) K h := by
  unfold m_spillwaymem_Book_aloneBytes g_spillwaymem_Book_aloneBytes
  have hcell : h.cell bk 0 = some nilV := by rw [cell_block hb]; exact hc
  refine bindI_intro (loopM_intro (fun s h' => h' = h ∧ s.1 = 0) (fun _ _ => 0) ⟨rfl, rfl⟩ ?_)
  rintro ⟨i, u⟩ h' ⟨rfl, hi⟩
  dsimp only at hi
  subst hi
  dsimp only
  refine deref_ ⟨⟨none, 0, 0⟩, hcell, iteP_neg rfl (bindI_intro (loopM_intro (fun s h'' => h'' = h' ∧ s.1 = ⟨none, 0, 0⟩ ∧ s.2.1 = 0) (fun _ _ => 0) ⟨rfl, rfl, rfl⟩ ?_))⟩
  rintro ⟨all, i, u⟩ h'' ⟨rfl, ha, hi⟩
  dsimp only at ha hi
  subst ha hi
  dsimp only
  refine deref_ ⟨⟨none, 0, 0⟩, hcell, iteP_neg rfl (bindI_intro (loopM_intro (fun s h3 => h3 = h'' ∧ s.1 = 0) (fun _ _ => 0) ⟨rfl, rfl⟩ ?_))⟩
  rintro ⟨i, u⟩ h3 ⟨rfl, hi⟩
  dsimp only at hi
  subst hi
  exact iteP_neg rfl hk

theorem aloneCounts_spec {bk : Nat} {c : Array Value} {h : Heap} {K : Bool → Heap → Prop} (hb : h[bk]? = some (.cells c 88 (0, 0))) (hc : c[3]? = some nilV) (hk : K true h) : m_spillwaymem_Book_aloneCounts (some ⟨bk, 0, none⟩) K h := by
  unfold m_spillwaymem_Book_aloneCounts g_spillwaymem_Book_aloneCounts
  have hcell : h.cell bk (0 + 3) = some nilV := by rw [cell_block hb, Nat.zero_add]; exact hc
  refine bindI_intro (loopM_intro (fun s h' => h' = h ∧ s.1 = 0) (fun _ _ => 0) ⟨rfl, rfl⟩ ?_)
  rintro ⟨i, u⟩ h' ⟨rfl, hi⟩
  dsimp only at hi
  subst hi
  dsimp only
  refine deref_ ⟨⟨none, 0, 0⟩, hcell, iteP_neg rfl (bindI_intro (loopM_intro (fun s h'' => h'' = h' ∧ s.1 = ⟨none, 0, 0⟩ ∧ s.2.1 = 0) (fun _ _ => 0) ⟨rfl, rfl, rfl⟩ ?_))⟩
  rintro ⟨all, i, u⟩ h'' ⟨rfl, ha, hi⟩
  dsimp only at ha hi
  subst ha hi
  dsimp only
  refine deref_ ⟨⟨none, 0, 0⟩, hcell, iteP_neg rfl (bindI_intro (loopM_intro (fun s h3 => h3 = h'' ∧ s.1 = 0) (fun _ _ => 0) ⟨rfl, rfl⟩ ?_))⟩
  rintro ⟨i, u⟩ h3 ⟨rfl, hi⟩
  dsimp only at hi
  subst hi
  exact iteP_neg rfl hk

theorem aloneItems_spec {bk : Nat} {c : Array Value} {h : Heap} {K : Bool → Heap → Prop} (hb : h[bk]? = some (.cells c 88 (0, 0))) (hc : c[4]? = some nilV) (hk : K true h) : m_spillwaymem_Book_aloneItems (some ⟨bk, 0, none⟩) K h := by
  unfold m_spillwaymem_Book_aloneItems g_spillwaymem_Book_aloneItems
  have hcell : h.cell bk (0 + 4) = some nilV := by rw [cell_block hb, Nat.zero_add]; exact hc
  refine bindI_intro (loopM_intro (fun s h' => h' = h ∧ s.1 = 0) (fun _ _ => 0) ⟨rfl, rfl⟩ ?_)
  rintro ⟨i, u⟩ h' ⟨rfl, hi⟩
  dsimp only at hi
  subst hi
  dsimp only
  refine deref_ ⟨⟨none, 0, 0⟩, hcell, iteP_neg rfl (bindI_intro (loopM_intro (fun s h'' => h'' = h' ∧ s.1 = ⟨none, 0, 0⟩ ∧ s.2.1 = 0) (fun _ _ => 0) ⟨rfl, rfl, rfl⟩ ?_))⟩
  rintro ⟨all, i, u⟩ h'' ⟨rfl, ha, hi⟩
  dsimp only at ha hi
  subst ha hi
  dsimp only
  refine deref_ ⟨⟨none, 0, 0⟩, hcell, iteP_neg rfl (bindI_intro (loopM_intro (fun s h3 => h3 = h'' ∧ s.1 = 0) (fun _ _ => 0) ⟨rfl, rfl⟩ ?_))⟩
  rintro ⟨i, u⟩ h3 ⟨rfl, hi⟩
  dsimp only at hi
  subst hi
  exact iteP_neg rfl hk

theorem aloneFlows_spec {bk : Nat} {c : Array Value} {h : Heap} {K : Bool → Heap → Prop} (hb : h[bk]? = some (.cells c 88 (0, 0))) (hc : c[5]? = some nilV) (hk : K true h) : m_spillwaymem_Book_aloneFlows (some ⟨bk, 0, none⟩) K h := by
  unfold m_spillwaymem_Book_aloneFlows g_spillwaymem_Book_aloneFlows
  have hcell : h.cell bk (0 + 5) = some nilV := by rw [cell_block hb, Nat.zero_add]; exact hc
  refine bindI_intro (loopM_intro (fun s h' => h' = h ∧ s.1 = 0) (fun _ _ => 0) ⟨rfl, rfl⟩ ?_)
  rintro ⟨i, u⟩ h' ⟨rfl, hi⟩
  dsimp only at hi
  subst hi
  dsimp only
  refine deref_ ⟨⟨none, 0, 0⟩, hcell, iteP_neg rfl (bindI_intro (loopM_intro (fun s h'' => h'' = h' ∧ s.1 = ⟨none, 0, 0⟩ ∧ s.2.1 = 0) (fun _ _ => 0) ⟨rfl, rfl, rfl⟩ ?_))⟩
  rintro ⟨all, i, u⟩ h'' ⟨rfl, ha, hi⟩
  dsimp only at ha hi
  subst ha hi
  dsimp only
  refine deref_ ⟨⟨none, 0, 0⟩, hcell, iteP_neg rfl (bindI_intro (loopM_intro (fun s h3 => h3 = h'' ∧ s.1 = 0) (fun _ _ => 0) ⟨rfl, rfl⟩ ?_))⟩
  rintro ⟨i, u⟩ h3 ⟨rfl, hi⟩
  dsimp only at hi
  subst hi
  exact iteP_neg rfl hk

theorem aloneBreaks_spec {bk : Nat} {c : Array Value} {h : Heap} {K : Bool → Heap → Prop} (hb : h[bk]? = some (.cells c 88 (0, 0))) (hc : c[6]? = some nilV) (hk : K true h) : m_spillwaymem_Book_aloneBreaks (some ⟨bk, 0, none⟩) K h := by
  unfold m_spillwaymem_Book_aloneBreaks g_spillwaymem_Book_aloneBreaks
  have hcell : h.cell bk (0 + 6) = some nilV := by rw [cell_block hb, Nat.zero_add]; exact hc
  refine bindI_intro (loopM_intro (fun s h' => h' = h ∧ s.1 = 0) (fun _ _ => 0) ⟨rfl, rfl⟩ ?_)
  rintro ⟨i, u⟩ h' ⟨rfl, hi⟩
  dsimp only at hi
  subst hi
  dsimp only
  refine deref_ ⟨⟨none, 0, 0⟩, hcell, iteP_neg rfl (bindI_intro (loopM_intro (fun s h'' => h'' = h' ∧ s.1 = ⟨none, 0, 0⟩ ∧ s.2.1 = 0) (fun _ _ => 0) ⟨rfl, rfl, rfl⟩ ?_))⟩
  rintro ⟨all, i, u⟩ h'' ⟨rfl, ha, hi⟩
  dsimp only at ha hi
  subst ha hi
  dsimp only
  refine deref_ ⟨⟨none, 0, 0⟩, hcell, iteP_neg rfl (bindI_intro (loopM_intro (fun s h3 => h3 = h'' ∧ s.1 = 0) (fun _ _ => 0) ⟨rfl, rfl⟩ ?_))⟩
  rintro ⟨i, u⟩ h3 ⟨rfl, hi⟩
  dsimp only at hi
  subst hi
  exact iteP_neg rfl hk

theorem aloneSystems_spec {bk : Nat} {c : Array Value} {h : Heap} {K : Bool → Heap → Prop} (hb : h[bk]? = some (.cells c 88 (0, 0))) (hc : c[7]? = some nilV) (hk : K true h) : m_spillwaymem_Book_aloneSystems (some ⟨bk, 0, none⟩) K h := by
  unfold m_spillwaymem_Book_aloneSystems g_spillwaymem_Book_aloneSystems
  have hcell : h.cell bk (0 + 7) = some nilV := by rw [cell_block hb, Nat.zero_add]; exact hc
  refine bindI_intro (loopM_intro (fun s h' => h' = h ∧ s.1 = 0) (fun _ _ => 0) ⟨rfl, rfl⟩ ?_)
  rintro ⟨i, u⟩ h' ⟨rfl, hi⟩
  dsimp only at hi
  subst hi
  dsimp only
  refine deref_ ⟨⟨none, 0, 0⟩, hcell, iteP_neg rfl (bindI_intro (loopM_intro (fun s h'' => h'' = h' ∧ s.1 = ⟨none, 0, 0⟩ ∧ s.2.1 = 0) (fun _ _ => 0) ⟨rfl, rfl, rfl⟩ ?_))⟩
  rintro ⟨all, i, u⟩ h'' ⟨rfl, ha, hi⟩
  dsimp only at ha hi
  subst ha hi
  dsimp only
  refine deref_ ⟨⟨none, 0, 0⟩, hcell, iteP_neg rfl (bindI_intro (loopM_intro (fun s h3 => h3 = h'' ∧ s.1 = 0) (fun _ _ => 0) ⟨rfl, rfl⟩ ?_))⟩
  rintro ⟨i, u⟩ h3 ⟨rfl, hi⟩
  dsimp only at hi
  subst hi
  exact iteP_neg rfl hk

theorem Own.store {h : Heap} {base : Nat} {s : Sl} {l : List Int} (ho : Own h base s 1 (l.map iv)) {m : Nat} (hm : m < s.len) (y : Int) {K : Heap → Prop}
    (hk : ∀ h', Own h' base s 1 ((l.set m y).map iv) → Upd (fun k => s.blk = some k) h h' → h'.size = h.size → K h') : idxA s.ptr s.len (m : Int) 1 fun b o => st h b o (iv y) K :=
  Own.storeV ho rfl hm rfl fun h' a b c => hk h' (by rw [List.map_set]; exact a) b c

/-- append, telling what stays where the row moves -/
theorem Own.app2 {h : Heap} {base : Nat} {s : Sl} {size bytes n : Nat} {vs new zs : List Value} {elem : TypeId} {K : Sl → Heap → Prop}
    (ho : Own h base s size vs) (hnew : new.length = n * size) (hone : new.all oneCell = true) (hz : zs.length = size) (hb : (s.len + n) * bytes ≤ 140737488355328) (hl : s.len + n ≤ 140737488355328) (hbase : base ≤ h.size)
    (hk : ∀ s' h', Own h' base s' size (vs ++ new) → s'.len = s.len + n → Upd (fun k => s.blk = some k) h h' → (s'.blk = s.blk ∨ s'.blk = some h.size ∧ Ext h h') → K s' h') :
    Fw.app elem size bytes zs s n new h K := by
  have hlen := ho.len
  have hcap := ho.cap
  refine ⟨fun hroom => ?_, fun hgt => ⟨hb, hl, ho.row.rd fun cap h1 h2 => ?_⟩⟩
  · rcases ho.at_ with ⟨hp, h0⟩ | ⟨b, c, e, hp, hbb, hblk, hc, hv⟩
    · left
      have hn : n = 0 := by omega
      have hnil : new = [] := List.eq_nil_of_length_eq_zero (by rw [hnew, hn, Nat.zero_mul])
      refine ⟨hnil, hk _ _ ?_ rfl (Upd.refl _ _) (.inl rfl)⟩
      refine ⟨by simp [hnil, hn, hlen], hroom, ho.big, .inl ⟨hp, h0⟩⟩
    · right
      have hle : s.len * size + new.length ≤ c.size := by
        rw [hc, hnew, ← Nat.add_mul]; exact Nat.mul_le_mul_right _ hroom
      refine ⟨b, 0, hp, free_block hblk (by simpa using hle), hone, ?_⟩
      obtain ⟨c', hc', hl'⟩ := puts_block (vs := new) (o := 0 + s.len * size) hblk (by simpa using hle)
      refine hk _ _ ⟨?_, hroom, ho.big, .inr ⟨b, c', e, hp, hbb, hc', ?_, ?_⟩⟩ rfl ((Upd.puts h b _ new).mono fun k _ hk => by subst hk; simp [Sl.blk, hp]) (.inl rfl)
      · simp [hlen, hnew, Nat.add_mul]
      · rw [← hc, ← Array.length_toList, hl']
        simp
        omega
      · rw [hl']
        simp only [Nat.zero_add]
        rw [Nat.add_mul, ← hnew, List.take_append_of_le_length (by simp; omega), List.take_of_length_le (by simp; omega), hv]
  · refine hk _ _ ⟨by simp [hlen, hnew, Nat.add_mul], h1, h2, .inr ⟨h.size, _, elem, rfl, hbase, push_new, ?_, ?_⟩⟩ rfl ((Ext.push h _).upd _) (.inr ⟨rfl, Ext.push h _⟩)
    · simp only [List.size_toArray, List.length_append, zerosL_length', hz, hlen, hnew]
      rw [← Nat.add_mul, ← Nat.add_mul]
      congr 1
      omega
    · simp only []
      rw [List.take_append_of_le_length (by simp [hlen, hnew, Nat.add_mul]), List.take_of_length_le (by simp [hlen, hnew, Nat.add_mul])]

/-- what was, is still there where its block's row has grown -/
theorem Row.of_prefix {h0 h : Heap} {b0 b1 : Nat} {x g : Sl} {vs us r : List Value} (hx : Own h0 b0 x 1 us) (hg : Own h b1 g 1 (vs ++ r)) (hblk : g.blk = x.blk) (hl : vs.length = x.len) : Row h x 1 vs := by
  refine ⟨by omega, hx.cap, hx.big, ?_⟩
  rcases Nat.eq_zero_or_pos x.len with h9 | h9
  · exact .inl h9
  · right
    have hc := hx.cap
    rcases hx.at_ with ⟨_, q⟩ | ⟨b, c, e, hp, _⟩
    · omega
    · rcases hg.at_ with ⟨q, _⟩ | ⟨b', c', e', hp', _⟩
      · simp [Sl.blk, q, hp] at hblk
      · have hbb : b' = b := by simpa [Sl.blk, hp, hp'] using hblk
        subst hbb
        rcases hg.row.at_ with q | ⟨b2, o2, hp2, hh⟩
        · have := hg.len; simp at this; omega
        · rw [hp'] at hp2
          cases hp2
          exact ⟨b', 0, hp, (has_append.1 hh).1⟩

end Go.Proofs.Ytkcbkiognkkhlaa
