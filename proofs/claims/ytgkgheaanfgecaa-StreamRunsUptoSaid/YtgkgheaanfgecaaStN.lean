/- Bytes and numbers handed in, and kept. -/
import Derived.Test.YtgkgheaanfgecaaStM
namespace Go.Proofs.Ytgkgheaanfgecaa
open Go Go.Fw

theorem st_intro {h : Heap} {b o : Nat} {v : Value} {K : Heap → Prop} {c : Array Value} {e : TypeId} (hb : h[b]? = some (.cells c e (0, 0))) (ho : o < c.size) (hv : oneCell v = true) (hk : K (h.put b o v)) : st h b o v K := by
  refine ⟨⟨c[o], by rw [cell_block hb]; simp [ho]⟩, ?_, hv, hk⟩
  unfold Heap.froz; rw [hb]; simp

theorem bv_ofNat (n : Nat) : Value.int .u8 (IntKind.wrap .u8 (n : Int)) = bv (UInt8.ofNat n) := by
  unfold bv
  rw [wrap8_mod]
  simp

def pat : List Value := (List.range 9).map fun j => bv (UInt8.ofNat (160 + j))
/-- bytes in a block of their own, with the room's pattern behind them -/
structure Handed (h : Heap) (base : Nat) (s : Sl) (l : List UInt8) : Prop where
  at_ : ∃ b e, s = ⟨some ⟨b, 0, none⟩, l.length, l.length + 9⟩ ∧ base ≤ b ∧ h[b]? = some (.cells (l.map bv ++ pat).toArray e (0, 0)) ∧ l.length + 9 < 9223372036854775808

theorem Handed.whole {h : Heap} {base : Nat} {s : Sl} {l : List UInt8} (hs : Handed h base s l) : Row h ⟨s.ptr, l.length + 9, s.cap⟩ 1 (l.map bv ++ pat) := by
  obtain ⟨b, e, rfl, _, hb, hl⟩ := hs.at_
  refine ⟨by simp [pat], Nat.le_refl _, hl, .inr ⟨b, 0, rfl, has_block hb fun i v hi => ?_⟩⟩
  simpa using hi
theorem Handed.bytes {h : Heap} {base : Nat} {s : Sl} {l : List UInt8} (hs : Handed h base s l) : Bytes h s l := by
  obtain ⟨b, e, rfl, _, hb, hl⟩ := hs.at_
  refine ⟨by simp, by simp, hl, .inr ⟨b, 0, rfl, has_block hb fun i v hi => ?_⟩⟩
  have hlt : i < (l.map bv).length := by
    rcases Nat.lt_or_ge i (l.map bv).length with h | h
    · exact h
    · rw [List.getElem?_eq_none h] at hi; cases hi
  simp only [Nat.zero_add, List.getElem?_toArray]
  rw [List.getElem?_append_left hlt]
  exact hi
theorem Handed.lt {h : Heap} {base : Nat} {s : Sl} {l : List UInt8} (hs : Handed h base s l) {k : Nat} (hk : s.blk = some k) : base ≤ k ∧ k < h.size := by
  obtain ⟨b, e, rfl, h1, hb, hl⟩ := hs.at_
  simp [Sl.blk] at hk
  subst hk
  refine ⟨h1, ?_⟩
  rcases Nat.lt_or_ge b h.size with hl | hl
  · exact hl
  · rw [Array.getElem?_eq_none hl] at hb; cases hb
theorem Handed.congr {h h' : Heap} {base : Nat} {s : Sl} {l : List UInt8} (hs : Handed h base s l) (he : ∀ k, s.blk = some k → k < h.size → h'[k]? = h[k]?) : Handed h' base s l := by
  have hlt := fun k hk => (hs.lt (k := k) hk).2
  obtain ⟨b, e, rfl, h1, hb, hl⟩ := hs.at_
  have hblk : Sl.blk ⟨some ⟨b, 0, none⟩, l.length, l.length + 9⟩ = some b := rfl
  exact ⟨b, e, rfl, h1, by rw [he b hblk (hlt b hblk)]; exact hb, hl⟩
theorem Handed.ext {h h' : Heap} {base : Nat} {s : Sl} {l : List UInt8} (hs : Handed h base s l) (he : Ext h h') : Handed h' base s l := hs.congr fun k _ hk => he.old k hk
theorem Handed.base {h : Heap} {base base' : Nat} {s : Sl} {l : List UInt8} (hs : Handed h base s l) (hb : base' ≤ base) : Handed h base' s l := by
  obtain ⟨b, e, h0, h1, h2⟩ := hs.at_
  exact ⟨b, e, h0, by omega, h2⟩

theorem take_set (c : Array Value) (k : Nat) (v : Value) (hk : k < c.size) : (c.setIfInBounds k v).toList.take (k + 1) = c.toList.take k ++ [v] := by
  rw [Array.toList_setIfInBounds, List.take_succ_eq_append_getElem (by simpa using hk), List.take_set_of_le (Nat.le_refl _)]
  simp

theorem Hand_spec {b : Sl} {l : List UInt8} {h : Heap} {K : Sl → Heap → Prop} (hb : Bytes h b l) (hsz : l.length ≤ 1099511627776)
    (hk : ∀ s h', Handed h' h.size s l → Ext h h' → K s h') : m_spillwaymem_Hand b K h := by
  unfold m_spillwaymem_Hand g_spillwaymem_Hand
  have hlen := hb.length
  rw [wrap64 (n := (b.len : Int) + 9) (by omega) (by omega)]
  refine ⟨by omega, Int.le_refl _, by omega, by omega, bindI_intro ?_⟩
  have hn : ((b.len : Int) + 9).toNat = l.length + 9 := by omega
  rw [hn]
  have hext1 := Ext.push h (.cells (zerosL [Value.int .u8 0] (l.length + 9)).toArray 5)
  refine loopM_intro (fun s h' => ∃ (k : Nat) (c : Array Value), s.1 = (k : Int) ∧ k ≤ l.length ∧ Ext h h' ∧ h'[h.size]? = some (.cells c 5 (0, 0)) ∧ c.size = l.length + 9 ∧ c.toList.take k = (l.map bv).take k) (fun s _ => l.length - s.1.toNat)
    ⟨0, _, rfl, Nat.zero_le _, hext1, push_new, by simp [zerosL_length'], by simp⟩ ?_
  rintro ⟨i, u⟩ h' ⟨k, c, hi, hkl, hext, hblk, hcs, hct⟩
  dsimp only at hi
  subst hi
  dsimp only
  refine iteP_dec (fun hlt => ?_) (fun hge => bindI_intro ?_)
  · have hk1 : k < l.length := by omega
    refine Bytes.idx (hb.ext hext) rfl (List.getElem?_eq_getElem hk1) ?_
    refine ⟨h.size, 0, rfl, by omega, by omega, ?_⟩
    have e0 : 0 + (k : Int).toNat * 1 = k := by omega
    rw [e0]
    refine st_intro hblk (by omega) rfl (bindI_intro ?_)
    rw [wrap64 (n := (k : Int) + 1) (by omega) (by omega)]
    refine ⟨⟨k + 1, _, rfl, by omega, hext.then (Upd.put h' h.size k _) fun j hj => by omega, put_block hblk, by simpa using hcs, ?_⟩, by omega⟩
    rw [take_set _ _ _ (by omega), hct, List.take_succ_eq_append_getElem (l := l.map bv) (by simpa using hk1)]
    simp [bv]
  · have hkl' : k = l.length := by omega
    subst hkl'
    refine loopM_intro (fun s h' => ∃ (k : Nat) (c : Array Value), s.1 = (k : Int) ∧ l.length ≤ k ∧ k ≤ l.length + 9 ∧ Ext h h' ∧ h'[h.size]? = some (.cells c 5 (0, 0)) ∧ c.size = l.length + 9 ∧ c.toList.take k = (l.map bv ++ pat).take k) (fun s _ => l.length + 9 - s.1.toNat)
      ⟨l.length, c, by rw [hlen], Nat.le_refl _, by omega, hext, hblk, hcs, by rw [hct, List.take_append_of_le_length (by simp)]⟩ ?_
    rintro ⟨i, u⟩ h2 ⟨k, c2, hi, hlk, hk9, hext2, hblk2, hcs2, hct2⟩
    dsimp only at hi
    subst hi
    dsimp only
    refine iteP_dec (fun hlt => ?_) (fun hge => ?_)
    · refine ⟨h.size, 0, rfl, by omega, by omega, ?_⟩
      have e0 : 0 + (k : Int).toNat * 1 = k := by omega
      rw [e0]
      rw [wrap64 (n := (160 : Int) + (k : Int)) (by omega) (by omega), wrap64 (n := (160 : Int) + (k : Int) - (b.len : Int)) (by omega) (by omega)]
      have ev : (160 : Int) + (k : Int) - (b.len : Int) = ((160 + (k - l.length) : Nat) : Int) := by omega
      rw [ev, bv_ofNat]
      refine st_intro hblk2 (by omega) rfl (bindI_intro ?_)
      rw [wrap64 (n := (k : Int) + 1) (by omega) (by omega)]
      refine ⟨⟨k + 1, _, rfl, by omega, by omega, hext2.then (Upd.put h2 h.size k _) fun j hj => by omega, put_block hblk2, by simpa using hcs2, ?_⟩, by omega⟩
      rw [take_set _ _ _ (by omega), hct2, List.take_succ_eq_append_getElem (l := l.map bv ++ pat) (by simp [pat]; omega)]
      congr 2
      rw [List.getElem_append_right (by simp; omega)]
      simp [pat]
    · have hk' : k = l.length + 9 := by omega
      have hcl : c2 = (l.map bv ++ pat).toArray := by
        have e1 : c2.toList.take k = c2.toList := List.take_of_length_le (by simp; omega)
        have e2 : (l.map bv ++ pat).take k = l.map bv ++ pat := List.take_of_length_le (by simp [pat]; omega)
        rw [e1, e2] at hct2
        rw [← hct2]
      subst hcl
      refine ⟨by omega, by omega, by omega, by omega, ?_⟩
      refine hk _ h2 ⟨h.size, 5, ?_, Nat.le_refl _, hblk2, by omega⟩ hext2
      have e1 : ((b.len : Int) - 0).toNat = l.length := by omega
      have e2 : (((l.length + 9 : Nat) : Int) - 0).toNat = l.length + 9 := by omega
      simp [slPtr, Addr.add, hlen]
      omega

theorem Kept_spec {a t : Sl} {l : List UInt8} {base : Nat} {h : Heap} {K : Bool → Heap → Prop} (ha : Handed h base a l) (ht : Bytes h t l) (hsz : l.length ≤ 1099511627776) (hk : K true h) : m_spillwaymem_Kept a t K h := by
  unfold m_spillwaymem_Kept g_spillwaymem_Kept
  have hlen := ht.length
  refine Same_spec ha.bytes ht ?_
  rw [decide_eq_true (rfl : l = l)]
  refine iteP_false ?_
  rw [wrap64 (n := (t.len : Int) + 9) (by omega) (by omega)]
  have hw := ha.whole
  have hc := hw.cap
  refine Row.slc hw (a := 0) (b := l.length + 9) (m := a.cap) rfl (by omega) rfl (by omega) (Nat.le_refl _) hc (Nat.le_refl _) ?_
  intro s hs hsl _ _
  have e : ((l.map bv ++ pat).drop 0).take (l.length + 9 - 0) = l.map bv ++ pat := by rw [List.drop_zero, List.take_of_length_le (by simp [pat])]
  rw [e] at hs
  refine bindI_intro (loopM_intro (fun s h' => h' = h ∧ ∃ k : Nat, s.1 = (k : Int) ∧ l.length ≤ k ∧ k ≤ l.length + 9) (fun s _ => l.length + 9 - s.1.toNat) ⟨rfl, l.length, by rw [hlen], Nat.le_refl _, by omega⟩ ?_)
  rintro ⟨i, u⟩ h' ⟨rfl, k, hi, hlk, hk9⟩
  dsimp only at hi
  subst hi
  dsimp only
  refine iteP_dec (fun hlt => ?_) (fun hge => hk)
  have hx : (l.map bv ++ pat)[k]? = some (bv (UInt8.ofNat (160 + (k - l.length)))) := by
    rw [List.getElem?_append_right (by simp; omega)]
    simp only [pat, List.length_map, List.getElem?_map]
    rw [List.getElem?_eq_getElem (by simp; omega)]
    simp
  refine Row.idx hs rfl hx fun bb o _ hc => ⟨_, hc, ?_⟩
  rw [wrap64 (n := (160 : Int) + (k : Int)) (by omega) (by omega), wrap64 (n := (160 : Int) + (k : Int) - (t.len : Int)) (by omega) (by omega)]
  have ev : (160 : Int) + (k : Int) - (t.len : Int) = ((160 + (k - l.length) : Nat) : Int) := by omega
  rw [ev]
  refine iteP_neg ?_ (bindI_intro ?_)
  · rw [wrap8_mod]; simp
  · rw [wrap64 (n := (k : Int) + 1) (by omega) (by omega)]
    exact ⟨⟨rfl, k + 1, rfl, by omega, by omega⟩, by omega⟩

theorem Own.storeV {h : Heap} {base : Nat} {s : Sl} {vs : List Value} (ho : Own h base s 1 vs) {i : Int} {m : Nat} (hi : i = (m : Int)) (hm : m < s.len) {v : Value} (hv : oneCell v = true) {K : Heap → Prop}
    (hk : ∀ h', Own h' base s 1 (vs.set m v) → Upd (fun k => s.blk = some k) h h' → h'.size = h.size → K h') : idxA s.ptr s.len i 1 fun b o => st h b o v K := by
  subst hi
  have hcap := ho.cap
  rcases ho.at_ with ⟨_, h0⟩ | ⟨b, c, e, hp, hb, hblk, hc, hvs⟩
  · omega
  · refine ⟨b, 0, hp, by omega, by omega, ?_⟩
    have e0 : 0 + (m : Int).toNat * 1 = m := by omega
    rw [e0]
    refine put2 hblk (by omega) hv fun h' c' u' z' => hk h' ⟨?_, hcap, ho.big, .inr ⟨b, _, e, hp, hb, c', by simpa using hc, ?_⟩⟩ (u'.mono fun k _ hk => by subst hk; simp [Sl.blk, hp]) z'
    · have := ho.len; simpa using this
    · rw [hvs, Array.toList_setIfInBounds, List.take_set]

theorem SameInts_spec {a b : Sl} {l m : List Int} {h : Heap} {K : Bool → Heap → Prop} (ha : Ints h a l) (hb : Ints h b m) (hk : K (decide (l = m)) h) : m_spillwaymem_SameInts a b K h := by
  unfold m_spillwaymem_SameInts g_spillwaymem_SameInts
  have h1 := ha.length
  have h2 := hb.length
  have h3 := ha.big
  have h4 := ha.cap
  refine ⟨fun hne => ?_, fun heq => bindI_intro ?_⟩
  · have : l ≠ m := by
      rintro rfl
      rw [h1, h2] at hne
      simp at hne
    rw [decide_eq_false this] at hk
    exact hk
  · have hlm : l.length = m.length := by rw [h1, h2] at heq; simp at heq; omega
    refine loopM_intro (fun s h' => h' = h ∧ ∃ k : Nat, k ≤ l.length ∧ s.1 = (k : Int) ∧ l.take k = m.take k) (fun s _ => l.length - s.1.toNat) ⟨rfl, 0, Nat.zero_le _, rfl, by simp⟩ ?_
    rintro ⟨i, u⟩ h' ⟨rfl, k, hk', hi, htake⟩
    dsimp only at hi
    subst hi
    dsimp only
    refine iteP_dec (fun hlt => ?_) (fun hge => ?_)
    · have hl1 : k < l.length := by omega
      have hl2 : k < m.length := by omega
      refine Ints.idx ha rfl (List.getElem?_eq_getElem hl1) ?_
      refine Ints.idx hb rfl (List.getElem?_eq_getElem hl2) ?_
      refine ⟨fun hne => ?_, fun he => bindI_intro ?_⟩
      · have : l ≠ m := by rintro rfl; simp at hne
        rw [decide_eq_false this] at hk
        exact hk
      · have he' : l[k] = m[k] := by simpa using he
        rw [wrap64 (by omega) (by omega)]
        refine ⟨⟨rfl, k + 1, by omega, by omega, ?_⟩, by omega⟩
        rw [List.take_succ_eq_append_getElem hl1, List.take_succ_eq_append_getElem hl2, htake, he']
    · have : l = m := by
        rw [List.take_of_length_le (by omega), List.take_of_length_le (by omega)] at htake
        exact htake
      rw [decide_eq_true this] at hk
      exact hk

def patI : List Value := (List.range 9).map fun (j : Nat) => iv (-700 - (j : Int))
/-- numbers in a block of their own, with the room's pattern behind them -/
structure HandedI (h : Heap) (base : Nat) (s : Sl) (l : List Int) : Prop where
  at_ : ∃ b e, s = ⟨some ⟨b, 0, none⟩, l.length, l.length + 9⟩ ∧ base ≤ b ∧ h[b]? = some (.cells (l.map iv ++ patI).toArray e (0, 0)) ∧ l.length + 9 < 9223372036854775808
theorem HandedI.whole {h : Heap} {base : Nat} {s : Sl} {l : List Int} (hs : HandedI h base s l) : Row h ⟨s.ptr, l.length + 9, s.cap⟩ 1 (l.map iv ++ patI) := by
  obtain ⟨b, e, rfl, _, hb, hl⟩ := hs.at_
  refine ⟨by simp [patI], Nat.le_refl _, hl, .inr ⟨b, 0, rfl, has_block hb fun i v hi => ?_⟩⟩
  simpa using hi
theorem HandedI.ints {h : Heap} {base : Nat} {s : Sl} {l : List Int} (hs : HandedI h base s l) : Ints h s l := by
  obtain ⟨b, e, rfl, _, hb, hl⟩ := hs.at_
  refine ⟨by simp, by simp, hl, .inr ⟨b, 0, rfl, has_block hb fun i v hi => ?_⟩⟩
  have hlt : i < (l.map iv).length := by
    rcases Nat.lt_or_ge i (l.map iv).length with h | h
    · exact h
    · rw [List.getElem?_eq_none h] at hi; cases hi
  simp only [Nat.zero_add, List.getElem?_toArray]
  rw [List.getElem?_append_left hlt]
  exact hi
theorem HandedI.lt {h : Heap} {base : Nat} {s : Sl} {l : List Int} (hs : HandedI h base s l) {k : Nat} (hk : s.blk = some k) : base ≤ k ∧ k < h.size := by
  obtain ⟨b, e, rfl, h1, hb, hl⟩ := hs.at_
  simp [Sl.blk] at hk
  subst hk
  refine ⟨h1, ?_⟩
  rcases Nat.lt_or_ge b h.size with hl | hl
  · exact hl
  · rw [Array.getElem?_eq_none hl] at hb; cases hb
theorem HandedI.congr {h h' : Heap} {base : Nat} {s : Sl} {l : List Int} (hs : HandedI h base s l) (he : ∀ k, s.blk = some k → k < h.size → h'[k]? = h[k]?) : HandedI h' base s l := by
  have hlt := fun k hk => (hs.lt (k := k) hk).2
  obtain ⟨b, e, rfl, h1, hb, hl⟩ := hs.at_
  have hblk : Sl.blk ⟨some ⟨b, 0, none⟩, l.length, l.length + 9⟩ = some b := rfl
  exact ⟨b, e, rfl, h1, by rw [he b hblk (hlt b hblk)]; exact hb, hl⟩

theorem take_setI (c : Array Value) (k : Nat) (v : Value) (hk : k < c.size) : (c.setIfInBounds k v).toList.take (k + 1) = c.toList.take k ++ [v] := by
  rw [Array.toList_setIfInBounds, List.take_succ_eq_append_getElem (by simpa using hk), List.take_set_of_le (Nat.le_refl _)]
  simp

theorem HandI_spec {b : Sl} {l : List Int} {h : Heap} {K : Sl → Heap → Prop} (hb : Ints h b l) (hsz : l.length ≤ 1073741824)
    (hk : ∀ s h', HandedI h' h.size s l → Ext h h' → K s h') : m_spillwaymem_HandInts b K h := by
  unfold m_spillwaymem_HandInts g_spillwaymem_HandInts
  have hlen := hb.length
  rw [wrap64 (n := (b.len : Int) + 9) (by omega) (by omega)]
  refine ⟨by omega, Int.le_refl _, by omega, by omega, bindI_intro ?_⟩
  have hn : ((b.len : Int) + 9).toNat = l.length + 9 := by omega
  rw [hn]
  have hext1 := Ext.push h (.cells (zerosL [Value.int .i64 0] (l.length + 9)).toArray 3)
  refine loopM_intro (fun s h' => ∃ (k : Nat) (c : Array Value), s.1 = (k : Int) ∧ k ≤ l.length ∧ Ext h h' ∧ h'[h.size]? = some (.cells c 3 (0, 0)) ∧ c.size = l.length + 9 ∧ c.toList.take k = (l.map iv).take k) (fun s _ => l.length - s.1.toNat)
    ⟨0, _, rfl, Nat.zero_le _, hext1, push_new, by simp [zerosL_length'], by simp⟩ ?_
  rintro ⟨i, u⟩ h' ⟨k, c, hi, hkl, hext, hblk, hcs, hct⟩
  dsimp only at hi
  subst hi
  dsimp only
  refine iteP_dec (fun hlt => ?_) (fun hge => bindI_intro ?_)
  · have hk1 : k < l.length := by omega
    refine Ints.idx (hb.ext hext) rfl (List.getElem?_eq_getElem hk1) ?_
    refine ⟨h.size, 0, rfl, by omega, by omega, ?_⟩
    have e0 : 0 + (k : Int).toNat * 1 = k := by omega
    rw [e0]
    refine put2 hblk (by omega) rfl fun h2 c2 u2 z2 => bindI_intro ?_
    rw [wrap64 (n := (k : Int) + 1) (by omega) (by omega)]
    refine ⟨⟨k + 1, _, rfl, by omega, hext.then u2 fun j hj => by omega, c2, by simpa using hcs, ?_⟩, by omega⟩
    rw [take_setI _ _ _ (by omega), hct, List.take_succ_eq_append_getElem (l := l.map iv) (by simpa using hk1)]
    simp
  · have hkl' : k = l.length := by omega
    subst hkl'
    refine loopM_intro (fun s h' => ∃ (k : Nat) (c : Array Value), s.1 = (k : Int) ∧ l.length ≤ k ∧ k ≤ l.length + 9 ∧ Ext h h' ∧ h'[h.size]? = some (.cells c 3 (0, 0)) ∧ c.size = l.length + 9 ∧ c.toList.take k = (l.map iv ++ patI).take k) (fun s _ => l.length + 9 - s.1.toNat)
      ⟨l.length, c, by rw [hlen], Nat.le_refl _, by omega, hext, hblk, hcs, by rw [hct, List.take_append_of_le_length (by simp)]⟩ ?_
    rintro ⟨i, u⟩ h2 ⟨k, c2, hi, hlk, hk9, hext2, hblk2, hcs2, hct2⟩
    dsimp only at hi
    subst hi
    dsimp only
    refine iteP_dec (fun hlt => ?_) (fun hge => ?_)
    · refine ⟨h.size, 0, rfl, by omega, by omega, ?_⟩
      have e0 : 0 + (k : Int).toNat * 1 = k := by omega
      rw [e0]
      rw [wrap64 (n := (-700 : Int) - (k : Int)) (by omega) (by omega), wrap64 (n := (-700 : Int) - (k : Int) + (b.len : Int)) (by omega) (by omega)]
      have ev : (-700 : Int) - (k : Int) + (b.len : Int) = -700 - ((k - l.length : Nat) : Int) := by omega
      rw [ev]
      refine put2 hblk2 (by omega) rfl fun h3 c3 u3 z3 => bindI_intro ?_
      rw [wrap64 (n := (k : Int) + 1) (by omega) (by omega)]
      refine ⟨⟨k + 1, _, rfl, by omega, by omega, hext2.then u3 fun j hj => by omega, c3, by simpa using hcs2, ?_⟩, by omega⟩
      rw [take_setI _ _ _ (by omega), hct2, List.take_succ_eq_append_getElem (l := l.map iv ++ patI) (by simp [patI]; omega)]
      congr 2
      rw [List.getElem_append_right (by simp; omega)]
      simp [patI]
    · have hk' : k = l.length + 9 := by omega
      have hcl : c2 = (l.map iv ++ patI).toArray := by
        have e1 : c2.toList.take k = c2.toList := List.take_of_length_le (by simp; omega)
        have e2 : (l.map iv ++ patI).take k = l.map iv ++ patI := List.take_of_length_le (by simp [patI]; omega)
        rw [e1, e2] at hct2
        rw [← hct2]
      subst hcl
      refine ⟨by omega, by omega, by omega, by omega, ?_⟩
      refine hk _ h2 ⟨h.size, 3, ?_, Nat.le_refl _, hblk2, by omega⟩ hext2
      have e1 : ((b.len : Int) - 0).toNat = l.length := by omega
      have e2 : (((l.length + 9 : Nat) : Int) - 0).toNat = l.length + 9 := by omega
      simp [slPtr, Addr.add, hlen]
      omega

theorem KeptI_spec {a t : Sl} {l : List Int} {base : Nat} {h : Heap} {K : Bool → Heap → Prop} (ha : HandedI h base a l) (ht : Ints h t l) (hsz : l.length ≤ 1099511627776) (hk : K true h) : m_spillwaymem_KeptInts a t K h := by
  unfold m_spillwaymem_KeptInts g_spillwaymem_KeptInts
  have hlen := ht.length
  refine SameInts_spec ha.ints ht ?_
  rw [decide_eq_true (rfl : l = l)]
  refine iteP_false ?_
  rw [wrap64 (n := (t.len : Int) + 9) (by omega) (by omega)]
  have hw := ha.whole
  have hc := hw.cap
  refine Row.slc hw (a := 0) (b := l.length + 9) (m := a.cap) rfl (by omega) rfl (by omega) (Nat.le_refl _) hc (Nat.le_refl _) ?_
  intro s hs hsl _ _
  have e : ((l.map iv ++ patI).drop 0).take (l.length + 9 - 0) = l.map iv ++ patI := by rw [List.drop_zero, List.take_of_length_le (by simp [patI])]
  rw [e] at hs
  refine bindI_intro (loopM_intro (fun s h' => h' = h ∧ ∃ k : Nat, s.1 = (k : Int) ∧ l.length ≤ k ∧ k ≤ l.length + 9) (fun s _ => l.length + 9 - s.1.toNat) ⟨rfl, l.length, by rw [hlen], Nat.le_refl _, by omega⟩ ?_)
  rintro ⟨i, u⟩ h' ⟨rfl, k, hi, hlk, hk9⟩
  dsimp only at hi
  subst hi
  dsimp only
  refine iteP_dec (fun hlt => ?_) (fun hge => hk)
  have hx : (l.map iv ++ patI)[k]? = some (iv (-700 - ((k - l.length : Nat) : Int))) := by
    rw [List.getElem?_append_right (by simp; omega)]
    simp only [patI, List.length_map, List.getElem?_map]
    rw [List.getElem?_eq_getElem (by simp; omega)]
    simp
  refine Row.idx hs rfl hx fun bb o _ hc => ⟨_, hc, ?_⟩
  rw [wrap64 (n := (-700 : Int) - (k : Int)) (by omega) (by omega), wrap64 (n := (-700 : Int) - (k : Int) + (t.len : Int)) (by omega) (by omega)]
  have ev : (-700 : Int) - (k : Int) + (t.len : Int) = -700 - ((k - l.length : Nat) : Int) := by omega
  rw [ev]
  refine iteP_neg (by simp) (bindI_intro ?_)
  rw [wrap64 (n := (k : Int) + 1) (by omega) (by omega)]
  exact ⟨⟨rfl, k + 1, rfl, by omega, by omega⟩, by omega⟩


theorem Handed.own {h : Heap} {base : Nat} {s : Sl} {l : List UInt8} (hs : Handed h base s l) : Own h base s 1 (l.map bv) := by
  obtain ⟨b, e, rfl, h1, hb, hl⟩ := hs.at_
  refine ⟨by simp, by simp, hl, .inr ⟨b, _, e, rfl, h1, hb, by simp [pat], ?_⟩⟩
  simp only [Nat.mul_one]
  rw [List.take_append_of_le_length (by simp), List.take_of_length_le (by simp)]
/-- a byte of the call's own is turned -/
theorem flip_step {h : Heap} {base : Nat} {s : Sl} {vs : List Int} (ho : Own h base s 1 (vs.map (Value.int .u8))) {i : Int} {k : Nat} (hi : i = (k : Int)) (hk : k < s.len) {K : Heap → Prop}
    (hfin : ∀ (h' : Heap) (vs' : List Int), Own h' base s 1 (vs'.map (Value.int .u8)) → Upd (fun k => s.blk = some k) h h' → h'.size = h.size → K h') :
    idxA s.ptr s.len i 1 fun b o => ldI h b o .u8 fun t => idxA s.ptr s.len i 1 fun b2 o2 => st h b2 o2 (Value.int .u8 (xorV .u8 t 255)) K := by
  subst hi
  have hl := ho.len
  simp only [List.length_map, Nat.mul_one] at hl
  have hx : vs[k]? = some vs[k] := List.getElem?_eq_getElem (by omega)
  refine Row.idx ho.row (n := k) rfl (v := .int .u8 vs[k]) (by simp [hx]) fun b o _ hc => ⟨_, hc, ?_⟩
  refine Own.storeV ho (m := k) rfl hk rfl fun h' o' u' z' => hfin h' (vs.set k (xorV .u8 vs[k] 255)) (by rw [List.map_set]; exact o') u' z'
theorem bv_u8 (l : List UInt8) : l.map bv = (l.map fun x => (x.toNat : Int)).map (Value.int .u8) := by
  rw [List.map_map]
  rfl

end Go.Proofs.Ytgkgheaanfgecaa
