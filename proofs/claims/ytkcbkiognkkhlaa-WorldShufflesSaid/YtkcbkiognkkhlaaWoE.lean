/- Shuffling; WorldChances' law, on its model. -/
import Derived.Test.YtkcbkiognkkhlaaWoD
namespace Go.Proofs.Ytkcbkiognkkhlaa
open Go Go.Fw

theorem Own.storeV {h : Heap} {base : Nat} {s : Sl} {vs : List Value} (ho : Own h base s 1 vs) {i : Int} {m : Nat} (hi : i = (m : Int)) (hm : m < s.len) {v : Value} (hv : oneCell v = true) {K : Heap → Prop}
    (hk : ∀ h', Own h' base s 1 (vs.set m v) → Upd (fun k => s.blk = some k) h h' → h'.size = h.size → K h') : idxA s.ptr s.len i 1 fun b o => st h b o v K := by
  subst hi
  have hcap := ho.cap
  rcases ho.at_ with ⟨_, h0⟩ | ⟨b, c, e, hp, hb, hblk, hc, hvs⟩
  · omega
  · refine ⟨b, 0, hp, by omega, by omega, ?_⟩
    have e0 : 0 + (m : Int).toNat * 1 = m := by omega
    rw [e0]
    refine put2 hblk (by omega) hv fun h' c' u' z' => hk h' ⟨?_, hcap, ho.big, .inr ⟨b, _, e, hp, hb, c', by simpa using hc, ?_⟩⟩ (u'.mono fun k _ hk => by subst hk; simp [Sl.blk, hp]) z'
    · have := ho.len; simpa using this
    · rw [hvs, Array.toList_setIfInBounds, List.take_set]

def iota (n : Nat) : List Int := (List.range n).map fun (j : Nat) => (j : Int)
theorem iota_len (n : Nat) : (iota n).length = n := by simp [iota]
theorem iota_succ (n : Nat) : iota (n + 1) = iota n ++ [(n : Int)] := by simp [iota, List.range_succ]

def swapL (l : List Int) (i k : Nat) : List Int := (l.set i (l.getD k 0)).set k (l.getD i 0)
def shufS : Nat → Int → List Int → Int × List Int
  | 0, s, l => (s, l)
  | i + 1, s, l => shufS i (nextS s) (swapL l (i + 1) (belowV s ((i : Int) + 2)).toNat)

/-- what is told: nothing, or the numbers below n, in some order -/
theorem Shuffle_spec {h : Heap} {b : Nat} {s n : Int} {K : Sl → Int → Heap → Prop} (hc : IsH 104 h b s) (h0 : (n < 0 ∨ n > 4096) → K ⟨none, 0, 0⟩ 2 h)
    (hk : 0 ≤ n → n ≤ 4096 → ∀ out h', IsH 104 h' b (shufS (n.toNat - 1) s (iota n.toNat)).1 → Own h' h.size out 1 ((shufS (n.toNat - 1) s (iota n.toNat)).2.map iv) → Upd (· = b) h h' → K out 0 h') : m_world_Chance_Shuffle (some ⟨b, 0, none⟩) n K h := by
  unfold m_world_Chance_Shuffle g_world_Chance_Shuffle
  refine bindI_intro (bindB_intro (iteP_false (iteP_dec (fun h1 => bindI_intro (h0 (.inl h1))) (fun h1 => bindB_intro (iteP_dec (fun h2 => bindI_intro (h0 (.inr h2))) (fun h2 => ?_))))))
  obtain ⟨N, rfl⟩ := Int.eq_ofNat_of_zero_le (show 0 ≤ n by omega)
  have hk := hk (by omega) (by omega)
  simp only [Int.toNat_natCast] at hk
  have hblt : b < h.size := by
    rcases Nat.lt_or_ge b h.size with hl | hl
    · exact hl
    · unfold IsH at hc; rw [Array.getElem?_eq_none hl] at hc; cases hc
  refine loopM_intro (fun p h' => ∃ k : Nat, p.2.1 = (k : Int) ∧ k ≤ N ∧ Ext h h' ∧ Own h' h.size p.1 1 ((iota k).map iv)) (fun p _ => N - p.2.1.toNat) ⟨0, rfl, Nat.zero_le _, Ext.refl _, Own.nil _ _ 1⟩ ?_
  rintro ⟨l, i, u⟩ h7 ⟨k, hi, hkN, e7, hown⟩
  dsimp only at hi hown
  subst hi
  dsimp only
  have hol := hown.len
  simp only [List.length_map, iota_len, Nat.mul_one] at hol
  have z7 := e7.size
  refine iteP_dec (fun hlt => bindI_intro ?_) (fun hge => bindI_intro ?_)
  · refine newK fun h8 c8 e8 z8 => ?_
    have hrow : Row h8 ⟨some ⟨h7.size, 0, none⟩, 1, 1⟩ 1 [iv (k : Int)] := ⟨rfl, Nat.le_refl _, (show 1 < 9223372036854775808 by decide), .inr ⟨h7.size, 0, rfl, has_block c8 fun i v hi => by simpa using hi⟩⟩
    refine hrow.rd ?_
    have hown8 := hown.congr (h' := h8) fun k _ hl _ => e8.old k hl
    refine Own.app hown8 rfl rfl rfl (by omega) (by omega) (by omega) fun s' h10 ho' hl' hu _ => ?_
    rw [wrap64 (n := (k : Int) + 1) (by omega) (by omega)]
    refine ⟨⟨k + 1, by omega, by omega, (e7.trans e8).then hu fun k hk => (hown.lt hk).1, ?_⟩, by omega⟩
    rw [iota_succ, List.map_append]
    exact ho'
  · have hkN' : k = N := by omega
    subst hkN'
    rw [wrap64 (n := (k : Int) - 1) (by omega) (by omega)]
    refine loopM_intro (fun p h' => ∃ (s' : Int) (l' : List Int) (j : Nat), (p.1 = (j : Int) ∨ (p.1 = -1 ∧ j = 0)) ∧ l'.length = k ∧ (j < k ∨ j = 0) ∧ shufS (k - 1) s (iota k) = shufS j s' l' ∧ IsH 104 h' b s' ∧ Own h' h.size l 1 (l'.map iv) ∧ Upd (· = b) h h') (fun p _ => (p.1 + 1).toNat)
      ⟨s, iota k, k - 1, by omega, iota_len k, by omega, rfl, keepE hc e7, hown, e7.upd _⟩ ?_
    rintro ⟨i, u⟩ h15 ⟨s', l', j, hij, hll, hjk, hsh, hc15, hown15, hu15⟩
    dsimp only at hij
    dsimp only
    refine iteP_dec (fun hge1 => ?_) (fun hlt1 => bindI_intro ?_)
    · obtain ⟨j, rfl⟩ : ∃ j', j = j' + 1 := ⟨j - 1, by omega⟩
      have hi : i = ((j + 1 : Nat) : Int) := by omega
      subst hi
      have hw : IntKind.wrap .i64 (((j + 1 : Nat) : Int) + 1) = (j : Int) + 2 := by rw [wrap64 (by omega) (by omega)]; omega
      rw [hw]
      refine Below_spec hc15 (by omega) (fun h => by omega) fun _ h18 c18 u18 z18 => bindI_intro (bindI_intro ?_)
      have hbr := belowV_range (s := s') (n := (j : Int) + 2) (by omega) (by omega)
      generalize hkv : belowV s' ((j : Int) + 2) = kv at hbr
      obtain ⟨q, rfl⟩ := Int.eq_ofNat_of_zero_le hbr.1
      have hz15 := hu15.size
      have hown18 : Own h18 h.size l 1 (l'.map iv) := hown15.congr fun k hk hl hge => u18.old k hl (by omega)
      have hll18 : l.len = k := by omega
      have hq : q < l'.length := by omega
      have hj : j + 1 < l'.length := by omega
      have eq1 : l'[q]? = some (l'.getD q 0) := by rw [List.getD_eq_getElem?_getD, List.getElem?_eq_getElem hq]; rfl
      have eq2 : l'[j + 1]? = some (l'.getD (j + 1) 0) := by rw [List.getD_eq_getElem?_getD, List.getElem?_eq_getElem hj]; rfl
      refine Row.idx hown18.row (n := q) rfl (v := iv (l'.getD q 0)) (by rw [List.getElem?_map, eq1]; rfl) fun b19 o _ hc19 => ?_
      refine Row.idx hown18.row (n := j + 1) rfl (v := iv (l'.getD (j + 1) 0)) (by rw [List.getElem?_map, eq2]; rfl) fun b20 o21 _ hc20 => ⟨_, hc19, _, hc20, ?_⟩
      refine Own.storeV hown18 (m := j + 1) rfl (by omega) rfl fun h26 ho26 hu26 z26 => ?_
      refine Own.storeV ho26 (m := q) rfl (by omega) rfl fun h29 ho29 hu29 z29 => bindI_intro ?_
      rw [wrap64 (n := ((j + 1 : Nat) : Int) - 1) (by omega) (by omega)]
      have hlb : ∀ k, l.blk = some k → h.size ≤ k := fun k hk => (hown18.lt hk).1
      have c29 : IsH 104 h29 b (nextS s') := by
        have a : h26[b]? = h18[b]? := hu26.old b (by have := hu15.size; omega) fun he => by have := hlb b he; omega
        have a2 : h29[b]? = h26[b]? := hu29.old b (by have := hu15.size; omega) fun he => by have := hlb b he; omega
        exact (a2.trans a).trans c18
      refine ⟨⟨nextS s', swapL l' (j + 1) q, j, .inl (by omega), by simp [swapL, hll], by omega, ?_, c29, ?_, ?_⟩, by omega⟩
      · rw [hsh, shufS, hkv]
        simp only [Int.toNat_natCast]
      · have e : (swapL l' (j + 1) q).map iv = ((l'.map iv).set (j + 1) (iv (l'.getD q 0))).set q (iv (l'.getD (j + 1) 0)) := by
          unfold swapL
          rw [List.map_set, List.map_set]
        rw [e]
        exact ho29
      · exact Upd.then (Upd.then (hu15.trans u18) hu26 fun k hk hks => by have := hlb k hks; omega) hu29 fun k hk hks => by have := hlb k hks; omega
    · have hj0 : j = 0 := by omega
      subst hj0
      have e : shufS (k - 1) s (iota k) = (s', l') := hsh
      rw [e] at hk
      exact hk l h15 hc15 hown15 hu15

theorem RShuffle_spec {h : Heap} {b : Nat} {s n : Int} {K : Sl → Int → Heap → Prop} (hc : IsH 106 h b s) (h0 : (n < 0 ∨ n > 4096) → K ⟨none, 0, 0⟩ 2 h)
    (hk : 0 ≤ n → n ≤ 4096 → ∀ out h', IsH 106 h' b (shufS (n.toNat - 1) s (iota n.toNat)).1 → Own h' h.size out 1 ((shufS (n.toNat - 1) s (iota n.toNat)).2.map iv) → Upd (· = b) h h' → K out 0 h') : m_spillwayref02_Chance_Shuffle (some ⟨b, 0, none⟩) n K h := by
  unfold m_spillwayref02_Chance_Shuffle g_spillwayref02_Chance_Shuffle
  refine bindI_intro (iteP_false (iteP_dec (fun h1 => bindI_intro (h0 (.inl h1))) (fun h1 => iteP_dec (fun h2 => bindI_intro (h0 (.inr h2))) (fun h2 => bindI_intro ?_))))
  obtain ⟨N, rfl⟩ := Int.eq_ofNat_of_zero_le (show 0 ≤ n by omega)
  have hk := hk (by omega) (by omega)
  simp only [Int.toNat_natCast] at hk
  have hblt : b < h.size := by
    rcases Nat.lt_or_ge b h.size with hl | hl
    · exact hl
    · unfold IsH at hc; rw [Array.getElem?_eq_none hl] at hc; cases hc
  refine loopM_intro (fun p h' => ∃ k : Nat, p.2.1 = (k : Int) ∧ k ≤ N ∧ Ext h h' ∧ Own h' h.size p.1 1 ((iota k).map iv)) (fun p _ => N - p.2.1.toNat) ⟨0, rfl, Nat.zero_le _, Ext.refl _, Own.nil _ _ 1⟩ ?_
  rintro ⟨l, i, u⟩ h7 ⟨k, hi, hkN, e7, hown⟩
  dsimp only at hi hown
  subst hi
  dsimp only
  have hol := hown.len
  simp only [List.length_map, iota_len, Nat.mul_one] at hol
  have z7 := e7.size
  refine iteP_dec (fun hlt => ?_) (fun hge => bindI_intro ?_)
  · refine newK fun h8 c8 e8 z8 => ?_
    have hrow : Row h8 ⟨some ⟨h7.size, 0, none⟩, 1, 1⟩ 1 [iv (k : Int)] := ⟨rfl, Nat.le_refl _, (show 1 < 9223372036854775808 by decide), .inr ⟨h7.size, 0, rfl, has_block c8 fun i v hi => by simpa using hi⟩⟩
    refine hrow.rd ?_
    have hown8 := hown.congr (h' := h8) fun k _ hl _ => e8.old k hl
    refine Own.app hown8 rfl rfl rfl (by omega) (by omega) (by omega) fun s' h10 ho' hl' hu _ => bindI_intro ?_
    rw [wrap64 (n := (k : Int) + 1) (by omega) (by omega)]
    refine ⟨⟨k + 1, by omega, by omega, (e7.trans e8).then hu fun k hk => (hown.lt hk).1, ?_⟩, by omega⟩
    rw [iota_succ, List.map_append]
    exact ho'
  · have hkN' : k = N := by omega
    subst hkN'
    rw [wrap64 (n := (k : Int) - 1) (by omega) (by omega)]
    refine loopM_intro (fun p h' => ∃ (s' : Int) (l' : List Int) (j : Nat), (p.1 = (j : Int) ∨ (p.1 = -1 ∧ j = 0)) ∧ l'.length = k ∧ (j < k ∨ j = 0) ∧ shufS (k - 1) s (iota k) = shufS j s' l' ∧ IsH 106 h' b s' ∧ Own h' h.size l 1 (l'.map iv) ∧ Upd (· = b) h h') (fun p _ => (p.1 + 1).toNat)
      ⟨s, iota k, k - 1, by omega, iota_len k, by omega, rfl, keepE hc e7, hown, e7.upd _⟩ ?_
    rintro ⟨i, u⟩ h15 ⟨s', l', j, hij, hll, hjk, hsh, hc15, hown15, hu15⟩
    dsimp only at hij
    dsimp only
    refine iteP_dec (fun hge1 => ?_) (fun hlt1 => bindI_intro ?_)
    · obtain ⟨j, rfl⟩ : ∃ j', j = j' + 1 := ⟨j - 1, by omega⟩
      have hi : i = ((j + 1 : Nat) : Int) := by omega
      subst hi
      have hw : IntKind.wrap .i64 (((j + 1 : Nat) : Int) + 1) = (j : Int) + 2 := by rw [wrap64 (by omega) (by omega)]; omega
      rw [hw]
      refine RBelow_spec hc15 (by omega) (fun h => by omega) fun _ h18 c18 u18 z18 => bindI_intro (bindI_intro ?_)
      have hbr := belowV_range (s := s') (n := (j : Int) + 2) (by omega) (by omega)
      generalize hkv : belowV s' ((j : Int) + 2) = kv at hbr
      obtain ⟨q, rfl⟩ := Int.eq_ofNat_of_zero_le hbr.1
      have hz15 := hu15.size
      have hown18 : Own h18 h.size l 1 (l'.map iv) := hown15.congr fun k hk hl hge => u18.old k hl (by omega)
      have hll18 : l.len = k := by omega
      have hq : q < l'.length := by omega
      have hj : j + 1 < l'.length := by omega
      have eq1 : l'[q]? = some (l'.getD q 0) := by rw [List.getD_eq_getElem?_getD, List.getElem?_eq_getElem hq]; rfl
      have eq2 : l'[j + 1]? = some (l'.getD (j + 1) 0) := by rw [List.getD_eq_getElem?_getD, List.getElem?_eq_getElem hj]; rfl
      refine Row.idx hown18.row (n := q) rfl (v := iv (l'.getD q 0)) (by rw [List.getElem?_map, eq1]; rfl) fun b19 o _ hc19 => ?_
      refine Row.idx hown18.row (n := j + 1) rfl (v := iv (l'.getD (j + 1) 0)) (by rw [List.getElem?_map, eq2]; rfl) fun b20 o21 _ hc20 => ⟨_, hc19, _, hc20, ?_⟩
      refine Own.storeV hown18 (m := j + 1) rfl (by omega) rfl fun h26 ho26 hu26 z26 => ?_
      refine Own.storeV ho26 (m := q) rfl (by omega) rfl fun h29 ho29 hu29 z29 => bindI_intro ?_
      rw [wrap64 (n := ((j + 1 : Nat) : Int) - 1) (by omega) (by omega)]
      have hlb : ∀ k, l.blk = some k → h.size ≤ k := fun k hk => (hown18.lt hk).1
      have c29 : IsH 106 h29 b (nextS s') := by
        have a : h26[b]? = h18[b]? := hu26.old b (by have := hu15.size; omega) fun he => by have := hlb b he; omega
        have a2 : h29[b]? = h26[b]? := hu29.old b (by have := hu15.size; omega) fun he => by have := hlb b he; omega
        exact (a2.trans a).trans c18
      refine ⟨⟨nextS s', swapL l' (j + 1) q, j, .inl (by omega), by simp [swapL, hll], by omega, ?_, c29, ?_, ?_⟩, by omega⟩
      · rw [hsh, shufS, hkv]
        simp only [Int.toNat_natCast]
      · have e : (swapL l' (j + 1) q).map iv = ((l'.map iv).set (j + 1) (iv (l'.getD q 0))).set q (iv (l'.getD (j + 1) 0)) := by
          unfold swapL
          rw [List.map_set, List.map_set]
        rw [e]
        exact ho29
      · exact Upd.then (Upd.then (hu15.trans u18) hu26 fun k hk hks => by have := hlb k hks; omega) hu29 fun k hk hks => by have := hlb k hks; omega
    · have hj0 : j = 0 := by omega
      subst hj0
      have e : shufS (k - 1) s (iota k) = (s', l') := hsh
      rw [e] at hk
      exact hk l h15 hc15 hown15 hu15

theorem SameInts_spec {a b : Sl} {l m : List Int} {h : Heap} {K : Bool → Heap → Prop} (ha : Ints h a l) (hb : Ints h b m) (hk : K (decide (l = m)) h) : m_spillwaymem_SameInts a b K h := by
  unfold m_spillwaymem_SameInts g_spillwaymem_SameInts
  have h1 := ha.length
  have h2 := hb.length
  have h3 := ha.big
  have h4 := ha.cap
  refine ⟨fun hne => ?_, fun heq => bindI_intro ?_⟩
  · have : l ≠ m := by
      rintro rfl
      rw [h1, h2] at hne
      simp at hne
    rw [decide_eq_false this] at hk
    exact hk
  · have hlm : l.length = m.length := by rw [h1, h2] at heq; simp at heq; omega
    refine loopM_intro (fun s h' => h' = h ∧ ∃ k : Nat, k ≤ l.length ∧ s.1 = (k : Int) ∧ l.take k = m.take k) (fun s _ => l.length - s.1.toNat) ⟨rfl, 0, Nat.zero_le _, rfl, by simp⟩ ?_
    rintro ⟨i, u⟩ h' ⟨rfl, k, hk', hi, htake⟩
    dsimp only at hi
    subst hi
    dsimp only
    refine iteP_dec (fun hlt => ?_) (fun hge => ?_)
    · have hl1 : k < l.length := by omega
      have hl2 : k < m.length := by omega
      refine Ints.idx ha rfl (List.getElem?_eq_getElem hl1) ?_
      refine Ints.idx hb rfl (List.getElem?_eq_getElem hl2) ?_
      refine ⟨fun hne => ?_, fun he => bindI_intro ?_⟩
      · have : l ≠ m := by rintro rfl; simp at hne
        rw [decide_eq_false this] at hk
        exact hk
      · have he' : l[k] = m[k] := by simpa using he
        rw [wrap64 (by omega) (by omega)]
        refine ⟨⟨rfl, k + 1, by omega, by omega, ?_⟩, by omega⟩
        rw [List.take_succ_eq_append_getElem hl1, List.take_succ_eq_append_getElem hl2, htake, he']
    · have : l = m := by
        rw [List.take_of_length_le (by omega), List.take_of_length_le (by omega)] at htake
        exact htake
      rw [decide_eq_true this] at hk
      exact hk

theorem WorldChances_true {seed : Int} {s : Sl} {l : List Int} {h : Heap} {K : Bool → Heap → Prop} (hl : Row h s 1 (l.map iv) ∧ ∀ n, n ∈ l → -9223372036854775808 ≤ n ∧ n < 9223372036854775808) (hk : ∀ h', Ext h h' → K true h') : m_spillwaylaw02_WorldChances seed s K h := by
  unfold m_spillwaylaw02_WorldChances g_spillwaylaw02_WorldChances
  obtain ⟨hl, hr⟩ := hl
  have hlen := Ints.length hl
  have hcap := hl.cap
  have hbig := hl.big
  refine NewChance_spec fun h1 c1 e1 z1 => RNewChance_spec fun h3 c3 e3 z3 => ?_
  refine live_spec fun h5 e5 => iteP_false (Mix_spec (RMix_spec (iteP_neg (by simp) (bindI_intro ?_))))
  have x5 := (e1.trans e3).trans e5
  have w5 := e5.size
  refine loopM_intro (fun p h' => ∃ (k : Nat) (s : Int), p.1 = (k : Int) ∧ k ≤ l.length ∧ Ext h h' ∧ IsH 104 h' h.size s ∧ IsH 106 h' h1.size s) (fun p _ => l.length - p.1.toNat)
    ⟨0, seed, rfl, Nat.zero_le _, x5, keepE (keepE c1 e3) e5, keepE c3 e5⟩ ?_
  rintro ⟨i, u⟩ h12 ⟨k, st', hi, hkl, e12, ca, cb⟩
  dsimp only at hi
  subst hi
  dsimp only
  have hlt1 : ∀ {h' : Heap} {T : TypeId} {b : Nat} {q : Int}, IsH T h' b q → b < h'.size := fun {h' T b q} hh => by
    rcases Nat.lt_or_ge b h'.size with hl | hl
    · exact hl
    · unfold IsH at hh; rw [Array.getElem?_eq_none hl] at hh; cases hh
  have zz := e12.size
  refine iteP_dec (fun hlt => ⟨by decide, ?_⟩) (fun hge => ?_)
  · have hk1 : k < l.length := by omega
    have hx : l[k]? = some l[k] := List.getElem?_eq_getElem hk1
    generalize l[k] = n at hx
    have hn := hr n (List.mem_of_getElem? hx)
    have hw : IntKind.wrap .i64 ((k : Int) + 1) = ((k + 1 : Nat) : Int) := by rw [wrap64 (by omega) (by omega)]; omega
    refine ⟨fun _ => ?_, fun _ => ?_⟩
    · refine Ints.idx (hl.ext e12) rfl hx ?_
      refine Shuffle_spec ca (fun hbad => bindI_intro ?_) fun g0 g1 out h16 c16 o16 u16 => bindI_intro ?_
      · refine Ints.idx (hl.ext e12) rfl hx ?_
        refine RShuffle_spec cb (fun _ => bindI_intro ?_) (fun q0 q1 => by omega)
        refine SameInts_spec (l := []) (m := []) (Row.nil _ 1) (Row.nil _ 1) ?_
        rw [decide_eq_true rfl]
        refine iteP_false (iteP_neg (by simp) (bindI_intro ?_))
        rw [hw]
        exact ⟨⟨k + 1, st', rfl, by omega, e12, ca, cb⟩, by omega⟩
      · have x16 : Ext h h16 := e12.then u16 fun k hk => by omega
        refine Ints.idx (hl.ext x16) rfl hx ?_
        refine RShuffle_spec (keepB cb u16 (by omega)) (fun _ => by omega) fun _ _ out2 h22 c22 o22 u22 => bindI_intro ?_
        have o16' : Ints h22 out _ := o16.row.congr fun b o hp _ hl => u22.old b hl (by have := (o16.lt (b := b) (by simp [Sl.blk, hp])).1; have := hlt1 cb; omega)
        refine SameInts_spec o16' o22.row ?_
        rw [decide_eq_true rfl]
        refine iteP_false (iteP_neg (by simp) (bindI_intro ?_))
        rw [hw]
        exact ⟨⟨k + 1, _, rfl, by omega, x16.then u22 fun k hk => by omega, keepB c16 u22 (by omega), c22⟩, by omega⟩
    · refine Ints.idx (hl.ext e12) rfl hx ?_
      refine Below_spec ca hn.2 (fun hbad => bindI_intro (bindI_intro ?_)) fun g0 h31 c31 u31 z31 => bindI_intro (bindI_intro ?_)
      · refine Ints.idx (hl.ext e12) rfl hx ?_
        refine RBelow_spec cb hn.2 (fun _ => bindI_intro (bindI_intro ?_)) (fun q0 => by omega)
        refine iteP_neg (by simp) (iteP_neg (by simp) (bindI_intro ?_))
        rw [hw]
        exact ⟨⟨k + 1, st', rfl, by omega, e12, ca, cb⟩, by omega⟩
      · have x31 : Ext h h31 := e12.then u31 fun k hk => by omega
        refine Ints.idx (hl.ext x31) rfl hx ?_
        refine RBelow_spec (keepB cb u31 (by omega)) hn.2 (fun _ => by omega) fun _ h38 c38 u38 z38 => bindI_intro (bindI_intro ?_)
        refine iteP_neg (by simp) (iteP_neg (by simp) (bindI_intro ?_))
        rw [hw]
        exact ⟨⟨k + 1, _, rfl, by omega, x31.then u38 fun k hk => by omega, keepB c31 u38 (by omega), c38⟩, by omega⟩
  · have wa := hlt1 ca
    have wb := hlt1 cb
    refine HFork_spec ca fun h43 c43 e43 z43 => ?_
    have ca43 : IsH 104 h43 h.size st' := keepE ca e43
    refine RNext_spec (keepE cb e43) fun h45 c45 u45 z45 => bindI_intro ?_
    refine Next_spec (keepB c43 u45 (by omega)) fun h47 c47 u47 z47 => iteP_pos (by simp) ?_
    refine Next_spec (keepB (keepB ca43 u45 (by omega)) u47 (by omega)) fun h49 c49 u49 z49 => iteP_pos (by simp) ?_
    refine Next_spec (keepB c47 u49 (by omega)) fun h51 c51 u51 z51 => ?_
    refine RNext_spec (keepB (keepB (keepB c45 u47 (by omega)) u49 (by omega)) u51 (by omega)) fun h53 c53 u53 z53 => bindB_intro ?_
    rw [beq_self_eq_true]
    refine hk h53 ?_
    exact ((((((e12.trans e43).then u45 fun k hk => by omega).then u47 fun k hk => by omega).then u49 fun k hk => by omega).then u51 fun k hk => by omega).then u53 fun k hk => by omega)

end Go.Proofs.Ytkcbkiognkkhlaa
