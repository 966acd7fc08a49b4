/- WorldShuffles' law, on its model. -/
import Derived.Test.YtkcbkiognkkhlaaWoI
namespace Go.Proofs.Ytkcbkiognkkhlaa
open Go Go.Fw

theorem Alone_spec {bk base : Nat} {s0 : Sl} {ss : List Sl} {h : Heap} {K : Bool → Heap → Prop} (hb : BookR h bk base s0 ss) (hbase : base ≤ h.size) (hn : ss.length ≤ 1099511627776)
    (hrows : ∀ (j : Nat) (x : Sl), ss[j]? = some x → x.len ≤ 1099511627776 ∧ ∃ l : List Int, Own h 0 x 1 (l.map iv))
    (hd : ∀ (i j : Nat) (x y : Sl) (k : Nat), ss[i]? = some x → ss[j]? = some y → x.blk = some k → y.blk = some k → i = j)
    (hk : ∀ h', Upd (fun k => k = bk ∨ inRows ss k) h h' → K true h') : m_spillwaymem_Book_Alone (some ⟨bk, 0, none⟩) K h := by
  unfold m_spillwaymem_Book_Alone g_spillwaymem_Book_Alone
  refine aloneBytes_spec hb.cells rfl (iteP_true ?_)
  refine aloneTexts_spec hb.cells rfl (iteP_true ?_)
  refine aloneInts_spec hb hbase hn hrows hd fun h1 hu => iteP_true ?_
  have hB := hb.upd hbase hu
  refine aloneCounts_spec hB.cells rfl (iteP_true ?_)
  refine aloneItems_spec hB.cells rfl (iteP_true ?_)
  refine aloneFlows_spec hB.cells rfl (iteP_true ?_)
  refine aloneBreaks_spec hB.cells rfl (iteP_true ?_)
  refine aloneSystems_spec hB.cells rfl (bindB_intro ?_)
  refine deref_ ⟨free_block hB.cells (by simp), rfl, bindB_intro ?_⟩
  exact hk _ ((hu.mono fun k _ hk => .inr hk).trans ((Upd.puts h1 bk 0 _).mono fun k _ hk => .inl hk))

/-- two rows of their own in a book: none of them lies upon another -/
theorem two_alone {l m : Sl} {lb mb : List Int} {h : Heap} {base : Nat} {K : Bool → Heap → Prop} (hl : Own h base l 1 (lb.map iv)) (hm : Own h base m 1 (mb.map iv)) (hd : ∀ k, l.blk = some k → m.blk ≠ some k)
    (hll : l.len ≤ 4096) (hml : m.len ≤ 4096) (hk : ∀ h', Upd (fun k => base ≤ k) h h' → K true h') :
    newC h [Value.slice none 0 0, Value.slice none 0 0, Value.slice none 0 0, Value.slice none 0 0, Value.slice none 0 0, Value.slice none 0 0, Value.slice none 0 0, Value.slice none 0 0] 88 fun b45 h46 =>
      m_spillwaymem_Book_TakeInts (some ⟨b45, 0, none⟩) l (fun h47 =>
        m_spillwaymem_Book_TakeInts (some ⟨b45, 0, none⟩) m (fun h48 =>
          m_spillwaymem_Book_Alone (some ⟨b45, 0, none⟩) (fun t49 h50 => bindB t49 fun t51 => K t51 h50) h48) h47) h46 := by
  refine newC_intro ?_
  have hext := Ext.push h (.cells [nilV, nilV, nilV, nilV, nilV, nilV, nilV, nilV].toArray 88)
  have hB0 : BookR (h.push (.cells [nilV, nilV, nilV, nilV, nilV, nilV, nilV, nilV].toArray 88)) h.size (h.size + 1) ⟨none, 0, 0⟩ [] :=
    ⟨push_new, Own.nil _ _ 1, by omega, by simp⟩
  have z0 : (h.push (.cells [nilV, nilV, nilV, nilV, nilV, nilV, nilV, nilV].toArray 88)).size = h.size + 1 := by simp
  generalize h.push (.cells [nilV, nilV, nilV, nilV, nilV, nilV, nilV, nilV].toArray 88) = h1 at hext hB0 z0
  refine TakeInts_spec hB0 (fun k hk => ?_) (by simp) (by omega) fun s1 h2 hB1 hu1 hs1 => ?_
  · have := (hl.lt hk).2
    exact ⟨by omega, by simp [Sl.blk], by omega⟩
  have z2 := hu1.size
  refine TakeInts_spec hB1 (fun k hk => ?_) (by simp) (by omega) fun s2 h3 hB2 hu2 hs2 => ?_
  · have := (hm.lt hk).2
    exact ⟨by omega, fun he => by have := (hB1.own.lt he).1; omega, by omega⟩
  have z3 := hu2.size
  have e13 : ∀ k, k < h.size → h3[k]? = h[k]? := fun k hk =>
    ((hu2.old k (by omega) fun hS => by
      rcases hS with hS | hS
      · omega
      · have := (hB1.own.lt hS).1; omega).trans (hu1.old k (by omega) fun hS => by
      rcases hS with hS | hS
      · omega
      · simp [Sl.blk] at hS)).trans (hext.old k hk)
  refine Alone_spec hB2 (by omega) (by simp) (fun j y hy => ?_) (fun i j y z k hy hz hky hkz => ?_) fun h4 hu4 => bindB_intro (hk h4 ⟨by have := hu4.size; omega, fun k hk hb => ?_⟩)
  · have hmem := List.mem_of_getElem? hy
    have hy' : y = l ∨ y = m := by simpa using hmem
    rcases hy' with rfl | rfl
    · exact ⟨by omega, lb, (hl.congr fun k _ hk _ => e13 k hk).base (Nat.zero_le _)⟩
    · exact ⟨by omega, mb, (hm.congr fun k _ hk _ => e13 k hk).base (Nat.zero_le _)⟩
  · have hi : i < 2 := by
      rcases Nat.lt_or_ge i 2 with q | q
      · exact q
      · rw [List.getElem?_eq_none (by simpa using q)] at hy; cases hy
    have hj : j < 2 := by
      rcases Nat.lt_or_ge j 2 with q | q
      · exact q
      · rw [List.getElem?_eq_none (by simpa using q)] at hz; cases hz
    have c0 : ([] ++ [l] ++ [m] : List Sl)[0]? = some l := rfl
    have c1 : ([] ++ [l] ++ [m] : List Sl)[1]? = some m := rfl
    obtain rfl | rfl : i = 0 ∨ i = 1 := by omega
    · obtain rfl | rfl : j = 0 ∨ j = 1 := by omega
      · rfl
      · rw [c0] at hy; rw [c1] at hz; cases hy; cases hz
        exact absurd hkz (hd k hky)
    · obtain rfl | rfl : j = 0 ∨ j = 1 := by omega
      · rw [c1] at hy; rw [c0] at hz; cases hy; cases hz
        exact absurd hky (hd k hkz)
      · rfl
  · rw [hu4.old k (by omega) fun hS => ?_, e13 k hk]
    rcases hS with hS | ⟨y, hy, hyk⟩
    · omega
    · have hy' : y = l ∨ y = m := by simpa using hy
      rcases hy' with rfl | rfl
      · exact hb (hl.lt hyk).1
      · exact hb (hm.lt hyk).1

/-! ### all the numbers below n, each once -/
structure Each (n : Nat) (l : List Int) : Prop where
  len : l.length = n
  range : ∀ j, j < n → 0 ≤ l.getD j 0 ∧ l.getD j 0 < (n : Int)
  once : ∀ i j, i < n → j < n → l.getD i 0 = l.getD j 0 → i = j

theorem iota_getD {n j : Nat} (h : j < n) : (iota n).getD j 0 = (j : Int) := by
  unfold iota
  rw [List.getD_eq_getElem?_getD, List.getElem?_map, List.getElem?_range h]
  rfl
theorem Each.iota (n : Nat) : Each n (iota n) :=
  ⟨iota_len n, fun j hj => by rw [iota_getD hj]; omega, fun i j hi hj => by rw [iota_getD hi, iota_getD hj]; omega⟩
theorem swapL_getD {l : List Int} {i k j : Nat} (hi : i < l.length) (hk : k < l.length) (_ : j < l.length) :
    (swapL l i k).getD j 0 = if j = k then l.getD i 0 else if j = i then l.getD k 0 else l.getD j 0 := by
  unfold swapL
  rw [List.getD_eq_getElem?_getD, List.getElem?_set, List.length_set, List.getElem?_set]
  by_cases h1 : k = j
  · rw [if_pos h1, if_pos hk, if_pos h1.symm]; rfl
  · rw [if_neg h1, if_neg (c := j = k) (fun e => h1 e.symm)]
    by_cases h2 : i = j
    · rw [if_pos h2, if_pos hi, if_pos h2.symm]; rfl
    · rw [if_neg h2, if_neg (c := j = i) (fun e => h2 e.symm), List.getD_eq_getElem?_getD]
theorem Each.swap {n : Nat} {l : List Int} (he : Each n l) {i k : Nat} (hi : i < n) (hk : k < n) : Each n (swapL l i k) := by
  have hl := he.len
  refine ⟨by simp [swapL, hl], fun j hj => ?_, fun a b ha hb => ?_⟩
  · rw [swapL_getD (by omega) (by omega) (by omega)]
    split
    · exact he.range i hi
    · split
      · exact he.range k hk
      · exact he.range j hj
  · rw [swapL_getD (by omega) (by omega) (by omega), swapL_getD (by omega) (by omega) (by omega)]
    intro h
    have o := he.once
    by_cases a1 : a = k
    · by_cases b1 : b = k
      · omega
      · rw [if_pos a1, if_neg b1] at h
        by_cases b2 : b = i
        · rw [if_pos b2] at h; have := o _ _ hi hk h; omega
        · rw [if_neg b2] at h; have := o _ _ hi hb h; omega
    · rw [if_neg a1] at h
      by_cases a2 : a = i
      · rw [if_pos a2] at h
        by_cases b1 : b = k
        · rw [if_pos b1] at h; have := o _ _ hk hi h; omega
        · rw [if_neg b1] at h
          by_cases b2 : b = i
          · omega
          · rw [if_neg b2] at h; have := o _ _ hk hb h; omega
      · rw [if_neg a2] at h
        by_cases b1 : b = k
        · rw [if_pos b1] at h; have := o _ _ ha hi h; omega
        · rw [if_neg b1] at h
          by_cases b2 : b = i
          · rw [if_pos b2] at h; have := o _ _ ha hk h; omega
          · rw [if_neg b2] at h; exact o _ _ ha hb h
theorem Each.shuf {n : Nat} : ∀ (i : Nat) (s : Int) (l : List Int), Each n l → (i < n ∨ i = 0) → n ≤ 4096 → Each n (shufS i s l).2
  | 0, _, _, he, _, _ => he
  | i + 1, s, l, he, hi, hn => by
    rw [shufS]
    have hr := belowV_range (s := s) (n := (i : Int) + 2) (by omega) (by omega)
    exact Each.shuf i _ _ (he.swap (by omega) (by omega)) (by omega) hn
theorem Each.nil : Each 0 [] := ⟨rfl, fun j hj => by omega, fun i j hi => by omega⟩

/-! ### what Shuffle tells, at every n -/
def shufL (s n : Int) : List Int := if 0 ≤ n ∧ n ≤ 4096 then (shufS (n.toNat - 1) s (iota n.toNat)).2 else []
def shufE (n : Int) : Int := if 0 ≤ n ∧ n ≤ 4096 then 0 else 2
def shufN (n : Int) : Nat := if 0 ≤ n ∧ n ≤ 4096 then n.toNat else 0
theorem shuf_each (s n : Int) : Each (shufN n) (shufL s n) := by
  unfold shufN shufL
  split
  · exact Each.shuf _ _ _ (Each.iota _) (by omega) (by omega)
  · exact Each.nil
theorem Shuffle_all {h : Heap} {b : Nat} {s n : Int} {K : Sl → Int → Heap → Prop} (hc : IsH 104 h b s)
    (hk : ∀ out s' h', IsH 104 h' b s' → Own h' h.size out 1 ((shufL s n).map iv) → Upd (· = b) h h' → K out (shufE n) h') : m_world_Chance_Shuffle (some ⟨b, 0, none⟩) n K h := by
  refine Shuffle_spec hc (fun hbad => ?_) fun g0 g1 out h' c o u => ?_
  · have := hk ⟨none, 0, 0⟩ s h hc (by unfold shufL; rw [if_neg (by omega)]; exact Own.nil _ _ 1) (Upd.refl _ _)
    unfold shufE at this
    rw [if_neg (by omega)] at this
    exact this
  · have := hk out _ h' c (by unfold shufL; rw [if_pos ⟨g0, g1⟩]; exact o) u
    unfold shufE at this
    rw [if_pos ⟨g0, g1⟩] at this
    exact this

/-! ### what was seen -/
def seen (n : Nat) (l : List Int) : List Value := (List.range n).map fun (j : Nat) => Value.bool (decide ((j : Int) ∈ l))
theorem seen_len (n : Nat) (l : List Int) : (seen n l).length = n := by simp [seen]
theorem seen_get {n j : Nat} {l : List Int} (h : j < n) : (seen n l)[j]? = some (.bool (decide ((j : Int) ∈ l))) := by
  unfold seen
  rw [List.getElem?_map, List.getElem?_range h]
  rfl
theorem seen_nil (n : Nat) : zerosL [Value.bool false] n = seen n [] := by
  apply List.ext_getElem?
  intro j
  rcases Nat.lt_or_ge j n with hj | hj
  · rw [seen_get hj]
    unfold zerosL
    have e : (List.replicate n [Value.bool false]).flatten = List.replicate n (Value.bool false) := by
      clear hj
      induction n with
      | zero => rfl
      | succ n ih => rw [List.replicate_succ, List.flatten_cons, ih, List.replicate_succ]; rfl
    rw [e, List.getElem?_replicate, if_pos hj]
    simp
  · rw [List.getElem?_eq_none (by rw [zerosL_length']; simpa using hj), List.getElem?_eq_none (by rw [seen_len]; exact hj)]
theorem seen_snoc {n m : Nat} {l : List Int} (h : m < n) : (seen n l).set m (.bool true) = seen n (l ++ [(m : Int)]) := by
  apply List.ext_getElem?
  intro j
  rcases Nat.lt_or_ge j n with hj | hj
  · rw [seen_get hj, List.getElem?_set, seen_len]
    by_cases e : m = j
    · subst e
      rw [if_pos rfl, if_pos h]
      simp
    · rw [if_neg e, seen_get hj]
      have : ((j : Int) = (m : Int)) = False := by simp; omega
      simp [this]
  · rw [List.getElem?_eq_none (by rw [List.length_set, seen_len]; exact hj), List.getElem?_eq_none (by rw [seen_len]; exact hj)]

theorem WorldShuffles_true {seed n below : Int} {h : Heap} {K : Bool → Heap → Prop} (_ : -9223372036854775808 ≤ n ∧ n < 9223372036854775808) (hb : -9223372036854775808 ≤ below ∧ below < 9223372036854775808) (hk : ∀ h', Ext h h' → K true h') : m_spillwaylaw02_WorldShuffles seed n below K h := by
  unfold m_spillwaylaw02_WorldShuffles g_spillwaylaw02_WorldShuffles
  refine live_spec fun h1 e1 => iteP_false (NewChance_spec fun h3 c3 e3 z3 => NewChance_spec fun h5 c5 e5 z5 => ?_)
  refine Shuffle_all (keepE c3 e5) fun out s8 h8 c8 o8 u8 => bindI_intro ?_
  refine Shuffle_all (keepB c5 u8 (by omega)) fun out2 s11 h11 c11 o11 u11 => bindI_intro ?_
  have z8 := u8.size
  have z11 := u11.size
  have x8 : Ext h h8 := ((e1.trans e3).trans e5).then u8 fun k hk => by have := e1.size; omega
  have x11 : Ext h h11 := x8.then u11 fun k hk => by have := e1.size; omega
  have c11' : IsH 104 h11 h1.size s8 := keepB c8 u11 (by omega)
  have o8' : Own h11 h5.size out 1 ((shufL seed n).map iv) := o8.congr fun k hk hl hge => u11.old k hl (by omega)
  have he := shuf_each seed n
  generalize hL : shufL seed n = L at he o8' o11
  have hlen : out.len = L.length := Ints.length o8'.row
  have hlen2 : out2.len = L.length := Ints.length o11.row
  have hN : shufN n ≤ 4096 := by unfold shufN; split <;> omega
  have hel := he.len
  have hhs : h.size ≤ h1.size := e1.size
  refine cutP_intro (fun _ h15 => h15 = h11) ?_ ?_
  · rintro ⟨⟩ h15 rfl
    refine ⟨by omega, by omega, by omega, by omega, bindI_intro ?_⟩
    have hs0 := Own.newC (h := h15) (cells := zerosL [Value.bool false] ((out.len : Int)).toNat) (t := 4) (size := 1) (n := ((out.len : Int)).toNat) (by rw [zerosL_length']; simp) (by omega)
    have hext := Ext.push h15 (.cells (zerosL [Value.bool false] ((out.len : Int)).toNat).toArray 4)
    have z17 : (h15.push (.cells (zerosL [Value.bool false] ((out.len : Int)).toNat).toArray 4)).size = h15.size + 1 := by simp
    rw [seen_nil] at hs0 hext z17
    rw [seen_nil]
    generalize h15.push (.cells (seen ((out.len : Int)).toNat []).toArray 4) = h17 at hs0 hext z17
    rw [Int.toNat_natCast] at hs0
    rw [Int.toNat_natCast]
    refine loopM_intro (fun p h' => ∃ k : Nat, p.1 = (k : Int) ∧ k ≤ L.length ∧ Own h' h15.size ⟨some ⟨h15.size, 0, none⟩, out.len, out.len⟩ 1 (seen out.len (L.take k)) ∧ Ext h15 h') (fun p _ => L.length - p.1.toNat)
      ⟨0, rfl, Nat.zero_le _, hs0, hext⟩ ?_
    rintro ⟨i, u⟩ h21 ⟨k, hi, hkl, os, e21⟩
    dsimp only at hi
    subst hi
    dsimp only
    have or21 : Ints h21 out L := o8'.row.ext e21
    refine iteP_dec (fun hlt => ?_) (fun hge => ?_)
    · have hk1 : k < L.length := by omega
      have hx : L[k]? = some L[k] := List.getElem?_eq_getElem hk1
      have hg : L.getD k 0 = L[k] := by rw [List.getD_eq_getElem?_getD, hx]; rfl
      have hr := he.range k (by omega)
      rw [hg] at hr
      have hnot : L[k] ∉ L.take k := fun hm => by
        obtain ⟨j, hj, hej⟩ := List.mem_iff_getElem.1 hm
        rw [List.length_take] at hj
        rw [List.getElem_take] at hej
        have hgj : L.getD j 0 = L[j] := by rw [List.getD_eq_getElem?_getD, List.getElem?_eq_getElem (by omega)]; rfl
        have := he.once j k (by omega) (by omega) (by rw [hgj, hg, hej])
        omega
      have htk : L.take (k + 1) = L.take k ++ [L[k]] := List.take_succ_eq_append_getElem hk1
      generalize L[k] = v at hx hr hnot htk
      obtain ⟨q, rfl⟩ := Int.eq_ofNat_of_zero_le hr.1
      refine Ints.idx or21 rfl hx ?_
      refine iteP_neg (decide_eq_false (by omega)) ?_
      refine Ints.idx or21 rfl hx ?_
      refine iteP_neg (decide_eq_false (by omega)) ?_
      refine Ints.idx or21 rfl hx ?_
      refine Row.idx os.row (n := q) rfl (v := .bool false) (by rw [seen_get (by omega), decide_eq_false hnot]) fun b29 o30 _ hc29 => ⟨_, hc29, iteP_false ?_⟩
      refine Ints.idx or21 rfl hx ?_
      refine Own.storeV os (m := q) rfl (by show q < out.len; omega) rfl fun h37 o37 u37 z37 => bindI_intro ?_
      rw [seen_snoc (by omega), ← htk] at o37
      rw [wrap64 (n := (k : Int) + 1) (by omega) (by omega)]
      exact ⟨⟨k + 1, by omega, by omega, o37, e21.then u37 fun j hj => by simp [Sl.blk] at hj; omega⟩, by omega⟩
    · have x21 : Ext h h21 := x11.trans e21
      have ol : Own h21 h5.size out 1 (L.map iv) := o8'.congr fun k _ hl _ => e21.old k hl
      have om : Own h21 h5.size out2 1 (L.map iv) := (o11.congr fun k _ hl _ => e21.old k hl).base z8
      have hd : ∀ k, out.blk = some k → out2.blk ≠ some k := fun k h1 h2 => by
        have a := (o8.lt h1).2
        have b := (o11.lt h2).1
        omega
      have two : ∀ {h41 : Heap}, Upd (· = h1.size) h21 h41 → newC h41 [Value.slice none 0 0, Value.slice none 0 0, Value.slice none 0 0, Value.slice none 0 0, Value.slice none 0 0, Value.slice none 0 0, Value.slice none 0 0, Value.slice none 0 0] 88 fun b45 h46 =>
          m_spillwaymem_Book_TakeInts (some ⟨b45, 0, none⟩) out (fun h47 =>
            m_spillwaymem_Book_TakeInts (some ⟨b45, 0, none⟩) out2 (fun h48 =>
              m_spillwaymem_Book_Alone (some ⟨b45, 0, none⟩) (fun t49 h50 => bindB t49 fun t51 => K t51 h50) h48) h47) h46 := fun {h41} u41 => by
        refine two_alone (ol.congr fun k _ hl hge => u41.old k hl (by omega)) (om.congr fun k _ hl hge => u41.old k hl (by omega)) hd (by omega) (by omega) fun h' u' => hk h' ?_
        exact (x21.then u41 fun k hk => by omega).then u' fun k hk => by have := u41.size; omega
      refine Below_spec (keepE c11' e21) hb.2 (fun hbad => bindI_intro (bindI_intro ?_)) fun g0 h41 c41 u41 z41 => bindI_intro (bindI_intro ?_)
      · refine cutP_intro (fun _ h' => h' = h21) ?_ ?_
        · rintro ⟨⟩ h44 rfl
          exact two (Upd.refl _ _)
        · refine iteP_neg rfl (iteP_neg ?_ rfl)
          rw [decide_eq_false (by omega)]; rfl
      · have hbr := belowV_range (s := s8) (n := below) g0 hb.2
        refine cutP_intro (fun _ h' => h' = h41) ?_ ?_
        · rintro ⟨⟩ h44 rfl
          exact two u41
        · refine iteP_pos rfl (iteP_neg (decide_eq_false (by omega)) (iteP_neg (decide_eq_false (by omega)) (iteP_neg ?_ rfl)))
          rw [decide_eq_true (by omega)]; rfl
  · refine iteP_neg (by simp) (SameInts_spec o8'.row o11.row ?_)
    rw [decide_eq_true rfl]
    refine iteP_false ⟨fun hz => iteP_neg ?_ rfl, fun _ => rfl⟩
    have hn : 0 ≤ n ∧ n ≤ 4096 := by
      unfold shufE at hz
      by_cases q : 0 ≤ n ∧ n ≤ 4096
      · exact q
      · rw [if_neg q] at hz; cases hz
    have : shufN n = n.toNat := by unfold shufN; rw [if_pos hn]
    have : (out.len : Int) = n := by omega
    rw [this]
    simp

end Go.Proofs.Ytkcbkiognkkhlaa
