/- What the reference's could and Split do. -/
import Derived.Test.YtpbpooaleiolcaaFrR
namespace Go.Proofs.Ytpbpooaleiolcaa
open Go Go.Fw

theorem foldl_zeros (m n : Nat) : (List.replicate m (0 : UInt8)).foldl (fun n c => n * 256 + c.toNat) n = n * 256 ^ m := by
  induction m generalizing n with
  | zero => simp
  | succ m ih => rw [List.replicate_succ, List.foldl_cons, ih, Nat.pow_succ]; simp [Nat.mul_assoc, Nat.mul_comm]

theorem lenv_pad (l : List UInt8) (h : l.length ≤ 4) : ((l ++ List.replicate (4 - l.length) 0).take 4).foldl (fun n (c : UInt8) => n * 256 + c.toNat) 0 = lenv l * 256 ^ (4 - l.length) := by
  rw [List.take_of_length_le (by simp; omega), List.foldl_append, foldl_zeros]
  unfold lenv
  rw [List.take_of_length_le h]

theorem could_spec {b : Sl} {l : List UInt8} {h : Heap} {K : Bool → Heap → Prop} (hb : Bytes h b l) (h4 : l.length ≤ 4) (hk : K (lenok l) h) : m_spillwayref18_could b K h := by
  unfold m_spillwayref18_could g_spillwayref18_could
  have hlen := hb.length
  have hpad := lenv_pad l h4
  generalize hq : l ++ List.replicate (4 - l.length) 0 = q at hpad
  have hql : q.length = 4 := by rw [← hq]; simp; omega
  refine bindI_intro (bindI_intro (loopM_intro (fun s h' => h' = h ∧ ∃ k : Nat, k ≤ 4 ∧ s.2.1 = (k : Int) ∧ s.1 = (((q.take k).foldl (fun n c => n * 256 + c.toNat) 0 : Nat) : Int)) (fun s _ => 4 - s.2.1.toNat) ⟨rfl, 0, by omega, rfl, by simp⟩ ?_))
  rintro ⟨n, i, u⟩ h' ⟨rfl, k, hk4, hi, hn⟩
  dsimp only at hi hn
  subst hi hn
  dsimp only
  refine iteP_dec (fun hlt => bindI_intro ?_) (fun hge => ?_)
  · have hk1 : k < q.length := by omega
    have hb3 := foldl_lt q k
    have : 256 ^ k ≤ 256 ^ 3 := Nat.pow_le_pow_right (by omega) (by omega)
    have hstep : (q.take (k + 1)).foldl (fun n (c : UInt8) => n * 256 + c.toNat) 0 = (q.take k).foldl (fun n c => n * 256 + c.toNat) 0 * 256 + q[k].toNat := by
      rw [List.take_succ_eq_append_getElem hk1, List.foldl_append]
      rfl
    generalize (q.take k).foldl (fun n (c : UInt8) => n * 256 + c.toNat) 0 = N at *
    have hN : N < 16777216 := by omega
    refine iteP_dec (fun hkl => ?_) (fun hkl => bindI_intro ?_)
    · have hk2 : k < l.length := by omega
      have hx : l[k]? = some q[k] := by
        rw [← List.getElem?_eq_getElem hk1, ← hq, List.getElem?_append_left hk2]
      have hx8 := q[k].toNat_lt
      refine Bytes.idx hb rfl hx (bindI_intro (bindI_intro ?_))
      rw [wrap64 (n := (N : Int) * 256) (by omega) (by omega), wrap64 (n := ((q[k].toNat : Nat) : Int)) (by omega) (by omega), wrap64 (n := (N : Int) * 256 + ((q[k].toNat : Nat) : Int)) (by omega) (by omega), wrap64 (n := (k : Int) + 1) (by omega) (by omega)]
      exact ⟨⟨rfl, k + 1, by omega, by omega, by rw [hstep]; omega⟩, by omega⟩
    · have hz : q[k] = 0 := by
        have : q[k]? = some 0 := by
          rw [← hq, List.getElem?_append_right (by omega), List.getElem?_replicate, if_pos (by omega)]
        rw [List.getElem?_eq_getElem hk1] at this
        exact Option.some.inj this
      rw [hz] at hstep
      rw [wrap64 (n := (N : Int) * 256) (by omega) (by omega), wrap64 (n := (k : Int) + 1) (by omega) (by omega)]
      refine ⟨⟨rfl, k + 1, by omega, by omega, by rw [hstep]; simp⟩, by omega⟩
  · have hk' : k = 4 := by omega
    subst hk'
    rw [hpad, hlen]
    have key : ∀ (v : Bool), lenok l = v → K v h' := fun v hv => hv ▸ hk
    unfold lenok at key
    generalize lenv l = N at key ⊢
    have h5 : l.length = 0 ∨ l.length = 1 ∨ l.length = 2 ∨ l.length = 3 ∨ l.length = 4 := by omega
    rcases h5 with h5 | h5 | h5 | h5 | h5
    · rw [h5] at key ⊢
      refine iteP_true (bindB_intro (key _ ?_))
      rw [if_pos (by omega), Bool.eq_iff_iff]; simp; omega
    · rw [h5] at key ⊢
      refine iteP_true (bindB_intro (key _ ?_))
      rw [if_pos (by omega), Bool.eq_iff_iff]; simp; omega
    · rw [h5] at key ⊢
      refine iteP_true (bindB_intro (key _ ?_))
      rw [if_pos (by omega), Bool.eq_iff_iff]; simp; omega
    · rw [h5] at key ⊢
      refine iteP_true (bindB_intro (key _ ?_))
      rw [if_neg (by omega), if_pos rfl, Bool.eq_iff_iff]; simp; omega
    · rw [h5] at key ⊢
      refine iteP_false (iteP_dec (fun h6 => bindB_intro (key _ ?_)) (fun h6 => key _ ?_))
      · rw [if_neg (by omega), if_neg (by omega), Bool.eq_iff_iff]; simp at h6 ⊢; omega
      · rw [if_neg (by omega), if_neg (by omega)]; simp at h6 ⊢; omega

theorem lenok_take (l : List UInt8) : lenok (l.take 4) = lenok l := by
  have e : lenv (l.take 4) = lenv l := by unfold lenv; rw [List.take_take]; simp
  unfold lenok
  rw [e, List.length_take]
  rcases Nat.lt_or_ge l.length 4 with h | h
  · rw [Nat.min_eq_right (by omega)]
  · rw [Nat.min_eq_left h, if_neg (by omega), if_neg (by omega), if_neg (by omega), if_neg (by omega)]

/-- a length below 65536 lies in its last two bytes -/
theorem lenv_two {l : List UInt8} (h : ¬ l.length < 4) (hv : lenv l < 65536) {x y : UInt8} (hx : l[2]? = some x) (hy : l[3]? = some y) : lenv l = x.toNat * 256 + y.toNat := by
  match l, h, hx, hy with
  | a :: b :: c :: d :: r, _, hx, hy =>
    simp at hx hy
    subst hx hy
    have e : lenv (a :: b :: c :: d :: r) = ((a.toNat * 256 + b.toNat) * 256 + c.toNat) * 256 + d.toNat := by simp [lenv]
    rw [e] at hv ⊢
    omega

theorem RSplit2_spec {b : Sl} {all : List UInt8} {h : Heap} {K : Sl → Int → Int → Heap → Prop} (hb : Bytes h b all) (hsz : all.length ≤ 1099511627776)
    (hk : ∀ out h', (∃ ss : List Sl, Own h' h.size out 1 (ss.map slV) ∧ ss.length = (splitA all).1.length ∧ ∀ (i : Nat) (x : Sl) (l : List UInt8), ss[i]? = some x → (splitA all).1[i]? = some l → Bytes h x l ∧ ∀ k, x.blk = some k → b.blk = some k) → Ext h h' → K out ((splitA all).2.1 : Nat) (splitA all).2.2 h') : m_spillwayref18_Split b K h := by
  unfold m_spillwayref18_Split g_spillwayref18_Split
  have hlen := hb.length
  have hcap := hb.cap
  have hbig := hb.big
  refine bindI_intro (bindI_intro (bindI_intro ?_))
  refine loopM_intro (fun p h' => ∃ (k : Nat) (ss : List Sl) (ls : List (List UInt8)), p.2.1 = (k : Int) ∧ k ≤ all.length ∧ Ext h h' ∧ Own h' h.size p.1 1 (ss.map slV) ∧ ss.length = ls.length ∧
    (∀ (i : Nat) (x : Sl) (l : List UInt8), ss[i]? = some x → ls[i]? = some l → Bytes h x l ∧ ∀ k, x.blk = some k → b.blk = some k) ∧ ls.length ≤ k ∧
    splitA all = (ls ++ (splitA (all.drop k)).1, k + (splitA (all.drop k)).2.1, (splitA (all.drop k)).2.2)) (fun p _ => all.length - p.2.1.toNat)
    ⟨0, [], [], rfl, Nat.zero_le _, Ext.refl h, Own.nil h _ 1, rfl, by simp, by simp, by simp⟩ ?_
  rintro ⟨out, i, u⟩ h' ⟨k, ss, ls, hi, hkl, hext, hown, hsl, hrows, hlsk, hcut⟩
  dsimp only at hi hown
  subst hi
  dsimp only
  have hRows : ∃ ss : List Sl, Own h' h.size out 1 (ss.map slV) ∧ ss.length = ls.length ∧ ∀ (i : Nat) (x : Sl) (l : List UInt8), ss[i]? = some x → ls[i]? = some l → Bytes h x l ∧ ∀ k, x.blk = some k → b.blk = some k := ⟨ss, hown, hsl, hrows⟩
  refine iteP_dec (fun hlt => ?_) (fun hge => ?_)
  · have hk0 : ¬ (all.drop k).length = 0 := by simp; omega
    have hdl : (all.drop k).length = all.length - k := by simp
    refine Row.slc (hb.ext hext) (a := k) (b := all.length) (m := b.cap) rfl (by omega) rfl (by omega) (by omega) (by omega) (Nat.le_refl _) ?_
    intro s hs _ _ _
    have hs' : Bytes h' s (all.drop k) := by
      have e : ((all.map bv).drop k).take (all.length - k) = (all.drop k).map bv := by rw [List.map_drop, List.take_of_length_le (by simp)]
      rw [e] at hs; exact hs
    have hsl' := hs'.length
    have hsc := hs'.cap
    refine cutP_intro (fun p h'' => h'' = h' ∧ Bytes h' p.1 ((all.drop k).take 4)) ?_ ?_
    · rintro ⟨head, u2⟩ h'' ⟨rfl, hhead⟩
      dsimp only at hhead ⊢
      have hhl := hhead.length
      rw [List.length_take] at hhl
      refine could_spec hhead (by rw [List.length_take]; omega) ?_
      rw [lenok_take]
      refine ⟨fun hbad => bindI_intro (bindI_intro ?_), fun hgood => ?_⟩
      · have hbad' : lenok (all.drop k) = false := by simpa using hbad
        rw [splitA_bad hk0 hbad'] at hcut
        rw [hcut] at hk
        simp only [List.append_nil] at hk
        exact hk out h'' hRows hext
      · have hgood' : lenok (all.drop k) = true := by simpa using hgood
        have hend : (all.drop k).length < 4 ∨ (all.drop k).length - 4 < lenv (all.drop k) → K out (k : Int) 24 h'' := fun h9 => by
          rw [splitA_end hk0 hgood' h9] at hcut
          rw [hcut] at hk
          simp only [List.append_nil] at hk
          exact hk out h'' hRows hext
        refine iteP_dec (fun h4 => bindI_intro (bindI_intro (hend (by omega)))) (fun h4 => ?_)
        have h4' : ¬ (all.drop k).length < 4 := by omega
        have hpos := lenok_pos h4' hgood'
        have hx2 : (all.drop k)[2]? = some (all.drop k)[2] := List.getElem?_eq_getElem (by omega)
        have hx3 : (all.drop k)[3]? = some (all.drop k)[3] := List.getElem?_eq_getElem (by omega)
        have two := lenv_two h4' (by omega) hx2 hx3
        have t2 : ((all.drop k).take 4)[2]? = some (all.drop k)[2] := by rw [List.getElem?_take, if_pos (by omega)]; exact hx2
        have t3 : ((all.drop k).take 4)[3]? = some (all.drop k)[3] := by rw [List.getElem?_take, if_pos (by omega)]; exact hx3
        generalize (all.drop k)[2] = x at *
        generalize (all.drop k)[3] = y at *
        have hx8 := x.toNat_lt
        have hy8 := y.toNat_lt
        refine Bytes.idx hhead (n := 2) rfl t2 ⟨by omega, ?_⟩
        refine Bytes.idx hhead (n := 3) rfl t3 (bindI_intro ?_)
        rw [wrap64 (n := ((x.toNat : Nat) : Int)) (by omega) (by omega), or_shift _ _ (by omega) hy8, ← two]
        rw [wrap64 (n := (b.len : Int) - (k : Int)) (by omega) (by omega), wrap64 (n := (4 : Int) + (lenv (all.drop k) : Int)) (by omega) (by omega)]
        refine iteP_dec (fun h5 => bindI_intro (bindI_intro (hend (by omega)))) (fun h5 => ?_)
        have h9 : ¬ ((all.drop k).length < 4 ∨ (all.drop k).length - 4 < lenv (all.drop k)) := by omega
        rw [splitA_one hk0 hgood' h9] at hcut
        clear two
        generalize lenv (all.drop k) = n at *
        rw [wrap64 (n := (k : Int) + 4) (by omega) (by omega), wrap64 (n := (k : Int) + 4 + (n : Int)) (by omega) (by omega)]
        refine Row.slc hb (a := k + 4) (b := k + 4 + n) (m := b.cap) (by omega) (by omega) (by omega) (by omega) (by omega) (by omega) (Nat.le_refl _) ?_
        intro p1 hp1 _ _ hp1b
        have hp1' : Bytes h p1 (((all.drop k).drop 4).take n) := by
          have e : ((all.map bv).drop (k + 4)).take (k + 4 + n - (k + 4)) = (((all.drop k).drop 4).take n).map bv := by
            rw [List.map_take, List.drop_drop, List.map_drop]; congr 1; omega
          rw [e] at hp1; exact hp1
        refine newC_intro ?_
        have hext4 := Ext.push h'' (.cells [slV p1].toArray 29)
        have hrow : Row (h''.push (.cells [slV p1].toArray 29)) ⟨some ⟨h''.size, 0, none⟩, 1, 1⟩ 1 [slV p1] := (Own.newC (h := h'') (cells := [slV p1]) (t := 29) (size := 1) (n := 1) rfl (by decide)).row
        refine hrow.rd ?_
        have hown2 := hown.congr (h' := h''.push (.cells [slV p1].toArray 29)) fun k _ hl _ => hext4.old k hl
        have hol := hown.len
        simp only [List.length_map, Nat.mul_one] at hol
        refine Own.app hown2 (by simp) rfl rfl (by omega) (by omega) (by have := hext.size; simp; omega) ?_
        intro out' h5' ho5 hl5 hu5 hblk5
        have hext5 : Ext h h5' := (hext.trans hext4).then hu5 fun k hk1 => (hown2.lt hk1).1
        rw [wrap64 (n := (k : Int) + (4 + (n : Int))) (by omega) (by omega)]
        refine bindI_intro ⟨⟨k + (4 + n), ss ++ [p1], ls ++ [((all.drop k).drop 4).take n], by omega, by omega, hext5, by rw [List.map_append]; exact ho5, by simp [hsl], ?_, by simp; omega, ?_⟩, by omega⟩
        · intro i y m hy hm
          rcases Nat.lt_or_ge i ss.length with hi | hi
          · rw [List.getElem?_append_left hi] at hy
            rw [List.getElem?_append_left (by omega)] at hm
            exact hrows i y m hy hm
          · rw [List.getElem?_append_right hi] at hy
            rw [List.getElem?_append_right (by omega), ← hsl] at hm
            have hi0 : i - ss.length = 0 := by
              rcases Nat.eq_zero_or_pos (i - ss.length) with h | h
              · exact h
              · rw [List.getElem?_eq_none (by simp; omega)] at hy; cases hy
            rw [hi0] at hy hm
            simp only [List.getElem?_cons_zero, Option.some.injEq] at hy hm
            subst hy hm
            exact ⟨hp1', hp1b⟩
        · rw [hcut, List.drop_drop]
          simp
          omega
    · refine iteP_dec (fun h5 => ?_) (fun h5 => ⟨rfl, ?_⟩)
      · refine Row.slc hs' (a := 0) (b := 4) (m := s.cap) rfl rfl rfl (by omega) (by omega) (by omega) (Nat.le_refl _) ?_
        intro hd hhd _ _ _
        refine ⟨rfl, ?_⟩
        have e : ((((all.drop k).map bv).drop 0).take (4 - 0)) = ((all.drop k).take 4).map bv := by rw [List.map_take, List.drop_zero]
        rw [e] at hhd
        exact hhd
      · have : (all.drop k).take 4 = all.drop k := List.take_of_length_le (by omega)
        rw [this]
        exact hs'
  · have hk9 : k = all.length := by omega
    rw [hk9, splitA_nil (all := all.drop all.length) (by simp)] at hcut
    rw [hcut] at hk
    simp only [List.append_nil, Nat.add_zero] at hk
    refine bindI_intro (bindI_intro ?_)
    rw [hk9]
    exact hk out h' hRows hext

theorem RSplit_spec {b : Sl} {all : List UInt8} {h : Heap} {K : Sl → Int → Int → Heap → Prop} (hb : Bytes h b all) (hsz : all.length ≤ 1099511627776)
    (hk : ∀ out h', RowsB h' out (splitA all).1 → Ext h h' → K out ((splitA all).2.1 : Nat) (splitA all).2.2 h') : m_spillwayref18_Split b K h :=
  RSplit2_spec hb hsz fun out h' ⟨ss, h1, h2, h3⟩ hext => hk out h' ⟨ss, h1.row, h2, fun i x l hx hl => (h3 i x l hx hl).1.ext hext⟩ hext

end Go.Proofs.Ytpbpooaleiolcaa
