/- The reference's reader. (gathered by carve.py out of texts proved for other seats) -/
import Derived.Test.YtcmedplogmjiiaaGreatClH
namespace Go.Proofs.YtcmedplogmjiiaaGreat
open Go Go.Fw

theorem foldl_zeros (m n : Nat) : (List.replicate m (0 : UInt8)).foldl (fun n c => n * 256 + c.toNat) n = n * 256 ^ m := by
  induction m generalizing n with
  | zero => simp
  | succ m ih => rw [List.replicate_succ, List.foldl_cons, ih, Nat.pow_succ]; simp [Nat.mul_assoc, Nat.mul_comm]

theorem lenv_pad (l : List UInt8) (h : l.length ≤ 4) : ((l ++ List.replicate (4 - l.length) 0).take 4).foldl (fun n (c : UInt8) => n * 256 + c.toNat) 0 = lenv l * 256 ^ (4 - l.length) := by
  rw [List.take_of_length_le (by simp; omega), List.foldl_append, foldl_zeros]
  unfold lenv
  rw [List.take_of_length_le h]

theorem could_spec {b : Sl} {l : List UInt8} {h : Heap} {K : Bool → Heap → Prop} (hb : Bytes h b l) (h4 : l.length ≤ 4) (hk : K (lenok l) h) : m_spillwayref18_could b K h := by
  unfold m_spillwayref18_could g_spillwayref18_could
  have hlen := hb.length
  have hpad := lenv_pad l h4
  generalize hq : l ++ List.replicate (4 - l.length) 0 = q at hpad
  have hql : q.length = 4 := by rw [← hq]; simp; omega
  refine bindI_intro (bindI_intro (loopM_intro (fun s h' => h' = h ∧ ∃ k : Nat, k ≤ 4 ∧ s.2.1 = (k : Int) ∧ s.1 = (((q.take k).foldl (fun n c => n * 256 + c.toNat) 0 : Nat) : Int)) (fun s _ => 4 - s.2.1.toNat) ⟨rfl, 0, by omega, rfl, by simp⟩ ?_))
  rintro ⟨n, i, u⟩ h' ⟨rfl, k, hk4, hi, hn⟩
  dsimp only at hi hn
  subst hi hn
  dsimp only
  refine iteP_dec (fun hlt => bindI_intro ?_) (fun hge => ?_)
  · have hk1 : k < q.length := by omega
    have hb3 := foldl_lt q k
    have : 256 ^ k ≤ 256 ^ 3 := Nat.pow_le_pow_right (by omega) (by omega)
    have hstep : (q.take (k + 1)).foldl (fun n (c : UInt8) => n * 256 + c.toNat) 0 = (q.take k).foldl (fun n c => n * 256 + c.toNat) 0 * 256 + q[k].toNat := by
      rw [List.take_succ_eq_append_getElem hk1, List.foldl_append]
      rfl
    generalize (q.take k).foldl (fun n (c : UInt8) => n * 256 + c.toNat) 0 = N at *
    have hN : N < 16777216 := by omega
    refine iteP_dec (fun hkl => ?_) (fun hkl => bindI_intro ?_)
    · have hk2 : k < l.length := by omega
      have hx : l[k]? = some q[k] := by
        rw [← List.getElem?_eq_getElem hk1, ← hq, List.getElem?_append_left hk2]
      have hx8 := q[k].toNat_lt
      refine Bytes.idx hb rfl hx (bindI_intro (bindI_intro ?_))
      rw [wrap64 (n := (N : Int) * 256) (by omega) (by omega), wrap64 (n := ((q[k].toNat : Nat) : Int)) (by omega) (by omega), wrap64 (n := (N : Int) * 256 + ((q[k].toNat : Nat) : Int)) (by omega) (by omega), wrap64 (n := (k : Int) + 1) (by omega) (by omega)]
      exact ⟨⟨rfl, k + 1, by omega, by omega, by rw [hstep]; omega⟩, by omega⟩
    · have hz : q[k] = 0 := by
        have : q[k]? = some 0 := by
          rw [← hq, List.getElem?_append_right (by omega), List.getElem?_replicate, if_pos (by omega)]
        rw [List.getElem?_eq_getElem hk1] at this
        exact Option.some.inj this
      rw [hz] at hstep
      rw [wrap64 (n := (N : Int) * 256) (by omega) (by omega), wrap64 (n := (k : Int) + 1) (by omega) (by omega)]
      refine ⟨⟨rfl, k + 1, by omega, by omega, by rw [hstep]; simp⟩, by omega⟩
  · have hk' : k = 4 := by omega
    subst hk'
    rw [hpad, hlen]
    have key : ∀ (v : Bool), lenok l = v → K v h' := fun v hv => hv ▸ hk
    unfold lenok at key
    generalize lenv l = N at key ⊢
    have h5 : l.length = 0 ∨ l.length = 1 ∨ l.length = 2 ∨ l.length = 3 ∨ l.length = 4 := by omega
    rcases h5 with h5 | h5 | h5 | h5 | h5
    · rw [h5] at key ⊢
      refine iteP_true (bindB_intro (key _ ?_))
      rw [if_pos (by omega), Bool.eq_iff_iff]; simp; omega
    · rw [h5] at key ⊢
      refine iteP_true (bindB_intro (key _ ?_))
      rw [if_pos (by omega), Bool.eq_iff_iff]; simp; omega
    · rw [h5] at key ⊢
      refine iteP_true (bindB_intro (key _ ?_))
      rw [if_pos (by omega), Bool.eq_iff_iff]; simp; omega
    · rw [h5] at key ⊢
      refine iteP_true (bindB_intro (key _ ?_))
      rw [if_neg (by omega), if_pos rfl, Bool.eq_iff_iff]; simp; omega
    · rw [h5] at key ⊢
      refine iteP_false (iteP_dec (fun h6 => bindB_intro (key _ ?_)) (fun h6 => key _ ?_))
      · rw [if_neg (by omega), if_neg (by omega), Bool.eq_iff_iff]; simp at h6 ⊢; omega
      · rw [if_neg (by omega), if_neg (by omega)]; simp at h6 ⊢; omega

theorem lenok_take (l : List UInt8) : lenok (l.take 4) = lenok l := by
  have e : lenv (l.take 4) = lenv l := by unfold lenv; rw [List.take_take]; simp
  unfold lenok
  rw [e, List.length_take]
  rcases Nat.lt_or_ge l.length 4 with h | h
  · rw [Nat.min_eq_right (by omega)]
  · rw [Nat.min_eq_left h, if_neg (by omega), if_neg (by omega), if_neg (by omega), if_neg (by omega)]

/-- a length below 65536 lies in its last two bytes -/
theorem lenv_two {l : List UInt8} (h : ¬ l.length < 4) (hv : lenv l < 65536) {x y : UInt8} (hx : l[2]? = some x) (hy : l[3]? = some y) : lenv l = x.toNat * 256 + y.toNat := by
  match l, h, hx, hy with
  | a :: b :: c :: d :: r, _, hx, hy =>
    simp at hx hy
    subst hx hy
    have e : lenv (a :: b :: c :: d :: r) = ((a.toNat * 256 + b.toNat) * 256 + c.toNat) * 256 + d.toNat := by simp [lenv]
    rw [e] at hv ⊢
    omega

theorem RSplit2_spec {b : Sl} {all : List UInt8} {h : Heap} {K : Sl → Int → Int → Heap → Prop} (hb : Bytes h b all) (hsz : all.length ≤ 1099511627776)
    (hk : ∀ out h', (∃ ss : List Sl, Own h' h.size out 1 (ss.map slV) ∧ ss.length = (splitA all).1.length ∧ ∀ (i : Nat) (x : Sl) (l : List UInt8), ss[i]? = some x → (splitA all).1[i]? = some l → Bytes h x l ∧ ∀ k, x.blk = some k → b.blk = some k) → Ext h h' → K out ((splitA all).2.1 : Nat) (splitA all).2.2 h') : m_spillwayref18_Split b K h := by
  unfold m_spillwayref18_Split g_spillwayref18_Split
  have hlen := hb.length
  have hcap := hb.cap
  have hbig := hb.big
  refine bindI_intro (bindI_intro (bindI_intro ?_))
  refine loopM_intro (fun p h' => ∃ (k : Nat) (ss : List Sl) (ls : List (List UInt8)), p.2.1 = (k : Int) ∧ k ≤ all.length ∧ Ext h h' ∧ Own h' h.size p.1 1 (ss.map slV) ∧ ss.length = ls.length ∧
    (∀ (i : Nat) (x : Sl) (l : List UInt8), ss[i]? = some x → ls[i]? = some l → Bytes h x l ∧ ∀ k, x.blk = some k → b.blk = some k) ∧ ls.length ≤ k ∧
    splitA all = (ls ++ (splitA (all.drop k)).1, k + (splitA (all.drop k)).2.1, (splitA (all.drop k)).2.2)) (fun p _ => all.length - p.2.1.toNat)
    ⟨0, [], [], rfl, Nat.zero_le _, Ext.refl h, Own.nil h _ 1, rfl, by simp, by simp, by simp⟩ ?_
  rintro ⟨out, i, u⟩ h' ⟨k, ss, ls, hi, hkl, hext, hown, hsl, hrows, hlsk, hcut⟩
  dsimp only at hi hown
  subst hi
  dsimp only
  have hRows : ∃ ss : List Sl, Own h' h.size out 1 (ss.map slV) ∧ ss.length = ls.length ∧ ∀ (i : Nat) (x : Sl) (l : List UInt8), ss[i]? = some x → ls[i]? = some l → Bytes h x l ∧ ∀ k, x.blk = some k → b.blk = some k := ⟨ss, hown, hsl, hrows⟩
  refine iteP_dec (fun hlt => ?_) (fun hge => ?_)
  · have hk0 : ¬ (all.drop k).length = 0 := by simp; omega
    have hdl : (all.drop k).length = all.length - k := by simp
    refine Row.slc (hb.ext hext) (a := k) (b := all.length) (m := b.cap) rfl (by omega) rfl (by omega) (by omega) (by omega) (Nat.le_refl _) ?_
    intro s hs _ _ _
    have hs' : Bytes h' s (all.drop k) := by
      have e : ((all.map bv).drop k).take (all.length - k) = (all.drop k).map bv := by rw [List.map_drop, List.take_of_length_le (by simp)]
      rw [e] at hs; exact hs
    have hsl' := hs'.length
    have hsc := hs'.cap
    refine cutP_intro (fun p h'' => h'' = h' ∧ Bytes h' p.1 ((all.drop k).take 4)) ?_ ?_
    · rintro ⟨head, u2⟩ h'' ⟨rfl, hhead⟩
      dsimp only at hhead ⊢
      have hhl := hhead.length
      rw [List.length_take] at hhl
      refine could_spec hhead (by rw [List.length_take]; omega) ?_
      rw [lenok_take]
      refine ⟨fun hbad => bindI_intro (bindI_intro ?_), fun hgood => ?_⟩
      · have hbad' : lenok (all.drop k) = false := by simpa using hbad
        rw [splitA_bad hk0 hbad'] at hcut
        rw [hcut] at hk
        simp only [List.append_nil] at hk
        exact hk out h'' hRows hext
      · have hgood' : lenok (all.drop k) = true := by simpa using hgood
        have hend : (all.drop k).length < 4 ∨ (all.drop k).length - 4 < lenv (all.drop k) → K out (k : Int) 24 h'' := fun h9 => by
          rw [splitA_end hk0 hgood' h9] at hcut
          rw [hcut] at hk
          simp only [List.append_nil] at hk
          exact hk out h'' hRows hext
        refine iteP_dec (fun h4 => bindI_intro (bindI_intro (hend (by omega)))) (fun h4 => ?_)
        have h4' : ¬ (all.drop k).length < 4 := by omega
        have hpos := lenok_pos h4' hgood'
        have hx2 : (all.drop k)[2]? = some (all.drop k)[2] := List.getElem?_eq_getElem (by omega)
        have hx3 : (all.drop k)[3]? = some (all.drop k)[3] := List.getElem?_eq_getElem (by omega)
        have two := lenv_two h4' (by omega) hx2 hx3
        have t2 : ((all.drop k).take 4)[2]? = some (all.drop k)[2] := by rw [List.getElem?_take, if_pos (by omega)]; exact hx2
        have t3 : ((all.drop k).take 4)[3]? = some (all.drop k)[3] := by rw [List.getElem?_take, if_pos (by omega)]; exact hx3
        generalize (all.drop k)[2] = x at *
        generalize (all.drop k)[3] = y at *
        have hx8 := x.toNat_lt
        have hy8 := y.toNat_lt
        refine Bytes.idx hhead (n := 2) rfl t2 ⟨by omega, ?_⟩
        refine Bytes.idx hhead (n := 3) rfl t3 (bindI_intro ?_)
        rw [wrap64 (n := ((x.toNat : Nat) : Int)) (by omega) (by omega), or_shift _ _ (by omega) hy8, ← two]
        rw [wrap64 (n := (b.len : Int) - (k : Int)) (by omega) (by omega), wrap64 (n := (4 : Int) + (lenv (all.drop k) : Int)) (by omega) (by omega)]
        refine iteP_dec (fun h5 => bindI_intro (bindI_intro (hend (by omega)))) (fun h5 => ?_)
        have h9 : ¬ ((all.drop k).length < 4 ∨ (all.drop k).length - 4 < lenv (all.drop k)) := by omega
        rw [splitA_one hk0 hgood' h9] at hcut
        clear two
        generalize lenv (all.drop k) = n at *
        rw [wrap64 (n := (k : Int) + 4) (by omega) (by omega), wrap64 (n := (k : Int) + 4 + (n : Int)) (by omega) (by omega)]
        refine Row.slc hb (a := k + 4) (b := k + 4 + n) (m := b.cap) (by omega) (by omega) (by omega) (by omega) (by omega) (by omega) (Nat.le_refl _) ?_
        intro p1 hp1 _ _ hp1b
        have hp1' : Bytes h p1 (((all.drop k).drop 4).take n) := by
          have e : ((all.map bv).drop (k + 4)).take (k + 4 + n - (k + 4)) = (((all.drop k).drop 4).take n).map bv := by
            rw [List.map_take, List.drop_drop, List.map_drop]; congr 1; omega
          rw [e] at hp1; exact hp1
        refine newC_intro ?_
        have hext4 := Ext.push h'' (.cells [slV p1].toArray 40)
        have hrow : Row (h''.push (.cells [slV p1].toArray 40)) ⟨some ⟨h''.size, 0, none⟩, 1, 1⟩ 1 [slV p1] := (Own.newC (h := h'') (cells := [slV p1]) (t := 40) (size := 1) (n := 1) rfl (by decide)).row
        refine hrow.rd ?_
        have hown2 := hown.congr (h' := h''.push (.cells [slV p1].toArray 40)) fun k _ hl _ => hext4.old k hl
        have hol := hown.len
        simp only [List.length_map, Nat.mul_one] at hol
        refine Own.app hown2 (by simp) rfl rfl (by omega) (by omega) (by have := hext.size; simp; omega) ?_
        intro out' h5' ho5 hl5 hu5 hblk5
        have hext5 : Ext h h5' := (hext.trans hext4).then hu5 fun k hk1 => (hown2.lt hk1).1
        rw [wrap64 (n := (k : Int) + (4 + (n : Int))) (by omega) (by omega)]
        refine bindI_intro ⟨⟨k + (4 + n), ss ++ [p1], ls ++ [((all.drop k).drop 4).take n], by omega, by omega, hext5, by rw [List.map_append]; exact ho5, by simp [hsl], ?_, by simp; omega, ?_⟩, by omega⟩
        · intro i y m hy hm
          rcases Nat.lt_or_ge i ss.length with hi | hi
          · rw [List.getElem?_append_left hi] at hy
            rw [List.getElem?_append_left (by omega)] at hm
            exact hrows i y m hy hm
          · rw [List.getElem?_append_right hi] at hy
            rw [List.getElem?_append_right (by omega), ← hsl] at hm
            have hi0 : i - ss.length = 0 := by
              rcases Nat.eq_zero_or_pos (i - ss.length) with h | h
              · exact h
              · rw [List.getElem?_eq_none (by simp; omega)] at hy; cases hy
            rw [hi0] at hy hm
            simp only [List.getElem?_cons_zero, Option.some.injEq] at hy hm
            subst hy hm
            exact ⟨hp1', hp1b⟩
        · rw [hcut, List.drop_drop]
          simp
          omega
    · refine iteP_dec (fun h5 => ?_) (fun h5 => ⟨rfl, ?_⟩)
      · refine Row.slc hs' (a := 0) (b := 4) (m := s.cap) rfl rfl rfl (by omega) (by omega) (by omega) (Nat.le_refl _) ?_
        intro hd hhd _ _ _
        refine ⟨rfl, ?_⟩
        have e : ((((all.drop k).map bv).drop 0).take (4 - 0)) = ((all.drop k).take 4).map bv := by rw [List.map_take, List.drop_zero]
        rw [e] at hhd
        exact hhd
      · have : (all.drop k).take 4 = all.drop k := List.take_of_length_le (by omega)
        rw [this]
        exact hs'
  · have hk9 : k = all.length := by omega
    rw [hk9, splitA_nil (all := all.drop all.length) (by simp)] at hcut
    rw [hcut] at hk
    simp only [List.append_nil, Nat.add_zero] at hk
    refine bindI_intro (bindI_intro ?_)
    rw [hk9]
    exact hk out h' hRows hext

theorem RSplit_spec {b : Sl} {all : List UInt8} {h : Heap} {K : Sl → Int → Int → Heap → Prop} (hb : Bytes h b all) (hsz : all.length ≤ 1099511627776)
    (hk : ∀ out h', RowsB h' out (splitA all).1 → Ext h h' → K out ((splitA all).2.1 : Nat) (splitA all).2.2 h') : m_spillwayref18_Split b K h :=
  RSplit2_spec hb hsz fun out h' ⟨ss, h1, h2, h3⟩ hext => hk out h' ⟨ss, h1.row, h2, fun i x l hx hl => (h3 i x l hx hl).1.ext hext⟩ hext

theorem Reset_spec {h : Heap} {b : Nat} {S : Nat → Prop} {st : List UInt8} {br : Bool} {K : Heap → Prop} (hr : IsG 89 h b S st br)
    (hk : ∀ h', IsG 89 h' b (fun _ => False) [] false → Upd (· = b) h h' → K h') : m_frame_Reader_Reset (some ⟨b, 0, none⟩) K h := by
  unfold m_frame_Reader_Reset g_frame_Reader_Reset
  obtain ⟨s, hb, _⟩ := hr.cells
  refine iteP_true (deref_some (st_intro hb (by simp) rfl ?_))
  have hb2 : (h.put b 0 (.slice none 0 0))[b]? = some (.cells #[slV ⟨none, 0, 0⟩, .bool br] 89 (0, 0)) := by rw [put_block hb]; rfl
  refine deref_some (st_intro hb2 (by simp) rfl ?_)
  refine hk _ ⟨⟨none, 0, 0⟩, by rw [put_block hb2]; rfl, Row.nil _ 1, by simp [Sl.blk], fun h => by cases h⟩ ((Upd.put h b 0 _).trans (Upd.put _ b 1 _))

/-- a reader that was forked: how many bytes it holds, and whether it is broken -/
structure IsF (T : TypeId) (h : Heap) (b n : Nat) (br : Bool) : Prop where
  cells : ∃ s : Sl, h[b]? = some (.cells #[slV s, .bool br] T (0, 0)) ∧ s.len = n

theorem IsF.upd {T : TypeId} {h h' : Heap} {b n : Nat} {br : Bool} {U : Nat → Prop} (hr : IsF T h b n br) (hu : Upd U h h') (hb : ¬ U b) : IsF T h' b n br := by
  obtain ⟨s, h1, h2⟩ := hr.cells
  refine ⟨s, ?_, h2⟩
  rcases Nat.lt_or_ge b h.size with hl | hl
  · rw [hu.old b hl hb]; exact h1
  · rw [Array.getElem?_eq_none hl] at h1; cases h1

theorem IsF.ext {T : TypeId} {h h' : Heap} {b n : Nat} {br : Bool} (hr : IsF T h b n br) (he : Ext h h') : IsF T h' b n br := hr.upd (U := fun _ => False) (he.upd _) id

theorem IsF.cell0 {T : TypeId} {h : Heap} {b n : Nat} {br : Bool} (hr : IsF T h b n br) {K : Sl → Prop} (hk : ∀ s : Sl, s.len = n → K s) : ldL h b 0 K := by
  obtain ⟨s, hb, hs⟩ := hr.cells
  exact ⟨s, by rw [cell_block hb]; rfl, hk s hs⟩

theorem IsF.cell1 {T : TypeId} {h : Heap} {b n : Nat} {br : Bool} (hr : IsF T h b n br) {K : Bool → Prop} (hk : K br) : ldB h b 1 K := by
  obtain ⟨s, hb, hs⟩ := hr.cells
  exact ⟨br, by rw [cell_block hb]; rfl, hk⟩

theorem IsG.isF {T : TypeId} {h : Heap} {b : Nat} {S : Nat → Prop} {st : List UInt8} {br : Bool} (hr : IsG T h b S st br) : IsF T h b st.length br := by
  obtain ⟨s, hb, hs, _⟩ := hr.cells
  exact ⟨s, hb, hs.length⟩

theorem New2_spec {h : Heap} {K : Option Addr → Heap → Prop} (hk : ∀ h', IsG 89 h' h.size (fun _ => False) [] false → Ext h h' → h'.size = h.size + 1 → K (some ⟨h.size, 0, none⟩) h') : m_frame_New K h := by
  unfold m_frame_New g_frame_New
  refine newC_intro (hk _ ⟨⟨none, 0, 0⟩, push_new, Row.nil _ 1, by simp [Sl.blk], fun h => by cases h⟩ (Ext.push _ _) (by simp))

theorem cutA_split : ∀ (n : Nat) (all : List UInt8), all.length ≤ n → cutA all = if (splitA all).2.2 = 50 ∧ 4 ≤ (all.drop (splitA all).2.1).length then ((splitA all).1, true, []) else ((splitA all).1, false, all.drop (splitA all).2.1)
  | n, all, hn => by
    by_cases h0 : all.length = 0
    · have : all = [] := List.eq_nil_of_length_eq_zero h0
      subst this
      rw [splitA_nil rfl, cutA_short (by simp)]
      rfl
    · cases h2 : lenok all with
      | false =>
        rw [splitA_bad h0 h2]
        by_cases h4 : all.length < 4
        · rw [cutA_short h4, if_neg (by simp; omega)]
          rfl
        · rw [cutA_bad h4 h2, if_pos ⟨rfl, by simp; omega⟩]
      | true =>
        by_cases h3 : all.length < 4 ∨ all.length - 4 < lenv all
        · rw [splitA_end h0 h2 h3, if_neg (by simp)]
          by_cases h4 : all.length < 4
          · rw [cutA_short h4]; rfl
          · rw [cutA_wait h4 h2 (h3.resolve_left h4)]; rfl
        · have h4 : ¬ all.length < 4 := fun h => h3 (.inl h)
          have hp := lenok_pos h4 h2
          rw [splitA_one h0 h2 h3, cutA_one h4 h2 (fun h => h3 (.inr h))]
          cases n with
          | zero => omega
          | succ n =>
            rw [cutA_split n (all.drop (4 + lenv all)) (by simp; omega)]
            dsimp only
            rw [List.drop_drop]
            split <;> rfl

theorem cutA_ok : ∀ (n : Nat) (all : List UInt8), all.length ≤ n → ¬ (cutA all).2.2.length < 4 → lenok (cutA all).2.2 = true
  | n, all, hn => by
    by_cases h4 : all.length < 4
    · rw [cutA_short h4]; intro h; exact absurd h4 h
    · cases h2 : lenok all with
      | false => rw [cutA_bad h4 h2]; intro h; simp at h
      | true =>
        by_cases h3 : all.length - 4 < lenv all
        · rw [cutA_wait h4 h2 h3]; intro _; exact h2
        · rw [cutA_one h4 h2 h3]
          cases n with
          | zero => omega
          | succ n => exact cutA_ok n (all.drop (4 + lenv all)) (by simp; omega)

theorem splitA_le : ∀ (n : Nat) (all : List UInt8), all.length ≤ n → (splitA all).2.1 ≤ all.length
  | n, all, hn => by
    by_cases h0 : all.length = 0
    · rw [splitA_nil h0]; simp
    · cases h2 : lenok all with
      | false => rw [splitA_bad h0 h2]; simp
      | true =>
        by_cases h3 : all.length < 4 ∨ all.length - 4 < lenv all
        · rw [splitA_end h0 h2 h3]; simp
        · rw [splitA_one h0 h2 h3]
          cases n with
          | zero => omega
          | succ n =>
            have := splitA_le n (all.drop (4 + lenv all)) (by simp; omega)
            simp at this
            dsimp only
            omega

theorem RPut_spec {h : Heap} {b : Nat} {st : List UInt8} {br : Bool} {s : Sl} {l : List UInt8} {K : Sl → Int → Heap → Prop} (hr : IsG 91 h b (fun k => k ≠ b) st br) (hs : Bytes h s l) (hsz : st.length + l.length ≤ 1099511627776)
    (hk : ∀ out h', RowsB h' out (putS st br l).1 → IsG 91 h' b (fun k => h.size ≤ k ∧ k < h'.size) (putS st br l).2.2 (putS st br l).2.1 → Upd (· = b) h h' → K out (if (putS st br l).2.1 then 50 else 0) h') :
    m_spillwayref18_Reader_Put (some ⟨b, 0, none⟩) s K h := by
  unfold m_spillwayref18_Reader_Put g_spillwayref18_Reader_Put
  refine bindI_intro (iteP_false (deref_some (hr.cell1 ?_)))
  have hblt := hr.lt
  cases br with
  | true =>
    obtain ⟨q, h1, h2, h3, h4⟩ := hr.cells
    obtain ⟨rfl, h5⟩ := h4 rfl
    refine iteP_true (bindI_intro ?_)
    exact hk ⟨none, 0, 0⟩ h ⟨[], Row.nil _ 1, rfl, by simp⟩ ⟨⟨none, 0, 0⟩, h1, h2, by simp [Sl.blk], fun _ => ⟨rfl, h5⟩⟩ (Upd.refl _ h)
  | false =>
    obtain ⟨q, hq, hqs, hqb, _⟩ := hr.cells
    have hp : putS st false l = cutA (st ++ l) := rfl
    rw [hp, cutA_split _ (st ++ l) (Nat.le_refl _)] at hk
    have hle := splitA_le _ (st ++ l) (Nat.le_refl _)
    refine iteP_false (newC_intro (deref_some ?_))
    have hext1 := Ext.push h (.cells #[] 5)
    have hq1 := (hext1.old b hblt).trans hq
    refine ⟨q, (cell_block hq1).trans rfl, (hqs.ext hext1).rd ?_⟩
    have ho := Own.newC (h := h) (cells := []) (t := 5) (size := 1) (n := 0) rfl (by decide)
    have hql := hqs.length
    have hsl := hs.length
    refine Own.app ho (by simp [hql]) (oneCell_bv st) rfl (by simp; omega) (by simp; omega) (by simp) ?_
    intro t h2 ho2 hl2 hu2 hblk2
    have hext2 : Ext h h2 := hext1.then hu2 fun k hk => by simp [Sl.blk] at hk; omega
    simp only [Nat.zero_add] at hl2
    refine (hs.ext hext2).rd ?_
    rw [List.nil_append] at ho2
    refine Own.app ho2 (by simp [hsl]) (oneCell_bv l) rfl (by omega) (by omega) hext2.size ?_
    intro all h3 ho3 hl3 hu3 hblk3
    rw [← List.map_append] at ho3
    have hext3 : Ext h h3 := hext2.then hu3 fun k hk => (ho2.lt hk).1
    have hall : Bytes h3 all (st ++ l) := ho3.row
    have halen := hall.length
    have hacap := hall.cap
    have habig := hall.big
    simp only [List.length_append] at halen hle
    refine RSplit2_spec hall (by simp; omega) fun out h4 hrows hext4 => bindI_intro (bindI_intro ?_)
    generalize hsp : splitA (st ++ l) = sp at hk hle hrows
    obtain ⟨ls, at_, e⟩ := sp
    dsimp only at hk hle hrows ⊢
    have hext04 := hext3.trans hext4
    obtain ⟨ss, g1, g2, g3⟩ := hrows
    have hz3 := hext3.size
    have hz4 := hext4.size
    have hablk : ∀ k, all.blk = some k → h.size ≤ k ∧ k < h3.size := fun k hk => ho3.lt hk
    -- a store into the reader does not touch the rows
    have keep : ∀ h5, Upd (· = b) h4 h5 → RowsB h5 out ls := fun h5 hu => by
      refine ⟨ss, (g1.congr fun k _ hl hb => hu.old k hl (by omega)).row, g2, fun i x m hx hm => ?_⟩
      obtain ⟨q1, q2⟩ := g3 i x m hx hm
      refine (q1.ext hext4).congr fun k o hp _ hl => hu.old k hl ?_
      have := (hablk k (q2 k (by simp [Sl.blk, hp]))).1
      omega
    refine Row.slc (hall.ext hext4) (a := at_) (b := st.length + l.length) (m := all.cap) rfl (by omega) rfl (by omega) (by omega) (by omega) (Nat.le_refl _) ?_
    intro r hr1 hrl _ hrb
    have hr1' : Bytes h4 r ((st ++ l).drop at_) := by
      have e : (((st ++ l).map bv).drop at_).take (st.length + l.length - at_) = ((st ++ l).drop at_).map bv := by rw [List.map_drop, List.take_of_length_le (by simp)]
      rw [e] at hr1; exact hr1
    have hq4 := (hext04.old b hblt).trans hq
    refine deref_some (st_intro hq4 (by simp) rfl ?_)
    have hq5 : (h4.put b 0 (slV r))[b]? = some (.cells #[slV r, .bool false] 91 (0, 0)) := by rw [put_block hq4]; rfl
    have hu5 := Upd.put h4 b 0 (slV r)
    have hr5 : Bytes (h4.put b 0 (slV r)) r ((st ++ l).drop at_) := hr1'.congr fun k o hp _ hl => hu5.old k hl (by
      have := (hablk k (hrb k (by simp [Sl.blk, hp]))).1
      omega)
    have hrlen := hr1'.length
    have hsame : ∀ {e' : Int}, ¬ (e = 50 ∧ 4 ≤ ((st ++ l).drop at_).length) → e' = 0 → K out e' (h4.put b 0 (slV r)) := by
      rintro e' hne rfl
      rw [if_neg hne] at hk
      refine hk out _ (keep _ hu5) ⟨r, hq5, hr5, fun k hk => ?_, fun h => by cases h⟩ ((hext04.upd _).trans hu5)
      have := hablk k (hrb k hk)
      rw [put_size]
      omega
    refine ⟨fun he => ?_, fun he => ?_⟩
    · have he50 : e = 50 := by simpa using he
      refine deref_some ⟨r, (cell_block hq5).trans rfl, ?_⟩
      refine iteP_dec (fun h4' => ?_) (fun h4' => bindI_intro (hsame (by omega) rfl))
      have hcond : e = 50 ∧ 4 ≤ ((st ++ l).drop at_).length := ⟨he50, by omega⟩
      rw [if_pos hcond] at hk
      refine deref_some (st_intro hq5 (by simp) rfl ?_)
      have hq6 : ((h4.put b 0 (slV r)).put b 0 (.slice none 0 0))[b]? = some (.cells #[slV ⟨none, 0, 0⟩, .bool false] 91 (0, 0)) := by rw [put_block hq5]; rfl
      refine deref_some (st_intro hq6 (by simp) rfl (bindI_intro ?_))
      have hu7 := (hu5.trans (Upd.put _ b 0 (.slice none 0 0))).trans (Upd.put _ b 1 (.bool true))
      refine hk out _ (keep _ hu7) ⟨⟨none, 0, 0⟩, (put_block hq6).trans rfl, Row.nil _ 1, by simp [Sl.blk], fun _ => ⟨rfl, rfl⟩⟩ ((hext04.upd _).trans hu7)
    · have he50 : e ≠ 50 := by simpa using he
      exact bindI_intro (hsame (fun h => he50 h.1) rfl)

def RowsH (h : Heap) (base : Nat) (s : Sl) (ll : List (List UInt8)) : Prop := ∃ ss : List Sl, Row h s 1 (ss.map slV) ∧ ss.length = ll.length ∧ (∀ k, s.blk = some k → base ≤ k ∧ k < h.size) ∧ ∀ (i : Nat) (x : Sl) (l : List UInt8), ss[i]? = some x → ll[i]? = some l → Bytes h x l ∧ ∀ k, x.blk = some k → base ≤ k ∧ k < h.size

theorem RPut3_spec {h : Heap} {b : Nat} {st : List UInt8} {br : Bool} {s : Sl} {l : List UInt8} {K : Sl → Int → Heap → Prop} (hr : IsG 91 h b (fun k => k ≠ b) st br) (hs : Bytes h s l) (hsz : st.length + l.length ≤ 1099511627776)
    (hk : ∀ out h', RowsH h' h.size out (putS st br l).1 → IsG 91 h' b (fun k => h.size ≤ k ∧ k < h'.size) (putS st br l).2.2 (putS st br l).2.1 → Upd (· = b) h h' → K out (if (putS st br l).2.1 then 50 else 0) h') :
    m_spillwayref18_Reader_Put (some ⟨b, 0, none⟩) s K h := by
  unfold m_spillwayref18_Reader_Put g_spillwayref18_Reader_Put
  refine bindI_intro (iteP_false (deref_some (hr.cell1 ?_)))
  have hblt := hr.lt
  cases br with
  | true =>
    obtain ⟨q, h1, h2, h3, h4⟩ := hr.cells
    obtain ⟨rfl, h5⟩ := h4 rfl
    refine iteP_true (bindI_intro ?_)
    exact hk ⟨none, 0, 0⟩ h ⟨[], Row.nil _ 1, rfl, by simp [Sl.blk], by simp⟩ ⟨⟨none, 0, 0⟩, h1, h2, by simp [Sl.blk], fun _ => ⟨rfl, h5⟩⟩ (Upd.refl _ h)
  | false =>
    obtain ⟨q, hq, hqs, hqb, _⟩ := hr.cells
    have hp : putS st false l = cutA (st ++ l) := rfl
    rw [hp, cutA_split _ (st ++ l) (Nat.le_refl _)] at hk
    have hle := splitA_le _ (st ++ l) (Nat.le_refl _)
    refine iteP_false (newC_intro (deref_some ?_))
    have hext1 := Ext.push h (.cells #[] 5)
    have hq1 := (hext1.old b hblt).trans hq
    refine ⟨q, (cell_block hq1).trans rfl, (hqs.ext hext1).rd ?_⟩
    have ho := Own.newC (h := h) (cells := []) (t := 5) (size := 1) (n := 0) rfl (by decide)
    have hql := hqs.length
    have hsl := hs.length
    refine Own.app ho (by simp [hql]) (oneCell_bv st) rfl (by simp; omega) (by simp; omega) (by simp) ?_
    intro t h2 ho2 hl2 hu2 hblk2
    have hext2 : Ext h h2 := hext1.then hu2 fun k hk => by simp [Sl.blk] at hk; omega
    simp only [Nat.zero_add] at hl2
    refine (hs.ext hext2).rd ?_
    rw [List.nil_append] at ho2
    refine Own.app ho2 (by simp [hsl]) (oneCell_bv l) rfl (by omega) (by omega) hext2.size ?_
    intro all h3 ho3 hl3 hu3 hblk3
    rw [← List.map_append] at ho3
    have hext3 : Ext h h3 := hext2.then hu3 fun k hk => (ho2.lt hk).1
    have hall : Bytes h3 all (st ++ l) := ho3.row
    have halen := hall.length
    have hacap := hall.cap
    have habig := hall.big
    simp only [List.length_append] at halen hle
    refine RSplit2_spec hall (by simp; omega) fun out h4 hrows hext4 => bindI_intro (bindI_intro ?_)
    generalize hsp : splitA (st ++ l) = sp at hk hle hrows
    obtain ⟨ls, at_, e⟩ := sp
    dsimp only at hk hle hrows ⊢
    have hext04 := hext3.trans hext4
    obtain ⟨ss, g1, g2, g3⟩ := hrows
    have hz3 := hext3.size
    have hz4 := hext4.size
    have hablk : ∀ k, all.blk = some k → h.size ≤ k ∧ k < h3.size := fun k hk => ho3.lt hk
    -- a store into the reader does not touch the rows
    have keep : ∀ h5, Upd (· = b) h4 h5 → RowsH h5 h.size out ls := fun h5 hu => by
      have hs5 := hu.size
      refine ⟨ss, (g1.congr fun k _ hl hb => hu.old k hl (by omega)).row, g2, fun k hk => (by have := g1.lt hk; omega), fun i x m hx hm => ?_⟩
      obtain ⟨q1, q2⟩ := g3 i x m hx hm
      refine ⟨(q1.ext hext4).congr fun k o hp _ hl => hu.old k hl ?_, fun k hk => (by have := hablk k (q2 k hk); omega)⟩
      have := (hablk k (q2 k (by simp [Sl.blk, hp]))).1
      omega
    refine Row.slc (hall.ext hext4) (a := at_) (b := st.length + l.length) (m := all.cap) rfl (by omega) rfl (by omega) (by omega) (by omega) (Nat.le_refl _) ?_
    intro r hr1 hrl _ hrb
    have hr1' : Bytes h4 r ((st ++ l).drop at_) := by
      have e : (((st ++ l).map bv).drop at_).take (st.length + l.length - at_) = ((st ++ l).drop at_).map bv := by rw [List.map_drop, List.take_of_length_le (by simp)]
      rw [e] at hr1; exact hr1
    have hq4 := (hext04.old b hblt).trans hq
    refine deref_some (st_intro hq4 (by simp) rfl ?_)
    have hq5 : (h4.put b 0 (slV r))[b]? = some (.cells #[slV r, .bool false] 91 (0, 0)) := by rw [put_block hq4]; rfl
    have hu5 := Upd.put h4 b 0 (slV r)
    have hr5 : Bytes (h4.put b 0 (slV r)) r ((st ++ l).drop at_) := hr1'.congr fun k o hp _ hl => hu5.old k hl (by
      have := (hablk k (hrb k (by simp [Sl.blk, hp]))).1
      omega)
    have hrlen := hr1'.length
    have hsame : ∀ {e' : Int}, ¬ (e = 50 ∧ 4 ≤ ((st ++ l).drop at_).length) → e' = 0 → K out e' (h4.put b 0 (slV r)) := by
      rintro e' hne rfl
      rw [if_neg hne] at hk
      refine hk out _ (keep _ hu5) ⟨r, hq5, hr5, fun k hk => ?_, fun h => by cases h⟩ ((hext04.upd _).trans hu5)
      have := hablk k (hrb k hk)
      rw [put_size]
      omega
    refine ⟨fun he => ?_, fun he => ?_⟩
    · have he50 : e = 50 := by simpa using he
      refine deref_some ⟨r, (cell_block hq5).trans rfl, ?_⟩
      refine iteP_dec (fun h4' => ?_) (fun h4' => bindI_intro (hsame (by omega) rfl))
      have hcond : e = 50 ∧ 4 ≤ ((st ++ l).drop at_).length := ⟨he50, by omega⟩
      rw [if_pos hcond] at hk
      refine deref_some (st_intro hq5 (by simp) rfl ?_)
      have hq6 : ((h4.put b 0 (slV r)).put b 0 (.slice none 0 0))[b]? = some (.cells #[slV ⟨none, 0, 0⟩, .bool false] 91 (0, 0)) := by rw [put_block hq5]; rfl
      refine deref_some (st_intro hq6 (by simp) rfl (bindI_intro ?_))
      have hu7 := (hu5.trans (Upd.put _ b 0 (.slice none 0 0))).trans (Upd.put _ b 1 (.bool true))
      refine hk out _ (keep _ hu7) ⟨⟨none, 0, 0⟩, (put_block hq6).trans rfl, Row.nil _ 1, by simp [Sl.blk], fun _ => ⟨rfl, rfl⟩⟩ ((hext04.upd _).trans hu7)
    · have he50 : e ≠ 50 := by simpa using he
      exact bindI_intro (hsame (fun h => he50 h.1) rfl)

end Go.Proofs.YtcmedplogmjiiaaGreat
