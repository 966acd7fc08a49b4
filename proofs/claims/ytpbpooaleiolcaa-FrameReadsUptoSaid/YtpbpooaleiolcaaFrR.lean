/- What the reference's functions do: could, Frame, Frames, Split; and both Frames, whatever the payloads. -/
import Derived.Test.YtpbpooaleiolcaaFrH
namespace Go.Proofs.Ytpbpooaleiolcaa
open Go Go.Fw

theorem good_of_E {l : List UInt8} (h : frameE l = 0) : good l := by
  rcases frameE_cases l with h0 | h0 | h0
  · exact h0.2
  · rw [h0] at h; cases h
  · rw [h0] at h; cases h
theorem E_of_good {l : List UInt8} (h : good l) : frameE l = 0 := by
  unfold frameE good at *
  rw [if_neg (by omega), if_neg (by omega)]
def framesE : List (List UInt8) → Int
  | [] => 0
  | l :: r => if frameE l = 0 then framesE r else frameE l
def framesB (ll : List (List UInt8)) : List UInt8 := if framesE ll = 0 then fr ll else []
theorem framesE_good : ∀ (ll : List (List UInt8)), (∀ l ∈ ll, good l) → framesE ll = 0
  | [], _ => rfl
  | l :: r, h => by rw [framesE, if_pos (E_of_good (h l (by simp)))]; exact framesE_good r fun x hx => h x (by simp [hx])
theorem framesE_bad : ∀ (ll : List (List UInt8)) (k : Nat) (l : List UInt8), (∀ l ∈ ll.take k, good l) → ll[k]? = some l → frameE l ≠ 0 → framesE ll = frameE l
  | [], k, l, _, hk, _ => by simp at hk
  | x :: r, 0, l, _, hk, he => by
    simp at hk
    subst hk
    rw [framesE, if_neg he]
  | x :: r, k + 1, l, h, hk, he => by
    rw [framesE, if_pos (E_of_good (h x (by simp)))]
    exact framesE_bad r k l (fun y hy => h y (by simp [hy])) (by simpa using hk) he

theorem RFrame_spec {b : Sl} {l : List UInt8} {h : Heap} {K : Sl → Int → Heap → Prop} (hb : Bytes h b l)
    (hk : ∀ s h', Own h' h.size s 1 ((frameB l).map bv) → Ext h h' → (frameE l = 0 → s.blk ≠ none) → K s (frameE l) h') : m_spillwayref18_Frame b K h := by
  unfold m_spillwayref18_Frame g_spillwayref18_Frame
  have hlen := hb.length
  refine bindI_intro (bindI_intro (bindB_intro ?_))
  refine iteP_dec (fun h1 => bindI_intro ?_) (fun h1 => bindB_intro ?_)
  · have e1 : frameE l = 5 := by unfold frameE; rw [if_pos (by omega)]
    have e2 : frameB l = [] := by unfold frameB; rw [if_pos (by omega)]
    have := hk ⟨none, 0, 0⟩ h (by rw [e2]; exact Own.nil h _ 1) (Ext.refl h) (fun h => by rw [e1] at h; cases h)
    rw [e1] at this
    exact this
  · refine ⟨fun h2 => bindI_intro ?_, fun h2 => ?_⟩
    · simp at h2
      have e1 : frameE l = 6 := by unfold frameE; rw [if_neg (by omega), if_pos (by omega)]
      have e2 : frameB l = [] := by unfold frameB; rw [if_pos (by omega)]
      have := hk ⟨none, 0, 0⟩ h (by rw [e2]; exact Own.nil h _ 1) (Ext.refl h) (fun h => by rw [e1] at h; cases h)
      rw [e1] at this
      exact this
    · simp at h2
      have e1 : frameE l = 0 := by unfold frameE; rw [if_neg (by omega), if_neg (by omega)]
      have e2 : frameB l = header l.length ++ l := by unfold frameB; rw [if_neg (by omega)]
      refine ⟨by omega, newC_intro ?_⟩
      have hcells : [Value.int .u8 0, Value.int .u8 0, Value.int .u8 (IntKind.wrap .u8 (shrV .i64 (b.len : Int) 8)), Value.int .u8 (IntKind.wrap .u8 (b.len : Int))] = (header l.length).map bv := by
        rw [show (8 : Int) = ((8 : Nat) : Int) from rfl, shr_nat _ _ (by omega)]
        rw [bv_ofNat, bv_ofNat, hlen]
        have z1 : l.length / 16777216 = 0 := Nat.div_eq_of_lt (by omega)
        have z2 : l.length / 65536 = 0 := Nat.div_eq_of_lt (by omega)
        unfold header
        rw [z1, z2]
        rfl
      rw [hcells]
      have hext := Ext.push h (.cells ((header l.length).map bv).toArray 5)
      refine (hb.ext hext).rd ?_
      have ho := Own.newC (h := h) (cells := (header l.length).map bv) (t := 5) (size := 1) (n := 4) (by simp [header]) (by decide)
      refine Own.app ho (by simp [hlen]) (oneCell_bv l) rfl (by simp; omega) (by simp; omega) (by simp) ?_
      intro s' h' ho' hl' hu hblk
      have := hk s' h' (by rw [e2, List.map_append]; exact ho') (hext.then hu ?_) (fun _ => ?_)
      · rw [e1] at this
        exact bindI_intro this
      · intro k hk
        simp [Sl.blk] at hk
        omega
      · rcases hblk with h1 | h1 <;> rw [h1] <;> simp [Sl.blk]

/-- the frames -/
theorem FramesE_spec {s : Sl} {ll : List (List UInt8)} {h : Heap} {K : Sl → Int → Heap → Prop} (hr : RowsB h s ll) (hb : total ll ≤ 1048576)
    (hk : ∀ out h', Own h' h.size out 1 ((framesB ll).map bv) → Ext h h' → K out (framesE ll) h') : m_frame_Frames s K h := by
  unfold m_frame_Frames g_frame_Frames
  have hlen := hr.len
  have hcnt := total_count ll
  refine bindI_intro (loopM_intro (fun t h' => ∃ k : Nat, k ≤ ll.length ∧ t.2.1 = (k : Int) ∧ (∀ l ∈ ll.take k, good l) ∧ Ext h h' ∧ Own h' h.size t.1 1 ((fr (ll.take k)).map bv)) (fun t _ => ll.length - t.2.1.toNat) ⟨0, Nat.zero_le _, rfl, by simp, Ext.refl h, Own.nil h _ 1⟩ ?_)
  rintro ⟨out, i, u⟩ h' ⟨k, hkl, hi, hgood, hext, hown⟩
  dsimp only at hi hown
  subst hi
  dsimp only
  refine iteP_dec (fun hlt => ?_) (fun hge => bindI_intro ?_)
  · have hk1 : k < ll.length := by omega
    have hl : ll[k]? = some ll[k] := List.getElem?_eq_getElem hk1
    refine RowsB.idx (hr.ext hext) rfl hl fun x hx => ?_
    refine Frame_spec hx fun f h2 hf hext2 _ => bindI_intro ?_
    refine ⟨fun he => bindI_intro ?_, fun he => ?_⟩
    · have hne : frameE ll[k] ≠ 0 := by simpa using he
      have hE := framesE_bad ll k ll[k] hgood hl hne
      have hB : framesB ll = [] := by unfold framesB; rw [hE, if_neg hne]
      have := hk ⟨none, 0, 0⟩ h2 (by rw [hB]; exact Own.nil _ _ 1) (hext.trans hext2)
      rw [hE] at this
      exact this
    · have hg : good ll[k] := good_of_E (by simpa using he)
      rw [frameB_good hg] at hf
      have hfl := hf.len
      have hol := hown.len
      have hll := mem_le_total hl
      have hfr := fr_len (ll.take k)
      have htk := total_take ll k
      simp only [List.length_map, List.length_append, header_len, Nat.mul_one] at hfl hol
      refine hf.row.rd ?_
      have hown2 := hown.congr (h' := h2) fun b _ hl _ => hext2.old b hl
      refine Own.app hown2 (by simp only [List.length_map, List.length_append, header_len, Nat.mul_one]; exact hfl) (oneCell_bv _) rfl (by omega) (by omega) (by have := hext.size; have := hext2.size; omega) fun s' h3 ho' _ hu _ => ?_
      refine ⟨⟨k + 1, by omega, ?_, ?_, (hext.trans hext2).then hu fun b hb => (hown2.lt hb).1, ?_⟩, ?_⟩
      · first | omega | (dsimp only; rw [wrap64 (by omega) (by omega)]; omega) | (rw [wrap64 (by omega) (by omega)]; omega)
      · rw [List.take_succ_eq_append_getElem hk1]
        intro l hl
        rcases List.mem_append.1 hl with hl | hl
        · exact hgood l hl
        · obtain rfl : l = ll[k] := by simpa using hl
          exact hg
      · rw [List.take_succ_eq_append_getElem hk1, fr_snoc, List.map_append]
        exact ho'
      · first | omega | (dsimp only; rw [wrap64 (by omega) (by omega)]; omega) | (rw [wrap64 (by omega) (by omega)]; omega)
  · have hfull : ll.take k = ll := List.take_of_length_le (by omega)
    rw [hfull] at hgood hown
    have hE := framesE_good ll hgood
    have hB : framesB ll = fr ll := by unfold framesB; rw [hE, if_pos rfl]
    have := hk out h' (by rw [hB]; exact hown) hext
    rw [hE] at this
    exact this

/-- the reference's frames -/
theorem RFrames_spec {s : Sl} {ll : List (List UInt8)} {h : Heap} {K : Sl → Int → Heap → Prop} (hr : RowsB h s ll) (hb : total ll ≤ 1048576)
    (hk : ∀ out h', Own h' h.size out 1 ((framesB ll).map bv) → Ext h h' → K out (framesE ll) h') : m_spillwayref18_Frames s K h := by
  unfold m_spillwayref18_Frames g_spillwayref18_Frames
  have hlen := hr.len
  have hcnt := total_count ll
  refine bindI_intro (bindI_intro (loopM_intro (fun t h' => ∃ k : Nat, k ≤ ll.length ∧ t.2.1 = (k : Int) ∧ (∀ l ∈ ll.take k, good l) ∧ Ext h h' ∧ Own h' h.size t.1 1 ((fr (ll.take k)).map bv)) (fun t _ => ll.length - t.2.1.toNat) ⟨0, Nat.zero_le _, rfl, by simp, Ext.refl h, Own.nil h _ 1⟩ ?_))
  rintro ⟨out, i, u⟩ h' ⟨k, hkl, hi, hgood, hext, hown⟩
  dsimp only at hi hown
  subst hi
  dsimp only
  refine iteP_dec (fun hlt => ?_) (fun hge => bindI_intro ?_)
  · have hk1 : k < ll.length := by omega
    have hl : ll[k]? = some ll[k] := List.getElem?_eq_getElem hk1
    refine RowsB.idx (hr.ext hext) rfl hl fun x hx => ?_
    refine RFrame_spec hx fun f h2 hf hext2 _ => bindI_intro ?_
    refine ⟨fun he => bindI_intro ?_, fun he => ?_⟩
    · have hne : frameE ll[k] ≠ 0 := by simpa using he
      have hE := framesE_bad ll k ll[k] hgood hl hne
      have hB : framesB ll = [] := by unfold framesB; rw [hE, if_neg hne]
      have := hk ⟨none, 0, 0⟩ h2 (by rw [hB]; exact Own.nil _ _ 1) (hext.trans hext2)
      rw [hE] at this
      exact this
    · have hg : good ll[k] := good_of_E (by simpa using he)
      rw [frameB_good hg] at hf
      have hfl := hf.len
      have hol := hown.len
      have hll := mem_le_total hl
      have hfr := fr_len (ll.take k)
      have htk := total_take ll k
      simp only [List.length_map, List.length_append, header_len, Nat.mul_one] at hfl hol
      refine hf.row.rd ?_
      have hown2 := hown.congr (h' := h2) fun b _ hl _ => hext2.old b hl
      refine Own.app hown2 (by simp only [List.length_map, List.length_append, header_len, Nat.mul_one]; exact hfl) (oneCell_bv _) rfl (by omega) (by omega) (by have := hext.size; have := hext2.size; omega) fun s' h3 ho' _ hu _ => ?_
      refine bindI_intro ⟨⟨k + 1, by omega, ?_, ?_, (hext.trans hext2).then hu fun b hb => (hown2.lt hb).1, ?_⟩, ?_⟩
      · first | omega | (dsimp only; rw [wrap64 (by omega) (by omega)]; omega) | (rw [wrap64 (by omega) (by omega)]; omega)
      · rw [List.take_succ_eq_append_getElem hk1]
        intro l hl
        rcases List.mem_append.1 hl with hl | hl
        · exact hgood l hl
        · obtain rfl : l = ll[k] := by simpa using hl
          exact hg
      · rw [List.take_succ_eq_append_getElem hk1, fr_snoc, List.map_append]
        exact ho'
      · first | omega | (dsimp only; rw [wrap64 (by omega) (by omega)]; omega) | (rw [wrap64 (by omega) (by omega)]; omega)
  · have hfull : ll.take k = ll := List.take_of_length_le (by omega)
    rw [hfull] at hgood hown
    have hE := framesE_good ll hgood
    have hB : framesB ll = fr ll := by unfold framesB; rw [hE, if_pos rfl]
    have := hk out h' (by rw [hB]; exact hown) hext
    rw [hE] at this
    exact this

end Go.Proofs.Ytpbpooaleiolcaa
