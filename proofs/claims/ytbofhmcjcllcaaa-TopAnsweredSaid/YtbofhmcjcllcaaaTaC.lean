/- Cuts. (gathered by carve.py out of texts proved for other seats) -/
import Derived.Test.YtbofhmcjcllcaaaClG
namespace Go.Proofs.Ytbofhmcjcllcaaa
open Go Go.Fw

theorem cutA_inv : ∀ (n : Nat) (all : List UInt8), all.length ≤ n → (∀ l ∈ (cutA all).1, 1 ≤ l.length ∧ l.length ≤ 4096) ∧ (cutA all).2.2.length ≤ 4099 ∧ ((cutA all).2.1 = true → (cutA all).2.2 = []) ∧ (cutA all).1.length ≤ all.length
  | n, all, hn => by
    by_cases h1 : all.length < 4
    · rw [cutA_short h1]; exact ⟨by simp, by simp; omega, by simp, by simp⟩
    · cases h2 : lenok all with
      | false => rw [cutA_bad h1 h2]; exact ⟨by simp, by simp, by simp, by simp⟩
      | true =>
        have hp := lenok_pos h1 h2
        by_cases h3 : all.length - 4 < lenv all
        · rw [cutA_wait h1 h2 h3]; exact ⟨by simp, by simp; omega, by simp, by simp⟩
        · rw [cutA_one h1 h2 h3]
          cases n with
          | zero => omega
          | succ n =>
            obtain ⟨g1, g2, g3, g4⟩ := cutA_inv n (all.drop (4 + lenv all)) (by simp; omega)
            simp at g4
            refine ⟨?_, g2, g3, by simp; omega⟩
            intro l hl
            rcases List.mem_cons.1 hl with rfl | hl
            · simp; omega
            · exact g1 l hl

theorem putS_inv (st : List UInt8) (br : Bool) (l : List UInt8) (hst : st.length ≤ 4099) (hbr : br = true → st = []) :
    (∀ x ∈ (putS st br l).1, 1 ≤ x.length ∧ x.length ≤ 4096) ∧ (putS st br l).2.2.length ≤ 4099 ∧ ((putS st br l).2.1 = true → (putS st br l).2.2 = []) ∧ (br = true → (putS st br l).1 = [] ∧ (putS st br l).2.1 = true) ∧ (putS st br l).1.length ≤ st.length + l.length := by
  unfold putS
  cases br with
  | true => exact ⟨by simp, hst, fun _ => hbr rfl, fun _ => ⟨rfl, rfl⟩, by simp⟩
  | false =>
    obtain ⟨g1, g2, g3, g4⟩ := cutA_inv _ (st ++ l) (Nat.le_refl _)
    simp at g4
    exact ⟨g1, g2, g3, by simp, g4⟩

theorem lenv_app {a c : List UInt8} (h : ¬ a.length < 4) : lenv (a ++ c) = lenv a := by
  unfold lenv
  rw [List.take_append_of_le_length (by omega)]

theorem lenok_app {a c : List UInt8} (h : ¬ a.length < 4) : lenok (a ++ c) = lenok a := by
  unfold lenok
  have : (a ++ c).length = a.length + c.length := by simp
  rw [lenv_app h, if_neg (by omega), if_neg (by omega), if_neg (by omega), if_neg (by omega)]

/-- a stream in two pieces -/
theorem cutA_two : ∀ (n : Nat) (a c : List UInt8), a.length ≤ n → ((cutA a).2.1 = true → (cutA (a ++ c)).2.1 = true) ∧
    ((cutA a).2.1 = false → cutA (a ++ c) = ((cutA a).1 ++ (cutA ((cutA a).2.2 ++ c)).1, (cutA ((cutA a).2.2 ++ c)).2))
  | n, a, c, hn => by
    by_cases h1 : a.length < 4
    · rw [cutA_short h1]; simp
    · have h1' : ¬ (a ++ c).length < 4 := by simp; omega
      cases h2 : lenok a with
      | false =>
        have h2' : lenok (a ++ c) = false := by rw [lenok_app h1]; exact h2
        rw [cutA_bad h1 h2, cutA_bad h1' h2']; simp
      | true =>
        have h2' : lenok (a ++ c) = true := by rw [lenok_app h1]; exact h2
        have hp := lenok_pos h1 h2
        by_cases h3 : a.length - 4 < lenv a
        · rw [cutA_wait h1 h2 h3]; simp
        · have h3' : ¬ (a ++ c).length - 4 < lenv (a ++ c) := by rw [lenv_app h1]; simp; omega
          rw [cutA_one h1 h2 h3, cutA_one h1' h2' h3', lenv_app h1]
          have e1 : (a ++ c).drop (4 + lenv a) = a.drop (4 + lenv a) ++ c := by rw [List.drop_append_of_le_length (by omega)]
          have e2 : ((a ++ c).drop 4).take (lenv a) = (a.drop 4).take (lenv a) := by
            rw [List.drop_append_of_le_length (by omega), List.take_append_of_le_length (by simp; omega)]
          rw [e1, e2]
          cases n with
          | zero => omega
          | succ n =>
            obtain ⟨g1, g2⟩ := cutA_two n (a.drop (4 + lenv a)) c (by simp; omega)
            refine ⟨g1, fun hbr => ?_⟩
            have := g2 hbr
            rw [this]
            simp

theorem cutA_fr : ∀ (ll : List (List UInt8)), (∀ l ∈ ll, good l) → cutA (fr ll) = (ll, false, [])
  | [], _ => cutA_short (by simp [fr])
  | l :: ll, h => by
    obtain ⟨h1, h2, h3, h4, h5, h6⟩ := fr_step (ll := ll) (h l (by simp))
    rw [cutA_one h1 h3 (by rw [h2]; exact h4), h2, h5, h6, cutA_fr ll fun x hx => h x (by simp [hx])]

structure RowsO (h : Heap) (base : Nat) (s : Sl) (ll : List (List UInt8)) : Prop where
  rows : ∃ ss : List Sl, Own h base s 1 (ss.map slV) ∧ ss.length = ll.length ∧
    ∀ (i : Nat) (x : Sl) (l : List UInt8), ss[i]? = some x → ll[i]? = some l → Bytes h x l ∧ ∀ k, x.blk = some k → base ≤ k ∧ k < h.size ∧ s.blk ≠ some k

theorem RowsO.nil (h : Heap) (base : Nat) : RowsO h base ⟨none, 0, 0⟩ [] := ⟨[], Own.nil h base 1, rfl, by simp⟩

theorem RowsO.rowsB {h : Heap} {base : Nat} {s : Sl} {ll : List (List UInt8)} (ho : RowsO h base s ll) : RowsB h s ll := by
  obtain ⟨ss, h1, h2, h3⟩ := ho.rows
  exact ⟨ss, h1.row, h2, fun i x l hx hl => (h3 i x l hx hl).1⟩

theorem RowsO.len {h : Heap} {base : Nat} {s : Sl} {ll : List (List UInt8)} (ho : RowsO h base s ll) : s.len = ll.length := ho.rowsB.len

theorem RowsO.blk {h : Heap} {base : Nat} {s : Sl} {ll : List (List UInt8)} (ho : RowsO h base s ll) {k : Nat} (hk : s.blk = some k) : base ≤ k ∧ k < h.size := by
  obtain ⟨ss, h1, _⟩ := ho.rows
  exact h1.lt hk

theorem RowsO.upd {h h' : Heap} {base : Nat} {s : Sl} {ll : List (List UInt8)} {S : Nat → Prop} (ho : RowsO h base s ll) (hu : Upd S h h') (hs : ∀ k, S k → k < base) : RowsO h' base s ll := by
  obtain ⟨ss, h1, h2, h3⟩ := ho.rows
  have hkeep : ∀ k, k < h.size → base ≤ k → h'[k]? = h[k]? := fun k hk hb => hu.old k hk fun hS => by have := hs k hS; omega
  refine ⟨ss, h1.congr fun k _ hl hb => hkeep k hl hb, h2, fun i x l hx hl => ?_⟩
  obtain ⟨g1, g2⟩ := h3 i x l hx hl
  refine ⟨g1.congr fun k o hp _ hl => hkeep k hl (g2 k (by simp [Sl.blk, hp])).1, fun k hk => ?_⟩
  have := g2 k hk
  exact ⟨this.1, by have := hu.size; omega, this.2.2⟩

theorem OwnRows.rowsB {h : Heap} {base : Nat} {s : Sl} {ll : List (List UInt8)} (ho : OwnRows h base s ll) : RowsB h s ll := by
  obtain ⟨ss, h1, h2, h3, _⟩ := ho.rows
  exact ⟨ss, h1.row, h2, fun i x l hx hl => (h3 i x l hx hl).row⟩

/-- rows behind rows -/
theorem RowsO.app {h : Heap} {base b2 : Nat} {s t : Sl} {ll mm : List (List UInt8)} {elem : TypeId} {K : Sl → Heap → Prop} (ho : RowsO h base s ll) (ht : OwnRows h b2 t mm) (hb : base ≤ b2) (hb2 : b2 ≤ h.size) (hsb : ∀ k, s.blk = some k → k < b2)
    (hlen : ll.length + mm.length ≤ 5497558138880)
    (hk : ∀ s' h', RowsO h' base s' (ll ++ mm) → Upd (fun k => s.blk = some k) h h' → K s' h') :
    rdS t 1 h fun new => Fw.app elem 1 24 [Value.slice none 0 0] s t.len new h K := by
  obtain ⟨ss, h1, h2, h3⟩ := ho.rows
  obtain ⟨ts, g1, g2, g3, g4, g5⟩ := ht.rows
  have e1 := ho.len
  have e2 := ht.len
  refine g1.row.rd ?_
  refine Own.app h1 (by simp; omega) (oneCell_sl ts) rfl (by omega) (by omega) (by omega) fun s' h' ho' hl' hu hblk => ?_
  refine hk s' h' ⟨ss ++ ts, by rw [List.map_append]; exact ho', by simp [h2, g2], fun i x l hx hl => ?_⟩ hu
  have key : Bytes h x l ∧ ∀ k, x.blk = some k → base ≤ k ∧ k < h.size ∧ s.blk ≠ some k := by
    rcases Nat.lt_or_ge i ss.length with hi | hi
    · rw [List.getElem?_append_left hi] at hx
      rw [List.getElem?_append_left (by omega)] at hl
      exact h3 i x l hx hl
    · rw [List.getElem?_append_right hi] at hx
      rw [List.getElem?_append_right (by omega), ← h2] at hl
      have o := g3 _ x l hx hl
      refine ⟨o.row, fun k hk => ?_⟩
      have := o.lt hk
      exact ⟨by omega, this.2, fun hs => by have := hsb k hs; omega⟩
  refine ⟨key.1.congr fun k o hp _ hl => hu.old k hl (key.2 k (by simp [Sl.blk, hp])).2.2, fun k hk => ?_⟩
  obtain ⟨q1, q2, q3⟩ := key.2 k hk
  refine ⟨q1, by have := hu.size; omega, ?_⟩
  rcases hblk with e | e
  · rw [e]; exact q3
  · rw [e]; intro he; cases he; omega

/-- all the frames of payloads: the first that cannot be framed ends it -/
theorem Frames_spec {s : Sl} {ll : List (List UInt8)} {h : Heap} {K : Sl → Int → Heap → Prop} (hr : RowsB h s ll) (hb : total ll ≤ 1048576)
    (hbad : ∀ e h', (e = 5 ∨ e = 6) → Ext h h' → K ⟨none, 0, 0⟩ e h')
    (hk : ∀ out h', (∀ l ∈ ll, good l) → Own h' h.size out 1 ((fr ll).map bv) → Ext h h' → K out 0 h') : m_frame_Frames s K h := by
  unfold m_frame_Frames g_frame_Frames
  have hlen := hr.len
  have hcnt := total_count ll
  refine bindI_intro (loopM_intro (fun t h' => ∃ k : Nat, k ≤ ll.length ∧ t.2.1 = (k : Int) ∧ (∀ l ∈ ll.take k, good l) ∧ Ext h h' ∧ Own h' h.size t.1 1 ((fr (ll.take k)).map bv)) (fun t _ => ll.length - t.2.1.toNat) ⟨0, Nat.zero_le _, rfl, by simp, Ext.refl h, Own.nil h _ 1⟩ ?_)
  rintro ⟨out, i, u⟩ h' ⟨k, hkl, hi, hgood, hext, hown⟩
  dsimp only at hi hown
  subst hi
  dsimp only
  refine iteP_dec (fun hlt => ?_) (fun hge => bindI_intro ?_)
  · have hk1 : k < ll.length := by omega
    have hl : ll[k]? = some ll[k] := List.getElem?_eq_getElem hk1
    refine RowsB.idx (hr.ext hext) rfl hl fun x hx => ?_
    refine Frame_spec hx fun f h2 hf hext2 _ => bindI_intro ?_
    refine ⟨fun he => bindI_intro ?_, fun he => ?_⟩
    · refine hbad _ _ ?_ (hext.trans hext2)
      rcases frameE_cases ll[k] with h0 | h0
      · rw [h0.1] at he; cases he
      · exact h0
    · have hg : good ll[k] := by
        rcases frameE_cases ll[k] with h0 | h0
        · exact h0.2
        · rcases h0 with h0 | h0 <;> rw [h0] at he <;> cases he
      rw [frameB_good hg] at hf
      have hfl := hf.len
      have hol := hown.len
      have hll := mem_le_total hl
      have hfr := fr_len (ll.take k)
      have htk := total_take ll k
      simp only [List.length_map, List.length_append, header_len, Nat.mul_one] at hfl hol
      refine hf.row.rd ?_
      have hown2 := hown.congr (h' := h2) fun b _ hl _ => hext2.old b hl
      refine Own.app hown2 (by simp only [List.length_map, List.length_append, header_len, Nat.mul_one]; exact hfl) (oneCell_bv _) rfl (by omega) (by omega) (by have := hext.size; have := hext2.size; omega) fun s' h3 ho' _ hu _ => ?_
      refine ⟨⟨k + 1, by omega, ?_, ?_, (hext.trans hext2).then hu fun b hb => (hown2.lt hb).1, ?_⟩, ?_⟩
      · rw [wrap64 (by omega) (by omega)]
        omega
      · rw [List.take_succ_eq_append_getElem hk1]
        intro l hl
        rcases List.mem_append.1 hl with hl | hl
        · exact hgood l hl
        · obtain rfl : l = ll[k] := by simpa using hl
          exact hg
      · rw [List.take_succ_eq_append_getElem hk1, fr_snoc, List.map_append]
        exact ho'
      · rw [wrap64 (by omega) (by omega)]
        omega
  · have hfull : ll.take k = ll := List.take_of_length_le (by omega)
    rw [hfull] at hgood hown
    exact hk out h' hgood hown hext

end Go.Proofs.Ytbofhmcjcllcaaa
