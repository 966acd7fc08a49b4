/- FrameBounded's law, on its model. -/
import Derived.Test.YtpbpooaleiolcaaFrL
import Derived.Test.YtpbpooaleiolcaaArg
namespace Go.Proofs.Ytpbpooaleiolcaa
open Go Go.Fw

theorem cutA_inv : ∀ (n : Nat) (all : List UInt8), all.length ≤ n → (∀ l ∈ (cutA all).1, 1 ≤ l.length ∧ l.length ≤ 4096) ∧ (cutA all).2.2.length ≤ 4099 ∧ ((cutA all).2.1 = true → (cutA all).2.2 = []) ∧ (cutA all).1.length ≤ all.length
  | n, all, hn => by
    by_cases h1 : all.length < 4
    · rw [cutA_short h1]; exact ⟨by simp, by simp; omega, by simp, by simp⟩
    · cases h2 : lenok all with
      | false => rw [cutA_bad h1 h2]; exact ⟨by simp, by simp, by simp, by simp⟩
      | true =>
        have hp := lenok_pos h1 h2
        by_cases h3 : all.length - 4 < lenv all
        · rw [cutA_wait h1 h2 h3]; exact ⟨by simp, by simp; omega, by simp, by simp⟩
        · rw [cutA_one h1 h2 h3]
          cases n with
          | zero => omega
          | succ n =>
            obtain ⟨g1, g2, g3, g4⟩ := cutA_inv n (all.drop (4 + lenv all)) (by simp; omega)
            simp at g4
            refine ⟨?_, g2, g3, by simp; omega⟩
            intro l hl
            rcases List.mem_cons.1 hl with rfl | hl
            · simp; omega
            · exact g1 l hl

theorem putS_inv (st : List UInt8) (br : Bool) (l : List UInt8) (hst : st.length ≤ 4099) (hbr : br = true → st = []) :
    (∀ x ∈ (putS st br l).1, 1 ≤ x.length ∧ x.length ≤ 4096) ∧ (putS st br l).2.2.length ≤ 4099 ∧ ((putS st br l).2.1 = true → (putS st br l).2.2 = []) ∧ (br = true → (putS st br l).1 = [] ∧ (putS st br l).2.1 = true) ∧ (putS st br l).1.length ≤ st.length + l.length := by
  unfold putS
  cases br with
  | true => exact ⟨by simp, hst, fun _ => hbr rfl, fun _ => ⟨rfl, rfl⟩, by simp⟩
  | false =>
    obtain ⟨g1, g2, g3, g4⟩ := cutA_inv _ (st ++ l) (Nat.le_refl _)
    simp at g4
    exact ⟨g1, g2, g3, by simp, g4⟩

theorem mem_le_total {ll : List (List UInt8)} {k : Nat} {l : List UInt8} (h : ll[k]? = some l) : l.length + 1 ≤ total ll := by
  induction ll generalizing k with
  | nil => simp at h
  | cons x r ih =>
    cases k with
    | zero => simp at h; subst h; simp [total]
    | succ k =>
      have := ih (by simpa using h)
      simp only [total, List.map_cons, List.sum_cons] at this ⊢
      omega

theorem FrameBounded_true {pieces : Sl} {ll : List (List UInt8)} {h : Heap} {K : Bool → Heap → Prop} (hp : RowsB h pieces ll) (hb : total ll ≤ 1048576) (hk : ∀ h', Ext h h' → K true h') : m_spillwaylaw18_FrameBounded pieces K h := by
  unfold m_spillwaylaw18_FrameBounded g_spillwaylaw18_FrameBounded
  have hlen := hp.len
  refine live_spec fun h1 hext1 => iteP_false ?_
  refine New_spec fun h2 hr hext2 hsz2 => bindI_intro ?_
  have hext12 := hext1.trans hext2
  have hge : h.size ≤ h1.size := hext1.size
  have hcnt : ll.length ≤ 1048576 := by
    have : ll.length ≤ total ll := by
      unfold total
      have : ∀ (l : List (List UInt8)), l.length ≤ (l.map fun x => x.length + 1).sum := by
        intro l
        induction l with
        | nil => simp
        | cons x r ih => simp only [List.map_cons, List.sum_cons, List.length_cons]; omega
      exact this ll
    omega
  refine loopM_intro (fun s h' => ∃ (k : Nat) (st : List UInt8) (br : Bool), s.1 = (k : Int) ∧ k ≤ ll.length ∧ Ext h h' ∧ h1.size < h'.size ∧ IsR h' h1.size 0 st br ∧ st.length ≤ 4099 ∧ (br = true → st = []))
    (fun s _ => ll.length - s.1.toNat) ⟨0, [], false, rfl, Nat.zero_le _, hext12, by omega, hr 0, by simp, by simp⟩ ?_
  rintro ⟨i, u⟩ h3 ⟨k, st, br, hi, hkl, hext3, hsz3, hr3, hst, hbr⟩
  dsimp only at hi
  subst hi
  dsimp only
  refine iteP_dec (fun hlt => ?_) (fun hge' => hk _ hext3)
  have hk1 : k < ll.length := by omega
  have hl : ll[k]? = some ll[k] := List.getElem?_eq_getElem hk1
  have hll := mem_le_total hl
  generalize ll[k] = l at hl hll
  refine Broken_spec hr3 (bindB_intro ?_)
  refine RowsB.idx (hp.ext hext3) rfl hl fun x hx => ?_
  refine Put_spec hr3 hx (by omega) fun out h4 hout hr4 hu4 => bindI_intro ?_
  obtain ⟨p1, p2, p3, p4, p5⟩ := putS_inv st br l hst hbr
  have hr4' := hr4 0 (.inl (Nat.zero_le _))
  have hext4 : Ext h h4 := hext3.then hu4 fun k hk => by omega
  have hsz4 : h1.size < h4.size := by have := hu4.size; omega
  have hol := hout.len
  -- the rows
  refine cutP_intro (fun _ h' => h' = h4) ?_ ?_
  · rintro _ h' rfl
    refine bindI_intro (loopM_intro (fun s h5 => h5 = h' ∧ ∃ j : Nat, s.1 = (j : Int) ∧ j ≤ out.len) (fun s _ => out.len - s.1.toNat) ⟨rfl, 0, rfl, Nat.zero_le _⟩ ?_)
    rintro ⟨j', u'⟩ h5 ⟨rfl, j, hj, hjl⟩
    dsimp only at hj
    subst hj
    dsimp only
    have hlt40 : out.len ≤ 9223372036854775806 := by omega
    refine iteP_dec (fun hjlt => ?_) (fun hjge => ?_)
    · have hj1 : j < (putS st br l).1.length := by omega
      have hx2 : (putS st br l).1[j]? = some (putS st br l).1[j] := List.getElem?_eq_getElem hj1
      have hpay := p1 _ (List.getElem_mem hj1)
      refine OwnRows.idx hout rfl hx2 fun y hy => ?_
      have hyl := hy.length
      refine iteP_neg (by simp; omega) ?_
      refine OwnRows.idx hout rfl hx2 fun y hy => ?_
      have hyl := hy.length
      refine iteP_neg (by simp; omega) ?_
      refine bindI_intro ⟨⟨rfl, j + 1, ?_, by omega⟩, ?_⟩
      · rw [wrap64 (by omega) (by omega)]
        omega
      · rw [wrap64 (by omega) (by omega)]
        omega
    · refine bindI_intro ⟨⟨k + 1, _, _, ?_, by omega, hext4, hsz4, hr4', p2, p3⟩, ?_⟩
      · rw [wrap64 (by omega) (by omega)]
        omega
      · rw [wrap64 (by omega) (by omega)]
        omega
  · have hst4 : ((putS st br l).2.2.length : Int) ≤ 4099 := by omega
    have tail : m_frame_Reader_Left (some ⟨h1.size, 0, none⟩) (fun t24 h25 =>
        iteP (decide (t24 > 4099)) (K false h25) (
          m_frame_Reader_Left (some ⟨h1.size, 0, none⟩) (fun t26 h27 =>
            iteP (decide (t26 < 0)) (K false h27) (
              m_frame_Reader_Broken (some ⟨h1.size, 0, none⟩) (fun t28 h29 =>
                iteP t28 (
                  m_frame_Reader_Left (some ⟨h1.size, 0, none⟩) (fun t30 h31 =>
                    iteP (t30 != 0) (K false h31) (
                      iteP ((if (putS st br l).2.1 = true then (50 : Int) else 0) != 50) (K false h31) (h31 = h4))) h29) (
                  h29 = h4)) h27)) h25)) h4 := by
      refine Left_spec hr4' (iteP_neg (by simp; omega) ?_)
      refine Left_spec hr4' (iteP_neg (by simp) ?_)
      refine Broken_spec hr4' ?_
      refine ⟨fun hbt => ?_, fun _ => rfl⟩
      refine Left_spec hr4' ?_
      rw [p3 hbt, hbt]
      exact iteP_neg rfl (iteP_neg rfl rfl)
    refine ⟨fun hwas => ?_, fun _ => tail⟩
    obtain ⟨q1, q2⟩ := p4 hwas
    have hol0 : out.len = 0 := by rw [hol, q1]; rfl
    refine iteP_neg (by rw [hol0]; rfl) ?_
    refine iteP_neg (by rw [q2]; rfl) ?_
    refine Broken_spec hr4' (iteP_neg (by rw [q2]; rfl) ?_)
    exact tail

end Go.Proofs.Ytpbpooaleiolcaa
