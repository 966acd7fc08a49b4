/- The frame's first law's parts: what must be whatever is asked. -/
import Derived.Test.YtpbpooaleiolcaaFrS
namespace Go.Proofs.Ytpbpooaleiolcaa
open Go Go.Fw

theorem cut_a : cutA [0, 0, 0, 2, 97] = ([], false, [0, 0, 0, 2, 97]) := cutA_wait (by decide) (by decide) (by decide)
theorem cut_b : cutA [0, 0, 0, 2, 97, 98] = ([[97, 98]], false, []) := by
  rw [cutA_one (by decide) (by decide) (by decide)]
  have e : lenv [0, 0, 0, 2, 97, 98] = 2 := by decide
  rw [e]
  have : cutA (List.drop (4 + 2) [0, 0, 0, 2, 97, 98]) = ([], false, []) := cutA_short (by decide)
  rw [this]
  rfl
theorem cut_c : cutA [0, 0, 0, 0] = ([], true, []) := cutA_bad (by decide) (by decide)

theorem IsR.ext {h h' : Heap} {b base : Nat} {st : List UInt8} {br : Bool} (hr : IsR h b base st br) (he : Ext h h') : IsR h' b base st br := by
  obtain ⟨s, h1, h2, h3⟩ := hr.cells
  exact ⟨s, by rw [he.old b hr.lt]; exact h1, h2.ext he, h3⟩

theorem Put_step {h : Heap} {b base : Nat} {st : List UInt8} {s : Sl} {l : List UInt8} {K : Sl → Int → Heap → Prop} (ls : List (List UInt8)) (br' : Bool) (st' : List UInt8) (e : Int) (hr : IsR h b base st false) (hs : Bytes h s l) (hsz : st.length + l.length ≤ 1099511627776)
    (hcut : cutA (st ++ l) = (ls, br', st')) (he : (if br' then 50 else 0) = e) (hk : ∀ out h', OwnRows h' h.size out ls → IsR h' b 0 st' br' → Upd (· = b) h h' → K out e h') :
    m_frame_Reader_Put (some ⟨b, 0, none⟩) s K h := by
  refine Put_spec hr hs hsz fun out h' h1 h2 h3 => ?_
  have e : putS st false l = (ls, br', st') := hcut
  rw [e] at h1 h2 ⊢
  dsimp only
  rw [he]
  exact hk out h' h1 (h2 0 (.inl (Nat.zero_le _))) h3

theorem live_spec {h : Heap} {K : Bool → Heap → Prop} (hk : ∀ h', Ext h h' → K true h') : m_spillwaylaw18_live K h := by
  unfold m_spillwaylaw18_live g_spillwaylaw18_live
  refine newM [97, 98] 2 rfl rfl (by omega) fun b1 h2 hab hext2 => ?_
  refine Frame_spec hab fun f h3 hf hext3 _ => ?_
  have e1 : frameE [97, 98] = 0 := by decide
  have e2 : frameB [97, 98] = [0, 0, 0, 2, 97, 98] := by decide
  rw [e1]
  rw [e2] at hf
  have hext03 := hext2.trans hext3
  refine bindI_intro (New_spec fun h4 hr hext4 hsz4 => ?_)
  have hext04 := hext03.trans hext4
  refine newB [0, 0, 0, 2, 97] 5 rfl rfl (by omega) fun b5 h5 hb5 hext5 _ => ?_
  have hext05 := hext04.trans hext5
  have hrb : h.size ≤ h3.size := hext03.size
  refine Put_step [] false [0, 0, 0, 2, 97] 0 ((hr 0).ext hext5) hb5 (by simp) cut_a rfl fun o6 h6 ho6 hr6 hu6 => ?_
  have hext06 := hext05.then hu6 fun k hk => by omega
  have old6 : ∀ k, k < h3.size → h6[k]? = h3[k]? := fun k hk => by
    rw [hu6.old k (by have := hext4.size; have := hext5.size; omega) (by omega), hext5.old k (by have := hext4.size; omega), hext4.old k hk]
  have ho6l := ho6.len
  simp only [List.length_nil] at ho6l
  refine bindI_intro (iteP_neg (by rw [ho6l]; rfl) ?_)
  refine Missing_spec hr6 (by simp) (iteP_neg (by decide) ?_)
  refine newB [98] 1 rfl rfl (by omega) fun b7 h7 hb7 hext7 _ => ?_
  refine Put_step [[97, 98]] false [] 0 (hr6.ext hext7) hb7 (by simp) cut_b rfl fun o8 h8 ho8 hr8 hu8 => ?_
  have hext08 := (hext06.trans hext7).then hu8 fun k hk => by omega
  refine bindI_intro ?_
  refine newB [0, 0, 0, 0] 4 rfl rfl (by omega) fun b9 h9 hb9 hext9 _ => ?_
  refine Put_step [] true [] 50 (hr8.ext hext9) hb9 (by simp) cut_c rfl fun o10 h10 ho10 hr10 hu10 => ?_
  have hext010 := (hext08.trans hext9).then hu10 fun k hk => by omega
  refine bindI_intro (iteP_pos rfl ?_)
  refine newB [0, 0, 0, 2, 97, 98] 6 rfl rfl (by omega) fun b11 h11 hb11 hext11 _ => ?_
  have hf11 : Bytes h11 f [0, 0, 0, 2, 97, 98] := by
    refine hf.row.congr fun k o hp _ hl => ?_
    have s1 := hext4.size
    have s2 := hext5.size
    have s3 := hu6.size
    have s4 := hext7.size
    have s5 := hu8.size
    have s6 := hext9.size
    have s7 := hu10.size
    rw [hext11.old k (by omega), hu10.old k (by omega) (by omega), hext9.old k (by omega), hu8.old k (by omega) (by omega), hext7.old k (by omega)]
    exact old6 k hl
  refine Same_spec hf11 hb11 (iteP_pos (by decide) ?_)
  refine iteP_pos rfl (iteP_pos rfl ?_)
  have ho8l := ho8.len
  refine iteP_pos (by rw [ho8l]; rfl) ?_
  have ho8' : OwnRows h11 h7.size o8 [[97, 98]] := by
    refine ho8.congr fun k hl hb => ?_
    have s1 := hext4.size
    have s2 := hext5.size
    have s3 := hu6.size
    have s4 := hext7.size
    have s5 := hu8.size
    have s6 := hext9.size
    have s7 := hu10.size
    rw [hext11.old k (by omega), hu10.old k (by omega) (by omega), hext9.old k (by omega)]
  refine OwnRows.idx ho8' (n := 0) rfl (l := [97, 98]) rfl fun x hx => ?_
  refine b2s_bytes hx (iteP_pos (strEq_self _) (iteP_pos rfl ?_))
  refine Broken_spec (hr10.ext hext11) (bindB_intro ?_)
  exact hk _ (hext010.trans hext11)

end Go.Proofs.Ytpbpooaleiolcaa
