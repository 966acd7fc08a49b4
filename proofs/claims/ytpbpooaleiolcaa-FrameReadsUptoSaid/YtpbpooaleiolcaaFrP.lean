/- What Split does, whatever the bytes. -/
import Derived.Test.YtpbpooaleiolcaaFrC
namespace Go.Proofs.Ytpbpooaleiolcaa
open Go Go.Fw

def splitA (all : List UInt8) : List (List UInt8) × Nat × Int :=
  if h0 : all.length = 0 then ([], 0, 0) else
  if lenok all = false then ([], 0, 50) else
  if h : all.length < 4 ∨ all.length - 4 < lenv all then ([], 0, 24) else
  ((all.drop 4).take (lenv all) :: (splitA (all.drop (4 + lenv all))).1, 4 + lenv all + (splitA (all.drop (4 + lenv all))).2.1, (splitA (all.drop (4 + lenv all))).2.2)
termination_by all.length
decreasing_by all_goals (simp; omega)

theorem splitA_nil {all : List UInt8} (h : all.length = 0) : splitA all = ([], 0, 0) := by rw [splitA, dif_pos h]
theorem splitA_bad {all : List UInt8} (h : ¬ all.length = 0) (h2 : lenok all = false) : splitA all = ([], 0, 50) := by rw [splitA, dif_neg h, if_pos h2]
theorem splitA_end {all : List UInt8} (h : ¬ all.length = 0) (h2 : lenok all = true) (h3 : all.length < 4 ∨ all.length - 4 < lenv all) : splitA all = ([], 0, 24) := by rw [splitA, dif_neg h, if_neg (by simp [h2]), dif_pos h3]
theorem splitA_one {all : List UInt8} (h : ¬ all.length = 0) (h2 : lenok all = true) (h3 : ¬ (all.length < 4 ∨ all.length - 4 < lenv all)) :
    splitA all = ((all.drop 4).take (lenv all) :: (splitA (all.drop (4 + lenv all))).1, 4 + lenv all + (splitA (all.drop (4 + lenv all))).2.1, (splitA (all.drop (4 + lenv all))).2.2) := by
  rw [splitA, dif_neg h, if_neg (by simp [h2]), dif_neg h3]

theorem splitA_fr : ∀ (ll : List (List UInt8)), (∀ l ∈ ll, good l) → splitA (fr ll) = (ll, (fr ll).length, 0)
  | [], _ => splitA_nil (by simp [fr])
  | l :: ll, h => by
    obtain ⟨h1, h2, h3, h4, h5, h6⟩ := fr_step (ll := ll) (h l (by simp))
    have hl : (fr (l :: ll)).length = 4 + l.length + (fr ll).length := by rw [fr_cons]; simp [header_len]; omega
    rw [splitA_one (by omega) h3 (by rw [h2]; omega), h2, h5, h6, splitA_fr ll fun x hx => h x (by simp [hx]), hl]

theorem Split_spec {b : Sl} {all : List UInt8} {h : Heap} {K : Sl → Int → Int → Heap → Prop} (hb : Bytes h b all) (hsz : all.length ≤ 1099511627776)
    (hk : ∀ out h', OwnRows h' h.size out (splitA all).1 → Ext h h' → K out ((splitA all).2.1 : Nat) (splitA all).2.2 h') : m_frame_Split b K h := by
  unfold m_frame_Split g_frame_Split
  have hlen := hb.length
  have hcap := hb.cap
  have hbig := hb.big
  refine bindI_intro (bindI_intro (bindI_intro ?_))
  refine loopM_intro (fun p h' => ∃ k : Nat, p.2.1 = (k : Int) ∧ k ≤ all.length ∧ Ext h h' ∧ (∀ j, p.1.blk = some j → h.size ≤ j) ∧ ∃ ls, OwnRows h' h.size p.1 ls ∧ ls.length ≤ k ∧
    splitA all = (ls ++ (splitA (all.drop k)).1, k + (splitA (all.drop k)).2.1, (splitA (all.drop k)).2.2)) (fun p _ => all.length - p.2.1.toNat)
    ⟨0, rfl, Nat.zero_le _, Ext.refl h, by simp [Sl.blk], [], OwnRows.nil h _, by simp, by simp⟩ ?_
  rintro ⟨out, i, u⟩ h' ⟨k, hi, hkl, hext, hob, ls, hls, hlsk, hcut⟩
  dsimp only at hi hls hob
  subst hi
  dsimp only
  refine iteP_dec (fun hlt => ?_) (fun hge => ?_)
  · have hk0 : ¬ (all.drop k).length = 0 := by simp; omega
    refine Row.slc (hb.ext hext) (a := k) (b := all.length) (m := b.cap) rfl (by omega) rfl (by omega) (by omega) (by omega) (Nat.le_refl _) ?_
    intro s hs _ _ _
    have hs' : Bytes h' s (all.drop k) := by
      have e : ((all.map bv).drop k).take (all.length - k) = (all.drop k).map bv := by rw [List.map_drop, List.take_of_length_le (by simp)]
      rw [e] at hs; exact hs
    refine length_spec hs' (bindI_intro (bindB_intro (bindB_intro ?_)))
    have hdl : (all.drop k).length = all.length - k := by simp
    refine ⟨fun hbad => bindI_intro (bindI_intro ?_), fun hgood => ?_⟩
    · have hbad' : lenok (all.drop k) = false := by simpa using hbad
      rw [splitA_bad hk0 hbad'] at hcut
      rw [hcut] at hk
      simp only [List.append_nil] at hk
      exact hk out h' hls hext
    · have hgood' : lenok (all.drop k) = true := by simpa using hgood
      have hv := lenv_lt (all.drop k)
      have hend : (all.drop k).length < 4 ∨ (all.drop k).length - 4 < lenv (all.drop k) → K out (k : Int) 24 h' := fun h9 => by
        rw [splitA_end hk0 hgood' h9] at hcut
        rw [hcut] at hk
        simp only [List.append_nil] at hk
        exact hk out h' hls hext
      rw [wrap64 (n := (b.len : Int) - (k : Int)) (by omega) (by omega)]
      refine iteP_dec (fun h4 => bindI_intro (bindI_intro (hend (by omega)))) (fun h4 => bindB_intro ?_)
      rw [wrap64 (n := (b.len : Int) - (k : Int) - 4) (by omega) (by omega)]
      refine iteP_dec (fun h5 => bindI_intro (bindI_intro (hend (by omega)))) (fun h5 => ?_)
      have h9 : ¬ ((all.drop k).length < 4 ∨ (all.drop k).length - 4 < lenv (all.drop k)) := by omega
      have h4' : ¬ (all.drop k).length < 4 := by omega
      have hpos := lenok_pos h4' hgood'
      rw [splitA_one hk0 hgood' h9] at hcut
      generalize lenv (all.drop k) = n at *
      rw [wrap64 (n := (k : Int) + 4) (by omega) (by omega), wrap64 (n := (k : Int) + 4 + (n : Int)) (by omega) (by omega)]
      refine Row.slc (hb.ext hext) (a := k + 4) (b := k + 4 + n) (m := k + 4 + n) (by omega) (by omega) (by omega) (by omega) (by omega) (Nat.le_refl _) (by omega) ?_
      intro p1 hp1 _ _ _
      have hp1' : Bytes h' p1 (((all.drop k).drop 4).take n) := by
        have e : ((all.map bv).drop (k + 4)).take (k + 4 + n - (k + 4)) = (((all.drop k).drop 4).take n).map bv := by
          rw [List.map_take, List.drop_drop, List.map_drop]; congr 1; omega
        rw [e] at hp1; exact hp1
      refine Clone_spec hp1' (by simp; omega) fun p2 h3 hop2 hext3 _ => ?_
      refine newC_intro ?_
      have hext4 := Ext.push h3 (.cells [slV p2].toArray 29)
      have hrow : Row (h3.push (.cells [slV p2].toArray 29)) ⟨some ⟨h3.size, 0, none⟩, 1, 1⟩ 1 [slV p2] := (Own.newC (h := h3) (cells := [slV p2]) (t := 29) (size := 1) (n := 1) rfl (by decide)).row
      refine hrow.rd ?_
      obtain ⟨ss, g1, g2, g3, g4, g5⟩ := hls.rows
      have hext34 := hext3.trans hext4
      have g1' := g1.congr (h' := h3.push (.cells [slV p2].toArray 29)) fun k _ hl _ => hext34.old k hl
      have holen := hls.len
      refine Own.app g1' (by simp) rfl rfl (by omega) (by omega) (by have := hext.size; have := hext3.size; simp; omega) ?_
      intro out' h5 ho5 hl5 hu5 hblk5
      have hext5 : Ext h h5 := (hext.trans hext34).then hu5 fun k hk1 => by
        have := (g1.lt hk1).1; exact this
      rw [wrap64 (n := (4 : Int) + (n : Int)) (by omega) (by omega), wrap64 (n := (k : Int) + (4 + (n : Int))) (by omega) (by omega)]
      refine bindI_intro ⟨⟨k + (4 + n), by omega, by omega, hext5, ?_, ls ++ [((all.drop k).drop 4).take n], ?_, by simp; omega, ?_⟩, by omega⟩
      · intro j hj
        exact (ho5.lt hj).1
      · refine OwnRows.snoc (x := p2) (h1 := h3.push (.cells [slV p2].toArray 29)) hls hext34 ?_ ?_ ?_ hu5 hblk5
        · exact hop2.congr fun k _ hl _ => hext4.old k hl
        · exact hext.size
        · intro vs hv1 _
          have : vs = ss.map slV := by
            rcases hv1.at_ with ⟨hz1, hz2⟩ | ⟨k1, c1, e1, z1, z2, z3, z4, z5⟩
            · have a1 := hv1.len
              have a2 := g1.len
              have a3 := hv1.cap
              have b1 : vs = [] := List.eq_nil_of_length_eq_zero (by rw [a1]; omega)
              have b2 : ss.map slV = [] := List.eq_nil_of_length_eq_zero (by rw [a2]; omega)
              rw [b1, b2]
            · rcases g1.at_ with ⟨hz1, hz2⟩ | ⟨k2, c2, e2, y1, y2, y3, y4, y5⟩
              · rw [hz1] at z1; cases z1
              · rw [z1] at y1
                cases y1
                rw [z3] at y3
                cases y3
                rw [z5, y5]
          rw [this]
          exact ho5
      · rw [hcut, List.drop_drop]
        simp
        omega
  · have hk9 : k = all.length := by omega
    rw [hk9, splitA_nil (all := all.drop all.length) (by simp)] at hcut
    rw [hcut] at hk
    simp only [List.append_nil, Nat.add_zero] at hk
    refine bindI_intro (bindI_intro ?_)
    rw [hk9]
    exact hk out h' hls hext

end Go.Proofs.Ytpbpooaleiolcaa
