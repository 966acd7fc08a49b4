/- A frame's reader. (gathered by carve.py out of texts proved for other seats) -/
import Derived.Test.YtbofhmcjcllcaaaClP
namespace Go.Proofs.Ytbofhmcjcllcaaa
open Go Go.Fw

/-- a reader at block b: what it has gathered, whether it is broken; its bytes lie in no block below 'base' -/
structure IsR (h : Heap) (b base : Nat) (st : List UInt8) (br : Bool) : Prop where
  cells : ∃ s : Sl, h[b]? = some (.cells #[slV s, .bool br] 108 (0, 0)) ∧ Bytes h s st ∧ (∀ k, s.blk = some k → base ≤ k ∧ k ≠ b) ∧ (br = true → s = ⟨none, 0, 0⟩ ∧ st = [])

theorem IsR.lt {h : Heap} {b base : Nat} {st : List UInt8} {br : Bool} (hr : IsR h b base st br) : b < h.size := by
  obtain ⟨s, hb, _⟩ := hr.cells
  rcases Nat.lt_or_ge b h.size with hl | hl
  · exact hl
  · rw [Array.getElem?_eq_none hl] at hb; cases hb

theorem IsR.cell0 {h : Heap} {b base : Nat} {st : List UInt8} {br : Bool} (hr : IsR h b base st br) {K : Sl → Prop} (hk : ∀ s, Bytes h s st → K s) : ldL h b 0 K := by
  obtain ⟨s, hb, hs, hn⟩ := hr.cells
  exact ⟨s, by rw [cell_block hb]; rfl, hk s hs⟩

theorem IsR.cell1 {h : Heap} {b base : Nat} {st : List UInt8} {br : Bool} (hr : IsR h b base st br) {K : Bool → Prop} (hk : K br) : ldB h b 1 K := by
  obtain ⟨s, hb, hs, hn⟩ := hr.cells
  exact ⟨br, by rw [cell_block hb]; rfl, hk⟩

theorem deref_some {b o : Nat} {K : Nat → Nat → Prop} (hk : K b o) : derefP (some ⟨b, o, none⟩) K := ⟨b, o, rfl, hk⟩

def missing (st : List UInt8) (br : Bool) : Int := if br then 0 else if st.length < 4 then 4 - st.length else 4 + lenv st - st.length

theorem Put_none {h : Heap} {b : Sl} {K : Sl → Int → Heap → Prop} (hk : K ⟨none, 0, 0⟩ 1 h) : m_frame_Reader_Put none b K h := iteP_true hk

theorem Reset_none {h : Heap} {K : Heap → Prop} (hk : K h) : m_frame_Reader_Reset none K h := iteP_false hk

def cutA (all : List UInt8) : List (List UInt8) × Bool × List UInt8 :=
  if h : all.length < 4 then ([], false, all) else
  if lenok all = false then ([], true, []) else
  if all.length - 4 < lenv all then ([], false, all) else
  ((all.drop 4).take (lenv all) :: (cutA (all.drop (4 + lenv all))).1, (cutA (all.drop (4 + lenv all))).2)
termination_by all.length
decreasing_by all_goals (simp; omega)

def putS (st : List UInt8) (br : Bool) (l : List UInt8) : List (List UInt8) × Bool × List UInt8 := if br then ([], true, st) else cutA (st ++ l)

theorem cutA_short {all : List UInt8} (h : all.length < 4) : cutA all = ([], false, all) := by
  rw [cutA, dif_pos h]

theorem cutA_bad {all : List UInt8} (h : ¬ all.length < 4) (h2 : lenok all = false) : cutA all = ([], true, []) := by
  rw [cutA, dif_neg h, if_pos h2]

theorem cutA_wait {all : List UInt8} (h : ¬ all.length < 4) (h2 : lenok all = true) (h3 : all.length - 4 < lenv all) : cutA all = ([], false, all) := by
  rw [cutA, dif_neg h, if_neg (by simp [h2]), if_pos h3]

theorem cutA_one {all : List UInt8} (h : ¬ all.length < 4) (h2 : lenok all = true) (h3 : ¬ all.length - 4 < lenv all) :
    cutA all = ((all.drop 4).take (lenv all) :: (cutA (all.drop (4 + lenv all))).1, (cutA (all.drop (4 + lenv all))).2) := by
  rw [cutA, dif_neg h, if_neg (by simp [h2]), if_neg h3]

theorem Put_spec {h : Heap} {b base : Nat} {st : List UInt8} {br : Bool} {s : Sl} {l : List UInt8} {K : Sl → Int → Heap → Prop} (hr : IsR h b base st br) (hs : Bytes h s l) (hsz : st.length + l.length ≤ 1099511627776)
    (hk : ∀ out h', OwnRows h' h.size out (putS st br l).1 → (∀ base', (base' ≤ h.size ∨ (putS st br l).2.1 = true) → IsR h' b base' (putS st br l).2.2 (putS st br l).2.1) → Upd (· = b) h h' → K out (if (putS st br l).2.1 then 50 else 0) h') :
    m_frame_Reader_Put (some ⟨b, 0, none⟩) s K h := by
  unfold m_frame_Reader_Put g_frame_Reader_Put
  simp only [bindI, bindB]
  refine iteP_false (deref_some (hr.cell1 ?_))
  have hblt := hr.lt
  cases br with
  | true =>
    refine iteP_true ?_
    have := hk ⟨none, 0, 0⟩ h (OwnRows.nil h _) (fun base' _ => ?_) (Upd.refl _ h)
    · exact this
    · obtain ⟨q, h1, h2, h3, h4⟩ := hr.cells
      obtain ⟨rfl, h5⟩ := h4 rfl
      exact ⟨⟨none, 0, 0⟩, h1, h2, by simp [Sl.blk], fun _ => ⟨rfl, h5⟩⟩
  | false =>
    refine iteP_false (deref_some ?_)
    obtain ⟨q, hq, hqs, hqb, _⟩ := hr.cells
    have hp : putS st false l = cutA (st ++ l) := rfl
    rw [hp] at hk
    refine ⟨q, by rw [cell_block hq]; rfl, ?_⟩
    refine Clone_spec hqs (by omega) fun s1 h1 ho1 hext1 _ => ?_
    refine (hs.ext hext1).rd ?_
    have hslen := hs.length
    have h1len : s1.len = st.length := Bytes.length ho1.row
    refine Own.app ho1 (by simp [hslen]) (oneCell_bv l) rfl (by simp; omega) (by omega) hext1.size ?_
    intro all0 h2 ho2 hl2 hu2 hblk2
    rw [← List.map_append] at ho2
    have hext2 : Ext h h2 := hext1.then hu2 fun k hk => (ho1.lt hk).1
    have hq2 : h2[b]? = some (.cells #[slV q, .bool false] 108 (0, 0)) := by rw [hext2.old b hblt]; exact hq
    -- the loop's relation
    let Rel : Sl × Sl × Unit → Heap → List UInt8 → Prop := fun p h' rest =>
      Bytes h' p.1 rest ∧ (∀ k, p.1.blk = some k → h.size ≤ k ∧ k < h'.size ∧ p.2.1.blk ≠ some k) ∧ Ext h h' ∧ ∃ ls, OwnRows h' h.size p.2.1 ls ∧ ls.length + rest.length ≤ st.length + l.length ∧ cutA (st ++ l) = (ls ++ (cutA rest).1, (cutA rest).2)
    refine cutP_intro (fun p h' => ∃ rest, Rel p h' rest ∧ (cutA rest) = ([], false, rest)) ?_ ?_
    · rintro ⟨all, out, u⟩ h' ⟨rest, ⟨hall, hallb, hext, ls, hls, hlen, hcut⟩, hrest⟩
      dsimp only at hall hallb hls ⊢
      rw [hrest] at hcut
      simp only [List.append_nil] at hcut
      have hq' : h'[b]? = some (.cells #[slV q, .bool false] 108 (0, 0)) := by rw [hext.old b hblt]; exact hq
      refine deref_some (st_intro hq' (by simp) rfl ?_)
      have hpb : (h'.put b 0 (slV all))[b]? = some (.cells #[slV all, .bool false] 108 (0, 0)) := by rw [put_block hq']; rfl
      rw [hcut] at hk
      refine hk out _ (hls.congr fun k hk1 hk2 => put_other (by omega)) ?_ ((hext.upd _).trans (Upd.put h' b 0 _))
      intro base' hb'
      refine ⟨all, hpb, ?_, ?_, by simp⟩
      · refine hall.congr fun k o hp _ _ => put_other ?_
        have := (hallb k (by simp [Sl.blk, hp])).1
        omega
      · intro k hk1
        have := (hallb k hk1).1
        rcases hb' with hb' | hb'
        · omega
        · cases hb'
    · refine loopM_intro (fun p h' => ∃ rest, Rel p h' rest) (fun p _ => p.1.len) ?_ ?_
      · refine ⟨st ++ l, ?_, ?_, hext2, [], OwnRows.nil h2 _, by simp, by simp⟩
        · exact ho2.row
        · intro k hk1
          exact ⟨(ho2.lt hk1).1, (ho2.lt hk1).2, by simp [Sl.blk]⟩
      · rintro ⟨all, out, u⟩ h' ⟨rest, hall, hallb, hext, ls, hls, hlen, hcut⟩
        dsimp only at hall hallb hls ⊢
        have hal := hall.length
        refine iteP_dec (fun h4 => ?_) (fun h4 => ?_)
        · have h4' : ¬ rest.length < 4 := by omega
          refine length_spec hall ?_
          refine ⟨fun hbad => ?_, fun hgood => ?_⟩
          · have hbad' : lenok rest = false := by simpa using hbad
            rw [cutA_bad h4' hbad'] at hcut
            simp only [List.append_nil] at hcut
            have hq' : h'[b]? = some (.cells #[slV q, .bool false] 108 (0, 0)) := by rw [hext.old b hblt]; exact hq
            refine deref_some (st_intro hq' (by simp) rfl ?_)
            have hq2 : (h'.put b 0 (.slice none 0 0))[b]? = some (.cells #[slV ⟨none, 0, 0⟩, .bool false] 108 (0, 0)) := by rw [put_block hq']; rfl
            refine deref_some (st_intro hq2 (by simp) rfl ?_)
            rw [hcut] at hk
            refine hk out _ (hls.congr fun k hk1 hk2 => ?_) ?_ (((hext.upd _).trans (Upd.put h' b 0 _)).trans (Upd.put _ b 1 _))
            · rw [put_other (by omega), put_other (by omega)]
            · intro base' _
              refine ⟨⟨none, 0, 0⟩, by rw [put_block hq2]; rfl, Row.nil _ 1, by simp [Sl.blk], fun _ => ⟨rfl, rfl⟩⟩
          · have hgood' : lenok rest = true := by simpa using hgood
            have hpos := lenok_pos h4' hgood'
            rw [hal, wrap64 (by omega) (by omega)]
            refine iteP_dec (fun h5 => ?_) (fun h5 => ?_)
            · refine ⟨rest, ⟨hall, hallb, hext, ls, hls, hlen, hcut⟩, cutA_wait h4' hgood' (by omega)⟩
            · have h5' : ¬ rest.length - 4 < lenv rest := by omega
              have hw : IntKind.wrap .i64 ((4 : Int) + (lenv rest : Int)) = ((4 + lenv rest : Nat) : Int) := by rw [wrap64 (by omega) (by omega)]; omega
              rw [hw]
              have hcap := hall.cap
              refine Row.slc hall (a := 4) (b := 4 + lenv rest) (m := all.cap) rfl rfl rfl (by omega) (by omega) (by omega) (Nat.le_refl _) ?_
              intro p1 hp1 _ _ _
              have hp1' : Bytes h' p1 ((rest.drop 4).take (lenv rest)) := by
                have e : ((rest.map bv).drop 4).take (4 + lenv rest - 4) = ((rest.drop 4).take (lenv rest)).map bv := by
                  rw [List.map_take, List.map_drop]; congr 1; omega
                rw [e] at hp1; exact hp1
              refine Clone_spec hp1' (by simp; omega) fun p2 h3 hop2 hext3 _ => ?_
              refine newC_intro ?_
              have hext4 := Ext.push h3 (.cells [slV p2].toArray 44)
              have hrow : Row (h3.push (.cells [slV p2].toArray 44)) ⟨some ⟨h3.size, 0, none⟩, 1, 1⟩ 1 [slV p2] := (Own.newC (h := h3) (cells := [slV p2]) (t := 44) (size := 1) (n := 1) rfl (by decide)).row
              refine hrow.rd ?_
              obtain ⟨ss, g1, g2, g3, g4, g5⟩ := hls.rows
              have hext34 := hext3.trans hext4
              have g1' := g1.congr (h' := h3.push (.cells [slV p2].toArray 44)) fun k _ hl _ => hext34.old k hl
              have holen := hls.len
              refine Own.app g1' (by simp) rfl rfl (by omega) (by omega) (by have := hext.size; have := hext3.size; simp; omega) ?_
              intro out' h5 ho5 hl5 hu5 hblk5
              refine Row.slc (h := h5) (s := all) (vs := rest.map bv) ?_ (a := 4 + lenv rest) (b := rest.length) (m := all.cap) rfl rfl rfl (by omega) (by omega) (by omega) (Nat.le_refl _) ?_
              · refine (hall.ext hext34).congr fun k o hp _ hl => hu5.old k hl fun hsb => ?_
                exact (hallb k (by simp [Sl.blk, hp])).2.2 hsb
              · intro all' hall' _ _ hblk'
                have hdrop : ((rest.map bv).drop (4 + lenv rest)).take (rest.length - (4 + lenv rest)) = (rest.drop (4 + lenv rest)).map bv := by
                  rw [List.map_drop, List.take_of_length_le (by simp)]
                rw [hdrop] at hall'
                have hext5 : Ext h h5 := (hext.trans hext34).then hu5 fun k hk1 => by
                  have := (g1.lt hk1).1; exact this
                refine ⟨⟨rest.drop (4 + lenv rest), hall', ?_, hext5, ls ++ [(rest.drop 4).take (lenv rest)], ?_, ?_, ?_⟩, ?_⟩
                · intro k hk1
                  have hk2 := hallb k (hblk' k hk1)
                  have e1 := hext3.size
                  have e2 := hu5.size
                  simp at e2
                  refine ⟨hk2.1, by omega, ?_⟩
                  rcases hblk5 with h6 | h6
                  · rw [h6]; exact hk2.2.2
                  · rw [h6]; intro he; simp at he; omega
                · refine OwnRows.snoc (x := p2) (h1 := h3.push (.cells [slV p2].toArray 44)) hls hext34 ?_ ?_ ?_ hu5 hblk5
                  · exact hop2.congr fun k _ hl _ => hext4.old k hl
                  · exact hext.size
                  · intro vs hv1 _
                    have : vs = ss.map slV := by
                      rcases hv1.at_ with ⟨hz1, hz2⟩ | ⟨k1, c1, e1, z1, z2, z3, z4, z5⟩
                      · have a1 := hv1.len
                        have a2 := g1.len
                        have a3 := hv1.cap
                        have b1 : vs = [] := List.eq_nil_of_length_eq_zero (by rw [a1]; omega)
                        have b2 : ss.map slV = [] := List.eq_nil_of_length_eq_zero (by rw [a2]; omega)
                        rw [b1, b2]
                      · rcases g1.at_ with ⟨hz1, hz2⟩ | ⟨k2, c2, e2, y1, y2, y3, y4, y5⟩
                        · rw [hz1] at z1; cases z1
                        · rw [z1] at y1
                          cases y1
                          rw [z3] at y3
                          cases y3
                          rw [z5, y5]
                    rw [this]
                    exact ho5
                · simp; omega
                · rw [hcut, cutA_one h4' hgood' h5']
                  simp
                · have := Bytes.length hall'
                  simp at this
                  omega
        · exact ⟨rest, ⟨hall, hallb, hext, ls, hls, hlen, hcut⟩, cutA_short (by omega)⟩

/-- a reader at block b, of the type T: what it has gathered, whether it is broken; its bytes lie in blocks of S -/
structure IsG (T : TypeId) (h : Heap) (b : Nat) (S : Nat → Prop) (st : List UInt8) (br : Bool) : Prop where
  cells : ∃ s : Sl, h[b]? = some (.cells #[slV s, .bool br] T (0, 0)) ∧ Bytes h s st ∧ (∀ k, s.blk = some k → S k) ∧ (br = true → s = ⟨none, 0, 0⟩ ∧ st = [])

variable {T : TypeId} {h h' : Heap} {b : Nat} {S S' : Nat → Prop} {st : List UInt8} {br : Bool}

theorem IsG.lt (hr : IsG T h b S st br) : b < h.size := by
  obtain ⟨s, hb, _⟩ := hr.cells
  rcases Nat.lt_or_ge b h.size with hl | hl
  · exact hl
  · rw [Array.getElem?_eq_none hl] at hb; cases hb

theorem IsG.mono (hr : IsG T h b S st br) (hs : ∀ k, S k → S' k) : IsG T h b S' st br := by
  obtain ⟨s, h1, h2, h3, h4⟩ := hr.cells
  exact ⟨s, h1, h2, fun k hk => hs k (h3 k hk), h4⟩

theorem IsG.upd {U : Nat → Prop} (hr : IsG T h b S st br) (hu : Upd U h h') (hb : ¬ U b) (hs : ∀ k, S k → ¬ U k) : IsG T h' b S st br := by
  have hlt := hr.lt
  obtain ⟨s, h1, h2, h3, h4⟩ := hr.cells
  exact ⟨s, by rw [hu.old b hlt hb]; exact h1, h2.congr fun k o hp _ hl => hu.old k hl (hs k (h3 k (by simp [Sl.blk, hp]))), h3, h4⟩

theorem IsG.ext (hr : IsG T h b S st br) (he : Ext h h') : IsG T h' b S st br := hr.upd (U := fun _ => False) (he.upd _) id fun _ _ => id

theorem IsG.isR (hr : IsG 108 h b (fun k => k ≠ b) st br) : IsR h b 0 st br := by
  obtain ⟨s, h1, h2, h3, h4⟩ := hr.cells
  exact ⟨s, h1, h2, fun k hk => ⟨Nat.zero_le _, h3 k hk⟩, h4⟩

theorem IsG.cell0 (hr : IsG T h b S st br) {K : Sl → Prop} (hk : ∀ s, Bytes h s st → K s) : ldL h b 0 K := by
  obtain ⟨s, hb, hs, _⟩ := hr.cells
  exact ⟨s, by rw [cell_block hb]; rfl, hk s hs⟩

theorem IsG.cell1 (hr : IsG T h b S st br) {K : Bool → Prop} (hk : K br) : ldB h b 1 K := by
  obtain ⟨s, hb, hs, _⟩ := hr.cells
  exact ⟨br, by rw [cell_block hb]; rfl, hk⟩

theorem Put2_spec {h : Heap} {b : Nat} {st : List UInt8} {br : Bool} {s : Sl} {l : List UInt8} {K : Sl → Int → Heap → Prop} (hr : IsG 108 h b (fun k => k ≠ b) st br) (hs : Bytes h s l) (hsz : st.length + l.length ≤ 1099511627776)
    (hk : ∀ out h' mid, h.size ≤ mid → mid ≤ h'.size → OwnRows h' mid out (putS st br l).1 → IsG 108 h' b (fun k => h.size ≤ k ∧ k < mid) (putS st br l).2.2 (putS st br l).2.1 → Upd (· = b) h h' → K out (if (putS st br l).2.1 then 50 else 0) h') :
    m_frame_Reader_Put (some ⟨b, 0, none⟩) s K h := by
  unfold m_frame_Reader_Put g_frame_Reader_Put
  simp only [bindI, bindB]
  refine iteP_false (deref_some (hr.cell1 ?_))
  have hblt := hr.lt
  cases br with
  | true =>
    refine iteP_true ?_
    have := hk ⟨none, 0, 0⟩ h h.size (Nat.le_refl _) (Nat.le_refl _) (OwnRows.nil h _) ?_ (Upd.refl _ h)
    · exact this
    · obtain ⟨q, h1, h2, h3, h4⟩ := hr.cells
      obtain ⟨rfl, h5⟩ := h4 rfl
      exact ⟨⟨none, 0, 0⟩, h1, h2, by simp [Sl.blk], fun _ => ⟨rfl, h5⟩⟩
  | false =>
    refine iteP_false (deref_some ?_)
    obtain ⟨q, hq, hqs, hqb, _⟩ := hr.cells
    have hp : putS st false l = cutA (st ++ l) := rfl
    rw [hp] at hk
    refine ⟨q, by rw [cell_block hq]; rfl, ?_⟩
    refine Clone_spec hqs (by omega) fun s1 h1 ho1 hext1 _ => ?_
    refine (hs.ext hext1).rd ?_
    have hslen := hs.length
    have h1len : s1.len = st.length := Bytes.length ho1.row
    refine Own.app ho1 (by simp [hslen]) (oneCell_bv l) rfl (by simp; omega) (by omega) hext1.size ?_
    intro all0 h2 ho2 hl2 hu2 hblk2
    rw [← List.map_append] at ho2
    have hext2 : Ext h h2 := hext1.then hu2 fun k hk => (ho1.lt hk).1
    have hq2 : h2[b]? = some (.cells #[slV q, .bool false] 108 (0, 0)) := by rw [hext2.old b hblt]; exact hq
    -- the loop's relation
    let Rel : Sl × Sl × Unit → Heap → List UInt8 → Prop := fun p h' rest =>
      Bytes h' p.1 rest ∧ (∀ k, p.1.blk = some k → h.size ≤ k ∧ k < h2.size) ∧ Ext h2 h' ∧ ∃ ls, OwnRows h' h2.size p.2.1 ls ∧ ls.length + rest.length ≤ st.length + l.length ∧ cutA (st ++ l) = (ls ++ (cutA rest).1, (cutA rest).2)
    refine cutP_intro (fun p h' => ∃ rest, Rel p h' rest ∧ (cutA rest) = ([], false, rest)) ?_ ?_
    · rintro ⟨all, out, u⟩ h' ⟨rest, ⟨hall, hallb, hextb, ls, hls, hlen, hcut⟩, hrest⟩
      have hext := hext2.trans hextb
      dsimp only at hall hallb hls ⊢
      rw [hrest] at hcut
      simp only [List.append_nil] at hcut
      have hq' : h'[b]? = some (.cells #[slV q, .bool false] 108 (0, 0)) := by rw [hext.old b hblt]; exact hq
      refine deref_some (st_intro hq' (by simp) rfl ?_)
      have hpb : (h'.put b 0 (slV all))[b]? = some (.cells #[slV all, .bool false] 108 (0, 0)) := by rw [put_block hq']; rfl
      rw [hcut] at hk
      have hz2 := hext2.size
      refine hk out _ h2.size hz2 (by rw [put_size]; exact hextb.size) (hls.congr fun k hk1 hk2 => put_other (by omega)) ?_ ((hext.upd _).trans (Upd.put h' b 0 _))
      refine ⟨all, hpb, ?_, hallb, by simp⟩
      refine hall.congr fun k o hp _ _ => put_other ?_
      have := (hallb k (by simp [Sl.blk, hp])).1
      omega
    · refine loopM_intro (fun p h' => ∃ rest, Rel p h' rest) (fun p _ => p.1.len) ?_ ?_
      · refine ⟨st ++ l, ?_, ?_, Ext.refl h2, [], OwnRows.nil h2 _, by simp, by simp⟩
        · exact ho2.row
        · intro k hk1
          exact ho2.lt hk1
      · rintro ⟨all, out, u⟩ h' ⟨rest, hall, hallb, hextb, ls, hls, hlen, hcut⟩
        have hext := hext2.trans hextb
        have hz2 := hext2.size
        have hzb := hextb.size
        dsimp only at hall hallb hls ⊢
        have hal := hall.length
        refine iteP_dec (fun h4 => ?_) (fun h4 => ?_)
        · have h4' : ¬ rest.length < 4 := by omega
          refine length_spec hall ?_
          refine ⟨fun hbad => ?_, fun hgood => ?_⟩
          · have hbad' : lenok rest = false := by simpa using hbad
            rw [cutA_bad h4' hbad'] at hcut
            simp only [List.append_nil] at hcut
            have hq' : h'[b]? = some (.cells #[slV q, .bool false] 108 (0, 0)) := by rw [hext.old b hblt]; exact hq
            refine deref_some (st_intro hq' (by simp) rfl ?_)
            have hq2 : (h'.put b 0 (.slice none 0 0))[b]? = some (.cells #[slV ⟨none, 0, 0⟩, .bool false] 108 (0, 0)) := by rw [put_block hq']; rfl
            refine deref_some (st_intro hq2 (by simp) rfl ?_)
            rw [hcut] at hk
            refine hk out _ h2.size hz2 (by rw [put_size, put_size]; exact hzb) (hls.congr fun k hk1 hk2 => ?_) ?_ (((hext.upd _).trans (Upd.put h' b 0 _)).trans (Upd.put _ b 1 _))
            · rw [put_other (by omega), put_other (by omega)]
            · exact ⟨⟨none, 0, 0⟩, by rw [put_block hq2]; rfl, Row.nil _ 1, by simp [Sl.blk], fun _ => ⟨rfl, rfl⟩⟩
          · have hgood' : lenok rest = true := by simpa using hgood
            have hpos := lenok_pos h4' hgood'
            rw [hal, wrap64 (by omega) (by omega)]
            refine iteP_dec (fun h5 => ?_) (fun h5 => ?_)
            · refine ⟨rest, ⟨hall, hallb, hextb, ls, hls, hlen, hcut⟩, cutA_wait h4' hgood' (by omega)⟩
            · have h5' : ¬ rest.length - 4 < lenv rest := by omega
              have hw : IntKind.wrap .i64 ((4 : Int) + (lenv rest : Int)) = ((4 + lenv rest : Nat) : Int) := by rw [wrap64 (by omega) (by omega)]; omega
              rw [hw]
              have hcap := hall.cap
              refine Row.slc hall (a := 4) (b := 4 + lenv rest) (m := all.cap) rfl rfl rfl (by omega) (by omega) (by omega) (Nat.le_refl _) ?_
              intro p1 hp1 _ _ _
              have hp1' : Bytes h' p1 ((rest.drop 4).take (lenv rest)) := by
                have e : ((rest.map bv).drop 4).take (4 + lenv rest - 4) = ((rest.drop 4).take (lenv rest)).map bv := by
                  rw [List.map_take, List.map_drop]; congr 1; omega
                rw [e] at hp1; exact hp1
              refine Clone_spec hp1' (by simp; omega) fun p2 h3 hop2 hext3 _ => ?_
              refine newC_intro ?_
              have hext4 := Ext.push h3 (.cells [slV p2].toArray 44)
              have hrow : Row (h3.push (.cells [slV p2].toArray 44)) ⟨some ⟨h3.size, 0, none⟩, 1, 1⟩ 1 [slV p2] := (Own.newC (h := h3) (cells := [slV p2]) (t := 44) (size := 1) (n := 1) rfl (by decide)).row
              refine hrow.rd ?_
              obtain ⟨ss, g1, g2, g3, g4, g5⟩ := hls.rows
              have hext34 := hext3.trans hext4
              have g1' := g1.congr (h' := h3.push (.cells [slV p2].toArray 44)) fun k _ hl _ => hext34.old k hl
              have holen := hls.len
              refine Own.app g1' (by simp) rfl rfl (by omega) (by omega) (by have := hextb.size; have := hext3.size; simp; omega) ?_
              intro out' h5 ho5 hl5 hu5 hblk5
              refine Row.slc (h := h5) (s := all) (vs := rest.map bv) ?_ (a := 4 + lenv rest) (b := rest.length) (m := all.cap) rfl rfl rfl (by omega) (by omega) (by omega) (Nat.le_refl _) ?_
              · refine (hall.ext hext34).congr fun k o hp _ hl => hu5.old k hl fun hsb => ?_
                have := (g1.lt hsb).1
                have := (hallb k (by simp [Sl.blk, hp])).2
                omega
              · intro all' hall' _ _ hblk'
                have hdrop : ((rest.map bv).drop (4 + lenv rest)).take (rest.length - (4 + lenv rest)) = (rest.drop (4 + lenv rest)).map bv := by
                  rw [List.map_drop, List.take_of_length_le (by simp)]
                rw [hdrop] at hall'
                have hext5 : Ext h2 h5 := (hextb.trans hext34).then hu5 fun k hk1 => by
                  have := (g1.lt hk1).1; exact this
                refine ⟨⟨rest.drop (4 + lenv rest), hall', ?_, hext5, ls ++ [(rest.drop 4).take (lenv rest)], ?_, ?_, ?_⟩, ?_⟩
                · intro k hk1
                  exact hallb k (hblk' k hk1)
                · refine OwnRows.snoc (x := p2) (h1 := h3.push (.cells [slV p2].toArray 44)) hls hext34 ?_ ?_ ?_ hu5 hblk5
                  · exact hop2.congr fun k _ hl _ => hext4.old k hl
                  · exact hextb.size
                  · intro vs hv1 _
                    have : vs = ss.map slV := by
                      rcases hv1.at_ with ⟨hz1, hz2⟩ | ⟨k1, c1, e1, z1, z2, z3, z4, z5⟩
                      · have a1 := hv1.len
                        have a2 := g1.len
                        have a3 := hv1.cap
                        have b1 : vs = [] := List.eq_nil_of_length_eq_zero (by rw [a1]; omega)
                        have b2 : ss.map slV = [] := List.eq_nil_of_length_eq_zero (by rw [a2]; omega)
                        rw [b1, b2]
                      · rcases g1.at_ with ⟨hz1, hz2⟩ | ⟨k2, c2, e2, y1, y2, y3, y4, y5⟩
                        · rw [hz1] at z1; cases z1
                        · rw [z1] at y1
                          cases y1
                          rw [z3] at y3
                          cases y3
                          rw [z5, y5]
                    rw [this]
                    exact ho5
                · simp; omega
                · rw [hcut, cutA_one h4' hgood' h5']
                  simp
                · have := Bytes.length hall'
                  simp at this
                  omega
        · exact ⟨rest, ⟨hall, hallb, hextb, ls, hls, hlen, hcut⟩, cutA_short (by omega)⟩

end Go.Proofs.Ytbofhmcjcllcaaa
