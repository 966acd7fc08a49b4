/- Reset, Fork; the reference's reader; and the law: what the reference's Put tells is what the reader's tells. -/
import Derived.Test.YtpbpooaleiolcaaFrT
namespace Go.Proofs.Ytpbpooaleiolcaa
open Go Go.Fw

theorem Reset_spec {h : Heap} {b : Nat} {S : Nat → Prop} {st : List UInt8} {br : Bool} {K : Heap → Prop} (hr : IsG 62 h b S st br)
    (hk : ∀ h', IsG 62 h' b (fun _ => False) [] false → Upd (· = b) h h' → K h') : m_frame_Reader_Reset (some ⟨b, 0, none⟩) K h := by
  unfold m_frame_Reader_Reset g_frame_Reader_Reset
  obtain ⟨s, hb, _⟩ := hr.cells
  refine iteP_true (deref_some (st_intro hb (by simp) rfl ?_))
  have hb2 : (h.put b 0 (.slice none 0 0))[b]? = some (.cells #[slV ⟨none, 0, 0⟩, .bool br] 62 (0, 0)) := by rw [put_block hb]; rfl
  refine deref_some (st_intro hb2 (by simp) rfl ?_)
  refine hk _ ⟨⟨none, 0, 0⟩, by rw [put_block hb2]; rfl, Row.nil _ 1, by simp [Sl.blk], fun h => by cases h⟩ ((Upd.put h b 0 _).trans (Upd.put _ b 1 _))

/-- a reader that was forked: how many bytes it holds, and whether it is broken -/
structure IsF (T : TypeId) (h : Heap) (b n : Nat) (br : Bool) : Prop where
  cells : ∃ s : Sl, h[b]? = some (.cells #[slV s, .bool br] T (0, 0)) ∧ s.len = n
theorem IsF.upd {T : TypeId} {h h' : Heap} {b n : Nat} {br : Bool} {U : Nat → Prop} (hr : IsF T h b n br) (hu : Upd U h h') (hb : ¬ U b) : IsF T h' b n br := by
  obtain ⟨s, h1, h2⟩ := hr.cells
  refine ⟨s, ?_, h2⟩
  rcases Nat.lt_or_ge b h.size with hl | hl
  · rw [hu.old b hl hb]; exact h1
  · rw [Array.getElem?_eq_none hl] at h1; cases h1
theorem IsF.ext {T : TypeId} {h h' : Heap} {b n : Nat} {br : Bool} (hr : IsF T h b n br) (he : Ext h h') : IsF T h' b n br := hr.upd (U := fun _ => False) (he.upd _) id
theorem IsF.cell0 {T : TypeId} {h : Heap} {b n : Nat} {br : Bool} (hr : IsF T h b n br) {K : Sl → Prop} (hk : ∀ s : Sl, s.len = n → K s) : ldL h b 0 K := by
  obtain ⟨s, hb, hs⟩ := hr.cells
  exact ⟨s, by rw [cell_block hb]; rfl, hk s hs⟩
theorem IsF.cell1 {T : TypeId} {h : Heap} {b n : Nat} {br : Bool} (hr : IsF T h b n br) {K : Bool → Prop} (hk : K br) : ldB h b 1 K := by
  obtain ⟨s, hb, hs⟩ := hr.cells
  exact ⟨br, by rw [cell_block hb]; rfl, hk⟩
theorem IsG.isF {T : TypeId} {h : Heap} {b : Nat} {S : Nat → Prop} {st : List UInt8} {br : Bool} (hr : IsG T h b S st br) : IsF T h b st.length br := by
  obtain ⟨s, hb, hs, _⟩ := hr.cells
  exact ⟨s, hb, hs.length⟩

theorem Fork_spec {h : Heap} {b : Nat} {S : Nat → Prop} {st : List UInt8} {br : Bool} {K : Option Addr → Heap → Prop} (hr : IsG 62 h b S st br) (hsz : st.length ≤ 140737488355328)
    (hk : ∀ o h', IsF 62 h' o st.length br → h.size ≤ o → o < h'.size → Ext h h' → K (some ⟨o, 0, none⟩) h') : m_frame_Reader_Fork (some ⟨b, 0, none⟩) K h := by
  unfold m_frame_Reader_Fork g_frame_Reader_Fork
  obtain ⟨s, hb, hs, _, hbr⟩ := hr.cells
  have hlt := hr.lt
  refine iteP_false (deref_some (deref_some ⟨s, by rw [cell_block hb]; rfl, br, by rw [cell_block hb]; rfl, ?_⟩))
  refine Clone_spec hs hsz fun t h1 ho hext hne => ?_
  have hb1 : h1[b]? = some (.cells #[slV s, .bool br] 62 (0, 0)) := by rw [hext.old b hlt]; exact hb
  have hext2 := Ext.push h1 (.cells [slV t, .bool br].toArray 62)
  have hb2 := (hext2.old b (by have := hext.size; omega)).trans hb1
  refine ⟨by rw [cell_block hb1]; rfl, newC_intro ⟨(cell_block hb2).trans rfl, ?_⟩⟩
  refine hk _ _ ⟨t, push_new, Own.blen ho ▸ rfl⟩ hext.size (by simp) (hext.trans hext2)

theorem RFork_spec {h : Heap} {b : Nat} {S : Nat → Prop} {st : List UInt8} {br : Bool} {K : Option Addr → Heap → Prop} (hr : IsG 66 h b S st br) (hsz : st.length ≤ 140737488355328)
    (hk : ∀ o h', IsF 66 h' o st.length br → h.size ≤ o → o < h'.size → Ext h h' → K (some ⟨o, 0, none⟩) h') : m_spillwayref18_Reader_Fork (some ⟨b, 0, none⟩) K h := by
  unfold m_spillwayref18_Reader_Fork g_spillwayref18_Reader_Fork
  obtain ⟨s, hb, hs, _, hbr⟩ := hr.cells
  have hlt := hr.lt
  refine iteP_false (deref_some (deref_some ⟨s, by rw [cell_block hb]; rfl, br, by rw [cell_block hb]; rfl, newC_intro ?_⟩))
  have hext1 := Ext.push h (.cells #[] 5)
  have hb1 := (hext1.old b hlt).trans hb
  refine ⟨(cell_block hb1).trans rfl, (cell_block hb1).trans rfl, (hs.ext hext1).rd ?_⟩
  have ho := Own.newC (h := h) (cells := []) (t := 5) (size := 1) (n := 0) rfl (by decide)
  have hsl := hs.length
  refine Own.app ho (by simp [hsl]) (oneCell_bv st) rfl (by simp; omega) (by simp; omega) (by simp) ?_
  intro t h2 ho2 hl2 hu2 hblk2
  have hext2 : Ext h h2 := hext1.then hu2 fun k hk => by simp [Sl.blk] at hk; omega
  have hb2 := (hext2.old b hlt).trans hb
  have hext3 := Ext.push h2 (.cells [slV t, .bool br].toArray 66)
  have hb3 := (hext3.old b (by have := hext2.size; omega)).trans hb2
  refine ⟨(cell_block hb2).trans rfl, newC_intro ⟨(cell_block hb3).trans rfl, ?_⟩⟩
  refine hk _ _ ⟨t, push_new, ?_⟩ hext2.size (by simp) (hext2.trans hext3)
  have := ho2.len
  simp at this
  omega

theorem RNew_spec {h : Heap} {K : Option Addr → Heap → Prop} (hk : ∀ h', IsG 66 h' h.size (fun _ => False) [] false → Ext h h' → h'.size = h.size + 1 → K (some ⟨h.size, 0, none⟩) h') : m_spillwayref18_New K h := by
  unfold m_spillwayref18_New g_spillwayref18_New
  refine newC_intro (hk _ ⟨⟨none, 0, 0⟩, push_new, Row.nil _ 1, by simp [Sl.blk], fun h => by cases h⟩ (Ext.push _ _) (by simp))

theorem New2_spec {h : Heap} {K : Option Addr → Heap → Prop} (hk : ∀ h', IsG 62 h' h.size (fun _ => False) [] false → Ext h h' → h'.size = h.size + 1 → K (some ⟨h.size, 0, none⟩) h') : m_frame_New K h := by
  unfold m_frame_New g_frame_New
  refine newC_intro (hk _ ⟨⟨none, 0, 0⟩, push_new, Row.nil _ 1, by simp [Sl.blk], fun h => by cases h⟩ (Ext.push _ _) (by simp))

theorem LeftF_spec {h : Heap} {b n : Nat} {br : Bool} {K : Int → Heap → Prop} (hr : IsF 62 h b n br) (hk : K (n : Int) h) : m_frame_Reader_Left (some ⟨b, 0, none⟩) K h := by
  unfold m_frame_Reader_Left g_frame_Reader_Left
  refine iteP_false (deref_some (hr.cell0 fun s hs => bindI_intro ?_))
  rw [hs]; exact hk
theorem RLeftF_spec {h : Heap} {b n : Nat} {br : Bool} {K : Int → Heap → Prop} (hr : IsF 66 h b n br) (hk : K (n : Int) h) : m_spillwayref18_Reader_Left (some ⟨b, 0, none⟩) K h := by
  unfold m_spillwayref18_Reader_Left g_spillwayref18_Reader_Left
  refine bindI_intro (iteP_false (deref_some (hr.cell0 fun s hs => bindI_intro ?_)))
  rw [hs]; exact hk
theorem BrokenF_spec {h : Heap} {b n : Nat} {br : Bool} {K : Bool → Heap → Prop} (hr : IsF 62 h b n br) (hk : K br h) : m_frame_Reader_Broken (some ⟨b, 0, none⟩) K h := by
  unfold m_frame_Reader_Broken g_frame_Reader_Broken
  exact iteP_true (deref_some (hr.cell1 hk))
theorem RBrokenF_spec {h : Heap} {b n : Nat} {br : Bool} {K : Bool → Heap → Prop} (hr : IsF 66 h b n br) (hk : K br h) : m_spillwayref18_Reader_Broken (some ⟨b, 0, none⟩) K h := by
  unfold m_spillwayref18_Reader_Broken g_spillwayref18_Reader_Broken
  exact iteP_true (deref_some (hr.cell1 (bindB_intro hk)))

theorem RMissing_spec {h : Heap} {b : Nat} {S : Nat → Prop} {st : List UInt8} {br : Bool} {K : Int → Heap → Prop} (hr : IsG 66 h b S st br) (hsz : st.length ≤ 140737488355328) (hok : ¬ st.length < 4 → lenok st = true)
    (hk : K (missing st br) h) : m_spillwayref18_Reader_Missing (some ⟨b, 0, none⟩) K h := by
  unfold m_spillwayref18_Reader_Missing g_spillwayref18_Reader_Missing
  unfold missing at hk
  refine bindI_intro (iteP_false (deref_some (hr.cell1 ?_)))
  cases br with
  | true => exact iteP_true (bindI_intro hk)
  | false =>
    refine iteP_false (deref_some (hr.cell0 fun s hs => ?_))
    rw [hs.length]
    refine iteP_dec (fun h1 => ?_) (fun h1 => ?_)
    · refine deref_some (hr.cell0 fun s hs => bindI_intro ?_)
      rw [hs.length, wrap64 (by omega) (by omega)]
      rw [if_neg (by simp), if_pos (by omega)] at hk
      exact hk
    · have h4 : ¬ st.length < 4 := by omega
      have hpos := lenok_pos h4 (hok h4)
      have hx2 : st[2]? = some st[2] := List.getElem?_eq_getElem (by omega)
      have hx3 : st[3]? = some st[3] := List.getElem?_eq_getElem (by omega)
      have two := lenv_two h4 (by omega) hx2 hx3
      generalize st[2] = x at *
      generalize st[3] = y at *
      have hx8 := x.toNat_lt
      have hy8 := y.toNat_lt
      refine deref_some (hr.cell0 fun s hs => Bytes.idx hs (n := 2) rfl hx2 ⟨by omega, ?_⟩)
      refine deref_some (hr.cell0 fun s hs => Bytes.idx hs (n := 3) rfl hx3 ?_)
      refine deref_some (hr.cell0 fun s hs => bindI_intro ?_)
      rw [hs.length]
      have e8 : shlV .i64 (IntKind.wrap .i64 (x.toNat : Int)) 8 = ((x.toNat * 256 : Nat) : Int) := by
        rw [wrap64 (by omega) (by omega)]
        unfold shlV
        have : min (8 : Int).toNat IntKind.i64.bits = 8 := by decide
        rw [this, wrap64 (by omega) (by omega)]
        omega
      rw [e8, wrap64 (n := (y.toNat : Int)) (by omega) (by omega), wrap64 (n := (4 : Int) + ((x.toNat * 256 : Nat) : Int)) (by omega) (by omega), wrap64 (n := (4 : Int) + ((x.toNat * 256 : Nat) : Int) + (y.toNat : Int)) (by omega) (by omega), wrap64 (by omega) (by omega)]
      rw [if_neg (by simp), if_neg (by omega), two] at hk
      have e : (4 : Int) + ((x.toNat * 256 : Nat) : Int) + (y.toNat : Int) - (st.length : Int) = 4 + ((x.toNat * 256 + y.toNat : Nat) : Int) - (st.length : Int) := by omega
      rw [e]
      exact hk

/-! ### the law -/
theorem cutA_split : ∀ (n : Nat) (all : List UInt8), all.length ≤ n → cutA all = if (splitA all).2.2 = 50 ∧ 4 ≤ (all.drop (splitA all).2.1).length then ((splitA all).1, true, []) else ((splitA all).1, false, all.drop (splitA all).2.1)
  | n, all, hn => by
    by_cases h0 : all.length = 0
    · have : all = [] := List.eq_nil_of_length_eq_zero h0
      subst this
      rw [splitA_nil rfl, cutA_short (by simp)]
      rfl
    · cases h2 : lenok all with
      | false =>
        rw [splitA_bad h0 h2]
        by_cases h4 : all.length < 4
        · rw [cutA_short h4, if_neg (by simp; omega)]
          rfl
        · rw [cutA_bad h4 h2, if_pos ⟨rfl, by simp; omega⟩]
      | true =>
        by_cases h3 : all.length < 4 ∨ all.length - 4 < lenv all
        · rw [splitA_end h0 h2 h3, if_neg (by simp)]
          by_cases h4 : all.length < 4
          · rw [cutA_short h4]; rfl
          · rw [cutA_wait h4 h2 (h3.resolve_left h4)]; rfl
        · have h4 : ¬ all.length < 4 := fun h => h3 (.inl h)
          have hp := lenok_pos h4 h2
          rw [splitA_one h0 h2 h3, cutA_one h4 h2 (fun h => h3 (.inr h))]
          cases n with
          | zero => omega
          | succ n =>
            rw [cutA_split n (all.drop (4 + lenv all)) (by simp; omega)]
            dsimp only
            rw [List.drop_drop]
            split <;> rfl

theorem cutA_ok : ∀ (n : Nat) (all : List UInt8), all.length ≤ n → ¬ (cutA all).2.2.length < 4 → lenok (cutA all).2.2 = true
  | n, all, hn => by
    by_cases h4 : all.length < 4
    · rw [cutA_short h4]; intro h; exact absurd h4 h
    · cases h2 : lenok all with
      | false => rw [cutA_bad h4 h2]; intro h; simp at h
      | true =>
        by_cases h3 : all.length - 4 < lenv all
        · rw [cutA_wait h4 h2 h3]; intro _; exact h2
        · rw [cutA_one h4 h2 h3]
          cases n with
          | zero => omega
          | succ n => exact cutA_ok n (all.drop (4 + lenv all)) (by simp; omega)

theorem splitA_le : ∀ (n : Nat) (all : List UInt8), all.length ≤ n → (splitA all).2.1 ≤ all.length
  | n, all, hn => by
    by_cases h0 : all.length = 0
    · rw [splitA_nil h0]; simp
    · cases h2 : lenok all with
      | false => rw [splitA_bad h0 h2]; simp
      | true =>
        by_cases h3 : all.length < 4 ∨ all.length - 4 < lenv all
        · rw [splitA_end h0 h2 h3]; simp
        · rw [splitA_one h0 h2 h3]
          cases n with
          | zero => omega
          | succ n =>
            have := splitA_le n (all.drop (4 + lenv all)) (by simp; omega)
            simp at this
            dsimp only
            omega

theorem RPut_spec {h : Heap} {b : Nat} {st : List UInt8} {br : Bool} {s : Sl} {l : List UInt8} {K : Sl → Int → Heap → Prop} (hr : IsG 66 h b (fun k => k ≠ b) st br) (hs : Bytes h s l) (hsz : st.length + l.length ≤ 1099511627776)
    (hk : ∀ out h', RowsB h' out (putS st br l).1 → IsG 66 h' b (fun k => h.size ≤ k ∧ k < h'.size) (putS st br l).2.2 (putS st br l).2.1 → Upd (· = b) h h' → K out (if (putS st br l).2.1 then 50 else 0) h') :
    m_spillwayref18_Reader_Put (some ⟨b, 0, none⟩) s K h := by
  unfold m_spillwayref18_Reader_Put g_spillwayref18_Reader_Put
  refine bindI_intro (iteP_false (deref_some (hr.cell1 ?_)))
  have hblt := hr.lt
  cases br with
  | true =>
    obtain ⟨q, h1, h2, h3, h4⟩ := hr.cells
    obtain ⟨rfl, h5⟩ := h4 rfl
    refine iteP_true (bindI_intro ?_)
    exact hk ⟨none, 0, 0⟩ h ⟨[], Row.nil _ 1, rfl, by simp⟩ ⟨⟨none, 0, 0⟩, h1, h2, by simp [Sl.blk], fun _ => ⟨rfl, h5⟩⟩ (Upd.refl _ h)
  | false =>
    obtain ⟨q, hq, hqs, hqb, _⟩ := hr.cells
    have hp : putS st false l = cutA (st ++ l) := rfl
    rw [hp, cutA_split _ (st ++ l) (Nat.le_refl _)] at hk
    have hle := splitA_le _ (st ++ l) (Nat.le_refl _)
    refine iteP_false (newC_intro (deref_some ?_))
    have hext1 := Ext.push h (.cells #[] 5)
    have hq1 := (hext1.old b hblt).trans hq
    refine ⟨q, (cell_block hq1).trans rfl, (hqs.ext hext1).rd ?_⟩
    have ho := Own.newC (h := h) (cells := []) (t := 5) (size := 1) (n := 0) rfl (by decide)
    have hql := hqs.length
    have hsl := hs.length
    refine Own.app ho (by simp [hql]) (oneCell_bv st) rfl (by simp; omega) (by simp; omega) (by simp) ?_
    intro t h2 ho2 hl2 hu2 hblk2
    have hext2 : Ext h h2 := hext1.then hu2 fun k hk => by simp [Sl.blk] at hk; omega
    simp only [Nat.zero_add] at hl2
    refine (hs.ext hext2).rd ?_
    rw [List.nil_append] at ho2
    refine Own.app ho2 (by simp [hsl]) (oneCell_bv l) rfl (by omega) (by omega) hext2.size ?_
    intro all h3 ho3 hl3 hu3 hblk3
    rw [← List.map_append] at ho3
    have hext3 : Ext h h3 := hext2.then hu3 fun k hk => (ho2.lt hk).1
    have hall : Bytes h3 all (st ++ l) := ho3.row
    have halen := hall.length
    have hacap := hall.cap
    have habig := hall.big
    simp only [List.length_append] at halen hle
    refine RSplit2_spec hall (by simp; omega) fun out h4 hrows hext4 => bindI_intro (bindI_intro ?_)
    generalize hsp : splitA (st ++ l) = sp at hk hle hrows
    obtain ⟨ls, at_, e⟩ := sp
    dsimp only at hk hle hrows ⊢
    have hext04 := hext3.trans hext4
    obtain ⟨ss, g1, g2, g3⟩ := hrows
    have hz3 := hext3.size
    have hz4 := hext4.size
    have hablk : ∀ k, all.blk = some k → h.size ≤ k ∧ k < h3.size := fun k hk => ho3.lt hk
    -- a store into the reader does not touch the rows
    have keep : ∀ h5, Upd (· = b) h4 h5 → RowsB h5 out ls := fun h5 hu => by
      refine ⟨ss, (g1.congr fun k _ hl hb => hu.old k hl (by omega)).row, g2, fun i x m hx hm => ?_⟩
      obtain ⟨q1, q2⟩ := g3 i x m hx hm
      refine (q1.ext hext4).congr fun k o hp _ hl => hu.old k hl ?_
      have := (hablk k (q2 k (by simp [Sl.blk, hp]))).1
      omega
    refine Row.slc (hall.ext hext4) (a := at_) (b := st.length + l.length) (m := all.cap) rfl (by omega) rfl (by omega) (by omega) (by omega) (Nat.le_refl _) ?_
    intro r hr1 hrl _ hrb
    have hr1' : Bytes h4 r ((st ++ l).drop at_) := by
      have e : (((st ++ l).map bv).drop at_).take (st.length + l.length - at_) = ((st ++ l).drop at_).map bv := by rw [List.map_drop, List.take_of_length_le (by simp)]
      rw [e] at hr1; exact hr1
    have hq4 := (hext04.old b hblt).trans hq
    refine deref_some (st_intro hq4 (by simp) rfl ?_)
    have hq5 : (h4.put b 0 (slV r))[b]? = some (.cells #[slV r, .bool false] 66 (0, 0)) := by rw [put_block hq4]; rfl
    have hu5 := Upd.put h4 b 0 (slV r)
    have hr5 : Bytes (h4.put b 0 (slV r)) r ((st ++ l).drop at_) := hr1'.congr fun k o hp _ hl => hu5.old k hl (by
      have := (hablk k (hrb k (by simp [Sl.blk, hp]))).1
      omega)
    have hrlen := hr1'.length
    have hsame : ∀ {e' : Int}, ¬ (e = 50 ∧ 4 ≤ ((st ++ l).drop at_).length) → e' = 0 → K out e' (h4.put b 0 (slV r)) := by
      rintro e' hne rfl
      rw [if_neg hne] at hk
      refine hk out _ (keep _ hu5) ⟨r, hq5, hr5, fun k hk => ?_, fun h => by cases h⟩ ((hext04.upd _).trans hu5)
      have := hablk k (hrb k hk)
      rw [put_size]
      omega
    refine ⟨fun he => ?_, fun he => ?_⟩
    · have he50 : e = 50 := by simpa using he
      refine deref_some ⟨r, (cell_block hq5).trans rfl, ?_⟩
      refine iteP_dec (fun h4' => ?_) (fun h4' => bindI_intro (hsame (by omega) rfl))
      have hcond : e = 50 ∧ 4 ≤ ((st ++ l).drop at_).length := ⟨he50, by omega⟩
      rw [if_pos hcond] at hk
      refine deref_some (st_intro hq5 (by simp) rfl ?_)
      have hq6 : ((h4.put b 0 (slV r)).put b 0 (.slice none 0 0))[b]? = some (.cells #[slV ⟨none, 0, 0⟩, .bool false] 66 (0, 0)) := by rw [put_block hq5]; rfl
      refine deref_some (st_intro hq6 (by simp) rfl (bindI_intro ?_))
      have hu7 := (hu5.trans (Upd.put _ b 0 (.slice none 0 0))).trans (Upd.put _ b 1 (.bool true))
      refine hk out _ (keep _ hu7) ⟨⟨none, 0, 0⟩, (put_block hq6).trans rfl, Row.nil _ 1, by simp [Sl.blk], fun _ => ⟨rfl, rfl⟩⟩ ((hext04.upd _).trans hu7)
    · have he50 : e ≠ 50 := by simpa using he
      exact bindI_intro (hsame (fun h => he50 h.1) rfl)

end Go.Proofs.Ytpbpooaleiolcaa
