/- What the frame's functions do, by their models. -/
import Derived.Test.YtpbpooaleiolcaaM
import Derived.Test.YtpbpooaleiolcaaFwU
namespace Go.Proofs.Ytpbpooaleiolcaa
open Go Go.Fw

theorem oneCell_bv (l : List UInt8) : (l.map bv).all oneCell = true := by
  simp [bv, oneCell]

theorem Clone_spec {b : Sl} {l : List UInt8} {h : Heap} {K : Sl → Heap → Prop} (hb : Bytes h b l) (hsz : l.length ≤ 140737488355328)
    (hk : ∀ s h', Own h' h.size s 1 (l.map bv) → Ext h h' → (l ≠ [] → s.blk ≠ none) → K s h') : m_bytes_Clone b K h := by
  unfold m_bytes_Clone g_bytes_Clone
  have hlen := hb.length
  cases hp : b.ptr with
  | none =>
    refine iteP_true ?_
    have : l = [] := by
      rcases hb.at_ with h0 | ⟨bb, o, hp', _⟩
      · exact List.eq_nil_of_length_eq_zero (by omega)
      · rw [hp] at hp'; cases hp'
    subst this
    exact hk _ _ (Own.nil h h.size 1) (Ext.refl h) (fun h => absurd rfl h)
  | some a =>
    refine iteP_false ?_
    have hext := Ext.push h (.cells #[] 5)
    refine newC_intro ((hb.ext hext).rd ?_)
    have ho := Own.newC (h := h) (cells := []) (t := 5) (size := 1) (n := 0) rfl (by decide)
    refine Own.app ho (by simp [hlen]) (oneCell_bv l) rfl (by simp [hlen]; omega) (by simp [hlen]; omega) (by simp) ?_
    intro s' h' ho' hl' hu hblk
    refine hk s' h' (by simpa using ho') (hext.then hu ?_) (fun _ => ?_)
    · intro k hk
      simp [Sl.blk] at hk
      omega
    · rcases hblk with h1 | h1 <;> rw [h1] <;> simp [Sl.blk]

/-! ### a frame's length -/
def lenv (l : List UInt8) : Nat := (l.take 4).foldl (fun n c => n * 256 + c.toNat) 0
def lenok (l : List UInt8) : Bool :=
  if l.length = 0 ∨ l.length = 1 ∨ l.length = 2 then lenv l == 0 else if l.length = 3 then decide (lenv l ≤ 16) else decide (1 ≤ lenv l) && decide (lenv l ≤ 4096)

theorem or_shift (n c : Nat) (hn : n < 16777216) (hc : c < 256) : orV .i64 (shlV .i64 (n : Int) 8) (IntKind.wrap .i64 (c : Int)) = ((n * 256 + c : Nat) : Int) := by
  have h1 : shlV .i64 (n : Int) 8 = ((n * 256 : Nat) : Int) := by
    unfold shlV
    have : min (8 : Int).toNat IntKind.i64.bits = 8 := by decide
    rw [this, wrap64 (by omega) (by omega)]
    omega
  have h2 : IntKind.wrap .i64 (c : Int) = (c : Int) := wrap64 (by omega) (by omega)
  rw [h1, h2]
  unfold orV
  have hb : IntKind.i64.bits = 64 := rfl
  have e : BitVec.toNat (BitVec.ofInt IntKind.i64.bits ((n * 256 : Nat) : Int) ||| BitVec.ofInt IntKind.i64.bits (c : Int)) = n * 256 + c := by
    rw [hb, BitVec.toNat_or]
    simp only [BitVec.ofInt_natCast, BitVec.toNat_ofNat]
    rw [Nat.mod_eq_of_lt (by omega), Nat.mod_eq_of_lt (by omega), Nat.mul_comm n 256, show (256 : Nat) = 2 ^ 8 from rfl, ← Nat.two_pow_add_eq_or_of_lt (by omega)]
  rw [e, wrap64 (by omega) (by omega)]

theorem foldl_lt (l : List UInt8) (k : Nat) : (l.take k).foldl (fun n c => n * 256 + c.toNat) 0 < 256 ^ k := by
  induction k with
  | zero => simp
  | succ k ih =>
    rcases Nat.lt_or_ge k l.length with h | h
    · rw [List.take_succ_eq_append_getElem h, List.foldl_append]
      have := (l[k]).toNat_lt
      simp only [List.foldl_cons, List.foldl_nil]
      rw [Nat.pow_succ]
      omega
    · rw [List.take_of_length_le (by omega)]
      rw [List.take_of_length_le h] at ih
      refine Nat.lt_of_lt_of_le ih (Nat.pow_le_pow_right (by omega) (by omega))

theorem lenv_lt (l : List UInt8) : lenv l < 4294967296 := foldl_lt l 4

theorem length_spec {b : Sl} {l : List UInt8} {h : Heap} {K : Int → Bool → Heap → Prop} (hb : Bytes h b l) (hk : K (lenv l) (lenok l) h) : m_frame_length b K h := by
  unfold m_frame_length g_frame_length
  have hlen := hb.length
  have hcap := hb.cap
  have hbig := hb.big
  have hm : minV 4 (b.len : Int) = ((min 4 l.length : Nat) : Int) := by unfold minV; rw [hlen]; split <;> omega
  simp only [bindI, bindB]
  refine Row.slc hb (a := 0) (b := min 4 l.length) (m := b.cap) rfl hm rfl (Nat.zero_le _) (by omega) (by omega) (Nat.le_refl _) ?_
  intro s hs hsl hsc _
  have hs' : Bytes h s (l.take (min 4 l.length)) := by
    have : ((l.map bv).drop 0).take (min 4 l.length - 0) = (l.take (min 4 l.length)).map bv := by simp
    rw [this] at hs
    exact hs
  have hmin : l.take (min 4 l.length) = l.take 4 := by
    rcases Nat.lt_or_ge 4 l.length with h | h
    · rw [Nat.min_eq_left (by omega)]
    · rw [Nat.min_eq_right (by omega), List.take_of_length_le (Nat.le_refl _), List.take_of_length_le h]
  rw [hmin] at hs'
  refine loopM_intro (fun s' h' => h' = h ∧ ∃ k : Nat, k ≤ s.len ∧ s'.2.1 = (k : Int) ∧ s'.1 = ((((l.take 4).take k).foldl (fun n c => n * 256 + c.toNat) 0 : Nat) : Int)) (fun s' _ => s.len - s'.2.1.toNat) ⟨rfl, 0, Nat.zero_le _, rfl, by simp⟩ ?_
  rintro ⟨n, i, u⟩ h' ⟨rfl, k, hk', hi, hn⟩
  dsimp only at hi hn
  subst hi hn
  dsimp only
  have hsl' : s.len = min 4 l.length := by simpa using hsl
  refine iteP_dec ?_ ?_
  · intro hlt
    have hlt' : k < (l.take 4).length := by rw [List.length_take]; omega
    have hx : (l.take 4)[k]? = some (l.take 4)[k] := List.getElem?_eq_getElem hlt'
    refine Bytes.idx hs' rfl hx ?_
    have hlt2 : ((l.take 4).take k).foldl (fun n c => n * 256 + c.toNat) 0 < 16777216 := by
      have h1 := foldl_lt (l.take 4) k
      have : 256 ^ k ≤ 256 ^ 3 := Nat.pow_le_pow_right (by omega) (by omega)
      omega
    refine ⟨by omega, ?_⟩
    refine ⟨⟨rfl, k + 1, by omega, ?_, ?_⟩, ?_⟩
    · rw [wrap64 (by omega) (by omega)]
      omega
    · rw [or_shift _ _ hlt2 ((l.take 4)[k]).toNat_lt, List.take_succ_eq_append_getElem hlt', List.foldl_append]
      rfl
    · rw [wrap64 (by omega) (by omega)]
      omega
  · intro hge
    have hfull : (l.take 4).take k = l.take 4 := List.take_of_length_le (by rw [List.length_take]; omega)
    rw [hfull]
    have key : ∀ (v : Bool), lenok l = v → K ((lenv l : Nat) : Int) v h' := fun v hv => hv ▸ hk
    unfold lenok at key
    have eN : ((List.foldl (fun n (c : UInt8) => n * 256 + c.toNat) 0 (List.take 4 l) : Nat) : Int) = ((lenv l : Nat) : Int) := rfl
    rw [eN]
    generalize lenv l = N at key ⊢
    rw [hlen]
    have e0 : ((N : Int) == 0) = (N == 0) := by rw [Bool.eq_iff_iff]; simp
    have e16 : decide ((N : Int) ≤ 16) = decide (N ≤ 16) := by rw [Bool.eq_iff_iff]; simp; omega
    have e4 : decide ((N : Int) ≤ 4096) = decide (N ≤ 4096) := by rw [Bool.eq_iff_iff]; simp; omega
    refine cutP_self ?_
    rw [e0, e16, e4]
    have h4 : l.length = 0 ∨ l.length = 1 ∨ l.length = 2 ∨ l.length = 3 ∨ 4 ≤ l.length := by omega
    rcases h4 with h4 | h4 | h4 | h4 | h4
    · rw [h4] at key ⊢; exact iteP_true (iteP_true (key _ rfl))
    · rw [h4] at key ⊢; exact iteP_false (iteP_true (iteP_true (key _ rfl)))
    · rw [h4] at key ⊢; exact iteP_false (iteP_false (iteP_true (key _ rfl)))
    · rw [h4] at key ⊢; exact iteP_false (iteP_false (iteP_false (iteP_true (key _ rfl))))
    · rw [if_neg (by omega), if_neg (by omega)] at key
      have n0 : ((l.length : Int) == 0) = false := by simp; intro h; subst h; simp at h4
      have n1 : ((l.length : Int) == 1) = false := by simp; omega
      have n2 : ((l.length : Int) == 2) = false := by simp; omega
      have n3 : ((l.length : Int) == 3) = false := by simp; omega
      rw [n0, n1, n2, n3]
      refine iteP_false (iteP_false (iteP_false (iteP_false ?_)))
      refine iteP_dec (fun h => key _ ?_) (fun h => key _ ?_)
      · have : 1 ≤ N := by omega
        simp [this]
      · have : ¬ 1 ≤ N := by omega
        simp [this]

/-! ### a frame -/
def header (n : Nat) : List UInt8 := [UInt8.ofNat (n / 16777216), UInt8.ofNat (n / 65536), UInt8.ofNat (n / 256), UInt8.ofNat n]
def frameE (p : List UInt8) : Int := if p.length > 4096 then 5 else if p.length = 0 then 6 else 0
def frameB (p : List UInt8) : List UInt8 := if p.length > 4096 ∨ p.length = 0 then [] else header p.length ++ p

theorem shr_nat (n k : Nat) (hk : k < 64) : shrV .i64 (n : Int) (k : Int) = ((n / 2 ^ k : Nat) : Int) := by
  unfold shrV
  have hb : IntKind.i64.bits = 64 := rfl
  rw [hb]
  have : min (k : Int).toNat 64 = k := by omega
  rw [this]
  rw [Int.fdiv_eq_ediv_of_nonneg _ (by have : (0 : Int) < 2 ^ k := Int.pow_pos (by decide); omega)]
  have e : ((2 : Int) ^ k) = ((2 ^ k : Nat) : Int) := by simp
  rw [e]
  rfl

theorem bv_ofNat (n : Nat) : Value.int .u8 (IntKind.wrap .u8 (n : Int)) = bv (UInt8.ofNat n) := by
  unfold bv
  rw [wrap8_mod]
  simp

theorem Frame_spec {b : Sl} {l : List UInt8} {h : Heap} {K : Sl → Int → Heap → Prop} (hb : Bytes h b l)
    (hk : ∀ s h', Own h' h.size s 1 ((frameB l).map bv) → Ext h h' → (frameE l = 0 → s.blk ≠ none) → K s (frameE l) h') : m_frame_Frame b K h := by
  unfold m_frame_Frame g_frame_Frame
  have hlen := hb.length
  simp only [bindI, bindB]
  refine iteP_dec (fun h1 => ?_) (fun h1 => ?_)
  · have e1 : frameE l = 5 := by unfold frameE; rw [if_pos (by omega)]
    have e2 : frameB l = [] := by unfold frameB; rw [if_pos (by omega)]
    have := hk ⟨none, 0, 0⟩ h (by rw [e2]; exact Own.nil h _ 1) (Ext.refl h) (fun h => by rw [e1] at h; cases h)
    rw [e1] at this
    exact this
  · refine ⟨fun h2 => ?_, fun h2 => ?_⟩
    · simp at h2
      have e1 : frameE l = 6 := by unfold frameE; rw [if_neg (by omega), if_pos (by omega)]
      have e2 : frameB l = [] := by unfold frameB; rw [if_pos (by omega)]
      have := hk ⟨none, 0, 0⟩ h (by rw [e2]; exact Own.nil h _ 1) (Ext.refl h) (fun h => by rw [e1] at h; cases h)
      rw [e1] at this
      exact this
    · simp at h2
      have e1 : frameE l = 0 := by unfold frameE; rw [if_neg (by omega), if_neg (by omega)]
      have e2 : frameB l = header l.length ++ l := by unfold frameB; rw [if_neg (by omega)]
      refine ⟨by omega, by omega, by omega, newC_intro ?_⟩
      have hcells : [Value.int .u8 (IntKind.wrap .u8 (shrV .i64 (b.len : Int) 24)), Value.int .u8 (IntKind.wrap .u8 (shrV .i64 (b.len : Int) 16)), Value.int .u8 (IntKind.wrap .u8 (shrV .i64 (b.len : Int) 8)), Value.int .u8 (IntKind.wrap .u8 (b.len : Int))] = (header l.length).map bv := by
        rw [show (24 : Int) = ((24 : Nat) : Int) from rfl, show (16 : Int) = ((16 : Nat) : Int) from rfl, show (8 : Int) = ((8 : Nat) : Int) from rfl, shr_nat _ _ (by omega), shr_nat _ _ (by omega), shr_nat _ _ (by omega)]
        rw [bv_ofNat, bv_ofNat, bv_ofNat, bv_ofNat, hlen]
        rfl
      rw [hcells]
      have hext := Ext.push h (.cells ((header l.length).map bv).toArray 5)
      refine (hb.ext hext).rd ?_
      have ho := Own.newC (h := h) (cells := (header l.length).map bv) (t := 5) (size := 1) (n := 4) (by simp [header]) (by decide)
      refine Own.app ho (by simp [hlen]) (oneCell_bv l) rfl (by simp; omega) (by simp; omega) (by simp) ?_
      intro s' h' ho' hl' hu hblk
      have := hk s' h' (by rw [e2, List.map_append]; exact ho') (hext.then hu ?_) (fun _ => ?_)
      · rw [e1] at this
        exact this
      · intro k hk
        simp [Sl.blk] at hk
        omega
      · rcases hblk with h1 | h1 <;> rw [h1] <;> simp [Sl.blk]

/-! ### a reader -/
/-- a reader at block b: what it has gathered, whether it is broken; its bytes lie in no block below 'base' -/
structure IsR (h : Heap) (b base : Nat) (st : List UInt8) (br : Bool) : Prop where
  cells : ∃ s : Sl, h[b]? = some (.cells #[slV s, .bool br] 62 (0, 0)) ∧ Bytes h s st ∧ (∀ k, s.blk = some k → base ≤ k ∧ k ≠ b) ∧ (br = true → s = ⟨none, 0, 0⟩ ∧ st = [])

theorem IsR.lt {h : Heap} {b base : Nat} {st : List UInt8} {br : Bool} (hr : IsR h b base st br) : b < h.size := by
  obtain ⟨s, hb, _⟩ := hr.cells
  rcases Nat.lt_or_ge b h.size with hl | hl
  · exact hl
  · rw [Array.getElem?_eq_none hl] at hb; cases hb

theorem New_spec {h : Heap} {K : Option Addr → Heap → Prop} (hk : ∀ h', (∀ base, IsR h' h.size base [] false) → Ext h h' → h'.size = h.size + 1 → K (some ⟨h.size, 0, none⟩) h') : m_frame_New K h := by
  unfold m_frame_New g_frame_New
  refine newC_intro (hk _ (fun base => ⟨⟨none, 0, 0⟩, ?_, Row.nil _ 1, by simp [Sl.blk], by simp⟩) (Ext.push _ _) (by simp))
  rw [push_new]
  rfl

theorem IsR.cell0 {h : Heap} {b base : Nat} {st : List UInt8} {br : Bool} (hr : IsR h b base st br) {K : Sl → Prop} (hk : ∀ s, Bytes h s st → K s) : ldL h b 0 K := by
  obtain ⟨s, hb, hs, hn⟩ := hr.cells
  exact ⟨s, by rw [cell_block hb]; rfl, hk s hs⟩
theorem IsR.cell1 {h : Heap} {b base : Nat} {st : List UInt8} {br : Bool} (hr : IsR h b base st br) {K : Bool → Prop} (hk : K br) : ldB h b 1 K := by
  obtain ⟨s, hb, hs, hn⟩ := hr.cells
  exact ⟨br, by rw [cell_block hb]; rfl, hk⟩
theorem deref_some {b o : Nat} {K : Nat → Nat → Prop} (hk : K b o) : derefP (some ⟨b, o, none⟩) K := ⟨b, o, rfl, hk⟩

theorem Left_spec {h : Heap} {b base : Nat} {st : List UInt8} {br : Bool} {K : Int → Heap → Prop} (hr : IsR h b base st br) (hk : K (st.length : Int) h) : m_frame_Reader_Left (some ⟨b, 0, none⟩) K h := by
  unfold m_frame_Reader_Left g_frame_Reader_Left
  refine iteP_false (deref_some (hr.cell0 fun s hs => ?_))
  simp only [bindI]
  rw [hs.length]
  exact hk
theorem Left_none {h : Heap} {K : Int → Heap → Prop} (hk : K 0 h) : m_frame_Reader_Left none K h := iteP_true hk

theorem Broken_spec {h : Heap} {b base : Nat} {st : List UInt8} {br : Bool} {K : Bool → Heap → Prop} (hr : IsR h b base st br) (hk : K br h) : m_frame_Reader_Broken (some ⟨b, 0, none⟩) K h := by
  unfold m_frame_Reader_Broken g_frame_Reader_Broken
  exact iteP_true (deref_some (hr.cell1 hk))
theorem Broken_none {h : Heap} {K : Bool → Heap → Prop} (hk : K false h) : m_frame_Reader_Broken none K h := iteP_false hk

def missing (st : List UInt8) (br : Bool) : Int := if br then 0 else if st.length < 4 then 4 - st.length else 4 + lenv st - st.length

theorem Missing_spec {h : Heap} {b base : Nat} {st : List UInt8} {br : Bool} {K : Int → Heap → Prop} (hr : IsR h b base st br) (hsz : st.length ≤ 140737488355328) (hk : K (missing st br) h) : m_frame_Reader_Missing (some ⟨b, 0, none⟩) K h := by
  unfold m_frame_Reader_Missing g_frame_Reader_Missing
  unfold missing at hk
  refine iteP_false (deref_some (hr.cell1 ?_))
  simp only [bindI, bindB]
  cases br with
  | true => exact iteP_true hk
  | false =>
    refine iteP_false (deref_some (hr.cell0 fun s hs => ?_))
    rw [hs.length]
    refine iteP_dec (fun h1 => ?_) (fun h1 => ?_)
    · refine deref_some (hr.cell0 fun s hs => ?_)
      rw [hs.length, wrap64 (by omega) (by omega)]
      rw [if_neg (by simp), if_pos (by omega)] at hk
      exact hk
    · refine deref_some (hr.cell0 fun s hs => ?_)
      refine length_spec hs (deref_some (hr.cell0 fun s hs => ?_))
      have := lenv_lt st
      rw [hs.length, wrap64 (n := (4 : Int) + (lenv st : Int)) (by omega) (by omega), wrap64 (by omega) (by omega)]
      rw [if_neg (by simp), if_neg (by omega)] at hk
      exact hk
theorem Missing_none {h : Heap} {K : Int → Heap → Prop} (hk : K 0 h) : m_frame_Reader_Missing none K h := iteP_true hk
theorem Put_none {h : Heap} {b : Sl} {K : Sl → Int → Heap → Prop} (hk : K ⟨none, 0, 0⟩ 1 h) : m_frame_Reader_Put none b K h := iteP_true hk
theorem Reset_none {h : Heap} {K : Heap → Prop} (hk : K h) : m_frame_Reader_Reset none K h := iteP_false hk
theorem Fork_none {h : Heap} {K : Option Addr → Heap → Prop} (hk : K none h) : m_frame_Reader_Fork none K h := iteP_true hk

/-! ### putting bytes into a reader -/
def cutA (all : List UInt8) : List (List UInt8) × Bool × List UInt8 :=
  if h : all.length < 4 then ([], false, all) else
  if lenok all = false then ([], true, []) else
  if all.length - 4 < lenv all then ([], false, all) else
  ((all.drop 4).take (lenv all) :: (cutA (all.drop (4 + lenv all))).1, (cutA (all.drop (4 + lenv all))).2)
termination_by all.length
decreasing_by all_goals (simp; omega)

def putS (st : List UInt8) (br : Bool) (l : List UInt8) : List (List UInt8) × Bool × List UInt8 := if br then ([], true, st) else cutA (st ++ l)

theorem cutA_short {all : List UInt8} (h : all.length < 4) : cutA all = ([], false, all) := by
  rw [cutA, dif_pos h]
theorem cutA_bad {all : List UInt8} (h : ¬ all.length < 4) (h2 : lenok all = false) : cutA all = ([], true, []) := by
  rw [cutA, dif_neg h, if_pos h2]
theorem cutA_wait {all : List UInt8} (h : ¬ all.length < 4) (h2 : lenok all = true) (h3 : all.length - 4 < lenv all) : cutA all = ([], false, all) := by
  rw [cutA, dif_neg h, if_neg (by simp [h2]), if_pos h3]
theorem cutA_one {all : List UInt8} (h : ¬ all.length < 4) (h2 : lenok all = true) (h3 : ¬ all.length - 4 < lenv all) :
    cutA all = ((all.drop 4).take (lenv all) :: (cutA (all.drop (4 + lenv all))).1, (cutA (all.drop (4 + lenv all))).2) := by
  rw [cutA, dif_neg h, if_neg (by simp [h2]), if_neg h3]

theorem lenok_pos {all : List UInt8} (h : ¬ all.length < 4) (h2 : lenok all = true) : 1 ≤ lenv all ∧ lenv all ≤ 4096 := by
  unfold lenok at h2
  rw [if_neg (by omega), if_neg (by omega)] at h2
  simpa using h2

theorem st_intro {h : Heap} {b o : Nat} {v : Value} {K : Heap → Prop} {c : Array Value} {e : TypeId} (hb : h[b]? = some (.cells c e (0, 0))) (ho : o < c.size) (hv : oneCell v = true) (hk : K (h.put b o v)) : st h b o v K := by
  refine ⟨⟨c[o], by rw [cell_block hb]; simp [ho]⟩, ?_, hv, hk⟩
  unfold Heap.froz; rw [hb]; simp

theorem Put_spec {h : Heap} {b base : Nat} {st : List UInt8} {br : Bool} {s : Sl} {l : List UInt8} {K : Sl → Int → Heap → Prop} (hr : IsR h b base st br) (hs : Bytes h s l) (hsz : st.length + l.length ≤ 1099511627776)
    (hk : ∀ out h', OwnRows h' h.size out (putS st br l).1 → (∀ base', (base' ≤ h.size ∨ (putS st br l).2.1 = true) → IsR h' b base' (putS st br l).2.2 (putS st br l).2.1) → Upd (· = b) h h' → K out (if (putS st br l).2.1 then 50 else 0) h') :
    m_frame_Reader_Put (some ⟨b, 0, none⟩) s K h := by
  unfold m_frame_Reader_Put g_frame_Reader_Put
  simp only [bindI, bindB]
  refine iteP_false (deref_some (hr.cell1 ?_))
  have hblt := hr.lt
  cases br with
  | true =>
    refine iteP_true ?_
    have := hk ⟨none, 0, 0⟩ h (OwnRows.nil h _) (fun base' _ => ?_) (Upd.refl _ h)
    · exact this
    · obtain ⟨q, h1, h2, h3, h4⟩ := hr.cells
      obtain ⟨rfl, h5⟩ := h4 rfl
      exact ⟨⟨none, 0, 0⟩, h1, h2, by simp [Sl.blk], fun _ => ⟨rfl, h5⟩⟩
  | false =>
    refine iteP_false (deref_some ?_)
    obtain ⟨q, hq, hqs, hqb, _⟩ := hr.cells
    have hp : putS st false l = cutA (st ++ l) := rfl
    rw [hp] at hk
    refine ⟨q, by rw [cell_block hq]; rfl, ?_⟩
    refine Clone_spec hqs (by omega) fun s1 h1 ho1 hext1 _ => ?_
    refine (hs.ext hext1).rd ?_
    have hslen := hs.length
    have h1len : s1.len = st.length := Bytes.length ho1.row
    refine Own.app ho1 (by simp [hslen]) (oneCell_bv l) rfl (by simp; omega) (by omega) hext1.size ?_
    intro all0 h2 ho2 hl2 hu2 hblk2
    rw [← List.map_append] at ho2
    have hext2 : Ext h h2 := hext1.then hu2 fun k hk => (ho1.lt hk).1
    have hq2 : h2[b]? = some (.cells #[slV q, .bool false] 62 (0, 0)) := by rw [hext2.old b hblt]; exact hq
    -- the loop's relation
    let Rel : Sl × Sl × Unit → Heap → List UInt8 → Prop := fun p h' rest =>
      Bytes h' p.1 rest ∧ (∀ k, p.1.blk = some k → h.size ≤ k ∧ k < h'.size ∧ p.2.1.blk ≠ some k) ∧ Ext h h' ∧ ∃ ls, OwnRows h' h.size p.2.1 ls ∧ ls.length + rest.length ≤ st.length + l.length ∧ cutA (st ++ l) = (ls ++ (cutA rest).1, (cutA rest).2)
    refine cutP_intro (fun p h' => ∃ rest, Rel p h' rest ∧ (cutA rest) = ([], false, rest)) ?_ ?_
    · rintro ⟨all, out, u⟩ h' ⟨rest, ⟨hall, hallb, hext, ls, hls, hlen, hcut⟩, hrest⟩
      dsimp only at hall hallb hls ⊢
      rw [hrest] at hcut
      simp only [List.append_nil] at hcut
      have hq' : h'[b]? = some (.cells #[slV q, .bool false] 62 (0, 0)) := by rw [hext.old b hblt]; exact hq
      refine deref_some (st_intro hq' (by simp) rfl ?_)
      have hpb : (h'.put b 0 (slV all))[b]? = some (.cells #[slV all, .bool false] 62 (0, 0)) := by rw [put_block hq']; rfl
      rw [hcut] at hk
      refine hk out _ (hls.congr fun k hk1 hk2 => put_other (by omega)) ?_ ((hext.upd _).trans (Upd.put h' b 0 _))
      intro base' hb'
      refine ⟨all, hpb, ?_, ?_, by simp⟩
      · refine hall.congr fun k o hp _ _ => put_other ?_
        have := (hallb k (by simp [Sl.blk, hp])).1
        omega
      · intro k hk1
        have := (hallb k hk1).1
        rcases hb' with hb' | hb'
        · omega
        · cases hb'
    · refine loopM_intro (fun p h' => ∃ rest, Rel p h' rest) (fun p _ => p.1.len) ?_ ?_
      · refine ⟨st ++ l, ?_, ?_, hext2, [], OwnRows.nil h2 _, by simp, by simp⟩
        · exact ho2.row
        · intro k hk1
          exact ⟨(ho2.lt hk1).1, (ho2.lt hk1).2, by simp [Sl.blk]⟩
      · rintro ⟨all, out, u⟩ h' ⟨rest, hall, hallb, hext, ls, hls, hlen, hcut⟩
        dsimp only at hall hallb hls ⊢
        have hal := hall.length
        refine iteP_dec (fun h4 => ?_) (fun h4 => ?_)
        · have h4' : ¬ rest.length < 4 := by omega
          refine length_spec hall ?_
          refine ⟨fun hbad => ?_, fun hgood => ?_⟩
          · have hbad' : lenok rest = false := by simpa using hbad
            rw [cutA_bad h4' hbad'] at hcut
            simp only [List.append_nil] at hcut
            have hq' : h'[b]? = some (.cells #[slV q, .bool false] 62 (0, 0)) := by rw [hext.old b hblt]; exact hq
            refine deref_some (st_intro hq' (by simp) rfl ?_)
            have hq2 : (h'.put b 0 (.slice none 0 0))[b]? = some (.cells #[slV ⟨none, 0, 0⟩, .bool false] 62 (0, 0)) := by rw [put_block hq']; rfl
            refine deref_some (st_intro hq2 (by simp) rfl ?_)
            rw [hcut] at hk
            refine hk out _ (hls.congr fun k hk1 hk2 => ?_) ?_ (((hext.upd _).trans (Upd.put h' b 0 _)).trans (Upd.put _ b 1 _))
            · rw [put_other (by omega), put_other (by omega)]
            · intro base' _
              refine ⟨⟨none, 0, 0⟩, by rw [put_block hq2]; rfl, Row.nil _ 1, by simp [Sl.blk], fun _ => ⟨rfl, rfl⟩⟩
          · have hgood' : lenok rest = true := by simpa using hgood
            have hpos := lenok_pos h4' hgood'
            rw [hal, wrap64 (by omega) (by omega)]
            refine iteP_dec (fun h5 => ?_) (fun h5 => ?_)
            · refine ⟨rest, ⟨hall, hallb, hext, ls, hls, hlen, hcut⟩, cutA_wait h4' hgood' (by omega)⟩
            · have h5' : ¬ rest.length - 4 < lenv rest := by omega
              have hw : IntKind.wrap .i64 ((4 : Int) + (lenv rest : Int)) = ((4 + lenv rest : Nat) : Int) := by rw [wrap64 (by omega) (by omega)]; omega
              rw [hw]
              have hcap := hall.cap
              refine Row.slc hall (a := 4) (b := 4 + lenv rest) (m := all.cap) rfl rfl rfl (by omega) (by omega) (by omega) (Nat.le_refl _) ?_
              intro p1 hp1 _ _ _
              have hp1' : Bytes h' p1 ((rest.drop 4).take (lenv rest)) := by
                have e : ((rest.map bv).drop 4).take (4 + lenv rest - 4) = ((rest.drop 4).take (lenv rest)).map bv := by
                  rw [List.map_take, List.map_drop]; congr 1; omega
                rw [e] at hp1; exact hp1
              refine Clone_spec hp1' (by simp; omega) fun p2 h3 hop2 hext3 _ => ?_
              refine newC_intro ?_
              have hext4 := Ext.push h3 (.cells [slV p2].toArray 29)
              have hrow : Row (h3.push (.cells [slV p2].toArray 29)) ⟨some ⟨h3.size, 0, none⟩, 1, 1⟩ 1 [slV p2] := (Own.newC (h := h3) (cells := [slV p2]) (t := 29) (size := 1) (n := 1) rfl (by decide)).row
              refine hrow.rd ?_
              obtain ⟨ss, g1, g2, g3, g4, g5⟩ := hls.rows
              have hext34 := hext3.trans hext4
              have g1' := g1.congr (h' := h3.push (.cells [slV p2].toArray 29)) fun k _ hl _ => hext34.old k hl
              have holen := hls.len
              refine Own.app g1' (by simp) rfl rfl (by omega) (by omega) (by have := hext.size; have := hext3.size; simp; omega) ?_
              intro out' h5 ho5 hl5 hu5 hblk5
              refine Row.slc (h := h5) (s := all) (vs := rest.map bv) ?_ (a := 4 + lenv rest) (b := rest.length) (m := all.cap) rfl rfl rfl (by omega) (by omega) (by omega) (Nat.le_refl _) ?_
              · refine (hall.ext hext34).congr fun k o hp _ hl => hu5.old k hl fun hsb => ?_
                exact (hallb k (by simp [Sl.blk, hp])).2.2 hsb
              · intro all' hall' _ _ hblk'
                have hdrop : ((rest.map bv).drop (4 + lenv rest)).take (rest.length - (4 + lenv rest)) = (rest.drop (4 + lenv rest)).map bv := by
                  rw [List.map_drop, List.take_of_length_le (by simp)]
                rw [hdrop] at hall'
                have hext5 : Ext h h5 := (hext.trans hext34).then hu5 fun k hk1 => by
                  have := (g1.lt hk1).1; exact this
                refine ⟨⟨rest.drop (4 + lenv rest), hall', ?_, hext5, ls ++ [(rest.drop 4).take (lenv rest)], ?_, ?_, ?_⟩, ?_⟩
                · intro k hk1
                  have hk2 := hallb k (hblk' k hk1)
                  have e1 := hext3.size
                  have e2 := hu5.size
                  simp at e2
                  refine ⟨hk2.1, by omega, ?_⟩
                  rcases hblk5 with h6 | h6
                  · rw [h6]; exact hk2.2.2
                  · rw [h6]; intro he; simp at he; omega
                · refine OwnRows.snoc (x := p2) (h1 := h3.push (.cells [slV p2].toArray 29)) hls hext34 ?_ ?_ ?_ hu5 hblk5
                  · exact hop2.congr fun k _ hl _ => hext4.old k hl
                  · exact hext.size
                  · intro vs hv1 _
                    have : vs = ss.map slV := by
                      rcases hv1.at_ with ⟨hz1, hz2⟩ | ⟨k1, c1, e1, z1, z2, z3, z4, z5⟩
                      · have a1 := hv1.len
                        have a2 := g1.len
                        have a3 := hv1.cap
                        have b1 : vs = [] := List.eq_nil_of_length_eq_zero (by rw [a1]; omega)
                        have b2 : ss.map slV = [] := List.eq_nil_of_length_eq_zero (by rw [a2]; omega)
                        rw [b1, b2]
                      · rcases g1.at_ with ⟨hz1, hz2⟩ | ⟨k2, c2, e2, y1, y2, y3, y4, y5⟩
                        · rw [hz1] at z1; cases z1
                        · rw [z1] at y1
                          cases y1
                          rw [z3] at y3
                          cases y3
                          rw [z5, y5]
                    rw [this]
                    exact ho5
                · simp; omega
                · rw [hcut, cutA_one h4' hgood' h5']
                  simp
                · have := Bytes.length hall'
                  simp at this
                  omega
        · exact ⟨rest, ⟨hall, hallb, hext, ls, hls, hlen, hcut⟩, cutA_short (by omega)⟩

theorem Same_spec {a b : Sl} {l m : List UInt8} {h : Heap} {K : Bool → Heap → Prop} (ha : Bytes h a l) (hb : Bytes h b m) (hk : K (decide (l = m)) h) : m_spillwaymem_Same a b K h := by
  unfold m_spillwaymem_Same g_spillwaymem_Same
  have h1 := ha.length
  have h2 := hb.length
  have h3 := ha.big
  have h4 := ha.cap
  simp only [bindI]
  rw [h1, h2]
  refine ⟨fun hne => ?_, fun heq => ?_⟩
  · have : l ≠ m := by rintro rfl; simp at hne
    rw [decide_eq_false this] at hk
    exact hk
  · have hlm : l.length = m.length := by simp at heq; omega
    refine loopM_intro (fun s h' => h' = h ∧ ∃ k : Nat, k ≤ l.length ∧ s.1 = (k : Int) ∧ l.take k = m.take k) (fun s _ => l.length - s.1.toNat) ⟨rfl, 0, Nat.zero_le _, rfl, by simp⟩ ?_
    rintro ⟨i, u⟩ h' ⟨rfl, k, hk', hi, htake⟩
    dsimp only at hi
    subst hi
    dsimp only
    refine iteP_dec (fun hlt => ?_) (fun hge => ?_)
    · have hl1 : k < l.length := by omega
      have hl2 : k < m.length := by omega
      refine Bytes.idx' ha h1.symm rfl (List.getElem?_eq_getElem hl1) ?_
      refine Bytes.idx' hb h2.symm rfl (List.getElem?_eq_getElem hl2) ?_
      refine ⟨fun hne => ?_, fun he => ?_⟩
      · have : l ≠ m := by rintro rfl; simp at hne
        rw [decide_eq_false this] at hk
        exact hk
      · have he' : l[k] = m[k] := by
          simp at he
          exact UInt8.toNat_inj.1 (by omega)
        rw [wrap64 (by omega) (by omega)]
        refine ⟨⟨rfl, k + 1, by omega, by omega, ?_⟩, by omega⟩
        rw [List.take_succ_eq_append_getElem hl1, List.take_succ_eq_append_getElem hl2, htake, he']
    · have : l = m := by
        rw [List.take_of_length_le (by omega), List.take_of_length_le (by omega)] at htake
        exact htake
      rw [decide_eq_true this] at hk
      exact hk

end Go.Proofs.Ytpbpooaleiolcaa
