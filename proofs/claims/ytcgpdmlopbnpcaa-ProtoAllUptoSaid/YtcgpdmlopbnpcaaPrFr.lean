/- The frame's functions in this seat: lines of wip/frame, turned by a program. -/
import Derived.Test.YtcgpdmlopbnpcaaPrArg
import Derived.Test.YtcgpdmlopbnpcaaPrH
namespace Go.Proofs.Ytcgpdmlopbnpcaa
open Go Go.Fw

theorem Clone_spec {b : Sl} {l : List UInt8} {h : Heap} {K : Sl → Heap → Prop} (hb : Bytes h b l) (hsz : l.length ≤ 140737488355328)
    (hk : ∀ s h', Own h' h.size s 1 (l.map bv) → Ext h h' → (l ≠ [] → s.blk ≠ none) → K s h') : m_bytes_Clone b K h := by
  unfold m_bytes_Clone g_bytes_Clone
  have hlen := hb.length
  cases hp : b.ptr with
  | none =>
    refine iteP_true ?_
    have : l = [] := by
      rcases hb.at_ with h0 | ⟨bb, o, hp', _⟩
      · exact List.eq_nil_of_length_eq_zero (by omega)
      · rw [hp] at hp'; cases hp'
    subst this
    exact hk _ _ (Own.nil h h.size 1) (Ext.refl h) (fun h => absurd rfl h)
  | some a =>
    refine iteP_false ?_
    have hext := Ext.push h (.cells #[] 5)
    refine newC_intro ((hb.ext hext).rd ?_)
    have ho := Own.newC (h := h) (cells := []) (t := 5) (size := 1) (n := 0) rfl (by decide)
    refine Own.app ho (by simp [hlen]) (oneCell_bv l) rfl (by simp [hlen]; omega) (by simp [hlen]; omega) (by simp) ?_
    intro s' h' ho' hl' hu hblk
    refine hk s' h' (by simpa using ho') (hext.then hu ?_) (fun _ => ?_)
    · intro k hk
      simp [Sl.blk] at hk
      omega
    · rcases hblk with h1 | h1 <;> rw [h1] <;> simp [Sl.blk]

def lenv (l : List UInt8) : Nat := (l.take 4).foldl (fun n c => n * 256 + c.toNat) 0

def lenok (l : List UInt8) : Bool :=
  if l.length = 0 ∨ l.length = 1 ∨ l.length = 2 then lenv l == 0 else if l.length = 3 then decide (lenv l ≤ 16) else decide (1 ≤ lenv l) && decide (lenv l ≤ 4096)

theorem or_shift (n c : Nat) (hn : n < 16777216) (hc : c < 256) : orV .i64 (shlV .i64 (n : Int) 8) (IntKind.wrap .i64 (c : Int)) = ((n * 256 + c : Nat) : Int) := by
  have h1 : shlV .i64 (n : Int) 8 = ((n * 256 : Nat) : Int) := by
    unfold shlV
    have : min (8 : Int).toNat IntKind.i64.bits = 8 := by decide
    rw [this, wrap64 (by omega) (by omega)]
    omega
  have h2 : IntKind.wrap .i64 (c : Int) = (c : Int) := wrap64 (by omega) (by omega)
  rw [h1, h2]
  unfold orV
  have hb : IntKind.i64.bits = 64 := rfl
  have e : BitVec.toNat (BitVec.ofInt IntKind.i64.bits ((n * 256 : Nat) : Int) ||| BitVec.ofInt IntKind.i64.bits (c : Int)) = n * 256 + c := by
    rw [hb, BitVec.toNat_or]
    simp only [BitVec.ofInt_natCast, BitVec.toNat_ofNat]
    rw [Nat.mod_eq_of_lt (by omega), Nat.mod_eq_of_lt (by omega), Nat.mul_comm n 256, show (256 : Nat) = 2 ^ 8 from rfl, ← Nat.two_pow_add_eq_or_of_lt (by omega)]
  rw [e, wrap64 (by omega) (by omega)]

theorem foldl_lt (l : List UInt8) (k : Nat) : (l.take k).foldl (fun n c => n * 256 + c.toNat) 0 < 256 ^ k := by
  induction k with
  | zero => simp
  | succ k ih =>
    rcases Nat.lt_or_ge k l.length with h | h
    · rw [List.take_succ_eq_append_getElem h, List.foldl_append]
      have := (l[k]).toNat_lt
      simp only [List.foldl_cons, List.foldl_nil]
      rw [Nat.pow_succ]
      omega
    · rw [List.take_of_length_le (by omega)]
      rw [List.take_of_length_le h] at ih
      refine Nat.lt_of_lt_of_le ih (Nat.pow_le_pow_right (by omega) (by omega))

theorem lenv_lt (l : List UInt8) : lenv l < 4294967296 := foldl_lt l 4

theorem length_spec {b : Sl} {l : List UInt8} {h : Heap} {K : Int → Bool → Heap → Prop} (hb : Bytes h b l) (hk : K (lenv l) (lenok l) h) : m_frame_length b K h := by
  unfold m_frame_length g_frame_length
  have hlen := hb.length
  have hcap := hb.cap
  have hbig := hb.big
  have hm : minV 4 (b.len : Int) = ((min 4 l.length : Nat) : Int) := by unfold minV; rw [hlen]; split <;> omega
  simp only [bindI, bindB]
  refine Row.slc hb (a := 0) (b := min 4 l.length) (m := b.cap) rfl hm rfl (Nat.zero_le _) (by omega) (by omega) (Nat.le_refl _) ?_
  intro s hs hsl hsc _
  have hs' : Bytes h s (l.take (min 4 l.length)) := by
    have : ((l.map bv).drop 0).take (min 4 l.length - 0) = (l.take (min 4 l.length)).map bv := by simp
    rw [this] at hs
    exact hs
  have hmin : l.take (min 4 l.length) = l.take 4 := by
    rcases Nat.lt_or_ge 4 l.length with h | h
    · rw [Nat.min_eq_left (by omega)]
    · rw [Nat.min_eq_right (by omega), List.take_of_length_le (Nat.le_refl _), List.take_of_length_le h]
  rw [hmin] at hs'
  refine loopM_intro (fun s' h' => h' = h ∧ ∃ k : Nat, k ≤ s.len ∧ s'.2.1 = (k : Int) ∧ s'.1 = ((((l.take 4).take k).foldl (fun n c => n * 256 + c.toNat) 0 : Nat) : Int)) (fun s' _ => s.len - s'.2.1.toNat) ⟨rfl, 0, Nat.zero_le _, rfl, by simp⟩ ?_
  rintro ⟨n, i, u⟩ h' ⟨rfl, k, hk', hi, hn⟩
  dsimp only at hi hn
  subst hi hn
  dsimp only
  have hsl' : s.len = min 4 l.length := by simpa using hsl
  refine iteP_dec ?_ ?_
  · intro hlt
    have hlt' : k < (l.take 4).length := by rw [List.length_take]; omega
    have hx : (l.take 4)[k]? = some (l.take 4)[k] := List.getElem?_eq_getElem hlt'
    refine Bytes.idx hs' rfl hx ?_
    have hlt2 : ((l.take 4).take k).foldl (fun n c => n * 256 + c.toNat) 0 < 16777216 := by
      have h1 := foldl_lt (l.take 4) k
      have : 256 ^ k ≤ 256 ^ 3 := Nat.pow_le_pow_right (by omega) (by omega)
      omega
    refine ⟨by omega, ?_⟩
    refine ⟨⟨rfl, k + 1, by omega, ?_, ?_⟩, ?_⟩
    · rw [wrap64 (by omega) (by omega)]
      omega
    · rw [or_shift _ _ hlt2 ((l.take 4)[k]).toNat_lt, List.take_succ_eq_append_getElem hlt', List.foldl_append]
      rfl
    · rw [wrap64 (by omega) (by omega)]
      omega
  · intro hge
    have hfull : (l.take 4).take k = l.take 4 := List.take_of_length_le (by rw [List.length_take]; omega)
    rw [hfull]
    have key : ∀ (v : Bool), lenok l = v → K ((lenv l : Nat) : Int) v h' := fun v hv => hv ▸ hk
    unfold lenok at key
    have eN : ((List.foldl (fun n (c : UInt8) => n * 256 + c.toNat) 0 (List.take 4 l) : Nat) : Int) = ((lenv l : Nat) : Int) := rfl
    rw [eN]
    generalize lenv l = N at key ⊢
    rw [hlen]
    have e0 : ((N : Int) == 0) = (N == 0) := by rw [Bool.eq_iff_iff]; simp
    have e16 : decide ((N : Int) ≤ 16) = decide (N ≤ 16) := by rw [Bool.eq_iff_iff]; simp; omega
    have e4 : decide ((N : Int) ≤ 4096) = decide (N ≤ 4096) := by rw [Bool.eq_iff_iff]; simp; omega
    refine cutP_self ?_
    rw [e0, e16, e4]
    have h4 : l.length = 0 ∨ l.length = 1 ∨ l.length = 2 ∨ l.length = 3 ∨ 4 ≤ l.length := by omega
    rcases h4 with h4 | h4 | h4 | h4 | h4
    · rw [h4] at key ⊢; exact iteP_true (iteP_true (key _ rfl))
    · rw [h4] at key ⊢; exact iteP_false (iteP_true (iteP_true (key _ rfl)))
    · rw [h4] at key ⊢; exact iteP_false (iteP_false (iteP_true (key _ rfl)))
    · rw [h4] at key ⊢; exact iteP_false (iteP_false (iteP_false (iteP_true (key _ rfl))))
    · rw [if_neg (by omega), if_neg (by omega)] at key
      have n0 : ((l.length : Int) == 0) = false := by simp; intro h; subst h; simp at h4
      have n1 : ((l.length : Int) == 1) = false := by simp; omega
      have n2 : ((l.length : Int) == 2) = false := by simp; omega
      have n3 : ((l.length : Int) == 3) = false := by simp; omega
      rw [n0, n1, n2, n3]
      refine iteP_false (iteP_false (iteP_false (iteP_false ?_)))
      refine iteP_dec (fun h => key _ ?_) (fun h => key _ ?_)
      · have : 1 ≤ N := by omega
        simp [this]
      · have : ¬ 1 ≤ N := by omega
        simp [this]

def header (n : Nat) : List UInt8 := [UInt8.ofNat (n / 16777216), UInt8.ofNat (n / 65536), UInt8.ofNat (n / 256), UInt8.ofNat n]

def frameE (p : List UInt8) : Int := if p.length > 4096 then 5 else if p.length = 0 then 6 else 0

def frameB (p : List UInt8) : List UInt8 := if p.length > 4096 ∨ p.length = 0 then [] else header p.length ++ p

theorem shr_nat (n k : Nat) (hk : k < 64) : shrV .i64 (n : Int) (k : Int) = ((n / 2 ^ k : Nat) : Int) := by
  unfold shrV
  have hb : IntKind.i64.bits = 64 := rfl
  rw [hb]
  have : min (k : Int).toNat 64 = k := by omega
  rw [this]
  rw [Int.fdiv_eq_ediv_of_nonneg _ (by have : (0 : Int) < 2 ^ k := Int.pow_pos (by decide); omega)]
  have e : ((2 : Int) ^ k) = ((2 ^ k : Nat) : Int) := by simp
  rw [e]
  rfl

theorem Frame_spec {b : Sl} {l : List UInt8} {h : Heap} {K : Sl → Int → Heap → Prop} (hb : Bytes h b l)
    (hk : ∀ s h', Own h' h.size s 1 ((frameB l).map bv) → Ext h h' → (frameE l = 0 → s.blk ≠ none) → K s (frameE l) h') : m_frame_Frame b K h := by
  unfold m_frame_Frame g_frame_Frame
  have hlen := hb.length
  simp only [bindI, bindB]
  refine iteP_dec (fun h1 => ?_) (fun h1 => ?_)
  · have e1 : frameE l = 5 := by unfold frameE; rw [if_pos (by omega)]
    have e2 : frameB l = [] := by unfold frameB; rw [if_pos (by omega)]
    have := hk ⟨none, 0, 0⟩ h (by rw [e2]; exact Own.nil h _ 1) (Ext.refl h) (fun h => by rw [e1] at h; cases h)
    rw [e1] at this
    exact this
  · refine ⟨fun h2 => ?_, fun h2 => ?_⟩
    · simp at h2
      have e1 : frameE l = 6 := by unfold frameE; rw [if_neg (by omega), if_pos (by omega)]
      have e2 : frameB l = [] := by unfold frameB; rw [if_pos (by omega)]
      have := hk ⟨none, 0, 0⟩ h (by rw [e2]; exact Own.nil h _ 1) (Ext.refl h) (fun h => by rw [e1] at h; cases h)
      rw [e1] at this
      exact this
    · simp at h2
      have e1 : frameE l = 0 := by unfold frameE; rw [if_neg (by omega), if_neg (by omega)]
      have e2 : frameB l = header l.length ++ l := by unfold frameB; rw [if_neg (by omega)]
      refine ⟨by omega, by omega, by omega, newC_intro ?_⟩
      have hcells : [Value.int .u8 (IntKind.wrap .u8 (shrV .i64 (b.len : Int) 24)), Value.int .u8 (IntKind.wrap .u8 (shrV .i64 (b.len : Int) 16)), Value.int .u8 (IntKind.wrap .u8 (shrV .i64 (b.len : Int) 8)), Value.int .u8 (IntKind.wrap .u8 (b.len : Int))] = (header l.length).map bv := by
        rw [show (24 : Int) = ((24 : Nat) : Int) from rfl, show (16 : Int) = ((16 : Nat) : Int) from rfl, show (8 : Int) = ((8 : Nat) : Int) from rfl, shr_nat _ _ (by omega), shr_nat _ _ (by omega), shr_nat _ _ (by omega)]
        rw [bv_ofNat, bv_ofNat, bv_ofNat, bv_ofNat, hlen]
        rfl
      rw [hcells]
      have hext := Ext.push h (.cells ((header l.length).map bv).toArray 5)
      refine (hb.ext hext).rd ?_
      have ho := Own.newC (h := h) (cells := (header l.length).map bv) (t := 5) (size := 1) (n := 4) (by simp [header]) (by decide)
      refine Own.app ho (by simp [hlen]) (oneCell_bv l) rfl (by simp; omega) (by simp; omega) (by simp) ?_
      intro s' h' ho' hl' hu hblk
      have := hk s' h' (by rw [e2, List.map_append]; exact ho') (hext.then hu ?_) (fun _ => ?_)
      · rw [e1] at this
        exact this
      · intro k hk
        simp [Sl.blk] at hk
        omega
      · rcases hblk with h1 | h1 <;> rw [h1] <;> simp [Sl.blk]

theorem lenok_pos {all : List UInt8} (h : ¬ all.length < 4) (h2 : lenok all = true) : 1 ≤ lenv all ∧ lenv all ≤ 4096 := by
  unfold lenok at h2
  rw [if_neg (by omega), if_neg (by omega)] at h2
  simpa using h2

theorem mem_le_total {ll : List (List UInt8)} {k : Nat} {l : List UInt8} (h : ll[k]? = some l) : l.length + 1 ≤ total ll := by
  induction ll generalizing k with
  | nil => simp at h
  | cons x r ih =>
    cases k with
    | zero => simp at h; subst h; simp [total]
    | succ k =>
      have := ih (by simpa using h)
      simp only [total, List.map_cons, List.sum_cons] at this ⊢
      omega

def good (l : List UInt8) : Prop := 1 ≤ l.length ∧ l.length ≤ 4096

def fr (ll : List (List UInt8)) : List UInt8 := ll.flatMap fun l => header l.length ++ l

theorem header_len (n : Nat) : (header n).length = 4 := rfl

theorem header_lenv {n : Nat} (hn : n ≤ 4096) (r : List UInt8) : lenv (header n ++ r) = n := by
  unfold lenv
  rw [List.take_append_of_le_length (by simp [header_len]), List.take_of_length_le (by simp [header_len])]
  simp only [header, List.foldl_cons, List.foldl_nil]
  have e : ∀ m : Nat, (UInt8.ofNat m).toNat = m % 256 := fun m => by simp
  rw [e, e, e, e]
  omega

theorem fr_cons (l : List UInt8) (ll : List (List UInt8)) : fr (l :: ll) = header l.length ++ (l ++ fr ll) := by simp [fr]

theorem fr_len (ll : List (List UInt8)) : (fr ll).length ≤ 4 * total ll := by
  induction ll with
  | nil => simp [fr, total]
  | cons l ll ih =>
    rw [fr_cons]
    simp only [total, List.map_cons, List.sum_cons, List.length_append, header_len] at ih ⊢
    omega

theorem fr_step {l : List UInt8} {ll : List (List UInt8)} (hg : good l) : ¬ (fr (l :: ll)).length < 4 ∧ lenv (fr (l :: ll)) = l.length ∧ lenok (fr (l :: ll)) = true ∧ ¬ (fr (l :: ll)).length - 4 < l.length ∧
    ((fr (l :: ll)).drop 4).take l.length = l ∧ (fr (l :: ll)).drop (4 + l.length) = fr ll := by
  obtain ⟨g1, g2⟩ := hg
  rw [fr_cons]
  have hl : (header l.length ++ (l ++ fr ll)).length = 4 + l.length + (fr ll).length := by simp [header_len]; omega
  have hv := header_lenv g2 (l ++ fr ll)
  have e4 : (header l.length ++ (l ++ fr ll)).drop 4 = l ++ fr ll := by
    rw [List.drop_append_of_le_length (by simp [header_len]), List.drop_of_length_le (by simp [header_len])]; rfl
  refine ⟨by omega, hv, ?_, by omega, ?_, ?_⟩
  · unfold lenok
    rw [hv, if_neg (by omega), if_neg (by omega)]
    simp [g1, g2]
  · rw [e4]; simp
  · rw [← List.drop_drop, e4]; simp

theorem oneCell_sl (ss : List Sl) : (ss.map slV).all oneCell = true := by simp [slV, oneCell]

theorem total_count (ll : List (List UInt8)) : ll.length ≤ total ll := by
  unfold total
  induction ll with
  | nil => simp
  | cons x r ih => simp only [List.map_cons, List.sum_cons, List.length_cons]; omega

theorem frameE_cases (l : List UInt8) : (frameE l = 0 ∧ good l) ∨ frameE l = 5 ∨ frameE l = 6 := by
  unfold frameE good
  split
  · exact .inr (.inl rfl)
  · split
    · exact .inr (.inr rfl)
    · exact .inl ⟨rfl, by omega⟩

theorem frameB_good {l : List UInt8} (hg : good l) : frameB l = header l.length ++ l := by
  unfold frameB
  rw [if_neg (by unfold good at hg; omega)]

theorem fr_snoc (a : List (List UInt8)) (l : List UInt8) : fr (a ++ [l]) = fr a ++ (header l.length ++ l) := by simp [fr]

def splitA (all : List UInt8) : List (List UInt8) × Nat × Int :=
  if h0 : all.length = 0 then ([], 0, 0) else
  if lenok all = false then ([], 0, 50) else
  if h : all.length < 4 ∨ all.length - 4 < lenv all then ([], 0, 24) else
  ((all.drop 4).take (lenv all) :: (splitA (all.drop (4 + lenv all))).1, 4 + lenv all + (splitA (all.drop (4 + lenv all))).2.1, (splitA (all.drop (4 + lenv all))).2.2)
termination_by all.length
decreasing_by all_goals (simp; omega)

theorem splitA_nil {all : List UInt8} (h : all.length = 0) : splitA all = ([], 0, 0) := by rw [splitA, dif_pos h]

theorem splitA_bad {all : List UInt8} (h : ¬ all.length = 0) (h2 : lenok all = false) : splitA all = ([], 0, 50) := by rw [splitA, dif_neg h, if_pos h2]

theorem splitA_end {all : List UInt8} (h : ¬ all.length = 0) (h2 : lenok all = true) (h3 : all.length < 4 ∨ all.length - 4 < lenv all) : splitA all = ([], 0, 24) := by rw [splitA, dif_neg h, if_neg (by simp [h2]), dif_pos h3]

theorem splitA_one {all : List UInt8} (h : ¬ all.length = 0) (h2 : lenok all = true) (h3 : ¬ (all.length < 4 ∨ all.length - 4 < lenv all)) :
    splitA all = ((all.drop 4).take (lenv all) :: (splitA (all.drop (4 + lenv all))).1, 4 + lenv all + (splitA (all.drop (4 + lenv all))).2.1, (splitA (all.drop (4 + lenv all))).2.2) := by
  rw [splitA, dif_neg h, if_neg (by simp [h2]), dif_neg h3]

theorem splitA_fr : ∀ (ll : List (List UInt8)), (∀ l ∈ ll, good l) → splitA (fr ll) = (ll, (fr ll).length, 0)
  | [], _ => splitA_nil (by simp [fr])
  | l :: ll, h => by
    obtain ⟨h1, h2, h3, h4, h5, h6⟩ := fr_step (ll := ll) (h l (by simp))
    have hl : (fr (l :: ll)).length = 4 + l.length + (fr ll).length := by rw [fr_cons]; simp [header_len]; omega
    rw [splitA_one (by omega) h3 (by rw [h2]; omega), h2, h5, h6, splitA_fr ll fun x hx => h x (by simp [hx]), hl]

theorem Split_spec {b : Sl} {all : List UInt8} {h : Heap} {K : Sl → Int → Int → Heap → Prop} (hb : Bytes h b all) (hsz : all.length ≤ 1099511627776)
    (hk : ∀ out h', OwnRows h' h.size out (splitA all).1 → Ext h h' → K out ((splitA all).2.1 : Nat) (splitA all).2.2 h') : m_frame_Split b K h := by
  unfold m_frame_Split g_frame_Split
  have hlen := hb.length
  have hcap := hb.cap
  have hbig := hb.big
  refine bindI_intro (bindI_intro (bindI_intro ?_))
  refine loopM_intro (fun p h' => ∃ k : Nat, p.2.1 = (k : Int) ∧ k ≤ all.length ∧ Ext h h' ∧ (∀ j, p.1.blk = some j → h.size ≤ j) ∧ ∃ ls, OwnRows h' h.size p.1 ls ∧ ls.length ≤ k ∧
    splitA all = (ls ++ (splitA (all.drop k)).1, k + (splitA (all.drop k)).2.1, (splitA (all.drop k)).2.2)) (fun p _ => all.length - p.2.1.toNat)
    ⟨0, rfl, Nat.zero_le _, Ext.refl h, by simp [Sl.blk], [], OwnRows.nil h _, by simp, by simp⟩ ?_
  rintro ⟨out, i, u⟩ h' ⟨k, hi, hkl, hext, hob, ls, hls, hlsk, hcut⟩
  dsimp only at hi hls hob
  subst hi
  dsimp only
  refine iteP_dec (fun hlt => ?_) (fun hge => ?_)
  · have hk0 : ¬ (all.drop k).length = 0 := by simp; omega
    refine Row.slc (hb.ext hext) (a := k) (b := all.length) (m := b.cap) rfl (by omega) rfl (by omega) (by omega) (by omega) (Nat.le_refl _) ?_
    intro s hs _ _ _
    have hs' : Bytes h' s (all.drop k) := by
      have e : ((all.map bv).drop k).take (all.length - k) = (all.drop k).map bv := by rw [List.map_drop, List.take_of_length_le (by simp)]
      rw [e] at hs; exact hs
    refine length_spec hs' (bindI_intro (bindB_intro (bindB_intro ?_)))
    have hdl : (all.drop k).length = all.length - k := by simp
    refine ⟨fun hbad => bindI_intro (bindI_intro ?_), fun hgood => ?_⟩
    · have hbad' : lenok (all.drop k) = false := by simpa using hbad
      rw [splitA_bad hk0 hbad'] at hcut
      rw [hcut] at hk
      simp only [List.append_nil] at hk
      exact hk out h' hls hext
    · have hgood' : lenok (all.drop k) = true := by simpa using hgood
      have hv := lenv_lt (all.drop k)
      have hend : (all.drop k).length < 4 ∨ (all.drop k).length - 4 < lenv (all.drop k) → K out (k : Int) 24 h' := fun h9 => by
        rw [splitA_end hk0 hgood' h9] at hcut
        rw [hcut] at hk
        simp only [List.append_nil] at hk
        exact hk out h' hls hext
      rw [wrap64 (n := (b.len : Int) - (k : Int)) (by omega) (by omega)]
      refine iteP_dec (fun h4 => bindI_intro (bindI_intro (hend (by omega)))) (fun h4 => bindB_intro ?_)
      rw [wrap64 (n := (b.len : Int) - (k : Int) - 4) (by omega) (by omega)]
      refine iteP_dec (fun h5 => bindI_intro (bindI_intro (hend (by omega)))) (fun h5 => ?_)
      have h9 : ¬ ((all.drop k).length < 4 ∨ (all.drop k).length - 4 < lenv (all.drop k)) := by omega
      have h4' : ¬ (all.drop k).length < 4 := by omega
      have hpos := lenok_pos h4' hgood'
      rw [splitA_one hk0 hgood' h9] at hcut
      generalize lenv (all.drop k) = n at *
      rw [wrap64 (n := (k : Int) + 4) (by omega) (by omega), wrap64 (n := (k : Int) + 4 + (n : Int)) (by omega) (by omega)]
      refine Row.slc (hb.ext hext) (a := k + 4) (b := k + 4 + n) (m := k + 4 + n) (by omega) (by omega) (by omega) (by omega) (by omega) (Nat.le_refl _) (by omega) ?_
      intro p1 hp1 _ _ _
      have hp1' : Bytes h' p1 (((all.drop k).drop 4).take n) := by
        have e : ((all.map bv).drop (k + 4)).take (k + 4 + n - (k + 4)) = (((all.drop k).drop 4).take n).map bv := by
          rw [List.map_take, List.drop_drop, List.map_drop]; congr 1; omega
        rw [e] at hp1; exact hp1
      refine Clone_spec hp1' (by simp; omega) fun p2 h3 hop2 hext3 _ => ?_
      refine newC_intro ?_
      have hext4 := Ext.push h3 (.cells [slV p2].toArray 22)
      have hrow : Row (h3.push (.cells [slV p2].toArray 22)) ⟨some ⟨h3.size, 0, none⟩, 1, 1⟩ 1 [slV p2] := (Own.newC (h := h3) (cells := [slV p2]) (t := 22) (size := 1) (n := 1) rfl (by decide)).row
      refine hrow.rd ?_
      obtain ⟨ss, g1, g2, g3, g4, g5⟩ := hls.rows
      have hext34 := hext3.trans hext4
      have g1' := g1.congr (h' := h3.push (.cells [slV p2].toArray 22)) fun k _ hl _ => hext34.old k hl
      have holen := hls.len
      refine Own.app g1' (by simp) rfl rfl (by omega) (by omega) (by have := hext.size; have := hext3.size; simp; omega) ?_
      intro out' h5 ho5 hl5 hu5 hblk5
      have hext5 : Ext h h5 := (hext.trans hext34).then hu5 fun k hk1 => by
        have := (g1.lt hk1).1; exact this
      rw [wrap64 (n := (4 : Int) + (n : Int)) (by omega) (by omega), wrap64 (n := (k : Int) + (4 + (n : Int))) (by omega) (by omega)]
      refine bindI_intro ⟨⟨k + (4 + n), by omega, by omega, hext5, ?_, ls ++ [((all.drop k).drop 4).take n], ?_, by simp; omega, ?_⟩, by omega⟩
      · intro j hj
        exact (ho5.lt hj).1
      · refine OwnRows.snoc (x := p2) (h1 := h3.push (.cells [slV p2].toArray 22)) hls hext34 ?_ ?_ ?_ hu5 hblk5
        · exact hop2.congr fun k _ hl _ => hext4.old k hl
        · exact hext.size
        · intro vs hv1 _
          have : vs = ss.map slV := by
            rcases hv1.at_ with ⟨hz1, hz2⟩ | ⟨k1, c1, e1, z1, z2, z3, z4, z5⟩
            · have a1 := hv1.len
              have a2 := g1.len
              have a3 := hv1.cap
              have b1 : vs = [] := List.eq_nil_of_length_eq_zero (by rw [a1]; omega)
              have b2 : ss.map slV = [] := List.eq_nil_of_length_eq_zero (by rw [a2]; omega)
              rw [b1, b2]
            · rcases g1.at_ with ⟨hz1, hz2⟩ | ⟨k2, c2, e2, y1, y2, y3, y4, y5⟩
              · rw [hz1] at z1; cases z1
              · rw [z1] at y1
                cases y1
                rw [z3] at y3
                cases y3
                rw [z5, y5]
          rw [this]
          exact ho5
      · rw [hcut, List.drop_drop]
        simp
        omega
  · have hk9 : k = all.length := by omega
    rw [hk9, splitA_nil (all := all.drop all.length) (by simp)] at hcut
    rw [hcut] at hk
    simp only [List.append_nil, Nat.add_zero] at hk
    refine bindI_intro (bindI_intro ?_)
    rw [hk9]
    exact hk out h' hls hext

theorem good_of_E {l : List UInt8} (h : frameE l = 0) : good l := by
  rcases frameE_cases l with h0 | h0 | h0
  · exact h0.2
  · rw [h0] at h; cases h
  · rw [h0] at h; cases h

theorem E_of_good {l : List UInt8} (h : good l) : frameE l = 0 := by
  unfold frameE good at *
  rw [if_neg (by omega), if_neg (by omega)]

def framesE : List (List UInt8) → Int
  | [] => 0
  | l :: r => if frameE l = 0 then framesE r else frameE l

def framesB (ll : List (List UInt8)) : List UInt8 := if framesE ll = 0 then fr ll else []

theorem framesE_good : ∀ (ll : List (List UInt8)), (∀ l ∈ ll, good l) → framesE ll = 0
  | [], _ => rfl
  | l :: r, h => by rw [framesE, if_pos (E_of_good (h l (by simp)))]; exact framesE_good r fun x hx => h x (by simp [hx])

theorem framesE_bad : ∀ (ll : List (List UInt8)) (k : Nat) (l : List UInt8), (∀ l ∈ ll.take k, good l) → ll[k]? = some l → frameE l ≠ 0 → framesE ll = frameE l
  | [], k, l, _, hk, _ => by simp at hk
  | x :: r, 0, l, _, hk, he => by
    simp at hk
    subst hk
    rw [framesE, if_neg he]
  | x :: r, k + 1, l, h, hk, he => by
    rw [framesE, if_pos (E_of_good (h x (by simp)))]
    exact framesE_bad r k l (fun y hy => h y (by simp [hy])) (by simpa using hk) he

theorem RFrame_spec {b : Sl} {l : List UInt8} {h : Heap} {K : Sl → Int → Heap → Prop} (hb : Bytes h b l)
    (hk : ∀ s h', Own h' h.size s 1 ((frameB l).map bv) → Ext h h' → (frameE l = 0 → s.blk ≠ none) → K s (frameE l) h') : m_spillwayref18_Frame b K h := by
  unfold m_spillwayref18_Frame g_spillwayref18_Frame
  have hlen := hb.length
  refine bindI_intro (bindI_intro (bindB_intro ?_))
  refine iteP_dec (fun h1 => bindI_intro ?_) (fun h1 => bindB_intro ?_)
  · have e1 : frameE l = 5 := by unfold frameE; rw [if_pos (by omega)]
    have e2 : frameB l = [] := by unfold frameB; rw [if_pos (by omega)]
    have := hk ⟨none, 0, 0⟩ h (by rw [e2]; exact Own.nil h _ 1) (Ext.refl h) (fun h => by rw [e1] at h; cases h)
    rw [e1] at this
    exact this
  · refine ⟨fun h2 => bindI_intro ?_, fun h2 => ?_⟩
    · simp at h2
      have e1 : frameE l = 6 := by unfold frameE; rw [if_neg (by omega), if_pos (by omega)]
      have e2 : frameB l = [] := by unfold frameB; rw [if_pos (by omega)]
      have := hk ⟨none, 0, 0⟩ h (by rw [e2]; exact Own.nil h _ 1) (Ext.refl h) (fun h => by rw [e1] at h; cases h)
      rw [e1] at this
      exact this
    · simp at h2
      have e1 : frameE l = 0 := by unfold frameE; rw [if_neg (by omega), if_neg (by omega)]
      have e2 : frameB l = header l.length ++ l := by unfold frameB; rw [if_neg (by omega)]
      refine ⟨by omega, newC_intro ?_⟩
      have hcells : [Value.int .u8 0, Value.int .u8 0, Value.int .u8 (IntKind.wrap .u8 (shrV .i64 (b.len : Int) 8)), Value.int .u8 (IntKind.wrap .u8 (b.len : Int))] = (header l.length).map bv := by
        rw [show (8 : Int) = ((8 : Nat) : Int) from rfl, shr_nat _ _ (by omega)]
        rw [bv_ofNat, bv_ofNat, hlen]
        have z1 : l.length / 16777216 = 0 := Nat.div_eq_of_lt (by omega)
        have z2 : l.length / 65536 = 0 := Nat.div_eq_of_lt (by omega)
        unfold header
        rw [z1, z2]
        rfl
      rw [hcells]
      have hext := Ext.push h (.cells ((header l.length).map bv).toArray 5)
      refine (hb.ext hext).rd ?_
      have ho := Own.newC (h := h) (cells := (header l.length).map bv) (t := 5) (size := 1) (n := 4) (by simp [header]) (by decide)
      refine Own.app ho (by simp [hlen]) (oneCell_bv l) rfl (by simp; omega) (by simp; omega) (by simp) ?_
      intro s' h' ho' hl' hu hblk
      have := hk s' h' (by rw [e2, List.map_append]; exact ho') (hext.then hu ?_) (fun _ => ?_)
      · rw [e1] at this
        exact bindI_intro this
      · intro k hk
        simp [Sl.blk] at hk
        omega
      · rcases hblk with h1 | h1 <;> rw [h1] <;> simp [Sl.blk]

theorem FramesE_spec {s : Sl} {ll : List (List UInt8)} {h : Heap} {K : Sl → Int → Heap → Prop} (hr : RowsB h s ll) (hb : total ll ≤ 1099511627776)
    (hk : ∀ out h', Own h' h.size out 1 ((framesB ll).map bv) → Ext h h' → K out (framesE ll) h') : m_frame_Frames s K h := by
  unfold m_frame_Frames g_frame_Frames
  have hlen := hr.len
  have hcnt := total_count ll
  refine bindI_intro (loopM_intro (fun t h' => ∃ k : Nat, k ≤ ll.length ∧ t.2.1 = (k : Int) ∧ (∀ l ∈ ll.take k, good l) ∧ Ext h h' ∧ Own h' h.size t.1 1 ((fr (ll.take k)).map bv)) (fun t _ => ll.length - t.2.1.toNat) ⟨0, Nat.zero_le _, rfl, by simp, Ext.refl h, Own.nil h _ 1⟩ ?_)
  rintro ⟨out, i, u⟩ h' ⟨k, hkl, hi, hgood, hext, hown⟩
  dsimp only at hi hown
  subst hi
  dsimp only
  refine iteP_dec (fun hlt => ?_) (fun hge => bindI_intro ?_)
  · have hk1 : k < ll.length := by omega
    have hl : ll[k]? = some ll[k] := List.getElem?_eq_getElem hk1
    refine RowsB.idx (hr.ext hext) rfl hl fun x hx => ?_
    refine Frame_spec hx fun f h2 hf hext2 _ => bindI_intro ?_
    refine ⟨fun he => bindI_intro ?_, fun he => ?_⟩
    · have hne : frameE ll[k] ≠ 0 := by simpa using he
      have hE := framesE_bad ll k ll[k] hgood hl hne
      have hB : framesB ll = [] := by unfold framesB; rw [hE, if_neg hne]
      have := hk ⟨none, 0, 0⟩ h2 (by rw [hB]; exact Own.nil _ _ 1) (hext.trans hext2)
      rw [hE] at this
      exact this
    · have hg : good ll[k] := good_of_E (by simpa using he)
      rw [frameB_good hg] at hf
      have hfl := hf.len
      have hol := hown.len
      have hll := mem_le_total hl
      have hfr := fr_len (ll.take k)
      have htk := total_take ll k
      simp only [List.length_map, List.length_append, header_len, Nat.mul_one] at hfl hol
      refine hf.row.rd ?_
      have hown2 := hown.congr (h' := h2) fun b _ hl _ => hext2.old b hl
      refine Own.app hown2 (by simp only [List.length_map, List.length_append, header_len, Nat.mul_one]; exact hfl) (oneCell_bv _) rfl (by omega) (by omega) (by have := hext.size; have := hext2.size; omega) fun s' h3 ho' _ hu _ => ?_
      refine ⟨⟨k + 1, by omega, ?_, ?_, (hext.trans hext2).then hu fun b hb => (hown2.lt hb).1, ?_⟩, ?_⟩
      · first | omega | (dsimp only; rw [wrap64 (by omega) (by omega)]; omega) | (rw [wrap64 (by omega) (by omega)]; omega)
      · rw [List.take_succ_eq_append_getElem hk1]
        intro l hl
        rcases List.mem_append.1 hl with hl | hl
        · exact hgood l hl
        · obtain rfl : l = ll[k] := by simpa using hl
          exact hg
      · rw [List.take_succ_eq_append_getElem hk1, fr_snoc, List.map_append]
        exact ho'
      · first | omega | (dsimp only; rw [wrap64 (by omega) (by omega)]; omega) | (rw [wrap64 (by omega) (by omega)]; omega)
  · have hfull : ll.take k = ll := List.take_of_length_le (by omega)
    rw [hfull] at hgood hown
    have hE := framesE_good ll hgood
    have hB : framesB ll = fr ll := by unfold framesB; rw [hE, if_pos rfl]
    have := hk out h' (by rw [hB]; exact hown) hext
    rw [hE] at this
    exact this

theorem idx_lt {α : Type} {l : List α} {i : Nat} {x : α} (h : l[i]? = some x) : i < l.length := by
  rcases Nat.lt_or_ge i l.length with h9 | h9
  · exact h9
  · rw [List.getElem?_eq_none h9] at h; cases h

end Go.Proofs.Ytcgpdmlopbnpcaa
