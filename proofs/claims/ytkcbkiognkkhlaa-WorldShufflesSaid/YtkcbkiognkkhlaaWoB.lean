/- Clocks and chance, the program's and the reference's. -/
import Derived.Test.YtkcbkiognkkhlaaWoA
namespace Go.Proofs.Ytkcbkiognkkhlaa
open Go Go.Fw

abbrev iv (n : Int) : Value := .int .i64 n
abbrev Ints (h : Heap) (s : Sl) (l : List Int) : Prop := Row h s 1 (l.map iv)
theorem Ints.length {h : Heap} {s : Sl} {l : List Int} (hb : Ints h s l) : s.len = l.length := by
  have := hb.len; simp at this; omega
theorem Ints.idx {h : Heap} {s : Sl} {l : List Int} (hr : Ints h s l) {i : Int} {n : Nat} (hi : i = n) {x : Int} (hv : l[n]? = some x) {K : Int → Prop} (hk : K x) :
    idxA s.ptr s.len i 1 fun b o => ldI h b o .i64 K :=
  Row.idx hr hi (v := iv x) (by simp [hv]) fun _ _ _ hc => ⟨_, hc, hk⟩

def tmB (at_ : Int) : Bool := decide (at_ ≥ 0) && decide (at_ ≤ 1152921504606846976)

theorem isTime_spec {n : Int} {K : Bool → Heap → Prop} {h : Heap} (hk : K (tmB n) h) : m_world_isTime n K h := by
  unfold m_world_isTime g_world_isTime
  unfold tmB at hk
  refine ⟨fun e => bindB_intro ?_, fun e => ?_⟩
  · rw [e] at hk; exact hk
  · rw [e] at hk; exact hk
theorem RIsTime_spec {n : Int} {K : Bool → Heap → Prop} {h : Heap} (hk : K (tmB n) h) : m_spillwayref02_IsTime n K h := by
  unfold m_spillwayref02_IsTime g_spillwayref02_IsTime
  unfold tmB at hk
  refine ⟨fun e => bindB_intro ?_, fun e => ?_⟩
  · rw [e] at hk; exact hk
  · rw [e] at hk; exact hk
theorem tmB_iff {n : Int} : tmB n = true ↔ 0 ≤ n ∧ n ≤ 1152921504606846976 := by
  unfold tmB
  rw [Bool.and_eq_true, decide_eq_true_eq, decide_eq_true_eq]

/-! ### a clock -/
def IsC (T : TypeId) (h : Heap) (b : Nat) (at_ : Int) : Prop := h[b]? = some (.cells #[iv at_] T (0, 0))

theorem NewClock_spec {at_ : Int} {K : Option Addr → Int → Heap → Prop} {h : Heap} (h1 : tmB at_ = true → ∀ h', IsC 99 h' h.size at_ → Ext h h' → h'.size = h.size + 1 → K (some ⟨h.size, 0, none⟩) 0 h') (h2 : tmB at_ = false → K none 2 h) : m_world_NewClock at_ K h := by
  unfold m_world_NewClock g_world_NewClock
  refine bindI_intro (isTime_spec ⟨fun e => bindI_intro (h2 (by simpa using e)), fun e => newK fun h' c e1 z => bindI_intro (h1 (by simpa using e) h' c e1 z)⟩)
theorem RNewClock_spec {at_ : Int} {K : Option Addr → Int → Heap → Prop} {h : Heap} (h1 : tmB at_ = true → ∀ h', IsC 45 h' h.size at_ → Ext h h' → h'.size = h.size + 1 → K (some ⟨h.size, 0, none⟩) 0 h') (h2 : tmB at_ = false → K none 2 h) : m_spillwayref02_NewClock at_ K h := by
  unfold m_spillwayref02_NewClock g_spillwayref02_NewClock
  refine bindI_intro (RIsTime_spec ⟨fun e => bindI_intro (h2 (by simpa using e)), fun e => newK fun h' c e1 z => bindI_intro (h1 (by simpa using e) h' c e1 z)⟩)

def tickS (at_ : Int) : List Int → Option Int
  | [] => some at_
  | n :: r => if n < 0 ∨ n > 1152921504606846976 - at_ then none else tickS (at_ + n) r

theorem Tick_spec {h : Heap} {b : Nat} {at_ : Int} {s : Sl} {l : List Int} {K : Int → Int → Heap → Prop} (hc : IsC 99 h b at_) (hat : 0 ≤ at_ ∧ at_ ≤ 1152921504606846976) (hl : Ints h s l)
    (h1 : ∀ at', tickS at_ l = some at' → 0 ≤ at' ∧ at' ≤ 1152921504606846976 → ∀ h', IsC 99 h' b at' → Upd (· = b) h h' → h'.size = h.size → K at' 0 h') (h2 : tickS at_ l = none → K 0 2 h) : m_world_Clock_Tick (some ⟨b, 0, none⟩) s K h := by
  unfold m_world_Clock_Tick g_world_Clock_Tick
  have hlen := hl.length
  have hcap := hl.cap
  have hbig := hl.big
  refine bindI_intro (bindI_intro (iteP_false (deref_ (ldIk hc rfl (bindI_intro ?_)))))
  refine loopM_intro (fun p h' => h' = h ∧ ∃ k : Nat, p.2.1 = (k : Int) ∧ k ≤ l.length ∧ 0 ≤ p.1 ∧ p.1 ≤ 1152921504606846976 ∧ tickS at_ l = tickS p.1 (l.drop k)) (fun p _ => l.length - p.2.1.toNat) ⟨rfl, 0, rfl, Nat.zero_le _, hat.1, hat.2, rfl⟩ ?_
  rintro ⟨a, i, u⟩ h' ⟨rfl, k, hi, hkl, ha0, ha1, ht⟩
  dsimp only at hi ha0 ha1 ht
  subst hi
  dsimp only
  refine iteP_dec (fun hlt => ?_) (fun hge => ?_)
  · have hk1 : k < l.length := by omega
    have hx : l[k]? = some l[k] := List.getElem?_eq_getElem hk1
    have hd : l.drop k = l[k] :: l.drop (k + 1) := List.drop_eq_getElem_cons hk1
    generalize l[k] = n at hx hd
    rw [hd, tickS] at ht
    refine Ints.idx hl rfl hx (bindI_intro ?_)
    refine iteP_dec (fun hn => ?_) (fun hn => ?_)
    · rw [if_pos (.inl hn)] at ht
      exact bindI_intro (bindI_intro (h2 ht))
    · rw [wrap64 (n := (1152921504606846976 : Int) - a) (by omega) (by omega)]
      refine iteP_dec (fun hn2 => ?_) (fun hn2 => ?_)
      · rw [if_pos (.inr hn2)] at ht
        exact bindI_intro (bindI_intro (h2 ht))
      · rw [if_neg (by omega)] at ht
        rw [wrap64 (n := a + n) (by omega) (by omega), wrap64 (n := (k : Int) + 1) (by omega) (by omega)]
        exact bindI_intro ⟨⟨rfl, k + 1, by omega, by omega, by omega, by omega, ht⟩, by omega⟩
  · have hk9 : k = l.length := by omega
    subst hk9
    rw [List.drop_length] at ht
    refine deref_ (put2 hc (by simp) rfl fun h2 c2 u2 z2 => bindI_intro (bindI_intro (h1 a ht ⟨ha0, ha1⟩ h2 c2 u2 z2)))

theorem RTick_spec {h : Heap} {b : Nat} {at_ : Int} {s : Sl} {l : List Int} {K : Int → Int → Heap → Prop} (hc : IsC 45 h b at_) (hat : 0 ≤ at_ ∧ at_ ≤ 1152921504606846976) (hl : Ints h s l)
    (h1 : ∀ at', tickS at_ l = some at' → 0 ≤ at' ∧ at' ≤ 1152921504606846976 → ∀ h', IsC 45 h' b at' → Upd (· = b) h h' → h'.size = h.size → K at' 0 h') (h2 : tickS at_ l = none → K 0 2 h) : m_spillwayref02_Clock_Tick (some ⟨b, 0, none⟩) s K h := by
  unfold m_spillwayref02_Clock_Tick g_spillwayref02_Clock_Tick
  have hlen := hl.length
  have hcap := hl.cap
  have hbig := hl.big
  refine bindI_intro (bindI_intro (iteP_false (deref_ (ldIk hc rfl (bindI_intro (bindI_intro ?_))))))
  refine loopM_intro (fun p h' => h' = h ∧ ∃ k : Nat, p.2.1 = (k : Int) ∧ k ≤ l.length ∧ 0 ≤ p.1 ∧ p.1 ≤ 1152921504606846976 ∧ tickS at_ l = tickS p.1 (l.drop k)) (fun p _ => l.length - p.2.1.toNat) ⟨rfl, 0, rfl, Nat.zero_le _, hat.1, hat.2, rfl⟩ ?_
  rintro ⟨a, i, u⟩ h' ⟨rfl, k, hi, hkl, ha0, ha1, ht⟩
  dsimp only at hi ha0 ha1 ht
  subst hi
  dsimp only
  refine iteP_dec (fun hlt => ?_) (fun hge => ?_)
  · have hk1 : k < l.length := by omega
    have hx : l[k]? = some l[k] := List.getElem?_eq_getElem hk1
    have hd : l.drop k = l[k] :: l.drop (k + 1) := List.drop_eq_getElem_cons hk1
    generalize l[k] = n at hx hd
    rw [hd, tickS] at ht
    refine Ints.idx hl rfl hx (iteP_dec (fun hn => ?_) (fun hn => ?_))
    · rw [if_pos (.inl hn)] at ht
      exact bindI_intro (bindI_intro (h2 ht))
    · rw [wrap64 (n := (1152921504606846976 : Int) - a) (by omega) (by omega)]
      refine Ints.idx hl rfl hx (iteP_dec (fun hn2 => ?_) (fun hn2 => ?_))
      · rw [if_pos (.inr hn2)] at ht
        exact bindI_intro (bindI_intro (h2 ht))
      · rw [if_neg (by omega)] at ht
        refine Ints.idx hl rfl hx ?_
        rw [wrap64 (n := a + n) (by omega) (by omega), wrap64 (n := (k : Int) + 1) (by omega) (by omega)]
        exact bindI_intro (bindI_intro ⟨⟨rfl, k + 1, by omega, by omega, by omega, by omega, ht⟩, by omega⟩)
  · have hk9 : k = l.length := by omega
    subst hk9
    rw [List.drop_length] at ht
    refine deref_ (put2 hc (by simp) rfl fun h2 c2 u2 z2 => bindI_intro (bindI_intro (h1 a ht ⟨ha0, ha1⟩ h2 c2 u2 z2)))

/-- what Set tells, and where the clock stands then -/
def setS (at_ n : Int) : Int × Int := if tmB n = false then (2, at_) else if n < at_ then (7, at_) else (0, n)

theorem Set_spec {h : Heap} {b : Nat} {at_ n : Int} {K : Int → Heap → Prop} (hc : IsC 99 h b at_) (hk : ∀ h', IsC 99 h' b (setS at_ n).2 → Upd (· = b) h h' → h'.size = h.size → K (setS at_ n).1 h') : m_world_Clock_Set (some ⟨b, 0, none⟩) n K h := by
  unfold m_world_Clock_Set g_world_Clock_Set
  unfold setS at hk
  refine bindI_intro (bindB_intro (iteP_false (isTime_spec (bindB_intro ⟨fun e => bindI_intro ?_, fun e => ?_⟩))))
  · rw [if_pos (by simpa using e)] at hk
    exact hk h hc (Upd.refl _ _) rfl
  · rw [if_neg (by simpa using e)] at hk
    refine deref_ (ldIk hc rfl (bindB_intro (iteP_dec (fun h1 => bindI_intro ?_) (fun h1 => ?_))))
    · rw [if_pos h1] at hk
      exact hk h hc (Upd.refl _ _) rfl
    · rw [if_neg h1] at hk
      exact deref_ (put2 hc (by simp) rfl fun h2 c2 u2 z2 => bindI_intro (hk h2 c2 u2 z2))
theorem RSet_spec {h : Heap} {b : Nat} {at_ n : Int} {K : Int → Heap → Prop} (hc : IsC 45 h b at_) (hk : ∀ h', IsC 45 h' b (setS at_ n).2 → Upd (· = b) h h' → h'.size = h.size → K (setS at_ n).1 h') : m_spillwayref02_Clock_Set (some ⟨b, 0, none⟩) n K h := by
  unfold m_spillwayref02_Clock_Set g_spillwayref02_Clock_Set
  unfold setS at hk
  refine bindI_intro (bindB_intro (iteP_false (RIsTime_spec (bindB_intro ⟨fun e => bindI_intro ?_, fun e => ?_⟩))))
  · rw [if_pos (by simpa using e)] at hk
    exact hk h hc (Upd.refl _ _) rfl
  · rw [if_neg (by simpa using e)] at hk
    refine deref_ (ldIk hc rfl (bindB_intro (iteP_dec (fun h1 => bindI_intro ?_) (fun h1 => ?_))))
    · rw [if_pos h1] at hk
      exact hk h hc (Upd.refl _ _) rfl
    · rw [if_neg h1] at hk
      exact deref_ (put2 hc (by simp) rfl fun h2 c2 u2 z2 => bindI_intro (hk h2 c2 u2 z2))
theorem setS_range {at_ n : Int} (h : 0 ≤ at_ ∧ at_ ≤ 1152921504606846976) : 0 ≤ (setS at_ n).2 ∧ (setS at_ n).2 ≤ 1152921504606846976 := by
  unfold setS
  split
  · exact h
  · split
    · exact h
    · rename_i h1 _
      exact tmB_iff.1 (by simpa using h1)

theorem Now_spec {h : Heap} {b : Nat} {at_ : Int} {K : Int → Heap → Prop} (hc : IsC 99 h b at_) (hk : K at_ h) : m_world_Clock_Now (some ⟨b, 0, none⟩) K h := by
  unfold m_world_Clock_Now g_world_Clock_Now
  exact bindI_intro (iteP_false (deref_ (ldIk hc rfl (bindI_intro hk))))
theorem CFork_spec {h : Heap} {b : Nat} {at_ : Int} {K : Option Addr → Heap → Prop} (hc : IsC 99 h b at_) (hk : ∀ h', IsC 99 h' h.size at_ → Ext h h' → h'.size = h.size + 1 → K (some ⟨h.size, 0, none⟩) h') : m_world_Clock_Fork (some ⟨b, 0, none⟩) K h := by
  unfold m_world_Clock_Fork g_world_Clock_Fork
  exact iteP_false (deref_ (ldIk hc rfl (newK fun h' c e z => hk h' c e z)))

/-! ### chance -/
def IsH (T : TypeId) (h : Heap) (b : Nat) (s : Int) : Prop := h[b]? = some (.cells #[.int .u64 s] T (0, 0))
def nextS (s : Int) : Int := IntKind.wrap .u64 (s + 11400714819323198485)
def mix1 (x : Int) : Int := IntKind.wrap .u64 ((xorV .u64 x (shrV .u64 x 30)) * 13787848793156543929)
def mix2 (x : Int) : Int := IntKind.wrap .u64 ((xorV .u64 x (shrV .u64 x 27)) * 10723151780598845931)
def mixV (x : Int) : Int := xorV .u64 (mix2 (mix1 x)) (shrV .u64 (mix2 (mix1 x)) 31)

theorem Mix_spec {x : Int} {K : Int → Heap → Prop} {h : Heap} (hk : K (mixV x) h) : m_world_Mix x K h := by
  unfold m_world_Mix g_world_Mix
  exact bindI_intro ⟨by omega, bindI_intro ⟨by omega, bindI_intro ⟨by omega, bindI_intro hk⟩⟩⟩
theorem RMix_spec {x : Int} {K : Int → Heap → Prop} {h : Heap} (hk : K (mixV x) h) : m_spillwayref02_Mix x K h := by
  unfold m_spillwayref02_Mix g_spillwayref02_Mix
  exact bindI_intro ⟨by omega, bindI_intro (bindI_intro ⟨by omega, bindI_intro (bindI_intro ⟨by omega, bindI_intro (bindI_intro hk)⟩)⟩)⟩

theorem NewChance_spec {s : Int} {K : Option Addr → Heap → Prop} {h : Heap} (hk : ∀ h', IsH 104 h' h.size s → Ext h h' → h'.size = h.size + 1 → K (some ⟨h.size, 0, none⟩) h') : m_world_NewChance s K h := by
  unfold m_world_NewChance g_world_NewChance
  exact newK fun h' c e z => hk h' c e z
theorem RNewChance_spec {s : Int} {K : Option Addr → Heap → Prop} {h : Heap} (hk : ∀ h', IsH 106 h' h.size s → Ext h h' → h'.size = h.size + 1 → K (some ⟨h.size, 0, none⟩) h') : m_spillwayref02_NewChance s K h := by
  unfold m_spillwayref02_NewChance g_spillwayref02_NewChance
  exact newK fun h' c e z => hk h' c e z

theorem Next_spec {h : Heap} {b : Nat} {s : Int} {K : Int → Heap → Prop} (hc : IsH 104 h b s) (hk : ∀ h', IsH 104 h' b (nextS s) → Upd (· = b) h h' → h'.size = h.size → K (mixV (nextS s)) h') : m_world_Chance_Next (some ⟨b, 0, none⟩) K h := by
  unfold m_world_Chance_Next g_world_Chance_Next
  refine bindI_intro (iteP_false (deref_ (ldIk hc rfl (deref_ (put2 hc (by simp) rfl fun h2 c2 u2 z2 => deref_ (ldIk c2 rfl (Mix_spec (bindI_intro (hk h2 c2 u2 z2)))))))))
theorem RNext_spec {h : Heap} {b : Nat} {s : Int} {K : Int → Heap → Prop} (hc : IsH 106 h b s) (hk : ∀ h', IsH 106 h' b (nextS s) → Upd (· = b) h h' → h'.size = h.size → K (mixV (nextS s)) h') : m_spillwayref02_Chance_Next (some ⟨b, 0, none⟩) K h := by
  unfold m_spillwayref02_Chance_Next g_spillwayref02_Chance_Next
  refine bindI_intro (iteP_false (deref_ (ldIk hc rfl (deref_ (put2 hc (by simp) rfl fun h2 c2 u2 z2 => deref_ (ldIk c2 rfl (RMix_spec (bindI_intro (hk h2 c2 u2 z2)))))))))

/-- the number below n, what is told, and the state then -/
def belowV (s n : Int) : Int := IntKind.wrap .i64 (Int.tmod (mixV (nextS s)) (IntKind.wrap .u64 n))
theorem Below_spec {h : Heap} {b : Nat} {s n : Int} {K : Int → Int → Heap → Prop} (hc : IsH 104 h b s) (hn : n < 9223372036854775808) (h0 : n < 1 → K 0 2 h)
    (hk : 1 ≤ n → ∀ h', IsH 104 h' b (nextS s) → Upd (· = b) h h' → h'.size = h.size → K (belowV s n) 0 h') : m_world_Chance_Below (some ⟨b, 0, none⟩) n K h := by
  unfold m_world_Chance_Below g_world_Chance_Below
  refine bindI_intro (bindI_intro (bindB_intro (iteP_false (bindB_intro (iteP_dec (fun h1 => bindI_intro (bindI_intro (h0 h1))) (fun h1 => ?_))))))
  refine Next_spec hc fun h' c' u' z' => ⟨?_, bindI_intro (bindI_intro (hk (by omega) h' c' u' z'))⟩
  rw [wrapU64 (by omega) (by omega)]
  omega
theorem RBelow_spec {h : Heap} {b : Nat} {s n : Int} {K : Int → Int → Heap → Prop} (hc : IsH 106 h b s) (hn : n < 9223372036854775808) (h0 : n < 1 → K 0 2 h)
    (hk : 1 ≤ n → ∀ h', IsH 106 h' b (nextS s) → Upd (· = b) h h' → h'.size = h.size → K (belowV s n) 0 h') : m_spillwayref02_Chance_Below (some ⟨b, 0, none⟩) n K h := by
  unfold m_spillwayref02_Chance_Below g_spillwayref02_Chance_Below
  refine bindI_intro (bindI_intro (iteP_false (iteP_dec (fun h1 => bindI_intro (bindI_intro (h0 h1))) (fun h1 => ?_))))
  refine RNext_spec hc fun h' c' u' z' => ⟨?_, bindI_intro (bindI_intro (hk (by omega) h' c' u' z'))⟩
  rw [wrapU64 (by omega) (by omega)]
  omega
theorem HFork_spec {h : Heap} {b : Nat} {s : Int} {K : Option Addr → Heap → Prop} (hc : IsH 104 h b s) (hk : ∀ h', IsH 104 h' h.size s → Ext h h' → h'.size = h.size + 1 → K (some ⟨h.size, 0, none⟩) h') : m_world_Chance_Fork (some ⟨b, 0, none⟩) K h := by
  unfold m_world_Chance_Fork g_world_Chance_Fork
  exact iteP_false (deref_ (ldIk hc rfl (newK fun h' c e z => hk h' c e z)))

theorem mixV_nonneg (x : Int) : 0 ≤ mixV x ∧ mixV x < 18446744073709551616 := by
  unfold mixV xorV
  unfold IntKind.wrap
  have hb : (2 : Int) ^ IntKind.u64.bits = 18446744073709551616 := by decide
  have hs : IntKind.u64.signed = false := rfl
  simp only [hb, hs, Bool.false_and, Bool.false_eq_true, if_false]
  omega
theorem belowV_range {s n : Int} (h1 : 1 ≤ n) (h2 : n < 9223372036854775808) : 0 ≤ belowV s n ∧ belowV s n < n := by
  unfold belowV
  have hm := mixV_nonneg (nextS s)
  generalize mixV (nextS s) = x at hm
  rw [wrapU64 (n := n) (by omega) (by omega)]
  have a := Int.tmod_nonneg n hm.1
  have b := Int.tmod_lt_of_pos x (show 0 < n by omega)
  rw [wrap64 (by omega) (by omega)]
  exact ⟨a, b⟩

end Go.Proofs.Ytkcbkiognkkhlaa
