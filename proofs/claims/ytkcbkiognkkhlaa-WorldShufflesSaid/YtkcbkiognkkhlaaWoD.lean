/- What must be whatever is asked; WorldTicks' and WorldNone's laws, on their models. -/
import Derived.Test.YtkcbkiognkkhlaaWoC
namespace Go.Proofs.Ytkcbkiognkkhlaa
open Go Go.Fw

def liveL : List Smp := [(10, 1500, 300)]
theorem liveL_add : addS [] liveL = (0, liveL) := by decide
theorem live_next1 : mixV (nextS 0) = 16294208416658607535 := by decide
theorem live_next2 : mixV (nextS (nextS 0)) = 7960286522194355700 := by decide

theorem live_spec {h : Heap} {K : Bool → Heap → Prop} (hk : ∀ h', Ext h h' → K true h') : m_spillwaylaw02_live K h := by
  unfold m_spillwaylaw02_live g_spillwaylaw02_live
  refine NewClock_spec (fun _ h2 c2 e2 z2 => bindI_intro (iteP_neg rfl (iteP_neg rfl ?_))) (fun e => by cases e)
  refine newK fun h3 c3 e3 z3 => ?_
  have c3' : IsC 99 h3 h.size 5 := keepE c2 e3
  have hl : Ints h3 ⟨some ⟨h2.size, 0, none⟩, 2, 2⟩ [1, 2] := ⟨rfl, Nat.le_refl _, (show 2 < 9223372036854775808 by decide), .inr ⟨h2.size, 0, rfl, has_block c3 fun i v hi => by simpa using hi⟩⟩
  refine Tick_spec c3' (by omega) hl (fun at' ht _ h6 c6 u6 z6 => bindI_intro (bindI_intro ?_)) (fun e => by cases e)
  obtain rfl : at' = 8 := by have : tickS 5 [1, 2] = some 8 := rfl; rw [this] at ht; cases ht; rfl
  have x6 : Ext h h6 := (e2.trans e3).then u6 fun k hk => by omega
  refine NewChance_spec fun h8 c8 e8 z8 => ?_
  refine newK fun h10 c10 e10 z10 => ?_
  have hs : SmpR h10 ⟨some ⟨h8.size, 0, none⟩, 1, 1⟩ liveL := ⟨rfl, Nat.le_refl _, (show 1 < 9223372036854775808 by decide), .inr ⟨h8.size, 0, rfl, has_block c10 fun i v hi => by simpa [liveL, smL] using hi⟩⟩
  refine NewLoad_spec hs fun h13 hl13 e13 z13 => bindI_intro ?_
  rw [liveL_add] at hl13 ⊢
  dsimp only at hl13 ⊢
  have hl13' := (hl13 rfl).mono (S' := fun k => h10.size < k) fun k hk => hk.1
  rw [if_pos rfl]
  have d13 : IsC 99 h13 h.size 8 := keepE (keepE (keepE c6 e8) e10) e13
  have k13 : IsH 104 h13 h6.size 0 := keepE (keepE c8 e10) e13
  have zz : h.size < h6.size := by have := x6.size; have := u6.size; omega
  have x13 : Ext h6 h13 := (e8.trans e10).trans e13
  have z6' := x6.size
  refine iteP_pos rfl (iteP_pos rfl ?_)
  refine Set_spec d13 fun h15 c15 u15 z15 => ?_
  have hs7 : setS 8 7 = (7, 8) := by decide
  rw [hs7]
  refine iteP_pos rfl ?_
  have k15 : IsH 104 h15 h6.size 0 := keepB k13 u15 (by omega)
  refine Next_spec k15 fun h17 c17 u17 z17 => ?_
  rw [live_next1]
  refine iteP_pos rfl ?_
  refine Next_spec c17 fun h19 c19 u19 z19 => ?_
  rw [live_next2]
  refine iteP_pos rfl (iteP_pos rfl ?_)
  have w8 := e8.size
  have w10 := e10.size
  have hl19 : IsL 101 h19 h10.size (fun k => h10.size < k) liveL := ((hl13'.upd u15 (by omega) fun k hk _ => by omega).upd u17 (by omega) fun k hk _ => by omega).upd u19 (by omega) fun k hk _ => by omega
  have x19 : Ext h h19 := (((x6.trans x13).then u15 fun k hk => by omega).then u17 fun k hk => by omega).then u19 fun k hk => by omega
  refine At_spec hl19 fun h21 e21 => iteP_pos (by decide) ?_
  refine At_spec (hl19.ext e21) fun h23 e23 => bindB_intro ?_
  have : ((atS liveL 9).2.1 == 0) = true := by decide
  rw [this]
  exact hk h23 ((x19.trans e21).trans e23)

/-! ### ticks -/
def sumL (l : List Int) : Int := l.foldl (· + ·) 0
theorem sumL_snoc (l : List Int) (x : Int) : sumL (l ++ [x]) = sumL l + x := by unfold sumL; rw [List.foldl_append]; rfl
theorem tick_sum : ∀ (l : List Int) (a : Int), 0 ≤ a → (∀ n, n ∈ l → 0 ≤ n ∧ n < 4294967296) → a + 4294967296 * (l.length : Int) ≤ 1152921504606846976 → tickS a l = some (l.foldl (· + ·) a)
  | [], a, _, _, _ => rfl
  | x :: l, a, ha, hl, hb => by
    have hx := hl x (.head _)
    simp only [List.length_cons] at hb
    rw [tickS, if_neg (by omega), tick_sum l (a + x) (by omega) (fun n hn => hl n (.tail _ hn)) (by omega)]
    rfl
theorem foldl_sum : ∀ (l : List Int) (a : Int), l.foldl (· + ·) a = a + sumL l
  | [], a => by simp [sumL]
  | x :: l, a => by
    have h1 := foldl_sum l (a + x)
    have h2 := foldl_sum l (0 + x)
    unfold sumL at *
    simp only [List.foldl_cons]
    omega
theorem sumL_range : ∀ (l : List Int), (∀ n, n ∈ l → 0 ≤ n ∧ n < 4294967296) → 0 ≤ sumL l ∧ sumL l ≤ 4294967296 * (l.length : Int)
  | [], _ => by simp [sumL]
  | x :: l, h => by
    have h1 := sumL_range l fun n hn => h n (.tail _ hn)
    have h2 := h x (.head _)
    have h3 : sumL (x :: l) = x + sumL l := by
      have := foldl_sum l (0 + x)
      unfold sumL at *
      simp only [List.foldl_cons]
      omega
    rw [h3]
    simp only [List.length_cons]
    omega

theorem WorldTicks_true {at_ : Int} {by_ : Sl} {l : List Int} {h : Heap} {K : Bool → Heap → Prop} (hat : 0 ≤ at_ ∧ at_ < 4294967296) (hl : Row h by_ 1 (l.map (Value.int .u32)) ∧ ∀ n, n ∈ l → 0 ≤ n ∧ n < 4294967296) (hk : ∀ h', Ext h h' → K true h') : m_spillwaylaw02_WorldTicks at_ by_ K h := by
  unfold m_spillwaylaw02_WorldTicks g_spillwaylaw02_WorldTicks
  obtain ⟨hl, hr⟩ := hl
  have hlen : by_.len = l.length := by have := hl.len; simp at this; omega
  have hcap := hl.cap
  have hbig := hl.big
  rw [wrap64 (n := at_) (by omega) (by omega)]
  have htm : tmB at_ = true := tmB_iff.2 (by omega)
  refine live_spec fun h1 e1 => iteP_false ?_
  refine NewClock_spec (fun _ h4 c4 e4 z4 => bindI_intro ?_) (fun e => by rw [htm] at e; cases e)
  refine NewClock_spec (fun _ h7 c7 e7 z7 => bindI_intro (iteP_neg rfl (iteP_neg rfl (bindI_intro ?_)))) (fun e => by rw [htm] at e; cases e)
  have x7 := (e1.trans e4).trans e7
  have c4' : IsC 99 h7 h1.size at_ := keepE c4 e7
  have zz := e1.size
  -- what is so at the end of the loop
  let Inv : Nat → Sl → Heap → Prop := fun k all h' => k ≤ l.length ∧ k ≤ 1000 ∧ Ext h h' ∧ IsC 99 h' h1.size (at_ + sumL (l.take k)) ∧ IsC 99 h' h4.size at_ ∧ h7.size ≤ h'.size ∧ Own h' h7.size all 1 ((l.take k).map iv)
  refine cutP_intro (fun s h' => ∃ k, s.1 = sumL (l.take k) ∧ Inv k s.2.1 h') ?_ ?_
  · rintro ⟨sum, all, u⟩ h34 ⟨k, hs, hkl, hk1000, x34, ca, cb, z34, hown⟩
    dsimp only at hs hown ⊢
    subst hs
    have hrk : ∀ n, n ∈ l.take k → 0 ≤ n ∧ n < 4294967296 := fun n hn => hr n (List.mem_of_mem_take hn)
    have hlk : (l.take k).length = k := by simp; omega
    have hsum := sumL_range _ hrk
    rw [hlk] at hsum
    have ht := tick_sum (l.take k) at_ hat.1 hrk (by rw [hlk]; omega)
    rw [foldl_sum] at ht
    refine Tick_spec cb (by omega) hown.row (fun at' ht' _ h37 c37 u37 z37 => bindI_intro (bindI_intro (iteP_pos rfl ?_))) (fun e => by rw [ht] at e; cases e)
    rw [ht] at ht'
    cases ht'
    rw [wrap64 (by omega) (by omega)]
    refine iteP_pos (by simp) ?_
    have ca37 : IsC 99 h37 h1.size (at_ + sumL (l.take k)) := keepB ca u37 (by omega)
    refine Now_spec ca37 (bindB_intro ?_)
    rw [beq_self_eq_true]
    exact hk h37 (x34.then u37 fun k hk => by omega)
  · refine bindI_intro (loopM_intro (fun s h' => ∃ k : Nat, s.2.2.1 = (k : Int) ∧ s.1 = sumL (l.take k) ∧ Inv k s.2.1 h') (fun s _ => l.length - s.2.2.1.toNat)
      ⟨0, rfl, rfl, Nat.zero_le _, Nat.zero_le _, x7, by rw [List.take_zero]; show IsC 99 h7 h1.size (at_ + 0); rw [Int.add_zero]; exact c4', c7, Nat.le_refl _, Own.nil _ _ 1⟩ ?_)
    rintro ⟨sum, all, i, u⟩ h12 ⟨k, hi, hs, hkl, hk1000, x12, ca, cb, z12, hown⟩
    dsimp only at hi hs hown
    subst hi hs
    dsimp only
    have done : ∃ k', sumL (l.take k) = sumL (l.take k') ∧ Inv k' all h12 := ⟨k, rfl, hkl, hk1000, x12, ca, cb, z12, hown⟩
    refine iteP_dec (fun hlt => iteP_dec (fun hlt2 => ?_) (fun _ => done)) (fun _ => done)
    have hk1 : k < l.length := by omega
    have hx : l[k]? = some l[k] := List.getElem?_eq_getElem hk1
    have htk : l.take (k + 1) = l.take k ++ [l[k]] := List.take_succ_eq_append_getElem hk1
    generalize l[k] = x at hx htk
    have hxr := hr x (List.mem_of_getElem? hx)
    have hrk : ∀ n, n ∈ l.take k → 0 ≤ n ∧ n < 4294967296 := fun n hn => hr n (List.mem_of_mem_take hn)
    have hlk : (l.take k).length = k := by simp; omega
    have hsum := sumL_range _ hrk
    rw [hlk] at hsum
    have get : ∀ {h' : Heap} {K' : Int → Prop}, Ext h h' → K' x → idxA by_.ptr by_.len (k : Int) 1 fun b o => ldI h' b o .u32 K' := fun {h' K'} he hK =>
      Row.idx (hl.ext he) (n := k) rfl (v := Value.int .u32 x) (by simp [hx]) fun _ _ _ hc => ⟨x, hc, hK⟩
    refine get x12 ?_
    rw [wrap64 (n := x) (by omega) (by omega)]
    refine newK fun h15 c15 e15 z15 => ?_
    have hone : Ints h15 ⟨some ⟨h12.size, 0, none⟩, 1, 1⟩ [x] := ⟨rfl, Nat.le_refl _, (show 1 < 9223372036854775808 by decide), .inr ⟨h12.size, 0, rfl, has_block c15 fun i v hi => by simpa using hi⟩⟩
    have ht : tickS (at_ + sumL (l.take k)) [x] = some (at_ + sumL (l.take k) + x) := by rw [tickS, if_neg (by omega)]; rfl
    refine Tick_spec (keepE ca e15) (by omega) hone (fun at' ht' _ h18 c18 u18 z18 => bindI_intro (bindI_intro (iteP_neg rfl ?_))) (fun e => by rw [ht] at e; cases e)
    rw [ht] at ht'
    cases ht'
    have x18 : Ext h h18 := (x12.trans e15).then u18 fun k hk => by omega
    refine get x18 ?_
    rw [wrap64 (n := x) (by omega) (by omega), wrap64 (by omega) (by omega)]
    refine bindI_intro (get x18 ?_)
    rw [wrap64 (n := x) (by omega) (by omega)]
    refine newK fun h27 c27 e27 z27 => ?_
    have hrow : Row h27 ⟨some ⟨h18.size, 0, none⟩, 1, 1⟩ 1 [iv x] := ⟨rfl, Nat.le_refl _, (show 1 < 9223372036854775808 by decide), .inr ⟨h18.size, 0, rfl, has_block c27 fun i v hi => by simpa using hi⟩⟩
    refine hrow.rd ?_
    have zh7 := e7.size
    have hown27 : Own h27 h7.size all 1 ((l.take k).map iv) := (hown.congr (h' := h15) fun k _ hl _ => e15.old k hl).congr fun k hk hl hge => by
      have h18l := u18.old k hl (by omega)
      rw [e27.old k (by omega)]; exact h18l
    have hol := hown.len
    simp only [List.length_map, Nat.mul_one, hlk] at hol
    refine Own.app hown27 rfl rfl rfl (by omega) (by omega) (by omega) fun s' h29 ho29 hl29 hu29 _ => bindI_intro ?_
    rw [wrap64 (n := (k : Int) + 1) (by omega) (by omega)]
    have z29 := hu29.size
    refine ⟨⟨k + 1, by omega, ?_, by omega, by omega, (x18.trans e27).then hu29 fun k hk => by have := (hown27.lt hk).1; omega, ?_, ?_, by omega, ?_⟩, by omega⟩
    · rw [htk, sumL_snoc]
    · rw [htk, sumL_snoc, ← Int.add_assoc]
      have : IsC 99 h27 h1.size (at_ + sumL (l.take k) + x) := keepE c18 e27
      exact (hu29.old h1.size (by omega) fun he => by have := (hown27.lt he).1; omega).trans this
    · have : IsC 99 h27 h4.size at_ := keepE (keepB (keepE cb e15) u18 (by omega)) e27
      exact (hu29.old h4.size (by omega) fun he => by have := (hown27.lt he).1; omega).trans this
    · rw [htk, List.map_append]
      exact ho29

/-! ### nothing there -/
theorem AtNone_spec {h : Heap} {n : Int} {K : (Int × Int × Int × Unit) → Heap → Prop} (hk : ∀ h', Ext h h' → K (0, 0, 0, ()) h') : m_world_Load_At none n K h := by
  unfold m_world_Load_At g_world_Load_At
  refine newK fun h1 c1 e1 z1 => newK fun h3 c3 e3 z3 => iteP_true ?_
  refine ldIk c3 rfl (ldIk c3 rfl (ldIk c3 rfl (stsAll (keepE c1 e3) rfl rfl fun h6 c6 u6 z6 => ?_)))
  exact ldIk c6 rfl (ldIk c6 rfl (ldIk c6 rfl (hk h6 ((e1.trans e3).then u6 fun k hk => by omega))))

theorem WorldNone_true {n : Int} {h : Heap} {K : Bool → Heap → Prop} (hk : ∀ h', Ext h h' → K true h') : m_spillwaylaw02_WorldNone n K h := by
  unfold m_spillwaylaw02_WorldNone g_spillwaylaw02_WorldNone
  refine newK fun h1 c1 e1 z1 => ?_
  unfold m_world_Clock_Tick g_world_Clock_Tick
  refine bindI_intro (bindI_intro (iteP_true (bindI_intro (bindI_intro (bindI_intro (bindI_intro ?_))))))
  unfold m_world_Chance_Below g_world_Chance_Below
  refine bindI_intro (bindI_intro (bindB_intro (iteP_true (bindI_intro (bindI_intro (bindI_intro (bindI_intro ?_)))))))
  unfold m_world_Chance_Shuffle g_world_Chance_Shuffle
  refine bindI_intro (bindB_intro (iteP_true (bindI_intro (bindI_intro ?_))))
  refine live_spec fun h12 e12 => iteP_true ?_
  unfold m_world_Clock_Now g_world_Clock_Now
  refine bindI_intro (iteP_true (bindI_intro (iteP_pos rfl (iteP_pos rfl ?_))))
  unfold m_world_Clock_Set g_world_Clock_Set
  refine bindI_intro (bindB_intro (iteP_true (bindI_intro (iteP_pos rfl ?_))))
  unfold m_world_Clock_Fork g_world_Clock_Fork
  refine iteP_true (iteP_pos rfl ?_)
  unfold m_world_Chance_Next g_world_Chance_Next
  refine bindI_intro (iteP_true (bindI_intro (iteP_pos rfl (iteP_pos rfl (iteP_pos rfl ?_)))))
  unfold m_world_Chance_Fork g_world_Chance_Fork
  refine iteP_true (iteP_pos rfl ?_)
  unfold m_world_Load_Add g_world_Load_Add
  refine bindI_intro (iteP_true (bindI_intro (iteP_pos rfl ?_)))
  refine AtNone_spec fun h26 e26 => iteP_pos rfl ?_
  unfold m_world_Load_Samples g_world_Load_Samples
  refine iteP_true (iteP_pos rfl ?_)
  unfold m_world_Load_Fork g_world_Load_Fork
  exact iteP_true (bindB_intro (hk h26 ((e1.trans e12).trans e26)))

end Go.Proofs.Ytkcbkiognkkhlaa
