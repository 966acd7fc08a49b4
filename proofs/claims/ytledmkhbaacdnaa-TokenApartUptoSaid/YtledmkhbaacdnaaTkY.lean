/- The token server in plain words: what a request may do; a window never holds less than what was granted. -/
import Derived.Test.YtledmkhbaacdnaaTkX
namespace Go.Proofs.Ytledmkhbaacdnaa
open Go Go.Fw
set_option linter.unusedSimpArgs false
set_option linter.unusedVariables false

def Srv.at (S : Srv) (t : Int) : Srv := { S with last := t }
/-- what stays out, when nothing is granted -/
def Shr (S : Srv) (at_ : Int) (o : List F4) : Prop := o = S.out ∨ o = aliveV at_ S.out ∨ ∃ i, o = (aliveV at_ S.out).eraseIdx i
theorem giveV_shr (S : Srv) (at_ : Int) (ns : ByteArray) (n : Int) : Shr S at_ (giveV S at_ ns n).2 ∧ (giveV S at_ ns n).1 ≠ 1 := by
  unfold giveV
  split
  · exact ⟨.inl rfl, show (4 : Int) ≠ 1 by decide⟩
  · split
    · exact ⟨.inr (.inr ⟨_, rfl⟩), show (8 : Int) ≠ 1 by decide⟩
    · exact ⟨.inl rfl, show (4 : Int) ≠ 1 by decide⟩
/-- nothing was granted -/
structure Still (S : Srv) (at_ : Int) (r : Rq) (st : Int) (S' : Srv) : Prop where
  nope : st ≠ 1 ∨ r.2.1 = 5
  bad : rightB r = false → st = 5
  is : ∃ o cs, Shr S at_ o ∧ S' = { S with last := at_, out := o, conns := cs }
/-- a grant -/
structure Grant (S : Srv) (at_ : Int) (ns : ByteArray) (r : Rq) (f : F4) (st : Int) (S' : Srv) : Prop where
  right : rightB r = true
  one : st = 1
  want : r.2.1 ≠ 5
  flow : flowV S.spaces ns r.2.2.1 = some f
  kind : f.2.2.1 = r.2.1
  quiet : quietV S at_ f = false
  over : overV (usedV S at_ f r.2.2.2.2.1) f r = false
  is : (f.2.2.1 ≠ 3 ∧ S' = (S.at at_).take at_ f r) ∨ (f.2.2.1 = 3 ∧ (aliveV at_ S.out).length < 1024 ∧ S' = (S.at at_).lease at_ f r)

theorem ansV_cases (S : Srv) (at_ conn : Int) (ns : ByteArray) (r : Rq) : Still S at_ r (ansV (S.at at_) at_ conn ns r).1.2.1 (ansV (S.at at_) at_ conn ns r).2 ∨ ∃ f, Grant S at_ ns r f (ansV (S.at at_) at_ conn ns r).1.2.1 (ansV (S.at at_) at_ conn ns r).2 := by
  unfold ansV
  split
  · exact .inl ⟨.inl (by show (5 : Int) ≠ 1; decide), fun _ => rfl, _, _, .inl rfl, rfl⟩
  rename_i hr
  have hr' : rightB r = true := by simpa using hr
  have hbad : ∀ {n : Int}, rightB r = false → n = 5 := fun h => by rw [hr'] at h; cases h
  split
  · rename_i h5
    split
    · exact .inl ⟨.inr h5, hbad, _, _, .inl rfl, rfl⟩
    · exact .inl ⟨.inr h5, hbad, _, _, .inl rfl, rfl⟩
  rename_i h5
  split
  · exact .inl ⟨.inl (by show (4 : Int) ≠ 1; decide), hbad, _, _, .inl rfl, rfl⟩
  split
  · obtain ⟨g1, g2⟩ := giveV_shr (S.at at_) at_ ns r.2.2.2.2.2.1
    exact .inl ⟨.inl g2, hbad, _, _, g1, rfl⟩
  unfold wantV
  split
  · exact .inl ⟨.inl (by show (4 : Int) ≠ 1; decide), hbad, _, _, .inl rfl, rfl⟩
  rename_i f hf
  split
  · exact .inl ⟨.inl (by show (4 : Int) ≠ 1; decide), hbad, _, _, .inl rfl, rfl⟩
  rename_i hk
  split
  · exact .inl ⟨.inl (by show (7 : Int) ≠ 1; decide), hbad, _, _, .inl rfl, rfl⟩
  rename_i hq
  have hk' : f.2.2.1 = r.2.1 := by simpa using hk
  have hq' : quietV S at_ f = false := by
    have : quietV (S.at at_) at_ f = false := by simpa using hq
    exact this
  unfold grantV
  split
  · exact .inl ⟨.inl (by show (2 : Int) ≠ 1; decide), hbad, _, _, .inl rfl, rfl⟩
  rename_i ho
  have ho' : overV (usedV S at_ f r.2.2.2.2.1) f r = false := by
    have : overV (usedV (S.at at_) at_ f r.2.2.2.2.1) f r = false := by simpa using ho
    exact this
  split
  · rename_i h3
    exact .inr ⟨f, hr', rfl, h5, hf, hk', hq', ho', .inl ⟨h3, rfl⟩⟩
  rename_i h3
  have h3' : f.2.2.1 = 3 := by simpa using h3
  split
  · exact .inl ⟨.inl (by show (6 : Int) ≠ 1; decide), hbad, _, _, .inr (.inl rfl), rfl⟩
  · rename_i hl
    exact .inr ⟨f, hr', rfl, h5, hf, hk', hq', ho', .inr ⟨h3', by have : ¬ (aliveV at_ S.out).length ≥ 1024 := hl; omega, rfl⟩⟩

/-- what a request does: an error, or a step at its time -/
theorem doV_cases (S : Srv) (at_ conn : Int) (r : Rq) :
    ((doV S at_ conn r).1.2 ≠ 0 ∧ (doV S at_ conn r).2 = S) ∨
    ((doV S at_ conn r).1.2 = 0 ∧ lookE S.last at_ = 0 ∧ (doV S at_ conn r).1.1.1 = r.1 ∧ (Still S at_ r (doV S at_ conn r).1.1.2.1 (doV S at_ conn r).2 ∨ ∃ ns f, S.conns conn = some ns ∧ Grant S at_ ns r f (doV S at_ conn r).1.1.2.1 (doV S at_ conn r).2)) := by
  rcases Decidable.em (lookE S.last at_ = 0) with q | q
  case inr => rw [doV_look q]; exact .inl ⟨q, rfl⟩
  cases hc : S.conns conn with
  | none => rw [doV_none (fun h => h q) hc]; exact .inl ⟨by show (4 : Int) ≠ 0; decide, rfl⟩
  | some ns =>
    rw [doV_some (fun h => h q) hc rfl]
    refine .inr ⟨rfl, q, rfl, ?_⟩
    rcases ansV_cases S at_ conn ns r with h | ⟨f, h⟩
    · exact .inl h
    · exact .inr ⟨ns, f, rfl, h⟩
theorem lookE_ok {last at_ : Int} (h : lookE last at_ = 0) : 0 ≤ at_ ∧ at_ ≤ 1152921504606846976 ∧ last ≤ at_ := by
  unfold lookE at h
  split at h
  · split at h
    · cases h
    · omega
  · cases h

theorem flowB_rng {r : Rq} (h : flowB r = true) : 1 ≤ r.2.2.2.1 ∧ r.2.2.2.1 ≤ 1099511627776 := by
  unfold flowB at h
  simp only [Bool.and_eq_true] at h
  have := h.2
  unfold inB at this
  simp only [Bool.and_eq_true, decide_eq_true_eq] at this
  omega
theorem right_count {r : Rq} (h : rightB r = true) (hw : r.2.1 = 1 ∨ r.2.1 = 2 ∨ r.2.1 = 3) : 1 ≤ r.2.2.2.1 ∧ r.2.2.2.1 ≤ 1099511627776 := by
  refine flowB_rng ?_
  unfold rightB at h
  rcases hw with e | e | e <;> simp [e] at h <;> simp [h]

/-! ### notes of what was granted -/
def nearN (t : Int) (l : List (Int × Int)) : Int := ((l.filter fun x => decide (t - x.1 < 900000)).map (·.2)).sum
def bktN (i : Int) (l : List (Int × Int)) : Int := ((l.filter fun x => decide (bkt x.1 = i)).map (·.2)).sum
def fromN (i : Int) (l : List (Int × Int)) : Int := ((l.filter fun x => decide (i ≤ bkt x.1)).map (·.2)).sum
theorem sum_nonneg : ∀ {l : List Int}, (∀ x, x ∈ l → 0 ≤ x) → 0 ≤ l.sum
  | [], _ => by simp
  | x :: l, h => by
    rw [List.sum_cons]
    have := h x (List.mem_cons_self ..)
    have := sum_nonneg (l := l) fun y hy => h y (List.mem_cons_of_mem _ hy)
    omega
theorem filt_le {p q : (Int × Int) → Bool} : ∀ {l : List (Int × Int)}, (∀ x, x ∈ l → 0 ≤ x.2) → (∀ x, x ∈ l → p x = true → q x = true) → ((l.filter p).map (·.2)).sum ≤ ((l.filter q).map (·.2)).sum
  | [], _, _ => by simp
  | x :: l, h, hpq => by
    have ih := filt_le (p := p) (q := q) (l := l) (fun y hy => h y (List.mem_cons_of_mem _ hy)) fun y hy => hpq y (List.mem_cons_of_mem _ hy)
    have hx := h x (List.mem_cons_self ..)
    have hpx := hpq x (List.mem_cons_self ..)
    rw [List.filter_cons, List.filter_cons]
    cases hp : p x with
    | true => rw [hpx hp]; simp only [if_true, List.map_cons, List.sum_cons]; omega
    | false =>
      cases hq : q x with
      | true => simp only [if_true, Bool.false_eq_true, if_false, List.map_cons, List.sum_cons]; omega
      | false => simpa using ih
theorem filt_none {p : (Int × Int) → Bool} : ∀ {l : List (Int × Int)}, (∀ x, x ∈ l → p x = false) → ((l.filter p).map (·.2)).sum = 0 := fun {l} h => by
  have : l.filter p = [] := List.filter_eq_nil_iff.2 fun x hx => by rw [h x hx]; decide
  rw [this]; rfl
theorem near_app (t : Int) (a b : List (Int × Int)) : nearN t (a ++ b) = nearN t a + nearN t b := by unfold nearN; rw [List.filter_append, List.map_append, List.sum_append]
theorem bkt_app (i : Int) (a b : List (Int × Int)) : bktN i (a ++ b) = bktN i a + bktN i b := by unfold bktN; rw [List.filter_append, List.map_append, List.sum_append]
theorem bkt_one (i a n : Int) : bktN i [(a, n)] = if i = bkt a then n else 0 := by
  unfold bktN
  by_cases h : bkt a = i
  · rw [if_pos h.symm]; simp [h]
  · rw [if_neg (fun e => h e.symm)]; simp [h]
theorem near_one (t a n : Int) (h : t - a < 900000) : nearN t [(a, n)] = n := by unfold nearN; simp [h]
theorem from_step (i : Int) : ∀ (l : List (Int × Int)), fromN i l = bktN i l + fromN (i + 1) l
  | [] => rfl
  | x :: l => by
    have ih := from_step i l
    unfold fromN bktN at *
    simp only [List.filter_cons]
    rcases Int.lt_trichotomy (bkt x.1) i with h | h | h
    · simp only [show ¬ i ≤ bkt x.1 from by omega, show ¬ bkt x.1 = i from by omega, show ¬ i + 1 ≤ bkt x.1 from by omega, decide_false, Bool.false_eq_true, if_false]
      exact ih
    · simp only [show i ≤ bkt x.1 from by omega, show bkt x.1 = i from h, show ¬ i + 1 ≤ i from by omega, decide_true, decide_false, if_true, Bool.false_eq_true, if_false, List.map_cons, List.sum_cons, Int.le_refl]
      omega
    · simp only [show i ≤ bkt x.1 from by omega, show ¬ bkt x.1 = i from by omega, show i + 1 ≤ bkt x.1 from by omega, decide_true, decide_false, if_true, Bool.false_eq_true, if_false, List.map_cons, List.sum_cons]
      omega

theorem sumTo_small {p : Int → Int} {c : Int} (hc : 0 ≤ c ∧ c ≤ 1099511627776) (hp : ∀ i, 0 ≤ p i ∧ p i ≤ c) (lo : Int) : ∀ (n : Nat), n ≤ 100 → sumTo p lo (lo + ((n + 1 : Nat) : Int)) = sumTo p lo (lo + n) + p (lo + n) ∧ 0 ≤ sumTo p lo (lo + n) ∧ sumTo p lo (lo + n) ≤ n * c
  | 0, _ => by
    have e : sumTo p lo (lo + ((0 : Nat) : Int)) = 0 := by rw [show lo + ((0 : Nat) : Int) = lo from by omega]; exact sumTo_lo p lo
    have h0 := hp lo
    refine ⟨?_, by rw [e]; omega, by rw [e]; omega⟩
    rw [show lo + ((0 + 1 : Nat) : Int) = lo + ((0 : Nat) : Int) + 1 from by omega, sumTo_next p (by omega), e, plusV_eq (by omega) (by have := hp (lo + ((0 : Nat) : Int)); omega)]
    have := hp (lo + ((0 : Nat) : Int))
    omega
  | n + 1, hn => by
    obtain ⟨h1, h2, h3⟩ := sumTo_small hc hp lo n (by omega)
    have hpn := hp (lo + n)
    have hpm := hp (lo + ((n + 1 : Nat) : Int))
    have hb : ((n + 1 : Nat) : Int) * c = n * c + c := by rw [Int.natCast_add, Int.add_mul]; omega
    have hn2 : (n : Int) * c ≤ 100 * c := Int.mul_le_mul_of_nonneg_right (by omega) hc.1
    refine ⟨?_, by rw [h1]; omega, by rw [h1, hb]; omega⟩
    rw [show lo + ((n + 1 + 1 : Nat) : Int) = lo + ((n + 1 : Nat) : Int) + 1 from by omega, sumTo_next p (by omega), plusV_eq (by rw [h1]; omega) (by omega)]
    omega
/-- the window's sum is what was noted from its first bucket on -/
theorem sum_notes {w : Win} {l : List (Int × Int)} {c : Int} (hc : 0 ≤ c ∧ c ≤ 1099511627776) (hp : ∀ i, 0 ≤ w.p i ∧ w.p i ≤ c) (hw : ∀ i, w.p i = bktN i l) {at_ : Int} (h0 : 0 ≤ at_) (hl : ∀ x, x ∈ l → x.1 ≤ at_) : w.sum at_ = fromN (loW at_) l := by
  have key : ∀ (n : Nat), n ≤ 100 → sumTo w.p (loW at_) (loW at_ + n) + fromN (loW at_ + n) l = fromN (loW at_) l := fun n => by
    induction n with
    | zero => intro _; rw [show loW at_ + ((0 : Nat) : Int) = loW at_ from by omega, sumTo_lo]; omega
    | succ n ih =>
      intro hn
      have := ih (by omega)
      rw [(sumTo_small hc hp (loW at_) n (by omega)).1, show loW at_ + ((n + 1 : Nat) : Int) = loW at_ + n + 1 from by omega, hw]
      have := from_step (loW at_ + n) l
      omega
  have hb : 0 ≤ bkt at_ := by unfold bkt; omega
  have hlo : loW at_ ≤ bkt at_ ∧ bkt at_ - 9 ≤ loW at_ := by unfold loW; omega
  have := key (bkt at_ + 1 - loW at_).toNat (by omega)
  rw [show loW at_ + (((bkt at_ + 1 - loW at_).toNat : Nat) : Int) = bkt at_ + 1 from by omega] at this
  have hz : fromN (bkt at_ + 1) l = 0 := filt_none fun x hx => by
    have := bkt_mono (hl x hx)
    exact decide_eq_false (by omega)
  unfold Win.sum
  omega
theorem near_le_from {l : List (Int × Int)} {at_ : Int} (hl : ∀ x, x ∈ l → 0 ≤ x.1 ∧ 0 ≤ x.2) : nearN at_ l ≤ fromN (loW at_) l := by
  refine filt_le (fun x hx => (hl x hx).2) fun x hx h => ?_
  have := (hl x hx).1
  simp only [decide_eq_true_eq] at h ⊢
  unfold loW bkt
  omega
end Go.Proofs.Ytledmkhbaacdnaa
