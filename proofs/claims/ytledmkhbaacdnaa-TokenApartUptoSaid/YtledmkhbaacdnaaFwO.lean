/- A drawn region whose operations may write: an operation that only reads may be taken first, as long as nobody who could come before it writes what it reads. Plain law of orders. -/
import Derived.Test.YtledmkhbaacdnaaFwK
import Derived.OrdersHeld
import Derived.OrdersIn
namespace Go.Fw
open Go

/-- what is to hold of the world for an operation of that number that was taken first -/
abbrev Kept := List (Nat × (World → Prop))

def Kept.all (L : Kept) (w : World) : Prop := ∀ p, p ∈ L → p.2 w

/-- does operation j wait for operation i -/
def Kept.waits (ops : Array Oper) (j i : Nat) : Prop := ∃ o, ops[j]? = some o ∧ ∃ e ∈ o.after, Region.binds .any e = true ∧ e.on = i

/-- no operation is a 'defer' statement -/
def noDefer (ops : Array Oper) : Prop := ∀ (j : Nat) (o : Oper), ops[j]? = some o → ∀ c, o.op ≠ .defer c
theorem noDefer_of {ops : Array Oper} (h : noDeferB ops.toList = true) : noDefer ops := by
  have key : ∀ (l : List Oper), noDeferB l = true → ∀ (j : Nat) (o : Oper), l[j]? = some o → ∀ c, o.op ≠ .defer c := by
    intro l
    induction l with
    | nil => intro _ j o ho; simp at ho
    | cons x xs ih =>
      intro h j o ho c hc
      simp only [noDeferB] at h
      cases hd : isDefer x.op with
      | true => rw [hd] at h; cases h
      | false =>
        rw [hd] at h
        cases j with
        | zero => simp at ho; subst ho; rw [hc] at hd; cases hd
        | succ j => exact ih h j o (by simpa using ho) c hc
  intro j o ho
  exact key _ h j o (by simpa using ho)

/-- whatever order is picked: behind operation j holds what was kept for those that j does not wait for -/
def wpK (rn : Option Nat) (P : Program) (ops : Array Oper) (Q : Exit → Act → World → Prop) (nx : Kept → Nat → Kept) : Kept → Nat → Array Bool → Act → World → Prop
  | _, 0, listed, a, w => Region.ready .any ops listed = [] ∧ Q .normal a w
  | L, fuel + 1, listed, a, w =>
    (Region.ready .any ops listed = [] → Q .normal a w) ∧
    ∀ i ∈ Region.ready .any ops listed, wpOpIn (fen rn) 0 P ops Q i (fun a' w' => (nx L i).all w' ∧ wpK rn P ops Q nx (nx L i) fuel (listed.setIfInBounds i true) a' w') a w

theorem yieldsIf_wpF {rn : Option Nat} {P : Program} {ops : Array Oper} {Q : Exit → Act → World → Prop} {S : World → Prop} {i : Nat} {o : Oper} {v : Value} {a : Act} (hnd : noDefer ops) (hi : ops[i]? = some o) (hy : YieldsIf P ops S o v a)
    {K : Act → World → Prop} {w : World} (hS : S w) (h : K (a.put o.dst v) w) : wpOpIn (fen rn) 0 P ops Q i K a w := by
  unfold Go.wpOpIn
  simp only [hi]
  rcases hy with ⟨hw, hv⟩ | ⟨hw, rfl⟩
  · simp only [hw, if_true]
    exact wp_val (hv w hS) h
  · simp only [hw, Bool.false_eq_true, if_false]; exact ⟨fun _ _ => trivial, h⟩

theorem wpOpF_putIf {rn : Option Nat} {P : Program} {ops : Array Oper} {Q : Exit → Act → World → Prop} {S : World → Prop} (hnd : noDefer ops) {j : Nat} {oi oj : Oper} {v : Value} (hj : ops[j]? = some oj) (hap : oi.apart ops oj = true)
    (hsi : ∀ cs b, oi.op ≠ .select cs b) (hsj : ∀ cs b, oj.op ≠ .select cs b)
    (hQ : ∀ c a w, Q (.panic c) (a.put oi.dst v) w → Q (.panic c) a w) {K : Act → World → Prop} {a : Act} {w : World}
    (hy : YieldsIf P ops S oi v a) (h : wpOpIn (fen rn) 0 P ops Q j K (a.put oi.dst v) w) :
    wpOpIn (fen rn) 0 P ops Q j (fun a' w' => YieldsIf P ops S oi v a' ∧ K (a'.put oi.dst v) w') a w := by
  obtain ⟨h1, h2, h3⟩ := Oper.apart_spec hap
  have keep : ∀ (a : Act), YieldsIf P ops S oi v a → ∀ u, YieldsIf P ops S oi v (a.put oj.dst u) := fun a hy u =>
    hy.of_same (execOp_put oi hsi a oj.dst u h3) (wanted_put oi a oj.dst u h3)
  have keepD : ∀ d, YieldsIf P ops S oi v { a with defers := d :: a.defers } := fun d => hy.of_same rfl rfl
  have hndj := hnd j oj hj
  unfold wpOpIn at *
  simp only [hj] at *
  rw [wanted_put oj a oi.dst v h1] at h
  split
  · rename_i hw
    simp only [hw, if_true] at h
    unfold Oper.wpIn at *
    refine ⟨fun _ _ => trivial, ?_⟩
    have h := h.2
    rw [Oper.semAt_eq _ _ _ hndj, execOp_put oj hsj a oi.dst v h1] at h
    rw [Oper.semAt_eq _ _ _ hndj]
    generalize (execOp a.eval oj).run P w = r at *
    cases r with
    | ok x w' =>
      cases x <;> simp only [Oper.uponIn] at h ⊢
      case value u => exact ⟨keep a hy u, by rw [← Act.put_comm a v u h2]; exact h⟩
      case skip => exact ⟨keep a hy _, by rw [← Act.put_comm a v undef h2]; exact h⟩
      case defer d =>
        refine ⟨keep _ (keepD d) _, ?_⟩
        rw [← Act.put_comm _ v undef h2, ← Act.put_defers]
        exact h
      case enter f args =>
        refine ⟨h.1, CallsIn.mono h.2 fun e w'' he => ?_⟩
        cases e with
        | returned u => exact ⟨keep a hy u, by rw [← Act.put_comm a v u h2]; exact he⟩
        | panicked c => exact hQ _ _ _ he
        | outgrown => exact he
      case row row args => exact ⟨h.1, RowsIn.mono h.2 fun u w'' he => ⟨keep a hy u, by rw [← Act.put_comm a v u h2]; exact he⟩⟩
      case round l f tmps assign body =>
        refine ⟨h.1, RoundIn.mono h.2 fun e w'' he => ?_⟩
        cases e with
        | returned u => exact ⟨keep a hy u, by rw [← Act.put_comm a v u h2]; exact he⟩
        | panicked c => exact hQ _ _ _ he
        | outgrown => exact he
    | halt x w' =>
      cases x <;> simp only [Oper.uponIn] at h ⊢
      case panic u => exact hQ _ _ _ h
  · rename_i hw
    simp only [hw] at h
    exact ⟨fun _ _ => trivial, keep a hy _, by rw [← Act.put_comm a v undef h2]; exact h.2⟩

section
variable {rn : Option Nat} {P : Program} {ops : Array Oper} {Q : Exit → Act → World → Prop} {nx : Kept → Nat → Kept}

theorem wpK_any : ∀ (fuel : Nat) (L : Kept) (listed : Array Bool) (a : Act) (w : World), wpK rn P ops Q nx L fuel listed a w → wpAnyIn (fen rn) 0 P .any ops Q fuel listed a w
  | 0, _, _, _, _, h => h
  | fuel + 1, _, _, _, _, h => ⟨h.1, fun i hi => wpOpIn_mono (fun a' w' h' => wpK_any fuel _ _ a' w' h'.2) (h.2 i hi)⟩

/-- what is kept is what those that are not waited for keep -/
structure Next (ops : Array Oper) (nx : Kept → Nat → Kept) : Prop where
  mem : ∀ L j p, p ∈ nx L j → p ∈ L
  keep : ∀ L j p, p ∈ L → ¬ Kept.waits ops j p.1 → p ∈ nx L j
  same : ∀ L L' j p, p ∈ nx L' j → p ∈ L → p ∈ nx L j

theorem wpK_weak (hn : Next ops nx) : ∀ (fuel : Nat) (L L' : Kept) (listed : Array Bool) (a : Act) (w : World), (∀ p, p ∈ L' → p ∈ L ∨ ∀ w, p.2 w) →
    wpK rn P ops Q nx L fuel listed a w → wpK rn P ops Q nx L' fuel listed a w
  | 0, _, _, _, _, _, _, h => h
  | fuel + 1, L, L', _, _, _, hs, h => ⟨h.1, fun i hi => wpOpIn_mono (fun a' w' h' => by
      have hs' : ∀ p, p ∈ nx L' i → p ∈ nx L i ∨ ∀ w, p.2 w := fun p hp => (hs p (hn.mem _ _ _ hp)).imp (hn.same L L' i p hp) id
      exact ⟨fun p hp => (hs' p hp).elim (h'.1 p) (fun h => h w'), wpK_weak hn fuel _ _ _ _ _ hs' h'.2⟩) (h.2 i hi)⟩

theorem wpK_first (hnd : noDefer ops) (hn : Next ops nx) {i : Nat} {oi : Oper} {v : Value} {S : World → Prop} (hi : ops[i]? = some oi) (hsel : ∀ (j : Nat) (o : Oper) cs b, ops[j]? = some o → o.op ≠ .select cs b)
    (hQ : ∀ c a w, Q (.panic c) (a.put oi.dst v) w → Q (.panic c) a w) :
    ∀ (fuel : Nat) (L : Kept) (listed : Array Bool) (a : Act) (w : World),
      (∀ j oj, ops[j]? = some oj → j ≠ i → listed.getD j true = false → (∀ e ∈ oj.after, Region.binds .any e = true → e.on ≠ i) → oi.apart ops oj = true) →
      i ∈ Region.ready .any ops listed → YieldsIf P ops S oi v a → S w → Kept.all L w →
      wpK rn P ops Q nx ((i, S) :: L) fuel (listed.setIfInBounds i true) (a.put oi.dst v) w → wpK rn P ops Q nx L (fuel + 1) listed a w := by
  intro fuel
  induction fuel with
  | zero =>
    intro L listed a w _ hr hy hS hL H
    refine ⟨fun h => (by rw [h] at hr; cases hr), fun j hj => ?_⟩
    by_cases hji : j = i
    · subst hji
      exact yieldsIf_wpF hnd hi hy hS ⟨fun p hp => hL p (hn.mem _ _ _ hp), H⟩
    · have := ready_mono hj hji
      rw [H.1] at this
      cases this
  | succ fuel ih =>
    intro L listed a w hfree hr hy hS hL H
    refine ⟨fun h => (by rw [h] at hr; cases hr), fun j hj => ?_⟩
    by_cases hji : j = i
    · subst hji
      exact yieldsIf_wpF hnd hi hy hS ⟨fun p hp => hL p (hn.mem _ _ _ hp), wpK_weak hn _ _ _ _ _ _ (fun p hp => .inl (.tail _ (hn.mem _ _ _ hp))) H⟩
    · have h1 := H.2 j (ready_mono hj hji)
      obtain ⟨hjun, oj, hoj, hall⟩ := mem_ready.1 hj
      have hnot : ∀ e ∈ oj.after, Region.binds .any e = true → e.on ≠ i := fun e he hb heq => by
        have h1 := hall e he hb
        have h0 := (mem_ready.1 hr).1
        rw [heq] at h1
        rcases Nat.lt_or_ge i listed.size with h' | h'
        · simp [h'] at h0 h1; rw [h0] at h1; cases h1
        · simp [Array.getElem?_eq_none h'] at h1
      have h2 := wpOpF_putIf hnd hoj (hfree j oj hoj hji hjun hnot) (fun cs b => hsel i oi cs b hi) (fun cs b => hsel j oj cs b hoj) hQ hy h1
      have hfree' : ∀ k ok, ops[k]? = some ok → k ≠ i → (listed.setIfInBounds j true).getD k true = false →
          (∀ e ∈ ok.after, Region.binds .any e = true → e.on ≠ i) → oi.apart ops ok = true := fun k ok hk hki hun hno => by
        refine hfree k ok hk hki ?_ hno
        by_cases hjk : j = k
        · subst hjk; exact hjun
        · rw [getD_set_ne true hjk] at hun; exact hun
      have hmem : ((i, S) : Nat × (World → Prop)) ∈ nx ((i, S) :: L) j := by
        refine hn.keep _ _ _ (.head _) ?_
        rintro ⟨o', ho', e, he, hb, hon⟩
        rw [hoj] at ho'
        cases ho'
        exact hnot e he hb hon
      refine wpOpIn_mono (fun a' w' h3 => ?_) h2
      obtain ⟨hy', hall', hrest⟩ := h3
      have hL' : Kept.all (nx L j) w' := fun p hp => hall' p (hn.same _ _ _ _ hp (.tail _ (hn.mem _ _ _ hp)))
      refine ⟨hL', ih (nx L j) (listed.setIfInBounds j true) a' w' hfree' (ready_mono hr (Ne.symm hji)) hy' (hall' _ hmem) hL' ?_⟩
      rw [Array.setIfInBounds_comm _ _ hji]
      refine wpK_weak hn _ _ _ _ _ _ (fun p hp => .inl ?_) hrest
      rcases List.mem_cons.1 hp with rfl | hp
      · exact hmem
      · exact hn.same _ _ _ _ hp (.tail _ (hn.mem _ _ _ hp))

theorem wpK_only {i : Nat} {fuel : Nat} {L : Kept} {listed : Array Bool} {a : Act} {w : World} (hr : ∀ j, j ∈ Region.ready .any ops listed → j = i) (hm : i ∈ Region.ready .any ops listed)
    (h : wpOpIn (fen rn) 0 P ops Q i (fun a' w' => (nx L i).all w' ∧ wpK rn P ops Q nx (nx L i) fuel (listed.setIfInBounds i true) a' w') a w) : wpK rn P ops Q nx L (fuel + 1) listed a w :=
  ⟨fun h0 => (by rw [h0] at hm; cases hm), fun j hj => (hr j hj) ▸ h⟩

theorem wpK_two {i j : Nat} {fuel : Nat} {L : Kept} {listed : Array Bool} {a : Act} {w : World} (hr : ∀ k, k ∈ Region.ready .any ops listed → k = i ∨ k = j) (hm : i ∈ Region.ready .any ops listed)
    (h1 : wpOpIn (fen rn) 0 P ops Q i (fun a' w' => (nx L i).all w' ∧ wpK rn P ops Q nx (nx L i) fuel (listed.setIfInBounds i true) a' w') a w)
    (h2 : wpOpIn (fen rn) 0 P ops Q j (fun a' w' => (nx L j).all w' ∧ wpK rn P ops Q nx (nx L j) fuel (listed.setIfInBounds j true) a' w') a w) : wpK rn P ops Q nx L (fuel + 1) listed a w :=
  ⟨fun h0 => (by rw [h0] at hm; cases hm), fun k hk => (hr k hk).elim (fun e => e ▸ h1) (fun e => e ▸ h2)⟩

theorem wpK_done {L : Kept} {listed : Array Bool} {a : Act} {w : World} (hr : Region.ready .any ops listed = []) (h : Q .normal a w) :
    ∀ fuel, wpK rn P ops Q nx L fuel listed a w
  | 0 => ⟨hr, h⟩
  | _ + 1 => ⟨fun _ => h, by rw [hr]; simp⟩
end

/-! ### which operations may come up, for the kernel: the set of those that came up as the bits of a number -/

theorem bitN_eq (m i : Nat) : bitN m i = m.testBit i := by
  unfold bitN Nat.testBit
  have : Nat.land (Nat.shiftRight m i) 1 = 1 &&& (m >>> i) := by rw [Nat.and_comm]; rfl
  rw [this]
  have h2 : (1 &&& (m >>> i)) < 2 := by rw [Nat.and_comm, Nat.and_one_is_mod]; omega
  generalize (1 &&& (m >>> i)) = x at h2
  have : x = 0 ∨ x = 1 := by omega
  rcases this with rfl | rfl <;> rfl

theorem bitN_set (m i j : Nat) : bitN (setN m i) j = (bitN m j || decide (j = i)) := by
  rw [bitN_eq, bitN_eq]
  have : setN m i = m ||| (1 <<< i) := rfl
  rw [this, Nat.testBit_or, Nat.one_shiftLeft, Nat.testBit_two_pow]
  congr 1
  exact decide_eq_decide.2 ⟨fun h => h.symm, fun h => h.symm⟩

theorem depsOK_iff {m : Nat} : ∀ {es : List Edge}, depsOK m es = true ↔ ∀ e ∈ es, Region.binds .any e = true → bitN m e.on = true
  | [] => by simp [depsOK]
  | e :: es => by
    simp only [depsOK, List.forall_mem_cons]
    cases hb : Region.binds .any e with
    | false => simp only [cond_false, depsOK_iff]; simp
    | true =>
      cases hm : bitN m e.on with
      | false => simp
      | true => simp only [cond_true, depsOK_iff]; simp

theorem waitsB_iff {i : Nat} : ∀ {es : List Edge}, waitsB i es = true ↔ ∃ e, e ∈ es ∧ Region.binds .any e = true ∧ e.on = i
  | [] => by simp [waitsB]
  | e :: es => by
    have ih := waitsB_iff (i := i) (es := es)
    simp only [waitsB]
    cases hb : Nat.beq e.on i with
    | false =>
      have hne := Nat.ne_of_beq_eq_false hb
      simp only [cond_false, ih]
      constructor
      · rintro ⟨x, hx, h⟩; exact ⟨x, .tail _ hx, h⟩
      · rintro ⟨x, hx, h⟩
        rcases List.mem_cons.1 hx with rfl | hx
        · exact absurd h.2 hne
        · exact ⟨x, hx, h⟩
    | true =>
      have heq := Nat.eq_of_beq_eq_true hb
      simp only [cond_true]
      cases hr : Region.binds .any e with
      | true => simp only [cond_true, true_iff]; exact ⟨e, .head _, hr, heq⟩
      | false =>
        simp only [cond_false, ih]
        constructor
        · rintro ⟨x, hx, h⟩; exact ⟨x, .tail _ hx, h⟩
        · rintro ⟨x, hx, h⟩
          rcases List.mem_cons.1 hx with rfl | hx
          · rw [hr] at h; cases h.1
          · exact ⟨x, hx, h⟩

structure Rel (ops : Array Oper) (m : Nat) (listed : Array Bool) : Prop where
  size : listed.size = ops.size
  bit : ∀ j, listed.getD j false = bitN m j

theorem Rel.zero (ops : Array Oper) : Rel ops 0 (Array.replicate ops.size false) where
  size := by simp
  bit j := by
    rw [bitN_eq, Nat.zero_testBit]
    rw [Array.getD_eq_getD_getElem?, Array.getElem?_replicate]
    split <;> rfl

theorem Rel.set {ops : Array Oper} {m : Nat} {listed : Array Bool} (h : Rel ops m listed) {i : Nat} (hi : i < ops.size) : Rel ops (setN m i) (listed.setIfInBounds i true) where
  size := by simp [h.size]
  bit j := by
    rw [bitN_set, ← h.bit j]
    by_cases hj : j = i
    · subst hj
      have : j < listed.size := by rw [h.size]; exact hi
      simp [Array.getD_eq_getD_getElem?, this]
    · simp [Array.getD_eq_getD_getElem?, Ne.symm hj, hj]

theorem Rel.bit' {ops : Array Oper} {m : Nat} {listed : Array Bool} (h : Rel ops m listed) {j : Nat} (hj : j < ops.size) : listed.getD j true = bitN m j := by
  rw [← h.bit j]
  have : j < listed.size := by rw [h.size]; exact hj
  simp [Array.getD_eq_getD_getElem?, this]

theorem Rel.ready {ops : Array Oper} {m : Nat} {listed : Array Bool} (h : Rel ops m listed) {j : Nat} : j ∈ Region.ready .any ops listed ↔ ∃ o, ops[j]? = some o ∧ readyB m j o = true := by
  rw [mem_ready]
  constructor
  · rintro ⟨h0, o, ho, hall⟩
    refine ⟨o, ho, ?_⟩
    have hj : j < ops.size := by
      rcases Nat.lt_or_ge j ops.size with h | h
      · exact h
      · rw [Array.getElem?_eq_none h] at ho; cases ho
    unfold readyB
    rw [← h.bit' hj, h0]
    simp only [cond_false]
    exact depsOK_iff.2 fun e he hb => by rw [← h.bit]; exact hall e (by simpa using he) hb
  · rintro ⟨o, ho, hr⟩
    have hj : j < ops.size := by
      rcases Nat.lt_or_ge j ops.size with h | h
      · exact h
      · rw [Array.getElem?_eq_none h] at ho; cases ho
    unfold readyB at hr
    cases hb : bitN m j with
    | true => rw [hb] at hr; cases hr
    | false =>
      rw [hb] at hr
      simp only [cond_false] at hr
      exact ⟨by rw [h.bit' hj, hb], o, ho, fun e he hb => by rw [h.bit]; exact depsOK_iff.1 hr e (by simpa using he) hb⟩

theorem onlyB_spec {m i : Nat} : ∀ {os : List Oper} {k : Nat}, onlyB m i k os = true → ∀ j o, os[j]? = some o → readyB m (k + j) o = true → k + j = i
  | [], k, _, j, o, ho, _ => by simp at ho
  | x :: os, k, h, j, o, ho, hr => by
    simp only [onlyB] at h
    cases hb : Nat.beq k i with
    | true =>
      rw [hb] at h
      cases j with
      | zero => exact Nat.eq_of_beq_eq_true hb
      | succ j =>
        have := onlyB_spec (k := k + 1) h j o (by simpa using ho) (by rw [show k + 1 + j = k + (j + 1) from by omega]; exact hr)
        omega
    | false =>
      rw [hb] at h
      simp only [cond_false] at h
      cases hx : readyB m k x with
      | true => rw [hx] at h; cases h
      | false =>
        rw [hx] at h
        cases j with
        | zero =>
          simp at ho
          subst ho
          rw [Nat.add_zero, hx] at hr
          cases hr
        | succ j =>
          have := onlyB_spec (k := k + 1) h j o (by simpa using ho) (by rw [show k + 1 + j = k + (j + 1) from by omega]; exact hr)
          omega

theorem only2B_spec {m i l : Nat} : ∀ {os : List Oper} {k : Nat}, only2B m i l k os = true → ∀ j o, os[j]? = some o → readyB m (k + j) o = true → k + j = i ∨ k + j = l
  | [], k, _, j, o, ho, _ => by simp at ho
  | x :: os, k, h, j, o, ho, hr => by
    simp only [only2B] at h
    cases hb : (Nat.beq k i || Nat.beq k l) with
    | true =>
      rw [hb] at h
      cases j with
      | zero =>
        rw [Bool.or_eq_true] at hb
        exact hb.imp Nat.eq_of_beq_eq_true Nat.eq_of_beq_eq_true
      | succ j =>
        have := only2B_spec (k := k + 1) h j o (by simpa using ho) (by rw [show k + 1 + j = k + (j + 1) from by omega]; exact hr)
        omega
    | false =>
      rw [hb] at h
      simp only [cond_false] at h
      cases hx : readyB m k x with
      | true => rw [hx] at h; cases h
      | false =>
        rw [hx] at h
        cases j with
        | zero =>
          simp at ho
          subst ho
          rw [Nat.add_zero, hx] at hr
          cases hr
        | succ j =>
          have := only2B_spec (k := k + 1) h j o (by simpa using ho) (by rw [show k + 1 + j = k + (j + 1) from by omega]; exact hr)
          omega

theorem freeB_spec {ops : Array Oper} {oi : Oper} {m i : Nat} : ∀ {os : List Oper} {k : Nat}, freeB ops oi m i k os = true → ∀ j o, os[j]? = some o → k + j ≠ i → bitN m (k + j) = false →
    (∀ e ∈ o.after, Region.binds .any e = true → e.on ≠ i) → oi.apart ops o = true
  | [], k, _, j, o, ho, _, _, _ => by simp at ho
  | x :: os, k, h, j, o, ho, hne, hbit, hno => by
    simp only [freeB] at h
    generalize hc : (bif Nat.beq k i then true else bif bitN m k then true else bif waitsB i x.after.toList then true else oi.apart ops x) = c at h
    cases c with
    | false => cases h
    | true =>
      simp only [cond_true] at h
      cases j with
      | succ j => exact freeB_spec (k := k + 1) h j o (by simpa using ho) (by omega) (by rw [show k + 1 + j = k + (j + 1) from by omega]; exact hbit) hno
      | zero =>
        simp at ho
        subst ho
        have hb : Nat.beq k i = false := by
          cases hb : Nat.beq k i with
          | false => rfl
          | true => exact absurd (Nat.eq_of_beq_eq_true hb) (by simpa using hne)
        rw [Nat.add_zero] at hbit
        rw [hb, hbit] at hc
        simp only [cond_false] at hc
        cases hw : waitsB i x.after.toList with
        | true =>
          obtain ⟨e, he, hb, hon⟩ := waitsB_iff.1 hw
          exact absurd hon (hno e (by simpa using he) hb)
        | false => rw [hw] at hc; exact hc

end Go.Fw
