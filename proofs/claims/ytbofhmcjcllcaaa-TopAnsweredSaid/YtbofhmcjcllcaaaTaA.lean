/- Answers over a stream: what client and stream do, in plain words. -/
import Derived.Test.YtbofhmcjcllcaaaTaS
namespace Go.Proofs.Ytbofhmcjcllcaaa
open Go Go.Fw

theorem ansL_len (a : An) : (ansL a).length = 33 := by
  unfold ansL
  simp [bytes8]
theorem good_ans (a : An) : good (ansL a) := by
  unfold good
  rw [ansL_len]
  omega
theorem fr_ans_len : ∀ al : List An, (fr (al.map ansL)).length = al.length * 37
  | [] => rfl
  | a :: al => by
    rw [List.map_cons, fr_cons, List.length_append, List.length_append, header_len, ansL_len, fr_ans_len al, List.length_cons]
    omega

/-! ### the client -/
def cA (k : Nat) (o : List UInt8) (w : List (Int × Int)) (last : Int) (told : List Tld) (rb : List UInt8) : Cl := ⟨1000000, 1, 1, xT, true, last, (k : Int) + 1, w, o, told, 0, 1, rb, false⟩
def tk (a : An) : Tld := ⟨a.1, a, false⟩
theorem newE_x : newE_ 1000000 1 1 xT = 0 := by
  unfold newE_
  rw [if_neg (by decide), if_neg (by decide), if_neg (by decide), if_neg (by decide), if_neg (by decide), if_pos (show rightB (0, 5, 0, 0, xT, 0, ()) = true from right_x)]
theorem up_c : (newCl 1000000 1 1 xT).upE 0 = 0 ∧ (newCl 1000000 1 1 xT).upS 0 = cA 0 (allB [helloR xT]) [] 0 [] [] := by
  have e : (newCl 1000000 1 1 xT).atE 0 = 0 := rfl
  unfold Cl.upE Cl.upS
  rw [if_pos e, if_pos e]
  exact ⟨rfl, rfl⟩
theorem tick_c {k : Nat} {o : List UInt8} {w : List (Int × Int)} {last at_ : Int} {told : List Tld} {rb : List UInt8} (hw : ∀ p, p ∈ w → p.2 = 0) (ha : at_ < 1000000) : (cA k o w last told rb).tick at_ = cA k o w at_ told rb := by
  have h1 : w.filter (keepW 1000000 at_) = w := List.filter_eq_self.2 fun p hp => by
    unfold keepW
    rw [hw p hp]
    exact decide_eq_true (by omega)
  have h2 : (w.filter fun p => !keepW 1000000 at_ p) = [] := List.filter_eq_nil_iff.2 fun p hp => by
    unfold keepW
    rw [hw p hp, decide_eq_true (by omega)]
    simp
  unfold Cl.tick
  show (⟨_, _, _, _, _, _, _, w.filter (keepW 1000000 at_), _, told ++ (w.filter fun p => !keepW 1000000 at_ p).map fun p => fallT p.1, _, _, _, _⟩ : Cl) = _
  rw [h1, h2]
  unfold cA
  simp
theorem at_c {k : Nat} {o : List UInt8} {w : List (Int × Int)} {last at_ : Int} {told : List Tld} {rb : List UInt8} (h0 : 0 ≤ at_) (hl : last ≤ at_) (ha : at_ < 1000000) : (cA k o w last told rb).atE at_ = 0 := by
  unfold Cl.atE
  rw [if_neg (by omega), if_neg (by omega), if_neg (by show ¬ at_ < last; omega)]
theorem ask_c {k : Nat} {o : List UInt8} {w : List (Int × Int)} (hw : ∀ p, p ∈ w → p.2 = 0) (hl : w.length < 256) : (cA k o w 0 [] []).askR 0 askQ = (((k : Int) + 1, false, 0), cA (k + 1) (o ++ allB [setId askQ ((k : Int) + 1)]) (w ++ [((k : Int) + 1, 0)]) 0 [] []) := by
  unfold Cl.askR
  rw [if_pos (at_c (by omega) (by omega) (by omega)), if_pos ⟨right_ask, by decide⟩, tick_c hw (by omega), if_pos ⟨rfl, hl⟩]
  rfl

def wF (al : List An) (w : List (Int × Int)) : List (Int × Int) := w.filter fun p => al.all fun a => a.1 != p.1
theorem take_c : ∀ (al : List An) {m : Nat} {o : List UInt8} {w : List (Int × Int)} {last : Int} {t : List Tld} {rb : List UInt8}, (∀ a, a ∈ al → rightA a = true) → al.Pairwise (fun a b => a.1 < b.1) → Asc w → (∀ a, a ∈ al → ∃ p, p ∈ w ∧ p.1 = a.1) →
    (cA m o w last t rb).take (al.map ansL) = (cA m o (wF al w) last (t ++ al.map tk) rb, false) ∧ (wF al w).length + al.length = w.length
  | [], m, o, w, last, t, rb, _, _, ha, _ => by
    have : wF [] w = w := List.filter_eq_self.2 fun _ _ => rfl
    rw [this]
    exact ⟨by simp [Cl.take], by simp⟩
  | a :: al, m, o, w, last, t, rb, hr, hp, ha, ht => by
    obtain ⟨p, hpw, hpa⟩ := ht a (List.mem_cons_self ..)
    obtain ⟨i, hi⟩ := List.getElem?_of_mem hpw
    have hany : w.any (fun q => q.1 == a.1) = true := List.any_eq_true.2 ⟨p, hpw, by simp [hpa]⟩
    have he : w.eraseIdx i = w.filter (fun q => q.1 != a.1) := by rw [← hpa]; exact asc_erase ha hi
    have hansw : (cA m o w last t rb).answ a = cA m o (w.eraseIdx i) last (t ++ [tk a]) rb := by
      unfold Cl.answ
      show (if w.any (fun q => q.1 == a.1) then _ else _) = _
      rw [hany, if_pos rfl, he]
      rfl
    have hil : i < w.length := (List.getElem?_eq_some_iff.1 hi).1
    have hp1 := List.pairwise_cons.1 hp
    have ha' : Asc (w.eraseIdx i) := List.Pairwise.sublist (List.eraseIdx_sublist w i) ha
    obtain ⟨h1, h2⟩ := take_c al (m := m) (o := o) (w := w.eraseIdx i) (last := last) (t := t ++ [tk a]) (rb := rb) (fun b hb => hr b (List.mem_cons_of_mem _ hb)) hp1.2 ha' fun b hb => by
      obtain ⟨q, hq, hqb⟩ := ht b (List.mem_cons_of_mem _ hb)
      refine ⟨q, ?_, hqb⟩
      rw [he]
      refine List.mem_filter.2 ⟨hq, ?_⟩
      have := hp1.1 b hb
      simp
      omega
    have hw : wF (a :: al) w = wF al (w.eraseIdx i) := by
      unfold wF
      rw [he, List.filter_filter]
      refine List.filter_congr fun q _ => ?_
      have e1 : (a.1 != q.1) = (q.1 != a.1) := by
        by_cases h9 : a.1 = q.1
        · rw [h9]
        · rw [bne_iff_ne.2 h9, bne_iff_ne.2 fun h => h9 h.symm]
      rw [List.all_cons, Bool.and_comm, e1]
    refine ⟨?_, ?_⟩
    · rw [List.map_cons]
      unfold Cl.take
      rw [read_ans (hr a (List.mem_cons_self ..))]
      rw [if_neg (by simp), hansw, h1, List.map_cons, hw]
      simp
    · rw [List.length_eraseIdx, if_pos hil] at h2
      rw [List.length_cons, hw]
      omega
theorem bytes_c {m : Nat} {o : List UInt8} {w : List (Int × Int)} {last : Int} {rb l r2 : List UInt8} {ll : List (List UInt8)} {c' : Cl} (hlast : last ≤ 5000) (hw : ∀ p, p ∈ w → p.2 = 0) (hq : cutA (rb ++ l) = (ll, false, r2)) (ht : (cA m o w 5000 [] r2).take ll = (c', false)) : (cA m o w last [] rb).bytesR 5000 l = (c', 0) := by
  unfold Cl.bytesR
  rw [if_pos (at_c (by omega) hlast (by omega)), if_pos (show (cA m o w last [] rb).up = true from rfl), tick_c hw (by omega)]
  unfold Cl.putB
  have h1 : putS (cA m o w 5000 [] rb).rb (cA m o w 5000 [] rb).broken l = (ll, false, r2) := hq
  rw [h1]
  dsimp only
  have h2 : ({ cA m o w 5000 [] rb with rb := r2, broken := false } : Cl) = cA m o w 5000 [] r2 := rfl
  rw [h2, ht]
  rfl

/-! ### the stream, cut -/
theorem cut_pre {ll : List (List UInt8)} (hg : ∀ l, l ∈ ll → good l) {D y : List UInt8} (h : D ++ y = fr ll) : ∃ q rb, q ≤ ll.length ∧ cutA D = (ll.take q, false, rb) := by
  have h2 := cutA_two D.length D y (Nat.le_refl _)
  rw [h, cutA_fr ll hg] at h2
  have hf : (cutA D).2.1 = false := by
    cases hb : (cutA D).2.1 with
    | false => rfl
    | true => have := h2.1 hb; cases this
  have h3 := h2.2 hf
  simp only [Prod.mk.injEq] at h3
  have hl := h3.1
  refine ⟨(cutA D).1.length, (cutA D).2.2, by have := congrArg List.length hl; rw [List.length_append] at this; omega, ?_⟩
  have ht : ll.take (cutA D).1.length = (cutA D).1 := by
    conv => lhs; rw [hl]
    rw [List.take_left]
  rw [ht, ← hf]

structure RvI (al : List An) (m : Nat) (D way : List UInt8) (q : Nat) (w : List (Int × Int)) (rb : List UInt8) : Prop where
  cat : D ++ way = fr (al.map ansL)
  cut : cutA D = ((al.map ansL).take q, false, rb)
  ql : q ≤ al.length
  asc : Asc w
  z : ∀ p, p ∈ w → p.2 = 0
  len : w.length + q = m
  there : ∀ a, a ∈ al.drop q → ∃ p, p ∈ w ∧ p.1 = a.1

theorem RvI.step {al : List An} {m q : Nat} {D x way : List UInt8} {w : List (Int × Int)} {rb : List UInt8} (hR : RvI al m D (x ++ way) q w rb) (hr : ∀ a, a ∈ al → rightA a = true) (hp : al.Pairwise (fun a b => a.1 < b.1)) :
    ∃ q' w' rb', RvI al m (D ++ x) way q' w' rb' ∧ q ≤ q' ∧ ∀ o last, last ≤ 5000 → (cA m o w last [] rb).bytesR 5000 x = (cA m o w' 5000 (((al.drop q).take (q' - q)).map tk) rb', 0) := by
  have hcat : (D ++ x) ++ way = fr (al.map ansL) := by rw [List.append_assoc]; exact hR.cat
  have hg : ∀ l, l ∈ al.map ansL → good l := fun l hl => by
    obtain ⟨a, _, rfl⟩ := List.mem_map.1 hl
    exact good_ans a
  obtain ⟨q', rb', hq', hcut'⟩ := cut_pre hg hcat
  rw [List.length_map] at hq'
  have h2 := (cutA_two D.length D x (Nat.le_refl _)).2 (by rw [hR.cut])
  rw [hcut', hR.cut] at h2
  simp only [Prod.mk.injEq] at h2
  obtain ⟨h3, h4⟩ := h2
  have hqq : q ≤ q' := by
    have := congrArg List.length h3
    have h9 := hR.ql
    rw [List.length_append, List.length_take, List.length_take, List.length_map] at this
    omega
  have hsplit : (al.map ansL).take q' = (al.map ansL).take q ++ ((al.drop q).take (q' - q)).map ansL := by
    rw [List.map_take, List.map_drop]
    conv => lhs; rw [show q' = q + (q' - q) by omega, List.take_add]
  have hnew : (cutA (rb ++ x)).1 = ((al.drop q).take (q' - q)).map ansL := by
    rw [hsplit] at h3
    exact (List.append_cancel_left h3).symm
  have hsub : ∀ a, a ∈ (al.drop q).take (q' - q) → a ∈ al.drop q := fun a ha => List.mem_of_mem_take ha
  have hlen : ((al.drop q).take (q' - q)).length = q' - q := by
    rw [List.length_take, List.length_drop]
    omega
  have T := fun o => take_c ((al.drop q).take (q' - q)) (m := m) (o := o) (w := w) (last := 5000) (t := []) (rb := rb') (fun a ha => hr a (List.mem_of_mem_drop (hsub a ha))) (List.Pairwise.sublist ((List.take_sublist _ _).trans (List.drop_sublist _ _)) hp) hR.asc fun a ha => hR.there a (hsub a ha)
  have t2 := (T []).2
  refine ⟨q', wF ((al.drop q).take (q' - q)) w, rb', ⟨hcat, hcut', hq', asc_filter hR.asc _, fun p h9 => hR.z p (List.mem_filter.1 h9).1, by have := hR.len; omega, fun a ha => ?_⟩, hqq, fun o last hl => ?_⟩
  · have hd : al.drop q = (al.drop q).take (q' - q) ++ al.drop q' := by
      conv => lhs; rw [← List.take_append_drop (q' - q) (al.drop q)]
      rw [List.drop_drop, show q + (q' - q) = q' by omega]
    obtain ⟨p, hpw, hpa⟩ := hR.there a (by rw [hd]; exact List.mem_append_right _ ha)
    refine ⟨p, List.mem_filter.2 ⟨hpw, List.all_eq_true.2 fun b hb => ?_⟩, hpa⟩
    have hpd : (al.drop q).Pairwise (fun a b => a.1 < b.1) := List.Pairwise.sublist (List.drop_sublist _ _) hp
    rw [hd, List.pairwise_append] at hpd
    have := hpd.2.2 b hb a ha
    simp
    omega
  · refine bytes_c hl hR.z (ll := ((al.drop q).take (q' - q)).map ansL) (r2 := rb') ?_ (T o).1
    rw [← hnew]
    exact Prod.ext rfl h4.symm

end Go.Proofs.Ytbofhmcjcllcaaa
