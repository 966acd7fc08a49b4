/- The token server: what is out. -/
import Derived.Test.YtledmkhbaacdnaaTkH
namespace Go.Proofs.Ytledmkhbaacdnaa
open Go Go.Fw
set_option linter.unusedSimpArgs false
set_option linter.unusedVariables false

/-- the elements that a test does not let through are moved to the front, the rest is cut off -/
theorem delete_loop {α : Type} {g : α → List Value} {n : Nat} (hg : ∀ a, (g a).length = n) {h : Heap} {base : Nat} {s : Sl} {l : List α} (ho : Own h base s n (l.flatMap g)) (hn : 0 < n) {p : α → Bool} {zs : List Value} (hz : zs.length = n) (hone : zs.all oneCell = true) (hga : ∀ a, (g a).all oneCell = true) {i0 : Nat} (hi0 : i0 < l.length)
    (hp0 : ∀ (j : Nat) (a : α), j < i0 → l[j]? = some a → p a = false) (hp1 : ∀ a, l[i0]? = some a → p a = true) {Good : Heap → Prop} (hgood : ∀ h1 h2, Good h1 → Upd (fun k => s.blk = some k) h1 h2 → Good h2)
    {tst : ((Bool → Nat → Heap → Prop) → Nat → Nat → Heap → Prop)} {wr : Nat → (List Value → Prop) → Heap → Prop} {K : Sl → Heap → Prop}
    (ht : ∀ (a : α) (b o : Nat) (hh : Heap) (Q : Bool → Nat → Heap → Prop), Good hh → b < sz hh → (∀ j v, (g a)[j]? = some v → objCell (o + j) (obj hh b) = some v) →
      (∀ h' c, Good h' → Ext hh h' → (∀ R : List Value → Prop, R (g a) → wr c R h') → Q (p a) c h') → tst Q b o hh)
    (hgd : Good h) (hbs : ∀ k, s.blk = some k → k < sz h)
    (hK : ∀ t h', Own h' base t n ((l.filter fun a => !p a).flatMap g) → (t.blk = s.blk ∨ t.blk = none) → Upd (fun k => s.blk = some k) h h' → Good h' → K t h') :
    loopM (σ := Int × Int × Unit) (fun J4 s5 h6 =>
      (fun (i2 : Int) (j3 : Int) => iteP (decide (j3 < (s.len : Int))) (idxA s.ptr s.len j3 n fun b o => tst (fun t18 c h19 =>
          iteP (!t18) (wr c (fun ws => idxA s.ptr s.len i2 n fun b24 o25 => sts h19 b24 o25 ws fun h26 => bindI (IntKind.wrap .i64 (i2 + 1)) fun i27 => bindI (IntKind.wrap .i64 (j3 + 1)) fun j28 => J4 (i27, j28, ()) h26) h19)
            (bindI (IntKind.wrap .i64 (j3 + 1)) fun j29 => J4 (i2, j29, ()) h19)) b o h6)
        (slc s.ptr s.cap n i2 s.len s.cap fun t30 => clrS t30 zs h6 fun h31 => slc s.ptr s.cap n 0 i2 s.cap fun t32 => K t32 h31)) s5.1 s5.2.1) ((i0 : Int), ((i0 + 1 : Nat) : Int), ()) h := by
  have hl := rowLen hg ho.row hn
  have hbig := ho.big
  have hcap := ho.cap
  refine loopQ (fun st hh => ∃ (i j : Nat) (l' : List α), st = ((i : Int), (j : Int), ()) ∧ i < j ∧ j ≤ l.length ∧ l'.length = l.length ∧ Own hh base s n (l'.flatMap g) ∧ Upd (fun k => s.blk = some k) h hh ∧ Good hh ∧
      l'.take i = (l.take j).filter (fun a => !p a) ∧ l'.drop j = l.drop j) (fun st _ => (s.len - st.2.1).toNat) ⟨i0, i0 + 1, l, rfl, by omega, by omega, rfl, ho, Upd.refl _ _, hgd, ?_, rfl⟩ ?_
  · obtain ⟨a, ha⟩ : ∃ a, l[i0]? = some a := ⟨_, List.getElem?_eq_getElem hi0⟩
    rw [List.take_add_one, ha, List.filter_append]
    have e1 : (l.take i0).filter (fun a => !p a) = l.take i0 := by
      rw [List.filter_eq_self]
      intro x hx
      obtain ⟨j, hj⟩ := List.getElem?_of_mem hx
      rw [List.getElem?_take] at hj
      split at hj
      · rw [hp0 j x (by assumption) hj]; rfl
      · cases hj
    have e2 : (some a).toList.filter (fun a => !p a) = [] := by simp [hp1 a ha]
    rw [e1, e2, List.append_nil]
  rintro _ hh ⟨i, j, l', rfl, hij, hjl, hll, ho', hu, hgd', ht1, ht2⟩ Q hQ
  dsimp only
  refine iteP_dec (fun q => ?_) fun q => ?_
  · have hwj : IntKind.wrap .i64 ((j : Int) + 1) = ((j + 1 : Nat) : Int) := by rw [wrap64 (by omega) (by omega)]; rfl
    have hwi : IntKind.wrap .i64 ((i : Int) + 1) = ((i + 1 : Nat) : Int) := by rw [wrap64 (by omega) (by omega)]; rfl
    obtain ⟨a, ha⟩ : ∃ a, l[j]? = some a := ⟨_, List.getElem?_eq_getElem (by omega)⟩
    have ha' : l'[j]? = some a := by
      have := congrArg (fun x => x[0]?) ht2
      simp only [List.getElem?_drop, Nat.add_zero] at this
      rw [this, ha]
    obtain ⟨b, o, hb, hbl, hidx, hcell⟩ := elemR hg ho'.row ha' hn
    refine hidx rfl (ht a b o hh _ hgd' hbl hcell fun h' c hgd2 he2 hwr => ?_)
    have ho2 := ho'.congr (h' := h') fun b hb _ _ => he2.old b (ho'.lt hb).2
    have step : (l.take (j + 1)).filter (fun a => !p a) = (l.take j).filter (fun a => !p a) ++ (if p a then [] else [a]) := by
      rw [List.take_add_one, ha, List.filter_append]
      congr 1
      cases hpa : p a <;> simp [hpa]
    have dr : l'.drop (j + 1) = l.drop (j + 1) := by
      have := congrArg (List.drop 1) ht2
      simpa [List.drop_drop] using this
    cases hpa : p a with
    | false =>
      refine iteP_true ?_
      have fin : ∀ h9, Own h9 base s n ((l'.set i a).flatMap g) → Upd (fun k => s.blk = some k) h' h9 → sz h9 = sz h' → bindI (IntKind.wrap .i64 ((i : Int) + 1)) fun i27 => bindI (IntKind.wrap .i64 ((j : Int) + 1)) fun j28 => Q (i27, j28, ()) h9 := fun h9 ho9 hu9 hz9 => by
        refine bindI_intro (bindI_intro (hQ _ _ ⟨i + 1, j + 1, l'.set i a, ?_, by omega, by omega, by simpa using hll, ho9, (hu.trans (he2.upd _)).trans hu9, hgood _ _ hgd2 hu9, ?_, ?_⟩ ?_))
        · rw [hwi, hwj]
        · rw [step, hpa]
          simp only [Bool.false_eq_true, if_false]
          rw [← ht1, List.take_add_one, List.take_set_of_le (Nat.le_refl _), List.getElem?_set_self (by omega)]
          rfl
        · rw [List.drop_set_of_lt (by omega), dr]
        · rw [hwj]; dsimp only; omega
      exact hwr _ (own_elem hg ho2 (i := i) (by omega) hn (a := a) rfl (hga a) rfl fun h9 ho9 hu9 hz9 => fin h9 ho9 hu9 hz9)
    | true =>
      refine iteP_false (bindI_intro (hQ _ _ ⟨i, j + 1, l', ?_, by omega, by omega, hll, ho2, hu.trans (he2.upd _), hgd2, ?_, dr⟩ ?_))
      · rw [hwj]
      · rw [step, hpa, ht1]; simp
      · rw [hwj]; dsimp only; omega
  · have hjl' : j = l.length := by omega
    have e1 : l'.take i = l.filter (fun a => !p a) := by rw [ht1, List.take_of_length_le (by omega)]
    refine own_cut hg ho' hn (k := i) (by omega) rfl hz hone fun t h9 ho9 hb9 hu9 hz9 => hK t h9 ?_ (.inl hb9) (hu.trans hu9) (hgood _ _ hgd' hu9)
    rw [← e1]
    exact ho9
end Go.Proofs.Ytledmkhbaacdnaa
