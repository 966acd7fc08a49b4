/- Rows of elements of several cells: read, written, copied, cut. Plain laws on memory. -/
import Derived.Test.YtledmkhbaacdnaaTkB
namespace Go.Proofs.Ytledmkhbaacdnaa
open Go Go.Fw
set_option linter.unusedSimpArgs false
set_option linter.unusedVariables false

theorem elemR {α : Type} {g : α → List Value} {n : Nat} (hg : ∀ a, (g a).length = n) {h : Heap} {s : Sl} {l : List α} (hr : Row h s n (l.flatMap g)) {i : Nat} {a : α} (hi : l[i]? = some a) (hn : 0 < n) :
    ∃ b o, s.blk = some b ∧ b < sz h ∧ (∀ {K : Nat → Nat → Prop} {m : Int}, m = (i : Int) → K b o → idxA s.ptr s.len m n K) ∧ ∀ j v, (g a)[j]? = some v → objCell (o + j) (obj h b) = some v := by
  have hlen := hr.len
  rw [flat_len hg] at hlen
  have hls : l.length = s.len := Nat.eq_of_mul_eq_mul_right hn hlen
  have hil := idx_lt hi
  rcases hr.at_ with h0 | ⟨b, o, hp, hh⟩
  · omega
  · have hne : l.flatMap g ≠ [] := fun e => by
      have := flat_len hg l
      rw [e] at this
      have h9 : 0 < l.length * n := Nat.mul_pos (by omega) hn
      simp only [List.length_nil] at this
      omega
    refine ⟨b, o + i * n, by simp [Sl.blk, hp], has_lt hh hne, fun {K m} hm hk => ⟨b, o, hp, by omega, by omega, by subst hm; simpa using hk⟩, fun j v hv => ?_⟩
    have hj : j < n := by rw [← hg a]; exact idx_lt hv
    have := has_get hh (i := i * n + j) (v := v) (by rw [flat_get hg l i j a hi hj]; exact hv)
    rw [cell_def, ← Nat.add_assoc] at this
    exact this
theorem rowLen {α : Type} {g : α → List Value} {n : Nat} (hg : ∀ a, (g a).length = n) {h : Heap} {s : Sl} {l : List α} (hr : Row h s n (l.flatMap g)) (hn : 0 < n) : s.len = l.length := by
  have hlen := hr.len
  rw [flat_len hg] at hlen
  exact (Nat.eq_of_mul_eq_mul_right hn hlen).symm

theorem flat_sets {α : Type} {g : α → List Value} {n : Nat} (hg : ∀ a, (g a).length = n) : ∀ (l : List α) (i : Nat) (a : α), i < l.length →
    (l.set i a).flatMap g = (l.flatMap g).take (i * n) ++ g a ++ (l.flatMap g).drop (i * n + n)
  | [], i, a, h => by simp at h
  | x :: l, 0, a, _ => by
    rw [List.set_cons_zero, List.flatMap_cons, List.flatMap_cons, Nat.zero_mul, List.take_zero, List.nil_append, Nat.zero_add, ← hg x, List.drop_left]
  | x :: l, i + 1, a, h => by
    rw [List.set_cons_succ, List.flatMap_cons, List.flatMap_cons, flat_sets hg l i a (by simpa using h)]
    have e1 : (i + 1) * n = (g x).length + i * n := by rw [hg, Nat.succ_mul]; omega
    rw [e1, List.take_length_add_append, Nat.add_assoc, List.drop_length_add_append]
    simp
/-- cells written from a place on -/
theorem puts_own {h : Heap} {base : Nat} {s : Sl} {size : Nat} {vs : List Value} (ho : Own h base s size vs) {b : Nat} (hb : s.blk = some b) {o : Nat} {ws : List Value} (hl : o + ws.length ≤ vs.length) (hw : ws.all oneCell = true) {K : Heap → Prop}
    (hk : ∀ h', Own h' base s size (vs.take o ++ ws ++ vs.drop (o + ws.length)) → Upd (fun k => s.blk = some k) h h' → sz h' = sz h → K h') : h.free b o ws.length ∧ ws.all oneCell = true ∧ K (h.puts b o ws) := by
  have hlen := ho.len
  have hcap := ho.cap
  rcases ho.at_ with ⟨hp, _⟩ | ⟨b', c, e, hp, hbb, hc, hcs, hvs⟩
  · simp [Sl.blk, hp] at hb
  · have hb' := hb
    simp [Sl.blk, hp] at hb
    subst hb
    have hlc : o + ws.length ≤ c.size := by
      have := congrArg List.length hvs
      simp at this
      omega
    obtain ⟨c', hc', hl'⟩ := puts_block (vs := ws) (o := o) hc hlc
    refine ⟨free_block hc hlc, hw, hk _ ⟨?_, hcap, ho.big, .inr ⟨b', c', e, hp, hbb, hc', ?_, ?_⟩⟩ ((Upd.puts h b' _ ws).mono fun k _ hk => by subst hk; exact hb') sz_puts⟩
    · simp; omega
    · rw [← hcs, ← Array.length_toList, hl']
      simp
      omega
    · rw [hl', hvs]
      have hvl : (c.toList.take (s.len * size)).length = s.len * size := by rw [← hvs]; exact hlen
      apply List.ext_getElem?
      intro i
      simp only [List.getElem?_append, List.getElem?_take, List.getElem?_drop, List.length_append, List.length_take, hvl, Array.length_toList]
      have h1 : min o (s.len * size) = o := by omega
      have h2 : min o c.size = o := by omega
      rw [h1, h2]
      by_cases hi1 : i < o
      · simp [hi1, show i < s.len * size from by omega, show i < o + ws.length from by omega]
      · by_cases hi2 : i < o + ws.length
        · rw [if_pos hi2, if_neg hi1, if_pos (by omega), if_pos hi2, if_neg hi1]
        · rw [if_neg hi2]
          by_cases hi3 : i < s.len * size
          · rw [if_pos (by omega), if_pos hi3, if_neg hi2]
          · rw [if_neg (by omega), if_neg hi3]
theorem own_elem {α : Type} {g : α → List Value} {n : Nat} (hg : ∀ a, (g a).length = n) {h : Heap} {base : Nat} {s : Sl} {l : List α} (ho : Own h base s n (l.flatMap g)) {i : Nat} (hi : i < l.length) (hn : 0 < n) {a : α} {ws : List Value} (hw : ws = g a) (hone : ws.all oneCell = true) {m : Int} (hm : m = (i : Int)) {K : Heap → Prop}
    (hk : ∀ h', Own h' base s n ((l.set i a).flatMap g) → Upd (fun k => s.blk = some k) h h' → sz h' = sz h → K h') : idxA s.ptr s.len m n fun b o => sts h b o ws K := by
  subst hw hm
  have hl := rowLen hg ho.row hn
  have hle : i * n + n ≤ l.length * n := by rw [← Nat.succ_mul]; exact Nat.mul_le_mul_right _ hi
  obtain ⟨b, hp, hb⟩ := Own.ptr_ ho (o := i * n) (by rw [flat_len hg]; omega)
  refine ⟨b, 0, hp, by omega, by omega, ?_⟩
  rw [Nat.zero_add, Int.toNat_natCast]
  refine puts_own ho hb (by rw [flat_len hg, hg]; omega) hone fun h' ho' hu hz => hk h' ?_ hu hz
  rw [flat_sets hg l i a hi]
  rw [hg] at ho'
  exact ho'
theorem slPtr0 {b c n : Nat} : slPtr (some ⟨b, 0, none⟩) 0 c n = some ⟨b, 0, none⟩ := by
  unfold slPtr
  split
  · rfl
  · simp [Addr.add]
theorem flat_take {α : Type} {g : α → List Value} {n : Nat} (hg : ∀ a, (g a).length = n) : ∀ (l : List α) (k : Nat), (l.take k).flatMap g = (l.flatMap g).take (k * n)
  | [], k => by simp
  | x :: l, 0 => by simp
  | x :: l, k + 1 => by
    rw [List.take_succ_cons, List.flatMap_cons, List.flatMap_cons, flat_take hg l k, show (k + 1) * n = (g x).length + k * n from by rw [hg, Nat.succ_mul]; omega, List.take_length_add_append]
theorem Own.pre {α : Type} {g : α → List Value} {n : Nat} (hg : ∀ a, (g a).length = n) {h : Heap} {base : Nat} {s : Sl} {l : List α} (ho : Own h base s n (l.flatMap g)) (hn : 0 < n) {k : Nat} (hk : k ≤ l.length) : Own h base ⟨slPtr s.ptr 0 s.cap n, k, s.cap⟩ n ((l.take k).flatMap g) := by
  have hl := rowLen hg ho.row hn
  have hc := ho.cap
  refine ⟨?_, by show k ≤ s.cap; omega, ho.big, ?_⟩
  · rw [flat_len hg, List.length_take, Nat.min_eq_left hk]
  · rcases ho.at_ with ⟨hp, h0⟩ | ⟨b, c, e, hp, hbb, hb, hcs, hvs⟩
    · left
      refine ⟨?_, h0⟩
      show slPtr s.ptr 0 s.cap n = none
      rw [hp]; unfold slPtr; split <;> rfl
    · right
      refine ⟨b, c, e, ?_, hbb, hb, hcs, ?_⟩
      · show slPtr s.ptr 0 s.cap n = _
        rw [hp]
        exact slPtr0
      · rw [flat_take hg, hvs, List.take_take]
        congr 1
        show min (k * n) (s.len * n) = k * n
        exact Nat.min_eq_left (Nat.mul_le_mul_right _ (by omega))
theorem slPtr_blk {s : Sl} {h : Heap} {base n k : Nat} {vs : List Value} (ho : Own h base s n vs) : (⟨slPtr s.ptr 0 s.cap n, k, s.cap⟩ : Sl).blk = s.blk := by
  rcases ho.at_ with ⟨hp, h0⟩ | ⟨b, c, e, hp, hbb, hb, hcs, hvs⟩
  · show (slPtr s.ptr 0 s.cap n).map (·.block) = s.ptr.map (·.block)
    rw [hp]; unfold slPtr; split <;> rfl
  · show (slPtr s.ptr 0 s.cap n).map (·.block) = s.ptr.map (·.block)
    rw [hp, slPtr0]
theorem zerosL_one {zs : List Value} (h : zs.all oneCell = true) (n : Nat) : (zerosL zs n).all oneCell = true := by
  unfold zerosL
  rw [List.all_flatten, List.all_eq_true]
  intro x hx
  rw [List.eq_of_mem_replicate hx]
  exact h
/-- the rest of a row is cleared, and cut off -/
theorem own_cut {α : Type} {g : α → List Value} {n : Nat} (hg : ∀ a, (g a).length = n) {h : Heap} {base : Nat} {s : Sl} {l : List α} (ho : Own h base s n (l.flatMap g)) (hn : 0 < n) {k : Nat} (hk : k ≤ l.length) {m : Int} (hm : m = (k : Int)) {zs : List Value} (hz : zs.length = n) (hone : zs.all oneCell = true) {K : Sl → Heap → Prop}
    (hK : ∀ t h', Own h' base t n ((l.take k).flatMap g) → t.blk = s.blk → Upd (fun k => s.blk = some k) h h' → sz h' = sz h → K t h') :
    slc s.ptr s.cap n m s.len s.cap fun t => clrS t zs h fun h' => slc s.ptr s.cap n 0 m s.cap fun t' => K t' h' := by
  subst hm
  have hl := rowLen hg ho.row hn
  have hc := ho.cap
  refine ⟨by omega, by omega, by omega, Int.le_refl _, ?_⟩
  simp only [Int.toNat_natCast, Int.toNat_zero, Nat.sub_zero]
  have fin : ∀ h', Own h' base s n ((l.take k).flatMap g ++ (zerosL zs (s.len - k))) → Upd (fun k => s.blk = some k) h h' → sz h' = sz h → slc s.ptr s.cap n 0 k s.cap fun t' => K t' h' := fun h' ho' hu hz' => by
    refine ⟨Int.le_refl _, by omega, by omega, Int.le_refl _, ?_⟩
    simp only [Int.toNat_natCast, Int.toNat_zero, Nat.sub_zero]
    refine hK _ h' ?_ (slPtr_blk ho) hu hz'
    refine ⟨?_, by show k ≤ s.cap; omega, ho.big, ?_⟩
    · rw [flat_len hg, List.length_take, Nat.min_eq_left hk]
    · rcases ho'.at_ with ⟨hp, h0⟩ | ⟨b, c, e, hp, hbb, hb, hcs, hvs⟩
      · left
        refine ⟨?_, h0⟩
        show slPtr s.ptr 0 s.cap n = none
        rw [hp]; unfold slPtr; split <;> rfl
      · right
        refine ⟨b, c, e, ?_, hbb, hb, hcs, ?_⟩
        · show slPtr s.ptr 0 s.cap n = _
          rw [hp]
          exact slPtr0
        · have := congrArg (List.take (k * n)) hvs
          rw [List.take_left' (by rw [flat_len hg, List.length_take, Nat.min_eq_left hk]), List.take_take, Nat.min_eq_left (Nat.mul_le_mul_right _ (by omega))] at this
          exact this
  by_cases hkl : k = s.len
  · refine .inr (.inl ⟨by simp [hkl], fin h ?_ (Upd.refl _ _) rfl⟩)
    rw [hkl, Nat.sub_self, List.take_of_length_le (by omega)]
    simpa [zerosL] using ho
  · obtain ⟨b, hp, hb⟩ := Own.ptr_ ho (o := k * n) (by rw [flat_len hg]; exact Nat.mul_lt_mul_of_pos_right (by omega) hn)
    refine .inr (.inr ⟨b, k * n, ?_, ?_⟩)
    · show slPtr s.ptr k s.cap n = _
      rw [hp]
      unfold slPtr
      rw [if_neg (by omega)]
      simp [Addr.add]
      exact fun h => h.symm
    · refine puts_own ho hb ?_ (zerosL_one hone _) fun h' ho' hu hz' => fin h' ?_ hu hz'
      · rw [flat_len hg, zerosL_length', hz, ← Nat.add_mul]
        dsimp only
        exact Nat.mul_le_mul_right _ (by omega)
      · dsimp only at ho'
        rw [zerosL_length', hz, ← Nat.add_mul, show k + (s.len - k) = l.length from by omega, List.drop_of_length_le (by rw [flat_len hg]; exact Nat.le_refl _), List.append_nil, ← flat_take hg] at ho'
        exact ho'
/-- a row's copy -/
theorem clone_row {T : TypeId} {n bytes : Nat} {zs vs : List Value} {h : Heap} {s : Sl} (hr : Row h s n vs) (hv : vs.all oneCell = true) (hz : zs.length = n) (hb : s.len * bytes ≤ 140737488355328) (hl : s.len ≤ 140737488355328) {K : Sl → Heap → Prop}
    (hk : ∀ t h', Own h' h.size t n vs → Ext h h' → t.len = s.len → K t h') :
    iteP s.ptr.isNone (K ⟨none, 0, 0⟩ h) (newC h [] T fun b h1 => rdS s n h1 fun new => app T n bytes zs ⟨some ⟨b, 0, none⟩, 0, 0⟩ s.len new h1 fun t h2 => K t h2) := by
  cases hp : s.ptr with
  | none =>
    have h0 : s.len = 0 := by
      rcases hr.at_ with h0 | ⟨b, o, hp', _⟩
      · exact h0
      · rw [hp] at hp'; cases hp'
    refine iteP_true (hk _ _ ?_ (Ext.refl _) h0.symm)
    rw [hr.nil_of h0]
    exact Own.nil _ _ _
  | some p =>
    refine iteP_false ?_
    have ho : Own (h.push (.cells #[] T (0, 0))) h.size ⟨some ⟨h.size, 0, none⟩, 0, 0⟩ n [] := Own.newC (cells := []) (by simp) (by decide)
    refine newC_intro ?_
    refine Row.rd (vs := vs) (hr.ext (Ext.push h (.cells #[] T (0, 0)))) (Own.app ho (by rw [hr.len]) hv hz (by simpa using hb) (by simpa using hl) (by simp) fun t h' ho' hl' hu' hblk => ?_)
    refine hk t h' (by simpa using ho') ((Ext.push _ _).then hu' fun k hk => ?_) (by simpa using hl')
    simp [Sl.blk] at hk
    omega
end Go.Proofs.Ytledmkhbaacdnaa
