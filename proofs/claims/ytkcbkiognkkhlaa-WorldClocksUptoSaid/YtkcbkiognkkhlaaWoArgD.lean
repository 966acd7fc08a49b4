/- An argument that is a slice of deeds: what its reading says. -/
import Derived.Test.YtkcbkiognkkhlaaWoArg
import Derived.Test.YtkcbkiognkkhlaaWoG
namespace Go.Proofs.Ytkcbkiognkkhlaa
open Go Go.Fw Go.ChangeShapes Go.WideShapes

theorem bulk_memD {H : Type} {d : DataW H} : ∀ {l : List (DataW H)}, d ∈ l → Rows.uptoBulk d ≤ Rows.uptoBulkAll l
  | e :: l, h => by
    rcases List.mem_cons.1 h with rfl | h
    · simp only [Rows.uptoBulkAll]; omega
    · have := bulk_memD h
      simp only [Rows.uptoBulkAll]
      omega

section
variable {H : Type} {enc : TypeId × Value → H} {P : Program} {w : World} {base : Nat} {spare : Nat → Bool} {held : Bool}

theorem arg_deed {t : TypeId} {fs : Array Field} {cs : List Value} {fuel : Nat} {x : DataW H × List MemPlace} (ht : P.underlying t = some (.struct fs)) (hc : P.cellsOf t = 3) {ti tl : TypeId} (hti : P.underlying ti = some (.int .i64)) (htl : P.underlying tl = some (.slice ti))
    (ci : P.cellsOf ti = 1) (cl : P.cellsOf tl = 1) (hf : fs.toList.map (fun f => (f.type, f.offset)) = [(ti, 0), (ti, 1), (tl, 2)])
    (h : DataW.trod enc P w base spare held fuel t cs = some x) : ∃ (d : Deed) (sl : Sl), cs = [iv d.1, iv d.2.1, slV sl] ∧ Ints w.heap sl d.2.2 ∧ d.2.2.length + 1 ≤ Rows.uptoBulk x.1 := by
  obtain ⟨xs, n, rfl, rfl, hl, hlen, hall⟩ := DataW.trod_struct ht h
  rw [hc] at hl
  have hfl : fs.size = 3 := by
    have := congrArg List.length hf
    simpa using this
  have fld : ∀ {i : Nat} {p : TypeId × Nat}, ([(ti, 0), (ti, 1), (tl, 2)] : List (TypeId × Nat))[i]? = some p → ∃ f, fs[i]? = some f ∧ f.type = p.1 ∧ f.offset = p.2 := fun {i p} hp => by
    rw [← hf, List.getElem?_map, Option.map_eq_some_iff] at hp
    obtain ⟨f, h1, rfl⟩ := hp
    exact ⟨f, by simpa using h1, rfl, rfl⟩
  match cs, hl with
  | [c0, c1, c2], _ =>
    have int : ∀ (i : Nat) (c : Value), i < 3 → ([(ti, 0), (ti, 1), (tl, 2)] : List (TypeId × Nat))[i]? = some (ti, i) → (([c0, c1, c2] : List Value).drop i).take 1 = [c] → ∃ m, c = .int .i64 m := fun i c hi h1 h2 => by
      obtain ⟨f, g1, g2, g3⟩ := fld h1
      have := hall i f g1
      simp only at g2 g3
      rw [g2, g3, ci, h2] at this
      rw [List.getElem?_eq_getElem (by omega : i < xs.length)] at this
      obtain ⟨m, hm, _⟩ := DataW.trod_int hti this
      exact ⟨m, by simpa using hm⟩
    obtain ⟨m0, rfl⟩ := int 0 c0 (by omega) rfl rfl
    obtain ⟨m1, rfl⟩ := int 1 c1 (by omega) rfl rfl
    obtain ⟨f, g1, g2, g3⟩ := fld (i := 2) rfl
    have h2 := hall 2 f g1
    simp only at g2 g3
    rw [g2, g3, cl] at h2
    rw [List.getElem?_eq_getElem (by omega : 2 < xs.length)] at h2
    have h2' : DataW.trod enc P w base spare held n tl [c2] = some xs[2] := h2
    have hm : (xs[2]).1 ∈ xs.map (·.1) := List.mem_map.2 ⟨xs[2], List.getElem_mem _, rfl⟩
    have hb := bulk_memD hm
    have fin : ∀ sl : Sl, c2 = slV sl → ∃ (d : Deed) (sl : Sl), ([iv m0, iv m1, c2] : List Value) = [iv d.1, iv d.2.1, slV sl] ∧ Ints w.heap sl d.2.2 ∧ d.2.2.length + 1 ≤ Rows.uptoBulk (DataW.agg (xs.map (·.1)) : DataW H) := fun sl hsl => by
      rw [hsl] at h2'
      obtain ⟨l, hl1, hl2⟩ := arg_ints htl hti ci h2'
      refine ⟨(m0, m1, l), sl, by rw [hsl], hl1.1, ?_⟩
      simp only [Rows.uptoBulk]
      show l.length + 1 ≤ _
      omega
    rcases DataW.trod_slice htl h2' with ⟨hv, _⟩ | ⟨a2, len2, cap2, _, _, _, _, hv, _⟩
    · simp at hv
      exact fin ⟨none, 0, 0⟩ hv
    · simp at hv
      exact fin ⟨some a2, len2, cap2⟩ hv

theorem arg_deeds {u t : TypeId} {fs : Array Field} {fuel : Nat} {a : Option Addr} {len cap : Nat} {x : DataW H × List MemPlace} (hu : P.underlying u = some (.slice t)) (ht : P.underlying t = some (.struct fs)) (hc : P.cellsOf t = 3) {ti tl : TypeId} (hti : P.underlying ti = some (.int .i64)) (htl : P.underlying tl = some (.slice ti))
    (ci : P.cellsOf ti = 1) (cl : P.cellsOf tl = 1) (hf : fs.toList.map (fun f => (f.type, f.offset)) = [(ti, 0), (ti, 1), (tl, 2)])
    (h : DataW.trod enc P w base spare held fuel u [.slice a len cap] = some x) : ∃ ds : List Deed, Deeds w.heap ⟨a, len, cap⟩ ds ∧ bulkD ds + 1 ≤ Rows.uptoBulk x.1 := by
  rcases Deep.open_slice hu h with ⟨hcs, rfl⟩ | ⟨a', len', cap', m, n, D, Pl, hcs, _, hl, hm, hmm, rfl, hx⟩
  · simp at hcs
    obtain ⟨rfl, rfl, rfl⟩ := hcs
    exact ⟨[], ⟨rfl, by simp⟩, by simp [bulkD, Rows.uptoBulk]⟩
  · simp at hcs
    obtain ⟨rfl, rfl, rfl⟩ := hcs
    have hlen : len ≤ m := by rw [hmm]; split <;> omega
    have each : ∀ i, i < len → ∃ r : Deed × Sl, w.cells? base (a'.add (i * 3)) 3 = some [iv r.1.1, iv r.1.2.1, slV r.2] ∧ Ints w.heap r.2 r.1.2.2 ∧ r.1.2.2.length + 1 ≤ Rows.uptoBulk (D i) := by
      intro i hi
      obtain ⟨cs', h1, h2⟩ := hx i (by omega)
      rw [hc] at h1
      obtain ⟨d, sl, rfl, h3, h4⟩ := arg_deed ht hc hti htl ci cl hf h2
      exact ⟨(d, sl), h1, h3, h4⟩
    haveI : Inhabited (Deed × Sl) := ⟨((0, 0, []), ⟨none, 0, 0⟩)⟩
    obtain ⟨f, hf⟩ := Deep.choose_lt each
    refine ⟨(List.range len).map fun i => (f i).1, ⟨by simp, ?_⟩, ?_⟩
    · intro i d hi
      simp only [List.getElem?_map, Option.map_eq_some_iff] at hi
      obtain ⟨j, hj, rfl⟩ := hi
      obtain ⟨rfl, hlt⟩ := range_get hj
      have cell : ∀ i, i < len → ∀ k, k < 3 → w.cell? ((a'.add (i * 3)).add k) = ([iv (f i).1.1, iv (f i).1.2.1, slV (f i).2] : List Value)[k]? := fun i hi k hk => (World.cells?_some (hf i hi).1).2.2 k hk
      have hsp : a' = ⟨a'.block, a'.off, none⟩ := by
        have h0 := cell 0 (by omega) 0 (by omega)
        have e0 : (a'.add (0 * 3)).add 0 = a' := rfl
        rw [e0] at h0
        exact spot_none h0
      refine ⟨a'.block, a'.off, (f i).2, by rw [← hsp], has_of fun k v hv => ?_, (hf i hlt).2.1⟩
      have hk3 : k < 3 := by
        rcases Nat.lt_or_ge k 3 with h9 | h9
        · exact h9
        · rw [List.getElem?_eq_none (by simpa using h9)] at hv; cases hv
      have := cell i hlt k hk3
      rw [hv, hsp, add_none, add_none, cell_eq] at this
      exact this
    · have h1 := bulkAll_map D (fun i => (f i).1.2.2.length + 1) (List.range len) fun i hi => (hf i (by simpa using hi)).2.2
      simp only [Rows.uptoBulk, bulkD, List.map_map]
      simp only [Function.comp_def]
      omega

end
end Go.Proofs.Ytkcbkiognkkhlaa
