/- Arguments that are slices of answers or of numbers: what their reading says of the values and of memory. -/
import Derived.Test.YtbofhmcjcllcaaaArg
import Derived.Test.YtbofhmcjcllcaaaTaL
namespace Go.Proofs.Ytbofhmcjcllcaaa
open Go Go.Fw Go.ChangeShapes Go.WideShapes

section
variable {H : Type} {enc : TypeId × Value → H} {P : Program} {w : World} {base : Nat} {spare : Nat → Bool} {held : Bool}

theorem field_of {fs : Array Field} {l : List (TypeId × Nat)} (hf : fs.toList.map (fun f => (f.type, f.offset)) = l) {i : Nat} {p : TypeId × Nat} (hp : l[i]? = some p) : ∃ f, fs[i]? = some f ∧ f.type = p.1 ∧ f.offset = p.2 := by
  subst hf
  rw [List.getElem?_map, Option.map_eq_some_iff] at hp
  obtain ⟨f, h1, rfl⟩ := hp
  exact ⟨f, by simpa using h1, rfl, rfl⟩

theorem arg_an {t : TypeId} {fs : Array Field} {cs : List Value} {fuel : Nat} {x : DataW H × List MemPlace} (ht : P.underlying t = some (.struct fs)) (hc : P.cellsOf t = 5) {ti tw : TypeId} (hti : P.underlying ti = some (.int .i64)) (htw : P.underlying tw = some (.int .u8))
    (ci : P.cellsOf ti = 1) (cw : P.cellsOf tw = 1) (hf : fs.toList.map (fun f => (f.type, f.offset)) = [(ti, 0), (tw, 1), (ti, 2), (ti, 3), (ti, 4)])
    (h : DataW.trod enc P w base spare held fuel t cs = some x) : ∃ r : An, cs = anC r := by
  obtain ⟨xs, n, rfl, rfl, hl, hlen, hall⟩ := DataW.trod_struct ht h
  rw [hc] at hl
  have hfl : fs.size = 5 := by
    have := congrArg List.length hf
    simpa using this
  match cs, hl with
  | [c0, c1, c2, c3, c4], _ =>
    have int : ∀ (i o : Nat) (c : Value), ([(ti, 0), (tw, 1), (ti, 2), (ti, 3), (ti, 4)] : List (TypeId × Nat))[i]? = some (ti, o) → (([c0, c1, c2, c3, c4] : List Value).drop o).take 1 = [c] → ∃ m, c = .int .i64 m := fun i o c h1 h2 => by
      obtain ⟨f, g1, g2, g3⟩ := field_of hf h1
      have := hall i f g1
      simp only at g2 g3
      rw [g2, g3, ci, h2] at this
      have hi : i < xs.length := by
        rw [hlen, hfl]
        rcases Nat.lt_or_ge i 5 with h9 | h9
        · exact h9
        · rw [List.getElem?_eq_none (by simpa using h9)] at h1; cases h1
      rw [List.getElem?_eq_getElem hi] at this
      obtain ⟨m, hm, _⟩ := DataW.trod_int hti this
      exact ⟨m, by simpa using hm⟩
    obtain ⟨m0, rfl⟩ := int 0 0 c0 rfl rfl
    obtain ⟨m2, rfl⟩ := int 2 2 c2 rfl rfl
    obtain ⟨m3, rfl⟩ := int 3 3 c3 rfl rfl
    obtain ⟨m4, rfl⟩ := int 4 4 c4 rfl rfl
    have w1 : ∃ m, c1 = .int .u8 m := by
      obtain ⟨f, g1, g2, g3⟩ := field_of hf (i := 1) rfl
      have := hall 1 f g1
      simp only at g2 g3
      rw [g2, g3, cw] at this
      rw [List.getElem?_eq_getElem (by omega : 1 < xs.length)] at this
      obtain ⟨m, hm, _⟩ := DataW.trod_int htw this
      exact ⟨m, by simpa using hm⟩
    obtain ⟨m1, rfl⟩ := w1
    exact ⟨(m0, m1, m2, m3, m4, ()), rfl⟩

theorem arg_ints {q : IntKind} {t e : TypeId} {fuel : Nat} {a : Option Addr} {len cap : Nat} {x : DataW H × List MemPlace} (ht : P.underlying t = some (.slice e)) (he : P.underlying e = some (.int q)) (hc : P.cellsOf e = 1)
    (h : DataW.trod enc P w base spare held fuel t [.slice a len cap] = some x) : ∃ l : List Int, (Row w.heap ⟨a, len, cap⟩ 1 (l.map (Value.int q)) ∧ ∀ n, n ∈ l → (Lit.int q n).wf = true) ∧ l.length + 1 ≤ Rows.uptoBulk x.1 := by
  rcases open_ints ht he hc h with ⟨hcs, rfl⟩ | ⟨a', len', cap', zs, hcs, _, hl, hm, hz, rfl, hcell, hwf⟩
  · simp at hcs
    obtain ⟨rfl, rfl, rfl⟩ := hcs
    exact ⟨[], ⟨Row.nil _ 1, by simp⟩, by simp [Rows.uptoBulk]⟩
  · simp at hcs
    obtain ⟨rfl, rfl, rfl⟩ := hcs
    have hlen : len ≤ zs.length := by rw [hz]; split <;> omega
    have hbig : cap < 9223372036854775808 := maxLen_lt hm
    refine ⟨zs.take len, ⟨⟨by simp; omega, hl, hbig, ?_⟩, fun n hn => hwf n (List.mem_of_mem_take hn)⟩, ?_⟩
    · rcases Nat.eq_zero_or_pos len with h0 | h0
      · exact .inl h0
      · right
        have hc0 := hcell 0 (by omega)
        have hsp : a' = ⟨a'.block, a'.off, none⟩ := by
          have e0 : a'.add 0 = a' := rfl
          rw [e0] at hc0
          exact spot_none hc0
        refine ⟨a'.block, a'.off, by rw [← hsp], has_of fun i v hv => ?_⟩
        simp only [List.getElem?_map, Option.map_eq_some_iff] at hv
        obtain ⟨n, hn, rfl⟩ := hv
        rw [List.getElem?_take] at hn
        split at hn
        · have hi : i < zs.length := by omega
          have := hcell i hi
          rw [hsp, add_none, cell_eq] at this
          rw [this]
          rw [List.getD, hn]
          rfl
        · cases hn
    · simp only [Rows.uptoBulk, List.length_take]
      have h1 := bulk_length (H := H) (lits q (zs.take len))
      have h2 : (lits (H := H) q (zs.take len)).length = min len zs.length := by simp [lits]
      omega

theorem arg_ans {u t : TypeId} {fs : Array Field} {fuel : Nat} {a : Option Addr} {len cap : Nat} {x : DataW H × List MemPlace} (hu : P.underlying u = some (.slice t)) (ht : P.underlying t = some (.struct fs)) (hc : P.cellsOf t = 5) {ti tw : TypeId} (hti : P.underlying ti = some (.int .i64)) (htw : P.underlying tw = some (.int .u8))
    (ci : P.cellsOf ti = 1) (cw : P.cellsOf tw = 1) (hf : fs.toList.map (fun f => (f.type, f.offset)) = [(ti, 0), (tw, 1), (ti, 2), (ti, 3), (ti, 4)])
    (h : DataW.trod enc P w base spare held fuel u [.slice a len cap] = some x) : ∃ l : List An, RowsA w.heap ⟨a, len, cap⟩ l := by
  rcases Deep.open_slice hu h with ⟨hcs, rfl⟩ | ⟨a', len', cap', m, n, D, Pl, hcs, _, hl, hm, hmm, rfl, hx⟩
  · simp at hcs
    obtain ⟨rfl, rfl, rfl⟩ := hcs
    exact ⟨[], ⟨rfl, by simp⟩⟩
  · simp at hcs
    obtain ⟨rfl, rfl, rfl⟩ := hcs
    have hlen : len ≤ m := by rw [hmm]; split <;> omega
    have each : ∀ i, i < len → ∃ r : An, w.cells? base (a'.add (i * 5)) 5 = some (anC r) := by
      intro i hi
      obtain ⟨cs', h1, h2⟩ := hx i (by omega)
      rw [hc] at h1
      obtain ⟨r, rfl⟩ := arg_an ht hc hti htw ci cw hf h2
      exact ⟨r, h1⟩
    haveI : Inhabited An := ⟨(0, 0, 0, 0, 0, ())⟩
    obtain ⟨f, hf⟩ := Deep.choose_lt each
    refine ⟨(List.range len).map f, ⟨by simp, ?_⟩⟩
    intro i d hi
    simp only [List.getElem?_map, Option.map_eq_some_iff] at hi
    obtain ⟨j, hj, rfl⟩ := hi
    obtain ⟨rfl, hlt⟩ := range_get hj
    have cell : ∀ i, i < len → ∀ k, k < 5 → w.cell? ((a'.add (i * 5)).add k) = (anC (f i))[k]? := fun i hi k hk => (World.cells?_some (hf i hi)).2.2 k hk
    have hsp : a' = ⟨a'.block, a'.off, none⟩ := by
      have h0 := cell 0 (by omega) 0 (by omega)
      have e0 : (a'.add (0 * 5)).add 0 = a' := rfl
      rw [e0] at h0
      exact spot_none h0
    refine ⟨a'.block, a'.off, by rw [← hsp], has_of fun k v hv => ?_⟩
    have hk5 : k < 5 := by
      rcases Nat.lt_or_ge k 5 with h9 | h9
      · exact h9
      · rw [List.getElem?_eq_none (by simpa [anC] using h9)] at hv; cases hv
    have := cell i hlt k hk5
    rw [hv, hsp, add_none, add_none, cell_eq] at this
    exact this

end
end Go.Proofs.Ytbofhmcjcllcaaa
