/- Arguments: slices of structs in general; small numbers. -/
import Derived.Test.YtledmkhbaacdnaaTkArg
import Derived.Test.YtledmkhbaacdnaaTkF
namespace Go.Proofs.Ytledmkhbaacdnaa
open Go Go.Fw Go.ChangeShapes Go.WideShapes

section
variable {H : Type} {enc : TypeId × Value → H} {P : Program} {w : World} {base : Nat} {spare : Nat → Bool} {held : Bool}

theorem arg_structs {α : Type} [Inhabited α] {g : α → List Value} {n : Nat} (hg : ∀ a, (g a).length = n) (hn : 0 < n) {Pa : α → Prop} {μ : α → Nat} {u t : TypeId} {fuel : Nat} {a : Option Addr} {len cap : Nat} {x : DataW H × List MemPlace} (hu : P.underlying u = some (.slice t)) (hc : P.cellsOf t = n)
    (elem : ∀ {fuel : Nat} {cs : List Value} {x : DataW H × List MemPlace}, DataW.trod enc P w base spare held fuel t cs = some x → ∃ a : α, cs = g a ∧ Pa a ∧ μ a ≤ Rows.uptoBulk x.1)
    (h : DataW.trod enc P w base spare held fuel u [.slice a len cap] = some x) : ∃ l : List α, (Row w.heap ⟨a, len, cap⟩ n (l.flatMap g) ∧ ∀ a, a ∈ l → Pa a) ∧ (l.map μ).sum + 1 ≤ Rows.uptoBulk x.1 := by
  rcases Deep.open_slice hu h with ⟨hcs, rfl⟩ | ⟨a', len', cap', m, n', D, Pl, hcs, _, hl, hm, hmm, rfl, hx⟩
  · simp at hcs
    obtain ⟨rfl, rfl, rfl⟩ := hcs
    exact ⟨[], ⟨Row.nil _ n, by simp⟩, by simp [Rows.uptoBulk]⟩
  · simp at hcs
    obtain ⟨rfl, rfl, rfl⟩ := hcs
    have hlen : len ≤ m := by rw [hmm]; split <;> omega
    have hbig : cap < 9223372036854775808 := maxLen_lt hm
    have each : ∀ i, i < len → ∃ a : α, w.cells? base (a'.add (i * n)) n = some (g a) ∧ Pa a ∧ μ a ≤ Rows.uptoBulk (D i) := by
      intro i hi
      obtain ⟨cs', h1, h2⟩ := hx i (by omega)
      rw [hc] at h1
      obtain ⟨r, rfl, hp, hb⟩ := elem h2
      exact ⟨r, h1, hp, hb⟩
    obtain ⟨f, hf⟩ := Deep.choose_lt each
    have cell : ∀ i, i < len → ∀ k, k < n → w.cell? ((a'.add (i * n)).add k) = (g (f i))[k]? := fun i hi k hk => (World.cells?_some (hf i hi).1).2.2 k hk
    refine ⟨(List.range len).map f, ⟨⟨by rw [flat_len hg]; simp, hl, hbig, ?_⟩, fun a ha => ?_⟩, ?_⟩
    · rcases Nat.eq_zero_or_pos len with h0 | h0
      · exact .inl h0
      · right
        have hsp : a' = ⟨a'.block, a'.off, none⟩ := by
          have h0 := cell 0 (by omega) 0 hn
          have e0 : (a'.add (0 * n)).add 0 = a' := by rw [Nat.zero_mul]; rfl
          rw [e0, List.getElem?_eq_getElem (by rw [hg]; exact hn)] at h0
          exact spot_none h0
        refine ⟨a'.block, a'.off, by rw [← hsp], has_of fun k v hv => ?_⟩
        have hk : k < len * n := by
          have := idx_lt hv
          rw [flat_len hg] at this
          simpa using this
        have hdm := Nat.div_add_mod k n
        have hi : k / n < len := (Nat.div_lt_iff_lt_mul hn).2 hk
        have hj : k % n < n := Nat.mod_lt _ hn
        have e1 := flat_get hg ((List.range len).map f) (k / n) (k % n) (f (k / n)) (by rw [List.getElem?_map, List.getElem?_range hi]; rfl) hj
        have ek : k / n * n + k % n = k := by rw [Nat.mul_comm]; exact hdm
        rw [ek, hv] at e1
        have := cell (k / n) hi (k % n) hj
        rw [hsp, add_none, add_none, cell_eq, ← e1] at this
        rw [← ek, ← Nat.add_assoc]
        exact this
    · obtain ⟨i, hi, rfl⟩ := List.mem_map.1 ha
      exact (hf i (by simpa using hi)).2.1
    · have h1 := bulkAll_map D (fun i => μ (f i)) (List.range len) fun i hi => (hf i (by simpa using hi)).2.2
      simp only [Rows.uptoBulk, List.map_map]
      have : ((List.range len).map (μ ∘ f)).sum ≤ Rows.uptoBulkAll ((List.range len).map D) := h1
      omega
theorem arg_int {q : IntKind} {t : TypeId} {fuel : Nat} {n : Int} {x : DataW H × List MemPlace} (ht : P.underlying t = some (.int q)) (h : DataW.trod enc P w base spare held fuel t [.int q n] = some x) : (Lit.int q n).wf = true := by
  obtain ⟨m, hm, _, hw⟩ := DataW.trod_int ht h
  simp at hm
  subst hm
  exact hw
theorem wf_u8 {n : Int} (h : (Lit.int .u8 n).wf = true) : 0 ≤ n ∧ n < 256 := by
  simp only [Lit.wf, Bool.and_eq_true, decide_eq_true_eq] at h
  have h1 : IntKind.u8.min = 0 := by decide
  have h2 : IntKind.u8.max = 255 := by decide
  omega
end
end Go.Proofs.Ytledmkhbaacdnaa
