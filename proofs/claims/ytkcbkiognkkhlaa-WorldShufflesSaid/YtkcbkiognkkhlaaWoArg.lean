/- Arguments that are slices of numbers or of samples: what their reading says of the values and of memory. -/
import Derived.Test.YtkcbkiognkkhlaaArg
import Derived.Test.YtkcbkiognkkhlaaWoC
namespace Go.Proofs.Ytkcbkiognkkhlaa
open Go Go.Fw Go.ChangeShapes Go.WideShapes

section
variable {H : Type} {enc : TypeId × Value → H} {P : Program} {w : World} {base : Nat} {spare : Nat → Bool} {held : Bool}

theorem arg_ints {q : IntKind} {t e : TypeId} {fuel : Nat} {a : Option Addr} {len cap : Nat} {x : DataW H × List MemPlace} (ht : P.underlying t = some (.slice e)) (he : P.underlying e = some (.int q)) (hc : P.cellsOf e = 1)
    (h : DataW.trod enc P w base spare held fuel t [.slice a len cap] = some x) : ∃ l : List Int, (Row w.heap ⟨a, len, cap⟩ 1 (l.map (Value.int q)) ∧ ∀ n, n ∈ l → (Lit.int q n).wf = true) ∧ l.length + 1 ≤ Rows.uptoBulk x.1 := by
  rcases open_ints ht he hc h with ⟨hcs, rfl⟩ | ⟨a', len', cap', zs, hcs, _, hl, hm, hz, rfl, hcell, hwf⟩
  · simp at hcs
    obtain ⟨rfl, rfl, rfl⟩ := hcs
    exact ⟨[], ⟨Row.nil _ 1, by simp⟩, by simp [Rows.uptoBulk]⟩
  · simp at hcs
    obtain ⟨rfl, rfl, rfl⟩ := hcs
    have hlen : len ≤ zs.length := by rw [hz]; split <;> omega
    have hbig : cap < 9223372036854775808 := maxLen_lt hm
    refine ⟨zs.take len, ⟨⟨by simp; omega, hl, hbig, ?_⟩, fun n hn => hwf n (List.mem_of_mem_take hn)⟩, ?_⟩
    · rcases Nat.eq_zero_or_pos len with h0 | h0
      · exact .inl h0
      · right
        have hc0 := hcell 0 (by omega)
        have hsp : a' = ⟨a'.block, a'.off, none⟩ := by
          have e0 : a'.add 0 = a' := rfl
          rw [e0] at hc0
          exact spot_none hc0
        refine ⟨a'.block, a'.off, by rw [← hsp], has_of fun i v hv => ?_⟩
        simp only [List.getElem?_map, Option.map_eq_some_iff] at hv
        obtain ⟨n, hn, rfl⟩ := hv
        rw [List.getElem?_take] at hn
        split at hn
        · have hi : i < zs.length := by omega
          have := hcell i hi
          rw [hsp, add_none, cell_eq] at this
          rw [this]
          rw [List.getD, hn]
          rfl
        · cases hn
    · simp only [Rows.uptoBulk, List.length_take]
      have h1 := bulk_length (H := H) (lits q (zs.take len))
      have h2 : (lits (H := H) q (zs.take len)).length = min len zs.length := by simp [lits]
      omega

theorem wf_i64 {n : Int} (h : (Lit.int .i64 n).wf = true) : -9223372036854775808 ≤ n ∧ n < 9223372036854775808 := by
  simp only [Lit.wf, Bool.and_eq_true, decide_eq_true_eq] at h
  have h1 : IntKind.i64.min = -9223372036854775808 := by decide
  have h2 : IntKind.i64.max = 9223372036854775807 := by decide
  omega
theorem wf_u32 {n : Int} (h : (Lit.int .u32 n).wf = true) : 0 ≤ n ∧ n < 4294967296 := by
  simp only [Lit.wf, Bool.and_eq_true, decide_eq_true_eq] at h
  have h1 : IntKind.u32.min = 0 := by decide
  have h2 : IntKind.u32.max = 4294967295 := by decide
  omega

theorem arg_int {q : IntKind} {t : TypeId} {fuel : Nat} {n : Int} {x : DataW H × List MemPlace} (ht : P.underlying t = some (.int q)) (h : DataW.trod enc P w base spare held fuel t [.int q n] = some x) : (Lit.int q n).wf = true := by
  obtain ⟨m, hm, _, hw⟩ := DataW.trod_int ht h
  simp at hm
  subst hm
  exact hw

theorem arg_smp {t : TypeId} {fs : Array Field} {cs : List Value} {fuel : Nat} {x : DataW H × List MemPlace} (ht : P.underlying t = some (.struct fs)) (hc : P.cellsOf t = 3) {ti : TypeId} (hti : P.underlying ti = some (.int .i64))
    (ci : P.cellsOf ti = 1) (hf : fs.toList.map (fun f => (f.type, f.offset)) = [(ti, 0), (ti, 1), (ti, 2)])
    (h : DataW.trod enc P w base spare held fuel t cs = some x) : ∃ r : Smp, cs = smC r := by
  obtain ⟨xs, n, rfl, rfl, hl, hlen, hall⟩ := DataW.trod_struct ht h
  rw [hc] at hl
  have hfl : fs.size = 3 := by
    have := congrArg List.length hf
    simpa using this
  match cs, hl with
  | [c0, c1, c2], _ =>
    have int : ∀ (i : Nat) (c : Value), i < 3 → ([(ti, 0), (ti, 1), (ti, 2)] : List (TypeId × Nat))[i]? = some (ti, i) → (([c0, c1, c2] : List Value).drop i).take 1 = [c] → ∃ m, c = .int .i64 m := fun i c hi h1 h2 => by
      rw [← hf, List.getElem?_map, Option.map_eq_some_iff] at h1
      obtain ⟨f, g1, g2⟩ := h1
      have := hall i f (by simpa using g1)
      simp only [Prod.mk.injEq] at g2
      rw [g2.1, g2.2, ci, h2] at this
      rw [List.getElem?_eq_getElem (by omega : i < xs.length)] at this
      obtain ⟨m, hm, _⟩ := DataW.trod_int hti this
      exact ⟨m, by simpa using hm⟩
    obtain ⟨m0, rfl⟩ := int 0 c0 (by omega) rfl rfl
    obtain ⟨m1, rfl⟩ := int 1 c1 (by omega) rfl rfl
    obtain ⟨m2, rfl⟩ := int 2 c2 (by omega) rfl rfl
    exact ⟨(m0, m1, m2), rfl⟩

theorem arg_smps {u t : TypeId} {fs : Array Field} {fuel : Nat} {a : Option Addr} {len cap : Nat} {x : DataW H × List MemPlace} (hu : P.underlying u = some (.slice t)) (ht : P.underlying t = some (.struct fs)) (hc : P.cellsOf t = 3) {ti : TypeId} (hti : P.underlying ti = some (.int .i64))
    (ci : P.cellsOf ti = 1) (hf : fs.toList.map (fun f => (f.type, f.offset)) = [(ti, 0), (ti, 1), (ti, 2)])
    (h : DataW.trod enc P w base spare held fuel u [.slice a len cap] = some x) : ∃ l : List Smp, SmpR w.heap ⟨a, len, cap⟩ l ∧ l.length + 1 ≤ Rows.uptoBulk x.1 := by
  rcases Deep.open_slice hu h with ⟨hcs, rfl⟩ | ⟨a', len', cap', m, n, D, Pl, hcs, _, hl, hm, hmm, rfl, hx⟩
  · simp at hcs
    obtain ⟨rfl, rfl, rfl⟩ := hcs
    exact ⟨[], Row.nil _ 3, by simp [Rows.uptoBulk]⟩
  · simp at hcs
    obtain ⟨rfl, rfl, rfl⟩ := hcs
    have hlen : len ≤ m := by rw [hmm]; split <;> omega
    have hbig : cap < 9223372036854775808 := maxLen_lt hm
    have each : ∀ i, i < len → ∃ r : Smp, w.cells? base (a'.add (i * 3)) 3 = some (smC r) := by
      intro i hi
      obtain ⟨cs', h1, h2⟩ := hx i (by omega)
      rw [hc] at h1
      obtain ⟨r, rfl⟩ := arg_smp ht hc hti ci hf h2
      exact ⟨r, h1⟩
    haveI : Inhabited Smp := ⟨(0, 0, 0)⟩
    obtain ⟨f, hf⟩ := Deep.choose_lt each
    refine ⟨(List.range len).map f, ⟨by rw [smL_len]; simp, hl, hbig, ?_⟩, ?_⟩
    · rcases Nat.eq_zero_or_pos len with h0 | h0
      · exact .inl h0
      right
      have cell : ∀ i, i < len → ∀ k, k < 3 → w.cell? ((a'.add (i * 3)).add k) = (smC (f i))[k]? := fun i hi k hk => (World.cells?_some (hf i hi)).2.2 k hk
      have hsp : a' = ⟨a'.block, a'.off, none⟩ := by
        have h0 := cell 0 (by omega) 0 (by omega)
        have e0 : (a'.add (0 * 3)).add 0 = a' := rfl
        rw [e0] at h0
        exact spot_none h0
      refine ⟨a'.block, a'.off, by rw [← hsp], has_of fun k v hv => ?_⟩
      have hk : k < len * 3 := by
        rcases Nat.lt_or_ge k (len * 3) with h9 | h9
        · exact h9
        · rw [List.getElem?_eq_none (by rw [smL_len]; simpa using h9)] at hv; cases hv
      have hi : k / 3 < len := by omega
      have hc3 := cell (k / 3) hi (k % 3) (by omega)
      rw [hsp, add_none, add_none, cell_eq] at hc3
      have hget : ((List.range len).map f)[k / 3]? = some (f (k / 3)) := by simp [hi]
      have hsub := smL_sub hget
      have : (smL ((List.range len).map f))[k]? = (smC (f (k / 3)))[k % 3]? := by
        rw [← hsub, List.getElem?_take, if_pos (by omega), List.getElem?_drop]
        congr 1
        omega
      rw [this] at hv
      rw [hv] at hc3
      rw [show a'.off + k = a'.off + k / 3 * 3 + k % 3 from by omega]
      exact hc3
    · have h1 := bulk_length ((List.range len).map D)
      rw [List.length_map, List.length_range] at h1
      simp only [Rows.uptoBulk, List.length_map, List.length_range]
      omega

end
end Go.Proofs.Ytkcbkiognkkhlaa
