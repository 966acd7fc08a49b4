/- Arguments of the token server's laws: requests. -/
import Derived.Test.YtledmkhbaacdnaaArg
import Derived.Test.YtledmkhbaacdnaaTkP
namespace Go.Proofs.Ytledmkhbaacdnaa
open Go Go.Fw Go.ChangeShapes Go.WideShapes

theorem bulk_mem {H : Type} {d : DataW H} : ∀ {l : List (DataW H)}, d ∈ l → Rows.uptoBulk d ≤ Rows.uptoBulkAll l
  | e :: l, h => by
    rcases List.mem_cons.1 h with rfl | h
    · simp only [Rows.uptoBulkAll]; omega
    · have := bulk_mem h
      simp only [Rows.uptoBulkAll]
      omega

section
variable {H : Type} {enc : TypeId × Value → H} {P : Program} {w : World} {base : Nat} {spare : Nat → Bool} {held : Bool}

theorem field_of {fs : Array Field} {l : List (TypeId × Nat)} (hf : fs.toList.map (fun f => (f.type, f.offset)) = l) {i : Nat} {p : TypeId × Nat} (hp : l[i]? = some p) : ∃ f, fs[i]? = some f ∧ f.type = p.1 ∧ f.offset = p.2 := by
  subst hf
  rw [List.getElem?_map, Option.map_eq_some_iff] at hp
  obtain ⟨f, h1, rfl⟩ := hp
  exact ⟨f, by simpa using h1, rfl, rfl⟩

theorem arg_rq {t : TypeId} {fs : Array Field} {cs : List Value} {fuel : Nat} {x : DataW H × List MemPlace} (ht : P.underlying t = some (.struct fs)) (hc : P.cellsOf t = 6) {ti tw ts : TypeId} (hti : P.underlying ti = some (.int .i64)) (htw : P.underlying tw = some (.int .u8)) (hts : P.underlying ts = some .string)
    (ci : P.cellsOf ti = 1) (cw : P.cellsOf tw = 1) (csz : P.cellsOf ts = 1) (hf : fs.toList.map (fun f => (f.type, f.offset)) = [(ti, 0), (tw, 1), (ti, 2), (ti, 3), (ts, 4), (ti, 5)])
    (h : DataW.trod enc P w base spare held fuel t cs = some x) : ∃ r : Rq, cs = rqC r ∧ r.2.2.2.2.1.size < 9223372036854775808 ∧ r.2.2.2.2.1.size + 1 ≤ Rows.uptoBulk x.1 := by
  obtain ⟨xs, n, rfl, rfl, hl, hlen, hall⟩ := DataW.trod_struct ht h
  rw [hc] at hl
  have hfl : fs.size = 6 := by
    have := congrArg List.length hf
    simpa using this
  match cs, hl with
  | [c0, c1, c2, c3, c4, c5], _ =>
    have int : ∀ (i o : Nat) (c : Value), ([(ti, 0), (tw, 1), (ti, 2), (ti, 3), (ts, 4), (ti, 5)] : List (TypeId × Nat))[i]? = some (ti, o) → (([c0, c1, c2, c3, c4, c5] : List Value).drop o).take 1 = [c] → ∃ m, c = .int .i64 m := fun i o c h1 h2 => by
      obtain ⟨f, g1, g2, g3⟩ := field_of hf h1
      have := hall i f g1
      simp only at g2 g3
      rw [g2, g3, ci, h2] at this
      have hi : i < xs.length := by
        rw [hlen, hfl]
        rcases Nat.lt_or_ge i 6 with h9 | h9
        · exact h9
        · rw [List.getElem?_eq_none (by simpa using h9)] at h1; cases h1
      rw [List.getElem?_eq_getElem hi] at this
      obtain ⟨m, hm, _⟩ := DataW.trod_int hti this
      exact ⟨m, by simpa using hm⟩
    obtain ⟨m0, rfl⟩ := int 0 0 c0 rfl rfl
    obtain ⟨m2, rfl⟩ := int 2 2 c2 rfl rfl
    obtain ⟨m3, rfl⟩ := int 3 3 c3 rfl rfl
    obtain ⟨m5, rfl⟩ := int 5 5 c5 rfl rfl
    have w1 : ∃ m, c1 = .int .u8 m := by
      obtain ⟨f, g1, g2, g3⟩ := field_of hf (i := 1) rfl
      have := hall 1 f g1
      simp only at g2 g3
      rw [g2, g3, cw] at this
      rw [List.getElem?_eq_getElem (by omega : 1 < xs.length)] at this
      obtain ⟨m, hm, _⟩ := DataW.trod_int htw this
      exact ⟨m, by simpa using hm⟩
    obtain ⟨m1, rfl⟩ := w1
    have s4 : ∃ s : ByteArray, c4 = .string s ∧ s.size ≤ maxLen ∧ s.size + 1 ≤ Rows.uptoBulkAll (xs.map (·.1)) := by
      obtain ⟨f, g1, g2, g3⟩ := field_of hf (i := 4) rfl
      have := hall 4 f g1
      simp only at g2 g3
      rw [g2, g3, csz] at this
      rw [List.getElem?_eq_getElem (by omega : 4 < xs.length)] at this
      obtain ⟨s, hs, hx, hsz⟩ := DataW.trod_string hts this
      refine ⟨s, by simpa using hs, hsz, ?_⟩
      have hm : (DataW.lit (.string s.data.toList) : DataW H) ∈ xs.map (·.1) := List.mem_map.2 ⟨xs[4], List.getElem_mem _, by rw [hx]⟩
      have := bulk_mem hm
      simp only [Rows.uptoBulk] at this
      have e : s.data.toList.length = s.size := by simp
      omega
    obtain ⟨s, rfl, hsz, hbulk⟩ := s4
    refine ⟨(m0, m1, m2, m3, s, m5, ()), rfl, maxLen_lt hsz, ?_⟩
    simp only [Rows.uptoBulk]
    omega
end
end Go.Proofs.Ytledmkhbaacdnaa
