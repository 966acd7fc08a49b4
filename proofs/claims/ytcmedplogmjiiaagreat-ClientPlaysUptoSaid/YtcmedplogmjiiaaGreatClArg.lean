/- Arguments of the client's laws: settings, deeds, numbers. -/
import Derived.Test.YtcmedplogmjiiaaGreatArg
import Derived.Test.YtcmedplogmjiiaaGreatClA
namespace Go.Proofs.YtcmedplogmjiiaaGreat
open Go Go.Fw Go.ChangeShapes Go.WideShapes

theorem bulk_mem {H : Type} {d : DataW H} : ∀ {l : List (DataW H)}, d ∈ l → Rows.uptoBulk d ≤ Rows.uptoBulkAll l
  | e :: l, h => by
    rcases List.mem_cons.1 h with rfl | h
    · simp only [Rows.uptoBulkAll]; omega
    · have := bulk_mem h
      simp only [Rows.uptoBulkAll]
      omega

section
variable {H : Type} {enc : TypeId × Value → H} {P : Program} {w : World} {base : Nat} {spare : Nat → Bool} {held : Bool}

theorem field_of {fs : Array Field} {l : List (TypeId × Nat)} (hf : fs.toList.map (fun f => (f.type, f.offset)) = l) {i : Nat} {p : TypeId × Nat} (hp : l[i]? = some p) : ∃ f, fs[i]? = some f ∧ f.type = p.1 ∧ f.offset = p.2 := by
  subst hf
  rw [List.getElem?_map, Option.map_eq_some_iff] at hp
  obtain ⟨f, h1, rfl⟩ := hp
  exact ⟨f, by simpa using h1, rfl, rfl⟩

theorem arg_rq {t : TypeId} {fs : Array Field} {cs : List Value} {fuel : Nat} {x : DataW H × List MemPlace} (ht : P.underlying t = some (.struct fs)) (hc : P.cellsOf t = 6) {ti tw ts : TypeId} (hti : P.underlying ti = some (.int .i64)) (htw : P.underlying tw = some (.int .u8)) (hts : P.underlying ts = some .string)
    (ci : P.cellsOf ti = 1) (cw : P.cellsOf tw = 1) (csz : P.cellsOf ts = 1) (hf : fs.toList.map (fun f => (f.type, f.offset)) = [(ti, 0), (tw, 1), (ti, 2), (ti, 3), (ts, 4), (ti, 5)])
    (h : DataW.trod enc P w base spare held fuel t cs = some x) : ∃ r : Rq, cs = rqC r ∧ r.2.2.2.2.1.size < 9223372036854775808 ∧ r.2.2.2.2.1.size + 1 ≤ Rows.uptoBulk x.1 := by
  obtain ⟨xs, n, rfl, rfl, hl, hlen, hall⟩ := DataW.trod_struct ht h
  rw [hc] at hl
  have hfl : fs.size = 6 := by
    have := congrArg List.length hf
    simpa using this
  match cs, hl with
  | [c0, c1, c2, c3, c4, c5], _ =>
    have int : ∀ (i o : Nat) (c : Value), ([(ti, 0), (tw, 1), (ti, 2), (ti, 3), (ts, 4), (ti, 5)] : List (TypeId × Nat))[i]? = some (ti, o) → (([c0, c1, c2, c3, c4, c5] : List Value).drop o).take 1 = [c] → ∃ m, c = .int .i64 m := fun i o c h1 h2 => by
      obtain ⟨f, g1, g2, g3⟩ := field_of hf h1
      have := hall i f g1
      simp only at g2 g3
      rw [g2, g3, ci, h2] at this
      have hi : i < xs.length := by
        rw [hlen, hfl]
        rcases Nat.lt_or_ge i 6 with h9 | h9
        · exact h9
        · rw [List.getElem?_eq_none (by simpa using h9)] at h1; cases h1
      rw [List.getElem?_eq_getElem hi] at this
      obtain ⟨m, hm, _⟩ := DataW.trod_int hti this
      exact ⟨m, by simpa using hm⟩
    obtain ⟨m0, rfl⟩ := int 0 0 c0 rfl rfl
    obtain ⟨m2, rfl⟩ := int 2 2 c2 rfl rfl
    obtain ⟨m3, rfl⟩ := int 3 3 c3 rfl rfl
    obtain ⟨m5, rfl⟩ := int 5 5 c5 rfl rfl
    have w1 : ∃ m, c1 = .int .u8 m := by
      obtain ⟨f, g1, g2, g3⟩ := field_of hf (i := 1) rfl
      have := hall 1 f g1
      simp only at g2 g3
      rw [g2, g3, cw] at this
      rw [List.getElem?_eq_getElem (by omega : 1 < xs.length)] at this
      obtain ⟨m, hm, _⟩ := DataW.trod_int htw this
      exact ⟨m, by simpa using hm⟩
    obtain ⟨m1, rfl⟩ := w1
    have s4 : ∃ s : ByteArray, c4 = .string s ∧ s.size ≤ maxLen ∧ s.size + 1 ≤ Rows.uptoBulkAll (xs.map (·.1)) := by
      obtain ⟨f, g1, g2, g3⟩ := field_of hf (i := 4) rfl
      have := hall 4 f g1
      simp only at g2 g3
      rw [g2, g3, csz] at this
      rw [List.getElem?_eq_getElem (by omega : 4 < xs.length)] at this
      obtain ⟨s, hs, hx, hsz⟩ := DataW.trod_string hts this
      refine ⟨s, by simpa using hs, hsz, ?_⟩
      have hm : (DataW.lit (.string s.data.toList) : DataW H) ∈ xs.map (·.1) := List.mem_map.2 ⟨xs[4], List.getElem_mem _, by rw [hx]⟩
      have := bulk_mem hm
      simp only [Rows.uptoBulk] at this
      have e : s.data.toList.length = s.size := by simp
      omega
    obtain ⟨s, rfl, hsz, hbulk⟩ := s4
    refine ⟨(m0, m1, m2, m3, s, m5, ()), rfl, maxLen_lt hsz, ?_⟩
    simp only [Rows.uptoBulk]
    omega

theorem arg_int {q : IntKind} {t : TypeId} {fuel : Nat} {n : Int} {x : DataW H × List MemPlace} (ht : P.underlying t = some (.int q)) (h : DataW.trod enc P w base spare held fuel t [.int q n] = some x) : (Lit.int q n).wf = true := by
  obtain ⟨m, hm, _, hw⟩ := DataW.trod_int ht h
  simp at hm
  subst hm
  exact hw
theorem wf_u8 {n : Int} (h : (Lit.int .u8 n).wf = true) : 0 ≤ n ∧ n < 256 := by
  simp only [Lit.wf, Bool.and_eq_true, decide_eq_true_eq] at h
  have h1 : IntKind.u8.min = 0 := by decide
  have h2 : IntKind.u8.max = 255 := by decide
  omega

theorem arg_setting {t : TypeId} {fs : Array Field} {cs : List Value} {fuel : Nat} {x : DataW H × List MemPlace} (ht : P.underlying t = some (.struct fs)) (hc : P.cellsOf t = 3) {ti : TypeId} (hti : P.underlying ti = some (.int .i64)) (ci : P.cellsOf ti = 1) (hf : fs.toList.map (fun f => (f.type, f.offset)) = [(ti, 0), (ti, 1), (ti, 2)])
    (h : DataW.trod enc P w base spare held fuel t cs = some x) : ∃ a b c : Int, cs = [iv a, iv b, iv c] := by
  obtain ⟨xs, n, rfl, rfl, hl, hlen, hall⟩ := DataW.trod_struct ht h
  rw [hc] at hl
  have hfl : fs.size = 3 := by
    have := congrArg List.length hf
    simpa using this
  match cs, hl with
  | [c0, c1, c2], _ =>
    have int : ∀ (i o : Nat) (c : Value), ([(ti, 0), (ti, 1), (ti, 2)] : List (TypeId × Nat))[i]? = some (ti, o) → (([c0, c1, c2] : List Value).drop o).take 1 = [c] → ∃ m, c = .int .i64 m := fun i o c h1 h2 => by
      obtain ⟨f, g1, g2, g3⟩ := field_of hf h1
      have := hall i f g1
      simp only at g2 g3
      rw [g2, g3, ci, h2] at this
      have hi : i < xs.length := by
        rw [hlen, hfl]
        rcases Nat.lt_or_ge i 3 with h9 | h9
        · exact h9
        · rw [List.getElem?_eq_none (by simpa using h9)] at h1; cases h1
      rw [List.getElem?_eq_getElem hi] at this
      obtain ⟨m, hm, _⟩ := DataW.trod_int hti this
      exact ⟨m, by simpa using hm⟩
    obtain ⟨m0, rfl⟩ := int 0 0 c0 rfl rfl
    obtain ⟨m1, rfl⟩ := int 1 1 c1 rfl rfl
    obtain ⟨m2, rfl⟩ := int 2 2 c2 rfl rfl
    exact ⟨m0, m1, m2, rfl⟩

/-- a deed: kind, time, request, bytes -/
theorem arg_deed21 {t : TypeId} {fs rs : Array Field} {cs : List Value} {fuel : Nat} {x : DataW H × List MemPlace} (ht : P.underlying t = some (.struct fs)) (hc : P.cellsOf t = 9) {ti tr tb te tw ts : TypeId} (hti : P.underlying ti = some (.int .i64)) (htr : P.underlying tr = some (.struct rs)) (htb : P.underlying tb = some (.slice te)) (hte : P.underlying te = some (.int .u8))
    (htw : P.underlying tw = some (.int .u8)) (hts : P.underlying ts = some .string) (ci : P.cellsOf ti = 1) (cr : P.cellsOf tr = 6) (cb : P.cellsOf tb = 1) (ce : P.cellsOf te = 1) (cw : P.cellsOf tw = 1) (csz : P.cellsOf ts = 1)
    (hf : fs.toList.map (fun f => (f.type, f.offset)) = [(ti, 0), (ti, 1), (tr, 2), (tb, 8)]) (hr : rs.toList.map (fun f => (f.type, f.offset)) = [(ti, 0), (tw, 1), (ti, 2), (ti, 3), (ts, 4), (ti, 5)])
    (h : DataW.trod enc P w base spare held fuel t cs = some x) : ∃ (k a : Int) (r : Rq) (s : Sl) (l : List UInt8), cs = [iv k, iv a] ++ rqC r ++ [slV s] ∧ r.2.2.2.2.1.size < 9223372036854775808 ∧ Bytes w.heap s l ∧ r.2.2.2.2.1.size + 1 ≤ Rows.uptoBulk x.1 ∧ l.length + 1 ≤ Rows.uptoBulk x.1 := by
  obtain ⟨xs, n, rfl, rfl, hl, hlen, hall⟩ := DataW.trod_struct ht h
  rw [hc] at hl
  have hfl : fs.size = 4 := by
    have := congrArg List.length hf
    simpa using this
  match cs, hl with
  | [c0, c1, c2, c3, c4, c5, c6, c7, c8], _ =>
    have fld : ∀ {i : Nat} {p : TypeId × Nat} (hi : i < xs.length), ([(ti, 0), (ti, 1), (tr, 2), (tb, 8)] : List (TypeId × Nat))[i]? = some p → DataW.trod enc P w base spare held n p.1 (([c0, c1, c2, c3, c4, c5, c6, c7, c8].drop p.2).take (P.cellsOf p.1)) = some xs[i] := fun {i p} hi hp => by
      obtain ⟨f, g1, g2, g3⟩ := field_of hf hp
      have := hall i f g1
      rw [g2, g3, List.getElem?_eq_getElem hi] at this
      exact this
    have f0 := fld (i := 0) (by omega) rfl
    have f1 := fld (i := 1) (by omega) rfl
    have f2 := fld (i := 2) (by omega) rfl
    have f3 := fld (i := 3) (by omega) rfl
    dsimp only at f0 f1 f2 f3
    rw [ci] at f0 f1
    rw [cr] at f2
    rw [cb] at f3
    obtain ⟨m0, h0, _⟩ := DataW.trod_int hti f0
    obtain ⟨m1, h1, _⟩ := DataW.trod_int hti f1
    obtain ⟨r, h2, hrs, hrb⟩ := arg_rq htr cr hti htw hts ci cw csz hr f2
    have hm2 : (xs[2]).1 ∈ xs.map (·.1) := List.mem_map.2 ⟨xs[2], List.getElem_mem _, rfl⟩
    have hm3 : (xs[3]).1 ∈ xs.map (·.1) := List.mem_map.2 ⟨xs[3], List.getElem_mem _, rfl⟩
    have hb2 := bulk_mem hm2
    have hb3 := bulk_mem hm3
    have hsl : ∃ s : Sl, c8 = slV s := by
      rcases Deep.open_slice htb f3 with ⟨hcs, _⟩ | ⟨a', len', cap', m, n', D, Pl, hcs, _⟩
      · simp at hcs
        exact ⟨⟨none, 0, 0⟩, hcs⟩
      · simp at hcs
        exact ⟨⟨some a', len', cap'⟩, hcs⟩
    obtain ⟨s, hs⟩ := hsl
    simp at h0 h1 h2
    obtain ⟨rfl, rfl, rfl, rfl, rfl, rfl⟩ := h2
    subst h0 h1 hs
    obtain ⟨lb, hlb, hbulk⟩ := arg_bytes htb hte ce f3
    refine ⟨m0, m1, r, s, lb, rfl, hrs, hlb, ?_, ?_⟩
    · simp only [Rows.uptoBulk]; omega
    · simp only [Rows.uptoBulk]; omega

end
end Go.Proofs.YtcmedplogmjiiaaGreat
