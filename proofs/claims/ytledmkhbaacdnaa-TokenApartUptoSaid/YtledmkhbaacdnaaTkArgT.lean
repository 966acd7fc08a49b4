/- The arguments of the token server's laws: flows, deeds. -/
import Derived.Test.YtledmkhbaacdnaaTkArgA
import Derived.Test.YtledmkhbaacdnaaTkNc
namespace Go.Proofs.Ytledmkhbaacdnaa
open Go Go.Fw Go.ChangeShapes Go.WideShapes

theorem sum_ones {α : Type} : ∀ l : List α, (l.map fun _ => (1 : Nat)).sum = l.length
  | [] => rfl
  | _ :: l => by rw [List.map_cons, List.sum_cons, sum_ones l, List.length_cons]; omega

section
variable {H : Type} {enc : TypeId × Value → H} {P : Program} {w : World} {base : Nat} {spare : Nat → Bool} {held : Bool}

theorem arg_f4 {t : TypeId} {fs : Array Field} {cs : List Value} {fuel : Nat} {x : DataW H × List MemPlace} (ht : P.underlying t = some (.struct fs)) (hc : P.cellsOf t = 4) {ti : TypeId} (hti : P.underlying ti = some (.int .i64)) (ci : P.cellsOf ti = 1)
    (hf : fs.toList.map (fun f => (f.type, f.offset)) = [(ti, 0), (ti, 1), (ti, 2), (ti, 3)]) (h : DataW.trod enc P w base spare held fuel t cs = some x) : ∃ f : F4, cs = f4L f ∧ True ∧ 1 ≤ Rows.uptoBulk x.1 := by
  obtain ⟨xs, n, rfl, rfl, hl, hlen, hall⟩ := DataW.trod_struct ht h
  rw [hc] at hl
  have hfl : fs.size = 4 := by
    have := congrArg List.length hf
    simpa using this
  match cs, hl with
  | [c0, c1, c2, c3], _ =>
    have fld : ∀ {i : Nat} {p : TypeId × Nat} (hi : i < xs.length), ([(ti, 0), (ti, 1), (ti, 2), (ti, 3)] : List (TypeId × Nat))[i]? = some p → DataW.trod enc P w base spare held n p.1 (([c0, c1, c2, c3].drop p.2).take (P.cellsOf p.1)) = some xs[i] := fun {i p} hi hp => by
      obtain ⟨f, g1, g2, g3⟩ := field_of hf hp
      have := hall i f g1
      rw [g2, g3, List.getElem?_eq_getElem hi] at this
      exact this
    have f0 := fld (i := 0) (by omega) rfl
    have f1 := fld (i := 1) (by omega) rfl
    have f2 := fld (i := 2) (by omega) rfl
    have f3 := fld (i := 3) (by omega) rfl
    dsimp only at f0 f1 f2 f3
    rw [ci] at f0 f1 f2 f3
    obtain ⟨m0, h0, _⟩ := DataW.trod_int hti f0
    obtain ⟨m1, h1, _⟩ := DataW.trod_int hti f1
    obtain ⟨m2, h2, _⟩ := DataW.trod_int hti f2
    obtain ⟨m3, h3, _⟩ := DataW.trod_int hti f3
    simp at h0 h1 h2 h3
    subst h0 h1 h2 h3
    refine ⟨(m0, m1, m2, m3, ()), rfl, trivial, ?_⟩
    simp only [Rows.uptoBulk]
    omega
theorem arg_f4s {u t : TypeId} {fs : Array Field} {fuel : Nat} {a : Option Addr} {len cap : Nat} {x : DataW H × List MemPlace} (hu : P.underlying u = some (.slice t)) (ht : P.underlying t = some (.struct fs)) (hc : P.cellsOf t = 4) {ti : TypeId} (hti : P.underlying ti = some (.int .i64)) (ci : P.cellsOf ti = 1)
    (hf : fs.toList.map (fun f => (f.type, f.offset)) = [(ti, 0), (ti, 1), (ti, 2), (ti, 3)]) (h : DataW.trod enc P w base spare held fuel u [.slice a len cap] = some x) : ∃ l : List F4, Row w.heap ⟨a, len, cap⟩ 4 (l.flatMap f4L) ∧ l.length + 1 ≤ Rows.uptoBulk x.1 := by
  haveI : Inhabited F4 := ⟨(0, 0, 0, 0, ())⟩
  obtain ⟨l, ⟨h1, _⟩, h2⟩ := arg_structs (Pa := fun _ : F4 => True) (μ := fun _ => 1) f4L_len (by decide) hu hc (arg_f4 ht hc hti ci hf) h
  refine ⟨l, h1, ?_⟩
  have := sum_ones l
  omega
theorem arg_deed20 {t : TypeId} {fs rs : Array Field} {cs : List Value} {fuel : Nat} {x : DataW H × List MemPlace} (ht : P.underlying t = some (.struct fs)) (hc : P.cellsOf t = 11) {ti tr tw ts tf te : TypeId} (hti : P.underlying ti = some (.int .i64)) (htr : P.underlying tr = some (.struct rs))
    (htw : P.underlying tw = some (.int .u8)) (hts : P.underlying ts = some .string) (htf : P.underlying tf = some (.slice te)) (ci : P.cellsOf ti = 1) (cr : P.cellsOf tr = 6) (cw : P.cellsOf tw = 1) (csz : P.cellsOf ts = 1) (cf : P.cellsOf tf = 1)
    (hf : fs.toList.map (fun f => (f.type, f.offset)) = [(ti, 0), (ti, 1), (ti, 2), (tr, 3), (ts, 9), (tf, 10)]) (hr : rs.toList.map (fun f => (f.type, f.offset)) = [(ti, 0), (tw, 1), (ti, 2), (ti, 3), (ts, 4), (ti, 5)])
    (h : DataW.trod enc P w base spare held fuel t cs = some x) : ∃ d : Dd, cs = dL d ∧ d.2.2.2.1.2.2.2.2.1.size < 9223372036854775808 ∧ 1 ≤ Rows.uptoBulk x.1 := by
  obtain ⟨xs, n, rfl, rfl, hl, hlen, hall⟩ := DataW.trod_struct ht h
  rw [hc] at hl
  have hfl : fs.size = 6 := by
    have := congrArg List.length hf
    simpa using this
  match cs, hl with
  | [c0, c1, c2, c3, c4, c5, c6, c7, c8, c9, c10], _ =>
    have fld : ∀ {i : Nat} {p : TypeId × Nat} (hi : i < xs.length), ([(ti, 0), (ti, 1), (ti, 2), (tr, 3), (ts, 9), (tf, 10)] : List (TypeId × Nat))[i]? = some p → DataW.trod enc P w base spare held n p.1 (([c0, c1, c2, c3, c4, c5, c6, c7, c8, c9, c10].drop p.2).take (P.cellsOf p.1)) = some xs[i] := fun {i p} hi hp => by
      obtain ⟨f, g1, g2, g3⟩ := field_of hf hp
      have := hall i f g1
      rw [g2, g3, List.getElem?_eq_getElem hi] at this
      exact this
    have f0 := fld (i := 0) (by omega) rfl
    have f1 := fld (i := 1) (by omega) rfl
    have f2 := fld (i := 2) (by omega) rfl
    have f3 := fld (i := 3) (by omega) rfl
    have f4 := fld (i := 4) (by omega) rfl
    have f5 := fld (i := 5) (by omega) rfl
    dsimp only at f0 f1 f2 f3 f4 f5
    rw [ci] at f0 f1 f2
    rw [cr] at f3
    rw [csz] at f4
    rw [cf] at f5
    obtain ⟨m0, h0, _⟩ := DataW.trod_int hti f0
    obtain ⟨m1, h1, _⟩ := DataW.trod_int hti f1
    obtain ⟨m2, h2, _⟩ := DataW.trod_int hti f2
    obtain ⟨r, h3, hrs, hrb⟩ := arg_rq htr cr hti htw hts ci cw csz hr f3
    obtain ⟨s, h4, _, _⟩ := DataW.trod_string hts f4
    have h5 : ∃ sl : Sl, c10 = slV sl := by
      rcases Deep.open_slice htf f5 with ⟨hcs, _⟩ | ⟨a', len', cap', m, n', D, Pl, hcs, _⟩
      · simp at hcs
        exact ⟨⟨none, 0, 0⟩, hcs⟩
      · simp at hcs
        exact ⟨⟨some a', len', cap'⟩, hcs⟩
    obtain ⟨sl, rfl⟩ := h5
    simp at h0 h1 h2 h3 h4
    obtain ⟨rfl, rfl, rfl, rfl, rfl, rfl⟩ := h3
    subst h0 h1 h2 h4
    refine ⟨(m0, m1, m2, r, s, sl), rfl, hrs, ?_⟩
    simp only [Rows.uptoBulk]
    omega
theorem arg_deeds20 {u t : TypeId} {fs rs : Array Field} {fuel : Nat} {a : Option Addr} {len cap : Nat} {x : DataW H × List MemPlace} (hu : P.underlying u = some (.slice t)) (ht : P.underlying t = some (.struct fs)) (hc : P.cellsOf t = 11) {ti tr tw ts tf te : TypeId} (hti : P.underlying ti = some (.int .i64)) (htr : P.underlying tr = some (.struct rs))
    (htw : P.underlying tw = some (.int .u8)) (hts : P.underlying ts = some .string) (htf : P.underlying tf = some (.slice te)) (ci : P.cellsOf ti = 1) (cr : P.cellsOf tr = 6) (cw : P.cellsOf tw = 1) (csz : P.cellsOf ts = 1) (cf : P.cellsOf tf = 1)
    (hf : fs.toList.map (fun f => (f.type, f.offset)) = [(ti, 0), (ti, 1), (ti, 2), (tr, 3), (ts, 9), (tf, 10)]) (hr : rs.toList.map (fun f => (f.type, f.offset)) = [(ti, 0), (tw, 1), (ti, 2), (ti, 3), (ts, 4), (ti, 5)])
    (h : DataW.trod enc P w base spare held fuel u [.slice a len cap] = some x) : ∃ l : List Dd, (Row w.heap ⟨a, len, cap⟩ 11 (l.flatMap dL) ∧ ∀ d, d ∈ l → d.2.2.2.1.2.2.2.2.1.size < 9223372036854775808) ∧ l.length + 1 ≤ Rows.uptoBulk x.1 := by
  haveI : Inhabited Dd := ⟨(0, 0, 0, (0, 0, 0, 0, ByteArray.empty, 0, ()), ByteArray.empty, ⟨none, 0, 0⟩)⟩
  obtain ⟨l, h1, h2⟩ := arg_structs (Pa := fun d : Dd => d.2.2.2.1.2.2.2.2.1.size < 9223372036854775808) (μ := fun _ => 1) dL_len (by decide) hu hc (arg_deed20 ht hc hti htr htw hts htf ci cr cw csz cf hf hr) h
  refine ⟨l, h1, ?_⟩
  have := sum_ones l
  omega
end
end Go.Proofs.Ytledmkhbaacdnaa
