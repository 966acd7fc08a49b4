/- The argument of TopGranted: requests at times. -/
import Derived.Test.YtckcdkhiehdkkaaTkArgA
import Derived.Test.YtckcdkhiehdkkaaTgA
namespace Go.Proofs.Ytckcdkhiehdkkaa
open Go Go.Fw Go.ChangeShapes Go.WideShapes

section
variable {H : Type} {enc : TypeId × Value → H} {P : Program} {w : World} {base : Nat} {spare : Nat → Bool} {held : Bool}

theorem arg_ask {t : TypeId} {fs rs : Array Field} {cs : List Value} {fuel : Nat} {x : DataW H × List MemPlace} (ht : P.underlying t = some (.struct fs)) (hc : P.cellsOf t = 9) {ti tr tb tw ts : TypeId} (hti : P.underlying ti = some (.int .i64)) (htr : P.underlying tr = some (.struct rs)) (htb : P.underlying tb = some .bool)
    (htw : P.underlying tw = some (.int .u8)) (hts : P.underlying ts = some .string) (ci : P.cellsOf ti = 1) (cr : P.cellsOf tr = 6) (cb : P.cellsOf tb = 1) (cw : P.cellsOf tw = 1) (csz : P.cellsOf ts = 1)
    (hf : fs.toList.map (fun f => (f.type, f.offset)) = [(ti, 0), (ti, 1), (tr, 2), (tb, 8)]) (hr : rs.toList.map (fun f => (f.type, f.offset)) = [(ti, 0), (tw, 1), (ti, 2), (ti, 3), (ts, 4), (ti, 5)])
    (h : DataW.trod enc P w base spare held fuel t cs = some x) : ∃ q : Ask, cs = askL q ∧ q.2.2.1.2.2.2.2.1.size < 9223372036854775808 ∧ q.2.2.1.2.2.2.2.1.size + 1 ≤ Rows.uptoBulk x.1 := by
  obtain ⟨xs, n, rfl, rfl, hl, hlen, hall⟩ := DataW.trod_struct ht h
  rw [hc] at hl
  have hfl : fs.size = 4 := by
    have := congrArg List.length hf
    simpa using this
  match cs, hl with
  | [c0, c1, c2, c3, c4, c5, c6, c7, c8], _ =>
    have fld : ∀ {i : Nat} {p : TypeId × Nat} (hi : i < xs.length), ([(ti, 0), (ti, 1), (tr, 2), (tb, 8)] : List (TypeId × Nat))[i]? = some p → DataW.trod enc P w base spare held n p.1 (([c0, c1, c2, c3, c4, c5, c6, c7, c8].drop p.2).take (P.cellsOf p.1)) = some xs[i] := fun {i p} hi hp => by
      obtain ⟨f, g1, g2, g3⟩ := field_of hf hp
      have := hall i f g1
      rw [g2, g3, List.getElem?_eq_getElem hi] at this
      exact this
    have f0 := fld (i := 0) (by omega) rfl
    have f1 := fld (i := 1) (by omega) rfl
    have f2 := fld (i := 2) (by omega) rfl
    have f3 := fld (i := 3) (by omega) rfl
    dsimp only at f0 f1 f2 f3
    rw [ci] at f0 f1
    rw [cr] at f2
    rw [cb] at f3
    obtain ⟨m0, h0, _⟩ := DataW.trod_int hti f0
    obtain ⟨m1, h1, _⟩ := DataW.trod_int hti f1
    obtain ⟨r, h2, hrs, hrb⟩ := arg_rq htr cr hti htw hts ci cw csz hr f2
    obtain ⟨b, h3, _⟩ := DataW.trod_bool htb f3
    have hm2 : (xs[2]).1 ∈ xs.map (·.1) := List.mem_map.2 ⟨xs[2], List.getElem_mem _, rfl⟩
    have hb2 := bulk_mem hm2
    simp at h0 h1 h2 h3
    obtain ⟨rfl, rfl, rfl, rfl, rfl, rfl⟩ := h2
    subst h0 h1 h3
    refine ⟨(m0, m1, r, b), rfl, hrs, ?_⟩
    simp only [Rows.uptoBulk]
    omega
theorem arg_asks {u t : TypeId} {fs rs : Array Field} {fuel : Nat} {a : Option Addr} {len cap : Nat} {x : DataW H × List MemPlace} (hu : P.underlying u = some (.slice t)) (ht : P.underlying t = some (.struct fs)) (hc : P.cellsOf t = 9) {ti tr tb tw ts : TypeId} (hti : P.underlying ti = some (.int .i64)) (htr : P.underlying tr = some (.struct rs)) (htb : P.underlying tb = some .bool)
    (htw : P.underlying tw = some (.int .u8)) (hts : P.underlying ts = some .string) (ci : P.cellsOf ti = 1) (cr : P.cellsOf tr = 6) (cb : P.cellsOf tb = 1) (cw : P.cellsOf tw = 1) (csz : P.cellsOf ts = 1)
    (hf : fs.toList.map (fun f => (f.type, f.offset)) = [(ti, 0), (ti, 1), (tr, 2), (tb, 8)]) (hr : rs.toList.map (fun f => (f.type, f.offset)) = [(ti, 0), (tw, 1), (ti, 2), (ti, 3), (ts, 4), (ti, 5)])
    (h : DataW.trod enc P w base spare held fuel u [.slice a len cap] = some x) : ∃ l : List Ask, Row w.heap ⟨a, len, cap⟩ 9 (l.flatMap askL) ∧ ∀ q, q ∈ l → q.2.2.1.2.2.2.2.1.size < 9223372036854775808 :=
  haveI : Inhabited Ask := ⟨(0, 0, (0, 0, 0, 0, ByteArray.empty, 0, ()), false)⟩
  (arg_structs (Pa := fun q : Ask => q.2.2.1.2.2.2.2.1.size < 9223372036854775808) (μ := fun q => q.2.2.1.2.2.2.2.1.size + 1) askL_len (by decide) hu hc (arg_ask ht hc hti htr htb htw hts ci cr cb cw csz hf hr) h).imp fun _ h => h.1
end
end Go.Proofs.Ytckcdkhiehdkkaa
