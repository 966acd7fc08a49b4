/- An argument that is a slice of the client's deeds: what its reading says. -/
import Derived.Test.YtcmedplogmjiiaaGreatClArg
import Derived.Test.YtcmedplogmjiiaaGreatClV
namespace Go.Proofs.YtcmedplogmjiiaaGreat
open Go Go.Fw Go.ChangeShapes Go.WideShapes

section
variable {H : Type} {enc : TypeId × Value → H} {P : Program} {w : World} {base : Nat} {spare : Nat → Bool} {held : Bool}

theorem arg_name {t : TypeId} {fuel : Nat} {s : ByteArray} {x : DataW H × List MemPlace} (ht : P.underlying t = some .string) (h : DataW.trod enc P w base spare held fuel t [.string s] = some x) : s.size < 9223372036854775808 := by
  obtain ⟨s', hs, _, hsz⟩ := DataW.trod_string ht h
  simp at hs
  subst hs
  exact maxLen_lt hsz

theorem arg_deeds21 {u t : TypeId} {fs rs : Array Field} {fuel : Nat} {a : Option Addr} {len cap : Nat} {x : DataW H × List MemPlace} (hu : P.underlying u = some (.slice t)) (ht : P.underlying t = some (.struct fs)) (hc : P.cellsOf t = 9) {ti tr tb te tw ts : TypeId} (hti : P.underlying ti = some (.int .i64)) (htr : P.underlying tr = some (.struct rs)) (htb : P.underlying tb = some (.slice te)) (hte : P.underlying te = some (.int .u8))
    (htw : P.underlying tw = some (.int .u8)) (hts : P.underlying ts = some .string) (ci : P.cellsOf ti = 1) (cr : P.cellsOf tr = 6) (cb : P.cellsOf tb = 1) (ce : P.cellsOf te = 1) (cw : P.cellsOf tw = 1) (csz : P.cellsOf ts = 1)
    (hf : fs.toList.map (fun f => (f.type, f.offset)) = [(ti, 0), (ti, 1), (tr, 2), (tb, 8)]) (hr : rs.toList.map (fun f => (f.type, f.offset)) = [(ti, 0), (tw, 1), (ti, 2), (ti, 3), (ts, 4), (ti, 5)])
    (h : DataW.trod enc P w base spare held fuel u [.slice a len cap] = some x) : ∃ ds : List Dd, Deeds21 w.heap ⟨a, len, cap⟩ ds ∧ bulk21 ds + 1 ≤ Rows.uptoBulk x.1 := by
  rcases Deep.open_slice hu h with ⟨hcs, rfl⟩ | ⟨a', len', cap', m, n, D, Pl, hcs, _, hl, hm, hmm, rfl, hx⟩
  · simp at hcs
    obtain ⟨rfl, rfl, rfl⟩ := hcs
    exact ⟨[], ⟨rfl, by simp⟩, by simp [bulk21, Rows.uptoBulk]⟩
  · simp at hcs
    obtain ⟨rfl, rfl, rfl⟩ := hcs
    have hlen : len ≤ m := by rw [hmm]; split <;> omega
    have each : ∀ i, i < len → ∃ q : Dd × Sl, w.cells? base (a'.add (i * 9)) 9 = some (ddC q.1 q.2) ∧ Bytes w.heap q.2 q.1.b ∧ q.1.r.2.2.2.2.1.size < 9223372036854775808 ∧ q.1.b.length + 1 ≤ Rows.uptoBulk (D i) := by
      intro i hi
      obtain ⟨cs', h1, h2⟩ := hx i (by omega)
      rw [hc] at h1
      obtain ⟨k, at_, r, s, l, rfl, g1, g2, _, g3⟩ := arg_deed21 ht hc hti htr htb hte htw hts ci cr cb ce cw csz hf hr h2
      exact ⟨(⟨k, at_, r, l⟩, s), h1, g2, g1, g3⟩
    haveI : Inhabited (Dd × Sl) := ⟨(⟨0, 0, (0, 0, 0, 0, ByteArray.empty, 0, ()), []⟩, ⟨none, 0, 0⟩)⟩
    obtain ⟨f, hf⟩ := Deep.choose_lt each
    refine ⟨(List.range len).map fun i => (f i).1, ⟨by simp, ?_⟩, ?_⟩
    · intro i d hi
      simp only [List.getElem?_map, Option.map_eq_some_iff] at hi
      obtain ⟨j, hj, rfl⟩ := hi
      obtain ⟨rfl, hlt⟩ := range_get hj
      have cell : ∀ i, i < len → ∀ k, k < 9 → w.cell? ((a'.add (i * 9)).add k) = (ddC (f i).1 (f i).2)[k]? := fun i hi k hk => (World.cells?_some (hf i hi).1).2.2 k hk
      have hsp : a' = ⟨a'.block, a'.off, none⟩ := by
        have h0 := cell 0 (by omega) 0 (by omega)
        have e0 : (a'.add (0 * 9)).add 0 = a' := rfl
        rw [e0] at h0
        exact spot_none h0
      refine ⟨a'.block, a'.off, (f i).2, by rw [← hsp], has_of fun k v hv => ?_, (hf i hlt).2.1, (hf i hlt).2.2.1⟩
      have hk9 : k < 9 := by
        rcases Nat.lt_or_ge k 9 with h9 | h9
        · exact h9
        · rw [List.getElem?_eq_none (by simpa [ddC] using h9)] at hv; cases hv
      have := cell i hlt k hk9
      rw [hv, hsp, add_none, add_none, cell_eq] at this
      exact this
    · have h1 := bulkAll_map D (fun i => (f i).1.b.length + 1) (List.range len) fun i hi => (hf i (by simpa using hi)).2.2.2
      simp only [Rows.uptoBulk, bulk21, List.map_map]
      simp only [Function.comp_def]
      omega

end
end Go.Proofs.YtcmedplogmjiiaaGreat
