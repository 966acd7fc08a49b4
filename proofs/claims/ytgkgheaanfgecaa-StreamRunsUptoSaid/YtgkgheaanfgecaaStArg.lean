/- Arguments that are slices of numbers or of deeds: what their reading says of the values and of memory. -/
import Derived.Test.YtgkgheaanfgecaaArg
import Derived.Test.YtgkgheaanfgecaaStI
namespace Go.Proofs.Ytgkgheaanfgecaa
open Go Go.Fw Go.ChangeShapes Go.WideShapes

theorem bulk_memD {H : Type} {d : DataW H} : ∀ {l : List (DataW H)}, d ∈ l → Rows.uptoBulk d ≤ Rows.uptoBulkAll l
  | e :: l, h => by
    rcases List.mem_cons.1 h with rfl | h
    · simp only [Rows.uptoBulkAll]; omega
    · have := bulk_memD h
      simp only [Rows.uptoBulkAll]
      omega

section
variable {H : Type} {enc : TypeId × Value → H} {P : Program} {w : World} {base : Nat} {spare : Nat → Bool} {held : Bool}

theorem arg_ints {q : IntKind} {t e : TypeId} {fuel : Nat} {a : Option Addr} {len cap : Nat} {x : DataW H × List MemPlace} (ht : P.underlying t = some (.slice e)) (he : P.underlying e = some (.int q)) (hc : P.cellsOf e = 1)
    (h : DataW.trod enc P w base spare held fuel t [.slice a len cap] = some x) : ∃ l : List Int, (Row w.heap ⟨a, len, cap⟩ 1 (l.map (Value.int q)) ∧ ∀ n, n ∈ l → (Lit.int q n).wf = true) ∧ l.length + 1 ≤ Rows.uptoBulk x.1 := by
  rcases open_ints ht he hc h with ⟨hcs, rfl⟩ | ⟨a', len', cap', zs, hcs, _, hl, hm, hz, rfl, hcell, hwf⟩
  · simp at hcs
    obtain ⟨rfl, rfl, rfl⟩ := hcs
    exact ⟨[], ⟨Row.nil _ 1, by simp⟩, by simp [Rows.uptoBulk]⟩
  · simp at hcs
    obtain ⟨rfl, rfl, rfl⟩ := hcs
    have hlen : len ≤ zs.length := by rw [hz]; split <;> omega
    have hbig : cap < 9223372036854775808 := maxLen_lt hm
    refine ⟨zs.take len, ⟨⟨by simp; omega, hl, hbig, ?_⟩, fun n hn => hwf n (List.mem_of_mem_take hn)⟩, ?_⟩
    · rcases Nat.eq_zero_or_pos len with h0 | h0
      · exact .inl h0
      · right
        have hc0 := hcell 0 (by omega)
        have hsp : a' = ⟨a'.block, a'.off, none⟩ := by
          have e0 : a'.add 0 = a' := rfl
          rw [e0] at hc0
          exact spot_none hc0
        refine ⟨a'.block, a'.off, by rw [← hsp], has_of fun i v hv => ?_⟩
        simp only [List.getElem?_map, Option.map_eq_some_iff] at hv
        obtain ⟨n, hn, rfl⟩ := hv
        rw [List.getElem?_take] at hn
        split at hn
        · have hi : i < zs.length := by omega
          have := hcell i hi
          rw [hsp, add_none, cell_eq] at this
          rw [this]
          rw [List.getD, hn]
          rfl
        · cases hn
    · simp only [Rows.uptoBulk, List.length_take]
      have h1 := bulk_length (H := H) (lits q (zs.take len))
      have h2 : (lits (H := H) q (zs.take len)).length = min len zs.length := by simp [lits]
      omega

theorem wf_i64 {n : Int} (h : (Lit.int .i64 n).wf = true) : -9223372036854775808 ≤ n ∧ n < 9223372036854775808 := by
  simp only [Lit.wf, Bool.and_eq_true, decide_eq_true_eq] at h
  have h1 : IntKind.i64.min = -9223372036854775808 := by decide
  have h2 : IntKind.i64.max = 9223372036854775807 := by decide
  omega
theorem wf_u32 {n : Int} (h : (Lit.int .u32 n).wf = true) : 0 ≤ n ∧ n < 4294967296 := by
  simp only [Lit.wf, Bool.and_eq_true, decide_eq_true_eq] at h
  have h1 : IntKind.u32.min = 0 := by decide
  have h2 : IntKind.u32.max = 4294967295 := by decide
  omega

theorem arg_int {q : IntKind} {t : TypeId} {fuel : Nat} {n : Int} {x : DataW H × List MemPlace} (ht : P.underlying t = some (.int q)) (h : DataW.trod enc P w base spare held fuel t [.int q n] = some x) : (Lit.int q n).wf = true := by
  obtain ⟨m, hm, _, hw⟩ := DataW.trod_int ht h
  simp at hm
  subst hm
  exact hw

theorem arg_deed {t : TypeId} {fs : Array Field} {cs : List Value} {fuel : Nat} {x : DataW H × List MemPlace} (ht : P.underlying t = some (.struct fs)) (hc : P.cellsOf t = 6) {ti tl tb te : TypeId} (hti : P.underlying ti = some (.int .i64)) (htl : P.underlying tl = some (.slice ti))
    (htb : P.underlying tb = some (.slice te)) (hte : P.underlying te = some (.int .u8)) (ci : P.cellsOf ti = 1) (cl : P.cellsOf tl = 1) (cb : P.cellsOf tb = 1) (ce : P.cellsOf te = 1) (hf : fs.toList.map (fun f => (f.type, f.offset)) = [(ti, 0), (ti, 1), (ti, 2), (ti, 3), (tl, 4), (tb, 5)])
    (h : DataW.trod enc P w base spare held fuel t cs = some x) : ∃ (d : Deed) (pl bl : Sl), cs = dC d pl bl ∧ Ints w.heap pl d.ports ∧ Bytes w.heap bl d.b ∧ d.ports.length + d.b.length + 1 ≤ Rows.uptoBulk x.1 := by
  obtain ⟨xs, n, rfl, rfl, hl, hlen, hall⟩ := DataW.trod_struct ht h
  rw [hc] at hl
  have hfl : fs.size = 6 := by
    have := congrArg List.length hf
    simpa using this
  have fld : ∀ {i : Nat} {p : TypeId × Nat}, ([(ti, 0), (ti, 1), (ti, 2), (ti, 3), (tl, 4), (tb, 5)] : List (TypeId × Nat))[i]? = some p → ∃ f, fs[i]? = some f ∧ f.type = p.1 ∧ f.offset = p.2 := fun {i p} hp => by
    rw [← hf, List.getElem?_map, Option.map_eq_some_iff] at hp
    obtain ⟨f, h1, rfl⟩ := hp
    exact ⟨f, by simpa using h1, rfl, rfl⟩
  match cs, hl with
  | [c0, c1, c2, c3, c4, c5], _ =>
    have int : ∀ (i : Nat) (c : Value), i < 6 → ([(ti, 0), (ti, 1), (ti, 2), (ti, 3), (tl, 4), (tb, 5)] : List (TypeId × Nat))[i]? = some (ti, i) → (([c0, c1, c2, c3, c4, c5] : List Value).drop i).take 1 = [c] → ∃ m, c = .int .i64 m := fun i c hi h1 h2 => by
      obtain ⟨f, g1, g2, g3⟩ := fld h1
      have := hall i f g1
      simp only at g2 g3
      rw [g2, g3, ci, h2] at this
      rw [List.getElem?_eq_getElem (by omega : i < xs.length)] at this
      obtain ⟨m, hm, _⟩ := DataW.trod_int hti this
      exact ⟨m, by simpa using hm⟩
    obtain ⟨m0, rfl⟩ := int 0 c0 (by omega) rfl rfl
    obtain ⟨m1, rfl⟩ := int 1 c1 (by omega) rfl rfl
    obtain ⟨m2, rfl⟩ := int 2 c2 (by omega) rfl rfl
    obtain ⟨m3, rfl⟩ := int 3 c3 (by omega) rfl rfl
    obtain ⟨f, g1, g2, g3⟩ := fld (i := 4) rfl
    have h4 := hall 4 f g1
    simp only at g2 g3
    rw [g2, g3, cl] at h4
    rw [List.getElem?_eq_getElem (by omega : 4 < xs.length)] at h4
    have h4' : DataW.trod enc P w base spare held n tl [c4] = some xs[4] := h4
    obtain ⟨f', g1', g2', g3'⟩ := fld (i := 5) rfl
    have h5 := hall 5 f' g1'
    simp only at g2' g3'
    rw [g2', g3', cb] at h5
    rw [List.getElem?_eq_getElem (by omega : 5 < xs.length)] at h5
    have h5' : DataW.trod enc P w base spare held n tb [c5] = some xs[5] := h5
    have hxs : xs = [xs[0], xs[1], xs[2], xs[3], xs[4], xs[5]] := by
      apply List.ext_getElem?
      intro i
      rcases Nat.lt_or_ge i 6 with h9 | h9
      · rw [List.getElem?_eq_getElem (by omega)]
        match i, h9 with
        | 0, _ => rfl
        | 1, _ => rfl
        | 2, _ => rfl
        | 3, _ => rfl
        | 4, _ => rfl
        | 5, _ => rfl
      · rw [List.getElem?_eq_none (by omega), List.getElem?_eq_none (by simpa using h9)]
    have fin : ∀ pl bl : Sl, c4 = slV pl → c5 = slV bl → ∃ (d : Deed) (pl bl : Sl), ([iv m0, iv m1, iv m2, iv m3, c4, c5] : List Value) = dC d pl bl ∧ Ints w.heap pl d.ports ∧ Bytes w.heap bl d.b ∧ d.ports.length + d.b.length + 1 ≤ Rows.uptoBulk (DataW.agg (xs.map (·.1)) : DataW H) := fun pl bl hp hb => by
      rw [hp] at h4'
      rw [hb] at h5'
      obtain ⟨l, hl1, hl2⟩ := arg_ints htl hti ci h4'
      obtain ⟨lb, hlb1, hlb2⟩ := arg_bytes htb hte ce h5'
      refine ⟨⟨m0, m1, m2, m3, l, lb⟩, pl, bl, by rw [hp, hb]; rfl, hl1.1, hlb1, ?_⟩
      rw [hxs]
      simp only [Rows.uptoBulk, Rows.uptoBulkAll, List.map_cons, List.map_nil]
      show l.length + lb.length + 1 ≤ _
      omega
    have isl : ∀ (tt te' : TypeId) (c : Value) (y : DataW H × List MemPlace), P.underlying tt = some (.slice te') → DataW.trod enc P w base spare held n tt [c] = some y → ∃ sl : Sl, c = slV sl := fun tt te' c y h1 h2 => by
      rcases DataW.trod_slice h1 h2 with ⟨hv, _⟩ | ⟨a2, len2, cap2, _, _, _, _, hv, _⟩
      · simp at hv
        exact ⟨⟨none, 0, 0⟩, hv⟩
      · simp at hv
        exact ⟨⟨some a2, len2, cap2⟩, hv⟩
    obtain ⟨pl, hpl⟩ := isl _ _ _ _ htl h4'
    obtain ⟨bl, hbl⟩ := isl _ _ _ _ htb h5'
    exact fin pl bl hpl hbl

theorem arg_deeds {u t : TypeId} {fs : Array Field} {fuel : Nat} {a : Option Addr} {len cap : Nat} {x : DataW H × List MemPlace} (hu : P.underlying u = some (.slice t)) (ht : P.underlying t = some (.struct fs)) (hc : P.cellsOf t = 6) {ti tl tb te : TypeId} (hti : P.underlying ti = some (.int .i64)) (htl : P.underlying tl = some (.slice ti))
    (htb : P.underlying tb = some (.slice te)) (hte : P.underlying te = some (.int .u8)) (ci : P.cellsOf ti = 1) (cl : P.cellsOf tl = 1) (cb : P.cellsOf tb = 1) (ce : P.cellsOf te = 1) (hf : fs.toList.map (fun f => (f.type, f.offset)) = [(ti, 0), (ti, 1), (ti, 2), (ti, 3), (tl, 4), (tb, 5)])
    (h : DataW.trod enc P w base spare held fuel u [.slice a len cap] = some x) : ∃ ds : List Deed, Deeds w.heap ⟨a, len, cap⟩ ds ∧ bulkD ds + 1 ≤ Rows.uptoBulk x.1 := by
  rcases Deep.open_slice hu h with ⟨hcs, rfl⟩ | ⟨a', len', cap', m, n, D, Pl, hcs, _, hl, hm, hmm, rfl, hx⟩
  · simp at hcs
    obtain ⟨rfl, rfl, rfl⟩ := hcs
    exact ⟨[], ⟨rfl, by simp⟩, by simp [bulkD, Rows.uptoBulk]⟩
  · simp at hcs
    obtain ⟨rfl, rfl, rfl⟩ := hcs
    have hlen : len ≤ m := by rw [hmm]; split <;> omega
    have each : ∀ i, i < len → ∃ r : Deed × Sl × Sl, w.cells? base (a'.add (i * 6)) 6 = some (dC r.1 r.2.1 r.2.2) ∧ Ints w.heap r.2.1 r.1.ports ∧ Bytes w.heap r.2.2 r.1.b ∧ r.1.ports.length + r.1.b.length + 1 ≤ Rows.uptoBulk (D i) := by
      intro i hi
      obtain ⟨cs', h1, h2⟩ := hx i (by omega)
      rw [hc] at h1
      obtain ⟨d, pl, bl, rfl, h3, h4, h5⟩ := arg_deed ht hc hti htl htb hte ci cl cb ce hf h2
      exact ⟨(d, pl, bl), h1, h3, h4, h5⟩
    haveI : Inhabited (Deed × Sl × Sl) := ⟨(⟨0, 0, 0, 0, [], []⟩, ⟨none, 0, 0⟩, ⟨none, 0, 0⟩)⟩
    obtain ⟨f, hf⟩ := Deep.choose_lt each
    refine ⟨(List.range len).map fun i => (f i).1, ⟨by simp, ?_⟩, ?_⟩
    · intro i d hi
      simp only [List.getElem?_map, Option.map_eq_some_iff] at hi
      obtain ⟨j, hj, rfl⟩ := hi
      obtain ⟨rfl, hlt⟩ := range_get hj
      have cell : ∀ i, i < len → ∀ k, k < 6 → w.cell? ((a'.add (i * 6)).add k) = (dC (f i).1 (f i).2.1 (f i).2.2)[k]? := fun i hi k hk => (World.cells?_some (hf i hi).1).2.2 k hk
      have hsp : a' = ⟨a'.block, a'.off, none⟩ := by
        have h0 := cell 0 (by omega) 0 (by omega)
        have e0 : (a'.add (0 * 6)).add 0 = a' := rfl
        rw [e0] at h0
        exact spot_none h0
      refine ⟨a'.block, a'.off, (f i).2.1, (f i).2.2, by rw [← hsp], has_of fun k v hv => ?_, (hf i hlt).2.1, (hf i hlt).2.2.1⟩
      have hk3 : k < 6 := by
        rcases Nat.lt_or_ge k 6 with h9 | h9
        · exact h9
        · rw [List.getElem?_eq_none (by simpa [dC] using h9)] at hv; cases hv
      have := cell i hlt k hk3
      rw [hv, hsp, add_none, add_none, cell_eq] at this
      exact this
    · have h1 := bulkAll_map D (fun i => (f i).1.ports.length + (f i).1.b.length + 1) (List.range len) fun i hi => (hf i (by simpa using hi)).2.2.2
      simp only [Rows.uptoBulk, bulkD, List.map_map]
      simp only [Function.comp_def]
      omega

end
end Go.Proofs.Ytgkgheaanfgecaa
