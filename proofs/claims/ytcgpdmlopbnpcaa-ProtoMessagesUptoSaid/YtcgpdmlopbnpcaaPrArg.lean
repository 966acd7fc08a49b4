/- Arguments that are requests, answers, or slices of requests: what their reading says of the values and of memory. -/
import Derived.Test.YtcgpdmlopbnpcaaArg
import Derived.Test.YtcgpdmlopbnpcaaPrA
namespace Go.Proofs.Ytcgpdmlopbnpcaa
open Go Go.Fw

theorem bulk_mem {H : Type} {d : DataW H} : ∀ {l : List (DataW H)}, d ∈ l → Rows.uptoBulk d ≤ Rows.uptoBulkAll l
  | e :: l, h => by
    rcases List.mem_cons.1 h with rfl | h
    · simp only [Rows.uptoBulkAll]; omega
    · have := bulk_mem h
      simp only [Rows.uptoBulkAll]
      omega

section
variable {H : Type} {enc : TypeId × Value → H} {P : Program} {w : World} {base : Nat} {spare : Nat → Bool} {held : Bool}

theorem field_of {fs : Array Field} {l : List (TypeId × Nat)} (hf : fs.toList.map (fun f => (f.type, f.offset)) = l) {i : Nat} {p : TypeId × Nat} (hp : l[i]? = some p) : ∃ f, fs[i]? = some f ∧ f.type = p.1 ∧ f.offset = p.2 := by
  subst hf
  rw [List.getElem?_map, Option.map_eq_some_iff] at hp
  obtain ⟨f, h1, rfl⟩ := hp
  exact ⟨f, by simpa using h1, rfl, rfl⟩

theorem arg_rq {t : TypeId} {fs : Array Field} {cs : List Value} {fuel : Nat} {x : DataW H × List MemPlace} (ht : P.underlying t = some (.struct fs)) (hc : P.cellsOf t = 6) {ti tw ts : TypeId} (hti : P.underlying ti = some (.int .i64)) (htw : P.underlying tw = some (.int .u8)) (hts : P.underlying ts = some .string)
    (ci : P.cellsOf ti = 1) (cw : P.cellsOf tw = 1) (csz : P.cellsOf ts = 1) (hf : fs.toList.map (fun f => (f.type, f.offset)) = [(ti, 0), (tw, 1), (ti, 2), (ti, 3), (ts, 4), (ti, 5)])
    (h : DataW.trod enc P w base spare held fuel t cs = some x) : ∃ r : Rq, cs = rqC r ∧ r.2.2.2.2.1.size < 9223372036854775808 ∧ r.2.2.2.2.1.size + 1 ≤ Rows.uptoBulk x.1 := by
  obtain ⟨xs, n, rfl, rfl, hl, hlen, hall⟩ := DataW.trod_struct ht h
  rw [hc] at hl
  have hfl : fs.size = 6 := by
    have := congrArg List.length hf
    simpa using this
  match cs, hl with
  | [c0, c1, c2, c3, c4, c5], _ =>
    have int : ∀ (i o : Nat) (c : Value), ([(ti, 0), (tw, 1), (ti, 2), (ti, 3), (ts, 4), (ti, 5)] : List (TypeId × Nat))[i]? = some (ti, o) → (([c0, c1, c2, c3, c4, c5] : List Value).drop o).take 1 = [c] → ∃ m, c = .int .i64 m := fun i o c h1 h2 => by
      obtain ⟨f, g1, g2, g3⟩ := field_of hf h1
      have := hall i f g1
      simp only at g2 g3
      rw [g2, g3, ci, h2] at this
      have hi : i < xs.length := by
        rw [hlen, hfl]
        rcases Nat.lt_or_ge i 6 with h9 | h9
        · exact h9
        · rw [List.getElem?_eq_none (by simpa using h9)] at h1; cases h1
      rw [List.getElem?_eq_getElem hi] at this
      obtain ⟨m, hm, _⟩ := DataW.trod_int hti this
      exact ⟨m, by simpa using hm⟩
    obtain ⟨m0, rfl⟩ := int 0 0 c0 rfl rfl
    obtain ⟨m2, rfl⟩ := int 2 2 c2 rfl rfl
    obtain ⟨m3, rfl⟩ := int 3 3 c3 rfl rfl
    obtain ⟨m5, rfl⟩ := int 5 5 c5 rfl rfl
    have w1 : ∃ m, c1 = .int .u8 m := by
      obtain ⟨f, g1, g2, g3⟩ := field_of hf (i := 1) rfl
      have := hall 1 f g1
      simp only at g2 g3
      rw [g2, g3, cw] at this
      rw [List.getElem?_eq_getElem (by omega : 1 < xs.length)] at this
      obtain ⟨m, hm, _⟩ := DataW.trod_int htw this
      exact ⟨m, by simpa using hm⟩
    obtain ⟨m1, rfl⟩ := w1
    have s4 : ∃ s : ByteArray, c4 = .string s ∧ s.size ≤ maxLen ∧ s.size + 1 ≤ Rows.uptoBulkAll (xs.map (·.1)) := by
      obtain ⟨f, g1, g2, g3⟩ := field_of hf (i := 4) rfl
      have := hall 4 f g1
      simp only at g2 g3
      rw [g2, g3, csz] at this
      rw [List.getElem?_eq_getElem (by omega : 4 < xs.length)] at this
      obtain ⟨s, hs, hx, hsz⟩ := DataW.trod_string hts this
      refine ⟨s, by simpa using hs, hsz, ?_⟩
      have hm : (DataW.lit (.string s.data.toList) : DataW H) ∈ xs.map (·.1) := List.mem_map.2 ⟨xs[4], List.getElem_mem _, by rw [hx]⟩
      have := bulk_mem hm
      simp only [Rows.uptoBulk] at this
      have e : s.data.toList.length = s.size := by simp
      omega
    obtain ⟨s, rfl, hsz, hbulk⟩ := s4
    refine ⟨(m0, m1, m2, m3, s, m5, ()), rfl, maxLen_lt hsz, ?_⟩
    simp only [Rows.uptoBulk]
    omega

theorem arg_an {t : TypeId} {fs : Array Field} {cs : List Value} {fuel : Nat} {x : DataW H × List MemPlace} (ht : P.underlying t = some (.struct fs)) (hc : P.cellsOf t = 5) {ti tw : TypeId} (hti : P.underlying ti = some (.int .i64)) (htw : P.underlying tw = some (.int .u8))
    (ci : P.cellsOf ti = 1) (cw : P.cellsOf tw = 1) (hf : fs.toList.map (fun f => (f.type, f.offset)) = [(ti, 0), (tw, 1), (ti, 2), (ti, 3), (ti, 4)])
    (h : DataW.trod enc P w base spare held fuel t cs = some x) : ∃ r : An, cs = anC r := by
  obtain ⟨xs, n, rfl, rfl, hl, hlen, hall⟩ := DataW.trod_struct ht h
  rw [hc] at hl
  have hfl : fs.size = 5 := by
    have := congrArg List.length hf
    simpa using this
  match cs, hl with
  | [c0, c1, c2, c3, c4], _ =>
    have int : ∀ (i o : Nat) (c : Value), ([(ti, 0), (tw, 1), (ti, 2), (ti, 3), (ti, 4)] : List (TypeId × Nat))[i]? = some (ti, o) → (([c0, c1, c2, c3, c4] : List Value).drop o).take 1 = [c] → ∃ m, c = .int .i64 m := fun i o c h1 h2 => by
      obtain ⟨f, g1, g2, g3⟩ := field_of hf h1
      have := hall i f g1
      simp only at g2 g3
      rw [g2, g3, ci, h2] at this
      have hi : i < xs.length := by
        rw [hlen, hfl]
        rcases Nat.lt_or_ge i 5 with h9 | h9
        · exact h9
        · rw [List.getElem?_eq_none (by simpa using h9)] at h1; cases h1
      rw [List.getElem?_eq_getElem hi] at this
      obtain ⟨m, hm, _⟩ := DataW.trod_int hti this
      exact ⟨m, by simpa using hm⟩
    obtain ⟨m0, rfl⟩ := int 0 0 c0 rfl rfl
    obtain ⟨m2, rfl⟩ := int 2 2 c2 rfl rfl
    obtain ⟨m3, rfl⟩ := int 3 3 c3 rfl rfl
    obtain ⟨m4, rfl⟩ := int 4 4 c4 rfl rfl
    have w1 : ∃ m, c1 = .int .u8 m := by
      obtain ⟨f, g1, g2, g3⟩ := field_of hf (i := 1) rfl
      have := hall 1 f g1
      simp only at g2 g3
      rw [g2, g3, cw] at this
      rw [List.getElem?_eq_getElem (by omega : 1 < xs.length)] at this
      obtain ⟨m, hm, _⟩ := DataW.trod_int htw this
      exact ⟨m, by simpa using hm⟩
    obtain ⟨m1, rfl⟩ := w1
    exact ⟨(m0, m1, m2, m3, m4, ()), rfl⟩

/-- a slice of requests -/
structure RowsQ (h : Heap) (s : Sl) (rs : List Rq) : Prop where
  len : s.len = rs.length
  small : ∀ r, r ∈ rs → r.2.2.2.2.1.size < 9223372036854775808
  at_ : ∀ (i : Nat) (r : Rq), rs[i]? = some r → ∃ b o, s.ptr = some ⟨b, o, none⟩ ∧ h.has b (o + i * 6) (rqC r)

theorem RowsQ.ext {h h' : Heap} {s : Sl} {rs : List Rq} (hr : RowsQ h s rs) (he : Ext h h') : RowsQ h' s rs :=
  ⟨hr.len, hr.small, fun i r hi => by
    obtain ⟨b, o, hp, hh⟩ := hr.at_ i r hi
    exact ⟨b, o, hp, has_congr (he.old b (has_lt hh (by simp))) hh⟩⟩

theorem RowsQ.idx {h : Heap} {s : Sl} {rs : List Rq} (hr : RowsQ h s rs) {i : Int} {n : Nat} (hi : i = n) {r : Rq} (hx : rs[n]? = some r) {K : Nat → Nat → Prop} (hk : ∀ b o, h.has b o (rqC r) → K b o) : idxA s.ptr s.len i 6 K := by
  obtain ⟨b, o, hp, hh⟩ := hr.at_ n r hx
  have hlt : n < rs.length := by
    rcases Nat.lt_or_ge n rs.length with h9 | h9
    · exact h9
    · rw [List.getElem?_eq_none h9] at hx; cases hx
  have hl := hr.len
  subst hi
  exact ⟨b, o, hp, by omega, by omega, by rw [Int.toNat_natCast]; exact hk b _ hh⟩

theorem arg_rqs {u t : TypeId} {fs : Array Field} {fuel : Nat} {a : Option Addr} {len cap : Nat} {x : DataW H × List MemPlace} (hu : P.underlying u = some (.slice t)) (ht : P.underlying t = some (.struct fs)) (hc : P.cellsOf t = 6) {ti tw ts : TypeId} (hti : P.underlying ti = some (.int .i64)) (htw : P.underlying tw = some (.int .u8)) (hts : P.underlying ts = some .string)
    (ci : P.cellsOf ti = 1) (cw : P.cellsOf tw = 1) (csz : P.cellsOf ts = 1) (hf : fs.toList.map (fun f => (f.type, f.offset)) = [(ti, 0), (tw, 1), (ti, 2), (ti, 3), (ts, 4), (ti, 5)])
    (h : DataW.trod enc P w base spare held fuel u [.slice a len cap] = some x) : ∃ rs : List Rq, RowsQ w.heap ⟨a, len, cap⟩ rs ∧ rs.length + 1 ≤ Rows.uptoBulk x.1 := by
  rcases Deep.open_slice hu h with ⟨hcs, rfl⟩ | ⟨a', len', cap', m, n, D, Pl, hcs, _, hl, hm, hmm, rfl, hx⟩
  · simp at hcs
    obtain ⟨rfl, rfl, rfl⟩ := hcs
    exact ⟨[], ⟨rfl, by simp, by simp⟩, by simp [Rows.uptoBulk]⟩
  · simp at hcs
    obtain ⟨rfl, rfl, rfl⟩ := hcs
    have hlen : len ≤ m := by rw [hmm]; split <;> omega
    have each : ∀ i, i < len → ∃ r : Rq, w.cells? base (a'.add (i * 6)) 6 = some (rqC r) ∧ r.2.2.2.2.1.size < 9223372036854775808 := by
      intro i hi
      obtain ⟨cs', h1, h2⟩ := hx i (by omega)
      rw [hc] at h1
      obtain ⟨r, rfl, hr, _⟩ := arg_rq ht hc hti htw hts ci cw csz hf h2
      exact ⟨r, h1, hr⟩
    haveI : Inhabited Rq := ⟨(0, 0, 0, 0, ByteArray.mk #[], 0, ())⟩
    obtain ⟨f, hf⟩ := Deep.choose_lt each
    refine ⟨(List.range len).map f, ⟨by simp, ?_, ?_⟩, ?_⟩
    · intro r hr
      obtain ⟨i, hi, rfl⟩ := List.mem_map.1 hr
      exact (hf i (by simpa using hi)).2
    · intro i r hi
      simp only [List.getElem?_map, Option.map_eq_some_iff] at hi
      obtain ⟨j, hj, rfl⟩ := hi
      obtain ⟨rfl, hlt⟩ := range_get hj
      have cell : ∀ i, i < len → ∀ k, k < 6 → w.cell? ((a'.add (i * 6)).add k) = (rqC (f i))[k]? := fun i hi k hk => (World.cells?_some (hf i hi).1).2.2 k hk
      have hsp : a' = ⟨a'.block, a'.off, none⟩ := by
        have h0 := cell 0 (by omega) 0 (by omega)
        have e0 : (a'.add (0 * 6)).add 0 = a' := rfl
        rw [e0] at h0
        exact spot_none h0
      refine ⟨a'.block, a'.off, by rw [← hsp], has_of fun k v hv => ?_⟩
      have hk6 : k < 6 := by
        rcases Nat.lt_or_ge k 6 with h9 | h9
        · exact h9
        · rw [List.getElem?_eq_none (by simpa using h9)] at hv; cases hv
      have := cell i hlt k hk6
      rw [hv, hsp, add_none, add_none, cell_eq] at this
      exact this
    · have h1 := bulk_length ((List.range len).map D)
      rw [List.length_map, List.length_range] at h1
      simp only [Rows.uptoBulk, List.length_map, List.length_range]
      omega

end
end Go.Proofs.Ytcgpdmlopbnpcaa
