/- What an argument reads as, in the words of the models: bytes, rows of bytes; and what the bound of the second form gives. -/
import Derived.Test.YtledmkhbaacdnaaRows
import Derived.Test.YtledmkhbaacdnaaFwN
import Derived.Test.YtledmkhbaacdnaaFwL
import Derived.Deep.Slices
import Derived.ChangeSlices
namespace Go.Proofs.Ytledmkhbaacdnaa
open Go Go.Fw Go.ChangeShapes Go.WideShapes

theorem maxLen_lt {n : Nat} (h : n ≤ maxLen) : n < 9223372036854775808 := by
  have e : maxLen = 9223372036854775807 := by decide
  omega

theorem range_get {n i j : Nat} (h : (List.range n)[i]? = some j) : i = j ∧ i < n := by
  obtain ⟨hlt, he⟩ := List.getElem?_eq_some_iff.1 h
  simp at hlt he
  exact ⟨he, hlt⟩

theorem bulkAll_append {H : Type} (l r : List (DataW H)) : Rows.uptoBulkAll (l ++ r) = Rows.uptoBulkAll l + Rows.uptoBulkAll r := by
  induction l with
  | nil => simp [Rows.uptoBulkAll]
  | cons x l ih => simp only [List.cons_append, Rows.uptoBulkAll, ih]; omega

theorem bulk_one {H : Type} (d : DataW H) : 1 ≤ Rows.uptoBulk d := by
  cases d with
  | lit l => cases l <;> simp [Rows.uptoBulk]
  | _ => simp [Rows.uptoBulk]

theorem bulk_length {H : Type} (l : List (DataW H)) : l.length ≤ Rows.uptoBulkAll l := by
  induction l with
  | nil => simp [Rows.uptoBulkAll]
  | cons x r ih => have := bulk_one x; simp only [Rows.uptoBulkAll, List.length_cons]; omega

theorem spot_none {w : World} {a : Addr} {v : Value} (h : w.cell? a = some v) : a = ⟨a.block, a.off, none⟩ := by
  obtain ⟨b, o, s⟩ := a
  unfold World.cell? at h
  split at h
  · cases s with
    | none => rfl
    | some s => simp at h
  · cases h

theorem add_none {b o i : Nat} : (⟨b, o, none⟩ : Addr).add i = ⟨b, o + i, none⟩ := add_eq b o i

section
variable {H : Type} {enc : TypeId × Value → H} {P : Program} {w : World} {base : Nat} {spare : Nat → Bool} {held : Bool}

theorem arg_bytes {t e : TypeId} {fuel : Nat} {a : Option Addr} {len cap : Nat} {x : DataW H × List MemPlace} (ht : P.underlying t = some (.slice e)) (he : P.underlying e = some (.int .u8)) (hc : P.cellsOf e = 1)
    (h : DataW.trod enc P w base spare held fuel t [.slice a len cap] = some x) : ∃ l, Bytes w.heap ⟨a, len, cap⟩ l ∧ l.length + 1 ≤ Rows.uptoBulk x.1 := by
  rcases open_ints ht he hc h with ⟨hcs, rfl⟩ | ⟨a', len', cap', zs, hcs, _, hl, hm, hz, rfl, hcell, hwf⟩
  · simp at hcs
    obtain ⟨rfl, rfl, rfl⟩ := hcs
    exact ⟨[], Row.nil _ 1, by simp [Rows.uptoBulk]⟩
  · simp at hcs
    obtain ⟨rfl, rfl, rfl⟩ := hcs
    have hlen : len ≤ zs.length := by rw [hz]; split <;> omega
    have hb : ∀ n ∈ zs, Value.int .u8 n = bv (UInt8.ofNat n.toNat) := by
      intro n hn
      have : 0 ≤ n ∧ n ≤ 255 := by simpa [Lit.wf, IntKind.min, IntKind.max, IntKind.signed, IntKind.bits] using hwf n hn
      unfold bv
      simp
      omega
    have hbig : cap < 9223372036854775808 := maxLen_lt hm
    refine ⟨(zs.take len).map fun n => UInt8.ofNat n.toNat, ⟨by simp; omega, hl, hbig, ?_⟩, ?_⟩
    · rcases Nat.eq_zero_or_pos len with h0 | h0
      · exact .inl h0
      · right
        have hc0 := hcell 0 (by omega)
        have hsp : a' = ⟨a'.block, a'.off, none⟩ := by
          have e0 : a'.add 0 = a' := rfl
          rw [e0] at hc0
          exact spot_none hc0
        refine ⟨a'.block, a'.off, by rw [← hsp], has_of fun i v hv => ?_⟩
        simp only [List.map_map, List.getElem?_map, Option.map_eq_some_iff] at hv
        obtain ⟨n, hn, rfl⟩ := hv
        rw [List.getElem?_take] at hn
        split at hn
        · have hi : i < zs.length := by omega
          have := hcell i hi
          rw [hsp, add_none, cell_eq] at this
          rw [this]
          simp only [Function.comp]
          rw [← hb n (List.mem_of_getElem? hn)]
          rw [List.getD, hn]
          rfl
        · cases hn
    · simp only [Rows.uptoBulk, List.length_map, List.length_take]
      have h1 := bulk_length (H := H) (lits .u8 (zs.take len))
      have h2 : (lits (H := H) .u8 (zs.take len)).length = min len zs.length := by simp [lits]
      omega

/-- rows of bytes that came in -/
structure RowsB (h : Heap) (s : Sl) (ll : List (List UInt8)) : Prop where
  rows : ∃ ss : List Sl, Row h s 1 (ss.map slV) ∧ ss.length = ll.length ∧ ∀ (i : Nat) (x : Sl) (l : List UInt8), ss[i]? = some x → ll[i]? = some l → Bytes h x l

theorem RowsB.len {h : Heap} {s : Sl} {ll : List (List UInt8)} (hr : RowsB h s ll) : s.len = ll.length := by
  obtain ⟨ss, h1, h2, _⟩ := hr.rows
  have := h1.len
  simp at this
  omega

theorem RowsB.ext {h h' : Heap} {s : Sl} {ll : List (List UInt8)} (hr : RowsB h s ll) (he : Ext h h') : RowsB h' s ll := by
  obtain ⟨ss, h1, h2, h3⟩ := hr.rows
  exact ⟨ss, h1.ext he, h2, fun i x l hx hl => (h3 i x l hx hl).ext he⟩

theorem RowsB.idx {h : Heap} {s : Sl} {ll : List (List UInt8)} (hr : RowsB h s ll) {i : Int} {n : Nat} (hi : i = n) {l : List UInt8} (hl : ll[n]? = some l) {K : Sl → Prop} (hk : ∀ x, Bytes h x l → K x) :
    idxA s.ptr s.len i 1 fun b o => ldL h b o K := by
  obtain ⟨ss, h1, h2, h3⟩ := hr.rows
  have hlt : n < ss.length := by
    rw [h2]
    rcases Nat.lt_or_ge n ll.length with h | h
    · exact h
    · rw [List.getElem?_eq_none h] at hl; cases hl
  have hx : ss[n]? = some ss[n] := List.getElem?_eq_getElem hlt
  refine Row.idx h1 hi (v := slV ss[n]) (by simp [hx]) fun b o _ hc => ⟨ss[n], hc, hk _ (h3 n _ l hx hl)⟩

def total (ll : List (List UInt8)) : Nat := (ll.map fun l => l.length + 1).sum

theorem total_append (a b : List (List UInt8)) : total (a ++ b) = total a + total b := by simp [total]
theorem total_take (ll : List (List UInt8)) (k : Nat) : total (ll.take k) ≤ total ll := by
  have : total ll = total (ll.take k) + total (ll.drop k) := by rw [← total_append, List.take_append_drop]
  omega

theorem bulkAll_map {H : Type} (D : Nat → DataW H) (f : Nat → Nat) : ∀ (l : List Nat), (∀ i ∈ l, f i ≤ Rows.uptoBulk (D i)) → (l.map f).sum ≤ Rows.uptoBulkAll (l.map D)
  | [], _ => by simp [Rows.uptoBulkAll]
  | i :: l, h => by
    have h1 := h i (by simp)
    have h2 := bulkAll_map D f l fun j hj => h j (by simp [hj])
    simp only [List.map_cons, List.sum_cons, Rows.uptoBulkAll]
    omega

theorem arg_rows {t e u : TypeId} {fuel : Nat} {a : Option Addr} {len cap : Nat} {x : DataW H × List MemPlace} (ht : P.underlying t = some (.slice e)) (hce : P.cellsOf e = 1) (he : P.underlying e = some (.slice u)) (hu : P.underlying u = some (.int .u8)) (hc : P.cellsOf u = 1)
    (h : DataW.trod enc P w base spare held fuel t [.slice a len cap] = some x) : ∃ ll, RowsB w.heap ⟨a, len, cap⟩ ll ∧ total ll + 1 ≤ Rows.uptoBulk x.1 := by
  rcases Deep.open_slice1 ht hce h with ⟨hcs, rfl⟩ | ⟨a', len', cap', m, n, V, D, Pl, hcs, _, hl, hm, hmm, rfl, hx⟩
  · simp at hcs
    obtain ⟨rfl, rfl, rfl⟩ := hcs
    exact ⟨[], ⟨[], Row.nil _ 1, rfl, by simp⟩, by simp [total, Rows.uptoBulk]⟩
  · simp at hcs
    obtain ⟨rfl, rfl, rfl⟩ := hcs
    have hlen : len ≤ m := by rw [hmm]; split <;> omega
    have hbig : cap < 9223372036854775808 := maxLen_lt hm
    have each : ∀ i, i < len → ∃ sl : Sl × List UInt8, V i = slV sl.1 ∧ Bytes w.heap sl.1 sl.2 ∧ sl.2.length + 1 ≤ Rows.uptoBulk (D i) := by
      intro i hi
      obtain ⟨_, h2⟩ := hx i (by omega)
      rcases DataW.trod_slice he h2 with ⟨hv, _⟩ | ⟨a2, len2, cap2, _, _, _, _, hv, _⟩
      · simp at hv
        rw [hv] at h2
        obtain ⟨l, hl1, hl2⟩ := arg_bytes he hu hc h2
        exact ⟨(⟨none, 0, 0⟩, l), hv, hl1, hl2⟩
      · simp at hv
        rw [hv] at h2
        obtain ⟨l, hl1, hl2⟩ := arg_bytes he hu hc h2
        exact ⟨(⟨some a2, len2, cap2⟩, l), hv, hl1, hl2⟩
    haveI : Inhabited Sl := ⟨⟨none, 0, 0⟩⟩
    obtain ⟨f, hf⟩ := Deep.choose_lt each
    refine ⟨(List.range len).map fun i => (f i).2, ⟨(List.range len).map fun i => (f i).1, ⟨by simp, hl, hbig, ?_⟩, by simp, ?_⟩, ?_⟩
    · rcases Nat.eq_zero_or_pos len with h0 | h0
      · exact .inl h0
      · right
        have hc0 := (hx 0 (by omega)).1
        have hsp : a' = ⟨a'.block, a'.off, none⟩ := by
          have e0 : a'.add 0 = a' := rfl
          rw [e0] at hc0
          exact spot_none hc0
        refine ⟨a'.block, a'.off, by rw [← hsp], has_of fun i v hv => ?_⟩
        simp only [List.map_map, List.getElem?_map, Option.map_eq_some_iff] at hv
        obtain ⟨j, hj, rfl⟩ := hv
        obtain ⟨rfl, hlt⟩ := range_get hj
        have := (hx i (by omega)).1
        rw [hsp, add_none, cell_eq] at this
        rw [this]
        simp only [Function.comp]
        rw [(hf i (by omega)).1]
    · intro i y l hy hl'
      simp only [List.getElem?_map, Option.map_eq_some_iff] at hy hl'
      obtain ⟨j, hj, rfl⟩ := hy
      obtain ⟨j', hj', rfl⟩ := hl'
      rw [hj] at hj'
      cases hj'
      obtain ⟨rfl, hlt⟩ := range_get hj
      exact (hf i hlt).2.1
    · have h1 := bulkAll_map D (fun i => (f i).2.length + 1) (List.range len) fun i hi => (hf i (by simpa using hi)).2.2
      simp only [Rows.uptoBulk, total, List.map_map]
      simp only [Function.comp_def]
      omega

end
end Go.Proofs.Ytledmkhbaacdnaa
