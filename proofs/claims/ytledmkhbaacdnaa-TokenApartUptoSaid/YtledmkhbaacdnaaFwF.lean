/- Why a reading is right: each operation. -/
import Derived.Test.YtledmkhbaacdnaaFwE
namespace Go.Fw
open Go

def Fits (place : Nat → Option (Nat × Nat)) (n : Nat) : List (Nat × Value) → List (Nat × List Value) → Prop
  | [], [] => True
  | p :: ps, q :: l => place p.1 = some (q.1, q.2.length) ∧ p.2.cells.toList = q.2 ∧ q.1 + q.2.length ≤ n ∧ Fits place n ps l
  | _, _ => False

theorem fill_overlay (place : Nat → Option (Nat × Nat)) (n : Nat) : ∀ (ps : List (Nat × Value)) (l : List (Nat × List Value)) (cs : Array Value),
    cs.size = n → Fits place n ps l → Instr.fill place cs ps = some (overlay cs.toList l).toArray
  | [], [], cs, _, _ => by simp [Instr.fill, overlay]
  | [], _ :: _, cs, _, h => h.elim
  | _ :: _, [], cs, _, h => h.elim
  | (i, v) :: ps, (o, vs) :: l, cs, hn, h => by
    obtain ⟨hp, hv, hle, h2⟩ := h
    simp only at hp hv hle
    have hlen : v.cells.size = vs.length := by rw [← hv]; simp
    have hfold : (v.cells.zipIdx.foldl (fun cs x => match x with | (c, j) => cs.setIfInBounds (o + j) c) cs).toList = cs.toList.take o ++ vs ++ cs.toList.drop (o + vs.length) := by
      rw [← Array.foldl_toList, Array.toList_zipIdx, hv]
      have := foldl_set o vs 0 cs (by omega)
      simpa using this
    have hsz : (v.cells.zipIdx.foldl (fun cs x => match x with | (c, j) => cs.setIfInBounds (o + j) c) cs).size = n := by
      rw [← Array.length_toList, hfold]
      simp
      omega
    have ih := fill_overlay place n ps l _ hsz h2
    rw [hfold] at ih
    have hno : ¬ (o + vs.length > cs.size) := by omega
    simp only [Instr.fill, hp, hlen, ne_eq, not_true, decide_false, Bool.false_or, hno, overlay]
    exact ih

theorem cellsV_eq (v : EV) : v.v.cells.toList = cellsV v := by
  cases v with
  | val v => cases v <;> rfl
  | lit b => rfl
  | adr b o => rfl
  | itr t b => rfl
  | more k v => rfl
  | over => rfl

theorem cells_toArray (v : EV) : v.v.cells = (cellsV v).toArray := by
  rw [← cellsV_eq]

section
variable {c : Cfg} {e : Env} {a : Act} {n : Nat}

theorem one_cells {u : Value} (h : oneCell u = true) : u.cells.toList = [u] := by
  cases u <;> first | rfl | cases h
theorem cellsF_eq {d : Option TypeDesc} {v : EV} (h : isVD d = true → oneCell v.v = true) : v.v.cells.toList = cellsF d v := by
  unfold cellsF
  cases hb : isVD d with
  | true => exact one_cells (h hb)
  | false => exact cellsV_eq v
theorem needL_spec : ∀ {l : List Value} {K : Prop}, needL l K → (∀ u, u ∈ l → oneCell u = true) ∧ K
  | [], _, h => ⟨fun _ h9 => (by cases h9), h⟩
  | v :: vs, K, h => by
    obtain ⟨h1, h2⟩ := needL_spec h.2
    refine ⟨fun u hu => ?_, h2⟩
    rcases List.mem_cons.1 hu with rfl | hu
    · exact h.1
    · exact h1 u hu
theorem placesS_fits (P : Program) (fs : List Field) (hag : Agr n e a) (k : Nat) : ∀ {ps : List (Nat × Operand)} {l : List (Nat × List Value)}, placesS P fs e k ps = some l → (∀ u, u ∈ vOnes P fs e ps → oneCell u = true) →
    Fits (fun i => (fs[i]?).map fun f => (f.offset, P.cellsOf f.type)) k (ps.map fun x => (x.1, a.eval x.2)) l
  | [], l, h, _ => by simp only [placesS, Option.some.injEq] at h; subst h; exact trivial
  | (i, x) :: r, l, h, hone => by
    simp only [placesS] at h
    split at h
    · rename_i f v l' hf hv hl
      have hone1 : isVD (P.underlying f.type) = true → oneCell v.v = true := fun hb => hone _ (by unfold vOnes; rw [hf, hv]; simp [hb])
      have hone2 : ∀ u, u ∈ vOnes P fs e r → oneCell u = true := fun u hu => hone u (by
        unfold vOnes
        rw [hf, hv]
        dsimp only
        cases isVD (P.underlying f.type) with
        | true => exact List.mem_cons_of_mem _ hu
        | false => exact hu)
      cases h1 : Nat.beq (cellsF (P.underlying f.type) v).length (P.cellsOf f.type) with
      | false => rw [h1] at h; cases h
      | true =>
        rw [h1] at h
        simp only [cond_true] at h
        cases h2 : Nat.ble (f.offset + (cellsF (P.underlying f.type) v).length) k with
        | false => rw [h2] at h; cases h
        | true =>
          rw [h2] at h
          simp only [cond_true, Option.some.injEq] at h
          subst h
          refine ⟨?_, ?_, Nat.le_of_ble_eq_true h2, placesS_fits P fs hag k hl hone2⟩
          · simp [hf, Nat.eq_of_beq_eq_true h1]
          · simp only [hag.ev hv, cellsF_eq hone1]
    · cases h

theorem placesA_fits (size : Nat) (hag : Agr n e a) (k : Nat) : ∀ {ps : List (Nat × Operand)} {l : List (Nat × List Value)}, placesA size e k ps = some l →
    Fits (fun i => some (i * size, size)) k (ps.map fun x => (x.1, a.eval x.2)) l
  | [], l, h => by simp only [placesA, Option.some.injEq] at h; subst h; exact trivial
  | (i, x) :: r, l, h => by
    simp only [placesA] at h
    split at h
    · rename_i v l' hv hl
      cases h1 : Nat.beq (cellsV v).length size with
      | false => rw [h1] at h; cases h
      | true =>
        rw [h1] at h
        simp only [cond_true] at h
        cases h2 : Nat.ble (i * size + (cellsV v).length) k with
        | false => rw [h2] at h; cases h
        | true =>
          rw [h2] at h
          simp only [cond_true, Option.some.injEq] at h
          subst h
          refine ⟨?_, ?_, Nat.le_of_ble_eq_true h2, placesA_fits size hag k hl⟩
          · simp [Nat.eq_of_beq_eq_true h1]
          · simp only [hag.ev hv, cellsV_eq]
    · cases h

theorem atP_spec {x : EV} {K : Nat → Nat → Prop} (h : atP x K) : ∃ b o, x.v = .pointer (some ⟨b, o, none⟩) ∧ K b o := by
  unfold atP at h
  split at h
  · exact ⟨_, _, rfl, h⟩
  · obtain ⟨b, o, rfl, h⟩ := h; exact ⟨b, o, rfl, h⟩
  · exact h.elim

theorem zeroL_spec {P : Program} {t : TypeId} {zs : List Value} (h : zeroL P t = some zs) : ∃ i v, P.info? t = some i ∧ i.zero = some v ∧ v.cells.toList = zs := by
  unfold zeroL at h
  split at h
  · rename_i i hi
    split at h
    · rename_i v hv
      simp only [Option.some.injEq] at h
      exact ⟨i, v, hi, hv, h⟩
    · cases h
  · cases h

theorem sizeL_spec {P : Program} {t : TypeId} {s b : Nat} (h : sizeL P t = some (s, b)) : ∃ i, P.info? t = some i ∧ i.size = s ∧ i.bytes = b := by
  unfold sizeL at h
  split at h
  · rename_i i hi
    simp only [Option.some.injEq, Prod.mk.injEq] at h
    exact ⟨i, hi, h.1, h.2⟩
  · cases h

theorem stT_spec {P : Program} {t : TypeId} {b o : Nat} {v : EV} {K : Heap → Prop} {w : World} (h : stT P t w.heap b o v K) :
    ∃ h', (storeVar t ⟨b, o, none⟩ v.v).run P w = .ok () { w with heap := h' } ∧ K h' := by
  have key : ∀ (i : TypeInfo) (vs : List Value), P.info? t = some i → i.size = vs.length → v.v.cells = vs.toArray → Heap.free w.heap b o vs.length → vs.all oneCell = true →
      (storeVar t ⟨b, o, none⟩ v.v).run P w = .ok () { w with heap := Heap.puts w.heap b o vs } := by
    intro i vs hi hs hc hf ha
    unfold storeVar
    simp only [Sem.run_bind, run_sizeOf P w t hi, Result.andThen_ok, hc, hs, List.size_toArray, ne_eq, not_true, if_false]
    have := run_storeCells P b o vs 0 w (by simpa using hf) ha
    simpa using this
  have one : isAggD (P.underlying t) = false → Nat.beq (P.cellsOf t) 1 = true → (∀ cs, v.v ≠ .agg cs) → st w.heap b o v.v K →
      ∃ h', (storeVar t ⟨b, o, none⟩ v.v).run P w = .ok () { w with heap := h' } ∧ K h' := by
    intro hA h1 hne hst
    obtain ⟨⟨u, hu⟩, hf, hone, hk⟩ := hst
    have hsz := Nat.eq_of_beq_eq_true h1
    cases hi : P.info? t with
    | none => unfold Program.cellsOf at hsz; simp [hi] at hsz
    | some i =>
      rw [cellsOf_eq P hi] at hsz
      refine ⟨_, key i [v.v] hi (by simp [hsz]) ?_ ⟨⟨⟨u, hu⟩, hf⟩, trivial⟩ (by simp [hone]), hk⟩
      cases hv : v.v <;> first | rfl | exact absurd hv (hne _)
  unfold stT at h
  split at h
  · rename_i cs
    cases hA : isAggD (P.underlying t) with
    | false => rw [hA] at h; exact h.elim
    | true =>
      rw [hA] at h
      simp only [cond_true] at h
      cases h1 : Nat.beq cs.toList.length (P.cellsOf t) with
      | false => rw [h1] at h; exact h.elim
      | true =>
        rw [h1] at h
        obtain ⟨hf, ha, hk⟩ := h
        have hsz := Nat.eq_of_beq_eq_true h1
        cases hi : P.info? t with
        | none =>
          unfold Program.underlying at hA
          simp [hi, isAggD] at hA
        | some i =>
          rw [cellsOf_eq P hi] at hsz
          exact ⟨_, key i cs.toList hi hsz.symm rfl hf ha, hk⟩
  · rename_i v' hne
    cases hA : isAggD (P.underlying t) with
    | true => rw [hA] at h; exact h.elim
    | false =>
      rw [hA] at h
      simp only [cond_false] at h
      cases h1 : Nat.beq (P.cellsOf t) 1 with
      | false => rw [h1] at h; exact h.elim
      | true =>
        rw [h1] at h
        refine one hA h1 (fun cs hcs => ?_) h
        cases v with
        | val u => simp only [EV.v] at hcs; subst hcs; exact hne cs rfl
        | lit b => cases hcs
        | adr b o => cases hcs
        | itr t b => cases hcs
        | more k v => cases hcs
        | over => cases hcs

theorem zerosL_length (zs : List Value) (n : Nat) : (zerosL zs n).length = n * zs.length := by
  simp [zerosL]

theorem flatten_get (zs : List Value) : ∀ (n i : Nat), i < n * zs.length → (zerosL zs n)[i]? = zs[i % zs.length]?
  | 0, i, h => by omega
  | n + 1, i, h => by
    unfold zerosL
    rw [List.replicate_succ, List.flatten_cons]
    rcases Nat.lt_or_ge i zs.length with hi | hi
    · rw [List.getElem?_append_left hi, Nat.mod_eq_of_lt hi]
    · rw [List.getElem?_append_right hi]
      have := flatten_get zs n (i - zs.length) (by rw [Nat.succ_mul] at h; omega)
      unfold zerosL at this
      rw [this, Nat.mod_eq_sub_mod hi]

theorem zeros_range (zs : Array Value) (n m : Nat) (h : m = n * zs.size) : ((Array.range m).map (zs[· % zs.size]!)).toList = zerosL zs.toList n := by
  subst h
  apply List.ext_getElem?
  intro i
  simp only [Array.toList_map, Array.toList_range, List.getElem?_map]
  rcases Nat.lt_or_ge i (n * zs.size) with hi | hi
  · rw [flatten_get _ _ _ (by simpa using hi)]
    have hpos : 0 < zs.size := by rcases Nat.eq_zero_or_pos zs.size with h0 | h0; · rw [h0] at hi; omega
                                  · exact h0
    have hm : i % zs.size < zs.size := Nat.mod_lt _ hpos
    simp [hi, hm]
  · rw [List.getElem?_eq_none (by simpa using hi)]
    rw [List.getElem?_eq_none (by rw [zerosL_length]; simpa using hi)]
    rfl

end
end Go.Fw
