/- Why a reading is right: each operation, whole. -/
import Derived.Test.YtledmkhbaacdnaaFwF
namespace Go.Fw
open Go

theorem run_newRow (P : Program) (w : World) (t : TypeId) (cs : Array Value) : (newRow t cs).run P w = .ok ⟨w.heap.size, 0, none⟩ { w with heap := w.heap.push (.cells cs t) } := by
  unfold newRow
  simp

theorem run_alloc (P : Program) (w : World) (t : TypeId) (v : Value) {i : TypeInfo} (hi : P.info? t = some i) (hv : i.zero = some v) :
    (Instr.alloc t true (.tuple #[])).run P w = .ok (.pointer (some ⟨w.heap.size, 0, none⟩)) { w with heap := w.heap.push (.cells v.cells t) } := by
  unfold Instr.alloc newVar
  simp [run_zeroValue P w t hi hv, run_newRow]

theorem run_box (P : Program) (w : World) (t : TypeId) (v : Value) :
    (Instr.box t v).run P w = .ok (.pointer (some ⟨w.heap.size, 0, none⟩)) { w with heap := w.heap.push (.cells v.cells t) } := by
  unfold Instr.box newVar
  simp [run_newRow]

theorem mapM_places (P : Program) (w : World) : ∀ (l : List Field) , (∀ f ∈ l, ∃ i, P.info? f.type = some i) →
    (l.mapM fun f => (do pure (f.offset, ← sizeOf f.type) : Sem (Nat × Nat))).run P w = .ok (l.map fun f => (f.offset, P.cellsOf f.type)) w
  | [], _ => by simp
  | f :: l, h => by
    obtain ⟨i, hi⟩ := h f (by simp)
    have ih := mapM_places P w l (fun g hg => h g (by simp [hg]))
    rw [List.mapM_cons]
    simp only [Sem.run_bind, run_sizeOf P w f.type hi, Result.andThen_ok, Sem.run_pure, ih, List.map_cons, cellsOf_eq P hi]


theorem run_build_struct (P : Program) (w : World) (t : TypeId) {fs : Array Field} {zs : List Value} {ps : List (Nat × Value)} {l : List (Nat × List Value)}
    (hu : P.underlying t = some (.struct fs)) (hz : zeroL P t = some zs) (hall : (fs.toList.all fun f => (P.info? f.type).isSome) = true)
    (hf : Fits (fun i => (fs.toList[i]?).map fun f => (f.offset, P.cellsOf f.type)) zs.length ps l) :
    (Instr.build t ps.toArray).run P w = .ok (.agg (overlay zs l).toArray) w := by
  obtain ⟨i, v, hi, hv, rfl⟩ := zeroL_spec hz
  unfold Instr.build
  simp only [Sem.run_bind, run_zeroValue P w t hi hv, Result.andThen_ok, run_underlying P w t hu]
  rw [Array.mapM_eq_mapM_toList]
  simp only [Sem.run_map, mapM_places P w fs.toList (fun f hf => by
    have := List.all_eq_true.1 hall f hf
    exact Option.isSome_iff_exists.1 this), Result.andThen_ok]
  have := fill_overlay (fun (x : Nat) => ((fs.toList.map fun (f : Field) => (f.offset, P.cellsOf f.type)).toArray)[x]?) v.cells.toList.length ps l v.cells (by simp) (by
    have e : (fun (x : Nat) => ((fs.toList.map fun (f : Field) => (f.offset, P.cellsOf f.type)).toArray)[x]?) = (fun (i : Nat) => (fs.toList[i]?).map fun (f : Field) => (f.offset, P.cellsOf f.type)) := by
      funext x
      simp
    rw [e]; exact hf)
  simp only [this]
  rfl

theorem run_build_array (P : Program) (w : World) (t : TypeId) {n : Nat} {el : TypeId} {zs : List Value} {ps : List (Nat × Value)} {l : List (Nat × List Value)} {j : TypeInfo}
    (hu : P.underlying t = some (.array n el)) (hz : zeroL P t = some zs) (hj : P.info? el = some j)
    (hf : Fits (fun i => some (i * P.cellsOf el, P.cellsOf el)) zs.length ps l) :
    (Instr.build t ps.toArray).run P w = .ok (.agg (overlay zs l).toArray) w := by
  obtain ⟨i, v, hi, hv, rfl⟩ := zeroL_spec hz
  unfold Instr.build
  simp only [Sem.run_bind, run_zeroValue P w t hi hv, Result.andThen_ok, run_underlying P w t hu, run_sizeOf P w el hj]
  have := fill_overlay (fun i => some (i * j.size, j.size)) v.cells.toList.length ps l v.cells (by simp) (by rw [cellsOf_eq P hj] at hf; exact hf)
  simp only [this]
  rfl

theorem run_buildSlice (P : Program) (w : World) (t : TypeId) {n : Nat} {el : TypeId} {zs : List Value} {ps : List (Nat × Value)} {l : List (Nat × List Value)}
    (hu : P.underlying t = some (.slice el)) (hz : zeroL P el = some zs) (hs : zs.length = P.cellsOf el) (hle : n * P.cellsOf el ≤ cellsMost)
    (hf : Fits (fun i => some (i * P.cellsOf el, P.cellsOf el)) (n * P.cellsOf el) ps l) :
    (Instr.buildSlice t n ps.toArray).run P w = .ok (.slice (some ⟨w.heap.size, 0, none⟩) n n) { w with heap := w.heap.push (.cells (overlay (zerosL zs n) l).toArray el) } := by
  obtain ⟨i, v, hi, hv, rfl⟩ := zeroL_spec hz
  have hsz := cellsOf_eq P hi
  unfold Instr.buildSlice
  simp only [Sem.run_bind, run_underlying P w t hu, Result.andThen_ok, run_sizeOf P w el hi]
  rw [hsz] at hs hle hf
  have h24 : ¬ (n * i.size > 2 ^ 24) := by
    have : (2 : Nat) ^ 24 = cellsMost := by unfold cellsMost; decide
    omega
  have hlen : v.cells.size = i.size := by simpa using hs
  have fin : ∀ z : Array Value, ((Array.range (n * i.size)).map (fun x => z[x % z.size]!)).toList = zerosL v.cells.toList n →
      Instr.fill (fun j => some (j * i.size, i.size)) ((Array.range (n * i.size)).map (fun x => z[x % z.size]!)) ps = some (overlay (zerosL v.cells.toList n) l).toArray := by
    intro z hz'
    have := fill_overlay (fun j => some (j * i.size, i.size)) (n * i.size) ps l ((Array.range (n * i.size)).map (fun x => z[x % z.size]!)) (by simp) hf
    rw [hz'] at this
    exact this
  simp only [if_neg h24]
  by_cases h : n * i.size = 0
  · rw [if_pos h]
    have hz0 : zerosL v.cells.toList n = [] := List.eq_nil_of_length_eq_zero (by rw [zerosL_length]; simpa [hlen] using h)
    simp only [Sem.run_bind, Sem.run_pure, Result.andThen_ok]
    rw [fin #[] (by rw [hz0]; simp [h])]
    simp only [Sem.run_bind, run_newRow, Result.andThen_ok, Sem.run_pure]
  · rw [if_neg h]
    simp only [Sem.run_bind, run_zeroValue P w el hi hv, Sem.run_pure, Result.andThen_ok]
    rw [fin v.cells (zeros_range v.cells n _ (by rw [hlen]))]
    simp only [Sem.run_bind, run_newRow, Result.andThen_ok, Sem.run_pure]

/-! ### addresses, indexes, slices -/
theorem run_loadAt {P : Program} {w : World} {t : TypeId} {b o : Nat} {v : Value} (h : (loadVar t ⟨b, o, none⟩).run P w = .ok v w) :
    (Instr.loadAt t (.pointer (some ⟨b, o, none⟩))).run P w = .ok v w := by
  unfold Instr.loadAt Instr.sureAddr
  simp [h]

theorem run_storeAt {P : Program} {w w' : World} {t : TypeId} {b o : Nat} {v : Value} (h : (storeVar t ⟨b, o, none⟩ v).run P w = .ok () w') :
    (Instr.storeAt t (.pointer (some ⟨b, o, none⟩)) v).run P w = .ok () w' := by
  unfold Instr.storeAt Instr.sureAddr
  simp [h]

theorem run_fieldAt {P : Program} {w : World} {s : TypeId} {b o f : Nat} {fs : Array Field} {fd : Field} (hu : P.underlying s = some (.struct fs)) (hf : fs.toList[f]? = some fd)
    (hn : P.cellsOf fd.type ≠ 0) : (Instr.fieldAt s (.pointer (some ⟨b, o, none⟩)) f).run P w = .ok (.pointer (some ⟨b, o + fd.offset, none⟩)) w := by
  unfold Instr.fieldAt Instr.sureAddr fieldPlace
  cases hi : P.info? fd.type with
  | none => unfold Program.cellsOf at hn; simp [hi] at hn
  | some i =>
    have hf' : fs[f]? = some fd := by simpa using hf
    have h0 : i.size ≠ 0 := by rw [← cellsOf_eq P hi]; exact hn
    simp only [Sem.run_bind, run_underlying P w s hu, Result.andThen_ok, hf', Sem.run_pure, run_sizeOf P w _ hi, if_neg h0, add_eq]

theorem run_indexAt_slice {P : Program} {w : World} {t el : TypeId} {b o l m size : Nat} {k : IntKind} {i : Int} {inf : TypeInfo} (hu : P.underlying t = some (.slice el)) (hi : P.info? el = some inf) (hs : inf.size = size)
    (h0 : 0 ≤ i) (h1 : i < l) : (Instr.indexAt t (.slice (some ⟨b, o, none⟩) l m) (.int k i)).run P w = .ok (.pointer (some ⟨b, o + i.toNat * size, none⟩)) w := by
  unfold Instr.indexAt asIntOf
  simp only [Sem.run_bind, Sem.run_pure, Result.andThen_ok, run_underlying P w t hu]
  simp [h0, h1, run_sizeOf P w el hi, hs, add_eq]

theorem run_indexAt_array {P : Program} {w : World} {t el : TypeId} {b o n size : Nat} {k : IntKind} {i : Int} {inf : TypeInfo} (hu : P.underlying t = some (.array n el)) (hi : P.info? el = some inf) (hs : inf.size = size)
    (h0 : 0 ≤ i) (h1 : i < n) : (Instr.indexAt t (.pointer (some ⟨b, o, none⟩)) (.int k i)).run P w = .ok (.pointer (some ⟨b, o + i.toNat * size, none⟩)) w := by
  unfold Instr.indexAt asIntOf Instr.sureAddr
  simp only [Sem.run_bind, Sem.run_pure, Result.andThen_ok, run_underlying P w t hu]
  simp [h0, h1, run_sizeOf P w el hi, hs, add_eq]

theorem run_index_string {P : Program} {w : World} {t : TypeId} {s : ByteArray} {k : IntKind} {i : Int} {x : UInt8} (hu : P.underlying t = some .string) (h0 : 0 ≤ i) (hx : s[i.toNat]? = some x) :
    (Instr.index t (.string s) (.int k i)).run P w = .ok (.int .u8 x.toNat) w := by
  unfold Instr.index asIntOf
  simp only [Sem.run_bind, Sem.run_pure, Result.andThen_ok, run_underlying P w t hu, if_pos h0, hx]

theorem run_field_one {P : Program} {w : World} {s : TypeId} {cs : Array Value} {f : Nat} {fs : Array Field} {fd : Field} {v : Value} {d : TypeDesc} (hu : P.underlying s = some (.struct fs)) (hf : fs.toList[f]? = some fd)
    (hd : P.underlying fd.type = some d) (ha : isAggD (some d) = false) (hv : cs.toList[fd.offset]? = some v) : (Instr.field s (.agg cs) f).run P w = .ok v w := by
  unfold Instr.field part asAgg
  have hf' : fs[f]? = some fd := by simpa using hf
  have hv' : cs[fd.offset]? = some v := by simpa using hv
  simp [run_underlying P w s hu, hf', run_isAgg P w _ hd, ha, hv']

theorem run_field_agg {P : Program} {w : World} {s : TypeId} {cs : Array Value} {f : Nat} {fs : Array Field} {fd : Field} {d : TypeDesc} {inf : TypeInfo} (hu : P.underlying s = some (.struct fs)) (hf : fs.toList[f]? = some fd)
    (hd : P.underlying fd.type = some d) (ha : isAggD (some d) = true) (hi : P.info? fd.type = some inf) :
    (Instr.field s (.agg cs) f).run P w = .ok (.agg ((cs.toList.drop fd.offset).take inf.size).toArray) w := by
  unfold Instr.field part asAgg
  have hf' : fs[f]? = some fd := by simpa using hf
  simp only [Sem.run_bind, run_underlying P w s hu, Result.andThen_ok, hf', Sem.run_pure, run_isAgg P w _ hd, ha, if_true, run_sizeOf P w _ hi]
  congr 2
  apply Array.ext'
  simp [List.extract_eq_take_drop]

end Go.Fw
