/- Why a reading is right: the operations. -/
import Derived.Test.YtledmkhbaacdnaaFwC
import Derived.Laws.Sem
import Derived.Laws.World
namespace Go.Fw
open Go

theorem cell_eq (w : World) (b o : Nat) : w.cell? ⟨b, o, none⟩ = Heap.cell w.heap b o := by
  unfold World.cell? Heap.cell
  simp only [Option.isSome_none, Bool.false_eq_true, if_false]
  cases w.heap[b]? with
  | none => rfl
  | some x => cases x <;> rfl

theorem froz_eq (w : World) (b o : Nat) : w.frozen? ⟨b, o, none⟩ = Heap.froz w.heap b o := by
  unfold World.frozen? Heap.froz
  rfl

theorem setCell_eq (w : World) (b o : Nat) (v : Value) : w.setCell ⟨b, o, none⟩ v = { w with heap := Heap.put w.heap b o v } := by
  unfold World.setCell Heap.put
  simp only [Option.isSome_none, Bool.false_eq_true, if_false]
  refine congrArg (fun f => ({ w with heap := w.heap.modify b f } : World)) ?_
  funext x
  cases x <;> rfl

theorem add_eq (b o n : Nat) : (⟨b, o, none⟩ : Addr).add n = ⟨b, o + n, none⟩ := by
  unfold Addr.add
  split
  · rename_i h; subst h; rfl
  · rfl

theorem addO_eq (o i : Nat) : addO o i = o + i := by
  unfold addO
  cases h : Nat.beq i 0 with
  | false => rfl
  | true => have := Nat.eq_of_beq_eq_true h; subst this; rfl

/-- two worlds that differ in memory and draws alone -/
def Same (w w' : World) : Prop := w'.tape = w.tape ∧ w'.os = w.os ∧ w'.output = w.output

theorem Same.refl (w : World) : Same w w := ⟨rfl, rfl, rfl⟩
theorem Same.trans {a b c : World} (h : Same a b) (h' : Same b c) : Same a c := ⟨h'.1.trans h.1, h'.2.1.trans h.2.1, h'.2.2.trans h.2.2⟩

/-- the mark of the block for the rounds' deferred calls -/
def marksOf : Option Nat → List Deferred
  | none => []
  | some D => [{ target := .collected D, args := #[] }]

structure Agr (n : Nat) (e : Env) (a : Act) : Prop where
  size : a.tmps.size = n
  defers : a.defers = marksOf e.mD
  val : ∀ j v, e j = some v → a.tmps[j]? = some v.v

theorem Agr.ev {n : Nat} {e : Env} {a : Act} (h : Agr n e a) {x : Operand} {v : EV} (hx : e.ev x = some v) : a.eval x = v.v := by
  cases x with
  | tmp t => have := h.val t v hx; simp [Act.eval, this]
  | const c =>
    cases c <;> simp only [Env.ev, Option.some.injEq] at hx <;> subst hx <;> rfl
  | global g => simp only [Env.ev, Option.some.injEq] at hx; subst hx; rfl
  | func f => simp only [Env.ev, Option.some.injEq] at hx; subst hx; rfl

theorem Agr.evs {n : Nat} {e : Env} {a : Act} (h : Agr n e a) : ∀ {xs : List Operand} {vs : List EV}, evs e xs = some vs → xs.map a.eval = vs.map EV.v
  | [], vs, hx => by simp only [Fw.evs, Option.some.injEq] at hx; subst hx; rfl
  | x :: xs, vs, hx => by
    simp only [Fw.evs] at hx
    split at hx
    · rename_i v vs' h1 h2
      simp only [Option.some.injEq] at hx; subst hx
      simp [h.ev h1, h.evs h2]
    · cases hx

theorem Agr.set {n : Nat} {e : Env} {a : Act} (h : Agr n e a) {d : Nat} (hd : Nat.blt d n = true) (v : EV) : Agr n (e.set d v) (a.put (some d) v.v) := by
  have hlt : d < n := by rw [Nat.blt_eq] at hd; exact hd
  refine ⟨by simp [Act.put, h.size], by simp [Act.put, h.defers, Env.set], fun j u hj => ?_⟩
  unfold Env.set at hj
  dsimp only at hj
  cases hb : Nat.beq j d with
  | true =>
    have := Nat.eq_of_beq_eq_true hb; subst this
    rw [hb] at hj
    simp only [cond_true, Option.some.injEq] at hj
    subst hj
    simp [Act.put, h.size, hlt]
  | false =>
    have hne : j ≠ d := Nat.ne_of_beq_eq_false hb
    rw [hb] at hj
    simp only [cond_false] at hj
    have := h.val j u hj
    simp [Act.put, Array.getElem?_setIfInBounds_ne (Ne.symm hne), this]

/-- a slot that is known to hold a truth may be told it -/
theorem Agr.tell {n : Nat} {e : Env} {a : Act} (h : Agr n e a) {t : Nat} {b : Bool} (ht : e t = some (.val (.bool b))) : Agr n (e.set t (.lit b)) a := by
  refine ⟨h.size, h.defers, fun j u hj => ?_⟩
  unfold Env.set at hj
  dsimp only at hj
  cases hb : Nat.beq j t with
  | true =>
    have := Nat.eq_of_beq_eq_true hb; subst this
    rw [hb] at hj
    simp only [cond_true, Option.some.injEq] at hj
    subst hj
    have := h.val j _ ht
    exact this
  | false =>
    rw [hb] at hj
    exact h.val j u hj

theorem setD_put {n : Nat} {e : Env} {a : Act} (h : Agr n e a) {d : Option Tmp} {v : EV} {K : Env → Prop} (hk : setD n e d v K) :
    ∃ e', Agr n e' (a.put d v.v) ∧ K e' := by
  unfold setD at hk
  cases d with
  | none => exact ⟨e, h, hk⟩
  | some d =>
    simp only at hk
    cases hb : Nat.blt d n with
    | false => rw [hb] at hk; exact hk.elim
    | true => rw [hb] at hk; exact ⟨_, h.set hb v, hk⟩

/-! ### reading and writing cells -/
section
variable (P : Program) (w : World)

theorem run_load_cell {b o : Nat} {v : Value} (h : Heap.cell w.heap b o = some v) (m : Mode) : (load ⟨b, o, none⟩ m).run P w = .ok v w := by
  rw [run_load, cell_eq, h]

theorem run_store_cell {b o : Nat} {u v : Value} (h : Heap.cell w.heap b o = some u) (hf : Heap.froz w.heap b o = false) (hv : oneCell v = true) (m : Mode) :
    (store ⟨b, o, none⟩ v m).run P w = .ok () { w with heap := Heap.put w.heap b o v } := by
  have hv' : v.oneCell' = true := by cases v <;> first | rfl | (simp [oneCell] at hv)
  rw [run_store P w _ v m hv', cell_eq, h, froz_eq, hf]
  simp only [Bool.false_eq_true, if_false, setCell_eq]

theorem run_underlying (t : TypeId) {d : TypeDesc} (h : P.underlying t = some d) : (underlying t).run P w = .ok d w := by
  unfold underlying
  simp [h]

theorem run_typeInfo (t : TypeId) {i : TypeInfo} (h : P.info? t = some i) : (typeInfo t).run P w = .ok i w := by
  unfold typeInfo
  simp [h]

theorem run_sizeOf (t : TypeId) {i : TypeInfo} (h : P.info? t = some i) : (sizeOf t).run P w = .ok i.size w := by
  unfold sizeOf
  simp [run_typeInfo P w t h]

theorem run_zeroValue (t : TypeId) {i : TypeInfo} {v : Value} (h : P.info? t = some i) (hv : i.zero = some v) : (zeroValue t).run P w = .ok v w := by
  unfold zeroValue
  simp [run_typeInfo P w t h, hv]

theorem info_of_underlying {t : TypeId} {d : TypeDesc} (h : P.underlying t = some d) : ∃ i, P.info? t = some i := by
  unfold Program.underlying at h
  cases hi : P.info? t with
  | none => simp [hi] at h
  | some i => exact ⟨i, rfl⟩

theorem cellsOf_eq {t : TypeId} {i : TypeInfo} (h : P.info? t = some i) : P.cellsOf t = i.size := by
  unfold Program.cellsOf
  simp [h]

theorem run_isAgg (t : TypeId) {d : TypeDesc} (h : P.underlying t = some d) : (isAgg t).run P w = .ok (isAggD (some d)) w := by
  unfold isAgg
  simp only [Sem.run_bind, run_underlying P w t h, Result.andThen_ok]
  cases d <;> rfl

theorem run_loadCellsFrom (b o : Nat) : ∀ (vs : List Value) (i : Nat) (acc : Array Value), Heap.has w.heap b (o + i) vs →
    (loadCellsFrom ⟨b, o, none⟩ i vs.length acc).run P w = .ok (acc ++ vs.toArray) w
  | [], i, acc, _ => by simp [loadCellsFrom]
  | v :: vs, i, acc, h => by
    have h1 : Heap.cell w.heap b (o + i) = some v := h.1
    have h2 : Heap.has w.heap b (o + i + 1) vs := h.2
    simp only [List.length_cons, loadCellsFrom, Sem.run_bind, add_eq, run_load_cell P w h1, Result.andThen_ok]
    rw [run_loadCellsFrom b o vs (i + 1) _ (by rw [← Nat.add_assoc]; exact h2)]
    simp

theorem run_loadCells (b o : Nat) (vs : List Value) (h : Heap.has w.heap b o vs) : (loadCells ⟨b, o, none⟩ vs.length).run P w = .ok vs.toArray w := by
  unfold loadCells
  rw [run_loadCellsFrom P w b o vs 0 #[] (by simpa using h)]
  simp

end

theorem cell_put_ne {h : Heap} {b o b' o' : Nat} {v : Value} (hne : b ≠ b' ∨ o ≠ o') : (h.put b o v).cell b' o' = h.cell b' o' := by
  unfold Heap.put Heap.cell
  simp only [Array.getElem?_modify]
  by_cases hb : b = b'
  · subst hb
    have ho : o ≠ o' := hne.resolve_left (fun h => h rfl)
    simp only [if_true]
    cases hh : h[b]? with
    | none => rfl
    | some x => cases x <;> simp [Array.getElem?_setIfInBounds_ne ho]
  · simp [hb]

theorem froz_put {h : Heap} {b o b' o' : Nat} {v : Value} : (h.put b o v).froz b' o' = h.froz b' o' := by
  unfold Heap.put Heap.froz
  simp only [Array.getElem?_modify]
  by_cases hb : b = b'
  · subst hb
    simp only [if_true]
    cases hh : h[b]? with
    | none => rfl
    | some x => cases x <;> rfl
  · simp [hb]

theorem free_put {h : Heap} {b o : Nat} {v : Value} : ∀ {n o' : Nat}, o < o' → h.free b o' n → (h.put b o v).free b o' n
  | 0, _, _, _ => trivial
  | n + 1, o', hlt, hf => by
    obtain ⟨⟨⟨u, hu⟩, hz⟩, hr⟩ := hf
    exact ⟨⟨⟨u, by rw [cell_put_ne (.inr (by omega))]; exact hu⟩, by rw [froz_put]; exact hz⟩, free_put (by omega) hr⟩

theorem run_storeCells (P : Program) (b o : Nat) : ∀ (vs : List Value) (i : Nat) (w : World), Heap.free w.heap b (o + i) vs.length → vs.all oneCell = true →
    (storeCells ⟨b, o, none⟩ vs i).run P w = .ok () { w with heap := Heap.puts w.heap b (o + i) vs }
  | [], i, w, _, _ => rfl
  | v :: vs, i, w, hf, ha => by
    obtain ⟨⟨⟨u, hu⟩, hz⟩, hr⟩ := hf
    simp only [List.all_cons, Bool.and_eq_true] at ha
    simp only [storeCells, Sem.run_bind, add_eq, run_store_cell P w hu hz ha.1, Result.andThen_ok]
    rw [run_storeCells P b o vs (i + 1) _ (by rw [← Nat.add_assoc]; exact free_put (by omega) hr) ha.2]
    simp [Heap.puts, Nat.add_assoc]

theorem ldLeaf_spec {d : Option TypeDesc} {h : Heap} {b o : Nat} {K : EV → Prop} (hk : ldLeaf d h b o K) :
    ∃ v, h.cell b o = some v.v ∧ K v ∧ isAggD d = false ∧ d.isSome = true := by
  unfold ldLeaf at hk
  cases d with
  | none => exact hk.elim
  | some d =>
    cases d <;> simp only at hk <;> first
      | exact hk.elim
      | (obtain ⟨x, hx, hK⟩ := hk; refine ⟨_, ?_, hK, rfl, rfl⟩; exact hx)

theorem ldAll_spec {h : Heap} {b o : Nat} : ∀ {ds : List (Option TypeDesc)} {i : Nat} {K : List Value → Prop}, ldAll h b o i ds K →
    ∃ vs, vs.length = ds.length ∧ h.has b (o + i) vs ∧ K vs
  | [], i, K, hk => ⟨[], rfl, trivial, hk⟩
  | d :: ds, i, K, hk => by
    obtain ⟨v, hc, hk, _⟩ := ldLeaf_spec hk
    obtain ⟨vs, hl, hh, hk⟩ := ldAll_spec hk
    rw [addO_eq] at hc
    exact ⟨v.v :: vs, by simp [hl], ⟨hc, by rw [Nat.add_assoc]; exact hh⟩, hk⟩

theorem ldT_spec {P : Program} {t : TypeId} {b o : Nat} {K : EV → Prop} {h : Heap} (hk : ldT P t h b o K) :
    ∃ v, (∀ w : World, w.heap = h → (loadVar t ⟨b, o, none⟩).run P w = .ok v.v w) ∧ K v := by
  unfold ldT at hk
  cases hu : P.underlying t with
  | none => rw [hu] at hk; simp [isAggD, ldLeaf] at hk
  | some d =>
    obtain ⟨i, hi⟩ := info_of_underlying P hu
    rw [hu] at hk
    unfold loadVar
    cases ha : isAggD (some d) with
    | true =>
      rw [ha] at hk
      simp only [cond_true] at hk
      cases hl : Nat.beq (leavesOf P 8 t).length (P.cellsOf t) with
      | false => rw [hl] at hk; exact hk.elim
      | true =>
        rw [hl] at hk
        obtain ⟨vs, hlen, hh, hk⟩ := ldAll_spec hk
        have hs : i.size = vs.length := by rw [hlen, Nat.eq_of_beq_eq_true hl, cellsOf_eq P hi]
        refine ⟨.val (.agg vs.toArray), fun w hw => ?_, hk⟩
        subst hw
        simp only [Sem.run_bind, run_isAgg P w t hu, ha, Result.andThen_ok, if_true, run_sizeOf P w t hi, hs]
        rw [run_loadCells P w b o vs (by simpa using hh)]
        rfl
    | false =>
      rw [ha] at hk
      obtain ⟨v, hc, hk, _⟩ := ldLeaf_spec hk
      refine ⟨v, fun w hw => ?_, hk⟩
      subst hw
      simp only [Sem.run_bind, run_isAgg P w t hu, ha, Result.andThen_ok, Bool.false_eq_true, if_false]
      exact run_load_cell P w hc _

end Go.Fw
