/- Why a reading is right: the operations, all of them. -/
import Derived.Test.YtledmkhbaacdnaaFwI
import Derived.Laws.StructEq
namespace Go.Fw
open Go

theorem blt_of {b : Bool} {A : Prop} (h : bif b then A else False) : b = true ∧ A := by
  cases b with
  | true => exact ⟨rfl, h⟩
  | false => exact h.elim

theorem run_convert_int {P : Program} {w : World} {s d : TypeId} {k k' j : IntKind} {n : Int} (hs : P.underlying s = some (.int j)) (hd : P.underlying d = some (.int k)) :
    (convert s d (.int k' n)).run P w = .ok (.int k (k.wrap n)) w := by
  unfold convert
  simp only [Sem.run_bind, run_underlying P w s hs, run_underlying P w d hd, Result.andThen_ok]
  rfl

theorem run_convert_string {P : Program} {w : World} {s d : TypeId} {x : ByteArray} (hs : P.underlying s = some .string) (hd : P.underlying d = some .string) :
    (convert s d (.string x)).run P w = .ok (.string x) w := by
  unfold convert
  simp only [Sem.run_bind, run_underlying P w s hs, run_underlying P w d hd, Result.andThen_ok]
  rfl

theorem run_convert_s2b {P : Program} {w : World} {s d e : TypeId} {x : ByteArray} (hs : P.underlying s = some .string) (hd : P.underlying d = some (.slice e)) (he : P.underlying e = some (.int .u8)) :
    (convert s d (.string x)).run P w = (Conv.stringToBytes e x).run P w := by
  unfold convert
  simp only [Sem.run_bind, run_underlying P w s hs, run_underlying P w d hd, run_underlying P w e he, Result.andThen_ok]

theorem run_convert_b2s {P : Program} {w : World} {s d e : TypeId} {p : Option Addr} {l m : Nat} (hs : P.underlying s = some (.slice e)) (hd : P.underlying d = some .string) (he : P.underlying e = some (.int .u8)) :
    (convert s d (.slice p l m)).run P w = (Conv.bytesToString (.slice p l m)).run P w := by
  unfold convert
  simp only [Sem.run_bind, run_underlying P w s hs, run_underlying P w d hd, run_underlying P w e he, Result.andThen_ok]

theorem run_convert_mark {P : Program} {w : World} {s e e' : TypeId} {b o l m : Nat} {c : Array Value} {t : TypeId} (hs : P.underlying s = some (.slice e')) (hd : P.underlying s = some (.slice e)) (he : P.underlying e = some (.int .u8))
    (hb : w.heap[b]? = some (.cells c t (0, 0))) : (convert s s (.slice (some ⟨b, o, none⟩) l m)).run P w = .ok (.slice (some ⟨b, o, none⟩) l m) { w with heap := Heap.frz w.heap b } := by
  unfold convert
  simp only [Sem.run_bind, run_underlying P w s hs, run_underlying P w e' (by rw [hs] at hd; cases hd; exact he), Result.andThen_ok, BEq.rfl]
  unfold markStringish
  have hshape : w.shape? b = some (t, c.size) := by unfold World.shape?; rw [hb]
  simp only [Sem.run_bind, run_shape, hshape, Result.andThen_ok, run_freeze, Sem.run_pure]
  have hfz : World.freeze w { block := b, off := c.size } 1 = { w with heap := Heap.frz w.heap b } := by
    unfold World.freeze Heap.frz
    simp only [Nat.one_ne_zero, if_false]
    refine congrArg (fun h => ({ w with heap := h } : World)) ?_
    apply Array.ext_getElem?
    intro i
    rw [Array.getElem?_modify, Array.getElem?_modify]
    by_cases hi : b = i
    · subst hi
      rw [if_pos rfl, if_pos rfl, hb]
      simp
    · rw [if_neg hi, if_neg hi]
  rw [hfz]

/-- what an operation that is no call of a function comes to -/
def Val (c : Cfg) (o : Oper) (a : Act) (w : World) (K : EV → Heap → Prop) : Prop :=
  ∃ v w', (execOp a.eval o).run c.P w = .ok (.value v.v) w' ∧ Same w w' ∧ K v w'.heap

theorem Val.wp {c : Cfg} {o : Oper} {a : Act} {w : World} {K : EV → Heap → Prop} {next : Act → World → Prop} {Q : Exit → Act → World → Prop}
    (h : Val c o a w K) (hn : ∀ v w', Same w w' → K v w'.heap → next (a.put o.dst v.v) w') : o.wpIn (fen c.rnd) 0 c.P a w next Q :=
  let ⟨v, _, hr, hs, hk⟩ := h
  wp_val hr (hn v _ hs hk)

theorem Val.of {c : Cfg} {o : Oper} {a : Act} {w w' : World} {K : EV → Heap → Prop} {v : EV} {s : Sem Value} (he : execOp a.eval o = (do pure (.value (← s)))) (hr : s.run c.P w = .ok v.v w') (hs : Same w w') (hk : K v w'.heap) :
    Val c o a w K := ⟨v, w', by rw [he]; exact run_v hr, hs, hk⟩

/-- .. that only reads: its value hangs on memory alone, and the world stays -/
def QVal (c : Cfg) (o : Oper) (a : Act) (h : Heap) (K : EV → Heap → Prop) : Prop :=
  ∃ v : EV, (∀ w : World, w.heap = h → (execOp a.eval o).run c.P w = .ok (.value v.v) w) ∧ K v h

/-- .. that looks at nothing but its operands -/
def PVal (c : Cfg) (o : Oper) (a : Act) (h : Heap) (K : EV → Heap → Prop) : Prop :=
  ∃ v : EV, (∀ w : World, True → (execOp a.eval o).run c.P w = .ok (.value v.v) w) ∧ K v h
theorem PVal.q {c : Cfg} {o : Oper} {a : Act} {h : Heap} {K : EV → Heap → Prop} (hp : PVal c o a h K) : QVal c o a h K :=
  let ⟨v, hr, hk⟩ := hp
  ⟨v, fun w _ => hr w trivial, hk⟩
theorem PVal.of {c : Cfg} {o : Oper} {a : Act} {h : Heap} {K : EV → Heap → Prop} {v : EV} {s : Sem Value} (he : execOp a.eval o = (do pure (.value (← s)))) (hr : ∀ w : World, True → s.run c.P w = .ok v.v w) (hk : K v h) :
    PVal c o a h K := ⟨v, fun w hw => by rw [he]; exact run_v (hr w hw), hk⟩

theorem QVal.val {c : Cfg} {o : Oper} {a : Act} {w : World} {K : EV → Heap → Prop} (h : QVal c o a w.heap K) : Val c o a w K :=
  let ⟨v, hr, hk⟩ := h
  ⟨v, w, hr w rfl, Same.refl w, hk⟩

theorem PVal.val {c : Cfg} {o : Oper} {a : Act} {w : World} {K : EV → Heap → Prop} (h : PVal c o a w.heap K) : Val c o a w K := h.q.val

theorem QVal.of {c : Cfg} {o : Oper} {a : Act} {h : Heap} {K : EV → Heap → Prop} {v : EV} {s : Sem Value} (he : execOp a.eval o = (do pure (.value (← s)))) (hr : ∀ w : World, w.heap = h → s.run c.P w = .ok v.v w) (hk : K v h) :
    QVal c o a h K := ⟨v, fun w hw => by rw [he]; exact run_v (hr w hw), hk⟩

section
variable {c : Cfg} {e : Env} {a : Act} {w : World} {h : Heap} {K : EV → Heap → Prop} {dst : Option Tmp} {type : TypeId} {pos : String} {after : Array Edge} {guard : Option (Nat × Bool)}

theorem val_move (hag : Agr c.n e a) {x : Operand} (hk : opP c (.move x) e h K) : PVal c ⟨dst, .move x, type, pos, after, guard⟩ a h K := by
  simp only [opP] at hk
  split at hk
  · rename_i v hv
    exact ⟨v, fun w hw => by simp [execOp, hag.ev hv], hk⟩
  · exact hk.elim

theorem val_assign (hag : Agr c.n e a) {x : Operand} (hk : opP c (.assign x) e h K) : PVal c ⟨dst, .assign x, type, pos, after, guard⟩ a h K := by
  simp only [opP] at hk
  split at hk
  · rename_i k n hv
    exact ⟨.val (.int k n), fun w hw => by simp [execOp, hag.ev hv], hk⟩
  · rename_i b hv
    exact ⟨.val (.bool b), fun w hw => by simp [execOp, hag.ev hv], hk⟩
  · rename_i v _ _ hv
    exact ⟨v, fun w hw => by simp [execOp, hag.ev hv], hk⟩
  · exact hk.elim

theorem val_pick (hag : Agr c.n e a) {x y z : Operand} (hk : opP c (.pick x y z) e h K) : PVal c ⟨dst, .pick x y z, type, pos, after, guard⟩ a h K := by
  simp only [opP] at hk
  split at hk
  · rename_i u hx hy
    refine ⟨u, fun w hw => ?_, hk⟩
    simp only [execOp, hag.ev hx, hag.ev hy]
    rfl
  · rename_i u hx hy
    refine ⟨u, fun w hw => ?_, hk⟩
    simp only [execOp, hag.ev hx, hag.ev hy]
    rfl
  · rename_i b u v hx hu hv
    split at hk
    · rename_i p q hp hq
      refine ⟨_, fun w hw => ?_, hk⟩
      simp only [execOp, hag.ev hx, hag.ev hu, hag.ev hv, hp, hq]
      cases b <;> rfl
    · exact hk.elim
  · exact hk.elim

theorem val_alloc {t : TypeId} (hk : opP c (.alloc t) e w.heap K) : Val c ⟨dst, .alloc t, type, pos, after, guard⟩ a w K := by
  simp only [opP] at hk
  split at hk
  · rename_i zs hz
    obtain ⟨i, v, hi, hv, rfl⟩ := zeroL_spec hz
    exact .of (v := .adr w.heap.size 0) rfl (run_alloc c.P w t v hi hv) ⟨rfl, rfl, rfl⟩ hk
  · exact hk.elim

theorem val_box (hag : Agr c.n e a) {t : TypeId} {x : Operand} (hk : opP c (.box t x) e w.heap K) : Val c ⟨dst, .box t x, type, pos, after, guard⟩ a w K := by
  simp only [opP] at hk
  split at hk
  · rename_i v hv
    refine .of (v := .adr w.heap.size 0) rfl (run_box c.P w t _) ⟨rfl, rfl, rfl⟩ ?_
    rw [hag.ev hv, cells_toArray]
    exact hk
  · exact hk.elim

theorem map_toArray (ps : Array (Nat × Operand)) (a : Act) (f : Nat × Operand → Nat × Value) (hf : ∀ x, f x = (x.1, a.eval x.2)) : ps.map f = (ps.toList.map fun x => (x.1, a.eval x.2)).toArray := by
  apply Array.ext'
  simp [funext hf]

theorem of_parts {o : Op} {F : Array (Nat × Value) → Sem Value} {ps : Array (Nat × Operand)} {f : Nat × Operand → Nat × Value} {v : EV} {w' : World}
    (he : execOp a.eval ⟨dst, o, type, pos, after, guard⟩ = (do pure (.value (← F (ps.map f))))) (hf : ∀ x, f x = (x.1, a.eval x.2))
    (hr : (F (ps.toList.map fun x => (x.1, a.eval x.2)).toArray).run c.P w = .ok v.v w') (hs : Same w w') (hk : K v w'.heap) : Val c ⟨dst, o, type, pos, after, guard⟩ a w K := by
  rw [map_toArray ps a f hf] at he
  exact .of he hr hs hk

theorem of_partsQ {o : Op} {F : Array (Nat × Value) → Sem Value} {ps : Array (Nat × Operand)} {f : Nat × Operand → Nat × Value} {v : EV}
    (he : execOp a.eval ⟨dst, o, type, pos, after, guard⟩ = (do pure (.value (← F (ps.map f))))) (hf : ∀ x, f x = (x.1, a.eval x.2))
    (hr : ∀ w : World, True → (F (ps.toList.map fun x => (x.1, a.eval x.2)).toArray).run c.P w = .ok v.v w) (hk : K v h) : PVal c ⟨dst, o, type, pos, after, guard⟩ a h K := by
  rw [map_toArray ps a f hf] at he
  exact .of he hr hk

theorem val_build (hag : Agr c.n e a) {t : TypeId} {ps : Array (Nat × Operand)} (hk : opP c (.build t ps) e h K) : PVal c ⟨dst, .build t ps, type, pos, after, guard⟩ a h K := by
  simp only [opP] at hk
  split at hk
  · rename_i fs zs hu hz
    split at hk
    · rename_i l hl
      obtain ⟨hall, hk⟩ := blt_of hk
      obtain ⟨hone, hk⟩ := needL_spec hk
      refine of_partsQ (F := Instr.build t) rfl (fun _ => rfl) (fun w hw => ?_) hk
      exact run_build_struct c.P w t hu hz hall (placesS_fits c.P fs.toList hag zs.length hl hone)
    · exact hk.elim
  · rename_i n el zs hu hz
    split at hk
    · rename_i l hl
      obtain ⟨hsome, hk⟩ := blt_of hk
      obtain ⟨j, hj⟩ := Option.isSome_iff_exists.1 hsome
      refine of_partsQ (F := Instr.build t) rfl (fun _ => rfl) (fun w hw => ?_) hk
      exact run_build_array c.P w t hu hz hj (placesA_fits (c.P.cellsOf el) hag zs.length hl)
    · exact hk.elim
  · exact hk.elim

theorem val_buildSlice (hag : Agr c.n e a) {t : TypeId} {n : Nat} {ps : Array (Nat × Operand)} (hk : opP c (.buildSlice t n ps) e w.heap K) : Val c ⟨dst, .buildSlice t n ps, type, pos, after, guard⟩ a w K := by
  simp only [opP] at hk
  split at hk
  · rename_i el hu
    split at hk
    · rename_i zs l hz hl
      obtain ⟨h1, hk⟩ := blt_of hk
      obtain ⟨h2, hk⟩ := blt_of hk
      have hr := run_buildSlice c.P w t hu hz (Nat.eq_of_beq_eq_true h2) (Nat.le_of_ble_eq_true h1) (placesA_fits (c.P.cellsOf el) hag _ hl)
      exact of_parts (F := Instr.buildSlice t n) (v := .val (.slice (some ⟨w.heap.size, 0, none⟩) n n)) rfl (fun _ => rfl) hr ⟨rfl, rfl, rfl⟩ hk
    · exact hk.elim
  · exact hk.elim

theorem val_load (hag : Agr c.n e a) {t : TypeId} {x : Operand} (hk : opP c (.load t x) e h K) : QVal c ⟨dst, .load t x, type, pos, after, guard⟩ a h K := by
  simp only [opP] at hk
  split at hk
  · rename_i v hv
    obtain ⟨b, o, hp, hk⟩ := atP_spec hk
    obtain ⟨u, hr, hk⟩ := ldT_spec hk
    refine QVal.of (s := Instr.loadAt t (a.eval x)) rfl (fun w hw => ?_) hk
    rw [hag.ev hv, hp]
    exact run_loadAt (hr w hw)
  · exact hk.elim

theorem val_nilCheck (hag : Agr c.n e a) {x : Operand} (hk : opP c (.nilCheck x) e h K) : PVal c ⟨dst, .nilCheck x, type, pos, after, guard⟩ a h K := by
  simp only [opP] at hk
  split at hk
  · rename_i v hv
    obtain ⟨b, o, hp, hk⟩ := atP_spec hk
    refine ⟨.adr b o, fun w hw => ?_, hk⟩
    simp only [execOp, hag.ev hv, hp]
    rfl
  · exact hk.elim

theorem eqGuard_run {op : BinOp} {t : TypeId} {x y : Operand} {u v : Value} (h : (∀ cs, u ≠ .agg cs) ∧ u ≠ .nilIface) : (eqGuard op t x y u v).run c.P w = .ok () w := by
  unfold eqGuard
  cases op <;> first
    | rfl
    | (cases u <;> first | rfl | exact absurd rfl (h.1 _) | exact absurd rfl h.2)

theorem binP_left {op : BinOp} {x y : EV} {K : EV → Prop} (h : binP op x y K) : (∀ cs, x.v ≠ .agg cs) ∧ x.v ≠ .nilIface := by
  unfold binP at h
  split at h
  · exact ⟨fun _ h => (by cases h), fun h => (by cases h)⟩
  · exact ⟨fun _ h => (by cases h), fun h => (by cases h)⟩
  · exact h.elim

theorem eqP_left {d : Option TypeDesc} {neg : Bool} {x y : EV} {K : EV → Prop} (h : eqP d neg x y K) : (∀ cs, x.v ≠ .agg cs) ∧ x.v ≠ .nilIface := by
  unfold eqP at h
  split at h
  · exact ⟨fun _ h => (by cases h), fun h => (by cases h)⟩
  · exact ⟨fun _ h => (by cases h), fun h => (by cases h)⟩
  · exact ⟨fun _ h => (by cases h), fun h => (by cases h)⟩
  · exact ⟨fun _ h => (by cases h), fun h => (by cases h)⟩
  · split at h
    · rename_i hx _
      rw [hx]
      exact ⟨fun _ h => (by cases h), fun h => (by cases h)⟩
    · exact h.elim
  · exact h.elim

theorem eqLeafV_run {P : Program} {t : TypeId} {x y : Value} {b : Bool} {d : Nat} {w : World} (h : eqLeafV (P.underlying t) x y = some b) : isAggD (P.underlying t) = false ∧ (P.underlying t).isSome = true ∧ (Op.equalIn (d + 1) t x y).run P w = .ok b w := by
  unfold eqLeafV at h
  split at h
  · rename_i k' k a k'' b' hu
    split at h
    · rename_i hk
      subst hk
      simp only [Option.some.injEq] at h
      subst h
      rw [hu]
      exact ⟨rfl, rfl, run_equalIn_int w d t _ _ _ _ hu⟩
    · cases h
  · rename_i a b' hu
    simp only [Option.some.injEq] at h
    subst h
    rw [hu]
    exact ⟨rfl, rfl, run_equalIn_string w d t _ _ hu⟩
  · rename_i a b' hu
    simp only [Option.some.injEq] at h
    subst h
    rw [hu]
    exact ⟨rfl, rfl, run_equalIn_bool' w d t _ _ hu⟩
  · cases h

theorem run_part_leaf {P : Program} {w : World} {t : TypeId} {xs : Array Value} {off : Nat} {x : Value} (h1 : isAggD (P.underlying t) = false) (h2 : (P.underlying t).isSome = true) (hx : xs[off]? = some x) : (part t xs off).run P w = .ok x w := by
  obtain ⟨d, hu⟩ := Option.isSome_iff_exists.1 h2
  rw [hu] at h1
  unfold part
  simp only [Sem.run_bind, run_isAgg P w t hu, h1, Result.andThen_ok, Bool.false_eq_true, if_false, hx]
  rfl

theorem eqFieldsV_run {P : Program} {xs ys : Array Value} {d : Nat} {w : World} : ∀ {fs : List Field} {b : Bool}, eqFieldsV P fs xs.toList ys.toList = some b → (Op.eqFields (d + 1) xs ys fs).run P w = .ok b w
  | [], b, h => by
    simp only [eqFieldsV, Option.some.injEq] at h
    subst h
    rfl
  | f :: fs, b, h => by
    simp only [eqFieldsV] at h
    cases hn : f.name == "_" with
    | true => rw [hn] at h; cases h
    | false =>
      rw [hn] at h
      simp only [cond_false] at h
      split at h
      · rename_i x y hx hy
        split at h
        · rename_i a r ha hr
          simp only [Option.some.injEq] at h
          subst h
          have hne : f.name ≠ "_" := by
            intro he
            rw [he] at hn
            simp at hn
          have hx' : xs[f.offset]? = some x := by simpa using hx
          have hy' : ys[f.offset]? = some y := by simpa using hy
          obtain ⟨h1, h2, h3⟩ := eqLeafV_run (d := d) (w := w) ha
          simp only [Op.eqFields, hne, ne_eq, not_false_eq_true, if_true, Sem.run_bind, run_part_leaf h1 h2 hx', run_part_leaf h1 h2 hy', h3, Result.andThen_ok]
          cases a with
          | true => simpa using eqFieldsV_run hr
          | false => simp
        · cases h
      · cases h

theorem run_part_agg {P : Program} {w : World} {t : TypeId} {gs : Array Field} {xs : Array Value} {off : Nat} (hu : P.underlying t = some (.struct gs)) (hn : off + P.cellsOf t ≤ xs.size) :
    (part t xs off).run P w = .ok (.agg ⟨(xs.toList.drop off).take (P.cellsOf t)⟩) w := by
  obtain ⟨i, hi⟩ := info_of_underlying P hu
  unfold part
  simp only [Sem.run_bind, run_isAgg P w t hu, Result.andThen_ok, isAggD, if_true, run_sizeOf P w t hi, Sem.run_pure]
  rw [cellsOf_eq P hi]
  congr 2
  apply Array.ext'
  simp [List.take_drop, Nat.add_comm]

theorem eqFieldsV1_run {P : Program} {xs ys : Array Value} {d : Nat} {w : World} : ∀ {fs : List Field} {b : Bool}, eqFieldsV1 P fs xs.toList ys.toList = some b → (Op.eqFields (d + 1 + 1) xs ys fs).run P w = .ok b w
  | [], b, h => by
    simp only [eqFieldsV1, Option.some.injEq] at h
    subst h
    rfl
  | f :: fs, b, h => by
    simp only [eqFieldsV1] at h
    cases hn : f.name == "_" with
    | true => rw [hn] at h; cases h
    | false =>
      rw [hn] at h
      simp only [cond_false] at h
      have hne : f.name ≠ "_" := by
        intro he
        rw [he] at hn
        simp at hn
      split at h
      · rename_i gs hu
        cases hst : P.stoodInHeld f.type with
        | true => rw [hst] at h; cases h
        | false =>
          rw [hst] at h
          simp only [cond_false] at h
          cases hle : (Nat.ble (f.offset + P.cellsOf f.type) xs.toList.length && Nat.ble (f.offset + P.cellsOf f.type) ys.toList.length) with
          | false => rw [hle] at h; cases h
          | true =>
            rw [hle] at h
            simp only [cond_true] at h
            simp only [Bool.and_eq_true, Nat.ble_eq, Array.length_toList] at hle
            split at h
            · rename_i a r ha hr
              simp only [Option.some.injEq] at h
              subst h
              have hf : P.fieldsOf f.type = gs := by unfold Program.fieldsOf; rw [hu]
              have h3 : (Op.equalIn (d + 1 + 1) f.type (.agg ⟨(xs.toList.drop f.offset).take (P.cellsOf f.type)⟩) (.agg ⟨(ys.toList.drop f.offset).take (P.cellsOf f.type)⟩)).run P w = .ok a w := by
                rw [run_equalIn_agg w _ f.type _ _ (by rw [hf]; exact hu) hst, hf]
                exact eqFieldsV_run ha
              simp only [Op.eqFields, hne, ne_eq, not_false_eq_true, if_true, Sem.run_bind, run_part_agg hu hle.1, run_part_agg hu hle.2, h3, Result.andThen_ok]
              cases a with
              | true => simpa using eqFieldsV1_run hr
              | false => simp
            · cases h
      · rename_i u hns
        split at h
        · rename_i x y hx hy
          split at h
          · rename_i a r ha hr
            simp only [Option.some.injEq] at h
            subst h
            have hx' : xs[f.offset]? = some x := by simpa using hx
            have hy' : ys[f.offset]? = some y := by simpa using hy
            obtain ⟨h1, h2, h3⟩ := eqLeafV_run (d := d + 1) (w := w) ha
            simp only [Op.eqFields, hne, ne_eq, not_false_eq_true, if_true, Sem.run_bind, run_part_leaf h1 h2 hx', run_part_leaf h1 h2 hy', h3, Result.andThen_ok]
            cases a with
            | true => simpa using eqFieldsV1_run hr
            | false => simp
          · cases h
        · cases h

theorem eqS_run {P : Program} {t : TypeId} {fs : Array Field} {x y : EV} {K : Bool → Prop} (hu : P.underlying t = some (.struct fs)) (hk : eqS P t fs x y K) :
    ∃ (xs ys : Array Value) (b : Bool), x.v = .agg xs ∧ y.v = .agg ys ∧ P.eqGuardType P.depth t = false ∧ (∀ w, (Op.equalIn 10000 t (.agg xs) (.agg ys)).run P w = .ok b w) ∧ K b := by
  unfold eqS at hk
  split at hk
  · rename_i xs ys
    cases hc : (P.stoodInHeld t || P.eqGuardType P.depth t) with
    | true => rw [hc] at hk; exact hk.elim
    | false =>
      rw [hc] at hk
      simp only [cond_false] at hk
      rw [Bool.or_eq_false_iff] at hc
      split at hk
      · rename_i b hb
        have hf : P.fieldsOf t = fs := by unfold Program.fieldsOf; rw [hu]
        refine ⟨xs, ys, b, rfl, rfl, hc.2, fun w => ?_, hk⟩
        rw [show (10000 : Nat) = 9997 + 1 + 1 + 1 from rfl, run_equalIn_agg w _ t xs ys (by rw [hf]; exact hu) hc.1, hf]
        exact eqFieldsV1_run hb
      · exact hk.elim
  · exact hk.elim

theorem val_binOp (hag : Agr c.n e a) {op : BinOp} {t t' : TypeId} {x y : Operand} (hk : opP c (.binOp op t x y t') e h K) : PVal c ⟨dst, .binOp op t x y t', type, pos, after, guard⟩ a h K := by
  have bin : ∀ {u v : EV}, e.ev x = some u → e.ev y = some v → binP op u v (fun v => K v h) → PVal c ⟨dst, .binOp op t x y t', type, pos, after, guard⟩ a h K := by
    intro u v hu hv hb
    obtain ⟨r, hr, hk⟩ := binP_run (P := c.P) (t := t) hb
    refine PVal.of (s := do eqGuard op t x y (a.eval x) (a.eval y); binOp op t (a.eval x) (a.eval y)) rfl (fun w hw => ?_) hk
    rw [hag.ev hu, hag.ev hv]
    simp only [Sem.run_bind, eqGuard_run (binP_left hb), Result.andThen_ok, hr w]
  have eqq : ∀ {u v : EV} {neg : Bool}, op = (bif neg then .neq else .eql) → e.ev x = some u → e.ev y = some v → eqP (c.P.underlying t) neg u v (fun v => K v h) → PVal c ⟨dst, .binOp op t x y t', type, pos, after, guard⟩ a h K := by
    rintro u v neg rfl hu hv hb
    obtain ⟨r, hr, hk⟩ := eqP_run (P := c.P) hb
    refine PVal.of (s := do eqGuard (bif neg then .neq else .eql) t x y (a.eval x) (a.eval y); binOp (bif neg then .neq else .eql) t (a.eval x) (a.eval y)) rfl (fun w hw => ?_) hk
    rw [hag.ev hu, hag.ev hv]
    simp only [Sem.run_bind, eqGuard_run (eqP_left hb), Result.andThen_ok, hr w]
  simp only [opP] at hk
  split at hk
  · rename_i u v hu hv
    split at hk
    · exact bin hu hv hk
    · exact bin hu hv hk
    · exact bin hu hv hk
    · exact bin hu hv hk
    · rename_i fs hud
      obtain ⟨xs, ys, b, hx, hy, hg, hr, hk⟩ := eqS_run hud hk
      refine PVal.of (v := .val (.bool b)) (s := do eqGuard .eql t x y (a.eval x) (a.eval y); binOp .eql t (a.eval x) (a.eval y)) rfl (fun w hw => ?_) hk
      rw [hag.ev hu, hag.ev hv, hx, hy]
      simp only [Sem.run_bind, run_eqGuard_agg w .eql t x y xs ys hg, Result.andThen_ok, run_eql_struct, hr w]
      rfl
    · rename_i fs hud
      obtain ⟨xs, ys, b, hx, hy, hg, hr, hk⟩ := eqS_run hud hk
      refine PVal.of (v := .val (.bool (!b))) (s := do eqGuard .neq t x y (a.eval x) (a.eval y); binOp .neq t (a.eval x) (a.eval y)) rfl (fun w hw => ?_) hk
      rw [hag.ev hu, hag.ev hv, hx, hy]
      simp only [Sem.run_bind, run_eqGuard_agg w .neq t x y xs ys hg, Result.andThen_ok, run_neq_struct, hr w]
      rfl
    · exact eqq (neg := false) rfl hu hv hk
    · exact eqq (neg := true) rfl hu hv hk
    · exact bin hu hv hk
  · exact hk.elim

theorem val_unOp (hag : Agr c.n e a) {op : UnOp} {t : TypeId} {x : Operand} (hk : opP c (.unOp op t x) e h K) : PVal c ⟨dst, .unOp op t x, type, pos, after, guard⟩ a h K := by
  simp only [opP] at hk
  split at hk
  · rename_i b hv
    refine ⟨_, fun w hw => ?_, hk⟩
    simp only [execOp, hag.ev hv, EV.v]
    rfl
  · rename_i b hv
    refine ⟨_, fun w hw => ?_, hk⟩
    simp only [execOp, hag.ev hv, EV.v]
    rfl
  · rename_i k n hv
    refine ⟨_, fun w hw => ?_, hk⟩
    simp only [execOp, hag.ev hv, EV.v]
    rfl
  · exact hk.elim

theorem val_convert_int (hag : Agr c.n e a) {s d : TypeId} {x : Operand} {j k : IntKind} (hs : c.P.underlying s = some (.int j)) (hd : c.P.underlying d = some (.int k)) (hk : opP c (.convert s d x) e h K) :
    PVal c ⟨dst, .convert s d x, type, pos, after, guard⟩ a h K := by
  simp only [opP, hs, hd] at hk
  split at hk
  · rename_i k2 k' n h1 h2 hv
    cases h2
    refine PVal.of (s := convert s d (a.eval x)) rfl (fun w hw => ?_) hk
    rw [hag.ev hv]
    exact run_convert_int hs hd
  all_goals first
    | exact hk.elim
    | (rename_i h1 _ _; cases h1)
    | (rename_i h1 _; cases h1)
    | (rename_i h1; cases h1)

theorem val_convert (hag : Agr c.n e a) {s d : TypeId} {x : Operand} (hk : opP c (.convert s d x) e w.heap K) : Val c ⟨dst, .convert s d x, type, pos, after, guard⟩ a w K := by
  simp only [opP] at hk
  split at hk
  · rename_i j k k' n hs hd hv
    refine .of (s := convert s d (a.eval x)) rfl ?_ (Same.refl w) hk
    rw [hag.ev hv]
    exact run_convert_int hs hd
  · rename_i y hs hd hv
    refine .of (s := convert s d (a.eval x)) rfl ?_ (Same.refl w) hk
    rw [hag.ev hv]
    exact run_convert_string hs hd
  · rename_i el y hs hd hv
    split at hk
    · rename_i he
      obtain ⟨r, w', hr, hs', hk⟩ := run_s2b (P := c.P) hk
      refine .of (v := .val (.slice r.ptr r.len r.cap)) (s := convert s d (a.eval x)) rfl ?_ hs' hk
      rw [hag.ev hv]
      exact (run_convert_s2b hs hd he).trans hr
    · exact hk.elim
  · rename_i el p l m hs hd hv
    split at hk
    · rename_i he
      obtain ⟨r, hr, hk⟩ := run_b2s (P := c.P) hk
      refine .of (v := .val (.string r)) (s := convert s d (a.eval x)) rfl ?_ (Same.refl w) hk
      rw [hag.ev hv]
      exact (run_convert_b2s hs hd he).trans hr
    · exact hk.elim
  · rename_i e' el p l m hs hd hv
    split at hk
    · rename_i he
      obtain ⟨hsd, hk1⟩ := blt_of hk
      clear hk
      have hsd' := Nat.eq_of_beq_eq_true hsd
      subst hsd'
      obtain ⟨b, o, c', t, rfl, hb, hk⟩ := hk1
      refine .of (v := .val (.slice (some ⟨b, o, none⟩) l m)) (w' := { w with heap := Heap.frz w.heap b }) (s := convert s s (a.eval x)) rfl ?_ ⟨rfl, rfl, rfl⟩ hk
      rw [hag.ev hv]
      exact run_convert_mark hs hd he hb
    · exact hk.elim
  · exact hk.elim

theorem val_makeSlice (hag : Agr c.n e a) {t : TypeId} {x y : Operand} (hk : opP c (.makeSlice t x y) e w.heap K) : Val c ⟨dst, .makeSlice t x y, type, pos, after, guard⟩ a w K := by
  simp only [opP] at hk
  split at hk
  · rename_i el k l k' m hu hx hy
    split at hk
    · rename_i size bytes zs hs hz
      obtain ⟨hlen, hk1⟩ := blt_of hk
      clear hk
      obtain ⟨h0, h1, h2, h3, hk2⟩ := hk1
      obtain ⟨i, z, hi, hiz, rfl⟩ := zeroL_spec hz
      obtain ⟨i', hi', rfl, rfl⟩ := sizeL_spec hs
      rw [hi] at hi'
      cases hi'
      refine .of (v := .val (.slice (some ⟨w.heap.size, 0, none⟩) l.toNat m.toNat)) (w' := { w with heap := w.heap.push (.cells (zerosL z.cells.toList m.toNat).toArray el) }) (s := Instr.makeSlice t (a.eval x) (a.eval y)) rfl ?_ ⟨rfl, rfl, rfl⟩ hk2
      rw [hag.ev hx, hag.ev hy]
      exact run_makeSlice hu hi hiz (by have := Nat.eq_of_beq_eq_true hlen; simpa using this) h0 h1 h2 h3
    · exact hk.elim
  · exact hk.elim

end
end Go.Fw
