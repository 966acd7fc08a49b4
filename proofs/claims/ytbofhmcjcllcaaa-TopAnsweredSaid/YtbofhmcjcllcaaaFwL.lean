/- Why a reading is right: regions. -/
import Derived.Test.YtbofhmcjcllcaaaFwO
import Derived.Deep.LoopGhost
namespace Go.Fw
open Go

def Keeps (D : List Nat) (a a' : Act) : Prop := ∀ j, j ∉ D → a'.tmps[j]? = a.tmps[j]?

theorem Keeps.refl (D : List Nat) (a : Act) : Keeps D a a := fun _ _ => rfl
theorem Keeps.trans {D : List Nat} {a b d : Act} (h : Keeps D a b) (h' : Keeps D b d) : Keeps D a d := fun j hj => (h' j hj).trans (h j hj)
theorem Keeps.mono {D D' : List Nat} {a b : Act} (h : Keeps D a b) (hs : ∀ j, j ∈ D → j ∈ D') : Keeps D' a b := fun j hj => h j fun hj' => hj (hs j hj')
theorem Keeps.put {D : List Nat} {a : Act} {d : Option Tmp} {v : Value} (h : ∀ x, d = some x → x ∈ D) : Keeps D a (a.put d v) := by
  intro j hj
  cases d with
  | none => rfl
  | some x =>
    have hne : x ≠ j := fun he => hj (he ▸ h x rfl)
    simp [Act.put, Array.getElem?_setIfInBounds_ne hne]

/-- what a slot's reading says of an operation's guard -/
theorem yielded_eq {ops : Array Oper} {a : Act} {j t : Nat} (h : guardSlot ops.toList j = some t) : yielded ops a.tmps j = match a.tmps[t]? with | some (.bool b) => some b | _ => none := by
  unfold guardSlot at h
  unfold yielded
  rw [show ops.toList[j]? = ops[j]? from by simp] at h
  rw [h]
  rfl

theorem yielded_none {ops : Array Oper} {a : Act} {j : Nat} (h : guardSlot ops.toList j = none) : yielded ops a.tmps j = none := by
  unfold guardSlot at h
  unfold yielded
  rw [show ops.toList[j]? = ops[j]? from by simp] at h
  rw [h]
  rfl

/-- one operation of the list: carried out, or passed over -/
inductive Step (c : Cfg) (one : Oper → Env → Heap → (Env → Heap → Prop) → Prop) (ops : Array Oper) (o : Oper) (a : Act) (h : Heap) (K : Env → Heap → Prop) : Prop
  | does (e : Env) (ha : Agr c.n e a) (hw : Region.wanted o (yielded ops a.tmps) = true) (hk : one o e h K)
  | skips (e : Env) (ha : Agr c.n e a) (hw : Region.wanted o (yielded ops a.tmps) = false) (hk : skipOp c o e h K)

theorem runOps_step {c : Cfg} {one : Oper → Env → Heap → (Env → Heap → Prop) → Prop} {ops : Array Oper} {o : Oper} {os : List Oper} {e : Env} {a : Act} {h : Heap} {K : Env → Heap → Prop}
    (hag : Agr c.n e a) (hk : runOps c one ops.toList (o :: os) e h K) : Step c one ops o a h (fun e' h' => runOps c one ops.toList os e' h' K) := by
  unfold runOps at hk
  split at hk
  · rename_i hg
    exact .does e hag (by simp [Region.wanted, hg]) hk
  · rename_i j want hg
    split at hk
    · rename_i hs
      exact .skips e hag (by simp [Region.wanted, hg, yielded_none hs]) hk
    · rename_i t hs
      have hy := yielded_eq (a := a) hs
      split at hk
      · rename_i b ht
        have ht' : a.tmps[t]? = some (.bool b) := hag.val t _ ht
        rw [ht'] at hy
        split at hk
        · exact .does e hag (by simp [Region.wanted, hg, hy]) hk
        · exact .does e hag (by simp [Region.wanted, hg, hy]) hk
        · exact .skips e hag (by simp [Region.wanted, hg, hy]) hk
        · exact .skips e hag (by simp [Region.wanted, hg, hy]) hk
      · rename_i b ht
        have ht' : a.tmps[t]? = some (.bool b) := hag.val t _ ht
        rw [ht'] at hy
        split at hk
        · cases b with
          | true => exact .does _ (hag.tell ht) (by simp [Region.wanted, hg, hy]) (hk.1 rfl)
          | false => exact .skips _ (hag.tell ht) (by simp [Region.wanted, hg, hy]) (hk.2 rfl)
        · cases b with
          | true => exact .skips _ (hag.tell ht) (by simp [Region.wanted, hg, hy]) (hk.1 rfl)
          | false => exact .does _ (hag.tell ht) (by simp [Region.wanted, hg, hy]) (hk.2 rfl)
      · rename_i v hv1 hv2 ht
        have ht' : a.tmps[t]? = some v.v := hag.val t _ ht
        refine .skips e hag ?_ hk
        have : yielded ops a.tmps j = none := by
          rw [hy, ht']
          cases v with
          | val u => cases u <;> first | rfl | exact absurd rfl (hv2 _)
          | lit b => exact absurd rfl (hv1 b)
          | adr b o => rfl
        simp [Region.wanted, hg, this]
      · exact hk.elim

theorem mem_dsts {ops : Array Oper} {k : Nat} {o : Oper} {x : Nat} (ho : ops[k]? = some o) (hx : o.dst = some x) : x ∈ ops.toList.filterMap (·.dst) := by
  refine List.mem_filterMap.2 ⟨o, ?_, hx⟩
  exact List.mem_of_getElem? (i := k) (by simpa using ho)

theorem runOps_wp {c : Cfg} (hc : c.OK) {ops : Array Oper} {Q : Exit → Act → World → Prop} : ∀ (l : List Oper) (k : Nat), (∀ j, l[j]? = ops[k + j]?) →
    ∀ {e : Env} {a : Act} {w : World} {K : Env → Heap → Prop}, Agr c.n e a → runOps c (oneOp c) ops.toList l e w.heap K →
    (∀ e' a' w', Agr c.n e' a' → Same w w' → Keeps (ops.toList.filterMap (·.dst)) a a' → K e' w'.heap → Q .normal a' w') → wpOps c.P ops Q (List.range' k l.length) a w
  | [], k, hl, e, a, w, K, hag, hk, hQ => hQ e a w hag (Same.refl w) (Keeps.refl _ a) hk
  | o :: os, k, hl, e, a, w, K, hag, hk, hQ => by
    have ho : ops[k]? = some o := by have := hl 0; simpa using this.symm
    have hl' : ∀ j, os[j]? = ops[k + 1 + j]? := fun j => by have := hl (j + 1); rw [show k + 1 + j = k + (j + 1) from by omega, ← this]; rfl
    have hput : ∀ v, Keeps (ops.toList.filterMap (·.dst)) a (a.put o.dst v) := fun v => Keeps.put fun x hx => mem_dsts ho hx
    simp only [List.length_cons, List.range'_succ, wpOps, ho]
    cases runOps_step hag hk with
    | does e hag hw hk =>
      rw [if_pos hw]
      left
      refine opP_wp hc hag hk fun v w' hs hk => ?_
      obtain ⟨e', hag', hk⟩ := setD_put hag hk
      exact runOps_wp hc os (k + 1) hl' hag' hk fun e'' a'' w'' h1 h2 h3 h4 => hQ e'' a'' w'' h1 (hs.trans h2) ((hput _).trans h3) h4
    | skips e hag hw hk =>
      rw [if_neg (by simp [hw])]
      obtain ⟨e', hag', hk⟩ := setD_put hag hk
      exact runOps_wp hc os (k + 1) hl' hag' hk fun e'' a'' w'' h1 h2 h3 h4 => hQ e'' a'' w'' h1 h2 ((hput _).trans h3) h4

/-! ### a region that draws its order -/
def Cls (w0 : World) (h : Heap) (w : World) : Prop := Same w0 w ∧ w.heap = h

theorem quietAt_of {c : Cfg} {o : Oper} {a : Act} {w0 : World} {h : Heap} {v : EV} (hr : ∀ w : World, w.heap = h → (execOp a.eval o).run c.P w = .ok (.value v.v) w) :
    ∀ w, Cls w0 h w → o.quietAt c.P a (Cls w0 h) w v.v := by
  intro w hw
  unfold Oper.quietAt
  rw [hr w hw.2]
  exact ⟨rfl, rfl⟩

theorem quiet_of {c : Cfg} {o : Oper} {a : Act} {w0 : World} {h : Heap} {K : EV → Heap → Prop} {next : Act → Prop} (hq : QVal c o a h K) (hn : ∀ v, K v h → next (a.put o.dst v.v)) :
    o.quiet c.P a (Cls w0 h) next :=
  let ⟨v, hr, hk⟩ := hq
  ⟨v.v, quietAt_of hr, hn v hk⟩

theorem quietP_quiet {c : Cfg} (hc : c.OK) {e : Env} {a : Act} {w0 : World} {h : Heap} {o : Oper} {K : EV → Heap → Prop} {next : Act → Prop} (hag : Agr c.n e a) (hk : quietP c o.op e h K)
    (hn : ∀ v, K v h → next (a.put o.dst v.v)) : o.quiet c.P a (Cls w0 h) next := by
  obtain ⟨dst, op, type, pos, after, guard⟩ := o
  cases op
  case move => exact quiet_of (val_move hag hk).q hn
  case assign => exact quiet_of (val_assign hag hk).q hn
  case pick => exact quiet_of (val_pick hag hk).q hn
  case load => exact quiet_of (val_load hag hk) hn
  case nilCheck => exact quiet_of (val_nilCheck hag hk).q hn
  case binOp => exact quiet_of (val_binOp hag hk).q hn
  case unOp => exact quiet_of (val_unOp hag hk).q hn
  case slice => exact quiet_of (val_slice hag hk).q hn
  case fieldAddr => exact quiet_of (val_fieldAddr hag hk).q hn
  case field => exact quiet_of (val_field hag hk).q hn
  case indexAddr => exact quiet_of (val_indexAddr hag hk).q hn
  case index => exact quiet_of (val_index hag hk).q hn
  case extract => exact quiet_of (val_extract hag hk).q hn
  case build => exact quiet_of (val_build hag hk).q hn
  case makeFunc => exact quiet_of (val_makeFunc hag hk).q hn
  case convert s d x =>
    simp only [quietP] at hk
    split at hk
    · rename_i j k hs hd
      exact quiet_of (val_convert_int hag hs hd hk).q hn
    · exact hk.elim
  case call cl =>
    unfold quietP at hk
    split at hk <;> first
      | exact hk.elim
      | (rename_i ho; cases ho)
    · exact quiet_of (val_len hag hk) hn
    · exact quiet_of (val_quiet_builtin hag (.inr (.inl rfl)) hk).q hn
    · exact quiet_of (val_quiet_builtin hag (.inr (.inr (.inl rfl))) hk).q hn
    · exact quiet_of (val_quiet_builtin hag (.inr (.inr (.inr rfl))) hk).q hn
    · rename_i f args ts
      split at hk
      · rename_i es he
        split at hk
        · rename_i s t hp
          obtain ⟨hmem, ht⟩ := pickL_mem hp
          dsimp only at hmem ht
          obtain ⟨r, hm, hk⟩ := hk
          refine ⟨(tupleOf (TupV.evs s.res r)).v, fun w hw => ?_, hn _ hk⟩
          have hargs := evs_map hag he
          obtain ⟨⟨fn, hf, hname, hbody⟩, hcall⟩ := hc.calls _ hmem
          have henter : (execOp a.eval ⟨dst, .call ⟨.value (.func f), args, ts⟩, type, pos, after, guard⟩).run c.P w = .ok (.enter f (args.map a.eval)) w := by
            simp only [execOp, resolve, Act.eval, Deferred.ofValue, Sem.run_bind, Sem.run_pure, Result.andThen_ok, invoke, callFunc, run_program, hf, hname, Bool.false_eq_true, if_false, hbody]
            simp
          unfold Oper.quietAt
          rw [henter]
          refine ⟨rfl, ?_⟩
          rw [hargs, ← tupV_un ht]
          refine (hcall t (fun r' h' => r' = r ∧ h' = h) w (by rw [hw.2]; exact hm)).mono ?_
          rintro ending w' ⟨r', rfl, hsame, rfl, hh⟩
          exact ⟨rfl, hw.1.trans hsame, hh⟩
        · exact hk.elim
      · exact hk.elim
  all_goals exact hk.elim

theorem quiet_wp {c : Cfg} (hc : c.OK) {ops : Array Oper} {w0 : World} {Q : Act → Prop} {h : Heap} : ∀ (l : List Oper) (k : Nat), (∀ j, l[j]? = ops[k + j]?) →
    ∀ {e : Env} {a : Act} {K : Env → Heap → Prop}, Agr c.n e a → runOps c (quietOp c) ops.toList l e h K →
    (∀ e' a', Agr c.n e' a' → Keeps (ops.toList.filterMap (·.dst)) a a' → K e' h → Q a') → wpQuiet c.P ops (Cls w0 h) Q l a
  | [], k, hl, e, a, K, hag, hk, hQ => hQ e a hag (Keeps.refl _ a) hk
  | o :: os, k, hl, e, a, K, hag, hk, hQ => by
    have ho : ops[k]? = some o := by have := hl 0; simpa using this.symm
    have hl' : ∀ j, os[j]? = ops[k + 1 + j]? := fun j => by have := hl (j + 1); rw [show k + 1 + j = k + (j + 1) from by omega, ← this]; rfl
    have hput : ∀ v, Keeps (ops.toList.filterMap (·.dst)) a (a.put o.dst v) := fun v => Keeps.put fun x hx => mem_dsts ho hx
    unfold wpQuiet
    cases runOps_step hag hk with
    | does e hag hw hk =>
      rw [if_pos hw]
      refine quietP_quiet hc hag hk fun v hk => ?_
      obtain ⟨e', hag', hk⟩ := setD_put hag hk
      exact quiet_wp hc os (k + 1) hl' hag' hk fun e'' a'' h1 h3 h4 => hQ e'' a'' h1 ((hput _).trans h3) h4
    | skips e hag hw hk =>
      rw [if_neg (by simp [hw])]
      obtain ⟨e', hag', hk⟩ := setD_put hag hk
      exact quiet_wp hc os (k + 1) hl' hag' hk fun e'' a'' h1 h3 h4 => hQ e'' a'' h1 ((hput _).trans h3) h4

/-! ### the whole code -/
def PostQ (c : Cfg) (D : List Nat) (a : Act) (w : World) (Q : Ex → Env → Heap → Prop) : Exit → Act → World → Prop
  | .normal, a', w' => ∃ e', Agr c.n e' a' ∧ Same w w' ∧ Keeps D a a' ∧ Q .normal e' w'.heap
  | .exit id, a', w' => ∃ e', Agr c.n e' a' ∧ Same w w' ∧ Keeps D a a' ∧ Q (.exit id) e' w'.heap
  | .ret, a', w' => ∃ e', Agr c.n e' a' ∧ Same w w' ∧ Keeps D a a' ∧ Q .ret e' w'.heap
  | _, _, _ => False

theorem PostQ.mono {c : Cfg} {D D' : List Nat} {a a1 : Act} {w w1 : World} {Q Q' : Ex → Env → Heap → Prop} (hs : Same w w1) (hk : Keeps D' a a1) (hd : ∀ j, j ∈ D → j ∈ D') (hq : ∀ x e h, Q x e h → Q' x e h) :
    ∀ x a' w', PostQ c D a1 w1 Q x a' w' → PostQ c D' a w Q' x a' w' := by
  intro x a' w' h
  cases x <;> first
    | exact h.elim
    | (obtain ⟨e', h1, h2, h3, h4⟩ := h
       exact ⟨e', h1, hs.trans h2, hk.trans (h3.mono hd), hq _ _ _ h4⟩)

/-! ### a drawn region with effects -/
theorem guardP_spec {c : Cfg} {ops : Array Oper} {o : Oper} {e : Env} {a : Act} {A B : Env → Prop} (hag : Agr c.n e a) (hk : guardP ops.toList o e A B) :
    (∃ e', Agr c.n e' a ∧ Region.wanted o (yielded ops a.tmps) = true ∧ A e') ∨ (∃ e', Agr c.n e' a ∧ Region.wanted o (yielded ops a.tmps) = false ∧ B e') := by
  unfold guardP at hk
  split at hk
  · rename_i hg
    exact .inl ⟨e, hag, by simp [Region.wanted, hg], hk⟩
  · rename_i j want hg
    split at hk
    · rename_i hs
      exact .inr ⟨e, hag, by simp [Region.wanted, hg, yielded_none hs], hk⟩
    · rename_i t hs
      have hy := yielded_eq (a := a) hs
      split at hk
      · rename_i b ht
        have ht' : a.tmps[t]? = some (.bool b) := hag.val t _ ht
        rw [ht'] at hy
        split at hk
        · exact .inl ⟨e, hag, by simp [Region.wanted, hg, hy], hk⟩
        · exact .inl ⟨e, hag, by simp [Region.wanted, hg, hy], hk⟩
        · exact .inr ⟨e, hag, by simp [Region.wanted, hg, hy], hk⟩
        · exact .inr ⟨e, hag, by simp [Region.wanted, hg, hy], hk⟩
      · rename_i b ht
        have ht' : a.tmps[t]? = some (.bool b) := hag.val t _ ht
        rw [ht'] at hy
        split at hk
        · cases b with
          | true => exact .inl ⟨_, hag.tell ht, by simp [Region.wanted, hg, hy], hk.1 rfl⟩
          | false => exact .inr ⟨_, hag.tell ht, by simp [Region.wanted, hg, hy], hk.2 rfl⟩
        · cases b with
          | true => exact .inr ⟨_, hag.tell ht, by simp [Region.wanted, hg, hy], hk.1 rfl⟩
          | false => exact .inl ⟨_, hag.tell ht, by simp [Region.wanted, hg, hy], hk.2 rfl⟩
      · rename_i v hv1 hv2 ht
        have ht' : a.tmps[t]? = some v.v := hag.val t _ ht
        refine .inr ⟨e, hag, ?_, hk⟩
        have : yielded ops a.tmps j = none := by
          rw [hy, ht']
          cases v with
          | val u => cases u <;> first | rfl | exact absurd rfl (hv2 _)
          | lit b => exact absurd rfl (hv1 b)
          | adr b o => rfl
        simp [Region.wanted, hg, this]
      · exact hk.elim

theorem pure_val {c : Cfg} {e : Env} {a : Act} {h : Heap} {o : Oper} {K : EV → Heap → Prop} (hag : Agr c.n e a) (hkd : kindOf c o.op = .pure) (hk : opP c o.op e h K) : PVal c o a h K := by
  obtain ⟨dst, op, type, pos, after, guard⟩ := o
  cases op
  case move => exact val_move hag hk
  case assign => exact val_assign hag hk
  case pick => exact val_pick hag hk
  case nilCheck => exact val_nilCheck hag hk
  case binOp => exact val_binOp hag hk
  case unOp => exact val_unOp hag hk
  case slice => exact val_slice hag hk
  case fieldAddr => exact val_fieldAddr hag hk
  case field => exact val_field hag hk
  case indexAddr => exact val_indexAddr hag hk
  case index => exact val_index hag hk
  case extract => exact val_extract hag hk
  case build => exact val_build hag hk
  case makeFunc => exact val_makeFunc hag hk
  case convert s d x =>
    simp only [kindOf] at hkd
    split at hkd
    · rename_i j k hs hd
      exact val_convert_int hag hs hd hk
    · split at hkd <;> cases hkd
    · cases hkd
  case call cl =>
    obtain ⟨cal, args, ts⟩ := cl
    cases cal with
    | builtin b =>
      cases b <;> first
        | (simp only [kindOf] at hkd; done)
        | (cases hm : isMapT c.P ts with
            | true => simp [kindOf, hm] at hkd
            | false => exact val_quiet_builtin hag (.inl ⟨rfl, hm⟩) hk)
        | exact val_quiet_builtin hag (.inr (.inl rfl)) hk
        | exact val_quiet_builtin hag (.inr (.inr (.inl rfl))) hk
        | exact val_quiet_builtin hag (.inr (.inr (.inr rfl))) hk
        | (simp [kindOf] at hkd)
    | _ => simp [kindOf] at hkd
  all_goals simp [kindOf] at hkd

theorem load_kind {c : Cfg} {op : Op} {t : TypeId} {x : Operand} (h : kindOf c op = .load t x) : op = .load t x := by
  cases op <;> simp [kindOf] at h
  case load => rw [h.1, h.2]
  case convert => repeat' (first | (cases h; done) | split at h)
  case call cl =>
    obtain ⟨cal, args, ts⟩ := cl
    cases cal with
    | builtin b => cases b <;> simp at h <;> (cases hm : isMapT c.P ts <;> simp [hm] at h)
    | _ => simp at h

def holdsL (h : Heap) (l : List (Nat × Nat × Value)) : Prop := ∀ q, q ∈ l → h.cell q.1 q.2.1 = some q.2.2

theorem has_cells {h : Heap} {b o : Nat} : ∀ {vs : List Value} {i : Nat}, holdsL h (cellsL b o i vs) ↔ h.has b (o + i) vs
  | [], i => ⟨fun _ => trivial, fun _ q hq => (by simp [cellsL] at hq)⟩
  | v :: vs, i => by
    have ih := has_cells (h := h) (b := b) (o := o) (vs := vs) (i := i + 1)
    unfold holdsL at ih ⊢
    simp only [cellsL, List.forall_mem_cons, addO_eq, ih]
    rfl

theorem ldH_spec {P : Program} {t : TypeId} {b o : Nat} {K : EV → List (Nat × Nat × Value) → Prop} {h : Heap} (hk : ldH P t h b o K) :
    ∃ v cells, holdsL h cells ∧ (∀ w : World, holdsL w.heap cells → (loadVar t ⟨b, o, none⟩).run P w = .ok v.v w) ∧ K v cells := by
  unfold ldH at hk
  cases hu : P.underlying t with
  | none => rw [hu] at hk; simp [isAggD, ldLeaf] at hk
  | some d =>
    obtain ⟨i, hi⟩ := info_of_underlying P hu
    rw [hu] at hk
    unfold loadVar
    cases ha : isAggD (some d) with
    | true =>
      rw [ha] at hk
      simp only [cond_true] at hk
      cases hl : Nat.beq (leavesOf P 8 t).length (P.cellsOf t) with
      | false => rw [hl] at hk; exact hk.elim
      | true =>
        rw [hl] at hk
        obtain ⟨vs, hlen, hh, hk⟩ := ldAll_spec hk
        have hs : i.size = vs.length := by rw [hlen, Nat.eq_of_beq_eq_true hl, cellsOf_eq P hi]
        refine ⟨.val (.agg vs.toArray), _, has_cells.2 hh, fun w hw => ?_, hk⟩
        have hw := has_cells.1 hw
        simp only [Sem.run_bind, run_isAgg P w t hu, ha, Result.andThen_ok, if_true, run_sizeOf P w t hi, hs]
        rw [run_loadCells P w b o vs (by simpa using hw)]
        rfl
    | false =>
      rw [ha] at hk
      simp only [cond_false] at hk
      obtain ⟨v, hc, hk, _⟩ := ldLeaf_spec hk
      refine ⟨v, _, ?_, fun w hw => ?_, hk⟩
      · intro q hq
        simp only [List.mem_singleton] at hq
        subst hq
        exact hc
      have hw : Heap.cell w.heap b o = some v.v := hw _ (.head _)
      simp only [Sem.run_bind, run_isAgg P w t hu, ha, Result.andThen_ok, Bool.false_eq_true, if_false]
      exact run_load_cell P w hw _

theorem text_kind {c : Cfg} {op : Op} {x : Operand} (h : kindOf c op = .text x) : ∃ s d e, op = .convert s d x ∧ c.P.underlying s = some (.slice e) ∧ c.P.underlying d = some .string ∧ c.P.underlying e = some (.int .u8) := by
  cases op <;> simp [kindOf] at h
  case convert s d y =>
    split at h
    · cases h
    · rename_i e hs hd
      split at h
      · rename_i he
        cases h
        exact ⟨s, d, e, rfl, hs, hd, he⟩
      · cases h
    · cases h
  case call cl =>
    obtain ⟨cal, args, ts⟩ := cl
    cases cal with
    | builtin b => cases b <;> simp at h <;> (cases hm : isMapT c.P ts <;> simp [hm] at h)
    | _ => simp at h

theorem heldL_spec {h : Heap} : ∀ {l : List (Nat × Nat × Value)}, heldL h l ↔ holdsL h l
  | [] => ⟨fun _ q hq => (by cases hq), fun _ => trivial⟩
  | (b, o, v) :: r => by
    have ih := heldL_spec (h := h) (l := r)
    unfold holdsL at ih ⊢
    simp only [heldL, List.forall_mem_cons, ih]

def keptOf (hd : HeldL) : Kept := hd.map fun x => (x.1, fun w => x.2 w.heap)

theorem heldP_spec {w : World} {K : Prop} : ∀ {hd : HeldL}, heldP w.heap hd K → (keptOf hd).all w ∧ K
  | [], hk => ⟨fun q hq => (by cases hq), hk⟩
  | x :: r, hk => by
    obtain ⟨h1, hk⟩ := hk
    obtain ⟨h2, hk⟩ := heldP_spec (hd := r) hk
    refine ⟨fun q hq => ?_, hk⟩
    rcases List.mem_cons.1 hq with rfl | hq
    · exact h1
    · exact h2 q hq

def nxt (ops : Array Oper) (L : Kept) (j : Nat) : Kept :=
  match ops[j]? with
  | some o => L.filter fun p => !waitsB p.1 o.after.toList
  | none => L

theorem nxt_next (ops : Array Oper) : Next ops (nxt ops) where
  mem L j p hp := by
    unfold nxt at hp
    split at hp
    · exact (List.mem_filter.1 hp).1
    · exact hp
  keep L j p hp hw := by
    unfold nxt
    split
    · rename_i o ho
      refine List.mem_filter.2 ⟨hp, ?_⟩
      cases hb : waitsB p.1 o.after.toList with
      | false => rfl
      | true =>
        obtain ⟨e, he, h1, h2⟩ := waitsB_iff.1 hb
        exact absurd ⟨o, ho, e, by simpa using he, h1, h2⟩ hw
    · exact hp
  same L L' j p hp hl := by
    unfold nxt at hp ⊢
    split at hp
    · rename_i o ho
      exact List.mem_filter.2 ⟨hl, (List.mem_filter.1 hp).2⟩
    · exact hl

theorem nxt_kept {ops : Array Oper} {j : Nat} {o : Oper} (ho : ops[j]? = some o) (hd : HeldL) : nxt ops (keptOf hd) j = keptOf (dropH o hd) := by
  unfold nxt
  rw [ho]
  simp only
  induction hd with
  | nil => rfl
  | cons x r ih =>
    have e : keptOf (x :: r) = (x.1, fun w : World => x.2 w.heap) :: keptOf r := rfl
    rw [e, List.filter_cons]
    simp only [dropH]
    cases hb : waitsB x.1 o.after.toList with
    | true => simp only [Bool.not_true, Bool.false_eq_true, if_false, cond_true]; exact ih
    | false => simp only [Bool.not_false, if_true, cond_false]; rw [ih]; rfl

theorem noneB_spec {ops : Array Oper} {m : Nat} {listed : Array Bool} (hr : Rel ops m listed) (h : noneB m 0 ops.toList = true) : Region.ready .any ops listed = [] := by
  have key : ∀ (os : List Oper) (k : Nat), noneB m k os = true → ∀ j o, os[j]? = some o → readyB m (k + j) o = false := by
    intro os
    induction os with
    | nil => intro k _ j o ho; simp at ho
    | cons x os ih =>
      intro k h j o ho
      simp only [noneB] at h
      cases hx : readyB m k x with
      | true => rw [hx] at h; cases h
      | false =>
        rw [hx] at h
        cases j with
        | zero => simp at ho; subst ho; exact hx
        | succ j =>
          have := ih (k + 1) h j o (by simpa using ho)
          rw [show k + (j + 1) = k + 1 + j from by omega]
          exact this
  apply List.eq_nil_iff_forall_not_mem.2
  intro j hj
  obtain ⟨o, ho, hb⟩ := hr.ready.1 hj
  have := key _ 0 h j o (by simpa using ho)
  rw [Nat.zero_add, hb] at this
  cases this

section
variable {P : Program} {ops : Array Oper} {Q : Exit → Act → World → Prop} {i m : Nat} {o : Oper} {listed : Array Bool} {a : Act} {w : World} {L : Kept} {fuel : Nat} {v : Value} {S : World → Prop}

theorem lt_of_op (ho : ops[i]? = some o) : i < ops.size := by
  rcases Nat.lt_or_ge i ops.size with h | h
  · exact h
  · rw [Array.getElem?_eq_none h] at ho; cases ho

theorem only_of (hr : Rel ops m listed) (h : onlyB m i 0 ops.toList = true) : ∀ j, j ∈ Region.ready .any ops listed → j = i := by
  intro j hj
  obtain ⟨o', ho', hb⟩ := hr.ready.1 hj
  have := onlyB_spec h j o' (by simpa using ho') (by rw [Nat.zero_add]; exact hb)
  rw [Nat.zero_add] at this
  exact this

theorem free_of (hr : Rel ops m listed) (h : freeB ops o m i 0 ops.toList = true) :
    ∀ j oj, ops[j]? = some oj → j ≠ i → listed.getD j true = false → (∀ e ∈ oj.after, Region.binds .any e = true → e.on ≠ i) → o.apart ops oj = true := by
  intro j oj hj hne hl hno
  have hlt := lt_of_op hj
  refine freeB_spec h j oj (by simpa using hj) (by rw [Nat.zero_add]; exact hne) ?_ hno
  rw [Nat.zero_add, ← hr.bit' hlt]
  exact hl

theorem stepTake (ho : ops[i]? = some o) (hsel : Region.noSelect ops = true) (hQ : ∀ c a v w, Q (.panic c) (a.put o.dst v) w → Q (.panic c) a w) (hr : Rel ops m listed) (hm : readyB m i o = true) (hf : freeB ops o m i 0 ops.toList = true)
    (hy : YieldsIf P ops S o v a) (hS : S w) (hall : Kept.all L w) (h : wpK P ops Q (nxt ops) ((i, S) :: L) fuel (listed.setIfInBounds i true) (a.put o.dst v) w) :
    wpK P ops Q (nxt ops) L (fuel + 1) listed a w :=
  wpK_first (nxt_next ops) ho (Region.noSelect_spec hsel) (fun c a w h => hQ c a v w h) fuel L listed a w (free_of hr hf) (hr.ready.2 ⟨o, ho, hm⟩) hy hS hall h

theorem stepOnly (ho : ops[i]? = some o) (hr : Rel ops m listed) (hm : readyB m i o = true) (hf : onlyB m i 0 ops.toList = true)
    (hy : YieldsIf P ops S o v a) (hS : S w) (hall : Kept.all L w) (h : wpK P ops Q (nxt ops) L fuel (listed.setIfInBounds i true) (a.put o.dst v) w) :
    wpK P ops Q (nxt ops) L (fuel + 1) listed a w := by
  refine wpK_only (only_of hr hf) (hr.ready.2 ⟨o, ho, hm⟩) (hy.wpOp ho hS ⟨fun p hp => hall p ((nxt_next ops).mem _ _ _ hp), ?_⟩)
  exact wpK_weak (nxt_next ops) _ _ _ _ _ _ (fun p hp => .inl ((nxt_next ops).mem _ _ _ hp)) h

theorem stepPure (ho : ops[i]? = some o) (hsel : Region.noSelect ops = true) (hQ : ∀ c a v w, Q (.panic c) (a.put o.dst v) w → Q (.panic c) a w) (hr : Rel ops m listed) (hm : readyB m i o = true)
    (hf : freeB ops o m i 0 ops.toList = true ∨ onlyB m i 0 ops.toList = true)
    (hy : YieldsIf P ops (fun _ => True) o v a) (hall : Kept.all L w) (h : wpK P ops Q (nxt ops) L fuel (listed.setIfInBounds i true) (a.put o.dst v) w) :
    wpK P ops Q (nxt ops) L (fuel + 1) listed a w := by
  rcases hf with hf | hf
  · refine stepTake ho hsel hQ hr hm hf hy trivial hall ?_
    refine wpK_weak (nxt_next ops) _ _ _ _ _ _ (fun p hp => ?_) h
    rcases List.mem_cons.1 hp with rfl | hp
    · exact .inr fun _ => trivial
    · exact .inl hp
  · exact stepOnly ho hr hm hf hy trivial hall h
end

theorem only2_of {ops : Array Oper} {m i l : Nat} {listed : Array Bool} (hr : Rel ops m listed) (h : only2B m i l 0 ops.toList = true) : ∀ j, j ∈ Region.ready .any ops listed → j = i ∨ j = l := by
  intro j hj
  obtain ⟨o', ho', hb⟩ := hr.ready.1 hj
  have := only2B_spec h j o' (by simpa using ho') (by rw [Nat.zero_add]; exact hb)
  rw [Nat.zero_add] at this
  exact this

section
variable {c : Cfg} {ops : Array Oper} {D : List Nat} {a0 : Act} {w0 : World} {Qx : Ex → Env → Heap → Prop}

/-- what is to be shown of the rest -/
def Rest (c : Cfg) (ops : Array Oper) (D : List Nat) (a0 : Act) (w0 : World) (Qx : Ex → Env → Heap → Prop) (fuel m : Nat) (rest : HeldL → Env → Heap → Prop) : Prop :=
  ∀ (listed : Array Bool) (hd : HeldL) (e : Env) (a : Act) (w : World), Rel ops m listed → Agr c.n e a → Same w0 w → Keeps D a0 a → (keptOf hd).all w →
    rest hd e w.heap → wpK c.P ops (PostQ c D a0 w0 Qx) (nxt ops) (keptOf hd) fuel listed a w

theorem effP_wp (hc : c.OK) (hD : D = ops.toList.filterMap (·.dst)) {i m fuel : Nat} {o : Oper} {hd : HeldL} {e : Env} {a : Act} {w : World} {listed : Array Bool} {rest : HeldL → Env → Heap → Prop}
    (ho : ops[i]? = some o) (hr : Rel ops m listed) (hag : Agr c.n e a) (hs : Same w0 w) (hkp : Keeps D a0 a) (hall : (keptOf hd).all w) (ih : Rest c ops D a0 w0 Qx fuel (setN m i) rest) (hk : effP c ops o hd e w.heap rest) :
    wpOp c.P ops (PostQ c D a0 w0 Qx) i (fun a' w' => (nxt ops (keptOf hd) i).all w' ∧ wpK c.P ops (PostQ c D a0 w0 Qx) (nxt ops) (nxt ops (keptOf hd) i) fuel (listed.setIfInBounds i true) a' w') a w := by
  have hr' := hr.set (lt_of_op ho)
  have hput : ∀ v, Keeps D a0 (a.put o.dst v) := fun v => hkp.trans (Keeps.put fun x hx => hD ▸ mem_dsts ho hx)
  unfold effP at hk
  rcases guardP_spec hag hk with ⟨e1, hag1, hw, hk⟩ | ⟨e1, hag1, hw, hk⟩
  · rw [nxt_kept ho]
    unfold Go.wpOp
    simp only [ho, hw, if_true]
    left
    refine opP_wp hc hag1 hk fun v w' hs' hk => ?_
    obtain ⟨e', hag', hk⟩ := setD_put hag1 hk
    obtain ⟨hall', hk⟩ := heldP_spec hk
    exact ⟨hall', ih _ _ e' _ w' hr' hag' (hs.trans hs') (hput _) hall' hk⟩
  · obtain ⟨e', hag', hk⟩ := setD_put hag1 hk
    have hy : YieldsIf c.P ops (fun _ => True) o undef a := .inr ⟨hw, rfl⟩
    refine hy.wpOp ho trivial ⟨fun p hp => hall p ((nxt_next ops).mem _ _ _ hp), ?_⟩
    exact wpK_weak (nxt_next ops) _ _ _ _ _ _ (fun p hp => .inl ((nxt_next ops).mem _ _ _ hp)) (ih _ hd e' _ w hr' hag' hs (hput _) hall hk)

/-- an operation that reads w's memory alone -/
theorem getP_wp (hD : D = ops.toList.filterMap (·.dst)) {i m fuel : Nat} {o : Oper} {hd : HeldL} {e : Env} {a : Act} {w : World} {listed : Array Bool} {rest : HeldL → Env → Heap → Prop}
    (ho : ops[i]? = some o) (hr : Rel ops m listed) (hag : Agr c.n e a) (hs : Same w0 w) (hkp : Keeps D a0 a) (hall : (keptOf hd).all w) (ih : Rest c ops D a0 w0 Qx fuel (setN m i) rest)
    (hq : ∀ {e : Env} {K : EV → Heap → Prop}, Agr c.n e a → opP c o.op e w.heap K → QVal c o a w.heap K) (hm : readyB m i o = true) (hf : onlyB m i 0 ops.toList = true)
    (hk : getP c ops o hd e w.heap rest) : wpK c.P ops (PostQ c D a0 w0 Qx) (nxt ops) (keptOf hd) (fuel + 1) listed a w := by
  have hr' := hr.set (lt_of_op ho)
  have hput : ∀ v, Keeps D a0 (a.put o.dst v) := fun v => hkp.trans (Keeps.put fun x hx => hD ▸ mem_dsts ho hx)
  unfold getP at hk
  rcases guardP_spec hag hk with ⟨e1, hag1, hw, hk⟩ | ⟨e1, hag1, hw, hk⟩
  · obtain ⟨v, hrun, hk⟩ := hq hag1 hk
    obtain ⟨e', hag', hk⟩ := setD_put hag1 hk
    exact stepOnly (S := fun w' => w'.heap = w.heap) ho hr hm hf (v := v.v) (.inl ⟨hw, fun w' hw' => hrun w' hw'⟩) rfl hall (ih _ hd e' _ w hr' hag' hs (hput _) hall hk)
  · obtain ⟨e', hag', hk⟩ := setD_put hag1 hk
    exact stepOnly (S := fun _ => True) ho hr hm hf (v := undef) (.inr ⟨hw, rfl⟩) trivial hall (ih _ hd e' _ w hr' hag' hs (hput _) hall hk)

/-- an operation that may be taken first, as long as what it reads holds -/
theorem takeP_wp (hD : D = ops.toList.filterMap (·.dst)) (hsel : Region.noSelect ops = true) {i m fuel : Nat} {o : Oper} {hd : HeldL} {e : Env} {a : Act} {w : World} {listed : Array Bool} {rest : HeldL → Env → Heap → Prop} {A : Env → Prop}
    (ho : ops[i]? = some o) (hr : Rel ops m listed) (hag : Agr c.n e a) (hs : Same w0 w) (hkp : Keeps D a0 a) (hall : (keptOf hd).all w) (ih : Rest c ops D a0 w0 Qx fuel (setN m i) rest)
    (hm : readyB m i o = true) (hf : freeB ops o m i 0 ops.toList = true)
    (hA : ∀ e1, Agr c.n e1 a → A e1 → ∃ (v : EV) (S : Heap → Prop), S w.heap ∧ (∀ w' : World, S w'.heap → (execOp a.eval o).run c.P w' = .ok (.value v.v) w') ∧ setD c.n e1 o.dst v fun e' => rest ((i, S) :: hd) e' w.heap)
    (hk : guardP ops.toList o e A (fun e => setD c.n e o.dst (.val undef) fun e' => rest hd e' w.heap)) : wpK c.P ops (PostQ c D a0 w0 Qx) (nxt ops) (keptOf hd) (fuel + 1) listed a w := by
  have hr' := hr.set (lt_of_op ho)
  have hput : ∀ v, Keeps D a0 (a.put o.dst v) := fun v => hkp.trans (Keeps.put fun x hx => hD ▸ mem_dsts ho hx)
  have hQ : ∀ c' a' v w', PostQ c D a0 w0 Qx (.panic c') (a'.put o.dst v) w' → PostQ c D a0 w0 Qx (.panic c') a' w' := fun _ _ _ _ h => h.elim
  rcases guardP_spec hag hk with ⟨e1, hag1, hw, hk⟩ | ⟨e1, hag1, hw, hk⟩
  · obtain ⟨v, S, hS, hrun, hk⟩ := hA e1 hag1 hk
    obtain ⟨e', hag', hk⟩ := setD_put hag1 hk
    refine stepTake (S := fun w => S w.heap) ho hsel hQ hr hm hf (v := v.v) (.inl ⟨hw, fun w' hw' => hrun w' hw'⟩) hS hall ?_
    refine ih _ ((i, S) :: hd) e' _ w hr' hag' hs (hput _) ?_ hk
    intro q hq
    rcases List.mem_cons.1 hq with rfl | hq
    · exact hS
    · exact hall q hq
  · obtain ⟨e', hag', hk⟩ := setD_put hag1 hk
    exact stepPure ho hsel hQ hr hm (.inl hf) (v := undef) (.inr ⟨hw, rfl⟩) hall (ih _ hd e' _ w hr' hag' hs (hput _) hall hk)

theorem ordP_sound (hc : c.OK) (hD : D = ops.toList.filterMap (·.dst)) (hsel : Region.noSelect ops = true) {K : Env → Heap → Prop} (hKQ : ∀ e' h', K e' h' → Qx .normal e' h') :
    ∀ (l : OrdT) (fuel m : Nat), l.depth ≤ fuel → Rest c ops D a0 w0 Qx fuel m (ordP c ops K l m)
  | .done, fuel, m, hf => by
    intro listed hd e a w hr hag hs hkp hall hk
    unfold ordP at hk
    obtain ⟨h0, hk⟩ := blt_of hk
    exact wpK_done (noneB_spec hr h0) ⟨e, hag, hs, hkp, hKQ _ _ hk⟩ fuel
  | .fork i r j s, 0, m, hf => by simp [OrdT.depth] at hf
  | .take i r, 0, m, hf => by simp [OrdT.depth] at hf
  | .fork i r j s, fuel + 1, m, hf => by
    have hf1 : r.depth ≤ fuel := by
      have h1 : Nat.max r.depth s.depth + 1 ≤ fuel + 1 := hf
      have h2 : r.depth ≤ Nat.max r.depth s.depth := Nat.le_max_left _ _
      omega
    have hf2 : s.depth ≤ fuel := by
      have h1 : Nat.max r.depth s.depth + 1 ≤ fuel + 1 := hf
      have h2 : s.depth ≤ Nat.max r.depth s.depth := Nat.le_max_right _ _
      omega
    have ih1 := ordP_sound hc hD hsel hKQ r fuel (setN m i) hf1
    have ih2 := ordP_sound hc hD hsel hKQ s fuel (setN m j) hf2
    intro listed hd e a w hr hag hs hkp hall hk
    unfold ordP at hk
    split at hk
    · rename_i o p ho hp
      obtain ⟨hb, hk1, hk2⟩ := blt_of hk
      simp only [Bool.and_eq_true] at hb
      exact wpK_two (only2_of hr hb.2.2) (hr.ready.2 ⟨o, ho, hb.1⟩) (effP_wp hc hD ho hr hag hs hkp hall ih1 hk1) (effP_wp hc hD hp hr hag hs hkp hall ih2 hk2)
    · exact hk.elim
  | .take i r, fuel + 1, m, hf => by
    have hf1 : r.depth ≤ fuel := Nat.le_of_succ_le_succ hf
    have ih := ordP_sound hc hD hsel hKQ r fuel (setN m i) hf1
    intro listed hd e a w hr hag hs hkp hall hk
    unfold ordP at hk
    split at hk
    · exact hk.elim
    · rename_i o ho
      have eff : readyB m i o = true → onlyB m i 0 ops.toList = true → effP c ops o hd e w.heap (ordP c ops K r (setN m i)) → wpK c.P ops (PostQ c D a0 w0 Qx) (nxt ops) (keptOf hd) (fuel + 1) listed a w :=
        fun h1 h2 hk => wpK_only (only_of hr h2) (hr.ready.2 ⟨o, ho, h1⟩) (effP_wp hc hD ho hr hag hs hkp hall ih hk)
      have hr' := hr.set (lt_of_op ho)
      have hput : ∀ v, Keeps D a0 (a.put o.dst v) := fun v => hkp.trans (Keeps.put fun x hx => hD ▸ mem_dsts ho hx)
      have hQ : ∀ c' a' v w', PostQ c D a0 w0 Qx (.panic c') (a'.put o.dst v) w' → PostQ c D a0 w0 Qx (.panic c') a' w' := fun _ _ _ _ h => h.elim
      split at hk
      · rename_i hkd
        obtain ⟨hb, hk⟩ := blt_of hk
        simp only [Bool.and_eq_true, Bool.or_eq_true] at hb
        unfold getP at hk
        rcases guardP_spec hag hk with ⟨e1, hag1, hw, hk⟩ | ⟨e1, hag1, hw, hk⟩
        · obtain ⟨v, hrun, hk⟩ := pure_val hag1 hkd hk
          obtain ⟨e', hag', hk⟩ := setD_put hag1 hk
          exact stepPure ho hsel hQ hr hb.1 hb.2 (v := v.v) (.inl ⟨hw, fun w _ => hrun w trivial⟩) hall (ih _ hd e' _ w hr' hag' hs (hput _) hall hk)
        · obtain ⟨e', hag', hk⟩ := setD_put hag1 hk
          exact stepPure ho hsel hQ hr hb.1 hb.2 (v := undef) (.inr ⟨hw, rfl⟩) hall (ih _ hd e' _ w hr' hag' hs (hput _) hall hk)
      · rename_i t x hkd
        have hop := load_kind hkd
        cases hf1 : (readyB m i o && freeB ops o m i 0 ops.toList) with
        | true =>
          rw [hf1] at hk
          simp only [Bool.and_eq_true] at hf1
          simp only [cond_true] at hk
          refine takeP_wp hD hsel ho hr hag hs hkp hall ih hf1.1 hf1.2 (fun e1 hag1 hk => ?_) hk
          split at hk
          · rename_i y hy
            obtain ⟨b, p, hp, hk⟩ := atP_spec hk
            obtain ⟨v, cells, hcells, hrun, hk⟩ := ldH_spec hk
            refine ⟨v, fun h' => heldL h' cells, heldL_spec.2 hcells, fun w' hw' => ?_, hk⟩
            obtain ⟨dst, op, type, pos, after, guard⟩ := o
            simp only at hop
            subst hop
            refine run_v (s := Instr.loadAt t (a.eval x)) ?_
            rw [hag1.ev hy, hp]
            exact run_loadAt (hrun w' (heldL_spec.1 hw'))
          · exact hk.elim
        | false =>
          rw [hf1] at hk
          simp only [cond_false] at hk
          obtain ⟨hb, hk⟩ := blt_of hk
          simp only [Bool.and_eq_true] at hb
          refine getP_wp hD ho hr hag hs hkp hall ih (fun {e K} h1 h2 => ?_) hb.1 hb.2 hk
          obtain ⟨dst, op, type, pos, after, guard⟩ := o
          simp only at hop
          subst hop
          exact val_load h1 h2
      · rename_i x hkd
        obtain ⟨s, d, el, hop, hus, hud, hue⟩ := text_kind hkd
        cases hf1 : (readyB m i o && freeB ops o m i 0 ops.toList) with
        | true =>
          rw [hf1] at hk
          simp only [Bool.and_eq_true] at hf1
          simp only [cond_true] at hk
          refine takeP_wp hD hsel ho hr hag hs hkp hall ih hf1.1 hf1.2 (fun e1 hag1 hk => ?_) hk
          split at hk
          · rename_i p l n hy
            obtain ⟨str, hrun, hk⟩ := run_b2s (P := c.P) (w := w) (x := ⟨p, l, n⟩) (K := fun s => b2s ⟨p, l, n⟩ w.heap (fun s' => s' = s) ∧ setD c.n e1 o.dst (.val (.string s)) fun e' => ordP c ops K r (setN m i) ((i, fun h' => b2s ⟨p, l, n⟩ h' fun s' => s' = s) :: hd) e' w.heap) (by
              rcases hk with ⟨h0, hk⟩ | ⟨b, o2, s, h1, h2, h3, hk⟩
              · exact .inl ⟨h0, .inl ⟨h0, rfl⟩, hk⟩
              · exact .inr ⟨b, o2, s, h1, h2, h3, .inr ⟨b, o2, s, h1, h2, h3, rfl⟩, hk⟩)
            refine ⟨.val (.string str), fun h' => b2s ⟨p, l, n⟩ h' fun s' => s' = str, hk.1, fun w' hw' => ?_, hk.2⟩
            obtain ⟨s2, hrun2, rfl⟩ := run_b2s (P := c.P) (w := w') hw'
            obtain ⟨dst, op, type, pos, after, guard⟩ := o
            simp only at hop
            subst hop
            refine run_v (s := convert s d (a.eval x)) ?_
            rw [hag1.ev hy]
            exact (run_convert_b2s hus hud hue).trans hrun2
          · exact hk.elim
        | false =>
          rw [hf1] at hk
          simp only [cond_false] at hk
          obtain ⟨hb, hk⟩ := blt_of hk
          simp only [Bool.and_eq_true] at hb
          exact eff hb.1 hb.2 hk
      · obtain ⟨hb, hk⟩ := blt_of hk
        simp only [Bool.and_eq_true] at hb
        exact eff hb.1 hb.2 hk
end

theorem lookE_some {e : Env} : ∀ {slots : List Nat} {es : List EV} {vs : List EV} {j : Nat} {v : EV}, readE e slots = some es → es.map EV.v = vs.map EV.v → lookE slots vs j = some v → ∃ u, e j = some u ∧ u.v = v.v
  | [], es, vs, j, v, _, _, h => by simp [lookE] at h
  | s :: ss, es, vs, j, v, hr, hm, h => by
    simp only [readE] at hr
    split at hr
    · rename_i u us hu hus
      simp only [Option.some.injEq] at hr
      subst hr
      cases vs with
      | nil => simp [lookE] at h
      | cons v' vs =>
        simp only [List.map_cons, List.cons.injEq] at hm
        simp only [lookE] at h
        cases hb : Nat.beq j s with
        | true =>
          have := Nat.eq_of_beq_eq_true hb
          subst this
          rw [hb] at h
          simp only [cond_true, Option.some.injEq] at h
          subst h
          exact ⟨u, hu, hm.1⟩
        | false =>
          rw [hb] at h
          exact lookE_some hus hm.2 h
    · cases hr

/-- at a cut: what is read there, laid over what was known before -/
theorem fill_agr {c : Cfg} {slots : List Nat} {tys : List VT} {kill : List (Nat × Nat)} {e e' : Env} {a a' : Act} {D : List Nat} {t : TupV tys} (hag : Agr c.n e a) (hag' : Agr c.n e' a') (hkeep : Keeps D a a')
    (hin : D.all (fun j => memN slots j || killed kill j) = true) (hr : readT slots tys e' = some t) (hall : ∀ j, memN slots j = true → ∃ v, lookE slots (TupV.evs tys t) j = some v) :
    Agr c.n (fillE slots (TupV.evs tys t) kill e) a' := by
  refine ⟨hag'.size, hag'.defers, fun j v hj => ?_⟩
  unfold fillE at hj
  unfold readT at hr
  split at hr
  · rename_i es hes
    have hm := tupV_un hr
    cases hl : lookE slots (TupV.evs tys t) j with
    | some u =>
      rw [hl] at hj
      simp only [Option.some.injEq] at hj
      subst hj
      obtain ⟨x, hx, hv⟩ := lookE_some hes hm.symm hl
      rw [← hv]
      exact hag'.val j x hx
    | none =>
      rw [hl] at hj
      simp only at hj
      cases hk : killed kill j with
      | true => rw [hk] at hj; cases hj
      | false =>
        rw [hk] at hj
        simp only [cond_false] at hj
        have hnot : j ∉ D := by
          intro hD
          have := List.all_eq_true.1 hin j hD
          rw [hk, Bool.or_false] at this
          obtain ⟨v', hv'⟩ := hall j this
          rw [hl] at hv'
          cases hv'
        rw [hkeep j hnot]
        exact hag.val j v hj
  · cases hr

theorem lookE_all {e : Env} : ∀ {slots : List Nat} {es vs : List EV} {j : Nat}, readE e slots = some es → es.map EV.v = vs.map EV.v → memN slots j = true → ∃ v, lookE slots vs j = some v
  | [], es, vs, j, _, _, h => by simp [memN] at h
  | s :: ss, es, vs, j, hr, hm, h => by
    simp only [readE] at hr
    split at hr
    · rename_i u us hu hus
      simp only [Option.some.injEq] at hr
      subst hr
      cases vs with
      | nil => simp at hm
      | cons v' vs =>
        simp only [List.map_cons, List.cons.injEq] at hm
        simp only [lookE]
        simp only [memN] at h
        cases hb : Nat.beq j s with
        | true => exact ⟨v', rfl⟩
        | false =>
          rw [hb] at h
          exact lookE_all hus hm.2 h
    · cases hr

theorem readT_all {slots : List Nat} {tys : List VT} {e : Env} {t : TupV tys} (hr : readT slots tys e = some t) : ∀ j, memN slots j = true → ∃ v, lookE slots (TupV.evs tys t) j = some v := by
  intro j hj
  unfold readT at hr
  split at hr
  · rename_i es hes
    exact lookE_all hes (tupV_un hr).symm hj
  · cases hr

theorem leafP_spec {slots : List Nat} {tys : List VT} {e : Env} {J : TupV tys → Heap → Prop} {h : Heap} (hk : leafP slots tys e J h) : ∃ t, readT slots tys e = some t ∧ J t h := by
  unfold leafP at hk
  split at hk
  · rename_i t ht
    exact ⟨t, ht, hk⟩
  · exact hk.elim

theorem wpC_sound {c : Cfg} (hc : c.OK) (hmixed : c.P.follows .mixedOrders = true) : ∀ (code : Code) (ann : Ann) (e : Env) (a : Act) (w : World) (Q : Ex → Env → Heap → Prop),
    Agr c.n e a → wpC c code ann e w.heap Q → code.wp c.P (PostQ c (dstsOf code) a w Q) a w
  | .skip, ann, e, a, w, Q, hag, hk => wp_skip ⟨e, hag, Same.refl w, Keeps.refl _ a, hk⟩
  | .region id ops draw, ann, e, a, w, Q, hag, hk => by
    unfold wpC at hk
    cases draw with
    | false =>
      refine wp_region ?_
      rw [List.range_eq_range']
      have := runOps_wp hc (ops := ops) (Q := PostQ c (dstsOf (.region id ops false)) a w Q) ops.toList 0 (by simp) hag hk (fun e' a' w' h1 h2 h3 h4 => ⟨e', h1, h2, h3, h4⟩)
      simpa using this
    | true =>
      simp only at hk
      split at hk
      · rename_i l
        obtain ⟨hb, hk⟩ := blt_of hk
        simp only [Bool.and_eq_true] at hb
        refine wp_region_any hmixed (wpK_any (nx := nxt ops) _ (keptOf []) _ _ _ ?_)
        exact ordP_sound hc (D := dstsOf (.region id ops true)) rfl hb.1 (fun _ _ h => h) l ops.size 0 (Nat.le_of_ble_eq_true hb.2) _ [] e a { w with drawn := w.drawn + 1 } (Rel.zero ops) hag ⟨rfl, rfl, rfl⟩ (Keeps.refl _ a) (fun q hq => (by cases hq)) hk
      · obtain ⟨hb, hk⟩ := blt_of hk
        refine wp_region_quiet (C := Cls w w.heap) hmixed hb ⟨⟨rfl, rfl, rfl⟩, rfl⟩ ?_
        refine quiet_wp hc ops.toList 0 (by simp) hag hk fun e' a' h1 h3 h4 w' hw => ⟨e', h1, hw.1, h3, ?_⟩
        rw [hw.2]
        exact h4
  | .seq x y, ann, e, a, w, Q, hag, hk => by
    have plain : ∀ u v : Ann, wpC c x u e w.heap (contP (fun e' h' => wpC c y v e' h' Q) Q) → (Code.seq x y).wp c.P (PostQ c (dstsOf (.seq x y)) a w Q) a w := by
      intro u v hk
      refine wp_seq (wp_mono (wpC_sound hc hmixed x u e a w _ hag hk) ?_)
      intro ex a' w' hp
      cases ex <;> first
        | exact hp.elim
        | skip
      · obtain ⟨e', h1, h2, h3, h4⟩ := hp
        refine wp_mono (wpC_sound hc hmixed y v e' a' w' _ h1 h4) ?_
        exact PostQ.mono h2 (h3.mono fun j hj => List.mem_append.2 (.inl hj)) (fun j hj => List.mem_append.2 (.inr hj)) (fun _ _ _ h => h)
      · obtain ⟨e', h1, h2, h3, h4⟩ := hp
        exact ⟨e', h1, h2, h3.mono fun j hj => List.mem_append.2 (.inl hj), h4⟩
      · obtain ⟨e', h1, h2, h3, h4⟩ := hp
        exact ⟨e', h1, h2, h3.mono fun j hj => List.mem_append.2 (.inl hj), h4⟩
    unfold wpC at hk
    split at hk
    · rename_i slots tys kill u v
      cases hin : dstsIn slots kill x with
      | false => rw [hin] at hk; exact hk.elim
      | true =>
        rw [hin] at hk
        obtain ⟨J, hJ, hk⟩ := hk
        refine wp_seq (wp_mono (wpC_sound hc hmixed x u e a w _ hag hk) ?_)
        intro ex a' w' hp
        cases ex <;> first
          | exact hp.elim
          | skip
        · obtain ⟨e', h1, h2, h3, h4⟩ := hp
          obtain ⟨t, ht, hj⟩ := leafP_spec h4
          have hag2 := fill_agr hag h1 h3 hin ht (readT_all ht)
          refine wp_mono (wpC_sound hc hmixed y v _ a' w' _ hag2 (hJ t w'.heap hj)) ?_
          exact PostQ.mono h2 (h3.mono fun j hj => List.mem_append.2 (.inl hj)) (fun j hj => List.mem_append.2 (.inr hj)) (fun _ _ _ h => h)
        · obtain ⟨e', h1, h2, h3, h4⟩ := hp
          exact ⟨e', h1, h2, h3.mono fun j hj => List.mem_append.2 (.inl hj), h4⟩
        · obtain ⟨e', h1, h2, h3, h4⟩ := hp
          exact ⟨e', h1, h2, h3.mono fun j hj => List.mem_append.2 (.inl hj), h4⟩
    · exact plain _ _ hk
  | .cond x p q, ann, e, a, w, Q, hag, hk => by
    have yes : ∀ u, wpC c p u e w.heap Q → p.wp c.P (PostQ c (dstsOf (.cond x p q)) a w Q) a w := fun u hk =>
      wp_mono (wpC_sound hc hmixed p u e a w Q hag hk) (PostQ.mono (Same.refl w) (Keeps.refl _ a) (fun j hj => List.mem_append.2 (.inl hj)) (fun _ _ _ h => h))
    have no : ∀ u, wpC c q u e w.heap Q → q.wp c.P (PostQ c (dstsOf (.cond x p q)) a w Q) a w := fun u hk =>
      wp_mono (wpC_sound hc hmixed q u e a w Q hag hk) (PostQ.mono (Same.refl w) (Keeps.refl _ a) (fun j hj => List.mem_append.2 (.inr hj)) (fun _ _ _ h => h))
    unfold wpC at hk
    split at hk
    · rename_i hx; exact wp_cond_true (hag.ev hx) (yes _ hk)
    · rename_i hx; exact wp_cond_false (hag.ev hx) (no _ hk)
    · rename_i b hx
      exact wp_cond_split (hag.ev hx) (fun hb => yes _ (hk.1 hb)) (fun hb => no _ (hk.2 hb))
    · exact hk.elim
  | .block id x, ann, e, a, w, Q, hag, hk => by
    unfold wpC at hk
    refine wp_block (wp_mono (wpC_sound hc hmixed x _ e a w _ hag hk) ?_)
    intro ex a' w' hp
    cases ex <;> first
      | exact hp.elim
      | skip
    · exact hp
    · rename_i id'
      obtain ⟨e', h1, h2, h3, h4⟩ := hp
      simp only [Exit.inBlock]
      simp only [blockP] at h4
      cases hb : Nat.beq id' id with
      | true =>
        rw [hb] at h4
        rw [if_pos (Nat.eq_of_beq_eq_true hb)]
        exact ⟨e', h1, h2, h3, h4⟩
      | false =>
        rw [hb] at h4
        rw [if_neg (Nat.ne_of_beq_eq_false hb)]
        exact ⟨e', h1, h2, h3, h4⟩
    · exact hp
  | .loop x, ann, e, a, w, Q, hag, hk => by
    unfold wpC at hk
    split at hk
    · rename_i slots tys kill u
      cases hin : dstsIn slots kill x with
      | false => rw [hin] at hk; exact hk.elim
      | true =>
        rw [hin] at hk
        simp only [cond_true] at hk
        split at hk
        · rename_i t0 ht0
          obtain ⟨I, μ, h0, hr⟩ := hk
          have hall := readT_all ht0
          have hall' : ∀ (t : TupV tys) j, memN slots j = true → ∃ v, lookE slots (TupV.evs tys t) j = some v := by
            intro t j hj
            obtain ⟨v, hv⟩ := hall j hj
            have len : ∀ (ts : List VT) (s s' : TupV ts), (TupV.evs ts s).length = (TupV.evs ts s').length := by
              intro ts
              induction ts with
              | nil => intro s s'; rfl
              | cons x xs ih => intro s s'; simp only [TupV.evs, List.length_cons]; exact congrArg _ (ih _ _)
            have go : ∀ (ss : List Nat) (us vs : List EV), us.length = vs.length → (∃ v, lookE ss us j = some v) → ∃ v, lookE ss vs j = some v := by
              intro ss
              induction ss with
              | nil => intro us vs _ h; simp [lookE] at h
              | cons s ss ih =>
                intro us vs hlen h
                cases us with
                | nil => simp [lookE] at h
                | cons u us =>
                  cases vs with
                  | nil => simp at hlen
                  | cons v' vs =>
                    simp only [lookE] at h ⊢
                    cases hb : Nat.beq j s with
                    | true => exact ⟨v', rfl⟩
                    | false =>
                      rw [hb] at h
                      exact ih us vs (by simpa using hlen) h
            exact go slots _ _ (len tys t0 t) ⟨v, hv⟩
          refine wp_loop_ghost (fun n a' w' => Same w w' ∧ Keeps (dstsOf x) a a' ∧ ∃ t, Agr c.n (fillE slots (TupV.evs tys t) kill e) a' ∧ I t w'.heap ∧ n = μ t w'.heap)
            (μ t0 w.heap) ⟨Same.refl w, Keeps.refl _ a, t0, fill_agr hag hag (Keeps.refl _ a) hin ht0 hall, h0, rfl⟩ ?_
          rintro n a' w' ⟨hs, hkeep, t, hagt, hI, rfl⟩
          refine wp_mono (wpC_sound hc hmixed x u _ a' w' _ hagt (hr t w'.heap hI)) ?_
          intro ex a2 w2 hp
          cases ex <;> first
            | exact hp.elim
            | skip
          · obtain ⟨e2, h1, h2, h3, h4⟩ := hp
            have h5 : leafP slots tys e2 (fun s' h' => I s' h' ∧ μ s' h' < μ t w'.heap) w2.heap := h4
            obtain ⟨t2, ht2, hI2, hμ⟩ := leafP_spec h5
            exact ⟨_, hμ, hs.trans h2, hkeep.trans h3, t2, fill_agr hag h1 (hkeep.trans h3) hin ht2 (hall' t2), hI2, rfl⟩
          · obtain ⟨e2, h1, h2, h3, h4⟩ := hp
            exact ⟨e2, h1, hs.trans h2, hkeep.trans h3, h4⟩
          · obtain ⟨e2, h1, h2, h3, h4⟩ := hp
            exact ⟨e2, h1, hs.trans h2, hkeep.trans h3, h4⟩
        · exact hk.elim
    · exact hk.elim
  | .exit id, ann, e, a, w, Q, hag, hk => wp_exit ⟨e, hag, Same.refl w, Keeps.refl _ a, hk⟩
  | .ret, ann, e, a, w, Q, hag, hk => wp_ret ⟨e, hag, Same.refl w, Keeps.refl _ a, hk⟩
  | .rangeFunc _ _ _ _, ann, e, a, w, Q, hag, hk => hk.elim
  | .scope _, ann, e, a, w, Q, hag, hk => hk.elim
  | .label _, ann, e, a, w, Q, hag, hk => hk.elim
  | .goto _, ann, e, a, w, Q, hag, hk => hk.elim
  | .refuse _, ann, e, a, w, Q, hag, hk => hk.elim

/-! ### a whole function -/
theorem argEnv_agr : ∀ (args : List EV) (i : Nat) (j : Nat) (v : EV), argEnv'.go args i j = some v → ∃ k, j = i + k ∧ args[k]? = some v
  | [], i, j, v, h => by simp [argEnv'.go] at h
  | x :: xs, i, j, v, h => by
    simp only [argEnv'.go] at h
    cases hb : Nat.beq j i with
    | true =>
      rw [hb] at h
      simp only [cond_true, Option.some.injEq] at h
      exact ⟨0, Nat.eq_of_beq_eq_true hb, by simp [h]⟩
    | false =>
      rw [hb] at h
      obtain ⟨k, hk, hv⟩ := argEnv_agr xs (i + 1) j v h
      exact ⟨k + 1, by omega, by simpa using hv⟩

theorem resP_spec {c : Cfg} {e : Env} {a : Act} {w : World} (hag : Agr c.n e a) {f : ResultVar → Sem Value} (h1 : ∀ t, f (.tmp t) = pure (a.tmps.getD t undef))
    (h2 : ∀ x t, f (.cell x t) = (do loadVar t (← asAddr (a.tmps.getD x undef)))) : ∀ {rs : List ResultVar} {K : List EV → Prop}, resP c e w.heap rs K →
    ∃ vs, (rs.mapM f).run c.P w = .ok (vs.map EV.v) w ∧ K vs
  | [], K, hk => ⟨[], rfl, hk⟩
  | .tmp t :: r, K, hk => by
    simp only [resP] at hk
    split at hk
    · rename_i v hv
      obtain ⟨vs, hr, hk⟩ := resP_spec hag h1 h2 hk
      refine ⟨v :: vs, ?_, hk⟩
      have := hag.val t v hv
      rw [List.mapM_cons]
      simp only [h1, Sem.run_bind, Sem.run_pure, Result.andThen_ok, hr, List.map_cons]
      simp [this]
    · exact hk.elim
  | .cell x t :: r, K, hk => by
    simp only [resP] at hk
    split at hk
    · rename_i b o hv
      obtain ⟨v, hl, hk⟩ := ldT_spec hk
      obtain ⟨vs, hr, hk⟩ := resP_spec hag h1 h2 hk
      refine ⟨v :: vs, ?_, hk⟩
      have := hag.val x _ hv
      have hx : (asAddr (a.tmps.getD x undef)).run c.P w = .ok ⟨b, o, none⟩ w := by
        have : a.tmps.getD x undef = .pointer (some ⟨b, o, none⟩) := by simp [this, EV.v]
        rw [this]; rfl
      rw [List.mapM_cons]
      simp only [h2, Sem.run_bind, Sem.run_pure, hx, Result.andThen_ok, hl w rfl, hr, List.map_cons]
    · exact hk.elim

def tupV (l : List Value) : Value := match l with
  | [v] => v
  | l => .tuple l.toArray

theorem tupleOf_v : ∀ (vs : List EV), (tupleOf vs).v = tupV (vs.map EV.v)
  | [] => rfl
  | [_] => rfl
  | _ :: _ :: _ => rfl

theorem tupV_size (l : List Value) : (if h : l.toArray.size = 1 then l.toArray[0] else Value.tuple l.toArray) = tupV l := by
  match l with
  | [] => rfl
  | [x] => rfl
  | x :: y :: r =>
    have : ¬ (x :: y :: r).toArray.size = 1 := by simp
    rw [dif_neg this]
    rfl

theorem resV_eq {res : List VT} {vs : List EV} {r : TupV res} (h : TupV.un res vs = some r) : resV res r = tupV (vs.map EV.v) := by
  unfold resV
  rw [tupleOf_v, tupV_un h]

theorem funP_calls {c : Cfg} (hc : c.OK) (hmixed : c.P.follows .mixedOrders = true) {f : FuncId} {fn : Func} {ann : Ann} {args : List EV} {res : List VT} {K : TupV res → Heap → Prop} {w : World}
    (hf : c.P.funcs[f]? = some fn) (hn : c.n = fn.ntmps) (hlen : args.length ≤ fn.ntmps) (hk : funP c fn ann args res K w.heap) :
    Calls c.P f (args.map EV.v).toArray w fun e w' => ∃ r, e = .returned (resV res r) ∧ Same w w' ∧ K r w'.heap := by
  unfold funP at hk
  split at hk
  · rename_i code hb
    refine calls_of_wp hf hb ?_
    have hag : Agr c.n (argEnv' args) { tmps := (args.map EV.v).toArray ++ Array.replicate (fn.ntmps - (args.map EV.v).toArray.size) undef, defers := [] } := by
      refine ⟨by simp [hn]; omega, rfl, fun j v hj => ?_⟩
      obtain ⟨k, hk, hv⟩ := argEnv_agr args 0 j v hj
      have hlt : k < args.length := by
        rcases Nat.lt_or_ge k args.length with h | h
        · exact h
        · rw [List.getElem?_eq_none h] at hv; cases hv
      simp only [Nat.zero_add] at hk
      subst hk
      simp [hlt, Array.getElem?_append]
      have h5 := List.getElem?_eq_getElem hlt
      rw [hv] at h5
      exact congrArg EV.v (Option.some.inj h5.symm)
    refine wp_mono (wpC_sound hc hmixed code ann _ _ w _ hag hk) ?_
    have fin : ∀ {ex : Ex} (a' : Act) (w' : World) (e' : Env), ex = .normal ∨ ex = .ret → Agr c.n e' a' → Same w w' → (match ex with
        | .exit _ => False
        | _ => resP c e' w'.heap fn.results.toList fun vs => match TupV.un res vs with
          | some r => K r w'.heap
          | none => False) → a'.defers = [] ∧ ∃ v, (results fn a'.tmps).run c.P w' = .ok v w' ∧ ∃ r, Ending.returned v = .returned (resV res r) ∧ Same w w' ∧ K r w'.heap := by
      intro ex a' w' e' hex h1 h2 h4
      have h4' : resP c e' w'.heap fn.results.toList fun vs => match TupV.un res vs with
          | some r => K r w'.heap
          | none => False := by rcases hex with rfl | rfl <;> exact h4
      obtain ⟨vs, hr, hk⟩ := resP_spec (f := fun
        | .tmp t => pure (a'.tmps.getD t undef)
        | .cell x t => do loadVar t (← asAddr (a'.tmps.getD x undef))) h1 (fun _ => rfl) (fun _ _ => rfl) h4'
      split at hk
      · rename_i r hun
        refine ⟨h1.defers, resV res r, ?_, r, rfl, h2, hk⟩
        unfold results
        rw [Array.mapM_eq_mapM_toList]
        simp only [Sem.run_bind, Sem.run_map]
        have hr' := hr
        refine (congrArg (fun r => (Result.andThen (Result.andThen r _) _)) hr').trans ?_
        simp only [Result.andThen_ok, Sem.run_pure]
        rw [resV_eq hun]
        exact congrArg (fun v => Result.ok v w') (tupV_size _)
      · exact hk.elim
    intro ex a' w' hp
    cases ex <;> first
      | exact hp.elim
      | skip
    · obtain ⟨e', h1, h2, h3, h4⟩ := hp
      exact fin a' w' e' (.inl rfl) h1 h2 h4
    · obtain ⟨e', h1, h2, h3, h4⟩ := hp
      exact h4.elim
    · obtain ⟨e', h1, h2, h3, h4⟩ := hp
      exact fin a' w' e' (.inr rfl) h1 h2 h4
  · exact hk.elim

end Go.Fw
