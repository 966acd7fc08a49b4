/- Why a reading is right: regions. -/
import Derived.Test.YtledmkhbaacdnaaFwO
import Derived.Sort.LoopGhostIn
namespace Go.Fw
open Go

structure Keeps (D : List Nat) (a a' : Act) : Prop where
  tmps : ∀ j, j ∉ D → a'.tmps[j]? = a.tmps[j]?
  marks : mkN ∉ D → a'.defers = a.defers

theorem Keeps.refl (D : List Nat) (a : Act) : Keeps D a a := ⟨fun _ _ => rfl, fun _ => rfl⟩
theorem Keeps.trans {D : List Nat} {a b d : Act} (h : Keeps D a b) (h' : Keeps D b d) : Keeps D a d := ⟨fun j hj => (h'.1 j hj).trans (h.1 j hj), fun hj => (h'.2 hj).trans (h.2 hj)⟩
theorem Keeps.mono {D D' : List Nat} {a b : Act} (h : Keeps D a b) (hs : ∀ j, j ∈ D → j ∈ D') : Keeps D' a b := ⟨fun j hj => h.1 j fun hj' => hj (hs j hj'), fun hj => h.2 fun hj' => hj (hs _ hj')⟩
theorem put_defers (a : Act) (d : Option Tmp) (v : Value) : (a.put d v).defers = a.defers := by cases d <;> rfl
theorem Keeps.put {D : List Nat} {a : Act} {d : Option Tmp} {v : Value} (h : ∀ x, d = some x → x ∈ D) : Keeps D a (a.put d v) := by
  refine ⟨?_, fun _ => put_defers a d v⟩
  intro j hj
  cases d with
  | none => rfl
  | some x =>
    have hne : x ≠ j := fun he => hj (he ▸ h x rfl)
    simp [Act.put, Array.getElem?_setIfInBounds_ne hne]

/-- what a slot's reading says of an operation's guard -/
theorem yielded_eq {ops : Array Oper} {a : Act} {j t : Nat} (h : guardSlot ops.toList j = some t) : yielded ops a.tmps j = match a.tmps[t]? with | some (.bool b) => some b | _ => none := by
  unfold guardSlot at h
  unfold yielded
  rw [show ops.toList[j]? = ops[j]? from by simp] at h
  rw [h]
  rfl

theorem yielded_none {ops : Array Oper} {a : Act} {j : Nat} (h : guardSlot ops.toList j = none) : yielded ops a.tmps j = none := by
  unfold guardSlot at h
  unfold yielded
  rw [show ops.toList[j]? = ops[j]? from by simp] at h
  rw [h]
  rfl

/-- one operation of the list: carried out, or passed over -/
inductive Step (c : Cfg) (one : Oper → Env → Heap → (Env → Heap → Prop) → Prop) (ops : Array Oper) (o : Oper) (a : Act) (h : Heap) (K : Env → Heap → Prop) : Prop
  | does (e : Env) (ha : Agr c.n e a) (hw : Region.wanted o (yielded ops a.tmps) = true) (hk : one o e h K)
  | skips (e : Env) (ha : Agr c.n e a) (hw : Region.wanted o (yielded ops a.tmps) = false) (hk : skipOp c o e h K)

theorem runOps_step {c : Cfg} {one : Oper → Env → Heap → (Env → Heap → Prop) → Prop} {ops : Array Oper} {o : Oper} {os : List Oper} {e : Env} {a : Act} {h : Heap} {K : Env → Heap → Prop}
    (hag : Agr c.n e a) (hk : runOps c one ops.toList (o :: os) e h K) : Step c one ops o a h (fun e' h' => runOps c one ops.toList os e' h' K) := by
  unfold runOps at hk
  split at hk
  · rename_i hg
    exact .does e hag (by simp [Region.wanted, hg]) hk
  · rename_i j want hg
    split at hk
    · rename_i hs
      exact .skips e hag (by simp [Region.wanted, hg, yielded_none hs]) hk
    · rename_i t hs
      have hy := yielded_eq (a := a) hs
      split at hk
      · rename_i b ht
        have ht' : a.tmps[t]? = some (.bool b) := hag.val t _ ht
        rw [ht'] at hy
        split at hk
        · exact .does e hag (by simp [Region.wanted, hg, hy]) hk
        · exact .does e hag (by simp [Region.wanted, hg, hy]) hk
        · exact .skips e hag (by simp [Region.wanted, hg, hy]) hk
        · exact .skips e hag (by simp [Region.wanted, hg, hy]) hk
      · rename_i b ht
        have ht' : a.tmps[t]? = some (.bool b) := hag.val t _ ht
        rw [ht'] at hy
        split at hk
        · cases b with
          | true => exact .does _ (hag.tell ht) (by simp [Region.wanted, hg, hy]) (hk.1 rfl)
          | false => exact .skips _ (hag.tell ht) (by simp [Region.wanted, hg, hy]) (hk.2 rfl)
        · cases b with
          | true => exact .skips _ (hag.tell ht) (by simp [Region.wanted, hg, hy]) (hk.1 rfl)
          | false => exact .does _ (hag.tell ht) (by simp [Region.wanted, hg, hy]) (hk.2 rfl)
      · rename_i v hv1 hv2 ht
        have ht' : a.tmps[t]? = some v.v := hag.val t _ ht
        refine .skips e hag ?_ hk
        have : yielded ops a.tmps j = none := by
          rw [hy, ht']
          cases v with
          | val u => cases u <;> first | rfl | exact absurd rfl (hv2 _)
          | lit b => exact absurd rfl (hv1 b)
          | adr b o => rfl
          | itr t b => rfl
          | more k v => rfl
          | over => rfl
        simp [Region.wanted, hg, this]
      · exact hk.elim

theorem mem_dsts {ops : Array Oper} {k : Nat} {o : Oper} {x : Nat} (ho : ops[k]? = some o) (hx : o.dst = some x) : x ∈ ops.toList.filterMap (·.dst) := by
  refine List.mem_filterMap.2 ⟨o, ?_, hx⟩
  exact List.mem_of_getElem? (i := k) (by simpa using ho)

theorem runOps_wp {c : Cfg} (hc : c.OK) {ops : Array Oper} {Q : Exit → Act → World → Prop} : ∀ (l : List Oper) (k : Nat), (∀ j, l[j]? = ops[k + j]?) →
    ∀ {e : Env} {a : Act} {w : World} {K : Env → Heap → Prop}, Agr c.n e a → runOps c (oneOp c) ops.toList l e w.heap K →
    (∀ e' a' w', Agr c.n e' a' → Same w w' → Keeps (ops.toList.filterMap (·.dst)) a a' → K e' w'.heap → Q .normal a' w') →
    (∀ v a' w', Same w w' → Keeps (ops.toList.filterMap (·.dst)) a a' → c.pan v w'.heap → Q (.panic [{ v, recovered := false }]) a' w') → wpOpsIn (fen c.rnd) 0 c.P ops Q (List.range' k l.length) a w
  | [], k, hl, e, a, w, K, hag, hk, hQ, _ => hQ e a w hag (Same.refl w) (Keeps.refl _ a) hk
  | o :: os, k, hl, e, a, w, K, hag, hk, hQ, hP => by
    have ho : ops[k]? = some o := by have := hl 0; simpa using this.symm
    have hl' : ∀ j, os[j]? = ops[k + 1 + j]? := fun j => by have := hl (j + 1); rw [show k + 1 + j = k + (j + 1) from by omega, ← this]; rfl
    have hput : ∀ v, Keeps (ops.toList.filterMap (·.dst)) a (a.put o.dst v) := fun v => Keeps.put fun x hx => mem_dsts ho hx
    simp only [List.length_cons, List.range'_succ, wpOpsIn, ho]
    cases runOps_step hag hk with
    | does e hag hw hk =>
      rw [if_pos hw]
      refine opP_wp hc hag (fun v w' hs hp => hP v a w' hs (Keeps.refl _ a) hp) hk fun v w' hs hk => ?_
      obtain ⟨e', hag', hk⟩ := setD_put hag hk
      exact runOps_wp hc os (k + 1) hl' hag' hk (fun e'' a'' w'' h1 h2 h3 h4 => hQ e'' a'' w'' h1 (hs.trans h2) ((hput _).trans h3) h4)
        (fun v a'' w'' h2 h3 h4 => hP v a'' w'' (hs.trans h2) ((hput _).trans h3) h4)
    | skips e hag hw hk =>
      rw [if_neg (by simp [hw])]
      obtain ⟨e', hag', hk⟩ := setD_put hag hk
      exact ⟨fun _ _ => trivial, runOps_wp hc os (k + 1) hl' hag' hk (fun e'' a'' w'' h1 h2 h3 h4 => hQ e'' a'' w'' h1 h2 ((hput _).trans h3) h4)
        (fun v a'' w'' h2 h3 h4 => hP v a'' w'' h2 ((hput _).trans h3) h4)⟩

/-! ### a region that draws its order -/
def Cls (w0 : World) (h : Heap) (w : World) : Prop := Same w0 w ∧ w.heap = h

theorem quietAt_of {c : Cfg} {o : Oper} {a : Act} {w0 : World} {h : Heap} {v : EV} (hr : ∀ w : World, w.heap = h → (execOp a.eval o).run c.P w = .ok (.value v.v) w) :
    ∀ w, Cls w0 h w → o.quietAtIn (fen none) 0 c.P a (Cls w0 h) w v.v := by
  intro w hw
  unfold Oper.quietAtIn
  rw [hr w hw.2]
  exact ⟨rfl, rfl⟩

theorem quiet_of {c : Cfg} {o : Oper} {a : Act} {w0 : World} {h : Heap} {K : EV → Heap → Prop} {next : Act → Prop} (hq : QVal c o a h K) (hn : ∀ v, K v h → next (a.put o.dst v.v)) :
    o.quietIn (fen none) 0 c.P a (Cls w0 h) next :=
  let ⟨v, hr, hk⟩ := hq
  ⟨v.v, quietAt_of hr, hn v hk⟩

theorem quietP_quiet {c : Cfg} (hc : c.OK) {e : Env} {a : Act} {w0 : World} {h : Heap} {o : Oper} {K : EV → Heap → Prop} {next : Act → Prop} (hag : Agr c.n e a) (hk : quietP c o.op e h K)
    (hn : ∀ v, K v h → next (a.put o.dst v.v)) : o.quietIn (fen none) 0 c.P a (Cls w0 h) next := by
  obtain ⟨dst, op, type, pos, after, guard⟩ := o
  cases op
  case move => exact quiet_of (val_move hag hk).q hn
  case assign => exact quiet_of (val_assign hag hk).q hn
  case pick => exact quiet_of (val_pick hag hk).q hn
  case load => exact quiet_of (val_load hag hk) hn
  case nilCheck => exact quiet_of (val_nilCheck hag hk).q hn
  case binOp => exact quiet_of (val_binOp hag hk).q hn
  case unOp => exact quiet_of (val_unOp hag hk).q hn
  case slice => exact quiet_of (val_slice hag hk).q hn
  case fieldAddr => exact quiet_of (val_fieldAddr hag hk).q hn
  case field => exact quiet_of (val_field hag hk).q hn
  case indexAddr => exact quiet_of (val_indexAddr hag hk).q hn
  case index => exact quiet_of (val_index hag hk).q hn
  case extract => exact quiet_of (val_extract hag hk).q hn
  case build => exact quiet_of (val_build hag hk).q hn
  case makeFunc => exact quiet_of (val_makeFunc hag hk).q hn
  case convert s d x =>
    simp only [quietP] at hk
    split at hk
    · rename_i j k hs hd
      exact quiet_of (val_convert_int hag hs hd hk).q hn
    · exact hk.elim
  case call cl =>
    unfold quietP at hk
    split at hk <;> first
      | exact hk.elim
      | (rename_i ho; cases ho)
    · exact quiet_of (val_len hag hk) hn
    · exact quiet_of (val_quiet_builtin hag (.inr (.inl rfl)) hk).q hn
    · exact quiet_of (val_quiet_builtin hag (.inr (.inr (.inl rfl))) hk).q hn
    · exact quiet_of (val_quiet_builtin hag (.inr (.inr (.inr rfl))) hk).q hn
    · rename_i f args ts
      split at hk
      · rename_i es he
        split at hk
        · rename_i s t hp
          obtain ⟨hmem, ht⟩ := pickL_mem hp
          dsimp only at hmem ht
          obtain ⟨r, hm, hk⟩ := hk
          refine ⟨(tupleOf (TupV.evs s.res r)).v, fun w hw => ?_, hn _ hk⟩
          have hargs := evs_map hag he
          obtain ⟨⟨fn, hf, hname, hbody⟩, hcall⟩ := hc.calls _ hmem
          have henter : (execOp a.eval ⟨dst, .call ⟨.value (.func f), args, ts⟩, type, pos, after, guard⟩).run c.P w = .ok (.enter f (args.map a.eval)) w := by
            simp only [execOp, resolve, Act.eval, Deferred.ofValue, Sem.run_bind, Sem.run_pure, Result.andThen_ok, invoke, callFunc, run_program, hf, hname, Bool.false_eq_true, if_false, hbody]
            simp
          unfold Oper.quietAtIn
          rw [henter]
          refine ⟨rfl, fun h => (by cases h), callsIn_fen.2 ?_⟩
          rw [hargs, ← tupV_un ht]
          refine (hcall t (fun r' h' => r' = r ∧ h' = h) (fun _ _ => False) w (by rw [hw.2]; exact hm)).mono ?_
          rintro ending w' (⟨r', rfl, hsame, rfl, hh⟩ | ⟨v, rfl, hsame, hk⟩)
          · exact ⟨rfl, hw.1.trans hsame, hh⟩
          · exact hk.elim
        · exact hk.elim
      · exact hk.elim
  all_goals exact hk.elim

theorem quiet_wp {c : Cfg} (hc : c.OK) {ops : Array Oper} {w0 : World} {Q : Act → Prop} {h : Heap} : ∀ (l : List Oper) (k : Nat), (∀ j, l[j]? = ops[k + j]?) →
    ∀ {e : Env} {a : Act} {K : Env → Heap → Prop}, Agr c.n e a → runOps c (quietOp c) ops.toList l e h K →
    (∀ e' a', Agr c.n e' a' → Keeps (ops.toList.filterMap (·.dst)) a a' → K e' h → Q a') → wpQuietIn (fen none) 0 c.P ops (Cls w0 h) Q l a
  | [], k, hl, e, a, K, hag, hk, hQ => hQ e a hag (Keeps.refl _ a) hk
  | o :: os, k, hl, e, a, K, hag, hk, hQ => by
    have ho : ops[k]? = some o := by have := hl 0; simpa using this.symm
    have hl' : ∀ j, os[j]? = ops[k + 1 + j]? := fun j => by have := hl (j + 1); rw [show k + 1 + j = k + (j + 1) from by omega, ← this]; rfl
    have hput : ∀ v, Keeps (ops.toList.filterMap (·.dst)) a (a.put o.dst v) := fun v => Keeps.put fun x hx => mem_dsts ho hx
    unfold wpQuietIn
    refine ⟨fun _ _ _ _ => trivial, ?_⟩
    cases runOps_step hag hk with
    | does e hag hw hk =>
      rw [if_pos hw]
      refine quietP_quiet hc hag hk fun v hk => ?_
      obtain ⟨e', hag', hk⟩ := setD_put hag hk
      exact quiet_wp hc os (k + 1) hl' hag' hk fun e'' a'' h1 h3 h4 => hQ e'' a'' h1 ((hput _).trans h3) h4
    | skips e hag hw hk =>
      rw [if_neg (by simp [hw])]
      obtain ⟨e', hag', hk⟩ := setD_put hag hk
      exact quiet_wp hc os (k + 1) hl' hag' hk fun e'' a'' h1 h3 h4 => hQ e'' a'' h1 ((hput _).trans h3) h4

/-! ### the whole code -/
def PostQ (c : Cfg) (D : List Nat) (a : Act) (w : World) (Q : Ex → Env → Heap → Prop) : Exit → Act → World → Prop
  | .normal, a', w' => ∃ e', Agr c.n e' a' ∧ Same w w' ∧ Keeps D a a' ∧ Q .normal e' w'.heap
  | .exit id, a', w' => ∃ e', Agr c.n e' a' ∧ Same w w' ∧ Keeps D a a' ∧ Q (.exit id) e' w'.heap
  | .ret, a', w' => ∃ e', Agr c.n e' a' ∧ Same w w' ∧ Keeps D a a' ∧ Q .ret e' w'.heap
  | .panic chain, a', w' => ∃ v, chain = [{ v, recovered := false }] ∧ Same w w' ∧ (mkN ∉ D → a'.defers = a.defers) ∧ c.pan v w'.heap
  | _, _, _ => False

theorem PostQ.mono {c : Cfg} {D D' : List Nat} {a a1 : Act} {w w1 : World} {Q Q' : Ex → Env → Heap → Prop} (hs : Same w w1) (hk : Keeps D' a a1) (hd : ∀ j, j ∈ D → j ∈ D') (hq : ∀ x e h, Q x e h → Q' x e h) :
    ∀ x a' w', PostQ c D a1 w1 Q x a' w' → PostQ c D' a w Q' x a' w' := by
  intro x a' w' h
  cases x <;> first
    | exact h.elim
    | (obtain ⟨e', h1, h2, h3, h4⟩ := h
       exact ⟨e', h1, hs.trans h2, hk.trans (h3.mono hd), hq _ _ _ h4⟩)
    | (obtain ⟨v, h1, h2, h3, h4⟩ := h
       exact ⟨v, h1, hs.trans h2, fun hj => (h3 fun hj' => hj (hd _ hj')).trans (hk.2 hj), h4⟩)

theorem postQ_unput {c : Cfg} {D : List Nat} {a : Act} {w : World} {Q : Ex → Env → Heap → Prop} {ch : List PanicEntry} {a' : Act} {d : Option Tmp} {v : Value} {w' : World} (h : PostQ c D a w Q (.panic ch) (a'.put d v) w') : PostQ c D a w Q (.panic ch) a' w' := by
  obtain ⟨v', h1, h2, h3, h4⟩ := h
  exact ⟨v', h1, h2, fun hj => (put_defers a' d v).symm.trans (h3 hj), h4⟩

/-! ### a drawn region with effects -/
theorem guardP_spec {c : Cfg} {ops : Array Oper} {o : Oper} {e : Env} {a : Act} {A B : Env → Prop} (hag : Agr c.n e a) (hk : guardP ops.toList o e A B) :
    (∃ e', Agr c.n e' a ∧ Region.wanted o (yielded ops a.tmps) = true ∧ A e') ∨ (∃ e', Agr c.n e' a ∧ Region.wanted o (yielded ops a.tmps) = false ∧ B e') := by
  unfold guardP at hk
  split at hk
  · rename_i hg
    exact .inl ⟨e, hag, by simp [Region.wanted, hg], hk⟩
  · rename_i j want hg
    split at hk
    · rename_i hs
      exact .inr ⟨e, hag, by simp [Region.wanted, hg, yielded_none hs], hk⟩
    · rename_i t hs
      have hy := yielded_eq (a := a) hs
      split at hk
      · rename_i b ht
        have ht' : a.tmps[t]? = some (.bool b) := hag.val t _ ht
        rw [ht'] at hy
        split at hk
        · exact .inl ⟨e, hag, by simp [Region.wanted, hg, hy], hk⟩
        · exact .inl ⟨e, hag, by simp [Region.wanted, hg, hy], hk⟩
        · exact .inr ⟨e, hag, by simp [Region.wanted, hg, hy], hk⟩
        · exact .inr ⟨e, hag, by simp [Region.wanted, hg, hy], hk⟩
      · rename_i b ht
        have ht' : a.tmps[t]? = some (.bool b) := hag.val t _ ht
        rw [ht'] at hy
        split at hk
        · cases b with
          | true => exact .inl ⟨_, hag.tell ht, by simp [Region.wanted, hg, hy], hk.1 rfl⟩
          | false => exact .inr ⟨_, hag.tell ht, by simp [Region.wanted, hg, hy], hk.2 rfl⟩
        · cases b with
          | true => exact .inr ⟨_, hag.tell ht, by simp [Region.wanted, hg, hy], hk.1 rfl⟩
          | false => exact .inl ⟨_, hag.tell ht, by simp [Region.wanted, hg, hy], hk.2 rfl⟩
      · rename_i v hv1 hv2 ht
        have ht' : a.tmps[t]? = some v.v := hag.val t _ ht
        refine .inr ⟨e, hag, ?_, hk⟩
        have : yielded ops a.tmps j = none := by
          rw [hy, ht']
          cases v with
          | val u => cases u <;> first | rfl | exact absurd rfl (hv2 _)
          | lit b => exact absurd rfl (hv1 b)
          | adr b o => rfl
          | itr t b => rfl
          | more k v => rfl
          | over => rfl
        simp [Region.wanted, hg, this]
      · exact hk.elim

theorem pure_val {c : Cfg} {e : Env} {a : Act} {h : Heap} {o : Oper} {K : EV → Heap → Prop} (hag : Agr c.n e a) (hkd : kindOf c o.op = .pure) (hk : opP c o.op e h K) : PVal c o a h K := by
  obtain ⟨dst, op, type, pos, after, guard⟩ := o
  cases op
  case move => exact val_move hag hk
  case assign => exact val_assign hag hk
  case pick => exact val_pick hag hk
  case nilCheck => exact val_nilCheck hag hk
  case binOp => exact val_binOp hag hk
  case unOp => exact val_unOp hag hk
  case slice => exact val_slice hag hk
  case fieldAddr => exact val_fieldAddr hag hk
  case field => exact val_field hag hk
  case indexAddr => exact val_indexAddr hag hk
  case index => exact val_index hag hk
  case extract => exact val_extract hag hk
  case build => exact val_build hag hk
  case makeFunc => exact val_makeFunc hag hk
  case convert s d x =>
    simp only [kindOf] at hkd
    split at hkd
    · rename_i j k hs hd
      exact val_convert_int hag hs hd hk
    · split at hkd <;> cases hkd
    · cases hkd
  case call cl =>
    obtain ⟨cal, args, ts⟩ := cl
    cases cal with
    | builtin b =>
      cases b <;> first
        | (simp only [kindOf] at hkd; done)
        | (cases hm : isMapT c.P ts with
            | true => simp [kindOf, hm] at hkd
            | false => exact val_quiet_builtin hag (.inl ⟨rfl, hm⟩) hk)
        | exact val_quiet_builtin hag (.inr (.inl rfl)) hk
        | exact val_quiet_builtin hag (.inr (.inr (.inl rfl))) hk
        | exact val_quiet_builtin hag (.inr (.inr (.inr rfl))) hk
        | (simp [kindOf] at hkd)
    | _ => simp [kindOf] at hkd
  all_goals simp [kindOf] at hkd

theorem load_kind {c : Cfg} {op : Op} {t : TypeId} {x : Operand} (h : kindOf c op = .load t x) : op = .load t x := by
  cases op <;> simp [kindOf] at h
  case load => rw [h.1, h.2]
  case convert => repeat' (first | (cases h; done) | split at h)
  case call cl =>
    obtain ⟨cal, args, ts⟩ := cl
    cases cal with
    | builtin b => cases b <;> simp at h <;> (cases hm : isMapT c.P ts <;> simp [hm] at h)
    | _ => simp at h

def holdsL (h : Heap) (l : List (Nat × Nat × Value)) : Prop := ∀ q, q ∈ l → h.cell q.1 q.2.1 = some q.2.2

theorem has_cells {h : Heap} {b o : Nat} : ∀ {vs : List Value} {i : Nat}, holdsL h (cellsL b o i vs) ↔ h.has b (o + i) vs
  | [], i => ⟨fun _ => trivial, fun _ q hq => (by simp [cellsL] at hq)⟩
  | v :: vs, i => by
    have ih := has_cells (h := h) (b := b) (o := o) (vs := vs) (i := i + 1)
    unfold holdsL at ih ⊢
    simp only [cellsL, List.forall_mem_cons, addO_eq, ih]
    rfl

theorem ldH_spec {P : Program} {t : TypeId} {b o : Nat} {K : EV → List (Nat × Nat × Value) → Prop} {h : Heap} (hk : ldH P t h b o K) :
    ∃ v cells, holdsL h cells ∧ (∀ w : World, holdsL w.heap cells → (loadVar t ⟨b, o, none⟩).run P w = .ok v.v w) ∧ K v cells := by
  unfold ldH at hk
  cases hu : P.underlying t with
  | none => rw [hu] at hk; simp [isAggD, ldLeaf] at hk
  | some d =>
    obtain ⟨i, hi⟩ := info_of_underlying P hu
    rw [hu] at hk
    unfold loadVar
    cases ha : isAggD (some d) with
    | true =>
      rw [ha] at hk
      simp only [cond_true] at hk
      cases hl : Nat.beq (leavesOf P 8 t).length (P.cellsOf t) with
      | false => rw [hl] at hk; exact hk.elim
      | true =>
        rw [hl] at hk
        obtain ⟨vs, hlen, hh, hk⟩ := ldAll_spec hk
        have hs : i.size = vs.length := by rw [hlen, Nat.eq_of_beq_eq_true hl, cellsOf_eq P hi]
        refine ⟨.val (.agg vs.toArray), _, has_cells.2 hh, fun w hw => ?_, hk⟩
        have hw := has_cells.1 hw
        simp only [Sem.run_bind, run_isAgg P w t hu, ha, Result.andThen_ok, if_true, run_sizeOf P w t hi, hs]
        rw [run_loadCells P w b o vs (by simpa using hw)]
        rfl
    | false =>
      rw [ha] at hk
      simp only [cond_false] at hk
      obtain ⟨v, hc, hk, _⟩ := ldLeaf_spec hk
      refine ⟨v, _, ?_, fun w hw => ?_, hk⟩
      · intro q hq
        simp only [List.mem_singleton] at hq
        subst hq
        exact hc
      have hw : Heap.cell w.heap b o = some v.v := hw _ (.head _)
      simp only [Sem.run_bind, run_isAgg P w t hu, ha, Result.andThen_ok, Bool.false_eq_true, if_false]
      exact run_load_cell P w hw _

theorem text_kind {c : Cfg} {op : Op} {x : Operand} (h : kindOf c op = .text x) : ∃ s d e, op = .convert s d x ∧ c.P.underlying s = some (.slice e) ∧ c.P.underlying d = some .string ∧ c.P.underlying e = some (.int .u8) := by
  cases op <;> simp [kindOf] at h
  case convert s d y =>
    split at h
    · cases h
    · rename_i e hs hd
      split at h
      · rename_i he
        cases h
        exact ⟨s, d, e, rfl, hs, hd, he⟩
      · cases h
    · cases h
  case call cl =>
    obtain ⟨cal, args, ts⟩ := cl
    cases cal with
    | builtin b => cases b <;> simp at h <;> (cases hm : isMapT c.P ts <;> simp [hm] at h)
    | _ => simp at h

theorem heldL_spec {h : Heap} : ∀ {l : List (Nat × Nat × Value)}, heldL h l ↔ holdsL h l
  | [] => ⟨fun _ q hq => (by cases hq), fun _ => trivial⟩
  | (b, o, v) :: r => by
    have ih := heldL_spec (h := h) (l := r)
    unfold holdsL at ih ⊢
    simp only [heldL, List.forall_mem_cons, ih]

def keptOf (hd : HeldL) : Kept := hd.map fun x => (x.1, fun w => x.2 w.heap)

theorem heldP_spec {w : World} {K : Prop} : ∀ {hd : HeldL}, heldP w.heap hd K → (keptOf hd).all w ∧ K
  | [], hk => ⟨fun q hq => (by cases hq), hk⟩
  | x :: r, hk => by
    obtain ⟨h1, hk⟩ := hk
    obtain ⟨h2, hk⟩ := heldP_spec (hd := r) hk
    refine ⟨fun q hq => ?_, hk⟩
    rcases List.mem_cons.1 hq with rfl | hq
    · exact h1
    · exact h2 q hq

def nxt (ops : Array Oper) (L : Kept) (j : Nat) : Kept :=
  match ops[j]? with
  | some o => L.filter fun p => !waitsB p.1 o.after.toList
  | none => L

theorem nxt_next (ops : Array Oper) : Next ops (nxt ops) where
  mem L j p hp := by
    unfold nxt at hp
    split at hp
    · exact (List.mem_filter.1 hp).1
    · exact hp
  keep L j p hp hw := by
    unfold nxt
    split
    · rename_i o ho
      refine List.mem_filter.2 ⟨hp, ?_⟩
      cases hb : waitsB p.1 o.after.toList with
      | false => rfl
      | true =>
        obtain ⟨e, he, h1, h2⟩ := waitsB_iff.1 hb
        exact absurd ⟨o, ho, e, by simpa using he, h1, h2⟩ hw
    · exact hp
  same L L' j p hp hl := by
    unfold nxt at hp ⊢
    split at hp
    · rename_i o ho
      exact List.mem_filter.2 ⟨hl, (List.mem_filter.1 hp).2⟩
    · exact hl

theorem nxt_kept {ops : Array Oper} {j : Nat} {o : Oper} (ho : ops[j]? = some o) (hd : HeldL) : nxt ops (keptOf hd) j = keptOf (dropH o hd) := by
  unfold nxt
  rw [ho]
  simp only
  induction hd with
  | nil => rfl
  | cons x r ih =>
    have e : keptOf (x :: r) = (x.1, fun w : World => x.2 w.heap) :: keptOf r := rfl
    rw [e, List.filter_cons]
    simp only [dropH]
    cases hb : waitsB x.1 o.after.toList with
    | true => simp only [Bool.not_true, Bool.false_eq_true, if_false, cond_true]; exact ih
    | false => simp only [Bool.not_false, if_true, cond_false]; rw [ih]; rfl

theorem noneB_spec {ops : Array Oper} {m : Nat} {listed : Array Bool} (hr : Rel ops m listed) (h : noneB m 0 ops.toList = true) : Region.ready .any ops listed = [] := by
  have key : ∀ (os : List Oper) (k : Nat), noneB m k os = true → ∀ j o, os[j]? = some o → readyB m (k + j) o = false := by
    intro os
    induction os with
    | nil => intro k _ j o ho; simp at ho
    | cons x os ih =>
      intro k h j o ho
      simp only [noneB] at h
      cases hx : readyB m k x with
      | true => rw [hx] at h; cases h
      | false =>
        rw [hx] at h
        cases j with
        | zero => simp at ho; subst ho; exact hx
        | succ j =>
          have := ih (k + 1) h j o (by simpa using ho)
          rw [show k + (j + 1) = k + 1 + j from by omega]
          exact this
  apply List.eq_nil_iff_forall_not_mem.2
  intro j hj
  obtain ⟨o, ho, hb⟩ := hr.ready.1 hj
  have := key _ 0 h j o (by simpa using ho)
  rw [Nat.zero_add, hb] at this
  cases this

section
variable {rn : Option Nat} {P : Program} {ops : Array Oper} {Q : Exit → Act → World → Prop} {i m : Nat} {o : Oper} {listed : Array Bool} {a : Act} {w : World} {L : Kept} {fuel : Nat} {v : Value} {S : World → Prop}

theorem lt_of_op (ho : ops[i]? = some o) : i < ops.size := by
  rcases Nat.lt_or_ge i ops.size with h | h
  · exact h
  · rw [Array.getElem?_eq_none h] at ho; cases ho

theorem only_of (hr : Rel ops m listed) (h : onlyB m i 0 ops.toList = true) : ∀ j, j ∈ Region.ready .any ops listed → j = i := by
  intro j hj
  obtain ⟨o', ho', hb⟩ := hr.ready.1 hj
  have := onlyB_spec h j o' (by simpa using ho') (by rw [Nat.zero_add]; exact hb)
  rw [Nat.zero_add] at this
  exact this

theorem free_of (hr : Rel ops m listed) (h : freeB ops o m i 0 ops.toList = true) :
    ∀ j oj, ops[j]? = some oj → j ≠ i → listed.getD j true = false → (∀ e ∈ oj.after, Region.binds .any e = true → e.on ≠ i) → o.apart ops oj = true := by
  intro j oj hj hne hl hno
  have hlt := lt_of_op hj
  refine freeB_spec h j oj (by simpa using hj) (by rw [Nat.zero_add]; exact hne) ?_ hno
  rw [Nat.zero_add, ← hr.bit' hlt]
  exact hl

theorem stepTake (hnd : noDefer ops) (ho : ops[i]? = some o) (hsel : Region.noSelect ops = true) (hQ : ∀ c a v w, Q (.panic c) (a.put o.dst v) w → Q (.panic c) a w) (hr : Rel ops m listed) (hm : readyB m i o = true) (hf : freeB ops o m i 0 ops.toList = true)
    (hy : YieldsIf P ops S o v a) (hS : S w) (hall : Kept.all L w) (h : wpK rn P ops Q (nxt ops) ((i, S) :: L) fuel (listed.setIfInBounds i true) (a.put o.dst v) w) :
    wpK rn P ops Q (nxt ops) L (fuel + 1) listed a w :=
  wpK_first hnd (nxt_next ops) ho (Region.noSelect_spec hsel) (fun c a w h => hQ c a v w h) fuel L listed a w (free_of hr hf) (hr.ready.2 ⟨o, ho, hm⟩) hy hS hall h

theorem stepOnly (hnd : noDefer ops) (ho : ops[i]? = some o) (hr : Rel ops m listed) (hm : readyB m i o = true) (hf : onlyB m i 0 ops.toList = true)
    (hy : YieldsIf P ops S o v a) (hS : S w) (hall : Kept.all L w) (h : wpK rn P ops Q (nxt ops) L fuel (listed.setIfInBounds i true) (a.put o.dst v) w) :
    wpK rn P ops Q (nxt ops) L (fuel + 1) listed a w := by
  refine wpK_only (only_of hr hf) (hr.ready.2 ⟨o, ho, hm⟩) (yieldsIf_wpF hnd ho hy hS ⟨fun p hp => hall p ((nxt_next ops).mem _ _ _ hp), ?_⟩)
  exact wpK_weak (nxt_next ops) _ _ _ _ _ _ (fun p hp => .inl ((nxt_next ops).mem _ _ _ hp)) h

theorem stepPure (hnd : noDefer ops) (ho : ops[i]? = some o) (hsel : Region.noSelect ops = true) (hQ : ∀ c a v w, Q (.panic c) (a.put o.dst v) w → Q (.panic c) a w) (hr : Rel ops m listed) (hm : readyB m i o = true)
    (hf : freeB ops o m i 0 ops.toList = true ∨ onlyB m i 0 ops.toList = true)
    (hy : YieldsIf P ops (fun _ => True) o v a) (hall : Kept.all L w) (h : wpK rn P ops Q (nxt ops) L fuel (listed.setIfInBounds i true) (a.put o.dst v) w) :
    wpK rn P ops Q (nxt ops) L (fuel + 1) listed a w := by
  rcases hf with hf | hf
  · refine stepTake hnd ho hsel hQ hr hm hf hy trivial hall ?_
    refine wpK_weak (nxt_next ops) _ _ _ _ _ _ (fun p hp => ?_) h
    rcases List.mem_cons.1 hp with rfl | hp
    · exact .inr fun _ => trivial
    · exact .inl hp
  · exact stepOnly hnd ho hr hm hf hy trivial hall h
end

theorem only2_of {ops : Array Oper} {m i l : Nat} {listed : Array Bool} (hr : Rel ops m listed) (h : only2B m i l 0 ops.toList = true) : ∀ j, j ∈ Region.ready .any ops listed → j = i ∨ j = l := by
  intro j hj
  obtain ⟨o', ho', hb⟩ := hr.ready.1 hj
  have := only2B_spec h j o' (by simpa using ho') (by rw [Nat.zero_add]; exact hb)
  rw [Nat.zero_add] at this
  exact this

section
variable {c : Cfg} {ops : Array Oper} {D : List Nat} {a0 : Act} {w0 : World} {Qx : Ex → Env → Heap → Prop}

/-- what is to be shown of the rest -/
def Rest (c : Cfg) (ops : Array Oper) (D : List Nat) (a0 : Act) (w0 : World) (Qx : Ex → Env → Heap → Prop) (fuel m : Nat) (rest : HeldL → Env → Heap → Prop) : Prop :=
  ∀ (listed : Array Bool) (hd : HeldL) (e : Env) (a : Act) (w : World), Rel ops m listed → Agr c.n e a → Same w0 w → Keeps D a0 a → (keptOf hd).all w →
    rest hd e w.heap → wpK c.rnd c.P ops (PostQ c D a0 w0 Qx) (nxt ops) (keptOf hd) fuel listed a w

theorem effP_wp (hnd : noDefer ops) (hc : c.OK) (hD : D = ops.toList.filterMap (·.dst)) {i m fuel : Nat} {o : Oper} {hd : HeldL} {e : Env} {a : Act} {w : World} {listed : Array Bool} {rest : HeldL → Env → Heap → Prop}
    (ho : ops[i]? = some o) (hr : Rel ops m listed) (hag : Agr c.n e a) (hs : Same w0 w) (hkp : Keeps D a0 a) (hall : (keptOf hd).all w) (ih : Rest c ops D a0 w0 Qx fuel (setN m i) rest) (hk : effP c ops o hd e w.heap rest) :
    wpOpIn (fen c.rnd) 0 c.P ops (PostQ c D a0 w0 Qx) i (fun a' w' => (nxt ops (keptOf hd) i).all w' ∧ wpK c.rnd c.P ops (PostQ c D a0 w0 Qx) (nxt ops) (nxt ops (keptOf hd) i) fuel (listed.setIfInBounds i true) a' w') a w := by
  have hr' := hr.set (lt_of_op ho)
  have hput : ∀ v, Keeps D a0 (a.put o.dst v) := fun v => hkp.trans (Keeps.put fun x hx => hD ▸ mem_dsts ho hx)
  unfold effP at hk
  rcases guardP_spec hag hk with ⟨e1, hag1, hw, hk⟩ | ⟨e1, hag1, hw, hk⟩
  · rw [nxt_kept ho]
    unfold Go.wpOpIn
    simp only [ho, hw, if_true]
    refine opP_wp hc hag1 (fun v w' hs' hp => ⟨v, rfl, hs.trans hs', hkp.2, hp⟩) hk fun v w' hs' hk => ?_
    obtain ⟨e', hag', hk⟩ := setD_put hag1 hk
    obtain ⟨hall', hk⟩ := heldP_spec hk
    exact ⟨hall', ih _ _ e' _ w' hr' hag' (hs.trans hs') (hput _) hall' hk⟩
  · obtain ⟨e', hag', hk⟩ := setD_put hag1 hk
    have hy : YieldsIf c.P ops (fun _ => True) o undef a := .inr ⟨hw, rfl⟩
    refine yieldsIf_wpF hnd ho hy trivial ⟨fun p hp => hall p ((nxt_next ops).mem _ _ _ hp), ?_⟩
    exact wpK_weak (nxt_next ops) _ _ _ _ _ _ (fun p hp => .inl ((nxt_next ops).mem _ _ _ hp)) (ih _ hd e' _ w hr' hag' hs (hput _) hall hk)

/-- an operation that reads w's memory alone -/
theorem getP_wp (hnd : noDefer ops) (hD : D = ops.toList.filterMap (·.dst)) {i m fuel : Nat} {o : Oper} {hd : HeldL} {e : Env} {a : Act} {w : World} {listed : Array Bool} {rest : HeldL → Env → Heap → Prop}
    (ho : ops[i]? = some o) (hr : Rel ops m listed) (hag : Agr c.n e a) (hs : Same w0 w) (hkp : Keeps D a0 a) (hall : (keptOf hd).all w) (ih : Rest c ops D a0 w0 Qx fuel (setN m i) rest)
    (hq : ∀ {e : Env} {K : EV → Heap → Prop}, Agr c.n e a → opP c o.op e w.heap K → QVal c o a w.heap K) (hm : readyB m i o = true) (hf : onlyB m i 0 ops.toList = true)
    (hk : getP c ops o hd e w.heap rest) : wpK c.rnd c.P ops (PostQ c D a0 w0 Qx) (nxt ops) (keptOf hd) (fuel + 1) listed a w := by
  have hr' := hr.set (lt_of_op ho)
  have hput : ∀ v, Keeps D a0 (a.put o.dst v) := fun v => hkp.trans (Keeps.put fun x hx => hD ▸ mem_dsts ho hx)
  unfold getP at hk
  rcases guardP_spec hag hk with ⟨e1, hag1, hw, hk⟩ | ⟨e1, hag1, hw, hk⟩
  · obtain ⟨v, hrun, hk⟩ := hq hag1 hk
    obtain ⟨e', hag', hk⟩ := setD_put hag1 hk
    exact stepOnly hnd (S := fun w' => w'.heap = w.heap) ho hr hm hf (v := v.v) (.inl ⟨hw, fun w' hw' => hrun w' hw'⟩) rfl hall (ih _ hd e' _ w hr' hag' hs (hput _) hall hk)
  · obtain ⟨e', hag', hk⟩ := setD_put hag1 hk
    exact stepOnly hnd (S := fun _ => True) ho hr hm hf (v := undef) (.inr ⟨hw, rfl⟩) trivial hall (ih _ hd e' _ w hr' hag' hs (hput _) hall hk)

/-- an operation that may be taken first, as long as what it reads holds -/
theorem takeP_wp (hnd : noDefer ops) (hD : D = ops.toList.filterMap (·.dst)) (hsel : Region.noSelect ops = true) {i m fuel : Nat} {o : Oper} {hd : HeldL} {e : Env} {a : Act} {w : World} {listed : Array Bool} {rest : HeldL → Env → Heap → Prop} {A : Env → Prop}
    (ho : ops[i]? = some o) (hr : Rel ops m listed) (hag : Agr c.n e a) (hs : Same w0 w) (hkp : Keeps D a0 a) (hall : (keptOf hd).all w) (ih : Rest c ops D a0 w0 Qx fuel (setN m i) rest)
    (hm : readyB m i o = true) (hf : freeB ops o m i 0 ops.toList = true)
    (hA : ∀ e1, Agr c.n e1 a → A e1 → ∃ (v : EV) (S : Heap → Prop), S w.heap ∧ (∀ w' : World, S w'.heap → (execOp a.eval o).run c.P w' = .ok (.value v.v) w') ∧ setD c.n e1 o.dst v fun e' => rest ((i, S) :: hd) e' w.heap)
    (hk : guardP ops.toList o e A (fun e => setD c.n e o.dst (.val undef) fun e' => rest hd e' w.heap)) : wpK c.rnd c.P ops (PostQ c D a0 w0 Qx) (nxt ops) (keptOf hd) (fuel + 1) listed a w := by
  have hr' := hr.set (lt_of_op ho)
  have hput : ∀ v, Keeps D a0 (a.put o.dst v) := fun v => hkp.trans (Keeps.put fun x hx => hD ▸ mem_dsts ho hx)
  have hQ : ∀ c' a' v w', PostQ c D a0 w0 Qx (.panic c') (a'.put o.dst v) w' → PostQ c D a0 w0 Qx (.panic c') a' w' := fun _ _ _ _ h => postQ_unput h
  rcases guardP_spec hag hk with ⟨e1, hag1, hw, hk⟩ | ⟨e1, hag1, hw, hk⟩
  · obtain ⟨v, S, hS, hrun, hk⟩ := hA e1 hag1 hk
    obtain ⟨e', hag', hk⟩ := setD_put hag1 hk
    refine stepTake hnd (S := fun w => S w.heap) ho hsel hQ hr hm hf (v := v.v) (.inl ⟨hw, fun w' hw' => hrun w' hw'⟩) hS hall ?_
    refine ih _ ((i, S) :: hd) e' _ w hr' hag' hs (hput _) ?_ hk
    intro q hq
    rcases List.mem_cons.1 hq with rfl | hq
    · exact hS
    · exact hall q hq
  · obtain ⟨e', hag', hk⟩ := setD_put hag1 hk
    exact stepPure hnd ho hsel hQ hr hm (.inl hf) (v := undef) (.inr ⟨hw, rfl⟩) hall (ih _ hd e' _ w hr' hag' hs (hput _) hall hk)

theorem ordP_sound (hnd : noDefer ops) (hc : c.OK) (hD : D = ops.toList.filterMap (·.dst)) (hsel : Region.noSelect ops = true) {K : Env → Heap → Prop} (hKQ : ∀ e' h', K e' h' → Qx .normal e' h') :
    ∀ (l : OrdT) (fuel m : Nat), l.depth ≤ fuel → Rest c ops D a0 w0 Qx fuel m (ordP c ops K l m)
  | .done, fuel, m, hf => by
    intro listed hd e a w hr hag hs hkp hall hk
    unfold ordP at hk
    obtain ⟨h0, hk⟩ := blt_of hk
    exact wpK_done (noneB_spec hr h0) ⟨e, hag, hs, hkp, hKQ _ _ hk⟩ fuel
  | .fork i r j s, 0, m, hf => by simp [OrdT.depth] at hf
  | .take i r, 0, m, hf => by simp [OrdT.depth] at hf
  | .fork i r j s, fuel + 1, m, hf => by
    have hf1 : r.depth ≤ fuel := by
      have h1 : Nat.max r.depth s.depth + 1 ≤ fuel + 1 := hf
      have h2 : r.depth ≤ Nat.max r.depth s.depth := Nat.le_max_left _ _
      omega
    have hf2 : s.depth ≤ fuel := by
      have h1 : Nat.max r.depth s.depth + 1 ≤ fuel + 1 := hf
      have h2 : s.depth ≤ Nat.max r.depth s.depth := Nat.le_max_right _ _
      omega
    have ih1 := ordP_sound hnd hc hD hsel hKQ r fuel (setN m i) hf1
    have ih2 := ordP_sound hnd hc hD hsel hKQ s fuel (setN m j) hf2
    intro listed hd e a w hr hag hs hkp hall hk
    unfold ordP at hk
    split at hk
    · rename_i o p ho hp
      obtain ⟨hb, hk1, hk2⟩ := blt_of hk
      simp only [Bool.and_eq_true] at hb
      exact wpK_two (only2_of hr hb.2.2) (hr.ready.2 ⟨o, ho, hb.1⟩) (effP_wp hnd hc hD ho hr hag hs hkp hall ih1 hk1) (effP_wp hnd hc hD hp hr hag hs hkp hall ih2 hk2)
    · exact hk.elim
  | .take i r, fuel + 1, m, hf => by
    have hf1 : r.depth ≤ fuel := Nat.le_of_succ_le_succ hf
    have ih := ordP_sound hnd hc hD hsel hKQ r fuel (setN m i) hf1
    intro listed hd e a w hr hag hs hkp hall hk
    unfold ordP at hk
    split at hk
    · exact hk.elim
    · rename_i o ho
      have eff : readyB m i o = true → onlyB m i 0 ops.toList = true → effP c ops o hd e w.heap (ordP c ops K r (setN m i)) → wpK c.rnd c.P ops (PostQ c D a0 w0 Qx) (nxt ops) (keptOf hd) (fuel + 1) listed a w :=
        fun h1 h2 hk => wpK_only (only_of hr h2) (hr.ready.2 ⟨o, ho, h1⟩) (effP_wp hnd hc hD ho hr hag hs hkp hall ih hk)
      have hr' := hr.set (lt_of_op ho)
      have hput : ∀ v, Keeps D a0 (a.put o.dst v) := fun v => hkp.trans (Keeps.put fun x hx => hD ▸ mem_dsts ho hx)
      have hQ : ∀ c' a' v w', PostQ c D a0 w0 Qx (.panic c') (a'.put o.dst v) w' → PostQ c D a0 w0 Qx (.panic c') a' w' := fun _ _ _ _ h => postQ_unput h
      split at hk
      · rename_i hkd
        obtain ⟨hb, hk⟩ := blt_of hk
        simp only [Bool.and_eq_true, Bool.or_eq_true] at hb
        unfold getP at hk
        rcases guardP_spec hag hk with ⟨e1, hag1, hw, hk⟩ | ⟨e1, hag1, hw, hk⟩
        · obtain ⟨v, hrun, hk⟩ := pure_val hag1 hkd hk
          obtain ⟨e', hag', hk⟩ := setD_put hag1 hk
          exact stepPure hnd ho hsel hQ hr hb.1 hb.2 (v := v.v) (.inl ⟨hw, fun w _ => hrun w trivial⟩) hall (ih _ hd e' _ w hr' hag' hs (hput _) hall hk)
        · obtain ⟨e', hag', hk⟩ := setD_put hag1 hk
          exact stepPure hnd ho hsel hQ hr hb.1 hb.2 (v := undef) (.inr ⟨hw, rfl⟩) hall (ih _ hd e' _ w hr' hag' hs (hput _) hall hk)
      · rename_i t x hkd
        have hop := load_kind hkd
        cases hf1 : (readyB m i o && freeB ops o m i 0 ops.toList) with
        | true =>
          rw [hf1] at hk
          simp only [Bool.and_eq_true] at hf1
          simp only [cond_true] at hk
          refine takeP_wp hnd hD hsel ho hr hag hs hkp hall ih hf1.1 hf1.2 (fun e1 hag1 hk => ?_) hk
          split at hk
          · rename_i y hy
            obtain ⟨b, p, hp, hk⟩ := atP_spec hk
            obtain ⟨v, cells, hcells, hrun, hk⟩ := ldH_spec hk
            refine ⟨v, fun h' => heldL h' cells, heldL_spec.2 hcells, fun w' hw' => ?_, hk⟩
            obtain ⟨dst, op, type, pos, after, guard⟩ := o
            simp only at hop
            subst hop
            refine run_v (s := Instr.loadAt t (a.eval x)) ?_
            rw [hag1.ev hy, hp]
            exact run_loadAt (hrun w' (heldL_spec.1 hw'))
          · exact hk.elim
        | false =>
          rw [hf1] at hk
          simp only [cond_false] at hk
          obtain ⟨hb, hk⟩ := blt_of hk
          simp only [Bool.and_eq_true] at hb
          refine getP_wp hnd hD ho hr hag hs hkp hall ih (fun {e K} h1 h2 => ?_) hb.1 hb.2 hk
          obtain ⟨dst, op, type, pos, after, guard⟩ := o
          simp only at hop
          subst hop
          exact val_load h1 h2
      · rename_i x hkd
        obtain ⟨s, d, el, hop, hus, hud, hue⟩ := text_kind hkd
        cases hf1 : (readyB m i o && freeB ops o m i 0 ops.toList) with
        | true =>
          rw [hf1] at hk
          simp only [Bool.and_eq_true] at hf1
          simp only [cond_true] at hk
          refine takeP_wp hnd hD hsel ho hr hag hs hkp hall ih hf1.1 hf1.2 (fun e1 hag1 hk => ?_) hk
          split at hk
          · rename_i p l n hy
            obtain ⟨str, hrun, hk⟩ := run_b2s (P := c.P) (w := w) (x := ⟨p, l, n⟩) (K := fun s => b2s ⟨p, l, n⟩ w.heap (fun s' => s' = s) ∧ setD c.n e1 o.dst (.val (.string s)) fun e' => ordP c ops K r (setN m i) ((i, fun h' => b2s ⟨p, l, n⟩ h' fun s' => s' = s) :: hd) e' w.heap) (by
              rcases hk with ⟨h0, hk⟩ | ⟨b, o2, s, h1, h2, h3, hk⟩
              · exact .inl ⟨h0, .inl ⟨h0, rfl⟩, hk⟩
              · exact .inr ⟨b, o2, s, h1, h2, h3, .inr ⟨b, o2, s, h1, h2, h3, rfl⟩, hk⟩)
            refine ⟨.val (.string str), fun h' => b2s ⟨p, l, n⟩ h' fun s' => s' = str, hk.1, fun w' hw' => ?_, hk.2⟩
            obtain ⟨s2, hrun2, rfl⟩ := run_b2s (P := c.P) (w := w') hw'
            obtain ⟨dst, op, type, pos, after, guard⟩ := o
            simp only at hop
            subst hop
            refine run_v (s := convert s d (a.eval x)) ?_
            rw [hag1.ev hy]
            exact (run_convert_b2s hus hud hue).trans hrun2
          · exact hk.elim
        | false =>
          rw [hf1] at hk
          simp only [cond_false] at hk
          obtain ⟨hb, hk⟩ := blt_of hk
          simp only [Bool.and_eq_true] at hb
          exact eff hb.1 hb.2 hk
      · obtain ⟨hb, hk⟩ := blt_of hk
        simp only [Bool.and_eq_true] at hb
        exact eff hb.1 hb.2 hk
end

theorem lookE_some {e : Env} : ∀ {slots : List Nat} {es : List EV} {vs : List EV} {j : Nat} {v : EV}, readE e slots = some es → es.map EV.v = vs.map EV.v → lookE slots vs j = some v → ∃ u, e j = some u ∧ u.v = v.v
  | [], es, vs, j, v, _, _, h => by simp [lookE] at h
  | s :: ss, es, vs, j, v, hr, hm, h => by
    simp only [readE] at hr
    split at hr
    · rename_i u us hu hus
      simp only [Option.some.injEq] at hr
      subst hr
      cases vs with
      | nil => simp [lookE] at h
      | cons v' vs =>
        simp only [List.map_cons, List.cons.injEq] at hm
        simp only [lookE] at h
        cases hb : Nat.beq j s with
        | true =>
          have := Nat.eq_of_beq_eq_true hb
          subst this
          rw [hb] at h
          simp only [cond_true, Option.some.injEq] at h
          subst h
          exact ⟨u, hu, hm.1⟩
        | false =>
          rw [hb] at h
          exact lookE_some hus hm.2 h
    · cases hr

/-- at a cut: what is read there, laid over what was known before -/
theorem fill_agr {c : Cfg} {slots : List Nat} {tys : List VT} {kill : List (Nat × Nat)} {e e' : Env} {a a' : Act} {D : List Nat} {t : TupV tys} (hag : Agr c.n e a) (hag' : Agr c.n e' a') (hkeep : Keeps D a a')
    (hin : D.all (fun j => bif Nat.beq j mkN then false else memN slots j || killed kill j) = true) (hr : readT slots tys e' = some t) (hall : ∀ j, memN slots j = true → ∃ v, lookE slots (TupV.evs tys t) j = some v) :
    Agr c.n (fillE slots (TupV.evs tys t) kill e) a' := by
  have hmk : mkN ∉ D := fun h => by
    have := List.all_eq_true.1 hin mkN h
    rw [show Nat.beq mkN mkN = true from Nat.beq_refl mkN] at this
    cases this
  refine ⟨hag'.size, (hkeep.2 hmk).trans hag.defers, fun j v hj => ?_⟩
  unfold fillE at hj
  dsimp only at hj
  unfold readT at hr
  split at hr
  · rename_i es hes
    have hm := tupV_un hr
    cases hl : lookE slots (TupV.evs tys t) j with
    | some u =>
      rw [hl] at hj
      simp only [Option.some.injEq] at hj
      subst hj
      obtain ⟨x, hx, hv⟩ := lookE_some hes hm.symm hl
      rw [← hv]
      exact hag'.val j x hx
    | none =>
      rw [hl] at hj
      simp only at hj
      cases hk : killed kill j with
      | true => rw [hk] at hj; cases hj
      | false =>
        rw [hk] at hj
        simp only [cond_false] at hj
        have hnot : j ∉ D := by
          intro hD
          have := List.all_eq_true.1 hin j hD
          cases hb9 : Nat.beq j mkN with
          | true => rw [hb9] at this; cases this
          | false =>
          rw [hb9, hk, cond_false, Bool.or_false] at this
          obtain ⟨v', hv'⟩ := hall j this
          rw [hl] at hv'
          cases hv'
        rw [hkeep.1 j hnot]
        exact hag.val j v hj
  · cases hr

theorem lookE_all {e : Env} : ∀ {slots : List Nat} {es vs : List EV} {j : Nat}, readE e slots = some es → es.map EV.v = vs.map EV.v → memN slots j = true → ∃ v, lookE slots vs j = some v
  | [], es, vs, j, _, _, h => by simp [memN] at h
  | s :: ss, es, vs, j, hr, hm, h => by
    simp only [readE] at hr
    split at hr
    · rename_i u us hu hus
      simp only [Option.some.injEq] at hr
      subst hr
      cases vs with
      | nil => simp at hm
      | cons v' vs =>
        simp only [List.map_cons, List.cons.injEq] at hm
        simp only [lookE]
        simp only [memN] at h
        cases hb : Nat.beq j s with
        | true => exact ⟨v', rfl⟩
        | false =>
          rw [hb] at h
          exact lookE_all hus hm.2 h
    · cases hr

theorem readT_all {slots : List Nat} {tys : List VT} {e : Env} {t : TupV tys} (hr : readT slots tys e = some t) : ∀ j, memN slots j = true → ∃ v, lookE slots (TupV.evs tys t) j = some v := by
  intro j hj
  unfold readT at hr
  split at hr
  · rename_i es hes
    exact lookE_all hes (tupV_un hr).symm hj
  · cases hr

theorem leafP_spec {slots : List Nat} {tys : List VT} {e : Env} {J : TupV tys → Heap → Prop} {h : Heap} (hk : leafP slots tys e J h) : ∃ t, readT slots tys e = some t ∧ J t h := by
  unfold leafP at hk
  split at hk
  · rename_i t ht
    exact ⟨t, ht, hk⟩
  · exact hk.elim

theorem setAll_agr {n : Nat} : ∀ {ps : List Tmp} {vs : List EV} {e e1 : Env} {a : Act}, Agr n e a → setAll n e ps vs = some e1 →
    Agr n e1 { a with tmps := (ps.zip (vs.map EV.v)).foldl (fun t x => t.setIfInBounds x.1 x.2) a.tmps }
  | [], [], e, e1, a, hag, h => by
    simp only [setAll, Option.some.injEq] at h
    subst h
    exact hag
  | p :: ps, v :: vs, e, e1, a, hag, h => by
    simp only [setAll] at h
    cases hb : Nat.blt p n with
    | false => rw [hb] at h; cases h
    | true =>
      rw [hb] at h
      exact setAll_agr (a := a.put (some p) v.v) (hag.set hb v) h
  | [], _ :: _, e, e1, a, hag, h => by cases h
  | _ :: _, [], e, e1, a, hag, h => by cases h

theorem roundTmps (ps : Array Tmp) (vs : List Value) (tmps : Array Value) : (ps.zip vs.toArray).foldl (fun t x => t.setIfInBounds x.1 x.2) tmps = (ps.toList.zip vs).foldl (fun t x => t.setIfInBounds x.1 x.2) tmps := by
  rw [← Array.foldl_toList, Array.toList_zip]

theorem fen_in (r : Option Nat) (l : Nat) : (fen r).inRound l = fen (some l) := rfl

theorem wpC_sound : ∀ (code : Code) (c : Cfg) (_ : c.OK) (_ : c.P.follows .mixedOrders = true) (ann : Ann) (e : Env) (a : Act) (w : World) (Q : Ex → Env → Heap → Prop),
    Agr c.n e a → wpC c code ann e w.heap Q → code.wpIn (fen c.rnd) 0 c.P (PostQ c (dstsOf code) a w Q) a w
  | .skip, c, hc, hmixed, ann, e, a, w, Q, hag, hk => wpIn_skip ⟨e, hag, Same.refl w, Keeps.refl _ a, hk⟩
  | .region id ops draw, c, hc, hmixed, ann, e, a, w, Q, hag, hk => by
    unfold wpC at hk
    cases draw with
    | false =>
      refine wpIn_region ?_
      rw [List.range_eq_range']
      have := runOps_wp hc (ops := ops) (Q := PostQ c (dstsOf (.region id ops false)) a w Q) ops.toList 0 (by simp) hag hk (fun e' a' w' h1 h2 h3 h4 => ⟨e', h1, h2, h3, h4⟩) (fun v a' w' h2 h3 h4 => ⟨v, rfl, h2, h3.2, h4⟩)
      simpa using this
    | true =>
      simp only at hk
      split at hk
      · rename_i l
        obtain ⟨hb, hk⟩ := blt_of hk
        simp only [Bool.and_eq_true] at hb
        refine wpIn_region_any hmixed (wpK_any (nx := nxt ops) _ (keptOf []) _ _ _ ?_)
        exact ordP_sound (noDefer_of hb.2.2) hc (D := dstsOf (.region id ops true)) rfl hb.1 (fun _ _ h => h) l ops.size 0 (Nat.le_of_ble_eq_true hb.2.1) _ [] e a { w with drawn := w.drawn + 1 } (Rel.zero ops) hag ⟨rfl, rfl, rfl⟩ (Keeps.refl _ a) (fun q hq => (by cases hq)) hk
      · obtain ⟨hb, hk⟩ := blt_of hk
        simp only [Bool.and_eq_true] at hb
        have hr0 : c.rnd = none := Option.isNone_iff_eq_none.1 hb.1
        rw [hr0]
        refine wpIn_region_quiet (C := Cls w w.heap) rfl hmixed hb.2 ⟨⟨rfl, rfl, rfl⟩, rfl⟩ ?_
        refine quiet_wp hc ops.toList 0 (by simp) hag hk fun e' a' h1 h3 h4 w' hw => ⟨e', h1, hw.1, h3, ?_⟩
        rw [hw.2]
        exact h4
  | .seq x y, c, hc, hmixed, ann, e, a, w, Q, hag, hk => by
    have plain : ∀ u v : Ann, wpC c x u e w.heap (contP (fun e' h' => wpC c y v e' h' Q) Q) → (Code.seq x y).wpIn (fen c.rnd) 0 c.P (PostQ c (dstsOf (.seq x y)) a w Q) a w := by
      intro u v hk
      refine wpIn_seq (wpIn_mono (wpC_sound x c hc hmixed u e a w _ hag hk) ?_)
      intro ex a' w' hp
      cases ex <;> first
        | exact hp.elim
        | skip
      · obtain ⟨e', h1, h2, h3, h4⟩ := hp
        refine wpIn_mono (wpC_sound y c hc hmixed v e' a' w' _ h1 h4) ?_
        exact PostQ.mono h2 (h3.mono fun j hj => List.mem_append.2 (.inl hj)) (fun j hj => List.mem_append.2 (.inr hj)) (fun _ _ _ h => h)
      · obtain ⟨e', h1, h2, h3, h4⟩ := hp
        exact ⟨e', h1, h2, h3.mono fun j hj => List.mem_append.2 (.inl hj), h4⟩
      · obtain ⟨e', h1, h2, h3, h4⟩ := hp
        exact ⟨e', h1, h2, h3.mono fun j hj => List.mem_append.2 (.inl hj), h4⟩
      · obtain ⟨v, h1, h2, h3, h4⟩ := hp
        exact ⟨v, h1, h2, fun hj => h3 fun hj' => hj (List.mem_append.2 (.inl hj')), h4⟩
    unfold wpC at hk
    split at hk
    · rename_i slots tys kill u v
      cases hin : dstsIn slots kill x with
      | false => rw [hin] at hk; exact hk.elim
      | true =>
        rw [hin] at hk
        obtain ⟨J, hJ, hk⟩ := hk
        refine wpIn_seq (wpIn_mono (wpC_sound x c hc hmixed u e a w _ hag hk) ?_)
        intro ex a' w' hp
        cases ex <;> first
          | exact hp.elim
          | skip
        · obtain ⟨e', h1, h2, h3, h4⟩ := hp
          obtain ⟨t, ht, hj⟩ := leafP_spec h4
          have hag2 := fill_agr hag h1 h3 hin ht (readT_all ht)
          refine wpIn_mono (wpC_sound y c hc hmixed v _ a' w' _ hag2 (hJ t w'.heap hj)) ?_
          exact PostQ.mono h2 (h3.mono fun j hj => List.mem_append.2 (.inl hj)) (fun j hj => List.mem_append.2 (.inr hj)) (fun _ _ _ h => h)
        · obtain ⟨e', h1, h2, h3, h4⟩ := hp
          exact ⟨e', h1, h2, h3.mono fun j hj => List.mem_append.2 (.inl hj), h4⟩
        · obtain ⟨e', h1, h2, h3, h4⟩ := hp
          exact ⟨e', h1, h2, h3.mono fun j hj => List.mem_append.2 (.inl hj), h4⟩
        · obtain ⟨v, h1, h2, h3, h4⟩ := hp
          exact ⟨v, h1, h2, fun hj => h3 fun hj' => hj (List.mem_append.2 (.inl hj')), h4⟩
    · exact plain _ _ hk
  | .cond x p q, c, hc, hmixed, ann, e, a, w, Q, hag, hk => by
    have yes : ∀ u, wpC c p u e w.heap Q → p.wpIn (fen c.rnd) 0 c.P (PostQ c (dstsOf (.cond x p q)) a w Q) a w := fun u hk =>
      wpIn_mono (wpC_sound p c hc hmixed u e a w Q hag hk) (PostQ.mono (Same.refl w) (Keeps.refl _ a) (fun j hj => List.mem_append.2 (.inl hj)) (fun _ _ _ h => h))
    have no : ∀ u, wpC c q u e w.heap Q → q.wpIn (fen c.rnd) 0 c.P (PostQ c (dstsOf (.cond x p q)) a w Q) a w := fun u hk =>
      wpIn_mono (wpC_sound q c hc hmixed u e a w Q hag hk) (PostQ.mono (Same.refl w) (Keeps.refl _ a) (fun j hj => List.mem_append.2 (.inr hj)) (fun _ _ _ h => h))
    unfold wpC at hk
    split at hk
    · rename_i hx; exact wpIn_cond_true (hag.ev hx) (yes _ hk)
    · rename_i hx; exact wpIn_cond_false (hag.ev hx) (no _ hk)
    · rename_i b hx
      exact wpIn_cond_split (hag.ev hx) (fun hb => yes _ (hk.1 hb)) (fun hb => no _ (hk.2 hb))
    · exact hk.elim
  | .block id x, c, hc, hmixed, ann, e, a, w, Q, hag, hk => by
    unfold wpC at hk
    refine wpIn_block (wpIn_mono (wpC_sound x c hc hmixed _ e a w _ hag hk) ?_)
    intro ex a' w' hp
    cases ex <;> first
      | exact hp.elim
      | skip
    · exact hp
    · rename_i id'
      obtain ⟨e', h1, h2, h3, h4⟩ := hp
      simp only [Exit.inBlock]
      simp only [blockP] at h4
      cases hb : Nat.beq id' id with
      | true =>
        rw [hb] at h4
        rw [if_pos (Nat.eq_of_beq_eq_true hb)]
        exact ⟨e', h1, h2, h3, h4⟩
      | false =>
        rw [hb] at h4
        rw [if_neg (Nat.ne_of_beq_eq_false hb)]
        exact ⟨e', h1, h2, h3, h4⟩
    · exact hp
    · exact hp
  | .loop x, c, hc, hmixed, ann, e, a, w, Q, hag, hk => by
    unfold wpC at hk
    split at hk
    · rename_i slots tys kill u
      cases hin : dstsIn slots kill x with
      | false => rw [hin] at hk; exact hk.elim
      | true =>
        rw [hin] at hk
        simp only [cond_true] at hk
        split at hk
        · rename_i t0 ht0
          obtain ⟨I, μ, h0, hr⟩ := hk
          have hall := readT_all ht0
          have hall' : ∀ (t : TupV tys) j, memN slots j = true → ∃ v, lookE slots (TupV.evs tys t) j = some v := by
            intro t j hj
            obtain ⟨v, hv⟩ := hall j hj
            have len : ∀ (ts : List VT) (s s' : TupV ts), (TupV.evs ts s).length = (TupV.evs ts s').length := by
              intro ts
              induction ts with
              | nil => intro s s'; rfl
              | cons x xs ih => intro s s'; simp only [TupV.evs, List.length_cons]; exact congrArg _ (ih _ _)
            have go : ∀ (ss : List Nat) (us vs : List EV), us.length = vs.length → (∃ v, lookE ss us j = some v) → ∃ v, lookE ss vs j = some v := by
              intro ss
              induction ss with
              | nil => intro us vs _ h; simp [lookE] at h
              | cons s ss ih =>
                intro us vs hlen h
                cases us with
                | nil => simp [lookE] at h
                | cons u us =>
                  cases vs with
                  | nil => simp at hlen
                  | cons v' vs =>
                    simp only [lookE] at h ⊢
                    cases hb : Nat.beq j s with
                    | true => exact ⟨v', rfl⟩
                    | false =>
                      rw [hb] at h
                      exact ih us vs (by simpa using hlen) h
            exact go slots _ _ (len tys t0 t) ⟨v, hv⟩
          refine wpIn_loop_ghost (fun n a' w' => Same w w' ∧ Keeps (dstsOf x) a a' ∧ ∃ t, Agr c.n (fillE slots (TupV.evs tys t) kill e) a' ∧ I t w'.heap ∧ n = μ t w'.heap)
            (μ t0 w.heap) ⟨Same.refl w, Keeps.refl _ a, t0, fill_agr hag hag (Keeps.refl _ a) hin ht0 hall, h0, rfl⟩ ?_
          rintro n a' w' ⟨hs, hkeep, t, hagt, hI, rfl⟩
          refine wpIn_mono (wpC_sound x c hc hmixed u _ a' w' _ hagt (hr t w'.heap hI)) ?_
          intro ex a2 w2 hp
          cases ex <;> first
            | exact hp.elim
            | skip
          · obtain ⟨e2, h1, h2, h3, h4⟩ := hp
            have h5 : leafP slots tys e2 (fun s' h' => I s' h' ∧ μ s' h' < μ t w'.heap) w2.heap := h4
            obtain ⟨t2, ht2, hI2, hμ⟩ := leafP_spec h5
            exact ⟨_, hμ, hs.trans h2, hkeep.trans h3, t2, fill_agr hag h1 (hkeep.trans h3) hin ht2 (hall' t2), hI2, rfl⟩
          · obtain ⟨e2, h1, h2, h3, h4⟩ := hp
            exact ⟨e2, h1, hs.trans h2, hkeep.trans h3, h4⟩
          · obtain ⟨e2, h1, h2, h3, h4⟩ := hp
            exact ⟨e2, h1, hs.trans h2, hkeep.trans h3, h4⟩
          · obtain ⟨v, h1, h2, h3, h4⟩ := hp
            exact ⟨v, h1, hs.trans h2, fun hj => (h3 hj).trans (hkeep.2 hj), h4⟩
        · exact hk.elim
    · exact hk.elim
  | .exit id, c, hc, hmixed, ann, e, a, w, Q, hag, hk => wpIn_exit ⟨e, hag, Same.refl w, Keeps.refl _ a, hk⟩
  | .ret, c, hc, hmixed, ann, e, a, w, Q, hag, hk => wpIn_ret ⟨e, hag, Same.refl w, Keeps.refl _ a, hk⟩
  | .rangeFunc g ps assign body, c, hc, hmixed, ann, e, a, w, Q, hag, hk => by
    unfold wpC at hk
    split at hk
    · rename_i tys x y
      cases hb : (c.rnd.isNone && e.mD.isNone) with
      | false => rw [hb] at hk; exact hk.elim
      | true =>
        rw [hb] at hk
        simp only [cond_true] at hk
        simp only [Bool.and_eq_true] at hb
        have hr0 : c.rnd = none := Option.isNone_iff_eq_none.1 hb.1
        have hm0 : e.mD = none := Option.isNone_iff_eq_none.1 hb.2
        have hd0 : a.defers = [] := by rw [hag.defers, hm0]; rfl
        split at hk
        · rename_i f cs hg
          split at hk
          · rename_i s t hp
            obtain ⟨hmem, ht⟩ := pickI_mem hp
            dsimp only at hmem ht
            have hit := hc.iters _ hmem
            dsimp only at hit
            have hg' : a.eval g = Value.func (.func f) #[] ⟨cs⟩ := hag.ev hg
            rw [hr0]
            refine wpIn_rangeFunc ?_
            intro fn hfn
            obtain ⟨r, hr⟩ : ∃ r : Loop, r = { state := .ready, pending := none, fn, tmps := a.tmps, params := ps, assign, body, defers := w.heap.size } := ⟨_, rfl⟩
            have hsem := hk r
            clear hk
            obtain ⟨W1, hW1⟩ : ∃ W1, (w.alloc (.deferred (some []))).alloc (recSt r .ready none) = W1 := ⟨_, rfl⟩
            have hh1 : W1.heap = (w.heap.push (.deferred (some []))).push (recSt r .ready none) := by rw [← hW1]; rfl
            have hs1 : Same w W1 := by rw [← hW1]; exact ⟨rfl, rfl, rfl⟩
            rw [← hh1] at hsem
            have hY : YOK c.P (yieldM r (w.heap.size + 1) ps.size (fun vs h' k => argsV (fun a : TupV tys => (TupV.evs tys a).map EV.v) vs fun a => match setAll c.n ⟨e.f, none⟩ ps.toList (TupV.evs tys a) with
              | some e1 => wpC { c with rnd := some (w.heap.size + 1), pan := fun _ _ => False } assign x e1 h' (roundX fun e2 h2 =>
                  busyM r (w.heap.size + 1) h2 fun h3 => wpC { c with rnd := some (w.heap.size + 1), pan := fun _ _ => False } body y e2 h3 (roundY k))
              | none => False)) := by
              intro l vs k W hy
              obtain ⟨rfl, hlen, hrec, hargs⟩ := hy
              obtain ⟨ta, rfl, hargs⟩ := hargs
              split at hargs
              · rename_i e1 he1
                have hrl : W.heap[w.heap.size + 1]? = some (.loop { r with state := .ready, pending := none }) := hrec
                have hy := run_yield (P := c.P) (args := ((TupV.evs tys ta).map EV.v).toArray) hrl (by rw [hr]; simpa using hlen)
                refine ⟨fn, (ps.zip ((TupV.evs tys ta).map EV.v).toArray).foldl (fun t x => t.setIfInBounds x.1 x.2) a.tmps, assign, body, by rw [hr] at hy; exact hy, ?_⟩
                have hag1 : Agr c.n e1 { tmps := (ps.toList.zip ((TupV.evs tys ta).map EV.v)).foldl (fun t x => t.setIfInBounds x.1 x.2) a.tmps, defers := [] } :=
                  setAll_agr (e := ⟨e.f, none⟩) (a := { a with defers := [] }) ⟨hag.size, rfl, hag.val⟩ he1
                have hc1 := hc.at (some (w.heap.size + 1)) (fun _ _ => False)
                rw [← roundTmps] at hag1
                refine roundIn_of_wpIn hfn ?_
                refine wpIn_mono (wpC_sound assign _ hc1 hmixed x e1 _ W _ hag1 hargs) ?_
                intro ex a1 w1 hp1
                cases ex with
                | normal =>
                  obtain ⟨e2, hag2, hs2, hk2, hrec2, hb2⟩ := hp1
                  have hrl2 : w1.heap[w.heap.size + 1]? = some (.loop { r with state := .ready, pending := none }) := hrec2
                  refine ⟨_, run_beginRound hrl2 rfl, ?_⟩
                  refine wpIn_mono (wpC_sound body _ hc1 hmixed y e2 a1 (w1.putObj (w.heap.size + 1) (.loop { r with state := .busy, pending := none })) _ hag2 hb2) ?_
                  have hs3 : Same W (w1.putObj (w.heap.size + 1) (.loop { r with state := .busy, pending := none })) := hs2.trans ⟨rfl, rfl, rfl⟩
                  have fin : ∀ (p : Option Code) (W3 : World), Same (w1.putObj (w.heap.size + 1) (.loop { r with state := .busy, pending := none })) W3 →
                      isRec W3.heap (w.heap.size + 1) r .busy none (k p.isNone (setO W3.heap (w.heap.size + 1) (recSt r (if p.isNone then .ready else .done) p))) →
                      ∃ v w', (Instr.endRound (w.heap.size + 1) p).run c.P W3 = .ok v w' ∧ ∃ b, Ending.returned v = .returned (.bool b) ∧ Same W w' ∧ k b w'.heap := by
                    intro p W3 hs4 hk4
                    have hrl3 : W3.heap[w.heap.size + 1]? = some (.loop { r with state := .busy, pending := none }) := hk4.1
                    exact ⟨_, _, run_endRound p hrl3, p.isNone, rfl, (hs3.trans hs4).trans ⟨rfl, rfl, rfl⟩, hk4.2⟩
                  intro ex3 a3 w3 hp3
                  cases ex3 with
                  | normal => obtain ⟨e3, _, hs4, _, hk4⟩ := hp3; exact fin none w3 hs4 hk4
                  | ret => obtain ⟨e3, _, hs4, _, hk4⟩ := hp3; exact fin (some .ret) w3 hs4 hk4
                  | exit id => obtain ⟨e3, _, hs4, _, hk4⟩ := hp3; exact fin (some (.exit id)) w3 hs4 hk4
                  | goto t => exact hp3.elim
                  | panic ch => obtain ⟨_, _, _, _, hk4⟩ := hp3; exact hk4.elim
                  | outgrown => exact hp3.elim
                | ret => obtain ⟨_, _, _, _, hk4⟩ := hp1; exact hk4.elim
                | exit id => obtain ⟨_, _, _, _, hk4⟩ := hp1; exact hk4.elim
                | goto t => exact hp1.elim
                | panic ch => obtain ⟨_, _, _, _, hk4⟩ := hp1; exact hk4.elim
                | outgrown => exact hp1.elim
              · exact hargs.elim
            have hok := hit _ hY
            obtain ⟨⟨fd, hf, hname, hbody⟩, hcall⟩ := hok
            have hargs : (#[Value.func (.yield (w.heap.size + 1)) #[] #[]] : Array Value) ++ (⟨cs⟩ : Array Value) = ((TupV.evs (.yl :: s.caps) (w.heap.size + 1, t)).map EV.v).toArray := by
              have h5 := tupV_un ht
              have h6 : (cs.map EV.val).map EV.v = cs := by simp [Function.comp_def, EV.v]
              rw [h6] at h5
              simp only [TupV.evs, List.map_cons, h5]
              simp [VT.ev, EV.v]
            refine ⟨w.heap.size + 1, [{ target := .collected w.heap.size, args := #[] }], W1, { target := .fn (.func f) ⟨cs⟩, args := #[.func (.yield (w.heap.size + 1)) #[] #[]] }, W1, f,
              #[.func (.yield (w.heap.size + 1)) #[] #[]] ++ (⟨cs⟩ : Array Value), W1, ?_, ?_, ?_, ?_, fun h => (by cases h), callsIn_fen.2 ?_⟩
            · rw [← hW1, hr]
              exact run_enterLoop_outer fn a.tmps ps assign body
            · simp only [resolve, hg']
              simp [Deferred.ofValue, Act.eval]
            · intro f' hf'; exact trivial
            · simp only [invoke, callFunc, Sem.run_bind, run_program, Result.andThen_ok, hf, hname, Bool.false_eq_true, if_false, hbody, Sem.run_pure]
            · rw [hargs]
              refine (hcall (w.heap.size + 1, t) (fun _ h' => ∃ st p, st ≠ .busy ∧ isRec h' (w.heap.size + 1) r st p (jumpP p (Q .normal ⟨e.f, some w.heap.size⟩ (setO h' (w.heap.size + 1) (recSt r .exhausted p)))
                (fun id => Q (.exit id) ⟨e.f, some w.heap.size⟩ (setO h' (w.heap.size + 1) (recSt r .exhausted p))) (Q .ret ⟨e.f, some w.heap.size⟩ (setO h' (w.heap.size + 1) (recSt r .exhausted p))))) (fun _ _ => False) W1 hsem).mono ?_
              rintro ending w2 (⟨rr, rfl, hs2, st, p, hst, hrec, hj⟩ | ⟨v, rfl, hs2, hk⟩)
              · have hrl : w2.heap[w.heap.size + 1]? = some (.loop { r with state := st, pending := p }) := hrec
                have hend := run_endLoop (P := c.P) hrl (by exact hst)
                have hs3 : Same w (w2.putObj (w.heap.size + 1) (recSt r .exhausted p)) := (hs1.trans hs2).trans ⟨rfl, rfl, rfl⟩
                have hag3 : Agr c.n ⟨e.f, some w.heap.size⟩ { a with defers := [{ target := .collected w.heap.size, args := #[] }] ++ a.defers } := ⟨hag.size, by rw [hd0]; rfl, hag.val⟩
                have hk3 : Keeps (dstsOf (.rangeFunc g ps assign body)) a { a with defers := [{ target := .collected w.heap.size, args := #[] }] ++ a.defers } := ⟨fun _ _ => rfl, fun h => absurd (List.mem_singleton.2 rfl) h⟩
                refine ⟨p, _, hend, ?_⟩
                cases p with
                | none => exact ⟨_, hag3, hs3, hk3, hj⟩
                | some cj =>
                  cases cj with
                  | exit id => exact wpIn_exit ⟨_, hag3, hs3, hk3, hj⟩
                  | ret => exact wpIn_ret ⟨_, hag3, hs3, hk3, hj⟩
                  | _ => exact hj.elim
              · exact hk.elim
          · exact hk.elim
        · exact hk.elim
    · exact hk.elim
  | .scope _, c, hc, hmixed, ann, e, a, w, Q, hag, hk => hk.elim
  | .label _, c, hc, hmixed, ann, e, a, w, Q, hag, hk => hk.elim
  | .goto _, c, hc, hmixed, ann, e, a, w, Q, hag, hk => hk.elim
  | .refuse _, c, hc, hmixed, ann, e, a, w, Q, hag, hk => hk.elim

/-! ### a whole function -/
theorem argEnv_agr : ∀ (args : List EV) (i : Nat) (j : Nat) (v : EV), argEnv'.go args i j = some v → ∃ k, j = i + k ∧ args[k]? = some v
  | [], i, j, v, h => by simp [argEnv'.go] at h
  | x :: xs, i, j, v, h => by
    simp only [argEnv'.go] at h
    cases hb : Nat.beq j i with
    | true =>
      rw [hb] at h
      simp only [cond_true, Option.some.injEq] at h
      exact ⟨0, Nat.eq_of_beq_eq_true hb, by simp [h]⟩
    | false =>
      rw [hb] at h
      obtain ⟨k, hk, hv⟩ := argEnv_agr xs (i + 1) j v h
      exact ⟨k + 1, by omega, by simpa using hv⟩

theorem resP_spec {c : Cfg} {e : Env} {a : Act} {w : World} (hag : Agr c.n e a) {f : ResultVar → Sem Value} (h1 : ∀ t, f (.tmp t) = pure (a.tmps.getD t undef))
    (h2 : ∀ x t, f (.cell x t) = (do loadVar t (← asAddr (a.tmps.getD x undef)))) : ∀ {rs : List ResultVar} {K : List EV → Prop}, resP c e w.heap rs K →
    ∃ vs, (rs.mapM f).run c.P w = .ok (vs.map EV.v) w ∧ K vs
  | [], K, hk => ⟨[], rfl, hk⟩
  | .tmp t :: r, K, hk => by
    simp only [resP] at hk
    split at hk
    · rename_i v hv
      obtain ⟨vs, hr, hk⟩ := resP_spec hag h1 h2 hk
      refine ⟨v :: vs, ?_, hk⟩
      have := hag.val t v hv
      rw [List.mapM_cons]
      simp only [h1, Sem.run_bind, Sem.run_pure, Result.andThen_ok, hr, List.map_cons]
      simp [this]
    · exact hk.elim
  | .cell x t :: r, K, hk => by
    simp only [resP] at hk
    split at hk
    · rename_i b o hv
      obtain ⟨v, hl, hk⟩ := ldT_spec hk
      obtain ⟨vs, hr, hk⟩ := resP_spec hag h1 h2 hk
      refine ⟨v :: vs, ?_, hk⟩
      have := hag.val x _ hv
      have hx : (asAddr (a.tmps.getD x undef)).run c.P w = .ok ⟨b, o, none⟩ w := by
        have : a.tmps.getD x undef = .pointer (some ⟨b, o, none⟩) := by simp [this, EV.v]
        rw [this]; rfl
      rw [List.mapM_cons]
      simp only [h2, Sem.run_bind, Sem.run_pure, hx, Result.andThen_ok, hl w rfl, hr, List.map_cons]
    · exact hk.elim

def tupV (l : List Value) : Value := match l with
  | [v] => v
  | l => .tuple l.toArray

theorem tupleOf_v : ∀ (vs : List EV), (tupleOf vs).v = tupV (vs.map EV.v)
  | [] => rfl
  | [_] => rfl
  | _ :: _ :: _ => rfl

theorem tupV_size (l : List Value) : (if h : l.toArray.size = 1 then l.toArray[0] else Value.tuple l.toArray) = tupV l := by
  match l with
  | [] => rfl
  | [x] => rfl
  | x :: y :: r =>
    have : ¬ (x :: y :: r).toArray.size = 1 := by simp
    rw [dif_neg this]
    rfl

theorem resV_eq {res : List VT} {vs : List EV} {r : TupV res} (h : TupV.un res vs = some r) : resV res r = tupV (vs.map EV.v) := by
  unfold resV
  rw [tupleOf_v, tupV_un h]

theorem funP_calls {c : Cfg} (hc : c.OK) (hmixed : c.P.follows .mixedOrders = true) {f : FuncId} {fn : Func} {ann : Ann} {args : List EV} {res : List VT} {K : TupV res → Heap → Prop} {Kp : Value → Heap → Prop} {w : World}
    (hf : c.P.funcs[f]? = some fn) (hn : c.n = fn.ntmps) (hlen : args.length ≤ fn.ntmps) (hk : funP c fn ann args res K Kp w.heap) :
    Calls c.P f (args.map EV.v).toArray w (CallPost res w K Kp) := by
  unfold funP at hk
  split at hk
  · rename_i code hb
    refine callsIn_fen (r := none) (n := 0).1 (callsIn_of_wp_marks hf hb trivial ?_)
    have hag : Agr c.n (argEnv' args) { tmps := (args.map EV.v).toArray ++ Array.replicate (fn.ntmps - (args.map EV.v).toArray.size) undef, defers := [] } := by
      refine ⟨by simp [hn]; omega, rfl, fun j v hj => ?_⟩
      obtain ⟨k, hk, hv⟩ := argEnv_agr args 0 j v hj
      have hlt : k < args.length := by
        rcases Nat.lt_or_ge k args.length with h | h
        · exact h
        · rw [List.getElem?_eq_none h] at hv; cases hv
      simp only [Nat.zero_add] at hk
      subst hk
      simp [hlt, Array.getElem?_append]
      have h5 := List.getElem?_eq_getElem hlt
      rw [hv] at h5
      exact congrArg EV.v (Option.some.inj h5.symm)
    refine wpIn_mono (wpC_sound code _ (hc.at none (bif hasRF code then fun _ _ => False else Kp)) hmixed ann _ _ w _ hag hk) ?_
    have res_ : ∀ (a' : Act) (w1 : World) (e' : Env), Agr c.n e' a' → Same w w1 → (resP c e' w1.heap fn.results.toList fun vs => match TupV.un res vs with
        | some r => K r w1.heap
        | none => False) → ∃ v, (results fn a'.tmps).run c.P w1 = .ok v w1 ∧ CallPost res w K Kp (.returned v) w1 := by
      intro a' w1 e' h1 h2 h4
      obtain ⟨vs, hr, hk⟩ := resP_spec (f := fun
        | .tmp t => pure (a'.tmps.getD t undef)
        | .cell x t => do loadVar t (← asAddr (a'.tmps.getD x undef))) h1 (fun _ => rfl) (fun _ _ => rfl) h4
      split at hk
      · rename_i r hun
        refine ⟨resV res r, ?_, .inl ⟨r, rfl, h2, hk⟩⟩
        unfold results
        rw [Array.mapM_eq_mapM_toList]
        simp only [Sem.run_bind, Sem.run_map]
        have hr' := hr
        refine (congrArg (fun r => (Result.andThen (Result.andThen r _) _)) hr').trans ?_
        simp only [Result.andThen_ok, Sem.run_pure]
        rw [resV_eq hun]
        exact congrArg (fun v => Result.ok v w1) (tupV_size _)
      · exact hk.elim
    have fin : ∀ (a' : Act) (w' : World) (e' : Env), Agr c.n e' a' → Same w w' → (match e'.mD with
        | none => resP c e' w'.heap fn.results.toList fun vs => match TupV.un res vs with
          | some r => K r w'.heap
          | none => False
        | some D => shutM D w'.heap fun h' => resP c e' h' fn.results.toList fun vs => match TupV.un res vs with
          | some r => K r h'
          | none => False) → LeavesInM (fen none) 0 c.P fn a'.tmps (CallPost res w K Kp) a'.defers .returning w' := by
      intro a' w' e' h1 h2 h4
      rw [h1.defers]
      cases hm : e'.mD with
      | none =>
        rw [hm] at h4
        exact res_ a' w' e' h1 h2 h4
      | some D =>
        rw [hm] at h4
        obtain ⟨hD, h4⟩ := h4
        refine ⟨by simp, .inl ⟨D, _, rfl, run_takeDeferred hD, ?_⟩⟩
        exact res_ a' (w'.putObj D (.deferred none)) e' h1 (h2.trans ⟨rfl, rfl, rfl⟩) h4
    intro ex a' w' hp
    cases ex with
    | normal => obtain ⟨e', h1, h2, h3, h4⟩ := hp; exact fin a' w' e' h1 h2 h4
    | ret => obtain ⟨e', h1, h2, h3, h4⟩ := hp; exact fin a' w' e' h1 h2 h4
    | exit id => obtain ⟨e', h1, h2, h3, h4⟩ := hp; exact h4.elim
    | goto t => exact hp.elim
    | outgrown => exact hp.elim
    | panic ch =>
      obtain ⟨v, rfl, h2, h3, h4⟩ := hp
      cases hrf : hasRF code with
      | true => rw [hrf] at h4; exact h4.elim
      | false =>
        rw [hrf] at h4
        have hmk : mkN ∉ dstsOf code := by
          have key : ∀ (l : List Nat), memN l mkN = false → mkN ∉ l := by
            intro l
            induction l with
            | nil => intro _ h; cases h
            | cons x xs ih =>
              intro h hm
              simp only [memN] at h
              cases hb : Nat.beq mkN x with
              | true => rw [hb] at h; cases h
              | false =>
                rw [hb] at h
                rcases List.mem_cons.1 hm with he | hm
                · rw [← he, Nat.beq_refl] at hb; cases hb
                · exact ih h hm
          exact key _ hrf
        rw [show bodyPostM (fen none) 0 c.P fn (CallPost res w K Kp) (.panic [{ v, recovered := false }]) a' w' = LeavesInM (fen none) 0 c.P fn a'.tmps (CallPost res w K Kp) a'.defers (.panicking [{ v, recovered := false }]) w' from rfl, h3 hmk]
        exact .inr ⟨v, rfl, h2, h4⟩
  · exact hk.elim

end Go.Fw
