/- Why a reading is right: the operations, continued. -/
import Derived.Test.YtledmkhbaacdnaaFwD
import Derived.RangeFuncLeaves
import Derived.RangeFuncRecord
namespace Go.Fw
open Go

def resV (vs : List VT) (t : TupV vs) : Value := (tupleOf (TupV.evs vs t)).v

/-- the fence that lets everything in, in a round or in none -/
def fen (r : Option Nat) : Fence := { fn := fun _ => True, depth := none, alive := false, round := r }
theorem callsIn_fen {r : Option Nat} {n : Nat} {P : Program} {f : FuncId} {args : Array Value} {w : World} {R : Ending → World → Prop} : CallsIn (fen r) n P f args w R ↔ Calls P f args w R :=
  callsIn_wide (n := n)

/-- how a call ends: it returns, or panics -/
def CallPost (res : List VT) (w : World) (K : TupV res → Heap → Prop) (Kp : Value → Heap → Prop) : Ending → World → Prop := fun e w' =>
  (∃ r, e = .returned (resV res r) ∧ Same w w' ∧ K r w'.heap) ∨ (∃ v, e = .panicked [{ v, recovered := false }] ∧ Same w w' ∧ Kp v w'.heap)

/-- what a call of yield comes to -/
def YieldsTo (P : Program) (l : Nat) (vs : List Value) (w : World) (k : Bool → Heap → Prop) : Prop :=
  ∃ fn tmps assign body, (Instr.yield l vs.toArray).run P w = .ok (.round l fn tmps assign body) w ∧
    RoundIn (fen none) 0 P l fn tmps assign body w fun e w' => ∃ b, e = .returned (.bool b) ∧ Same w w' ∧ k b w'.heap
def YOK (P : Program) (Y : Yld) : Prop := ∀ l vs k w, Y l vs k w.heap → YieldsTo P l vs w k

structure CallOK (P : Program) (f : FuncId) (s : CallSpec) : Prop where
  named : ∃ fn, P.funcs[f]? = some fn ∧ (fn.name == "runtime.NumGoroutine") = false ∧ fn.body.isNone = false
  calls : ∀ (t : TupV s.args) (K : TupV s.res → Heap → Prop) (Kp : Value → Heap → Prop) (w : World), s.sem t K Kp w.heap →
    Calls P f ((TupV.evs s.args t).map EV.v).toArray w (CallPost s.res w K Kp)

def IterSpec.spec (s : IterSpec) (Y : Yld) : CallSpec := ⟨.yl :: s.caps, [], fun t K _ h => s.sem Y t.1 t.2 (fun h' => K () h') h⟩
def IterOK (P : Program) (f : FuncId) (s : IterSpec) : Prop := ∀ Y, YOK P Y → CallOK P f (s.spec Y)

/-- the model's own entry for maps.clone -/
def ExtOK (P : Program) (f : FuncId) : Prop := ∀ (t b : Nat) (es : Array MapEntry) (c : Nat) (w : World), w.heap[b]? = some (.map es c) →
  ∃ w', (callFunc f #[.iface t (.map (some b))]).run P w = .ok (.value (.iface t (.map (some w.heap.size)))) w' ∧ Same w w' ∧ w'.heap = w.heap.push (.map es c)

/-- a method of a type's values -/
def MethOK (P : Program) (name : String) (t : TypeId) (f : FuncId) : Prop := ∀ (v : Value) (w : World), (method (P.types.size + Made.depth) t v name).run P w = .ok (f, v) w

structure Cfg.OK (c : Cfg) : Prop where
  calls : ∀ x, x ∈ c.calls → CallOK c.P x.1 x.2
  ext : ∀ f, f ∈ c.ext → ExtOK c.P f
  dyn : ∀ x, x ∈ c.dyn → MethOK c.P x.1 x.2.1 x.2.2
  iters : ∀ x, x ∈ c.iters → IterOK c.P x.1 x.2
  yld : YOK c.P c.yld

theorem Cfg.OK.at {c : Cfg} (h : c.OK) (r : Option Nat) (p : Value → Heap → Prop) : Cfg.OK { c with rnd := r, pan := p } := ⟨h.calls, h.ext, h.dyn, h.iters, h.yld⟩
theorem yok_no (P : Program) : YOK P noYld := fun _ _ _ _ h => h.elim

theorem pickI_mem {f : FuncId} {es : List EV} : ∀ {l : List (FuncId × IterSpec)} {p : PickedI}, pickI f es l = some p → (f, p.s) ∈ l ∧ TupV.un p.s.caps es = some p.t
  | [], p, h => by simp [pickI] at h
  | (g, s) :: r, p, h => by
    simp only [pickI] at h
    cases hb : Nat.beq f g with
    | false =>
      rw [hb] at h
      have := pickI_mem (l := r) h
      exact ⟨.tail _ this.1, this.2⟩
    | true =>
      rw [hb] at h
      have he := Nat.eq_of_beq_eq_true hb
      subst he
      simp only [cond_true] at h
      split at h
      · rename_i t ht
        simp only [Option.some.injEq] at h
        subst h
        exact ⟨.head _, ht⟩
      · have := pickI_mem (l := r) h
        exact ⟨.tail _ this.1, this.2⟩

theorem pickL_mem {f : FuncId} {es : List EV} : ∀ {l : List (FuncId × CallSpec)} {p : Picked}, pickL f es l = some p → (f, p.s) ∈ l ∧ TupV.un p.s.args es = some p.t
  | [], p, h => by simp [pickL] at h
  | (g, s) :: r, p, h => by
    simp only [pickL] at h
    cases hb : Nat.beq f g with
    | false =>
      rw [hb] at h
      have := pickL_mem (l := r) h
      exact ⟨.tail _ this.1, this.2⟩
    | true =>
      rw [hb] at h
      have he := Nat.eq_of_beq_eq_true hb
      subst he
      simp only [cond_true] at h
      split at h
      · rename_i t ht
        simp only [Option.some.injEq] at h
        subst h
        exact ⟨.head _, ht⟩
      · have := pickL_mem (l := r) h
        exact ⟨.tail _ this.1, this.2⟩

theorem pickM_mem {f : FuncId} {es : List EV} : ∀ {l : List (FuncId × CallSpec)} {p : PickedM}, pickM f es l = some p → (f, (⟨p.a0 :: p.rest, p.res, p.sem⟩ : CallSpec)) ∈ l ∧ TupV.un p.rest es = some p.t
  | [], p, h => by simp [pickM] at h
  | (g, ⟨a0 :: rest, res, sem⟩) :: r, p, h => by
    simp only [pickM] at h
    cases hb : Nat.beq f g with
    | false =>
      rw [hb] at h
      have := pickM_mem (l := r) h
      exact ⟨.tail _ this.1, this.2⟩
    | true =>
      rw [hb] at h
      have he := Nat.eq_of_beq_eq_true hb
      subst he
      simp only [cond_true] at h
      split at h
      · rename_i t ht
        simp only [Option.some.injEq] at h
        subst h
        exact ⟨.head _, ht⟩
      · have := pickM_mem (l := r) h
        exact ⟨.tail _ this.1, this.2⟩
  | (g, ⟨[], res, sem⟩) :: r, p, h => by
    simp only [pickM] at h
    have := pickM_mem (l := r) h
    exact ⟨.tail _ this.1, this.2⟩

theorem dynP_spec {calls : List (FuncId × CallSpec)} {Kp : Value → Heap → Prop} {name : String} {v : Value} {es : List EV} {h : Heap} {K : EV → Heap → Prop} : ∀ {l : List (String × TypeId × FuncId)}, dynP calls Kp name v es h K l →
    ∃ (t : TypeId) (f : FuncId) (p : PickedM) (x : p.a0.D), (name, t, f) ∈ l ∧ v = .iface t (p.a0.ev x).v ∧ pickM f es calls = some p ∧ p.sem (x, p.t) (fun rr h' => K (tupleOf (TupV.evs p.res rr)) h') Kp h
  | [], hk => hk.elim
  | (n, t, f) :: r, hk => by
    have tail : dynP calls Kp name v es h K r → ∃ (t' : TypeId) (f' : FuncId) (p : PickedM) (x : p.a0.D), (name, t', f') ∈ (n, t, f) :: r ∧ v = .iface t' (p.a0.ev x).v ∧ pickM f' es calls = some p ∧ p.sem (x, p.t) (fun rr h' => K (tupleOf (TupV.evs p.res rr)) h') Kp h := fun h9 => by
      obtain ⟨t', f', p, x, h1, h2, h3, h4⟩ := dynP_spec h9
      exact ⟨t', f', p, x, .tail _ h1, h2, h3, h4⟩
    simp only [dynP] at hk
    cases hb : n == name with
    | false => rw [hb] at hk; exact tail hk
    | true =>
      rw [hb] at hk
      have he : n = name := by simpa using hb
      subst he
      simp only [cond_true] at hk
      split at hk
      · rename_i p hp
        rcases hk with ⟨x, hx, hk⟩ | hk
        · exact ⟨t, f, p, x, .head _, hx, hp, hk⟩
        · exact tail hk
      · exact tail hk

theorem hasN_mem {f : FuncId} : ∀ {l : List FuncId}, hasN f l = true → f ∈ l
  | [], h => by simp [hasN] at h
  | g :: r, h => by
    simp only [hasN] at h
    cases hb : Nat.beq f g with
    | true => rw [Nat.eq_of_beq_eq_true hb]; exact .head _
    | false => rw [hb] at h; exact .tail _ (hasN_mem h)

theorem un_mk {l : Leaf} {v : Value} {x : l.D} (h : l.un v = some x) : l.mk x = v := by
  cases l <;> cases v <;> simp only [Leaf.un] at h <;> first
    | (split at h
       · simp only [Option.some.injEq] at h; subst h; rename_i hk; subst hk; rfl
       · cases h)
    | (simp only [Option.some.injEq] at h; subst h; rfl)
    | cases h

theorem tup_un : ∀ {ls : List Leaf} {vs : List Value} {t : Tup ls}, Tup.un ls vs = some t → Tup.vals ls t = vs
  | [], [], t, _ => rfl
  | [], _ :: _, t, h => by simp [Tup.un] at h
  | _ :: _, [], t, h => by simp [Tup.un] at h
  | l :: ls, v :: vs, t, h => by
    simp only [Tup.un] at h
    split at h
    · rename_i x t' h1 h2
      simp only [Option.some.injEq] at h
      subst h
      simp only [Tup.vals, un_mk h1, tup_un h2]
    · cases h

theorem fnU_spec {f : FuncId} {e : EV} {x : Unit} (h : fnU f e = some x) : (EV.val (.func (.func f) #[] #[])).v = e.v := by
  unfold fnU at h
  split at h
  · rename_i g
    cases hb : Nat.beq f g with
    | false => rw [hb] at h; cases h
    | true => rw [Nat.eq_of_beq_eq_true hb]
  · cases h

theorem cloU_spec {f : FuncId} {ls : List Leaf} {e : EV} {x : Tup ls} (h : cloU f ls e = some x) : (EV.val (.func (.func f) #[] ⟨Tup.vals ls x⟩)).v = e.v := by
  unfold cloU at h
  split at h
  · rename_i g cs
    cases hb : Nat.beq f g with
    | false => rw [hb] at h; cases h
    | true =>
      rw [hb] at h
      rw [Nat.eq_of_beq_eq_true hb, tup_un (ls := ls) (vs := cs) h]
  · cases h

theorem ylU_spec {e : EV} {l : Nat} (h : ylU e = some l) : (EV.val (.func (.yield l) #[] #[])).v = e.v := by
  unfold ylU at h
  split at h
  · simp only [Option.some.injEq] at h; subst h; rfl
  · cases h

theorem vt_un {v : VT} {e : EV} {x : v.D} (h : v.un e = some x) : (v.ev x).v = e.v := by
  cases v with
  | one l => exact un_mk (v := e.v) h
  | agg ls =>
    cases e with
    | val u =>
      cases u with
      | agg cs =>
        have := tup_un (ls := ls) (vs := cs.toList) h
        show Value.agg (Tup.vals ls x).toArray = .agg cs
        rw [this]
      | _ => simp [VT.un] at h
    | lit b => simp [VT.un] at h
    | adr b o => simp [VT.un] at h
    | itr t b => simp [VT.un] at h
    | more k v => simp [VT.un] at h
    | over => simp [VT.un] at h
  | fn f => exact fnU_spec h
  | clo f ls => exact cloU_spec h
  | yl => exact ylU_spec h

theorem tupV_un : ∀ {vs : List VT} {es : List EV} {t : TupV vs}, TupV.un vs es = some t → (TupV.evs vs t).map EV.v = es.map EV.v
  | [], [], t, _ => rfl
  | [], _ :: _, t, h => by simp [TupV.un] at h
  | _ :: _, [], t, h => by simp [TupV.un] at h
  | v :: vs, e :: es, t, h => by
    simp only [TupV.un] at h
    split at h
    · rename_i x t' h1 h2
      simp only [Option.some.injEq] at h
      subst h
      simp only [TupV.evs, List.map_cons, vt_un h1, tupV_un h2]
    · cases h

theorem not_defer {P : Program} {ρ : Operand → Value} {o : Oper} {w w' : World} {n : Next} (hr : (execOp ρ o).run P w = .ok n w') (hn : ∀ d, n ≠ .defer d) : ∀ c, o.op ≠ .defer c := by
  intro c hc
  unfold execOp at hr
  rw [hc] at hr
  simp only [Sem.run_bind] at hr
  cases h : (resolve ρ c o.type).run P w with
  | ok d w1 =>
    rw [h] at hr
    simp only [Result.andThen_ok, Sem.run_pure] at hr
    cases hr
    exact hn _ rfl
  | halt x w1 =>
    rw [h] at hr
    cases hr
theorem semAt_run {P : Program} {r : Option Nat} {ρ : Operand → Value} {o : Oper} {w w' : World} {n : Next} (hr : (execOp ρ o).run P w = .ok n w') (hn : ∀ d, n ≠ .defer d) : (o.semAt r ρ).run P w = .ok n w' := by
  rw [Oper.semAt_eq _ _ _ (not_defer hr hn)]
  exact hr

theorem wp_val {P : Program} {r : Option Nat} {o : Oper} {a : Act} {w w' : World} {v : Value} {next : Act → World → Prop} {Q : Exit → Act → World → Prop}
    (hr : (execOp a.eval o).run P w = .ok (.value v) w') (hn : next (a.put o.dst v) w') : o.wpIn (fen r) 0 P a w next Q := by
  refine ⟨fun _ _ => trivial, ?_⟩
  rw [show (fen r).round = r from rfl, semAt_run hr (fun _ h => by cases h)]
  exact hn

theorem wp_skip' {P : Program} {r : Option Nat} {o : Oper} {a : Act} {w w' : World} {next : Act → World → Prop} {Q : Exit → Act → World → Prop}
    (hr : (execOp a.eval o).run P w = .ok .skip w') (hn : next (a.put o.dst undef) w') : o.wpIn (fen r) 0 P a w next Q := by
  refine ⟨fun _ _ => trivial, ?_⟩
  rw [show (fen r).round = r from rfl, semAt_run hr (fun _ h => by cases h)]
  exact hn

theorem wp_enter {P : Program} {r : Option Nat} {o : Oper} {a : Act} {w : World} {f : FuncId} {args : Array Value} {next : Act → World → Prop} {Q : Exit → Act → World → Prop}
    (hr : (execOp a.eval o).run P w = .ok (.enter f args) w) (hc : Calls P f args w fun
      | .returned v, w'' => next (a.put o.dst v) w''
      | .panicked chain, w'' => Q (.panic chain) a w''
      | .outgrown, _ => LetsOut Q) : o.wpIn (fen r) 0 P a w next Q := by
  refine ⟨fun _ _ => trivial, ?_⟩
  rw [show (fen r).round = r from rfl, semAt_run hr (fun _ h => by cases h)]
  exact ⟨fun h => (by cases h), callsIn_fen.2 hc⟩

theorem wp_round {P : Program} {r : Option Nat} {o : Oper} {a : Act} {w : World} {l : Nat} {f : FuncId} {tmps : Array Value} {assign body : Code} {next : Act → World → Prop} {Q : Exit → Act → World → Prop}
    (hr : (execOp a.eval o).run P w = .ok (.round l f tmps assign body) w) {k : Bool → World → Prop} (hc : RoundIn (fen none) 0 P l f tmps assign body w fun e w' => ∃ b, e = .returned (.bool b) ∧ k b w')
    (hn : ∀ b w', k b w' → next (a.put o.dst (.bool b)) w') : o.wpIn (fen r) 0 P a w next Q := by
  refine ⟨fun _ _ => trivial, ?_⟩
  rw [show (fen r).round = r from rfl, semAt_run hr (fun _ h => by cases h)]
  refine ⟨fun h => (by cases h), ?_⟩
  have hc' : RoundIn (fen r) (0 - 1) P l f tmps assign body w fun e w' => ∃ b, e = .returned (.bool b) ∧ k b w' := hc
  refine hc'.mono ?_
  rintro e w' ⟨b, rfl, hb⟩
  exact hn _ _ hb

theorem wp_panic {P : Program} {r : Option Nat} {o : Oper} {a : Act} {w : World} {v : Value} {next : Act → World → Prop} {Q : Exit → Act → World → Prop}
    (hd : ∀ c, o.op ≠ .defer c) (hr : (execOp a.eval o).run P w = .halt (.panic v) w) (hq : Q (.panic [{ v, recovered := false }]) a w) : o.wpIn (fen r) 0 P a w next Q := by
  refine ⟨fun _ _ => trivial, ?_⟩
  rw [show (fen r).round = r from rfl, Oper.semAt_eq _ _ _ hd, hr]
  exact hq

theorem run_v {P : Program} {w w' : World} {s : Sem Value} {v : Value} (h : s.run P w = .ok v w') :
    (do pure (.value (← s)) : Sem Next).run P w = .ok (.value v) w' := by
  simp [h]

theorem run_u {P : Program} {w w' : World} {s : Sem Unit} (h : s.run P w = .ok () w') :
    (do s; pure .skip : Sem Next).run P w = .ok .skip w' := by
  simp [h]

/-! ### arithmetic -/
theorem binP_run {P : Program} {op : BinOp} {t : TypeId} {x y : EV} {K : EV → Prop} (hk : binP op x y K) : ∃ v, (∀ w, (binOp op t x.v y.v).run P w = .ok v.v w) ∧ K v := by
  unfold binP at hk
  split at hk
  · rename_i k a k' b
    cases op <;> simp only at hk
    case shl =>
      obtain ⟨h0, hk⟩ := hk
      refine ⟨_, fun w => ?_, hk⟩
      simp only [EV.v, binOp, Op.shift, if_neg (Int.not_lt.2 h0)]
      rfl
    case shr =>
      obtain ⟨h0, hk⟩ := hk
      refine ⟨_, fun w => ?_, hk⟩
      simp only [EV.v, binOp, Op.shift, if_neg (Int.not_lt.2 h0)]
      rfl
    all_goals
      rcases Decidable.em (k = k') with he | he
      case inr => rw [if_neg he] at hk; exact hk.elim
      subst he
      rw [if_pos rfl] at hk
      first
      | exact hk.elim
      | (obtain ⟨h0, hk⟩ := (show need _ _ from hk)
         refine ⟨_, fun w => ?_, hk⟩
         simp only [EV.v, binOp, ne_eq, not_true, if_false, Op.intDiv, if_neg h0]
         rfl)
      | (refine ⟨_, fun w => ?_, hk⟩; simp only [EV.v, binOp, ne_eq, not_true, if_false]; rfl)
  · rename_i a b
    cases op <;> simp only at hk
    case add =>
      obtain ⟨h0, hk⟩ := hk
      refine ⟨_, fun w => ?_, hk⟩
      have : ¬ (((a.size + b.size : Nat) : Int) > IntKind.i64.max) := by
        have : IntKind.i64.max = 9223372036854775807 := by decide
        rw [this]; omega
      simp only [EV.v, binOp, Op.stringOp, if_neg this]
      rfl
    all_goals first
      | exact hk.elim
      | (refine ⟨_, fun w => ?_, hk⟩; rfl)
  · exact hk.elim

section
variable {P : Program} {t : TypeId} (w : World)
theorem equal_ptr_nil {e : TypeId} (hu : P.underlying t = some (.pointer e)) (p : Option Addr) : (Op.equal t (.pointer p) (.pointer none)).run P w = .ok p.isNone w := by
  unfold Op.equal Op.maxDepth
  rw [show (10000 : Nat) = 9999 + 1 from rfl]
  unfold Op.equalIn
  simp only [Sem.run_bind, run_underlying P w t hu, Result.andThen_ok]
  cases p <;> rfl
theorem equal_slice_nil {e : TypeId} (hu : P.underlying t = some (.slice e)) (p : Option Addr) (n m n' m' : Nat) : (Op.equal t (.slice p n m) (.slice none n' m')).run P w = .ok p.isNone w := by
  unfold Op.equal Op.maxDepth
  rw [show (10000 : Nat) = 9999 + 1 from rfl]
  unfold Op.equalIn
  simp only [Sem.run_bind, run_underlying P w t hu, Result.andThen_ok]
  cases p <;> rfl
theorem equal_map_nil {k e : TypeId} (hu : P.underlying t = some (.map k e)) (p : Option Nat) : (Op.equal t (.map p) (.map none)).run P w = .ok p.isNone w := by
  unfold Op.equal Op.maxDepth
  rw [show (10000 : Nat) = 9999 + 1 from rfl]
  unfold Op.equalIn
  simp only [Sem.run_bind, run_underlying P w t hu, Result.andThen_ok]
  cases p <;> rfl
theorem equal_bool (hu : P.underlying t = some .bool) (a b : Bool) : (Op.equal t (.bool a) (.bool b)).run P w = .ok (a == b) w := by
  unfold Op.equal Op.maxDepth
  rw [show (10000 : Nat) = 9999 + 1 from rfl]
  unfold Op.equalIn
  simp only [Sem.run_bind, run_underlying P w t hu, Result.andThen_ok]
  rfl
end

theorem eqP_run {P : Program} {t : TypeId} {neg : Bool} {x y : EV} {K : EV → Prop} (hk : eqP (P.underlying t) neg x y K) :
    ∃ v, (∀ w, (binOp (bif neg then .neq else .eql) t x.v y.v).run P w = .ok v.v w) ∧ K v := by
  unfold eqP at hk
  split at hk
  · rename_i e b o hu
    refine ⟨_, fun w => ?_, hk⟩
    have := equal_ptr_nil w hu (some ⟨b, o, none⟩)
    cases neg <;> simp only [cond_true, cond_false, EV.v, binOp, Sem.run_bind, this, Result.andThen_ok] <;> rfl
  · rename_i e p hu
    refine ⟨_, fun w => ?_, hk⟩
    have := equal_ptr_nil w hu p
    cases neg <;> simp only [cond_true, cond_false, EV.v, binOp, Sem.run_bind, this, Result.andThen_ok] <;> cases p <;> rfl
  · rename_i e p n m n' m' hu
    refine ⟨_, fun w => ?_, hk⟩
    have := equal_slice_nil w hu p n m n' m'
    cases neg <;> simp only [cond_true, cond_false, EV.v, binOp, Sem.run_bind, this, Result.andThen_ok] <;> cases p <;> rfl
  · rename_i k e p hu
    refine ⟨_, fun w => ?_, hk⟩
    have := equal_map_nil w hu p
    cases neg <;> simp only [cond_true, cond_false, EV.v, binOp, Sem.run_bind, this, Result.andThen_ok] <;> cases p <;> rfl
  · rename_i hu
    split at hk
    · rename_i a b hx hy
      refine ⟨_, fun w => ?_, hk⟩
      have := equal_bool w hu a b
      rw [hx, hy]
      cases neg <;> simp only [cond_true, cond_false, EV.v, binOp, Sem.run_bind, this, Result.andThen_ok] <;> rfl
    · exact hk.elim
  · exact hk.elim

/-! ### laying parts over cells -/
theorem foldl_set (off : Nat) : ∀ (l : List Value) (k : Nat) (cs : Array Value), off + k + l.length ≤ cs.size →
    ((l.zipIdx k).foldl (fun cs x => cs.setIfInBounds (off + x.2) x.1) cs).toList = cs.toList.take (off + k) ++ l ++ cs.toList.drop (off + k + l.length)
  | [], k, cs, h => by simp
  | v :: l, k, cs, h => by
    simp only [List.zipIdx_cons, List.foldl_cons, List.length_cons] at h ⊢
    rw [foldl_set off l (k + 1) _ (by simp; omega)]
    have hlt : off + k < cs.toList.length := by simp; omega
    simp only [Array.toList_setIfInBounds]
    rw [show off + (k + 1) = off + k + 1 from by omega, List.take_succ_eq_append_getElem (by simp; omega), List.take_set_of_le (by omega), List.drop_set_of_lt (by omega)]
    simp
    omega

end Go.Fw
