/- The token server: a request's answer. -/
import Derived.Test.YtledmkhbaacdnaaTkM
namespace Go.Proofs.Ytledmkhbaacdnaa
open Go Go.Fw
set_option linter.unusedSimpArgs false
set_option linter.unusedVariables false

structure Srv.OK (S : Srv) : Prop where
  out : S.out.length ≤ 4096
  cnt : ∀ x, x ∈ S.spaces → ∀ f, f ∈ x.2 → ∃ c, S.counts f.1 = some c ∧ c.kind = f.2.2.1
theorem flow_mem {l : List (ByteArray × List F4)} {ns : ByteArray} {id : Int} {f : F4} (h : flowV l ns id = some f) : ∃ x, x ∈ l ∧ f ∈ x.2 ∧ hitF ns id x.1 f = true := by
  unfold flowV at h
  have := List.mem_of_mem_head? (Option.mem_def.2 h)
  obtain ⟨x, hx, hf⟩ := List.mem_flatMap.1 this
  rw [List.mem_filter] at hf
  exact ⟨x, hx, hf.1, hf.2⟩
def hasV (S : Srv) (name : ByteArray) : Bool := S.spaces.any fun x => strEq x.1 name
theorem ix_has {ls : List Sp3} {l : List (ByteArray × List F4)} (hl : ls.map (fun x => (x.1, x.2.2)) = l) (name : ByteArray) : decide (ixV (fun x => strEq x.1 name) ls ≥ 0) = l.any fun x => strEq x.1 name := by
  have e : (l.any fun x => strEq x.1 name) = ls.any fun x => strEq x.1 name := by rw [← hl, List.any_map]; rfl
  rw [e]
  cases hf : ls.findIdx? (fun x => strEq x.1 name) with
  | none =>
    rw [ixV_none hf]
    have : (ls.any fun x => strEq x.1 name) = false := by
      rw [List.any_eq_false]
      intro x hx
      rw [List.findIdx?_eq_none_iff.1 hf x hx]
      decide
    rw [this]
    rfl
  | some i =>
    rw [ixV_some hf]
    obtain ⟨hil, hp, _⟩ := List.findIdx?_eq_some_iff_getElem.1 hf
    have : (ls.any fun x => strEq x.1 name) = true := List.any_eq_true.2 ⟨_, List.getElem_mem hil, hp⟩
    rw [this]
    simp
def Srv.conn (S : Srv) (k : Int) (t : ByteArray) : Srv := { S with conns := fun i => if i = k then some t else S.conns i }
def quietV (S : Srv) (at_ : Int) (f : F4) : Bool := decide (at_ < IntKind.wrap .i64 (S.begun + maxV 1000000 f.2.2.2.1))
def stA (n : Int) : An := (0, n, 0, 0, 0, ())
def wantV (S : Srv) (at_ : Int) (ns : ByteArray) (r : Rq) : An × Srv := match flowV S.spaces ns r.2.2.1 with
  | none => (stA 4, S)
  | some f => if f.2.2.1 ≠ r.2.1 then (stA 4, S) else if quietV S at_ f then (stA 7, S) else grantV S at_ f r
def ansV (S : Srv) (at_ conn : Int) (ns : ByteArray) (r : Rq) : An × Srv :=
  if rightB r = false then (stA 5, S)
  else if r.2.1 = 5 then (if hasV S r.2.2.2.2.1 then (stA 1, S.conn conn r.2.2.2.2.1) else (stA 4, S.conn conn (ByteArray.mk #[])))
  else if strEq ns (ByteArray.mk #[]) then (stA 4, S)
  else if r.2.1 = 4 then (stA (giveV S at_ ns r.2.2.2.2.2.1).1, { S with out := (giveV S at_ ns r.2.2.2.2.2.1).2 })
  else wantV S at_ ns r

theorem wantV_none {S : Srv} {at_ : Int} {ns : ByteArray} {r : Rq} (h : flowV S.spaces ns r.2.2.1 = none) : wantV S at_ ns r = (stA 4, S) := by unfold wantV; rw [h]
theorem wantV_some {S : Srv} {at_ : Int} {ns : ByteArray} {r : Rq} {f : F4} (h : flowV S.spaces ns r.2.2.1 = some f) : wantV S at_ ns r = if f.2.2.1 ≠ r.2.1 then (stA 4, S) else if quietV S at_ f then (stA 7, S) else grantV S at_ f r := by unfold wantV; rw [h]

theorem SrvR.connR {h h' : Heap} {T : Nat → Option Nat} {sb cb nb : Nat} {sp so : Sl} {ls : List Sp3} {S : Srv} (hR : SrvR h T sb cb nb sp so ls S) {conn : Int} {ns t : ByteArray} (hc : S.conns conn = some ns) (hu : Upd (· = nb) h h')
    (hm : MapV h' nb (upd (fun i => (S.conns i).map .string) conn (some (.string t))) S.nn) : SrvR h' T sb cb nb sp so ls (S.conn conn t) := by
  have e : upd (fun i => (S.conns i).map Value.string) conn (some (.string t)) = fun i => (if i = conn then some t else S.conns i).map .string := by
    funext i
    unfold upd
    split <;> rfl
  rw [e] at hm
  exact hR.setN hu hm

theorem answer_spec {h : Heap} {T : Nat → Option Nat} {sb cb nb : Nat} {sp so : Sl} {ls : List Sp3} {S : Srv} (hR : SrvR h T sb cb nb sp so ls S) (hok : S.OK) {at_ conn : Int} {ns : ByteArray} (hc : S.conns conn = some ns) {r : Rq} (hs : r.2.2.2.2.1.size < 9223372036854775808) {K : An → Heap → Prop}
    (hk : ∀ h' T' so', SrvR h' T' sb cb nb sp so' ls (ansV S at_ conn ns r).2 → Stp T T' h h' → K (ansV S at_ conn ns r).1 h') : m_token_Server_answer (some ⟨sb, 0, none⟩) at_ conn r K h := by
  unfold m_token_Server_answer g_token_Server_answer
  have l0 := obj_lt hR.cells
  obtain ⟨r1, r2, r3, r4, r5, r6, _⟩ := r
  dsimp only at hs
  have e1 : Ext h ((h.push (.cells [iv r1, .int .u8 r2, iv r3, iv r4, .string r5, iv r6].toArray 41 (0, 0))).push (.cells [iv 0, .int .u8 0, iv 0, iv 0, iv 0].toArray 36 (0, 0))) := ext_push (ext_push (Ext.refl _))
  simp (maxDischargeDepth := 60) only [evAll, listPuts, Addr.mk.injEq, Option.map_some, Option.getD_some, Option.getD_none, Option.isSome_some, Option.isSome_none, Option.isNone_some, Option.isNone_none, List.all_cons, List.all_nil, List.length_cons, List.length_nil, List.set_cons_zero, List.set_cons_succ, List.getElem?_cons_zero, List.getElem?_cons_succ, List.getElem?_nil, Option.some.injEq, Value.int.injEq, Value.bool.injEq, Value.string.injEq, Value.pointer.injEq, Value.map.injEq, Prod.mk.injEq, exists_eq_left, exists_eq_left', if_true, if_false, decide_true, decide_false, Nat.reduceAdd, Nat.reduceLT, Nat.reduceLeDiff, Nat.reduceEqDiff, Nat.reduceMul, reduceCtorEq, beq_self_eq_true, hR.cells, lt_ne0 l0, lt_ne l0]
  have b1 : obj ((h.push (.cells [iv r1, .int .u8 r2, iv r3, iv r4, .string r5, iv r6].toArray 41 (0, 0))).push (.cells [iv 0, .int .u8 0, iv 0, iv 0, iv 0].toArray 36 (0, 0))) (sz h) = some (.cells [iv r1, .int .u8 r2, iv r3, iv r4, .string r5, iv r6].toArray 41 (0, 0)) := by simp (maxDischargeDepth := 60) only [evAll, listPuts, Addr.mk.injEq, Option.map_some, Option.getD_some, Option.getD_none, Option.isSome_some, Option.isSome_none, Option.isNone_some, Option.isNone_none, List.all_cons, List.all_nil, List.length_cons, List.length_nil, List.set_cons_zero, List.set_cons_succ, List.getElem?_cons_zero, List.getElem?_cons_succ, List.getElem?_nil, Option.some.injEq, Value.int.injEq, Value.bool.injEq, Value.string.injEq, Value.pointer.injEq, Value.map.injEq, Prod.mk.injEq, exists_eq_left, exists_eq_left', if_true, if_false, decide_true, decide_false, Nat.reduceAdd, Nat.reduceLT, Nat.reduceLeDiff, Nat.reduceEqDiff, Nat.reduceMul, reduceCtorEq, beq_self_eq_true]
  have d1 : obj ((h.push (.cells [iv r1, .int .u8 r2, iv r3, iv r4, .string r5, iv r6].toArray 41 (0, 0))).push (.cells [iv 0, .int .u8 0, iv 0, iv 0, iv 0].toArray 36 (0, 0))) (sz h + 1) = some (.cells [iv 0, .int .u8 0, iv 0, iv 0, iv 0].toArray 36 (0, 0)) := by simp (maxDischargeDepth := 60) only [evAll, listPuts, Addr.mk.injEq, Option.map_some, Option.getD_some, Option.getD_none, Option.isSome_some, Option.isSome_none, Option.isNone_some, Option.isNone_none, List.all_cons, List.all_nil, List.length_cons, List.length_nil, List.set_cons_zero, List.set_cons_succ, List.getElem?_cons_zero, List.getElem?_cons_succ, List.getElem?_nil, Option.some.injEq, Value.int.injEq, Value.bool.injEq, Value.string.injEq, Value.pointer.injEq, Value.map.injEq, Prod.mk.injEq, exists_eq_left, exists_eq_left', if_true, if_false, decide_true, decide_false, Nat.reduceAdd, Nat.reduceLT, Nat.reduceLeDiff, Nat.reduceEqDiff, Nat.reduceMul, reduceCtorEq, beq_self_eq_true]
  have z1 : sz ((h.push (.cells [iv r1, .int .u8 r2, iv r3, iv r4, .string r5, iv r6].toArray 41 (0, 0))).push (.cells [iv 0, .int .u8 0, iv 0, iv 0, iv 0].toArray 36 (0, 0))) = sz h + 2 := by simp only [sz_push]
  generalize (h.push (.cells [iv r1, .int .u8 r2, iv r3, iv r4, .string r5, iv r6].toArray 41 (0, 0))).push (.cells [iv 0, .int .u8 0, iv 0, iv 0, iv 0].toArray 36 (0, 0)) = h1 at e1 b1 d1 z1 ⊢
  have hR1 := hR.ext e1
  refine hR1.conns.get conn ?_
  rw [hc]
  refine ⟨ns, rfl, ?_⟩
  refine Right_spec (r := (r1, r2, r3, r4, r5, r6, ())) hs fun h2 e2 => ?_
  have hR2 := hR1.ext e2
  have b2 := keepX b1 e2
  have d2 := keepX d1 e2
  have e12 := e1.trans e2
  have z2 := ext_sz e2
  have sbh := obj_lt hR.cells
  have hTn : ∀ k, sz h ≤ k → T k = none := fun k hk => by
    cases hT : T k with
    | none => rfl
    | some t =>
      have := hR.lt k (by rw [hT]; exact fun e => by cases e)
      omega
  have fin : ∀ (h9 : Heap) (T9 : Nat → Option Nat) (so9 : Sl) (S9 : Srv) (a : An) (vs : List Value), SrvR h9 T9 sb cb nb sp so9 ls S9 → Upd (fun k => T k ≠ none) h h9 → ((∀ k, T9 k ≠ none → T k ≠ none ∨ sz h ≤ k) ∧ T9 (sz h + 1) = none) →
      (∀ h' T' so', SrvR h' T' sb cb nb sp so' ls S9 → Stp T T' h h' → K a h') → K a (h9.puts (sz h + 1) 0 vs) := fun h9 T9 so9 S9 a vs hR9 u9 ⟨t9, n9⟩ hk9 => by
    refine hk9 _ T9 so9 (hR9.congr (by rw [sz_puts]; exact Nat.le_refl _) fun k hk => puts_other fun e => ?_) ⟨upd_puts u9 (.inl (by omega)), fun k hk => (t9 k hk).imp id fun h => h⟩
    subst e
    exact hk n9
  have fin0 : ∀ (h9 : Heap) (a : An) (vs : List Value), Ext h h9 → (∀ h' T' so', SrvR h' T' sb cb nb sp so' ls S → Stp T T' h h' → K a h') → K a (h9.puts (sz h + 1) 0 vs) := fun h9 a vs e9 hk9 =>
    fin h9 T so S a vs (hR.ext e9) (e9.upd _) ⟨fun k hk => .inl hk, hTn _ (by omega)⟩ hk9
  cases hrb : rightB (r1, r2, r3, r4, r5, r6, ()) with
  | false =>
    have gv : ansV S at_ conn ns (r1, r2, r3, r4, r5, r6, ()) = (stA 5, S) := by unfold ansV; rw [if_pos hrb]
    rw [gv] at hk
    simp (maxDischargeDepth := 60) only [evAll, listPuts, Addr.mk.injEq, Option.map_some, Option.getD_some, Option.getD_none, Option.isSome_some, Option.isSome_none, Option.isNone_some, Option.isNone_none, List.all_cons, List.all_nil, List.length_cons, List.length_nil, List.set_cons_zero, List.set_cons_succ, List.getElem?_cons_zero, List.getElem?_cons_succ, List.getElem?_nil, Option.some.injEq, Value.int.injEq, Value.bool.injEq, Value.string.injEq, Value.pointer.injEq, Value.map.injEq, Prod.mk.injEq, exists_eq_left, exists_eq_left', if_true, if_false, decide_true, decide_false, Nat.reduceAdd, Nat.reduceLT, Nat.reduceLeDiff, Nat.reduceEqDiff, Nat.reduceMul, reduceCtorEq, beq_self_eq_true, d2]
    exact fin0 h2 _ _ e12 hk
  | true =>
  have rw_ := right_want hrb
  have rr := right_range hrb
  dsimp only at rw_ rr
  simp (maxDischargeDepth := 60) only [evAll, listPuts, Addr.mk.injEq, Option.map_some, Option.getD_some, Option.getD_none, Option.isSome_some, Option.isSome_none, Option.isNone_some, Option.isNone_none, List.all_cons, List.all_nil, List.length_cons, List.length_nil, List.set_cons_zero, List.set_cons_succ, List.getElem?_cons_zero, List.getElem?_cons_succ, List.getElem?_nil, Option.some.injEq, Value.int.injEq, Value.bool.injEq, Value.string.injEq, Value.pointer.injEq, Value.map.injEq, Prod.mk.injEq, exists_eq_left, exists_eq_left', if_true, if_false, decide_true, decide_false, Nat.reduceAdd, Nat.reduceLT, Nat.reduceLeDiff, Nat.reduceEqDiff, Nat.reduceMul, reduceCtorEq, beq_self_eq_true, b2]
  have nT3 : ∀ k, T k = some 3 → k ≠ sz h + 1 := fun k hk e => by subst e; rw [hTn _ (by omega)] at hk; cases hk
  refine cutQ (fun s h29 => s = (decide (r2 = 5 ∧ hasV S r5 = true), ()) ∧ Ext h2 h29) ?_ ?_
  · rintro _ h3 ⟨rfl, e3⟩
    dsimp only
    have b3 := keepX b2 e3
    have d3 := keepX d2 e3
    have hR3 := hR2.ext e3
    have e13 := e12.trans e3
    have z3 := ext_sz e3
    have ln := hR3.conns.lt
    have tn3 : T nb ≠ none := by rw [hR.tnb]; exact fun e => by cases e
    have c3 := hR3.cells
    have connPut : ∀ t, mapPut (.int .i64) h3 (some nb) (iv conn) (.string t) = mapPut (.int .i64) h3 (some nb) (iv conn) (.string t) := fun _ => rfl
    refine iteP_dec (fun q => ?_) fun q => ?_
    · have gv : ansV S at_ conn ns (r1, r2, r3, r4, r5, r6, ()) = (stA 1, S.conn conn r5) := by
        unfold ansV; rw [if_neg (by rw [hrb]; decide), if_pos q.1, if_pos q.2]
      rw [gv] at hk
      simp (maxDischargeDepth := 60) only [evAll, listPuts, Addr.mk.injEq, Option.map_some, Option.getD_some, Option.getD_none, Option.isSome_some, Option.isSome_none, Option.isNone_some, Option.isNone_none, List.all_cons, List.all_nil, List.length_cons, List.length_nil, List.set_cons_zero, List.set_cons_succ, List.getElem?_cons_zero, List.getElem?_cons_succ, List.getElem?_nil, Option.some.injEq, Value.int.injEq, Value.bool.injEq, Value.string.injEq, Value.pointer.injEq, Value.map.injEq, Prod.mk.injEq, exists_eq_left, exists_eq_left', if_true, if_false, decide_true, decide_false, Nat.reduceAdd, Nat.reduceLT, Nat.reduceLeDiff, Nat.reduceEqDiff, Nat.reduceMul, reduceCtorEq, beq_self_eq_true, c3, b3]
      refine hR3.conns.put conn (.string r5) fun h4 hm4 u4 z4 => ?_
      rw [hc] at hm4
      have hR4 := hR3.connR hc u4 hm4
      have d4 := keepU d3 u4 (nT3 _ hR.tnb).symm
      simp (maxDischargeDepth := 60) only [evAll, listPuts, Addr.mk.injEq, Option.map_some, Option.getD_some, Option.getD_none, Option.isSome_some, Option.isSome_none, Option.isNone_some, Option.isNone_none, List.all_cons, List.all_nil, List.length_cons, List.length_nil, List.set_cons_zero, List.set_cons_succ, List.getElem?_cons_zero, List.getElem?_cons_succ, List.getElem?_nil, Option.some.injEq, Value.int.injEq, Value.bool.injEq, Value.string.injEq, Value.pointer.injEq, Value.map.injEq, Prod.mk.injEq, exists_eq_left, exists_eq_left', if_true, if_false, decide_true, decide_false, Nat.reduceAdd, Nat.reduceLT, Nat.reduceLeDiff, Nat.reduceEqDiff, Nat.reduceMul, reduceCtorEq, beq_self_eq_true, d4]
      exact fin h4 T so _ _ _ hR4 ((e13.upd _).trans (u4.mono fun k _ hk => by subst hk; exact tn3)) ⟨fun k hk => .inl hk, hTn _ (by omega)⟩ hk
    simp (maxDischargeDepth := 60) only [evAll, listPuts, Addr.mk.injEq, Option.map_some, Option.getD_some, Option.getD_none, Option.isSome_some, Option.isSome_none, Option.isNone_some, Option.isNone_none, List.all_cons, List.all_nil, List.length_cons, List.length_nil, List.set_cons_zero, List.set_cons_succ, List.getElem?_cons_zero, List.getElem?_cons_succ, List.getElem?_nil, Option.some.injEq, Value.int.injEq, Value.bool.injEq, Value.string.injEq, Value.pointer.injEq, Value.map.injEq, Prod.mk.injEq, exists_eq_left, exists_eq_left', if_true, if_false, decide_true, decide_false, Nat.reduceAdd, Nat.reduceLT, Nat.reduceLeDiff, Nat.reduceEqDiff, Nat.reduceMul, reduceCtorEq, beq_self_eq_true, c3, b3]
    refine ⟨fun q1 => ?_, fun q1 => ?_⟩
    · have q2 : r2 = 5 := by simpa using q1
      have gv : ansV S at_ conn ns (r1, r2, r3, r4, r5, r6, ()) = (stA 4, S.conn conn (ByteArray.mk #[])) := by
        unfold ansV; rw [if_neg (by rw [hrb]; decide), if_pos q2, if_neg (fun e => q ⟨q2, e⟩)]
      rw [gv] at hk
      refine hR3.conns.put conn (.string (ByteArray.mk #[])) fun h4 hm4 u4 z4 => ?_
      rw [hc] at hm4
      have hR4 := hR3.connR hc u4 hm4
      have d4 := keepU d3 u4 (nT3 _ hR.tnb).symm
      simp (maxDischargeDepth := 60) only [evAll, listPuts, Addr.mk.injEq, Option.map_some, Option.getD_some, Option.getD_none, Option.isSome_some, Option.isSome_none, Option.isNone_some, Option.isNone_none, List.all_cons, List.all_nil, List.length_cons, List.length_nil, List.set_cons_zero, List.set_cons_succ, List.getElem?_cons_zero, List.getElem?_cons_succ, List.getElem?_nil, Option.some.injEq, Value.int.injEq, Value.bool.injEq, Value.string.injEq, Value.pointer.injEq, Value.map.injEq, Prod.mk.injEq, exists_eq_left, exists_eq_left', if_true, if_false, decide_true, decide_false, Nat.reduceAdd, Nat.reduceLT, Nat.reduceLeDiff, Nat.reduceEqDiff, Nat.reduceMul, reduceCtorEq, beq_self_eq_true, d4]
      exact fin h4 T so _ _ _ hR4 ((e13.upd _).trans (u4.mono fun k _ hk => by subst hk; exact tn3)) ⟨fun k hk => .inl hk, hTn _ (by omega)⟩ hk
    have q2 : ¬ r2 = 5 := by simpa using q1
    have gv5 : ansV S at_ conn ns (r1, r2, r3, r4, r5, r6, ()) = if strEq ns (ByteArray.mk #[]) then (stA 4, S)
        else if r2 = 4 then (stA (giveV S at_ ns r6).1, { S with out := (giveV S at_ ns r6).2 }) else wantV S at_ ns (r1, r2, r3, r4, r5, r6, ()) := by
      unfold ansV; rw [if_neg (by rw [hrb]; decide), if_neg q2]
    rw [gv5] at hk
    clear gv5
    refine ⟨fun q3 => ?_, fun q3 => ?_⟩
    · rw [if_pos q3] at hk
      simp (maxDischargeDepth := 60) only [evAll, listPuts, Addr.mk.injEq, Option.map_some, Option.getD_some, Option.getD_none, Option.isSome_some, Option.isSome_none, Option.isNone_some, Option.isNone_none, List.all_cons, List.all_nil, List.length_cons, List.length_nil, List.set_cons_zero, List.set_cons_succ, List.getElem?_cons_zero, List.getElem?_cons_succ, List.getElem?_nil, Option.some.injEq, Value.int.injEq, Value.bool.injEq, Value.string.injEq, Value.pointer.injEq, Value.map.injEq, Prod.mk.injEq, exists_eq_left, exists_eq_left', if_true, if_false, decide_true, decide_false, Nat.reduceAdd, Nat.reduceLT, Nat.reduceLeDiff, Nat.reduceEqDiff, Nat.reduceMul, reduceCtorEq, beq_self_eq_true, d3]
      exact fin0 h3 _ _ e13 hk
    rw [if_neg (by rw [q3]; decide)] at hk
    refine ⟨fun q4 => ?_, fun q4 => ?_⟩
    · have q5 : r2 = 4 := by simpa using q4
      rw [if_pos q5] at hk
      refine give_spec hR3 hok.out fun h4 T4 so4 hR4 st4 => ?_
      have u4 : Upd (fun k => T k ≠ none) h h4 := (e13.upd _).trans st4.upd
      have d4 := keepU d3 st4.upd (fun e => e (hTn _ (by omega)))
      simp (maxDischargeDepth := 60) only [evAll, listPuts, Addr.mk.injEq, Option.map_some, Option.getD_some, Option.getD_none, Option.isSome_some, Option.isSome_none, Option.isNone_some, Option.isNone_none, List.all_cons, List.all_nil, List.length_cons, List.length_nil, List.set_cons_zero, List.set_cons_succ, List.getElem?_cons_zero, List.getElem?_cons_succ, List.getElem?_nil, Option.some.injEq, Value.int.injEq, Value.bool.injEq, Value.string.injEq, Value.pointer.injEq, Value.map.injEq, Prod.mk.injEq, exists_eq_left, exists_eq_left', if_true, if_false, decide_true, decide_false, Nat.reduceAdd, Nat.reduceLT, Nat.reduceLeDiff, Nat.reduceEqDiff, Nat.reduceMul, reduceCtorEq, beq_self_eq_true, d4]
      refine fin h4 T4 so4 _ _ _ hR4 u4 ⟨fun k hk => (st4.new k hk).imp id fun h9 => Nat.le_trans (ext_sz e13) h9, ?_⟩ hk
      cases h9 : T4 (sz h + 1) with
      | none => rfl
      | some t =>
        rcases st4.new (sz h + 1) (by rw [h9]; exact fun e => by cases e) with h8 | h8
        · exact (h8 (hTn _ (by omega))).elim
        · rw [size_def] at h8; omega
    have q5 : ¬ r2 = 4 := by simpa using q4
    rw [if_neg q5] at hk
    refine flow_spec hR3.cells hR3.spaces hR3.names fun h4 e4 => ?_
    have d4 := keepX d3 e4
    have b4 := keepX b3 e4
    have e14 := e13.trans e4
    have ld4 := obj_lt d4
    have lb4 := obj_lt b4
    have hw : IntKind.wrap .i64 r2 = r2 := wrap64 (by omega) (by omega)
    cases hfl : flowV S.spaces ns r3 with
    | none =>
      rw [wantV_none hfl] at hk
      simp (maxDischargeDepth := 60) only [evAll, listPuts, Addr.mk.injEq, Option.map_some, Option.getD_some, Option.getD_none, Option.isSome_some, Option.isSome_none, Option.isNone_some, Option.isNone_none, List.all_cons, List.all_nil, List.length_cons, List.length_nil, List.set_cons_zero, List.set_cons_succ, List.getElem?_cons_zero, List.getElem?_cons_succ, List.getElem?_nil, Option.some.injEq, Value.int.injEq, Value.bool.injEq, Value.string.injEq, Value.pointer.injEq, Value.map.injEq, Prod.mk.injEq, exists_eq_left, exists_eq_left', if_true, if_false, decide_true, decide_false, Nat.reduceAdd, Nat.reduceLT, Nat.reduceLeDiff, Nat.reduceEqDiff, Nat.reduceMul, reduceCtorEq, beq_self_eq_true, b4, d4, lt_ne lb4, lt_ne0 lb4, lt_ne ld4, lt_ne0 ld4]
      exact fin0 _ _ _ (ext_puts (ext_push e14) (by have := ext_sz e14; omega)) hk
    | some f =>
      rw [wantV_some hfl] at hk
      obtain ⟨x, hx, hfx, _⟩ := flow_mem hfl
      obtain ⟨c, hcc, _⟩ := hok.cnt x hx f hfx
      obtain ⟨f1, f2, f3, f4, _⟩ := f
      have z4 := ext_sz e14
      have e45 : Ext h4 (Heap.puts (h4.push (.cells [iv 0, iv 0, iv 0, iv 0].toArray 53 (0, 0))) (sz h4) 0 [iv f1, iv f2, iv f3, iv f4]) := ext_puts (ext_push (Ext.refl _)) (Nat.le_refl _)
      have f5 : obj (Heap.puts (h4.push (.cells [iv 0, iv 0, iv 0, iv 0].toArray 53 (0, 0))) (sz h4) 0 [iv f1, iv f2, iv f3, iv f4]) (sz h4) = some (.cells [iv f1, iv f2, iv f3, iv f4].toArray 53 (0, 0)) := by simp (maxDischargeDepth := 60) only [evAll, listPuts, Addr.mk.injEq, Option.map_some, Option.getD_some, Option.getD_none, Option.isSome_some, Option.isSome_none, Option.isNone_some, Option.isNone_none, List.all_cons, List.all_nil, List.length_cons, List.length_nil, List.set_cons_zero, List.set_cons_succ, List.getElem?_cons_zero, List.getElem?_cons_succ, List.getElem?_nil, Option.some.injEq, Value.int.injEq, Value.bool.injEq, Value.string.injEq, Value.pointer.injEq, Value.map.injEq, Prod.mk.injEq, exists_eq_left, exists_eq_left', if_true, if_false, decide_true, decide_false, Nat.reduceAdd, Nat.reduceLT, Nat.reduceLeDiff, Nat.reduceEqDiff, Nat.reduceMul, reduceCtorEq, beq_self_eq_true]
      simp (maxDischargeDepth := 60) only [evAll, listPuts, Addr.mk.injEq, Option.map_some, Option.getD_some, Option.getD_none, Option.isSome_some, Option.isSome_none, Option.isNone_some, Option.isNone_none, List.all_cons, List.all_nil, List.length_cons, List.length_nil, List.set_cons_zero, List.set_cons_succ, List.getElem?_cons_zero, List.getElem?_cons_succ, List.getElem?_nil, Option.some.injEq, Value.int.injEq, Value.bool.injEq, Value.string.injEq, Value.pointer.injEq, Value.map.injEq, Prod.mk.injEq, exists_eq_left, exists_eq_left', if_true, if_false, decide_true, decide_false, Nat.reduceAdd, Nat.reduceLT, Nat.reduceLeDiff, Nat.reduceEqDiff, Nat.reduceMul, reduceCtorEq, beq_self_eq_true, b4, d4, lt_ne lb4, lt_ne0 lb4, lt_ne ld4, lt_ne0 ld4, hw]
      generalize Heap.puts (h4.push (.cells [iv 0, iv 0, iv 0, iv 0].toArray 53 (0, 0))) (sz h4) 0 [iv f1, iv f2, iv f3, iv f4] = h5 at e45 f5 ⊢
      have d5 := keepX d4 e45
      have b5 := keepX b4 e45
      have e15 := e14.trans e45
      have hR5 := (hR3.ext e4).ext e45
      refine ⟨fun q6 => ?_, fun q6 => ?_⟩
      · have q7 : f3 ≠ r2 := by simpa using q6
        rw [if_pos q7] at hk
        exact fin0 _ _ _ e15 hk
      have q7 : ¬ f3 ≠ r2 := by simpa using q6
      rw [if_neg q7] at hk
      refine quiet_spec hR5.cells (f := (f1, f2, f3, f4, ())) fun h6 e6 => ?_
      have d6 := keepX d5 e6
      have b6 := keepX b5 e6
      have f6 := keepX f5 e6
      have e16 := e15.trans e6
      refine ⟨fun q8 => ?_, fun q8 => ?_⟩
      · rw [if_pos (by exact q8)] at hk
        simp (maxDischargeDepth := 60) only [evAll, listPuts, Addr.mk.injEq, Option.map_some, Option.getD_some, Option.getD_none, Option.isSome_some, Option.isSome_none, Option.isNone_some, Option.isNone_none, List.all_cons, List.all_nil, List.length_cons, List.length_nil, List.set_cons_zero, List.set_cons_succ, List.getElem?_cons_zero, List.getElem?_cons_succ, List.getElem?_nil, Option.some.injEq, Value.int.injEq, Value.bool.injEq, Value.string.injEq, Value.pointer.injEq, Value.map.injEq, Prod.mk.injEq, exists_eq_left, exists_eq_left', if_true, if_false, decide_true, decide_false, Nat.reduceAdd, Nat.reduceLT, Nat.reduceLeDiff, Nat.reduceEqDiff, Nat.reduceMul, reduceCtorEq, beq_self_eq_true, d6]
        exact fin0 _ _ _ e16 hk
      rw [if_neg (by unfold quietV; dsimp only; rw [q8]; decide)] at hk
      simp (maxDischargeDepth := 60) only [evAll, listPuts, Addr.mk.injEq, Option.map_some, Option.getD_some, Option.getD_none, Option.isSome_some, Option.isSome_none, Option.isNone_some, Option.isNone_none, List.all_cons, List.all_nil, List.length_cons, List.length_nil, List.set_cons_zero, List.set_cons_succ, List.getElem?_cons_zero, List.getElem?_cons_succ, List.getElem?_nil, Option.some.injEq, Value.int.injEq, Value.bool.injEq, Value.string.injEq, Value.pointer.injEq, Value.map.injEq, Prod.mk.injEq, exists_eq_left, exists_eq_left', if_true, if_false, decide_true, decide_false, Nat.reduceAdd, Nat.reduceLT, Nat.reduceLeDiff, Nat.reduceEqDiff, Nat.reduceMul, reduceCtorEq, beq_self_eq_true, b6, f6]
      refine grant_spec (hR5.ext e6) hok.out (f := (f1, f2, f3, f4, ())) (r := (r1, r2, r3, r4, r5, r6, ())) (fun _ => ⟨c, hcc⟩) rr.2.2.1 hs fun h7 T7 so7 hR7 st7 => ?_
      have d7 := keepU d6 st7.upd (fun e => e (hTn _ (by omega)))
      have u7 : Upd (fun k => T k ≠ none) h h7 := (e16.upd _).trans st7.upd
      simp (maxDischargeDepth := 60) only [evAll, listPuts, Addr.mk.injEq, Option.map_some, Option.getD_some, Option.getD_none, Option.isSome_some, Option.isSome_none, Option.isNone_some, Option.isNone_none, List.all_cons, List.all_nil, List.length_cons, List.length_nil, List.set_cons_zero, List.set_cons_succ, List.getElem?_cons_zero, List.getElem?_cons_succ, List.getElem?_nil, Option.some.injEq, Value.int.injEq, Value.bool.injEq, Value.string.injEq, Value.pointer.injEq, Value.map.injEq, Prod.mk.injEq, exists_eq_left, exists_eq_left', if_true, if_false, decide_true, decide_false, Nat.reduceAdd, Nat.reduceLT, Nat.reduceLeDiff, Nat.reduceEqDiff, Nat.reduceMul, reduceCtorEq, beq_self_eq_true, d7]
      refine fin h7 T7 so7 _ _ _ hR7 u7 ⟨fun k hk => (st7.new k hk).imp id fun h9 => Nat.le_trans (ext_sz e16) h9, ?_⟩ hk
      cases h9 : T7 (sz h + 1) with
      | none => rfl
      | some t =>
        rcases st7.new (sz h + 1) (by rw [h9]; exact fun e => by cases e) with h8 | h8
        · exact (h8 (hTn _ (by omega))).elim
        · have := ext_sz e6
          have := ext_sz e45
          have := ext_sz e4
          rw [size_def] at h8
          omega
  · intro Q hQ
    refine ⟨fun q => ?_, fun q => ?_⟩
    · have q2 : r2 = 5 := by simpa using q
      refine space_spec hR2.cells hR2.spaces.own.row fun h3 e3 => ?_
      rw [ix_has hR.names]
      refine hQ _ _ ⟨?_, e3⟩
      simp only [q2, true_and]
      unfold hasV
      cases (S.spaces.any fun x => strEq x.1 r5) <;> rfl
    · have q2 : ¬ r2 = 5 := by simpa using q
      refine hQ _ _ ⟨?_, Ext.refl _⟩
      simp [q2]
end Go.Proofs.Ytledmkhbaacdnaa
