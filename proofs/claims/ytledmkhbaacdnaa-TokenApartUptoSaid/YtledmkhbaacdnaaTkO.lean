/- The token server: New, Open, Close, Do, Out. -/
import Derived.Test.YtledmkhbaacdnaaTkN
namespace Go.Proofs.Ytledmkhbaacdnaa
open Go Go.Fw
set_option linter.unusedSimpArgs false
set_option linter.unusedVariables false

def newS (at_ : Int) : Srv := ⟨at_, at_, [], fun _ => none, 0, fun _ => none, 0, [], 1⟩
def isT (at_ : Int) : Prop := 0 ≤ at_ ∧ at_ ≤ 1152921504606846976
theorem TNew_spec {h : Heap} {at_ : Int} {K : Option Addr → Int → Heap → Prop} (h1 : ¬ isT at_ → K none 2 h)
    (h2 : isT at_ → ∀ h' T sb, Server h' T sb (newS at_) → Ext h h' → (∀ k, T k ≠ none → sz h ≤ k) → K (some ⟨sb, 0, none⟩) 0 h') : m_token_New at_ K h := by
  unfold m_token_New g_token_New
  rw [bindI_ev, isTime_ev]
  rcases Classical.em (isT at_) with ht | ht
  · have e : decide (0 ≤ at_ ∧ at_ ≤ 1152921504606846976) = true := decide_eq_true ht
    rw [e]
    refine iteP_false ?_
    refine MapV.new fun ha ma ea za => MapV.new fun hb mb eb zb => ?_
    simp only [size_def] at ma mb za zb ea eb ⊢
    rw [newC_ev, bindI_ev]
    have ec : Ext hb (hb.push (.cells [iv at_, iv at_, Value.slice none 0 0, .map (some (sz h)), .map (some (sz ha)), Value.slice none 0 0, iv 1].toArray 60 (0, 0))) := Ext.push _ _
    refine h2 ht _ (fun k => if k = sz hb then some 0 else if k = sz h then some 2 else if k = sz ha then some 3 else none) (sz hb) ⟨sz h, sz ha, ⟨none, 0, 0⟩, ⟨none, 0, 0⟩, [], ?_⟩ ((ea.trans eb).trans ec) fun k hk => ?_
    · refine ⟨by simp (maxDischargeDepth := 60) only [evAll, listPuts, Addr.mk.injEq, Option.map_some, Option.getD_some, Option.getD_none, Option.isSome_some, Option.isSome_none, Option.isNone_some, Option.isNone_none, List.all_cons, List.all_nil, List.length_cons, List.length_nil, List.set_cons_zero, List.set_cons_succ, List.getElem?_cons_zero, List.getElem?_cons_succ, List.getElem?_nil, Option.some.injEq, Value.int.injEq, Value.bool.injEq, Value.string.injEq, Value.pointer.injEq, Value.map.injEq, Prod.mk.injEq, exists_eq_left, exists_eq_left', if_true, if_false, decide_true, decide_false, Nat.reduceAdd, Nat.reduceLT, Nat.reduceLeDiff, Nat.reduceEqDiff, Nat.reduceMul, reduceCtorEq, beq_self_eq_true]; rfl, ⟨Own.nil _ _ _, fun k hk => (by cases hk), fun x hx => by cases hx⟩, rfl, ⟨_, (ma.congr ((ec.old _ (by rw [size_def]; omega)).trans (eb.old _ (by rw [size_def]; omega)))), fun _ _ => rfl, fun _ _ hc => by cases hc⟩, mb.congr (ec.old _ (by rw [size_def]; omega)), Own.nil _ _ _, if_pos rfl, ?_, ?_, fun k hk => (by cases hk), fun k hk => ?_⟩
      · rw [if_neg (by omega), if_pos rfl]
      · rw [if_neg (by omega), if_neg (by omega), if_pos rfl]
      · simp only [sz_push]
        split at hk
        · omega
        · split at hk
          · omega
          · split at hk
            · omega
            · exact (hk rfl).elim
    · split at hk
      · omega
      · split at hk
        · omega
        · split at hk
          · omega
          · exact (hk rfl).elim
  · have e : decide (0 ≤ at_ ∧ at_ ≤ 1152921504606846976) = false := decide_eq_false ht
    rw [e]
    exact iteP_true (h1 ht)

def openE (S : Srv) (conn : Int) : Int := if conn < 1 then 2 else if conn > 2147483647 then 2 else if (S.conns conn).isSome then 11 else if S.nn ≥ 64 then 3 else 0
def Srv.opened (S : Srv) (conn : Int) : Srv := if openE S conn = 0 then { S with conns := fun i => if i = conn then some (ByteArray.mk #[]) else S.conns i, nn := S.nn + 1 } else S
theorem Open_spec {h : Heap} {T : Nat → Option Nat} {sb : Nat} {S : Srv} (hS : Server h T sb S) {conn : Int} {K : Int → Heap → Prop}
    (hk : ∀ h', Server h' T sb (S.opened conn) → Stp T T h h' → K (openE S conn) h') : m_token_Server_Open (some ⟨sb, 0, none⟩) conn K h := by
  obtain ⟨cb, nb, sp, so, ls, hR⟩ := hS
  unfold m_token_Server_Open g_token_Server_Open
  have same : openE S conn ≠ 0 → K (openE S conn) h := fun hne => by
    have := hk h
    rw [Srv.opened, if_neg hne] at this
    exact this ⟨cb, nb, sp, so, ls, hR⟩ (Stp.refl _ _)
  simp (maxDischargeDepth := 60) only [evAll, listPuts, Addr.mk.injEq, Option.map_some, Option.getD_some, Option.getD_none, Option.isSome_some, Option.isSome_none, Option.isNone_some, Option.isNone_none, List.all_cons, List.all_nil, List.length_cons, List.length_nil, List.set_cons_zero, List.set_cons_succ, List.getElem?_cons_zero, List.getElem?_cons_succ, List.getElem?_nil, Option.some.injEq, Value.int.injEq, Value.bool.injEq, Value.string.injEq, Value.pointer.injEq, Value.map.injEq, Prod.mk.injEq, exists_eq_left, exists_eq_left', if_true, if_false, decide_true, decide_false, Nat.reduceAdd, Nat.reduceLT, Nat.reduceLeDiff, Nat.reduceEqDiff, Nat.reduceMul, reduceCtorEq, beq_self_eq_true, hR.cells]
  refine iteP_dec (fun q1 => ?_) fun q1 => iteP_dec (fun q2 => ?_) fun q2 => ?_
  · have : openE S conn = 2 := by unfold openE; rw [if_pos q1]
    rw [← this]; exact same (by rw [this]; decide)
  · have : openE S conn = 2 := by unfold openE; rw [if_neg q1, if_pos q2]
    rw [← this]; exact same (by rw [this]; decide)
  refine hR.conns.get conn ?_
  cases hc : S.conns conn with
  | some t =>
    refine ⟨t, rfl, iteP_true ?_⟩
    have : openE S conn = 11 := by unfold openE; rw [if_neg q1, if_neg q2, if_pos (by rw [hc]; rfl)]
    rw [← this]; exact same (by rw [this]; decide)
  | none =>
    refine ⟨ByteArray.mk #[], rfl, iteP_false ?_⟩
    refine hR.conns.len ?_
    refine iteP_dec (fun q3 => ?_) fun q3 => ?_
    · have : openE S conn = 3 := by unfold openE; rw [if_neg q1, if_neg q2, if_neg (by rw [hc]; decide), if_pos (by omega)]
      rw [← this]; exact same (by rw [this]; decide)
    · have he : openE S conn = 0 := by unfold openE; rw [if_neg q1, if_neg q2, if_neg (by rw [hc]; decide), if_neg (by omega)]
      rw [he, Srv.opened, if_pos he] at hk
      refine hR.conns.put conn (.string (ByteArray.mk #[])) fun h4 hm4 u4 z4 => ?_
      refine hk h4 ⟨cb, nb, sp, so, ls, hR.setN u4 ?_⟩ ⟨u4.mono fun k _ hk => (by subst hk; rw [hR.tnb]; exact fun e => by cases e), fun k hk => .inl hk⟩
      rw [hc] at hm4
      have e : upd (fun i => (S.conns i).map Value.string) conn (some (.string (ByteArray.mk #[]))) = fun i => (if i = conn then some (ByteArray.mk #[]) else S.conns i).map .string := by
        funext i
        unfold upd
        split <;> rfl
      rw [e] at hm4
      exact hm4

def zA0 : An := (0, 0, 0, 0, 0, ())
def doV (S : Srv) (at_ conn : Int) (r : Rq) : (An × Int) × Srv :=
  if lookE S.last at_ ≠ 0 then ((zA0, lookE S.last at_), S) else match S.conns conn with
    | none => ((zA0, 4), S)
    | some ns => (((r.1, (ansV { S with last := at_ } at_ conn ns r).1.2), 0), (ansV { S with last := at_ } at_ conn ns r).2)
theorem doV_look {S : Srv} {at_ conn : Int} {r : Rq} (h : lookE S.last at_ ≠ 0) : doV S at_ conn r = ((zA0, lookE S.last at_), S) := if_pos h
theorem doV_none {S : Srv} {at_ conn : Int} {r : Rq} (h : ¬ lookE S.last at_ ≠ 0) (hc : S.conns conn = none) : doV S at_ conn r = ((zA0, 4), S) := by unfold doV; rw [if_neg h, hc]
theorem doV_some {S : Srv} {at_ conn : Int} {r : Rq} {ns : ByteArray} (h : ¬ lookE S.last at_ ≠ 0) (hc : S.conns conn = some ns) {a : An × Srv} (ha : ansV { S with last := at_ } at_ conn ns r = a) : doV S at_ conn r = (((r.1, a.1.2), 0), a.2) := by subst ha; unfold doV; rw [if_neg h, hc]
theorem Do_spec {h : Heap} {T : Nat → Option Nat} {sb : Nat} {S : Srv} (hS : Server h T sb S) (hok : S.OK) {at_ conn : Int} {r : Rq} (hs : r.2.2.2.2.1.size < 9223372036854775808) {K : An → Int → Heap → Prop}
    (hk : ∀ h' T', Server h' T' sb (doV S at_ conn r).2 → Stp T T' h h' → K (doV S at_ conn r).1.1 (doV S at_ conn r).1.2 h') : m_token_Server_Do (some ⟨sb, 0, none⟩) at_ conn r K h := by
  obtain ⟨cb, nb, sp, so, ls, hR⟩ := hS
  unfold m_token_Server_Do g_token_Server_Do
  obtain ⟨r1, r2, r3, r4, r5, r6, _⟩ := r
  dsimp only at hs
  have e1 : Ext h ((h.push (.cells [iv r1, .int .u8 r2, iv r3, iv r4, .string r5, iv r6].toArray 41 (0, 0))).push (.cells [iv 0, .int .u8 0, iv 0, iv 0, iv 0].toArray 36 (0, 0))) := ext_push (ext_push (Ext.refl _))
  have b1 : obj ((h.push (.cells [iv r1, .int .u8 r2, iv r3, iv r4, .string r5, iv r6].toArray 41 (0, 0))).push (.cells [iv 0, .int .u8 0, iv 0, iv 0, iv 0].toArray 36 (0, 0))) (sz h) = some (.cells [iv r1, .int .u8 r2, iv r3, iv r4, .string r5, iv r6].toArray 41 (0, 0)) := by simp (maxDischargeDepth := 60) only [evAll, listPuts, Addr.mk.injEq, Option.map_some, Option.getD_some, Option.getD_none, Option.isSome_some, Option.isSome_none, Option.isNone_some, Option.isNone_none, List.all_cons, List.all_nil, List.length_cons, List.length_nil, List.set_cons_zero, List.set_cons_succ, List.getElem?_cons_zero, List.getElem?_cons_succ, List.getElem?_nil, Option.some.injEq, Value.int.injEq, Value.bool.injEq, Value.string.injEq, Value.pointer.injEq, Value.map.injEq, Prod.mk.injEq, exists_eq_left, exists_eq_left', if_true, if_false, decide_true, decide_false, Nat.reduceAdd, Nat.reduceLT, Nat.reduceLeDiff, Nat.reduceEqDiff, Nat.reduceMul, reduceCtorEq, beq_self_eq_true]
  have d1 : obj ((h.push (.cells [iv r1, .int .u8 r2, iv r3, iv r4, .string r5, iv r6].toArray 41 (0, 0))).push (.cells [iv 0, .int .u8 0, iv 0, iv 0, iv 0].toArray 36 (0, 0))) (sz h + 1) = some (.cells [iv 0, .int .u8 0, iv 0, iv 0, iv 0].toArray 36 (0, 0)) := by simp (maxDischargeDepth := 60) only [evAll, listPuts, Addr.mk.injEq, Option.map_some, Option.getD_some, Option.getD_none, Option.isSome_some, Option.isSome_none, Option.isNone_some, Option.isNone_none, List.all_cons, List.all_nil, List.length_cons, List.length_nil, List.set_cons_zero, List.set_cons_succ, List.getElem?_cons_zero, List.getElem?_cons_succ, List.getElem?_nil, Option.some.injEq, Value.int.injEq, Value.bool.injEq, Value.string.injEq, Value.pointer.injEq, Value.map.injEq, Prod.mk.injEq, exists_eq_left, exists_eq_left', if_true, if_false, decide_true, decide_false, Nat.reduceAdd, Nat.reduceLT, Nat.reduceLeDiff, Nat.reduceEqDiff, Nat.reduceMul, reduceCtorEq, beq_self_eq_true]
  have z1 : sz ((h.push (.cells [iv r1, .int .u8 r2, iv r3, iv r4, .string r5, iv r6].toArray 41 (0, 0))).push (.cells [iv 0, .int .u8 0, iv 0, iv 0, iv 0].toArray 36 (0, 0))) = sz h + 2 := by simp only [sz_push]
  simp (maxDischargeDepth := 60) only [evAll, listPuts, Addr.mk.injEq, Option.map_some, Option.getD_some, Option.getD_none, Option.isSome_some, Option.isSome_none, Option.isNone_some, Option.isNone_none, List.all_cons, List.all_nil, List.length_cons, List.length_nil, List.set_cons_zero, List.set_cons_succ, List.getElem?_cons_zero, List.getElem?_cons_succ, List.getElem?_nil, Option.some.injEq, Value.int.injEq, Value.bool.injEq, Value.string.injEq, Value.pointer.injEq, Value.map.injEq, Prod.mk.injEq, exists_eq_left, exists_eq_left', if_true, if_false, decide_true, decide_false, Nat.reduceAdd, Nat.reduceLT, Nat.reduceLeDiff, Nat.reduceEqDiff, Nat.reduceMul, reduceCtorEq, beq_self_eq_true]
  generalize (h.push (.cells [iv r1, .int .u8 r2, iv r3, iv r4, .string r5, iv r6].toArray 41 (0, 0))).push (.cells [iv 0, .int .u8 0, iv 0, iv 0, iv 0].toArray 36 (0, 0)) = h1 at e1 b1 d1 z1 ⊢
  have hR1 := hR.ext e1
  have hTn : ∀ k, sz h ≤ k → T k = none := fun k hk => by
    cases hT : T k with
    | none => rfl
    | some t =>
      have := hR.lt k (by rw [hT]; exact fun e => by cases e)
      omega
  have sbh := obj_lt hR.cells
  have c1 := hR1.cells
  rw [look_ev c1]
  have same : ∀ h', Ext h h' → (doV S at_ conn (r1, r2, r3, r4, r5, r6, ())).2 = S → K (doV S at_ conn (r1, r2, r3, r4, r5, r6, ())).1.1 (doV S at_ conn (r1, r2, r3, r4, r5, r6, ())).1.2 h' := fun h' e eS =>
    hk h' T (by rw [eS]; exact ⟨cb, nb, sp, so, ls, hR.ext e⟩) ⟨e.upd _, fun k hk => .inl hk⟩
  have ee : ∀ (vs : List Value), Ext h (Heap.puts h1 (sz h + 1) 0 vs) := fun vs => ext_puts e1 (by omega)
  simp (maxDischargeDepth := 60) only [evAll, listPuts, Addr.mk.injEq, Option.map_some, Option.getD_some, Option.getD_none, Option.isSome_some, Option.isSome_none, Option.isNone_some, Option.isNone_none, List.all_cons, List.all_nil, List.length_cons, List.length_nil, List.set_cons_zero, List.set_cons_succ, List.getElem?_cons_zero, List.getElem?_cons_succ, List.getElem?_nil, Option.some.injEq, Value.int.injEq, Value.bool.injEq, Value.string.injEq, Value.pointer.injEq, Value.map.injEq, Prod.mk.injEq, exists_eq_left, exists_eq_left', if_true, if_false, decide_true, decide_false, Nat.reduceAdd, Nat.reduceLT, Nat.reduceLeDiff, Nat.reduceEqDiff, Nat.reduceMul, reduceCtorEq, beq_self_eq_true, d1, c1]
  refine ⟨fun q => ?_, fun q => ?_⟩
  · have q1 : lookE S.last at_ ≠ 0 := by simpa using q
    have gv : doV S at_ conn (r1, r2, r3, r4, r5, r6, ()) = ((zA0, lookE S.last at_), S) := doV_look q1
    rw [gv] at same
    exact same _ (ee _) rfl
  have q1 : ¬ lookE S.last at_ ≠ 0 := by simpa using q
  refine hR1.conns.get conn ?_
  cases hc : S.conns conn with
  | none =>
    have gv : doV S at_ conn (r1, r2, r3, r4, r5, r6, ()) = ((zA0, 4), S) := doV_none q1 hc
    rw [gv] at same
    refine ⟨ByteArray.mk #[], rfl, iteP_true ?_⟩
    exact same _ (ee _) rfl
  | some ns =>
    generalize hans : ansV { S with last := at_ } at_ conn ns (r1, r2, r3, r4, r5, r6, ()) = av at hk
    have gv := doV_some q1 hc hans
    rw [gv] at hk
    dsimp only at hk
    clear same gv
    refine ⟨ns, rfl, iteP_false ?_⟩
    have u2 : Upd (· = sb) h1 (Heap.put h1 sb 1 (iv at_)) := Upd.put _ _ _ _
    have hR2 := hR1.setB (b := S.begun) (l := at_) (n := S.next) u2 (by simp (maxDischargeDepth := 60) only [evAll, listPuts, Addr.mk.injEq, Option.map_some, Option.getD_some, Option.getD_none, Option.isSome_some, Option.isSome_none, Option.isNone_some, Option.isNone_none, List.all_cons, List.all_nil, List.length_cons, List.length_nil, List.set_cons_zero, List.set_cons_succ, List.getElem?_cons_zero, List.getElem?_cons_succ, List.getElem?_nil, Option.some.injEq, Value.int.injEq, Value.bool.injEq, Value.string.injEq, Value.pointer.injEq, Value.map.injEq, Prod.mk.injEq, exists_eq_left, exists_eq_left', if_true, if_false, decide_true, decide_false, Nat.reduceAdd, Nat.reduceLT, Nat.reduceLeDiff, Nat.reduceEqDiff, Nat.reduceMul, reduceCtorEq, beq_self_eq_true, c1])
    have b2 := keepU b1 u2 (by omega)
    have d2 := keepU d1 u2 (by omega)
    have z2 : sz (Heap.put h1 sb 1 (iv at_)) = sz h1 := sz_put
    have nsb : (sz h = sb) = False := eq_false (by omega)
    simp (maxDischargeDepth := 60) only [evAll, listPuts, Addr.mk.injEq, Option.map_some, Option.getD_some, Option.getD_none, Option.isSome_some, Option.isSome_none, Option.isNone_some, Option.isNone_none, List.all_cons, List.all_nil, List.length_cons, List.length_nil, List.set_cons_zero, List.set_cons_succ, List.getElem?_cons_zero, List.getElem?_cons_succ, List.getElem?_nil, Option.some.injEq, Value.int.injEq, Value.bool.injEq, Value.string.injEq, Value.pointer.injEq, Value.map.injEq, Prod.mk.injEq, exists_eq_left, exists_eq_left', if_true, if_false, decide_true, decide_false, Nat.reduceAdd, Nat.reduceLT, Nat.reduceLeDiff, Nat.reduceEqDiff, Nat.reduceMul, reduceCtorEq, beq_self_eq_true, b1, nsb]
    generalize Heap.put h1 sb 1 (iv at_) = h2 at u2 hR2 b2 d2 z2 ⊢
    refine answer_spec hR2 ⟨hok.out, hok.cnt⟩ (ns := ns) hc hs fun h3 T3 so3 hR3 st3 => ?_
    rw [hans] at hR3 ⊢
    clear hans
    have b3 := keepU b2 st3.upd (fun e => e (hTn _ (by omega)))
    have d3 := keepU d2 st3.upd (fun e => e (hTn _ (by omega)))
    have lb3 := obj_lt b3
    have ld3 := obj_lt d3
    have u13 : Upd (fun k => T k ≠ none) h h3 := ((e1.upd _).trans (u2.mono fun k _ hk => by subst hk; rw [hR.tsb]; exact fun e => by cases e)).trans st3.upd
    have t3n : ∀ k, sz h ≤ k → k < sz h2 → T3 k = none := fun k h8 h9 => by
      cases h7 : T3 k with
      | none => rfl
      | some t =>
        rcases st3.new k (by rw [h7]; exact fun e => by cases e) with h6 | h6
        · exact (h6 (hTn _ h8)).elim
        · rw [size_def] at h6; omega
    have t3m : ∀ k, sz h3 ≤ k → T3 k = none := fun k hk => by
      cases h7 : T3 k with
      | none => rfl
      | some t =>
        have := hR3.lt k (by rw [h7]; exact fun e => by cases e)
        omega
    simp (maxDischargeDepth := 60) only [evAll, listPuts, Addr.mk.injEq, Option.map_some, Option.getD_some, Option.getD_none, Option.isSome_some, Option.isSome_none, Option.isNone_some, Option.isNone_none, List.all_cons, List.all_nil, List.length_cons, List.length_nil, List.set_cons_zero, List.set_cons_succ, List.getElem?_cons_zero, List.getElem?_cons_succ, List.getElem?_nil, Option.some.injEq, Value.int.injEq, Value.bool.injEq, Value.string.injEq, Value.pointer.injEq, Value.map.injEq, Prod.mk.injEq, exists_eq_left, exists_eq_left', if_true, if_false, decide_true, decide_false, Nat.reduceAdd, Nat.reduceLT, Nat.reduceLeDiff, Nat.reduceEqDiff, Nat.reduceMul, reduceCtorEq, beq_self_eq_true, b3, d3, lt_ne0 lb3, lt_ne0 ld3, lt_en0 lb3, lt_en0 ld3]
    have nd3 : (sz h3 = sz h + 1) = False := eq_false (by omega)
    refine hk _ T3 ⟨cb, nb, sp, so3, ls, hR3.congr ?_ fun k hk => ?_⟩ ⟨?_, fun k hk => (st3.new k hk).imp id fun h9 => ?_⟩
    · simp only [sz_puts, sz_put, sz_push]; omega
    · have hk3 : k < sz h3 := hR3.lt k hk
      have hkn : k ≠ sz h + 1 := fun e => by subst e; exact hk (t3n _ (by omega) (by omega))
      rw [puts_other hkn, put_other (by omega), puts_other (by omega), push_old hk3]
    · refine upd_puts (upd_put (upd_puts (upd_push u13) (.inl ?_)) (.inl ?_)) (.inl (by omega))
      · have := u13.size; rw [size_def, size_def] at this; omega
      · have := u13.size; rw [size_def, size_def] at this; omega
    · have h9' : sz h2 ≤ k := h9
      show sz h ≤ k
      omega
end Go.Proofs.Ytledmkhbaacdnaa
