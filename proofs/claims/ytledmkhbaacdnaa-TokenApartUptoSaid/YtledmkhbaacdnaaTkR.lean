/- The token server: too much, and counters that begin. -/
import Derived.Test.YtledmkhbaacdnaaTkQ
namespace Go.Proofs.Ytledmkhbaacdnaa
open Go Go.Fw
set_option linter.unusedSimpArgs false
set_option linter.unusedVariables false

theorem CntR.one {h : Heap} {T : Nat → Option Nat} {id : Int} {v : Value} {c : Cnt} (hc : CntR h T id v c) : oneCell v = true := by
  cases c with
  | rate w => obtain ⟨wb, mb, rfl, _⟩ := hc; exact one_iface
  | value s => obtain ⟨wb, sl, lb, rfl, _⟩ := hc; exact one_iface
  | leased => cases hc; exact one_iface

def flowsV (l : List (ByteArray × List F4)) (name : ByteArray) (n : Int) : Int := l.foldl (fun n x => if strEq x.1 name then n else IntKind.wrap .i64 (n + x.2.length)) n
def idsV (cs : Int → Option Cnt) (fl : List F4) (n : Int) : Int := fl.foldl (fun n f => if (cs f.1).isSome then n else IntKind.wrap .i64 (n + 1)) n
def spacesV (S : Srv) (name : ByteArray) : Int := if hasV S name then (S.spaces.length : Int) else IntKind.wrap .i64 ((S.spaces.length : Int) + 1)
def fullV (S : Srv) (name : ByteArray) (fl : List F4) : Bool :=
  if flowsV S.spaces name fl.length > 256 then true else if spacesV S name > 8 then true else decide (idsV S.counts fl S.nc > 512)

/-- what a map of counters tells of an id -/
theorem CntsR.get {h : Heap} {T : Nat → Option Nat} {cb : Nat} {cs : Int → Option Cnt} {nc : Nat} (hc : CntsR h T cb cs nc) (id : Int) {K : Option Value → Prop}
    (h1 : cs id = none → K none) (h2 : ∀ c v, cs id = some c → CntR h T id v c → K (some (.agg #[v, iv c.kind]))) : mapGet (.int .i64) h (some cb) (iv id) K := by
  obtain ⟨f, hm, g1, g2⟩ := hc
  refine hm.get id ?_
  cases hid : cs id with
  | none => rw [g1 id hid]; exact h1 hid
  | some c =>
    obtain ⟨_, v, hv, hr⟩ := g2 id c hid
    rw [hv]
    exact h2 c v hid hr
theorem CntsR.len {h : Heap} {T : Nat → Option Nat} {cb : Nat} {cs : Int → Option Cnt} {nc : Nat} (hc : CntsR h T cb cs nc) {K : Int → Prop} (hk : K nc) : lenM h (some cb) K := by
  obtain ⟨f, hm, _⟩ := hc
  exact hm.len hk

theorem full_spec {h : Heap} {T : Nat → Option Nat} {sb cb nb : Nat} {sp so : Sl} {ls : List Sp3} {S : Srv} (hR : SrvR h T sb cb nb sp so ls S) {name : ByteArray} {s : Sl} {fl : List F4} (hr : Row h s 4 (fl.flatMap f4L)) {K : Bool → Heap → Prop}
    (hk : ∀ h', Ext h h' → K (fullV S name fl) h') : m_token_Server_full (some ⟨sb, 0, none⟩) name s K h := by
  unfold m_token_Server_full g_token_Server_full
  have c0 := hR.cells
  have l0 := obj_lt c0
  have hs := hR.spaces
  have hrow := hs.own.row
  have hlen := rowLen spL_len hrow (by decide)
  have hb1 := hrow.big
  have hb2 := hrow.cap
  have hlf := rowLen f4L_len hr (by decide)
  have hb3 := hr.big
  have hb4 := hr.cap
  have hsl : S.spaces.length = ls.length := by rw [← hR.names, List.length_map]
  simp (maxDischargeDepth := 60) only [evAll, listPuts, Addr.mk.injEq, Option.map_some, Option.getD_some, Option.getD_none, Option.isSome_some, Option.isSome_none, Option.isNone_some, Option.isNone_none, List.all_cons, List.all_nil, List.length_cons, List.length_nil, List.set_cons_zero, List.set_cons_succ, List.getElem?_cons_zero, List.getElem?_cons_succ, List.getElem?_nil, Option.some.injEq, Value.int.injEq, Value.bool.injEq, Value.string.injEq, Value.pointer.injEq, Value.map.injEq, Prod.mk.injEq, exists_eq_left, exists_eq_left', if_true, if_false, decide_true, decide_false, Nat.reduceAdd, Nat.reduceLT, Nat.reduceLeDiff, Nat.reduceEqDiff, Nat.reduceMul, reduceCtorEq, beq_self_eq_true, c0]
  refine hR.counts.len ?_
  refine loopQ (fun st hh => ∃ i : Nat, st = (flowsV (S.spaces.take i) name fl.length, (i : Int), ()) ∧ i ≤ ls.length ∧ Ext h hh)
    (fun st _ => (sp.len - st.2.1).toNat) ⟨0, by rw [hlf]; rfl, by omega, Ext.refl _⟩ ?_
  rintro _ hh ⟨i, rfl, hi, he⟩ Q hQ
  dsimp only
  have zhh := ext_sz he
  refine iteP_dec (fun q => ?_) fun q => ?_
  · obtain ⟨x, hx⟩ : ∃ x, ls[i]? = some x := ⟨_, List.getElem?_eq_getElem (by omega)⟩
    obtain ⟨b, o, hb, _, hidx, hcell⟩ := elemR spL_len (hrow.ext he) hx (by decide)
    have hrf := (hs.rows x (List.mem_of_getElem? hx)).1
    have hrfl := rowLen f4L_len hrf (by decide)
    have v0 := hcell 0 _ rfl
    have v1 := hcell 1 _ rfl
    simp only [Nat.add_zero] at v0
    have hsx : S.spaces[i]? = some (x.1, x.2.2) := by rw [← hR.names, List.getElem?_map, hx]; rfl
    have st : flowsV (S.spaces.take (i + 1)) name fl.length = if strEq x.1 name then flowsV (S.spaces.take i) name fl.length else IntKind.wrap .i64 (flowsV (S.spaces.take i) name fl.length + x.2.2.length) := by
      rw [List.take_add_one, hsx]
      unfold flowsV
      rw [List.foldl_append]
      rfl
    have hwr : IntKind.wrap .i64 ((i : Int) + 1) = ((i + 1 : Nat) : Int) := by rw [wrap64 (by omega) (by omega)]; rfl
    refine hidx rfl ?_
    simp (maxDischargeDepth := 60) only [evAll, listPuts, Addr.mk.injEq, Option.map_some, Option.getD_some, Option.getD_none, Option.isSome_some, Option.isSome_none, Option.isNone_some, Option.isNone_none, List.all_cons, List.all_nil, List.length_cons, List.length_nil, List.set_cons_zero, List.set_cons_succ, List.getElem?_cons_zero, List.getElem?_cons_succ, List.getElem?_nil, Option.some.injEq, Value.int.injEq, Value.bool.injEq, Value.string.injEq, Value.pointer.injEq, Value.map.injEq, Prod.mk.injEq, exists_eq_left, exists_eq_left', if_true, if_false, decide_true, decide_false, Nat.reduceAdd, Nat.reduceLT, Nat.reduceLeDiff, Nat.reduceEqDiff, Nat.reduceMul, reduceCtorEq, beq_self_eq_true, v0, v1]
    have e2 : Ext h (Heap.puts (hh.push (.cells [.string (ByteArray.mk #[]), slV ⟨none, 0, 0⟩].toArray 69 (0, 0))) (sz hh) 0 [.string x.1, slV x.2.1]) := ext_puts (ext_push he) zhh
    refine ⟨fun q3 => ?_, fun q3 => ?_⟩
    · have q4 : strEq x.1 name = false := by simpa using q3
      refine hQ _ _ ⟨i + 1, ?_, by omega, e2⟩ (by rw [hwr]; dsimp only; omega)
      rw [hwr, st, q4, hrfl]
      rfl
    · have q4 : strEq x.1 name = true := by simpa using q3
      refine hQ _ _ ⟨i + 1, ?_, by omega, e2⟩ (by rw [hwr]; dsimp only; omega)
      rw [hwr, st, q4]
      rfl
  · rw [show S.spaces.take i = S.spaces from List.take_of_length_le (by omega)]
    refine cutQ (fun s h2 => s = (spacesV S name, ()) ∧ Ext h h2) ?_ ?_
    · rintro _ h2 ⟨rfl, e2⟩
      dsimp only
      have hR2 := hR.ext e2
      refine loopQ (fun st h3 => ∃ k : Nat, st = (idsV S.counts (fl.take k) S.nc, (k : Int), ()) ∧ k ≤ fl.length ∧ Ext h h3) (fun st _ => (s.len - st.2.1).toNat) ⟨0, rfl, by omega, e2⟩ ?_
      rintro _ h3 ⟨k, rfl, hk3, he3⟩ Q2 hQ2
      dsimp only
      have z3 := ext_sz he3
      refine iteP_dec (fun q2 => ?_) fun q2 => ?_
      · obtain ⟨f, hf⟩ : ∃ f, fl[k]? = some f := ⟨_, List.getElem?_eq_getElem (by omega)⟩
        obtain ⟨b2, o2, _, _, hidx2, hcell2⟩ := elemR f4L_len (hr.ext he3) hf (by decide)
        refine hidx2 rfl ?_
        have w0 := hcell2 0 _ rfl
        have w1 := hcell2 1 _ rfl
        have w2 := hcell2 2 _ rfl
        have w3 := hcell2 3 _ rfl
        simp only [Nat.add_zero] at w0
        have hwr : IntKind.wrap .i64 ((k : Int) + 1) = ((k + 1 : Nat) : Int) := by rw [wrap64 (by omega) (by omega)]; rfl
        have c3 := (hR.ext he3).cells
        have ls3 := obj_lt c3
        have e4 : Ext h (Heap.puts (h3.push (.cells [iv 0, iv 0, iv 0, iv 0].toArray 53 (0, 0))) (sz h3) 0 [iv f.1, iv f.2.1, iv f.2.2.1, iv f.2.2.2.1]) := ext_puts (ext_push he3) z3
        have f4 : obj (Heap.puts (h3.push (.cells [iv 0, iv 0, iv 0, iv 0].toArray 53 (0, 0))) (sz h3) 0 [iv f.1, iv f.2.1, iv f.2.2.1, iv f.2.2.2.1]) (sz h3) = some (.cells [iv f.1, iv f.2.1, iv f.2.2.1, iv f.2.2.2.1].toArray 53 (0, 0)) := by simp (maxDischargeDepth := 60) only [evAll, listPuts, Addr.mk.injEq, Option.map_some, Option.getD_some, Option.getD_none, Option.isSome_some, Option.isSome_none, Option.isNone_some, Option.isNone_none, List.all_cons, List.all_nil, List.length_cons, List.length_nil, List.set_cons_zero, List.set_cons_succ, List.getElem?_cons_zero, List.getElem?_cons_succ, List.getElem?_nil, Option.some.injEq, Value.int.injEq, Value.bool.injEq, Value.string.injEq, Value.pointer.injEq, Value.map.injEq, Prod.mk.injEq, exists_eq_left, exists_eq_left', if_true, if_false, decide_true, decide_false, Nat.reduceAdd, Nat.reduceLT, Nat.reduceLeDiff, Nat.reduceEqDiff, Nat.reduceMul, reduceCtorEq, beq_self_eq_true]
        have st : idsV S.counts (fl.take (k + 1)) S.nc = if (S.counts f.1).isSome then idsV S.counts (fl.take k) S.nc else IntKind.wrap .i64 (idsV S.counts (fl.take k) S.nc + 1) := by
          rw [List.take_add_one, hf]
          unfold idsV
          rw [List.foldl_append]
          rfl
        simp (maxDischargeDepth := 60) only [evAll, listPuts, Addr.mk.injEq, Option.map_some, Option.getD_some, Option.getD_none, Option.isSome_some, Option.isSome_none, Option.isNone_some, Option.isNone_none, List.all_cons, List.all_nil, List.length_cons, List.length_nil, List.set_cons_zero, List.set_cons_succ, List.getElem?_cons_zero, List.getElem?_cons_succ, List.getElem?_nil, Option.some.injEq, Value.int.injEq, Value.bool.injEq, Value.string.injEq, Value.pointer.injEq, Value.map.injEq, Prod.mk.injEq, exists_eq_left, exists_eq_left', if_true, if_false, decide_true, decide_false, Nat.reduceAdd, Nat.reduceLT, Nat.reduceLeDiff, Nat.reduceEqDiff, Nat.reduceMul, reduceCtorEq, beq_self_eq_true, w0, w1, w2, w3, c3, lt_ne0 ls3]
        have z34 : sz h3 + 1 = sz (Heap.puts (h3.push (.cells [iv 0, iv 0, iv 0, iv 0].toArray 53 (0, 0))) (sz h3) 0 [iv f.1, iv f.2.1, iv f.2.2.1, iv f.2.2.2.1]) := by simp only [sz_puts, sz_push]
        generalize Heap.puts (h3.push (.cells [iv 0, iv 0, iv 0, iv 0].toArray 53 (0, 0))) (sz h3) 0 [iv f.1, iv f.2.1, iv f.2.2.1, iv f.2.2.2.1] = h4 at e4 f4 z34 ⊢
        rw [z34]
        have hR4 := hR.ext e4
        have c4 := hR4.cells
        have z4 := ext_sz e4
        have goS : ∀ h9, Ext h h9 → (S.counts f.1).isSome = true → Q2 (idsV S.counts (fl.take k) S.nc, ((k + 1 : Nat) : Int), ()) h9 := fun h9 e9 hq => hQ2 _ _ ⟨k + 1, by rw [st, if_pos hq], by omega, e9⟩ (by dsimp only; omega)
        have goN : ∀ h9, Ext h h9 → S.counts f.1 = none → Q2 (IntKind.wrap .i64 (idsV S.counts (fl.take k) S.nc + 1), ((k + 1 : Nat) : Int), ()) h9 := fun h9 e9 hq => hQ2 _ _ ⟨k + 1, by rw [st, hq]; rfl, by omega, e9⟩ (by dsimp only; omega)
        have lf4 := obj_lt f4
        have lc4 := obj_lt c4
        rw [hwr]
        refine ⟨?_, ?_⟩
        · refine hR4.counts.get f.1 (fun hn => ?_) fun c v hc9 hv => ?_
          · refine ⟨(.nilIface, 0, ()), rfl, ?_⟩
            simp (maxDischargeDepth := 60) only [evAll, listPuts, Addr.mk.injEq, Option.map_some, Option.getD_some, Option.getD_none, Option.isSome_some, Option.isSome_none, Option.isNone_some, Option.isNone_none, List.all_cons, List.all_nil, List.length_cons, List.length_nil, List.set_cons_zero, List.set_cons_succ, List.getElem?_cons_zero, List.getElem?_cons_succ, List.getElem?_nil, Option.some.injEq, Value.int.injEq, Value.bool.injEq, Value.string.injEq, Value.pointer.injEq, Value.map.injEq, Prod.mk.injEq, exists_eq_left, exists_eq_left', if_true, if_false, decide_true, decide_false, Nat.reduceAdd, Nat.reduceLT, Nat.reduceLeDiff, Nat.reduceEqDiff, Nat.reduceMul, reduceCtorEq, beq_self_eq_true]
            exact goN _ (ext_puts (ext_push e4) z4) hn
          · refine ⟨(v, c.kind, ()), rfl, ?_⟩
            simp (maxDischargeDepth := 60) only [evAll, listPuts, Addr.mk.injEq, Option.map_some, Option.getD_some, Option.getD_none, Option.isSome_some, Option.isSome_none, Option.isNone_some, Option.isNone_none, List.all_cons, List.all_nil, List.length_cons, List.length_nil, List.set_cons_zero, List.set_cons_succ, List.getElem?_cons_zero, List.getElem?_cons_succ, List.getElem?_nil, Option.some.injEq, Value.int.injEq, Value.bool.injEq, Value.string.injEq, Value.pointer.injEq, Value.map.injEq, Prod.mk.injEq, exists_eq_left, exists_eq_left', if_true, if_false, decide_true, decide_false, Nat.reduceAdd, Nat.reduceLT, Nat.reduceLeDiff, Nat.reduceEqDiff, Nat.reduceMul, reduceCtorEq, beq_self_eq_true, hv.one]
            exact goS _ (ext_puts (ext_push e4) z4) (by rw [hc9]; rfl)
        · have hR5 := hR4.ext (Ext.push h4 (.cells [Value.nilIface, iv 0].toArray 74 (0, 0)))
          try simp (maxDischargeDepth := 60) only [evAll, listPuts, Addr.mk.injEq, Option.map_some, Option.getD_some, Option.getD_none, Option.isSome_some, Option.isSome_none, Option.isNone_some, Option.isNone_none, List.all_cons, List.all_nil, List.length_cons, List.length_nil, List.set_cons_zero, List.set_cons_succ, List.getElem?_cons_zero, List.getElem?_cons_succ, List.getElem?_nil, Option.some.injEq, Value.int.injEq, Value.bool.injEq, Value.string.injEq, Value.pointer.injEq, Value.map.injEq, Prod.mk.injEq, exists_eq_left, exists_eq_left', if_true, if_false, decide_true, decide_false, Nat.reduceAdd, Nat.reduceLT, Nat.reduceLeDiff, Nat.reduceEqDiff, Nat.reduceMul, reduceCtorEq, beq_self_eq_true, f4, c4, lt_ne0 lf4, lt_ne0 lc4]
          refine hR5.counts.get f.1 (fun hn => ?_) fun c v hc9 hv => ?_
          · refine ⟨(.nilIface, 0, ()), rfl, ?_⟩
            simp (maxDischargeDepth := 60) only [evAll, listPuts, Addr.mk.injEq, Option.map_some, Option.getD_some, Option.getD_none, Option.isSome_some, Option.isSome_none, Option.isNone_some, Option.isNone_none, List.all_cons, List.all_nil, List.length_cons, List.length_nil, List.set_cons_zero, List.set_cons_succ, List.getElem?_cons_zero, List.getElem?_cons_succ, List.getElem?_nil, Option.some.injEq, Value.int.injEq, Value.bool.injEq, Value.string.injEq, Value.pointer.injEq, Value.map.injEq, Prod.mk.injEq, exists_eq_left, exists_eq_left', if_true, if_false, decide_true, decide_false, Nat.reduceAdd, Nat.reduceLT, Nat.reduceLeDiff, Nat.reduceEqDiff, Nat.reduceMul, reduceCtorEq, beq_self_eq_true]
            exact goN _ (ext_puts (ext_push e4) z4) hn
          · refine ⟨(v, c.kind, ()), rfl, ?_⟩
            simp (maxDischargeDepth := 60) only [evAll, listPuts, Addr.mk.injEq, Option.map_some, Option.getD_some, Option.getD_none, Option.isSome_some, Option.isSome_none, Option.isNone_some, Option.isNone_none, List.all_cons, List.all_nil, List.length_cons, List.length_nil, List.set_cons_zero, List.set_cons_succ, List.getElem?_cons_zero, List.getElem?_cons_succ, List.getElem?_nil, Option.some.injEq, Value.int.injEq, Value.bool.injEq, Value.string.injEq, Value.pointer.injEq, Value.map.injEq, Prod.mk.injEq, exists_eq_left, exists_eq_left', if_true, if_false, decide_true, decide_false, Nat.reduceAdd, Nat.reduceLT, Nat.reduceLeDiff, Nat.reduceEqDiff, Nat.reduceMul, reduceCtorEq, beq_self_eq_true, hv.one]
            exact goS _ (ext_puts (ext_push e4) z4) (by rw [hc9]; rfl)
      · rw [show fl.take k = fl from List.take_of_length_le (by omega)]
        have := hk h3 he3
        unfold fullV at this
        refine iteP_dec (fun q3 => ?_) fun q3 => iteP_dec (fun q4 => ?_) fun q4 => ?_
        · rw [if_pos q3] at this; exact this
        · rw [if_neg q3, if_pos q4] at this; exact this
        · rw [if_neg q3, if_neg q4] at this; exact this
    · intro Q2 hQ2
      have hR2 := hR.ext he
      refine space_spec hR2.cells hR2.spaces.own.row fun h3 e3 => ?_
      have hx := ix_has hR.names name
      refine iteP_dec (fun q3 => ?_) fun q3 => ?_
      · have hh : hasV S name = false := by
          unfold hasV
          rw [← hx]
          exact decide_eq_false (by omega)
        refine hQ2 _ _ ⟨?_, he.trans e3⟩
        unfold spacesV
        rw [hh, hsl, hlen]
        rfl
      · have hh : hasV S name = true := by
          unfold hasV
          rw [← hx]
          exact decide_eq_true (by omega)
        refine hQ2 _ _ ⟨?_, he.trans e3⟩
        unfold spacesV
        rw [hh, hsl, hlen]
        rfl

def freshC (f : F4) : Cnt := if f.2.2.1 = 1 then .rate ⟨0, fun _ => 0⟩ else if f.2.2.1 = 2 then .value ⟨IntKind.wrap .u64 f.1, 0, []⟩ else .leased
theorem fresh_spec {h : Heap} {T : Nat → Option Nat} (hT : ∀ k, T k ≠ none → k < sz h) {f : F4} {K : Value → Heap → Prop}
    (hk : ∀ v h' T', CntR h' T' f.1 v (freshC f) → Ext h h' → (∀ k t, T k = some t → T' k = some t) → (∀ k, T' k ≠ none → T k ≠ none ∨ sz h ≤ k) → (∀ k, T' k ≠ none → k < sz h') → K v h') : m_token_fresh f K h := by
  unfold m_token_fresh g_token_fresh
  obtain ⟨f1, f2, f3, f4, _⟩ := f
  have e1 : Ext h (h.push (.cells [iv f1, iv f2, iv f3, iv f4].toArray 53 (0, 0))) := Ext.push _ _
  have z1 : sz (h.push (.cells [iv f1, iv f2, iv f3, iv f4].toArray 53 (0, 0))) = sz h + 1 := sz_push
  simp (maxDischargeDepth := 60) only [evAll, listPuts, Addr.mk.injEq, Option.map_some, Option.getD_some, Option.getD_none, Option.isSome_some, Option.isSome_none, Option.isNone_some, Option.isNone_none, List.all_cons, List.all_nil, List.length_cons, List.length_nil, List.set_cons_zero, List.set_cons_succ, List.getElem?_cons_zero, List.getElem?_cons_succ, List.getElem?_nil, Option.some.injEq, Value.int.injEq, Value.bool.injEq, Value.string.injEq, Value.pointer.injEq, Value.map.injEq, Prod.mk.injEq, exists_eq_left, exists_eq_left', if_true, if_false, decide_true, decide_false, Nat.reduceAdd, Nat.reduceLT, Nat.reduceLeDiff, Nat.reduceEqDiff, Nat.reduceMul, reduceCtorEq, beq_self_eq_true]
  refine ⟨fun q => ?_, fun q => ⟨fun q2 => ?_, fun q2 => ?_⟩⟩
  · have q1 : f3 = 1 := by simpa using q
    generalize h.push (.cells [iv f1, iv f2, iv f3, iv f4].toArray 53 (0, 0)) = h1 at e1 z1 ⊢
    refine newWin_spec fun h3 hw e3 z3 => ?_
    have nT : ∀ k, sz h ≤ k → T k = none := fun k h9 => by
      cases h8 : T k with
      | none => rfl
      | some t => have := hT k (by rw [h8]; exact fun e => by cases e); omega
    refine hk _ h3 (fun k => if k = sz h1 + 1 then some (tg f1 0) else if k = sz h1 then some (tg f1 1) else T k) ?_ (e1.trans e3) (fun k t hk => ?_) (fun k hk => ?_) fun k hk => ?_
    · have : freshC (f1, f2, f3, f4, ()) = .rate ⟨0, fun _ => 0⟩ := if_pos q1
      rw [this]
      refine ⟨sz h1 + 1, sz h1, rfl, hw, if_pos rfl, ?_⟩
      dsimp only
      rw [if_neg (by omega), if_pos rfl]
    · rw [if_neg, if_neg]
      · exact hk
      · intro e; subst e; rw [nT _ (by omega)] at hk; cases hk
      · intro e; subst e; rw [nT _ (by omega)] at hk; cases hk
    · split at hk
      · right; omega
      · split at hk
        · right; omega
        · exact .inl hk
    · split at hk
      · omega
      · split at hk
        · omega
        · have := hT k hk; omega
  · have q1 : f3 ≠ 1 := by simpa using q
    have q3 : f3 = 2 := by simpa using q2
    have hT1 : ∀ k, T k ≠ none → k < sz (h.push (.cells [iv f1, iv f2, iv f3, iv f4].toArray 53 (0, 0))) := fun k hk => by have := hT k hk; omega
    refine newSk_spec (id := f1) hT1 fun h' T' hs e' hkeep hnew hlt => ?_
    refine hk _ h' T' ?_ (e1.trans e') hkeep (fun k hk => (hnew k hk).imp (fun h => h) fun h9 => by omega) hlt
    have : freshC (f1, f2, f3, f4, ()) = .value ⟨IntKind.wrap .u64 f1, 0, []⟩ := by unfold freshC; rw [if_neg q1, if_pos q3]
    rw [this]
    exact ⟨_, _, _, rfl, hs⟩
  · have q1 : ¬ f3 = 1 := by simpa using q
    have h2 : ¬ f3 = 2 := by simpa using q2
    refine hk _ _ T ?_ e1 (fun _ _ h => h) (fun _ h => .inl h) fun k hk => by have := hT k hk; simp only [sz_push]; omega
    have : freshC (f1, f2, f3, f4, ()) = .leased := by unfold freshC; rw [if_neg q1, if_neg h2]
    rw [this]
    rfl
end Go.Proofs.Ytledmkhbaacdnaa
