/- Why a reading is right: the operations, all of them, continued: slices, fields, indexes, calls. -/
import Derived.Test.YtledmkhbaacdnaaFwJ
import Derived.Maps.RangeRun
namespace Go.Fw
open Go
section
variable {c : Cfg} {e : Env} {a : Act} {w : World} {h : Heap} {K : EV → Heap → Prop} {dst : Option Tmp} {type : TypeId} {pos : String} {after : Array Edge} {guard : Option (Nat × Bool)}

theorem optB_eval (hag : Agr c.n e a) {d n : Int} {x : Option Operand} (h : optB d (x.map e.ev) = some n) : (x.map a.eval = none ∧ n = d) ∨ ∃ k, x.map a.eval = some (.int k n) := by
  rcases optB_some h with ⟨h1, h2⟩ | ⟨k, h1⟩
  · left
    cases x with
    | none => exact ⟨rfl, h2⟩
    | some x => cases h1
  · right
    cases x with
    | none => cases h1
    | some x =>
      simp only [Option.map_some, Option.some.injEq] at h1
      exact ⟨k, by simp [hag.ev h1, EV.v]⟩

theorem val_slice (hag : Agr c.n e a) {t : TypeId} {x : Operand} {lo hi mx : Option Operand} (hk : opP c (.slice t x lo hi mx) e h K) : PVal c ⟨dst, .slice t x lo hi mx, type, pos, after, guard⟩ a h K := by
  simp only [opP] at hk
  split at hk
  · rename_i s hu hx
    split at hk
    · rename_i l h hlo hhi
      obtain ⟨h0, h1, h2, hk⟩ := hk
      refine PVal.of (s := Instr.sliceAt t (a.eval x) (lo.map a.eval) (hi.map a.eval) (Option.map a.eval none)) rfl (fun w hw => ?_) hk
      rw [hag.ev hx]
      exact run_sliceAt_string hu (bounds_run (m := (s.size : Int)) (optB_eval hag hlo) (optB_eval hag hhi) (.inl ⟨rfl, rfl⟩) (fun _ => rfl) h0 h1 h2 (Int.le_refl _))
    · exact hk.elim
  · rename_i el p l m hu hx
    split at hk
    · rename_i lo' up most size bytes hlo hhi hmx hs
      cases hb : hi.isNone && mx.isSome with
      | true => rw [hb] at hk; exact hk.elim
      | false =>
        rw [hb] at hk
        obtain ⟨h0, h1, h2, h3, hk⟩ := hk
        obtain ⟨i, hinf, hsz, _⟩ := sizeL_spec hs
        refine PVal.of (v := .val (.slice _ _ _)) (s := Instr.sliceAt t (a.eval x) (lo.map a.eval) (hi.map a.eval) (mx.map a.eval)) rfl (fun w hw => ?_) hk
        rw [hag.ev hx]
        refine run_sliceAt_slice hu hinf hsz (bounds_run (optB_eval hag hlo) (optB_eval hag hhi) (optB_eval hag hmx) ?_ h0 h1 h2 h3)
        intro hn
        cases hi with
        | some _ => cases hn
        | none =>
          cases mx with
          | none => rfl
          | some _ => cases hb
    · exact hk.elim
  · exact hk.elim

theorem val_fieldAddr (hag : Agr c.n e a) {s : TypeId} {x : Operand} {f : Nat} (hk : opP c (.fieldAddr s x f) e h K) : PVal c ⟨dst, .fieldAddr s x f, type, pos, after, guard⟩ a h K := by
  simp only [opP] at hk
  split at hk
  · rename_i fs v hu hx
    split at hk
    · rename_i fd hf
      cases hb : Nat.beq (c.P.cellsOf fd.type) 0 with
      | true => rw [hb] at hk; exact hk.elim
      | false =>
        rw [hb] at hk
        obtain ⟨b, o, hp, hk⟩ := atP_spec hk
        rw [addO_eq] at hk
        refine PVal.of (s := Instr.fieldAt s (a.eval x) f) rfl (fun w hw => ?_) hk
        rw [hag.ev hx, hp]
        exact run_fieldAt hu hf (Nat.ne_of_beq_eq_false hb)
    · exact hk.elim
  · exact hk.elim

theorem val_field (hag : Agr c.n e a) {s : TypeId} {x : Operand} {f : Nat} (hk : opP c (.field s x f) e h K) : PVal c ⟨dst, .field s x f, type, pos, after, guard⟩ a h K := by
  simp only [opP] at hk
  split at hk
  · rename_i fs cs hu hx
    split at hk
    · rename_i fd hf
      cases hd : c.P.underlying fd.type with
      | none => rw [hd] at hk; exact hk.elim
      | some d =>
        obtain ⟨i, hi⟩ := info_of_underlying c.P hd
        rw [hd] at hk
        cases ha : isAggD (some d) with
        | true =>
          rw [ha, cellsOf_eq c.P hi] at hk
          refine PVal.of (v := .val (.agg _)) (s := Instr.field s (a.eval x) f) rfl (fun w hw => ?_) hk
          rw [hag.ev hx]
          exact run_field_agg hu hf hd ha hi
        | false =>
          rw [ha] at hk
          simp only [cond_false] at hk
          split at hk
          · rename_i v hv
            refine PVal.of (v := .val v) (s := Instr.field s (a.eval x) f) rfl (fun w hw => ?_) hk
            rw [hag.ev hx]
            exact run_field_one hu hf hd ha hv
          · exact hk.elim
    · exact hk.elim
  · exact hk.elim

theorem val_indexAddr (hag : Agr c.n e a) {t : TypeId} {x i : Operand} (hk : opP c (.indexAddr t x i) e h K) : PVal c ⟨dst, .indexAddr t x i, type, pos, after, guard⟩ a h K := by
  simp only [opP] at hk
  split at hk
  · rename_i el p l m k n hu hx hi
    split at hk
    · rename_i size bytes hs
      obtain ⟨b, o, rfl, h0, h1, hk⟩ := hk
      obtain ⟨inf, hinf, hsz, _⟩ := sizeL_spec hs
      refine PVal.of (s := Instr.indexAt t (a.eval x) (a.eval i)) rfl (fun w hw => ?_) hk
      rw [hag.ev hx, hag.ev hi]
      exact run_indexAt_slice hu hinf hsz h0 h1
    · exact hk.elim
  · rename_i n el v k j hu hx hi
    split at hk
    · rename_i size bytes hs
      obtain ⟨b, o, hp, hk⟩ := atP_spec hk
      obtain ⟨h0, h1, hk⟩ := hk
      obtain ⟨inf, hinf, hsz, _⟩ := sizeL_spec hs
      refine PVal.of (s := Instr.indexAt t (a.eval x) (a.eval i)) rfl (fun w hw => ?_) hk
      rw [hag.ev hx, hag.ev hi, hp]
      exact run_indexAt_array hu hinf hsz h0 h1
    · exact hk.elim
  · exact hk.elim

theorem val_index (hag : Agr c.n e a) {t : TypeId} {x i : Operand} (hk : opP c (.index t x i) e h K) : PVal c ⟨dst, .index t x i, type, pos, after, guard⟩ a h K := by
  simp only [opP] at hk
  split at hk
  · rename_i s k n hu hx hi
    obtain ⟨y, h0, hy, hk⟩ := hk
    refine PVal.of (v := .val (.int .u8 y.toNat)) (s := Instr.index t (a.eval x) (a.eval i)) rfl (fun w hw => ?_) hk
    rw [hag.ev hx, hag.ev hi]
    exact run_index_string hu h0 hy
  · exact hk.elim

theorem val_extract (hag : Agr c.n e a) {x : Operand} {i : Nat} (hk : opP c (.extract x i) e h K) : PVal c ⟨dst, .extract x i, type, pos, after, guard⟩ a h K := by
  simp only [opP] at hk
  split at hk
  · rename_i k' v' hx
    cases hb : Nat.beq i 0 with
    | false => rw [hb] at hk; exact hk.elim
    | true =>
      rw [hb] at hk
      have hi := Nat.eq_of_beq_eq_true hb
      subst hi
      refine PVal.of (v := .lit true) (s := Instr.extract (a.eval x) 0) rfl (fun w hw => ?_) hk
      rw [hag.ev hx]
      rfl
  · rename_i hx
    cases hb : Nat.beq i 0 with
    | false => rw [hb] at hk; exact hk.elim
    | true =>
      rw [hb] at hk
      have hi := Nat.eq_of_beq_eq_true hb
      subst hi
      refine PVal.of (v := .lit false) (s := Instr.extract (a.eval x) 0) rfl (fun w hw => ?_) hk
      rw [hag.ev hx]
      rfl
  · rename_i vs hx
    split at hk
    · rename_i v hv
      refine PVal.of (v := .val v) (s := Instr.extract (a.eval x) i) rfl (fun w hw => ?_) hk
      rw [hag.ev hx]
      have hv' : vs[i]? = some v := by simpa using hv
      simp only [EV.v, Instr.extract, hv']
      rfl
    · exact hk.elim
  · exact hk.elim

theorem run_call_builtin {P : Program} {w w' : World} {ρ : Operand → Value} {b : Builtin} {args : Array Operand} {ts : Array TypeId} {v : Value} {s : Sem Value}
    (hb : ∀ type consts, builtin b ts type consts (args.map ρ) = (do pure (.value (← s)))) (hr : s.run P w = .ok v w') :
    (execOp ρ ⟨dst, .call ⟨.builtin b, args, ts⟩, type, pos, after, guard⟩).run P w = .ok (.value v) w' := by
  simp only [execOp, resolve, Sem.run_bind, Sem.run_pure, Result.andThen_ok, invoke, hb, hr]

theorem evs_map (hag : Agr c.n e a) {args : Array Operand} {es : List EV} (h : evs e args.toList = some es) : args.map a.eval = (es.map EV.v).toArray := by
  apply Array.ext'
  simp [hag.evs h]

theorem val_quiet_builtin (hag : Agr c.n e a) {b : Builtin} {args : Array Operand} {ts : Array TypeId} (hb : (b = .len ∧ isMapT c.P ts = false) ∨ b = .cap ∨ b = .min ∨ b = .max) (hk : callP c (.call ⟨.builtin b, args, ts⟩) e h K) :
    PVal c ⟨dst, .call ⟨.builtin b, args, ts⟩, type, pos, after, guard⟩ a h K := by
  rcases hb with ⟨rfl, hmt⟩ | rfl | rfl | rfl
  · simp only [callP] at hk
    split at hk
    · rename_i t v ht hv
      have hargs := evs_map hag hv
      have key : ∀ n : Int, (∀ w, (Builtin.len_ ts type #[v.v]).run c.P w = .ok (.int .i64 n) w) → K (.val (.int .i64 n)) h → PVal c ⟨dst, .call ⟨.builtin .len, args, ts⟩, type, pos, after, guard⟩ a h K := by
        intro n hr hk
        refine ⟨.val (.int .i64 n), fun w _ => ?_, hk⟩
        refine run_call_builtin (s := Builtin.len_ ts type #[v.v]) (fun ty cs => ?_) (hr w)
        rw [hargs]; rfl
      split at hk
      · rename_i s hu
        refine key _ (fun w => ?_) hk
        unfold Builtin.len_
        simp only [ht, EV.v, List.getElem?_toArray, List.getElem?_cons_zero, Sem.run_bind, run_underlying c.P w t hu, Result.andThen_ok]
        rfl
      · rename_i el p n m hu
        refine key _ (fun w => ?_) hk
        unfold Builtin.len_
        simp only [ht, EV.v, List.getElem?_toArray, List.getElem?_cons_zero, Sem.run_bind, run_underlying c.P w t hu, Result.andThen_ok]
        rfl
      · rename_i n el hu
        refine key _ (fun w => ?_) hk
        unfold Builtin.len_
        simp only [ht, List.getElem?_toArray, List.getElem?_cons_zero, Sem.run_bind, run_underlying c.P w t hu, Result.andThen_ok]
        rfl
      · rename_i hu
        simp [isMapT, ht, hu] at hmt
      · exact hk.elim
    · exact hk.elim
  · simp only [callP] at hk
    split at hk
    · rename_i t v ht hv
      have hargs := evs_map hag hv
      split at hk
      · rename_i el p n m hu
        refine ⟨.val (.int .i64 m), fun w _ => ?_, hk⟩
        refine run_call_builtin (s := Builtin.cap_ ts type #[.slice p n m]) (fun ty cs => ?_) ?_
        · rw [hargs]; rfl
        · unfold Builtin.cap_
          simp only [ht, List.getElem?_toArray, List.getElem?_cons_zero, Sem.run_bind, run_underlying c.P w t hu, Result.andThen_ok]
          rfl
      · exact hk.elim
    · exact hk.elim
  · simp only [callP] at hk
    split at hk
    · rename_i k x k' y hv
      have hargs := evs_map hag hv
      refine ⟨.val (.int k (minV x y)), fun w _ => ?_, hk⟩
      refine run_call_builtin (s := Builtin.min_ ts type #[.int k x, .int k' y]) (fun ty cs => ?_) ?_
      · rw [hargs]; rfl
      · unfold Builtin.min_
        simp [Builtin.min2, minV, EV.v]
    · exact hk.elim
  · simp only [callP] at hk
    split at hk
    · rename_i k x k' y hv
      have hargs := evs_map hag hv
      refine ⟨.val (.int k (maxV x y)), fun w _ => ?_, hk⟩
      refine run_call_builtin (s := Builtin.max_ ts type #[.int k x, .int k' y]) (fun ty cs => ?_) ?_
      · rw [hargs]; rfl
      · unfold Builtin.max_
        simp [Builtin.max2, maxV, EV.v]
    · exact hk.elim

/-! ### maps -/
theorem val_len (hag : Agr c.n e a) {args : Array Operand} {ts : Array TypeId} (hk : callP c (.call ⟨.builtin .len, args, ts⟩) e h K) :
    QVal c ⟨dst, .call ⟨.builtin .len, args, ts⟩, type, pos, after, guard⟩ a h K := by
  cases hm : isMapT c.P ts with
  | false => exact (val_quiet_builtin hag (.inl ⟨rfl, hm⟩) hk).q
  | true =>
    simp only [callP] at hk
    split at hk
    · rename_i t v ht hv
      have hargs := evs_map hag hv
      split at hk
      · rename_i s hu
        simp [isMapT, ht, hu] at hm
      · rename_i el p n m hu
        simp [isMapT, ht, hu] at hm
      · rename_i n el hu
        simp [isMapT, ht, hu] at hm
      · rename_i kt et m hu
        have key : ∀ n : Int, (∀ w : World, w.heap = h → (Builtin.len_ ts type #[.map m]).run c.P w = .ok (.int .i64 n) w) → K (.val (.int .i64 n)) h → QVal c ⟨dst, .call ⟨.builtin .len, args, ts⟩, type, pos, after, guard⟩ a h K := by
          intro n hr hk
          refine ⟨.val (.int .i64 n), fun w hw => ?_, hk⟩
          refine run_call_builtin (s := Builtin.len_ ts type #[.map m]) (fun ty cs => ?_) (hr w hw)
          rw [hargs]; rfl
        cases m with
        | none =>
          refine key 0 (fun w _ => ?_) (hk.1 rfl)
          unfold Builtin.len_
          simp only [ht, List.getElem?_toArray, List.getElem?_cons_zero, Sem.run_bind, run_underlying c.P w t hu, Result.andThen_ok]
          rfl
        | some b =>
          obtain ⟨es, cl, hb, hk⟩ := hk.2 b rfl
          refine key _ (fun w hw => ?_) hk
          subst hw
          unfold Builtin.len_
          simp only [ht, List.getElem?_toArray, List.getElem?_cons_zero, Sem.run_bind, run_underlying c.P w t hu, Result.andThen_ok, MapKept.run_getObj_map hb]
          rfl
      · exact hk.elim
    · exact hk.elim
theorem keyB_is {d : TypeDesc} {k : Value} (h : keyB d k = true) : MapKept.IsKey d k := by
  unfold keyB at h
  split at h
  · split at h
    · rename_i hk; subst hk; rfl
    · cases h
  · trivial
  · trivial
  · cases h

theorem run_mapGet {P : Program} {t kt et : TypeId} {d : TypeDesc} {m : Option Nat} {k z : Value} {inf : TypeInfo} {h : Heap} {K : Option Value → Prop} (hu : P.underlying t = some (.map kt et)) (hd : P.underlying kt = some d) (hkey : keyB d k = true)
    (hinf : P.info? et = some inf) (hiz : inf.zero = some z) (hk : mapGet d h m k K) :
    ∃ r : Option Value, (∀ (ok : Bool) (w : World), w.heap = h → (Instr.lookup t (.map m) k ok).run P w = .ok (if ok then .tuple #[r.getD z, .bool r.isSome] else r.getD z) w) ∧ K r := by
  have hz : ∀ w : World, (zeroValue et).run P w = .ok z w := fun w => run_zeroValue P w et hinf hiz
  cases m with
  | none =>
    refine ⟨none, fun ok w hw => ?_, hk.1 rfl⟩
    unfold Instr.lookup
    have hf : (Instr.findKey kt k []).run P w = .ok none w := MapKept.run_findKey hd rfl
    simp only [Sem.run_bind, run_underlying P w t hu, Result.andThen_ok, Sem.run_pure, MapKept.run_checkKey hd (keyB_is hkey), hf, hz]
    rfl
  | some b =>
    obtain ⟨es, cl, r, hb, hfn, hk⟩ := hk.2 b rfl
    refine ⟨r.map (·.2), fun ok w hw => ?_, hk⟩
    subst hw
    unfold Instr.lookup
    have hf : (Instr.findKey kt k es.toList).run P w = .ok r w := MapKept.run_findKey hd hfn
    simp only [Sem.run_bind, run_underlying P w t hu, Result.andThen_ok, MapKept.run_getObj_map hb, Sem.run_pure, MapKept.run_checkKey hd (keyB_is hkey), hf]
    cases r with
    | none => simp only [Sem.run_bind, hz, Result.andThen_ok]; rfl
    | some x => rfl

theorem run_mapPut {P : Program} {t kt et : TypeId} {d : TypeDesc} {m : Option Nat} {k v : Value} {w : World} {K : Heap → Prop} (hu : P.underlying t = some (.map kt et)) (hd : P.underlying kt = some d) (hkey : keyB d k = true)
    (hk : mapPut d w.heap m k v K) : ∃ w', (Instr.mapUpdate t (.map m) k v).run P w = .ok () w' ∧ Same w w' ∧ K w'.heap := by
  obtain ⟨b, es, cl, r, rfl, hb, hks, hfn, hk⟩ := hk
  refine ⟨{ w with heap := w.heap.setIfInBounds b (putO es cl k v r) }, ?_, ⟨rfl, rfl, rfl⟩, hk⟩
  unfold Instr.mapUpdate
  have hf : (Instr.findKey kt k es.toList).run P w = .ok r w := MapKept.run_findKey hd hfn
  simp only [Sem.run_bind, run_underlying P w t hu, Result.andThen_ok, MapKept.run_getObj_map hb, MapKept.run_checkKey hd (keyB_is hkey), hf]
  rcases MapKept.findNow_spec (keyB_is hkey) es.toList 0 hks with ⟨h1, _⟩ | ⟨j, e0, h1, h2, h3⟩
  · rw [hfn] at h1
    cases h1
    exact MapKept.run_setObj_map _ hb
  · rw [hfn] at h1
    cases h1
    have hkk : (Instr.keyThatStays (((es[0 + j]?).map (·.key)).getD k) k).run P w = .ok k w := by
      have h2' : es[0 + j]? = some e0 := by rw [Nat.zero_add]; simpa using h2
      rw [h2']
      simp only [Option.map_some, Option.getD_some, h3]
      unfold Instr.keyThatStays
      have hs : Instr.sameBits 10000 k k = true := by
        unfold keyB at hkey
        split at hkey <;> first
          | (simp [Instr.sameBits]; done)
          | (exact (MapKept.bytes_beq _ _).2 rfl)
          | cases hkey
      rw [if_pos hs]
      rfl
    simp only [Sem.run_bind, hkk, Result.andThen_ok]
    exact MapKept.run_setObj_map _ hb

/-! ### keys that are structs -/
theorem leafEq_is {d : TypeDesc} {v w : Value} (hv : MapKept.IsKey d v) (hw : MapKept.IsKey d w) : eqLeafV (some d) v w = some (leafEq v w) := by
  cases d <;> cases v <;> cases w <;> first
    | exact hv.elim
    | exact hw.elim
    | rfl
    | skip
  rename_i k k1 n1 k2 n2
  have h1 : k1 = k := hv
  have h2 : k2 = k := hw
  subst h1
  subst h2
  simp [eqLeafV, leafEq]

theorem flat_und {P : Program} {t : TypeId} (h : flatD (P.underlying t) = true) : P.underlying t = some ((P.underlying t).getD .bool) := by
  cases hu : P.underlying t with
  | none => rw [hu] at h; cases h
  | some d => rfl

theorem eqFields_flat {P : Program} : ∀ {fs : List Field} {i : Nat} {xs ys : List Value}, flatFs P fs i = true → isLeafs (flatDs P fs) (xs.drop i) → isLeafs (flatDs P fs) (ys.drop i) →
    eqFieldsV P fs xs ys = some (leafsEq (xs.drop i) (ys.drop i))
  | [], i, xs, ys, _, hx, hy => by
    cases hxs : xs.drop i with
    | cons a l => rw [hxs] at hx; exact hx.elim
    | nil => cases hys : ys.drop i with
      | cons a l => rw [hys] at hy; exact hy.elim
      | nil => rfl
  | f :: fs, i, xs, ys, hf, hx, hy => by
    simp only [flatFs] at hf
    cases hn : (f.name == "_") with
    | true => rw [hn] at hf; cases hf
    | false =>
      rw [hn] at hf
      simp only [cond_false] at hf
      cases hb : (Nat.beq f.offset i && flatD (P.underlying f.type)) with
      | false => rw [hb] at hf; cases hf
      | true =>
        rw [hb] at hf
        simp only [cond_true] at hf
        simp only [Bool.and_eq_true] at hb
        have ho := Nat.eq_of_beq_eq_true hb.1
        cases hxs : xs.drop i with
        | nil => rw [hxs] at hx; exact hx.elim
        | cons a l =>
          cases hys : ys.drop i with
          | nil => rw [hys] at hy; exact hy.elim
          | cons b m =>
            rw [hxs] at hx
            rw [hys] at hy
            have hx0 : xs[f.offset]? = some a := by rw [ho]; have := congrArg (fun l => l[0]?) hxs; simpa using this
            have hy0 : ys[f.offset]? = some b := by rw [ho]; have := congrArg (fun l => l[0]?) hys; simpa using this
            have hxd : xs.drop (i + 1) = l := by rw [← List.drop_drop, hxs]; rfl
            have hyd : ys.drop (i + 1) = m := by rw [← List.drop_drop, hys]; rfl
            have ih := eqFields_flat (P := P) (fs := fs) (i := i + 1) (xs := xs) (ys := ys) hf (by rw [hxd]; exact hx.2) (by rw [hyd]; exact hy.2)
            have hl : eqLeafV (P.underlying f.type) a b = some (leafEq a b) := by
              rw [flat_und hb.2]
              exact leafEq_is hx.1 hy.1
            simp only [eqFieldsV, hn, cond_false, hx0, hy0, hl, ih, hxd, hyd, leafsEq]

theorem keysB_is : ∀ {ds : List TypeDesc} {vs : List Value}, keysB ds vs = true → isLeafs ds vs
  | [], [], _ => trivial
  | d :: ds, v :: vs, h => by
    simp only [keysB] at h
    cases hb : keyB d v with
    | false => rw [hb] at h; cases h
    | true => rw [hb] at h; exact ⟨keyB_is hb, keysB_is h⟩
  | [], _ :: _, h => by cases h
  | _ :: _, [], h => by cases h

theorem flatK_spec {P : Program} {kt : TypeId} {fs : Array Field} {cs : List Value} (h : flatK P kt fs cs = true) : P.stoodInHeld kt = false ∧ flatFs P fs.toList 0 = true ∧ isLeafs (flatDs P fs.toList) cs := by
  unfold flatK at h
  cases h1 : P.stoodInHeld kt with
  | true => rw [h1] at h; cases h
  | false =>
    rw [h1] at h
    cases h2 : flatFs P fs.toList 0 with
    | false => rw [h2] at h; cases h
    | true => rw [h2] at h; exact ⟨rfl, rfl, keysB_is h⟩

theorem run_checkKeyS {P : Program} {w : World} {kt : TypeId} {fs : Array Field} {cs : List Value} (hd : P.underlying kt = some (.struct fs)) (hf : flatFs P fs.toList 0 = true) (hk : isLeafs (flatDs P fs.toList) cs) (e : Bool) (n : Nat) :
    (Instr.checkKey e (n + 1 + 1) kt (.agg cs.toArray)).run P w = .ok () w := by
  unfold Instr.checkKey
  simp only [Sem.run_bind, run_underlying P w kt hd, Result.andThen_ok]
  rw [← Array.forIn_toList]
  have key : ∀ (fs : List Field) (i : Nat), flatFs P fs i = true → isLeafs (flatDs P fs) (cs.drop i) →
      (forIn fs PUnit.unit fun f _ => (do
        if f.name ≠ "_" then Instr.checkKey e (n + 1) f.type (← part f.type cs.toArray f.offset)
        pure (ForInStep.yield PUnit.unit) : Sem (ForInStep PUnit))).run P w = .ok PUnit.unit w := by
    intro fs
    induction fs with
    | nil => intro i _ _; simp
    | cons f fs ih =>
      intro i hf hk
      simp only [flatFs] at hf
      cases hn : (f.name == "_") with
      | true => rw [hn] at hf; cases hf
      | false =>
        rw [hn] at hf
        simp only [cond_false] at hf
        have hne : f.name ≠ "_" := by
          intro he
          rw [he] at hn
          simp at hn
        cases hb : (Nat.beq f.offset i && flatD (P.underlying f.type)) with
        | false => rw [hb] at hf; cases hf
        | true =>
          rw [hb] at hf
          simp only [cond_true] at hf
          simp only [Bool.and_eq_true] at hb
          have ho := Nat.eq_of_beq_eq_true hb.1
          cases hxs : cs.drop i with
          | nil => rw [hxs] at hk; exact hk.elim
          | cons a l =>
            rw [hxs] at hk
            have hx0 : cs.toArray[f.offset]? = some a := by rw [ho]; have := congrArg (fun l => l[0]?) hxs; simpa using this
            have hxd : cs.drop (i + 1) = l := by rw [← List.drop_drop, hxs]; rfl
            have hu := flat_und hb.2
            have h1 : isAggD (P.underlying f.type) = false := by
              have := hb.2
              unfold flatD at this
              split at this <;> first
                | (rename_i h; rw [h]; rfl)
                | cases this
            have hp := run_part_leaf (P := P) (w := w) (t := f.type) (xs := cs.toArray) (off := f.offset) h1 (by rw [hu]; rfl) hx0
            have hc := MapKept.run_checkKey (P := P) (w := w) hu hk.1 e n
            have := ih (i + 1) hf (by rw [hxd]; exact hk.2)
            simp only [ne_eq] at this
            simp only [List.forIn_cons, ne_eq, hne, not_false_eq_true, if_true, Sem.run_bind, hp, Result.andThen_ok, hc, Sem.run_pure]
            exact this
  have := key fs.toList 0 hf (by simpa using hk)
  simp only [this, Result.andThen_ok, Sem.run_pure]

theorem run_equalKey {P : Program} {w : World} {kt : TypeId} {fs : Array Field} {xs ys : List Value} (hd : P.underlying kt = some (.struct fs)) (hs : P.stoodInHeld kt = false) (hf : flatFs P fs.toList 0 = true)
    (hx : isLeafs (flatDs P fs.toList) xs) (hy : isLeafs (flatDs P fs.toList) ys) : (Op.equal kt (.agg xs.toArray) (.agg ys.toArray)).run P w = .ok (leafsEq xs ys) w := by
  have hfo : P.fieldsOf kt = fs := by unfold Program.fieldsOf; rw [hd]
  unfold Op.equal Op.maxDepth
  rw [show (10000 : Nat) = 9998 + 1 + 1 from rfl, run_equalIn_agg w _ kt _ _ (by rw [hfo]; exact hd) hs, hfo]
  have := eqFields_flat (P := P) (fs := fs.toList) (i := 0) (xs := xs) (ys := ys) hf (by simpa using hx) (by simpa using hy)
  exact eqFieldsV_run (xs := xs.toArray) (ys := ys.toArray) this

theorem run_findAsking {P : Program} {w : World} {kt : TypeId} {fs : Array Field} {k : List Value} (hd : P.underlying kt = some (.struct fs)) (hs : P.stoodInHeld kt = false) (hf : flatFs P fs.toList 0 = true)
    (hk : isLeafs (flatDs P fs.toList) k) : ∀ (l : List MapEntry) (i : Nat), (∀ x, x ∈ l → IsAggKey (flatDs P fs.toList) x.key) → (Instr.findAsking kt (.agg k.toArray) l i).run P w = .ok (findA k l i) w
  | [], i, _ => rfl
  | e :: l, i, h => by
    obtain ⟨cs, hcs, hl⟩ := h e (.head _)
    have he := run_equalKey (P := P) (w := w) hd hs hf hk hl
    have ih := run_findAsking (w := w) hd hs hf hk l (i + 1) (fun x hx => h x (.tail _ hx))
    unfold Instr.findAsking
    have ha : aggEq k e.key = leafsEq k cs := by rw [hcs]; simp [aggEq]
    rw [hcs]
    simp only [Sem.run_bind, he, Result.andThen_ok, findA, ha]
    cases leafsEq k cs with
    | true => simp
    | false => simpa using ih

theorem run_findKeyS {P : Program} {w : World} {kt : TypeId} {fs : Array Field} {k : List Value} (hd : P.underlying kt = some (.struct fs)) (hs : P.stoodInHeld kt = false) (hf : flatFs P fs.toList 0 = true)
    (hk : isLeafs (flatDs P fs.toList) k) (l : List MapEntry) (h : ∀ x, x ∈ l → IsAggKey (flatDs P fs.toList) x.key) : (Instr.findKey kt (.agg k.toArray) l).run P w = .ok (findA k l 0) w := by
  unfold Instr.findKey
  simp only [Sem.run_bind, run_underlying P w kt hd, Result.andThen_ok]
  cases l with
  | nil => rfl
  | cons e l =>
    have : Instr.findNow (.struct fs) (.agg k.toArray) (e :: l) 0 = none := by
      unfold Instr.findNow
      have : Instr.sameNow (.struct fs) (.agg k.toArray) e.key = none := by
        unfold Instr.sameNow
        rfl
      rw [this]
    rw [this]
    exact run_findAsking hd hs hf hk (e :: l) 0 h

theorem sameBits_leafs : ∀ {ds : List TypeDesc} {xs ys : List Value} (n : Nat), isLeafs ds xs → isLeafs ds ys → leafsEq xs ys = true → xs = ys
  | [], [], [], _, _, _, _ => rfl
  | d :: ds, x :: xs, y :: ys, n, hx, hy, h => by
    simp only [leafsEq] at h
    cases hb : leafEq x y with
    | false => rw [hb] at h; cases h
    | true =>
      rw [hb] at h
      have : x = y := by
        have h1 := hx.1
        have h2 := hy.1
        cases d <;> cases x <;> cases y <;> first
          | exact h1.elim
          | exact h2.elim
          | skip
        all_goals simp only [leafEq, strEq, MapKept.IsKey, beq_iff_eq] at hb h1 h2
        all_goals first
          | (subst hb; rfl)
          | (subst h1; subst h2; subst hb; rfl)
          | (congr 1; exact (MapKept.bytes_beq _ _).1 ((beq_toListBytes _ _).trans (by simpa using hb)))
      rw [this, sameBits_leafs n hx.2 hy.2 h]
  | [], [], _ :: _, _, _, hy, _ => hy.elim
  | [], _ :: _, _, _, hx, _, _ => hx.elim
  | _ :: _, [], _, _, hx, _, _ => hx.elim
  | _ :: _, _ :: _, [], _, _, hy, _ => hy.elim

theorem findA_spec {k : List Value} : ∀ {l : List MapEntry} {i j : Nat} {v : Value}, findA k l i = some (j, v) → ∃ m e, j = i + m ∧ l[m]? = some e ∧ e.val = v ∧ aggEq k e.key = true
  | e :: l, i, j, v, h => by
    simp only [findA] at h
    cases hb : aggEq k e.key with
    | true =>
      rw [hb] at h
      simp only [cond_true, Option.some.injEq, Prod.mk.injEq] at h
      exact ⟨0, e, h.1.symm, rfl, h.2, hb⟩
    | false =>
      rw [hb] at h
      obtain ⟨m, e', h1, h2, h3, h4⟩ := findA_spec (l := l) (i := i + 1) h
      exact ⟨m + 1, e', by omega, h2, h3, h4⟩

theorem sameBits_self : ∀ {ds : List TypeDesc} {xs : List Value}, isLeafs ds xs → Instr.sameBits 10000 (.agg xs.toArray) (.agg xs.toArray) = true := by
  intro ds xs h
  have key : ∀ (ds : List TypeDesc) (xs : List Value), isLeafs ds xs → ((xs.zip xs).all fun (x, y) => Instr.sameBits 9999 x y) = true := by
    intro ds
    induction ds with
    | nil => intro xs h; cases xs with
      | nil => rfl
      | cons _ _ => exact h.elim
    | cons d ds ih =>
      intro xs h
      cases xs with
      | nil => exact h.elim
      | cons x xs =>
        simp only [List.zip_cons_cons, List.all_cons, Bool.and_eq_true]
        refine ⟨?_, ih xs h.2⟩
        have h1 := h.1
        cases d <;> cases x <;> first
          | exact h1.elim
          | (simp [Instr.sameBits]; done)
          | exact (MapKept.bytes_beq _ _).2 rfl
  show (xs.toArray.size == xs.toArray.size && (xs.toArray.toList.zip xs.toArray.toList).all fun (x, y) => Instr.sameBits 9999 x y) = true
  rw [Bool.and_eq_true]
  exact ⟨by simp, key ds xs h⟩

theorem run_mapGetA {P : Program} {t kt et : TypeId} {fs : Array Field} {m : Option Nat} {k : List Value} {z : Value} {inf : TypeInfo} {h : Heap} {K : Option Value → Prop} (hu : P.underlying t = some (.map kt et)) (hd : P.underlying kt = some (.struct fs)) (hkey : flatK P kt fs k = true)
    (hinf : P.info? et = some inf) (hiz : inf.zero = some z) (hk : mapGetA (flatDs P fs.toList) h m k K) :
    ∃ r : Option Value, (∀ (ok : Bool) (w : World), w.heap = h → (Instr.lookup t (.map m) (.agg k.toArray) ok).run P w = .ok (if ok then .tuple #[r.getD z, .bool r.isSome] else r.getD z) w) ∧ K r := by
  obtain ⟨hs, hf, hl⟩ := flatK_spec hkey
  have hz : ∀ w : World, (zeroValue et).run P w = .ok z w := fun w => run_zeroValue P w et hinf hiz
  have hck : ∀ (w : World) (e : Bool), (Instr.checkKey e 10000 kt (.agg k.toArray)).run P w = .ok () w := fun w e => run_checkKeyS hd hf hl e 9998
  cases m with
  | none =>
    refine ⟨none, fun ok w hw => ?_, hk.1 rfl⟩
    unfold Instr.lookup
    have hf0 : (Instr.findKey kt (.agg k.toArray) []).run P w = .ok none w := run_findKeyS hd hs hf hl [] (fun x hx => by cases hx)
    simp only [Sem.run_bind, run_underlying P w t hu, Result.andThen_ok, Sem.run_pure, hck, hf0, hz]
    rfl
  | some b =>
    obtain ⟨es, cl, hb, hks, hk⟩ := hk.2 b rfl
    refine ⟨_, fun ok w hw => ?_, hk⟩
    subst hw
    unfold Instr.lookup
    have hf0 := run_findKeyS (P := P) (w := w) hd hs hf hl es.toList hks
    simp only [Sem.run_bind, run_underlying P w t hu, Result.andThen_ok, MapKept.run_getObj_map hb, Sem.run_pure, hck, hf0]
    cases findA k es.toList 0 with
    | none => simp only [Sem.run_bind, hz, Result.andThen_ok]; rfl
    | some x => rfl

theorem run_mapPutA {P : Program} {t kt et : TypeId} {fs : Array Field} {m : Option Nat} {k : List Value} {v : Value} {w : World} {K : Heap → Prop} (hu : P.underlying t = some (.map kt et)) (hd : P.underlying kt = some (.struct fs)) (hkey : flatK P kt fs k = true)
    (hk : mapPutA (flatDs P fs.toList) w.heap m k v K) : ∃ w', (Instr.mapUpdate t (.map m) (.agg k.toArray) v).run P w = .ok () w' ∧ Same w w' ∧ K w'.heap := by
  obtain ⟨hs, hf, hl⟩ := flatK_spec hkey
  obtain ⟨b, es, cl, rfl, hb, hks, hk⟩ := hk
  refine ⟨{ w with heap := w.heap.setIfInBounds b (putO es cl (.agg k.toArray) v (findA k es.toList 0)) }, ?_, ⟨rfl, rfl, rfl⟩, hk⟩
  unfold Instr.mapUpdate
  have hck : (Instr.checkKey false 10000 kt (.agg k.toArray)).run P w = .ok () w := run_checkKeyS hd hf hl false 9998
  have hf0 := run_findKeyS (P := P) (w := w) hd hs hf hl es.toList hks
  simp only [Sem.run_bind, run_underlying P w t hu, Result.andThen_ok, MapKept.run_getObj_map hb, hck, hf0]
  cases hfa : findA k es.toList 0 with
  | none => exact MapKept.run_setObj_map _ hb
  | some jv =>
    obtain ⟨j, u⟩ := jv
    obtain ⟨m, e0, h1, h2, h3, h4⟩ := findA_spec hfa
    rw [Nat.zero_add] at h1
    subst h1
    have h2' : es[j]? = some e0 := by simpa using h2
    obtain ⟨cs, hcs, hlc⟩ := hks e0 (List.mem_of_getElem? h2)
    have heq : k = cs := sameBits_leafs 0 hl hlc (by rw [hcs] at h4; simpa [aggEq] using h4)
    have hkk : (Instr.keyThatStays (((es[j]?).map (·.key)).getD (.agg k.toArray)) (.agg k.toArray)).run P w = .ok (.agg k.toArray) w := by
      rw [h2']
      simp only [Option.map_some, Option.getD_some, hcs, ← heq]
      unfold Instr.keyThatStays
      rw [if_pos (sameBits_self hl)]
      rfl
    simp only [Sem.run_bind, hkk, Result.andThen_ok]
    exact MapKept.run_setObj_map _ hb

theorem run_mapGetX {P : Program} {t kt et : TypeId} {d : TypeDesc} {m : Option Nat} {k z : Value} {inf : TypeInfo} {h : Heap} {K : Option Value → Prop} (hu : P.underlying t = some (.map kt et)) (hd : P.underlying kt = some d)
    (hinf : P.info? et = some inf) (hiz : inf.zero = some z) (hk : mapGetX P kt d h m k K) :
    ∃ r : Option Value, (∀ (ok : Bool) (w : World), w.heap = h → (Instr.lookup t (.map m) k ok).run P w = .ok (if ok then .tuple #[r.getD z, .bool r.isSome] else r.getD z) w) ∧ K r := by
  unfold mapGetX at hk
  split at hk
  · obtain ⟨hkey, hk⟩ := blt_of hk
    exact run_mapGetA (k := _) hu hd hkey hinf hiz hk
  · obtain ⟨hkey, hk⟩ := blt_of hk
    exact run_mapGet hu hd hkey hinf hiz hk

theorem run_mapPutX {P : Program} {t kt et : TypeId} {d : TypeDesc} {m : Option Nat} {k v : Value} {w : World} {K : Heap → Prop} (hu : P.underlying t = some (.map kt et)) (hd : P.underlying kt = some d)
    (hk : mapPutX P kt d w.heap m k v K) : ∃ w', (Instr.mapUpdate t (.map m) k v).run P w = .ok () w' ∧ Same w w' ∧ K w'.heap := by
  unfold mapPutX at hk
  split at hk
  · obtain ⟨hkey, hk⟩ := blt_of hk
    exact run_mapPutA hu hd hkey hk
  · obtain ⟨hkey, hk⟩ := blt_of hk
    exact run_mapPut hu hd hkey hk

theorem run_mapDel {P : Program} {t kt et ty : TypeId} {d : TypeDesc} {m : Option Nat} {k : Value} {ts : Array TypeId} {w : World} {K : Heap → Prop} (ht : ts[0]? = some t) (hu : P.underlying t = some (.map kt et)) (hd : P.underlying kt = some d) (hkey : keyB d k = true)
    (hk : mapDel d w.heap m k K) : ∃ w', (Builtin.delete_ ts ty #[.map m, k]).run P w = .ok (.tuple #[]) w' ∧ Same w w' ∧ K w'.heap := by
  cases m with
  | none =>
    refine ⟨w, ?_, Same.refl w, hk.1 rfl⟩
    unfold Builtin.delete_
    simp only [ht, List.getElem?_toArray, List.getElem?_cons_zero, List.getElem?_cons_succ, Sem.run_bind, run_underlying P w t hu, Result.andThen_ok, MapKept.run_checkKey hd (keyB_is hkey)]
    rfl
  | some b =>
    obtain ⟨es, cl, r, hb, hfn, hk⟩ := hk.2 b rfl
    refine ⟨{ w with heap := w.heap.setIfInBounds b (delO es cl r) }, ?_, ⟨rfl, rfl, rfl⟩, hk⟩
    unfold Builtin.delete_
    have hf : (Instr.findKey kt k es.toList).run P w = .ok r w := MapKept.run_findKey hd hfn
    simp only [ht, List.getElem?_toArray, List.getElem?_cons_zero, List.getElem?_cons_succ, Sem.run_bind, run_underlying P w t hu, Result.andThen_ok, MapKept.run_getObj_map hb, MapKept.run_checkKey hd (keyB_is hkey), hf]
    cases r with
    | none => simp only [Sem.run_bind, MapKept.run_setObj_map _ hb, Result.andThen_ok]; rfl
    | some x => simp only [Sem.run_bind, MapKept.run_setObj_map _ hb, Result.andThen_ok]; rfl

theorem run_clearM {P : Program} {t kt et ty : TypeId} {m : Option Nat} {ts : Array TypeId} {w : World} {K : Heap → Prop} (ht : ts[0]? = some t) (hu : P.underlying t = some (.map kt et))
    (hk : clrM w.heap m K) : ∃ w', (Builtin.clear_ ts ty #[.map m]).run P w = .ok (.tuple #[]) w' ∧ Same w w' ∧ K w'.heap := by
  cases m with
  | none =>
    refine ⟨w, ?_, Same.refl w, hk.1 rfl⟩
    unfold Builtin.clear_
    simp only [ht, List.getElem?_toArray, List.getElem?_cons_zero, Sem.run_bind, run_underlying P w t hu, Result.andThen_ok]
    rfl
  | some b =>
    obtain ⟨es, cl, hb, hk⟩ := hk.2 b rfl
    refine ⟨{ w with heap := w.heap.setIfInBounds b (.map #[] cl) }, ?_, ⟨rfl, rfl, rfl⟩, hk⟩
    unfold Builtin.clear_
    simp only [ht, List.getElem?_toArray, List.getElem?_cons_zero, Sem.run_bind, run_underlying P w t hu, Result.andThen_ok, MapKept.run_getObj_map hb, MapKept.run_setObj_map _ hb]
    rfl

theorem run_clearS {P : Program} {t el ty : TypeId} {q : Option Addr} {l m : Nat} {zs : List Value} {ts : Array TypeId} {w : World} {K : Heap → Prop} (ht : ts[0]? = some t) (hu : P.underlying t = some (.slice el)) (hz : zeroL P el = some zs)
    (hk : clrS ⟨q, l, m⟩ zs w.heap K) : ∃ w', (Builtin.clear_ ts ty #[.slice q l m]).run P w = .ok (.tuple #[]) w' ∧ Same w w' ∧ K w'.heap := by
  rcases hk with ⟨h0, hk⟩ | ⟨h0, hk⟩ | ⟨b, o, hp, hf, ha, hk⟩
  · dsimp only at h0
    subst h0
    refine ⟨w, ?_, Same.refl w, hk⟩
    unfold Builtin.clear_
    simp only [ht, List.getElem?_toArray, List.getElem?_cons_zero, Sem.run_bind, run_underlying P w t hu, Result.andThen_ok]
    rfl
  · dsimp only at h0
    subst h0
    refine ⟨w, ?_, Same.refl w, hk⟩
    unfold Builtin.clear_
    simp only [ht, List.getElem?_toArray, List.getElem?_cons_zero, Sem.run_bind, run_underlying P w t hu, Result.andThen_ok]
    cases q <;> rfl
  · dsimp only at hp hf ha hk
    subst hp
    obtain ⟨i, z, hi, hiz, rfl⟩ := zeroL_spec hz
    cases l with
    | zero =>
      refine ⟨w, ?_, Same.refl w, ?_⟩
      · unfold Builtin.clear_
        simp only [ht, List.getElem?_toArray, List.getElem?_cons_zero, Sem.run_bind, run_underlying P w t hu, Result.andThen_ok]
        rfl
      · have e : zerosL z.cells.toList 0 = [] := rfl
        rw [e] at hk
        exact hk
    | succ l =>
      refine ⟨{ w with heap := Heap.puts w.heap b o (zerosL z.cells.toList (l + 1)) }, ?_, ⟨rfl, rfl, rfl⟩, hk⟩
      unfold Builtin.clear_
      have hst := run_storeCells P b o (zerosL z.cells.toList (l + 1)) 0 w (by simpa using hf) ha
      simp only [ht, List.getElem?_toArray, List.getElem?_cons_zero, Sem.run_bind, run_underlying P w t hu, Result.andThen_ok, run_zeroValue P w el hi hiz, zeroCells_eq, hst]
      simp

theorem run_makeInterface {P : Program} {t : TypeId} {v : Value} {w : World} (h : isIfaceD (P.underlying t) = false) : (Instr.makeInterface t v).run P w = .ok (.iface t v) w := by
  unfold Instr.makeInterface
  cases hu : P.underlying t with
  | none => rw [hu] at h; cases h
  | some d =>
    rw [hu] at h
    simp only [Sem.run_bind, run_underlying P w t hu, Result.andThen_ok]
    cases d <;> first
      | rfl
      | cases h

theorem run_typeAssert {P : Program} {t xt : TypeId} {v : Value} {w : World} (h : isIfaceD (P.underlying t) = false) : (Instr.typeAssert (.iface t v) xt t false).run P w = .ok v w := by
  unfold Instr.typeAssert
  cases hu : P.underlying t with
  | none => rw [hu] at h; cases h
  | some d =>
    rw [hu] at h
    simp only [Sem.run_bind, run_underlying P w t hu, Result.andThen_ok]
    cases d <;> first
      | (simp only [if_true]; rfl)
      | cases h

theorem call_wp (hc : c.OK) (hag : Agr c.n e a) {cl : Call} {next : Act → World → Prop} {Q : Exit → Act → World → Prop} (hp9 : ∀ v w', Same w w' → c.pan v w'.heap → Q (.panic [{ v, recovered := false }]) a w') (hk : callP c (.call cl) e w.heap K)
    (hn : ∀ v w', Same w w' → K v w'.heap → next (a.put dst v.v) w') : (⟨dst, .call cl, type, pos, after, guard⟩ : Oper).wpIn (fen c.rnd) 0 c.P a w next Q := by
  have hk0 := hk
  unfold callP at hk
  split at hk
  · rename_i args ts ho
    cases ho
    exact (val_len hag hk0).val.wp hn
  · rename_i args ts ho
    cases ho
    exact (val_quiet_builtin hag (.inr (.inl rfl)) hk0).val.wp hn
  · rename_i args ts ho
    cases ho
    exact (val_quiet_builtin hag (.inr (.inr (.inl rfl))) hk0).val.wp hn
  · rename_i args ts ho
    cases ho
    exact (val_quiet_builtin hag (.inr (.inr (.inr rfl))) hk0).val.wp hn
  · -- append
    rename_i args ts ho
    cases ho
    split at hk
    · rename_i t ht hts
      split at hk
      · rename_i el hu
        have hts' : ∀ u, ts[1]? = some u → ∃ d, c.P.underlying u = some d ∧ ∀ k, d ≠ .int k := by
          intro u h1
          simp only [h1] at hts
          split at hts
          · cases hts
          · rename_i d hne hd
            exact ⟨d, hd, fun k hk => hne k hk⟩
          · cases hts
        split at hk
        · rename_i size bytes zs p n m p' n' m' hs hz hv
          have hargs := evs_map hag hv
          obtain ⟨i, z, hi, hiz, rfl⟩ := zeroL_spec hz
          obtain ⟨i', hi', rfl, rfl⟩ := sizeL_spec hs
          rw [hi] at hi'
          cases hi'
          have hnew : ∃ new, (∀ w' : World, w'.heap = w.heap → (Builtin.firstCells i.size n' (.slice p' n' m')).run c.P w' = .ok new.toArray w') ∧ app el i.size i.bytes z.cells.toList ⟨p, n, m⟩ n' new w.heap fun s h' => K (.val (.slice s.ptr s.len s.cap)) h' := by
            rcases hk with ⟨hp, hk⟩ | ⟨b, o, l, hp, hl, hh, hk⟩
            · refine ⟨[], fun w' _ => ?_, hk⟩
              simp only at hp
              rw [hp]
              cases p' <;> simp [Builtin.firstCells, loadCells, loadCellsFrom]
            · refine ⟨l, fun w' hw => ?_, hk⟩
              simp only at hp hl
              rw [hp]
              simp only [Builtin.firstCells]
              rw [← hl]
              exact run_loadCells c.P w' b o l (by rw [hw]; exact hh)
          obtain ⟨new, hnew, hk⟩ := hnew
          obtain ⟨s', w', hr, hs', hk⟩ := run_append (P := c.P) (ts := ts) (rt := type) (s := ⟨p, n, m⟩) (x := .slice p' n' m') ht hts' hu hi hiz rfl hnew hk
          refine Val.wp (K := K) ⟨.val (.slice s'.ptr s'.len s'.cap), w', ?_, hs', hk⟩ hn
          refine run_call_builtin (s := Builtin.append_ ts type #[.slice p n m, .slice p' n' m']) (fun ty cs => ?_) hr
          rw [hargs]; rfl
        · rename_i size bytes zs p n m s hs hz hv
          have hargs := evs_map hag hv
          obtain ⟨i, z, hi, hiz, rfl⟩ := zeroL_spec hz
          obtain ⟨i', hi', rfl, rfl⟩ := sizeL_spec hs
          rw [hi] at hi'
          cases hi'
          have hnew : ∀ w' : World, w'.heap = w.heap → (Builtin.firstCells i.size s.size (.string s)).run c.P w' = .ok (byteVals s).toArray w' := by
            intro w' _
            simp only [Builtin.firstCells, Sem.run_pure]
            congr 1
            apply Array.ext'
            simp [byteVals]
          obtain ⟨s', w', hr, hs', hk⟩ := run_append (P := c.P) (ts := ts) (rt := type) (s := ⟨p, n, m⟩) (x := .string s) ht hts' hu hi hiz rfl hnew hk
          refine Val.wp (K := K) ⟨.val (.slice s'.ptr s'.len s'.cap), w', ?_, hs', hk⟩ hn
          refine run_call_builtin (s := Builtin.append_ ts type #[.slice p n m, .string s]) (fun ty cs => ?_) hr
          rw [hargs]; rfl
        · exact hk.elim
      · exact hk.elim
    · exact hk.elim
  · -- a function
    rename_i x args ts ho
    cases ho
    split at hk
    · rename_i f cs hx
      split at hk
      · rename_i es hv
        have hx' : a.eval x = Value.func (.func f) #[] ⟨cs⟩ := hag.ev hx
        have hall : (args.map a.eval) ++ (⟨cs⟩ : Array Value) = ((capE es cs).map EV.v).toArray := by
          rw [evs_map hag hv]
          simp [capE, Function.comp_def, EV.v]
        split at hk
        · rename_i s t hp
          obtain ⟨hmem, ht⟩ := pickL_mem hp
          dsimp only at hmem ht
          obtain ⟨⟨fn, hf, hname, hbody⟩, hcall⟩ := hc.calls _ hmem
          have henter : (execOp a.eval ⟨dst, .call ⟨.value x, args, ts⟩, type, pos, after, guard⟩).run c.P w = .ok (.enter f ((args.map a.eval) ++ (⟨cs⟩ : Array Value))) w := by
            simp only [execOp, resolve, hx', Deferred.ofValue, Sem.run_bind, Sem.run_pure, Result.andThen_ok, invoke, callFunc, run_program, hf, hname, Bool.false_eq_true, if_false, hbody]
            simp
          refine wp_enter henter ?_
          rw [hall, ← tupV_un ht]
          refine (hcall t _ _ w hk).mono ?_
          rintro ending w' (⟨r, rfl, hsame, hk⟩ | ⟨v, rfl, hsame, hk⟩)
          · exact hn _ w' hsame hk
          · exact hp9 v w' hsame hk
        · cases hx9 : hasN f c.ext with
          | false => rw [hx9] at hk; exact hk.elim
          | true =>
            rw [hx9] at hk
            simp only [cond_true] at hk
            split at hk
            · rename_i y hy0
              obtain ⟨t, b, es', cl, hy, hb, hk⟩ := hk
              obtain ⟨w', hrun, hsame, hw'⟩ := hc.ext f (hasN_mem hx9) t b es' cl w hb
              refine Val.wp (K := K) ⟨.val (.iface t (.map (some w.heap.size))), w', ?_, hsame, by rw [hw']; exact hk⟩ hn
              have hargs' : (args.map a.eval) ++ (⟨cs⟩ : Array Value) = #[.iface t (.map (some b))] := by rw [hall, hy0]; simp [hy]
              have hcap : (#[] ++ args.map a.eval) ++ (⟨cs⟩ : Array Value) = #[.iface t (.map (some b))] := by rw [Array.empty_append]; exact hargs'
              simp only [execOp, resolve, hx', Deferred.ofValue, Sem.run_bind, Sem.run_pure, Result.andThen_ok, invoke, hcap]
              simpa [EV.v] using hrun
            · exact hk.elim
      · exact hk.elim
    · rename_i l hx
      split at hk
      · rename_i es hv
        have hx' : a.eval x = Value.func (.yield l) #[] #[] := hag.ev hx
        obtain ⟨fn, tmps, assign, body, hrun, hround⟩ := hc.yld l _ _ w hk
        refine wp_round (l := l) (f := fn) (tmps := tmps) (assign := assign) (body := body) (k := fun b w' => Same w w' ∧ K (.val (.bool b)) w'.heap) ?_ hround fun b w' h => hn _ w' h.1 h.2
        have hargs : args.map a.eval = (es.map EV.v).toArray := evs_map hag hv
        simp only [execOp, resolve, hx', Deferred.ofValue, Sem.run_bind, Sem.run_pure, Result.andThen_ok, invoke, hargs]
        simpa using hrun
      · exact hk.elim
    · exact hk.elim
  · -- delete
    rename_i args ts ho
    cases ho
    split at hk
    · rename_i t m k ht hv
      split at hk
      · rename_i kt et hu
        split at hk
        · rename_i d hd
          obtain ⟨hkey, hk1⟩ := blt_of hk
          clear hk
          have hargs := evs_map hag hv
          obtain ⟨w', hr, hs', hk⟩ := run_mapDel (P := c.P) (ts := ts) (ty := type) ht hu hd hkey hk1
          refine Val.wp (K := K) ⟨.val (.tuple #[]), w', ?_, hs', hk⟩ hn
          refine run_call_builtin (s := Builtin.delete_ ts type #[.map m, k.v]) (fun ty cs => ?_) hr
          rw [hargs]; rfl
        · exact hk.elim
      · exact hk.elim
    · exact hk.elim
  · -- a method of what an interface holds
    rename_i x name args ts ho
    cases ho
    split at hk
    · rename_i v es hx hv
      obtain ⟨t, f, p, y, hmem, hvv, hp, hk⟩ := dynP_spec hk
      have hm : MethOK c.P name t f := hc.dyn _ hmem
      obtain ⟨hcm, ht⟩ := pickM_mem hp
      obtain ⟨⟨fn, hf, hname, hbody⟩, hcall⟩ := hc.calls _ hcm
      dsimp only at hf hname hbody hcall
      have hx' : a.eval x = .iface t (p.a0.ev y).v := (hag.ev hx).trans hvv
      have hall : (#[(p.a0.ev y).v] : Array Value) ++ (args.map a.eval) = ((TupV.evs (p.a0 :: p.rest) (y, p.t)).map EV.v).toArray := by
        rw [evs_map hag hv]
        simp only [TupV.evs, List.map_cons, tupV_un ht]
        simp
      have henter : (execOp a.eval ⟨dst, .call ⟨.invoke x name, args, ts⟩, type, pos, after, guard⟩).run c.P w = .ok (.enter f ((#[(p.a0.ev y).v] : Array Value) ++ (args.map a.eval))) w := by
        have hcut : ((#[a.eval x] : Array Value) ++ args.map a.eval).extract 1 ((#[a.eval x] : Array Value) ++ args.map a.eval).size = args.map a.eval := by
          apply Array.ext'
          simp only [Array.toList_extract, Array.toList_append, Array.size_append]
          simp
          rw [List.take_of_length_le (by simp)]
        have h0 : ((#[a.eval x] : Array Value) ++ args.map a.eval)[0]? = some (a.eval x) := by rw [← Array.getElem?_toList, Array.toList_append]; rfl
        simp only [execOp, resolve, Sem.run_bind, Sem.run_pure, Result.andThen_ok, invoke, h0, hcut]
        rw [hx']
        have hm' := hm (p.a0.ev y).v w
        simp only [callMethod, Sem.run_bind, run_program, Result.andThen_ok]
        rw [hm']
        simp only [callFunc, Sem.run_bind, run_program, Result.andThen_ok, hf, hname, Bool.false_eq_true, if_false, hbody, Sem.run_pure]
      refine wp_enter henter ?_
      rw [hall]
      refine (hcall (y, p.t) _ _ w hk).mono ?_
      rintro ending w' (⟨r, rfl, hsame, hk⟩ | ⟨v, rfl, hsame, hk⟩)
      · exact hn _ w' hsame hk
      · exact hp9 v w' hsame hk
    · exact hk.elim
  · -- clear
    rename_i args ts ho
    cases ho
    split at hk
    · rename_i t m ht hv
      split at hk
      · rename_i kt et hu
        have hargs := evs_map hag hv
        obtain ⟨w', hr, hs', hk⟩ := run_clearM (P := c.P) (ts := ts) (ty := type) ht hu hk
        refine Val.wp (K := K) ⟨.val (.tuple #[]), w', ?_, hs', hk⟩ hn
        refine run_call_builtin (s := Builtin.clear_ ts type #[.map m]) (fun ty cs => ?_) hr
        rw [hargs]; rfl
      · exact hk.elim
    · rename_i t q l m ht hv
      split at hk
      · rename_i el hu
        split at hk
        · rename_i zs hz
          have hargs := evs_map hag hv
          obtain ⟨w', hr, hs', hk⟩ := run_clearS (P := c.P) (ts := ts) (ty := type) ht hu hz hk
          refine Val.wp (K := K) ⟨.val (.tuple #[]), w', ?_, hs', hk⟩ hn
          refine run_call_builtin (s := Builtin.clear_ ts type #[.slice q l m]) (fun ty cs => ?_) hr
          rw [hargs]; rfl
        · exact hk.elim
      · exact hk.elim
    · exact hk.elim
  · exact hk.elim

theorem zero1_spec {P : Program} {t : TypeId} {z : Value} (h : zero1 P t = some z) : ∃ i, P.info? t = some i ∧ i.zero = some z := by
  unfold zero1 at h
  split at h
  · rename_i i hi
    exact ⟨i, hi, h⟩
  · cases h

theorem asLeaf_spec {d : Option TypeDesc} {v : Value} {K : EV → Prop} (hk : asLeaf d v K) : ∃ u : EV, u.v = v ∧ K u := by
  unfold asLeaf at hk
  split at hk <;> first
    | exact hk.elim
    | (obtain ⟨x, hx, hK⟩ := hk; refine ⟨_, ?_, hK⟩; exact hx.symm)

theorem asTy_spec {P : Program} {t : TypeId} {v : Value} {K : EV → Prop} (hk : asTy P t v K) : ∃ u : EV, u.v = v ∧ K u := by
  unfold asTy at hk
  cases hb : isAggD (P.underlying t) with
  | true =>
    rw [hb] at hk
    obtain ⟨r, hr, hK⟩ := hk
    exact ⟨.val (.agg (Tup.vals _ r).toArray), hr.symm, hK⟩
  | false =>
    rw [hb] at hk
    exact asLeaf_spec hk

theorem val_lookup (hag : Agr c.n e a) {t : TypeId} {x i : Operand} {ok : Bool} (hk : opP c (.lookup t x i ok) e h K) : QVal c ⟨dst, .lookup t x i ok, type, pos, after, guard⟩ a h K := by
  simp only [opP] at hk
  split at hk
  · rename_i kt et m k hu hx hi
    split at hk
    · rename_i d z hd hz
      obtain ⟨inf, hinf, hiz⟩ := zero1_spec hz
      obtain ⟨r, hr, hk⟩ := run_mapGetX (P := c.P) hu hd hinf hiz hk
      obtain ⟨u, hu', hk⟩ := asTy_spec hk
      refine QVal.of (v := bif ok then .val (.tuple #[u.v, .bool r.isSome]) else u) (s := Instr.lookup t (a.eval x) (a.eval i) ok) rfl (fun w hw => ?_) hk
      rw [hag.ev hx, hag.ev hi]
      have := hr ok w hw
      rw [← hu'] at this
      cases ok <;> exact this
    · exact hk.elim
  · exact hk.elim

theorem mapUpdate_wp (hag : Agr c.n e a) {t : TypeId} {m k x : Operand} {next : Act → World → Prop} {Q : Exit → Act → World → Prop} (hk : opP c (.mapUpdate t m k x) e w.heap K)
    (hn : ∀ v w', Same w w' → K v w'.heap → next (a.put dst v.v) w') : (⟨dst, .mapUpdate t m k x, type, pos, after, guard⟩ : Oper).wpIn (fen c.rnd) 0 c.P a w next Q := by
  simp only [opP] at hk
  split at hk
  · rename_i kt et m' k' x' hu hm hkk hx
    split at hk
    · rename_i d hd
      obtain ⟨w', hr, hs', hk⟩ := run_mapPutX (P := c.P) hu hd hk
      refine wp_skip' (w' := w') ?_ (hn (.val undef) _ hs' hk)
      refine run_u (s := Instr.mapUpdate t (a.eval m) (a.eval k) (a.eval x)) ?_
      rw [hag.ev hm, hag.ev hkk, hag.ev hx]
      exact hr
    · exact hk.elim
  · exact hk.elim

theorem val_makeInterface (hag : Agr c.n e a) {t : TypeId} {x : Operand} (hk : opP c (.makeInterface t x) e h K) : PVal c ⟨dst, .makeInterface t x, type, pos, after, guard⟩ a h K := by
  simp only [opP] at hk
  split at hk
  · rename_i v hv
    cases hb : isIfaceD (c.P.underlying t) with
    | true => rw [hb] at hk; exact hk.elim
    | false =>
      rw [hb] at hk
      refine PVal.of (v := .val (.iface t v.v)) (s := Instr.makeInterface t (a.eval x)) rfl (fun w _ => ?_) hk
      rw [hag.ev hv]
      exact run_makeInterface hb
  · exact hk.elim

theorem val_makeFunc (hag : Agr c.n e a) {f : Fn} {first caps : Array Operand} (hk : opP c (.makeFunc f first caps) e h K) : PVal c ⟨dst, .makeFunc f first caps, type, pos, after, guard⟩ a h K := by
  cases f with
  | func g =>
    simp only [opP] at hk
    split at hk
    · rename_i es hfi hv
      refine PVal.of (v := .val (.func (.func g) ⟨[]⟩ ⟨es.map EV.v⟩)) (s := Instr.makeFunc (.func g) (first.map a.eval) (caps.map a.eval)) rfl (fun w _ => ?_) hk
      have h1 : first = #[] := by apply Array.ext'; exact hfi
      rw [evs_map hag hv, h1]
      simp [Instr.makeFunc, EV.v]
    · exact hk.elim
  | _ => simp [opP] at hk

theorem val_typeAssert (hag : Agr c.n e a) {t xt : TypeId} {x : Operand} {ok : Bool} (hk : opP c (.typeAssert x xt t ok) e h K) : PVal c ⟨dst, .typeAssert x xt t ok, type, pos, after, guard⟩ a h K := by
  simp only [opP] at hk
  split at hk
  · rename_i v hv
    cases hb : ok || isIfaceD (c.P.underlying t) with
    | true => rw [hb] at hk; exact hk.elim
    | false =>
      rw [hb] at hk
      obtain ⟨y, hy, hk⟩ := hk
      obtain ⟨u, hu', hk⟩ := asLeaf_spec hk
      simp only [Bool.or_eq_false_iff] at hb
      obtain ⟨rfl, hb⟩ := hb
      refine PVal.of (v := u) (s := Instr.typeAssert (a.eval x) xt t false) rfl (fun w _ => ?_) hk
      rw [hag.ev hv, hy, hu']
      exact run_typeAssert hb
  · exact hk.elim

theorem val_range (hag : Agr c.n e a) {t : TypeId} {x : Operand} (hk : opP c (.range t x) e w.heap K) : Val c ⟨dst, .range t x, type, pos, after, guard⟩ a w K := by
  simp only [opP] at hk
  split at hk
  · rename_i kt et m hu hx
    cases m with
    | none =>
      refine Val.of (v := .itr t w.heap.size) (w' := w.alloc (.mapIter none 0 #[] 0)) (s := Instr.range t (a.eval x)) rfl ?_ ⟨rfl, rfl, rfl⟩ (hk.1 rfl)
      rw [hag.ev hx]
      exact run_range_nilMap w t _ _ hu
    | some b =>
      obtain ⟨es, cl, hb, hk⟩ := hk.2 b rfl
      refine Val.of (v := .itr t w.heap.size) (w' := w.alloc (.mapIter (some b) cl #[] cl)) (s := Instr.range t (a.eval x)) rfl ?_ ⟨rfl, rfl, rfl⟩ hk
      rw [hag.ev hx]
      exact run_range_map w t _ _ b es cl hu hb
  · exact hk.elim

theorem val_next (hag : Agr c.n e a) {x : Operand} {q : Bool} (hk : opP c (.next x q) e w.heap K) : Val c ⟨dst, .next x q, type, pos, after, guard⟩ a w K := by
  cases q with
  | true => exact hk.elim
  | false =>
    simp only [opP] at hk
    split at hk
    · rename_i t b hx
      have hx' : a.eval x = .pointer (some ⟨b, 0, none⟩) := hag.ev hx
      rcases hk with ⟨s, seen, cc, hb, hk⟩ | ⟨bm, since, seen, c0, es, clock, hr, hb, hold, hsc, hF, hT⟩
      · refine Val.of (v := .over) (w' := w) (s := Instr.next (a.eval x) false type) rfl ?_ (Same.refl w) hk
        rw [hx']
        simp [Instr.next, getObj, Sem.run, hb, Result.andThen, EV.v]
      · rcases run_next_at (P := c.P) w type b bm since c0 seen es clock hr hb hold hsc with ⟨h0, hrun⟩ | ⟨en, hen, w1, hw1, hrun⟩
        · refine Val.of (v := .over) (w' := w) (s := Instr.next (a.eval x) false type) rfl ?_ (Same.refl w) (hF h0)
          rw [hx']
          exact hrun
        · have hh : w1.heap = w.heap := by rcases hw1 with rfl | rfl <;> rfl
          have hsm : Same w w1 := by rcases hw1 with rfl | rfl <;> exact ⟨rfl, rfl, rfl⟩
          refine Val.of (v := .more en.key en.val) (w' := ChangeMaps.setBlock w1 b (.mapIter (some bm) since (seen.push en.born) clock)) (s := Instr.next (a.eval x) false type) rfl ?_ ⟨hsm.1, hsm.2.1, hsm.2.2⟩ ?_
          · rw [hx']
            exact hrun
          · have := hT en hen
            rw [← hh] at this
            exact this
    · exact hk.elim

theorem val_entry (hag : Agr c.n e a) {x : Operand} (hk : opP c (.entry x) e h K) : QVal c ⟨dst, .entry x, type, pos, after, guard⟩ a h K := by
  simp only [opP] at hk
  split at hk
  · rename_i t b hx
    have hx' : a.eval x = .pointer (some ⟨b, 0, none⟩) := hag.ev hx
    split at hk
    · rename_i kt et hu
      obtain ⟨bm, since, seen, es, clock, en, hr, hb, hen, hnd, hk⟩ := hk
      obtain ⟨k', hk', hk⟩ := asTy_spec hk
      obtain ⟨v', hv', hk⟩ := asTy_spec hk
      refine QVal.of (v := .val (.tuple #[k'.v, v'.v])) (s := Instr.entry (a.eval x)) rfl (fun w hw => ?_) hk
      subst hw
      rw [hx', hk', hv']
      exact run_entry_at (P := c.P) w b bm since seen es clock en hr hb hen hnd
    · exact hk.elim
  · exact hk.elim

/-- a store yields nothing -/
theorem store_wp (hag : Agr c.n e a) {t : TypeId} {x y : Operand} {next : Act → World → Prop} {Q : Exit → Act → World → Prop} (hk : opP c (.store t x y) e w.heap K)
    (hn : ∀ v w', Same w w' → K v w'.heap → next (a.put dst v.v) w') : (⟨dst, .store t x y, type, pos, after, guard⟩ : Oper).wpIn (fen c.rnd) 0 c.P a w next Q := by
  simp only [opP] at hk
  split at hk
  · rename_i u v hu hv
    obtain ⟨b, o, hp, hk⟩ := atP_spec hk
    obtain ⟨h', hr, hk⟩ := stT_spec hk
    refine wp_skip' (w' := { w with heap := h' }) ?_ (hn (.val undef) _ ⟨rfl, rfl, rfl⟩ hk)
    refine run_u (s := Instr.storeAt t (a.eval x) (a.eval y)) ?_
    rw [hag.ev hu, hag.ev hv, hp]
    exact run_storeAt hr
  · exact hk.elim

theorem opP_wp (hc : c.OK) (hag : Agr c.n e a) {o : Oper} {next : Act → World → Prop} {Q : Exit → Act → World → Prop} (hp9 : ∀ v w', Same w w' → c.pan v w'.heap → Q (.panic [{ v, recovered := false }]) a w') (hk : opP c o.op e w.heap K)
    (hn : ∀ v w', Same w w' → K v w'.heap → next (a.put o.dst v.v) w') : o.wpIn (fen c.rnd) 0 c.P a w next Q := by
  obtain ⟨dst, op, type, pos, after, guard⟩ := o
  cases op
  case panic x =>
    have hk : (match e.ev x with | some (.val (.iface t v)) => c.pan (.iface t v) w.heap | _ => False) := hk
    split at hk
    · rename_i t v hx
      refine wp_panic (fun _ h => by cases h) (v := .iface t v) ?_ (hp9 _ w (Same.refl w) hk)
      have hx' : a.eval x = .iface t v := hag.ev hx
      simp only [execOp, hx', Instr.panic, Sem.run_bind]
      rfl
    · exact hk.elim
  case move => exact (val_move hag hk).val.wp hn
  case assign => exact (val_assign hag hk).val.wp hn
  case pick => exact (val_pick hag hk).val.wp hn
  case alloc => exact (val_alloc hk).wp hn
  case box => exact (val_box hag hk).wp hn
  case build => exact (val_build hag hk).val.wp hn
  case buildSlice => exact (val_buildSlice hag hk).wp hn
  case load => exact (val_load hag hk).val.wp hn
  case store => exact store_wp hag hk hn
  case nilCheck => exact (val_nilCheck hag hk).val.wp hn
  case binOp => exact (val_binOp hag hk).val.wp hn
  case unOp => exact (val_unOp hag hk).val.wp hn
  case convert => exact (val_convert hag hk).wp hn
  case makeSlice => exact (val_makeSlice hag hk).wp hn
  case slice => exact (val_slice hag hk).val.wp hn
  case fieldAddr => exact (val_fieldAddr hag hk).val.wp hn
  case field => exact (val_field hag hk).val.wp hn
  case indexAddr => exact (val_indexAddr hag hk).val.wp hn
  case index => exact (val_index hag hk).val.wp hn
  case extract => exact (val_extract hag hk).val.wp hn
  case call => exact call_wp hc hag hp9 hk hn
  case makeMap t r =>
    cases r with
    | some x => exact hk.elim
    | none => exact (Val.of (v := .val (.map (some w.heap.size))) (w' := { w with heap := w.heap.push (.map #[] 0) }) (s := Instr.makeMap t none) rfl rfl ⟨rfl, rfl, rfl⟩ hk).wp hn
  case lookup => exact (val_lookup hag hk).val.wp hn
  case mapUpdate => exact mapUpdate_wp hag hk hn
  case range => exact (val_range hag hk).wp hn
  case next => exact (val_next hag hk).wp hn
  case entry => exact (val_entry hag hk).val.wp hn
  case makeInterface => exact (val_makeInterface hag hk).val.wp hn
  case makeFunc => exact (val_makeFunc hag hk).val.wp hn
  case typeAssert => exact (val_typeAssert hag hk).val.wp hn
  all_goals exact hk.elim

end
end Go.Fw
