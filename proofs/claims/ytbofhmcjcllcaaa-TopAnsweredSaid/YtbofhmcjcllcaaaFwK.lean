/- Why a reading is right: the operations, all of them, continued: slices, fields, indexes, calls. -/
import Derived.Test.YtbofhmcjcllcaaaFwJ
namespace Go.Fw
open Go
section
variable {c : Cfg} {e : Env} {a : Act} {w : World} {h : Heap} {K : EV → Heap → Prop} {dst : Option Tmp} {type : TypeId} {pos : String} {after : Array Edge} {guard : Option (Nat × Bool)}

theorem optB_eval (hag : Agr c.n e a) {d n : Int} {x : Option Operand} (h : optB d (x.map e.ev) = some n) : (x.map a.eval = none ∧ n = d) ∨ ∃ k, x.map a.eval = some (.int k n) := by
  rcases optB_some h with ⟨h1, h2⟩ | ⟨k, h1⟩
  · left
    cases x with
    | none => exact ⟨rfl, h2⟩
    | some x => cases h1
  · right
    cases x with
    | none => cases h1
    | some x =>
      simp only [Option.map_some, Option.some.injEq] at h1
      exact ⟨k, by simp [hag.ev h1, EV.v]⟩

theorem val_slice (hag : Agr c.n e a) {t : TypeId} {x : Operand} {lo hi mx : Option Operand} (hk : opP c (.slice t x lo hi mx) e h K) : PVal c ⟨dst, .slice t x lo hi mx, type, pos, after, guard⟩ a h K := by
  simp only [opP] at hk
  split at hk
  · rename_i s hu hx
    split at hk
    · rename_i l h hlo hhi
      obtain ⟨h0, h1, h2, hk⟩ := hk
      refine PVal.of (s := Instr.sliceAt t (a.eval x) (lo.map a.eval) (hi.map a.eval) (Option.map a.eval none)) rfl (fun w hw => ?_) hk
      rw [hag.ev hx]
      exact run_sliceAt_string hu (bounds_run (m := (s.size : Int)) (optB_eval hag hlo) (optB_eval hag hhi) (.inl ⟨rfl, rfl⟩) (fun _ => rfl) h0 h1 h2 (Int.le_refl _))
    · exact hk.elim
  · rename_i el p l m hu hx
    split at hk
    · rename_i lo' up most size bytes hlo hhi hmx hs
      cases hb : hi.isNone && mx.isSome with
      | true => rw [hb] at hk; exact hk.elim
      | false =>
        rw [hb] at hk
        obtain ⟨h0, h1, h2, h3, hk⟩ := hk
        obtain ⟨i, hinf, hsz, _⟩ := sizeL_spec hs
        refine PVal.of (v := .val (.slice _ _ _)) (s := Instr.sliceAt t (a.eval x) (lo.map a.eval) (hi.map a.eval) (mx.map a.eval)) rfl (fun w hw => ?_) hk
        rw [hag.ev hx]
        refine run_sliceAt_slice hu hinf hsz (bounds_run (optB_eval hag hlo) (optB_eval hag hhi) (optB_eval hag hmx) ?_ h0 h1 h2 h3)
        intro hn
        cases hi with
        | some _ => cases hn
        | none =>
          cases mx with
          | none => rfl
          | some _ => cases hb
    · exact hk.elim
  · exact hk.elim

theorem val_fieldAddr (hag : Agr c.n e a) {s : TypeId} {x : Operand} {f : Nat} (hk : opP c (.fieldAddr s x f) e h K) : PVal c ⟨dst, .fieldAddr s x f, type, pos, after, guard⟩ a h K := by
  simp only [opP] at hk
  split at hk
  · rename_i fs v hu hx
    split at hk
    · rename_i fd hf
      cases hb : Nat.beq (c.P.cellsOf fd.type) 0 with
      | true => rw [hb] at hk; exact hk.elim
      | false =>
        rw [hb] at hk
        obtain ⟨b, o, hp, hk⟩ := atP_spec hk
        rw [addO_eq] at hk
        refine PVal.of (s := Instr.fieldAt s (a.eval x) f) rfl (fun w hw => ?_) hk
        rw [hag.ev hx, hp]
        exact run_fieldAt hu hf (Nat.ne_of_beq_eq_false hb)
    · exact hk.elim
  · exact hk.elim

theorem val_field (hag : Agr c.n e a) {s : TypeId} {x : Operand} {f : Nat} (hk : opP c (.field s x f) e h K) : PVal c ⟨dst, .field s x f, type, pos, after, guard⟩ a h K := by
  simp only [opP] at hk
  split at hk
  · rename_i fs cs hu hx
    split at hk
    · rename_i fd hf
      cases hd : c.P.underlying fd.type with
      | none => rw [hd] at hk; exact hk.elim
      | some d =>
        obtain ⟨i, hi⟩ := info_of_underlying c.P hd
        rw [hd] at hk
        cases ha : isAggD (some d) with
        | true =>
          rw [ha, cellsOf_eq c.P hi] at hk
          refine PVal.of (v := .val (.agg _)) (s := Instr.field s (a.eval x) f) rfl (fun w hw => ?_) hk
          rw [hag.ev hx]
          exact run_field_agg hu hf hd ha hi
        | false =>
          rw [ha] at hk
          simp only [cond_false] at hk
          split at hk
          · rename_i v hv
            refine PVal.of (v := .val v) (s := Instr.field s (a.eval x) f) rfl (fun w hw => ?_) hk
            rw [hag.ev hx]
            exact run_field_one hu hf hd ha hv
          · exact hk.elim
    · exact hk.elim
  · exact hk.elim

theorem val_indexAddr (hag : Agr c.n e a) {t : TypeId} {x i : Operand} (hk : opP c (.indexAddr t x i) e h K) : PVal c ⟨dst, .indexAddr t x i, type, pos, after, guard⟩ a h K := by
  simp only [opP] at hk
  split at hk
  · rename_i el p l m k n hu hx hi
    split at hk
    · rename_i size bytes hs
      obtain ⟨b, o, rfl, h0, h1, hk⟩ := hk
      obtain ⟨inf, hinf, hsz, _⟩ := sizeL_spec hs
      refine PVal.of (s := Instr.indexAt t (a.eval x) (a.eval i)) rfl (fun w hw => ?_) hk
      rw [hag.ev hx, hag.ev hi]
      exact run_indexAt_slice hu hinf hsz h0 h1
    · exact hk.elim
  · rename_i n el v k j hu hx hi
    split at hk
    · rename_i size bytes hs
      obtain ⟨b, o, hp, hk⟩ := atP_spec hk
      obtain ⟨h0, h1, hk⟩ := hk
      obtain ⟨inf, hinf, hsz, _⟩ := sizeL_spec hs
      refine PVal.of (s := Instr.indexAt t (a.eval x) (a.eval i)) rfl (fun w hw => ?_) hk
      rw [hag.ev hx, hag.ev hi, hp]
      exact run_indexAt_array hu hinf hsz h0 h1
    · exact hk.elim
  · exact hk.elim

theorem val_index (hag : Agr c.n e a) {t : TypeId} {x i : Operand} (hk : opP c (.index t x i) e h K) : PVal c ⟨dst, .index t x i, type, pos, after, guard⟩ a h K := by
  simp only [opP] at hk
  split at hk
  · rename_i s k n hu hx hi
    obtain ⟨y, h0, hy, hk⟩ := hk
    refine PVal.of (v := .val (.int .u8 y.toNat)) (s := Instr.index t (a.eval x) (a.eval i)) rfl (fun w hw => ?_) hk
    rw [hag.ev hx, hag.ev hi]
    exact run_index_string hu h0 hy
  · exact hk.elim

theorem val_extract (hag : Agr c.n e a) {x : Operand} {i : Nat} (hk : opP c (.extract x i) e h K) : PVal c ⟨dst, .extract x i, type, pos, after, guard⟩ a h K := by
  simp only [opP] at hk
  split at hk
  · rename_i vs hx
    split at hk
    · rename_i v hv
      refine PVal.of (v := .val v) (s := Instr.extract (a.eval x) i) rfl (fun w hw => ?_) hk
      rw [hag.ev hx]
      have hv' : vs[i]? = some v := by simpa using hv
      simp only [EV.v, Instr.extract, hv']
      rfl
    · exact hk.elim
  · exact hk.elim

theorem run_call_builtin {P : Program} {w w' : World} {ρ : Operand → Value} {b : Builtin} {args : Array Operand} {ts : Array TypeId} {v : Value} {s : Sem Value}
    (hb : ∀ type consts, builtin b ts type consts (args.map ρ) = (do pure (.value (← s)))) (hr : s.run P w = .ok v w') :
    (execOp ρ ⟨dst, .call ⟨.builtin b, args, ts⟩, type, pos, after, guard⟩).run P w = .ok (.value v) w' := by
  simp only [execOp, resolve, Sem.run_bind, Sem.run_pure, Result.andThen_ok, invoke, hb, hr]

theorem evs_map (hag : Agr c.n e a) {args : Array Operand} {es : List EV} (h : evs e args.toList = some es) : args.map a.eval = (es.map EV.v).toArray := by
  apply Array.ext'
  simp [hag.evs h]

theorem val_quiet_builtin (hag : Agr c.n e a) {b : Builtin} {args : Array Operand} {ts : Array TypeId} (hb : (b = .len ∧ isMapT c.P ts = false) ∨ b = .cap ∨ b = .min ∨ b = .max) (hk : callP c (.call ⟨.builtin b, args, ts⟩) e h K) :
    PVal c ⟨dst, .call ⟨.builtin b, args, ts⟩, type, pos, after, guard⟩ a h K := by
  rcases hb with ⟨rfl, hmt⟩ | rfl | rfl | rfl
  · simp only [callP] at hk
    split at hk
    · rename_i t v ht hv
      have hargs := evs_map hag hv
      have key : ∀ n : Int, (∀ w, (Builtin.len_ ts type #[v.v]).run c.P w = .ok (.int .i64 n) w) → K (.val (.int .i64 n)) h → PVal c ⟨dst, .call ⟨.builtin .len, args, ts⟩, type, pos, after, guard⟩ a h K := by
        intro n hr hk
        refine ⟨.val (.int .i64 n), fun w _ => ?_, hk⟩
        refine run_call_builtin (s := Builtin.len_ ts type #[v.v]) (fun ty cs => ?_) (hr w)
        rw [hargs]; rfl
      split at hk
      · rename_i s hu
        refine key _ (fun w => ?_) hk
        unfold Builtin.len_
        simp only [ht, EV.v, List.getElem?_toArray, List.getElem?_cons_zero, Sem.run_bind, run_underlying c.P w t hu, Result.andThen_ok]
        rfl
      · rename_i el p n m hu
        refine key _ (fun w => ?_) hk
        unfold Builtin.len_
        simp only [ht, EV.v, List.getElem?_toArray, List.getElem?_cons_zero, Sem.run_bind, run_underlying c.P w t hu, Result.andThen_ok]
        rfl
      · rename_i n el hu
        refine key _ (fun w => ?_) hk
        unfold Builtin.len_
        simp only [ht, List.getElem?_toArray, List.getElem?_cons_zero, Sem.run_bind, run_underlying c.P w t hu, Result.andThen_ok]
        rfl
      · rename_i hu
        simp [isMapT, ht, hu] at hmt
      · exact hk.elim
    · exact hk.elim
  · simp only [callP] at hk
    split at hk
    · rename_i t v ht hv
      have hargs := evs_map hag hv
      split at hk
      · rename_i el p n m hu
        refine ⟨.val (.int .i64 m), fun w _ => ?_, hk⟩
        refine run_call_builtin (s := Builtin.cap_ ts type #[.slice p n m]) (fun ty cs => ?_) ?_
        · rw [hargs]; rfl
        · unfold Builtin.cap_
          simp only [ht, List.getElem?_toArray, List.getElem?_cons_zero, Sem.run_bind, run_underlying c.P w t hu, Result.andThen_ok]
          rfl
      · exact hk.elim
    · exact hk.elim
  · simp only [callP] at hk
    split at hk
    · rename_i k x k' y hv
      have hargs := evs_map hag hv
      refine ⟨.val (.int k (minV x y)), fun w _ => ?_, hk⟩
      refine run_call_builtin (s := Builtin.min_ ts type #[.int k x, .int k' y]) (fun ty cs => ?_) ?_
      · rw [hargs]; rfl
      · unfold Builtin.min_
        simp [Builtin.min2, minV, EV.v]
    · exact hk.elim
  · simp only [callP] at hk
    split at hk
    · rename_i k x k' y hv
      have hargs := evs_map hag hv
      refine ⟨.val (.int k (maxV x y)), fun w _ => ?_, hk⟩
      refine run_call_builtin (s := Builtin.max_ ts type #[.int k x, .int k' y]) (fun ty cs => ?_) ?_
      · rw [hargs]; rfl
      · unfold Builtin.max_
        simp [Builtin.max2, maxV, EV.v]
    · exact hk.elim

/-! ### maps -/
theorem val_len (hag : Agr c.n e a) {args : Array Operand} {ts : Array TypeId} (hk : callP c (.call ⟨.builtin .len, args, ts⟩) e h K) :
    QVal c ⟨dst, .call ⟨.builtin .len, args, ts⟩, type, pos, after, guard⟩ a h K := by
  cases hm : isMapT c.P ts with
  | false => exact (val_quiet_builtin hag (.inl ⟨rfl, hm⟩) hk).q
  | true =>
    simp only [callP] at hk
    split at hk
    · rename_i t v ht hv
      have hargs := evs_map hag hv
      split at hk
      · rename_i s hu
        simp [isMapT, ht, hu] at hm
      · rename_i el p n m hu
        simp [isMapT, ht, hu] at hm
      · rename_i n el hu
        simp [isMapT, ht, hu] at hm
      · rename_i kt et m hu
        have key : ∀ n : Int, (∀ w : World, w.heap = h → (Builtin.len_ ts type #[.map m]).run c.P w = .ok (.int .i64 n) w) → K (.val (.int .i64 n)) h → QVal c ⟨dst, .call ⟨.builtin .len, args, ts⟩, type, pos, after, guard⟩ a h K := by
          intro n hr hk
          refine ⟨.val (.int .i64 n), fun w hw => ?_, hk⟩
          refine run_call_builtin (s := Builtin.len_ ts type #[.map m]) (fun ty cs => ?_) (hr w hw)
          rw [hargs]; rfl
        cases m with
        | none =>
          refine key 0 (fun w _ => ?_) (hk.1 rfl)
          unfold Builtin.len_
          simp only [ht, List.getElem?_toArray, List.getElem?_cons_zero, Sem.run_bind, run_underlying c.P w t hu, Result.andThen_ok]
          rfl
        | some b =>
          obtain ⟨es, cl, hb, hk⟩ := hk.2 b rfl
          refine key _ (fun w hw => ?_) hk
          subst hw
          unfold Builtin.len_
          simp only [ht, List.getElem?_toArray, List.getElem?_cons_zero, Sem.run_bind, run_underlying c.P w t hu, Result.andThen_ok, MapKept.run_getObj_map hb]
          rfl
      · exact hk.elim
    · exact hk.elim
theorem keyB_is {d : TypeDesc} {k : Value} (h : keyB d k = true) : MapKept.IsKey d k := by
  unfold keyB at h
  split at h
  · split at h
    · rename_i hk; subst hk; rfl
    · cases h
  · trivial
  · trivial
  · cases h

theorem run_mapGet {P : Program} {t kt et : TypeId} {d : TypeDesc} {m : Option Nat} {k z : Value} {inf : TypeInfo} {h : Heap} {K : Option Value → Prop} (hu : P.underlying t = some (.map kt et)) (hd : P.underlying kt = some d) (hkey : keyB d k = true)
    (hinf : P.info? et = some inf) (hiz : inf.zero = some z) (hk : mapGet d h m k K) :
    ∃ r : Option Value, (∀ (ok : Bool) (w : World), w.heap = h → (Instr.lookup t (.map m) k ok).run P w = .ok (if ok then .tuple #[r.getD z, .bool r.isSome] else r.getD z) w) ∧ K r := by
  have hz : ∀ w : World, (zeroValue et).run P w = .ok z w := fun w => run_zeroValue P w et hinf hiz
  cases m with
  | none =>
    refine ⟨none, fun ok w hw => ?_, hk.1 rfl⟩
    unfold Instr.lookup
    have hf : (Instr.findKey kt k []).run P w = .ok none w := MapKept.run_findKey hd rfl
    simp only [Sem.run_bind, run_underlying P w t hu, Result.andThen_ok, Sem.run_pure, MapKept.run_checkKey hd (keyB_is hkey), hf, hz]
    rfl
  | some b =>
    obtain ⟨es, cl, r, hb, hfn, hk⟩ := hk.2 b rfl
    refine ⟨r.map (·.2), fun ok w hw => ?_, hk⟩
    subst hw
    unfold Instr.lookup
    have hf : (Instr.findKey kt k es.toList).run P w = .ok r w := MapKept.run_findKey hd hfn
    simp only [Sem.run_bind, run_underlying P w t hu, Result.andThen_ok, MapKept.run_getObj_map hb, Sem.run_pure, MapKept.run_checkKey hd (keyB_is hkey), hf]
    cases r with
    | none => simp only [Sem.run_bind, hz, Result.andThen_ok]; rfl
    | some x => rfl

theorem run_mapPut {P : Program} {t kt et : TypeId} {d : TypeDesc} {m : Option Nat} {k v : Value} {w : World} {K : Heap → Prop} (hu : P.underlying t = some (.map kt et)) (hd : P.underlying kt = some d) (hkey : keyB d k = true)
    (hk : mapPut d w.heap m k v K) : ∃ w', (Instr.mapUpdate t (.map m) k v).run P w = .ok () w' ∧ Same w w' ∧ K w'.heap := by
  obtain ⟨b, es, cl, r, rfl, hb, hks, hfn, hk⟩ := hk
  refine ⟨{ w with heap := w.heap.setIfInBounds b (putO es cl k v r) }, ?_, ⟨rfl, rfl, rfl⟩, hk⟩
  unfold Instr.mapUpdate
  have hf : (Instr.findKey kt k es.toList).run P w = .ok r w := MapKept.run_findKey hd hfn
  simp only [Sem.run_bind, run_underlying P w t hu, Result.andThen_ok, MapKept.run_getObj_map hb, MapKept.run_checkKey hd (keyB_is hkey), hf]
  rcases MapKept.findNow_spec (keyB_is hkey) es.toList 0 hks with ⟨h1, _⟩ | ⟨j, e0, h1, h2, h3⟩
  · rw [hfn] at h1
    cases h1
    exact MapKept.run_setObj_map _ hb
  · rw [hfn] at h1
    cases h1
    have hkk : (Instr.keyThatStays (((es[0 + j]?).map (·.key)).getD k) k).run P w = .ok k w := by
      have h2' : es[0 + j]? = some e0 := by rw [Nat.zero_add]; simpa using h2
      rw [h2']
      simp only [Option.map_some, Option.getD_some, h3]
      unfold Instr.keyThatStays
      have hs : Instr.sameBits 10000 k k = true := by
        unfold keyB at hkey
        split at hkey <;> first
          | (simp [Instr.sameBits]; done)
          | (exact (MapKept.bytes_beq _ _).2 rfl)
          | cases hkey
      rw [if_pos hs]
      rfl
    simp only [Sem.run_bind, hkk, Result.andThen_ok]
    exact MapKept.run_setObj_map _ hb

theorem run_mapDel {P : Program} {t kt et ty : TypeId} {d : TypeDesc} {m : Option Nat} {k : Value} {ts : Array TypeId} {w : World} {K : Heap → Prop} (ht : ts[0]? = some t) (hu : P.underlying t = some (.map kt et)) (hd : P.underlying kt = some d) (hkey : keyB d k = true)
    (hk : mapDel d w.heap m k K) : ∃ w', (Builtin.delete_ ts ty #[.map m, k]).run P w = .ok (.tuple #[]) w' ∧ Same w w' ∧ K w'.heap := by
  cases m with
  | none =>
    refine ⟨w, ?_, Same.refl w, hk.1 rfl⟩
    unfold Builtin.delete_
    simp only [ht, List.getElem?_toArray, List.getElem?_cons_zero, List.getElem?_cons_succ, Sem.run_bind, run_underlying P w t hu, Result.andThen_ok, MapKept.run_checkKey hd (keyB_is hkey)]
    rfl
  | some b =>
    obtain ⟨es, cl, r, hb, hfn, hk⟩ := hk.2 b rfl
    refine ⟨{ w with heap := w.heap.setIfInBounds b (delO es cl r) }, ?_, ⟨rfl, rfl, rfl⟩, hk⟩
    unfold Builtin.delete_
    have hf : (Instr.findKey kt k es.toList).run P w = .ok r w := MapKept.run_findKey hd hfn
    simp only [ht, List.getElem?_toArray, List.getElem?_cons_zero, List.getElem?_cons_succ, Sem.run_bind, run_underlying P w t hu, Result.andThen_ok, MapKept.run_getObj_map hb, MapKept.run_checkKey hd (keyB_is hkey), hf]
    cases r with
    | none => simp only [Sem.run_bind, MapKept.run_setObj_map _ hb, Result.andThen_ok]; rfl
    | some x => simp only [Sem.run_bind, MapKept.run_setObj_map _ hb, Result.andThen_ok]; rfl

theorem run_makeInterface {P : Program} {t : TypeId} {v : Value} {w : World} (h : isIfaceD (P.underlying t) = false) : (Instr.makeInterface t v).run P w = .ok (.iface t v) w := by
  unfold Instr.makeInterface
  cases hu : P.underlying t with
  | none => rw [hu] at h; cases h
  | some d =>
    rw [hu] at h
    simp only [Sem.run_bind, run_underlying P w t hu, Result.andThen_ok]
    cases d <;> first
      | rfl
      | cases h

theorem run_typeAssert {P : Program} {t xt : TypeId} {v : Value} {w : World} (h : isIfaceD (P.underlying t) = false) : (Instr.typeAssert (.iface t v) xt t false).run P w = .ok v w := by
  unfold Instr.typeAssert
  cases hu : P.underlying t with
  | none => rw [hu] at h; cases h
  | some d =>
    rw [hu] at h
    simp only [Sem.run_bind, run_underlying P w t hu, Result.andThen_ok]
    cases d <;> first
      | (simp only [if_true]; rfl)
      | cases h

theorem call_wp (hc : c.OK) (hag : Agr c.n e a) {cl : Call} {next : Act → World → Prop} {Q : Exit → Act → World → Prop} (hk : callP c (.call cl) e w.heap K)
    (hn : ∀ v w', Same w w' → K v w'.heap → next (a.put dst v.v) w') : (⟨dst, .call cl, type, pos, after, guard⟩ : Oper).wp c.P a w next Q := by
  have hk0 := hk
  unfold callP at hk
  split at hk
  · rename_i args ts ho
    cases ho
    exact (val_len hag hk0).val.wp hn
  · rename_i args ts ho
    cases ho
    exact (val_quiet_builtin hag (.inr (.inl rfl)) hk0).val.wp hn
  · rename_i args ts ho
    cases ho
    exact (val_quiet_builtin hag (.inr (.inr (.inl rfl))) hk0).val.wp hn
  · rename_i args ts ho
    cases ho
    exact (val_quiet_builtin hag (.inr (.inr (.inr rfl))) hk0).val.wp hn
  · -- append
    rename_i args ts ho
    cases ho
    split at hk
    · rename_i t ht hts
      split at hk
      · rename_i el hu
        have hts' : ∀ u, ts[1]? = some u → ∃ d, c.P.underlying u = some d ∧ ∀ k, d ≠ .int k := by
          intro u h1
          simp only [h1] at hts
          split at hts
          · cases hts
          · rename_i d hne hd
            exact ⟨d, hd, fun k hk => hne k hk⟩
          · cases hts
        split at hk
        · rename_i size bytes zs p n m p' n' m' hs hz hv
          have hargs := evs_map hag hv
          obtain ⟨i, z, hi, hiz, rfl⟩ := zeroL_spec hz
          obtain ⟨i', hi', rfl, rfl⟩ := sizeL_spec hs
          rw [hi] at hi'
          cases hi'
          have hnew : ∃ new, (∀ w' : World, w'.heap = w.heap → (Builtin.firstCells i.size n' (.slice p' n' m')).run c.P w' = .ok new.toArray w') ∧ app el i.size i.bytes z.cells.toList ⟨p, n, m⟩ n' new w.heap fun s h' => K (.val (.slice s.ptr s.len s.cap)) h' := by
            rcases hk with ⟨hp, hk⟩ | ⟨b, o, l, hp, hl, hh, hk⟩
            · refine ⟨[], fun w' _ => ?_, hk⟩
              simp only at hp
              rw [hp]
              cases p' <;> simp [Builtin.firstCells, loadCells, loadCellsFrom]
            · refine ⟨l, fun w' hw => ?_, hk⟩
              simp only at hp hl
              rw [hp]
              simp only [Builtin.firstCells]
              rw [← hl]
              exact run_loadCells c.P w' b o l (by rw [hw]; exact hh)
          obtain ⟨new, hnew, hk⟩ := hnew
          obtain ⟨s', w', hr, hs', hk⟩ := run_append (P := c.P) (ts := ts) (rt := type) (s := ⟨p, n, m⟩) (x := .slice p' n' m') ht hts' hu hi hiz rfl hnew hk
          refine Val.wp (K := K) ⟨.val (.slice s'.ptr s'.len s'.cap), w', ?_, hs', hk⟩ hn
          refine run_call_builtin (s := Builtin.append_ ts type #[.slice p n m, .slice p' n' m']) (fun ty cs => ?_) hr
          rw [hargs]; rfl
        · rename_i size bytes zs p n m s hs hz hv
          have hargs := evs_map hag hv
          obtain ⟨i, z, hi, hiz, rfl⟩ := zeroL_spec hz
          obtain ⟨i', hi', rfl, rfl⟩ := sizeL_spec hs
          rw [hi] at hi'
          cases hi'
          have hnew : ∀ w' : World, w'.heap = w.heap → (Builtin.firstCells i.size s.size (.string s)).run c.P w' = .ok (byteVals s).toArray w' := by
            intro w' _
            simp only [Builtin.firstCells, Sem.run_pure]
            congr 1
            apply Array.ext'
            simp [byteVals]
          obtain ⟨s', w', hr, hs', hk⟩ := run_append (P := c.P) (ts := ts) (rt := type) (s := ⟨p, n, m⟩) (x := .string s) ht hts' hu hi hiz rfl hnew hk
          refine Val.wp (K := K) ⟨.val (.slice s'.ptr s'.len s'.cap), w', ?_, hs', hk⟩ hn
          refine run_call_builtin (s := Builtin.append_ ts type #[.slice p n m, .string s]) (fun ty cs => ?_) hr
          rw [hargs]; rfl
        · exact hk.elim
      · exact hk.elim
    · exact hk.elim
  · -- a function
    rename_i x args ts ho
    cases ho
    split at hk
    · rename_i f cs hx
      split at hk
      · rename_i es hv
        have hx' : a.eval x = Value.func (.func f) #[] ⟨cs⟩ := hag.ev hx
        have hall : (args.map a.eval) ++ (⟨cs⟩ : Array Value) = ((capE es cs).map EV.v).toArray := by
          rw [evs_map hag hv]
          simp [capE, Function.comp_def, EV.v]
        split at hk
        · rename_i s t hp
          obtain ⟨hmem, ht⟩ := pickL_mem hp
          dsimp only at hmem ht
          obtain ⟨⟨fn, hf, hname, hbody⟩, hcall⟩ := hc.calls _ hmem
          have henter : (execOp a.eval ⟨dst, .call ⟨.value x, args, ts⟩, type, pos, after, guard⟩).run c.P w = .ok (.enter f ((args.map a.eval) ++ (⟨cs⟩ : Array Value))) w := by
            simp only [execOp, resolve, hx', Deferred.ofValue, Sem.run_bind, Sem.run_pure, Result.andThen_ok, invoke, callFunc, run_program, hf, hname, Bool.false_eq_true, if_false, hbody]
            simp
          unfold Oper.wp
          rw [henter, Oper.upon_enter, hall, ← tupV_un ht]
          refine (hcall t _ w hk).mono ?_
          rintro ending w' ⟨r, rfl, hsame, hk⟩
          exact hn _ w' hsame hk
        · cases hx9 : hasN f c.ext with
          | false => rw [hx9] at hk; exact hk.elim
          | true =>
            rw [hx9] at hk
            simp only [cond_true] at hk
            split at hk
            · rename_i y hy0
              obtain ⟨t, b, es', cl, hy, hb, hk⟩ := hk
              obtain ⟨w', hrun, hsame, hw'⟩ := hc.ext f (hasN_mem hx9) t b es' cl w hb
              refine Val.wp (K := K) ⟨.val (.iface t (.map (some w.heap.size))), w', ?_, hsame, by rw [hw']; exact hk⟩ hn
              have hargs' : (args.map a.eval) ++ (⟨cs⟩ : Array Value) = #[.iface t (.map (some b))] := by rw [hall, hy0]; simp [hy]
              have hcap : (#[] ++ args.map a.eval) ++ (⟨cs⟩ : Array Value) = #[.iface t (.map (some b))] := by rw [Array.empty_append]; exact hargs'
              simp only [execOp, resolve, hx', Deferred.ofValue, Sem.run_bind, Sem.run_pure, Result.andThen_ok, invoke, hcap]
              simpa [EV.v] using hrun
            · exact hk.elim
      · exact hk.elim
    · exact hk.elim
  · -- delete
    rename_i args ts ho
    cases ho
    split at hk
    · rename_i t m k ht hv
      split at hk
      · rename_i kt et hu
        split at hk
        · rename_i d hd
          obtain ⟨hkey, hk1⟩ := blt_of hk
          clear hk
          have hargs := evs_map hag hv
          obtain ⟨w', hr, hs', hk⟩ := run_mapDel (P := c.P) (ts := ts) (ty := type) ht hu hd hkey hk1
          refine Val.wp (K := K) ⟨.val (.tuple #[]), w', ?_, hs', hk⟩ hn
          refine run_call_builtin (s := Builtin.delete_ ts type #[.map m, k.v]) (fun ty cs => ?_) hr
          rw [hargs]; rfl
        · exact hk.elim
      · exact hk.elim
    · exact hk.elim
  · exact hk.elim

theorem zero1_spec {P : Program} {t : TypeId} {z : Value} (h : zero1 P t = some z) : ∃ i, P.info? t = some i ∧ i.zero = some z := by
  unfold zero1 at h
  split at h
  · rename_i i hi
    exact ⟨i, hi, h⟩
  · cases h

theorem asLeaf_spec {d : Option TypeDesc} {v : Value} {K : EV → Prop} (hk : asLeaf d v K) : ∃ u : EV, u.v = v ∧ K u := by
  unfold asLeaf at hk
  split at hk <;> first
    | exact hk.elim
    | (obtain ⟨x, hx, hK⟩ := hk; refine ⟨_, ?_, hK⟩; exact hx.symm)

theorem val_lookup (hag : Agr c.n e a) {t : TypeId} {x i : Operand} {ok : Bool} (hk : opP c (.lookup t x i ok) e h K) : QVal c ⟨dst, .lookup t x i ok, type, pos, after, guard⟩ a h K := by
  simp only [opP] at hk
  split at hk
  · rename_i kt et m k hu hx hi
    split at hk
    · rename_i d z hd hz
      obtain ⟨hkey, hk1⟩ := blt_of hk
      clear hk
      obtain ⟨inf, hinf, hiz⟩ := zero1_spec hz
      obtain ⟨r, hr, hk⟩ := run_mapGet (P := c.P) hu hd hkey hinf hiz hk1
      obtain ⟨u, hu', hk⟩ := asLeaf_spec hk
      refine QVal.of (v := bif ok then .val (.tuple #[u.v, .bool r.isSome]) else u) (s := Instr.lookup t (a.eval x) (a.eval i) ok) rfl (fun w hw => ?_) hk
      rw [hag.ev hx, hag.ev hi]
      have := hr ok w hw
      rw [← hu'] at this
      cases ok <;> exact this
    · exact hk.elim
  · exact hk.elim

theorem mapUpdate_wp (hag : Agr c.n e a) {t : TypeId} {m k x : Operand} {next : Act → World → Prop} {Q : Exit → Act → World → Prop} (hk : opP c (.mapUpdate t m k x) e w.heap K)
    (hn : ∀ v w', Same w w' → K v w'.heap → next (a.put dst v.v) w') : (⟨dst, .mapUpdate t m k x, type, pos, after, guard⟩ : Oper).wp c.P a w next Q := by
  simp only [opP] at hk
  split at hk
  · rename_i kt et m' k' x' hu hm hkk hx
    split at hk
    · rename_i d hd
      obtain ⟨hkey, hk1⟩ := blt_of hk
      clear hk
      obtain ⟨w', hr, hs', hk⟩ := run_mapPut (P := c.P) hu hd hkey hk1
      refine wp_skip' (w' := w') ?_ (hn (.val undef) _ hs' hk)
      refine run_u (s := Instr.mapUpdate t (a.eval m) (a.eval k) (a.eval x)) ?_
      rw [hag.ev hm, hag.ev hkk, hag.ev hx]
      exact hr
    · exact hk.elim
  · exact hk.elim

theorem val_makeInterface (hag : Agr c.n e a) {t : TypeId} {x : Operand} (hk : opP c (.makeInterface t x) e h K) : PVal c ⟨dst, .makeInterface t x, type, pos, after, guard⟩ a h K := by
  simp only [opP] at hk
  split at hk
  · rename_i v hv
    cases hb : isIfaceD (c.P.underlying t) with
    | true => rw [hb] at hk; exact hk.elim
    | false =>
      rw [hb] at hk
      refine PVal.of (v := .val (.iface t v.v)) (s := Instr.makeInterface t (a.eval x)) rfl (fun w _ => ?_) hk
      rw [hag.ev hv]
      exact run_makeInterface hb
  · exact hk.elim

theorem val_makeFunc (hag : Agr c.n e a) {f : Fn} {first caps : Array Operand} (hk : opP c (.makeFunc f first caps) e h K) : PVal c ⟨dst, .makeFunc f first caps, type, pos, after, guard⟩ a h K := by
  cases f with
  | func g =>
    simp only [opP] at hk
    split at hk
    · rename_i es hfi hv
      refine PVal.of (v := .val (.func (.func g) ⟨[]⟩ ⟨es.map EV.v⟩)) (s := Instr.makeFunc (.func g) (first.map a.eval) (caps.map a.eval)) rfl (fun w _ => ?_) hk
      have h1 : first = #[] := by apply Array.ext'; exact hfi
      rw [evs_map hag hv, h1]
      simp [Instr.makeFunc, EV.v]
    · exact hk.elim
  | _ => simp [opP] at hk

theorem val_typeAssert (hag : Agr c.n e a) {t xt : TypeId} {x : Operand} {ok : Bool} (hk : opP c (.typeAssert x xt t ok) e h K) : PVal c ⟨dst, .typeAssert x xt t ok, type, pos, after, guard⟩ a h K := by
  simp only [opP] at hk
  split at hk
  · rename_i v hv
    cases hb : ok || isIfaceD (c.P.underlying t) with
    | true => rw [hb] at hk; exact hk.elim
    | false =>
      rw [hb] at hk
      obtain ⟨y, hy, hk⟩ := hk
      obtain ⟨u, hu', hk⟩ := asLeaf_spec hk
      simp only [Bool.or_eq_false_iff] at hb
      obtain ⟨rfl, hb⟩ := hb
      refine PVal.of (v := u) (s := Instr.typeAssert (a.eval x) xt t false) rfl (fun w _ => ?_) hk
      rw [hag.ev hv, hy, hu']
      exact run_typeAssert hb
  · exact hk.elim

/-- a store yields nothing -/
theorem store_wp (hag : Agr c.n e a) {t : TypeId} {x y : Operand} {next : Act → World → Prop} {Q : Exit → Act → World → Prop} (hk : opP c (.store t x y) e w.heap K)
    (hn : ∀ v w', Same w w' → K v w'.heap → next (a.put dst v.v) w') : (⟨dst, .store t x y, type, pos, after, guard⟩ : Oper).wp c.P a w next Q := by
  simp only [opP] at hk
  split at hk
  · rename_i u v hu hv
    obtain ⟨b, o, hp, hk⟩ := atP_spec hk
    obtain ⟨h', hr, hk⟩ := stT_spec hk
    refine wp_skip' (w' := { w with heap := h' }) ?_ (hn (.val undef) _ ⟨rfl, rfl, rfl⟩ hk)
    refine run_u (s := Instr.storeAt t (a.eval x) (a.eval y)) ?_
    rw [hag.ev hu, hag.ev hv, hp]
    exact run_storeAt hr
  · exact hk.elim

theorem opP_wp (hc : c.OK) (hag : Agr c.n e a) {o : Oper} {next : Act → World → Prop} {Q : Exit → Act → World → Prop} (hk : opP c o.op e w.heap K)
    (hn : ∀ v w', Same w w' → K v w'.heap → next (a.put o.dst v.v) w') : o.wp c.P a w next Q := by
  obtain ⟨dst, op, type, pos, after, guard⟩ := o
  cases op
  case move => exact (val_move hag hk).val.wp hn
  case assign => exact (val_assign hag hk).val.wp hn
  case pick => exact (val_pick hag hk).val.wp hn
  case alloc => exact (val_alloc hk).wp hn
  case box => exact (val_box hag hk).wp hn
  case build => exact (val_build hag hk).val.wp hn
  case buildSlice => exact (val_buildSlice hag hk).wp hn
  case load => exact (val_load hag hk).val.wp hn
  case store => exact store_wp hag hk hn
  case nilCheck => exact (val_nilCheck hag hk).val.wp hn
  case binOp => exact (val_binOp hag hk).val.wp hn
  case unOp => exact (val_unOp hag hk).val.wp hn
  case convert => exact (val_convert hag hk).wp hn
  case makeSlice => exact (val_makeSlice hag hk).wp hn
  case slice => exact (val_slice hag hk).val.wp hn
  case fieldAddr => exact (val_fieldAddr hag hk).val.wp hn
  case field => exact (val_field hag hk).val.wp hn
  case indexAddr => exact (val_indexAddr hag hk).val.wp hn
  case index => exact (val_index hag hk).val.wp hn
  case extract => exact (val_extract hag hk).val.wp hn
  case call => exact call_wp hc hag hk hn
  case makeMap t r =>
    cases r with
    | some x => exact hk.elim
    | none => exact (Val.of (v := .val (.map (some w.heap.size))) (w' := { w with heap := w.heap.push (.map #[] 0) }) (s := Instr.makeMap t none) rfl rfl ⟨rfl, rfl, rfl⟩ hk).wp hn
  case lookup => exact (val_lookup hag hk).val.wp hn
  case mapUpdate => exact mapUpdate_wp hag hk hn
  case makeInterface => exact (val_makeInterface hag hk).val.wp hn
  case makeFunc => exact (val_makeFunc hag hk).val.wp hn
  case typeAssert => exact (val_typeAssert hag hk).val.wp hn
  all_goals exact hk.elim

end
end Go.Fw
