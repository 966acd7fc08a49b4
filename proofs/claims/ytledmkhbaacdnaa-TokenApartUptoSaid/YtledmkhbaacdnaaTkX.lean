/- The token server: Restart. -/
import Derived.Test.YtledmkhbaacdnaaTkT
namespace Go.Proofs.Ytledmkhbaacdnaa
open Go Go.Fw
set_option linter.unusedSimpArgs false
set_option linter.unusedVariables false

theorem EntV.uniq {es : Array MapEntry} {f g : Int → Option Value} (hf : EntV es f) (hg : EntV es g) : f = g := by
  funext k
  cases h : f k with
  | none =>
    cases h' : g k with
    | none => rfl
    | some v =>
      obtain ⟨e, hm, hk⟩ := hg.of k v h'
      have := hf.val hm hk
      rw [h] at this
      cases this
  | some v =>
    obtain ⟨e, hm, hk⟩ := hf.of k v h
    have h1 := hf.val hm hk
    have h2 := hg.val hm hk
    rw [h2, ← h1, h]
theorem MapV.uniq {h : Heap} {mb : Nat} {f g : Int → Option Value} {n m : Nat} (hf : MapV h mb f n) (hg : MapV h mb g m) : f = g ∧ n = m := by
  obtain ⟨es, c, hb, hs, hn, he⟩ := hf
  obtain ⟨es', c', hb', hs', hn', he'⟩ := hg
  rw [hb] at hb'
  cases hb'
  exact ⟨he.uniq he', by omega⟩

def Kinds (cs cs' : Int → Option Cnt) : Prop := ∀ id, (cs id).map Cnt.kind = (cs' id).map Cnt.kind
theorem Kinds.ksome {cs cs' : Int → Option Cnt} (h : Kinds cs cs') {id : Int} {c : Cnt} (hc : cs id = some c) : ∃ c', cs' id = some c' ∧ c'.kind = c.kind := by
  have := h id
  rw [hc] at this
  cases hx : cs' id with
  | none => rw [hx] at this; cases this
  | some c' => rw [hx] at this; exact ⟨c', rfl, (Option.some.inj this).symm⟩
theorem Kinds.knone {cs cs' : Int → Option Cnt} (h : Kinds cs cs') {id : Int} (hc : cs id = none) : cs' id = none := by
  have := h id
  rw [hc] at this
  cases hx : cs' id with
  | none => rfl
  | some c' => rw [hx] at this; cases this
theorem Kinds.put {cs cs' : Int → Option Cnt} (h : Kinds cs cs') {id : Int} {c d : Cnt} (hc : cs id = some c) (hd : d.kind = c.kind) : Kinds cs (fun i => if i = id then some d else cs' i) := fun i => by
  dsimp only
  split
  · rename_i e
    subst e
    rw [hc]
    show some c.kind = some d.kind
    rw [hd]
  · exact h i
def freshK (id k : Int) : Cnt := freshC (id, 0, k, 0, ())
def Srv.restarted (S : Srv) (at_ : Int) : Srv := { S with begun := at_, last := at_, conns := fun _ => none, nn := 0, out := [], counts := fun id => (S.counts id).map fun c => freshK id c.kind }
theorem freshK_kind {k : Int} (id : Int) (h : k = 1 ∨ k = 2 ∨ k = 3) : (freshK id k).kind = k := by
  rcases h with rfl | rfl | rfl <;> rfl
theorem kind_is (c : Cnt) : c.kind = 1 ∨ c.kind = 2 ∨ c.kind = 3 := by cases c <;> simp [Cnt.kind]
theorem freshC_kind' (f : F4) {k : Int} (h : k = 1 ∨ k = 2 ∨ k = 3) (hf : f.2.2.1 = k) : (freshC f).kind = k := by
  obtain ⟨f1, f2, f3, f4, _⟩ := f
  dsimp only at hf
  subst hf
  rcases h with rfl | rfl | rfl <;> rfl

theorem ldL_evS {h : Heap} {b o : Nat} {s : Sl} {K : Sl → Prop} (hc : objCell o (obj h b) = some (slV s)) : ldL h b o K = K s := by
  cases s
  exact ldL_ev hc
theorem Restart_spec {h : Heap} {T : Nat → Option Nat} {sb : Nat} {S : Srv} (hS : Server h T sb S) (hok : S.OK) {at_ : Int} {K : Int → Heap → Prop}
    (hk1 : lookE S.last at_ ≠ 0 → K (lookE S.last at_) h) (hk2 : lookE S.last at_ = 0 → ∀ h' T', Server h' T' sb (S.restarted at_) → Stp T T' h h' → K 0 h') : m_token_Server_Restart (some ⟨sb, 0, none⟩) at_ K h := by
  obtain ⟨cb, nb, sp, so, ls, hR⟩ := hS
  unfold m_token_Server_Restart g_token_Server_Restart
  rw [bindI_ev, look_ev hR.cells, bindI_ev]
  rcases Decidable.em (lookE S.last at_ = 0) with q | q
  case inr =>
    refine iteP_pos (by simpa using q) ?_
    exact hk1 q
  refine iteP_neg (by simpa using q) ?_
  have hk := hk2 q
  clear hk1 hk2
  -- the server's block and the connections
  refine deref_ (put2 hR.cells (by simp) one_int fun h1 c1 u1 z1 => ?_)
  refine deref_ (put2 c1 (by simp) one_int fun h2' c2 u2 z2 => ?_)
  have c2' : obj h2' sb = some (.cells [iv at_, iv at_, slV sp, .map (some cb), .map (some nb), slV so, iv S.next].toArray 60 (0, 0)) := c2
  have hR2 := hR.setB (b := at_) (l := at_) (n := S.next) (u1.trans u2) c2'
  refine deref_ ?_
  rw [ldM_ev (n := some nb) (by rw [c2']; rfl)]
  refine hR2.conns.clear fun h3 m3 u3 z3 => ?_
  have hR3 := hR2.setN (cs := fun _ => none) (n := 0) u3 m3
  refine deref_ (put2 hR3.cells (by simp) (by rfl) fun h4 c4 u4 z4 => ?_)
  have c4' : obj h4 sb = some (.cells [iv at_, iv at_, slV sp, .map (some cb), .map (some nb), slV ⟨none, 0, 0⟩, iv S.next].toArray 60 (0, 0)) := c4
  have hR4' := hR3.setO (so' := ⟨none, 0, 0⟩) (o := []) (n := S.next) (u4.mono fun k _ hk => .inl hk) c4' (Own.nil _ _ _) (fun k hk => by cases hk)
  have hTT : (fun k => if (⟨none, 0, 0⟩ : Sl).blk = some k then some 4 else T k) = T := by
    funext k
    exact if_neg (fun e => by cases e)
  rw [hTT] at hR4'
  have u14 : Upd (fun k => T k ≠ none) h h4 := by
    have a1 : ∀ k, k = sb → T k ≠ none := fun k hk => by subst hk; rw [hR.tsb]; exact fun e => by cases e
    have a2 : ∀ k, k = nb → T k ≠ none := fun k hk => by subst hk; rw [hR.tnb]; exact fun e => by cases e
    exact (((u1.mono fun k _ hk => a1 k hk).trans (u2.mono fun k _ hk => a1 k hk)).trans (u3.mono fun k _ hk => a2 k hk)).trans (u4.mono fun k _ hk => a1 k hk)
  generalize hS4 : ({ ({ ({ S with begun := at_, last := at_, next := S.next } : Srv) with conns := fun _ => none, nn := 0 } : Srv) with out := [], next := S.next } : Srv) = S4 at hR4'
  have hR4 : SrvR h4 T sb cb nb sp ⟨none, 0, 0⟩ ls S4 := hR4'
  have s4c : S4.counts = S.counts := by rw [← hS4]
  have s4n : S4.nc = S.nc := by rw [← hS4]
  have fin4 : S.restarted at_ = { S4 with counts := fun id => (S.counts id).map fun c => freshK id c.kind } := by rw [← hS4]; rfl
  refine deref_ (ldLk hR4.cells rfl ?_)
  -- each flow's counter begins anew
  have hnm : ls.map (fun x => (x.1, x.2.2)) = S.spaces := hR.names
  have memF : ∀ x, x ∈ ls → ∀ f, f ∈ x.2.2 → ∃ c, S.counts f.1 = some c ∧ c.kind = f.2.2.1 := fun x hx f hf => hok.cnt (x.1, x.2.2) (by rw [← hnm]; exact List.mem_map_of_mem hx) f hf
  have hrow0 := hR4.spaces.own.row
  have splen := rowLen spL_len hrow0 (by decide)
  have hb1 := hrow0.big
  have hb2 := hrow0.cap
  refine loopQ (fun st hh => ∃ (i : Nat) (T1 : Nat → Option Nat) (cs : Int → Option Cnt), st = ((i : Int), ()) ∧ i ≤ ls.length ∧ SrvR hh T1 sb cb nb sp ⟨none, 0, 0⟩ ls { S4 with counts := cs } ∧ Stp T T1 h hh ∧ Kinds S.counts cs)
    (fun st _ => (sp.len - st.1).toNat) ⟨0, T, S.counts, rfl, by omega, by rw [← s4c]; exact hR4, ⟨u14, fun _ h => .inl h⟩, fun _ => rfl⟩ ?_
  rintro _ hh ⟨i, T1, cs, rfl, hi, hRh, sth, hkd⟩ Q hQ
  dsimp only
  refine iteP_dec (fun q1 => ?_) fun q1 => ?_
  · obtain ⟨x, hx⟩ : ∃ x, ls[i]? = some x := ⟨_, List.getElem?_eq_getElem (by omega)⟩
    have hxm := List.mem_of_getElem? hx
    obtain ⟨b, o, hb, _, hidx, hcell⟩ := elemR spL_len hRh.spaces.own.row hx (by decide)
    have hrf := (hRh.spaces.rows x hxm).1
    have v0 := hcell 0 _ rfl
    have v1 := hcell 1 _ rfl
    simp only [Nat.add_zero] at v0
    refine hidx rfl ?_
    rw [ldS_ev v0, ldL_evS v1, newC_ev]
    rw [sts_ev (by simp (maxDischargeDepth := 60) only [evAll, listPuts, Addr.mk.injEq, Option.map_some, Option.getD_some, Option.getD_none, Option.isSome_some, Option.isSome_none, Option.isNone_some, Option.isNone_none, List.all_cons, List.all_nil, List.length_cons, List.length_nil, List.set_cons_zero, List.set_cons_succ, List.getElem?_cons_zero, List.getElem?_cons_succ, List.getElem?_nil, Option.some.injEq, Value.int.injEq, Value.bool.injEq, Value.string.injEq, Value.pointer.injEq, Value.map.injEq, Prod.mk.injEq, exists_eq_left, exists_eq_left', if_true, if_false, decide_true, decide_false, Nat.reduceAdd, Nat.reduceLT, Nat.reduceLeDiff, Nat.reduceEqDiff, Nat.reduceMul, reduceCtorEq, beq_self_eq_true]) (by simp (maxDischargeDepth := 60) only [evAll, listPuts, Addr.mk.injEq, Option.map_some, Option.getD_some, Option.getD_none, Option.isSome_some, Option.isSome_none, Option.isNone_some, Option.isNone_none, List.all_cons, List.all_nil, List.length_cons, List.length_nil, List.set_cons_zero, List.set_cons_succ, List.getElem?_cons_zero, List.getElem?_cons_succ, List.getElem?_nil, Option.some.injEq, Value.int.injEq, Value.bool.injEq, Value.string.injEq, Value.pointer.injEq, Value.map.injEq, Prod.mk.injEq, exists_eq_left, exists_eq_left', if_true, if_false, decide_true, decide_false, Nat.reduceAdd, Nat.reduceLT, Nat.reduceLeDiff, Nat.reduceEqDiff, Nat.reduceMul, reduceCtorEq, beq_self_eq_true])]
    have hlf := rowLen f4L_len hrf (by decide)
    have hb3 := hrf.big
    have hb4 := hrf.cap
    have e2 : Ext hh (Heap.puts (hh.push (.cells [.string (ByteArray.mk #[]), slV ⟨none, 0, 0⟩].toArray 69 (0, 0))) (sz hh) 0 [.string x.1, slV x.2.1]) := ext_puts (ext_push (Ext.refl _)) (Nat.le_refl _)
    have a2 : obj (Heap.puts (hh.push (.cells [.string (ByteArray.mk #[]), slV ⟨none, 0, 0⟩].toArray 69 (0, 0))) (sz hh) 0 [.string x.1, slV x.2.1]) (sz hh) = some (.cells [.string x.1, slV x.2.1].toArray 69 (0, 0)) := by simp (maxDischargeDepth := 60) only [evAll, listPuts, Addr.mk.injEq, Option.map_some, Option.getD_some, Option.getD_none, Option.isSome_some, Option.isSome_none, Option.isNone_some, Option.isNone_none, List.all_cons, List.all_nil, List.length_cons, List.length_nil, List.set_cons_zero, List.set_cons_succ, List.getElem?_cons_zero, List.getElem?_cons_succ, List.getElem?_nil, Option.some.injEq, Value.int.injEq, Value.bool.injEq, Value.string.injEq, Value.pointer.injEq, Value.map.injEq, Prod.mk.injEq, exists_eq_left, exists_eq_left', if_true, if_false, decide_true, decide_false, Nat.reduceAdd, Nat.reduceLT, Nat.reduceLeDiff, Nat.reduceEqDiff, Nat.reduceMul, reduceCtorEq, beq_self_eq_true]
    have a2' : objCell (0 + 1) (obj (Heap.puts (hh.push (.cells [.string (ByteArray.mk #[]), .slice none 0 0].toArray 69)) (sz hh) 0 [.string x.1, .slice x.2.1.ptr x.2.1.len x.2.1.cap]) (sz hh)) = some (slV x.2.1) := (congrArg (objCell (0 + 1)) a2).trans rfl
    rw [ldL_evS a2']
    change loopM _ _ (Heap.puts (hh.push (.cells [.string (ByteArray.mk #[]), slV ⟨none, 0, 0⟩].toArray 69 (0, 0))) (sz hh) 0 [.string x.1, slV x.2.1])
    generalize Heap.puts (hh.push (.cells [.string (ByteArray.mk #[]), slV ⟨none, 0, 0⟩].toArray 69 (0, 0))) (sz hh) 0 [.string x.1, slV x.2.1] = h5 at e2 a2 ⊢
    refine loopQ (fun st h6 => ∃ (k : Nat) (T2 : Nat → Option Nat) (cs2 : Int → Option Cnt), st = ((k : Int), ()) ∧ k ≤ x.2.2.length ∧ SrvR h6 T2 sb cb nb sp ⟨none, 0, 0⟩ ls { S4 with counts := cs2 } ∧ Stp T T2 h h6 ∧ Kinds S.counts cs2)
      (fun st _ => (x.2.1.len - st.1).toNat) ⟨0, T1, cs, rfl, by omega, hRh.ext e2, ⟨sth.upd.trans (e2.upd _), sth.new⟩, hkd⟩ ?_
    rintro _ h6 ⟨k, T2, cs2, rfl, hk2, hR6, st6, hkd6⟩ Q2 hQ2
    dsimp only
    refine iteP_dec (fun q2 => ?_) fun q2 => ?_
    · obtain ⟨f, hf⟩ : ∃ f, x.2.2[k]? = some f := ⟨_, List.getElem?_eq_getElem (by omega)⟩
      obtain ⟨b2, o2, _, _, hidx2, hcell2⟩ := elemR f4L_len (hR6.spaces.rows x hxm).1 hf (by decide)
      obtain ⟨c, hcc, hck⟩ := memF x hxm f (List.mem_of_getElem? hf)
      obtain ⟨c2, hcc2, hck2⟩ := hkd6.ksome hcc
      refine hidx2 rfl ?_
      have w0 := hcell2 0 _ rfl
      have w1 := hcell2 1 _ rfl
      have w2 := hcell2 2 _ rfl
      have w3 := hcell2 3 _ rfl
      simp only [Nat.add_zero] at w0
      have hwr : IntKind.wrap .i64 ((k : Int) + 1) = ((k + 1 : Nat) : Int) := by rw [wrap64 (by omega) (by omega)]; rfl
      obtain ⟨f1, f2, f3, f4, _⟩ := f
      have e7 : Ext h6 (Heap.puts (h6.push (.cells [iv 0, iv 0, iv 0, iv 0].toArray 53 (0, 0))) (sz h6) 0 [iv f1, iv f2, iv f3, iv f4]) := ext_puts (ext_push (Ext.refl _)) (Nat.le_refl _)
      have a7 : obj (Heap.puts (h6.push (.cells [iv 0, iv 0, iv 0, iv 0].toArray 53 (0, 0))) (sz h6) 0 [iv f1, iv f2, iv f3, iv f4]) (sz h6) = some (.cells [iv f1, iv f2, iv f3, iv f4].toArray 53 (0, 0)) := by simp (maxDischargeDepth := 60) only [evAll, listPuts, Addr.mk.injEq, Option.map_some, Option.getD_some, Option.getD_none, Option.isSome_some, Option.isSome_none, Option.isNone_some, Option.isNone_none, List.all_cons, List.all_nil, List.length_cons, List.length_nil, List.set_cons_zero, List.set_cons_succ, List.getElem?_cons_zero, List.getElem?_cons_succ, List.getElem?_nil, Option.some.injEq, Value.int.injEq, Value.bool.injEq, Value.string.injEq, Value.pointer.injEq, Value.map.injEq, Prod.mk.injEq, exists_eq_left, exists_eq_left', if_true, if_false, decide_true, decide_false, Nat.reduceAdd, Nat.reduceLT, Nat.reduceLeDiff, Nat.reduceEqDiff, Nat.reduceMul, reduceCtorEq, beq_self_eq_true]
      have c6 := hR6.cells
      have lc6 := obj_lt c6
      simp (maxDischargeDepth := 60) only [evAll, listPuts, Addr.mk.injEq, Option.map_some, Option.getD_some, Option.getD_none, Option.isSome_some, Option.isSome_none, Option.isNone_some, Option.isNone_none, List.all_cons, List.all_nil, List.length_cons, List.length_nil, List.set_cons_zero, List.set_cons_succ, List.getElem?_cons_zero, List.getElem?_cons_succ, List.getElem?_nil, Option.some.injEq, Value.int.injEq, Value.bool.injEq, Value.string.injEq, Value.pointer.injEq, Value.map.injEq, Prod.mk.injEq, exists_eq_left, exists_eq_left', if_true, if_false, decide_true, decide_false, Nat.reduceAdd, Nat.reduceLT, Nat.reduceLeDiff, Nat.reduceEqDiff, Nat.reduceMul, reduceCtorEq, beq_self_eq_true, w0, w1, w2, w3, c6, lt_ne0 lc6]
      generalize Heap.puts (h6.push (.cells [iv 0, iv 0, iv 0, iv 0].toArray 53 (0, 0))) (sz h6) 0 [iv f1, iv f2, iv f3, iv f4] = h7 at e7 a7 ⊢
      have hR7 := hR6.ext e7
      have hid : 1 ≤ f1 := by
        obtain ⟨g, _, _, g2⟩ := hR7.counts
        exact (g2 f1 c2 hcc2).1
      dsimp only at hck
      refine fresh_spec hR7.lt (f := (f1, f2, f3, f4, ())) fun v h8 T8 hc8 e8 hT8 hn8 hl8 => ?_
      have a8 := keepX a7 e8
      have hR8 := hR7.ext e8
      have c8 := hR8.cells
      simp (maxDischargeDepth := 60) only [evAll, listPuts, Addr.mk.injEq, Option.map_some, Option.getD_some, Option.getD_none, Option.isSome_some, Option.isSome_none, Option.isNone_some, Option.isNone_none, List.all_cons, List.all_nil, List.length_cons, List.length_nil, List.set_cons_zero, List.set_cons_succ, List.getElem?_cons_zero, List.getElem?_cons_succ, List.getElem?_nil, Option.some.injEq, Value.int.injEq, Value.bool.injEq, Value.string.injEq, Value.pointer.injEq, Value.map.injEq, Prod.mk.injEq, exists_eq_left, exists_eq_left', if_true, if_false, decide_true, decide_false, Nat.reduceAdd, Nat.reduceLT, Nat.reduceLeDiff, Nat.reduceEqDiff, Nat.reduceMul, reduceCtorEq, beq_self_eq_true, a8, c8, hc8.one]
      obtain ⟨g, hm, g1, g2⟩ := hR8.counts
      refine hm.put f1 _ fun h9 hm9 u9 z9 => ?_
      have hkf : (freshC (f1, f2, f3, f4, ())).kind = f3 := freshC_kind' _ (hck ▸ kind_is c) rfl
      have hg : (g f1).isSome = true := by obtain ⟨_, v', hv', _⟩ := g2 f1 c2 hcc2; rw [hv']; rfl
      rw [hg, if_pos rfl] at hm9
      have z9' : sz h9 = sz h8 := z9
      have hc9 : CntR h9 T8 f1 v (freshC (f1, f2, f3, f4, ())) := hc8.congr (fun _ _ h => h) fun k j _ hkk => by
        refine u9.old k (hl8 k (by rw [hkk]; exact fun e => by cases e)) fun e => ?_
        subst e
        rw [hT8 _ _ hR6.tcb] at hkk
        injection hkk with hkk
        unfold tg at hkk
        omega
      have hR9 := hR8.putC hid u9 hT8 (fun k hk => by rw [z9']; exact hl8 k hk) (by rw [hkf]; exact hm9) g1 g2 hc9
      refine hQ2 _ _ ⟨k + 1, T8, _, by rw [hwr], by omega, hR9, ?_, hkd6.put hcc (hkf.trans hck.symm)⟩ (by rw [hwr]; dsimp only; omega)
      have e78 := e7.trans e8
      refine ⟨(st6.upd.trans (e78.upd _)).trans (u9.mono fun k _ hk => by subst hk; rw [hR.tcb]; exact fun e => by cases e), fun k hk => ?_⟩
      rcases hn8 k hk with h9 | h9
      · exact st6.new k h9
      · right
        exact Nat.le_trans (Nat.le_trans st6.upd.size e7.size) h9
    · have hwr : IntKind.wrap .i64 ((i : Int) + 1) = ((i + 1 : Nat) : Int) := by rw [wrap64 (by omega) (by omega)]; rfl
      exact hQ _ _ ⟨i + 1, T2, cs2, by rw [hwr], by omega, hR6, st6, hkd6⟩ (by rw [hwr]; dsimp only; omega)
  -- all others, too
  refine deref_ ?_
  rw [ldM_ev (n := some cb) (by rw [hRh.cells]; rfl)]
  obtain ⟨g0, hm0, g01, g02⟩ := hRh.counts
  refine hm0.range fun h5 hr5 e5 z5 => ?_
  have hR5 := hRh.ext e5
  simp only [size_def] at hr5 z5 ⊢
  have itn : ∀ k, k < sz hh → k ≠ sz hh := fun k hk e => by omega
  refine loopQ (fun _ h6 => ∃ (T2 : Nat → Option Nat) (cs2 : Int → Option Cnt) (g : Int → Option Value) (rem : Int → Prop) (L : Nat), SrvR h6 T2 sb cb nb sp ⟨none, 0, 0⟩ ls { S4 with counts := cs2 } ∧ Stp T T2 h h6 ∧ Kinds S.counts cs2 ∧ RangeV h6 cb (sz hh) g S4.nc rem L ∧ T2 (sz hh) = none ∧
      ∀ id, ¬ rem id → ∀ c, S.counts id = some c → cs2 id = some (freshK id c.kind)) (fun _ h6 => leftH h6 cb (sz hh))
    ⟨T1, cs, g0, _, _, hR5, ⟨sth.upd.trans (e5.upd _), sth.new⟩, hkd, hr5, hRh.no (Nat.le_refl _), fun id hrem c hc => ?_⟩ ?_
  · exfalso
    apply hrem
    obtain ⟨c', hc', _⟩ := hkd.ksome hc
    obtain ⟨_, v, hv, _⟩ := g02 id c' hc'
    rw [hv]
    rfl
  rintro _ h6 ⟨T2, cs2, g, rem, L, hR6, st6, hkd6, hr6, ht6, hdone⟩ Q2 hQ2
  refine cutQ (fun s h7 => (s.1 = true ∧ ∃ k rem' L', rem' = (fun j => rem j ∧ j ≠ k) ∧ RangeAt h7 cb (sz hh) g S4.nc rem' L' k ∧ L' < L ∧ SrvR h7 T2 sb cb nb sp ⟨none, 0, 0⟩ ls { S4 with counts := cs2 } ∧ Stp T T2 h h7 ∧ (g k).isSome = true) ∨ (s.1 = false ∧ h7 = h6 ∧ ∀ k, ¬ rem k)) ?_ ?_
  · rintro ⟨b, _⟩ h7 (⟨hb, k, rem', L', hrem', hra, hL, hR7, st7, hgk⟩ | ⟨hb, rfl, hnone⟩)
    · simp only at hb
      subst hb
      refine iteP_true (hra.ent fun v hv => ⟨k, rfl, ?_⟩)
      obtain ⟨g', hm', g1', g2'⟩ := hR7.counts
      obtain ⟨rfl, _⟩ := hm'.uniq hra.go.map
      cases hck : cs2 k with
      | none => rw [g1' k hck] at hv; cases hv
      | some c =>
        obtain ⟨hid, w, hw, hwr⟩ := g2' k c hck
        rw [hv] at hw
        cases hw
        refine ⟨(w, c.kind, ()), rfl, ?_⟩
        have c7 := hR7.cells
        have lc7 := obj_lt c7
        have e8 : Ext h7 (Heap.puts (h7.push (.cells [.nilIface, iv 0].toArray 74 (0, 0))) (sz h7) 0 [w, iv c.kind]) := ext_puts (ext_push (Ext.refl _)) (Nat.le_refl _)
        have a8 : obj (Heap.puts (h7.push (.cells [.nilIface, iv 0].toArray 74 (0, 0))) (sz h7) 0 [w, iv c.kind]) (sz h7) = some (.cells [w, iv c.kind].toArray 74 (0, 0)) := by simp (maxDischargeDepth := 60) only [evAll, listPuts, Addr.mk.injEq, Option.map_some, Option.getD_some, Option.getD_none, Option.isSome_some, Option.isSome_none, Option.isNone_some, Option.isNone_none, List.all_cons, List.all_nil, List.length_cons, List.length_nil, List.set_cons_zero, List.set_cons_succ, List.getElem?_cons_zero, List.getElem?_cons_succ, List.getElem?_nil, Option.some.injEq, Value.int.injEq, Value.bool.injEq, Value.string.injEq, Value.pointer.injEq, Value.map.injEq, Prod.mk.injEq, exists_eq_left, exists_eq_left', if_true, if_false, decide_true, decide_false, Nat.reduceAdd, Nat.reduceLT, Nat.reduceLeDiff, Nat.reduceEqDiff, Nat.reduceMul, reduceCtorEq, beq_self_eq_true]
        simp (maxDischargeDepth := 60) only [evAll, listPuts, Addr.mk.injEq, Option.map_some, Option.getD_some, Option.getD_none, Option.isSome_some, Option.isSome_none, Option.isNone_some, Option.isNone_none, List.all_cons, List.all_nil, List.length_cons, List.length_nil, List.set_cons_zero, List.set_cons_succ, List.getElem?_cons_zero, List.getElem?_cons_succ, List.getElem?_nil, Option.some.injEq, Value.int.injEq, Value.bool.injEq, Value.string.injEq, Value.pointer.injEq, Value.map.injEq, Prod.mk.injEq, exists_eq_left, exists_eq_left', if_true, if_false, decide_true, decide_false, Nat.reduceAdd, Nat.reduceLT, Nat.reduceLeDiff, Nat.reduceEqDiff, Nat.reduceMul, reduceCtorEq, beq_self_eq_true, hwr.one, c7, lt_ne0 lc7]
        generalize Heap.puts (h7.push (.cells [.nilIface, iv 0].toArray 74 (0, 0))) (sz h7) 0 [w, iv c.kind] = h8 at e8 a8 ⊢
        have hR8 := hR7.ext e8
        obtain ⟨c0, hc0, hk0⟩ : ∃ c0, S.counts k = some c0 ∧ c0.kind = c.kind := by
          have := hkd6 k
          rw [hck] at this
          cases hx : S.counts k with
          | none => rw [hx] at this; cases this
          | some c0 => rw [hx] at this; exact ⟨c0, rfl, Option.some.inj this⟩
        refine fresh_spec hR8.lt (f := (k, 0, c.kind, 0, ())) fun v9 h9 T9 hc9 e9 hT9 hn9 hl9 => ?_
        have a9 := keepX a8 e9
        have hR9 := hR8.ext e9
        have c9 := hR9.cells
        simp (maxDischargeDepth := 60) only [evAll, listPuts, Addr.mk.injEq, Option.map_some, Option.getD_some, Option.getD_none, Option.isSome_some, Option.isSome_none, Option.isNone_some, Option.isNone_none, List.all_cons, List.all_nil, List.length_cons, List.length_nil, List.set_cons_zero, List.set_cons_succ, List.getElem?_cons_zero, List.getElem?_cons_succ, List.getElem?_nil, Option.some.injEq, Value.int.injEq, Value.bool.injEq, Value.string.injEq, Value.pointer.injEq, Value.map.injEq, Prod.mk.injEq, exists_eq_left, exists_eq_left', if_true, if_false, decide_true, decide_false, Nat.reduceAdd, Nat.reduceLT, Nat.reduceLeDiff, Nat.reduceEqDiff, Nat.reduceMul, reduceCtorEq, beq_self_eq_true, a9, c9, hc9.one]
        have e79 := e8.trans e9
        obtain ⟨hl1, hl2, hl3⟩ := hra.go.lt
        have hra9 := hra.congr (h' := h9) (e79.old cb hl1) (e79.old (sz hh) hl2)
        refine hra9.put _ fun h10 hr10 u10 z10 => ?_
        have z10' : sz h10 = sz h9 := z10
        obtain ⟨g9, hm9, g91, g92⟩ := hR9.counts
        obtain ⟨rfl, _⟩ := hm9.uniq hra9.go.map
        have hkf : (freshK k c.kind).kind = c.kind := freshK_kind _ (kind_is c)
        have hc10 : CntR h10 T9 k v9 (freshK k c.kind) := CntR.congr (c := freshK k c.kind) hc9 (fun _ _ h => h) fun q j _ hkk => by
          refine u10.old q (hl9 q (by rw [hkk]; exact fun e => by cases e)) fun e => ?_
          subst e
          rw [hT9 _ _ hR7.tcb] at hkk
          injection hkk with hkk
          unfold tg at hkk
          omega
        have hR10 := hR9.putC (c := freshK k c.kind) hid u10 hT9 (fun q hq => by rw [z10']; exact hl9 q hq) (by rw [hkf]; exact hr10.map) g91 g92 hc10
        have st10 : Stp T T9 h h10 := by
          refine ⟨(st7.upd.trans (e79.upd _)).trans (u10.mono fun q _ hq => by subst hq; rw [hR.tcb]; exact fun e => by cases e), fun q hq => ?_⟩
          rcases hn9 q hq with h11 | h11
          · exact st7.new q h11
          · right
            exact Nat.le_trans (Nat.le_trans st7.upd.size e8.size) h11
        refine hQ2 _ _ ⟨T9, _, _, rem', L', hR10, st10, hkd6.put hc0 (hkf.trans hk0.symm), hr10, ?_, fun id hrem c' hc' => ?_⟩ (by rw [leftH_eq hr10, leftH_eq hr6]; exact hL)
        · cases h11 : T9 (sz hh) with
          | none => rfl
          | some t =>
            rcases hn9 (sz hh) (by rw [h11]; exact fun e => by cases e) with h12 | h12
            · exact (h12 ht6).elim
            · have h13 : sz h7 ≤ sz h8 := e8.size
              have h14 : sz hh < sz h7 := hl2
              omega
        · dsimp only
          split
          · rename_i e
            subst e
            rw [hc0] at hc'
            cases hc'
            rw [hk0]
          · rename_i hne
            refine hdone id (fun h11 => hrem ?_) c' hc'
            rw [hrem']
            exact ⟨h11, hne⟩
    · simp only at hb
      subst hb
      refine iteP_false ?_
      rw [bindI_ev]
      refine hk h7 T2 ⟨cb, nb, sp, ⟨none, 0, 0⟩, ls, ?_⟩ st6
      rw [fin4]
      have : cs2 = fun id => (S.counts id).map fun c => freshK id c.kind := by
        funext id
        cases hx : S.counts id with
        | none => exact hkd6.knone hx
        | some c => exact hdone id (hnone id) c hx
      rw [← this]
      exact hR6
  · intro Q3 hQ3
    refine hr6.next (fun hn => hQ3 _ _ (.inr ⟨rfl, rfl, hn⟩)) fun k v h7 L' hkr hv hra hL u7 z7 => hQ3 _ _ (.inl ⟨rfl, k, _, L', rfl, hra, hL, ?_, ?_, by rw [hv]; rfl⟩)
    · refine hR6.congr u7.size fun q hq => u7.old q (hR6.lt q hq) fun e => ?_
      subst e
      exact hq ht6
    · refine ⟨⟨Nat.le_trans st6.upd.size u7.size, fun q hq hn => ?_⟩, st6.new⟩
      have hqq : q < sz h := hq
      rw [u7.old q (Nat.lt_of_lt_of_le hq st6.upd.size) (fun e => ?_), st6.upd.old q hq hn]
      have := ext_sz e5
      have h11 : sz h ≤ sz hh := sth.upd.size
      omega
end Go.Proofs.Ytledmkhbaacdnaa
