/- The law: a server never grants too much, also over restarts. -/
import Derived.Test.YtckcdkhiehdkkaaTkGb
import Derived.Test.YtckcdkhiehdkkaaTkU
namespace Go.Proofs.Ytckcdkhiehdkkaa
open Go Go.Fw
set_option linter.unusedSimpArgs false
set_option linter.unusedVariables false

abbrev Ask := Int × Int × Rq × Bool
def askL (x : Ask) : List Value := iv x.1 :: iv x.2.1 :: (rqC x.2.2.1 ++ [.bool x.2.2.2])
theorem askL_len (x : Ask) : (askL x).length = 9 := rfl

theorem ldI_r {h : Heap} {b o : Nat} {k : IntKind} {n : Int} {K : Int → Prop} (hc : objCell o (obj h b) = some (.int k n)) (hk : K n) : ldI h b o k K := by rw [ldI_ev hc]; exact hk
theorem ldB_r {h : Heap} {b o : Nat} {n : Bool} {K : Bool → Prop} (hc : objCell o (obj h b) = some (.bool n)) (hk : K n) : ldB h b o K := by rw [ldB_ev hc]; exact hk
theorem ldS_r {h : Heap} {b o : Nat} {n : ByteArray} {K : ByteArray → Prop} (hc : objCell o (obj h b) = some (.string n)) (hk : K n) : ldS h b o K := by rw [ldS_ev hc]; exact hk
theorem both_r {p K : Prop} (h1 : p) (h2 : K) : bothP p K := by rw [bothP_ev]; exact ⟨h1, h2⟩
theorem need_r {p K : Prop} (h1 : p) (h2 : K) : need p K := ⟨h1, h2⟩

structure Gr (h0 : Heap) (sb : Nat) (ps : Sl) (got : List (Int × Int)) (T : Nat → Option Nat) (S : Srv) (hh : Heap) : Prop where
  srv : Server hh T sb S
  own : Own hh h0.size ps 2 (got.flatMap nL)
  sep : ∀ k, ps.blk = some k → T k = none
  ext : Ext h0 hh
  low : ∀ k, T k ≠ none → sz h0 ≤ k
theorem Gr.step {h0 hh hh' : Heap} {sb : Nat} {ps : Sl} {got : List (Int × Int)} {T T' : Nat → Option Nat} {S S' : Srv} (hG : Gr h0 sb ps got T S hh) (hS : Server hh' T' sb S') (st : Stp T T' hh hh') : Gr h0 sb ps got T' S' hh' := by
  refine ⟨hS, hG.own.congr fun b hb hlt _ => st.upd.old b hlt fun e => e (hG.sep b hb), fun k hk => st_no hG.srv st (hG.sep k hk) (hG.own.lt hk).2, hG.ext.then st.upd hG.low, fun k hk => ?_⟩
  rcases st.new k hk with h1 | h1
  · exact hG.low k h1
  · exact Nat.le_trans hG.ext.size h1
theorem Gr.more {h0 hh hh' : Heap} {sb : Nat} {ps : Sl} {got : List (Int × Int)} {T : Nat → Option Nat} {S : Srv} (hG : Gr h0 sb ps got T S hh) (he : Ext hh hh') : Gr h0 sb ps got T S hh' :=
  ⟨sv_ext hG.srv he, hG.own.congr fun b _ hlt _ => he.old b hlt, hG.sep, hG.ext.trans he, hG.low⟩
theorem Gr.put {h0 hh hh' : Heap} {sb ab : Nat} {ps : Sl} {got : List (Int × Int)} {T : Nat → Option Nat} {S : Srv} (hG : Gr h0 sb ps got T S hh) (hu : Upd (· = ab) hh hh') (h1 : sz h0 ≤ ab) (h2 : T ab = none) (h3 : ∀ k, ps.blk = some k → k ≠ ab) : Gr h0 sb ps got T S hh' :=
  ⟨sv_congr hG.srv hu.size fun k hk => by
      rcases Nat.lt_or_ge k hh.size with h9 | h9
      · exact hu.old k h9 fun e => by subst e; exact hk h2
      · exact (hk (sv_no hG.srv h9)).elim, hG.own.congr fun b hb hlt _ => hu.old b hlt (h3 b hb), hG.sep, hG.ext.then hu fun k hk => by subst hk; exact h1, hG.low⟩
theorem Held.rngs {rt ls : Int} {S : Srv} {got : List (Int × Int)} (h : Held rt ls S got) : ∀ x, x ∈ got → 0 ≤ x.1 ∧ x.1 ≤ 1152921504606846976 := fun x hx => by
  obtain ⟨w, old, l, h1, h2, h3, h4, h5, h6, h7⟩ := h.one
  have := h.times
  rw [h4] at hx
  rcases List.mem_append.1 hx with hx | hx
  · have := h5 x hx; omega
  · have := h6 x hx; omega
theorem gotN_of {S : Srv} {at_ conn : Int} {r : Rq} {got : List (Int × Int)} (h : ¬ ((doV S at_ conn r).1.2 = 0 ∧ (doV S at_ conn r).1.1.2.1 = 1 ∧ r.2.1 = 1)) : gotN S at_ conn r got = got := if_neg h
theorem req_len {r : Rq} (h : rightB r = true) : 1 ≤ (reqB r).length := by
  unfold reqB reqL
  rw [if_pos h]
  simp

theorem TopGranted_true {rate lease : Int} (hrt : 0 ≤ rate ∧ rate < 256) (hls : 0 ≤ lease ∧ lease < 256) {s : Sl} {l : List Ask} {h : Heap} (hrow : Row h s 9 (l.flatMap askL)) (hsz : ∀ x, x ∈ l → x.2.2.1.2.2.2.2.1.size < 9223372036854775808)
    {K : Bool → Heap → Prop} (hk : ∀ h', Ext h h' → K true h') : m_spillwaytop_TopGranted rate lease s K h := by
  have hrng : (0 ≤ rate ∧ rate ≤ 255) ∧ (0 ≤ lease ∧ lease ≤ 255) := by omega
  have hlen := rowLen askL_len hrow (by decide)
  have hbig := hrow.big
  have hcap := hrow.cap
  unfold m_spillwaytop_TopGranted g_spillwaytop_TopGranted
  have wr : IntKind.wrap .i64 rate = rate := wrap64 (by omega) (by omega)
  have wl : IntKind.wrap .i64 lease = lease := wrap64 (by omega) (by omega)
  rw [wr, wl]
  refine TNew_spec (fun hn => (hn ⟨by decide, by decide⟩).elim) fun _ h1 T1 sb hS1 e1 t1 => ?_
  rw [bindI_ev]
  refine iteP_false ?_
  rw [newC_ev]
  have e2 : Ext h1 (h1.push (.cells [iv 1, iv rate, iv 1, iv 0, iv 2, iv lease, iv 3, iv 2000000].toArray 30 (0, 0))) := Ext.push _ _
  have r2 : Row (h1.push (.cells [iv 1, iv rate, iv 1, iv 0, iv 2, iv lease, iv 3, iv 2000000].toArray 30 (0, 0))) ⟨some ⟨sz h1, 0, none⟩, 2, 2⟩ 4 ([fR rate, fL lease].flatMap f4L) := (Own.newC (h := h1) (cells := [fR rate, fL lease].flatMap f4L) (t := 30) (size := 4) (n := 2) rfl (by decide)).row
  have z2 : sz (h1.push (.cells [iv 1, iv rate, iv 1, iv 0, iv 2, iv lease, iv 3, iv 2000000].toArray 30 (0, 0))) = sz h1 + 1 := sz_push
  generalize h1.push (.cells [iv 1, iv rate, iv 1, iv 0, iv 2, iv lease, iv 3, iv 2000000].toArray 30 (0, 0)) = h2 at e2 r2 z2 ⊢
  have hS2 := sv_ext hS1 e2
  refine Load_spec hS2 (name := nX) (by decide) rfl (by decide) r2 (show (2 : Nat) ≤ 1099511627776 by decide) (fun k hk => ?_) (fun f hf => ?_) (fun e h' he hn => (hn (g_ok hrng)).elim) fun _ h3 T3 hS3 st3 => ?_
  · have : k = sz h1 := by cases hk; rfl
    subst this
    exact ⟨sv_no hS1 (Nat.le_refl _), by omega⟩
  · simp only [List.mem_cons, List.not_mem_nil, or_false] at hf
    rcases hf with rfl | rfl
    · exact show (1 : Int) ≠ 2 by decide
    · exact show (3 : Int) ≠ 2 by decide
  change Server h3 T3 sb (gS rate lease) at hS3
  have e12 := e1.trans e2
  have hG3 : Gr h sb ⟨none, 0, 0⟩ [] T3 (gS rate lease) h3 := ⟨hS3, Own.nil _ _ _, (fun k hk => by cases hk), e12.then st3.upd t1, fun k hk => (st3.new k hk).elim (t1 k) fun h9 => Nat.le_trans e12.size h9⟩
  clear st3 hS3 hS2 r2 z2 e12 e2 hS1 e1 t1
  refine iteP_false ?_
  refine cutQ (fun _ hh => ∃ T S, Server hh T sb S ∧ S.spaces.length = 1 ∧ Ext h hh) ?_ ?_
  · rintro _ hh ⟨T, S, hS, hl, he⟩
    refine Namespaces_spec hS (by omega) fun t h' ho he' => ?_
    rw [bindB_ev]
    have hb : (((t.len : Nat) : Int) == 1) = true := by
      have := ho.row.len
      simp only [List.length_map, Nat.mul_one] at this
      have : t.len = 1 := by omega
      rw [this]; rfl
    rw [hb]
    exact hk _ (he.trans he')
  intro J6 hJ6
  rw [bindI_ev]
  refine loopQ (fun st hh => ∃ (ps : Sl) (i : Nat) (T : Nat → Option Nat) (S : Srv) (got : List (Int × Int)), st = (ps, (i : Int), ()) ∧ i ≤ l.length ∧ i ≤ 100 ∧ Gr h sb ps got T S hh ∧ Held rate lease S got ∧ got.length ≤ i) (fun st _ => (s.len - st.2.1).toNat)
    ⟨_, 0, T3, _, [], rfl, Nat.zero_le _, Nat.zero_le _, hG3, Held.begin hrng, Nat.le_refl _⟩ ?_
  clear hG3
  rintro _ hh ⟨ps, i, T, S, got, rfl, hi, hi1, hG, hH, hg⟩ J8 hJ8
  dsimp only
  have out : ∀ {T S hh} {ps : Sl} {got : List (Int × Int)}, Gr h sb ps got T S hh → Held rate lease S got → J6 () hh := fun hG hH => hJ6 _ _ ⟨_, _, hG.srv, by rw [hH.spaces]; rfl, hG.ext⟩
  refine iteP_dec (fun q => ?_) fun q => out hG hH
  refine iteP_dec (fun q1 => ?_) fun q1 => out hG hH
  clear out hJ6
  have hil : i < l.length := by omega
  have hgo : ∀ {hh : Heap} {T : Nat → Option Nat} {S : Srv} {ps : Sl} {got' : List (Int × Int)}, Gr h sb ps got' T S hh → Held rate lease S got' → got'.length ≤ i + 1 → J8 (ps, IntKind.wrap .i64 ((i : Int) + 1), ()) hh := fun hG hH hg' => by
    have e : IntKind.wrap .i64 ((i : Int) + 1) = ((i + 1 : Nat) : Int) := by rw [wrap64 (by omega) (by omega)]; rfl
    rw [e]
    exact hJ8 _ _ ⟨_, i + 1, _, _, _, rfl, by omega, by omega, hG, hH, hg'⟩ (by show (((s.len : Nat) : Int) - ((i + 1 : Nat) : Int)).toNat < (((s.len : Nat) : Int) - (i : Int)).toNat; omega)
  clear hJ8
  have hxs := hsz _ (List.getElem_mem hil)
  obtain ⟨b, o, _, hbl, hidx, hcell⟩ := elemR askL_len hrow (List.getElem?_eq_getElem hil) (by decide)
  generalize l[i] = x at hxs hcell
  obtain ⟨at_, conn, ⟨r1, r2, r3, r4, r5, r6, _⟩, rs⟩ := x
  dsimp only at hxs
  have cell : ∀ {hh : Heap} {j : Nat} {v : Value}, Ext h hh → (askL (at_, conn, (r1, r2, r3, r4, r5, r6, ()), rs))[j]? = some v → objCell (o + j) (obj hh b) = some v := fun he hj => by rw [ext_obj he hbl]; exact hcell _ _ hj
  have cell0 : ∀ {hh : Heap}, Ext h hh → objCell o (obj hh b) = some (iv at_) := fun he => cell he (j := 0) rfl
  have hat : ∀ {hh : Heap}, Ext h hh → ∀ {K : Int → Prop}, K at_ → idxA s.ptr s.len (i : Int) 9 fun b o => ldI hh b o .i64 K := fun he _ hK => hidx rfl (ldI_r (cell0 he) hK)
  -- a new beginning
  refine cutQ (fun _ hh => ∃ T S, Gr h sb ps got T S hh ∧ Held rate lease S got) ?_ ?_
  case refine_2 =>
    intro Q hQ
    refine hidx rfl (ldB_r (cell hG.ext (j := 8) rfl) ?_)
    refine ⟨fun _ => ?_, fun _ => hQ _ _ ⟨T, S, hG, hH⟩⟩
    refine hat hG.ext ?_
    exact Restart_spec hG.srv hH.ok hH.kinds (fun _ => hQ _ _ ⟨T, S, hG, hH⟩) fun q2 h' T' hS' st => hQ _ _ ⟨T', _, hG.step hS' st, hH.restart q2⟩
  clear hG hH
  rintro _ h19 ⟨T, S, hG, hH⟩
  refine hidx rfl (ldI_r (cell hG.ext (j := 1) rfl) ?_)
  refine which_spec fun k0 hk0 => ?_
  rw [bindI_ev]
  generalize IntKind.wrap .i64 (1 + k0) = kk
  -- a connection
  refine cutQ (fun _ hh => ∃ T S, Gr h sb ps got T S hh ∧ Held rate lease S got) ?_ ?_
  case refine_2 =>
    intro Q hQ
    refine Open_spec hG.srv fun h27 hS27 st27 => ?_
    have hG27 := hG.step hS27 st27
    have hH27 := hH.opened kk
    refine ⟨fun _ => ?_, fun _ => hQ _ _ ⟨T, _, hG27, hH27⟩⟩
    refine hat hG27.ext ?_
    refine Do_spec hG27.srv hH27.ok (r := (0, 5, 0, 0, nX, 0, ())) (by decide) fun h33 T33 hS33 st33 => hQ _ _ ⟨T33, _, hG27.step hS33 st33, ?_⟩
    have := (hH27.do at_ kk (0, 5, 0, 0, nX, 0, ())).1
    rw [gotN_of (fun e => absurd e.2.2 (show ¬ (5 : Int) = 1 by decide))] at this
    exact this
  clear hG hH
  rintro _ h35 ⟨T, S, hG, hH⟩
  -- the request
  refine hidx rfl (ldI_r (cell hG.ext (j := 2) rfl) (ldI_r (cell hG.ext (j := 3) rfl) (ldI_r (cell hG.ext (j := 4) rfl) (ldI_r (cell hG.ext (j := 5) rfl) (ldS_r (cell hG.ext (j := 6) rfl) (ldI_r (cell hG.ext (j := 7) rfl) ?_))))))
  rw [newC_ev, sts_ev (by simp (maxDischargeDepth := 60) only [newC_ev, newMap_ev, bindI_ev, bindB_ev, need_ev, bothP_ev, deref_ev, iteT_ev, iteF_ev, ldI_ex, ldB_ex, ldS_ex, ldP_ex, ldM_ex, ldV_ex, ldL_ex, st_ev, sts_ev, sz_push, sz_put, sz_puts, obj_push, obj_put, obj_puts, objSet_cells, objPuts_cells, objCell_cells, objFree_cells, freeN_cells, listPuts, heldL_nil, heldL_cons, size_def, slV_eq, sl_eta, one_int, one_bool, one_str, one_ptr, one_sl, one_slV, one_map, one_iface, one_nilI, one_fn, Ext.refl, ext_push, ext_put, ext_puts, Addr.mk.injEq, and_self, Option.map_some, Option.getD_some, Option.getD_none, Option.isSome_some, Option.isSome_none, Option.isNone_some, Option.isNone_none, List.all_cons, List.all_nil, Bool.and_self, Bool.true_and, Bool.and_true, List.length_cons, List.length_nil, List.set_cons_zero, List.set_cons_succ, List.getElem?_cons_zero, List.getElem?_cons_succ, List.getElem?_nil, Option.some.injEq, Value.int.injEq, Value.bool.injEq, Value.string.injEq, Value.pointer.injEq, Value.map.injEq, Prod.mk.injEq, true_and, and_true, exists_eq_left, exists_eq_left', if_true, if_false, decide_true, decide_false, decide_eq_true_eq, Bool.not_true, Bool.not_false, Nat.zero_add, Nat.add_zero, Nat.reduceAdd, Nat.reduceLT, Nat.reduceLeDiff, Nat.reduceEqDiff, Nat.reduceMul, Nat.add_assoc, Nat.add_left_cancel_iff, Nat.add_eq_left, Nat.left_eq_add, Nat.add_le_add_iff_left, Nat.le_add_right, Nat.le_refl, Nat.one_ne_zero, Nat.add_lt_add_iff_left, Nat.lt_add_right_iff_pos, Nat.add_lt_add_iff_left,  reduceCtorEq, beq_self_eq_true]) (by simp (maxDischargeDepth := 60) only [newC_ev, newMap_ev, bindI_ev, bindB_ev, need_ev, bothP_ev, deref_ev, iteT_ev, iteF_ev, ldI_ex, ldB_ex, ldS_ex, ldP_ex, ldM_ex, ldV_ex, ldL_ex, st_ev, sts_ev, sz_push, sz_put, sz_puts, obj_push, obj_put, obj_puts, objSet_cells, objPuts_cells, objCell_cells, objFree_cells, freeN_cells, listPuts, heldL_nil, heldL_cons, size_def, slV_eq, sl_eta, one_int, one_bool, one_str, one_ptr, one_sl, one_slV, one_map, one_iface, one_nilI, one_fn, Ext.refl, ext_push, ext_put, ext_puts, Addr.mk.injEq, and_self, Option.map_some, Option.getD_some, Option.getD_none, Option.isSome_some, Option.isSome_none, Option.isNone_some, Option.isNone_none, List.all_cons, List.all_nil, Bool.and_self, Bool.true_and, Bool.and_true, List.length_cons, List.length_nil, List.set_cons_zero, List.set_cons_succ, List.getElem?_cons_zero, List.getElem?_cons_succ, List.getElem?_nil, Option.some.injEq, Value.int.injEq, Value.bool.injEq, Value.string.injEq, Value.pointer.injEq, Value.map.injEq, Prod.mk.injEq, true_and, and_true, exists_eq_left, exists_eq_left', if_true, if_false, decide_true, decide_false, decide_eq_true_eq, Bool.not_true, Bool.not_false, Nat.zero_add, Nat.add_zero, Nat.reduceAdd, Nat.reduceLT, Nat.reduceLeDiff, Nat.reduceEqDiff, Nat.reduceMul, Nat.add_assoc, Nat.add_left_cancel_iff, Nat.add_eq_left, Nat.left_eq_add, Nat.add_le_add_iff_left, Nat.le_add_right, Nat.le_refl, Nat.one_ne_zero, Nat.add_lt_add_iff_left, Nat.lt_add_right_iff_pos, Nat.add_lt_add_iff_left,  reduceCtorEq, beq_self_eq_true])]
  have e46 : Ext h35 (Heap.puts (h35.push (.cells [iv 0, .int .u8 0, iv 0, iv 0, .string (ByteArray.mk #[]), iv 0].toArray 34 (0, 0))) (sz h35) 0 [iv r1, .int .u8 r2, iv r3, iv r4, .string r5, iv r6]) := ext_puts (ext_push (Ext.refl _)) (Nat.le_refl _)
  have c46 : obj (Heap.puts (h35.push (.cells [iv 0, .int .u8 0, iv 0, iv 0, .string (ByteArray.mk #[]), iv 0].toArray 34 (0, 0))) (sz h35) 0 [iv r1, .int .u8 r2, iv r3, iv r4, .string r5, iv r6]) (sz h35) = some (.cells [iv r1, .int .u8 r2, iv r3, iv r4, .string r5, iv r6].toArray 34 (0, 0)) := by simp (maxDischargeDepth := 60) only [newC_ev, newMap_ev, bindI_ev, bindB_ev, need_ev, bothP_ev, deref_ev, iteT_ev, iteF_ev, ldI_ex, ldB_ex, ldS_ex, ldP_ex, ldM_ex, ldV_ex, ldL_ex, st_ev, sts_ev, sz_push, sz_put, sz_puts, obj_push, obj_put, obj_puts, objSet_cells, objPuts_cells, objCell_cells, objFree_cells, freeN_cells, listPuts, heldL_nil, heldL_cons, size_def, slV_eq, sl_eta, one_int, one_bool, one_str, one_ptr, one_sl, one_slV, one_map, one_iface, one_nilI, one_fn, Ext.refl, ext_push, ext_put, ext_puts, Addr.mk.injEq, and_self, Option.map_some, Option.getD_some, Option.getD_none, Option.isSome_some, Option.isSome_none, Option.isNone_some, Option.isNone_none, List.all_cons, List.all_nil, Bool.and_self, Bool.true_and, Bool.and_true, List.length_cons, List.length_nil, List.set_cons_zero, List.set_cons_succ, List.getElem?_cons_zero, List.getElem?_cons_succ, List.getElem?_nil, Option.some.injEq, Value.int.injEq, Value.bool.injEq, Value.string.injEq, Value.pointer.injEq, Value.map.injEq, Prod.mk.injEq, true_and, and_true, exists_eq_left, exists_eq_left', if_true, if_false, decide_true, decide_false, decide_eq_true_eq, Bool.not_true, Bool.not_false, Nat.zero_add, Nat.add_zero, Nat.reduceAdd, Nat.reduceLT, Nat.reduceLeDiff, Nat.reduceEqDiff, Nat.reduceMul, Nat.add_assoc, Nat.add_left_cancel_iff, Nat.add_eq_left, Nat.left_eq_add, Nat.add_le_add_iff_left, Nat.le_add_right, Nat.le_refl, Nat.one_ne_zero, Nat.add_lt_add_iff_left, Nat.lt_add_right_iff_pos, Nat.add_lt_add_iff_left,  reduceCtorEq, beq_self_eq_true]
  generalize Heap.puts (h35.push (.cells [iv 0, .int .u8 0, iv 0, iv 0, .string (ByteArray.mk #[]), iv 0].toArray 34 (0, 0))) (sz h35) 0 [iv r1, .int .u8 r2, iv r3, iv r4, .string r5, iv r6] = h46 at e46 c46 ⊢
  have hbr : ∀ k, ps.blk = some k → k ≠ sz h35 := fun k hk e => by have := (hG.own.lt hk).2; rw [size_def] at this; omega
  have hTb : T (sz h35) = none := sv_no hG.srv (Nat.le_refl _)
  generalize sz h35 = rb at c46 hbr hTb ⊢
  have cr : ∀ {hh : Heap} {j : Nat} {v : Value}, obj hh rb = some (.cells [iv r1, .int .u8 r2, iv r3, iv r4, .string r5, iv r6].toArray 34 (0, 0)) → ([iv r1, .int .u8 r2, iv r3, iv r4, .string r5, iv r6] : List Value)[j]? = some v → objCell j (obj hh rb) = some v := fun h1 h2 => by rw [h1, objCell_cells]; exact h2
  refine ldI_r (cr c46 rfl) (ldI_r (cr c46 (j := 1) rfl) (ldI_r (cr c46 (j := 2) rfl) (ldI_r (cr c46 (j := 3) rfl) (ldS_r (cr c46 (j := 4) rfl) (ldI_r (cr c46 (j := 5) rfl) ?_)))))
  refine Request_spec (r := (r1, r2, r3, r4, r5, r6, ())) hxs fun ro h55 ho55 e55 => ?_
  have c55 := keepX c46 e55
  have hG55 := hG.more (e46.trans e55)
  have hro := ho55.row.len
  clear hG ho55 e46 c46
  rw [bindI_ev]
  have hD := hH.do at_ kk (r1, r2, r3, r4, r5, r6, ())
  -- the answer
  refine cutQ (fun st hh => ∃ ab T', st = (some ⟨ab, 0, none⟩, (doV S at_ kk (r1, r2, r3, r4, r5, r6, ())).1.2, ()) ∧ obj hh ab = some (.cells (anC (doV S at_ kk (r1, r2, r3, r4, r5, r6, ())).1.1).toArray 41 (0, 0)) ∧ obj hh rb = some (.cells [iv r1, .int .u8 r2, iv r3, iv r4, .string r5, iv r6].toArray 34 (0, 0)) ∧ Gr h sb ps got T' (doV S at_ kk (r1, r2, r3, r4, r5, r6, ())).2 hh) ?_ ?_
  case refine_2 =>
    intro Q hQ
    refine hidx rfl (ldI_r (cell0 hG55.ext) ?_)
    refine ldI_r (cr c55 rfl) (ldI_r (cr c55 (j := 1) rfl) (ldI_r (cr c55 (j := 2) rfl) (ldI_r (cr c55 (j := 3) rfl) (ldS_r (cr c55 (j := 4) rfl) (ldI_r (cr c55 (j := 5) rfl) ?_)))))
    refine both_r ?_ ?_
    · refine Do_spec hG55.srv hH.ok (r := (r1, r2, r3, r4, r5, r6, ())) hxs fun h68 T' hS' st' => ?_
      rw [newC_ev, sts_ev (by simp (maxDischargeDepth := 60) only [newC_ev, newMap_ev, bindI_ev, bindB_ev, need_ev, bothP_ev, deref_ev, iteT_ev, iteF_ev, ldI_ex, ldB_ex, ldS_ex, ldP_ex, ldM_ex, ldV_ex, ldL_ex, st_ev, sts_ev, sz_push, sz_put, sz_puts, obj_push, obj_put, obj_puts, objSet_cells, objPuts_cells, objCell_cells, objFree_cells, freeN_cells, listPuts, heldL_nil, heldL_cons, size_def, slV_eq, sl_eta, one_int, one_bool, one_str, one_ptr, one_sl, one_slV, one_map, one_iface, one_nilI, one_fn, Ext.refl, ext_push, ext_put, ext_puts, Addr.mk.injEq, and_self, Option.map_some, Option.getD_some, Option.getD_none, Option.isSome_some, Option.isSome_none, Option.isNone_some, Option.isNone_none, List.all_cons, List.all_nil, Bool.and_self, Bool.true_and, Bool.and_true, List.length_cons, List.length_nil, List.set_cons_zero, List.set_cons_succ, List.getElem?_cons_zero, List.getElem?_cons_succ, List.getElem?_nil, Option.some.injEq, Value.int.injEq, Value.bool.injEq, Value.string.injEq, Value.pointer.injEq, Value.map.injEq, Prod.mk.injEq, true_and, and_true, exists_eq_left, exists_eq_left', if_true, if_false, decide_true, decide_false, decide_eq_true_eq, Bool.not_true, Bool.not_false, Nat.zero_add, Nat.add_zero, Nat.reduceAdd, Nat.reduceLT, Nat.reduceLeDiff, Nat.reduceEqDiff, Nat.reduceMul, Nat.add_assoc, Nat.add_left_cancel_iff, Nat.add_eq_left, Nat.left_eq_add, Nat.add_le_add_iff_left, Nat.le_add_right, Nat.le_refl, Nat.one_ne_zero, Nat.add_lt_add_iff_left, Nat.lt_add_right_iff_pos, Nat.add_lt_add_iff_left,  reduceCtorEq, beq_self_eq_true]) (by simp (maxDischargeDepth := 60) only [newC_ev, newMap_ev, bindI_ev, bindB_ev, need_ev, bothP_ev, deref_ev, iteT_ev, iteF_ev, ldI_ex, ldB_ex, ldS_ex, ldP_ex, ldM_ex, ldV_ex, ldL_ex, st_ev, sts_ev, sz_push, sz_put, sz_puts, obj_push, obj_put, obj_puts, objSet_cells, objPuts_cells, objCell_cells, objFree_cells, freeN_cells, listPuts, heldL_nil, heldL_cons, size_def, slV_eq, sl_eta, one_int, one_bool, one_str, one_ptr, one_sl, one_slV, one_map, one_iface, one_nilI, one_fn, Ext.refl, ext_push, ext_put, ext_puts, Addr.mk.injEq, and_self, Option.map_some, Option.getD_some, Option.getD_none, Option.isSome_some, Option.isSome_none, Option.isNone_some, Option.isNone_none, List.all_cons, List.all_nil, Bool.and_self, Bool.true_and, Bool.and_true, List.length_cons, List.length_nil, List.set_cons_zero, List.set_cons_succ, List.getElem?_cons_zero, List.getElem?_cons_succ, List.getElem?_nil, Option.some.injEq, Value.int.injEq, Value.bool.injEq, Value.string.injEq, Value.pointer.injEq, Value.map.injEq, Prod.mk.injEq, true_and, and_true, exists_eq_left, exists_eq_left', if_true, if_false, decide_true, decide_false, decide_eq_true_eq, Bool.not_true, Bool.not_false, Nat.zero_add, Nat.add_zero, Nat.reduceAdd, Nat.reduceLT, Nat.reduceLeDiff, Nat.reduceEqDiff, Nat.reduceMul, Nat.add_assoc, Nat.add_left_cancel_iff, Nat.add_eq_left, Nat.left_eq_add, Nat.add_le_add_iff_left, Nat.le_add_right, Nat.le_refl, Nat.one_ne_zero, Nat.add_lt_add_iff_left, Nat.lt_add_right_iff_pos, Nat.add_lt_add_iff_left,  reduceCtorEq, beq_self_eq_true]), bindI_ev]
      have c68 := keepU c55 st'.upd (fun e => e hTb)
      have hG68 := hG55.step hS' st'
      generalize (doV S at_ kk (r1, r2, r3, r4, r5, r6, ())).1.1 = a at hQ ⊢
      have e71 : Ext h68 (Heap.puts (h68.push (.cells [iv 0, .int .u8 0, iv 0, iv 0, iv 0].toArray 41 (0, 0))) (sz h68) 0 (anC a)) := ext_puts (ext_push (Ext.refl _)) (Nat.le_refl _)
      have c71 : obj (Heap.puts (h68.push (.cells [iv 0, .int .u8 0, iv 0, iv 0, iv 0].toArray 41 (0, 0))) (sz h68) 0 (anC a)) (sz h68) = some (.cells (anC a).toArray 41 (0, 0)) := by simp (maxDischargeDepth := 60) only [newC_ev, newMap_ev, bindI_ev, bindB_ev, need_ev, bothP_ev, deref_ev, iteT_ev, iteF_ev, ldI_ex, ldB_ex, ldS_ex, ldP_ex, ldM_ex, ldV_ex, ldL_ex, st_ev, sts_ev, sz_push, sz_put, sz_puts, obj_push, obj_put, obj_puts, objSet_cells, objPuts_cells, objCell_cells, objFree_cells, freeN_cells, listPuts, heldL_nil, heldL_cons, size_def, slV_eq, sl_eta, one_int, one_bool, one_str, one_ptr, one_sl, one_slV, one_map, one_iface, one_nilI, one_fn, Ext.refl, ext_push, ext_put, ext_puts, Addr.mk.injEq, and_self, Option.map_some, Option.getD_some, Option.getD_none, Option.isSome_some, Option.isSome_none, Option.isNone_some, Option.isNone_none, List.all_cons, List.all_nil, Bool.and_self, Bool.true_and, Bool.and_true, List.length_cons, List.length_nil, List.set_cons_zero, List.set_cons_succ, List.getElem?_cons_zero, List.getElem?_cons_succ, List.getElem?_nil, Option.some.injEq, Value.int.injEq, Value.bool.injEq, Value.string.injEq, Value.pointer.injEq, Value.map.injEq, Prod.mk.injEq, true_and, and_true, exists_eq_left, exists_eq_left', if_true, if_false, decide_true, decide_false, decide_eq_true_eq, Bool.not_true, Bool.not_false, Nat.zero_add, Nat.add_zero, Nat.reduceAdd, Nat.reduceLT, Nat.reduceLeDiff, Nat.reduceEqDiff, Nat.reduceMul, Nat.add_assoc, Nat.add_left_cancel_iff, Nat.add_eq_left, Nat.left_eq_add, Nat.add_le_add_iff_left, Nat.le_add_right, Nat.le_refl, Nat.one_ne_zero, Nat.add_lt_add_iff_left, Nat.lt_add_right_iff_pos, Nat.add_lt_add_iff_left,  reduceCtorEq, beq_self_eq_true]
      exact hQ _ _ ⟨sz h68, T', rfl, c71, keepX c68 e71, hG68.more e71⟩
    · rw [newC_ev]
      have e73 : Ext h55 (h55.push (.cells [iv 0, .int .u8 0, iv 0, iv 0, iv 0].toArray 41 (0, 0))) := Ext.push _ _
      have c73 : obj (h55.push (.cells [iv 0, .int .u8 0, iv 0, iv 0, iv 0].toArray 41 (0, 0))) (sz h55) = some (.cells [iv 0, .int .u8 0, iv 0, iv 0, iv 0].toArray 41 (0, 0)) := by simp (maxDischargeDepth := 60) only [newC_ev, newMap_ev, bindI_ev, bindB_ev, need_ev, bothP_ev, deref_ev, iteT_ev, iteF_ev, ldI_ex, ldB_ex, ldS_ex, ldP_ex, ldM_ex, ldV_ex, ldL_ex, st_ev, sts_ev, sz_push, sz_put, sz_puts, obj_push, obj_put, obj_puts, objSet_cells, objPuts_cells, objCell_cells, objFree_cells, freeN_cells, listPuts, heldL_nil, heldL_cons, size_def, slV_eq, sl_eta, one_int, one_bool, one_str, one_ptr, one_sl, one_slV, one_map, one_iface, one_nilI, one_fn, Ext.refl, ext_push, ext_put, ext_puts, Addr.mk.injEq, and_self, Option.map_some, Option.getD_some, Option.getD_none, Option.isSome_some, Option.isSome_none, Option.isNone_some, Option.isNone_none, List.all_cons, List.all_nil, Bool.and_self, Bool.true_and, Bool.and_true, List.length_cons, List.length_nil, List.set_cons_zero, List.set_cons_succ, List.getElem?_cons_zero, List.getElem?_cons_succ, List.getElem?_nil, Option.some.injEq, Value.int.injEq, Value.bool.injEq, Value.string.injEq, Value.pointer.injEq, Value.map.injEq, Prod.mk.injEq, true_and, and_true, exists_eq_left, exists_eq_left', if_true, if_false, decide_true, decide_false, decide_eq_true_eq, Bool.not_true, Bool.not_false, Nat.zero_add, Nat.add_zero, Nat.reduceAdd, Nat.reduceLT, Nat.reduceLeDiff, Nat.reduceEqDiff, Nat.reduceMul, Nat.add_assoc, Nat.add_left_cancel_iff, Nat.add_eq_left, Nat.left_eq_add, Nat.add_le_add_iff_left, Nat.le_add_right, Nat.le_refl, Nat.one_ne_zero, Nat.add_lt_add_iff_left, Nat.lt_add_right_iff_pos, Nat.add_lt_add_iff_left,  reduceCtorEq, beq_self_eq_true]
      have tn : T (sz h55) = none := sv_no hG55.srv (Nat.le_refl _)
      have hpab : ∀ k, ps.blk = some k → k ≠ sz h55 := fun k hk e => by have := (hG55.own.lt hk).2; rw [size_def] at this; omega
      have hlab : sz h ≤ sz h55 := hG55.ext.size
      have hrab : rb ≠ sz h55 := Nat.ne_of_lt (obj_lt c55)
      generalize sz h55 = ab at c73 tn hpab hlab hrab ⊢
      generalize h55.push (.cells [iv 0, .int .u8 0, iv 0, iv 0, iv 0].toArray 41 (0, 0)) = h73 at e73 c73 ⊢
      have b73 := keepX c55 e73
      have hG73 := hG55.more e73
      refine need_r (by simp (maxDischargeDepth := 60) only [newC_ev, newMap_ev, bindI_ev, bindB_ev, need_ev, bothP_ev, deref_ev, iteT_ev, iteF_ev, ldI_ex, ldB_ex, ldS_ex, ldP_ex, ldM_ex, ldV_ex, ldL_ex, st_ev, sts_ev, sz_push, sz_put, sz_puts, obj_push, obj_put, obj_puts, objSet_cells, objPuts_cells, objCell_cells, objFree_cells, freeN_cells, listPuts, heldL_nil, heldL_cons, size_def, slV_eq, sl_eta, one_int, one_bool, one_str, one_ptr, one_sl, one_slV, one_map, one_iface, one_nilI, one_fn, Ext.refl, ext_push, ext_put, ext_puts, Addr.mk.injEq, and_self, Option.map_some, Option.getD_some, Option.getD_none, Option.isSome_some, Option.isSome_none, Option.isNone_some, Option.isNone_none, List.all_cons, List.all_nil, Bool.and_self, Bool.true_and, Bool.and_true, List.length_cons, List.length_nil, List.set_cons_zero, List.set_cons_succ, List.getElem?_cons_zero, List.getElem?_cons_succ, List.getElem?_nil, Option.some.injEq, Value.int.injEq, Value.bool.injEq, Value.string.injEq, Value.pointer.injEq, Value.map.injEq, Prod.mk.injEq, true_and, and_true, exists_eq_left, exists_eq_left', if_true, if_false, decide_true, decide_false, decide_eq_true_eq, Bool.not_true, Bool.not_false, Nat.zero_add, Nat.add_zero, Nat.reduceAdd, Nat.reduceLT, Nat.reduceLeDiff, Nat.reduceEqDiff, Nat.reduceMul, Nat.add_assoc, Nat.add_left_cancel_iff, Nat.add_eq_left, Nat.left_eq_add, Nat.add_le_add_iff_left, Nat.le_add_right, Nat.le_refl, Nat.one_ne_zero, Nat.add_lt_add_iff_left, Nat.lt_add_right_iff_pos, Nat.add_lt_add_iff_left,  reduceCtorEq, beq_self_eq_true, b73]) (need_r (by simp (maxDischargeDepth := 60) only [heldL_cons, heldL_nil, and_true]; exact cell0 hG73.ext) ?_)
      refine Do_spec hG73.srv hH.ok (r := (r1, r2, r3, r4, r5, r6, ())) hxs fun h76 T' hS' st' => ?_
      have b76 := keepU b73 st'.upd (fun e => e hTb)
      have c76 := keepU c73 st'.upd (fun e => e tn)
      have hG76 := hG73.step hS' st'
      have t76 : T' ab = none := st_no hG73.srv st' tn (obj_lt c73)
      generalize (doV S at_ kk (r1, r2, r3, r4, r5, r6, ())).1.1 = a at hQ ⊢
      rw [sts_ev (by rw [c76]; simp (maxDischargeDepth := 60) only [newC_ev, newMap_ev, bindI_ev, bindB_ev, need_ev, bothP_ev, deref_ev, iteT_ev, iteF_ev, ldI_ex, ldB_ex, ldS_ex, ldP_ex, ldM_ex, ldV_ex, ldL_ex, st_ev, sts_ev, sz_push, sz_put, sz_puts, obj_push, obj_put, obj_puts, objSet_cells, objPuts_cells, objCell_cells, objFree_cells, freeN_cells, listPuts, heldL_nil, heldL_cons, size_def, slV_eq, sl_eta, one_int, one_bool, one_str, one_ptr, one_sl, one_slV, one_map, one_iface, one_nilI, one_fn, Ext.refl, ext_push, ext_put, ext_puts, Addr.mk.injEq, and_self, Option.map_some, Option.getD_some, Option.getD_none, Option.isSome_some, Option.isSome_none, Option.isNone_some, Option.isNone_none, List.all_cons, List.all_nil, Bool.and_self, Bool.true_and, Bool.and_true, List.length_cons, List.length_nil, List.set_cons_zero, List.set_cons_succ, List.getElem?_cons_zero, List.getElem?_cons_succ, List.getElem?_nil, Option.some.injEq, Value.int.injEq, Value.bool.injEq, Value.string.injEq, Value.pointer.injEq, Value.map.injEq, Prod.mk.injEq, true_and, and_true, exists_eq_left, exists_eq_left', if_true, if_false, decide_true, decide_false, decide_eq_true_eq, Bool.not_true, Bool.not_false, Nat.zero_add, Nat.add_zero, Nat.reduceAdd, Nat.reduceLT, Nat.reduceLeDiff, Nat.reduceEqDiff, Nat.reduceMul, Nat.add_assoc, Nat.add_left_cancel_iff, Nat.add_eq_left, Nat.left_eq_add, Nat.add_le_add_iff_left, Nat.le_add_right, Nat.le_refl, Nat.one_ne_zero, Nat.add_lt_add_iff_left, Nat.lt_add_right_iff_pos, Nat.add_lt_add_iff_left,  reduceCtorEq, beq_self_eq_true]) (by simp (maxDischargeDepth := 60) only [newC_ev, newMap_ev, bindI_ev, bindB_ev, need_ev, bothP_ev, deref_ev, iteT_ev, iteF_ev, ldI_ex, ldB_ex, ldS_ex, ldP_ex, ldM_ex, ldV_ex, ldL_ex, st_ev, sts_ev, sz_push, sz_put, sz_puts, obj_push, obj_put, obj_puts, objSet_cells, objPuts_cells, objCell_cells, objFree_cells, freeN_cells, listPuts, heldL_nil, heldL_cons, size_def, slV_eq, sl_eta, one_int, one_bool, one_str, one_ptr, one_sl, one_slV, one_map, one_iface, one_nilI, one_fn, Ext.refl, ext_push, ext_put, ext_puts, Addr.mk.injEq, and_self, Option.map_some, Option.getD_some, Option.getD_none, Option.isSome_some, Option.isSome_none, Option.isNone_some, Option.isNone_none, List.all_cons, List.all_nil, Bool.and_self, Bool.true_and, Bool.and_true, List.length_cons, List.length_nil, List.set_cons_zero, List.set_cons_succ, List.getElem?_cons_zero, List.getElem?_cons_succ, List.getElem?_nil, Option.some.injEq, Value.int.injEq, Value.bool.injEq, Value.string.injEq, Value.pointer.injEq, Value.map.injEq, Prod.mk.injEq, true_and, and_true, exists_eq_left, exists_eq_left', if_true, if_false, decide_true, decide_false, decide_eq_true_eq, Bool.not_true, Bool.not_false, Nat.zero_add, Nat.add_zero, Nat.reduceAdd, Nat.reduceLT, Nat.reduceLeDiff, Nat.reduceEqDiff, Nat.reduceMul, Nat.add_assoc, Nat.add_left_cancel_iff, Nat.add_eq_left, Nat.left_eq_add, Nat.add_le_add_iff_left, Nat.le_add_right, Nat.le_refl, Nat.one_ne_zero, Nat.add_lt_add_iff_left, Nat.lt_add_right_iff_pos, Nat.add_lt_add_iff_left,  reduceCtorEq, beq_self_eq_true]), bindI_ev]
      have u77 : Upd (· = ab) h76 (Heap.puts h76 ab 0 (anC a)) := upd_puts (Upd.refl _ _) (.inr rfl)
      have c77 : obj (Heap.puts h76 ab 0 (anC a)) ab = some (.cells (anC a).toArray 41 (0, 0)) := by simp (maxDischargeDepth := 60) only [newC_ev, newMap_ev, bindI_ev, bindB_ev, need_ev, bothP_ev, deref_ev, iteT_ev, iteF_ev, ldI_ex, ldB_ex, ldS_ex, ldP_ex, ldM_ex, ldV_ex, ldL_ex, st_ev, sts_ev, sz_push, sz_put, sz_puts, obj_push, obj_put, obj_puts, objSet_cells, objPuts_cells, objCell_cells, objFree_cells, freeN_cells, listPuts, heldL_nil, heldL_cons, size_def, slV_eq, sl_eta, one_int, one_bool, one_str, one_ptr, one_sl, one_slV, one_map, one_iface, one_nilI, one_fn, Ext.refl, ext_push, ext_put, ext_puts, Addr.mk.injEq, and_self, Option.map_some, Option.getD_some, Option.getD_none, Option.isSome_some, Option.isSome_none, Option.isNone_some, Option.isNone_none, List.all_cons, List.all_nil, Bool.and_self, Bool.true_and, Bool.and_true, List.length_cons, List.length_nil, List.set_cons_zero, List.set_cons_succ, List.getElem?_cons_zero, List.getElem?_cons_succ, List.getElem?_nil, Option.some.injEq, Value.int.injEq, Value.bool.injEq, Value.string.injEq, Value.pointer.injEq, Value.map.injEq, Prod.mk.injEq, true_and, and_true, exists_eq_left, exists_eq_left', if_true, if_false, decide_true, decide_false, decide_eq_true_eq, Bool.not_true, Bool.not_false, Nat.zero_add, Nat.add_zero, Nat.reduceAdd, Nat.reduceLT, Nat.reduceLeDiff, Nat.reduceEqDiff, Nat.reduceMul, Nat.add_assoc, Nat.add_left_cancel_iff, Nat.add_eq_left, Nat.left_eq_add, Nat.add_le_add_iff_left, Nat.le_add_right, Nat.le_refl, Nat.one_ne_zero, Nat.add_lt_add_iff_left, Nat.lt_add_right_iff_pos, Nat.add_lt_add_iff_left,  reduceCtorEq, beq_self_eq_true, c76]
      exact hQ _ _ ⟨ab, T', rfl, c77, keepU b76 u77 hrab, hG76.put u77 hlab t76 hpab⟩
  clear hG55 c55 hTb
  rintro _ h81 ⟨ab, T', rfl, ca, cb, hG⟩
  dsimp only
  generalize hdv : doV S at_ kk (r1, r2, r3, r4, r5, r6, ()) = dv at hD ca hG ⊢
  have hgot : gotN S at_ kk (r1, r2, r3, r4, r5, r6, ()) got = if dv.1.2 = 0 ∧ dv.1.1.2.1 = 1 ∧ r2 = 1 then got ++ [(at_, r4)] else got := by subst hdv; rfl
  rw [hgot] at hD
  clear hdv hgot hH
  obtain ⟨⟨⟨a1, a2, a3, a4, a5, _⟩, er⟩, S'⟩ := dv
  dsimp only at hD hG ca ⊢
  obtain ⟨hH, hD⟩ := hD
  have ca1 : objCell 1 (obj h81 ab) = some (.int .u8 a2) := by rw [ca]; rfl
  refine ⟨fun e => ?_, fun e => ?_⟩
  · have e' : er ≠ 0 := by simpa using e
    rw [bindI_ev]
    rw [if_neg (fun h => e' h.1)] at hH
    exact hgo hG hH (by omega)
  have e' : er = 0 := by simpa using e
  subst e'
  have hSd := hD rfl
  clear hD e
  refine cutQ (fun _ hh => hh = h81) ?_ ?_
  case refine_2 =>
    intro Q hQ
    have hQ' := hQ () h81 rfl
    cases hr : rightB (r1, r2, r3, r4, r5, r6, ()) with
    | false =>
      refine iteP_true ?_
      rw [deref_ev, ldI_ev ca1]
      have h5 : a2 = 5 := hSd.bad hr
      refine iteP_neg (by rw [h5]; decide) (iteP_false hQ')
    | true =>
      refine iteP_false (iteP_true ?_)
      have hl1 := req_len hr
      simp only [List.length_map, Nat.mul_one] at hro
      refine iteP_neg ?_ hQ'
      simp only [beq_eq_false_iff_ne]
      omega
  rintro _ h88 rfl
  rw [deref_ev, Nat.zero_add, ldI_ev ca1]
  refine ⟨fun e => ?_, fun e => ?_⟩
  · have e' : a2 ≠ 1 := by simpa using e
    rw [bindI_ev]
    rw [if_neg (fun h => e' h.2.1)] at hH
    exact hgo hG hH (by omega)
  have e' : a2 = 1 := by simpa using e
  subst e'
  clear e
  refine ldI_r (cr cb (j := 1) rfl) ?_
  refine ⟨fun e => ?_, fun e => ?_⟩
  · have e' : r2 = 5 := by simpa using e
    rw [bindI_ev]
    rw [if_neg (fun h => by omega)] at hH
    exact hgo hG hH (by omega)
  clear e
  refine cutQ (fun st hh => ∃ ps' got', st = (ps', ()) ∧ Gr h sb ps' got' T' S' hh ∧ Held rate lease S' got' ∧ got'.length ≤ i + 1) ?_ ?_
  case refine_2 =>
    intro Q hQ
    refine ldI_r (cr cb (j := 1) rfl) ?_
    refine ⟨fun e => ?_, fun e => ?_⟩
    case refine_2 =>
      have e' : r2 ≠ 1 := by simpa using e
      rw [if_neg (fun h => e' h.2.2)] at hH
      exact hQ _ _ ⟨ps, got, rfl, hG, hH, by omega⟩
    have e' : r2 = 1 := by simpa using e
    rw [if_pos ⟨rfl, rfl, e'⟩] at hH
    refine hidx rfl (ldI_r (cell0 hG.ext) (ldI_r (cr cb (j := 3) rfl) ?_))
    rw [newC_ev]
    have e9 : Ext h88 (h88.push (.cells [iv at_, iv r4].toArray 48 (0, 0))) := Ext.push _ _
    have hrow9 : Row (h88.push (.cells [iv at_, iv r4].toArray 48 (0, 0))) ⟨some ⟨sz h88, 0, none⟩, 1, 1⟩ 2 [iv at_, iv r4] := (Own.newC (h := h88) (cells := [iv at_, iv r4]) (t := 48) (size := 2) (n := 1) rfl (by decide)).row
    generalize h88.push (.cells [iv at_, iv r4].toArray 48 (0, 0)) = h9 at e9 hrow9 ⊢
    have hG9 := hG.more e9
    have cb9 := keepX cb e9
    refine need_r (by simp only [heldL_cons, heldL_nil, and_true]; exact cr cb9 (j := 3) rfl) (need_r (by simp only [heldL_cons, heldL_nil, and_true]; exact cell0 hG9.ext) ?_)
    refine hrow9.rd ?_
    have hpl : ps.len = got.length := rowLen nL_len hG9.own.row (by decide)
    refine Own.app hG9.own rfl (by simp [one_int]) rfl (by omega) (by omega) hG9.ext.size fun t3 h10 ho10 hl10 u10 hb10 => ?_
    have hG10 : Gr h sb t3 (got ++ [(at_, r4)]) T' S' h10 := by
      refine ⟨sv_congr hG9.srv u10.size fun k hk => ?_, by rw [List.flatMap_append]; exact ho10, fun k hk => ?_, hG9.ext.then u10 fun k hk => (hG9.own.lt hk).1, hG.low⟩
      · rcases Nat.lt_or_ge k h9.size with h8 | h8
        · exact u10.old k h8 fun e => hk (hG9.sep k e)
        · exact (hk (sv_no hG9.srv h8)).elim
      · rcases hb10 with e8 | e8
        · rw [e8] at hk; exact hG9.sep k hk
        · rw [e8] at hk; cases hk; exact sv_no hG9.srv (Nat.le_refl _)
    have cb10 := keepU cb9 u10 fun e => hbr _ e rfl
    refine need_r (by simp only [heldL_cons, heldL_nil, and_true]; exact cr cb10 (j := 3) rfl) (need_r (by simp only [heldL_cons, heldL_nil, and_true]; exact cell0 hG10.ext) ?_)
    exact hQ _ _ ⟨t3, _, rfl, hG10, hH, by rw [List.length_append, List.length_singleton]; omega⟩
  clear hG hH hg ca cb ca1 hbr
  rintro _ h107 ⟨ps, got, rfl, hG, hH, hg⟩
  dsimp only
  rw [bindI_ev, bindI_ev]
  obtain ⟨t0, t1, t2⟩ := hH.times
  have hl := hSd.last
  have htm : 0 ≤ at_ ∧ at_ ≤ 1152921504606846976 := by omega
  have hnear : nearN at_ got ≤ rate := hH.near at_ (by omega)
  refine near_loop hG.own.row hH.pos htm hH.rngs hnear (by omega) (fun _ => hat hG.ext) fun _ => ?_
  dsimp only
  refine iteP_neg (decide_eq_false (by omega)) ?_
  refine hat hG.ext ?_
  have hlk : lookE S'.last at_ = 0 := by unfold lookE; rw [if_pos htm, if_neg (by omega)]
  have hol := hH.out.2.2
  refine Out_spec hG.srv (by omega) (fun e => (e hlk).elim) fun _ t h130 hr130 e130 => ?_
  rw [bindI_ev, bindI_ev, bindI_ev]
  have hst := hH.still hlk (o := aliveV at_ S'.out) (.inr (.inl rfl)) S'.conns
  have hsum : sumC (aliveV at_ S'.out) ≤ lease := hst.out.2.1
  refine sum_loop hr130 (fun x hx => (hst.out.1 x hx).2) hsum (by omega) fun _ => ?_
  dsimp only
  refine iteP_false (iteP_neg (decide_eq_false (by omega)) ?_)
  rw [bindI_ev]
  exact hgo (hG.more e130) hH hg
end Go.Proofs.Ytckcdkhiehdkkaa
