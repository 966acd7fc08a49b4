/- The law TokenApart in memory. -/
import Derived.Test.YtledmkhbaacdnaaTkPb
namespace Go.Proofs.Ytledmkhbaacdnaa
open Go Go.Fw
set_option linter.unusedSimpArgs false
set_option linter.unusedVariables false

theorem an_ev {h : Heap} {K : Nat → Heap → Prop} {a : An} {t : TypeId} (hk : ∀ h', obj h' (sz h) = some (.cells (anC a).toArray t (0, 0)) → Ext h h' → sz h' = sz h + 1 → K (sz h) h') :
    newC h [Value.int .i64 0, Value.int .u8 0, Value.int .i64 0, Value.int .i64 0, Value.int .i64 0] t fun b h1 => sts h1 b 0 [Value.int .i64 a.1, Value.int .u8 a.2.1, Value.int .i64 a.2.2.1, Value.int .i64 a.2.2.2.1, Value.int .i64 a.2.2.2.2.1] fun h2 => K b h2 := by
  rw [newC_ev, sts_ev (by simp (maxDischargeDepth := 60) only [evAll, listPuts, Addr.mk.injEq, Option.map_some, Option.getD_some, Option.getD_none, Option.isSome_some, Option.isSome_none, Option.isNone_some, Option.isNone_none, List.all_cons, List.all_nil, List.length_cons, List.length_nil, List.set_cons_zero, List.set_cons_succ, List.getElem?_cons_zero, List.getElem?_cons_succ, List.getElem?_nil, Option.some.injEq, Value.int.injEq, Value.bool.injEq, Value.string.injEq, Value.pointer.injEq, Value.map.injEq, Prod.mk.injEq, exists_eq_left, exists_eq_left', if_true, if_false, decide_true, decide_false, Nat.reduceAdd, Nat.reduceLT, Nat.reduceLeDiff, Nat.reduceEqDiff, Nat.reduceMul, reduceCtorEq, beq_self_eq_true]) (by simp (maxDischargeDepth := 60) only [evAll, listPuts, Addr.mk.injEq, Option.map_some, Option.getD_some, Option.getD_none, Option.isSome_some, Option.isSome_none, Option.isNone_some, Option.isNone_none, List.all_cons, List.all_nil, List.length_cons, List.length_nil, List.set_cons_zero, List.set_cons_succ, List.getElem?_cons_zero, List.getElem?_cons_succ, List.getElem?_nil, Option.some.injEq, Value.int.injEq, Value.bool.injEq, Value.string.injEq, Value.pointer.injEq, Value.map.injEq, Prod.mk.injEq, exists_eq_left, exists_eq_left', if_true, if_false, decide_true, decide_false, Nat.reduceAdd, Nat.reduceLT, Nat.reduceLeDiff, Nat.reduceEqDiff, Nat.reduceMul, reduceCtorEq, beq_self_eq_true])]
  refine hk _ ?_ (ext_puts (ext_push (Ext.refl _)) (Nat.le_refl _)) (by rw [sz_puts, sz_push])
  simp (maxDischargeDepth := 60) only [evAll, listPuts, Addr.mk.injEq, Option.map_some, Option.getD_some, Option.getD_none, Option.isSome_some, Option.isSome_none, Option.isNone_some, Option.isNone_none, List.all_cons, List.all_nil, List.length_cons, List.length_nil, List.set_cons_zero, List.set_cons_succ, List.getElem?_cons_zero, List.getElem?_cons_succ, List.getElem?_nil, Option.some.injEq, Value.int.injEq, Value.bool.injEq, Value.string.injEq, Value.pointer.injEq, Value.map.injEq, Prod.mk.injEq, exists_eq_left, exists_eq_left', if_true, if_false, decide_true, decide_false, Nat.reduceAdd, Nat.reduceLT, Nat.reduceLeDiff, Nat.reduceEqDiff, Nat.reduceMul, reduceCtorEq, beq_self_eq_true]
theorem deed_ev {h : Heap} {K : Nat → Heap → Prop} {d : Dd} {t : TypeId} (hk : ∀ h', obj h' (sz h) = some (.cells (dL d).toArray t (0, 0)) → Ext h h' → K (sz h) h') :
    newC h [Value.int .i64 0, Value.int .i64 0, Value.int .i64 0, Value.int .i64 0, Value.int .u8 0, Value.int .i64 0, Value.int .i64 0, Value.string (ByteArray.mk #[]), Value.int .i64 0, Value.string (ByteArray.mk #[]), Value.slice none 0 0] t fun b h1 => sts h1 b 0 [Value.int .i64 d.1, Value.int .i64 d.2.1, Value.int .i64 d.2.2.1, Value.int .i64 d.2.2.2.1.1, Value.int .u8 d.2.2.2.1.2.1, Value.int .i64 d.2.2.2.1.2.2.1, Value.int .i64 d.2.2.2.1.2.2.2.1, Value.string d.2.2.2.1.2.2.2.2.1, Value.int .i64 d.2.2.2.1.2.2.2.2.2.1, Value.string d.2.2.2.2.1, Value.slice d.2.2.2.2.2.ptr d.2.2.2.2.2.len d.2.2.2.2.2.cap] fun h2 => K b h2 := by
  rw [newC_ev, sts_ev (by simp (maxDischargeDepth := 60) only [evAll, listPuts, Addr.mk.injEq, Option.map_some, Option.getD_some, Option.getD_none, Option.isSome_some, Option.isSome_none, Option.isNone_some, Option.isNone_none, List.all_cons, List.all_nil, List.length_cons, List.length_nil, List.set_cons_zero, List.set_cons_succ, List.getElem?_cons_zero, List.getElem?_cons_succ, List.getElem?_nil, Option.some.injEq, Value.int.injEq, Value.bool.injEq, Value.string.injEq, Value.pointer.injEq, Value.map.injEq, Prod.mk.injEq, exists_eq_left, exists_eq_left', if_true, if_false, decide_true, decide_false, Nat.reduceAdd, Nat.reduceLT, Nat.reduceLeDiff, Nat.reduceEqDiff, Nat.reduceMul, reduceCtorEq, beq_self_eq_true]) (by simp (maxDischargeDepth := 60) only [evAll, listPuts, Addr.mk.injEq, Option.map_some, Option.getD_some, Option.getD_none, Option.isSome_some, Option.isSome_none, Option.isNone_some, Option.isNone_none, List.all_cons, List.all_nil, List.length_cons, List.length_nil, List.set_cons_zero, List.set_cons_succ, List.getElem?_cons_zero, List.getElem?_cons_succ, List.getElem?_nil, Option.some.injEq, Value.int.injEq, Value.bool.injEq, Value.string.injEq, Value.pointer.injEq, Value.map.injEq, Prod.mk.injEq, exists_eq_left, exists_eq_left', if_true, if_false, decide_true, decide_false, Nat.reduceAdd, Nat.reduceLT, Nat.reduceLeDiff, Nat.reduceEqDiff, Nat.reduceMul, reduceCtorEq, beq_self_eq_true])]
  refine hk _ ?_ (ext_puts (ext_push (Ext.refl _)) (Nat.le_refl _))
  simp (maxDischargeDepth := 60) only [evAll, listPuts, Addr.mk.injEq, Option.map_some, Option.getD_some, Option.getD_none, Option.isSome_some, Option.isSome_none, Option.isNone_some, Option.isNone_none, List.all_cons, List.all_nil, List.length_cons, List.length_nil, List.set_cons_zero, List.set_cons_succ, List.getElem?_cons_zero, List.getElem?_cons_succ, List.getElem?_nil, Option.some.injEq, Value.int.injEq, Value.bool.injEq, Value.string.injEq, Value.pointer.injEq, Value.map.injEq, Prod.mk.injEq, exists_eq_left, exists_eq_left', if_true, if_false, decide_true, decide_false, Nat.reduceAdd, Nat.reduceLT, Nat.reduceLeDiff, Nat.reduceEqDiff, Nat.reduceMul, reduceCtorEq, beq_self_eq_true, dL]

theorem TokenApart_true {sa sb : Sl} {fa fb : List F4} {s : Sl} {l : List Dd} {h : Heap} (hra : Row h sa 4 (fa.flatMap f4L)) (hrb : Row h sb 4 (fb.flatMap f4L)) (hrow : Row h s 11 (l.flatMap dL) ∧ ∀ d, d ∈ l → d.2.2.2.1.2.2.2.2.1.size < 9223372036854775808) (hfa : fa.length ≤ 1048576) (hfb : fb.length ≤ 1048576) (hll : l.length ≤ 1048576)
    {K : Bool → Heap → Prop} (hk : ∀ h', Ext h h' → K true h') : m_spillwaylaw20_TokenApart sa sb s K h := by
  obtain ⟨hrow, hsz⟩ := hrow
  have hlen := rowLen dL_len hrow (by decide)
  have hbig := hrow.big
  have hcap := hrow.cap
  unfold m_spillwaylaw20_TokenApart g_spillwaylaw20_TokenApart
  have is0 : isT 0 := ⟨by decide, by decide⟩
  refine live_spec fun h1 e1 => iteP_false (TNew_spec (fun hn => (hn is0).elim) fun _ h4 T1 s1 hS1 e4 t1 => ?_)
  rw [bindI_ev]
  refine TNew_spec (fun hn => (hn is0).elim) fun _ h7 T2 s2 hS2 e7 t2 => ?_
  rw [bindI_ev]
  have e14 := e1.trans e4
  have tw : Tw h s1 s2 T1 T2 (newS 0) (newS 0) h7 := by
    refine ⟨sv_ext hS1 e7, hS2, fun k hk => ?_, e14.trans e7, fun k hk => Nat.le_trans e1.size (t1 k hk), fun k hk => Nat.le_trans e14.size (t2 k hk)⟩
    cases hx : T2 k with
    | none => rfl
    | some t =>
      have h9 := t2 k (by rw [hx]; exact fun e => by cases e)
      have := sv_lt hS1 hk
      omega
  clear hS1 hS2 t1 t2 e14 e7 e4 e1
  refine kinds_spec (hra.ext tw.ext) fun kb => ?_
  cases kb with
  | false => exact iteP_true (hk h7 tw.ext)
  | true =>
  refine iteP_false (kinds_spec (hrb.ext tw.ext) fun kb => ?_)
  cases kb with
  | false => exact iteP_true (hk h7 tw.ext)
  | true =>
  have z0 : (newS 0).spaces.length ≤ 1099511627776 := Nat.zero_le _
  have hasA : ∀ fl, hasV ((newS 0).loaded nA fl) nB = false := fun fl => by
    unfold hasV
    rw [loaded_facts.1]
    simp [newS, strE_ab]
  have spA : ∀ fl, ((newS 0).loaded nA fl).spaces.length ≤ 1099511627776 := fun fl => by
    rw [loaded_facts.1]
    show 1 ≤ 1099511627776
    decide
  refine iteP_false (flows_spec (hra.ext tw.ext) (by omega) fun t13 h14 ho14 e14 => ?_)
  have tw14 := tw.more e14
  refine Load_spec tw14.a (name := nA) (by decide) rfl z0 ho14.row (by omega) (fun k hk9 => ?_) (fun e h' he hn hx => ?_) fun ok1 h16 T1 hS16 st16 => ?_
  · have := ho14.lt hk9
    exact ⟨(tw.no this.1).1, this.2⟩
  · exact iteP_pos (by simpa using he) (hk h' (tw14.ext.trans hx))
  have tw16 := tw14.step1 hS16 st16
  refine iteP_false (flows_spec (hrb.ext tw16.ext) (by omega) fun t17 h18 ho18 e18 => ?_)
  have tw18 := tw16.more e18
  refine Load_spec tw18.a (name := nB) (by decide) (hasA fa) (spA fa) ho18.row (by omega) (fun k hk9 => ?_) (fun e h' he hn hx => ?_) fun ok2 h20 T1 hS20 st20 => ?_
  · have := ho18.lt hk9
    exact ⟨(tw16.no this.1).1, this.2⟩
  · exact iteP_pos (by simpa using he) (hk h' (tw18.ext.trans hx))
  have tw20 := tw18.step1 hS20 st20
  refine iteP_false (flows_spec (hra.ext tw20.ext) (by omega) fun t21 h22 ho22 e22 => ?_)
  have tw22 := tw20.more e22
  refine Load_spec tw22.b (name := nA) (by decide) rfl z0 ho22.row (by omega) (fun k hk9 => ?_) (fun e h' he hn hx => (hn ok1).elim) fun _ h24 T2 hS24 st24 => ?_
  · have := ho22.lt hk9
    exact ⟨(tw20.no this.1).2, this.2⟩
  have tw24 := tw22.step2 hS24 st24
  refine flows_spec (hrb.ext tw24.ext) (by omega) fun t25 h26 ho26 e26 => ?_
  have tw26 := tw24.more e26
  refine Load_spec tw26.b (name := nB) (by decide) (hasA fa) (spA fa) ho26.row (by omega) (fun k hk9 => ?_) (fun e h' he hn hx => (hn ok2).elim) fun _ h28 T2 hS28 st28 => ?_
  · have := ho26.lt hk9
    exact ⟨(tw24.no this.1).2, this.2⟩
  have tw28 : Tw h s1 s2 T1 T2 (apS fa fb) (apS fa fb) h28 := tw26.step2 hS28 st28
  clear tw tw14 tw16 tw18 tw20 tw22 tw24 tw26 st16 st20 st24 st28 hS16 hS20 hS24 hS28 ho14 ho18 ho22 ho26 e14 e18 e22 e26
  obtain ⟨o1, k0, o2, k1, k2, hap⟩ := Ap.begin ok1 ok2
  have k1' : (apS1 fa fb).OK := by
    have := k2
    have e : (apS1 fa fb).opened 2 = { apS1 fa fb with conns := fun i => if i = 2 then some (ByteArray.mk #[]) else (apS1 fa fb).conns i, nn := (apS1 fa fb).nn + 1 } := by unfold Srv.opened; rw [if_pos o2]
    rw [e] at this
    exact ⟨this.1, this.2⟩
  rw [bindI_ev]
  -- the two connections
  refine loopQ (fun st hh => ∃ T1 T2, (st = (1, ()) ∧ Tw h s1 s2 T1 T2 (apS fa fb) (apS fa fb) hh) ∨ (st = (2, ()) ∧ Tw h s1 s2 T1 T2 (apS1 fa fb) (apS1 fa fb) hh) ∨ (st = (3, ()) ∧ Tw h s1 s2 T1 T2 (apS2 fa fb) (apS2 fa fb) hh)) (fun st _ => (3 - st.1).toNat) ⟨_, _, .inl ⟨rfl, tw28⟩⟩ ?_
  clear tw28
  have one : ∀ {i : Int} {S : Srv} {ns : ByteArray} {T1 T2 : Nat → Option Nat} {hh : Heap} {R : Heap → Prop}, Tw h s1 s2 T1 T2 S S hh → (S.opened i).OK → ns.size < 9223372036854775808 → (∀ h' T1' T2', Tw h s1 s2 T1' T2' (doV (S.opened i) 0 i (hello ns)).2 (doV (S.opened i) 0 i (hello ns)).2 h' → R h') →
      m_token_Server_Open (some ⟨s1, 0, none⟩) i (fun t35 h36 => m_token_Server_Open (some ⟨s2, 0, none⟩) i (fun t37 h38 => m_token_Server_Do (some ⟨s1, 0, none⟩) 0 i (0, 5, 0, 0, ns, 0, ()) (fun t39 t40 h41 => m_token_Server_Do (some ⟨s2, 0, none⟩) 0 i (0, 5, 0, 0, ns, 0, ()) (fun t42 t43 h44 => R h44) h41) h38) h36) hh := fun tw hok hns hR => by
    refine Open_spec tw.a fun h36 hS36 st36 => Open_spec (tw.step1 hS36 st36).b fun h38 hS38 st38 => ?_
    refine ((tw.step1 hS36 st36).step2 hS38 st38).do1 hok hns fun h41 T1 tw41 _ => tw41.do2 hok hns fun h44 T2 tw44 _ => hR _ _ _ tw44
  rintro _ hh ⟨T1, T2, ⟨rfl, tw⟩ | ⟨rfl, tw⟩ | ⟨rfl, tw⟩⟩ J hJ
  · refine iteP_pos (by decide) (cutQ (fun st h9 => st = (nA, ()) ∧ h9 = hh) ?_ fun Q hQ => iteP_neg (by decide) (hQ _ _ ⟨rfl, rfl⟩))
    rintro _ _ ⟨rfl, rfl⟩
    refine one tw k1 (by decide) fun h' T1 T2 tw' => ?_
    rw [bindI_ev]
    exact hJ _ _ ⟨T1, T2, .inr (.inl ⟨rfl, tw'⟩)⟩ (by decide)
  · refine iteP_pos (by decide) (cutQ (fun st h9 => st = (nB, ()) ∧ h9 = hh) ?_ fun Q hQ => iteP_pos (by decide) (hQ _ _ ⟨rfl, rfl⟩))
    rintro _ _ ⟨rfl, rfl⟩
    refine one tw k2 (by decide) fun h' T1 T2 tw' => ?_
    rw [bindI_ev]
    exact hJ _ _ ⟨T1, T2, .inr (.inr ⟨rfl, tw'⟩)⟩ (by decide)
  refine iteP_neg (by decide) ?_
  rw [bindI_ev, bindI_ev]
  clear one hJ J
  -- the requests
  refine loopQ (fun st h9 => ∃ (n i : Nat) (T1 T2 : Nat → Option Nat) (W O : Srv), st = ((n : Int), (i : Int), ()) ∧ i ≤ l.length ∧ n < 1024 ∧ Tw h s1 s2 T1 T2 W O h9 ∧ Ap fa fb W O n) (fun st _ => (s.len - st.2.1).toNat) ⟨0, 0, T1, T2, _, _, rfl, Nat.zero_le _, by decide, tw, hap⟩ ?_
  clear tw hap T1 T2
  rintro _ h51 ⟨n, i, T1, T2, W, O, rfl, hi, hn, tw, hap⟩ J hJ
  dsimp only
  refine iteP_dec (fun q => ?_) fun q => hk h51 tw.ext
  have hil : i < l.length := by omega
  have hgo : ∀ {h9 : Heap} {T1 T2 : Nat → Option Nat} {W O : Srv} {m : Nat} {z : Int}, z = (m : Int) → m < 1024 → Tw h s1 s2 T1 T2 W O h9 → Ap fa fb W O m → J (z, IntKind.wrap .i64 ((i : Int) + 1), ()) h9 := fun hz hm tw hap => by
    subst hz
    rw [wrS (n := s.len) (by omega) (by omega)]
    exact hJ _ _ ⟨_, i + 1, _, _, _, _, rfl, by omega, hm, tw, hap⟩ (by show (((s.len : Nat) : Int) - ((i + 1 : Nat) : Int)).toNat < (((s.len : Nat) : Int) - (i : Int)).toNat; omega)
  clear hJ
  have hxs := hsz _ (List.getElem_mem hil)
  obtain ⟨b, o, _, hbl, hidx, hcell⟩ := elemR dL_len (hrow.ext tw.ext) (List.getElem?_eq_getElem hil) (by decide)
  generalize l[i] = d at hxs hcell
  have v0 := hcell 0 _ rfl
  rw [Nat.add_zero] at v0
  refine hidx rfl (rI v0 (rI (hcell 1 _ rfl) (rI (hcell 2 _ rfl) (rI (hcell 3 _ rfl) (rI (hcell 4 _ rfl) (rI (hcell 5 _ rfl) (rI (hcell 6 _ rfl) (rS (hcell 7 _ rfl) (rI (hcell 8 _ rfl) (rS (hcell 9 _ rfl) (rL (hcell 10 _ rfl) ?_)))))))))))
  refine deed_ev (d := d) fun h66 c66 e66 => ?_
  obtain ⟨dk, da, dc, ⟨r1, r2, r3, r4, r5, r6, _⟩, dsp, dfl⟩ := d
  dsimp only [dL] at c66 hxs
  have tw66 := tw.more e66
  have tb := tw.no (Nat.le_refl (sz h51))
  generalize sz h51 = db at c66 tb ⊢
  clear hcell hidx v0 hbl
  refine rI (cellR c66 rfl) ⟨fun _ => ?_, fun _ => ?_⟩
  · rw [bindI_ev]; exact hgo rfl hn tw66 hap
  refine rI (cellR c66 rfl) ⟨fun _ => ?_, fun q5 => ?_⟩
  · rw [bindI_ev]; exact hgo rfl hn tw66 hap
  refine rI (cellR c66 rfl) ⟨fun _ => ?_, fun q4 => ?_⟩
  · rw [bindI_ev]; exact hgo rfl hn tw66 hap
  have h5 : r2 ≠ 5 := by simpa using q5
  have h4 : r2 ≠ 4 := by simpa using q4
  refine rI (cellR c66 rfl) ⟨(W.last, ()), Last_ev tw66.a ⟨rfl, rfl⟩, ?_⟩
  dsimp only
  refine iteP_dec (fun _ => ?_) fun ql => ?_
  · rw [bindI_ev]; exact hgo rfl hn tw66 hap
  have hla : W.last ≤ da := by omega
  have keep1 : ∀ {ha hb : Heap} {T T' : Nat → Option Nat} {x : Obj} {k : Nat}, obj ha k = some x → Stp T T' ha hb → T k = none → obj hb k = some x := fun hc st ht => keepU hc st.upd fun e => e ht
  refine rI (cellR c66 rfl) ⟨fun _ => ?_, fun _ => ?_⟩
  · -- the other namespace's
    refine rI (cellR c66 rfl) (rI (cellR c66 rfl) (rI (cellR c66 rfl) (rI (cellR c66 rfl) (rI (cellR c66 rfl) (rS (cellR c66 rfl) (rI (cellR c66 rfl) ?_))))))
    refine tw66.do1 (hap.okW (by omega)) (r := (r1, r2, r3, r4, r5, r6, ())) hxs fun h86 T1' tw86 _ => ?_
    have hD := hap.do2 hn hla (r := (r1, r2, r3, r4, r5, r6, ())) h5 h4
    generalize doV W da 2 (r1, r2, r3, r4, r5, r6, ()) = dv at hD tw86 ⊢
    obtain ⟨⟨a, er⟩, W'⟩ := dv
    dsimp only at hD tw86 ⊢
    refine an_ev fun h89 c89 e89 _ => ?_
    have tw89 := tw86.more e89
    rw [bindI_ev]
    have cz : objCell (0 + 4) (obj h89 (sz h86)) = some (.int .i64 a.2.2.2.2.1) := cellR c89 rfl
    refine rI cz (iteP_dec (fun qt => ?_) fun qt => ?_)
    · rw [if_pos qt] at hD
      rw [bindI_ev, wrap64 (by omega) (by omega)]
      refine iteP_dec (fun _ => hk h89 tw89.ext) fun qo => ?_
      rw [bindI_ev]
      exact hgo (m := n + 1) (by omega) (by omega) tw89 hD
    · rw [if_neg qt] at hD
      refine iteP_dec (fun _ => hk h89 tw89.ext) fun qo => ?_
      rw [bindI_ev]
      exact hgo rfl hn tw89 hD
  · -- the one's, with and without
    refine rI (cellR c66 rfl) (rI (cellR c66 rfl) (rI (cellR c66 rfl) (rI (cellR c66 rfl) (rI (cellR c66 rfl) (rS (cellR c66 rfl) (rI (cellR c66 rfl) ?_))))))
    have hD := hap.do1 hn hla (r := (r1, r2, r3, r4, r5, r6, ())) h5 h4
    refine tw66.do1 (hap.okW (by omega)) (r := (r1, r2, r3, r4, r5, r6, ())) hxs fun h104 T1' tw104 st104 => ?_
    have c104 := keep1 c66 st104 tb.1
    have tb104 : T1' db = none := st_no tw66.a st104 tb.1 (obj_lt c66)
    generalize doV W da 1 (r1, r2, r3, r4, r5, r6, ()) = dv at hD tw104 ⊢
    obtain ⟨⟨a, er⟩, W'⟩ := dv
    dsimp only at hD tw104 ⊢
    refine an_ev fun h107 c107 e107 _ => ?_
    have tw107 := tw104.more e107
    have d107 := keepX c104 e107
    have ta := tw104.no (Nat.le_refl (sz h104))
    have lda : db < sz h104 := obj_lt c104
    have hab : sz h ≤ sz h104 := tw104.ext.size
    generalize sz h104 = ab at c107 ta lda hab ⊢
    rw [bindI_ev]
    refine rI (cellR d107 rfl) (rI (cellR d107 rfl) (rI (cellR d107 rfl) (rI (cellR d107 rfl) (rI (cellR d107 rfl) (rS (cellR d107 rfl) (rI (cellR d107 rfl) ?_))))))
    refine tw107.do2 (hap.okO (by omega)) (r := (r1, r2, r3, r4, r5, r6, ())) hxs fun h117 T2' tw117 st117 => ?_
    have c117 := keep1 c107 st117 ta.2
    have ta2 : T2' ab = none := st_no tw107.b st117 ta.2 (obj_lt c107)
    generalize doV O da 1 (r1, r2, r3, r4, r5, r6, ()) = dv at hD tw117 ⊢
    obtain ⟨⟨a', er'⟩, O'⟩ := dv
    dsimp only at hD tw117 ⊢
    obtain ⟨⟨rfl, s1', s2', s3', s4'⟩, hD⟩ := hD
    refine an_ev fun h120 c120 e120 _ => ?_
    have tw120 := tw117.more e120
    have d120 := keepX c117 e120
    have tc := tw117.no (Nat.le_refl (sz h117))
    have lac : ab < sz h117 := obj_lt c117
    generalize sz h117 = cb at c120 tc lac ⊢
    rw [bindI_ev]
    refine cutQ (fun st h9 => ∃ m : Nat, st = ((m : Int), ()) ∧ h9 = h120 ∧ Ap fa fb W' O' m ∧ m ≤ n + 1) ?_ ?_
    case refine_2 =>
      intro Q hQ
      refine rI (cellR d120 rfl) (iteP_dec (fun qt => ?_) fun qt => ?_)
      · rw [if_pos qt] at hD
        rw [bindI_ev, wrap64 (by omega) (by omega)]
        exact hQ _ _ ⟨n + 1, by rw [show ((n : Int) + 1) = ((n + 1 : Nat) : Int) from by omega], rfl, hD, Nat.le_refl _⟩
      · rw [if_neg qt] at hD
        exact hQ _ _ ⟨n, rfl, rfl, hD, Nat.le_succ _⟩
    rintro _ _ ⟨m, rfl, rfl, hD, hm⟩
    dsimp only
    refine put3 d120 (by simp) one_int fun h127 c127 u127 z127 => ?_
    have g127 := keepU c120 u127 (by omega)
    refine put3 g127 (by simp) one_int fun h128 c128 u128 z128 => ?_
    have f128 := keepU c127 u128 (by omega)
    have tw128 : Tw h s1 s2 T1' T2' W' O' h128 := by
      have hu : Upd (fun k => k = ab ∨ k = cb) _ h128 := (u127.mono fun k _ hk => .inl hk).trans (u128.mono fun k _ hk => .inr hk)
      refine ⟨sv_congr tw120.a hu.size fun k hk => hu.old k (sv_lt tw120.a hk) fun e => ?_, sv_congr tw120.b hu.size fun k hk => hu.old k (sv_lt tw120.b hk) fun e => ?_, tw120.dis, tw120.ext.then hu fun k hk => ?_, tw120.low1, tw120.low2⟩
      · rcases e with rfl | rfl
        · exact hk ta.1
        · exact hk tc.1
      · rcases e with rfl | rfl
        · exact hk ta2
        · exact hk tc.2
      · rcases hk with rfl | rfl
        · exact hab
        · show sz h ≤ _; omega
    refine rI (cellR f128 rfl) (rI (cellR f128 rfl) (rI (cellR f128 rfl) (rI (cellR f128 rfl) (rI (cellR f128 rfl) (rI (cellR c128 rfl) (rI (cellR c128 rfl) (rI (cellR c128 rfl) (rI (cellR c128 rfl) (rI (cellR c128 rfl) ?_)))))))))
    have hb : (!(bif a.1 == a'.1 then (bif a.2.1 == a'.2.1 then (bif a.2.2.1 == a'.2.2.1 then (bif a.2.2.2.1 == a'.2.2.2.1 then (bif (0 : Int) == 0 then true else false) else false) else false) else false) else false)) = false := by
      rw [s1', s2', s3', s4']; simp
    refine iteP_neg hb (iteP_neg (by simp) (iteP_dec (fun _ => hk h128 tw128.ext) fun qo => ?_))
    rw [bindI_ev]
    exact hgo rfl (by omega) tw128 hD
end Go.Proofs.Ytledmkhbaacdnaa
