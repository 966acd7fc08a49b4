/- The law: never more is granted of a flow than its count. -/
import Derived.Test.YtledmkhbaacdnaaTkNc
namespace Go.Proofs.Ytledmkhbaacdnaa
open Go Go.Fw
set_option linter.unusedSimpArgs false
set_option linter.unusedVariables false

theorem begin_len {at_ : Int} {fl : List F4} : ((newS at_).loaded nA fl).spaces.length ≤ 1 := by
  obtain ⟨b1, _⟩ := freshL_same fl { newS at_ with spaces := (newS at_).spaces ++ [(nA, fl)] }
  have : ((newS at_).loaded nA fl).spaces = [] ++ [(nA, fl)] := b1
  rw [this]
  simp
/-- what is told of late, gathered -/
theorem near_loop4 {h : Heap} {s : Sl} {got : List G4} (hr : Row h s 4 (got.flatMap g4L)) (hp : ∀ g, g ∈ got → 0 ≤ g.2.2.1) {at_ id : Int} {t : ByteArray} (ha : 0 ≤ at_ ∧ at_ ≤ 1152921504606846976) (hg : ∀ g, g ∈ got → 0 ≤ g.1 ∧ g.1 ≤ 1152921504606846976) {C : Int} (hC : nearN at_ (ofT id t got) ≤ C) (hC2 : C ≤ 1099511627776)
    {A : (Int → Prop) → Heap → Prop} {I : (Int → Prop) → Heap → Prop} {Tx : (ByteArray → Prop) → Heap → Prop} (hA : ∀ (R : Int → Prop), R at_ → A R h) (hI : ∀ (R : Int → Prop), R id → I R h) (hT : ∀ (R : ByteArray → Prop), R t → Tx R h)
    {K : Int → Heap → Prop} (hk : K (nearN at_ (ofT id t got)) h) :
    loopM (σ := Int × Int × Unit) (fun J88 s89 h90 => (fun (sum86 : Int) (k87 : Int) =>
      iteP (decide (k87 < (s.len : Int))) (idxA s.ptr s.len k87 4 fun b91 o92 => ldI h90 b91 (o92 + 1) .i64 fun t93 => I (fun t94 =>
        iteP (t93 == t94) (idxA s.ptr s.len k87 4 fun b95 o96 => ldS h90 b95 (o96 + 3) fun t97 => Tx (fun t98 =>
          iteP (strEq t97 t98) (idxA s.ptr s.len k87 4 fun b99 o100 => ldI h90 b99 o100 .i64 fun t101 => A (fun t102 =>
            iteP (decide (t101 > (IntKind.wrap .i64 (t102 - 900000)))) (idxA s.ptr s.len k87 4 fun b103 o104 => ldI h90 b103 (o104 + 2) .i64 fun t105 => bindI (IntKind.wrap .i64 (sum86 + t105)) fun sum106 => bindI (IntKind.wrap .i64 (k87 + 1)) fun k107 => J88 (sum106, k107, ()) h90)
              (bindI (IntKind.wrap .i64 (k87 + 1)) fun k108 => J88 (sum86, k108, ()) h90)) h90)
            (bindI (IntKind.wrap .i64 (k87 + 1)) fun k109 => J88 (sum86, k109, ()) h90)) h90)
          (bindI (IntKind.wrap .i64 (k87 + 1)) fun k110 => J88 (sum86, k110, ()) h90)) h90)
        (K sum86 h90)) s89.1 s89.2.1) (0, 0, ()) h := by
  have hl := rowLen g4L_len hr (by decide)
  have hb := hr.big
  have hc := hr.cap
  have hpT : ∀ l : List G4, (∀ g, g ∈ l → 0 ≤ g.2.2.1) → 0 ≤ nearN at_ (ofT id t l) := fun l hl => by
    unfold nearN
    refine sum_nonneg fun x hx => ?_
    obtain ⟨y, hy, rfl⟩ := List.mem_map.1 hx
    obtain ⟨g, hg, rfl⟩ := ofT_mem (List.mem_filter.1 hy).1
    exact hl g hg
  refine loopQ (fun st hh => ∃ i : Nat, st = (nearN at_ (ofT id t (got.take i)), (i : Int), ()) ∧ i ≤ got.length ∧ hh = h) (fun st _ => (s.len - st.2.1).toNat) ⟨0, rfl, Nat.zero_le _, rfl⟩ ?_
  rintro _ _ ⟨i, rfl, hi, rfl⟩ Q hQ
  dsimp only
  refine iteP_dec (fun q => ?_) fun q => ?_
  · obtain ⟨g, hgi⟩ : ∃ g, got[i]? = some g := ⟨_, List.getElem?_eq_getElem (by omega)⟩
    have hgm := List.mem_of_getElem? hgi
    obtain ⟨b, o, _, _, hidx, hcell⟩ := elemR g4L_len hr hgi (by decide)
    have tk : ofT id t (got.take (i + 1)) = ofT id t (got.take i) ++ ofT id t [g] := by rw [List.take_add_one, hgi]; exact ofT_app _ _ _ _
    have v0 := hcell 0 _ rfl
    rw [Nat.add_zero] at v0
    have go : ∀ n : Int, n = nearN at_ (ofT id t (got.take (i + 1))) → Q (n, IntKind.wrap .i64 ((i : Int) + 1), ()) _ := fun n hn => by
      rw [wrS (n := s.len) (by omega) (by omega)]
      exact hQ _ _ ⟨i + 1, by rw [hn], by omega, rfl⟩ (by dsimp only; omega)
    have z : nearN at_ [] = 0 := rfl
    refine hidx rfl (rI (hcell 1 _ rfl) (hI _ ⟨fun e1 => ?_, fun e1 => ?_⟩))
    · have e1' : g.2.1 = id := by simpa using e1
      refine hidx rfl (rS (hcell 3 _ rfl) (hT _ ⟨fun e2 => ?_, fun e2 => ?_⟩))
      · have e2' : g.2.2.2 = t := strEq_iff.1 e2
        refine hidx rfl (rI v0 (hA _ ?_))
        have hga := hg g hgm
        rw [wrap64 (n := at_ - 900000) (by omega) (by omega)]
        rw [ofT_one e1' e2'] at tk
        refine iteP_dec (fun e3 => hidx rfl (rI (hcell 2 _ rfl) ?_)) fun e3 => ?_
        · have hall : nearN at_ (ofT id t (got.take (i + 1))) ≤ nearN at_ (ofT id t got) := by
            have h1 : ofT id t got = ofT id t (got.take (i + 1)) ++ ofT id t (got.drop (i + 1)) := by rw [← ofT_app, List.take_append_drop]
            rw [h1, near_app]
            have := hpT (got.drop (i + 1)) fun g hg => hp g (List.mem_of_mem_drop hg)
            omega
          have h0 := hpT (got.take i) fun g hg => hp g (List.mem_of_mem_take hg)
          have hn : nearN at_ (ofT id t (got.take (i + 1))) = nearN at_ (ofT id t (got.take i)) + g.2.2.1 := by rw [tk, near_app, near_one _ _ _ (by omega)]
          have := hp g hgm
          rw [bindI_ev, bindI_ev, wrap64 (by omega) (by omega)]
          exact go _ hn.symm
        · rw [bindI_ev]
          refine go _ ?_
          rw [tk, near_app]
          have : nearN at_ [(g.1, g.2.2.1)] = 0 := by
            unfold nearN
            rw [List.filter_cons_of_neg (by simp; omega)]
            rfl
          omega
      · rw [bindI_ev]
        have e2' : g.2.2.2 ≠ t := fun e => by rw [strEq_iff.2 e] at e2; cases e2
        rw [ofT_zero (.inr e2'), List.append_nil] at tk
        exact go _ (by rw [tk])
    · rw [bindI_ev]
      have e1' : g.2.1 ≠ id := by simpa using e1
      rw [ofT_zero (.inl e1'), List.append_nil] at tk
      exact go _ (by rw [tk])
  · rw [List.take_of_length_le (by omega)]
    exact hk

theorem TokenNever_true {at_ : Int} {sa : Sl} {fl : List F4} {s : Sl} {l : List Dd} {h : Heap} (hra : Row h sa 4 (fl.flatMap f4L)) (hrow : Row h s 11 (l.flatMap dL) ∧ ∀ d, d ∈ l → d.2.2.2.1.2.2.2.2.1.size < 9223372036854775808) (hfl : fl.length ≤ 1048576) (hll : l.length ≤ 1048576)
    {K : Bool → Heap → Prop} (hk : ∀ h', Ext h h' → K true h') : m_spillwaylaw20_TokenNever at_ sa s K h := by
  obtain ⟨hrow, hsz⟩ := hrow
  have hlen := rowLen dL_len hrow (by decide)
  have hbig := hrow.big
  have hcap := hrow.cap
  unfold m_spillwaylaw20_TokenNever g_spillwaylaw20_TokenNever
  refine live_spec fun h1 e1 => iteP_false (TNew_spec (fun hn => ?_) fun ht h4 T4 sb hS4 e4 t4 => ?_)
  · rw [bindI_ev]
    refine iteP_true (iteP_false ?_)
    rw [bindB_ev]
    exact hk h1 e1
  rw [bindI_ev]
  refine iteP_false ?_
  have e14 := e1.trans e4
  refine kinds_spec (hra.ext e14) fun kb => ?_
  cases kb with
  | false => exact iteP_true (iteP_true (hk h4 e14))
  | true =>
  refine iteP_false (flows_spec (hra.ext e14) (by omega) fun t9 h10 ho10 e10 => ?_)
  have hS10 := sv_ext hS4 e10
  have e110 := e14.trans e10
  refine Load_spec hS10 (name := nA) (by decide) rfl (show (0 : Nat) ≤ 1099511627776 by decide) ho10.row (by omega) (fun k hk9 => ?_) (fun e h' he hn hx => ?_) fun hok h12 T12 hS12 st12 => ?_
  · have := ho10.lt hk9
    exact ⟨sv_no hS4 this.1, this.2⟩
  · exact iteP_pos (by simpa using he) (iteP_true (hk h' (e110.trans hx)))
  refine iteP_false ?_
  rw [bindI_ev]
  have hlow4 : ∀ k, T4 k ≠ none → sz h ≤ k := fun k hk => Nat.le_trans e1.size (t4 k hk)
  have hG0 : Gn h sb ⟨none, 0, 0⟩ 4 (([] : List G4).flatMap g4L) T12 ((newS at_).loaded nA fl) h12 := ⟨hS12, Own.nil _ _ _, (fun k hk => by cases hk), e110.then st12.upd hlow4, fun k hk => (st12.new k hk).elim (hlow4 k) fun h9 => Nat.le_trans e110.size h9⟩
  have hH0 := Never.begin ht hok
  clear st12 hS12 hS10 hS4 t4 hlow4 ho10
  refine loopQ (fun st hh => ∃ (ps : Sl) (i : Nat) (T : Nat → Option Nat) (S : Srv) (got : List G4), st = (ps, (i : Int), ()) ∧ i ≤ l.length ∧ Gn h sb ps 4 (got.flatMap g4L) T S hh ∧ Never fl S got ∧ got.length ≤ i ∧ ∀ g, g ∈ got → 0 ≤ g.1 ∧ g.1 ≤ 1152921504606846976) (fun st _ => (s.len - st.2.1).toNat)
    ⟨_, 0, T12, _, [], rfl, Nat.zero_le _, hG0, hH0, Nat.le_refl _, (fun g hg => by cases hg)⟩ ?_
  clear hG0 hH0
  rintro _ hh ⟨ps, i, T, S, got, rfl, hi, hG, hH, hg, hga⟩ J hJ
  dsimp only
  refine iteP_dec (fun q => ?_) fun q => hk hh hG.ext
  have hil : i < l.length := by omega
  have hgo : ∀ {hh : Heap} {T : Nat → Option Nat} {S : Srv} {ps : Sl} {got' : List G4}, Gn h sb ps 4 (got'.flatMap g4L) T S hh → Never fl S got' → got'.length ≤ i + 1 → (∀ g, g ∈ got' → 0 ≤ g.1 ∧ g.1 ≤ 1152921504606846976) → J (ps, IntKind.wrap .i64 ((i : Int) + 1), ()) hh := fun hG hH hg' hga' => by
    rw [wrS (n := s.len) (by omega) (by omega)]
    exact hJ _ _ ⟨_, i + 1, _, _, _, rfl, by omega, hG, hH, hg', hga'⟩ (by show (((s.len : Nat) : Int) - ((i + 1 : Nat) : Int)).toNat < (((s.len : Nat) : Int) - (i : Int)).toNat; omega)
  clear hJ
  have hxs := hsz _ (List.getElem_mem hil)
  obtain ⟨b, o, _, hbl, hidx, hcell⟩ := elemR dL_len (hrow.ext hG.ext) (List.getElem?_eq_getElem hil) (by decide)
  generalize l[i] = d at hxs hcell
  obtain ⟨dk, da, dc, ⟨r1, r2, r3, r4, r5, r6, _⟩, dsp, dfl⟩ := d
  dsimp only at hxs
  have v0 := hcell 0 _ rfl
  rw [Nat.add_zero] at v0
  refine hidx rfl (rI v0 (rI (hcell 1 _ rfl) (rI (hcell 2 _ rfl) (rI (hcell 3 _ rfl) (rI (hcell 4 _ rfl) (rI (hcell 5 _ rfl) (rI (hcell 6 _ rfl) (rS (hcell 7 _ rfl) (rI (hcell 8 _ rfl) (rS (hcell 9 _ rfl) (rL (hcell 10 _ rfl) ?_)))))))))))
  rw [newC_ev, sts_ev (by simp (maxDischargeDepth := 60) only [evAll, listPuts, Addr.mk.injEq, and_self, Option.map_some, Option.getD_some, Option.getD_none, Option.isSome_some, Option.isSome_none, Option.isNone_some, Option.isNone_none, List.all_cons, List.all_nil, Bool.and_self, Bool.true_and, Bool.and_true, List.length_cons, List.length_nil, List.set_cons_zero, List.set_cons_succ, List.getElem?_cons_zero, List.getElem?_cons_succ, List.getElem?_nil, Option.some.injEq, Value.int.injEq, Value.bool.injEq, Value.string.injEq, Value.pointer.injEq, Value.map.injEq, Prod.mk.injEq, true_and, and_true, exists_eq_left, exists_eq_left', if_true, if_false, decide_true, decide_false, decide_eq_true_eq, Bool.not_true, Bool.not_false, Nat.zero_add, Nat.add_zero, Nat.reduceAdd, Nat.reduceLT, Nat.reduceLeDiff, Nat.reduceEqDiff, Nat.reduceMul, Nat.add_assoc, Nat.add_left_cancel_iff, Nat.add_eq_left, Nat.left_eq_add, Nat.add_le_add_iff_left, Nat.le_add_right, Nat.le_refl, Nat.one_ne_zero, Nat.add_lt_add_iff_left, Nat.lt_add_right_iff_pos, reduceCtorEq, beq_self_eq_true]) (by simp (maxDischargeDepth := 60) only [evAll, listPuts, Addr.mk.injEq, and_self, Option.map_some, Option.getD_some, Option.getD_none, Option.isSome_some, Option.isSome_none, Option.isNone_some, Option.isNone_none, List.all_cons, List.all_nil, Bool.and_self, Bool.true_and, Bool.and_true, List.length_cons, List.length_nil, List.set_cons_zero, List.set_cons_succ, List.getElem?_cons_zero, List.getElem?_cons_succ, List.getElem?_nil, Option.some.injEq, Value.int.injEq, Value.bool.injEq, Value.string.injEq, Value.pointer.injEq, Value.map.injEq, Prod.mk.injEq, true_and, and_true, exists_eq_left, exists_eq_left', if_true, if_false, decide_true, decide_false, decide_eq_true_eq, Bool.not_true, Bool.not_false, Nat.zero_add, Nat.add_zero, Nat.reduceAdd, Nat.reduceLT, Nat.reduceLeDiff, Nat.reduceEqDiff, Nat.reduceMul, Nat.add_assoc, Nat.add_left_cancel_iff, Nat.add_eq_left, Nat.left_eq_add, Nat.add_le_add_iff_left, Nat.le_add_right, Nat.le_refl, Nat.one_ne_zero, Nat.add_lt_add_iff_left, Nat.lt_add_right_iff_pos, reduceCtorEq, beq_self_eq_true])]
  generalize hX : Heap.puts (Array.push hh _) _ _ _ = h30
  have e30 : Ext hh h30 := by rw [← hX]; exact ext_puts (ext_push (Ext.refl _)) (Nat.le_refl _)
  have c30 : obj h30 (sz hh) = some (.cells [iv dk, iv da, iv dc, iv r1, .int .u8 r2, iv r3, iv r4, .string r5, iv r6, .string dsp, slV dfl].toArray 43 (0, 0)) := by
    rw [← hX]
    simp (maxDischargeDepth := 60) only [evAll, listPuts, Addr.mk.injEq, and_self, Option.map_some, Option.getD_some, Option.getD_none, Option.isSome_some, Option.isSome_none, Option.isNone_some, Option.isNone_none, List.all_cons, List.all_nil, Bool.and_self, Bool.true_and, Bool.and_true, List.length_cons, List.length_nil, List.set_cons_zero, List.set_cons_succ, List.getElem?_cons_zero, List.getElem?_cons_succ, List.getElem?_nil, Option.some.injEq, Value.int.injEq, Value.bool.injEq, Value.string.injEq, Value.pointer.injEq, Value.map.injEq, Prod.mk.injEq, true_and, and_true, exists_eq_left, exists_eq_left', if_true, if_false, decide_true, decide_false, decide_eq_true_eq, Bool.not_true, Bool.not_false, Nat.zero_add, Nat.add_zero, Nat.reduceAdd, Nat.reduceLT, Nat.reduceLeDiff, Nat.reduceEqDiff, Nat.reduceMul, Nat.add_assoc, Nat.add_left_cancel_iff, Nat.add_eq_left, Nat.left_eq_add, Nat.add_le_add_iff_left, Nat.le_add_right, Nat.le_refl, Nat.one_ne_zero, Nat.add_lt_add_iff_left, Nat.lt_add_right_iff_pos, reduceCtorEq, beq_self_eq_true]
  clear hX
  have hG30 := hG.more e30
  have tb : T (sz hh) = none := sv_no hG.srv (Nat.le_refl _)
  have nb : ps.blk ≠ some (sz hh) := fun e => by have := (hG.own.lt e).2; rw [size_def] at this; omega
  have lbs : sz hh < sz h30 := obj_lt c30
  have keep : ∀ {h' : Heap} {T' : Nat → Option Nat}, Stp T T' h30 h' → obj h' (sz hh) = some (.cells [iv dk, iv da, iv dc, iv r1, .int .u8 r2, iv r3, iv r4, .string r5, iv r6, .string dsp, slV dfl].toArray 43 (0, 0)) := fun st => keepU c30 st.upd fun e => e tb
  clear hG hcell hidx v0
  refine rI (cellR c30 rfl) ?_
  rw [bindB_ev]
  refine iteP_dec (fun _ => ?_) fun _ => ?_
  · refine rI (cellR c30 rfl) ?_
    refine Open_spec hG30.srv fun h35 hS35 st35 => ?_
    have c35 := keep st35
    have hG35 := hG30.step hS35 st35
    have hH35 := hH.opened dc
    refine rI (cellR c35 rfl) (Last_ev hS35 ⟨held1 (cellR c35 rfl), ?_⟩)
    refine Do_spec hS35 hH35.ok (show nA.size < 9223372036854775808 by decide) fun h41 T41 hS41 st41 => ?_
    rw [bindI_ev]
    have hd := (hH35.do (S.opened dc).last dc (0, 5, 0, 0, nA, 0, ())).1
    rw [show gotG (S.opened dc) (S.opened dc).last dc (0, 5, 0, 0, nA, 0, ()) got = got from if_neg (fun e => by rcases e.2.2 with h9 | h9 <;> exact absurd h9 (by decide))] at hd
    exact hgo (hG35.step hS41 st41) hd (by omega) hga
  rw [bindB_ev]
  refine iteP_dec (fun _ => ?_) fun _ => ?_
  · refine rI (cellR c30 rfl) ?_
    refine Close_spec hG30.srv fun h47 hS47 st47 => ?_
    rw [bindI_ev]
    refine hgo (hG30.step hS47 st47) ?_ (by omega) hga
    unfold Srv.closed
    split
    · exact hH.conn _ _
    · exact hH
  rw [bindB_ev]
  refine iteP_dec (fun _ => ?_) fun _ => ?_
  · refine rI (cellR c30 rfl) ?_
    refine Restart_spec hG30.srv hH.ok (fun hq => ?_) fun hq h51 T51 hS51 st51 => ?_
    · rw [bindI_ev]
      exact hgo hG30 hH (by omega) hga
    · rw [bindI_ev]
      exact hgo (hG30.step hS51 st51) (hH.restart hq) (by omega) hga
  rw [bindB_ev]
  refine iteP_dec (fun _ => ?_) fun _ => ?_
  case refine_2 => rw [bindI_ev]; exact hgo hG30 hH (by omega) hga
  refine rI (cellR c30 rfl) (rI (cellR c30 rfl) (rI (cellR c30 rfl) (rI (cellR c30 rfl) (rI (cellR c30 rfl) (rI (cellR c30 rfl) (rS (cellR c30 rfl) (rI (cellR c30 rfl) ?_)))))))
  refine Do_spec hG30.srv hH.ok (r := (r1, r2, r3, r4, r5, r6, ())) hxs fun h64 T64 hS64 st64 => ?_
  have hD := hH.do da dc (r1, r2, r3, r4, r5, r6, ())
  have c64 := keep st64
  have hG64 := hG30.step hS64 st64
  have tb64 : T64 (sz hh) = none := st_no hG30.srv st64 tb lbs
  have lb64 : sz hh < sz h64 := obj_lt c64
  unfold gotG at hD
  generalize doV S da dc (r1, r2, r3, r4, r5, r6, ()) = dv at hD hG64 hS64 ⊢
  obtain ⟨⟨⟨a1, a2, a3, a4, a5, _⟩, er⟩, S'⟩ := dv
  dsimp only at hD hG64 hS64 ⊢
  obtain ⟨hH', hD⟩ := hD
  rw [newC_ev, sts_ev (by simp (maxDischargeDepth := 60) only [evAll, listPuts, Addr.mk.injEq, and_self, Option.map_some, Option.getD_some, Option.getD_none, Option.isSome_some, Option.isSome_none, Option.isNone_some, Option.isNone_none, List.all_cons, List.all_nil, Bool.and_self, Bool.true_and, Bool.and_true, List.length_cons, List.length_nil, List.set_cons_zero, List.set_cons_succ, List.getElem?_cons_zero, List.getElem?_cons_succ, List.getElem?_nil, Option.some.injEq, Value.int.injEq, Value.bool.injEq, Value.string.injEq, Value.pointer.injEq, Value.map.injEq, Prod.mk.injEq, true_and, and_true, exists_eq_left, exists_eq_left', if_true, if_false, decide_true, decide_false, decide_eq_true_eq, Bool.not_true, Bool.not_false, Nat.zero_add, Nat.add_zero, Nat.reduceAdd, Nat.reduceLT, Nat.reduceLeDiff, Nat.reduceEqDiff, Nat.reduceMul, Nat.add_assoc, Nat.add_left_cancel_iff, Nat.add_eq_left, Nat.left_eq_add, Nat.add_le_add_iff_left, Nat.le_add_right, Nat.le_refl, Nat.one_ne_zero, Nat.add_lt_add_iff_left, Nat.lt_add_right_iff_pos, reduceCtorEq, beq_self_eq_true]) (by simp (maxDischargeDepth := 60) only [evAll, listPuts, Addr.mk.injEq, and_self, Option.map_some, Option.getD_some, Option.getD_none, Option.isSome_some, Option.isSome_none, Option.isNone_some, Option.isNone_none, List.all_cons, List.all_nil, Bool.and_self, Bool.true_and, Bool.and_true, List.length_cons, List.length_nil, List.set_cons_zero, List.set_cons_succ, List.getElem?_cons_zero, List.getElem?_cons_succ, List.getElem?_nil, Option.some.injEq, Value.int.injEq, Value.bool.injEq, Value.string.injEq, Value.pointer.injEq, Value.map.injEq, Prod.mk.injEq, true_and, and_true, exists_eq_left, exists_eq_left', if_true, if_false, decide_true, decide_false, decide_eq_true_eq, Bool.not_true, Bool.not_false, Nat.zero_add, Nat.add_zero, Nat.reduceAdd, Nat.reduceLT, Nat.reduceLeDiff, Nat.reduceEqDiff, Nat.reduceMul, Nat.add_assoc, Nat.add_left_cancel_iff, Nat.add_eq_left, Nat.left_eq_add, Nat.add_le_add_iff_left, Nat.le_add_right, Nat.le_refl, Nat.one_ne_zero, Nat.add_lt_add_iff_left, Nat.lt_add_right_iff_pos, reduceCtorEq, beq_self_eq_true])]
  have e67 : Ext h64 (Heap.puts (h64.push (.cells [iv 0, .int .u8 0, iv 0, iv 0, iv 0].toArray 36 (0, 0))) (sz h64) 0 [iv a1, .int .u8 a2, iv a3, iv a4, iv a5]) := ext_puts (ext_push (Ext.refl _)) (Nat.le_refl _)
  have c67 : obj (Heap.puts (h64.push (.cells [iv 0, .int .u8 0, iv 0, iv 0, iv 0].toArray 36 (0, 0))) (sz h64) 0 [iv a1, .int .u8 a2, iv a3, iv a4, iv a5]) (sz h64) = some (.cells [iv a1, .int .u8 a2, iv a3, iv a4, iv a5].toArray 36 (0, 0)) := by simp (maxDischargeDepth := 60) only [evAll, listPuts, Addr.mk.injEq, and_self, Option.map_some, Option.getD_some, Option.getD_none, Option.isSome_some, Option.isSome_none, Option.isNone_some, Option.isNone_none, List.all_cons, List.all_nil, Bool.and_self, Bool.true_and, Bool.and_true, List.length_cons, List.length_nil, List.set_cons_zero, List.set_cons_succ, List.getElem?_cons_zero, List.getElem?_cons_succ, List.getElem?_nil, Option.some.injEq, Value.int.injEq, Value.bool.injEq, Value.string.injEq, Value.pointer.injEq, Value.map.injEq, Prod.mk.injEq, true_and, and_true, exists_eq_left, exists_eq_left', if_true, if_false, decide_true, decide_false, decide_eq_true_eq, Bool.not_true, Bool.not_false, Nat.zero_add, Nat.add_zero, Nat.reduceAdd, Nat.reduceLT, Nat.reduceLeDiff, Nat.reduceEqDiff, Nat.reduceMul, Nat.add_assoc, Nat.add_left_cancel_iff, Nat.add_eq_left, Nat.left_eq_add, Nat.add_le_add_iff_left, Nat.le_add_right, Nat.le_refl, Nat.one_ne_zero, Nat.add_lt_add_iff_left, Nat.lt_add_right_iff_pos, reduceCtorEq, beq_self_eq_true]
  generalize Heap.puts (h64.push (.cells [iv 0, .int .u8 0, iv 0, iv 0, iv 0].toArray 36 (0, 0))) (sz h64) 0 [iv a1, .int .u8 a2, iv a3, iv a4, iv a5] = h67 at e67 c67 ⊢
  have hG67 := hG64.more e67
  have d67 := keepX c64 e67
  rw [bindI_ev]
  refine cutQ (fun _ h9 => h9 = h67 ∧ er = 0 ∧ a2 = 1 ∧ (r2 = 1 ∨ r2 = 2)) ?_ ?_
  case refine_2 =>
    intro Q hQ
    refine ⟨fun e => ?_, fun e => ?_⟩
    · have e' : er ≠ 0 := by simpa using e
      rw [bindI_ev]
      rw [if_neg (fun h => e' h.1)] at hH'
      exact hgo hG67 hH' (by omega) hga
    have e' : er = 0 := by simpa using e
    refine rI (cellR c67 rfl) ⟨fun e2 => ?_, fun e2 => ?_⟩
    · have e2' : a2 ≠ 1 := by simpa using e2
      rw [bindI_ev]
      rw [if_neg (fun h => e2' h.2.1)] at hH'
      exact hgo hG67 hH' (by omega) hga
    have e2' : a2 = 1 := by simpa using e2
    refine rI (cellR d67 rfl) ⟨fun e3 => ?_, fun e3 => ?_⟩
    · have e3' : r2 ≠ 1 := by simpa using e3
      refine rI (cellR d67 rfl) ⟨fun e4 => ?_, fun e4 => ?_⟩
      · have e4' : r2 ≠ 2 := by simpa using e4
        rw [bindI_ev]
        rw [if_neg (fun h => by rcases h.2.2 with h9 | h9 <;> omega)] at hH'
        exact hgo hG67 hH' (by omega) hga
      · exact hQ _ _ ⟨rfl, e', e2', .inr (by simpa using e4)⟩
    · exact hQ _ _ ⟨rfl, e', e2', .inl (by simpa using e3)⟩
  rintro _ h68 ⟨rfl, rfl, rfl, hr2⟩
  rw [if_pos ⟨rfl, rfl, hr2⟩] at hH'
  obtain ⟨hda, hr4, f, hf, hfid, hnear⟩ := hD rfl rfl hr2
  refine rI (cellR d67 rfl) (rI (cellR d67 rfl) (rI (cellR d67 rfl) (rS (cellR d67 rfl) ?_)))
  rw [newC_ev]
  have e83 : Ext h68 (h68.push (.cells [Value.int .i64 da, Value.int .i64 r3, Value.int .i64 r4, Value.string r5].toArray 48 (0, 0))) := Ext.push _ _
  have hrow83 : Row (h68.push (.cells [Value.int .i64 da, Value.int .i64 r3, Value.int .i64 r4, Value.string r5].toArray 48 (0, 0))) ⟨some ⟨sz h68, 0, none⟩, 1, 1⟩ 4 (g4L (da, r3, r4, r5)) := (Own.newC (h := h68) (cells := g4L (da, r3, r4, r5)) (t := 48) (size := 4) (n := 1) rfl (by decide)).row
  generalize h68.push (.cells [Value.int .i64 da, Value.int .i64 r3, Value.int .i64 r4, Value.string r5].toArray 48 (0, 0)) = h83 at e83 hrow83 ⊢
  have hG83 := hG67.more e83
  have d83 := keepX d67 e83
  have hpl : ps.len = got.length := rowLen g4L_len hG83.own.row (by decide)
  refine hrow83.rd (Own.app hG83.own rfl (by simp [g4L, one_int, one_str]) rfl (by omega) (by omega) hG83.ext.size fun t84 h85 ho85 hl85 u85 hb85 => ?_)
  have d85 := keepU d83 u85 nb
  have hG85 : Gn h sb t84 4 ((got ++ [(da, r3, r4, r5)]).flatMap g4L) T64 S' h85 := by
    refine ⟨sv_congr hG83.srv u85.size fun k hk => ?_, by rw [List.flatMap_append]; simpa using ho85, fun k hk => ?_, hG83.ext.then u85 fun k hk => (hG83.own.lt hk).1, hG83.low⟩
    · rcases Nat.lt_or_ge k h83.size with h8 | h8
      · exact u85.old k h8 fun e => hk (hG83.sep k e)
      · exact (hk (sv_no hG83.srv h8)).elim
    · rcases hb85 with e8 | e8
      · rw [e8] at hk; exact hG83.sep k hk
      · rw [e8] at hk; cases hk; exact sv_no hG83.srv (Nat.le_refl _)
  rw [bindI_ev, bindI_ev]
  have hga' : ∀ g, g ∈ got ++ [(da, r3, r4, r5)] → 0 ≤ g.1 ∧ g.1 ≤ 1152921504606846976 := fun g hg9 => by
    rcases List.mem_append.1 hg9 with h9 | h9
    · exact hga g h9
    · simp at h9; subst h9; exact hda
  have hfr := (rightF_rng (hH'.right f hf)).2.1
  refine near_loop4 (t := r5) hG85.own.row hH'.pos hda hga' (C := f.2.1) hnear hfr.2 (A := fun R h => ldI h (sz hh) (0 + 1) .i64 R) (I := fun R h => ldI h (sz hh) (0 + 3 + 2) .i64 R) (Tx := fun R h => ldS h (sz hh) (0 + 3 + 4) R)
    (K := fun sum h90 => ldI h90 (sz hh) (0 + 3 + 2) .i64 fun t110 => m_spillwaylaw20_count sa t110 (fun t111 h112 => iteP (decide (sum > t111)) (K false h112) (bindI (IntKind.wrap .i64 ((i : Int) + 1)) fun i113 => J (t84, i113, ()) h112)) h90)
    (fun R hR => rI (cellR d85 rfl) hR) (fun R hR => rI (cellR d85 rfl) hR) (fun R hR => rS (cellR d85 rfl) hR) ?_
  refine rI (cellR d85 rfl) ?_
  rw [← hfid]
  refine count_spec (hra.ext hG85.ext) hH'.nodup hf ?_
  rw [← hfid] at hnear
  refine iteP_neg (decide_eq_false (by omega)) ?_
  rw [bindI_ev]
  exact hgo hG85 hH' (by rw [List.length_append, List.length_singleton]; omega) hga'
end Go.Proofs.Ytledmkhbaacdnaa
