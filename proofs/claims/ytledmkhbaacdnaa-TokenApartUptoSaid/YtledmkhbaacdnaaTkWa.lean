/- The token server: 'live' is so. -/
import Derived.Test.YtledmkhbaacdnaaTkV
namespace Go.Proofs.Ytledmkhbaacdnaa
open Go Go.Fw
set_option linter.unusedSimpArgs false
set_option linter.unusedVariables false

theorem LS_ok : (LS1.opened 1).OK := by
  have : (LS1.opened 1) = { LS1 with conns := fun i => if i = 1 then some (ByteArray.mk #[]) else LS1.conns i, nn := LS1.nn + 1 } := by rw [Srv.opened, if_pos l_open]
  rw [this]
  refine ⟨by decide, fun x hx f hf => ?_⟩
  have hx' : x ∈ [(nA, [lf])] := hx
  simp at hx'
  subst hx'
  simp at hf
  subst hf
  exact ⟨_, rfl, rfl⟩
theorem LS3_ok (n : Int) (w : Win) : (LS3 n w).OK := by
  refine ⟨(show (0 : Nat) ≤ 4096 by decide), fun x hx f hf => ?_⟩
  have hx' : x ∈ [(nA, [lf])] := hx
  simp at hx'
  subst hx'
  simp at hf
  subst hf
  exact ⟨_, rfl, rfl⟩

theorem Server.ext {h h' : Heap} {T : Nat → Option Nat} {sb : Nat} {S : Srv} (hS : Server h T sb S) (he : Ext h h') : Server h' T sb S := by
  obtain ⟨cb, nb, sp, so, ls, hR⟩ := hS
  exact ⟨cb, nb, sp, so, ls, hR.ext he⟩
theorem Server.no {h : Heap} {T : Nat → Option Nat} {sb : Nat} {S : Srv} (hS : Server h T sb S) {k : Nat} (hk : sz h ≤ k) : T k = none := by
  obtain ⟨cb, nb, sp, so, ls, hR⟩ := hS
  exact hR.no hk
theorem Server.block {h : Heap} {T : Nat → Option Nat} {sb : Nat} {S : Srv} (hS : Server h T sb S) : sb < sz h := by
  obtain ⟨cb, nb, sp, so, ls, hR⟩ := hS
  exact obj_lt hR.cells

theorem live_spec {h : Heap} {K : Bool → Heap → Prop} (hk : ∀ h', Ext h h' → K true h') : m_spillwaylaw20_live K h := by
  unfold m_spillwaylaw20_live g_spillwaylaw20_live
  refine TNew_spec (fun hn => (hn ⟨by decide, by decide⟩).elim) fun _ h1 T1 sb hS1 e1 t1 => ?_
  rw [bindI_ev]
  refine iteP_false (iteP_false ?_)
  rw [newC_ev]
  have e2 : Ext h1 (h1.push (.cells [iv 1, iv 5, iv 1, iv 0].toArray 53 (0, 0))) := Ext.push _ _
  have r2 : Row (h1.push (.cells [iv 1, iv 5, iv 1, iv 0].toArray 53 (0, 0))) ⟨some ⟨sz h1, 0, none⟩, 1, 1⟩ 4 ([lf].flatMap f4L) := (Own.newC (h := h1) (cells := f4L lf) (t := 53) (size := 4) (n := 1) rfl (by decide)).row
  have z2 : sz (h1.push (.cells [iv 1, iv 5, iv 1, iv 0].toArray 53 (0, 0))) = sz h1 + 1 := sz_push
  generalize h1.push (.cells [iv 1, iv 5, iv 1, iv 0].toArray 53 (0, 0)) = h2 at e2 r2 z2 ⊢
  have hS2 := hS1.ext e2
  refine Load_spec hS2 (name := nA) (by decide) rfl (by decide) r2 (by decide) (fun k hk => ?_) (fun e h' he hn => (hn l_ok).elim) fun _ h3 T3 hS3 st3 => ?_
  · have : k = sz h1 := by cases hk; rfl
    subst this
    exact ⟨hS1.no (Nat.le_refl _), by omega⟩
  change Server h3 T3 sb LS1 at hS3
  rw [bindI_ev]
  refine Open_spec hS3 fun h4 hS4 st4 => ?_
  rw [l_open, bindI_ev]
  refine Do_spec hS4 LS_ok (r := (3, 5, 0, 0, nA, 0, ())) (by decide) fun h5 T5 hS5 st5 => ?_
  rw [l_do1] at hS5 ⊢
  dsimp only at hS5 ⊢
  rw [newC_ev, sts_ev (by simp (maxDischargeDepth := 60) only [evAll, listPuts, Addr.mk.injEq, Option.map_some, Option.getD_some, Option.getD_none, Option.isSome_some, Option.isSome_none, Option.isNone_some, Option.isNone_none, List.all_cons, List.all_nil, List.length_cons, List.length_nil, List.set_cons_zero, List.set_cons_succ, List.getElem?_cons_zero, List.getElem?_cons_succ, List.getElem?_nil, Option.some.injEq, Value.int.injEq, Value.bool.injEq, Value.string.injEq, Value.pointer.injEq, Value.map.injEq, Prod.mk.injEq, exists_eq_left, exists_eq_left', if_true, if_false, decide_true, decide_false, Nat.reduceAdd, Nat.reduceLT, Nat.reduceLeDiff, Nat.reduceEqDiff, Nat.reduceMul, reduceCtorEq, beq_self_eq_true]) (by simp (maxDischargeDepth := 60) only [evAll, listPuts, Addr.mk.injEq, Option.map_some, Option.getD_some, Option.getD_none, Option.isSome_some, Option.isSome_none, Option.isNone_some, Option.isNone_none, List.all_cons, List.all_nil, List.length_cons, List.length_nil, List.set_cons_zero, List.set_cons_succ, List.getElem?_cons_zero, List.getElem?_cons_succ, List.getElem?_nil, Option.some.injEq, Value.int.injEq, Value.bool.injEq, Value.string.injEq, Value.pointer.injEq, Value.map.injEq, Prod.mk.injEq, exists_eq_left, exists_eq_left', if_true, if_false, decide_true, decide_false, Nat.reduceAdd, Nat.reduceLT, Nat.reduceLeDiff, Nat.reduceEqDiff, Nat.reduceMul, reduceCtorEq, beq_self_eq_true]), bindI_ev]
  have e6 : Ext h5 (Heap.puts (h5.push (.cells [iv 0, .int .u8 0, iv 0, iv 0, iv 0].toArray 36 (0, 0))) (sz h5) 0 [iv 3, .int .u8 1, iv 0, iv 0, iv 0]) := ext_puts (ext_push (Ext.refl _)) (Nat.le_refl _)
  have a6 : obj (Heap.puts (h5.push (.cells [iv 0, .int .u8 0, iv 0, iv 0, iv 0].toArray 36 (0, 0))) (sz h5) 0 [iv 3, .int .u8 1, iv 0, iv 0, iv 0]) (sz h5) = some (.cells [iv 3, .int .u8 1, iv 0, iv 0, iv 0].toArray 36 (0, 0)) := by simp (maxDischargeDepth := 60) only [evAll, listPuts, Addr.mk.injEq, Option.map_some, Option.getD_some, Option.getD_none, Option.isSome_some, Option.isSome_none, Option.isNone_some, Option.isNone_none, List.all_cons, List.all_nil, List.length_cons, List.length_nil, List.set_cons_zero, List.set_cons_succ, List.getElem?_cons_zero, List.getElem?_cons_succ, List.getElem?_nil, Option.some.injEq, Value.int.injEq, Value.bool.injEq, Value.string.injEq, Value.pointer.injEq, Value.map.injEq, Prod.mk.injEq, exists_eq_left, exists_eq_left', if_true, if_false, decide_true, decide_false, Nat.reduceAdd, Nat.reduceLT, Nat.reduceLeDiff, Nat.reduceEqDiff, Nat.reduceMul, reduceCtorEq, beq_self_eq_true]
  generalize Heap.puts (h5.push (.cells [iv 0, .int .u8 0, iv 0, iv 0, iv 0].toArray 36 (0, 0))) (sz h5) 0 [iv 3, .int .u8 1, iv 0, iv 0, iv 0] = h6 at e6 a6 ⊢
  have t5 : T5 (sz h5) = none := hS5.no (Nat.le_refl _)
  have hS6 := hS5.ext e6
  refine Do_spec hS6 (LS3_ok _ _) (r := (4, 1, 1, 1, nE, 0, ())) (by decide) fun h7 T7 hS7 st7 => ?_
  rw [l_do2] at hS7 ⊢
  dsimp only at hS7 ⊢
  have a7 := keepU a6 st7.upd (fun e => e t5)
  rw [newC_ev, sts_ev (by simp (maxDischargeDepth := 60) only [evAll, listPuts, Addr.mk.injEq, Option.map_some, Option.getD_some, Option.getD_none, Option.isSome_some, Option.isSome_none, Option.isNone_some, Option.isNone_none, List.all_cons, List.all_nil, List.length_cons, List.length_nil, List.set_cons_zero, List.set_cons_succ, List.getElem?_cons_zero, List.getElem?_cons_succ, List.getElem?_nil, Option.some.injEq, Value.int.injEq, Value.bool.injEq, Value.string.injEq, Value.pointer.injEq, Value.map.injEq, Prod.mk.injEq, exists_eq_left, exists_eq_left', if_true, if_false, decide_true, decide_false, Nat.reduceAdd, Nat.reduceLT, Nat.reduceLeDiff, Nat.reduceEqDiff, Nat.reduceMul, reduceCtorEq, beq_self_eq_true]) (by simp (maxDischargeDepth := 60) only [evAll, listPuts, Addr.mk.injEq, Option.map_some, Option.getD_some, Option.getD_none, Option.isSome_some, Option.isSome_none, Option.isNone_some, Option.isNone_none, List.all_cons, List.all_nil, List.length_cons, List.length_nil, List.set_cons_zero, List.set_cons_succ, List.getElem?_cons_zero, List.getElem?_cons_succ, List.getElem?_nil, Option.some.injEq, Value.int.injEq, Value.bool.injEq, Value.string.injEq, Value.pointer.injEq, Value.map.injEq, Prod.mk.injEq, exists_eq_left, exists_eq_left', if_true, if_false, decide_true, decide_false, Nat.reduceAdd, Nat.reduceLT, Nat.reduceLeDiff, Nat.reduceEqDiff, Nat.reduceMul, reduceCtorEq, beq_self_eq_true]), bindI_ev]
  have e8 : Ext h7 (Heap.puts (h7.push (.cells [iv 0, .int .u8 0, iv 0, iv 0, iv 0].toArray 36 (0, 0))) (sz h7) 0 [iv 4, .int .u8 7, iv 0, iv 0, iv 0]) := ext_puts (ext_push (Ext.refl _)) (Nat.le_refl _)
  have b8 : obj (Heap.puts (h7.push (.cells [iv 0, .int .u8 0, iv 0, iv 0, iv 0].toArray 36 (0, 0))) (sz h7) 0 [iv 4, .int .u8 7, iv 0, iv 0, iv 0]) (sz h7) = some (.cells [iv 4, .int .u8 7, iv 0, iv 0, iv 0].toArray 36 (0, 0)) := by simp (maxDischargeDepth := 60) only [evAll, listPuts, Addr.mk.injEq, Option.map_some, Option.getD_some, Option.getD_none, Option.isSome_some, Option.isSome_none, Option.isNone_some, Option.isNone_none, List.all_cons, List.all_nil, List.length_cons, List.length_nil, List.set_cons_zero, List.set_cons_succ, List.getElem?_cons_zero, List.getElem?_cons_succ, List.getElem?_nil, Option.some.injEq, Value.int.injEq, Value.bool.injEq, Value.string.injEq, Value.pointer.injEq, Value.map.injEq, Prod.mk.injEq, exists_eq_left, exists_eq_left', if_true, if_false, decide_true, decide_false, Nat.reduceAdd, Nat.reduceLT, Nat.reduceLeDiff, Nat.reduceEqDiff, Nat.reduceMul, reduceCtorEq, beq_self_eq_true]
  generalize Heap.puts (h7.push (.cells [iv 0, .int .u8 0, iv 0, iv 0, iv 0].toArray 36 (0, 0))) (sz h7) 0 [iv 4, .int .u8 7, iv 0, iv 0, iv 0] = h8 at e8 b8 ⊢
  have t7 : T7 (sz h7) = none := hS7.no (Nat.le_refl _)
  have t7a : T7 (sz h5) = none := by
    cases h9 : T7 (sz h5) with
    | none => rfl
    | some t =>
      rcases st7.new (sz h5) (by rw [h9]; exact fun e => by cases e) with h8 | h8
      · exact (h8 t5).elim
      · have := obj_lt a6; rw [size_def] at h8; omega
  have a8 := keepX a7 e8
  have hS8 := hS7.ext e8
  refine Do_spec hS8 (LS3_ok _ _) (r := (5, 1, 1, 1, nE, 0, ())) (by decide) fun h9 T9 hS9 st9 => ?_
  rw [l_do3] at hS9 ⊢
  dsimp only at hS9 ⊢
  have a9 := keepU a8 st9.upd (fun e => e t7a)
  have b9 := keepU b8 st9.upd (fun e => e t7)
  rw [newC_ev, sts_ev (by simp (maxDischargeDepth := 60) only [evAll, listPuts, Addr.mk.injEq, Option.map_some, Option.getD_some, Option.getD_none, Option.isSome_some, Option.isSome_none, Option.isNone_some, Option.isNone_none, List.all_cons, List.all_nil, List.length_cons, List.length_nil, List.set_cons_zero, List.set_cons_succ, List.getElem?_cons_zero, List.getElem?_cons_succ, List.getElem?_nil, Option.some.injEq, Value.int.injEq, Value.bool.injEq, Value.string.injEq, Value.pointer.injEq, Value.map.injEq, Prod.mk.injEq, exists_eq_left, exists_eq_left', if_true, if_false, decide_true, decide_false, Nat.reduceAdd, Nat.reduceLT, Nat.reduceLeDiff, Nat.reduceEqDiff, Nat.reduceMul, reduceCtorEq, beq_self_eq_true]) (by simp (maxDischargeDepth := 60) only [evAll, listPuts, Addr.mk.injEq, Option.map_some, Option.getD_some, Option.getD_none, Option.isSome_some, Option.isSome_none, Option.isNone_some, Option.isNone_none, List.all_cons, List.all_nil, List.length_cons, List.length_nil, List.set_cons_zero, List.set_cons_succ, List.getElem?_cons_zero, List.getElem?_cons_succ, List.getElem?_nil, Option.some.injEq, Value.int.injEq, Value.bool.injEq, Value.string.injEq, Value.pointer.injEq, Value.map.injEq, Prod.mk.injEq, exists_eq_left, exists_eq_left', if_true, if_false, decide_true, decide_false, Nat.reduceAdd, Nat.reduceLT, Nat.reduceLeDiff, Nat.reduceEqDiff, Nat.reduceMul, reduceCtorEq, beq_self_eq_true]), bindI_ev]
  have e10 : Ext h9 (Heap.puts (h9.push (.cells [iv 0, .int .u8 0, iv 0, iv 0, iv 0].toArray 36 (0, 0))) (sz h9) 0 [iv 5, .int .u8 1, iv 4, iv 0, iv 0]) := ext_puts (ext_push (Ext.refl _)) (Nat.le_refl _)
  have c10 : obj (Heap.puts (h9.push (.cells [iv 0, .int .u8 0, iv 0, iv 0, iv 0].toArray 36 (0, 0))) (sz h9) 0 [iv 5, .int .u8 1, iv 4, iv 0, iv 0]) (sz h9) = some (.cells [iv 5, .int .u8 1, iv 4, iv 0, iv 0].toArray 36 (0, 0)) := by simp (maxDischargeDepth := 60) only [evAll, listPuts, Addr.mk.injEq, Option.map_some, Option.getD_some, Option.getD_none, Option.isSome_some, Option.isSome_none, Option.isNone_some, Option.isNone_none, List.all_cons, List.all_nil, List.length_cons, List.length_nil, List.set_cons_zero, List.set_cons_succ, List.getElem?_cons_zero, List.getElem?_cons_succ, List.getElem?_nil, Option.some.injEq, Value.int.injEq, Value.bool.injEq, Value.string.injEq, Value.pointer.injEq, Value.map.injEq, Prod.mk.injEq, exists_eq_left, exists_eq_left', if_true, if_false, decide_true, decide_false, Nat.reduceAdd, Nat.reduceLT, Nat.reduceLeDiff, Nat.reduceEqDiff, Nat.reduceMul, reduceCtorEq, beq_self_eq_true]
  generalize Heap.puts (h9.push (.cells [iv 0, .int .u8 0, iv 0, iv 0, iv 0].toArray 36 (0, 0))) (sz h9) 0 [iv 5, .int .u8 1, iv 4, iv 0, iv 0] = h10 at e10 c10 ⊢
  have gone : ∀ k, T7 k = none → k < sz h8 → T9 k = none := fun k h1 h2 => by
    cases h9 : T9 k with
    | none => rfl
    | some t =>
      rcases st9.new k (by rw [h9]; exact fun e => by cases e) with h8 | h8
      · exact (h8 h1).elim
      · rw [size_def] at h8; omega
  have t9 : T9 (sz h9) = none := hS9.no (Nat.le_refl _)
  have t9a : T9 (sz h5) = none := gone _ t7a (obj_lt a8)
  have t9b : T9 (sz h7) = none := gone _ t7 (obj_lt b8)
  have a10 := keepX a9 e10
  have b10 := keepX b9 e10
  have hS10 := hS9.ext e10
  refine Do_spec hS10 (LS3_ok _ _) (r := (6, 1, 1, 5, nE, 0, ())) (by decide) fun h11 T11 hS11 st11 => ?_
  rw [l_do4]
  dsimp only
  have a11 := keepU a10 st11.upd (fun e => e t9a)
  have b11 := keepU b10 st11.upd (fun e => e t9b)
  have c11 := keepU c10 st11.upd (fun e => e t9)
  have la := obj_lt a11
  have lb := obj_lt b11
  have lc := obj_lt c11
  have hall : Ext h h11 := by
    have s3 : ∀ k, T1 k ≠ none → sz h ≤ k := t1
    have low3 : ∀ k, T3 k ≠ none → sz h ≤ k := fun k hk => (st3.new k hk).elim (s3 k) fun h9 => Nat.le_trans (e1.trans e2).size h9
    have low5 : ∀ k, T5 k ≠ none → sz h ≤ k := fun k hk => (st5.new k hk).elim (low3 k) fun h9 => Nat.le_trans (Nat.le_trans (Nat.le_trans (e1.trans e2).size st3.upd.size) st4.upd.size) h9
    have x3 : Ext h h3 := (e1.trans e2).then st3.upd s3
    have x4 : Ext h h4 := x3.then st4.upd low3
    have x5 : Ext h h5 := x4.then st5.upd low3
    have x6 := x5.trans e6
    have x7 : Ext h h7 := x6.then st7.upd low5
    have low7 : ∀ k, T7 k ≠ none → sz h ≤ k := fun k hk => (st7.new k hk).elim (low5 k) fun h9 => Nat.le_trans x6.size h9
    have x8 := x7.trans e8
    have x9 : Ext h h9 := x8.then st9.upd low7
    have low9 : ∀ k, T9 k ≠ none → sz h ≤ k := fun k hk => (st9.new k hk).elim (low7 k) fun h9 => Nat.le_trans x8.size h9
    exact (x9.trans e10).then st11.upd low9
  have hfin : ∀ vs, Ext h (Heap.puts (h11.push (.cells [iv 0, .int .u8 0, iv 0, iv 0, iv 0].toArray 36 (0, 0))) (sz h11) 0 vs) := fun vs => ext_puts (ext_push hall) hall.size
  simp (maxDischargeDepth := 60) only [evAll, listPuts, Addr.mk.injEq, Option.map_some, Option.getD_some, Option.getD_none, Option.isSome_some, Option.isSome_none, Option.isNone_some, Option.isNone_none, List.all_cons, List.all_nil, List.length_cons, List.length_nil, List.set_cons_zero, List.set_cons_succ, List.getElem?_cons_zero, List.getElem?_cons_succ, List.getElem?_nil, Option.some.injEq, Value.int.injEq, Value.bool.injEq, Value.string.injEq, Value.pointer.injEq, Value.map.injEq, Prod.mk.injEq, exists_eq_left, exists_eq_left', if_true, if_false, decide_true, decide_false, Nat.reduceAdd, Nat.reduceLT, Nat.reduceLeDiff, Nat.reduceEqDiff, Nat.reduceMul, reduceCtorEq, beq_self_eq_true, a11, b11, c11, lt_ne0 la, lt_ne0 lb, lt_ne0 lc, cond_true]
  exact hk _ (hfin _)
end Go.Proofs.Ytledmkhbaacdnaa
