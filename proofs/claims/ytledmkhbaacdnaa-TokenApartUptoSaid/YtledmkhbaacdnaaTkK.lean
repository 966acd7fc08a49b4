/- The token server: a token given back. -/
import Derived.Test.YtledmkhbaacdnaaTkJ
namespace Go.Proofs.Ytledmkhbaacdnaa
open Go Go.Fw
set_option linter.unusedSimpArgs false
set_option linter.unusedVariables false

theorem clrS_mono {s : Sl} {zs : List Value} {h : Heap} {K K' : Heap → Prop} (hc : clrS s zs h K) (hk : ∀ h', K h' → K' h') : clrS s zs h K' := by
  rcases hc with ⟨h1, h2⟩ | ⟨h1, h2⟩ | ⟨b, o, h1, h2, h3, h4⟩
  · exact .inl ⟨h1, hk _ h2⟩
  · exact .inr (.inl ⟨h1, hk _ h2⟩)
  · exact .inr (.inr ⟨b, o, h1, h2, h3, hk _ h4⟩)
theorem flat_drop {α : Type} {g : α → List Value} {n : Nat} (hg : ∀ a, (g a).length = n) : ∀ (l : List α) (k : Nat), (l.drop k).flatMap g = (l.flatMap g).drop (k * n)
  | [], k => by simp
  | x :: l, 0 => by simp
  | x :: l, k + 1 => by
    rw [List.drop_succ_cons, List.flatMap_cons, flat_drop hg l k, show (k + 1) * n = (g x).length + k * n from by rw [hg, Nat.succ_mul]; omega, List.drop_length_add_append]
theorem erase_split {α : Type} (l : List α) (i : Nat) : l.eraseIdx i = l.take i ++ l.drop (i + 1) := List.eraseIdx_eq_take_drop_succ l i

/-- an element is cut out of a row -/
theorem own_delete {α : Type} {g : α → List Value} {n bytes : Nat} (hg : ∀ a, (g a).length = n) {h : Heap} {base : Nat} {s : Sl} {l : List α} (ho : Own h base s n (l.flatMap g)) (hn : 0 < n) {i : Nat} (hi : i < l.length) {zs : List Value} (hz : zs.length = n) (hone : zs.all oneCell = true) (hga : (l.flatMap g).all oneCell = true) {elem : TypeId} {K : Sl → Heap → Prop}
    (hK : ∀ t h', Own h' base t n ((l.eraseIdx i).flatMap g) → t.blk = s.blk → Upd (fun k => s.blk = some k) h h' → K t h') :
    slc s.ptr s.cap n (i : Int) ((i + 1 : Nat) : Int) (s.len : Int) fun _ => iteP ((i : Int) == ((i + 1 : Nat) : Int)) (K s h) (bindI (s.len : Int) fun oldlen => slc s.ptr s.cap n 0 (i : Int) s.cap fun t1 => slc s.ptr s.cap n ((i + 1 : Nat) : Int) s.len s.cap fun t2 =>
      rdS t2 n h fun new => app elem n bytes zs t1 t2.len new h fun t3 h4 => slc t3.ptr t3.cap n (t3.len : Int) oldlen t3.cap fun t5 => clrS t5 zs h4 fun h6 => K t3 h6) := by
  have hl := rowLen hg ho.row hn
  have hc := ho.cap
  have hflat := flat_len hg l
  obtain ⟨b, hp, hb⟩ := Own.ptr_ ho (o := i * n) (by rw [hflat]; exact Nat.mul_lt_mul_of_pos_right hi hn)
  have hp0 : slPtr s.ptr 0 s.cap n = s.ptr := by rw [hp]; exact slPtr0
  refine ⟨by omega, by omega, by omega, by omega, iteP_neg (by rw [beq_eq_false_iff_ne]; omega) (bindI_intro ⟨by omega, by omega, by omega, by omega, ⟨by omega, by omega, by omega, by omega, ?_⟩⟩)⟩
  simp only [Int.toNat_natCast, Int.toNat_zero, Nat.sub_zero, hp0]
  -- the elements behind
  have hrest : ∀ (R : List Value → Prop), R ((l.drop (i + 1)).flatMap g) → rdS ⟨slPtr s.ptr (i + 1) s.cap n, s.len - (i + 1), s.cap - (i + 1)⟩ n h R := fun R hR => by
    by_cases h0 : s.len - (i + 1) = 0
    · refine .inl ⟨h0, ?_⟩
      rw [List.drop_of_length_le (by omega)] at hR
      simpa using hR
    · refine .inr ⟨b, (i + 1) * n, _, ?_, ?_, ?_, hR⟩
      · show slPtr s.ptr (i + 1) s.cap n = _
        rw [hp]
        unfold slPtr
        rw [if_neg (by omega)]
        simp [Addr.add]
        exact fun h => h.symm
      · rw [flat_len hg, List.length_drop, hl]
      · rw [flat_drop hg]
        have hhas : h.has b 0 (l.flatMap g) := by
          rcases ho.row.at_ with h1 | ⟨b', o', hp', hh⟩
          · omega
          · rw [hp] at hp'
            cases hp'
            exact hh
        have := has_sub hhas ((i + 1) * n) ((l.flatMap g).drop ((i + 1) * n)).length
        rw [List.take_length, Nat.zero_add] at this
        exact this
  refine hrest _ ?_
  have hws : ((l.drop (i + 1)).flatMap g).length = (l.length - (i + 1)) * n := by rw [flat_len hg, List.length_drop]
  have hle : i * n + ((l.drop (i + 1)).flatMap g).length ≤ (l.flatMap g).length := by
    rw [hws, hflat, ← Nat.add_mul]
    exact Nat.mul_le_mul_right _ (by omega)
  have hwa : ((l.drop (i + 1)).flatMap g).all oneCell = true := by
    rw [List.all_eq_true] at hga ⊢
    intro x hx
    rw [flat_drop hg] at hx
    exact hga x (List.mem_of_mem_drop hx)
  refine ⟨fun _ => .inr ⟨b, 0, hp, ?_⟩, fun hgt => by dsimp only at hgt; omega⟩
  rw [Nat.zero_add]
  refine puts_own (K := fun h4 => slc s.ptr s.cap n ((i + (s.len - (i + 1)) : Nat) : Int) (s.len : Int) (s.cap : Int) fun t5 => clrS t5 zs h4 fun h6 => K ⟨s.ptr, i + (s.len - (i + 1)), s.cap⟩ h6) ho hb (o := i * n) hle hwa fun h4 ho4 hu4 hz4 => ?_
  -- the last element stands twice now
  have e1 : (l.flatMap g).take (i * n) ++ (l.drop (i + 1)).flatMap g ++ (l.flatMap g).drop (i * n + ((l.drop (i + 1)).flatMap g).length) = (l.eraseIdx i ++ l.drop (l.length - 1)).flatMap g := by
    rw [hws, ← Nat.add_mul, show i + (l.length - (i + 1)) = l.length - 1 from by omega, ← flat_take hg, ← flat_drop hg, erase_split, List.flatMap_append, List.flatMap_append]
  rw [e1] at ho4
  have hlen2 : (l.eraseIdx i ++ l.drop (l.length - 1)).length = l.length := by
    rw [List.length_append, List.length_eraseIdx_of_lt hi, List.length_drop]
    omega
  have hm : i + (s.len - (i + 1)) = l.length - 1 := by omega
  have := own_cut hg ho4 hn (k := l.length - 1) (by omega) (m := ((i + (s.len - (i + 1)) : Nat) : Int)) (by rw [hm]) hz hone (K := K) fun t h' ho' hb' hu' hz' => hK t h' (by
    rw [List.take_left' (by rw [List.length_eraseIdx_of_lt hi])] at ho'
    exact ho') hb' (hu4.trans hu')
  obtain ⟨q1, q2, q3, q4, q5⟩ := this
  refine ⟨q1, q2, q3, q4, clrS_mono q5 fun h6 ⟨_, _, _, _, q⟩ => ?_⟩
  simp only [Int.toNat_natCast, Int.toNat_zero, Nat.sub_zero, hp0] at q
  exact q

def numF (number : Int) (t : F4) : Bool := t.1 == number
theorem giveIx_spec {ab : Nat} {number : Int} {h : Heap} {T : TypeId} (hc : obj h ab = some (.cells [iv number].toArray T (0, 0))) {s : Sl} {l : List F4} (hr : Row h s 4 (l.flatMap f4L)) {K : Int → Heap → Prop}
    (hk : ∀ h', Ext h h' → K (ixV (numF number) l) h') : m_slices_IndexFunc_token_Token_token_Token___token_Server_giveBack_1 s (some ⟨ab, 0, none⟩, ()) K h := by
  unfold m_slices_IndexFunc_token_Token_token_Token___token_Server_giveBack_1 g_slices_IndexFunc_token_Token_token_Token___token_Server_giveBack_1
  refine index_loop f4L_len hr (by decide) (p := numF number) (tst := fun Q b o h3 => ldI h3 b o .i64 fun t4 => ldI h3 b (o + 1) .i64 fun t5 => ldI h3 b (o + 2) .i64 fun t6 => ldI h3 b (o + 3) .i64 fun t7 => m_token_Server_giveBack_1 (t4, t5, t6, t7, ()) (some ⟨ab, 0, none⟩) Q h3) ?_ hk
  intro i a b o hh Q ha he hcell hQ
  have v0 := hcell 0 _ rfl
  have v1 := hcell 1 _ rfl
  have v2 := hcell 2 _ rfl
  have v3 := hcell 3 _ rfl
  simp only [Nat.add_zero] at v0
  have c1 := keepX hc he
  have l1 := obj_lt c1
  unfold m_token_Server_giveBack_1 g_token_Server_giveBack_1
  simp (maxDischargeDepth := 60) only [evAll, listPuts, Addr.mk.injEq, Option.map_some, Option.getD_some, Option.getD_none, Option.isSome_some, Option.isSome_none, Option.isNone_some, Option.isNone_none, List.all_cons, List.all_nil, List.length_cons, List.length_nil, List.set_cons_zero, List.set_cons_succ, List.getElem?_cons_zero, List.getElem?_cons_succ, List.getElem?_nil, Option.some.injEq, Value.int.injEq, Value.bool.injEq, Value.string.injEq, Value.pointer.injEq, Value.map.injEq, Prod.mk.injEq, exists_eq_left, exists_eq_left', if_true, if_false, decide_true, decide_false, Nat.reduceAdd, Nat.reduceLT, Nat.reduceLeDiff, Nat.reduceEqDiff, Nat.reduceMul, reduceCtorEq, beq_self_eq_true, v0, v1, v2, v3, c1, lt_ne0 l1]
  exact hQ _ (ext_push he)

theorem tokDelete_spec {h : Heap} {base : Nat} {s : Sl} {l : List F4} (ho : Own h base s 4 (l.flatMap f4L)) {i : Nat} (hi : i < l.length) {m : Int} (hm : m = ((i + 1 : Nat) : Int)) {K : Sl → Heap → Prop}
    (hK : ∀ t h', Own h' base t 4 ((l.eraseIdx i).flatMap f4L) → t.blk = s.blk → Upd (fun k => s.blk = some k) h h' → K t h') : m_slices_Delete_token_Token_token_Token_ s (i : Int) m K h := by
  subst hm
  unfold m_slices_Delete_token_Token_token_Token_ g_slices_Delete_token_Token_token_Token_
  exact own_delete f4L_len ho (by decide) hi (zs := [.int .i64 0, .int .i64 0, .int .i64 0, .int .i64 0]) rfl (by simp [one_int]) (f4L_all _) hK
def giveV (S : Srv) (at_ : Int) (ns : ByteArray) (number : Int) : Int × List F4 :=
  match (aliveV at_ S.out).findIdx? (numF number) with
  | none => (4, S.out)
  | some i => if (flowV S.spaces ns ((aliveV at_ S.out)[i]?.getD zF).2.1).isSome then (8, (aliveV at_ S.out).eraseIdx i) else (4, S.out)

theorem giveV_none {S : Srv} {at_ number : Int} {ns : ByteArray} (hf : (aliveV at_ S.out).findIdx? (numF number) = none) : giveV S at_ ns number = (4, S.out) := by unfold giveV; rw [hf]
theorem giveV_mine {S : Srv} {at_ number : Int} {ns : ByteArray} {i : Nat} {a : F4} (hf : (aliveV at_ S.out).findIdx? (numF number) = some i) (ha : (aliveV at_ S.out)[i]? = some a) (hs : (flowV S.spaces ns a.2.1).isSome = true) : giveV S at_ ns number = (8, (aliveV at_ S.out).eraseIdx i) := by
  unfold giveV; rw [hf]; dsimp only; rw [ha]; exact if_pos hs
theorem giveV_not {S : Srv} {at_ number : Int} {ns : ByteArray} {i : Nat} {a : F4} (hf : (aliveV at_ S.out).findIdx? (numF number) = some i) (ha : (aliveV at_ S.out)[i]? = some a) (hs : (flowV S.spaces ns a.2.1).isSome = false) : giveV S at_ ns number = (4, S.out) := by
  unfold giveV; rw [hf]; dsimp only; rw [ha]; exact if_neg (by rw [show (some a).getD zF = a from rfl, hs]; decide)
theorem give_spec {h : Heap} {T : Nat → Option Nat} {sb cb nb : Nat} {sp so : Sl} {ls : List Sp3} {S : Srv} (hR : SrvR h T sb cb nb sp so ls S) (hl : S.out.length ≤ 4096) {at_ : Int} {ns : ByteArray} {number : Int} {K : Int → Heap → Prop}
    (hk : ∀ h' T' so', SrvR h' T' sb cb nb sp so' ls { S with out := (giveV S at_ ns number).2 } → Stp T T' h h' → K (giveV S at_ ns number).1 h') : m_token_Server_giveBack (some ⟨sb, 0, none⟩) at_ ns number K h := by
  unfold m_token_Server_giveBack g_token_Server_giveBack
  have l0 := obj_lt hR.cells
  simp (maxDischargeDepth := 60) only [evAll, listPuts, Addr.mk.injEq, Option.map_some, Option.getD_some, Option.getD_none, Option.isSome_some, Option.isSome_none, Option.isNone_some, Option.isNone_none, List.all_cons, List.all_nil, List.length_cons, List.length_nil, List.set_cons_zero, List.set_cons_succ, List.getElem?_cons_zero, List.getElem?_cons_succ, List.getElem?_nil, Option.some.injEq, Value.int.injEq, Value.bool.injEq, Value.string.injEq, Value.pointer.injEq, Value.map.injEq, Prod.mk.injEq, exists_eq_left, exists_eq_left', if_true, if_false, decide_true, decide_false, Nat.reduceAdd, Nat.reduceLT, Nat.reduceLeDiff, Nat.reduceEqDiff, Nat.reduceMul, reduceCtorEq, beq_self_eq_true]
  have e1 := Ext.push h (.cells [iv number].toArray 3 (0, 0))
  have hR1 := hR.ext e1
  refine alive_spec hR1.cells hR1.out hl fun t2 h2 ho2 e2 => ?_
  have c2 : obj h2 (sz h) = some (.cells [iv number].toArray 3 (0, 0)) := keepX (by simp (maxDischargeDepth := 60) only [evAll, listPuts, Addr.mk.injEq, Option.map_some, Option.getD_some, Option.getD_none, Option.isSome_some, Option.isSome_none, Option.isNone_some, Option.isNone_none, List.all_cons, List.all_nil, List.length_cons, List.length_nil, List.set_cons_zero, List.set_cons_succ, List.getElem?_cons_zero, List.getElem?_cons_succ, List.getElem?_nil, Option.some.injEq, Value.int.injEq, Value.bool.injEq, Value.string.injEq, Value.pointer.injEq, Value.map.injEq, Prod.mk.injEq, exists_eq_left, exists_eq_left', if_true, if_false, decide_true, decide_false, Nat.reduceAdd, Nat.reduceLT, Nat.reduceLeDiff, Nat.reduceEqDiff, Nat.reduceMul, reduceCtorEq, beq_self_eq_true]) e2
  refine giveIx_spec c2 ho2.row fun h5 e5 => ?_
  have e15 := (e1.trans e2).trans e5
  have hR5 := hR.ext e15
  have ho5 := ho2.congr (h' := h5) fun b hb _ _ => e5.old b (ho2.lt hb).2
  have hlen := rowLen f4L_len ho2.row (by decide)
  cases hf : (aliveV at_ S.out).findIdx? (numF number) with
  | none =>
    rw [giveV_none hf] at hk
    rw [ixV_none hf]
    exact iteP_true (hk h5 T so hR5 ⟨e15.upd _, fun _ h => .inl h⟩)
  | some i =>
    rw [ixV_some hf]
    obtain ⟨hil, _, _⟩ := List.findIdx?_eq_some_iff_getElem.1 hf
    obtain ⟨a, ha⟩ : ∃ a, (aliveV at_ S.out)[i]? = some a := ⟨_, List.getElem?_eq_getElem hil⟩
    have hbig := ho2.big
    have hcap := ho2.cap
    refine iteP_neg (by simp) ?_
    obtain ⟨b7, o, hb7, _, hidx, hcell⟩ := elemR f4L_len ho5.row ha (by decide)
    refine hidx rfl ?_
    have v1 := hcell 1 _ rfl
    simp (maxDischargeDepth := 60) only [evAll, listPuts, Addr.mk.injEq, Option.map_some, Option.getD_some, Option.getD_none, Option.isSome_some, Option.isSome_none, Option.isNone_some, Option.isNone_none, List.all_cons, List.all_nil, List.length_cons, List.length_nil, List.set_cons_zero, List.set_cons_succ, List.getElem?_cons_zero, List.getElem?_cons_succ, List.getElem?_nil, Option.some.injEq, Value.int.injEq, Value.bool.injEq, Value.string.injEq, Value.pointer.injEq, Value.map.injEq, Prod.mk.injEq, exists_eq_left, exists_eq_left', if_true, if_false, decide_true, decide_false, Nat.reduceAdd, Nat.reduceLT, Nat.reduceLeDiff, Nat.reduceEqDiff, Nat.reduceMul, reduceCtorEq, beq_self_eq_true, v1]
    refine flow_spec hR5.cells hR5.spaces hR5.names fun h11 e11 => ?_
    have e12 : Ext h11 (Heap.puts (h11.push (.cells [iv 0, iv 0, iv 0, iv 0].toArray 53 (0, 0))) (sz h11) 0 (f4L ((flowV S.spaces ns a.2.1).getD zF))) := ext_puts (ext_push (Ext.refl _)) (Nat.le_refl _)
    have ea := e11.trans e12
    have hRa := hR5.ext ea
    have hoa := ho5.congr (fun b hb _ _ => ea.old b (ho5.lt hb).2)
    cases hs : (flowV S.spaces ns a.2.1).isSome with
    | false =>
      rw [giveV_not hf ha hs] at hk
      exact iteP_true (hk _ T so hRa ⟨(e15.trans ea).upd _, fun _ h => .inl h⟩)
    | true =>
      rw [giveV_mine hf ha hs] at hk
      refine iteP_false ?_
      have hw : IntKind.wrap .i64 ((i : Int) + 1) = ((i + 1 : Nat) : Int) := by rw [wrap64 (by omega) (by omega)]; rfl
      have hzz : sz h ≤ h2.size := (e1.trans e2).size
      refine tokDelete_spec hoa hil hw fun t16 h17 ho17 hb17 hu17 => ?_
      have hn : ∀ k, t16.blk = some k → T k = none := fun k hk => by
        rw [hb17] at hk
        have h9 := (ho2.lt hk).1
        cases hT : T k with
        | none => rfl
        | some t =>
          have := hR.lt k (by rw [hT]; exact fun e => by cases e)
          rw [size_def, sz_push] at h9
          omega
      have hu1 : Ext h h17 := (e15.trans ea).then hu17 fun k hk => by
        rw [← hb17] at hk
        rw [hb17] at hk
        have h9 := (ho2.lt hk).1
        rw [size_def, sz_push] at h9
        show sz h ≤ k
        omega
      have hR17 := hR.ext hu1
      have l17 := obj_lt hR17.cells
      simp (maxDischargeDepth := 60) only [evAll, listPuts, Addr.mk.injEq, Option.map_some, Option.getD_some, Option.getD_none, Option.isSome_some, Option.isSome_none, Option.isNone_some, Option.isNone_none, List.all_cons, List.all_nil, List.length_cons, List.length_nil, List.set_cons_zero, List.set_cons_succ, List.getElem?_cons_zero, List.getElem?_cons_succ, List.getElem?_nil, Option.some.injEq, Value.int.injEq, Value.bool.injEq, Value.string.injEq, Value.pointer.injEq, Value.map.injEq, Prod.mk.injEq, exists_eq_left, exists_eq_left', if_true, if_false, decide_true, decide_false, Nat.reduceAdd, Nat.reduceLT, Nat.reduceLeDiff, Nat.reduceEqDiff, Nat.reduceMul, reduceCtorEq, beq_self_eq_true, hR17.cells]
      have hsb : t16.blk ≠ some sb := fun e => by
        have := hn sb e
        rw [hR.tsb] at this
        cases this
      have hub : Upd (· = sb) h17 (h17.put sb 5 (slV t16)) := Upd.put _ _ _ _
      refine hk _ _ t16 (hR17.setO (n := S.next) (hub.mono fun k _ hk => .inl hk) ?_ ((ho17.congr fun b hb _ _ => hub.old b (ho17.lt hb).2 fun e => hsb (by rw [hb, e])).base (Nat.zero_le _)) fun k hk => .inr (hn k hk)) ⟨(hu1.upd _).trans (hub.mono fun k _ hk => by subst hk; rw [hR.tsb]; exact fun e => by cases e), fun k hk => ?_⟩
      · simp (maxDischargeDepth := 60) only [evAll, listPuts, Addr.mk.injEq, Option.map_some, Option.getD_some, Option.getD_none, Option.isSome_some, Option.isSome_none, Option.isNone_some, Option.isNone_none, List.all_cons, List.all_nil, List.length_cons, List.length_nil, List.set_cons_zero, List.set_cons_succ, List.getElem?_cons_zero, List.getElem?_cons_succ, List.getElem?_nil, Option.some.injEq, Value.int.injEq, Value.bool.injEq, Value.string.injEq, Value.pointer.injEq, Value.map.injEq, Prod.mk.injEq, exists_eq_left, exists_eq_left', if_true, if_false, decide_true, decide_false, Nat.reduceAdd, Nat.reduceLT, Nat.reduceLeDiff, Nat.reduceEqDiff, Nat.reduceMul, reduceCtorEq, beq_self_eq_true, hR17.cells]
      · split at hk
        · rename_i hb
          right
          rw [hb17] at hb
          have h9 := (ho2.lt hb).1
          rw [size_def, sz_push] at h9
          rw [size_def]
          omega
        · exact .inl hk
end Go.Proofs.Ytledmkhbaacdnaa
