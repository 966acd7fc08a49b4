/- What the reference's client does: fall, Tick, send, later, Dial, Up, Refused, down, Lost. -/
import Derived.Test.YtcmedplogmjiiaaGreatClK
namespace Go.Proofs.YtcmedplogmjiiaaGreat
open Go Go.Fw

theorem Row.slcK {h : Heap} {s : Sl} {size : Nat} {vs : List Value} (hr : Row h s size vs) {lo hi mx : Int} {a b m : Nat} (ea : lo = a) (eb : hi = b) (em : mx = m) (h1 : a ≤ b) (h2 : b ≤ s.len) (h2' : b ≤ m) (h3 : m ≤ s.cap) {K : Sl → Prop}
    (hk : ∀ s', Row h s' size ((vs.drop (a * size)).take ((b - a) * size)) → s'.len = b - a → K s') : Fw.slc s.ptr s.cap size lo hi mx K := by
  subst ea eb em
  refine ⟨by omega, by omega, by omega, by omega, ?_⟩
  have hl := hr.len
  have hm : (b - a) * size + a * size = b * size := by rw [← Nat.add_mul]; congr 1; omega
  have hm2 : b * size ≤ s.len * size := Nat.mul_le_mul_right _ h2
  refine hk _ ⟨?_, ?_, ?_, ?_⟩ ?_
  · simp; omega
  · simp; omega
  · have := hr.big; simp; omega
  · simp only [Int.toNat_natCast]
    rcases Nat.eq_zero_or_pos (b - a) with h0 | h0
    · exact .inl h0
    · right
      rcases hr.at_ with h9 | ⟨bb, o, hp, hh⟩
      · omega
      · refine ⟨bb, o + a * size, ?_, has_sub hh (a * size) ((b - a) * size)⟩
        unfold slPtr
        rw [if_neg (by omega), hp]
        simp only [Option.map_some]
        unfold Addr.add
        split
        · rename_i h; rw [h]; rfl
        · rfl
  · simp

theorem wait_idx {h : Heap} {base : Nat} {s : Sl} {l : List (Int × Int)} (ho : Own h base s 2 (l.flatMap wC)) {n : Nat} {p : Int × Int} (hp : l[n]? = some p) {k : Int} (hi : k = (n : Int)) {K : Nat → Nat → Prop}
    (hk : ∀ b o, s.blk = some b → h.cell b o = some (iv p.1) → h.cell b (o + 1) = some (iv p.2) → K b o) : idxA s.ptr s.len k 2 K := by
  subst hi
  have hl := ho.len
  rw [flat_len wC_len] at hl
  have hlt : n < l.length := (List.getElem?_eq_some_iff.1 hp).1
  obtain ⟨b, hptr, hb⟩ := Own.ptr_ ho (o := 0) (by rw [flat_len wC_len]; omega)
  refine ⟨b, 0, hptr, by omega, by omega, ?_⟩
  have e : 0 + (n : Int).toNat * 2 = n * 2 := by omega
  rw [e]
  refine hk b _ hb (Own.cell_ ho hb (o := n * 2 + 0) (by rw [flat_get wC_len l n 0 p hp (by omega)]; rfl)) (Own.cell_ ho hb (by rw [flat_get wC_len l n 1 p hp (by omega)]; rfl))
theorem wlen {h : Heap} {base : Nat} {s : Sl} {l : List (Int × Int)} (ho : Own h base s 2 (l.flatMap wC)) : s.len = l.length := by
  have := ho.len
  rw [flat_len wC_len] at this
  omega
theorem tlen {h : Heap} {base : Nat} {s : Sl} {l : List Tld} (ho : Own h base s 7 (l.flatMap tC)) : s.len = l.length := by
  have := ho.len
  rw [flat_len tC_len] at this
  omega
theorem flat_drop (l : List (Int × Int)) (k : Nat) : (l.flatMap wC).drop (k * 2) = (l.drop k).flatMap wC := by
  induction k generalizing l with
  | zero => simp
  | succ k ih =>
    cases l with
    | nil => simp
    | cons p l =>
      rw [List.flatMap_cons, List.drop_succ_cons, ← ih l, Nat.succ_mul, Nat.add_comm, ← List.drop_drop]
      rfl
theorem flat_take (l : List (Int × Int)) (k : Nat) : (l.flatMap wC).take (k * 2) = (l.take k).flatMap wC := by
  induction k generalizing l with
  | zero => simp
  | succ k ih =>
    cases l with
    | nil => simp
    | cons p l =>
      rw [List.take_succ_cons, List.flatMap_cons, List.flatMap_cons, ← ih l, Nat.succ_mul, Nat.add_comm, show 2 + k * 2 = (wC p).length + k * 2 from rfl, List.take_length_add_append]

/-- the rows that are put together anew: what is ahead of i, and what is behind it -/
theorem cut_out {h : Heap} {T : Nat → Option Nat} {cb rb : Nat} {sl so st sb : Sl} {c : Cl} (hR : RfR h T cb rb sl so st sb c) (hwl : c.waits.length ≤ 1099511627776) {i : Nat} (hi : i < c.waits.length) {k1 k2 : Int} (e1 : k1 = (i : Int)) (e2 : k2 = ((i + 1 : Nat) : Int)) {K : Heap → Prop}
    (hk : ∀ h' T' sl', RfR h' T' cb rb sl' so st sb { c with waits := c.waits.eraseIdx i } → StpR T T' h h' → K h') :
    slc sl.ptr sl.cap 2 0 k1 sl.cap fun t17 => rdS t17 2 h fun new20 => Fw.app 86 2 16 [Value.int .i64 0, Value.int .i64 0] ⟨none, 0, 0⟩ t17.len new20 h fun t18 h19 =>
      derefP (some ⟨cb, 0, none⟩) fun b21 o22 => ldL h19 b21 (o22 + 5) fun t23 => slc t23.ptr t23.cap 2 k2 t23.len t23.cap fun t24 => rdS t24 2 h19 fun new27 => Fw.app 86 2 16 [Value.int .i64 0, Value.int .i64 0] t18 t24.len new27 h19 fun t25 h26 =>
      derefP (some ⟨cb, 0, none⟩) fun b28 o29 => Fw.st h26 b28 (o29 + 5) (Value.slice t25.ptr t25.len t25.cap) K := by
  have hl := wlen hR.l
  have hcap := hR.l.cap
  refine Row.slcK hR.l.row (a := 0) (b := i) (m := sl.cap) rfl e1 rfl (Nat.zero_le _) (by omega) (by omega) (Nat.le_refl _) fun t17 h17 l17 => h17.rd ?_
  rw [Nat.zero_mul, List.drop_zero, Nat.sub_zero, flat_take] at h17
  rw [Nat.zero_mul, List.drop_zero, Nat.sub_zero, flat_take]
  have hti : (c.waits.take i).length = i := by rw [List.length_take]; omega
  refine Own.app (Own.nil h h.size 2) (by rw [flat_len wC_len, hti, l17]; rfl) (wC_one _) rfl (by dsimp only; omega) (by dsimp only; omega) (Nat.le_refl _) fun t18 h19 ho19 hl19 hu19 hb19 => deref_ ?_
  rw [List.nil_append] at ho19
  have e19 : Ext h h19 := hu19.ext fun k hk h9 => by simp [Sl.blk] at h9
  have hR19 := hR.ext e19
  refine ldLk (s := sl) hR19.cells rfl (Row.slcK hR19.l.row (a := i + 1) (b := sl.len) (m := sl.cap) e2 rfl rfl (by omega) (Nat.le_refl _) hcap (Nat.le_refl _) fun t24 h24 l24 => h24.rd ?_)
  have hd : (((c.waits.flatMap wC).drop ((i + 1) * 2)).take ((sl.len - (i + 1)) * 2)) = (c.waits.drop (i + 1)).flatMap wC := by
    rw [flat_drop, List.take_of_length_le]
    rw [flat_len wC_len, List.length_drop]
    omega
  rw [hd]
  have h18 : t18.len = i := by rw [hl19, l17]; simp
  refine Own.app ho19 (by rw [flat_len wC_len, List.length_drop, l24]; omega) (wC_one _) rfl (by omega) (by omega) e19.size fun t25 h26 ho26 hl26 hu26 hb26 => deref_ ?_
  have e26 : Ext h h26 := e19.then hu26 fun k hk => (ho19.lt hk).1
  have er : (c.waits.take i).flatMap wC ++ (c.waits.drop (i + 1)).flatMap wC = (c.waits.eraseIdx i).flatMap wC := by rw [← List.flatMap_append, List.eraseIdx_eq_take_drop_succ]
  rw [er] at ho26
  refine hR.setL (x := t25) (l := c.waits.eraseIdx i) (ho26.base (Nat.zero_le _)) (fun k hk => .inr (ho26.lt hk).1) (e26.upd _) fun h2 T' hR2 st2 _ => hk h2 T' t25 hR2 st2

theorem rfall_spec {h : Heap} {T : Nat → Option Nat} {cb : Nat} {c : Cl} (hC : RefC h T cb c) {p : Int × Int} (hp : c.waits[0]? = some p) (hl : c.told.length ≤ 1099511627776) (hwl : c.waits.length ≤ 1099511627776) {K : Heap → Prop}
    (hk : ∀ h' T', RefC h' T' cb (c.fallI 0 p.1) → StpR T T' h h' → K h') : m_spillwayref21_Client_fall (some ⟨cb, 0, none⟩) 0 K h := by
  obtain ⟨rb, sl, so, st, sb, hR⟩ := hC
  unfold m_spillwayref21_Client_fall g_spillwayref21_Client_fall
  refine deref_ (deref_ (ldLk (s := st) hR.cells rfl (ldLk (s := sl) hR.cells rfl (wait_idx hR.l hp rfl fun b4 o5 d9 d0 d1 => ⟨p.1, d0, newK fun h8 c8 e8 z8 => ⟨?_, ⟨(cell_block (hR.ext e8).cells).trans rfl, trivial⟩, ⟨(cell_block (hR.ext e8).cells).trans rfl, trivial⟩, ?_⟩⟩))))
  · exact ⟨by rw [cell_congr (e8.old b4 (cell_lt d0))]; exact d0, trivial⟩
  · have hR8 := hR.ext e8
    have hrow : Row h8 ⟨some ⟨h.size, 0, none⟩, 1, 1⟩ 7 (tC (fallT p.1)) := ⟨rfl, Nat.le_refl _, (show 1 < 9223372036854775808 by decide), .inr ⟨h.size, 0, rfl, has_block c8 fun i v hi => by simpa [tC, fallT, zAn] using hi⟩⟩
    have htl := tlen hR.told
    refine hrow.rd (Own.app hR8.told rfl rfl rfl (by omega) (by omega) (Nat.zero_le _) fun t9 h10 ho10 hl10 hu10 hblk => ?_)
    have e : c.told.flatMap tC ++ tC (fallT p.1) = (c.told ++ [fallT p.1]).flatMap tC := by simp
    rw [e] at ho10
    have ne2 : ∀ {k}, sl.blk = some k → st.blk ≠ some k := fun {k} h1 h2 => by have := hR.tsl k h1; rw [hR.tst k h2] at this; cases this
    have nec : ∀ {k t}, T k = some t → t ≠ 4 → k < h8.size → h10[k]? = h8[k]? := fun {k t} h1 h2 h3 => hu10.old k h3 fun h9 => by have := hR.tst k h9; rw [h1] at this; cases this; exact h2 rfl
    have l8 := hR8.lt
    refine ⟨⟨?_, trivial⟩, ⟨?_, trivial⟩, deref_ ?_⟩
    · have hlt := cell_lt d0
      rw [cell_congr (nec (hR.tsl b4 d9) (by decide) (by have := e8.size; omega)), cell_congr (e8.old b4 hlt)]
      exact d0
    · rw [cell_congr (nec hR.tcb (by decide) (blk_lt hR8.cells)), cell_block hR8.cells]
      rfl
    · refine hR8.setTold ho10 (fun k hk => ?_) (hu10.mono fun k _ h9 => hR8.tst k h9) fun h13 T13 hR13 st13 _ => deref_ (ldLk (s := sl) hR13.cells rfl ?_)
      · rcases hblk with h9 | h9
        · exact .inl (hR8.tst k (h9 ▸ hk))
        · rw [h9] at hk
          cases hk
          exact .inr (Nat.le_refl _)
      · refine cut_out hR13 hwl (i := 0) (by exact (List.getElem?_eq_some_iff.1 hp).1) rfl rfl fun h30 T30 sl' hR30 st30 => hk h30 T30 ⟨rb, sl', so, t9, sb, hR30⟩ (((StpR.ofExt e8).trans st13).trans st30)

/-! ### Tick -/
def Mon (l : List (Int × Int)) : Prop := l.Pairwise (fun a b => a.2 ≤ b.2)
def Cl.tickR (c : Cl) (at_ : Int) (k : Nat) : Cl := { c with last := at_, waits := c.waits.drop k, told := c.told ++ (c.waits.take k).map fun p => fallT p.1 }
theorem tick_eq {c : Cl} (hM : Mon c.waits) {at_ : Int} {k : Nat} (h1 : ∀ p, p ∈ c.waits.take k → keepW c.tmo at_ p = false) (h2 : ∀ p, (c.waits.drop k)[0]? = some p → keepW c.tmo at_ p = true) : c.tickR at_ k = c.tick at_ := by
  have hall : ∀ p, p ∈ c.waits.drop k → keepW c.tmo at_ p = true := fun p hp => by
    cases hd : c.waits.drop k with
    | nil => rw [hd] at hp; cases hp
    | cons q l =>
      have hq := h2 q (by rw [hd]; rfl)
      have hm : Mon (c.waits.drop k) := List.Pairwise.sublist (List.drop_sublist k c.waits) hM
      rw [hd] at hm hp
      rcases List.mem_cons.1 hp with rfl | hp
      · exact hq
      · have := (List.pairwise_cons.1 hm).1 p hp
        unfold keepW at hq ⊢
        have := of_decide_eq_true hq
        exact decide_eq_true (by omega)
  have e1 : c.waits.filter (keepW c.tmo at_) = c.waits.drop k := by
    conv => lhs; rw [← List.take_append_drop k c.waits]
    rw [List.filter_append, List.filter_eq_nil_iff.2 fun p hp => by rw [h1 p hp]; simp, List.filter_eq_self.2 hall, List.nil_append]
  have e2 : (c.waits.filter fun p => !keepW c.tmo at_ p) = c.waits.take k := by
    conv => lhs; rw [← List.take_append_drop k c.waits]
    rw [List.filter_append, List.filter_eq_self.2 fun p hp => by rw [h1 p hp]; rfl, List.filter_eq_nil_iff.2 fun p hp => by rw [hall p hp]; simp, List.append_nil]
  unfold Cl.tickR Cl.tick
  rw [e1, e2]
def lenAt (h : Heap) (b o : Nat) : Nat := match h.cell b o with
  | some (.slice _ l _) => l
  | _ => 0
theorem RefC.lenAt {h : Heap} {T : Nat → Option Nat} {cb : Nat} {c : Cl} (hC : RefC h T cb c) : lenAt h cb 5 = c.waits.length := by
  obtain ⟨rb, sl, so, st, sb, hR⟩ := hC
  unfold Go.Proofs.YtcmedplogmjiiaaGreat.lenAt
  rw [cell_block hR.cells]
  show sl.len = _
  exact wlen hR.l

theorem RTick_spec {h : Heap} {T : Nat → Option Nat} {cb : Nat} {c : Cl} (hC : RefC h T cb c) (hW : WOK c) (hM : Mon c.waits) {at_ : Int} {K : Int → Heap → Prop} (hk : ∀ h' T', RefC h' T' cb (c.atS at_) → StpR T T' h h' → K (c.atE at_) h') : m_spillwayref21_Client_Tick (some ⟨cb, 0, none⟩) at_ K h := by
  unfold m_spillwayref21_Client_Tick g_spillwayref21_Client_Tick
  have hC0 := hC
  obtain ⟨rb, sl, so, st, sb, hR⟩ := hC
  have hlast := hW.last
  have hsum := hW.sum
  have bad : c.atE at_ ≠ 0 → K (c.atE at_) h := fun he => hk h T (by unfold Cl.atS; rw [if_neg he]; exact hC0) (StpR.refl _ _)
  have go : c.atE at_ = 0 → ∀ h' T', RefC h' T' cb (c.tick at_) → StpR T T' h h' → K 0 h' := fun he h' T' h1 h2 => by
    rw [he] at hk
    exact hk h' T' (by unfold Cl.atS; rw [if_pos he]; exact h1) h2
  unfold Cl.atE at bad go
  refine bindI_intro (bindB_intro (iteP_false (iteP_dec (fun h0 => ?_) fun h0 => bindB_intro (iteP_dec (fun h1 => ?_) fun h1 => deref_ (ldIk hR.cells rfl (bindB_intro (iteP_dec (fun h2 => ?_) fun h2 => ?_)))))))
  · rw [if_pos h0] at bad
    exact bindI_intro (bad (by decide))
  · rw [if_neg h0, if_pos h1] at bad
    exact bindI_intro (bad (by decide))
  · rw [if_neg h0, if_neg h1, if_pos h2] at bad
    exact bindI_intro (bad (by decide))
  · rw [if_neg h0, if_neg h1, if_neg h2] at go
    have go := go rfl
    refine deref_ (hR.setF { c with last := at_ } (by decide) rfl rfl rfl rfl rfl rfl rfl fun h11 hR11 st11 z11 => ?_)
    refine loopM_intro (fun _ h' => ∃ (k : Nat) (T' : Nat → Option Nat), k ≤ c.waits.length ∧ RefC h' T' cb (c.tickR at_ k) ∧ StpR T T' h11 h' ∧ ∀ p, p ∈ c.waits.take k → keepW c.tmo at_ p = false) (fun _ h' => lenAt h' cb 5)
      ⟨0, T, Nat.zero_le _, ⟨rb, sl, so, st, sb, ?_⟩, StpR.refl _ _, (fun p hp => (by simp at hp))⟩ ?_
    · have e : c.tickR at_ 0 = { c with last := at_ } := by simp [Cl.tickR]
      rw [e]
      exact hR11
    rintro ⟨⟩ h13 ⟨k, T13, hkl, hC13, st13, hold⟩
    have hlen := hC13.lenAt
    have hC13' := hC13
    obtain ⟨rb3, sl3, so3, st3, sb3, hR13⟩ := hC13
    have hwl := wlen hR13.l
    have hw13 : (c.tickR at_ k).waits = c.waits.drop k := rfl
    rw [hw13, List.length_drop] at hlen
    rw [hw13, List.length_drop] at hwl
    have out : (∀ p, (c.waits.drop k)[0]? = some p → keepW c.tmo at_ p = true) → K 0 h13 := fun h2 => by
      rw [tick_eq hM hold h2] at hC13'
      exact go h13 T13 hC13' (st11.trans st13)
    refine deref_ (ldLk (s := sl3) hR13.cells rfl (iteP_dec (fun hpos => ?_) fun hneg => bindI_intro (out fun p hp => ?_)))
    · have hk1 : k < c.waits.length := by omega
      have hp : c.waits[k]? = some c.waits[k] := List.getElem?_eq_getElem hk1
      have htk : c.waits.take (k + 1) = c.waits.take k ++ [c.waits[k]] := List.take_succ_eq_append_getElem hk1
      have hdk : c.waits.drop k = c.waits[k] :: c.waits.drop (k + 1) := List.drop_eq_getElem_cons hk1
      have hmem : c.waits[k] ∈ c.waits := List.getElem_mem hk1
      generalize c.waits[k] = p at hp htk hdk hmem
      have h0 : (c.tickR at_ k).waits[0]? = some p := by rw [hw13, hdk]; rfl
      have hat := hW.ats p hmem
      refine deref_ (ldLk (s := sl3) hR13.cells rfl (wait_idx hR13.l h0 rfl fun b20 o21 _ d0 d1 => ⟨p.2, d1, deref_ (ldIk hR13.cells rfl ?_)⟩))
      rw [wrap64 (n := at_ - p.2) (by omega) (by omega)]
      refine iteP_dec (fun hge => ?_) fun hlt => bindI_intro (out fun q hq => ?_)
      · have hkp : keepW c.tmo at_ p = false := by unfold keepW; exact decide_eq_false (by have : (c.tickR at_ k).tmo = c.tmo := rfl; omega)
        refine rfall_spec hC13' h0 ?_ ?_ fun h26 T26 hC26 st26 => ?_
        · show (c.told ++ List.map _ _).length ≤ _
          rw [List.length_append, List.length_map, List.length_take]; omega
        · show (c.waits.drop k).length ≤ _
          rw [List.length_drop]; omega
        have e : (c.tickR at_ k).fallI 0 p.1 = c.tickR at_ (k + 1) := by
          unfold Cl.fallI Cl.tickR
          dsimp only
          rw [htk, hdk]
          simp
        rw [e] at hC26
        refine ⟨⟨k + 1, T26, by omega, hC26, st13.trans st26, fun q hq => ?_⟩, ?_⟩
        · rw [htk] at hq
          rcases List.mem_append.1 hq with h9 | h9
          · exact hold q h9
          · have : q = p := List.mem_singleton.1 h9
            subst this
            exact hkp
        · rw [hC26.lenAt, hlen]
          show (c.waits.drop (k + 1)).length < _
          rw [List.length_drop]
          omega
      · rw [hdk] at hq
        simp only [List.getElem?_cons_zero, Option.some.injEq] at hq
        subst hq
        unfold keepW
        exact decide_eq_true (by have : (c.tickR at_ k).tmo = c.tmo := rfl; omega)
    · have : (c.waits.drop k).length = 0 := by rw [List.length_drop]; omega
      rw [List.eq_nil_of_length_eq_zero this] at hp
      cases hp

/-! ### sending -/
theorem frame_all (r : Rq) : frameB (reqB r) = allB [r] := by
  unfold allB reqB
  cases h : rightB r with
  | true =>
    have : allOk [r] = true := by simp [allOk, h]
    rw [this, if_pos rfl, if_pos rfl, frameB_good (good_req h), show List.map reqL [r] = [reqL r] from rfl, fr_cons]
    simp [fr]
  | false =>
    have : allOk [r] = false := by simp [allOk, h]
    rw [this]
    rfl
theorem send_spec {h : Heap} {T : Nat → Option Nat} {cb : Nat} {c : Cl} (hC : RefC h T cb c) {r : Rq} (hl : c.out.length ≤ 1099511627776) {K : Heap → Prop}
    (hk : ∀ h' T', RefC h' T' cb { c with out := c.out ++ allB [r] } → StpR T T' h h' → K h') : m_spillwayref21_Client_send (some ⟨cb, 0, none⟩) r K h := by
  unfold m_spillwayref21_Client_send g_spillwayref21_Client_send
  obtain ⟨r1, r2, r3, r4, r5, r6, u⟩ := r
  refine newK fun h1 c1 e1 z1 => ldIk c1 rfl (ldIk c1 rfl (ldIk c1 rfl (ldIk c1 rfl (ldSk c1 rfl (ldIk c1 rfl ?_)))))
  refine RRequest_spec (r := (r1, r2, r3, r4, r5, r6, ())) fun t7 h9 ho9 e9 => bindI_intro (RFrame_spec ho9.row fun t10 h12 ho12 e12 _ => bindI_intro (deref_ ?_))
  rw [frame_all] at ho12
  have x12 := (e1.trans e9).trans e12
  obtain ⟨rb, sl, so, st, sb, hR⟩ := hC
  have hR12 := hR.ext x12
  have hol : so.len = c.out.length := Bytes.length hR12.out.row
  have htl : t10.len = (allB [(r1, r2, r3, r4, r5, r6, ())]).length := Bytes.length ho12.row
  have hal := allB_len (r1, r2, r3, r4, r5, r6, ())
  refine ldLk (s := so) hR12.cells rfl (hR12.out.row.rd (Own.app (Own.nil h12 h12.size 1) (by simp [hol]) (bv_one _) rfl (by dsimp only; omega) (by dsimp only; omega) (Nat.le_refl _) fun t16 h17 ho17 hl17 hu17 hb17 => ?_))
  rw [List.nil_append] at ho17
  have e17 : Ext h12 h17 := hu17.ext fun k hk h9 => by simp [Sl.blk] at h9
  refine (ho12.row.ext e17).rd (Own.app ho17 (by simp [htl]) (bv_one _) rfl (by rw [hl17]; dsimp only; omega) (by rw [hl17]; dsimp only; omega) e17.size fun t18 h19 ho19 hl19 hu19 hb19 => deref_ ?_)
  rw [← List.map_append] at ho19
  have e19 : Ext h12 h19 := e17.then hu19 fun k hk => (ho17.lt hk).1
  refine hR12.setOut (ho19.base (Nat.zero_le _)) (fun k hk => .inr (ho19.lt hk).1) (e19.upd _) fun h23 T23 hR23 st23 _ => hk h23 T23 ⟨rb, sl, t18, st, sb, hR23⟩ ((StpR.ofExt x12).trans st23)

theorem later_spec {h : Heap} {T : Nat → Option Nat} {cb : Nat} {c : Cl} (hC : RefC h T cb c) (hL : 0 ≤ c.last ∧ c.last ≤ 1152921504606846976) (hN : NOK c) {at_ : Int} (hat : at_ = c.last) {K : Heap → Prop} (hk : ∀ h', RefC h' T cb c.failed → StpR T T h h' → K h') : m_spillwayref21_Client_later (some ⟨cb, 0, none⟩) at_ K h := by
  subst hat
  obtain ⟨rb, sl, so, st, sb, hR⟩ := hC
  unfold m_spillwayref21_Client_later g_spillwayref21_Client_later
  have hb := hN.back
  have hl := hN.least
  have hm := hN.most
  refine deref_ (ldIk hR.cells rfl (deref_ (hR.setF { c with dial := c.last + c.backoff } (by decide) rfl (by rw [wrap64 (by omega) (by omega)]; rfl) rfl rfl rfl rfl rfl fun h3 hR3 st3 z3 => deref_ (ldIk hR3.cells rfl (deref_ (hR3.setF { c with dial := c.last + c.backoff, backoff := c.backoff * 2 } (by decide) rfl (by dsimp only; rw [wrap64 (n := c.backoff * 2) (by omega) (by omega)]; rfl) rfl rfl rfl rfl rfl fun h9 hR9 st9 z9 => deref_ (ldIk hR9.cells rfl (deref_ (ldIk hR9.cells rfl (iteP_dec (fun hgt => ?_) fun hle => ?_))))))))))
  · refine deref_ (ldIk hR9.cells rfl (deref_ (hR9.setF c.failed (by decide) rfl ?_ rfl rfl rfl rfl rfl fun h21 hR21 st21 z21 => hk h21 ⟨rb, sl, so, st, sb, hR21⟩ ((st3.trans st9).trans st21))))
    have : min (2 * c.backoff) c.most = c.most := by dsimp only at hgt; omega
    unfold Cl.failed
    rw [this]
    rfl
  · refine hk h9 ⟨rb, sl, so, st, sb, ?_⟩ (st3.trans st9)
    have : c.failed = { c with dial := c.last + c.backoff, backoff := c.backoff * 2 } := by
      unfold Cl.failed
      have : min (2 * c.backoff) c.most = c.backoff * 2 := by dsimp only at hle; omega
      rw [this]
    rw [this]
    exact hR9

end Go.Proofs.YtcmedplogmjiiaaGreat
