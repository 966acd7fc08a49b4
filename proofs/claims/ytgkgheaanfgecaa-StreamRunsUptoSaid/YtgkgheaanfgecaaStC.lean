/- A network's calls: Move, Read, Shut. -/
import Derived.Test.YtgkgheaanfgecaaStB
namespace Go.Proofs.Ytgkgheaanfgecaa
open Go Go.Fw

theorem bv_one (l : List UInt8) : (l.map bv).all oneCell = true := by simp [List.all_map, Function.comp_def, bv, oneCell]

/-- one cell of one connection is written -/
theorem NetR.setCell {h : Heap} {T : Nat → Option Nat} {nb mb : Nat} {s : Sl} {ps : Int → Bool} {qs : List Q} (hn : NetR h T nb mb s ps qs) {i : Nat} {q q' : Q} (hq : qs[i]? = some q) {m : Nat} (hm : m < 8) {v : Value} (hv : oneCell v = true)
    (hC : qC q' = (qC q).set m v) (hQ : QR h T i q') {b : Nat} (hb : s.blk = some b) {K : Heap → Prop}
    (hfin : ∀ h2, NetR h2 T nb mb s ps (qs.set i q') → Stp T T h h2 → K h2) : st h b (i * 8 + m) v K := by
  have hlt : i < qs.length := by
    rcases Nat.lt_or_ge i qs.length with h9 | h9
    · exact h9
    · rw [List.getElem?_eq_none h9] at hq; cases hq
  refine Own.stCell hn.row hb (by rw [flat_len qC_len]; omega) hv fun h2 o2 u2 z2 => ?_
  rw [flat_set qC_len qs i m v q q' hq hm hC] at o2
  have hbT : T b = some 2 := hn.tr b hb
  have u2' : Upd (· = b) h h2 := u2.mono fun k _ hk => by rw [hb] at hk; exact (Option.some.inj hk).symm
  have old : ∀ k, k < h.size → k ≠ b → h2[k]? = h[k]? := fun k hk h2 => u2'.old k hk h2
  have mv : ∀ {i' : Nat} {r : Q}, QR h T i' r → QR h2 T i' r := fun {i' r} hr => by
    obtain ⟨a1, a2, a3, a4⟩ := hr
    have g : ∀ {tag k : Nat}, 2 < tag → T k = some tag → k ≠ b := fun {tag k} ht hk he => by
      subst he
      rw [hbT] at hk
      have := Option.some.inj hk
      omega
    exact ⟨a1.congr fun k hk hl => old k hl (g (by omega) hk), a2.congr fun k hk hl => old k hl (g (by omega) hk), a3.congr fun k hk hl => old k hl (g (by omega) hk), a4.congr fun k hk hl => old k hl (g (by omega) hk)⟩
  refine hfin h2 ⟨?_, hn.tn, ?_, hn.tm, o2, hn.tr, fun i' r hr => ?_, fun k hk => by have := hn.lt k hk; omega⟩ ⟨u2'.mono fun k _ hk => by subst hk; show T k ≠ none; rw [hbT]; simp, fun k hk => .inl hk⟩
  · rw [old nb (blk_lt hn.cells) (by rintro rfl; rw [hn.tn] at hbT; cases hbT)]
    exact hn.cells
  · obtain ⟨es, cl, hp, hr⟩ := hn.ports
    exact ⟨es, cl, by rw [old mb (blk_lt hp) (by rintro rfl; rw [hn.tm] at hbT; cases hbT)]; exact hp, hr⟩
  · by_cases hii : i' = i
    · subst hii
      rw [List.getElem?_set_self hlt] at hr
      cases hr
      exact mv hQ
    · rw [List.getElem?_set_ne (Ne.symm hii)] at hr
      exact mv (hn.each i' r hr)

/-! ### Move -/
def mvI (cs : List Cn) (i j : Nat) (m : Nat) : (Int × Int) × List Cn := match cs[i]? with
  | none => ((0, 0), cs)
  | some c => (((min m (c.side j).way.length : Nat), 0), cs.set i (c.putS j ⟨(c.side j).way.drop (min m (c.side j).way.length), (c.side j).come ++ (c.side j).way.take (min m (c.side j).way.length), (c.side j).x⟩))
def mvS (cs : List Cn) (k e most : Int) : (Int × Int) × List Cn := if errS cs k e most ≠ 0 then ((0, errS cs k e most), cs) else mvI cs (k - 1).toNat e.toNat most.toNat

theorem put_get (q : Q) {j : Nat} (hj : j < 2) (x : Sl) (l : List UInt8) : (Q.put q j 1 x l).1.get j 0 = q.1.get j 0 ∧ ((Q.put q j 1 x l).2.side j).get 0 = (q.2.side j).way := by
  rcases two j hj with rfl | rfl <;> exact ⟨rfl, rfl⟩
theorem put_put (q : Q) {j : Nat} (hj : j < 2) (x y : Sl) (l m : List UInt8) : (Q.put (Q.put q j 1 x l) j 0 y m).2 = q.2.putS j ⟨m, l, (q.2.side j).x⟩ := by
  rcases two j hj with rfl | rfl <;> rfl
theorem put_one (q : Q) {j : Nat} (hj : j < 2) (x : Sl) (l : List UInt8) : (Q.put q j 1 x l).2 = q.2.putS j ⟨(q.2.side j).way, l, (q.2.side j).x⟩ := by
  rcases two j hj with rfl | rfl <;> rfl

theorem Move_spec {h : Heap} {T : Nat → Option Nat} {nb : Nat} {ps : Int → Bool} {cs : List Cn} (hn : Net h T nb ps cs) {k e most : Int} (hw : ∀ c j, c ∈ cs → j < 2 → (c.side j).way.length ≤ 65536 ∧ (c.side j).come.length ≤ 1099511627776) {K : Int → Int → Heap → Prop}
    (hk : ∀ h' T', Net h' T' nb ps (mvS cs k e most).2 → Stp T T' h h' → K (mvS cs k e most).1.1 (mvS cs k e most).1.2 h') : m_stream_Net_Move (some ⟨nb, 0, none⟩) k e most K h := by
  obtain ⟨mb, s, qs, hn, rfl⟩ := hn
  unfold m_stream_Net_Move g_stream_Net_Move
  unfold mvS at hk
  refine bindI_intro (bindI_intro (at_spec hn (fun he => bindI_intro (iteP_pos (by simpa using he) (bindI_intro (bindI_intro ?_)))) (fun i j q b' he hk' hj hj2 hm0 hq hb' => bindI_intro (iteP_neg rfl ?_))))
  · rw [if_pos he] at hk
    exact hk h T ⟨mb, s, qs, hn, rfl⟩ (Stp.refl _ _)
  · rw [if_neg (by rw [he]; simp)] at hk
    have ei : (k - 1).toNat = i := by omega
    have ej : e.toNat = j := by omega
    rw [ei, ej] at hk
    unfold mvI at hk
    have hcs : (qs.map (·.2))[i]? = some q.2 := by rw [List.getElem?_map, hq]; rfl
    rw [hcs] at hk
    dsimp only at hk
    have hlt : i < qs.length := by
      rcases Nat.lt_or_ge i qs.length with h9 | h9
      · exact h9
      · rw [List.getElem?_eq_none h9] at hq; cases hq
    have hqw := (hn.each i q hq).get hj2 (c := 0) (by omega)
    have hqc := (hn.each i q hq).get hj2 (c := 1) (by omega)
    have hway := hw q.2 j (List.mem_map.2 ⟨q, List.mem_of_getElem? hq, rfl⟩) hj2
    have hrl : (q.1.get j 0).len = (q.2.side j).way.length := Bytes.length hqw.own.row
    have hcl : (q.1.get j 1).len = (q.2.side j).come.length := Bytes.length hqc.own.row
    have hwc := hqw.own.cap
    have hc0 := hn.cell hq hb' (m := j * 3 + 0) (by omega) (qC_get q hj2 (by omega : 0 < 2))
    have hc1 := hn.cell hq hb' (m := j * 3 + 1) (by omega) (qC_get q hj2 (by omega : 1 < 2))
    have hmin : minV most ((q.1.get j 0).len : Int) = ((min most.toNat (q.2.side j).way.length : Nat) : Int) := by
      unfold minV
      rw [hrl]
      split <;> omega
    generalize hmm : min most.toNat (q.2.side j).way.length = m at hk hmin
    have hm1 : m ≤ (q.2.side j).way.length := by omega
    refine deref_ (idxN_ hj hj2 ⟨q.1.get j 0, hc0, bindI_intro ?_⟩)
    rw [hmin]
    refine ⟨q.1.get j 1, by rw [Nat.add_assoc]; exact hc1, q.1.get j 0, hc0, ?_⟩
    refine Row.slc hqw.own.row (a := 0) (b := m) (m := (q.1.get j 0).cap) rfl rfl rfl (Nat.zero_le _) (by omega) (by omega) (Nat.le_refl _) fun t10 ht10 hl10 _ _ => ?_
    rw [List.drop_zero, Nat.sub_zero, ← List.map_take] at ht10
    have hnl : ((q.2.side j).way.take m).length = m := by rw [List.length_take]; omega
    refine ht10.rd (Own.app hqc.own (by simp only [List.length_map]; show ((q.2.side j).way.take m).length = _; omega) (bv_one _) rfl (by omega) (by omega) (Nat.zero_le _) fun x h12 ho hl hu hblk => ?_)
    rw [← List.map_append] at ho
    have hu' := Upd.of_blk hqc hu
    have hbT : T b' = some 2 := hn.tr b' hb'
    have hold : h12[b']? = h[b']? := hu'.old b' (hn.lt b' (by rw [hbT]; simp)) (by rw [hbT]; simp only [Option.some.injEq]; omega)
    refine ⟨⟨by rw [cell_congr hold]; exact hc0, trivial⟩, ?_⟩
    rw [Nat.add_assoc (i * 8) (j * 3) 1]
    refine hn.setRow hq hj2 (c := 1) (by omega) ho (fun k hk => ?_) hu' hb' fun h13 T1 hn1 hst1 _ _ => ?_
    · rcases hblk with e1 | e1
      · rw [e1] at hk; exact .inl (hqc.tag k hk)
      · rw [e1] at hk; exact .inr (by have := Option.some.inj hk; omega)
    · obtain ⟨g1, g2⟩ := put_get q hj2 x ((q.2.side j).get 1 ++ (q.2.side j).way.take m)
      have hq1 : (qs.set i (Q.put q j 1 x ((q.2.side j).get 1 ++ (q.2.side j).way.take m)))[i]? = some (Q.put q j 1 x ((q.2.side j).get 1 ++ (q.2.side j).way.take m)) := List.getElem?_set_self hlt
      have hqw1 := (hn1.each i _ hq1).get hj2 (c := 0) (by omega)
      rw [g1, g2] at hqw1
      have hc01 := hn1.cell hq1 hb' (m := j * 3 + 0) (by omega) (qC_get _ hj2 (by omega : 0 < 2))
      rw [g1] at hc01
      refine ⟨q.1.get j 0, hc01, ?_⟩
      refine Row.slc hqw1.own.row (a := m) (b := (q.1.get j 0).len) (m := (q.1.get j 0).cap) rfl rfl rfl (by omega) (Nat.le_refl _) (by omega) (Nat.le_refl _) fun t15 ht15 hl15 _ _ => ?_
      rw [← List.map_drop, ← List.map_take, List.take_of_length_le (by rw [List.length_drop]; omega)] at ht15
      refine Clone_spec ht15 (by rw [List.length_drop]; omega) fun t16 h17 ho16 e17 => ?_
      refine hn1.setRow hq1 hj2 (c := 0) (by omega) (ho16.base (Nat.zero_le _)) (fun k hk => .inr (ho16.lt hk).1) (e17.upd _) hb' fun h18 T2 hn2 hst2 _ _ => bindI_intro (bindI_intro ?_)
      refine hk h18 T2 ⟨mb, s, _, hn2, ?_⟩ (hst1.trans hst2)
      rw [List.set_set, List.map_set, put_put q hj2]
      rfl

/-! ### Read -/
def rdI (cs : List Cn) (i j : Nat) (m : Nat) : (List UInt8 × Bool × Int) × List Cn := match cs[i]? with
  | none => (([], false, 0), cs)
  | some c => (((c.side j).come.take (min m (c.side j).come.length), ((c.side j).x && ((c.side j).way.length == 0 && ((c.side j).come.drop (min m (c.side j).come.length)).length == 0)), 0),
      cs.set i (c.putS j ⟨(c.side j).way, (c.side j).come.drop (min m (c.side j).come.length), (c.side j).x⟩))
def rdS_ (cs : List Cn) (k e most : Int) : (List UInt8 × Bool × Int) × List Cn := if errS cs k e most ≠ 0 then (([], false, errS cs k e most), cs) else rdI cs (k - 1).toNat (1 - e.toNat) most.toNat

theorem Read_spec {h : Heap} {T : Nat → Option Nat} {nb : Nat} {ps : Int → Bool} {cs : List Cn} (hn : Net h T nb ps cs) {k e most : Int} (hw : ∀ c j, c ∈ cs → j < 2 → (c.side j).way.length ≤ 65536 ∧ (c.side j).come.length ≤ 1099511627776) {K : Sl → Bool → Int → Heap → Prop}
    (hk : ∀ out h' T', Net h' T' nb ps (rdS_ cs k e most).2 → Stp T T' h h' → Own h' h.size out 1 ((rdS_ cs k e most).1.1.map bv) → (∀ k, out.blk = some k → T' k = none) → K out (rdS_ cs k e most).1.2.1 (rdS_ cs k e most).1.2.2 h') : m_stream_Net_Read (some ⟨nb, 0, none⟩) k e most K h := by
  obtain ⟨mb, s, qs, hn, rfl⟩ := hn
  unfold m_stream_Net_Read g_stream_Net_Read
  unfold rdS_ at hk
  refine bindI_intro (at_spec hn (fun he => bindI_intro (iteP_pos (by simpa using he) (bindI_intro ?_))) (fun i j0 q b' he hk' hj hj2 hm0 hq hb' => bindI_intro (iteP_neg rfl ?_)))
  · rw [if_pos he] at hk
    exact hk ⟨none, 0, 0⟩ h T ⟨mb, s, qs, hn, rfl⟩ (Stp.refl _ _) (Own.nil _ _ 1) (fun k hk => by simp [Sl.blk] at hk)
  · rw [if_neg (by rw [he]; simp)] at hk
    have ei : (k - 1).toNat = i := by omega
    have ej : e.toNat = j0 := by omega
    rw [ei, ej] at hk
    have hwr : IntKind.wrap .i64 ((1 : Int) - e) = ((1 - j0 : Nat) : Int) := by rw [wrap64 (by omega) (by omega)]; omega
    have hj3 : 1 - j0 < 2 := by omega
    generalize 1 - j0 = j at hk hwr hj3
    unfold rdI at hk
    have hcs : (qs.map (·.2))[i]? = some q.2 := by rw [List.getElem?_map, hq]; rfl
    rw [hcs] at hk
    dsimp only at hk
    have hlt : i < qs.length := by
      rcases Nat.lt_or_ge i qs.length with h9 | h9
      · exact h9
      · rw [List.getElem?_eq_none h9] at hq; cases hq
    have hqc := (hn.each i q hq).get hj3 (c := 1) (by omega)
    have hway := hw q.2 j (List.mem_map.2 ⟨q, List.mem_of_getElem? hq, rfl⟩) hj3
    have hcl : (q.1.get j 1).len = (q.2.side j).come.length := Bytes.length hqc.own.row
    have hwc := hqc.own.cap
    have hc1 := hn.cell hq hb' (m := j * 3 + 1) (by omega) (qC_get q hj3 (by omega : 1 < 2))
    have hmin : minV most ((q.1.get j 1).len : Int) = ((min most.toNat (q.2.side j).come.length : Nat) : Int) := by
      unfold minV
      rw [hcl]
      split <;> omega
    generalize hmm : min most.toNat (q.2.side j).come.length = m at hk hmin
    have hm1 : m ≤ (q.2.side j).come.length := by omega
    have hqo : Bytes h (q.1.get j 1) (q.2.side j).come := hqc.own.row
    refine deref_ (idxN_ hwr hj3 ⟨q.1.get j 1, by rw [Nat.add_assoc]; exact hc1, bindI_intro ?_⟩)
    rw [hmin, Nat.add_assoc (i * 8) (j * 3) 1]
    refine ⟨q.1.get j 1, hc1, ?_⟩
    refine Row.slc hqo (a := 0) (b := m) (m := (q.1.get j 1).cap) rfl rfl rfl (Nat.zero_le _) (by omega) (by omega) (Nat.le_refl _) fun t7 ht7 hl7 _ _ => ?_
    rw [List.drop_zero, Nat.sub_zero, ← List.map_take] at ht7
    refine Clone_spec ht7 (by rw [List.length_take]; omega) fun t8 h9 ho8 e9 => ?_
    have hc19 : h9.cell b' (i * 8 + (j * 3 + 1)) = some (slV (q.1.get j 1)) := by rw [cell_congr (e9.old b' (cell_lt hc1))]; exact hc1
    refine ⟨q.1.get j 1, hc19, ?_⟩
    refine Row.slc (hqo.ext e9) (a := m) (b := (q.1.get j 1).len) (m := (q.1.get j 1).cap) rfl rfl rfl (by omega) (Nat.le_refl _) (by omega) (Nat.le_refl _) fun t11 ht11 hl11 _ _ => ?_
    rw [← List.map_drop, ← List.map_take, List.take_of_length_le (by rw [List.length_drop]; omega)] at ht11
    refine Clone_spec ht11 (by rw [List.length_drop]; omega) fun t12 h13 ho12 e13 => ?_
    have z9 := e9.size
    have z13 := e13.size
    refine hn.setRow hq hj3 (c := 1) (by omega) (ho12.base (Nat.zero_le _)) (fun k hk => .inr (by have := (ho12.lt hk).1; omega)) ((e9.trans e13).upd _) hb' fun h14 T' hn2 hst hT u14 => ?_
    have hq1 : (qs.set i (Q.put q j 1 t12 ((q.2.side j).come.drop m)))[i]? = some (Q.put q j 1 t12 ((q.2.side j).come.drop m)) := List.getElem?_set_self hlt
    have hcx := hn2.cell hq1 hb' (m := j * 3 + 2) (by omega) (qC_shut _ hj3)
    have hcw := hn2.cell hq1 hb' (m := j * 3 + 0) (by omega) (qC_get _ hj3 (by omega : 0 < 2))
    have hcc := hn2.cell hq1 hb' (m := j * 3 + 1) (by omega) (qC_get _ hj3 (by omega : 1 < 2))
    have hrw := ((hn2.each i _ hq1).get hj3 (c := 0) (by omega)).own.row
    have hrc := ((hn2.each i _ hq1).get hj3 (c := 1) (by omega)).own.row
    have p1 : ((Q.put q j 1 t12 ((q.2.side j).come.drop m)).2.side j) = ⟨(q.2.side j).way, (q.2.side j).come.drop m, (q.2.side j).x⟩ := by
      rcases two j hj3 with rfl | rfl <;> rfl
    rw [p1] at hcx hrw hrc
    have lw := Bytes.length hrw
    have lc := Bytes.length hrc
    have hbT : T b' = some 2 := hn.tr b' hb'
    have hblt := hn.lt b' (by rw [hbT]; simp)
    have done := hk t8 h14 T' ⟨mb, s, _, hn2, by rw [List.map_set, put_one q hj3]⟩ hst ((ho8.congr fun k _ hl _ => e13.old k hl).congr fun k hk hl hge => u14.old k hl (by omega)) (fun k hk => by
      have a := ho8.lt hk
      rw [hT k fun he => by have := (ho12.lt he).1; omega]
      rcases hTk : T k with _ | t
      · rfl
      · have := hn.lt k (by rw [hTk]; simp); omega)
    refine ⟨(q.2.side j).x, by rw [Nat.add_assoc]; exact hcx, ⟨fun cx => ?_, fun cx => bindI_intro ?_⟩⟩
    · refine ⟨_, hcw, ⟨fun c0 => ⟨_, hcc, bindB_intro (bindI_intro ?_)⟩, fun c0 => bindI_intro ?_⟩⟩
      · have e1 : (q.2.side j).way.length = 0 := by rw [lw] at c0; simpa [Side.get] using c0
        have e2 : ((((Q.put q j 1 t12 ((q.2.side j).come.drop m)).1.get j 1).len : Int) == 0) = (((q.2.side j).come.drop m).length == 0) := by
          rw [lc]
          show ((((q.2.side j).come.drop m).length : Int) == 0) = _
          rw [Bool.eq_iff_iff]
          simp only [beq_iff_eq]
          omega
        rw [e2]
        rw [cx, e1] at done
        simpa using done
      · have e1 : ((q.2.side j).way.length == 0) = false := by
          rw [lw] at c0
          have : ((((q.2.side j).way.length : Nat) : Int) == 0) = false := c0
          rw [beq_eq_false_iff_ne] at this ⊢
          omega
        rw [e1] at done
        simpa using done
    · rw [cx] at done
      simpa using done

/-! ### Shut -/
def shI (cs : List Cn) (i j : Nat) : Int × List Cn := match cs[i]? with
  | none => (0, cs)
  | some c => if (c.side j).x then (51, cs) else (0, cs.set i (c.putS j { c.side j with x := true }))
def shS (cs : List Cn) (k e : Int) : Int × List Cn := if errS cs k e 0 ≠ 0 then (errS cs k e 0, cs) else shI cs (k - 1).toNat e.toNat

theorem Shut_spec {h : Heap} {T : Nat → Option Nat} {nb : Nat} {ps : Int → Bool} {cs : List Cn} (hn : Net h T nb ps cs) {k e : Int} {K : Int → Heap → Prop}
    (hk : ∀ h', Net h' T nb ps (shS cs k e).2 → Stp T T h h' → K (shS cs k e).1 h') : m_stream_Net_Shut (some ⟨nb, 0, none⟩) k e K h := by
  obtain ⟨mb, s, qs, hn, rfl⟩ := hn
  unfold m_stream_Net_Shut g_stream_Net_Shut
  unfold shS at hk
  refine bindI_intro (at_spec hn (fun he => bindI_intro (bindB_intro (iteP_pos (by simpa using he) (bindI_intro ?_)))) (fun i j q b' he hk' hj hj2 hm0 hq hb' => bindI_intro (bindB_intro (iteP_neg rfl ?_))))
  · rw [if_pos he] at hk
    exact hk h ⟨mb, s, qs, hn, rfl⟩ (Stp.refl _ _)
  · rw [if_neg (by rw [he]; simp)] at hk
    have ei : (k - 1).toNat = i := by omega
    have ej : e.toNat = j := by omega
    rw [ei, ej] at hk
    unfold shI at hk
    have hcs : (qs.map (·.2))[i]? = some q.2 := by rw [List.getElem?_map, hq]; rfl
    rw [hcs] at hk
    dsimp only at hk
    refine deref_ (idxN_ hj hj2 ⟨_, by rw [Nat.add_assoc]; exact hn.cell hq hb' (by omega) (qC_shut q hj2), bindB_intro ⟨fun cx => bindI_intro ?_, fun cx => ?_⟩⟩)
    · rw [if_pos cx] at hk
      exact hk h ⟨mb, s, qs, hn, rfl⟩ (Stp.refl _ _)
    · rw [if_neg (by rw [cx]; simp)] at hk
      refine deref_ (idxN_ hj hj2 ?_)
      rw [Nat.add_assoc]
      refine hn.setCell hq (by omega) rfl (qC_putX q hj2 true) ((hn.each i q hq).putX hj2 true) hb' fun h2 hn2 hst => bindI_intro (hk h2 ⟨mb, s, _, hn2, ?_⟩ hst)
      rw [List.map_set]

end Go.Proofs.Ytgkgheaanfgecaa
