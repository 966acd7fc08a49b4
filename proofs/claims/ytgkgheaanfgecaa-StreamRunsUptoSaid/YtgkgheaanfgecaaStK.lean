/- The reference's network: Move, Read, Shut, Look, Port. -/
import Derived.Test.YtgkgheaanfgecaaStJ
namespace Go.Proofs.Ytgkgheaanfgecaa
open Go Go.Fw

theorem held1 {h h' : Heap} {b o : Nat} {v : Value} (hc : h.cell b o = some v) (he : Ext h h') : heldL h' [(b, o, v)] := ⟨by rw [cell_congr (he.old b (cell_lt hc))]; exact hc, trivial⟩
theorem cellE {h h' : Heap} {b o : Nat} {v : Value} (hc : h.cell b o = some v) (he : Ext h h') : h'.cell b o = some v := by rw [cell_congr (he.old b (cell_lt hc))]; exact hc

theorem RMove_spec {h : Heap} {T : Nat → Option Nat} {Z : Nat → Prop} {rb ob : Nat} {ps : Int → Bool} {cs : List Cn} (hn : Ref h T Z rb ob ps cs) {k e most : Int} (hw : ∀ c j, c ∈ cs → j < 2 → (c.side j).way.length ≤ 65536 ∧ (c.side j).come.length ≤ 1099511627776) {K : Int → Int → Heap → Prop}
    (hk : ∀ h' Z', Ref h' T Z' rb ob ps (mvS cs k e most).2 → Stz T Z T Z' h h' → K (mvS cs k e most).1.1 (mvS cs k e most).1.2 h') : m_spillwayref22_Net_Move (some ⟨rb, 0, none⟩) k e most K h := by
  obtain ⟨so, sc, op, qs, hn, hps, hopl, rfl⟩ := hn
  unfold m_spillwayref22_Net_Move g_spillwayref22_Net_Move
  unfold mvS at hk
  have hcap := hn.row.cap
  have hbig := hn.row.big
  have hsl := hn.length
  refine bindI_intro (bindI_intro (wrong_spec hn (fun he => bindI_intro (iteP_pos (by simpa using he) (bindI_intro (bindI_intro ?_)))) (fun i j q b' he hk' hj hj2 _ hq hb' => bindI_intro (iteP_neg rfl ?_))))
  · rw [if_pos he] at hk
    exact hk h Z ⟨so, sc, op, qs, hn, hps, hopl, rfl⟩ (Stz.refl _ _ _)
  · rw [if_neg (by rw [he]; simp)] at hk
    have ei : (k - 1).toNat = i := by omega
    have ej : e.toNat = j := by omega
    rw [ei, ej] at hk
    unfold mvI at hk
    have hcs : (qs.map (·.2))[i]? = some q.2 := by rw [List.getElem?_map, hq]; rfl
    rw [hcs] at hk
    dsimp only at hk
    have hlt : i < qs.length := by
      rcases Nat.lt_or_ge i qs.length with h9 | h9
      · exact h9
      · rw [List.getElem?_eq_none h9] at hq; cases hq
    have hqw : Bytes h (q.1.get j 0) (q.2.side j).way := ((hn.each i q hq).get hj2 (c := 0) (by omega)).row
    have hqc : Bytes h (q.1.get j 1) (q.2.side j).come := ((hn.each i q hq).get hj2 (c := 1) (by omega)).row
    have hway := hw q.2 j (List.mem_map.2 ⟨q, List.mem_of_getElem? hq, rfl⟩) hj2
    have hrl : (q.1.get j 0).len = (q.2.side j).way.length := Bytes.length hqw
    have hcl : (q.1.get j 1).len = (q.2.side j).come.length := Bytes.length hqc
    have hwc := hqw.cap
    have hwk : IntKind.wrap .i64 (k - 1) = (i : Int) := by rw [wrap64 (by omega) (by omega)]; omega
    rw [hwk]
    refine deref_ (ldLk hn.cells rfl (idxR hn hq rfl fun b9 hb9 => idxN_ hj hj2 ?_))
    have hbb : b9 = b' := by rw [hb'] at hb9; exact (Option.some.inj hb9).symm
    subst hbb
    have a1 : i * 8 + 2 + j * 3 = i * 8 + (2 + (j * 3 + 0)) := by omega
    have a2 : i * 8 + (2 + (j * 3 + 0)) + 1 = i * 8 + (2 + (j * 3 + 1)) := by omega
    rw [a1, a2]
    have hc0 := hn.cell hq hb' (m := 2 + (j * 3 + 0)) (by omega) (rC_get q hj2 (by omega : 0 < 2))
    have hc1 := hn.cell hq hb' (m := 2 + (j * 3 + 1)) (by omega) (rC_get q hj2 (by omega : 1 < 2))
    refine ⟨q.1.get j 0, hc0, least_spec (bindI_intro ?_)⟩
    have hmin : minV most ((q.1.get j 0).len : Int) = ((min most.toNat (q.2.side j).way.length : Nat) : Int) := by
      unfold minV
      rw [hrl]
      split <;> omega
    rw [hmin]
    generalize hmm : min most.toNat (q.2.side j).way.length = m at hk hmin
    have hm1 : m ≤ (q.2.side j).way.length := by omega
    refine ⟨q.1.get j 1, hc1, q.1.get j 0, hc0, ?_⟩
    refine Row.slc hqw (a := 0) (b := m) (m := (q.1.get j 0).cap) rfl rfl rfl (Nat.zero_le _) (by omega) (by omega) (Nat.le_refl _) fun t14 ht14 hl14 _ _ => ?_
    rw [List.drop_zero, Nat.sub_zero, ← List.map_take] at ht14
    refine newE 1 fun h16 ho16 e16 z16 => ⟨held1 hc0 e16, held1 hc1 e16, ?_⟩
    refine Row.rd (Row.ext hqc e16) (appE ho16 e16 (by simp [hcl]) (bv_one _) rfl (by simp [hcl]; omega) (by simp [hcl]; omega) fun t17 h18 ho18 hl18 e18 _ => ⟨held1 hc0 e18, ?_⟩)
    rw [List.nil_append] at ho18
    have hl18' := Own.blen_ ho18
    have hnl : ((q.2.side j).way.take m).length = m := by rw [List.length_take]; omega
    refine Row.rd (Row.ext ht14 e18) (appE ho18 e18 (by simp only [List.length_map]; omega) (bv_one _) rfl (by omega) (by omega) fun t19 h20 ho20 hl20 e20 _ => ⟨held1 hc0 e20, ?_⟩)
    rw [← List.map_append] at ho20
    refine hn.setRow e20 hq hj2 (c := 1) (by omega) ho20 hb' fun h22 hn1 hst1 _ _ => ?_
    obtain ⟨g1, g2⟩ := put_get q hj2 t19 ((q.2.side j).come ++ (q.2.side j).way.take m)
    have hq1 : (qs.set i (Q.put q j 1 t19 ((q.2.side j).come ++ (q.2.side j).way.take m)))[i]? = some (Q.put q j 1 t19 ((q.2.side j).come ++ (q.2.side j).way.take m)) := List.getElem?_set_self hlt
    have hqw1 := ((hn1.each i _ hq1).get hj2 (c := 0) (by omega)).row
    rw [g1, g2] at hqw1
    have hc01 := hn1.cell hq1 hb' (m := 2 + (j * 3 + 0)) (by omega) (rC_get _ hj2 (by omega : 0 < 2))
    rw [g1] at hc01
    refine newE 1 fun h24 ho24 e24 z24 => ⟨q.1.get j 0, cellE hc01 e24, ?_⟩
    refine Row.slc (hqw1.ext e24) (a := m) (b := (q.1.get j 0).len) (m := (q.1.get j 0).cap) rfl rfl rfl (by omega) (Nat.le_refl _) (by omega) (Nat.le_refl _) fun t26 ht26 hl26 _ _ => ?_
    rw [← List.map_drop, ← List.map_take, List.take_of_length_le (by rw [List.length_drop]; omega)] at ht26
    refine Row.rd ht26 (appE ho24 e24 (by simp only [List.length_map, List.length_drop]; omega) (bv_one _) rfl (by dsimp only; omega) (by dsimp only; omega) fun t27 h28 ho28 hl28 e28 _ => ?_)
    rw [List.nil_append] at ho28
    refine hn1.setRow e28 hq1 hj2 (c := 0) (by omega) ho28 hb' fun h30 hn2 hst2 _ _ => bindI_intro (bindI_intro ?_)
    refine hk h30 _ ⟨so, sc, op, _, hn2, hps, hopl, ?_⟩ (hst1.trans hst2)
    rw [List.set_set, List.map_set, put_put q hj2]

theorem RRead_spec {h : Heap} {T : Nat → Option Nat} {Z : Nat → Prop} {rb ob : Nat} {ps : Int → Bool} {cs : List Cn} (hn : Ref h T Z rb ob ps cs) {k e most : Int} (hw : ∀ c j, c ∈ cs → j < 2 → (c.side j).way.length ≤ 65536 ∧ (c.side j).come.length ≤ 1099511627776) {K : Sl → Bool → Int → Heap → Prop}
    (hk : ∀ out h' Z', Ref h' T Z' rb ob ps (rdS_ cs k e most).2 → Stz T Z T Z' h h' → Bytes h' out (rdS_ cs k e most).1.1 → K out (rdS_ cs k e most).1.2.1 (rdS_ cs k e most).1.2.2 h') : m_spillwayref22_Net_Read (some ⟨rb, 0, none⟩) k e most K h := by
  obtain ⟨so, sc, op, qs, hn, hps, hopl, rfl⟩ := hn
  unfold m_spillwayref22_Net_Read g_spillwayref22_Net_Read
  unfold rdS_ at hk
  have hcap := hn.row.cap
  have hbig := hn.row.big
  have hsl := hn.length
  refine bindI_intro (wrong_spec hn (fun he => bindI_intro (iteP_pos (by simpa using he) (bindI_intro ?_))) (fun i j0 q b' he hk' hj hj2 _ hq hb' => bindI_intro (iteP_neg rfl ?_)))
  · rw [if_pos he] at hk
    exact hk ⟨none, 0, 0⟩ h Z ⟨so, sc, op, qs, hn, hps, hopl, rfl⟩ (Stz.refl _ _ _) (Row.nil _ 1)
  · rw [if_neg (by rw [he]; simp)] at hk
    have ei : (k - 1).toNat = i := by omega
    have ej : e.toNat = j0 := by omega
    rw [ei, ej] at hk
    have hwr : IntKind.wrap .i64 ((1 : Int) - e) = ((1 - j0 : Nat) : Int) := by rw [wrap64 (by omega) (by omega)]; omega
    have hj3 : 1 - j0 < 2 := by omega
    generalize 1 - j0 = j at hk hwr hj3
    unfold rdI at hk
    have hcs : (qs.map (·.2))[i]? = some q.2 := by rw [List.getElem?_map, hq]; rfl
    rw [hcs] at hk
    dsimp only at hk
    have hlt : i < qs.length := by
      rcases Nat.lt_or_ge i qs.length with h9 | h9
      · exact h9
      · rw [List.getElem?_eq_none h9] at hq; cases hq
    have hqc : Bytes h (q.1.get j 1) (q.2.side j).come := ((hn.each i q hq).get hj3 (c := 1) (by omega)).row
    have hway := hw q.2 j (List.mem_map.2 ⟨q, List.mem_of_getElem? hq, rfl⟩) hj3
    have hcl : (q.1.get j 1).len = (q.2.side j).come.length := Bytes.length hqc
    have hwc := hqc.cap
    have hwk : IntKind.wrap .i64 (k - 1) = (i : Int) := by rw [wrap64 (by omega) (by omega)]; omega
    rw [hwk]
    refine deref_ (ldLk hn.cells rfl (idxR hn hq rfl fun b9 hb9 => idxN_ hwr hj3 ?_))
    have hbb : b9 = b' := by rw [hb'] at hb9; exact (Option.some.inj hb9).symm
    subst hbb
    have a1 : i * 8 + 2 + j * 3 = i * 8 + (2 + (j * 3 + 0)) := by omega
    have a2 : i * 8 + (2 + (j * 3 + 0)) + 1 = i * 8 + (2 + (j * 3 + 1)) := by omega
    have a3 : i * 8 + (2 + (j * 3 + 0)) + 2 = i * 8 + (2 + (j * 3 + 2)) := by omega
    rw [a1, a2, a3]
    have hc1 := hn.cell hq hb' (m := 2 + (j * 3 + 1)) (by omega) (rC_get q hj3 (by omega : 1 < 2))
    refine ⟨q.1.get j 1, hc1, least_spec (bindI_intro ?_)⟩
    have hmin : minV most ((q.1.get j 1).len : Int) = ((min most.toNat (q.2.side j).come.length : Nat) : Int) := by
      unfold minV
      rw [hcl]
      split <;> omega
    rw [hmin]
    generalize hmm : min most.toNat (q.2.side j).come.length = m at hk hmin
    have hm1 : m ≤ (q.2.side j).come.length := by omega
    refine newE 1 fun h11 ho11 e11 z11 => ⟨q.1.get j 1, cellE hc1 e11, ?_⟩
    refine Row.slc (hqc.ext e11) (a := 0) (b := m) (m := (q.1.get j 1).cap) rfl rfl rfl (Nat.zero_le _) (by omega) (by omega) (Nat.le_refl _) fun t13 ht13 hl13 _ _ => ?_
    rw [List.drop_zero, Nat.sub_zero, ← List.map_take] at ht13
    refine Row.rd ht13 (appE ho11 e11 (by simp only [List.length_map, List.length_take]; omega) (bv_one _) rfl (by dsimp only; omega) (by dsimp only; omega) fun t14 h15 ho15 hl15 e15 _ => ?_)
    rw [List.nil_append] at ho15
    refine newE 1 fun h17 ho17 e17 z17 => ⟨q.1.get j 1, cellE hc1 (e15.trans e17), ?_⟩
    refine Row.slc (hqc.ext (e15.trans e17)) (a := m) (b := (q.1.get j 1).len) (m := (q.1.get j 1).cap) rfl rfl rfl (by omega) (Nat.le_refl _) (by omega) (Nat.le_refl _) fun t19 ht19 hl19 _ _ => ?_
    rw [← List.map_drop, ← List.map_take, List.take_of_length_le (by rw [List.length_drop]; omega)] at ht19
    refine Row.rd ht19 (appE ho17 e17 (by simp only [List.length_map, List.length_drop]; omega) (bv_one _) rfl (by dsimp only; omega) (by dsimp only; omega) fun t20 h21 ho21 hl21 e21 _ => ?_)
    rw [List.nil_append] at ho21
    have z15 := e15.size
    refine hn.setRow (e15.trans e21) hq hj3 (c := 1) (by omega) (ho21.base z15) hb' fun h23 hn2 hst u23 z23 => ?_
    have hq1 : (qs.set i (Q.put q j 1 t20 ((q.2.side j).come.drop m)))[i]? = some (Q.put q j 1 t20 ((q.2.side j).come.drop m)) := List.getElem?_set_self hlt
    have hcx := hn2.cell hq1 hb' (m := 2 + (j * 3 + 2)) (by omega) (rC_shut _ hj3)
    have hcw := hn2.cell hq1 hb' (m := 2 + (j * 3 + 0)) (by omega) (rC_get _ hj3 (by omega : 0 < 2))
    have hcc := hn2.cell hq1 hb' (m := 2 + (j * 3 + 1)) (by omega) (rC_get _ hj3 (by omega : 1 < 2))
    have hrw := ((hn2.each i _ hq1).get hj3 (c := 0) (by omega)).row
    have hrc := ((hn2.each i _ hq1).get hj3 (c := 1) (by omega)).row
    have p1 : ((Q.put q j 1 t20 ((q.2.side j).come.drop m)).2.side j) = ⟨(q.2.side j).way, (q.2.side j).come.drop m, (q.2.side j).x⟩ := by
      rcases two j hj3 with rfl | rfl <;> rfl
    rw [p1] at hcx hrw hrc
    have lw : ((Q.put q j 1 t20 ((q.2.side j).come.drop m)).1.get j 0).len = (q.2.side j).way.length := Bytes.length hrw
    have lc : ((Q.put q j 1 t20 ((q.2.side j).come.drop m)).1.get j 1).len = ((q.2.side j).come.drop m).length := Bytes.length hrc
    have hbT : T b9 = some 2 := hn.tr b9 hb'
    have hblt := hn.lt b9 (by rw [hbT]; simp)
    have out23 : Bytes h23 t14 ((q.2.side j).come.take m) := ((ho15.congr fun k _ hl _ => e21.old k hl).congr fun k hk hl hge => u23.old k hl (by omega)).row
    have done := hk t14 h23 _ ⟨so, sc, op, _, hn2, hps, hopl, by rw [List.map_set, put_one q hj3]⟩ hst out23
    refine ⟨(q.2.side j).x, hcx, ⟨fun cx => ?_, fun cx => bindI_intro ?_⟩⟩
    · refine ⟨_, hcw, _, hcc, bindB_intro (bindI_intro ?_)⟩
      have hdl := List.length_drop (i := m) (l := (q.2.side j).come)
      have e2 : (IntKind.wrap .i64 ((((Q.put q j 1 t20 ((q.2.side j).come.drop m)).1.get j 0).len : Int) + (((Q.put q j 1 t20 ((q.2.side j).come.drop m)).1.get j 1).len : Int)) == 0) = ((q.2.side j).way.length == 0 && ((q.2.side j).come.drop m).length == 0) := by
        rw [lw, lc, wrap64 (by omega) (by omega), Bool.eq_iff_iff]
        simp only [beq_iff_eq, Bool.and_eq_true]
        omega
      rw [e2]
      rw [cx] at done
      simpa using done
    · rw [cx] at done
      simpa using done

theorem RShut_spec {h : Heap} {T : Nat → Option Nat} {Z : Nat → Prop} {rb ob : Nat} {ps : Int → Bool} {cs : List Cn} (hn : Ref h T Z rb ob ps cs) {k e : Int} {K : Int → Heap → Prop}
    (hk : ∀ h' Z', Ref h' T Z' rb ob ps (shS cs k e).2 → Stz T Z T Z' h h' → K (shS cs k e).1 h') : m_spillwayref22_Net_Shut (some ⟨rb, 0, none⟩) k e K h := by
  obtain ⟨so, sc, op, qs, hn, hps, hopl, rfl⟩ := hn
  unfold m_spillwayref22_Net_Shut g_spillwayref22_Net_Shut
  unfold shS at hk
  have hcap := hn.row.cap
  have hbig := hn.row.big
  have hsl := hn.length
  refine bindI_intro (wrong_spec hn (fun he => bindI_intro (iteP_pos (by simpa using he) (bindI_intro ?_))) (fun i j q b' he hk' hj hj2 _ hq hb' => bindI_intro (iteP_neg rfl ?_)))
  · rw [if_pos he] at hk
    exact hk h Z ⟨so, sc, op, qs, hn, hps, hopl, rfl⟩ (Stz.refl _ _ _)
  · rw [if_neg (by rw [he]; simp)] at hk
    have ei : (k - 1).toNat = i := by omega
    have ej : e.toNat = j := by omega
    rw [ei, ej] at hk
    unfold shI at hk
    have hcs : (qs.map (·.2))[i]? = some q.2 := by rw [List.getElem?_map, hq]; rfl
    rw [hcs] at hk
    dsimp only at hk
    have hlt : i < qs.length := by
      rcases Nat.lt_or_ge i qs.length with h9 | h9
      · exact h9
      · rw [List.getElem?_eq_none h9] at hq; cases hq
    have hwk : IntKind.wrap .i64 (k - 1) = (i : Int) := by rw [wrap64 (by omega) (by omega)]; omega
    rw [hwk]
    refine deref_ (ldLk hn.cells rfl (idxR hn hq rfl fun b9 hb9 => idxN_ hj hj2 ?_))
    have a2 : i * 8 + 2 + j * 3 + 2 = i * 8 + (2 + (j * 3 + 2)) := by omega
    rw [a2]
    refine ⟨_, hn.cell hq hb9 (by omega) (rC_shut q hj2), ⟨fun cx => bindI_intro ?_, fun cx => ?_⟩⟩
    · rw [if_pos cx] at hk
      exact hk h Z ⟨so, sc, op, qs, hn, hps, hopl, rfl⟩ (Stz.refl _ _ _)
    · rw [if_neg (by rw [cx]; simp)] at hk
      refine hn.setCell (Ext.refl h) hq (by omega) rfl (rC_putX q hj2 true) hb9 (((hn.each i q hq).congr (fun k _ _ => rfl) fun k hk => .inl hk).putX hj2 true) fun h2 hn2 hst _ _ => bindI_intro (hk h2 _ ⟨so, sc, op, _, hn2, hps, hopl, ?_⟩ hst)
      rw [List.map_set]

theorem RPort_spec {h : Heap} {T : Nat → Option Nat} {Z : Nat → Prop} {rb ob : Nat} {ps : Int → Bool} {cs : List Cn} (hn : Ref h T Z rb ob ps cs) {k : Int} {K : Int → Heap → Prop} (hk : K (ptS cs k) h) : m_spillwayref22_Net_Port (some ⟨rb, 0, none⟩) k K h := by
  obtain ⟨so, sc, op, qs, hn, hps, hopl, rfl⟩ := hn
  unfold m_spillwayref22_Net_Port g_spillwayref22_Net_Port
  unfold ptS at hk
  rw [List.length_map] at hk
  have hl := hn.length
  have hcap := hn.row.cap
  have hbig := hn.row.big
  refine bindI_intro (iteP_false (iteP_dec (fun c1 => bindI_intro ?_) (fun c1 => deref_ (ldLk hn.cells rfl (iteP_dec (fun c2 => bindI_intro ?_) (fun c2 => deref_ (ldLk hn.cells rfl ?_)))))))
  · rw [if_pos c1] at hk; exact hk
  · rw [if_neg c1, if_pos (by omega)] at hk; exact hk
  · rw [if_neg c1, if_neg (by omega)] at hk
    obtain ⟨j, hj⟩ := Int.eq_ofNat_of_zero_le (show 0 ≤ k - 1 by omega)
    have hjl : j < qs.length := by omega
    have hq : qs[j]? = some qs[j] := List.getElem?_eq_getElem hjl
    generalize qs[j] = q at hq
    have hcs : (qs.map (·.2))[(k - 1).toNat]? = some q.2 := by rw [hj, Int.toNat_natCast, List.getElem?_map, hq]; rfl
    rw [hcs] at hk
    rw [wrap64 (by omega) (by omega)]
    exact idxR hn hq hj fun b hb => ⟨_, hn.cell hq hb (m := 0) (by omega) rfl, bindI_intro hk⟩

theorem RLook_spec {h : Heap} {T : Nat → Option Nat} {Z : Nat → Prop} {rb ob : Nat} {ps : Int → Bool} {cs : List Cn} (hn : Ref h T Z rb ob ps cs) {k e : Int} {K : Int → Int → Int → Heap → Prop} (hk : ∀ h', Ext h h' → K (lkS cs k e).1 (lkS cs k e).2.1 (lkS cs k e).2.2 h') : m_spillwayref22_Net_Look (some ⟨rb, 0, none⟩) k e K h := by
  obtain ⟨so, sc, op, qs, hn, hps, hopl, rfl⟩ := hn
  unfold m_spillwayref22_Net_Look g_spillwayref22_Net_Look
  unfold lkS at hk
  have hcap := hn.row.cap
  have hbig := hn.row.big
  have hsl := hn.length
  refine bindI_intro (bindI_intro (bindI_intro (wrong_spec hn (fun he => bindI_intro (iteP_pos (by simpa using he) (bindI_intro (bindI_intro (bindI_intro ?_))))) (fun i j q b' he hk' hj hj2 hm0 hq hb' => bindI_intro (iteP_neg rfl ?_)))))
  · rw [if_pos he] at hk; exact hk h (Ext.refl h)
  · rw [if_neg (by rw [he]; simp)] at hk
    have ei : (k - 1).toNat = i := by omega
    have ej : e.toNat = j := by omega
    rw [ei, ej] at hk
    have hcs : (qs.map (·.2))[i]? = some q.2 := by rw [List.getElem?_map, hq]; rfl
    rw [hcs] at hk
    dsimp only at hk
    have hlt : i < qs.length := by
      rcases Nat.lt_or_ge i qs.length with h9 | h9
      · exact h9
      · rw [List.getElem?_eq_none h9] at hq; cases hq
    have hj3 : 1 - j < 2 := by omega
    have hwr : IntKind.wrap .i64 ((1 : Int) - e) = ((1 - j : Nat) : Int) := by rw [wrap64 (by omega) (by omega)]; omega
    have l0 := Bytes.length ((hn.each i q hq).get hj2 (c := 0) (by omega)).row
    have l1 := Bytes.length ((hn.each i q hq).get hj3 (c := 1) (by omega)).row
    have hwk : IntKind.wrap .i64 (k - 1) = (i : Int) := by rw [wrap64 (by omega) (by omega)]; omega
    rw [hwk]
    refine deref_ (ldLk hn.cells rfl (idxR hn hq rfl fun b9 hb9 => ?_))
    refine ⟨_, hn.cell hq hb9 (m := 0) (by omega) rfl, _, hn.cell hq hb9 (m := 1) (by omega) rfl, _, hn.cell hq hb9 (m := 2) (by omega) rfl, _, hn.cell hq hb9 (m := 3) (by omega) rfl, _, hn.cell hq hb9 (m := 4) (by omega) rfl,
      _, hn.cell hq hb9 (m := 5) (by omega) rfl, _, hn.cell hq hb9 (m := 6) (by omega) rfl, _, hn.cell hq hb9 (m := 7) (by omega) rfl, newK fun h20 c20 e20 z20 => stsAll c20 rfl rfl fun h21 c21 u21 z21 => ?_⟩
    have e21 : Ext h h21 := e20.then u21 fun k hk => by omega
    have rcs : ∀ {m : Nat} {v : Value}, (rC q)[m]? = some v → h21.cell h.size m = some v := fun {m v} hm => by rw [cell_block c21]; simpa [rC, slV] using hm
    refine idxN_ hj hj2 ⟨_, by rw [Nat.zero_add]; exact rcs (rC_get q hj2 (by omega : 0 < 2)), idxN_ hwr hj3 ⟨_, by rw [Nat.zero_add, Nat.add_assoc]; exact rcs (rC_get q hj3 (by omega : 1 < 2)), bindI_intro (bindI_intro (bindI_intro ?_))⟩⟩
    rw [l0, l1]
    exact hk h21 e21

end Go.Proofs.Ytgkgheaanfgecaa
