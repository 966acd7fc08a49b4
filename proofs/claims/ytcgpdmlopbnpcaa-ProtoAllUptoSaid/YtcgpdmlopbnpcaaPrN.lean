/- ProtoMessages' and ProtoAll's laws, on their models. -/
import Derived.Test.YtcgpdmlopbnpcaaPrM
namespace Go.Proofs.Ytcgpdmlopbnpcaa
open Go Go.Fw

theorem allOk_take {rs : List Rq} {k : Nat} {r : Rq} (hx : rs[k]? = some r) (h : rightB r = false) : allOk rs = false := by
  unfold allOk
  rw [List.all_eq_false]
  exact ⟨r, List.mem_of_getElem? hx, by simp [h]⟩

theorem fr_small {rs : List Rq} (h : ∀ r, r ∈ rs → rightB r = true) (hn : rs.length ≤ 1048576) : (fr (rs.map reqL)).length ≤ 536870912 := by
  have h1 := fr_len (rs.map reqL)
  have h2 := total_req rs h
  omega

theorem ProtoMessages_true {r : Rq} {a : An} {l : Sl} {rs : List Rq} {h : Heap} {K : Bool → Heap → Prop} (hs : r.2.2.2.2.1.size < 9223372036854775808) (hl : RowsQ h l rs) (hn : rs.length ≤ 1048576) (hk : ∀ h', Ext h h' → K true h') : m_spillwaylaw19_ProtoMessages r a l K h := by
  unfold m_spillwaylaw19_ProtoMessages g_spillwaylaw19_ProtoMessages
  have hlen := hl.len
  refine newK fun h1 c1 e1 z1 => newK fun h3 c2 e3 z3 => ?_
  replace c1 := keepE c1 e3
  have x3 := e1.trans e3
  refine ldIk c1 rfl (ldIk c1 rfl (ldIk c1 rfl (ldIk c1 rfl (ldSk c1 rfl (ldIk c1 rfl ?_)))))
  refine Request_spec (r := r) hs fun t9 h11 ho9 e11 => bindI_intro ?_
  replace c1 := keepE c1 e11
  replace c2 := keepE c2 e11
  refine ldIk c1 rfl (ldIk c1 rfl (ldIk c1 rfl (ldIk c1 rfl (ldSk c1 rfl (ldIk c1 rfl ?_)))))
  refine RRequest_spec (r := r) fun t18 h20 ho18 e20 => bindI_intro ?_
  replace c1 := keepE c1 e20
  replace c2 := keepE c2 e20
  refine ldIk c2 rfl (ldIk c2 rfl (ldIk c2 rfl (ldIk c2 rfl (ldIk c2 rfl ?_))))
  refine Answer_spec (r := a) fun t26 h28 ho26 e28 => bindI_intro ?_
  replace c1 := keepE c1 e28
  replace c2 := keepE c2 e28
  refine ldIk c2 rfl (ldIk c2 rfl (ldIk c2 rfl (ldIk c2 rfl (ldIk c2 rfl ?_))))
  refine RAnswer_spec (r := a) fun t34 h36 ho34 e36 => bindI_intro ?_
  refine live_spec fun h39 e39 => iteP_false ?_
  replace c1 := keepE (keepE c1 e36) e39
  replace c2 := keepE (keepE c2 e36) e39
  have x39 := ((((x3.trans e11).trans e20).trans e28).trans e36).trans e39
  refine Same_spec (ho9.row.ext (((e20.trans e28).trans e36).trans e39)) (ho18.row.ext ((e28.trans e36).trans e39)) ?_
  rw [decide_eq_true rfl]
  refine iteP_false (iteP_neg (by simp) ?_)
  refine Same_spec (ho26.row.ext (e36.trans e39)) (ho34.row.ext e39) ?_
  rw [decide_eq_true rfl]
  refine iteP_false (iteP_neg (by simp) ?_)
  refine ldIk c1 rfl (ldIk c1 rfl (ldIk c1 rfl (ldIk c1 rfl (ldSk c1 rfl (ldIk c1 rfl ?_)))))
  refine ldIk c1 rfl (ldIk c1 rfl (ldIk c1 rfl (ldIk c1 rfl (ldSk c1 rfl (ldIk c1 rfl ?_)))))
  refine Right_spec (r := r) hs fun h57 e57 => ?_
  replace c1 := keepE c1 e57
  replace c2 := keepE c2 e57
  refine ⟨⟨(cell_block c1).trans rfl, (cell_block c1).trans rfl, (cell_block c1).trans rfl, (cell_block c1).trans rfl, (cell_block c1).trans rfl, (cell_block c1).trans rfl, trivial⟩, ?_⟩
  refine RRight_spec (r := r) fun h59 e59 => iteP_neg (by simp) ?_
  replace c2 := keepE c2 e59
  refine ldIk c2 rfl (ldIk c2 rfl (ldIk c2 rfl (ldIk c2 rfl (ldIk c2 rfl ?_))))
  refine ldIk c2 rfl (ldIk c2 rfl (ldIk c2 rfl (ldIk c2 rfl (ldIk c2 rfl ?_))))
  refine RightA_spec (a := a) fun h71 e71 => ?_
  replace c2 := keepE c2 e71
  refine ⟨⟨(cell_block c2).trans rfl, (cell_block c2).trans rfl, (cell_block c2).trans rfl, (cell_block c2).trans rfl, (cell_block c2).trans rfl, trivial⟩, ?_⟩
  refine RRightA_spec (a := a) fun h73 e73 => iteP_neg (by simp) ?_
  have x73 := ((((x39.trans e57).trans e59).trans e71).trans e73)
  refine All_spec (hl.ext x73) hn fun t74 h76 ho74 e76 => bindI_intro (bindI_intro ?_)
  have x76 := x73.trans e76
  have hl76 := hl.ext x76
  refine cutP_intro (fun s h' => Ext h76 h' ∧ s.1 = allE rs ∧ (allOk rs = true → Bytes h' s.2.1 (fr (rs.map reqL)))) ?_ ?_
  · rintro ⟨f, want, u⟩ h104 ⟨e104, hf, hw⟩
    dsimp only at hf hw ⊢
    subst hf
    refine cutP_intro (fun s h' => h' = h104 ∧ Bytes h104 s.1 (allB rs)) ?_ ?_
    · rintro ⟨w2, u⟩ h' ⟨rfl, hw2⟩
      dsimp only at hw2 ⊢
      refine iteP_pos (by simp) (Same_spec (ho74.row.ext e104) hw2 ?_)
      rw [decide_eq_true rfl]
      exact bindB_intro (hk h' (x76.trans e104))
    · refine ⟨fun e => ⟨rfl, ?_⟩, fun e => ⟨rfl, ?_⟩⟩
      · have hA : allOk rs = false := by
          cases hc : allOk rs with
          | false => rfl
          | true => unfold allE at e; rw [hc] at e; simp at e
        unfold allB
        rw [hA]
        exact Row.nil _ 1
      · have hA : allOk rs = true := by
          cases hc : allOk rs with
          | true => rfl
          | false => unfold allE at e; rw [hc] at e; simp at e
        unfold allB
        rw [hA, if_pos rfl]
        exact hw hA
  · refine bindI_intro (loopM_intro (fun s h' => ∃ k : Nat, s.2.2.1 = (k : Int) ∧ k ≤ rs.length ∧ Ext h76 h' ∧ ((s.1 = 0 ∧ (∀ r, r ∈ rs.take k → rightB r = true) ∧ Own h' h76.size s.2.1 1 ((fr ((rs.take k).map reqL)).map bv)) ∨ (s.1 = 6 ∧ allOk rs = false))) (fun s _ => rs.length - s.2.2.1.toNat)
      ⟨0, rfl, Nat.zero_le _, Ext.refl _, .inl ⟨rfl, by simp, Own.nil _ _ 1⟩⟩ ?_)
    rintro ⟨f, want, i, u⟩ h83 ⟨k, hi, hkl, e83, hst⟩
    dsimp only at hi hst
    subst hi
    dsimp only
    have bad : f = 6 → allOk rs = false → Ext h76 h83 ∧ f = allE rs ∧ (allOk rs = true → Bytes h83 want (fr (rs.map reqL))) := fun hf hA => by
      refine ⟨e83, ?_, fun h => by rw [hA] at h; cases h⟩
      unfold allE
      rw [hA]
      exact hf
    refine iteP_dec (fun hlt => ?_) (fun hge => ?_)
    · have hk1 : k < rs.length := by omega
      have hx : rs[k]? = some rs[k] := List.getElem?_eq_getElem hk1
      have htk : rs.take (k + 1) = rs.take k ++ [rs[k]] := List.take_succ_eq_append_getElem hk1
      generalize rs[k] = q at hx htk
      refine ⟨fun e => ?_, fun e => ?_⟩
      · rcases hst with ⟨hf, hall, hown⟩ | ⟨hf, hA⟩
        case inr => rw [hf] at e; simp at e
        refine RowsQ.idx (hl76.ext e83) rfl hx fun b o hh => ldRq hh ?_
        refine RRequest_spec (r := q) fun t91 h93 ho93 e93 => bindI_intro (bindI_intro ?_)
        refine RFrame_spec ho93.row fun t95 h97 ho97 e97 _ => ?_
        have z83 := e83.size
        have z93 := e93.size
        have hsm := fr_small hall (by simp; omega)
        have hq : (reqB q).length ≤ 98 := by
          unfold reqB
          split
          · rename_i hR
            have := right_text hR
            rw [reqL_len]
            omega
          · simp
        have hfb : (frameB (reqB q)).length ≤ 102 := by
          unfold frameB
          split
          · simp
          · simp only [List.length_append, header_len]
            omega
        refine app_own (h0 := h76) hown (e93.trans e97) (ho97.base z93) z83 (Nat.le_refl _) e83 (by omega) fun t98 h99 ho99 e99 _ _ => bindI_intro ?_
        rw [wrap64 (n := (k : Int) + 1) (by omega) (by omega)]
        refine ⟨⟨k + 1, by omega, by omega, e99, ?_⟩, by omega⟩
        cases hR : rightB q with
        | false => exact .inr ⟨rfl, allOk_take hx hR⟩
        | true =>
          refine .inl ⟨rfl, ?_, ?_⟩
          · rw [htk]
            intro x hx
            rcases List.mem_append.1 hx with hx | hx
            · exact hall x hx
            · have : x = q := by simpa using hx
              rw [this]; exact hR
          · have hqB : reqB q = reqL q := by unfold reqB; rw [if_pos hR]
            rw [htk, List.map_append, List.map_cons, List.map_nil, fr_snoc]
            rw [hqB, frameB_good (good_req hR)] at ho99
            exact ho99
      · rcases hst with ⟨hf, _⟩ | ⟨hf, hA⟩
        · rw [hf] at e; simp at e
        · exact bad hf hA
    · have hk9 : k = rs.length := by omega
      subst hk9
      rcases hst with ⟨hf, hall, hown⟩ | ⟨hf, hA⟩
      · rw [List.take_of_length_le (Nat.le_refl _)] at hall hown
        have hA : allOk rs = true := by unfold allOk; rw [List.all_eq_true]; exact fun x hx => hall x hx
        refine ⟨e83, ?_, fun _ => hown.row⟩
        unfold allE
        rw [hA, if_pos rfl]
        exact hf
      · exact bad hf hA

theorem ProtoAll_true {l : Sl} {rs : List Rq} {h : Heap} {K : Bool → Heap → Prop} (hl : RowsQ h l rs) (hn : rs.length ≤ 1048576) (hk : ∀ h', Ext h h' → K true h') : m_spillwaylaw19_ProtoAll l K h := by
  unfold m_spillwaylaw19_ProtoAll g_spillwaylaw19_ProtoAll
  have hlen := hl.len
  refine All_spec hl hn fun t h2 ho e2 => bindI_intro ?_
  have htl := Own.len ho
  simp only [List.length_map, Nat.mul_one] at htl
  refine ⟨fun e => ?_, fun e => ?_⟩
  · have hA : allOk rs = false := by
      cases hc : allOk rs with
      | false => rfl
      | true => unfold allE at e; rw [hc] at e; simp at e
    refine live_spec fun h4 e4 => iteP_true (bindB_intro ?_)
    have h0 : t.len = 0 := by
      rw [← htl]
      unfold allB
      rw [hA]
      rfl
    rw [h0]
    exact hk h4 (e2.trans e4)
  · have hA : allOk rs = true := by
      cases hc : allOk rs with
      | true => rfl
      | false => unfold allE at e; rw [hc] at e; simp at e
    have hall : ∀ r, r ∈ rs → rightB r = true := by unfold allOk at hA; rw [List.all_eq_true] at hA; exact hA
    have hB : allB rs = fr (rs.map reqL) := by unfold allB; rw [hA, if_pos rfl]
    have hsm := fr_small hall hn
    rw [hB] at ho htl
    have hgood : ∀ l ∈ rs.map reqL, good l := fun l hl => by
      obtain ⟨r, hr, rfl⟩ := List.mem_map.1 hl
      exact good_req (hall r hr)
    refine Split_spec ho.row (by omega) fun t6 h9 hrows e9 => bindI_intro (bindI_intro ?_)
    rw [splitA_fr _ hgood] at hrows ⊢
    dsimp only at hrows ⊢
    have h6 := OwnRows.len hrows
    rw [List.length_map] at h6
    refine iteP_neg rfl (iteP_neg (by rw [← htl]; simp) (iteP_neg (by rw [h6, hlen]; simp) (bindI_intro ?_)))
    refine loopM_intro (fun s h' => ∃ k : Nat, s.1 = (k : Int) ∧ k ≤ rs.length ∧ Ext h9 h') (fun s _ => rs.length - s.1.toNat) ⟨0, rfl, Nat.zero_le _, Ext.refl _⟩ ?_
    rintro ⟨i, u⟩ h12 ⟨k, hi, hkl, e12⟩
    dsimp only at hi
    subst hi
    dsimp only
    have x12 := (e2.trans e9).trans e12
    refine iteP_dec (fun hlt => ?_) (fun hge => live_spec fun h37 e37 => bindB_intro (hk h37 (x12.trans e37)))
    have hk1 : k < rs.length := by omega
    have hx : rs[k]? = some rs[k] := List.getElem?_eq_getElem hk1
    generalize rs[k] = q at hx
    have hR := hall q (List.mem_of_getElem? hx)
    have hx2 : (rs.map reqL)[k]? = some (reqL q) := by rw [List.getElem?_map, hx]; rfl
    refine OwnRows.idx (OwnRows.congr hrows fun b hb _ => e12.old b hb) rfl hx2 fun y hy => ?_
    refine ReadRequest_spec hy fun h17 e17 => ?_
    rw [read_req hR]
    refine newK fun h19 c19 e19 z19 => stsAll c19 rfl rfl fun h20 c20 u20 z20 => bindI_intro (bindI_intro (iteP_neg rfl ?_))
    have w17 := e17.size
    have x20 : Ext h12 h20 := (e17.trans e19).then u20 fun k hk => by omega
    refine ldIk c20 rfl (ldIk c20 rfl (ldIk c20 rfl (ldIk c20 rfl (ldSk c20 rfl (ldIk c20 rfl ?_)))))
    refine RowsQ.idx (hl.ext (x12.trans x20)) rfl hx fun b o hh => ldRq hh ?_
    refine iteP_neg (by rw [eqRq q]; rfl) (bindI_intro ?_)
    rw [wrap64 (n := (k : Int) + 1) (by omega) (by omega)]
    exact ⟨⟨k + 1, by omega, by omega, e12.trans x20⟩, by omega⟩

end Go.Proofs.Ytcgpdmlopbnpcaa
