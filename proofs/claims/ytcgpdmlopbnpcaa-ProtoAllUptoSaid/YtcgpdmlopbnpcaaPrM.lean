/- All, and the reference's writers. -/
import Derived.Test.YtcgpdmlopbnpcaaPrFr
import Derived.Test.YtcgpdmlopbnpcaaPrK
namespace Go.Proofs.Ytcgpdmlopbnpcaa
open Go Go.Fw

/-- a row more -/
theorem push_row {T : TypeId} {h h1 : Heap} {base : Nat} {s x : Sl} {ll : List (List UInt8)} {l : List UInt8} {K : Sl → Heap → Prop} (ho : OwnRows h base s ll) (hext : Ext h h1) (hx : Own h1 h.size x 1 (l.map bv)) (hbase : base ≤ h.size) (hn : ll.length ≤ 1099511627776)
    (hk : ∀ s' h', OwnRows h' base s' (ll ++ [l]) → Upd (fun k => s.blk = some k) h1 h' → K s' h') :
    newC h1 [Value.slice x.ptr x.len x.cap] T fun b h2 => rdS ⟨some ⟨b, 0, none⟩, 1, 1⟩ 1 h2 fun new => app T 1 24 [Value.slice none 0 0] s 1 new h2 K := by
  refine newK fun h2 c2 e2 z2 => ?_
  have hrow : Row h2 ⟨some ⟨h1.size, 0, none⟩, 1, 1⟩ 1 [slV x] := ⟨rfl, Nat.le_refl _, (show 1 < 9223372036854775808 by decide), .inr ⟨h1.size, 0, rfl, has_block c2 fun i v hi => by simpa [slV] using hi⟩⟩
  refine hrow.rd ?_
  have hext2 := hext.trans e2
  have holen := OwnRows.len ho
  have z1 := hext.size
  obtain ⟨ss, g1, g2, g3, g4, g5⟩ := ho.rows
  have g1' := g1.congr (h' := h2) fun k _ hl _ => hext2.old k hl
  refine Own.app g1' (by simp) rfl rfl (by omega) (by omega) (by omega) fun s' h' ho' hl' hu hblk => hk s' h' ?_ ?_
  · refine OwnRows.snoc (x := x) (h1 := h2) ho hext2 (hx.congr fun k _ hl _ => e2.old k hl) hbase ?_ hu hblk
    intro vs hv1 _
    have : vs = ss.map slV := by
      rcases hv1.at_ with ⟨hz1, hz2⟩ | ⟨k1, c1, e1, z1, z2, z3, z4, z5⟩
      · have a1 := hv1.len
        have a2 := g1.len
        have a3 := hv1.cap
        have b1 : vs = [] := List.eq_nil_of_length_eq_zero (by rw [a1]; omega)
        have b2 : ss.map slV = [] := List.eq_nil_of_length_eq_zero (by rw [a2]; omega)
        rw [b1, b2]
      · rcases g1.at_ with ⟨hz1, hz2⟩ | ⟨k2, c2, e2, y1, y2, y3, y4, y5⟩
        · rw [hz1] at z1; cases z1
        · rw [z1] at y1
          cases y1
          rw [z3] at y3
          cases y3
          rw [z5, y5]
    rw [this]
    exact ho'
  · exact Upd.then (e2.upd _) hu fun k _ hk => hk

def allOk (rs : List Rq) : Bool := rs.all rightB
def allE (rs : List Rq) : Int := if allOk rs then 0 else 6
def allB (rs : List Rq) : List UInt8 := if allOk rs then fr (rs.map reqL) else []

theorem good_req {r : Rq} (h : rightB r = true) : good (reqL r) := by
  have := right_text h
  unfold good
  rw [reqL_len]
  omega

theorem total_req : ∀ (rs : List Rq), (∀ r, r ∈ rs → rightB r = true) → total (rs.map reqL) ≤ 99 * rs.length
  | [], _ => by simp [total]
  | r :: rs, h => by
    have h1 := total_req rs fun x hx => h x (.tail _ hx)
    have h2 := right_text (h r (.head _))
    have h3 := reqL_len r
    simp only [total, List.map_cons, List.sum_cons, List.length_cons] at h1 ⊢
    omega

/-- loads of a request's cells -/
theorem ldRq {h : Heap} {b o : Nat} {r : Rq} {K : Int → Int → Int → Int → ByteArray → Int → Prop} (hh : h.has b o (rqC r)) (hk : K r.1 r.2.1 r.2.2.1 r.2.2.2.1 r.2.2.2.2.1 r.2.2.2.2.2.1) :
    ldI h b o .i64 fun t3 => ldI h b (o + 1) .u8 fun t4 => ldI h b (o + 2) .i64 fun t5 => ldI h b (o + 3) .i64 fun t6 => ldS h b (o + 4) fun t7 => ldI h b (o + 5) .i64 fun t8 => K t3 t4 t5 t6 t7 t8 := by
  obtain ⟨h0, h1, h2, h3, h4, h5, _⟩ := hh
  exact ⟨_, h0, _, h1, _, h2, _, h3, _, h4, _, h5, hk⟩

theorem All_spec {l : Sl} {rs : List Rq} {h : Heap} {K : Sl → Int → Heap → Prop} (hl : RowsQ h l rs) (hn : rs.length ≤ 1048576)
    (hk : ∀ out h', Own h' h.size out 1 ((allB rs).map bv) → Ext h h' → K out (allE rs) h') : m_proto_All l K h := by
  unfold m_proto_All g_proto_All
  have hlen := hl.len
  refine bindI_intro (loopM_intro (fun p h' => ∃ k : Nat, p.2.1 = (k : Int) ∧ k ≤ rs.length ∧ Ext h h' ∧ (∀ r, r ∈ rs.take k → rightB r = true) ∧ OwnRows h' h.size p.1 ((rs.take k).map reqL)) (fun p _ => rs.length - p.2.1.toNat)
    ⟨0, rfl, Nat.zero_le _, Ext.refl h, by simp, OwnRows.nil h _⟩ ?_)
  rintro ⟨pay, i, u⟩ h2 ⟨k, hi, hkl, hext, hall, hpay⟩
  dsimp only at hi hpay
  subst hi
  dsimp only
  refine iteP_dec (fun hlt => ?_) (fun hge => ?_)
  · have hk1 : k < rs.length := by omega
    have hx : rs[k]? = some rs[k] := List.getElem?_eq_getElem hk1
    have hmem : rs[k] ∈ rs := List.getElem_mem hk1
    have htk : rs.take (k + 1) = rs.take k ++ [rs[k]] := List.take_succ_eq_append_getElem hk1
    generalize rs[k] = r at hx hmem htk
    refine RowsQ.idx (hl.ext hext) rfl hx fun b o hh => ldRq hh ?_
    refine newK fun h10 c10 e10 z10 => stsAll c10 rfl rfl fun h11 c11 u11 z11 => ?_
    have e11 : Ext h2 h11 := e10.then u11 fun k hk => by omega
    refine ldIk c11 rfl (ldIk c11 rfl (ldIk c11 rfl (ldIk c11 rfl (ldSk c11 rfl (ldIk c11 rfl ?_)))))
    refine Request_spec (r := r) (hl.small r hmem) fun out h20 ho20 e20 => bindI_intro ?_
    refine ⟨fun e => bindI_intro ?_, fun e => ?_⟩
    · have hbad : rightB r = false := by
        cases hc : rightB r with
        | false => rfl
        | true => rw [hc] at e; simp at e
      have hA : allOk rs = false := by
        unfold allOk
        rw [List.all_eq_false]
        exact ⟨r, hmem, by simp [hbad]⟩
      have := hk ⟨none, 0, 0⟩ h20 (by unfold allB; rw [hA]; exact Own.nil _ _ 1) ((hext.trans e11).trans e20)
      unfold allE at this
      rw [hA] at this
      rw [hbad]
      exact this
    · have hR : rightB r = true := by
        cases hc : rightB r with
        | true => rfl
        | false => rw [hc] at e; simp at e
      have hq : reqB r = reqL r := by unfold reqB; rw [if_pos hR]
      rw [hq] at ho20
      have z := hext.size
      have z2 := e11.size
      have hol := OwnRows.len hpay
      refine push_row hpay (e11.trans e20) (ho20.base z2) z (by simp; omega) fun s' h' ho' hu' => ⟨⟨k + 1, ?_, by omega, ?_, ?_, ?_⟩, ?_⟩
      · rw [wrap64 (by omega) (by omega)]; omega
      · obtain ⟨ss, g1, _⟩ := hpay.rows
        exact ((hext.trans e11).trans e20).then hu' fun k hk => (g1.lt hk).1
      · rw [htk]
        intro x hx
        rcases List.mem_append.1 hx with hx | hx
        · exact hall x hx
        · have : x = r := by simpa using hx
          rw [this]; exact hR
      · rw [htk, List.map_append]
        exact ho'
      · rw [wrap64 (by omega) (by omega)]; omega
  · have hk9 : k = rs.length := by omega
    subst hk9
    rw [List.take_of_length_le (Nat.le_refl _)] at hall hpay
    have ht := total_req rs hall
    have hE : framesE (rs.map reqL) = 0 := framesE_good _ fun l hl => by
      obtain ⟨r, hr, rfl⟩ := List.mem_map.1 hl
      exact good_req (hall r hr)
    have hB : framesB (rs.map reqL) = fr (rs.map reqL) := by unfold framesB; rw [hE, if_pos rfl]
    have hrows : RowsB h2 pay (rs.map reqL) := by
      obtain ⟨ss, g1, g2, g3, _⟩ := hpay.rows
      exact ⟨ss, g1.row, g2, fun i x l hx hl => (g3 i x l hx hl).row⟩
    refine FramesE_spec hrows (by omega) fun out h' ho' e' => bindI_intro ?_
    rw [hB] at ho'
    have hA : allOk rs = true := by
      unfold allOk
      rw [List.all_eq_true]
      exact fun x hx => hall x hx
    have := hk out h' (by unfold allB; rw [hA, if_pos rfl]; exact ho'.base hext.size) (hext.trans e')
    unfold allE at this
    rw [hA, if_pos rfl] at this
    rw [hE]
    exact this

/-! ### the reference -/
theorem eight_spec {n : Int} {h : Heap} {K : Sl → Heap → Prop} (hk : ∀ out h', Own h' h.size out 1 ((bytes8 n).map bv) → Ext h h' → K out h') : m_spillwayref19_eight n K h := by
  unfold m_spillwayref19_eight g_spillwayref19_eight
  refine bindI_intro (loopM_intro (fun p h' => ∃ j : Nat, p.2.1 = 56 - 8 * (j : Int) ∧ j ≤ 8 ∧ Ext h h' ∧ Own h' h.size p.1 1 (((bytes8 n).take j).map bv)) (fun p _ => (p.2.1 + 8).toNat) ⟨0, rfl, by omega, Ext.refl h, Own.nil h _ 1⟩ ?_)
  rintro ⟨out, sh, u⟩ h3 ⟨j, hsh, hj8, hext, hown⟩
  dsimp only at hsh hown
  subst hsh
  dsimp only
  refine iteP_dec (fun hge => ⟨by omega, ?_⟩) (fun hlt => ?_)
  · have hj : j < 8 := by omega
    have e : (56 : Int) - 8 * (j : Int) = ((56 - 8 * j : Nat) : Int) := by omega
    rw [e, bv_byteAt n _ (by omega)]
    refine newK fun h4 c4 e4 z4 => ?_
    have hrow : Row h4 ⟨some ⟨h3.size, 0, none⟩, 1, 1⟩ 1 [bv (byteAt n (56 - 8 * j))] := ⟨rfl, Nat.le_refl _, (show 1 < 9223372036854775808 by decide), .inr ⟨h3.size, 0, rfl, has_block c4 fun i v hi => by simpa using hi⟩⟩
    refine hrow.rd ?_
    have hown4 := hown.congr (h' := h4) fun k _ hl _ => e4.old k hl
    have hol := hown.len
    have hz := hext.size
    simp only [List.length_map, Nat.mul_one, List.length_take] at hol
    refine Own.app hown4 (by simp) rfl rfl (by omega) (by omega) (by omega) fun s' h' ho' hl' hu hblk => bindI_intro ?_
    rw [wrap64 (by omega) (by omega)]
    refine ⟨⟨j + 1, by omega, by omega, (hext.trans e4).then hu fun k hk => (hown.lt hk).1, ?_⟩, by omega⟩
    rw [take8 n hj, List.map_append]
    exact ho'
  · have : j = 8 := by omega
    subst this
    exact hk out h3 hown hext

/-- bytes of the call's own behind bytes of the call's own -/
theorem app_own {h0 h h1 : Heap} {base : Nat} {s x : Sl} {pre l : List UInt8} {K : Sl → Heap → Prop} (ho : Own h base s 1 (pre.map bv)) (he : Ext h h1) (hx : Own h1 h.size x 1 (l.map bv)) (hbase : base ≤ h.size) (hb0 : h0.size ≤ base) (he0 : Ext h0 h) (hn : pre.length + l.length ≤ 1099511627776)
    (hk : ∀ s' h', Own h' base s' 1 ((pre ++ l).map bv) → Ext h0 h' → (∀ k, k < h.size → s.blk ≠ some k → h'[k]? = h[k]?) → h.size ≤ h'.size → K s' h') :
    rdS x 1 h1 fun new => app 5 1 1 [Value.int .u8 0] s x.len new h1 K := by
  refine hx.row.rd ?_
  have ho1 := ho.congr (h' := h1) fun k _ hl _ => he.old k hl
  have h1l := Own.len ho
  have h2l := Own.len hx
  simp only [List.length_map, Nat.mul_one] at h1l h2l
  have hz := he.size
  refine Own.app ho1 (by simp only [List.length_map, Nat.mul_one]; exact h2l) (oneCell_bv l) rfl (by omega) (by omega) (by omega) fun s' h' ho' _ hu _ => hk s' h' ?_ ?_ ?_ ?_
  · rw [List.map_append]; exact ho'
  · exact (he0.trans he).then hu fun k hk => by have := (ho.lt hk).1; omega
  · intro k hk hne
    rw [hu.old k (by omega) hne, he.old k hk]
  · have := hu.size; omega

theorem RRequest_spec {r : Rq} {K : Sl → Int → Heap → Prop} {h : Heap}
    (hk : ∀ out h', Own h' h.size out 1 ((reqB r).map bv) → Ext h h' → K out (if rightB r then 0 else 6) h') : m_spillwayref19_Request r K h := by
  unfold m_spillwayref19_Request g_spillwayref19_Request
  refine newK fun h1 c1 e1 z1 => bindI_intro ?_
  refine ldIk c1 rfl (ldIk c1 rfl (ldIk c1 rfl (ldIk c1 rfl (ldSk c1 rfl (ldIk c1 rfl ?_)))))
  refine RRight_spec (r := r) fun h9 e9 => ?_
  have c9 := keepE c1 e9
  have x9 := e1.trans e9
  have zz9 := x9.size
  have zy9 := e9.size
  refine ⟨fun e => bindI_intro ?_, fun e => ?_⟩
  · have e' : rightB r = false := by simpa using e
    have := hk ⟨none, 0, 0⟩ h9 (by unfold reqB; rw [if_neg (by simp [e'])]; exact Own.nil h9 _ 1) x9
    rw [if_neg (by simp [e'])] at this
    exact this
  have hR : rightB r = true := by simpa using e
  have hw := right_want hR
  have ht := right_text hR
  have hB : reqB r = reqL r := by unfold reqB; rw [if_pos hR]
  rw [hB, if_pos hR] at hk
  refine ldIk c9 rfl (newK fun h13 c13 e13 z13 => ?_)
  rw [bv_toNat (n := r.2.1) (by omega) (by omega)] at c13
  have hown : Own h13 h9.size ⟨some ⟨h9.size, 0, none⟩, 1, 1⟩ 1 (([UInt8.ofNat r.2.1.toNat] : List UInt8).map bv) := ⟨rfl, Nat.le_refl _, (show 1 < 9223372036854775808 by decide), .inr ⟨h9.size, _, 5, rfl, Nat.le_refl _, c13, rfl, rfl⟩⟩
  have c13' := keepE c9 e13
  have x13 := x9.trans e13
  have l8 : ∀ n, (bytes8 n).length = 8 := fun _ => rfl
  -- each number in turn
  refine ldIk c13' rfl (eight_spec fun t15 h16 ho16 e16 => ?_)
  refine app_own (h0 := h) hown e16 ho16 (by omega) (by omega) x13 (by simp only [l8, List.length_cons, List.length_nil]; omega) fun t17 h18 ho18 x18 k18 s18 => ?_
  have c18 := (k18 h.size (by omega) (by simp [Sl.blk]; omega)).trans c13'
  refine ldIk c18 rfl (eight_spec fun t20 h21 ho21 e21 => ?_)
  refine app_own (h0 := h) ho18 e21 ho21 (by omega) (by omega) x18 (by simp only [List.length_append, l8, List.length_cons, List.length_nil]; omega) fun t22 h23 ho23 x23 k23 s23 => ?_
  have c23 := (k23 h.size (by omega) (fun he => by have := (ho18.lt he).1; omega)).trans c18
  refine ldIk c23 rfl (eight_spec fun t26 h27 ho27 e27 => ?_)
  refine app_own (h0 := h) ho23 e27 ho27 (by omega) (by omega) x23 (by simp only [List.length_append, l8, List.length_cons, List.length_nil]; omega) fun t28 h29 ho29 x29 k29 s29 => ?_
  have c29 := (k29 h.size (by omega) (fun he => by have := (ho23.lt he).1; omega)).trans c23
  refine ldIk c29 rfl (eight_spec fun t32 h33 ho33 e33 => ?_)
  refine app_own (h0 := h) ho29 e33 ho33 (by omega) (by omega) x29 (by simp only [List.length_append, l8, List.length_cons, List.length_nil]; omega) fun t34 h35 ho35 x35 k35 s35 => ?_
  have c35 := (k35 h.size (by omega) (fun he => by have := (ho29.lt he).1; omega)).trans c29
  refine ldSk c35 rfl (newK fun h39 c39 e39 z39 => ?_)
  rw [bv_ofNat] at c39
  have hone : Own h39 h35.size ⟨some ⟨h35.size, 0, none⟩, 1, 1⟩ 1 (([UInt8.ofNat r.2.2.2.2.1.size] : List UInt8).map bv) := ⟨rfl, Nat.le_refl _, (show 1 < 9223372036854775808 by decide), .inr ⟨h35.size, _, 5, rfl, Nat.le_refl _, c39, rfl, rfl⟩⟩
  refine app_own (h0 := h) ho35 e39 hone (by omega) (by omega) x35 (by simp only [List.length_append, l8, List.length_cons, List.length_nil]; omega) fun t40 h41 ho41 x41 k41 s41 => ?_
  have c41 := (k41 h.size (by omega) (fun he => by have := (ho35.lt he).1; omega)).trans c35
  have hol := Own.len ho41
  simp only [List.length_map, Nat.mul_one] at hol
  have hol2 : ([UInt8.ofNat r.2.1.toNat] ++ bytes8 r.1 ++ bytes8 r.2.2.1 ++ bytes8 r.2.2.2.1 ++ bytes8 r.2.2.2.2.2.1 ++ [UInt8.ofNat r.2.2.2.2.1.size]).length = 34 := rfl
  rw [hol2] at hol
  refine ldSk c41 rfl ?_
  refine Own.app ho41 (by simp [byteVals]) (oneCell_bv _) rfl (by omega) (by omega) (by omega) fun t44 h45 ho45 _ hu45 _ => bindI_intro (hk _ h45 ?_ ?_)
  · refine Own.base ?_ (by omega : h.size ≤ h9.size)
    have e : reqL r = ([UInt8.ofNat r.2.1.toNat] ++ bytes8 r.1 ++ bytes8 r.2.2.1 ++ bytes8 r.2.2.2.1 ++ bytes8 r.2.2.2.2.2.1 ++ [UInt8.ofNat r.2.2.2.2.1.size]) ++ r.2.2.2.2.1.data.toList := by
      unfold reqL
      simp
    rw [e, List.map_append]
    exact ho45
  · exact x41.then hu45 fun k hk => by have := (ho41.lt hk).1; omega

theorem RAnswer_spec {r : An} {K : Sl → Int → Heap → Prop} {h : Heap}
    (hk : ∀ out h', Own h' h.size out 1 ((ansB r).map bv) → Ext h h' → K out (if rightA r then 0 else 6) h') : m_spillwayref19_Answer r K h := by
  unfold m_spillwayref19_Answer g_spillwayref19_Answer
  refine newK fun h1 c1 e1 z1 => bindI_intro ?_
  refine ldIk c1 rfl (ldIk c1 rfl (ldIk c1 rfl (ldIk c1 rfl (ldIk c1 rfl ?_))))
  refine RRightA_spec (a := r) fun h9 e9 => ?_
  have c9 := keepE c1 e9
  have x9 := e1.trans e9
  have zz9 := x9.size
  have zy9 := e9.size
  refine ⟨fun e => bindI_intro ?_, fun e => ?_⟩
  · have e' : rightA r = false := by simpa using e
    have := hk ⟨none, 0, 0⟩ h9 (by unfold ansB; rw [if_neg (by simp [e'])]; exact Own.nil h9 _ 1) x9
    rw [if_neg (by simp [e'])] at this
    exact this
  have hR : rightA r = true := by simpa using e
  have hw := (answer_range hR).2.1
  have hB : ansB r = ansL r := by unfold ansB; rw [if_pos hR]
  rw [hB, if_pos hR] at hk
  refine ldIk c9 rfl (newK fun h13 c13 e13 z13 => ?_)
  rw [bv_toNat (n := r.2.1) (by omega) (by omega)] at c13
  have hown : Own h13 h9.size ⟨some ⟨h9.size, 0, none⟩, 1, 1⟩ 1 (([UInt8.ofNat r.2.1.toNat] : List UInt8).map bv) := ⟨rfl, Nat.le_refl _, (show 1 < 9223372036854775808 by decide), .inr ⟨h9.size, _, 5, rfl, Nat.le_refl _, c13, rfl, rfl⟩⟩
  have c13' := keepE c9 e13
  have x13 := x9.trans e13
  have l8 : ∀ n, (bytes8 n).length = 8 := fun _ => rfl
  refine ldIk c13' rfl (eight_spec fun t15 h16 ho16 e16 => ?_)
  refine app_own (h0 := h) hown e16 ho16 (by omega) (by omega) x13 (by simp only [l8, List.length_cons, List.length_nil]; omega) fun t17 h18 ho18 x18 k18 s18 => ?_
  have c18 := (k18 h.size (by omega) (by simp [Sl.blk]; omega)).trans c13'
  refine ldIk c18 rfl (eight_spec fun t20 h21 ho21 e21 => ?_)
  refine app_own (h0 := h) ho18 e21 ho21 (by omega) (by omega) x18 (by simp only [List.length_append, l8, List.length_cons, List.length_nil]; omega) fun t22 h23 ho23 x23 k23 s23 => ?_
  have c23 := (k23 h.size (by omega) (fun he => by have := (ho18.lt he).1; omega)).trans c18
  refine ldIk c23 rfl (eight_spec fun t26 h27 ho27 e27 => ?_)
  refine app_own (h0 := h) ho23 e27 ho27 (by omega) (by omega) x23 (by simp only [List.length_append, l8, List.length_cons, List.length_nil]; omega) fun t28 h29 ho29 x29 k29 s29 => ?_
  have c29 := (k29 h.size (by omega) (fun he => by have := (ho23.lt he).1; omega)).trans c23
  refine ldIk c29 rfl (eight_spec fun t32 h33 ho33 e33 => ?_)
  refine app_own (h0 := h) ho29 e33 ho33 (by omega) (by omega) x29 (by simp only [List.length_append, l8, List.length_cons, List.length_nil]; omega) fun t34 h35 ho35 x35 k35 s35 => ?_
  refine bindI_intro (hk _ h35 (Own.base ?_ (by omega : h.size ≤ h9.size)) x35)
  have e : ansL r = [UInt8.ofNat r.2.1.toNat] ++ bytes8 r.1 ++ bytes8 r.2.2.1 ++ bytes8 r.2.2.2.1 ++ bytes8 r.2.2.2.2.1 := by
    unfold ansL
    simp
  rw [e]
  exact ho35

end Go.Proofs.Ytcgpdmlopbnpcaa
