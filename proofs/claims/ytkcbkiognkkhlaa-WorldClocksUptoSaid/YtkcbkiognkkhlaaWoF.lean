/- WorldLoads' law, on its model. -/
import Derived.Test.YtkcbkiognkkhlaaWoE
namespace Go.Proofs.Ytkcbkiognkkhlaa
open Go Go.Fw

theorem addG_ok : ∀ (l all : List Smp), (addG all l).1 = 0 → (addG all l).2 = all ++ l
  | [], all, _ => by simp [addG]
  | x :: r, all, h => by
    unfold addG at h ⊢
    split at h
    · cases h
    · rename_i h1
      split at h
      · cases h
      · rename_i h2
        split at h
        · cases h
        · rename_i h3
          rw [if_neg h1, if_neg h2, if_neg h3, addG_ok r _ h]
          simp
theorem addS_new {l : List Smp} (h : (addS [] l).1 = 0) : (addS [] l).2 = l ∧ l.length ≤ 4096 := by
  unfold addS at h ⊢
  by_cases he : (addG [] l).1 = 0
  · rw [if_pos he]
    have h1 := addG_ok l [] he
    have h2 := addG_len l [] (by simp)
    rw [h1, List.nil_append] at h2
    exact ⟨by rw [h1]; rfl, h2⟩
  · rw [if_neg he] at h
    exact absurd h he

theorem samples_spec {h : Heap} {s : Sl} {l : List Smp} {K : Sl → Heap → Prop} (hs : SmpR h s l) (hn : l.length ≤ 1048576) (hk : ∀ out h', Own h' h.size out 3 (smL l) → Ext h h' → K out h') : m_spillwaylaw02_samples s K h := by
  unfold m_spillwaylaw02_samples g_spillwaylaw02_samples
  have hlen := SmpR.length hs
  refine bindI_intro (loopM_intro (fun p h' => ∃ k : Nat, p.2.1 = (k : Int) ∧ k ≤ l.length ∧ Ext h h' ∧ Own h' h.size p.1 3 (smL (l.take k))) (fun p _ => l.length - p.2.1.toNat) ⟨0, rfl, Nat.zero_le _, Ext.refl _, Own.nil _ _ 3⟩ ?_)
  rintro ⟨out, i, u⟩ h3 ⟨k, hi, hkl, e3, hown⟩
  dsimp only at hi hown
  subst hi
  dsimp only
  have hol := Own.slen hown
  have z3 := e3.size
  refine iteP_dec (fun hlt => ?_) (fun hge => ?_)
  · have hk1 : k < l.length := by omega
    have hx : l[k]? = some l[k] := List.getElem?_eq_getElem hk1
    have htk : l.take (k + 1) = l.take k ++ [l[k]] := List.take_succ_eq_append_getElem hk1
    generalize l[k] = x at hx htk
    rw [List.length_take] at hol
    refine SmpR.idx hs rfl hx fun b o hh => SmpR.idx hs rfl hx fun b4 o5 hh4 => SmpR.idx hs rfl hx fun b6 o7 hh6 => ?_
    have f1 : ∀ h', Ext h h' → h'.cell b o = some (iv x.1) := fun h' he => (cell_congr (he.old b (cell_lt hh.1)) _).trans hh.1
    have f2 : ∀ h', Ext h h' → h'.cell b4 (o5 + 1) = some (iv x.2.1) := fun h' he => (cell_congr (he.old b4 (cell_lt hh4.2.1)) _).trans hh4.2.1
    have f3 : ∀ h', Ext h h' → h'.cell b6 (o7 + 2) = some (iv x.2.2) := fun h' he => (cell_congr (he.old b6 (cell_lt hh6.2.2.1)) _).trans hh6.2.2.1
    refine ⟨_, f1 h3 e3, _, f2 h3 e3, _, f3 h3 e3, newK fun h11 c11 e11 z11 => ?_⟩
    have y11 := e3.trans e11
    refine ⟨⟨f3 h11 y11, trivial⟩, ⟨f2 h11 y11, trivial⟩, ⟨f1 h11 y11, trivial⟩, ?_⟩
    have hrow : Row h11 ⟨some ⟨h3.size, 0, none⟩, 1, 1⟩ 3 (smC x) := ⟨rfl, Nat.le_refl _, (show 1 < 9223372036854775808 by decide), .inr ⟨h3.size, 0, rfl, has_block c11 fun i v hi => by simpa using hi⟩⟩
    refine hrow.rd ?_
    have hown11 := hown.congr (h' := h11) fun k _ hl _ => e11.old k hl
    refine Own.app hown11 rfl rfl rfl (by omega) (by omega) (by omega) fun s' h13 ho' hl' hu _ => ?_
    have y13 : Ext h h13 := y11.then hu fun k hk => (hown.lt hk).1
    refine ⟨⟨f3 h13 y13, trivial⟩, ⟨f2 h13 y13, trivial⟩, ⟨f1 h13 y13, trivial⟩, bindI_intro ?_⟩
    rw [wrap64 (n := (k : Int) + 1) (by omega) (by omega)]
    refine ⟨⟨k + 1, by omega, by omega, y13, ?_⟩, by omega⟩
    have e : smL (l.take (k + 1)) = smL (l.take k) ++ smC x := by rw [htk]; simp [smL]
    rw [e]
    exact ho'
  · have hk9 : k = l.length := by omega
    subst hk9
    rw [List.take_of_length_le (Nat.le_refl _)] at hown
    exact hk out h3 hown e3

theorem same_spec {a b : Sl} {l m : List Smp} {h : Heap} {K : Bool → Heap → Prop} (ha : SmpR h a l) (hb : SmpR h b m) (hk : K (decide (l = m)) h) : m_spillwaylaw02_same a b K h := by
  unfold m_spillwaylaw02_same g_spillwaylaw02_same
  have h1 := SmpR.length ha
  have h2 := SmpR.length hb
  have h3 := ha.big
  have h4 := ha.cap
  refine ⟨fun hne => ?_, fun heq => bindI_intro ?_⟩
  · have : l ≠ m := by
      rintro rfl
      rw [h1, h2] at hne
      simp at hne
    rw [decide_eq_false this] at hk
    exact hk
  · have hlm : l.length = m.length := by rw [h1, h2] at heq; simp at heq; omega
    refine loopM_intro (fun s h' => h' = h ∧ ∃ k : Nat, k ≤ l.length ∧ s.1 = (k : Int) ∧ l.take k = m.take k) (fun s _ => l.length - s.1.toNat) ⟨rfl, 0, Nat.zero_le _, rfl, by simp⟩ ?_
    rintro ⟨i, u⟩ h' ⟨rfl, k, hk', hi, htake⟩
    dsimp only at hi
    subst hi
    dsimp only
    refine iteP_dec (fun hlt => ?_) (fun hge => ?_)
    · have hl1 : k < l.length := by omega
      have hl2 : k < m.length := by omega
      have ex := List.getElem?_eq_getElem hl1
      have ey := List.getElem?_eq_getElem hl2
      have tx : l.take (k + 1) = l.take k ++ [l[k]] := List.take_succ_eq_append_getElem hl1
      have ty : m.take (k + 1) = m.take k ++ [m[k]] := List.take_succ_eq_append_getElem hl2
      generalize l[k] = x at ex tx
      generalize m[k] = y at ey ty
      have bad : x ≠ y → K false h' := fun hne => by
        have : l ≠ m := by
          rintro rfl
          rw [ex] at ey
          exact hne (Option.some.inj ey)
        rw [decide_eq_false this] at hk
        exact hk
      refine SmpR.idx ha rfl ex fun b o hh => ⟨_, hh.1, SmpR.idx hb rfl ey fun b4 o5 hh2 => ⟨_, hh2.1, ⟨fun hne => bad fun e => (by rw [e] at hne; simp at hne), fun he => ?_⟩⟩⟩
      refine SmpR.idx ha rfl ex fun b o hh => ⟨_, hh.2.1, SmpR.idx hb rfl ey fun b4 o5 hh2 => ⟨_, hh2.2.1, ⟨fun hne => bad fun e => (by rw [e] at hne; simp at hne), fun he2 => ?_⟩⟩⟩
      refine SmpR.idx ha rfl ex fun b o hh => ⟨_, hh.2.2.1, SmpR.idx hb rfl ey fun b4 o5 hh2 => ⟨_, hh2.2.2.1, ⟨fun hne => bad fun e => (by rw [e] at hne; simp at hne), fun he3 => bindI_intro ?_⟩⟩⟩
      have hxy : x = y := by
        obtain ⟨x1, x2, x3⟩ := x
        obtain ⟨y1, y2, y3⟩ := y
        simp at he he2 he3
        rw [he, he2, he3]
      rw [wrap64 (by omega) (by omega)]
      refine ⟨⟨rfl, k + 1, by omega, by omega, ?_⟩, by omega⟩
      rw [tx, ty, htake, hxy]
    · have : l = m := by
        rw [List.take_of_length_le (by omega), List.take_of_length_le (by omega)] at htake
        exact htake
      rw [decide_eq_true this] at hk
      exact hk

theorem LFork_spec {h : Heap} {b : Nat} {S : Nat → Prop} {l : List Smp} {K : Option Addr → Heap → Prop} (hr : IsL 101 h b S l) (hn : l.length ≤ 4096) (hk : ∀ o h', IsL 101 h' o (fun k => h.size ≤ k) l → h.size ≤ o → Ext h h' → K (some ⟨o, 0, none⟩) h') : m_world_Load_Fork (some ⟨b, 0, none⟩) K h := by
  unfold m_world_Load_Fork g_world_Load_Fork
  obtain ⟨q, hq, hql, _⟩ := hr.cells
  refine iteP_false (deref_ (ldLk hq rfl (SClone_spec hql (by omega) fun t h2 ho e2 => newK fun h4 c4 e4 z4 => ?_)))
  exact hk _ h4 ⟨t, c4, ho.row.ext e4, fun k hk => (ho.lt hk).1⟩ e2.size (e2.trans e4)
theorem Samples_spec {h : Heap} {b : Nat} {S : Nat → Prop} {l : List Smp} {K : Sl → Heap → Prop} (hr : IsL 101 h b S l) (hn : l.length ≤ 4096) (hk : ∀ t h', Own h' h.size t 3 (smL l) → Ext h h' → K t h') : m_world_Load_Samples (some ⟨b, 0, none⟩) K h := by
  unfold m_world_Load_Samples g_world_Load_Samples
  obtain ⟨q, hq, hql, _⟩ := hr.cells
  exact iteP_false (deref_ (ldLk hq rfl (SClone_spec hql (by omega) fun t h2 ho e2 => hk t h2 ho e2)))

theorem RAt_spec {h : Heap} {b : Nat} {S : Nat → Prop} {l : List Smp} {n : Int} {K : (Int × Int × Int × Unit) → Heap → Prop} (hr : IsL 64 h b S l) (hk : ∀ h', Ext h h' → K ((atS l n).1, (atS l n).2.1, (atS l n).2.2, ()) h') : m_spillwayref02_Load_At (some ⟨b, 0, none⟩) n K h := by
  unfold m_spillwayref02_Load_At g_spillwayref02_Load_At
  refine newK fun h1 c1 e1 z1 => newK fun h3 c3 e3 z3 => bindI_intro ?_
  have hblt := hr.lt
  obtain ⟨q, hq0, hql0, _⟩ := hr.cells
  have x3 := e1.trans e3
  replace c1 := keepE c1 e3
  have hlen := SmpR.length hql0
  have hcap := hql0.cap
  have hbig := hql0.big
  refine loopM_intro (fun p h' => ∃ k : Nat, p.1 = (k : Int) ∧ k ≤ l.length ∧ Ext h h' ∧ h1.size < h'.size ∧ h'[h.size]? = h3[h.size]? ∧ h'[h1.size]? = some (.cells (smC (atS (l.take k) n)).toArray 68 (0, 0))) (fun p _ => l.length - p.1.toNat)
    ⟨0, rfl, Nat.zero_le _, x3, by omega, rfl, c3⟩ ?_
  rintro ⟨i, u⟩ h6 ⟨k, hi, hkl, x6, z6, hb1, hb2⟩
  dsimp only at hi
  subst hi
  dsimp only
  have hq := keepE hq0 x6
  have hql := hql0.ext x6
  refine iteP_true (deref_ (ldLk hq rfl (iteP_dec (fun hlt => ?_) (fun hge => ?_))))
  · have hk1 : k < l.length := by omega
    have hx : l[k]? = some l[k] := List.getElem?_eq_getElem hk1
    have htk : l.take (k + 1) = l.take k ++ [l[k]] := List.take_succ_eq_append_getElem hk1
    generalize l[k] = x at hx htk
    have hwr : IntKind.wrap .i64 ((k : Int) + 1) = ((k + 1 : Nat) : Int) := by rw [wrap64 (by omega) (by omega)]; omega
    refine deref_ (ldLk hq rfl (SmpR.idx hql rfl hx fun b11 o12 hh => ⟨_, hh.1, iteP_dec (fun h1' => ?_) (fun h1' => bindI_intro ?_)⟩))
    · refine deref_ (ldLk hq rfl (SmpR.idx hql rfl hx fun b17 o18 hh => ld3 hh (stsAll hb2 rfl rfl fun h22 c22 u22 z22 => bindI_intro ?_)))
      rw [hwr]
      refine ⟨⟨k + 1, rfl, by omega, x6.then u22 fun k hk => by omega, by omega, ?_, ?_⟩, by omega⟩
      · rw [u22.old h.size (by omega) (by omega), hb1]
      · rw [htk, atS_snoc, if_pos h1']
        exact c22
    · rw [hwr]
      refine ⟨⟨k + 1, rfl, by omega, x6, z6, hb1, ?_⟩, by omega⟩
      rw [htk, atS_snoc, if_neg h1']
      exact hb2
  · have hk9 : k = l.length := by omega
    subst hk9
    rw [List.take_of_length_le (Nat.le_refl _)] at hb2
    refine ldIk hb2 rfl (ldIk hb2 rfl (ldIk hb2 rfl (stsAll (hb1.trans c1) rfl rfl fun h28 c28 u28 z28 => ?_)))
    exact ldIk c28 rfl (ldIk c28 rfl (ldIk c28 rfl (hk h28 (x6.then u28 fun k hk => by omega))))

/-- a store into a row of samples of the call's own -/
theorem Own.store3 {h : Heap} {base : Nat} {s : Sl} {vs : List Value} (ho : Own h base s 3 vs) {i : Int} {m : Nat} (hi : i = (m : Int)) (hm : m < s.len) {v : Value} (hv : oneCell v = true) {K : Heap → Prop}
    (hk : ∀ h' vs', Own h' base s 3 vs' → Upd (fun k => s.blk = some k) h h' → h'.size = h.size → K h') : idxA s.ptr s.len i 3 fun b o => st h b (o + 1) v K := by
  subst hi
  have hcap := ho.cap
  rcases ho.at_ with ⟨_, h0⟩ | ⟨b, c, e, hp, hb, hblk, hc, hvs⟩
  · omega
  · refine ⟨b, 0, hp, by omega, by omega, ?_⟩
    have e0 : 0 + (m : Int).toNat * 3 + 1 = m * 3 + 1 := by omega
    show st h b (0 + (m : Int).toNat * 3 + 1) v K
    rw [e0]
    have hlt : m * 3 + 1 < c.size := by omega
    refine put2 hblk hlt hv fun h' c' u' z' => hk h' (vs.set (m * 3 + 1) v) ⟨?_, hcap, ho.big, .inr ⟨b, _, e, hp, hb, c', by simpa using hc, ?_⟩⟩ (u'.mono fun k _ hk => by subst hk; simp [Sl.blk, hp]) z'
    · have := ho.len; simpa using this
    · rw [hvs, Array.toList_setIfInBounds, List.take_set]

theorem WorldLoads_true {a b times : Sl} {la lb : List Smp} {lt : List Int} {h : Heap} {K : Bool → Heap → Prop} (ha : SmpR h a la) (hb : SmpR h b lb) (ht : Row h times 1 (lt.map iv) ∧ ∀ n, n ∈ lt → -9223372036854775808 ≤ n ∧ n < 9223372036854775808)
    (hna : la.length ≤ 1048576) (hnb : lb.length ≤ 1048576) (hnt : lt.length ≤ 1048576) (hk : ∀ h', Ext h h' → K true h') : m_spillwaylaw02_WorldLoads a b times K h := by
  unfold m_spillwaylaw02_WorldLoads g_spillwaylaw02_WorldLoads
  have ht := ht.1
  have htl := Ints.length ht
  refine samples_spec hb hnb fun t h1 ho1 e1 => ?_
  refine samples_spec (ha.ext e1) hna fun t2 h3 ho3 e3 => ?_
  have x3 := e1.trans e3
  refine NewLoad_spec ho3.row fun h6 hl6 e6 z6 => bindI_intro ?_
  have x6 := x3.trans e6
  refine RNewLoad_spec (ha.ext x6) fun h9 hr9 e9 z9 => bindI_intro ?_
  refine live_spec fun h11 e11 => iteP_false (iteP_neg (by simp) ?_)
  have x11 := (x6.trans e9).trans e11
  by_cases he : (addS [] la).1 = 0
  case neg =>
    rw [if_neg he, if_neg he]
    exact iteP_neg rfl (iteP_pos (by simpa using he) (hk h11 x11))
  rw [if_pos he, if_pos he]
  refine iteP_neg rfl (iteP_neg (by rw [he]; rfl) ?_)
  obtain ⟨hn, hn4⟩ := addS_new he
  have hl11 := (hl6 he).ext (e9.trans e11)
  have hr11 := (hr9 he).ext e11
  rw [hn] at hl11 hr11
  have w1 := e1.size
  have w3 := e3.size
  have w11 := (e6.trans (e9.trans e11)).size
  refine LFork_spec hl11 hn4 fun o h13 hf13 ofo e13 => ?_
  have w13 := e13.size
  have x13 := x11.trans e13
  have ho13 : Own h13 h.size t 3 (smL lb) := ho1.congr fun k _ hl _ => (e3.trans ((e6.trans (e9.trans e11)).trans e13)).old k hl
  have w9 := e9.size
  have w11' := e11.size
  refine Add_spec (hl11.ext e13) hn4 ho13.row fun h15 hl15 u15 => ?_
  have w15 := u15.size
  have ho15 : Own h15 h.size t 3 (smL lb) := by
    refine ho13.congr fun k hk hl _ => u15.old k hl fun he => ?_
    have := (ho1.lt hk).2
    omega
  have hr15 := (hr11.ext e13).upd u15 (by omega) fun k hk _ => by omega
  have hf15 := hf13.upd u15 (by omega) fun k hk _ => by omega
  refine RAdd_spec hr15 hn4 ((hb.ext x13).congr fun k o2 hp hne hl => u15.old k hl (by
      rcases hb.at_ with h0 | ⟨b2, o3, hp2, hh⟩
      · exact absurd (hb.nil_of h0) hne
      · rw [hp] at hp2
        cases hp2
        have := has_lt hh hne
        omega)) fun h17 hr17 u17 => ?_
  have w17 := u17.size
  have x17 : Ext h h17 := (x13.then u15 fun k hk => by omega).then u17 fun k hk => by omega
  have ho17 : Own h17 h.size t 3 (smL lb) := by
    refine ho15.congr fun k hk hl _ => u17.old k hl fun he => ?_
    have := (ho1.lt hk).2
    omega
  have hl17 := hl15.upd u17 (by omega) fun k hk _ => by omega
  have hf17 := hf15.upd u17 (by omega) fun k hk _ => by omega
  have hst4 : (addS la lb).2.length ≤ 4096 := by
    unfold addS
    split
    · exact addG_len lb la hn4
    · exact hn4
  generalize hst : (addS la lb).2 = st at *
  refine iteP_neg (by simp) ?_
  refine same_spec ho17.row (hb.ext x17) ?_
  rw [decide_eq_true rfl]
  refine iteP_false ?_
  obtain ⟨qr, hqr, hqrl, _⟩ := hr17.cells
  refine deref_ (ldLk hqr rfl ?_)
  refine Samples_spec hl17 hst4 fun t22 h23 ho23 e23 => ⟨⟨(cell_block (keepE hqr e23)).trans rfl, trivial⟩, ?_⟩
  refine same_spec ho23.row (hqrl.ext e23) ?_
  rw [decide_eq_true rfl]
  refine iteP_false ?_
  refine Samples_spec (hf17.ext e23) hn4 fun t26 h27 ho27 e27 => ?_
  have x27 := (x17.trans e23).trans e27
  refine same_spec ho27.row (ha.ext x27) ?_
  rw [decide_eq_true rfl]
  refine iteP_false ?_
  have e1727 := e23.trans e27
  refine Samples_spec (hl17.ext e1727) hst4 fun t30 h31 ho31 e31 => bindI_intro ?_
  have hl30 := Own.slen ho31
  have w27 := e1727.size
  refine loopM_intro (fun p h' => ∃ (k : Nat) (vs : List Value), p.1 = (k : Int) ∧ k ≤ t30.len ∧ Ext h17 h' ∧ Own h' h27.size t30 3 vs) (fun p _ => t30.len - p.1.toNat) ⟨0, _, rfl, Nat.zero_le _, e1727.trans e31, ho31⟩ ?_
  rintro ⟨i, u⟩ h34 ⟨k, vs, hi, hkl, e34, ho34⟩
  dsimp only at hi
  subst hi
  dsimp only
  refine iteP_dec (fun hlt => ?_) (fun _ => bindI_intro ?_)
  · refine Own.store3 ho34 (m := k) rfl (by omega) rfl fun h37 vs' ho37 u37 z37 => bindI_intro ?_
    rw [wrap64 (n := (k : Int) + 1) (by omega) (by omega)]
    exact ⟨⟨k + 1, vs', by omega, by omega, e34.then u37 fun j hj => by have := (ho34.lt hj).1; omega, ho37⟩, by omega⟩
  · refine loopM_intro (fun p h' => ∃ k : Nat, p.1 = (k : Int) ∧ k ≤ lt.length ∧ Ext h17 h') (fun p _ => lt.length - p.1.toNat) ⟨0, rfl, Nat.zero_le _, e34⟩ ?_
    rintro ⟨i, u⟩ h43 ⟨k2, hi, hkl2, e43⟩
    dsimp only at hi
    subst hi
    dsimp only
    have x43 := x17.trans e43
    refine iteP_dec (fun hlt => ?_) (fun _ => ?_)
    · have hk1 : k2 < lt.length := by omega
      have hx : lt[k2]? = some lt[k2] := List.getElem?_eq_getElem hk1
      generalize lt[k2] = n at hx
      refine Ints.idx (ht.ext x43) rfl hx ?_
      refine At_spec (hl17.ext e43) fun h48 e48 => ?_
      refine newK fun h50 c50 e50 z50 => stsAll c50 rfl rfl fun h51 c51 u51 z51 => ?_
      have w48 := e48.size
      have y51 : Ext h43 h51 := (e48.trans e50).then u51 fun j hj => by omega
      refine Ints.idx (ht.ext (x43.trans y51)) rfl hx ?_
      refine RAt_spec (hr17.ext (e43.trans y51)) fun h56 e56 => ?_
      refine newK fun h58 c58 e58 z58 => stsAll c58 rfl rfl fun h59 c59 u59 z59 => ?_
      have w56 := e56.size
      have y59 : Ext h51 h59 := (e56.trans e58).then u59 fun j hj => by omega
      have d51 := keepE c51 y59
      refine ldIk d51 rfl (ldIk c59 rfl (iteP_neg (by simp) ?_))
      refine ldIk d51 rfl (ldIk c59 rfl (iteP_neg (by simp) ?_))
      refine ldIk d51 rfl (ldIk c59 rfl (iteP_neg (by simp) (bindI_intro ?_)))
      rw [wrap64 (n := (k2 : Int) + 1) (by omega) (by omega)]
      exact ⟨⟨k2 + 1, by omega, by omega, (e43.trans y51).trans y59⟩, by omega⟩
    · obtain ⟨q9, hq9, hq9l, _⟩ := (hr17.ext e43).cells
      refine deref_ (ldLk hq9 rfl ?_)
      refine Samples_spec (hl17.ext e43) hst4 fun t70 h71 ho71 e71 => ⟨⟨(cell_block (keepE hq9 e71)).trans rfl, trivial⟩, ?_⟩
      refine same_spec ho71.row (hq9l.ext e71) ?_
      rw [decide_eq_true rfl]
      exact bindB_intro (hk h71 (x43.trans e71))

end Go.Proofs.Ytkcbkiognkkhlaa
