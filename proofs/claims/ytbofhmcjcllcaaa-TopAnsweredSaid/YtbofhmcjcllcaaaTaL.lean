/- TopAnswered's law, on its model. -/
import Derived.Test.YtbofhmcjcllcaaaTaB
namespace Go.Proofs.Ytbofhmcjcllcaaa
open Go Go.Fw

/-- behind n askings -/
structure AskI (al : List An) (n : Nat) (o : List UInt8) (w : List (Int × Int)) : Prop where
  on : On2 (cA n o w 0 [] []) (n + 1)
  len : w.length = n
  z : ∀ p, p ∈ w → p.2 = 0
  cnt : al.length ≤ n
  right : ∀ a, a ∈ al → rightA a = true
  pw : al.Pairwise (fun a b => a.1 < b.1)
  le : ∀ a, a ∈ al → 1 ≤ a.1 ∧ a.1 ≤ n
  there : ∀ a, a ∈ al → ∃ p, p ∈ w ∧ p.1 = a.1
theorem AskI.rv {al : List An} {n : Nat} {o : List UInt8} {w : List (Int × Int)} (hA : AskI al n o w) : RvI al n [] (fr (al.map ansL)) 0 w [] :=
  ⟨List.nil_append _, cutA_fr [] (by simp), Nat.zero_le _, hA.on.w.asc, hA.z, hA.len, fun a ha => hA.there a (List.mem_of_mem_drop ha)⟩
theorem AskI.ask {al : List An} {n : Nat} {o : List UInt8} {w : List (Int × Int)} (hA : AskI al n o w) (hn : n < 50) : On2 (cA (n + 1) (o ++ allB [setId askQ ((n : Int) + 1)]) (w ++ [((n : Int) + 1, 0)]) 0 [] []) (n + 1 + 1) := by
  have h := hA.on.ask (by omega) 0 askQ
  rw [ask_c hA.z (by have := hA.len; omega)] at h
  exact h
theorem AskI.skip {al : List An} {n : Nat} {o : List UInt8} {w : List (Int × Int)} (hA : AskI al n o w) (hn : n < 50) : AskI al (n + 1) (o ++ allB [setId askQ ((n : Int) + 1)]) (w ++ [((n : Int) + 1, 0)]) := by
  refine ⟨hA.ask hn, by rw [List.length_append, hA.len]; rfl, fun p hp => ?_, by have := hA.cnt; omega, hA.right, hA.pw, fun a ha => by have := hA.le a ha; omega, fun a ha => ?_⟩
  · rcases List.mem_append.1 hp with h | h
    · exact hA.z p h
    · rw [List.mem_singleton.1 h]
  · obtain ⟨p, h1, h2⟩ := hA.there a ha
    exact ⟨p, List.mem_append_left _ h1, h2⟩
theorem AskI.put {al : List An} {n : Nat} {o : List UInt8} {w : List (Int × Int)} (hA : AskI al n o w) (hn : n < 50) {a : An} (ha : a.1 = (n : Int) + 1) (hr : rightA a = true) : AskI (al ++ [a]) (n + 1) (o ++ allB [setId askQ ((n : Int) + 1)]) (w ++ [((n : Int) + 1, 0)]) := by
  have hS := hA.skip hn
  refine ⟨hS.on, hS.len, hS.z, by rw [List.length_append]; have := hA.cnt; simp; omega, fun b hb => ?_, ?_, fun b hb => ?_, fun b hb => ?_⟩
  · rcases List.mem_append.1 hb with h | h
    · exact hA.right b h
    · rw [List.mem_singleton.1 h]; exact hr
  · rw [List.pairwise_append]
    refine ⟨hA.pw, List.pairwise_singleton _ _, fun x hx y hy => ?_⟩
    rw [List.mem_singleton.1 hy]
    have := hA.le x hx
    omega
  · rcases List.mem_append.1 hb with h | h
    · have := hA.le b h; omega
    · rw [List.mem_singleton.1 h]; omega
  · rcases List.mem_append.1 hb with h | h
    · exact hS.there b h
    · rw [List.mem_singleton.1 h]
      exact ⟨_, List.mem_append_right _ (List.mem_singleton.2 rfl), ha.symm⟩

theorem tlenB {h : Heap} {base : Nat} {s : Sl} {l : List Tld} (ho : Own h base s 7 (l.flatMap tC)) : s.len = l.length := by
  have := ho.len
  rw [flat_len tC_len] at this
  omega
theorem recv_end {al : List An} {m q : Nat} {D : List UInt8} {w : List (Int × Int)} {rb : List UInt8} (hR : RvI al m D [] q w rb) : q = al.length := by
  have h1 := hR.cut
  have h2 := hR.cat
  rw [List.append_nil] at h2
  rw [h2, cutA_fr _ (fun l hl => by obtain ⟨a, _, rfl⟩ := List.mem_map.1 hl; exact good_ans a)] at h1
  simp only [Prod.mk.injEq] at h1
  have h3 := congrArg List.length h1.1
  have := hR.ql
  rw [List.length_take, List.length_map] at h3
  omega
theorem recv_key {al : List An} {m q : Nat} {D x way : List UInt8} {w : List (Int × Int)} {rb : List UInt8} (hR : RvI al m D (x ++ way) q w rb) (hr : ∀ a, a ∈ al → rightA a = true) (hp : al.Pairwise (fun a b => a.1 < b.1)) :
    ∃ q' w' rb', RvI al m (D ++ x) way q' w' rb' ∧ q ≤ q' ∧ (x ≠ [] → ∀ o last, last ≤ 5000 → (cA m o w last [] rb).bytesR 5000 x = (cA m o w' 5000 (((al.drop q).take (q' - q)).map tk) rb', 0)) ∧ (x = [] → q' = q ∧ w' = w ∧ rb' = rb) := by
  by_cases hx : x = []
  · subst hx
    refine ⟨q, w, rb, ?_, Nat.le_refl _, fun h => absurd rfl h, fun _ => ⟨rfl, rfl, rfl⟩⟩
    rw [List.append_nil]
    exact hR
  · obtain ⟨q', w', rb', h1, h2, h3⟩ := hR.step hr hp
    exact ⟨q', w', rb', h1, h2, fun _ => h3, fun h => absurd h hx⟩
theorem told_cat {al : List An} {q q' : Nat} (h : q ≤ q') : ((al.take q).map tk).flatMap tC ++ (((al.drop q).take (q' - q)).map tk).flatMap tC = ((al.take q').map tk).flatMap tC := by
  rw [← List.flatMap_append, ← List.map_append, ← List.take_add, show q + (q' - q) = q' by omega]

/-- what was told, looked through -/
theorem TopAnswered_true {l cuts : Sl} {la : List An} {zs : List Int} {h : Heap} {K : Bool → Heap → Prop} (hl : RowsA h l la) (hz : Ints h cuts zs) (hfin : ∀ h', Ext h h' → K true h') : m_spillwaytop_TopAnswered l cuts K h := by
  unfold m_spillwaytop_TopAnswered g_spillwaytop_TopAnswered
  refine St.New_spec fun h1 T1 hn1 e1 low1 => iteP_false (newK fun h2 c2 e2 z2 => ?_)
  have hn2 := hn1.ext e2
  have z1 := e1.size
  refine St.Listen_spec hn2 (St.one_row c2) (fun k hk => ?_) fun h4 hn4 st4 => iteP_neg (by decide) ?_
  · have : h1.size = k := by simpa [Sl.blk] using hk
    exact none_new hn1.lt (by omega)
  have e4 : Ext h h4 := (e1.trans e2).then st4.upd low1
  refine St.Dial_spec hn4 (by simp) fun h7 T7 hn7 st7 => ?_
  have hps : St.liP (fun _ => false) [1] 1 = true := by decide
  rw [di_1 hps] at hn7 ⊢
  dsimp only at hn7 ⊢
  have low7 := st7.low e4 low1
  have e7 := st7.ext e4 low1
  refine bindI_intro (bindI_intro ?_)
  refine New_spec (name := xT) (by decide) (fun hb => absurd newE_x hb) fun _ h10 T10 cb hC10 e10 t10 => bindI_intro (iteP_neg (by decide) (iteP_neg (by decide) ?_))
  have s7 := e7.size
  have hI10 : TaI h h10 T7 T10 (h.size + 1) cb (St.liP (fun _ => false) [1]) (cnA [] []) (newCl 1000000 1 1 xT) := by
    refine ⟨hn7.ext e10, hC10, fun k hk => Classical.byContradiction fun h9 => ?_, low7, fun k hk => by have := t10 k hk; omega, e7.trans e10⟩
    have := hn7.lt k hk
    have := t10 k h9
    omega
  have hO10 : On2 (newCl 1000000 1 1 xT) 0 := ⟨WOK.new, NOK.new newE_x, rfl, List.Pairwise.nil, Int.le_refl _, Nat.zero_le _, Nat.zero_le _, Nat.zero_le _⟩
  obtain ⟨ue, us⟩ := up_c
  refine Up_spec hI10.cl hO10.w hO10.nk (by decide) (at_ := 0) fun h12 T12 hC12 st12 => ?_
  have hO12 := hO10.upS 0
  rw [us] at hC12 hO12
  rw [ue]
  have hI12 := hI10.clS hC12 st12
  refine iteP_neg (by decide) (bindI_intro ?_)
  have hA0 : AskI [] 0 (allB [helloR xT]) [] := ⟨hO12, rfl, (fun p hp => (by cases hp)), Nat.zero_le _, (fun p hp => (by cases hp)), List.Pairwise.nil, (fun p hp => (by cases hp)), (fun p hp => (by cases hp))⟩
  refine cutP_intro (fun p h' => ∃ (al : List An) (n : Nat) (o : List UInt8) (w : List (Int × Int)) (T T2 : Nat → Option Nat), p.1 = (al.length : Int) ∧ n ≤ 50 ∧ AskI al n o w ∧ TaI h h' T T2 (h.size + 1) cb (St.liP (fun _ => false) [1]) (cnA (fr (al.map ansL)) []) (cA n o w 0 [] [])) ?_ ?_
  rotate_left
  · refine bindI_intro (loopM_intro (fun p h' => ∃ (al : List An) (n : Nat) (o : List UInt8) (w : List (Int × Int)) (T T2 : Nat → Option Nat), p.2.1 = (n : Int) ∧ n ≤ la.length ∧ p.1 = (al.length : Int) ∧ n ≤ 50 ∧ AskI al n o w ∧ TaI h h' T T2 (h.size + 1) cb (St.liP (fun _ => false) [1]) (cnA (fr (al.map ansL)) []) (cA n o w 0 [] [])) (fun p _ => la.length - p.2.1.toNat)
      ⟨[], 0, _, [], T7, T12, rfl, Nat.zero_le _, rfl, by omega, hA0, hI12⟩ ?_)
    rintro ⟨want, i, u⟩ h17 ⟨al, n, o, w, T, T2, hi, hnl, hwant, hn50, hA, hI⟩
    dsimp only at hi hwant
    subst hi hwant
    dsimp only
    have hll := hl.1
    refine iteP_dec (fun hlt => iteP_dec (fun hlt50 => ?_) fun _ => ⟨al, n, o, w, T, T2, rfl, hn50, hA, hI⟩) fun _ => ⟨al, n, o, w, T, T2, rfl, hn50, hA, hI⟩
    have hk1 : n < la.length := by omega
    have hn' : n < 50 := by omega
    have hx : la[n]? = some la[n] := List.getElem?_eq_getElem hk1
    generalize la[n] = a at hx
    have hou := hA.on.out
    refine Ask_spec (r := askQ) hI.cl hA.on.w (by show (n : Int) + 1 < _; omega) (by omega) (by decide) fun h21 T21 hC21 st21 => ?_
    rw [ask_c hA.z (by have := hA.len; omega)] at hC21 ⊢
    dsimp only at hC21 ⊢
    have hI21 := hI.clS hC21 st21
    refine bindI_intro (bindB_intro (bindI_intro (hl.idx rfl hx fun b23 o23 hh0 => ?_)))
    have hh := has_congr (hI21.ext.old b23 (has_lt hh0 (by simp [anC]))) hh0
    obtain ⟨a1, a2, a3, a4, a5, au⟩ := a
    refine ⟨_, hh.1, _, hh.2.1, _, hh.2.2.1, _, hh.2.2.2.1, _, hh.2.2.2.2.1, newK fun h30 c30 e30 z30 => stsAll c30 rfl rfl fun h31 c31 u31 z31 => put2 c31 (show 0 < 5 by decide) rfl fun h32 c32 u32 z32 => ?_⟩
    have e32 : Ext h21 h32 := (e30.then u31 fun k hk => by omega).then u32 fun k hk => by omega
    refine ldIk c32 rfl (ldIk c32 rfl (ldIk c32 rfl (ldIk c32 rfl (ldIk c32 rfl ?_))))
    refine Answer_spec (r := ((n : Int) + 1, a2, a3, a4, a5, ())) fun t38 h40 ho40 e40 => bindI_intro (iteP_neg (by decide) ?_)
    have hI40 := (hI21.grow e32).grow e40
    have hwr : IntKind.wrap .i64 ((n : Int) + 1) = (n : Int) + 1 := wrap64 (by omega) (by omega)
    by_cases hr : rightA ((n : Int) + 1, a2, a3, a4, a5, ()) = true
    · rw [if_pos hr]
      refine iteP_neg (by decide) ?_
      have hb40 : Bytes h40 t38 (ansL ((n : Int) + 1, a2, a3, a4, a5, ())) := by
        have := ho40.row
        unfold ansB at this
        rw [if_pos hr] at this
        exact this
      refine Frame_spec hb40 fun t43 h45 ho45 e45 _ => ?_
      rw [frameB_good (good_ans _)] at ho45
      have hI45 := hI40.grow e45
      have hlen := fr_ans_len al
      have hcnt := hA.cnt
      have hal : (header (ansL ((n : Int) + 1, a2, a3, a4, a5, ())).length ++ ansL ((n : Int) + 1, a2, a3, a4, a5, ())).length = 37 := by rw [List.length_append, header_len, ansL_len]
      refine St.Write_spec hI45.net ho45.row (by omega) (fun c j hc hj => (hw_1 (by omega) (Nat.zero_le _) c j hc hj).1) fun h47 T47 hn47 st47 => ?_
      rw [wr_1 (by omega)] at hn47 ⊢
      dsimp only at hn47 ⊢
      have hI47 := hI45.netS hn47 st47
      refine iteP_neg (by decide) (bindI_intro ?_)
      have hwr2 : IntKind.wrap .i64 ((al.length : Int) + 1) = ((al ++ [((n : Int) + 1, a2, a3, a4, a5, ())]).length : Int) := by
        rw [wrap64 (by omega) (by omega), List.length_append]
        rfl
      rw [hwr2, hwr]
      refine bindI_intro ⟨⟨_, n + 1, _, _, T47, T21, by show (n : Int) + 1 = ((n + 1 : Nat) : Int); omega, by omega, rfl, by omega, hA.put hn' rfl hr, ?_⟩, by show la.length - ((n : Int) + 1).toNat < la.length - (n : Int).toNat; omega⟩
      have hfr : fr ((al ++ [((n : Int) + 1, a2, a3, a4, a5, ())]).map ansL) = fr (al.map ansL) ++ (header (ansL ((n : Int) + 1, a2, a3, a4, a5, ())).length ++ ansL ((n : Int) + 1, a2, a3, a4, a5, ())) := by
        rw [List.map_append]
        exact fr_snoc _ _
      rw [hfr]
      exact hI47
    · rw [if_neg hr]
      refine iteP_pos (by decide) (bindI_intro ?_)
      rw [hwr]
      exact ⟨⟨al, n + 1, _, _, T, T21, by show (n : Int) + 1 = ((n + 1 : Nat) : Int); omega, by omega, rfl, by omega, hA.skip hn', hI40⟩, by show la.length - ((n : Int) + 1).toNat < la.length - (n : Int).toNat; omega⟩
  · rintro ⟨want, u⟩ h52 ⟨al, m, o, w, T, T2, hwant, hm50, hA, hI⟩
    dsimp only at hwant
    subst hwant
    dsimp only
    obtain ⟨rb0, mb0, so0, st0, sb0, hR0⟩ := hI.cl
    have hasc := hA.on.w.asc
    have hb64 : ∀ (w' : List (Int × Int)) last rb n, On2 (cA m o w' last [] rb) n → ∀ p, p ∈ w' → -9223372036854775808 ≤ p.1 ∧ p.1 < 9223372036854775808 := fun w' last rb n hO p hp => by
      have : 1 ≤ p.1 ∧ p.1 < (m : Int) + 1 := hO.w.ids p hp
      omega
    have hwl := hA.len
    have hcnt := hA.cnt
    have hfl := fr_ans_len al
    refine Waiting_spec hR0 hasc (hb64 _ _ _ _ hA.on) (by show w.length ≤ _; omega) fun t53 h54 ho54 e54 => bindI_intro ?_
    have h53 : t53.len = m := by
      have := ho54.len
      rw [List.length_map, List.length_map] at this
      have : (cA m o w 0 [] []).waits.length = w.length := rfl
      omega
    have hI54 := hI.grow e54
    refine cutP_intro (fun p h' => ∃ (D : List UInt8) (N : Nat) (w' : List (Int × Int)) (rb : List UInt8) (last : Int) (T T2 : Nat → Option Nat), RvI al m D [] al.length w' rb ∧ On2 (cA m o w' last [] rb) N ∧ TaI h h' T T2 (h.size + 1) cb (St.liP (fun _ => false) [1]) (cnA [] []) (cA m o w' last [] rb) ∧ TR h h' T T2 p.1 (al.map tk)) ?_ ?_
    rotate_left
    · refine bindI_intro (loopM_intro (fun p h' => ∃ (k : Nat) (D way : List UInt8) (q : Nat) (w' : List (Int × Int)) (rb : List UInt8) (last : Int) (T T2 : Nat → Option Nat), p.2.1 = (k : Int) ∧ way.length + k ≤ al.length * 37 ∧ RvI al m D way q w' rb ∧ (0 ≤ last ∧ last ≤ 5000) ∧ On2 (cA m o w' last [] rb) (51 + k) ∧ TaI h h' T T2 (h.size + 1) cb (St.liP (fun _ => false) [1]) (cnA way []) (cA m o w' last [] rb) ∧ TR h h' T T2 p.1 ((al.take q).map tk)) (fun p _ => 5000 - p.2.1.toNat)
        ⟨0, [], _, 0, w, [], 0, T, T2, rfl, by omega, hA.rv, by omega, hA.on.mono (by omega), hI54, ⟨Own.nil h54 h.size 7, fun k hk => by simp [Sl.blk] at hk⟩⟩ ?_)
      rintro ⟨told, i, u⟩ h60 ⟨k, D, way, q, w', rb, last, T, T2, hi, hwk, hR, hlast, hO, hI, hT⟩
      dsimp only at hi hT
      subst hi
      dsimp only
      refine iteP_dec (fun hlt => bindI_intro ?_) fun hge => absurd hge (by omega)
      refine cutP_intro (fun p h' => h' = h60 ∧ ∃ kk : Nat, 1 ≤ kk ∧ kk ≤ 50 ∧ p.1 = (kk : Int)) ?_ ?_
      rotate_left
      · refine iteP_dec (fun hc => ?_) fun _ => ⟨rfl, 7, by omega, by omega, rfl⟩
        have hz60 := Row.ext hz hI.ext
        have hzl := Ints.length hz
        have hk1 : k < zs.length := by omega
        refine Ints.idx hz60 rfl (List.getElem?_eq_getElem hk1) (which_spec ?_)
        have hwh := whF_range zs[k]
        rw [wrap64 (n := 1 + whF zs[k]) (by omega) (by omega)]
        exact bindI_intro ⟨rfl, (1 + whF zs[k]).toNat, by omega, by omega, by show 1 + whF zs[k] = _; omega⟩
      rintro ⟨k68, u2⟩ h70 ⟨rfl, kk, hk1, hk50, hkk⟩
      dsimp only at hkk
      subst hkk
      dsimp only
      refine St.Move_spec hI.net (hw_1 (by omega) (Nat.zero_le _)) fun h73 T73 hn73 st73 => ?_
      rw [mv_1 rfl] at hn73
      have hI73 := hI.netS hn73 st73
      have hdl : (way.drop kk).length ≤ 65536 := by rw [List.length_drop]; omega
      have htl : (way.take kk).length ≤ 50 := by rw [List.length_take]; omega
      refine St.Read_spec hI73.net (hw_1 hdl (by omega)) fun out h77 T77 hn77 st77 ho77 hout77 => ?_
      obtain ⟨r1, r2, r3⟩ := rd_1 (w := way.drop kk) (c := way.take kk) (by omega)
      rw [r3] at hn77
      rw [r1] at ho77
      rw [r2]
      have hI77 := hI73.netS hn77 st77
      have hT77 := (hT.netS st73).netS st77
      refine bindB_intro (bindI_intro (iteP_neg (by decide) ?_))
      obtain ⟨q', w2, rb2, hR2, hqq, hby, hno⟩ := recv_key (x := way.take kk) (way := way.drop kk) (by rw [List.take_append_drop]; exact hR) hA.right hA.pw
      have hol : out.len = (way.take kk).length := Bytes.length ho77.row
      have hob := hO.out
      have hor := hO.rb
      refine cutP_intro (fun _ h' => ∃ (last' : Int) (T2' : Nat → Option Nat), (0 ≤ last' ∧ last' ≤ 5000) ∧ On2 (cA m o w2 last' (((al.drop q).take (q' - q)).map tk) rb2) (51 + k + 1) ∧ TaI h h' T77 T2' (h.size + 1) cb (St.liP (fun _ => false) [1]) (cnA (way.drop kk) []) (cA m o w2 last' (((al.drop q).take (q' - q)).map tk) rb2) ∧ TR h h' T77 T2' told ((al.take q).map tk)) ?_ ?_
      rotate_left
      · refine iteP_dec (fun hpos => ?_) fun hneg => ?_
        · have hx : way.take kk ≠ [] := fun h9 => by rw [h9] at hol; simp at hol; omega
          refine Bytes_spec hI77.cl hO.w hO.nk rfl ho77.row (fun _ k hk => none_new hI73.cl.lt (ho77.lt hk).1) (by omega) (at_ := 5000) fun h82 T82 hC82 st82 => ?_
          have hO82 := hO.bytes (l := way.take kk) (by omega) 5000
          rw [hby hx o last hlast.2] at hC82 hO82 ⊢
          exact iteP_neg rfl ⟨5000, T82, by omega, hO82, hI77.clS hC82 st82, hT77.clS st82⟩
        · have hx : way.take kk = [] := List.eq_nil_of_length_eq_zero (by omega)
          obtain ⟨rfl, rfl, rfl⟩ := hno hx
          rw [Nat.sub_self, List.take_zero, List.map_nil]
          exact ⟨last, T2, hlast, hO.succ, hI77, hT77⟩
      rintro ⟨⟩ h84 ⟨last', T2', hlast', hO84, hI84, hT84⟩
      refine Told_spec hI84.cl fun t85 h86 T86 ho86 tag86 hC86 st86 => ho86.row.rd ?_
      have hI86 := hI84.clS hC86 st86
      have hT86 := hT84.clS st86
      have htl85 := tlenB ho86
      have htl0 := tlenB hT86.row
      have hlt : (((al.drop q).take (q' - q)).map tk).length ≤ 50 := by rw [List.length_map, List.length_take, List.length_drop]; omega
      have hlt0 : ((al.take q).map tk).length ≤ 50 := by rw [List.length_map, List.length_take]; omega
      have htd : (cA m o w2 last' (((al.drop q).take (q' - q)).map tk) rb2).told = ((al.drop q).take (q' - q)).map tk := rfl
      rw [htd] at htl85
      refine Own.app hT86.row (by rw [flat_len tC_len, htl85]; rfl) (tC_one _) rfl (by omega) (by omega) hI86.ext.size fun t87 h88 ho88 hl88 hu88 hb88 => ?_
      rw [htd, told_cat hqq] at ho88
      have hI88 := hI86.updS hu88 fun k hk => ⟨hT86.none_ k hk, (hT86.row.lt hk).1⟩
      have hT88 : TR h h88 T77 T86 t87 ((al.take q').map tk) := ⟨ho88, fun k hk => by
        rcases hb88 with h9 | h9
        · exact hT86.none_ k (h9 ▸ hk)
        · rw [h9] at hk
          cases hk
          exact ⟨none_new hI86.net.lt (Nat.le_refl _), none_new hI86.cl.lt (Nat.le_refl _)⟩⟩
      refine St.Look_spec hI88.net ?_
      rw [lk_1]
      refine bindI_intro (bindI_intro (bindI_intro ⟨fun h0 => ?_, fun h0 => bindI_intro ?_⟩))
      · have h0 : (way.drop kk).length = 0 := by simpa using h0
        have h0 := List.eq_nil_of_length_eq_zero h0
        rw [h0] at hR2 hI88
        have := recv_end hR2
        subst this
        rw [List.take_length] at hT88
        exact ⟨D ++ way.take kk, _, w2, rb2, last', T77, T86, hR2, hO84.said, hI88, hT88⟩
      · have h0 : (way.drop kk).length ≠ 0 := fun h9 => by rw [h9] at h0; simp at h0
        rw [List.length_drop] at h0
        rw [wrap64 (n := (k : Int) + 1) (by omega) (by omega)]
        exact ⟨⟨k + 1, D ++ way.take kk, way.drop kk, q', w2, rb2, last', T77, T86, by show (k : Int) + 1 = ((k + 1 : Nat) : Int); omega, by rw [List.length_drop]; omega, hR2, hlast', hO84.said, hI88, hT88⟩, by show 5000 - ((k : Int) + 1).toNat < 5000 - (k : Int).toNat; omega⟩
    · rintro ⟨told, u⟩ h98 ⟨D, N, w', rb, last, T, T2, hR, hO, hI, hT⟩
      dsimp only at hT ⊢
      have htl := tlenB hT.row
      rw [List.length_map] at htl
      refine bindI_intro (bindI_intro (loopM_intro (fun p h' => h' = h98 ∧ ∃ k : Nat, p.2.1 = (k : Int) ∧ k ≤ al.length ∧ ∀ a, a ∈ al.drop k → p.1 < a.1) (fun p _ => al.length - p.2.1.toNat) ⟨rfl, 0, rfl, Nat.zero_le _, fun a ha => by have := hA.le a (List.mem_of_mem_drop ha); show (0 : Int) < a.1; omega⟩ ?_))
      rintro ⟨lst, i, u⟩ h104 ⟨rfl, k, hi, hkl, hlst⟩
      dsimp only at hi hlst
      subst hi
      dsimp only
      refine iteP_dec (fun hlt => ?_) fun hge => ?_
      · have hk1 : k < al.length := by omega
        have hx : al[k]? = some al[k] := List.getElem?_eq_getElem hk1
        have hdk : al.drop k = al[k] :: al.drop (k + 1) := List.drop_eq_getElem_cons hk1
        generalize al[k] = a at hx hdk
        have hx2 : (al.map tk)[k]? = some (tk a) := by rw [List.getElem?_map, hx]; rfl
        have hla : lst < a.1 := hlst a (by rw [hdk]; exact List.mem_cons_self ..)
        refine tld_idx hT.row hx2 rfl fun b o hh => ⟨false, hh.2.2.2.2.2.2.1, iteP_false ?_⟩
        refine tld_idx hT.row hx2 rfl fun b o hh => ⟨a.1, hh.1, iteP_neg (decide_eq_false (by omega)) ?_⟩
        refine tld_idx hT.row hx2 rfl fun b o hh => ⟨a.1, hh.2.1, ?_⟩
        refine tld_idx hT.row hx2 rfl fun b o hh => ⟨a.1, hh.1, iteP_neg (by simp) ?_⟩
        refine tld_idx hT.row hx2 rfl fun b o hh => ⟨a.1, hh.1, bindI_intro (bindI_intro ?_)⟩
        rw [wrap64 (n := (k : Int) + 1) (by omega) (by omega)]
        refine ⟨⟨rfl, k + 1, by show (k : Int) + 1 = ((k + 1 : Nat) : Int); omega, by omega, fun b hb => ?_⟩, by show al.length - ((k : Int) + 1).toNat < al.length - (k : Int).toNat; omega⟩
        have hpd : (al.drop k).Pairwise (fun a b => a.1 < b.1) := List.Pairwise.sublist (List.drop_sublist _ _) hA.pw
        rw [hdk] at hpd
        exact (List.pairwise_cons.1 hpd).1 b hb
      · refine iteP_pos (by rw [htl]; simp) ?_
        obtain ⟨rb1, mb1, so1, st1, sb1, hR1⟩ := hI.cl
        have hRl := hR.len
        refine Waiting_spec hR1 hO.w.asc (hb64 _ _ _ _ hO) (by show w'.length ≤ _; omega) fun t122 h123 ho123 e123 => ?_
        have h122 : t122.len = w'.length := by
          have := ho123.len
          rw [List.length_map, List.length_map] at this
          have : (cA m o w' last [] rb).waits.length = w'.length := rfl
          omega
        refine iteP_pos ?_ (Connected_spec (hI.grow e123).cl (bindB_intro (hfin h123 (hI.grow e123).ext)))
        rw [h53, h122, wrap64 (n := (m : Int) - (al.length : Int)) (by omega) (by omega)]
        simp
        omega

end Go.Proofs.Ytbofhmcjcllcaaa
