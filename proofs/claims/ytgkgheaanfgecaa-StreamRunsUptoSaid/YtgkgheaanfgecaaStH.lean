/- StreamOrder's law: what the calls on the first of two connections tell. -/
import Derived.Test.YtgkgheaanfgecaaStG
namespace Go.Proofs.Ytgkgheaanfgecaa
open Go Go.Fw

theorem side_put (c : Cn) {j i : Nat} (hj : j < 2) (hi : i < 2) (s : Side) : (c.putS j s).side i = if i = j then s else c.side i := by
  rcases two j hj with rfl | rfl <;> rcases two i hi with rfl | rfl <;> rfl
theorem brk_put (c : Cn) (j : Nat) (s : Side) : (c.putS j s).brk = c.brk := by
  unfold Cn.putS
  split <;> rfl
theorem errA {A B : Cn} (hA : A.brk = false) {j : Nat} (hj : j < 2) (most : Int) : errS [A, B] 1 (j : Int) most = if most < 0 then 2 else 0 := by
  unfold errS
  rw [if_neg (by decide), if_neg (by simp), if_neg (by omega), if_neg (by omega)]
  split
  · rfl
  · show (if A.brk then (51 : Int) else 0) = 0
    rw [hA]
    rfl
theorem wr_a {A B : Cn} (hA : A.brk = false) {j : Nat} (hj : j < 2) (hx : (A.side j).x = false) (l : List UInt8) :
    wrS [A, B] 1 (j : Int) l = if (A.side j).way.length + l.length > 65536 then (3, [A, B]) else (0, [A.putS j ((A.side j).put 0 ((A.side j).way ++ l)), B]) := by
  have e := errA (B := B) hA hj 0
  rw [if_neg (by decide)] at e
  unfold wrS
  rw [if_neg (by rw [e]; simp)]
  show wrI [A, B] 0 (j : Int).toNat l = _
  rw [Int.toNat_natCast]
  unfold wrI
  show (if (A.side j).x then _ else _) = _
  rw [if_neg (by rw [hx]; simp)]
  rfl
theorem mv_a {A B : Cn} (hA : A.brk = false) {j : Nat} (hj : j < 2) (most : Int) :
    mvS [A, B] 1 (j : Int) most = if most < 0 then ((0, 2), [A, B]) else ((((min most.toNat (A.side j).way.length : Nat) : Int), 0), [A.putS j ⟨(A.side j).way.drop (min most.toNat (A.side j).way.length), (A.side j).come ++ (A.side j).way.take (min most.toNat (A.side j).way.length), (A.side j).x⟩, B]) := by
  have e := errA (B := B) hA hj most
  unfold mvS
  rw [e]
  by_cases hm : most < 0
  · rw [if_pos hm, if_pos hm, if_pos (by decide)]
  · rw [if_neg hm, if_neg hm, if_neg (by simp)]
    show mvI [A, B] 0 (j : Int).toNat most.toNat = _
    rw [Int.toNat_natCast]
    rfl
theorem rd_a {A B : Cn} (hA : A.brk = false) {j : Nat} (hj : j < 2) (most : Int) :
    rdS_ [A, B] 1 (j : Int) most = if most < 0 then (([], false, 2), [A, B]) else (((A.side (1 - j)).come.take (min most.toNat (A.side (1 - j)).come.length), ((A.side (1 - j)).x && ((A.side (1 - j)).way.length == 0 && ((A.side (1 - j)).come.drop (min most.toNat (A.side (1 - j)).come.length)).length == 0)), 0),
      [A.putS (1 - j) ⟨(A.side (1 - j)).way, (A.side (1 - j)).come.drop (min most.toNat (A.side (1 - j)).come.length), (A.side (1 - j)).x⟩, B]) := by
  have e := errA (B := B) hA hj most
  unfold rdS_
  rw [e]
  by_cases hm : most < 0
  · rw [if_pos hm, if_pos hm, if_pos (by decide)]
  · rw [if_neg hm, if_neg hm, if_neg (by simp)]
    show rdI [A, B] 0 (1 - (j : Int).toNat) most.toNat = _
    rw [Int.toNat_natCast]
    rfl
theorem sh_a {A B : Cn} (hA : A.brk = false) {j : Nat} (hj : j < 2) (hx : (A.side j).x = false) : shS [A, B] 1 (j : Int) = (0, [A.putS j { A.side j with x := true }, B]) := by
  have e := errA (B := B) hA hj 0
  rw [if_neg (by decide)] at e
  unfold shS
  rw [if_neg (by rw [e]; simp)]
  show shI [A, B] 0 (j : Int).toNat = _
  rw [Int.toNat_natCast]
  unfold shI
  show (if (A.side j).x then _ else _) = _
  rw [if_neg (by rw [hx]; simp)]
  rfl
theorem wr_b {A B : Cn} {j : Nat} (hj : j < 2) (l : List UInt8) (hw : ∀ i, i < 2 → (B.side i).way.length ≤ 65536) : ∃ B', (wrS [A, B] 2 (j : Int) l).2 = [A, B'] ∧ ∀ i, i < 2 → (B'.side i).way.length ≤ 65536 ∧ (B'.side i).come.length = (B.side i).come.length := by
  unfold wrS
  split
  · exact ⟨B, rfl, fun i hi => ⟨hw i hi, rfl⟩⟩
  · show ∃ B', (wrI [A, B] 1 (j : Int).toNat l).2 = [A, B'] ∧ _
    rw [Int.toNat_natCast]
    unfold wrI
    show ∃ B', (if (B.side j).x then ((51 : Int), [A, B]) else if (B.side j).way.length + l.length > 65536 then (3, [A, B]) else (0, [A, B.putS j ((B.side j).put 0 ((B.side j).way ++ l))])).2 = [A, B'] ∧ _
    split
    · exact ⟨B, rfl, fun i hi => ⟨hw i hi, rfl⟩⟩
    · split
      · exact ⟨B, rfl, fun i hi => ⟨hw i hi, rfl⟩⟩
      · rename_i h1
        refine ⟨_, rfl, fun i hi => ?_⟩
        rw [side_put B hj hi]
        split
        · rename_i hij
          subst hij
          refine ⟨?_, rfl⟩
          show ((B.side i).way ++ l).length ≤ _
          rw [List.length_append]
          omega
        · exact ⟨hw i hi, rfl⟩
theorem mv_b {A B : Cn} {j : Nat} (hj : j < 2) (hw : ∀ i, i < 2 → (B.side i).way.length ≤ 65536) : ∃ B', (mvS [A, B] 2 (j : Int) 3).2 = [A, B'] ∧ ∀ i, i < 2 → (B'.side i).way.length ≤ 65536 ∧ (B'.side i).come.length ≤ (B.side i).come.length + 65536 := by
  unfold mvS
  split
  · exact ⟨B, rfl, fun i hi => ⟨hw i hi, by omega⟩⟩
  · show ∃ B', (mvI [A, B] 1 (j : Int).toNat 3).2 = [A, B'] ∧ _
    rw [Int.toNat_natCast]
    refine ⟨_, rfl, fun i hi => ?_⟩
    rw [side_put B hj hi]
    split
    · rename_i hij
      subst hij
      have := hw i hi
      refine ⟨?_, ?_⟩
      · show ((B.side i).way.drop _).length ≤ _
        rw [List.length_drop]; omega
      · show ((B.side i).come ++ (B.side i).way.take _).length ≤ _
        rw [List.length_append, List.length_take]; omega
    · exact ⟨hw i hi, by omega⟩

structure LawsO (A B : Cn) (w r : Nat → List UInt8) (m : Nat → Int) (n k0 : Nat) : Prop where
  brk : A.brk = false
  law : ∀ e, e < 2 → k0 ≤ e → (A.side e).x = false ∧ w e = r e ++ ((A.side e).come ++ (A.side e).way) ∧ m e = (((r e).length + (A.side e).come.length : Nat) : Int)
  bnd : ∀ e, e < 2 → (A.side e).way.length ≤ 65536 ∧ (A.side e).come.length ≤ 65536 * n ∧ (B.side e).way.length ≤ 65536 ∧ (B.side e).come.length ≤ 65536 * n ∧ (w e).length ≤ 65536 * n ∧ (r e).length ≤ 65536 * n

theorem LawsO.hw {A B : Cn} {w r : Nat → List UInt8} {m : Nat → Int} {n k0 : Nat} (hL : LawsO A B w r m n k0) (hn : n ≤ 1048580) : ∀ c j, c ∈ [A, B] → j < 2 → (c.side j).way.length ≤ 65536 ∧ (c.side j).come.length ≤ 1099511627776 := fun c j hc hj => by
  have := hL.bnd j hj
  rcases List.mem_cons.1 hc with rfl | hc
  · omega
  · have : c = B := List.mem_singleton.1 hc
    subst this
    omega
theorem LawsO.mono {A B : Cn} {w r : Nat → List UInt8} {m : Nat → Int} {n n' k0 : Nat} (hL : LawsO A B w r m n k0) (hn : n ≤ n') : LawsO A B w r m n' k0 :=
  ⟨hL.brk, hL.law, fun e he => by have := hL.bnd e he; omega⟩
/-- another connection plays no part -/
theorem LawsO.other {A B B' : Cn} {w r : Nat → List UInt8} {m : Nat → Int} {n k0 : Nat} (hL : LawsO A B w r m n k0) (hB : ∀ i, i < 2 → (B'.side i).way.length ≤ 65536 ∧ (B'.side i).come.length ≤ 65536 * n) : LawsO A B' w r m n k0 :=
  ⟨hL.brk, hL.law, fun e he => by have := hL.bnd e he; have := hB e he; omega⟩
theorem LawsO.write {A B : Cn} {w r : Nat → List UInt8} {m : Nat → Int} {n : Nat} (hL : LawsO A B w r m n 0) {j : Nat} (hj : j < 2) {l : List UInt8} (hf : ¬ (A.side j).way.length + l.length > 65536) :
    LawsO (A.putS j ((A.side j).put 0 ((A.side j).way ++ l))) B (fun i => if i = j then w j ++ l else w i) r m (n + 1) 0 := by
  refine ⟨by rw [brk_put]; exact hL.brk, fun e he _ => ?_, fun e he => ?_⟩
  · have h1 := hL.law e he (Nat.zero_le _)
    rw [side_put A hj he]
    by_cases hij : e = j
    · subst hij
      simp only [if_true]
      refine ⟨h1.1, ?_, h1.2.2⟩
      show w e ++ l = r e ++ ((A.side e).come ++ ((A.side e).way ++ l))
      rw [h1.2.1]
      simp only [List.append_assoc]
    · simp only [hij, if_false]; exact h1
  · have h1 := hL.bnd e he
    rw [side_put A hj he]
    by_cases hij : e = j
    · subst hij
      simp only [if_true]
      have e1 : ((A.side e).put 0 ((A.side e).way ++ l)).way = (A.side e).way ++ l := rfl
      have e2 : ((A.side e).put 0 ((A.side e).way ++ l)).come = (A.side e).come := rfl
      rw [e1, e2, List.length_append, List.length_append]
      omega
    · simp only [hij, if_false]; omega
theorem LawsO.move {A B : Cn} {w r : Nat → List UInt8} {m : Nat → Int} {n k0 : Nat} (hL : LawsO A B w r m n k0) {j : Nat} (hj : j < 2) (q : Nat) (hq : q ≤ (A.side j).way.length) :
    LawsO (A.putS j ⟨(A.side j).way.drop q, (A.side j).come ++ (A.side j).way.take q, (A.side j).x⟩) B w r (fun i => if i = j then m j + (q : Int) else m i) (n + 1) k0 := by
  refine ⟨by rw [brk_put]; exact hL.brk, fun e he hk => ?_, fun e he => ?_⟩
  · have h1 := hL.law e he hk
    rw [side_put A hj he]
    by_cases hij : e = j
    · subst hij
      simp only [if_true]
      refine ⟨h1.1, ?_, ?_⟩
      · rw [h1.2.1, List.append_assoc (A.side e).come, List.take_append_drop]
      · rw [h1.2.2, List.length_append, List.length_take]; omega
    · simp only [hij, if_false]; exact h1
  · have h1 := hL.bnd e he
    rw [side_put A hj he]
    by_cases hij : e = j
    · subst hij
      simp only [if_true]
      rw [List.length_append, List.length_take, List.length_drop]
      omega
    · simp only [hij, if_false]; omega
theorem LawsO.read {A B : Cn} {w r : Nat → List UInt8} {m : Nat → Int} {n : Nat} (hL : LawsO A B w r m n 0) {j : Nat} (hj : j < 2) (q : Nat) :
    LawsO (A.putS j ⟨(A.side j).way, (A.side j).come.drop q, (A.side j).x⟩) B w (fun i => if i = j then r j ++ (A.side j).come.take q else r i) m n 0 := by
  have hw : ∀ e, e < 2 → (r e).length + (A.side e).come.length ≤ (w e).length := fun e he => by
    rw [(hL.law e he (Nat.zero_le _)).2.1, List.length_append, List.length_append]; omega
  refine ⟨by rw [brk_put]; exact hL.brk, fun e he hk => ?_, fun e he => ?_⟩
  · have h1 := hL.law e he hk
    rw [side_put A hj he]
    by_cases hij : e = j
    · subst hij
      simp only [if_true]
      refine ⟨h1.1, ?_, ?_⟩
      · rw [h1.2.1, List.append_assoc, ← List.append_assoc ((A.side e).come.take q), List.take_append_drop]
      · rw [h1.2.2, List.length_append, List.length_take, List.length_drop]; omega
    · simp only [hij, if_false]; exact h1
  · have h1 := hL.bnd e he
    have h2 := hw e he
    rw [side_put A hj he]
    by_cases hij : e = j
    · subst hij
      simp only [if_true]
      rw [List.length_append, List.length_take, List.length_drop]
      omega
    · simp only [hij, if_false]; omega

theorem LawsO.weaken {A B : Cn} {w r : Nat → List UInt8} {m : Nat → Int} {n k0 : Nat} (hL : LawsO A B w r m n k0) : LawsO A B w r m n (k0 + 1) := ⟨hL.brk, fun e he hk => hL.law e he (by omega), hL.bnd⟩
/-- the side that is closed already may be what it likes -/
theorem LawsO.setK {A B : Cn} {w r : Nat → List UInt8} {m : Nat → Int} {n k : Nat} (hL : LawsO A B w r m n (k + 1)) (hk : k < 2) {s : Side} {l : List UInt8} (h1 : s.way.length ≤ 65536) (h2 : s.come.length ≤ 65536 * n) (h3 : l.length ≤ 65536 * n) :
    LawsO (A.putS k s) B w (fun i => if i = k then l else r i) m n (k + 1) := by
  refine ⟨by rw [brk_put]; exact hL.brk, fun e he hke => ?_, fun e he => ?_⟩
  · have hne : e ≠ k := by omega
    rw [side_put A hk he]
    simp only [hne, if_false]
    exact hL.law e he hke
  · have := hL.bnd e he
    rw [side_put A hk he]
    by_cases hek : e = k
    · simp only [hek, if_true]
      rw [hek] at this
      omega
    · simp only [hek, if_false]
      omega

theorem end_two (x : Int) : ∃ j : Nat, j < 2 ∧ IntKind.wrap .i64 (Int.tmod (IntKind.wrap .u64 x) 2) = (j : Int) := by
  have h0 : 0 ≤ IntKind.wrap .u64 x := by
    unfold IntKind.wrap
    have hb : (2 : Int) ^ IntKind.u64.bits = 18446744073709551616 := by decide
    have hs : IntKind.u64.signed = false := rfl
    simp only [hb, hs, Bool.false_and, Bool.false_eq_true, if_false]
    omega
  generalize IntKind.wrap .u64 x = y at h0
  have h1 := Int.tmod_nonneg 2 h0
  have h2 := Int.tmod_lt_of_pos y (show (0 : Int) < 2 by decide)
  rw [wrap64 (by omega) (by omega)]
  exact ⟨(Int.tmod y 2).toNat, by omega, by omega⟩

theorem Stp.none_ {T T' : Nat → Option Nat} {h h' : Heap} (st : Stp T T' h h') {k : Nat} (hk : T k = none) (hl : k < h.size) : T' k = none := by
  rcases hT : T' k with _ | t
  · rfl
  · rcases st.new k (by rw [hT]; simp) with h1 | h1
    · exact absurd hk h1
    · omega
theorem Stp.keep {T T' : Nat → Option Nat} {h h' : Heap} (st : Stp T T' h h') {k : Nat} {x : Obj} (hk : T k = none) (hx : h[k]? = some x) : h'[k]? = some x := by
  rw [st.upd.old k (blk_lt hx) fun h9 => h9 hk]; exact hx

end Go.Proofs.Ytgkgheaanfgecaa
