/- Requests and answers as bytes: the program's writer. -/
import Derived.Test.YtcgpdmlopbnpcaaPrD
import Derived.Test.YtcgpdmlopbnpcaaPrH
namespace Go.Proofs.Ytcgpdmlopbnpcaa
open Go Go.Fw

def byteAt (n : Int) (s : Nat) : UInt8 := UInt8.ofNat ((n / 2 ^ s) % 256).toNat
def bytes8 (n : Int) : List UInt8 := [byteAt n 56, byteAt n 48, byteAt n 40, byteAt n 32, byteAt n 24, byteAt n 16, byteAt n 8, byteAt n 0]

theorem bv_byteAt (n : Int) (s : Nat) (hs : s < 64) : Value.int .u8 (IntKind.wrap .u8 (shrV .i64 n (s : Int))) = bv (byteAt n s) := by
  unfold shrV bv byteAt
  have hb : IntKind.i64.bits = 64 := rfl
  rw [hb]
  have : min (s : Int).toNat 64 = s := by omega
  rw [this, Int.fdiv_eq_ediv_of_nonneg _ (by have : (0 : Int) < 2 ^ s := Int.pow_pos (by decide); omega), wrap8_mod]
  generalize n / 2 ^ s = x
  have h1 := Int.emod_nonneg x (show (256 : Int) ≠ 0 by decide)
  have h2 := Int.emod_lt_of_pos x (show (0 : Int) < 256 by decide)
  have e : (UInt8.ofNat (x % 256).toNat).toNat = (x % 256).toNat % 256 := by simp
  rw [e]
  congr 1
  omega

theorem Upd.then {S T : Nat → Prop} {a b c : Heap} (h : Upd S a b) (h' : Upd T b c) (hs : ∀ k, k < a.size → T k → S k) : Upd S a c :=
  ⟨Nat.le_trans h.size h'.size, fun k hk hn => (h'.old k (Nat.lt_of_lt_of_le hk h.size) fun hT => hn (hs k hk hT)).trans (h.old k hk hn)⟩

/-- what a writer holds -/
structure WrI (h0 : Heap) (w base : Nat) (s0 : Sl) (h : Heap) (cur : List UInt8) : Prop where
  cells : ∃ s : Sl, h[w]? = some (.cells #[slV s] 64 (0, 0)) ∧ Own h base s 1 (cur.map bv) ∧ s.blk ≠ some w ∧ (s.blk = s0.blk ∨ ∀ k, s.blk = some k → h0.size ≤ k)
  upd : Upd (fun k => k = w ∨ s0.blk = some k) h0 h

theorem WrI.step {h0 h : Heap} {w base : Nat} {s0 : Sl} {cur : List UInt8} {v : Value} {y : UInt8} {K : Heap → Prop} (hr : WrI h0 w base s0 h cur) (hv : v = bv y) (hw : w < h0.size) (hbase : base ≤ h0.size) (hn : cur.length ≤ 1099511627776)
    (hk : ∀ h', WrI h0 w base s0 h' (cur ++ [y]) → K h') {shift : Int} (h0s : 0 ≤ shift) :
    derefP (some ⟨w, 0, none⟩) fun b7 o8 => need (0 ≤ shift) <| ldL h b7 o8 fun t9 => newC h [v] 5 fun b10 h11 => need (heldL h11 [(b7, o8, Value.slice t9.ptr t9.len t9.cap)]) <|
      rdS ⟨some ⟨b10, 0, none⟩, 1, 1⟩ 1 h11 fun new => app 5 1 1 [Value.int .u8 0] t9 1 new h11 fun t12 h13 => derefP (some ⟨w, 0, none⟩) fun b14 o15 => st h13 b14 o15 (Value.slice t12.ptr t12.len t12.cap) fun h16 => K h16 := by
  subst hv
  obtain ⟨⟨s, hc, ho, hsw, hblk⟩, hu⟩ := hr
  have hz := hu.size
  have hol := ho.len
  simp only [List.length_map, Nat.mul_one] at hol
  refine deref_ ⟨h0s, ldLk hc rfl (newK fun h11 c11 e11 z11 => ?_)⟩
  have hc11 := keepE hc e11
  refine ⟨⟨(cell_block hc11).trans rfl, trivial⟩, ?_⟩
  have hrow : Row h11 ⟨some ⟨h.size, 0, none⟩, 1, 1⟩ 1 [bv y] := ⟨rfl, Nat.le_refl _, (show 1 < 9223372036854775808 by decide), .inr ⟨h.size, 0, rfl, has_block c11 fun i v hi => by simpa using hi⟩⟩
  refine hrow.rd ?_
  have ho11 := ho.congr (h' := h11) fun k _ hl _ => e11.old k hl
  refine Own.app ho11 (by simp) rfl rfl (by omega) (by omega) (by omega) fun t12 h13 ho13 hl13 hu13 hblk13 => ?_
  have hc13 : h13[w]? = some (.cells #[slV s] 64 (0, 0)) := by rw [hu13.old w (by omega) hsw]; exact hc11
  refine deref_ (put2 hc13 (by simp) rfl fun h16 c16 u16 z16 => hk h16 ⟨⟨t12, c16, ?_, ?_, ?_⟩, ?_⟩)
  · rw [List.map_append]
    have hne : t12.blk ≠ some w := by
      rcases hblk13 with e | e
      · rw [e]; exact hsw
      · rw [e]; intro he; cases he; omega
    exact ho13.congr fun k hk hl _ => u16.old k hl fun he => hne (he ▸ hk)
  · rcases hblk13 with e | e
    · rw [e]; exact hsw
    · rw [e]; intro he; cases he; omega
  · rcases hblk13 with e | e
    · rw [e]; exact hblk
    · right; intro k hk; rw [e] at hk; cases hk; omega
  · refine Upd.then (Upd.then (hu.trans (e11.upd _)) hu13 fun k hk hks => ?_) u16 fun k hk hkw => .inl hkw
    rcases hblk with e | e
    · exact .inr (e ▸ hks)
    · have := e k hks; omega

/-- the eight bytes of a number, from one on -/
theorem drop8 (n : Int) {j : Nat} (hj : j < 8) : (bytes8 n)[j]? = some (byteAt n (56 - 8 * j)) := by
  have : j = 0 ∨ j = 1 ∨ j = 2 ∨ j = 3 ∨ j = 4 ∨ j = 5 ∨ j = 6 ∨ j = 7 := by omega
  rcases this with rfl | rfl | rfl | rfl | rfl | rfl | rfl | rfl <;> rfl

theorem take8 (n : Int) {j : Nat} (hj : j < 8) : (bytes8 n).take (j + 1) = (bytes8 n).take j ++ [byteAt n (56 - 8 * j)] := by
  have h := drop8 n hj
  have hl : j < (bytes8 n).length := hj
  rw [List.take_succ_eq_append_getElem hl]
  rw [List.getElem?_eq_getElem hl] at h
  rw [Option.some.inj h]

theorem numbers_spec {h : Heap} {w base : Nat} {s0 l : Sl} {pre : List UInt8} {ns : List Int} {K : Heap → Prop} (hr : WrI h w base s0 h pre) (hl : Row h l 1 (ns.map (Value.int .i64))) (hlw : ∀ k, l.blk = some k → k ≠ w ∧ s0.blk ≠ some k) (hw : w < h.size) (hbase : base ≤ h.size)
    (hn : pre.length + 8 * ns.length ≤ 1099511627776) (hk : ∀ h', WrI h w base s0 h' (pre ++ ns.flatMap bytes8) → K h') : m_proto_writer_numbers (some ⟨w, 0, none⟩) l K h := by
  unfold m_proto_writer_numbers g_proto_writer_numbers
  have hll := hl.len
  simp only [List.length_map, Nat.mul_one] at hll
  have f8 : ∀ ms : List Int, (ms.flatMap bytes8).length = 8 * ms.length := by
    intro ms
    induction ms with
    | nil => rfl
    | cons m ms ih => rw [List.flatMap_cons, List.length_append, ih, List.length_cons]; show 8 + _ = _; omega
  refine loopM_intro (fun p h' => ∃ k : Nat, p.1 = (k : Int) ∧ k ≤ ns.length ∧ WrI h w base s0 h' (pre ++ (ns.take k).flatMap bytes8)) (fun p _ => ns.length - p.1.toNat) ⟨0, rfl, Nat.zero_le _, by simpa using hr⟩ ?_
  rintro ⟨i, u⟩ h1 ⟨k, hi, hkl, hw1⟩
  dsimp only at hi
  subst hi
  dsimp only
  refine iteP_dec (fun hlt => ?_) (fun hge => ?_)
  · have hk1 : k < ns.length := by omega
    have hx : ns[k]? = some ns[k] := List.getElem?_eq_getElem hk1
    have htk : ns.take (k + 1) = ns.take k ++ [ns[k]] := List.take_succ_eq_append_getElem hk1
    generalize ns[k] = n at hx htk
    have hl1 : Row h1 l 1 (ns.map (Value.int .i64)) := hl.congr fun b o hp _ hb => hw1.upd.old b hb (by
      have := hlw b (by simp [Sl.blk, hp])
      rintro (he | he)
      · exact this.1 he
      · exact this.2 he)
    refine Row.idx hl1 (n := k) rfl (v := .int .i64 n) (by simp [hx]) fun b o _ hc => ⟨n, hc, bindI_intro (bindI_intro ?_)⟩
    have hlen : (ns.take k).length = k := by simp; omega
    refine loopM_intro (fun p h' => ∃ j : Nat, p.1 = 56 - 8 * (j : Int) ∧ j ≤ 8 ∧ WrI h w base s0 h' (pre ++ (ns.take k).flatMap bytes8 ++ (bytes8 n).take j)) (fun p _ => (p.1 + 8).toNat) ⟨0, rfl, by omega, by simpa using hw1⟩ ?_
    rintro ⟨sh, u⟩ h2 ⟨j, hsh, hj8, hw2⟩
    dsimp only at hsh
    subst hsh
    dsimp only
    refine iteP_dec (fun hge => ?_) (fun hlt2 => ?_)
    · have hj : j < 8 := by omega
      have e : (56 : Int) - 8 * (j : Int) = ((56 - 8 * j : Nat) : Int) := by omega
      have hcl : (pre ++ (ns.take k).flatMap bytes8 ++ (bytes8 n).take j).length ≤ 1099511627776 := by
        rw [List.length_append, List.length_append, f8, hlen, List.length_take]
        have : (bytes8 n).length = 8 := rfl
        omega
      rw [e]
      refine WrI.step hw2 (bv_byteAt n _ (by omega)) hw hbase hcl (fun h' hw' => bindI_intro ?_) (by omega)
      rw [wrap64 (by omega) (by omega)]
      refine ⟨⟨j + 1, by omega, by omega, ?_⟩, by omega⟩
      rw [take8 n hj, ← List.append_assoc]
      exact hw'
    · have : j = 8 := by omega
      subst this
      rw [wrap64 (n := (k : Int) + 1) (by omega) (by omega)]
      refine ⟨⟨k + 1, by omega, by omega, ?_⟩, by omega⟩
      rw [htk, List.flatMap_append, ← List.append_assoc]
      have e : (bytes8 n).take 8 = bytes8 n := rfl
      rw [e] at hw2
      simpa using hw2
  · have : k = ns.length := by omega
    subst this
    rw [List.take_of_length_le (Nat.le_refl _)] at hw1
    exact hk h1 hw1

/-! ### a request's bytes -/
def reqL (r : Rq) : List UInt8 := [UInt8.ofNat r.2.1.toNat] ++ [r.1, r.2.2.1, r.2.2.2.1, r.2.2.2.2.2.1].flatMap bytes8 ++ [UInt8.ofNat r.2.2.2.2.1.size] ++ r.2.2.2.2.1.data.toList
def reqB (r : Rq) : List UInt8 := if rightB r then reqL r else []
def ansL (a : An) : List UInt8 := [UInt8.ofNat a.2.1.toNat] ++ [a.1, a.2.2.1, a.2.2.2.1, a.2.2.2.2.1].flatMap bytes8
def ansB (a : An) : List UInt8 := if rightA a then ansL a else []

theorem right_want {r : Rq} (h : rightB r = true) : 1 ≤ r.2.1 ∧ r.2.1 ≤ 5 := by
  unfold rightB at h
  rw [Bool.and_eq_true] at h
  have h2 := h.2
  by_cases h1 : r.2.1 = 1 ∨ r.2.1 = 2 ∨ r.2.1 = 3 ∨ r.2.1 = 4 ∨ r.2.1 = 5
  · omega
  · rw [not_or, not_or, not_or, not_or] at h1
    simp [h1] at h2
theorem right_text {r : Rq} (h : rightB r = true) : r.2.2.2.2.1.size ≤ 64 := by
  unfold rightB at h
  rw [Bool.and_eq_true] at h
  have h2 := h.2
  clear h
  generalize hc1 : (r.2.1 == 1 || r.2.1 == 3) = c1 at h2
  cases c1 with
  | true => simp only [cond_true, Bool.and_eq_true, beq_iff_eq] at h2; omega
  | false =>
    simp only [cond_false] at h2
    generalize hc2 : (r.2.1 == 2) = c2 at h2
    cases c2 with
    | true => simp only [cond_true, Bool.and_eq_true, decide_eq_true_eq] at h2; omega
    | false =>
      simp only [cond_false] at h2
      generalize hc3 : (r.2.1 == 4) = c3 at h2
      cases c3 with
      | true => simp only [cond_true, Bool.and_eq_true, beq_iff_eq] at h2; omega
      | false =>
        simp only [cond_false] at h2
        generalize hc4 : (r.2.1 == 5) = c4 at h2
        cases c4 with
        | true => simp only [cond_true, Bool.and_eq_true] at h2; have h3 := h2.2; unfold nameB at h3; simp only [Bool.and_eq_true, decide_eq_true_eq] at h3; omega
        | false => cases h2

theorem bv_toNat {n : Int} (h0 : 0 ≤ n) (h1 : n < 256) : Value.int .u8 n = bv (UInt8.ofNat n.toNat) := by
  unfold bv
  have e : (UInt8.ofNat n.toNat).toNat = n.toNat % 256 := by simp
  rw [e]
  congr 1
  omega

theorem Request_spec {r : Rq} (hs : r.2.2.2.2.1.size < 9223372036854775808) {K : Sl → Int → Heap → Prop} {h : Heap}
    (hk : ∀ out h', Own h' h.size out 1 ((reqB r).map bv) → Ext h h' → K out (if rightB r then 0 else 6) h') : m_proto_Request r K h := by
  unfold m_proto_Request g_proto_Request
  refine newK fun h1 c1 e1 z1 => bindI_intro ?_
  refine ldIk c1 rfl (ldIk c1 rfl (ldIk c1 rfl (ldIk c1 rfl (ldSk c1 rfl (ldIk c1 rfl ?_)))))
  refine Right_spec (r := r) hs fun h9 e9 => ?_
  have c9 := keepE c1 e9
  have x9 := e1.trans e9
  have zz9 := x9.size
  refine ⟨fun e => bindI_intro ?_, fun e => ?_⟩
  · have e' : rightB r = false := by simpa using e
    have := hk ⟨none, 0, 0⟩ h9 (by unfold reqB; rw [if_neg (by simp [e'])]; exact Own.nil h9 _ 1) x9
    rw [if_neg (by simp [e'])] at this
    exact this
  have hR : rightB r = true := by simpa using e
  have hw := right_want hR
  have ht := right_text hR
  have hB : reqB r = reqL r := by unfold reqB; rw [if_pos hR]
  rw [hB, if_pos hR] at hk
  refine ldIk c9 rfl (newK fun h13 c13 e13 z13 => newK fun h15 c15 e15 z15 => ?_)
  rw [bv_toNat (n := r.2.1) (by omega) (by omega)] at c13
  refine stsAll c15 rfl rfl fun h16 c16 u16 z16 => ?_
  have hz1 := e9.size
  have c16' := keepB (keepE (keepE c9 e13) e15) u16 (by omega)
  refine ldIk c16' rfl (ldIk c16' rfl (ldIk c16' rfl (ldIk c16' rfl (newK fun h22 c22 e22 z22 => ?_))))
  have c13' : h22[h9.size]? = _ := keepE (keepB (keepE c13 e15) u16 (by omega)) e22
  have hown : Own h22 h9.size ⟨some ⟨h9.size, 0, none⟩, 1, 1⟩ 1 (([UInt8.ofNat r.2.1.toNat] : List UInt8).map bv) := ⟨rfl, Nat.le_refl _, (show 1 < 9223372036854775808 by decide), .inr ⟨h9.size, _, 5, rfl, Nat.le_refl _, c13', rfl, rfl⟩⟩
  have x22 : Ext h h22 := (((x9.trans e13).trans e15).then u16 fun k hk => by omega).trans e22
  refine numbers_spec (base := h9.size) (s0 := ⟨some ⟨h9.size, 0, none⟩, 1, 1⟩) (pre := [UInt8.ofNat r.2.1.toNat]) (ns := [r.1, r.2.2.1, r.2.2.2.1, r.2.2.2.2.2.1]) ⟨⟨_, keepE c16 e22, hown, by simp [Sl.blk]; omega, .inl rfl⟩, Upd.refl _ _⟩
    ⟨rfl, Nat.le_refl _, (show 4 < 9223372036854775808 by decide), .inr ⟨h16.size, 0, rfl, has_block c22 fun i v hi => by simpa using hi⟩⟩ (fun k hk => by simp [Sl.blk] at hk ⊢; omega) (by omega) (by omega) (by simp) fun h23 hw23 => ?_
  obtain ⟨⟨t24, hc24, ho24, hsw24, hblk24⟩, hu23⟩ := hw23
  have hz23 := hu23.size
  have c23 : h23[h.size]? = _ := (hu23.old h.size (by omega) (by simp [Sl.blk]; omega)).trans (keepE c16' e22)
  have x23 : Ext h h23 := x22.then hu23 fun k hk => by
    rcases hk with hk | hk
    · omega
    · simp [Sl.blk] at hk; omega
  have hol := ho24.len
  simp only [List.length_map, Nat.mul_one] at hol
  have hol2 : ([UInt8.ofNat r.2.1.toNat] ++ [r.1, r.2.2.1, r.2.2.2.1, r.2.2.2.2.2.1].flatMap bytes8).length = 33 := rfl
  refine ldLk hc24 rfl (ldSk c23 rfl (ldSk c23 rfl (newK fun h28 c28 e28 z28 => ?_)))
  have c28' := keepE c23 e28
  have w28 := keepE hc24 e28
  refine ⟨⟨(cell_block c28').trans rfl, trivial⟩, ⟨(cell_block c28').trans rfl, trivial⟩, ⟨(cell_block w28).trans rfl, trivial⟩, ?_⟩
  rw [bv_ofNat] at c28
  have hrow : Row h28 ⟨some ⟨h23.size, 0, none⟩, 1, 1⟩ 1 [bv (UInt8.ofNat r.2.2.2.2.1.size)] := ⟨rfl, Nat.le_refl _, (show 1 < 9223372036854775808 by decide), .inr ⟨h23.size, 0, rfl, has_block c28 fun i v hi => by simpa using hi⟩⟩
  refine hrow.rd ?_
  have ho28 := ho24.congr (h' := h28) fun k _ hl _ => e28.old k hl
  refine Own.app ho28 (by simp) rfl rfl (by omega) (by omega) (by omega) fun t29 h30 ho30 hl30 hu30 hblk30 => ?_
  have hne : ∀ k, t24.blk = some k → h.size < k := fun k hk => by have := (ho24.lt hk).1; omega
  have c30 : h30[h.size]? = _ := (hu30.old h.size (by omega) fun he => by have := hne _ he; omega).trans c28'
  refine ⟨⟨(cell_block c30).trans rfl, trivial⟩, ⟨(cell_block c30).trans rfl, trivial⟩, ?_⟩
  have hz30 := hu30.size
  refine Own.app ho30 (by simp [byteVals]) (oneCell_bv _) rfl (by omega) (by omega) (by omega) fun t31 h32 ho32 hl32 hu32 hblk32 => ?_
  have hne2 : ∀ k, t29.blk = some k → h.size < k := fun k hk => by have := (ho30.lt hk).1; omega
  have c32 : h32[h.size]? = _ := (hu32.old h.size (by omega) fun he => by have := hne2 _ he; omega).trans c30
  refine ⟨⟨(cell_block c32).trans rfl, trivial⟩, bindI_intro (hk _ h32 ?_ ?_)⟩
  · refine Own.base ?_ (by omega : h.size ≤ h9.size)
    unfold reqL
    rw [List.map_append, List.map_append]
    exact ho32
  · exact ((x23.trans e28).then hu30 fun k hk => by have := hne k hk; omega).then hu32 fun k hk => by have := hne2 k hk; omega

theorem Answer_spec {r : An} {K : Sl → Int → Heap → Prop} {h : Heap}
    (hk : ∀ out h', Own h' h.size out 1 ((ansB r).map bv) → Ext h h' → K out (if rightA r then 0 else 6) h') : m_proto_Answer r K h := by
  unfold m_proto_Answer g_proto_Answer
  refine newK fun h1 c1 e1 z1 => bindI_intro ?_
  refine ldIk c1 rfl (ldIk c1 rfl (ldIk c1 rfl (ldIk c1 rfl (ldIk c1 rfl ?_))))
  refine RightA_spec (a := r) fun h9 e9 => ?_
  have c9 := keepE c1 e9
  have x9 := e1.trans e9
  have zz9 := x9.size
  refine ⟨fun e => bindI_intro ?_, fun e => ?_⟩
  · have e' : rightA r = false := by simpa using e
    have := hk ⟨none, 0, 0⟩ h9 (by unfold ansB; rw [if_neg (by simp [e'])]; exact Own.nil h9 _ 1) x9
    rw [if_neg (by simp [e'])] at this
    exact this
  have hR : rightA r = true := by simpa using e
  have hw : 1 ≤ r.2.1 ∧ r.2.1 ≤ 8 := by
    unfold rightA at hR
    simp only [Bool.and_eq_true, decide_eq_true_eq] at hR
    omega
  have hB : ansB r = ansL r := by unfold ansB; rw [if_pos hR]
  rw [hB, if_pos hR] at hk
  refine ldIk c9 rfl (newK fun h13 c13 e13 z13 => newK fun h15 c15 e15 z15 => ?_)
  rw [bv_toNat (n := r.2.1) (by omega) (by omega)] at c13
  refine stsAll c15 rfl rfl fun h16 c16 u16 z16 => ?_
  have hz1 := e9.size
  have c16' := keepB (keepE (keepE c9 e13) e15) u16 (by omega)
  refine ldIk c16' rfl (ldIk c16' rfl (ldIk c16' rfl (ldIk c16' rfl (newK fun h22 c22 e22 z22 => ?_))))
  have c13' : h22[h9.size]? = _ := keepE (keepB (keepE c13 e15) u16 (by omega)) e22
  have hown : Own h22 h9.size ⟨some ⟨h9.size, 0, none⟩, 1, 1⟩ 1 (([UInt8.ofNat r.2.1.toNat] : List UInt8).map bv) := ⟨rfl, Nat.le_refl _, (show 1 < 9223372036854775808 by decide), .inr ⟨h9.size, _, 5, rfl, Nat.le_refl _, c13', rfl, rfl⟩⟩
  have x22 : Ext h h22 := (((x9.trans e13).trans e15).then u16 fun k hk => by omega).trans e22
  refine numbers_spec (base := h9.size) (s0 := ⟨some ⟨h9.size, 0, none⟩, 1, 1⟩) (pre := [UInt8.ofNat r.2.1.toNat]) (ns := [r.1, r.2.2.1, r.2.2.2.1, r.2.2.2.2.1]) ⟨⟨_, keepE c16 e22, hown, by simp [Sl.blk]; omega, .inl rfl⟩, Upd.refl _ _⟩
    ⟨rfl, Nat.le_refl _, (show 4 < 9223372036854775808 by decide), .inr ⟨h16.size, 0, rfl, has_block c22 fun i v hi => by simpa using hi⟩⟩ (fun k hk => by simp [Sl.blk] at hk ⊢; omega) (by omega) (by omega) (by simp) fun h23 hw23 => ?_
  obtain ⟨⟨t24, hc24, ho24, hsw24, hblk24⟩, hu23⟩ := hw23
  have x23 : Ext h h23 := x22.then hu23 fun k hk => by
    rcases hk with hk | hk
    · omega
    · simp [Sl.blk] at hk; omega
  refine ldLk hc24 rfl (bindI_intro (hk _ h23 (Own.base ?_ (by omega : h.size ≤ h9.size)) x23))
  exact ho24

end Go.Proofs.Ytcgpdmlopbnpcaa
