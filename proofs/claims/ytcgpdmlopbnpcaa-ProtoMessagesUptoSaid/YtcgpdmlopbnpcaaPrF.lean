/- There and back: what is read of a request's bytes; and bytes of what was read. Plain laws. -/
import Derived.Test.YtcgpdmlopbnpcaaPrE
namespace Go.Proofs.Ytcgpdmlopbnpcaa
open Go Go.Fw

theorem byteAt_nat (n : Nat) (s : Nat) : byteAt (n : Int) s = UInt8.ofNat (n / 2 ^ s) := by
  unfold byteAt
  have e : ((n : Int) / 2 ^ s) % 256 = ((n / 2 ^ s % 256 : Nat) : Int) := by
    have : ((2 : Int) ^ s) = ((2 ^ s : Nat) : Int) := by simp
    rw [this]
    rfl
  rw [e, Int.toNat_natCast]
  apply UInt8.toNat_inj.1
  simp

theorem be_bytes8 (n : Nat) (h : n < 18446744073709551616) : be (bytes8 (n : Int)) = n := by
  unfold bytes8 be
  simp only [byteAt_nat, List.foldl_cons, List.foldl_nil, UInt8.toNat_ofNat']
  omega

theorem numV_bytes8 {n : Int} (h0 : 0 ≤ n) (h1 : n < 9223372036854775808) : numV (bytes8 n) = n := by
  obtain ⟨m, rfl⟩ := Int.eq_ofNat_of_zero_le h0
  unfold numV
  rw [be_bytes8 m (by omega)]
  exact wrap64 (by omega) (by omega)

theorem bytes8_be (l : List UInt8) (h : l.length = 8) : bytes8 (be l : Int) = l := by
  match l, h with
  | [a, b, c, d, e, f, g, i], _ =>
    have ha := a.toNat_lt
    have hb := b.toNat_lt
    have hc := c.toNat_lt
    have hd := d.toNat_lt
    have he := e.toNat_lt
    have hf := f.toNat_lt
    have hg := g.toNat_lt
    have hi := i.toNat_lt
    unfold bytes8
    simp only [byteAt_nat]
    have hbe : be [a, b, c, d, e, f, g, i] = ((((((a.toNat * 256 + b.toNat) * 256 + c.toNat) * 256 + d.toNat) * 256 + e.toNat) * 256 + f.toNat) * 256 + g.toNat) * 256 + i.toNat := by
      unfold be
      simp
    rw [hbe]
    have key : ∀ (x : UInt8) (N s : Nat), N / 2 ^ s % 256 = x.toNat → UInt8.ofNat (N / 2 ^ s) = x := fun x N s h => by
      apply UInt8.toNat_inj.1
      simpa using h
    rw [key a _ 56 (by omega), key b _ 48 (by omega), key c _ 40 (by omega), key d _ 32 (by omega), key e _ 24 (by omega), key f _ 16 (by omega), key g _ 8 (by omega), key i _ 0 (by omega)]

theorem bytes8_numV {l : List UInt8} (h : l.length = 8) (h0 : 0 ≤ numV l) : bytes8 (numV l) = l := by
  have hlt := be_lt8 (l := l) (by omega)
  have : numV l = (be l : Int) := by
    unfold numV at h0 ⊢
    rw [wrap64_eq] at h0 ⊢
    have e : (be l : Int) % 18446744073709551616 = be l := by omega
    rw [e] at h0 ⊢
    split at h0 <;> split <;> omega
  rw [this, bytes8_be l h]

theorem inB_spec {n lo hi : Int} (h : inB n lo hi = true) : lo ≤ n ∧ n ≤ hi := by
  unfold inB at h
  simp only [Bool.and_eq_true, decide_eq_true_eq] at h
  omega

/-- what may be lies within -/
theorem right_range {r : Rq} (h : rightB r = true) : (0 ≤ r.1 ∧ r.1 ≤ 2147483647) ∧ (0 ≤ r.2.2.1 ∧ r.2.2.1 ≤ 1099511627776) ∧ (0 ≤ r.2.2.2.1 ∧ r.2.2.2.1 ≤ 1099511627776) ∧ (0 ≤ r.2.2.2.2.2.1 ∧ r.2.2.2.2.2.1 ≤ 2147483647) := by
  unfold rightB at h
  rw [Bool.and_eq_true] at h
  obtain ⟨h1, h2⟩ := h
  have hid := inB_spec h1
  refine ⟨hid, ?_⟩
  have flow : flowB r = true → (0 ≤ r.2.2.1 ∧ r.2.2.1 ≤ 1099511627776) ∧ (0 ≤ r.2.2.2.1 ∧ r.2.2.2.1 ≤ 1099511627776) := fun hf => by
    unfold flowB at hf
    rw [Bool.and_eq_true] at hf
    have a := inB_spec hf.1
    have b := inB_spec hf.2
    omega
  have bare : bareB r = true → (0 ≤ r.2.2.1 ∧ r.2.2.1 ≤ 1099511627776) ∧ (0 ≤ r.2.2.2.1 ∧ r.2.2.2.1 ≤ 1099511627776) := fun hf => by
    unfold bareB at hf
    simp only [Bool.and_eq_true, beq_iff_eq] at hf
    omega
  generalize hc1 : (r.2.1 == 1 || r.2.1 == 3) = c1 at h2
  cases c1 with
  | true =>
    simp only [cond_true, Bool.and_eq_true, beq_iff_eq] at h2
    exact ⟨(flow h2.1.1).1, (flow h2.1.1).2, by omega⟩
  | false =>
    simp only [cond_false] at h2
    generalize hc2 : (r.2.1 == 2) = c2 at h2
    cases c2 with
    | true =>
      simp only [cond_true, Bool.and_eq_true, beq_iff_eq] at h2
      exact ⟨(flow h2.1.1).1, (flow h2.1.1).2, by omega⟩
    | false =>
      simp only [cond_false] at h2
      generalize hc3 : (r.2.1 == 4) = c3 at h2
      cases c3 with
      | true =>
        simp only [cond_true, Bool.and_eq_true] at h2
        have := inB_spec h2.1.2
        exact ⟨(bare h2.1.1).1, (bare h2.1.1).2, by omega⟩
      | false =>
        simp only [cond_false] at h2
        generalize hc4 : (r.2.1 == 5) = c4 at h2
        cases c4 with
        | true =>
          simp only [cond_true, Bool.and_eq_true, beq_iff_eq] at h2
          exact ⟨(bare h2.1.1).1, (bare h2.1.1).2, by omega⟩
        | false => cases h2

theorem numV_one (x : UInt8) : numV [x] = (x.toNat : Int) := by
  have := x.toNat_lt
  have e2 : be [x] = x.toNat := by unfold be; simp
  unfold numV
  rw [e2]
  exact wrap64 (by omega) (by omega)

theorem read_req {r : Rq} (h : rightB r = true) : readR (reqL r) = (r, 0, 0) := by
  obtain ⟨g1, g2, g3, g4⟩ := right_range h
  have hw := right_want h
  have ht := right_text h
  obtain ⟨id, want, flow, count, text, token, u⟩ := r
  dsimp only at g1 g2 g3 g4 hw ht
  have hsz : text.data.toList.length = text.size := by simp
  have hL : reqL (id, want, flow, count, text, token, u) = UInt8.ofNat want.toNat :: (bytes8 id ++ (bytes8 flow ++ (bytes8 count ++ (bytes8 token ++ (UInt8.ofNat text.size :: text.data.toList))))) := by
    unfold reqL
    simp
  have hlen : (reqL (id, want, flow, count, text, token, u)).length = 34 + text.size := by
    rw [hL]
    simp only [List.length_cons, List.length_append, hsz]
    show 8 + (8 + (8 + (8 + (text.size + 1)))) + 1 = _
    omega
  have h33 : (reqL (id, want, flow, count, text, token, u)).getD 33 0 = UInt8.ofNat text.size := by rw [hL]; rfl
  have htl : tl (reqL (id, want, flow, count, text, token, u)) = text.size := by
    unfold tl
    rw [if_pos (by omega), h33]
    simp
    omega
  have e1 : numR (reqL (id, want, flow, count, text, token, u)) 1 8 = id := by
    unfold numR
    rw [if_pos (by omega)]
    have : ((reqL (id, want, flow, count, text, token, u)).drop 1).take 8 = bytes8 id := by rw [hL]; rfl
    rw [this]
    exact numV_bytes8 (by omega) (by omega)
  have e2 : numR (reqL (id, want, flow, count, text, token, u)) 9 8 = flow := by
    unfold numR
    rw [if_pos (by omega)]
    have : ((reqL (id, want, flow, count, text, token, u)).drop 9).take 8 = bytes8 flow := by rw [hL]; rfl
    rw [this]
    exact numV_bytes8 (by omega) (by omega)
  have e3 : numR (reqL (id, want, flow, count, text, token, u)) 17 8 = count := by
    unfold numR
    rw [if_pos (by omega)]
    have : ((reqL (id, want, flow, count, text, token, u)).drop 17).take 8 = bytes8 count := by rw [hL]; rfl
    rw [this]
    exact numV_bytes8 (by omega) (by omega)
  have e4 : numR (reqL (id, want, flow, count, text, token, u)) 25 8 = token := by
    unfold numR
    rw [if_pos (by omega)]
    have : ((reqL (id, want, flow, count, text, token, u)).drop 25).take 8 = bytes8 token := by rw [hL]; rfl
    rw [this]
    exact numV_bytes8 (by omega) (by omega)
  have e5 : IntKind.wrap .u8 (numR (reqL (id, want, flow, count, text, token, u)) 0 1) = want := by
    rw [numR_b0 (x := UInt8.ofNat want.toNat) (by rw [hL]; rfl)]
    simp
    omega
  have e6 : textR (reqL (id, want, flow, count, text, token, u)) = text := by
    unfold textR
    rw [htl, if_pos (by omega)]
    have : (reqL (id, want, flow, count, text, token, u)).drop 34 = text.data.toList := by rw [hL]; rfl
    rw [this, List.take_of_length_le (by omega)]
  have hf : fieldsR (reqL (id, want, flow, count, text, token, u)) = (id, want, flow, count, text, token, u) := by
    unfold fieldsR
    rw [e1, e2, e3, e4, e5, e6]
  unfold readR
  have herr : errR (reqL (id, want, flow, count, text, token, u)) = (0, 0) := by
    unfold errR
    rw [htl, hlen, hf, h]
    simp
  rw [herr, hf]
  simp

theorem answer_range {a : An} (h : rightA a = true) : (0 ≤ a.1 ∧ a.1 ≤ 2147483647) ∧ (1 ≤ a.2.1 ∧ a.2.1 ≤ 8) ∧ (0 ≤ a.2.2.1 ∧ a.2.2.1 ≤ 1099511627776) ∧ (0 ≤ a.2.2.2.1 ∧ a.2.2.2.1 ≤ 1099511627776) ∧ (0 ≤ a.2.2.2.2.1 ∧ a.2.2.2.2.1 ≤ 2147483647) := by
  unfold rightA at h
  simp only [Bool.and_eq_true, decide_eq_true_eq] at h
  have h1 := inB_spec h.1
  have h2 := inB_spec h.2.2.2.1
  have h3 := inB_spec h.2.2.2.2.1
  have h4 := inB_spec h.2.2.2.2.2
  omega

theorem read_ans {r : An} (h : rightA r = true) : readA (ansL r) = (r, 0, 0) := by
  obtain ⟨g1, hw, g2, g3, g4⟩ := answer_range h
  obtain ⟨id, want, flow, count, token, u⟩ := r
  dsimp only at g1 g2 g3 g4 hw
  have hL : ansL (id, want, flow, count, token, u) = UInt8.ofNat want.toNat :: (bytes8 id ++ (bytes8 flow ++ (bytes8 count ++ bytes8 token))) := by
    unfold ansL
    simp
  have hlen : (ansL (id, want, flow, count, token, u)).length = 33 := by
    rw [hL]; rfl
  have e1 : numR (ansL (id, want, flow, count, token, u)) 1 8 = id := by
    unfold numR
    rw [if_pos (by omega)]
    have : ((ansL (id, want, flow, count, token, u)).drop 1).take 8 = bytes8 id := by rw [hL]; rfl
    rw [this]
    exact numV_bytes8 (by omega) (by omega)
  have e2 : numR (ansL (id, want, flow, count, token, u)) 9 8 = flow := by
    unfold numR
    rw [if_pos (by omega)]
    have : ((ansL (id, want, flow, count, token, u)).drop 9).take 8 = bytes8 flow := by rw [hL]; rfl
    rw [this]
    exact numV_bytes8 (by omega) (by omega)
  have e3 : numR (ansL (id, want, flow, count, token, u)) 17 8 = count := by
    unfold numR
    rw [if_pos (by omega)]
    have : ((ansL (id, want, flow, count, token, u)).drop 17).take 8 = bytes8 count := by rw [hL]; rfl
    rw [this]
    exact numV_bytes8 (by omega) (by omega)
  have e4 : numR (ansL (id, want, flow, count, token, u)) 25 8 = token := by
    unfold numR
    rw [if_pos (by omega)]
    have : ((ansL (id, want, flow, count, token, u)).drop 25).take 8 = bytes8 token := by rw [hL]; rfl
    rw [this]
    exact numV_bytes8 (by omega) (by omega)
  have e5 : IntKind.wrap .u8 (numR (ansL (id, want, flow, count, token, u)) 0 1) = want := by
    rw [numR_b0 (x := UInt8.ofNat want.toNat) (by rw [hL]; rfl)]
    simp
    omega
  have hf : fieldsA (ansL (id, want, flow, count, token, u)) = (id, want, flow, count, token, u) := by
    unfold fieldsA
    rw [e1, e2, e3, e4, e5]
  unfold readA
  have herr : errA (ansL (id, want, flow, count, token, u)) = (0, 0) := by
    unfold errA
    rw [hlen, hf, h]
    simp
  rw [herr, hf]
  simp

/-- bytes that are read are those that are written -/
theorem req_read {lb : List UInt8} (h : (readR lb).2.1 = 0) : rightB (readR lb).1 = true ∧ reqL (readR lb).1 = lb := by
  unfold readR at h ⊢
  by_cases hE : (errR lb).1 ≠ 0
  · rw [if_pos hE] at h
    exact absurd h hE
  · rw [if_neg hE]
    have hE' : (errR lb).1 = 0 := by simpa using hE
    unfold errR at hE'
    dsimp only at hE'
    have hL1 : ¬ lb.length < 34 + tl lb := by intro hc; rw [if_pos hc] at hE'; cases hE'
    rw [if_neg hL1] at hE'
    have hL2 : ¬ 34 + tl lb < lb.length := by intro hc; rw [if_pos hc] at hE'; cases hE'
    rw [if_neg hL2] at hE'
    have hR : rightB (fieldsR lb) = true := by
      cases hc : rightB (fieldsR lb) with
      | true => rfl
      | false => rw [hc] at hE'; simp at hE'
    refine ⟨hR, ?_⟩
    have hL : lb.length = 34 + tl lb := by omega
    obtain ⟨g1, g2, g3, g4⟩ := right_range hR
    have hx0 : lb[0]? = some lb[0] := List.getElem?_eq_getElem (by omega)
    have hx33 : lb[33]? = some lb[33] := List.getElem?_eq_getElem (by omega)
    have hw : IntKind.wrap .u8 (numR lb 0 1) = (lb[0].toNat : Int) := numR_b0 hx0
    have htl : tl lb = lb[33].toNat := by
      unfold tl
      rw [if_pos (by omega), List.getD_eq_getElem?_getD, hx33]
      rfl
    have nn : ∀ t, t + 8 ≤ 33 → 0 ≤ numR lb t 8 → bytes8 (numR lb t 8) = (lb.drop t).take 8 := fun t ht h0 => by
      have e : numR lb t 8 = numV ((lb.drop t).take 8) := by unfold numR; rw [if_pos (by omega)]
      rw [e] at h0 ⊢
      exact bytes8_numV (by simp; omega) h0
    have b1 := nn 1 (by omega) g1.1
    have b2 := nn 9 (by omega) g2.1
    have b3 := nn 17 (by omega) g3.1
    have b4 := nn 25 (by omega) g4.1
    have ht : textR lb = ⟨(lb.drop 34).toArray⟩ := by
      unfold textR
      rw [if_pos (by omega), List.take_of_length_le (by simp; omega)]
    have e0 : UInt8.ofNat (fieldsR lb).2.1.toNat = lb[0] := by
      show UInt8.ofNat (IntKind.wrap .u8 (numR lb 0 1)).toNat = lb[0]
      rw [hw, Int.toNat_natCast]
      apply UInt8.toNat_inj.1
      simp
    have e33 : UInt8.ofNat (fieldsR lb).2.2.2.2.1.size = lb[33] := by
      show UInt8.ofNat (textR lb).size = lb[33]
      have : (textR lb).size = lb[33].toNat := by
        rw [ht]
        show (lb.drop 34).toArray.size = _
        simp
        omega
      rw [this]
      apply UInt8.toNat_inj.1
      simp
    have et : (fieldsR lb).2.2.2.2.1.data.toList = lb.drop 34 := by
      show (textR lb).data.toList = _
      rw [ht]
    unfold reqL
    rw [e0, e33, et]
    have ef : [(fieldsR lb).1, (fieldsR lb).2.2.1, (fieldsR lb).2.2.2.1, (fieldsR lb).2.2.2.2.2.1].flatMap bytes8 = (lb.drop 1).take 32 := by
      show [numR lb 1 8, numR lb 9 8, numR lb 17 8, numR lb 25 8].flatMap bytes8 = _
      simp only [List.flatMap_cons, List.flatMap_nil, List.append_nil, b1, b2, b3, b4]
      have s1 : (lb.drop 1).take 32 = (lb.drop 1).take 8 ++ ((lb.drop 9).take 24) := by
        rw [show (32 : Nat) = 8 + 24 from rfl, List.take_add, List.drop_drop]
      have s2 : (lb.drop 9).take 24 = (lb.drop 9).take 8 ++ ((lb.drop 17).take 16) := by
        rw [show (24 : Nat) = 8 + 16 from rfl, List.take_add, List.drop_drop]
      have s3 : (lb.drop 17).take 16 = (lb.drop 17).take 8 ++ ((lb.drop 25).take 8) := by
        rw [show (16 : Nat) = 8 + 8 from rfl, List.take_add, List.drop_drop]
      rw [s1, s2, s3]
    rw [ef]
    have t0 : lb = [lb[0]] ++ lb.drop 1 := by
      rw [List.singleton_append]
      exact (List.getElem_cons_drop (by omega : 0 < lb.length)).symm
    have t1 : lb.drop 1 = (lb.drop 1).take 32 ++ lb.drop 33 := by
      have := List.take_append_drop 32 (lb.drop 1)
      rw [List.drop_drop] at this
      exact this.symm
    have t2 : lb.drop 33 = [lb[33]] ++ lb.drop 34 := by
      rw [List.singleton_append]
      exact (List.getElem_cons_drop (by omega : 33 < lb.length)).symm
    calc [lb[0]] ++ (lb.drop 1).take 32 ++ [lb[33]] ++ lb.drop 34 = [lb[0]] ++ ((lb.drop 1).take 32 ++ ([lb[33]] ++ lb.drop 34)) := by simp
      _ = lb := by rw [← t2, ← t1, ← t0]

end Go.Proofs.Ytcgpdmlopbnpcaa
