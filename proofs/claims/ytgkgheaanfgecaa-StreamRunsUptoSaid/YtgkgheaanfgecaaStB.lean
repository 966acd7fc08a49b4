/- A network's calls: at, Write, Move, Read, Shut. -/
import Derived.Test.YtgkgheaanfgecaaStA
namespace Go.Proofs.Ytgkgheaanfgecaa
open Go Go.Fw

theorem Clone_spec {b : Sl} {l : List UInt8} {h : Heap} {K : Sl → Heap → Prop} (hb : Bytes h b l) (hsz : l.length ≤ 1099511627776)
    (hk : ∀ s h', Own h' h.size s 1 (l.map bv) → Ext h h' → K s h') : m_slices_Clone_byte_byte_ b K h := by
  unfold m_slices_Clone_byte_byte_ g_slices_Clone_byte_byte_
  have hlen := Bytes.length hb
  cases hp : b.ptr with
  | none =>
    refine iteP_true ?_
    have : l = [] := by
      rcases hb.at_ with h0 | ⟨bb, o, hp', _⟩
      · exact List.eq_nil_of_length_eq_zero (by omega)
      · rw [hp] at hp'; cases hp'
    subst this
    exact hk _ _ (Own.nil h h.size 1) (Ext.refl h)
  | some a =>
    refine iteP_false ?_
    have hext := Ext.push h (.cells #[] 5)
    refine newC_intro ((hb.ext hext).rd ?_)
    have ho := Own.newC (h := h) (cells := []) (t := 5) (size := 1) (n := 0) rfl (by decide)
    refine Own.app ho (by simp [hlen]) (by simp [List.all_map, Function.comp_def, bv, oneCell]) rfl (by simp [hlen]; omega) (by simp [hlen]; omega) (by simp) ?_
    intro s' h' ho' hl' hu hblk
    refine hk s' h' (by simpa using ho') (hext.then hu ?_)
    intro k hk
    simp [Sl.blk] at hk
    omega

/-! ### the slots -/
theorem idxQ {h : Heap} {T : Nat → Option Nat} {nb mb : Nat} {s : Sl} {ps : Int → Bool} {qs : List Q} (hn : NetR h T nb mb s ps qs) {i : Nat} {q : Q} (hq : qs[i]? = some q) {k : Int} (hi : k = (i : Int)) {K : Nat → Nat → Prop}
    (hk : ∀ b, s.blk = some b → K b (i * 8)) : idxA s.ptr s.len k 8 K := by
  subst hi
  have hl := hn.row.len
  rw [flat_len qC_len] at hl
  have hlt : i < qs.length := by
    rcases Nat.lt_or_ge i qs.length with h9 | h9
    · exact h9
    · rw [List.getElem?_eq_none h9] at hq; cases hq
  obtain ⟨b, hp, hb⟩ := Own.ptr_ hn.row (o := 0) (by rw [flat_len qC_len]; omega)
  refine ⟨b, 0, hp, by omega, by omega, ?_⟩
  have e : 0 + (i : Int).toNat * 8 = i * 8 := by omega
  rw [e]
  exact hk b hb
theorem NetR.cell {h : Heap} {T : Nat → Option Nat} {nb mb : Nat} {s : Sl} {ps : Int → Bool} {qs : List Q} (hn : NetR h T nb mb s ps qs) {i : Nat} {q : Q} (hq : qs[i]? = some q) {b m : Nat} (hb : s.blk = some b) {v : Value} (hm : m < 8) (hv : (qC q)[m]? = some v) : h.cell b (i * 8 + m) = some v :=
  Own.cell_ hn.row hb (by rw [flat_get qC_len qs i m q hq hm]; exact hv)
theorem NetR.length {h : Heap} {T : Nat → Option Nat} {nb mb : Nat} {s : Sl} {ps : Int → Bool} {qs : List Q} (hn : NetR h T nb mb s ps qs) : s.len = qs.length := by
  have hl := hn.row.len
  rw [flat_len qC_len] at hl
  omega

/-- one slot's row is another one's: its block is written, or a new one -/
theorem NetR.setRow {h h1 : Heap} {T : Nat → Option Nat} {nb mb : Nat} {s : Sl} {ps : Int → Bool} {qs : List Q} (hn : NetR h T nb mb s ps qs) {i : Nat} {q : Q} (hq : qs[i]? = some q) {e c : Nat} (he : e < 2) (hc : c < 2) {x : Sl} {l : List UInt8}
    (hx : Own h1 0 x 1 (l.map bv)) (hnew : ∀ k, x.blk = some k → T k = some (4 * i + 3 + 2 * e + c) ∨ h.size ≤ k) (hu : Upd (fun k => T k = some (4 * i + 3 + 2 * e + c)) h h1) {b : Nat} (hb : s.blk = some b) {K : Heap → Prop}
    (hfin : ∀ h2 T', NetR h2 T' nb mb s ps (qs.set i (Q.put q e c x l)) → Stp T T' h h2 → (∀ k, x.blk ≠ some k → T' k = T k) → Upd (· = b) h1 h2 → K h2) : st h1 b (i * 8 + (e * 3 + c)) (slV x) K := by
  have hT0 : ∀ k, h.size ≤ k → T k = none := fun k hk => by
    rcases hT : T k with _ | t
    · rfl
    · have := hn.lt k (by rw [hT]; simp); omega
  have ne2 : ∀ {k : Nat}, T k = some 2 → ¬ T k = some (4 * i + 3 + 2 * e + c) := fun {k} h1 h2 => by
    rw [h1] at h2
    simp only [Option.some.injEq] at h2
    omega
  have hrow1 := hn.row.congr (h' := h1) fun k hk hl _ => hu.old k hl (ne2 (hn.tr k hk))
  have hlt : i < qs.length := by
    rcases Nat.lt_or_ge i qs.length with h9 | h9
    · exact h9
    · rw [List.getElem?_eq_none h9] at hq; cases hq
  have hm : e * 3 + c < 8 := by omega
  refine Own.stCell hrow1 hb (by rw [flat_len qC_len]; omega) rfl fun h2 o2 u2 z2 => ?_
  rw [flat_set qC_len qs i _ _ q (Q.put q e c x l) hq hm (qC_put q he hc x l)] at o2
  have u2' : Upd (· = b) h1 h2 := u2.mono fun k _ hk => by rw [hb] at hk; exact (Option.some.inj hk).symm
  have hbT : T b = some 2 := hn.tr b hb
  have hblt : b < h.size := hn.lt b (by rw [hbT]; simp)
  have z1 := hu.size
  have old : ∀ k, k < h.size → T k ≠ some (4 * i + 3 + 2 * e + c) → k ≠ b → h2[k]? = h[k]? := fun k hk h1 h2 => (u2'.old k (by omega) h2).trans (hu.old k hk h1)
  have hT' : ∀ k, T k ≠ none → (if x.blk = some k then some (4 * i + 3 + 2 * e + c) else T k) = T k := fun k hk => by
    split
    · rename_i hx1
      rcases hnew k hx1 with h9 | h9
      · exact h9.symm
      · exact absurd (hT0 k h9) hk
    · rfl
  have move : ∀ {y : Sl} {tag : Nat} {m : List UInt8}, RowT h T y tag m → tag ≠ 4 * i + 3 + 2 * e + c → 2 < tag → RowT h2 (fun k => if x.blk = some k then some (4 * i + 3 + 2 * e + c) else T k) y tag m := fun {y tag m} hy h1 h9 =>
    (hy.congr fun k hk hl => old k hl (by rw [hk]; simp only [ne_eq, Option.some.injEq]; exact h1) (by rintro rfl; rw [hbT] at hk; have := Option.some.inj hk; omega)).tags hT'
  have hxr : RowT h2 (fun k => if x.blk = some k then some (4 * i + 3 + 2 * e + c) else T k) x (4 * i + 3 + 2 * e + c) l :=
    ⟨hx.congr fun k hk hl _ => u2'.old k hl (by
      rintro rfl
      rcases hnew _ hk with h9 | h9
      · exact ne2 hbT h9
      · omega), fun k hk => by simp only [hk, if_true]⟩
  refine hfin h2 (fun k => if x.blk = some k then some (4 * i + 3 + 2 * e + c) else T k) ⟨?_, by show (if _ then _ else _) = _; rw [hT' nb (by rw [hn.tn]; simp)]; exact hn.tn, ?_, by show (if _ then _ else _) = _; rw [hT' mb (by rw [hn.tm]; simp)]; exact hn.tm, o2, fun k hk => ?_, fun i' q' hq' => ?_, fun k hk => ?_⟩ ⟨?_, fun k hk => ?_⟩ (fun k hk => by simp only [hk, if_false]) u2'
  · rw [old nb (blk_lt hn.cells) (by rw [hn.tn]; simp only [ne_eq, Option.some.injEq]; omega) (by rintro rfl; rw [hn.tn] at hbT; cases hbT)]
    exact hn.cells
  · obtain ⟨es, cl, hp, hr⟩ := hn.ports
    exact ⟨es, cl, by rw [old mb (blk_lt hp) (by rw [hn.tm]; simp only [ne_eq, Option.some.injEq]; omega) (by rintro rfl; rw [hn.tm] at hbT; cases hbT)]; exact hp, hr⟩
  · show (if _ then _ else _) = _
    rw [hT' k (by rw [hn.tr k hk]; simp)]
    exact hn.tr k hk
  · by_cases hii : i' = i
    · subst hii
      rw [List.getElem?_set_self hlt] at hq'
      cases hq'
      obtain ⟨a1, a2, a3, a4⟩ := hn.each i' q hq
      rcases two e he with rfl | rfl <;> rcases two c hc with rfl | rfl
      · exact ⟨hxr, move a2 (by omega) (by omega), move a3 (by omega) (by omega), move a4 (by omega) (by omega)⟩
      · exact ⟨move a1 (by omega) (by omega), hxr, move a3 (by omega) (by omega), move a4 (by omega) (by omega)⟩
      · exact ⟨move a1 (by omega) (by omega), move a2 (by omega) (by omega), hxr, move a4 (by omega) (by omega)⟩
      · exact ⟨move a1 (by omega) (by omega), move a2 (by omega) (by omega), move a3 (by omega) (by omega), hxr⟩
    · rw [List.getElem?_set_ne (Ne.symm hii)] at hq'
      obtain ⟨a1, a2, a3, a4⟩ := hn.each i' q' hq'
      exact ⟨move a1 (by omega) (by omega), move a2 (by omega) (by omega), move a3 (by omega) (by omega), move a4 (by omega) (by omega)⟩
  · have z2' : h2.size = h1.size := z2
    by_cases hx1 : x.blk = some k
    · have := (hx.lt hx1).2; omega
    · simp only [hx1, if_false] at hk
      have := hn.lt k hk; omega
  · exact Upd.then (hu.mono fun k _ hk => by show T k ≠ none; rw [hk]; simp) u2' fun k _ hk => by subst hk; show T k ≠ none; rw [hbT]; simp
  · by_cases hx1 : x.blk = some k
    · rcases hnew k hx1 with h9 | h9
      · exact .inl (by rw [h9]; simp)
      · exact .inr h9
    · simp only [hx1, if_false] at hk
      exact .inl hk

/-! ### which connection -/
def errS (cs : List Cn) (k e most : Int) : Int :=
  if k < 1 then 4 else if k > (cs.length : Int) then 4 else if e < 0 then 2 else if e > 1 then 2 else if most < 0 then 2 else match cs[(k - 1).toNat]? with
    | some c => if c.brk then 51 else 0
    | none => 0
abbrev csOf (qs : List Q) : List Cn := qs.map (·.2)

theorem at_spec {h : Heap} {T : Nat → Option Nat} {nb mb : Nat} {s : Sl} {ps : Int → Bool} {qs : List Q} (hn : NetR h T nb mb s ps qs) {k e most : Int} {K : Option Addr → Int → Heap → Prop}
    (h1 : errS (csOf qs) k e most ≠ 0 → K none (errS (csOf qs) k e most) h)
    (h2 : ∀ (i j : Nat) (q : Q) (b : Nat), errS (csOf qs) k e most = 0 → k = (i : Int) + 1 → e = (j : Int) → j < 2 → 0 ≤ most → qs[i]? = some q → s.blk = some b → K (some ⟨b, i * 8, none⟩) 0 h) :
    m_stream_Net_at (some ⟨nb, 0, none⟩) k e most K h := by
  unfold m_stream_Net_at g_stream_Net_at
  have hl := hn.length
  have hcap := hn.row.cap
  have hbig := hn.row.big
  unfold errS at h1 h2
  rw [List.length_map] at h1 h2
  refine bindI_intro (bindB_intro (iteP_false (iteP_dec (fun c1 => bindI_intro ?_) (fun c1 => deref_ (ldLk hn.cells rfl (bindB_intro ?_))))))
  · rw [if_pos c1] at h1; exact h1 (by decide)
  refine iteP_dec (fun c2 => bindI_intro ?_) (fun c2 => iteP_dec (fun c3 => bindI_intro ?_) (fun c3 => iteP_dec (fun c4 => bindI_intro ?_) (fun c4 => bindB_intro (iteP_dec (fun c5 => bindI_intro ?_) (fun c5 => ?_)))))
  · rw [if_neg c1, if_pos (by omega)] at h1; exact h1 (by decide)
  · rw [if_neg c1, if_neg (by omega), if_pos c3] at h1; exact h1 (by decide)
  · rw [if_neg c1, if_neg (by omega), if_neg c3, if_pos c4] at h1; exact h1 (by decide)
  · rw [if_neg c1, if_neg (by omega), if_neg c3, if_neg c4, if_pos c5] at h1; exact h1 (by decide)
  · rw [if_neg c1, if_neg (by omega), if_neg c3, if_neg c4, if_neg c5] at h1 h2
    obtain ⟨i, hi⟩ := Int.eq_ofNat_of_zero_le (show 0 ≤ k - 1 by omega)
    obtain ⟨j, hj⟩ := Int.eq_ofNat_of_zero_le (show 0 ≤ e by omega)
    have hlt : i < qs.length := by omega
    have hq : qs[i]? = some qs[i] := List.getElem?_eq_getElem hlt
    generalize qs[i] = q at hq
    have hcs : (qs.map (·.2))[(k - 1).toNat]? = some q.2 := by rw [hi, Int.toNat_natCast, List.getElem?_map, hq]; rfl
    rw [hcs] at h1 h2
    dsimp only at h1 h2
    rw [wrap64 (n := k - 1) (by omega) (by omega)]
    refine deref_ (ldLk hn.cells rfl (idxQ hn hq hi fun b hb => ⟨_, hn.cell hq hb (m := 7) (by omega) rfl, bindB_intro ⟨fun cb => bindI_intro ?_, fun cb => deref_ (ldLk hn.cells rfl (idxQ hn hq hi fun b hb => bindI_intro ?_))⟩⟩))
    · rw [if_pos cb] at h1; exact h1 (by decide)
    · rw [if_neg (by rw [cb]; simp)] at h2
      exact h2 i j q b rfl (by omega) hj (by omega) (by omega) hq hb

theorem idxN_ {j : Nat} {e : Int} (he : e = (j : Int)) (hj : j < 2) {K : Nat → Prop} (hk : K j) : idxN 2 e K := by
  subst he
  exact ⟨by omega, by omega, by simpa using hk⟩

/-! ### Write -/
def wrI (cs : List Cn) (i j : Nat) (b : List UInt8) : Int × List Cn := match cs[i]? with
  | none => (0, cs)
  | some c => if (c.side j).x then (51, cs) else if (c.side j).way.length + b.length > 65536 then (3, cs) else (0, cs.set i (c.putS j ((c.side j).put 0 ((c.side j).way ++ b))))
def wrS (cs : List Cn) (k e : Int) (b : List UInt8) : Int × List Cn := if errS cs k e 0 ≠ 0 then (errS cs k e 0, cs) else wrI cs (k - 1).toNat e.toNat b

theorem Upd.of_blk {T : Nat → Option Nat} {h h' : Heap} {x : Sl} {tag : Nat} {l : List UInt8} (hr : RowT h T x tag l) (hu : Upd (fun k => x.blk = some k) h h') : Upd (fun k => T k = some tag) h h' := hu.mono fun k _ hk => hr.tag k hk

theorem Write_spec {h : Heap} {T : Nat → Option Nat} {nb : Nat} {ps : Int → Bool} {cs : List Cn} (hn : Net h T nb ps cs) {k e : Int} {b : Sl} {l : List UInt8} (hb : Bytes h b l) (hb2 : l.length ≤ 1099511627776) (hw : ∀ c j, c ∈ cs → j < 2 → (c.side j).way.length ≤ 65536) {K : Int → Heap → Prop}
    (hk : ∀ h' T', Net h' T' nb ps (wrS cs k e l).2 → Stp T T' h h' → K (wrS cs k e l).1 h') : m_stream_Net_Write (some ⟨nb, 0, none⟩) k e b K h := by
  obtain ⟨mb, s, qs, hn, rfl⟩ := hn
  unfold m_stream_Net_Write g_stream_Net_Write
  unfold wrS at hk
  have hbl := Bytes.length hb
  have hbc := hb.cap
  have hbb := hb.big
  refine bindI_intro (at_spec hn (fun he => bindI_intro (iteP_pos (by simpa using he) (bindI_intro ?_))) (fun i j q b' he hk' hj hj2 _ hq hb' => bindI_intro (iteP_neg rfl ?_)))
  · rw [if_pos he] at hk
    exact hk h T ⟨mb, s, qs, hn, rfl⟩ (Stp.refl _ _)
  · rw [if_neg (by rw [he]; simp)] at hk
    have ei : (k - 1).toNat = i := by omega
    have ej : e.toNat = j := by omega
    rw [ei, ej] at hk
    unfold wrI at hk
    have hcs : (qs.map (·.2))[i]? = some q.2 := by rw [List.getElem?_map, hq]; rfl
    rw [hcs] at hk
    dsimp only at hk
    have hqr := (hn.each i q hq).get hj2 (c := 0) (by omega)
    have hway := hw q.2 j (List.mem_map.2 ⟨q, List.mem_of_getElem? hq, rfl⟩) hj2
    have hrl : (q.1.get j 0).len = (q.2.side j).way.length := Bytes.length hqr.own.row
    refine deref_ (idxN_ hj hj2 ⟨_, by rw [Nat.add_assoc]; exact hn.cell hq hb' (by omega) (qC_shut q hj2), bindB_intro ⟨fun cx => bindI_intro ?_, fun cx => ?_⟩⟩)
    · rw [if_pos cx] at hk
      exact hk h T ⟨mb, s, qs, hn, rfl⟩ (Stp.refl _ _)
    · rw [if_neg (by rw [cx]; simp)] at hk
      have hc0 := hn.cell hq hb' (m := j * 3 + 0) (by omega) (qC_get q hj2 (by omega : 0 < 2))
      refine ⟨q.1.get j 0, hc0, ?_⟩
      dsimp only
      by_cases hbig2 : (q.2.side j).way.length + l.length > 65536
      · rw [wrap64 (by omega) (by omega)]
        refine bindB_intro (iteP_pos (decide_eq_true (by omega)) (bindI_intro ?_))
        rw [if_pos hbig2] at hk
        exact hk h T ⟨mb, s, qs, hn, rfl⟩ (Stp.refl _ _)
      · rw [wrap64 (by omega) (by omega)]
        refine bindB_intro (iteP_neg (decide_eq_false (by omega)) ⟨q.1.get j 0, hc0, ?_⟩)
        rw [if_neg hbig2] at hk
        refine hb.rd (Own.app hqr.own (by simp [hbl]) (by simp [List.all_map, Function.comp_def, bv, oneCell]) rfl (by omega) (by omega) (Nat.zero_le _) fun x h14 ho hl hu hblk => ?_)
        rw [← List.map_append] at ho
        refine hn.setRow hq hj2 (c := 0) (by omega) ho (fun k hk => ?_) (Upd.of_blk hqr hu) hb' fun h2 T' hn2 hst _ _ => bindI_intro ?_
        · rcases hblk with e1 | e1
          · rw [e1] at hk; exact .inl (hqr.tag k hk)
          · rw [e1] at hk; exact .inr (by have := Option.some.inj hk; omega)
        · refine hk h2 T' ⟨mb, s, _, hn2, ?_⟩ hst
          rw [List.map_set]
          rfl

end Go.Proofs.Ytgkgheaanfgecaa
