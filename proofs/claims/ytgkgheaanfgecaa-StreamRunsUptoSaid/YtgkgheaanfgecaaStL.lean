/- The reference's network: New, ports, place, Listen, Stop, Conns, Dial. -/
import Derived.Test.YtgkgheaanfgecaaStK
namespace Go.Proofs.Ytgkgheaanfgecaa
open Go Go.Fw

/-! ### the two rows of a network change -/
theorem RefR.setOpen {h h1 : Heap} {T : Nat → Option Nat} {Z : Nat → Prop} {rb : Nat} {so so' sc : Sl} {op op' : List Int} {qs : List Q} (hn : RefR h T Z rb so sc op qs) (ho : Own h1 0 so' 1 (op'.map iv)) (hu : Upd (fun k => T k = some 1) h h1)
    (hnew : ∀ k, so'.blk = some k → T k = some 1 ∨ h.size ≤ k) {K : Heap → Prop} (hfin : ∀ h2 T', RefR h2 T' Z rb so' sc op' qs → Stz T Z T' Z h h2 → K h2) : st h1 rb 0 (slV so') K := by
  have hT0 : ∀ k, h.size ≤ k → T k = none := fun k hk => none_new hn.lt hk
  have hrl := blk_lt hn.cells
  have hc1 : h1[rb]? = some (.cells #[slV so, slV sc] 74 (0, 0)) := by rw [hu.old rb hrl (by rw [hn.tn]; simp)]; exact hn.cells
  have z1 := hu.size
  refine put2 hc1 (by simp) rfl fun h2 c2 u2 z2 => ?_
  have hT' : ∀ k, T k ≠ none → (if so'.blk = some k then some 1 else T k) = T k := fun k hk => by
    split
    · rename_i hx1
      rcases hnew k hx1 with h9 | h9
      · exact h9.symm
      · exact absurd (hT0 k h9) hk
    · rfl
  have old : ∀ k, k < h.size → T k ≠ some 1 → k ≠ rb → h2[k]? = h[k]? := fun k hl h1 h9 => (u2.old k (by omega) h9).trans (hu.old k hl h1)
  refine hfin h2 (fun k => if so'.blk = some k then some 1 else T k) ⟨c2, by show (if _ then _ else _) = _; rw [hT' rb (by rw [hn.tn]; simp)]; exact hn.tn, ho.congr fun k hk hl _ => u2.old k hl ?_, fun k hk => by simp only [hk, if_true],
    hn.row.congr fun k hk hl _ => old k hl (by rw [hn.tr k hk]; simp) (by rintro rfl; have := hn.tr _ hk; rw [hn.tn] at this; cases this), fun k hk => by show (if _ then _ else _) = _; rw [hT' k (by rw [hn.tr k hk]; simp)]; exact hn.tr k hk,
    fun i q hq => (hn.each i q hq).congr (fun k hk hl => old k hl (by rw [hn.dis k hk]; simp) (by rintro rfl; have := hn.dis _ hk; rw [hn.tn] at this; cases this)) fun _ h => h, fun k hk => ?_, fun k hk => by have := hn.ltz k hk; omega, fun k hk => ?_⟩
    ⟨Upd.then (hu.mono fun k _ hk => by show T k ≠ none; rw [hk]; simp) u2 fun k _ hk => by subst hk; show T k ≠ none; rw [hn.tn]; simp, fun k hk => ?_, fun _ h => h, fun _ h => .inl h⟩
  · rintro rfl
    rcases hnew _ hk with h9 | h9
    · rw [hn.tn] at h9; cases h9
    · omega
  · by_cases hx1 : so'.blk = some k
    · have := (ho.lt hx1).2; omega
    · simp only [hx1, if_false] at hk
      have := hn.lt k hk; omega
  · show (if _ then _ else _) = _
    split
    · rename_i hx1
      rcases hnew k hx1 with h9 | h9
      · rw [hn.dis k hk] at h9; cases h9
      · have := hn.ltz k hk; omega
    · exact hn.dis k hk
  · by_cases hx1 : so'.blk = some k
    · rcases hnew k hx1 with h9 | h9
      · exact .inl (by rw [h9]; simp)
      · exact .inr h9
    · simp only [hx1, if_false] at hk
      exact .inl hk

theorem RefR.setConns {h h1 : Heap} {T : Nat → Option Nat} {Z : Nat → Prop} {rb : Nat} {so sc sc' : Sl} {op : List Int} {qs qs' : List Q} (hn : RefR h T Z rb so sc op qs) (ho : Own h1 0 sc' 8 (qs'.flatMap rC)) (hu : Upd (fun k => T k = some 2) h h1)
    (hnew : ∀ k, sc'.blk = some k → T k = some 2 ∨ h.size ≤ k) (hqs : ∀ (i : Nat) (q : Q), qs'[i]? = some q → ZR h Z q) {K : Heap → Prop} (hfin : ∀ h2 T', RefR h2 T' Z rb so sc' op qs' → Stz T Z T' Z h h2 → K h2) : st h1 rb 1 (slV sc') K := by
  have hT0 : ∀ k, h.size ≤ k → T k = none := fun k hk => none_new hn.lt hk
  have hrl := blk_lt hn.cells
  have hc1 : h1[rb]? = some (.cells #[slV so, slV sc] 74 (0, 0)) := by rw [hu.old rb hrl (by rw [hn.tn]; simp)]; exact hn.cells
  have z1 := hu.size
  refine put2 hc1 (by simp) rfl fun h2 c2 u2 z2 => ?_
  have hT' : ∀ k, T k ≠ none → (if sc'.blk = some k then some 2 else T k) = T k := fun k hk => by
    split
    · rename_i hx1
      rcases hnew k hx1 with h9 | h9
      · exact h9.symm
      · exact absurd (hT0 k h9) hk
    · rfl
  have old : ∀ k, k < h.size → T k ≠ some 2 → k ≠ rb → h2[k]? = h[k]? := fun k hl h1 h9 => (u2.old k (by omega) h9).trans (hu.old k hl h1)
  refine hfin h2 (fun k => if sc'.blk = some k then some 2 else T k) ⟨c2, by show (if _ then _ else _) = _; rw [hT' rb (by rw [hn.tn]; simp)]; exact hn.tn,
    hn.opn.congr fun k hk hl _ => old k hl (by rw [hn.to k hk]; simp) (by rintro rfl; have := hn.to _ hk; rw [hn.tn] at this; cases this), fun k hk => by show (if _ then _ else _) = _; rw [hT' k (by rw [hn.to k hk]; simp)]; exact hn.to k hk,
    ho.congr fun k hk hl _ => u2.old k hl ?_, fun k hk => by simp only [hk, if_true],
    fun i q hq => (hqs i q hq).congr (fun k hk hl => old k hl (by rw [hn.dis k hk]; simp) (by rintro rfl; have := hn.dis _ hk; rw [hn.tn] at this; cases this)) fun _ h => h, fun k hk => ?_, fun k hk => by have := hn.ltz k hk; omega, fun k hk => ?_⟩
    ⟨Upd.then (hu.mono fun k _ hk => by show T k ≠ none; rw [hk]; simp) u2 fun k _ hk => by subst hk; show T k ≠ none; rw [hn.tn]; simp, fun k hk => ?_, fun _ h => h, fun _ h => .inl h⟩
  · rintro rfl
    rcases hnew _ hk with h9 | h9
    · rw [hn.tn] at h9; cases h9
    · omega
  · by_cases hx1 : sc'.blk = some k
    · have := (ho.lt hx1).2; omega
    · simp only [hx1, if_false] at hk
      have := hn.lt k hk; omega
  · show (if _ then _ else _) = _
    split
    · rename_i hx1
      rcases hnew k hx1 with h9 | h9
      · rw [hn.dis k hk] at h9; cases h9
      · have := hn.ltz k hk; omega
    · exact hn.dis k hk
  · by_cases hx1 : sc'.blk = some k
    · rcases hnew k hx1 with h9 | h9
      · exact .inl (by rw [h9]; simp)
      · exact .inr h9
    · simp only [hx1, if_false] at hk
      exact .inl hk

/-! ### New -/
theorem RNew_spec {h : Heap} {K : Option Addr → Heap → Prop} (hk : ∀ h' T, Ref h' T (fun _ => False) h.size 0 (fun _ => false) [] → Ext h h' → (∀ k, T k ≠ none → h.size ≤ k) → K (some ⟨h.size, 0, none⟩) h') : m_spillwayref22_New K h := by
  unfold m_spillwayref22_New g_spillwayref22_New
  refine newK fun h2 c2 e2 z2 => ?_
  refine hk h2 (fun k => if k = h.size then some 0 else none) ⟨⟨none, 0, 0⟩, ⟨none, 0, 0⟩, [], [], ⟨c2, by simp, Own.nil _ _ 1, fun k hk => by simp [Sl.blk] at hk, Own.nil _ _ 8, fun k hk => by simp [Sl.blk] at hk, fun i q hq => by simp at hq, fun k hk => ?_, fun _ h => h.elim, fun _ h => h.elim⟩, ⟨List.nodup_nil, fun n => by simp⟩, Nat.le_refl _, rfl⟩ e2 fun k hk => ?_
  · by_cases q1 : k = h.size
    · omega
    · rw [if_neg q1] at hk; exact absurd rfl hk
  · by_cases q1 : k = h.size
    · omega
    · rw [if_neg q1] at hk; exact absurd rfl hk

/-! ### ports -/
theorem isPort_spec {p : Int} {K : Bool → Heap → Prop} {h : Heap} (hk : K (!badP p) h) : m_spillwayref22_isPort p K h := by
  unfold m_spillwayref22_isPort g_spillwayref22_isPort
  have e : (!badP p) = (decide (p ≥ 1) && decide (p ≤ 65535)) := by
    unfold badP
    rw [Bool.eq_iff_iff]
    simp
  rw [e] at hk
  refine ⟨fun c => bindB_intro ?_, fun c => ?_⟩
  · rw [c] at hk; exact hk
  · rw [c] at hk; exact hk
theorem rports_spec {rb : Nat} {s : Sl} {l : List Int} {h : Heap} {K : Int → Heap → Prop} (hs : Ints h s l) (hk : K (portE l) h) : m_spillwayref22_Net_ports (some ⟨rb, 0, none⟩) s K h := by
  unfold m_spillwayref22_Net_ports g_spillwayref22_Net_ports
  have hlen := hs.length
  have hcap := hs.cap
  have hbig := hs.big
  refine bindI_intro (iteP_false (bindI_intro (loopM_intro (fun p h' => h' = h ∧ ∃ k : Nat, p.1 = (k : Int) ∧ k ≤ l.length ∧ (l.take k).any badP = false) (fun p _ => l.length - p.1.toNat) ⟨rfl, 0, rfl, Nat.zero_le _, rfl⟩ ?_)))
  rintro ⟨i, u⟩ h' ⟨rfl, k, hi, hkl, ht⟩
  dsimp only at hi
  subst hi
  dsimp only
  unfold portE at hk
  refine iteP_dec (fun hlt => ?_) (fun hge => bindI_intro ?_)
  · have hk1 : k < l.length := by omega
    have htk : l.take (k + 1) = l.take k ++ [l[k]] := List.take_succ_eq_append_getElem hk1
    refine Ints.idx hs rfl (List.getElem?_eq_getElem hk1) (isPort_spec ⟨fun e => bindI_intro ?_, fun e => bindI_intro ?_⟩)
    · rw [if_pos (List.any_eq_true.2 ⟨l[k], List.getElem_mem hk1, by simpa using e⟩)] at hk
      exact hk
    · rw [wrap64 (by omega) (by omega)]
      refine ⟨⟨rfl, k + 1, by omega, by omega, ?_⟩, by omega⟩
      rw [htk, List.any_append, ht]
      simpa using e
  · rw [List.take_of_length_le (by omega)] at ht
    rw [if_neg (by rw [ht]; simp)] at hk
    exact hk

def placeF : List Int → Int → Nat → Int
  | [], _, _ => -1
  | x :: r, p, i => if x = p then (i : Int) else placeF r p (i + 1)
theorem placeF_neg : ∀ {l : List Int} {p : Int} {i : Nat}, placeF l p i < 0 ↔ p ∉ l
  | [], p, i => by simp [placeF]
  | x :: r, p, i => by
    unfold placeF
    by_cases e : x = p
    · subst e
      simp
    · rw [if_neg e, placeF_neg, List.mem_cons]
      simp [Ne.symm e]
theorem placeF_pos : ∀ {l : List Int} {p : Int} {i : Nat}, ¬ placeF l p i < 0 → ∃ j : Nat, placeF l p i = ((i + j : Nat) : Int) ∧ l[j]? = some p
  | [], p, i, h => by simp [placeF] at h
  | x :: r, p, i, h => by
    unfold placeF at h ⊢
    by_cases e : x = p
    · rw [if_pos e]
      exact ⟨0, rfl, by rw [e]; rfl⟩
    · rw [if_neg e] at h ⊢
      obtain ⟨j, h1, h2⟩ := placeF_pos h
      exact ⟨j + 1, by rw [h1]; congr 1; omega, by simpa using h2⟩
theorem place_spec {s : Sl} {l : List Int} {p : Int} {h : Heap} {K : Int → Heap → Prop} (hs : Ints h s l) (hk : K (placeF l p 0) h) : m_spillwayref22_place s p K h := by
  unfold m_spillwayref22_place g_spillwayref22_place
  have hlen := hs.length
  have hcap := hs.cap
  have hbig := hs.big
  refine bindI_intro (bindI_intro (loopM_intro (fun q h' => h' = h ∧ ∃ k : Nat, q.1 = (k : Int) ∧ k ≤ l.length ∧ placeF l p 0 = placeF (l.drop k) p k) (fun q _ => l.length - q.1.toNat) ⟨rfl, 0, rfl, Nat.zero_le _, rfl⟩ ?_))
  rintro ⟨i, u⟩ h' ⟨rfl, k, hi, hkl, ht⟩
  dsimp only at hi
  subst hi
  dsimp only
  refine iteP_dec (fun hlt => ?_) (fun hge => bindI_intro ?_)
  · have hk1 : k < l.length := by omega
    have hdr : l.drop k = l[k] :: l.drop (k + 1) := List.drop_eq_getElem_cons hk1
    rw [hdr, placeF] at ht
    refine Ints.idx hs rfl (List.getElem?_eq_getElem hk1) ⟨fun e => bindI_intro ?_, fun e => bindI_intro ?_⟩
    · rw [ht, if_pos (by simpa using e)] at hk
      exact hk
    · rw [if_neg (by simpa using e)] at ht
      rw [wrap64 (by omega) (by omega)]
      exact ⟨⟨rfl, k + 1, by omega, by omega, ht⟩, by omega⟩
  · rw [List.drop_of_length_le (by omega), placeF] at ht
    rw [ht] at hk
    exact hk

theorem iv_one (l : List Int) : (l.map iv).all oneCell = true := by simp [List.all_map, Function.comp_def, oneCell]

theorem RListen_spec {h : Heap} {T : Nat → Option Nat} {Z : Nat → Prop} {rb ob : Nat} {ps : Int → Bool} {cs : List Cn} (hn : Ref h T Z rb ob ps cs) {s : Sl} {l : List Int} (hs : Ints h s l) (hd : ∀ k, s.blk = some k → l ≠ [] → T k = none) (hb : ob + l.length ≤ 1073741824) {K : Int → Heap → Prop}
    (hk : ∀ h' T', Ref h' T' Z rb (ob + l.length) (liP ps l) cs → Stz T Z T' Z h h' → K (portE l) h') : m_spillwayref22_Net_Listen (some ⟨rb, 0, none⟩) s K h := by
  obtain ⟨so, sc, op, qs, hn, hps, hopl, rfl⟩ := hn
  unfold m_spillwayref22_Net_Listen g_spillwayref22_Net_Listen
  unfold liP at hk
  have hlen := hs.length
  have hcap := hs.cap
  have hbig := hs.big
  refine bindI_intro (rports_spec hs (bindI_intro (bindI_intro ?_)))
  by_cases e0 : portE l = 0
  · rw [if_pos e0, e0] at hk
    rw [e0]
    refine loopM_intro (fun p h' => ∃ (k : Nat) (T' : Nat → Option Nat) (so' : Sl) (op' : List Int), p.1 = (k : Int) ∧ k ≤ l.length ∧ RefR h' T' Z rb so' sc op' qs ∧ PsR (addP ps (l.take k)) op' ∧ op'.length ≤ ob + k ∧ Stz T Z T' Z h h') (fun p _ => l.length - p.1.toNat)
      ⟨0, T, so, op, rfl, Nat.zero_le _, hn, hps, hopl, Stz.refl _ _ _⟩ ?_
    rintro ⟨i, u⟩ h5 ⟨k, T', so', op', hi, hkl, hn', hps', hopl', hst⟩
    dsimp only at hi
    subst hi
    dsimp only
    refine iteP_dec (fun hlt => iteP_true ?_) (fun hge => bindI_intro ?_)
    · have hk1 : k < l.length := by omega
      have htk : l.take (k + 1) = l.take k ++ [l[k]] := List.take_succ_eq_append_getElem hk1
      have hx : l[k]? = some l[k] := List.getElem?_eq_getElem hk1
      generalize l[k] = x at htk hx
      have hs' : Ints h5 s l := Row.congr hs fun b o hp hne hl => hst.upd.old b hl fun hb => hb (hd b (by simp [Sl.blk, hp]) (by rintro rfl; exact hne rfl))
      have hso : Ints h5 so' op' := hn'.opn.row
      have hsol : so'.len = op'.length := Ints.length hso
      have hw : IntKind.wrap .i64 ((k : Int) + 1) = ((k + 1 : Nat) : Int) := by rw [wrap64 (by omega) (by omega)]; omega
      have eadd : addP ps (l.take (k + 1)) = fun m => addP ps (l.take k) m || m == x := by unfold addP; rw [htk, List.foldl_append]; rfl
      refine deref_ (ldLk hn'.cells rfl (Ints.idx hs' rfl hx ⟨(placeF op' x 0, ()), place_spec hso ⟨rfl, rfl⟩, ?_⟩))
      refine iteP_dec (fun hneg => deref_ ?_) (fun hpos => bindI_intro ?_)
      · have hnot : x ∉ op' := placeF_neg.1 hneg
        obtain ⟨b13, o14, hp13, h013, hl13, hrest⟩ := Row.idx hs' (n := k) rfl (v := iv x) (by simp [hx]) (K := fun b o => h5.cell b o = some (iv x)) fun b o _ hc => hc
        refine ⟨b13, o14, hp13, h013, hl13, ?_⟩
        have hc0 : h5.cell rb 0 = some (slV so') := by rw [cell_block hn'.cells]; rfl
        refine ⟨so', hc0, x, hrest, newK fun h18 c18 e18 z18 => ⟨held1 hc0 e18, ?_⟩⟩
        have hrow : Row h18 ⟨some ⟨h5.size, 0, none⟩, 1, 1⟩ 1 [iv x] := ⟨rfl, Nat.le_refl _, (show 1 < 9223372036854775808 by decide), .inr ⟨h5.size, 0, rfl, has_block c18 fun i v hi => by simpa using hi⟩⟩
        have hn18 := hn'.ext e18
        refine hrow.rd (Own.app hn18.opn rfl rfl rfl (by omega) (by omega) (Nat.zero_le _) fun t19 h20 ho20 hl20 hu20 hblk => deref_ ?_)
        have e : op'.map iv ++ [iv x] = (op' ++ [x]).map iv := by simp
        rw [e] at ho20
        refine hn18.setOpen ho20 (hu20.mono fun k _ hk => hn18.to k hk) (fun k hk => ?_) fun h23 T2 hn23 st23 => bindI_intro ?_
        · rcases hblk with e1 | e1
          · rw [e1] at hk; exact .inl (hn18.to k hk)
          · rw [e1] at hk; exact .inr (Nat.le_of_eq (Option.some.inj hk))
        · rw [hw]
          refine ⟨⟨k + 1, T2, t19, op' ++ [x], rfl, by omega, hn23, ⟨?_, fun n => ?_⟩, by simp; omega, (hst.trans ⟨e18.upd _, fun k hk => .inl hk, fun _ h => h, fun _ h => .inl h⟩).trans st23⟩, by omega⟩
          · rw [List.nodup_append]
            refine ⟨hps'.1, by simp, fun a ha b hb => ?_⟩
            have : b = x := by simpa using hb
            subst this
            rintro rfl
            exact hnot ha
          · rw [eadd]
            simp only [Bool.or_eq_true, beq_iff_eq, List.mem_append, List.mem_singleton, hps'.2 n]
      · rw [hw]
        have hin : x ∈ op' := by
          rcases Classical.em (x ∈ op') with h9 | h9
          · exact h9
          · exact absurd (placeF_neg.2 h9) hpos
        refine ⟨⟨k + 1, T', so', op', rfl, by omega, hn', ⟨hps'.1, fun n => ?_⟩, by omega, hst⟩, by omega⟩
        rw [eadd]
        simp only [Bool.or_eq_true, beq_iff_eq, hps'.2 n]
        constructor
        · rintro (h9 | rfl)
          · exact h9
          · exact hin
        · exact .inl
    · have hkk : k = l.length := by omega
      subst hkk
      rw [List.take_of_length_le (Nat.le_refl _)] at hps'
      exact hk h5 T' ⟨so', sc, op', qs, hn', hps', hopl', rfl⟩ hst
  · rw [if_neg e0] at hk
    have done := hk h T ⟨so, sc, op, qs, hn, hps, by omega, rfl⟩ (Stz.refl _ _ _)
    refine loopM_intro (fun p h' => h' = h) (fun p _ => 0) rfl ?_
    rintro ⟨i, u⟩ h' rfl
    dsimp only
    refine iteP_dec (fun _ => iteP_neg (by simpa using e0) (bindI_intro done)) (fun _ => bindI_intro done)

theorem RStop_spec {h : Heap} {T : Nat → Option Nat} {Z : Nat → Prop} {rb ob : Nat} {ps : Int → Bool} {cs : List Cn} (hn : Ref h T Z rb ob ps cs) {s : Sl} {l : List Int} (hs : Ints h s l) (hd : ∀ k, s.blk = some k → l ≠ [] → T k = none) (hb : ob ≤ 1073741824) {K : Int → Heap → Prop}
    (hk : ∀ h' T', Ref h' T' Z rb ob (spP ps l) cs → Stz T Z T' Z h h' → K (portE l) h') : m_spillwayref22_Net_Stop (some ⟨rb, 0, none⟩) s K h := by
  obtain ⟨so, sc, op, qs, hn, hps, hopl, rfl⟩ := hn
  unfold m_spillwayref22_Net_Stop g_spillwayref22_Net_Stop
  unfold spP at hk
  have hlen := hs.length
  have hcap := hs.cap
  have hbig := hs.big
  refine bindI_intro (rports_spec hs (bindI_intro (bindI_intro ?_)))
  by_cases e0 : portE l = 0
  · rw [if_pos e0, e0] at hk
    rw [e0]
    refine loopM_intro (fun p h' => ∃ (k : Nat) (T' : Nat → Option Nat) (so' : Sl) (op' : List Int), p.1 = (k : Int) ∧ k ≤ l.length ∧ RefR h' T' Z rb so' sc op' qs ∧ PsR (delP ps (l.take k)) op' ∧ op'.length ≤ ob ∧ Stz T Z T' Z h h') (fun p _ => l.length - p.1.toNat)
      ⟨0, T, so, op, rfl, Nat.zero_le _, hn, hps, hopl, Stz.refl _ _ _⟩ ?_
    rintro ⟨i, u⟩ h5 ⟨k, T', so', op', hi, hkl, hn', hps', hopl', hst⟩
    dsimp only at hi
    subst hi
    dsimp only
    refine iteP_dec (fun hlt => iteP_true ?_) (fun hge => bindI_intro ?_)
    · have hk1 : k < l.length := by omega
      have htk : l.take (k + 1) = l.take k ++ [l[k]] := List.take_succ_eq_append_getElem hk1
      have hx : l[k]? = some l[k] := List.getElem?_eq_getElem hk1
      generalize l[k] = x at htk hx
      have hs' : Ints h5 s l := Row.congr hs fun b o hp hne hl => hst.upd.old b hl fun hb => hb (hd b (by simp [Sl.blk, hp]) (by rintro rfl; exact hne rfl))
      have hso : Ints h5 so' op' := hn'.opn.row
      have hsol : so'.len = op'.length := Ints.length hso
      have hsoc := hso.cap
      have hw : IntKind.wrap .i64 ((k : Int) + 1) = ((k + 1 : Nat) : Int) := by rw [wrap64 (by omega) (by omega)]; omega
      have edel : delP ps (l.take (k + 1)) = fun m => delP ps (l.take k) m && m != x := by unfold delP; rw [htk, List.foldl_append]; rfl
      refine deref_ (ldLk hn'.cells rfl (Ints.idx hs' rfl hx ⟨(placeF op' x 0, ()), place_spec hso ⟨rfl, rfl⟩, bindI_intro ?_⟩))
      refine iteP_dec (fun hpos => deref_ (deref_ ?_)) (fun hneg => bindI_intro ?_)
      · obtain ⟨j, hj, hjx⟩ := placeF_pos (l := op') (p := x) (i := 0) (by omega)
        rw [Nat.zero_add] at hj
        have hjl : j < op'.length := by
          rcases Nat.lt_or_ge j op'.length with h9 | h9
          · exact h9
          · rw [List.getElem?_eq_none h9] at hjx; cases hjx
        have hc0 : h5.cell rb 0 = some (slV so') := by rw [cell_block hn'.cells]; rfl
        refine ⟨so', hc0, ?_⟩
        rw [hj]
        refine Row.slc hso (a := 0) (b := j) (m := so'.cap) rfl rfl rfl (Nat.zero_le _) (by omega) (by omega) (Nat.le_refl _) fun t16 ht16 hl16 _ _ => ⟨so', hc0, ?_⟩
        rw [wrap64 (n := (j : Int) + 1) (by omega) (by omega)]
        refine Row.slc hso (a := j + 1) (b := so'.len) (m := so'.cap) (by omega) rfl rfl (by omega) (Nat.le_refl _) (by omega) (Nat.le_refl _) fun t18 ht18 hl18 _ _ => ?_
        rw [List.drop_zero, Nat.sub_zero, ← List.map_take] at ht16
        rw [← List.map_drop, ← List.map_take, List.take_of_length_le (by rw [List.length_drop]; omega)] at ht18
        refine newE 1 fun h20 ho20 e20 z20 => ⟨held1 hc0 e20, held1 hc0 e20, ?_⟩
        refine Row.rd (ht16.ext e20) (appE ho20 e20 (by simp only [List.length_map, List.length_take]; omega) (iv_one _) rfl (by dsimp only; omega) (by dsimp only; omega) fun t21 h22 ho22 hl22 e22 _ => ⟨held1 hc0 e22, held1 hc0 e22, ?_⟩)
        dsimp only at hl22
        refine Row.rd (ht18.ext e22) (appE ho22 e22 (by simp only [List.length_map, List.length_drop]; omega) (iv_one _) rfl (by omega) (by omega) fun t23 h24 ho24 hl24 e24 _ => ⟨held1 hc0 e24, held1 hc0 e24, deref_ ?_⟩)
        rw [List.nil_append, ← List.map_append, ← List.eraseIdx_eq_take_drop_succ] at ho24
        refine hn'.setOpen (ho24.base (Nat.zero_le _)) (e24.upd _) (fun k hk => .inr (ho24.lt hk).1) fun h28 T2 hn28 st28 => bindI_intro ?_
        rw [hw]
        have hnd := List.pairwise_iff_getElem.1 hps'.1
        have hj9 : op'[j] = x := by rw [List.getElem?_eq_getElem hjl] at hjx; exact Option.some.inj hjx
        refine ⟨⟨k + 1, T2, t23, op'.eraseIdx j, rfl, by omega, hn28, ⟨hps'.1.sublist (List.eraseIdx_sublist _ _), fun n => ?_⟩, by have := List.length_eraseIdx_le op' j; omega, hst.trans st28⟩, by omega⟩
        rw [edel]
        simp only [Bool.and_eq_true, bne_iff_ne, hps'.2 n]
        rw [List.mem_eraseIdx_iff_getElem?]
        constructor
        · rintro ⟨hn9, hne⟩
          obtain ⟨i, hil, hi⟩ := List.mem_iff_getElem.1 hn9
          refine ⟨i, fun hij => ?_, by rw [List.getElem?_eq_getElem hil, hi]⟩
          subst hij
          exact hne (by rw [← hi, hj9])
        · rintro ⟨i, hij, hi⟩
          refine ⟨List.mem_of_getElem? hi, fun hnx => ?_⟩
          have hil : i < op'.length := by
            rcases Nat.lt_or_ge i op'.length with h9 | h9
            · exact h9
            · rw [List.getElem?_eq_none h9] at hi; cases hi
          have hi9 : op'[i] = n := by rw [List.getElem?_eq_getElem hil] at hi; exact Option.some.inj hi
          rcases Nat.lt_or_ge i j with h9 | h9
          · exact hnd i j hil hjl h9 (by rw [hi9, hj9, hnx])
          · exact hnd j i hjl hil (by omega) (by rw [hi9, hj9, hnx])
      · rw [hw]
        have hnot : x ∉ op' := (placeF_neg (i := 0)).1 (by omega)
        refine ⟨⟨k + 1, T', so', op', rfl, by omega, hn', ⟨hps'.1, fun n => ?_⟩, by omega, hst⟩, by omega⟩
        rw [edel]
        simp only [Bool.and_eq_true, bne_iff_ne, hps'.2 n]
        exact ⟨fun h9 => h9.1, fun h9 => ⟨h9, fun he => hnot (he ▸ h9)⟩⟩
    · have hkk : k = l.length := by omega
      subst hkk
      rw [List.take_of_length_le (Nat.le_refl _)] at hps'
      exact hk h5 T' ⟨so', sc, op', qs, hn', hps', hopl', rfl⟩ hst
  · rw [if_neg e0] at hk
    have done := hk h T ⟨so, sc, op, qs, hn, hps, by omega, rfl⟩ (Stz.refl _ _ _)
    refine loopM_intro (fun p h' => h' = h) (fun p _ => 0) rfl ?_
    rintro ⟨i, u⟩ h' rfl
    dsimp only
    refine iteP_dec (fun _ => iteP_neg (by simpa using e0) (bindI_intro done)) (fun _ => bindI_intro done)

end Go.Proofs.Ytgkgheaanfgecaa
