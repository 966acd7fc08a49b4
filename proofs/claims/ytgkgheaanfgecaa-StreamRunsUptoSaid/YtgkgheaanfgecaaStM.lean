/- The reference's network: Conns, Dial, Break, Fork. -/
import Derived.Test.YtgkgheaanfgecaaStL
namespace Go.Proofs.Ytgkgheaanfgecaa
open Go Go.Fw

theorem RConns_spec {h : Heap} {T : Nat → Option Nat} {Z : Nat → Prop} {rb ob : Nat} {ps : Int → Bool} {cs : List Cn} (hn : Ref h T Z rb ob ps cs) (hlen : cs.length ≤ 1073741824) {K : Sl → Heap → Prop}
    (hk : ∀ out h', Own h' h.size out 1 ((connsF 0 cs).map iv) → Ext h h' → K out h') : m_spillwayref22_Net_Conns (some ⟨rb, 0, none⟩) K h := by
  obtain ⟨so, sc, op, qs, hn, hps, hopl, rfl⟩ := hn
  unfold m_spillwayref22_Net_Conns g_spillwayref22_Net_Conns
  rw [List.length_map] at hlen
  have hl := hn.length
  refine bindI_intro (loopM_intro (fun p h' => ∃ k : Nat, p.2.1 = (k : Int) ∧ k ≤ qs.length ∧ Ext h h' ∧ Own h' h.size p.1 1 ((connsF 0 ((csOf qs).take k)).map iv)) (fun p _ => qs.length - p.2.1.toNat) ⟨0, rfl, Nat.zero_le _, Ext.refl _, Own.nil _ _ 1⟩ ?_)
  rintro ⟨l, i, u⟩ h' ⟨k, hi, hkl, e1, ho⟩
  dsimp only at hi ho
  subst hi
  dsimp only
  have z1 := e1.size
  have hol := ho.len
  have hcl := connsF_len ((csOf qs).take k) 0
  rw [List.length_take] at hcl
  simp only [List.length_map, Nat.mul_one] at hol
  have hn1 := hn.ext e1
  refine iteP_true (deref_ (ldLk hn1.cells rfl (iteP_dec (fun hlt => ?_) (fun hge => ?_))))
  · have hk1 : k < qs.length := by omega
    have hq : qs[k]? = some qs[k] := List.getElem?_eq_getElem hk1
    have htk : (csOf qs).take (k + 1) = (csOf qs).take k ++ [qs[k].2] := by
      rw [List.take_succ_eq_append_getElem (by simpa using hk1)]
      simp
    generalize qs[k] = q at hq htk
    have hw : IntKind.wrap .i64 ((k : Int) + 1) = (k : Int) + 1 := wrap64 (by omega) (by omega)
    have hl0 : ((csOf qs).take k).length = k := by rw [List.length_take, List.length_map]; omega
    refine deref_ (ldLk hn1.cells rfl (idxR hn1 hq rfl fun b hb => ⟨_, hn1.cell hq hb (m := 1) (by omega) rfl, ⟨fun hb0 => ?_, fun hb1 => bindI_intro ?_⟩⟩))
    · have hb0' : q.2.brk = false := by simpa using hb0
      refine newK fun h18 c18 e18 z18 => ?_
      have hrow : Row h18 ⟨some ⟨h'.size, 0, none⟩, 1, 1⟩ 1 [iv (IntKind.wrap .i64 ((k : Int) + 1))] := ⟨rfl, Nat.le_refl _, (show 1 < 9223372036854775808 by decide), .inr ⟨h'.size, 0, rfl, has_block c18 fun i v hi => by simpa using hi⟩⟩
      refine hrow.rd ?_
      have ho18 := ho.congr (h' := h18) fun k _ hl _ => e18.old k hl
      refine Own.app ho18 rfl rfl rfl (by omega) (by omega) (by omega) fun s' h20 ho' hl' hu _ => bindI_intro ?_
      rw [hw] at ho' ⊢
      refine ⟨⟨k + 1, by omega, by omega, (e1.trans e18).then hu fun k hk => (ho18.lt hk).1, ?_⟩, by omega⟩
      rw [htk, connsF_snoc, hb0', hl0, Nat.zero_add, if_neg (by simp), List.map_append]
      exact ho'
    · have hb1' : q.2.brk = true := by simpa using hb1
      rw [hw]
      refine ⟨⟨k + 1, by omega, by omega, e1, ?_⟩, by omega⟩
      rw [htk, connsF_snoc, hb1', if_pos rfl, List.append_nil]
      exact ho
  · rw [List.take_of_length_le (by rw [List.length_map]; omega)] at ho
    exact hk l h' ho e1

theorem nil_z (h : Heap) (Z : Nat → Prop) (p : Int) (b : Bool) : ZR h Z (nilRw, ⟨⟨[], [], false⟩, ⟨[], [], false⟩, p, b⟩) := by
  have : RowZ h Z ⟨none, 0, 0⟩ [] := ⟨Row.nil _ 1, fun k hk => by simp [Sl.blk] at hk⟩
  exact ⟨this, this, this, this⟩

theorem RDial_spec {h : Heap} {T : Nat → Option Nat} {Z : Nat → Prop} {rb ob : Nat} {ps : Int → Bool} {cs : List Cn} (hn : Ref h T Z rb ob ps cs) (hlen : cs.length ≤ 1073741824) {port : Int} {K : Int → Int → Heap → Prop}
    (hk : ∀ h' T', Ref h' T' Z rb ob ps (diS ps cs port).2 → Stz T Z T' Z h h' → K (diS ps cs port).1.1 (diS ps cs port).1.2 h') : m_spillwayref22_Net_Dial (some ⟨rb, 0, none⟩) port K h := by
  unfold m_spillwayref22_Net_Dial g_spillwayref22_Net_Dial
  unfold diS at hk
  refine bindI_intro (bindI_intro (newK fun h2 c2 e2 z2 => ?_))
  have hn2 := hn.ext e2
  have ezt : ∀ {a b : Heap}, Ext a b → Stz T Z T Z a b := fun e => ⟨e.upd _, fun k hk => .inl hk, fun _ h => h, fun _ h => .inl h⟩
  refine rports_spec (one_row c2) (bindI_intro ?_)
  have hpe : portE [port] = if badP port then 2 else 0 := by
    unfold portE
    simp
  rw [hpe]
  cases hbad : badP port with
  | true =>
    rw [hbad, if_pos rfl] at hk
    exact bindB_intro (iteP_true (bindI_intro (bindI_intro (hk h2 T hn2 (ezt e2)))))
  | false =>
    rw [hbad, if_neg (by simp)] at hk
    refine bindB_intro (iteP_false ?_)
    have hn2' := hn2
    obtain ⟨so, sc, op, qs, hnr, hps, hopl, rfl⟩ := hn2'
    refine deref_ (ldLk hnr.cells rfl (place_spec hnr.opn.row (bindB_intro ?_)))
    cases hpp : ps port with
    | false =>
      rw [hpp, if_pos rfl] at hk
      have hnot : port ∉ op := fun h9 => by
        have := (hps.2 port).2 h9
        rw [hpp] at this; cases this
      exact iteP_pos (decide_eq_true (placeF_neg.2 hnot)) (bindI_intro (bindI_intro (hk h2 T hn2 (ezt e2))))
    | true =>
      rw [hpp, if_neg (by simp)] at hk
      have hin : port ∈ op := (hps.2 port).1 hpp
      refine iteP_neg (decide_eq_false fun h9 => placeF_neg.1 h9 hin) (RConns_spec hn2 hlen fun out h14 ho14 e14 => bindB_intro ?_)
      have hol : out.len = (connsF 0 (qs.map (·.2))).length := Ints.length ho14.row
      rw [hol]
      refine iteP_dec (fun hfull => bindI_intro (bindI_intro ?_)) (fun hok => ?_)
      · rw [if_pos (by omega)] at hk
        exact hk h14 T (hn2.ext e14) (ezt (e2.trans e14))
      · rw [if_neg (by omega)] at hk
        have hnr14 := hnr.ext e14
        refine deref_ (ldLk hnr14.cells rfl (newK fun h22 c22 e22 z22 => ?_))
        have hrow22 : Row h22 ⟨some ⟨h14.size, 0, none⟩, 1, 1⟩ 8 (rC (nilRw, newC_ port)) := ⟨rfl, Nat.le_refl _, (show 1 < 9223372036854775808 by decide), .inr ⟨h14.size, 0, rfl, has_block c22 fun i v hi => by simpa [rC, nilRw, newC_, slV] using hi⟩⟩
        refine hrow22.rd ?_
        have hnr22 := hnr14.ext e22
        have hsl := hnr.length
        rw [List.length_map] at hlen
        refine Own.app hnr22.row rfl rfl rfl (by omega) (by omega) (Nat.zero_le _) fun s' h24 ho' hl' hu hblk => deref_ ?_
        have e : qs.flatMap rC ++ rC (nilRw, newC_ port) = (qs ++ [(nilRw, newC_ port)]).flatMap rC := by simp
        rw [e] at ho'
        refine hnr22.setConns ho' (hu.mono fun k _ hk => hnr22.tr k hk) (fun k hk => ?_) (fun i q hq => ?_) fun h27 T' hn27 st27 => ?_
        · rcases hblk with e1 | e1
          · rw [e1] at hk; exact .inl (hnr22.tr k hk)
          · rw [e1] at hk; exact .inr (Nat.le_of_eq (Option.some.inj hk))
        · rcases Nat.lt_or_ge i qs.length with hi | hi
          · rw [List.getElem?_append_left hi] at hq
            exact hnr22.each i q hq
          · rw [List.getElem?_append_right hi] at hq
            have : i - qs.length = 0 := by
              rcases Nat.eq_zero_or_pos (i - qs.length) with h9 | h9
              · exact h9
              · rw [List.getElem?_eq_none (by simp; omega)] at hq; cases hq
            rw [this] at hq
            simp at hq
            subst hq
            exact nil_z _ _ _ _
        · refine deref_ (ldLk hn27.cells rfl (bindI_intro (bindI_intro ?_)))
          have hl27 := hn27.length
          rw [List.length_append, List.length_singleton] at hl27
          have := hk h27 T' ⟨so, s', op, _, hn27, hps, hopl, by simp [newC_]⟩ (((ezt (e2.trans e14)).trans (ezt e22)).trans st27)
          rw [List.length_map] at this
          rw [hl27]
          exact this

/-! ### Break -/
theorem flat_puts {α : Type} {f : α → List Value} {n : Nat} (hf : ∀ a, (f a).length = n) : ∀ (l : List α) (i m : Nat) (vs : List Value) (a b : α), l[i]? = some a → m + vs.length ≤ n → f b = (f a).take m ++ vs ++ (f a).drop (m + vs.length) →
    (l.set i b).flatMap f = (l.flatMap f).take (i * n + m) ++ vs ++ (l.flatMap f).drop (i * n + m + vs.length)
  | [], i, m, vs, a, b, h, _, _ => by simp at h
  | x :: l, 0, m, vs, a, b, h, hm, hb => by
    simp only [List.getElem?_cons_zero, Option.some.injEq] at h
    subst h
    rw [List.set_cons_zero, List.flatMap_cons, List.flatMap_cons, hb, Nat.zero_mul, Nat.zero_add, List.take_append_of_le_length (by rw [hf]; omega), List.drop_append_of_le_length (by rw [hf]; exact hm)]
    simp only [List.append_assoc]
  | x :: l, i + 1, m, vs, a, b, h, hm, hb => by
    have ih := flat_puts hf l i m vs a b (by simpa using h) hm hb
    rw [List.set_cons_succ, List.flatMap_cons, List.flatMap_cons, ih]
    have e1 : (i + 1) * n + m = (f x).length + (i * n + m) := by rw [hf, Nat.succ_mul]; omega
    have e2 : (i + 1) * n + m + vs.length = (f x).length + (i * n + m + vs.length) := by rw [hf, Nat.succ_mul]; omega
    rw [e2, e1, List.take_length_add_append, List.drop_length_add_append]
    simp only [List.append_assoc]
theorem Own.stsCells {h : Heap} {base : Nat} {s : Sl} {size : Nat} {ws : List Value} (ho : Own h base s size ws) {b o : Nat} (hb : s.blk = some b) {vs : List Value} (hl : o + vs.length ≤ ws.length) (hv : vs.all oneCell = true) {K : Heap → Prop}
    (hk : ∀ h', Own h' base s size (ws.take o ++ vs ++ ws.drop (o + vs.length)) → Upd (· = b) h h' → h'.size = h.size → K h') : sts h b o vs K := by
  have hlen := ho.len
  rcases ho.at_ with ⟨hp, _⟩ | ⟨b', c, e, hp, hbb, hc, hcs, hvs⟩
  · simp [Sl.blk, hp] at hb
  · simp [Sl.blk, hp] at hb
    subst hb
    have hcap := Nat.mul_le_mul_right size ho.cap
    have hcl : c.toList.length = s.cap * size := by rw [Array.length_toList]; exact hcs
    have hfit : o + vs.length ≤ c.size := by omega
    obtain ⟨c', hc', hl'⟩ := puts_block (vs := vs) (o := o) hc hfit
    refine ⟨free_block hc hfit, hv, hk _ ⟨?_, ho.cap, ho.big, .inr ⟨b', c', e, hp, hbb, hc', ?_, ?_⟩⟩ (Upd.puts h b' o _) puts_size⟩
    · simp only [List.length_append, List.length_take, List.length_drop]; omega
    · have := congrArg List.length hl'
      simp only [List.length_append, List.length_take, List.length_drop, Array.length_toList] at this
      omega
    · have hlA : (c.toList.take o ++ vs).length = o + vs.length := by rw [List.length_append, List.length_take]; omega
      rw [hl', hvs, List.take_take, Nat.min_eq_left (by omega), List.drop_take, List.take_append, List.take_of_length_le (Nat.le_trans (Nat.le_of_eq hlA) (by omega)), hlA]

theorem RefR.setCells {h : Heap} {T : Nat → Option Nat} {Z : Nat → Prop} {rb : Nat} {so sc : Sl} {op : List Int} {qs : List Q} (hn : RefR h T Z rb so sc op qs) {i : Nat} {q q' : Q} (hq : qs[i]? = some q) {m : Nat} {vs : List Value} (hm : m + vs.length ≤ 8) (hv : vs.all oneCell = true)
    (hC : rC q' = (rC q).take m ++ vs ++ (rC q).drop (m + vs.length)) {b : Nat} (hb : sc.blk = some b) (hQ : ZR h Z q') {K : Heap → Prop}
    (hfin : ∀ h2, RefR h2 T Z rb so sc op (qs.set i q') → Stz T Z T Z h h2 → K h2) : sts h b (i * 8 + m) vs K := by
  have hlt : i < qs.length := by
    rcases Nat.lt_or_ge i qs.length with h9 | h9
    · exact h9
    · rw [List.getElem?_eq_none h9] at hq; cases hq
  refine Own.stsCells hn.row hb (by rw [flat_len rC_len]; omega) hv fun h2 o2 u2 z2 => ?_
  rw [← flat_puts rC_len qs i m vs q q' hq hm hC] at o2
  have hbT : T b = some 2 := hn.tr b hb
  have zold : ∀ k, Z k → k < h.size → h2[k]? = h[k]? := fun k hk hl => u2.old k hl (by
    rintro rfl
    have := hn.dis _ hk
    rw [hbT] at this
    cases this)
  refine hfin h2 ⟨?_, hn.tn, hn.opn.congr fun k hk hl _ => u2.old k hl (by rintro rfl; rw [hn.to _ hk] at hbT; cases hbT), hn.to, o2, hn.tr, fun i' r hr => ?_, fun k hk => by have := hn.lt k hk; omega, fun k hk => by have := hn.ltz k hk; omega, hn.dis⟩
    ⟨u2.mono fun k _ hk => by subst hk; show T k ≠ none; rw [hbT]; simp, fun k hk => .inl hk, fun _ h => h, fun _ h => .inl h⟩
  · rw [u2.old rb (blk_lt hn.cells) (by rintro rfl; rw [hn.tn] at hbT; cases hbT)]
    exact hn.cells
  · by_cases hii : i' = i
    · subst hii
      rw [List.getElem?_set_self hlt] at hr
      cases hr
      exact hQ.congr zold fun _ h => h
    · rw [List.getElem?_set_ne (Ne.symm hii)] at hr
      exact (hn.each i' r hr).congr zold fun _ h => h

theorem errS_00 {cs : List Cn} {k : Int} (h1 : 1 ≤ k) (h2 : k ≤ cs.length) {c : Cn} (hc : cs[(k - 1).toNat]? = some c) : errS cs k 0 0 = if c.brk then 51 else 0 := by
  unfold errS
  rw [if_neg (by omega), if_neg (by omega), if_neg (by decide), if_neg (by decide), if_neg (by decide), hc]
def badL (cs : List Cn) : List Int → (Int → Bool) → Bool
  | [], _ => false
  | k :: r, seen => (errS cs k 0 0 != 0 || seen k) || badL cs r (fun m => seen m || m == k)
theorem brF_eq {cs : List Cn} : ∀ {l : List Int} {seen : Int → Bool} {d : Bool}, (∀ k, k ∈ l → errS cs k 0 0 ≠ 4) → brF cs l seen d = some (d || badL cs l seen)
  | [], seen, d, _ => by simp [brF, badL]
  | k :: r, seen, d, h => by
    rw [brF, if_neg (h k (.head _)), brF_eq fun k hk => h k (.tail _ hk), badL, Bool.or_assoc]
theorem brF_none {cs : List Cn} : ∀ {l : List Int} {seen : Int → Bool} {d : Bool} {k : Int}, k ∈ l → errS cs k 0 0 = 4 → brF cs l seen d = none
  | x :: r, seen, d, k, hk, he => by
    rw [brF]
    split
    · rfl
    · rename_i hx
      rcases List.mem_cons.1 hk with rfl | hk
      · exact absurd he hx
      · exact brF_none hk he

theorem RBreak_spec {h : Heap} {T : Nat → Option Nat} {Z : Nat → Prop} {rb ob : Nat} {ps : Int → Bool} {cs : List Cn} (hn : Ref h T Z rb ob ps cs) {s : Sl} {l : List Int} (hs : Ints h s l) (hd : ∀ k, s.blk = some k → T k = none) {K : Int → Heap → Prop}
    (hk : ∀ h' Z', Ref h' T Z' rb ob ps (brS cs l).2 → Stz T Z T Z' h h' → K (brS cs l).1 h') : m_spillwayref22_Net_Break (some ⟨rb, 0, none⟩) s K h := by
  obtain ⟨so, sc, op, qs, hn, hps, hopl, rfl⟩ := hn
  unfold m_spillwayref22_Net_Break g_spillwayref22_Net_Break
  unfold brS at hk
  have hlen := hs.length
  have hcap := hs.cap
  have hbig := hs.big
  have hql := hn.length
  have hqc := hn.row.cap
  have hqb := hn.row.big
  refine bindI_intro (iteP_false (bindI_intro (loopM_intro (fun p h' => h' = h ∧ ∃ k : Nat, p.1 = (k : Int) ∧ k ≤ l.length ∧ ∀ x, x ∈ l.take k → errS (csOf qs) x 0 0 ≠ 4 ∧ 1 ≤ x ∧ x ≤ qs.length) (fun p _ => l.length - p.1.toNat) ⟨rfl, 0, rfl, Nat.zero_le _, by simp⟩ ?_)))
  rintro ⟨i, u⟩ h4 ⟨rfl, k, hi, hkl, hall⟩
  dsimp only at hi
  subst hi
  dsimp only
  refine iteP_dec (fun hlt => ?_) (fun hge => bindI_intro ?_)
  · have hk1 : k < l.length := by omega
    have hx : l[k]? = some l[k] := List.getElem?_eq_getElem hk1
    have htk : l.take (k + 1) = l.take k ++ [l[k]] := List.take_succ_eq_append_getElem hk1
    have hmem : l[k] ∈ l := List.getElem_mem hk1
    generalize l[k] = x at hx htk hmem
    have bad : errS (csOf qs) x 0 0 = 4 → K 4 h4 := fun h9 => by
      rw [brF_none hmem h9] at hk
      exact hk h4 Z ⟨so, sc, op, qs, hn, hps, hopl, rfl⟩ (Stz.refl _ _ _)
    refine Ints.idx hs rfl hx (iteP_dec (fun c1 => bindI_intro (bad ?_)) (fun c1 => Ints.idx hs rfl hx (deref_ (ldLk hn.cells rfl (iteP_dec (fun c2 => bindI_intro (bad ?_)) (fun c2 => bindI_intro ?_))))))
    · unfold errS; rw [if_pos c1]
    · unfold errS; rw [if_neg c1, List.length_map, if_pos (by omega)]
    · rw [wrap64 (by omega) (by omega)]
      refine ⟨⟨rfl, k + 1, by omega, by omega, fun y hy => ?_⟩, by omega⟩
      rw [htk] at hy
      rcases List.mem_append.1 hy with hy | hy
      · exact hall y hy
      · have : y = x := List.mem_singleton.1 hy
        subst this
        refine ⟨fun h9 => ?_, by omega, by omega⟩
        have hyl : (y - 1).toNat < qs.length := by omega
        rw [errS_00 (by omega) (by rw [List.length_map]; omega) (c := qs[(y - 1).toNat].2) (by rw [List.getElem?_map, List.getElem?_eq_getElem hyl]; rfl)] at h9
        split at h9 <;> cases h9
  · rw [List.take_of_length_le (by omega)] at hall
    rw [brF_eq fun k hk => (hall k hk).1, Bool.false_or] at hk
    refine loopM_intro (fun p h' => h' = h4 ∧ ∃ k : Nat, p.1 = (k : Int) ∧ k ≤ l.length ∧ badL (csOf qs) l (fun _ => false) = badL (csOf qs) (l.drop k) (fun m => decide (m ∈ l.take k))) (fun p _ => l.length - p.1.toNat) ⟨rfl, 0, rfl, Nat.zero_le _, by simp⟩ ?_
    rintro ⟨i, u⟩ h19 ⟨rfl, k, hi, hkl, hbL⟩
    dsimp only at hi
    subst hi
    dsimp only
    refine iteP_dec (fun hlt => ?_) (fun hge => bindI_intro ?_)
    · have hk1 : k < l.length := by omega
      have hx : l[k]? = some l[k] := List.getElem?_eq_getElem hk1
      have htk : l.take (k + 1) = l.take k ++ [l[k]] := List.take_succ_eq_append_getElem hk1
      have hdr : l.drop k = l[k] :: l.drop (k + 1) := List.drop_eq_getElem_cons hk1
      have hmem : l[k] ∈ l := List.getElem_mem hk1
      generalize l[k] = x at hx htk hmem hdr
      obtain ⟨_, hx1, hx2⟩ := hall x hmem
      obtain ⟨j, hj⟩ := Int.eq_ofNat_of_zero_le (show 0 ≤ x - 1 by omega)
      have hjl : j < qs.length := by omega
      have hq : qs[j]? = some qs[j] := List.getElem?_eq_getElem hjl
      generalize qs[j] = q at hq
      have hcs : (csOf qs)[(x - 1).toNat]? = some q.2 := by rw [hj, Int.toNat_natCast, List.getElem?_map, hq]; rfl
      have he := errS_00 (by omega) (by rw [List.length_map]; omega) hcs
      have hw : IntKind.wrap .i64 (x - 1) = (j : Int) := by rw [wrap64 (by omega) (by omega)]; exact hj
      rw [hdr, badL] at hbL
      have down : badL (csOf qs) l (fun _ => false) = true → K 51 h19 := fun h9 => by
        rw [h9] at hk
        exact hk h19 Z ⟨so, sc, op, qs, hn, hps, hopl, rfl⟩ (Stz.refl _ _ _)
      refine deref_ (ldLk hn.cells rfl (Ints.idx hs rfl hx ?_))
      rw [hw]
      refine idxR hn hq rfl fun b hb => ⟨_, hn.cell hq hb (m := 1) (by omega) rfl, ⟨fun hb1 => bindI_intro (down ?_), fun hb0 => ?_⟩⟩
      · rw [hbL, he, if_pos hb1]; rfl
      · rw [if_neg (by rw [hb0]; simp)] at he
        refine Row.slc hs (a := 0) (b := k) (m := s.cap) rfl rfl rfl (Nat.zero_le _) (by omega) (by omega) (Nat.le_refl _) fun t30 ht30 _ _ _ => Ints.idx hs rfl hx ?_
        rw [List.drop_zero, Nat.sub_zero, ← List.map_take] at ht30
        refine ⟨(placeF (l.take k) x 0, ()), place_spec ht30 ⟨rfl, rfl⟩, iteP_dec (fun hpos => bindI_intro (down ?_)) (fun hneg => bindI_intro ?_)⟩
        · have hin : x ∈ l.take k := by
            rcases Classical.em (x ∈ l.take k) with h9 | h9
            · exact h9
            · have := (placeF_neg (i := 0)).2 h9
              dsimp only at hpos
              omega
          rw [hbL, decide_eq_true hin, Bool.or_true, Bool.true_or]
        · have hnot : x ∉ l.take k := (placeF_neg (i := 0)).1 (by dsimp only at hneg; omega)
          rw [wrap64 (by omega) (by omega)]
          refine ⟨⟨rfl, k + 1, by omega, by omega, ?_⟩, by omega⟩
          rw [hbL, he, decide_eq_false hnot]
          show badL _ _ _ = _
          congr 1
          funext m
          rw [htk, Bool.eq_iff_iff]
          simp
    · rw [List.drop_of_length_le (by omega), badL] at hbL
      rw [hbL] at hk
      refine loopM_intro (fun p h' => ∃ (k : Nat) (qs' : List Q) (Z' : Nat → Prop), p.1 = (k : Int) ∧ k ≤ l.length ∧ RefR h' T Z' rb so sc op qs' ∧ qs'.length = qs.length ∧ Stz T Z T Z' h19 h' ∧ brA (csOf qs) l = brA (csOf qs') (l.drop k)) (fun p _ => l.length - p.1.toNat)
        ⟨0, qs, Z, rfl, Nat.zero_le _, hn, rfl, Stz.refl _ _ _, rfl⟩ ?_
      rintro ⟨i, u⟩ h20 ⟨k, qs', Z', hi, hkl2, hn', hql', hst, hbA⟩
      dsimp only at hi
      subst hi
      dsimp only
      refine iteP_dec (fun hlt => ?_) (fun hge => bindI_intro ?_)
      · have hk1 : k < l.length := by omega
        have hx : l[k]? = some l[k] := List.getElem?_eq_getElem hk1
        have hdr : l.drop k = l[k] :: l.drop (k + 1) := List.drop_eq_getElem_cons hk1
        obtain ⟨_, hx1, hx2⟩ := hall l[k] (List.getElem_mem hk1)
        generalize l[k] = x at hx hdr hx1 hx2
        obtain ⟨j, hj⟩ := Int.eq_ofNat_of_zero_le (show 0 ≤ x - 1 by omega)
        have hjl : j < qs'.length := by omega
        have hq : qs'[j]? = some qs'[j] := List.getElem?_eq_getElem hjl
        generalize qs'[j] = q at hq
        have hs' : Ints h20 s l := Row.congr hs fun b o hp _ hl => hst.upd.old b hl fun hb => hb (hd b (by simp [Sl.blk, hp]))
        have hw : IntKind.wrap .i64 (x - 1) = (j : Int) := by rw [wrap64 (by omega) (by omega)]; exact hj
        refine deref_ (ldLk hn'.cells rfl (Ints.idx hs' rfl hx ?_))
        rw [hw]
        refine idxR hn' hq rfl fun b hb => ?_
        refine hn'.setCell (q' := (q.1, { q.2 with brk := true })) (Ext.refl h20) hq (by omega) rfl rfl hb (by
          have z := (hn'.each j q hq).congr (Z' := fun k => Z' k ∨ (h20.size ≤ k ∧ k < h20.size)) (fun k _ _ => rfl) fun k hk => Or.inl hk
          exact ⟨z.w0, z.c0, z.w1, z.c1⟩) fun h50 hn50 st50 _ _ => ?_
        refine hn50.setCells (q' := (nilRw, brC q.2)) (m := 2) (List.getElem?_set_self hjl) (by decide) rfl rfl hb (nil_z _ _ _ _) fun h51 hn51 st51 => bindI_intro ?_
        rw [wrap64 (n := (k : Int) + 1) (by omega) (by omega)]
        refine ⟨⟨k + 1, _, _, by omega, by omega, hn51, by rw [List.length_set, List.length_set]; exact hql', (hst.trans st50).trans st51, ?_⟩, by omega⟩
        have hcs : (csOf qs')[(x - 1).toNat]? = some q.2 := by rw [hj, Int.toNat_natCast, List.getElem?_map, hq]; rfl
        rw [hbA, hdr, brA, hcs]
        dsimp only
        rw [hj, Int.toNat_natCast, List.set_set]
        show brA ((qs'.map (·.2)).set j (brC q.2)) _ = brA ((qs'.set j (nilRw, brC q.2)).map (·.2)) _
        rw [List.map_set]
      · have hkl' : k = l.length := by omega
        subst hkl'
        rw [List.drop_length, brA] at hbA
        rw [hbA] at hk
        exact hk h20 Z' ⟨so, sc, op, qs', hn', hps, hopl, rfl⟩ hst

/-! ### Fork -/
theorem fork_end {h h13 : Heap} {T : Nat → Option Nat} {Z : Nat → Prop} {rb : Nat} {so sc so' sc' : Sl} {op : List Int} {qs : List Q} (hn : RefR h T Z rb so sc op qs) (e : Ext h h13) (ho : Own h13 h.size so' 1 (op.map iv)) (hc : Own h13 h.size sc' 8 (qs.flatMap rC))
    (hd : ∀ k, so'.blk = some k → sc'.blk ≠ some k) {K : Option Addr → Heap → Prop} (hk : ∀ h' T' rb', RefR h' T' Z rb' so' sc' op qs → Ext h h' → (∀ k, T' k ≠ none → h.size ≤ k) → K (some ⟨rb', 0, none⟩) h') :
    newC h13 [slV so', slV sc'] 74 fun b13 h14 => K (some ⟨b13, 0, none⟩) h14 := by
  refine newK fun h14 c14 e14 z14 => ?_
  have z13 := e.size
  have low : ∀ k, (if k = h13.size then some 0 else if so'.blk = some k then some 1 else if sc'.blk = some k then some 2 else none : Option Nat) ≠ none → h.size ≤ k ∧ k < h14.size := fun k hk => by
    by_cases q1 : k = h13.size
    · omega
    · by_cases q2 : so'.blk = some k
      · have := ho.lt q2; omega
      · by_cases q3 : sc'.blk = some k
        · have := hc.lt q3; omega
        · simp only [q1, q2, q3, if_false] at hk; exact absurd rfl hk
  refine hk h14 (fun k => if k = h13.size then some 0 else if so'.blk = some k then some 1 else if sc'.blk = some k then some 2 else none) h13.size ⟨c14, by simp, (ho.congr fun k _ hl _ => e14.old k hl).base (Nat.zero_le _), fun k hk => ?_, (hc.congr fun k _ hl _ => e14.old k hl).base (Nat.zero_le _), fun k hk => ?_,
    fun i q hq => (hn.each i q hq).congr (fun k _ hl => (e.trans e14).old k hl) fun _ h => h, fun k hk => (low k hk).2, fun k hk => by have := hn.ltz k hk; omega, fun k hk => ?_⟩ (e.trans e14) fun k hk => (low k hk).1
  · show (if _ then _ else _) = _
    rw [if_neg (by have := (ho.lt hk).2; omega), if_pos hk]
  · show (if _ then _ else _) = _
    rw [if_neg (by have := (hc.lt hk).2; omega), if_neg (fun h9 => hd k h9 hk), if_pos hk]
  · have hz := hn.ltz k hk
    refine Classical.byContradiction fun h9 => ?_
    have := (low k h9).1
    omega

theorem rC_one (qs : List Q) : (qs.flatMap rC).all oneCell = true := by
  rw [List.all_eq_true]
  intro v hv
  obtain ⟨q, _, hv⟩ := List.mem_flatMap.1 hv
  simp only [rC, List.mem_cons, List.not_mem_nil, or_false] at hv
  rcases hv with rfl | rfl | rfl | rfl | rfl | rfl | rfl | rfl <;> rfl

theorem RFork_spec {h : Heap} {T : Nat → Option Nat} {Z : Nat → Prop} {rb ob : Nat} {ps : Int → Bool} {cs : List Cn} (hn : Ref h T Z rb ob ps cs) (hlen : cs.length ≤ 1073741824) (hob : ob ≤ 1073741824) {K : Option Addr → Heap → Prop}
    (hk : ∀ h' T' rb', Ref h' T' Z rb' ob ps cs → Ext h h' → (∀ k, T' k ≠ none → h.size ≤ k) → K (some ⟨rb', 0, none⟩) h') : m_spillwayref22_Net_Fork (some ⟨rb, 0, none⟩) K h := by
  obtain ⟨so, sc, op, qs, hn, hps, hopl, rfl⟩ := hn
  unfold m_spillwayref22_Net_Fork g_spillwayref22_Net_Fork
  have hol : so.len = op.length := Ints.length hn.opn.row
  have hql := hn.length
  rw [List.length_map] at hlen
  have hk' : ∀ h' T' rb' so' sc', RefR h' T' Z rb' so' sc' op qs → Ext h h' → (∀ k, T' k ≠ none → h.size ≤ k) → K (some ⟨rb', 0, none⟩) h' := fun h' T' rb' so' sc' a b c => hk h' T' rb' ⟨so', sc', op, qs, a, hps, hopl, rfl⟩ b c
  have c0 : h.cell rb 0 = some (slV so) := by rw [cell_block hn.cells]; rfl
  have c1 : h.cell rb (0 + 1) = some (slV sc) := by rw [cell_block hn.cells]; rfl
  have lo : (op.map iv).length = so.len * 1 := by simp [hol]
  have lc : (qs.flatMap rC).length = sc.len * 8 := by rw [flat_len rC_len]; omega
  refine iteP_false (deref_ (deref_ ⟨so, c0, sc, c1, ⟨?_, ?_⟩⟩))
  · refine newE 1 fun h5 ho5 e5 z5 => ⟨held1 c1 e5, held1 c0 e5, ⟨?_, ?_⟩⟩
    · -- the ports' row whole, then the connections'
      refine Row.rd (Row.ext hn.opn.row e5) (Own.app ho5 lo (iv_one _) rfl (by dsimp only; omega) (by dsimp only; omega) e5.size fun t6 h7 ho7 hl7 hu7 hb7 => ?_)
      rw [List.nil_append] at ho7
      have e7 : Ext h h7 := e5.then hu7 fun k hk => (ho5.lt hk).1
      refine ⟨held1 c1 e7, newE 8 fun h9 ho9 e9 z9 => ⟨held1 c1 (e7.trans e9), ?_⟩⟩
      refine Row.rd (Row.ext hn.row.row (e7.trans e9)) (Own.app ho9 lc (rC_one _) rfl (by dsimp only; omega) (by dsimp only; omega) e9.size fun t10 h11 ho11 hl11 hu11 hb11 => ?_)
      rw [List.nil_append] at ho11
      have e11 : Ext h7 h11 := e9.then hu11 fun k hk => (ho9.lt hk).1
      refine fork_end hn (e7.trans e11) (ho7.congr fun k _ hl _ => e11.old k hl) (ho11.base e7.size) (fun k h1 h2 => ?_) fun h' T' rb' a b c => hk' h' T' rb' t6 t10 a b c
      have := (ho7.lt h1).2
      have := (ho11.lt h2).1
      omega
    · refine newC_intro ?_
      have e16 := Ext.push h5 (.cells ([] : List Value).toArray 88)
      have ho16 := Own.newC (h := h5) (cells := []) (t := 88) (size := 8) (n := 0) rfl (by decide)
      have z16 : (h5.push (.cells ([] : List Value).toArray 88)).size = h5.size + 1 := by simp
      generalize h5.push (.cells ([] : List Value).toArray 88) = h16 at e16 ho16 z16
      refine ⟨held1 c1 (e5.trans e16), held1 c0 (e5.trans e16), ?_⟩
      refine Row.rd (Row.ext hn.opn.row (e5.trans e16)) (Own.app (ho5.congr (h' := h16) fun k _ hl _ => e16.old k hl) lo (iv_one _) rfl (by dsimp only; omega) (by dsimp only; omega) (e5.trans e16).size fun t17 h18 ho18 hl18 hu18 hb18 => ?_)
      rw [List.nil_append] at ho18
      have e18 : Ext h h18 := (e5.trans e16).then hu18 fun k hk => (ho5.lt hk).1
      have z18 := hu18.size
      have o18 : Own h18 h5.size ⟨some ⟨h5.size, 0, none⟩, 0, 0⟩ 8 [] := ho16.congr fun k hk hl hge => hu18.old k hl (by simp [Sl.blk]; omega)
      refine ⟨held1 c1 e18, ?_⟩
      refine Row.rd (Row.ext hn.row.row e18) (Own.app o18 lc (rC_one _) rfl (by dsimp only; omega) (by dsimp only; omega) (by omega) fun t20 h21 ho21 hl21 hu21 hb21 => ?_)
      rw [List.nil_append] at ho21
      have e21 : Ext h h21 := e18.then hu21 fun k hk => by simp [Sl.blk] at hk; omega
      have t17b : ∀ k, t17.blk = some k → k = h.size ∨ k = h16.size := fun k hk => by
        rcases hb18 with e1 | e1
        · rw [e1] at hk; simp [Sl.blk] at hk; exact .inl hk.symm
        · rw [e1] at hk; exact .inr (Option.some.inj hk).symm
      have t20b : ∀ k, t20.blk = some k → k = h5.size ∨ k = h18.size := fun k hk => by
        rcases hb21 with e1 | e1
        · rw [e1] at hk; simp [Sl.blk] at hk; exact .inl hk.symm
        · rw [e1] at hk; exact .inr (Option.some.inj hk).symm
      refine fork_end hn e21 (ho18.congr fun k hk hl _ => hu21.old k hl (by simp [Sl.blk]; have := t17b k hk; omega)) (ho21.base (by omega)) (fun k h1 h2 => ?_) fun h' T' rb' a b c => hk' h' T' rb' t17 t20 a b c
      have a := t17b k h1
      have b := t20b k h2
      have := (ho18.lt h1).2
      omega
  · refine newE 8 fun h26 ho26 e26 z26 => ⟨held1 c1 e26, held1 c0 e26, newC_intro ?_⟩
    have e28 := Ext.push h26 (.cells ([] : List Value).toArray 3)
    have ho28 := Own.newC (h := h26) (cells := []) (t := 3) (size := 1) (n := 0) rfl (by decide)
    have z28 : (h26.push (.cells ([] : List Value).toArray 3)).size = h26.size + 1 := by simp
    generalize h26.push (.cells ([] : List Value).toArray 3) = h28 at e28 ho28 z28
    refine ⟨held1 c1 (e26.trans e28), held1 c0 (e26.trans e28), ?_⟩
    refine Row.rd (Row.ext hn.opn.row (e26.trans e28)) (Own.app ho28 lo (iv_one _) rfl (by dsimp only; omega) (by dsimp only; omega) (by omega) fun t29 h30 ho30 hl30 hu30 hb30 => ?_)
    rw [List.nil_append] at ho30
    have e30 : Ext h h30 := (e26.trans e28).then hu30 fun k hk => by simp [Sl.blk] at hk; omega
    have z30 := hu30.size
    have o30 : Own h30 h.size ⟨some ⟨h.size, 0, none⟩, 0, 0⟩ 8 [] := (ho26.congr (h' := h28) fun k _ hl _ => e28.old k hl).congr fun k hk hl hge => hu30.old k hl (by simp [Sl.blk] at hk ⊢; omega)
    refine ⟨held1 c1 e30, ?_⟩
    refine Row.rd (Row.ext hn.row.row e30) (Own.app o30 lc (rC_one _) rfl (by dsimp only; omega) (by dsimp only; omega) (by omega) fun t32 h33 ho33 hl33 hu33 hb33 => ?_)
    rw [List.nil_append] at ho33
    have e33 : Ext h h33 := e30.then hu33 fun k hk => by simp [Sl.blk] at hk; omega
    have t29b : ∀ k, t29.blk = some k → k = h26.size ∨ k = h28.size := fun k hk => by
      rcases hb30 with e1 | e1
      · rw [e1] at hk; simp [Sl.blk] at hk; exact .inl hk.symm
      · rw [e1] at hk; exact .inr (Option.some.inj hk).symm
    have t32b : ∀ k, t32.blk = some k → k = h.size ∨ k = h30.size := fun k hk => by
      rcases hb33 with e1 | e1
      · rw [e1] at hk; simp [Sl.blk] at hk; exact .inl hk.symm
      · rw [e1] at hk; exact .inr (Option.some.inj hk).symm
    refine fork_end hn e33 ((ho30.congr fun k hk hl _ => hu33.old k hl (by simp [Sl.blk]; have := t29b k hk; omega)).base (by omega)) ho33 (fun k h1 h2 => ?_) fun h' T' rb' a b c => hk' h' T' rb' t29 t32 a b c
    have a := t29b k h1
    have b := t32b k h2
    have := (ho30.lt h1).2
    omega

end Go.Proofs.Ytgkgheaanfgecaa
