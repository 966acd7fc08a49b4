/- A network's calls: Conns, Dial, Break, Look, Port; live. -/
import Derived.Test.YtgkgheaanfgecaaStD
namespace Go.Proofs.Ytgkgheaanfgecaa
open Go Go.Fw

/-! ### Conns -/
def connsF : Nat → List Cn → List Int
  | _, [] => []
  | k, c :: r => if c.brk then connsF (k + 1) r else ((k : Int) + 1) :: connsF (k + 1) r
theorem connsF_snoc (c : Cn) : ∀ (l : List Cn) (k : Nat), connsF k (l ++ [c]) = connsF k l ++ (if c.brk then [] else [((k + l.length : Nat) : Int) + 1])
  | [], k => by
    simp only [List.nil_append, connsF, List.length_nil, Nat.add_zero]
  | d :: l, k => by
    have e : k + 1 + l.length = k + (d :: l).length := by rw [List.length_cons]; omega
    simp only [List.cons_append, connsF, connsF_snoc c l (k + 1), e]
    split <;> rfl
theorem connsF_len : ∀ (l : List Cn) (k : Nat), (connsF k l).length ≤ l.length
  | [], _ => Nat.le_refl _
  | c :: l, k => by
    have := connsF_len l (k + 1)
    simp only [connsF, List.length_cons]
    split
    · omega
    · simp only [List.length_cons]; omega

theorem Conns_spec {h : Heap} {T : Nat → Option Nat} {nb : Nat} {ps : Int → Bool} {cs : List Cn} (hn : Net h T nb ps cs) (hlen : cs.length ≤ 1073741824) {K : Sl → Heap → Prop}
    (hk : ∀ out h', Own h' h.size out 1 ((connsF 0 cs).map iv) → Ext h h' → K out h') : m_stream_Net_Conns (some ⟨nb, 0, none⟩) K h := by
  obtain ⟨mb, s, qs, hn, rfl⟩ := hn
  unfold m_stream_Net_Conns g_stream_Net_Conns
  rw [List.length_map] at hlen
  have hl := hn.length
  refine iteP_false (deref_ (ldLk hn.cells rfl ?_))
  refine loopM_intro (fun p h' => ∃ k : Nat, p.2.1 = (k : Int) ∧ k ≤ qs.length ∧ Ext h h' ∧ Own h' h.size p.1 1 ((connsF 0 ((csOf qs).take k)).map iv)) (fun p _ => qs.length - p.2.1.toNat) ⟨0, rfl, Nat.zero_le _, Ext.refl _, Own.nil _ _ 1⟩ ?_
  rintro ⟨l, i, u⟩ h' ⟨k, hi, hkl, e1, ho⟩
  dsimp only at hi ho
  subst hi
  dsimp only
  have z1 := e1.size
  have hol := ho.len
  have hcl := connsF_len ((csOf qs).take k) 0
  rw [List.length_take] at hcl
  simp only [List.length_map, Nat.mul_one] at hol
  refine iteP_dec (fun hlt => ?_) (fun hge => ?_)
  · have hk1 : k < qs.length := by omega
    have hq : qs[k]? = some qs[k] := List.getElem?_eq_getElem hk1
    have htk : (csOf qs).take (k + 1) = (csOf qs).take k ++ [qs[k].2] := by
      rw [List.take_succ_eq_append_getElem (by simpa using hk1)]
      simp
    generalize qs[k] = q at hq htk
    have hn1 := hn.ext e1
    refine idxQ hn1 hq rfl fun b hb => ?_
    refine ⟨_, hn1.cell hq hb (m := 0) (by omega) rfl, _, hn1.cell hq hb (m := 1) (by omega) rfl, _, hn1.cell hq hb (m := 2) (by omega) rfl, _, hn1.cell hq hb (m := 3) (by omega) rfl, _, hn1.cell hq hb (m := 4) (by omega) rfl,
      _, hn1.cell hq hb (m := 5) (by omega) rfl, _, hn1.cell hq hb (m := 6) (by omega) rfl, _, hn1.cell hq hb (m := 7) (by omega) rfl, ?_⟩
    refine newK fun h14 c14 e14 z14 => bindI_intro (stsAll c14 rfl rfl fun h15 c15 u15 z15 => ldBk c15 rfl ?_)
    have e15 : Ext h h15 := (e1.trans e14).then u15 fun k hk => by omega
    have ho15 : Own h15 h.size l 1 ((connsF 0 ((csOf qs).take k)).map iv) := ho.congr fun k hk hl _ => (u15.old k (by omega) (by omega)).trans (e14.old k hl)
    have hw : IntKind.wrap .i64 ((k : Int) + 1) = (k : Int) + 1 := wrap64 (by omega) (by omega)
    have hl0 : ((csOf qs).take k).length = k := by rw [List.length_take, List.length_map]; omega
    refine ⟨fun hb0 => ?_, fun hb1 => ?_⟩
    · have hb0' : q.2.brk = false := by simpa using hb0
      refine newK fun h18 c18 e18 z18 => ?_
      have hrow : Row h18 ⟨some ⟨h15.size, 0, none⟩, 1, 1⟩ 1 [iv (IntKind.wrap .i64 ((k : Int) + 1))] := ⟨rfl, Nat.le_refl _, (show 1 < 9223372036854775808 by decide), .inr ⟨h15.size, 0, rfl, has_block c18 fun i v hi => by simpa using hi⟩⟩
      refine hrow.rd ?_
      have ho18 := ho15.congr (h' := h18) fun k _ hl _ => e18.old k hl
      refine Own.app ho18 rfl rfl rfl (by omega) (by omega) (by omega) fun s' h20 ho' hl' hu _ => ?_
      rw [hw] at ho' ⊢
      refine ⟨⟨k + 1, by omega, by omega, (e15.trans e18).then hu fun k hk => (ho15.lt hk).1, ?_⟩, by omega⟩
      rw [htk, connsF_snoc, hb0', hl0, Nat.zero_add, if_neg (by simp), List.map_append]
      exact ho'
    · have hb1' : q.2.brk = true := by simpa using hb1
      rw [hw]
      refine ⟨⟨k + 1, by omega, by omega, e15, ?_⟩, by omega⟩
      rw [htk, connsF_snoc, hb1', if_pos rfl, List.append_nil]
      exact ho15
  · rw [List.take_of_length_le (by rw [List.length_map]; omega)] at ho
    exact hk l h' ho e1

/-! ### Dial -/
def newC_ (port : Int) : Cn := ⟨⟨[], [], false⟩, ⟨[], [], false⟩, port, false⟩
def diS (ps : Int → Bool) (cs : List Cn) (port : Int) : (Int × Int) × List Cn :=
  if badP port then ((0, 2), cs) else if ps port = false then ((0, 51), cs) else if (connsF 0 cs).length ≥ 64 then ((0, 3), cs) else (((cs.length : Int) + 1, 0), cs ++ [newC_ port])

theorem NetR.grow {h h1 : Heap} {T : Nat → Option Nat} {nb mb : Nat} {s s' : Sl} {ps : Int → Bool} {qs : List Q} (hn : NetR h T nb mb s ps qs) {q : Q} (ho : Own h1 0 s' 8 ((qs ++ [q]).flatMap qC)) (hu : Upd (fun k => s.blk = some k) h h1)
    (hnew : s'.blk = s.blk ∨ ∀ k, s'.blk = some k → h.size ≤ k) (hq : QR h T qs.length q) {K : Heap → Prop} (hfin : ∀ h2 T', NetR h2 T' nb mb s' ps (qs ++ [q]) → Stp T T' h h2 → K h2) : st h1 nb 1 (slV s') K := by
  have hT0 : ∀ k, h.size ≤ k → T k = none := fun k hk => by
    rcases hT : T k with _ | t
    · rfl
    · have := hn.lt k (by rw [hT]; simp); omega
  have hu' : Upd (fun k => T k = some 2) h h1 := hu.mono fun k _ hk => hn.tr k hk
  have hnbl := blk_lt hn.cells
  have hc1 : h1[nb]? = some (.cells #[.map (some mb), slV s] 60 (0, 0)) := by
    rw [hu'.old nb hnbl (by rw [hn.tn]; simp)]; exact hn.cells
  have z1 := hu.size
  refine put2 hc1 (by simp) rfl fun h2 c2 u2 z2 => ?_
  have hnew' : ∀ k, s'.blk = some k → T k = some 2 ∨ h.size ≤ k := fun k hk => by
    rcases hnew with e | e
    · rw [e] at hk; exact .inl (hn.tr k hk)
    · exact .inr (e k hk)
  have hT' : ∀ k, T k ≠ none → (if s'.blk = some k then some 2 else T k) = T k := fun k hk => by
    split
    · rename_i hx1
      rcases hnew' k hx1 with h9 | h9
      · exact h9.symm
      · exact absurd (hT0 k h9) hk
    · rfl
  have old : ∀ k t, T k = some t → t ≠ 0 → t ≠ 2 → k < h.size → h2[k]? = h[k]? := fun k t hk h0 h9 hl =>
    (u2.old k (by omega) (by rintro rfl; rw [hn.tn] at hk; exact h0 (Option.some.inj hk).symm)).trans (hu'.old k hl (by rw [hk]; simp only [Option.some.injEq]; exact h9))
  have mv : ∀ {y : Sl} {tag : Nat} {m : List UInt8}, RowT h T y tag m → 2 < tag → RowT h2 (fun k => if s'.blk = some k then some 2 else T k) y tag m := fun {y tag m} hy h9 =>
    (hy.congr fun k hk hl => old k tag hk (by omega) (by omega) hl).tags hT'
  refine hfin h2 (fun k => if s'.blk = some k then some 2 else T k) ⟨c2, by show (if _ then _ else _) = _; rw [hT' nb (by rw [hn.tn]; simp)]; exact hn.tn, ?_, by show (if _ then _ else _) = _; rw [hT' mb (by rw [hn.tm]; simp)]; exact hn.tm,
    ho.congr fun k hk hl _ => u2.old k hl ?_, fun k hk => by simp only [hk, if_true], fun i r hr => ?_, fun k hk => ?_⟩ ⟨?_, fun k hk => ?_⟩
  · obtain ⟨es, cl, hp, hr⟩ := hn.ports
    exact ⟨es, cl, by rw [old mb 1 hn.tm (by decide) (by decide) (blk_lt hp)]; exact hp, hr⟩
  · rintro rfl
    rcases hnew' _ hk with h9 | h9
    · rw [hn.tn] at h9; cases h9
    · omega
  · rcases Nat.lt_or_ge i qs.length with hi | hi
    · rw [List.getElem?_append_left hi] at hr
      obtain ⟨a1, a2, a3, a4⟩ := hn.each i r hr
      exact ⟨mv a1 (by omega), mv a2 (by omega), mv a3 (by omega), mv a4 (by omega)⟩
    · rw [List.getElem?_append_right hi] at hr
      have : i - qs.length = 0 := by
        rcases Nat.eq_zero_or_pos (i - qs.length) with h9 | h9
        · exact h9
        · rw [List.getElem?_eq_none (by simp; omega)] at hr; cases hr
      have hi' : i = qs.length := by omega
      subst hi'
      simp at hr
      subst hr
      obtain ⟨a1, a2, a3, a4⟩ := hq
      exact ⟨mv a1 (by omega), mv a2 (by omega), mv a3 (by omega), mv a4 (by omega)⟩
  · by_cases hx1 : s'.blk = some k
    · have := (ho.lt hx1).2; omega
    · simp only [hx1, if_false] at hk
      have := hn.lt k hk; omega
  · exact Upd.then (hu'.mono fun k _ hk => by show T k ≠ none; rw [hk]; simp) u2 fun k _ hk => by subst hk; show T k ≠ none; rw [hn.tn]; simp
  · by_cases hx1 : s'.blk = some k
    · rcases hnew' k hx1 with h9 | h9
      · exact .inl (by rw [h9]; simp)
      · exact .inr h9
    · simp only [hx1, if_false] at hk
      exact .inl hk

def nilRw : Rw := ⟨⟨none, 0, 0⟩, ⟨none, 0, 0⟩, ⟨none, 0, 0⟩, ⟨none, 0, 0⟩⟩
theorem nil_row (h : Heap) (T : Nat → Option Nat) (tag : Nat) : RowT h T ⟨none, 0, 0⟩ tag [] := ⟨Own.nil _ _ 1, fun k hk => by simp [Sl.blk] at hk⟩
theorem nil_q (h : Heap) (T : Nat → Option Nat) (i : Nat) (p : Int) (b : Bool) : QR h T i (nilRw, ⟨⟨[], [], false⟩, ⟨[], [], false⟩, p, b⟩) := ⟨nil_row _ _ _, nil_row _ _ _, nil_row _ _ _, nil_row _ _ _⟩

theorem Dial_spec {h : Heap} {T : Nat → Option Nat} {nb : Nat} {ps : Int → Bool} {cs : List Cn} (hn : Net h T nb ps cs) (hlen : cs.length ≤ 1073741824) {port : Int} {K : Int → Int → Heap → Prop}
    (hk : ∀ h' T', Net h' T' nb ps (diS ps cs port).2 → Stp T T' h h' → K (diS ps cs port).1.1 (diS ps cs port).1.2 h') : m_stream_Net_Dial (some ⟨nb, 0, none⟩) port K h := by
  unfold m_stream_Net_Dial g_stream_Net_Dial
  unfold diS at hk
  refine bindI_intro (bindI_intro (newK fun h2 c2 e2 z2 => ?_))
  have hrow : Ints h2 ⟨some ⟨h.size, 0, none⟩, 1, 1⟩ [port] := ⟨rfl, Nat.le_refl _, (show 1 < 9223372036854775808 by decide), .inr ⟨h.size, 0, rfl, has_block c2 fun i v hi => by simpa using hi⟩⟩
  have hn2 := hn.ext e2
  have st0 : Stp T T h h2 := ⟨e2.upd _, fun k hk => .inl hk⟩
  refine areP_spec hrow (bindI_intro ?_)
  have hpe : portE [port] = if badP port then 2 else 0 := by
    unfold portE
    simp
  rw [hpe]
  cases hbad : badP port with
  | true =>
    rw [hbad, if_pos rfl] at hk
    exact iteP_true (bindI_intro (bindI_intro (hk h2 T hn2 st0)))
  | false =>
    rw [hbad, if_neg (by simp)] at hk
    refine iteP_false ?_
    have hn2' := hn2
    obtain ⟨mb, s, qs, hnr, rfl⟩ := hn2'
    refine deref_ ⟨some mb, (cell_block hnr.cells).trans rfl, hnr.ports.get port (bindB_intro ?_)⟩
    cases hps : ps port with
    | false =>
      rw [hps, if_pos rfl] at hk
      exact iteP_true (bindI_intro (bindI_intro (hk h2 T hn2 st0)))
    | true =>
      rw [hps, if_neg (by simp)] at hk
      refine iteP_false (Conns_spec hn2 hlen fun out h14 ho14 e14 => bindB_intro ?_)
      have hol : out.len = (connsF 0 (qs.map (·.2))).length := Ints.length ho14.row
      have st14 : Stp T T h h14 := ⟨(e2.trans e14).upd _, fun k hk => .inl hk⟩
      rw [hol]
      refine iteP_dec (fun hfull => bindI_intro (bindI_intro ?_)) (fun hok => ?_)
      · rw [if_pos (by omega)] at hk
        exact hk h14 T (hn2.ext e14) st14
      · rw [if_neg (by omega)] at hk
        have hnr14 := hnr.ext e14
        refine deref_ (ldLk hnr14.cells rfl (newK fun h22 c22 e22 z22 => ?_))
        have hrow22 : Row h22 ⟨some ⟨h14.size, 0, none⟩, 1, 1⟩ 8 (qC (nilRw, newC_ port)) := ⟨rfl, Nat.le_refl _, (show 1 < 9223372036854775808 by decide), .inr ⟨h14.size, 0, rfl, has_block c22 fun i v hi => by simpa [qC, nilRw, newC_, slV] using hi⟩⟩
        refine hrow22.rd ?_
        have hnr22 := hnr14.ext e22
        have hsl := hnr.length
        rw [List.length_map] at hlen
        refine Own.app hnr22.row rfl rfl rfl (by omega) (by omega) (Nat.zero_le _) fun s' h24 ho' hl' hu hblk => deref_ ?_
        have e : qs.flatMap qC ++ qC (nilRw, newC_ port) = (qs ++ [(nilRw, newC_ port)]).flatMap qC := by simp
        rw [e] at ho'
        refine hnr22.grow ho' hu (hblk.imp id fun h9 k hk => by rw [h9] at hk; exact Nat.le_of_eq (Option.some.inj hk)) (nil_q _ _ _ _ _) fun h27 T' hn27 st27 => ?_
        refine deref_ (ldLk hn27.cells rfl (bindI_intro (bindI_intro ?_)))
        have hl27 := hn27.length
        rw [List.length_append, List.length_singleton] at hl27
        have := hk h27 T' ⟨mb, s', _, hn27, by simp [newC_]⟩ ((st14.trans ⟨e22.upd _, fun k hk => .inl hk⟩).trans st27)
        rw [List.length_map] at this
        rw [hl27]
        exact this

/-! ### Break -/
def brC (c : Cn) : Cn := ⟨⟨[], [], false⟩, ⟨[], [], false⟩, c.port, true⟩
def brF (cs : List Cn) : List Int → (Int → Bool) → Bool → Option Bool
  | [], _, d => some d
  | k :: r, seen, d => if errS cs k 0 0 = 4 then none else brF cs r (fun m => seen m || m == k) (d || (errS cs k 0 0 != 0 || seen k))
def brA (cs : List Cn) : List Int → List Cn
  | [] => cs
  | k :: r => brA (match cs[(k - 1).toNat]? with
    | some c => cs.set (k - 1).toNat (brC c)
    | none => cs) r
def brS (cs : List Cn) (l : List Int) : Int × List Cn := match brF cs l (fun _ => false) false with
  | none => (4, cs)
  | some true => (51, cs)
  | some false => (0, brA cs l)

theorem errS_in {cs : List Cn} {k : Int} (h : errS cs k 0 0 ≠ 4) : 1 ≤ k ∧ k ≤ cs.length := by
  unfold errS at h
  split at h
  · exact absurd rfl h
  · split at h
    · exact absurd rfl h
    · omega
theorem brF_in {cs : List Cn} : ∀ {l : List Int} {seen : Int → Bool} {d b : Bool}, brF cs l seen d = some b → ∀ k, k ∈ l → 1 ≤ k ∧ k ≤ cs.length
  | [], _, _, _, _, k, hk => by cases hk
  | x :: r, seen, d, b, h, k, hk => by
    unfold brF at h
    split at h
    · cases h
    · rename_i hx
      rcases List.mem_cons.1 hk with rfl | hk
      · exact errS_in hx
      · exact brF_in h k hk

theorem NetR.setConn {h : Heap} {T : Nat → Option Nat} {nb mb : Nat} {s : Sl} {ps : Int → Bool} {qs : List Q} (hn : NetR h T nb mb s ps qs) {i : Nat} {q : Q} (hq : qs[i]? = some q) {b : Nat} (hb : s.blk = some b) {K : Heap → Prop}
    (hfin : ∀ h2, NetR h2 T nb mb s ps (qs.set i (nilRw, brC q.2)) → Stp T T h h2 → K h2) : sts h b (i * 8) (qC (nilRw, brC q.2)) K := by
  have hlt : i < qs.length := by
    rcases Nat.lt_or_ge i qs.length with h9 | h9
    · exact h9
    · rw [List.getElem?_eq_none h9] at hq; cases hq
  have hn0 := hn
  have hrow := hn.row
  have hlen := hrow.len
  have hfl := flat_len qC_len qs
  rcases hrow.at_ with ⟨hp, _⟩ | ⟨b', c, e, hp, hbb, hc, hcs, hvs⟩
  · simp [Sl.blk, hp] at hb
  · simp [Sl.blk, hp] at hb
    subst hb
    have hcap := hrow.cap
    have hfit : i * 8 + (qC (nilRw, brC q.2)).length ≤ c.size := by
      rw [hcs, qC_len]
      omega
    obtain ⟨c', hc', hl'⟩ := puts_block (vs := qC (nilRw, brC q.2)) (o := i * 8) hc hfit
    have hflat : ∀ (l : List Q) (i : Nat) (r : Q), i < l.length → (l.set i r).flatMap qC = (l.flatMap qC).take (i * 8) ++ qC r ++ (l.flatMap qC).drop (i * 8 + 8) := by
      intro l
      induction l with
      | nil => intro i r h; simp at h
      | cons x l ih =>
        intro i r h
        cases i with
        | zero => simp [qC_len, List.drop_append]
        | succ i =>
          rw [List.set_cons_succ, List.flatMap_cons, ih i r (by simpa using h), List.flatMap_cons]
          have e1 : (i + 1) * 8 = (qC x).length + i * 8 := by rw [qC_len]; omega
          have e2 : (i + 1) * 8 + 8 = (qC x).length + (i * 8 + 8) := by rw [qC_len]; omega
          rw [e2, e1, List.take_length_add_append, List.drop_length_add_append]
          simp [List.append_assoc]
    refine ⟨free_block hc hfit, rfl, ?_⟩
    have hT : T b' = some 2 := hn.tr b' (by simp [Sl.blk, hp])
    have u : Upd (· = b') h (h.puts b' (i * 8) (qC (nilRw, brC q.2))) := Upd.puts h b' (i * 8) _
    have old : ∀ k t, T k = some t → t ≠ 2 → k < h.size → (h.puts b' (i * 8) (qC (nilRw, brC q.2)))[k]? = h[k]? := fun k t hk ht hl => u.old k hl (by rintro rfl; rw [hT] at hk; exact ht (Option.some.inj hk).symm)
    have mv : ∀ {i' : Nat} {r : Q}, QR h T i' r → QR (h.puts b' (i * 8) (qC (nilRw, brC q.2))) T i' r := fun {i' r} hr => by
      obtain ⟨a1, a2, a3, a4⟩ := hr
      exact ⟨a1.congr fun k hk hl => old k _ hk (by omega) hl, a2.congr fun k hk hl => old k _ hk (by omega) hl, a3.congr fun k hk hl => old k _ hk (by omega) hl, a4.congr fun k hk hl => old k _ hk (by omega) hl⟩
    refine hfin _ ⟨?_, hn.tn, ?_, hn.tm, ⟨?_, hrow.cap, hrow.big, .inr ⟨b', c', e, hp, hbb, hc', ?_, ?_⟩⟩, hn.tr, fun i' r hr => ?_, fun k hk => by rw [puts_size]; exact hn.lt k hk⟩ ⟨u.mono fun k _ hk => by subst hk; show T k ≠ none; rw [hT]; simp, fun k hk => .inl hk⟩
    · rw [old nb 0 hn.tn (by decide) (blk_lt hn.cells)]; exact hn.cells
    · obtain ⟨es, cl, hp, hr⟩ := hn.ports
      exact ⟨es, cl, by rw [old mb 1 hn.tm (by decide) (blk_lt hp)]; exact hp, hr⟩
    · rw [flat_len qC_len, List.length_set, ← hfl]; exact hlen
    · have := congrArg List.length hl'
      simp only [List.length_append, List.length_take, List.length_drop, Array.length_toList, qC_len] at this
      rw [qC_len] at hfit
      omega
    · rw [hl', hflat qs i _ hlt, hvs, qC_len]
      have hsl : s.len * 8 = qs.length * 8 := by omega
      have hA : i * 8 + 8 ≤ s.len * 8 := by omega
      have hcl : s.len * 8 ≤ c.toList.length := by rw [Array.length_toList, hcs]; omega
      have hlA : (c.toList.take (i * 8) ++ qC (nilRw, brC q.2)).length = i * 8 + 8 := by rw [List.length_append, List.length_take, qC_len]; omega
      rw [List.take_take, Nat.min_eq_left (by omega), List.drop_take, List.take_append, List.take_of_length_le (Nat.le_trans (Nat.le_of_eq hlA) hA), hlA]
    · by_cases hii : i' = i
      · subst hii
        rw [List.getElem?_set_self hlt] at hr
        cases hr
        exact nil_q _ _ _ _ _
      · rw [List.getElem?_set_ne (Ne.symm hii)] at hr
        exact mv (hn.each i' r hr)

end Go.Proofs.Ytgkgheaanfgecaa
