/- The program's Fork. -/
import Derived.Test.YtgkgheaanfgecaaStN
namespace Go.Proofs.Ytgkgheaanfgecaa
open Go Go.Fw

theorem NetR.more {h : Heap} {T T' : Nat → Option Nat} {nb mb : Nat} {s : Sl} {ps : Int → Bool} {qs : List Q} (hn : NetR h T nb mb s ps qs) (hT : ∀ k, T k ≠ none → T' k = T k) (hl : ∀ k, T' k ≠ none → k < h.size) : NetR h T' nb mb s ps qs :=
  ⟨hn.cells, by rw [hT nb (by rw [hn.tn]; simp)]; exact hn.tn, hn.ports, by rw [hT mb (by rw [hn.tm]; simp)]; exact hn.tm, hn.row, fun k hk => by rw [hT k (by rw [hn.tr k hk]; simp)]; exact hn.tr k hk,
    fun i q hq => ⟨(hn.each i q hq).w0.tags hT, (hn.each i q hq).c0.tags hT, (hn.each i q hq).w1.tags hT, (hn.each i q hq).c1.tags hT⟩, hl⟩

/-- a new row gets its tag -/
theorem NetR.tag1 {h h1 : Heap} {T : Nat → Option Nat} {nb mb : Nat} {s : Sl} {ps : Int → Bool} {qs : List Q} (hn : NetR h T nb mb s ps qs) (he : Ext h h1) {x : Sl} {l : List UInt8} (hx : Own h1 h.size x 1 (l.map bv)) (t : Nat) :
    ∃ T', NetR h1 T' nb mb s ps qs ∧ RowT h1 T' x t l ∧ (∀ k, T k ≠ none → T' k = T k) ∧ (∀ k, T' k ≠ none → T k ≠ none ∨ (h.size ≤ k ∧ x.blk = some k)) := by
  have hT : ∀ k, T k ≠ none → (if x.blk = some k then some t else T k) = T k := fun k hk => by
    split
    · rename_i hx1
      have := (hx.lt hx1).1
      have := hn.lt k hk
      omega
    · rfl
  refine ⟨fun k => if x.blk = some k then some t else T k, (hn.ext he).more hT fun k hk => ?_, ⟨hx.base (Nat.zero_le _), fun k hk => by simp only [hk, if_true]⟩, hT, fun k hk => ?_⟩
  · by_cases hx1 : x.blk = some k
    · exact (hx.lt hx1).2
    · simp only [hx1, if_false] at hk
      exact Nat.lt_of_lt_of_le (hn.lt k hk) he.size
  · by_cases hx1 : x.blk = some k
    · exact .inr ⟨(hx.lt hx1).1, hx1⟩
    · simp only [hx1, if_false] at hk
      exact .inl hk

theorem MClone_spec {h : Heap} {mb : Nat} {ps : Int → Bool} (hp : PortsR h mb ps) {K : Option Nat → Heap → Prop} (hk : ∀ h', PortsR h' h.size ps → Ext h h' → h'.size = h.size + 1 → K (some h.size) h') : m_maps_Clone_stream_ports_int_bool_ (some mb) K h := by
  unfold m_maps_Clone_stream_ports_int_bool_ g_maps_Clone_stream_ports_int_bool_
  obtain ⟨es, c, hb, hks⟩ := hp
  exact iteP_false ⟨57, mb, es, c, rfl, hb, _, rfl, _, rfl, hk _ ⟨es, c, push_new, hks⟩ (Ext.push _ _) (by simp)⟩

theorem get_put (r : Rw) (e : Nat) (he : e < 2) (x y : Sl) (e' c : Nat) (he' : e' < 2) (hc : c < 2) : ((r.put e 0 x).put e 1 y).get e' c = if e' = e then (if c = 0 then x else y) else r.get e' c := by
  rcases two e he with rfl | rfl <;> rcases two e' he' with rfl | rfl <;> rcases two c hc with rfl | rfl <;> rfl
theorem qC_rw (r : Rw) (c : Cn) {e : Nat} (he : e < 2) (x y : Sl) : qC ((r.put e 0 x).put e 1 y, c) = ((qC (r, c)).set (e * 3) (slV x)).set (e * 3 + 1) (slV y) := by
  rcases two e he with rfl | rfl <;> rfl

theorem PFork_spec {h : Heap} {T : Nat → Option Nat} {nb : Nat} {ps : Int → Bool} {cs : List Cn} (hn : Net h T nb ps cs) (hlen : cs.length ≤ 1073741824) (hw : ∀ c j, c ∈ cs → j < 2 → (c.side j).way.length ≤ 65536 ∧ (c.side j).come.length ≤ 1099511627776) {K : Option Addr → Heap → Prop}
    (hk : ∀ h' T' nb', Net h' T' nb' ps cs → Ext h h' → (∀ k, T' k ≠ none → h.size ≤ k) → K (some ⟨nb', 0, none⟩) h') : m_stream_Net_Fork (some ⟨nb, 0, none⟩) K h := by
  obtain ⟨mb, s, qs, hn, rfl⟩ := hn
  unfold m_stream_Net_Fork g_stream_Net_Fork
  rw [List.length_map] at hlen
  have hl := hn.length
  refine iteP_false (deref_ ⟨some mb, (cell_block hn.cells).trans rfl, MClone_spec hn.ports fun h2 hp2 e2 z2 => newK fun h4 c4 e4 z4 => deref_ ?_⟩)
  have e04 := e2.trans e4
  refine ldLk (hn.ext e04).cells rfl ?_
  have hp4 : PortsR h4 h.size ps := by
    obtain ⟨es, c, hb, hks⟩ := hp2
    exact ⟨es, c, keepE hb e4, hks⟩
  have hN0 : NetR h4 (fun k => if k = h2.size then some 0 else if k = h.size then some 1 else none) h2.size h.size ⟨none, 0, 0⟩ ps [] := by
    refine ⟨c4, by simp, hp4, ?_, Own.nil _ _ 8, fun k hk => by simp [Sl.blk] at hk, fun i q hq => by simp at hq, fun k hk => ?_⟩
    · show (if _ then _ else _) = _
      rw [if_neg (by omega), if_pos rfl]
    · by_cases q1 : k = h2.size
      · omega
      · by_cases q2 : k = h.size
        · omega
        · rw [if_neg q1, if_neg q2] at hk; exact absurd rfl hk
  refine loopM_intro (fun p h' => ∃ (k : Nat) (T' : Nat → Option Nat) (s' : Sl) (qs' : List Q), p.1 = (k : Int) ∧ k ≤ qs.length ∧ NetR h' T' h2.size h.size s' ps qs' ∧ qs'.map (·.2) = (csOf qs).take k ∧ Ext h h' ∧ ∀ j, T' j ≠ none → h.size ≤ j) (fun p _ => qs.length - p.1.toNat)
    ⟨0, _, _, [], rfl, Nat.zero_le _, hN0, rfl, e04, fun k hk => ?_⟩ ?_
  · by_cases q1 : k = h2.size
    · omega
    · by_cases q2 : k = h.size
      · omega
      · rw [if_neg q1, if_neg q2] at hk; exact absurd rfl hk
  rintro ⟨i, u⟩ h9 ⟨k, T9, s9, qs9, hi, hkl, hN, hqs, e9, low9⟩
  dsimp only at hi
  subst hi
  dsimp only
  refine iteP_dec (fun hlt => ?_) (fun hge => ?_)
  · have hk1 : k < qs.length := by omega
    have hq : qs[k]? = some qs[k] := List.getElem?_eq_getElem hk1
    have htk : (csOf qs).take (k + 1) = (csOf qs).take k ++ [qs[k].2] := by
      rw [List.take_succ_eq_append_getElem (by simpa using hk1)]
      simp
    have hmem : qs[k].2 ∈ qs.map (·.2) := List.mem_map.2 ⟨qs[k], List.getElem_mem hk1, rfl⟩
    generalize qs[k] = q at hq htk hmem
    have hlq : qs9.length = k := by
      have := congrArg List.length hqs
      rw [List.length_map, List.length_take, List.length_map] at this
      omega
    have hn9 := hn.ext e9
    refine idxQ hn9 hq rfl fun b hb => ?_
    refine ⟨_, hn9.cell hq hb (m := 0) (by omega) rfl, _, hn9.cell hq hb (m := 1) (by omega) rfl, _, hn9.cell hq hb (m := 2) (by omega) rfl, _, hn9.cell hq hb (m := 3) (by omega) rfl, _, hn9.cell hq hb (m := 4) (by omega) rfl,
      _, hn9.cell hq hb (m := 5) (by omega) rfl, _, hn9.cell hq hb (m := 6) (by omega) rfl, _, hn9.cell hq hb (m := 7) (by omega) rfl, ?_⟩
    refine newK fun h21 c21 e21 z21 => stsAll c21 rfl rfl fun h22 c22 u22 z22 => ?_
    have e922 : Ext h9 h22 := e21.then u22 fun j hj => by omega
    have z9 := e9.size
    have hN22 := hN.ext e922
    have hb20 : T9 h9.size = none := none_new hN.lt (Nat.le_refl _)
    have c22' : h22[h9.size]? = some (.cells (qC q).toArray 66 (0, 0)) := c22
    refine loopM_intro (fun p h' => ∃ (j : Nat) (T' : Nat → Option Nat) (r : Rw), p.1 = (j : Int) ∧ j ≤ 2 ∧ NetR h' T' h2.size h.size s9 ps qs9 ∧ h'[h9.size]? = some (.cells (qC (r, q.2)).toArray 66 (0, 0)) ∧ T' h9.size = none ∧ Ext h h' ∧ (∀ j, T' j ≠ none → h.size ≤ j) ∧
        ∀ e c, e < 2 → c < 2 → if e < j then RowT h' T' (r.get e c) (4 * k + 3 + 2 * e + c) ((q.2.side e).get c) else r.get e c = q.1.get e c) (fun p _ => 2 - p.1.toNat)
      ⟨0, T9, q.1, rfl, by omega, hN22, c22', hb20, e9.trans e922, low9, fun e c _ _ => by rw [if_neg (by omega)]⟩ ?_
    rintro ⟨i, u⟩ h25 ⟨j, T5, r, hi, hj2, hN5, c5, hb5, e5, low5, hrows⟩
    dsimp only at hi
    subst hi
    dsimp only
    have hb9l := blk_lt c5
    refine iteP_dec (fun hlt2 => bindI_intro ?_) (fun hge2 => ?_)
    · have hj : j < 2 := by omega
      have r0 : r.get j 0 = q.1.get j 0 := by have := hrows j 0 hj (by omega); rw [if_neg (by omega)] at this; exact this
      have r1 : r.get j 1 = q.1.get j 1 := by have := hrows j 1 hj (by omega); rw [if_neg (by omega)] at this; exact this
      have hn5 := hn.ext e5
      have b0 : Bytes h25 (q.1.get j 0) (q.2.side j).way := ((hn5.each k q hq).get hj (c := 0) (by omega)).own.row
      have b1 : Bytes h25 (q.1.get j 1) (q.2.side j).come := ((hn5.each k q hq).get hj (c := 1) (by omega)).own.row
      have hwq := hw q.2 j hmem hj
      have cc0 : h25.cell h9.size (0 + j * 3) = some (slV (q.1.get j 0)) := by
        rw [cell_block c5, ← r0]
        have := qC_get (r, q.2) hj (c := 0) (by omega)
        simpa using this
      have cc1 : h25.cell h9.size (0 + j * 3 + 1) = some (slV (q.1.get j 1)) := by
        rw [cell_block c5, ← r1]
        have := qC_get (r, q.2) hj (c := 1) (by omega)
        simpa using this
      refine idxN_ rfl hj (idxN_ rfl hj ⟨q.1.get j 0, cc0, q.1.get j 1, cc1, ?_⟩)
      refine Clone_spec b0 (by omega) fun t29 h30 ho30 e30 => ⟨held1 cc1 e30, idxN_ rfl hj ?_⟩
      refine Clone_spec (b1.ext e30) (by omega) fun t32 h33 ho33 e33 => ?_
      obtain ⟨Ta, hNa, hra, hTa, hTa'⟩ := hN5.tag1 e30 ho30 (4 * k + 3 + 2 * j + 0)
      obtain ⟨Tb, hNb, hrb, hTb, hTb'⟩ := hNa.tag1 e33 ho33 (4 * k + 3 + 2 * j + 1)
      have z30 := e30.size
      have z33 := e33.size
      have z5 := e5.size
      have hra' : RowT h33 Tb t29 (4 * k + 3 + 2 * j + 0) (q.2.side j).way := (hra.congr fun k _ hl => e33.old k hl).tags hTb
      have tb9 : Tb h9.size = none := by
        refine Classical.byContradiction fun h99 => ?_
        rcases hTb' _ h99 with h98 | h98
        · rcases hTa' _ h98 with h97 | h97
          · exact h97 hb5
          · omega
        · omega
      have c33 : h33[h9.size]? = some (.cells (qC (r, q.2)).toArray 66 (0, 0)) := keepE (keepE c5 e30) e33
      have hN33 := hNb
      have hj8 : j * 3 + 1 < 8 := by omega
      refine put2 c33 (by show 0 + j * 3 < 8; omega) rfl fun h34 c34 u34 z34 => idxN_ rfl hj (put2 c34 (by simp [qC]; omega) rfl fun h36 c36 u36 z36 => ?_)
      rw [wrap64 (n := (j : Int) + 1) (by omega) (by omega)]
      have u36' : Upd (· = h9.size) h33 h36 := u34.trans u36
      have nt9 : ∀ {k t : Nat}, Tb k = some t → k ≠ h9.size := fun {k t} h1 h2 => by subst h2; rw [tb9] at h1; cases h1
      have e36 : Ext h h36 := ((e5.trans e30).trans e33).then u36' fun k hk => by omega
      refine ⟨⟨j + 1, Tb, (r.put j 0 t29).put j 1 t32, by omega, by omega, hN33.upd u36' (fun k _ hk => by subst hk; exact tb9), ?_, tb9, e36, fun k hk => ?_, fun e c he hc => ?_⟩, by omega⟩
      · rw [c36, qC_rw r q.2 hj]
        congr 2
        apply Array.ext'
        simp
        rfl
      · rcases hTb' _ hk with h98 | h98
        · rcases hTa' _ h98 with h97 | h97
          · exact low5 k h97
          · omega
        · omega
      · rw [get_put r j hj t29 t32 e c he hc]
        by_cases hej : e = j
        · subst hej
          rw [if_pos (by omega), if_pos rfl]
          rcases two c hc with rfl | rfl
          · exact hra'.congr fun k hk hl => u36'.old k hl (nt9 hk)
          · exact hrb.congr fun k hk hl => u36'.old k hl (nt9 hk)
        · rw [if_neg hej]
          have := hrows e c he hc
          by_cases hlt9 : e < j
          · rw [if_pos hlt9] at this
            rw [if_pos (by omega)]
            exact ((((this.congr fun k _ hl => e30.old k hl).tags hTa).congr fun k _ hl => e33.old k hl).tags hTb).congr fun k hk hl => u36'.old k hl (nt9 hk)
          · rw [if_neg hlt9] at this
            rw [if_neg (by omega)]
            exact this
    · have hj3 : j = 2 := by omega
      subst hj3
      have rt : ∀ e c, e < 2 → c < 2 → RowT h25 T5 (r.get e c) (4 * k + 3 + 2 * e + c) ((q.2.side e).get c) := fun e c he hc => by
        have := hrows e c he hc
        rw [if_pos he] at this
        exact this
      have hc3 : h25.cell h2.size (0 + 1) = some (slV s9) := by rw [cell_block hN5.cells]; rfl
      refine ⟨s9, hc3, ?_⟩
      have cc : ∀ {m : Nat} {v : Value}, (qC (r, q.2))[m]? = some v → h25.cell h9.size m = some v := fun {m v} hm => by rw [cell_block c5]; simpa using hm
      refine ⟨r.w0, cc (m := 0) rfl, r.c0, cc (m := 1) rfl, q.2.s0.x, cc (m := 2) rfl, r.w1, cc (m := 3) rfl, r.c1, cc (m := 4) rfl, q.2.s1.x, cc (m := 5) rfl, q.2.port, cc (m := 6) rfl, q.2.brk, cc (m := 7) rfl, ?_⟩
      refine newK fun h47 c47 e47 z47 => ⟨held1 hc3 e47, ?_⟩
      have hrow47 : Row h47 ⟨some ⟨h25.size, 0, none⟩, 1, 1⟩ 8 (qC (r, q.2)) := ⟨rfl, Nat.le_refl _, (show 1 < 9223372036854775808 by decide), .inr ⟨h25.size, 0, rfl, has_block c47 fun i v hi => by simpa [qC, slV] using hi⟩⟩
      have hN47 := hN5.ext e47
      have hsl := hN5.length
      refine hrow47.rd (Own.app hN47.row rfl rfl rfl (by omega) (by omega) (Nat.zero_le _) fun t48 h49 ho49 hl49 hu49 hblk => ?_)
      have e : qs9.flatMap qC ++ qC (r, q.2) = (qs9 ++ [(r, q.2)]).flatMap qC := by simp
      rw [e] at ho49
      have hQ : QR h47 T5 qs9.length (r, q.2) := by
        rw [hlq]
        exact ⟨(rt 0 0 (by omega) (by omega)).congr fun k _ hl => e47.old k hl, (rt 0 1 (by omega) (by omega)).congr fun k _ hl => e47.old k hl, (rt 1 0 (by omega) (by omega)).congr fun k _ hl => e47.old k hl, (rt 1 1 (by omega) (by omega)).congr fun k _ hl => e47.old k hl⟩
      refine hN47.grow ho49 hu49 (hblk.imp id fun h9 k hk => by rw [h9] at hk; exact Nat.le_of_eq (Option.some.inj hk)) hQ fun h50 T50 hN50 st50 => ?_
      rw [wrap64 (n := (k : Int) + 1) (by omega) (by omega)]
      have e47' := e5.trans e47
      refine ⟨⟨k + 1, T50, t48, _, by omega, by omega, hN50, ?_, e47'.then st50.upd fun k hk => low5 k hk, fun k hk => ?_⟩, by omega⟩
      · rw [List.map_append, hqs, htk]
        rfl
      · rcases st50.new k hk with h99 | h99
        · exact low5 k h99
        · have := e47'.size; omega
  · rw [List.take_of_length_le (by rw [List.length_map]; omega)] at hqs
    exact hk h9 T9 h2.size ⟨h.size, s9, qs9, hN, hqs⟩ e9 low9

end Go.Proofs.Ytgkgheaanfgecaa
