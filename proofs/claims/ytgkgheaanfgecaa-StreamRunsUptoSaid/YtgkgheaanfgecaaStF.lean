/- A network's calls: Break, Look, Port; live; StreamNone's law. -/
import Derived.Test.YtgkgheaanfgecaaStE
namespace Go.Proofs.Ytgkgheaanfgecaa
open Go Go.Fw

theorem at_any {h : Heap} {T : Nat → Option Nat} {nb mb : Nat} {s : Sl} {ps : Int → Bool} {qs : List Q} (hn : NetR h T nb mb s ps qs) {k e most : Int} {K : Option Addr → Int → Heap → Prop}
    (hk : ∀ p, K p (errS (csOf qs) k e most) h) : m_stream_Net_at (some ⟨nb, 0, none⟩) k e most K h :=
  at_spec hn (fun _ => hk none) fun i j q b he _ _ _ _ _ _ => by rw [he] at hk; exact hk _

theorem Break_spec {h : Heap} {T : Nat → Option Nat} {nb : Nat} {ps : Int → Bool} {cs : List Cn} (hn : Net h T nb ps cs) {s : Sl} {l : List Int} (hs : Ints h s l) (hd : ∀ k, s.blk = some k → T k = none) {K : Int → Heap → Prop}
    (hk : ∀ h', Net h' T nb ps (brS cs l).2 → Stp T T h h' → K (brS cs l).1 h') : m_stream_Net_Break (some ⟨nb, 0, none⟩) s K h := by
  obtain ⟨mb, sc, qs, hn, rfl⟩ := hn
  unfold m_stream_Net_Break g_stream_Net_Break
  have hlen := hs.length
  have hcap := hs.cap
  have hbig := hs.big
  refine bindI_intro (iteP_false ?_)
  have hp0 := PortsR.new h
  have e0 := Ext.push h (.map #[] 0)
  unfold newMap
  dsimp only
  generalize h.push (.map #[] 0) = h2 at hp0 e0
  refine loopM_intro (fun p h' => ∃ (k : Nat) (seen : Int → Bool), p.2.1 = (k : Int) ∧ k ≤ l.length ∧ Ext h h' ∧ PortsR h' h.size seen ∧ brF (csOf qs) l (fun _ => false) false = brF (csOf qs) (l.drop k) seen p.1) (fun p _ => l.length - p.2.1.toNat)
    ⟨0, fun _ => false, rfl, Nat.zero_le _, e0, hp0, rfl⟩ ?_
  rintro ⟨down, i, u⟩ h4 ⟨k, seen, hi, hkl, e4, hp4, hb4⟩
  dsimp only at hi hb4
  subst hi
  dsimp only
  refine iteP_dec (fun hlt => ?_) (fun hge => ?_)
  · have hk1 : k < l.length := by omega
    have hx : l[k]? = some l[k] := List.getElem?_eq_getElem hk1
    have hdr : l.drop k = l[k] :: l.drop (k + 1) := List.drop_eq_getElem_cons hk1
    generalize l[k] = x at hx hdr
    rw [hdr] at hb4
    have hw : IntKind.wrap .i64 ((k : Int) + 1) = ((k + 1 : Nat) : Int) := by rw [wrap64 (by omega) (by omega)]; omega
    refine Ints.idx (Row.ext hs e4) rfl hx (bindI_intro (at_any (hn.ext e4) fun p => bindI_intro ⟨fun h44 => ?_, fun h44 => ?_⟩))
    · have h44' : errS (csOf qs) x 0 0 = 4 := by simpa using h44
      unfold brS at hk
      rw [hb4, brF, if_pos h44'] at hk
      rw [h44']
      exact bindI_intro (hk h4 ⟨mb, sc, qs, hn.ext e4, rfl⟩ ⟨e4.upd _, fun k hk => .inl hk⟩)
    · have h44' : errS (csOf qs) x 0 0 ≠ 4 := by simpa using h44
      rw [brF, if_neg h44'] at hb4
      rw [hw]
      have next : ∀ (d : Bool) (h' : Heap), d = (down || (errS (csOf qs) x 0 0 != 0 || seen x)) → PortsR h' h.size (fun m => seen m || m == x) → Upd (· = h.size) h4 h' →
          (∃ (k' : Nat) (seen : Int → Bool), ((k + 1 : Nat) : Int) = (k' : Int) ∧ k' ≤ l.length ∧ Ext h h' ∧ PortsR h' h.size seen ∧ brF (csOf qs) l (fun _ => false) false = brF (csOf qs) (l.drop k') seen d) ∧ l.length - ((k + 1 : Nat) : Int).toNat < l.length - ((k : Nat) : Int).toNat := fun d h' hd' hp' hu' =>
        ⟨⟨k + 1, _, rfl, by omega, e4.then hu' fun j hj => by omega, hp', by rw [hb4, hd']⟩, by omega⟩
      refine ⟨fun hdn => hp4.put x fun h' hp' hu' z' => next true h' (by rw [hdn]; rfl) hp' hu', fun hdn => ⟨fun hee => hp4.put x fun h' hp' hu' z' => next true h' (by rw [hdn, hee]; rfl) hp' hu', fun hee => ?_⟩⟩
      refine hp4.get x (bindB_intro (hp4.put x fun h' hp' hu' z' => next (seen x) h' (by rw [hdn, hee]; rfl) hp' hu'))
  · have hkl' : k = l.length := by omega
    subst hkl'
    rw [List.drop_length, brF] at hb4
    unfold brS at hk
    rw [hb4] at hk
    refine ⟨fun hdn => bindI_intro ?_, fun hdn => ?_⟩
    · subst hdn
      exact hk h4 ⟨mb, sc, qs, hn.ext e4, rfl⟩ ⟨e4.upd _, fun k hk => .inl hk⟩
    · subst hdn
      have hin := brF_in hb4
      rw [List.length_map] at hin
      refine loopM_intro (fun p h' => ∃ (k : Nat) (qs' : List Q), p.1 = (k : Int) ∧ k ≤ l.length ∧ NetR h' T nb mb sc ps qs' ∧ qs'.length = qs.length ∧ Stp T T h h' ∧ brA (csOf qs) l = brA (csOf qs') (l.drop k)) (fun p _ => l.length - p.1.toNat)
        ⟨0, qs, rfl, Nat.zero_le _, hn.ext e4, rfl, ⟨e4.upd _, fun k hk => .inl hk⟩, rfl⟩ ?_
      rintro ⟨i, u⟩ h20 ⟨k, qs', hi, hkl2, hn', hql, hst, hbA⟩
      dsimp only at hi
      subst hi
      dsimp only
      refine iteP_dec (fun hlt => ?_) (fun hge => bindI_intro ?_)
      · have hk1 : k < l.length := by omega
        have hx : l[k]? = some l[k] := List.getElem?_eq_getElem hk1
        have hdr : l.drop k = l[k] :: l.drop (k + 1) := List.drop_eq_getElem_cons hk1
        have hxin := hin l[k] (List.getElem_mem hk1)
        generalize l[k] = x at hx hdr hxin
        obtain ⟨j, hj⟩ := Int.eq_ofNat_of_zero_le (show 0 ≤ x - 1 by omega)
        have hjl : j < qs'.length := by omega
        have hq : qs'[j]? = some qs'[j] := List.getElem?_eq_getElem hjl
        generalize qs'[j] = q at hq
        have hs' : Ints h20 s l := Row.congr hs fun b o hp _ hl => hst.upd.old b hl fun hb => hb (hd b (by simp [Sl.blk, hp]))
        have hlen' := hn'.length
        have hcap' := hn'.row.cap
        have hbig' := hn'.row.big
        have hw : IntKind.wrap .i64 (x - 1) = (j : Int) := by rw [wrap64 (by omega) (by omega)]; exact hj
        refine Ints.idx hs' rfl hx (bindI_intro (deref_ (deref_ (ldLk hn'.cells rfl (ldLk hn'.cells rfl ?_)))))
        rw [hw]
        refine idxQ hn' hq rfl fun b hb => ⟨_, hn'.cell hq hb (m := 6) (by omega) rfl, idxQ hn' hq rfl fun b hb => ?_⟩
        refine hn'.setConn hq hb fun h36 hn36 hst36 => ?_
        rw [wrap64 (n := (k : Int) + 1) (by omega) (by omega)]
        refine ⟨⟨k + 1, _, by omega, by omega, hn36, by rw [List.length_set]; exact hql, hst.trans hst36, ?_⟩, by omega⟩
        have hcs : (csOf qs')[(x - 1).toNat]? = some q.2 := by rw [hj, Int.toNat_natCast, List.getElem?_map, hq]; rfl
        rw [hbA, hdr, brA, hcs]
        dsimp only
        rw [hj, Int.toNat_natCast]
        show brA ((qs'.map (·.2)).set j (brC q.2)) _ = brA ((qs'.set j (nilRw, brC q.2)).map (·.2)) _
        rw [List.map_set]
      · have hkl' : k = l.length := by omega
        subst hkl'
        rw [List.drop_length, brA] at hbA
        rw [hbA] at hk
        exact hk h20 ⟨mb, sc, qs', hn', rfl⟩ hst

/-! ### Look, Port -/
def lkS (cs : List Cn) (k e : Int) : Int × Int × Int := if errS cs k e 0 ≠ 0 then (0, 0, errS cs k e 0) else match cs[(k - 1).toNat]? with
  | none => (0, 0, 0)
  | some c => (((c.side e.toNat).way.length : Int), ((c.side (1 - e.toNat)).come.length : Int), 0)
theorem Look_spec {h : Heap} {T : Nat → Option Nat} {nb : Nat} {ps : Int → Bool} {cs : List Cn} (hn : Net h T nb ps cs) {k e : Int} {K : Int → Int → Int → Heap → Prop} (hk : K (lkS cs k e).1 (lkS cs k e).2.1 (lkS cs k e).2.2 h) : m_stream_Net_Look (some ⟨nb, 0, none⟩) k e K h := by
  obtain ⟨mb, s, qs, hn, rfl⟩ := hn
  unfold m_stream_Net_Look g_stream_Net_Look
  unfold lkS at hk
  refine bindI_intro (bindI_intro (bindI_intro (at_spec hn (fun he => bindI_intro (iteP_pos (by simpa using he) (bindI_intro (bindI_intro (bindI_intro ?_))))) (fun i j q b' he hk' hj hj2 hm0 hq hb' => bindI_intro (iteP_neg rfl ?_)))))
  · rw [if_pos he] at hk; exact hk
  · rw [if_neg (by rw [he]; simp)] at hk
    have ei : (k - 1).toNat = i := by omega
    have ej : e.toNat = j := by omega
    rw [ei, ej] at hk
    have hcs : (qs.map (·.2))[i]? = some q.2 := by rw [List.getElem?_map, hq]; rfl
    rw [hcs] at hk
    dsimp only at hk
    have hj3 : 1 - j < 2 := by omega
    have hwr : IntKind.wrap .i64 ((1 : Int) - e) = ((1 - j : Nat) : Int) := by rw [wrap64 (by omega) (by omega)]; omega
    have l0 := Bytes.length ((hn.each i q hq).get hj2 (c := 0) (by omega)).own.row
    have l1 := Bytes.length ((hn.each i q hq).get hj3 (c := 1) (by omega)).own.row
    refine deref_ (idxN_ hj hj2 ⟨_, hn.cell hq hb' (m := j * 3 + 0) (by omega) (qC_get q hj2 (by omega : 0 < 2)), deref_ (idxN_ hwr hj3 ⟨_, by rw [Nat.add_assoc]; exact hn.cell hq hb' (m := (1 - j) * 3 + 1) (by omega) (qC_get q hj3 (by omega : 1 < 2)), bindI_intro (bindI_intro (bindI_intro ?_))⟩)⟩)
    rw [l0, l1]
    exact hk

def ptS (cs : List Cn) (k : Int) : Int := if k < 1 then 0 else if k > (cs.length : Int) then 0 else match cs[(k - 1).toNat]? with
  | some c => c.port
  | none => 0
theorem Port_spec {h : Heap} {T : Nat → Option Nat} {nb : Nat} {ps : Int → Bool} {cs : List Cn} (hn : Net h T nb ps cs) {k : Int} {K : Int → Heap → Prop} (hk : K (ptS cs k) h) : m_stream_Net_Port (some ⟨nb, 0, none⟩) k K h := by
  obtain ⟨mb, s, qs, hn, rfl⟩ := hn
  unfold m_stream_Net_Port g_stream_Net_Port
  unfold ptS at hk
  rw [List.length_map] at hk
  have hl := hn.length
  have hcap := hn.row.cap
  have hbig := hn.row.big
  refine bindI_intro (iteP_false (iteP_dec (fun c1 => bindI_intro ?_) (fun c1 => deref_ (ldLk hn.cells rfl (iteP_dec (fun c2 => bindI_intro ?_) (fun c2 => deref_ (ldLk hn.cells rfl ?_)))))))
  · rw [if_pos c1] at hk; exact hk
  · rw [if_neg c1, if_pos (by omega)] at hk; exact hk
  · rw [if_neg c1, if_neg (by omega)] at hk
    obtain ⟨j, hj⟩ := Int.eq_ofNat_of_zero_le (show 0 ≤ k - 1 by omega)
    have hjl : j < qs.length := by omega
    have hq : qs[j]? = some qs[j] := List.getElem?_eq_getElem hjl
    generalize qs[j] = q at hq
    have hcs : (qs.map (·.2))[(k - 1).toNat]? = some q.2 := by rw [hj, Int.toNat_natCast, List.getElem?_map, hq]; rfl
    rw [hcs] at hk
    rw [wrap64 (by omega) (by omega)]
    exact idxQ hn hq hj fun b hb => ⟨_, hn.cell hq hb (m := 6) (by omega) rfl, bindI_intro hk⟩

/-! ### live -/
theorem one_row {h h' : Heap} {n : Int} (c : h'[h.size]? = some (.cells #[iv n] 3 (0, 0))) : Ints h' ⟨some ⟨h.size, 0, none⟩, 1, 1⟩ [n] :=
  ⟨rfl, Nat.le_refl _, (show 1 < 9223372036854775808 by decide), .inr ⟨h.size, 0, rfl, has_block c fun i v hi => by simpa using hi⟩⟩
theorem none_new {h : Heap} {T : Nat → Option Nat} (hT : ∀ k, T k ≠ none → k < h.size) {k : Nat} (hk : h.size ≤ k) : T k = none := by
  rcases hTk : T k with _ | t
  · rfl
  · have := hT k (by rw [hTk]; simp); omega
theorem Net.lt {h : Heap} {T : Nat → Option Nat} {nb : Nat} {ps : Int → Bool} {cs : List Cn} (hn : Net h T nb ps cs) : ∀ k, T k ≠ none → k < h.size := by
  obtain ⟨mb, s, qs, hn, _⟩ := hn
  exact hn.lt

theorem live_spec {h : Heap} {K : Bool → Heap → Prop} (hk : ∀ h', Ext h h' → K true h') : m_spillwaylaw22_live K h := by
  unfold m_spillwaylaw22_live g_spillwaylaw22_live
  refine New_spec fun h1 T1 hn1 e1 t1 => newK fun h2 c2 e2 z2 => ?_
  refine Listen_spec (hn1.ext e2) (one_row c2) (fun k hk => none_new hn1.lt (by simp [Sl.blk] at hk; omega)) fun h4 hn4 st4 => iteP_false ?_
  have x2 := e1.trans e2
  have x4 := st4.ext x2 t1
  refine Dial_spec hn4 (by decide) fun h7 T7 hn7 st7 => bindI_intro (bindI_intro ?_)
  have x7 := st7.ext x4 t1
  have t7 := st7.low x4 t1
  have d1 : diS (liP (fun _ => false) [80]) [] 80 = ((1, 0), [newC_ 80]) := rfl
  rw [d1] at hn7 ⊢
  refine Dial_spec hn7 (by decide) fun h10 T10 hn10 st10 => bindI_intro (bindI_intro ?_)
  have x10 := st10.ext x7 t7
  have t10 := st10.low x7 t7
  have d2 : diS (liP (fun _ => false) [80]) [newC_ 80] 81 = ((0, 51), [newC_ 80]) := rfl
  rw [d2] at hn10 ⊢
  dsimp only at hn10
  refine newB [97, 98, 99] 3 rfl rfl (by decide) fun b12 h12 ho12 e12 _ => ?_
  have x12 := x10.trans e12
  refine Write_spec (hn10.ext e12) ho12 (by decide) (fun c j hc hj => by
    have : c = newC_ 80 := by simpa using hc
    subst this
    rcases two j hj with rfl | rfl <;> decide) fun h14 T14 hn14 st14 => bindI_intro ?_
  have x14 := st14.ext x12 t10
  have t14 := st14.low x12 t10
  have w1 : wrS [newC_ 80] 1 0 [97, 98, 99] = (0, [⟨⟨[97, 98, 99], [], false⟩, ⟨[], [], false⟩, 80, false⟩]) := rfl
  rw [w1] at hn14 ⊢
  refine Move_spec hn14 (fun c j hc hj => by
    have : c = ⟨⟨[97, 98, 99], [], false⟩, ⟨[], [], false⟩, 80, false⟩ := by simpa using hc
    subst this
    rcases two j hj with rfl | rfl <;> decide) fun h17 T17 hn17 st17 => bindI_intro (bindI_intro ?_)
  have x17 := st17.ext x14 t14
  have t17 := st17.low x14 t14
  have m1 : mvS [⟨⟨[97, 98, 99], [], false⟩, ⟨[], [], false⟩, 80, false⟩] 1 0 2 = ((2, 0), [⟨⟨[99], [97, 98], false⟩, ⟨[], [], false⟩, 80, false⟩]) := rfl
  rw [m1] at hn17 ⊢
  refine Read_spec hn17 (fun c j hc hj => by
    have : c = ⟨⟨[99], [97, 98], false⟩, ⟨[], [], false⟩, 80, false⟩ := by simpa using hc
    subst this
    rcases two j hj with rfl | rfl <;> decide) fun out h22 T22 hn22 st22 ho22 hT22 => bindB_intro (bindI_intro ?_)
  have x22 := st22.ext x17 t17
  have t22 := st22.low x17 t17
  have r1 : rdS_ [⟨⟨[99], [97, 98], false⟩, ⟨[], [], false⟩, 80, false⟩] 1 1 9 = (([97, 98], false, 0), [⟨⟨[99], [], false⟩, ⟨[], [], false⟩, 80, false⟩]) := rfl
  rw [r1] at hn22 ho22 ⊢
  refine newK fun h24 c24 e24 z24 => ?_
  refine Break_spec (hn22.ext e24) (one_row c24) (fun k hk => none_new hn22.lt (by simp [Sl.blk] at hk; omega)) fun h26 hn26 st26 => bindI_intro ?_
  have x24 := x22.trans e24
  have x26 := st26.ext x24 t22
  have b1 : brS [⟨⟨[99], [], false⟩, ⟨[], [], false⟩, 80, false⟩] [1] = (0, [⟨⟨[], [], false⟩, ⟨[], [], false⟩, 80, true⟩]) := rfl
  dsimp only at hn26
  rw [b1] at hn26 ⊢
  refine Read_spec hn26 (fun c j hc hj => by
    have : c = ⟨⟨[], [], false⟩, ⟨[], [], false⟩, 80, true⟩ := by simpa using hc
    subst this
    rcases two j hj with rfl | rfl <;> decide) fun out2 h30 T30 hn30 st30 ho30 hT30 => bindB_intro (bindI_intro ?_)
  have x30 := st30.ext x26 t22
  have r2 : rdS_ [⟨⟨[], [], false⟩, ⟨[], [], false⟩, 80, true⟩] 1 1 9 = (([], false, 51), [⟨⟨[], [], false⟩, ⟨[], [], false⟩, 80, true⟩]) := rfl
  rw [r2]
  have ho : Bytes h30 out [97, 98] := by
    have a1 := ho22.congr (h' := h24) fun k _ hl _ => e24.old k hl
    have a2 := a1.congr (h' := h26) fun k hk hl _ => st26.upd.old k hl fun h9 => h9 (hT22 k hk)
    exact (a2.congr (h' := h30) fun k hk hl _ => st30.upd.old k hl fun h9 => h9 (hT22 k hk)).row
  refine iteP_true (iteP_true (iteP_true (iteP_true (iteP_true (iteP_true (iteP_true ?_))))))
  exact b2s_bytes ho (iteP_pos (strEq_self _) (iteP_true (iteP_true (bindB_intro (hk h30 x30)))))

theorem StreamNone_true {c e k : Int} {h : Heap} {K : Bool → Heap → Prop} (hk : ∀ h', Ext h h' → K true h') : m_spillwaylaw22_StreamNone c e k K h := by
  unfold m_spillwaylaw22_StreamNone g_spillwaylaw22_StreamNone
  have atN : ∀ {a b d : Int} {K : Option Addr → Int → Heap → Prop} {h : Heap}, K none 1 h → m_stream_Net_at none a b d K h := fun {a b d K h} hk => by
    unfold m_stream_Net_at g_stream_Net_at
    exact bindI_intro (bindB_intro (iteP_true (bindI_intro hk)))
  have arN : ∀ {s : Sl} {K : Int → Heap → Prop} {h : Heap}, K 1 h → m_stream_Net_arePorts none s K h := fun {s K h} hk => by
    unfold m_stream_Net_arePorts g_stream_Net_arePorts
    exact bindI_intro (bindB_intro (iteP_true (bindI_intro hk)))
  unfold m_stream_Net_Dial g_stream_Net_Dial
  refine bindI_intro (bindI_intro (newK fun h1 c1 e1 z1 => arN (bindI_intro (iteP_true (bindI_intro (bindI_intro (bindI_intro (bindI_intro ?_))))))))
  unfold m_stream_Net_Move g_stream_Net_Move
  refine bindI_intro (bindI_intro (atN (bindI_intro (iteP_true (bindI_intro (bindI_intro (bindI_intro (bindI_intro ?_))))))))
  unfold m_stream_Net_Read g_stream_Net_Read
  refine bindI_intro (atN (bindI_intro (iteP_true (bindI_intro (bindB_intro (bindI_intro ?_))))))
  unfold m_stream_Net_Look g_stream_Net_Look
  refine bindI_intro (bindI_intro (bindI_intro (atN (bindI_intro (iteP_true (bindI_intro (bindI_intro (bindI_intro (bindI_intro (bindI_intro (bindI_intro ?_)))))))))))
  refine live_spec fun h2 e2 => iteP_true (newK fun h3 c3 e3 z3 => ?_)
  unfold m_stream_Net_Listen g_stream_Net_Listen
  refine bindI_intro (arN (bindI_intro (iteP_true (bindI_intro (iteP_true (newK fun h4 c4 e4 z4 => ?_))))))
  unfold m_stream_Net_Stop g_stream_Net_Stop
  refine bindI_intro (arN (bindI_intro (iteP_true (bindI_intro (iteP_true (iteP_true (newK fun h5 c5 e5 z5 => ?_)))))))
  unfold m_stream_Net_Write g_stream_Net_Write
  refine bindI_intro (atN (bindI_intro (iteP_true (bindI_intro (iteP_true (iteP_true (iteP_true ?_)))))))
  unfold m_stream_Net_Shut g_stream_Net_Shut
  refine bindI_intro (atN (bindI_intro (bindB_intro (iteP_true (bindI_intro (iteP_true (newK fun h6 c6 e6 z6 => ?_)))))))
  unfold m_stream_Net_Break g_stream_Net_Break
  refine bindI_intro (iteP_true (bindI_intro (iteP_true (iteP_true ?_))))
  unfold m_stream_Net_Port g_stream_Net_Port
  refine bindI_intro (iteP_true (bindI_intro (iteP_true ?_)))
  unfold m_stream_Net_Conns g_stream_Net_Conns
  refine iteP_true (iteP_true ?_)
  unfold m_stream_Net_Fork g_stream_Net_Fork
  exact iteP_true (bindB_intro (hk h6 (((((e1.trans e2).trans e3).trans e4).trans e5).trans e6)))

end Go.Proofs.Ytgkgheaanfgecaa
