/- What the reference's client does, continued. -/
import Derived.Test.YtcmedplogmjiiaaGreatClL
namespace Go.Proofs.YtcmedplogmjiiaaGreat
open Go Go.Fw

/-! ### New -/
theorem mk_ref {h : Heap} {cb rb : Nat} {c : Cl} (hc : h[cb]? = some (.cells (rfC rb ⟨none, 0, 0⟩ ⟨none, 0, 0⟩ ⟨none, 0, 0⟩ c) 60 (0, 0))) (hr : h[rb]? = some (.cells #[slV ⟨none, 0, 0⟩, .bool c.broken] 91 (0, 0)))
    (h0 : c.waits = []) (h1 : c.out = []) (h2 : c.told = []) (h3 : c.rb = []) (n1 : cb ≠ rb) : ∃ T, RefC h T cb c ∧ ∀ k, T k ≠ none → k = cb ∨ k = rb := by
  refine ⟨fun k => if k = cb then some 0 else if k = rb then some 1 else none, ⟨rb, ⟨none, 0, 0⟩, ⟨none, 0, 0⟩, ⟨none, 0, 0⟩, ⟨none, 0, 0⟩, ⟨hc, hr, by rw [h0]; exact Own.nil _ _ 2, by rw [h1]; exact Own.nil _ _ 1, by rw [h2]; exact Own.nil _ _ 7, by rw [h3]; exact Row.nil _ 1, by simp, ?_, fun k hk => by simp [Sl.blk] at hk, fun k hk => by simp [Sl.blk] at hk, fun k hk => by simp [Sl.blk] at hk, fun k hk => by simp [Sl.blk] at hk, fun k hk => ?_⟩⟩, fun k hk => ?_⟩
  · show (if _ then _ else _) = _
    rw [if_neg (fun e => n1 e.symm), if_pos rfl]
  · have l1 := blk_lt hc
    have l2 := blk_lt hr
    by_cases q1 : k = cb
    · omega
    · by_cases q2 : k = rb
      · omega
      · simp only [q1, q2, if_false] at hk; exact absurd rfl hk
  · by_cases q1 : k = cb
    · exact .inl q1
    · by_cases q2 : k = rb
      · exact .inr q2
      · simp only [q1, q2, if_false] at hk; exact absurd rfl hk
theorem hello_name (name : ByteArray) : rightB (0, 5, 0, 0, name, 0, ()) = nameB name := by
  unfold rightB inB bareB
  simp
theorem RefNew_spec {h : Heap} {tmo least most : Int} {name : ByteArray} {K : Option Addr → Int → Heap → Prop}
    (hbad : newE_ tmo least most name ≠ 0 → ∀ h', Ext h h' → K none (newE_ tmo least most name) h')
    (hgo : newE_ tmo least most name = 0 → ∀ h' T cb, RefC h' T cb (newCl tmo least most name) → Ext h h' → (∀ k, T k ≠ none → h.size ≤ k) → K (some ⟨cb, 0, none⟩) 0 h') : m_spillwayref21_New (tmo, least, most, ()) name K h := by
  unfold m_spillwayref21_New g_spillwayref21_New
  unfold newE_ at hbad hgo
  refine newK fun h1 c1 e1 z1 => bindI_intro (ldIk c1 rfl (iteP_dec (fun q1 => ?_) fun q1 => ldIk c1 rfl (iteP_dec (fun q2 => ?_) fun q2 => ldIk c1 rfl (iteP_dec (fun q3 => ?_) fun q3 => ldIk c1 rfl (ldIk c1 rfl (iteP_dec (fun q4 => ?_) fun q4 => ldIk c1 rfl (iteP_dec (fun q5 => ?_) fun q5 => ?_)))))))
  · rw [if_pos q1] at hbad; exact bindI_intro (hbad (by decide) h1 e1)
  · rw [if_neg q1, if_pos q2] at hbad; exact bindI_intro (hbad (by decide) h1 e1)
  · rw [if_neg q1, if_neg q2, if_pos q3] at hbad; exact bindI_intro (hbad (by decide) h1 e1)
  · rw [if_neg q1, if_neg q2, if_neg q3, if_pos q4] at hbad; exact bindI_intro (hbad (by decide) h1 e1)
  · rw [if_neg q1, if_neg q2, if_neg q3, if_neg q4, if_pos q5] at hbad; exact bindI_intro (hbad (by decide) h1 e1)
  · rw [if_neg q1, if_neg q2, if_neg q3, if_neg q4, if_neg q5] at hbad hgo
    refine IsName_spec ?_
    rw [hello_name] at hbad hgo
    cases hr : nameB name with
    | false =>
      rw [hr] at hbad
      exact iteP_true (bindI_intro (hbad (by decide) h1 e1))
    | true =>
      rw [hr] at hgo
      have hgo := hgo rfl
      refine iteP_false (ldIk c1 rfl (ldIk c1 rfl (ldIk c1 rfl (ldIk c1 rfl ?_))))
      unfold m_spillwayref18_New g_spillwayref18_New
      refine newK fun h21 c21 e21 z21 => ?_
      have d21 := keepE c1 e21
      refine ⟨⟨(cell_block d21).trans rfl, trivial⟩, ⟨(cell_block d21).trans rfl, (cell_block d21).trans rfl, (cell_block d21).trans rfl, trivial⟩, newK fun h23 c23 e23 z23 => ?_⟩
      have d23 := keepE d21 e23
      refine ⟨⟨(cell_block d23).trans rfl, trivial⟩, ⟨(cell_block d23).trans rfl, (cell_block d23).trans rfl, (cell_block d23).trans rfl, trivial⟩, bindI_intro ?_⟩
      obtain ⟨T, hC, hT⟩ := mk_ref (h := h23) (cb := h21.size) (rb := h1.size) (c := newCl tmo least most name) c23 (keepE c21 e23) rfl rfl rfl rfl (by omega)
      exact hgo h23 T _ hC ((e1.trans e21).trans e23) fun k hk => by have := hT k hk; omega

/-! ### calls that begin with Tick -/
theorem RDial_spec {h : Heap} {T : Nat → Option Nat} {cb : Nat} {c : Cl} (hC : RefC h T cb c) (hW : WOK c) (hM : Mon c.waits) {at_ : Int} {K : Bool → Int → Heap → Prop} (hk : ∀ h' T', RefC h' T' cb (c.atS at_) → StpR T T' h h' → K (c.dialF at_) (c.atE at_) h') : m_spillwayref21_Client_Dial (some ⟨cb, 0, none⟩) at_ K h := by
  unfold m_spillwayref21_Client_Dial g_spillwayref21_Client_Dial
  refine bindI_intro (RTick_spec hC hW hM fun h2 T2 hC2 st2 => bindI_intro ?_)
  have hfin := hk h2 T2 hC2 st2
  unfold Cl.dialF at hfin
  by_cases he : c.atE at_ = 0
  · rw [if_pos he] at hfin
    rw [he] at hfin ⊢
    refine iteP_false (deref_ ?_)
    unfold Cl.atS at hC2
    rw [if_pos he] at hC2
    obtain ⟨rb, sl, so, st, sb, hR⟩ := hC2
    refine ldBk hR.cells rfl ?_
    have hup : (c.tick at_).up = c.up := rfl
    rw [hup]
    cases hu : c.up with
    | false =>
      rw [hu] at hfin
      exact iteP_true (deref_ (ldIk hR.cells rfl (bindB_intro (bindI_intro hfin))))
    | true =>
      rw [hu] at hfin
      exact iteP_false (bindI_intro hfin)
  · rw [if_neg he] at hfin
    exact iteP_pos (by simpa using he) (bindI_intro hfin)

theorem RUp_spec {h : Heap} {T : Nat → Option Nat} {cb : Nat} {c : Cl} (hC : RefC h T cb c) (hW : WOK c) (hM : Mon c.waits) (hl : c.out.length ≤ 1099511627776) {at_ : Int} {K : Int → Heap → Prop} (hk : ∀ h' T', RefC h' T' cb (c.upS at_) → StpR T T' h h' → K (c.upE at_) h') : m_spillwayref21_Client_Up (some ⟨cb, 0, none⟩) at_ K h := by
  unfold m_spillwayref21_Client_Up g_spillwayref21_Client_Up
  refine bindI_intro (RTick_spec hC hW hM fun h2 T2 hC2 st2 => bindI_intro ?_)
  unfold Cl.upS Cl.upE at hk
  unfold Cl.atS at hC2
  by_cases he : c.atE at_ = 0
  · rw [if_pos he, if_pos he] at hk
    rw [if_pos he] at hC2
    rw [he]
    have hC2' := hC2
    obtain ⟨rb, sl, so, st, sb, hR⟩ := hC2
    refine iteP_false (deref_ (ldBk hR.cells rfl ?_))
    have hup : (c.tick at_).up = c.up := rfl
    rw [hup]
    cases hu : c.up with
    | true =>
      rw [hu] at hk
      exact iteP_true (bindI_intro (hk h2 T2 hC2' st2))
    | false =>
      rw [hu] at hk
      refine iteP_false (deref_ (hR.setF { c.tick at_ with up := true } (by decide) rfl rfl rfl rfl rfl rfl rfl fun h8 hR8 st8 z8 => deref_ (ldIk hR8.cells rfl (deref_ (hR8.setF { c.tick at_ with up := true, backoff := c.least } (by decide) rfl rfl rfl rfl rfl rfl rfl fun h14 hR14 st14 z14 => deref_ (ldSk hR14.cells rfl ?_))))))
      refine send_spec (r := helloR c.name) ⟨rb, sl, so, st, sb, hR14⟩ hl fun h18 T18 hC18 st18 => bindI_intro ?_
      exact hk h18 T18 hC18 (((st2.trans st8).trans st14).trans st18)
  · rw [if_neg he, if_neg he] at hk
    rw [if_neg he] at hC2
    exact iteP_pos (by simpa using he) (bindI_intro (hk h2 T2 hC2 st2))

theorem RRefused_spec {h : Heap} {T : Nat → Option Nat} {cb : Nat} {c : Cl} (hC : RefC h T cb c) (hW : WOK c) (hM : Mon c.waits) (hN : NOK c) {at_ : Int} {K : Int → Heap → Prop} (hk : ∀ h' T', RefC h' T' cb (c.refS at_) → StpR T T' h h' → K (c.refE at_) h') : m_spillwayref21_Client_Refused (some ⟨cb, 0, none⟩) at_ K h := by
  unfold m_spillwayref21_Client_Refused g_spillwayref21_Client_Refused
  refine bindI_intro (RTick_spec hC hW hM fun h2 T2 hC2 st2 => bindI_intro ?_)
  unfold Cl.refS Cl.refE at hk
  unfold Cl.atS at hC2
  by_cases he : c.atE at_ = 0
  · rw [if_pos he, if_pos he] at hk
    rw [if_pos he] at hC2
    rw [he]
    have hz := atE_zero he
    have hC2' := hC2
    obtain ⟨rb, sl, so, st, sb, hR⟩ := hC2
    refine iteP_false (deref_ (ldBk hR.cells rfl ?_))
    have hup : (c.tick at_).up = c.up := rfl
    rw [hup]
    cases hu : c.up with
    | true =>
      rw [hu] at hk
      exact iteP_true (bindI_intro (hk h2 T2 hC2' st2))
    | false =>
      rw [hu] at hk
      exact iteP_false (later_spec hC2' ⟨hz.1, hz.2.1⟩ (hN.tick at_) rfl fun h6 hC6 st6 => bindI_intro (hk h6 T2 hC6 (st2.trans st6)))
  · rw [if_neg he, if_neg he] at hk
    rw [if_neg he] at hC2
    exact iteP_pos (by simpa using he) (bindI_intro (hk h2 T2 hC2 st2))

/-- another reader -/
theorem RfR.setRb {h : Heap} {T : Nat → Option Nat} {cb rb : Nat} {sl so st sb : Sl} {c : Cl} (hR : RfR h T cb rb sl so st sb c) {h1 : Heap} {nb : Nat} (e1 : Ext h h1) (hn : h1[nb]? = some (.cells #[slV ⟨none, 0, 0⟩, .bool false] 91 (0, 0))) (hnb : h.size ≤ nb) {K : Heap → Prop}
    (hk : ∀ h2 T', RfR h2 T' cb nb sl so st ⟨none, 0, 0⟩ { c with rb := [], broken := false } → StpR T T' h h2 → K h2) : Fw.st h1 cb 11 (.pointer (some ⟨nb, 0, none⟩)) K := by
  have hR1 := hR.ext e1
  have lnb := blk_lt hn
  have hne : ∀ {k t}, T k = some t → k ≠ nb := fun {k t} h8 h9 => by have := hR.lt k (by rw [h8]; simp); omega
  refine put2 hR1.cells (by show 11 < 13; decide) rfl fun h2 c2 u2 z2 => ?_
  have ncb : ∀ {k t}, T k = some t → t ≠ 0 → k ≠ cb := fun {k t} h8 h9 h7 => by subst h7; rw [hR.tcb] at h8; cases h8; exact h9 rfl
  have old : ∀ {k t}, T k = some t → t ≠ 0 → h2[k]? = h1[k]? := fun {k t} h8 h9 => u2.old k (hR1.lt k (by rw [h8]; simp)) (ncb h8 h9)
  have tag : ∀ {k t}, T k = some t → (if k = nb then some 1 else T k) = some t := fun {k t} h8 => by rw [if_neg (hne h8)]; exact h8
  refine hk h2 (fun k => if k = nb then some 1 else T k) ⟨c2, (u2.old nb lnb fun h9 => hne hR.tcb h9.symm).trans hn, hR1.l.congr fun k hk _ _ => old (hR.tsl k hk) (by decide), hR1.out.congr fun k hk _ _ => old (hR.tso k hk) (by decide), hR1.told.congr fun k hk _ _ => old (hR.tst k hk) (by decide), Row.nil _ 1,
    tag hR.tcb, by rw [if_pos rfl], fun k hk => tag (hR.tsl k hk), fun k hk => tag (hR.tso k hk), fun k hk => tag (hR.tst k hk), fun k hk => by simp [Sl.blk] at hk, fun k hk => ?_⟩ ⟨Upd.then (e1.upd _) u2 fun k _ h8 => (by subst h8; rw [hR.tcb]; exact ⟨by simp, by simp⟩), fun k hk => ?_, fun k hk => tag hk⟩
  · by_cases h8 : k = nb
    · omega
    · rw [if_neg h8] at hk
      have := hR1.lt k hk
      omega
  · by_cases h8 : k = nb
    · exact .inr (by omega)
    · rw [if_neg h8] at hk
      exact .inl hk

theorem rdown_spec {h : Heap} {T : Nat → Option Nat} {cb : Nat} {c : Cl} (hC : RefC h T cb c) (hW : WOK c) (hN : NOK c) {at_ : Int} (hat : at_ = c.last) {K : Heap → Prop} (hk : ∀ h' T', RefC h' T' cb c.down → StpR T T' h h' → K h') : m_spillwayref21_Client_down (some ⟨cb, 0, none⟩) at_ K h := by
  obtain ⟨rb, sl, so, st, sb, hR⟩ := hC
  unfold m_spillwayref21_Client_down g_spillwayref21_Client_down
  have hsum := hW.sum
  refine deref_ (hR.setF { c with up := false } (by decide) rfl rfl rfl rfl rfl rfl rfl fun h1 hR1 st1 z1 => ?_)
  refine loopM_intro (fun _ h' => ∃ (k : Nat) (T' : Nat → Option Nat), k ≤ c.waits.length ∧ RefC h' T' cb (c.downK k) ∧ StpR T T' h1 h') (fun _ h' => lenAt h' cb 5) ⟨0, T, Nat.zero_le _, ⟨rb, sl, so, st, sb, ?_⟩, StpR.refl _ _⟩ ?_
  · have e : c.downK 0 = { c with up := false } := by simp [Cl.downK]
    rw [e]
    exact hR1
  rintro ⟨⟩ h3 ⟨k, T3, hkl, hC3, st3⟩
  have hlen := hC3.lenAt
  have hC3' := hC3
  obtain ⟨rb3, sl3, so3, st3', sb3, hR3⟩ := hC3
  have hwl := wlen hR3.l
  have hw3 : (c.downK k).waits = c.waits.drop k := rfl
  rw [hw3, List.length_drop] at hlen hwl
  refine deref_ (ldLk (s := sl3) hR3.cells rfl (iteP_dec (fun hpos => ?_) fun hneg => ?_))
  · have hk1 : k < c.waits.length := by omega
    have hp : c.waits[k]? = some c.waits[k] := List.getElem?_eq_getElem hk1
    have htk : c.waits.take (k + 1) = c.waits.take k ++ [c.waits[k]] := List.take_succ_eq_append_getElem hk1
    have hdk : c.waits.drop k = c.waits[k] :: c.waits.drop (k + 1) := List.drop_eq_getElem_cons hk1
    generalize c.waits[k] = p at hp htk hdk
    refine rfall_spec hC3' (p := p) (by show (c.waits.drop k)[0]? = _; rw [hdk]; rfl) ?_ ?_ fun h6 T6 hC6 st6 => ?_
    · show (c.told ++ List.map _ _).length ≤ _
      rw [List.length_append, List.length_map, List.length_take]; omega
    · show (c.waits.drop k).length ≤ _
      rw [List.length_drop]; omega
    have e : (c.downK k).fallI 0 p.1 = c.downK (k + 1) := by
      unfold Cl.fallI Cl.downK
      dsimp only
      rw [htk, hdk]
      simp
    rw [e] at hC6
    refine ⟨⟨k + 1, T6, by omega, hC6, st3.trans st6⟩, ?_⟩
    rw [hC6.lenAt, hlen]
    show (c.waits.drop (k + 1)).length < _
    rw [List.length_drop]
    omega
  · have hk2 : k = c.waits.length := by omega
    refine deref_ (hR3.setOut (x := ⟨none, 0, 0⟩) (l := []) (Own.nil _ _ 1) (fun k hk => by simp [Sl.blk] at hk) (Upd.refl _ _) fun h9 T9 hR9 st9 _ => ?_)
    unfold m_spillwayref18_New g_spillwayref18_New
    refine newK fun h11 c11 e11 z11 => deref_ (hR9.setRb e11 c11 (Nat.le_refl _) fun h14 T14 hR14 st14 => ?_)
    refine later_spec ⟨_, _, _, _, _, hR14⟩ hW.last (hN.noF (c' := { { c.downK k with out := [] } with rb := [], broken := false }) rfl rfl rfl rfl rfl rfl) hat fun h15 hC15 st15 => ?_
    have e : ({ { c.downK k with out := [] } with rb := [], broken := false } : Cl).failed = c.down := by
      unfold Cl.failed Cl.downK Cl.down
      rw [hk2, List.take_length, List.drop_length]
    rw [e] at hC15
    exact hk h15 T14 hC15 ((((st1.trans st3).trans st9).trans st14).trans st15)

theorem RLost_spec {h : Heap} {T : Nat → Option Nat} {cb : Nat} {c : Cl} (hC : RefC h T cb c) (hW : WOK c) (hM : Mon c.waits) (hN : NOK c) {at_ : Int} {K : Int → Heap → Prop} (hk : ∀ h' T', RefC h' T' cb (c.lostS at_) → StpR T T' h h' → K (c.lostE at_) h') : m_spillwayref21_Client_Lost (some ⟨cb, 0, none⟩) at_ K h := by
  unfold m_spillwayref21_Client_Lost g_spillwayref21_Client_Lost
  refine bindI_intro (RTick_spec hC hW hM fun h2 T2 hC2 st2 => bindI_intro ?_)
  unfold Cl.lostS Cl.lostE at hk
  unfold Cl.atS at hC2
  by_cases he : c.atE at_ = 0
  · rw [if_pos he, if_pos he] at hk
    rw [if_pos he] at hC2
    rw [he]
    have hC2' := hC2
    obtain ⟨rb, sl, so, st, sb, hR⟩ := hC2
    refine iteP_false (deref_ (ldBk hR.cells rfl ?_))
    have hup : (c.tick at_).up = c.up := rfl
    rw [hup]
    cases hu : c.up with
    | false =>
      rw [hu] at hk
      exact iteP_true (bindI_intro (hk h2 T2 hC2' st2))
    | true =>
      rw [hu] at hk
      exact iteP_false (rdown_spec hC2' (hW.tick he) (hN.tick at_) rfl fun h6 T6 hC6 st6 => bindI_intro (hk h6 T6 hC6 (st2.trans st6)))
  · rw [if_neg he, if_neg he] at hk
    rw [if_neg he] at hC2
    exact iteP_pos (by simpa using he) (bindI_intro (hk h2 T2 hC2 st2))

theorem RSend_spec {h : Heap} {T : Nat → Option Nat} {cb : Nat} {c : Cl} (hC : RefC h T cb c) {K : Sl → Heap → Prop}
    (hk : ∀ s h' T', Own h' 0 s 1 (c.out.map bv) → RefC h' T' cb { c with out := [] } → StpR T T' h h' → K s h') : m_spillwayref21_Client_Send (some ⟨cb, 0, none⟩) K h := by
  obtain ⟨rb, sl, so, st, sb, hR⟩ := hC
  refine iteP_false (deref_ (ldLk (s := so) hR.cells rfl (deref_ (hR.setOut (x := ⟨none, 0, 0⟩) (l := []) (Own.nil _ _ 1) (fun k hk => by simp [Sl.blk] at hk) (Upd.refl _ _) fun h3 T3 hR3 st3 u3 => ?_))))
  refine hk so h3 T3 (hR.out.congr fun k hk hl _ => u3.old k hl fun h9 => ?_) ⟨rb, sl, ⟨none, 0, 0⟩, st, sb, hR3⟩ st3
  have := hR.tso k hk
  rw [h9, hR.tcb] at this
  cases this
theorem RTold_spec {h : Heap} {T : Nat → Option Nat} {cb : Nat} {c : Cl} (hC : RefC h T cb c) {K : Sl → Heap → Prop}
    (hk : ∀ s h' T', Own h' 0 s 7 (c.told.flatMap tC) → RefC h' T' cb { c with told := [] } → StpR T T' h h' → K s h') : m_spillwayref21_Client_Told (some ⟨cb, 0, none⟩) K h := by
  obtain ⟨rb, sl, so, st, sb, hR⟩ := hC
  refine iteP_false (deref_ (ldLk (s := st) hR.cells rfl (deref_ (hR.setTold (x := ⟨none, 0, 0⟩) (l := []) (Own.nil _ _ 7) (fun k hk => by simp [Sl.blk] at hk) (Upd.refl _ _) fun h3 T3 hR3 st3 u3 => ?_))))
  refine hk st h3 T3 (hR.told.congr fun k hk hl _ => u3.old k hl fun h9 => ?_) ⟨rb, sl, so, ⟨none, 0, 0⟩, sb, hR3⟩ st3
  have := hR.tst k hk
  rw [h9, hR.tcb] at this
  cases this
theorem RConnected_spec {h : Heap} {T : Nat → Option Nat} {cb : Nat} {c : Cl} (hC : RefC h T cb c) {K : Bool → Heap → Prop} (hk : K c.up h) : m_spillwayref21_Client_Connected (some ⟨cb, 0, none⟩) K h := by
  obtain ⟨rb, sl, so, st, sb, hR⟩ := hC
  exact iteP_true (deref_ (ldBk hR.cells rfl (bindB_intro hk)))

end Go.Proofs.YtcmedplogmjiiaaGreat
