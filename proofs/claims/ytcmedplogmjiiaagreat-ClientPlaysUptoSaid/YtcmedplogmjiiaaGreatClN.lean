/- What the reference's client does: Ask, answers, Bytes, Waiting, Fork. -/
import Derived.Test.YtcmedplogmjiiaaGreatClM
namespace Go.Proofs.YtcmedplogmjiiaaGreat
open Go Go.Fw

theorem rfC_next (rb : Nat) (sl so st : Sl) (c : Cl) (n : Int) : rfC rb sl so st { c with next := n + 1 } = (rfC rb sl so st c).setIfInBounds 6 (iv n) := by
  unfold rfC
  dsimp only
  rw [Int.add_sub_cancel]
  rfl

theorem RAsk_spec {h : Heap} {T : Nat → Option Nat} {cb : Nat} {c : Cl} (hC : RefC h T cb c) (hW : WOK c) (hM : Mon c.waits) (hnx : c.next < 4611686018427387904) (hl : c.out.length ≤ 1099511627776) {at_ : Int} {r : Rq} {K : Int → Bool → Int → Heap → Prop}
    (hk : ∀ h' T', RefC h' T' cb (c.askR at_ r).2 → StpR T T' h h' → K (c.askR at_ r).1.1 (c.askR at_ r).1.2.1 (c.askR at_ r).1.2.2 h') : m_spillwayref21_Client_Ask (some ⟨cb, 0, none⟩) at_ r K h := by
  unfold m_spillwayref21_Client_Ask g_spillwayref21_Client_Ask
  have hnext := hW.next
  obtain ⟨r1, r2, r3, r4, r5, r6, u⟩ := r
  refine newK fun h1 c1 e1 z1 => bindI_intro (bindI_intro ?_)
  have n1 : T h.size = none := none_new hC.lt (Nat.le_refl _)
  refine RTick_spec (hC.ext e1) hW hM fun h4 T4 hC4 st4 => bindI_intro ?_
  have c4 := st4.stp.keep n1 c1
  have m1 := st4.stp.none_ n1 (blk_lt c1)
  have stA := (StpR.ofExt (T := T) e1).trans st4
  unfold Cl.atS at hC4
  unfold Cl.askR at hk
  by_cases he : c.atE at_ = 0
  rotate_left
  · rw [if_neg he] at hk hC4
    exact iteP_pos (by simpa using he) (bindI_intro (bindI_intro (hk h4 T4 hC4 stA)))
  rw [if_pos he] at hk hC4
  rw [he]
  have hWt := hW.tick he
  refine iteP_false (put2 c4 (show 0 < 6 by decide) rfl fun h7 q7 u7 z7 => ldIk q7 rfl (ldIk q7 rfl (ldIk q7 rfl (ldIk q7 rfl (ldSk q7 rfl (ldIk q7 rfl ?_))))))
  have hC7 := hC4.upd u7 fun k _ hk => by subst hk; exact m1
  have st7 := stA.also u7 fun k hk => by omega
  refine RRight_spec (r := (0, r2, r3, r4, r5, r6, ())) fun h15 e15 => ?_
  have hC15 := hC7.ext e15
  have st15 := st7.trans (StpR.ofExt e15)
  have q15 := keepE q7 e15
  cases hr : rightB (0, r2, r3, r4, r5, r6, ()) with
  | false =>
    rw [if_neg fun h9 => by have := h9.1; unfold setId at this; rw [hr] at this; cases this] at hk
    exact iteP_true (bindI_intro (bindI_intro (hk h15 T4 hC15 st15)))
  | true =>
    refine iteP_false (ldIk q15 rfl ⟨fun h5 => ?_, fun h5 => ?_⟩)
    · have h5 : r2 = 5 := by simpa using h5
      rw [if_neg fun h9 => h9.2 h5] at hk
      exact bindI_intro (bindI_intro (hk h15 T4 hC15 st15))
    have h5 : r2 ≠ 5 := by simpa using h5
    have hcond : rightB (setId (r1, r2, r3, r4, r5, r6, u) 0) = true ∧ (r1, r2, r3, r4, r5, r6, u).2.1 ≠ 5 := ⟨hr, h5⟩
    rw [if_pos hcond] at hk
    have hC15' := hC15
    obtain ⟨rb, sl, so, st, sb, hR⟩ := hC15
    have hwl := wlen hR.l
    refine deref_ (ldBk hR.cells rfl ?_)
    have hup : (c.tick at_).up = c.up := rfl
    rw [hup]
    cases hu : c.up with
    | false =>
      rw [if_neg fun h9 => by rw [hu] at h9; exact absurd h9.1 (by decide)] at hk
      exact iteP_true (bindI_intro (bindI_intro (hk h15 T4 hC15' st15)))
    | true =>
      refine iteP_false (deref_ (ldLk (s := sl) hR.cells rfl (iteP_dec (fun hge => ?_) fun hlt => ?_)))
      · rw [if_neg fun h9 => by have := h9.2; omega] at hk
        exact bindI_intro (bindI_intro (hk h15 T4 hC15' st15))
      rw [if_pos ⟨hu, by omega⟩] at hk
      have hnt : (c.tick at_).next = c.next := rfl
      refine deref_ (ldIk hR.cells rfl (deref_ ?_))
      rw [hnt, show c.next - 1 + 1 = c.next from by omega, wrap64 (n := c.next) (by omega) (by omega)]
      refine hR.setF { c.tick at_ with next := c.next + 1 } (by decide) rfl (rfC_next _ _ _ _ _ _) rfl rfl rfl rfl rfl fun h35 hR35 st35 z35 => deref_ (ldIk hR35.cells rfl ?_)
      have q35 := st35.stp.keep m1 q15
      rw [show ({ c.tick at_ with next := c.next + 1 } : Cl).next - 1 = c.next from by show c.next + 1 - 1 = c.next; omega]
      refine put2 q35 (show 0 < 6 by decide) rfl fun h39 q39 u39 z39 => ?_
      have hR39 := hR35.upd u39 fun k _ hk => by subst hk; exact m1
      have sq := (st15.trans st35).also u39 fun k hk => by omega
      refine deref_ (ldLk (s := sl) hR39.cells rfl (ldIk q39 rfl (newK fun h45 c45 e45 z45 => ?_)))
      have q45 := keepE q39 e45
      have hR45 := hR39.ext e45
      have hrow : Row h45 ⟨some ⟨h39.size, 0, none⟩, 1, 1⟩ 2 (wC (c.next, at_)) := ⟨rfl, Nat.le_refl _, (show 1 < 9223372036854775808 by decide), .inr ⟨h39.size, 0, rfl, has_block c45 fun i v hi => by simpa [wC] using hi⟩⟩
      refine ⟨⟨(cell_block q45).trans rfl, trivial⟩, ⟨(cell_block hR45.cells).trans rfl, trivial⟩, hrow.rd (Own.app hR45.l rfl rfl rfl (by omega) (by omega) (Nat.zero_le _) fun t46 h47 ho47 hl47 hu47 hblk => ?_)⟩
      have q47 : h47[h.size]? = _ := (hu47.old _ (blk_lt q45) fun h9 => by have := hR45.tsl _ h9; rw [m1] at this; cases this).trans q45
      refine ⟨⟨(cell_block q47).trans rfl, trivial⟩, deref_ ?_⟩
      have e : (c.tick at_).waits.flatMap wC ++ wC (c.next, at_) = ((c.tick at_).waits ++ [(c.next, at_)]).flatMap wC := by simp
      rw [e] at ho47
      refine hR45.setL ho47 (fun k hk => ?_) (hu47.mono fun k _ h9 => hR45.tsl k h9) fun h50 T50 hR50 st50 u50 => ?_
      · rcases hblk with h9 | h9
        · exact .inl (hR45.tsl k (h9 ▸ hk))
        · rw [h9] at hk
          cases hk
          exact .inr (Nat.le_refl _)
      have q50 := st50.stp.keep m1 q45
      have m50 := st50.stp.none_ m1 (blk_lt q45)
      have s50 := (sq.trans (StpR.ofExt e45)).trans st50
      refine ldIk q50 rfl (ldIk q50 rfl (ldIk q50 rfl (ldIk q50 rfl (ldSk q50 rfl (ldIk q50 rfl ?_)))))
      refine send_spec (r := (c.next, r2, r3, r4, r5, r6, ())) ⟨rb, t46, so, st, sb, hR50⟩ hl fun h57 T57 hC57 st57 => ?_
      have q57 := st57.stp.keep m50 q50
      exact ldIk q57 rfl (bindI_intro (bindI_intro (hk h57 T57 hC57 (s50.trans st57))))

theorem ranswered_spec {h : Heap} {T : Nat → Option Nat} {cb : Nat} {c : Cl} (hC : RefC h T cb c) (ha : Asc c.waits) (hl : c.told.length ≤ 1099511627776) (hwl : c.waits.length ≤ 1099511627776) {a : An} {K : Heap → Prop}
    (hk : ∀ h' T', RefC h' T' cb (c.answ a) → StpR T T' h h' → K h') : m_spillwayref21_Client_answered (some ⟨cb, 0, none⟩) a K h := by
  unfold m_spillwayref21_Client_answered g_spillwayref21_Client_answered
  obtain ⟨a1, a2, a3, a4, a5, u⟩ := a
  have n1 : T h.size = none := none_new hC.lt (Nat.le_refl _)
  refine newK fun h1 c1 e1 z1 => bindI_intro ?_
  have hC1 := hC.ext e1
  obtain ⟨rb, sl, so, st, sb, hR⟩ := hC1
  have hsl := wlen hR.l
  have htl := tlen hR.told
  refine loopM_intro (fun p h' => h' = h1 ∧ ∃ i : Nat, p.1 = (i : Int) ∧ i ≤ c.waits.length ∧ ∀ p, p ∈ c.waits.take i → p.1 ≠ a1) (fun p _ => c.waits.length - p.1.toNat) ⟨rfl, 0, rfl, Nat.zero_le _, (fun p hp => (by simp at hp))⟩ ?_
  rintro ⟨i, u⟩ h4 ⟨rfl, k, hi, hkl, hno⟩
  dsimp only at hi
  subst hi
  dsimp only
  refine deref_ (ldLk (s := sl) hR.cells rfl (iteP_dec (fun hlt => ?_) fun hge => ?_))
  · have hk1 : k < c.waits.length := by omega
    have hp : c.waits[k]? = some c.waits[k] := List.getElem?_eq_getElem hk1
    have htk : c.waits.take (k + 1) = c.waits.take k ++ [c.waits[k]] := List.take_succ_eq_append_getElem hk1
    generalize c.waits[k] = p at hp htk
    refine deref_ (ldLk (s := sl) hR.cells rfl (wait_idx hR.l hp rfl fun b9 o10 d9 d0 d1 => ⟨p.1, d0, ldIk c1 rfl ⟨fun heq => ?_, fun hne => bindI_intro ?_⟩⟩))
    · have heq : p.1 = a1 := by simpa using heq
      subst heq
      refine deref_ (ldLk (s := st) hR.cells rfl (ldIk c1 rfl (ldIk c1 rfl (ldIk c1 rfl (ldIk c1 rfl (ldIk c1 rfl (ldIk c1 rfl (newK fun h20 c20 e20 z20 => ?_))))))))
      have d20 := keepE c1 e20
      have hR20 := hR.ext e20
      have hrow : Row h20 ⟨some ⟨h4.size, 0, none⟩, 1, 1⟩ 7 (tC ⟨p.1, (p.1, a2, a3, a4, a5, ()), false⟩) := ⟨rfl, Nat.le_refl _, (show 1 < 9223372036854775808 by decide), .inr ⟨h4.size, 0, rfl, has_block c20 fun i v hi => by simpa [tC] using hi⟩⟩
      refine ⟨⟨(cell_block d20).trans rfl, (cell_block d20).trans rfl, (cell_block d20).trans rfl, (cell_block d20).trans rfl, (cell_block d20).trans rfl, trivial⟩, ⟨(cell_block d20).trans rfl, trivial⟩, ⟨(cell_block hR20.cells).trans rfl, trivial⟩, hrow.rd (Own.app hR20.told rfl rfl rfl (by omega) (by omega) (Nat.zero_le _) fun t21 h22 ho22 hl22 hu22 hblk => ?_)⟩
      have d22 : h22[h.size]? = _ := (hu22.old _ (blk_lt d20) fun h9' => by have := hR20.tst _ h9'; rw [n1] at this; cases this).trans d20
      refine ⟨⟨(cell_block d22).trans rfl, (cell_block d22).trans rfl, (cell_block d22).trans rfl, (cell_block d22).trans rfl, (cell_block d22).trans rfl, trivial⟩, ⟨(cell_block d22).trans rfl, trivial⟩, deref_ ?_⟩
      have e : c.told.flatMap tC ++ tC ⟨p.1, (p.1, a2, a3, a4, a5, ()), false⟩ = (c.told ++ [(⟨p.1, (p.1, a2, a3, a4, a5, ()), false⟩ : Tld)]).flatMap tC := by simp
      rw [e] at ho22
      refine hR20.setTold ho22 (fun k hk => ?_) (hu22.mono fun k _ h9 => hR20.tst k h9) fun h28 T28 hR28 st28 _ => deref_ (ldLk (s := sl) hR28.cells rfl ?_)
      · rcases hblk with h9' | h9'
        · exact .inl (hR20.tst k (h9' ▸ hk))
        · rw [h9'] at hk
          cases hk
          exact .inr (Nat.le_refl _)
      · refine cut_out hR28 hwl (i := k) hk1 rfl (by rw [wrap64 (n := (k : Int) + 1) (by omega) (by omega)]; omega) fun h45 T45 sl' hR45 st45 => hk h45 T45 ⟨rb, sl', so, t21, sb, ?_⟩ ((((StpR.ofExt e1).trans (StpR.ofExt e20)).trans st28).trans st45)
        have hany : c.waits.any (fun q => q.1 == p.1) = true := List.any_eq_true.2 ⟨p, List.mem_of_getElem? hp, by simp⟩
        unfold Cl.answ
        rw [hany, if_pos rfl, ← asc_erase ha hp]
        exact hR45
    · have hne : p.1 ≠ a1 := by simpa using hne
      rw [wrap64 (n := (k : Int) + 1) (by omega) (by omega)]
      refine ⟨⟨rfl, k + 1, by omega, by omega, fun q hq => ?_⟩, by omega⟩
      rw [htk] at hq
      rcases List.mem_append.1 hq with h9 | h9
      · exact hno q h9
      · have : q = p := List.mem_singleton.1 h9
        subst this
        exact hne
  · have hk2 : k = c.waits.length := by omega
    rw [hk2, List.take_length] at hno
    refine hk h4 T ⟨rb, sl, so, st, sb, ?_⟩ (StpR.ofExt e1)
    have hany : c.waits.any (fun q => q.1 == a1) = false := List.any_eq_false.2 fun q hq h9 => hno q hq (by simpa using h9)
    unfold Cl.answ
    rw [hany]
    exact hR

/-- the reader's two cells become other ones -/
theorem RfR.setRd {h h1 : Heap} {T : Nat → Option Nat} {cb rb : Nat} {sl so st sb : Sl} {c : Cl} (hR : RfR h T cb rb sl so st sb c) {x : Sl} {l : List UInt8} {br : Bool} (hc : h1[rb]? = some (.cells #[slV x, .bool br] 91 (0, 0))) (hx : Bytes h1 x l)
    (hnew : ∀ k, x.blk = some k → h.size ≤ k) (hlt : ∀ k, x.blk = some k → k < h1.size) (hu : Upd (· = rb) h h1) : ∃ T', RfR h1 T' cb rb sl so st x { c with rb := l, broken := br } ∧ StpR T T' h h1 ∧ ∀ k, T' k ≠ none → T k ≠ none ∨ T' k = some 5 := by
  have nrb : ∀ {k t}, T k = some t → t ≠ 1 → k ≠ rb := fun {k t} h8 h9 h7 => by subst h7; rw [hR.trb] at h8; cases h8; exact h9 rfl
  have old : ∀ {k t}, T k = some t → t ≠ 1 → h1[k]? = h[k]? := fun {k t} h8 h9 => hu.old k (hR.lt k (by rw [h8]; simp)) (nrb h8 h9)
  have tag : ∀ {k t}, T k = some t → (if x.blk = some k then some 5 else T k) = some t := fun {k t} h8 => by
    rw [if_neg fun h7 => ?_]
    · exact h8
    · have := hnew k h7
      have := hR.lt k (by rw [h8]; simp)
      omega
  refine ⟨fun k => if x.blk = some k then some 5 else T k, ⟨(old hR.tcb (by decide)).trans hR.cells, hc, hR.l.congr fun k hk _ _ => old (hR.tsl k hk) (by decide), hR.out.congr fun k hk _ _ => old (hR.tso k hk) (by decide), hR.told.congr fun k hk _ _ => old (hR.tst k hk) (by decide), hx,
    tag hR.tcb, tag hR.trb, fun k hk => tag (hR.tsl k hk), fun k hk => tag (hR.tso k hk), fun k hk => tag (hR.tst k hk), fun k hk => by rw [if_pos hk], fun k hk => ?_⟩, ⟨hu.mono fun k _ hk => (by subst hk; rw [hR.trb]; exact ⟨by simp, by simp⟩), fun k hk => ?_, fun k hk => tag hk⟩, fun k hk => ?_⟩
  · by_cases h8 : x.blk = some k
    · exact hlt k h8
    · rw [if_neg h8] at hk
      have := hR.lt k hk
      have := hu.size
      omega
  · by_cases h8 : x.blk = some k
    · exact .inr (hnew k h8)
    · rw [if_neg h8] at hk
      exact .inl hk
  · dsimp only at hk ⊢
    by_cases h8 : x.blk = some k
    · rw [if_pos h8]; exact .inr rfl
    · rw [if_neg h8] at hk
      exact .inl hk

theorem RowsH.congr {h h' : Heap} {base : Nat} {s : Sl} {ll : List (List UInt8)} (hr : RowsH h base s ll) (hs : h.size ≤ h'.size) (he : ∀ k, base ≤ k → k < h.size → h'[k]? = h[k]?) : RowsH h' base s ll := by
  obtain ⟨ss, g1, g2, g3, g4⟩ := hr
  refine ⟨ss, g1.congr fun b o hp _ hl => he b (g3 b (by simp [Sl.blk, hp])).1 hl, g2, fun k hk => ⟨(g3 k hk).1, Nat.lt_of_lt_of_le (g3 k hk).2 hs⟩, fun i x l hx hl => ?_⟩
  obtain ⟨q1, q2⟩ := g4 i x l hx hl
  exact ⟨q1.congr fun b o hp _ hl => he b (q2 b (by simp [Sl.blk, hp])).1 hl, fun k hk => ⟨(q2 k hk).1, Nat.lt_of_lt_of_le (q2 k hk).2 hs⟩⟩
theorem RowsH.len {h : Heap} {base : Nat} {s : Sl} {ll : List (List UInt8)} (hr : RowsH h base s ll) : s.len = ll.length ∧ s.len < 9223372036854775808 := by
  obtain ⟨ss, g1, g2, _⟩ := hr
  have := g1.len
  have := g1.cap
  have := g1.big
  simp at *
  omega
theorem RowsH.idx {h : Heap} {base : Nat} {s : Sl} {ll : List (List UInt8)} (hr : RowsH h base s ll) {i : Int} {n : Nat} (hi : i = n) {l : List UInt8} (hl : ll[n]? = some l) {K : Sl → Prop} (hk : ∀ x, Bytes h x l → K x) : idxA s.ptr s.len i 1 fun b o => ldL h b o K := by
  obtain ⟨ss, g1, g2, _, g4⟩ := hr
  have hn : n < ss.length := by rw [g2]; exact (List.getElem?_eq_some_iff.1 hl).1
  have hx : ss[n]? = some ss[n] := List.getElem?_eq_getElem hn
  exact Row.idx g1 hi (v := slV ss[n]) (by simp [hx]) fun _ _ _ hc => ⟨ss[n], hc, hk _ (g4 n _ l hx hl).1⟩

theorem RBytes_spec {h : Heap} {T : Nat → Option Nat} {cb : Nat} {c : Cl} (hC : RefC h T cb c) (hW : WOK c) (hM : Mon c.waits) (hN : NOK c) (hbr : c.broken = false) {at_ : Int} {b : Sl} {l : List UInt8} (hb : Bytes h b l) (hbT : l ≠ [] → ∀ k, b.blk = some k → T k = none) (hsz : c.rb.length + l.length ≤ 1099511627776) {K : Int → Heap → Prop}
    (hk : ∀ h' T', RefC h' T' cb (c.bytesR at_ l).1 → StpR T T' h h' → K (c.bytesR at_ l).2 h') : m_spillwayref21_Client_Bytes (some ⟨cb, 0, none⟩) at_ b K h := by
  unfold m_spillwayref21_Client_Bytes g_spillwayref21_Client_Bytes
  refine bindI_intro (RTick_spec hC hW hM fun h2 T2 hC2 st2 => bindI_intro ?_)
  unfold Cl.bytesR at hk
  unfold Cl.atS at hC2
  by_cases he : c.atE at_ = 0
  rotate_left
  · rw [if_neg he] at hk hC2
    exact iteP_pos (by simpa using he) (bindI_intro (hk h2 T2 hC2 st2))
  rw [if_pos he] at hk hC2
  rw [he]
  have hC2' := hC2
  obtain ⟨rb, sl, so, st, sb, hR⟩ := hC2
  refine iteP_false (deref_ (ldBk hR.cells rfl ?_))
  have hup : (c.tick at_).up = c.up := rfl
  rw [hup]
  cases hu : c.up with
  | false =>
    rw [hu] at hk
    exact iteP_true (bindI_intro (hk h2 T2 hC2' st2))
  | true =>
    rw [hu] at hk
    simp only [if_true] at hk
    refine iteP_false (deref_ (ldPk hR.cells rfl ?_))
    have hb' : Bytes h2 b l := hb.congr fun k o hp hne hl => st2.upd.old k hl fun h9 => h9.1 (hbT (fun he => hne (by rw [he]; rfl)) k (by simp [Sl.blk, hp]))
    have hG : IsG 91 h2 rb (fun k => k ≠ rb) c.rb c.broken := ⟨⟨sb, hR.rcell, hR.rbs, (fun k hk h9 => by have := hR.tsb k hk; rw [h9, hR.trb] at this; cases this), (fun h9 => by rw [hbr] at h9; cases h9)⟩⟩
    refine RPut3_spec hG hb' hsz fun out h12 hout hG12 u12 => bindI_intro (bindI_intro ?_)
    obtain ⟨x, hx1, hx2, hx3, hx4⟩ := hG12.cells
    obtain ⟨T12, hR12, st12, only12⟩ := hR.setRd hx1 hx2 (fun k hk => (hx3 k hk).1) (fun k hk => (hx3 k hk).2) u12
    have hro : ∀ k, h2.size ≤ k → k < h12.size → ¬ (T12 k ≠ none ∧ T12 k ≠ some 5) := fun k h8 _ h9 => by
      rcases only12 k h9.1 with h7 | h7
      · have := hR.lt k h7; omega
      · exact h9.2 h7
    have hq : putS (c.tick at_).rb (c.tick at_).broken l = putS c.rb c.broken l := rfl
    unfold Cl.putB at hk
    dsimp only at hk
    rw [hq] at hk
    have W2 : WOK { c.tick at_ with rb := (putS c.rb c.broken l).2.2, broken := (putS c.rb c.broken l).2.1 } := (hW.tick he).rbs
    have N2 : NOK { c.tick at_ with rb := (putS c.rb c.broken l).2.2, broken := (putS c.rb c.broken l).2.1 } := (hN.tick at_).rbs
    have hl2 : ({ c.tick at_ with rb := (putS c.rb c.broken l).2.2, broken := (putS c.rb c.broken l).2.1 } : Cl).last = at_ := rfl
    generalize putS c.rb c.broken l = q at hk hout hG12 hx1 hx2 hx4 hR12 W2 N2 hl2 ⊢
    generalize ({ c.tick at_ with rb := q.2.2, broken := q.2.1 } : Cl) = c2 at hk hR12 W2 N2 hl2
    obtain ⟨hol, hob⟩ := hout.len
    refine loopM_intro (fun p h' => ∃ (k : Nat) (T' : Nat → Option Nat) (c' : Cl), p.1 = (k : Int) ∧ k ≤ q.1.length ∧ RefC h' T' cb c' ∧ StpR T12 T' h12 h' ∧ c2.take (q.1.take k) = (c', false)) (fun p _ => q.1.length - p.1.toNat)
      ⟨0, T12, c2, rfl, Nat.zero_le _, ⟨rb, sl, so, st, x, hR12⟩, StpR.refl _ _, rfl⟩ ?_
    rintro ⟨i, u⟩ h16 ⟨k, T16, c', hi, hkl, hC16, st16, htk⟩
    dsimp only at hi
    subst hi
    dsimp only
    have same' := take_same (q.1.take k) c2
    rw [htk] at same'
    have hW' : WOK c' := by have := WOK.take (l := q.1.take k) W2; rw [htk] at this; exact this
    have hN' : NOK c' := by have := NOK.take (l := q.1.take k) N2; rw [htk] at this; exact this
    have hlc : at_ = c'.last := by rw [same'.1, hl2]
    refine iteP_dec (fun hlt => ?_) (fun hge => ?_)
    · have hk1 : k < q.1.length := by omega
      have hp : q.1[k]? = some q.1[k] := List.getElem?_eq_getElem hk1
      generalize q.1[k] = p at hp
      have hout16 : RowsH h16 h2.size out q.1 := hout.congr st16.upd.size fun k h8 h9 => st16.upd.old k h9 (hro k h8 h9)
      obtain ⟨t1, t2⟩ := take_split q.1 c2 k p hp c' htk
      refine hout16.idx rfl hp fun y hy => RReadAnswer_spec hy fun h23 e23 => newK fun h25 c25 e25 z25 => stsAll c25 rfl rfl fun h26 c26 u26 z26 => bindI_intro (bindI_intro ?_)
      have x26 : Ext h16 h26 := (e23.trans e25).then u26 fun k hk => by have := e23.size; omega
      have hC26 := hC16.ext x26
      have st26 := st16.trans (StpR.ofExt (T := T16) x26)
      by_cases hw : (readA p).2.1 = 0
      · rw [hw]
        refine iteP_false (ldIk c26 rfl (ldIk c26 rfl (ldIk c26 rfl (ldIk c26 rfl (ldIk c26 rfl (ranswered_spec (a := (readA p).1) hC26 hW'.asc (by have := hW'.sum; omega) (by have := hW'.sum; omega) fun h34 T34 hC34 st34 => bindI_intro ?_))))))
        rw [wrap64 (n := (k : Int) + 1) (by omega) (by omega)]
        refine ⟨⟨k + 1, T34, _, by omega, by omega, hC34, st26.trans st34, ?_⟩, by omega⟩
        rw [t1, if_neg (by rw [hw]; exact fun h => h rfl)]
      · rw [t2 hw] at hk
        simp only [if_true] at hk
        rw [if_neg (by decide)] at hk
        exact iteP_pos (by simpa using hw) (rdown_spec hC26 hW' hN' hlc fun h27 T27 hC27 st27 => bindI_intro (hk h27 T27 hC27 (((st2.trans st12).trans st26).trans st27)))
    · have hk2 : k = q.1.length := by omega
      rw [hk2, List.take_length] at htk
      rw [htk] at hk
      simp only [Bool.false_eq_true, if_false] at hk
      have sAll := (st2.trans st12).trans st16
      cases hq1 : q.2.1 with
      | true =>
        rw [hq1] at hk
        simp only [if_true] at hk
        rw [if_neg (by decide)] at hk
        exact iteP_true (rdown_spec hC16 hW' hN' hlc fun h36 T36 hC36 st36 => bindI_intro (hk h36 T36 hC36 (sAll.trans st36)))
      | false =>
        rw [hq1] at hk
        simp only [Bool.false_eq_true, if_false, if_true] at hk
        exact iteP_false (bindI_intro (hk h16 T16 hC16 sAll))

end Go.Proofs.YtcmedplogmjiiaaGreat
