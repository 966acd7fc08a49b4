/- The client, B. (gathered by carve.py out of texts proved for other seats) -/
import Derived.Test.YtbofhmcjcllcaaaClA
import Derived.Test.YtbofhmcjcllcaaaTaG
namespace Go.Proofs.Ytbofhmcjcllcaaa
open Go Go.Fw

theorem Waiting_spec {h : Heap} {T : Nat → Option Nat} {cb rb mb : Nat} {so st sb : Sl} {c : Cl} (hR : ClR h T cb rb mb so st sb c) (ha : Asc c.waits) (hb : ∀ p, p ∈ c.waits → -9223372036854775808 ≤ p.1 ∧ p.1 < 9223372036854775808) (hl : c.waits.length ≤ 1099511627776) {K : Sl → Heap → Prop}
    (hk : ∀ s h', Own h' h.size s 1 ((c.waits.map (·.1)).map iv) → Ext h h' → K s h') : m_client_Client_Waiting (some ⟨cb, 0, none⟩) K h := by
  unfold m_client_Client_Waiting g_client_Client_Waiting
  refine iteP_false (deref_ (ldMk hR.cells rfl ?_))
  unfold m_maps_Keys_map_int_int_int_int_
  refine newK fun h2 c2 e2 z2 => ⟨h.size, mb, c.waits.map (·.1), rfl, (cell_block c2).trans rfl, (hR.map.congr (e2.old mb hR.map.lt)).rising ha hb, by rw [List.length_map]; omega, fun s h' ho he => hk s h' (ho.base (by omega)) (e2.trans he)⟩

/-- the row of what was told becomes another one -/
theorem ClR.setTold {h h1 : Heap} {T : Nat → Option Nat} {cb rb mb : Nat} {so st sb : Sl} {c : Cl} (hR : ClR h T cb rb mb so st sb c) {x : Sl} {l : List Tld} (hx : Own h1 0 x 7 (l.flatMap tC)) (hnew : ∀ k, x.blk = some k → T k = some 4 ∨ h.size ≤ k) (hu : Upd (fun k => T k = some 4) h h1)
    {K : Heap → Prop} (hk : ∀ h2 T', ClR h2 T' cb rb mb so x sb { c with told := l } → Stp T T' h h2 → Upd (· = cb) h1 h2 → K h2) : Fw.st h1 cb 10 (slV x) K := by
  have ne : ∀ {k t}, T k = some t → t ≠ 4 → h1[k]? = h[k]? := fun {k t} h8 h9 => hu.old k (hR.lt k (by rw [h8]; simp)) fun h7 => by rw [h8] at h7; cases h7; exact h9 rfl
  have ncb : ∀ {k t}, T k = some t → t ≠ 0 → k ≠ cb := fun {k t} h8 h9 h7 => by subst h7; rw [hR.tcb] at h8; cases h8; exact h9 rfl
  have lcb := blk_lt hR.cells
  have c1 : h1[cb]? = some (.cells (clC rb mb so st c) _ (0, 0)) := (ne hR.tcb (by decide)).trans hR.cells
  refine put2 c1 (by show 10 < 13; decide) rfl fun h2 c2 u2 z2 => ?_
  have x1 : ∀ k, x.blk = some k → k ≠ cb := fun k hx9 h9 => by
    subst h9
    rcases hnew k hx9 with h8 | h8
    · rw [hR.tcb] at h8; cases h8
    · omega
  have old : ∀ {k t}, T k = some t → t ≠ 0 → t ≠ 4 → h2[k]? = h[k]? := fun {k t} h8 h9 h7 => (u2.old k (by have := hR.lt k (by rw [h8]; simp); have := hu.size; omega) (ncb h8 h9)).trans (ne h8 h7)
  have tag : ∀ {k t}, T k = some t → t ≠ 4 → (if x.blk = some k then some 4 else T k) = some t := fun {k t} h8 h9 => by
    rw [if_neg fun h7 => ?_]
    · exact h8
    · rcases hnew k h7 with h6 | h6
      · rw [h8] at h6; cases h6; exact h9 rfl
      · have := hR.lt k (by rw [h8]; simp); omega
  refine hk h2 (fun k => if x.blk = some k then some 4 else T k) ⟨c2, (old hR.trb (by decide) (by decide)).trans hR.rcell, hR.map.congr (old hR.tmb (by decide) (by decide)), hR.out.congr fun k hk _ _ => old (hR.tso k hk) (by decide) (by decide),
    hx.congr fun k hk hl _ => u2.old k hl (x1 k hk), hR.rbs.congr fun k o hk _ _ => old (hR.tsb k (by simp [Sl.blk, hk])) (by decide) (by decide), tag hR.tcb (by decide), tag hR.trb (by decide), tag hR.tmb (by decide), fun k hk => tag (hR.tso k hk) (by decide), fun k hk => by rw [if_pos hk], fun k hk => tag (hR.tsb k hk) (by decide), fun k hk => ?_⟩
    ⟨Upd.then (hu.mono fun k _ h8 => by rw [h8]; simp) u2 fun k _ h8 => by subst h8; rw [hR.tcb]; simp, fun k hk => ?_⟩ u2
  · have := hu.size
    by_cases h8 : x.blk = some k
    · have := (hx.lt h8).2; omega
    · rw [if_neg h8] at hk
      have := hR.lt k hk; omega
  · by_cases h8 : x.blk = some k
    · rcases hnew k h8 with h7 | h7
      · exact .inl (by rw [h7]; simp)
      · exact .inr h7
    · rw [if_neg h8] at hk
      exact .inl hk

/-- the row of what is to be sent becomes another one -/
theorem ClR.setOut {h h1 : Heap} {T : Nat → Option Nat} {cb rb mb : Nat} {so st sb : Sl} {c : Cl} (hR : ClR h T cb rb mb so st sb c) {x : Sl} {l : List UInt8} (hx : Own h1 0 x 1 (l.map bv)) (hnew : ∀ k, x.blk = some k → T k = some 3 ∨ h.size ≤ k) (hu : Upd (fun k => T k = some 3) h h1)
    {K : Heap → Prop} (hk : ∀ h2 T', ClR h2 T' cb rb mb x st sb { c with out := l } → Stp T T' h h2 → Upd (· = cb) h1 h2 → K h2) : Fw.st h1 cb 9 (slV x) K := by
  have ne : ∀ {k t}, T k = some t → t ≠ 3 → h1[k]? = h[k]? := fun {k t} h8 h9 => hu.old k (hR.lt k (by rw [h8]; simp)) fun h7 => by rw [h8] at h7; cases h7; exact h9 rfl
  have ncb : ∀ {k t}, T k = some t → t ≠ 0 → k ≠ cb := fun {k t} h8 h9 h7 => by subst h7; rw [hR.tcb] at h8; cases h8; exact h9 rfl
  have lcb := blk_lt hR.cells
  have c1 : h1[cb]? = some (.cells (clC rb mb so st c) _ (0, 0)) := (ne hR.tcb (by decide)).trans hR.cells
  refine put2 c1 (by show 9 < 13; decide) rfl fun h2 c2 u2 z2 => ?_
  have x1 : ∀ k, x.blk = some k → k ≠ cb := fun k hx9 h9 => by
    subst h9
    rcases hnew k hx9 with h8 | h8
    · rw [hR.tcb] at h8; cases h8
    · omega
  have old : ∀ {k t}, T k = some t → t ≠ 0 → t ≠ 3 → h2[k]? = h[k]? := fun {k t} h8 h9 h7 => (u2.old k (by have := hR.lt k (by rw [h8]; simp); have := hu.size; omega) (ncb h8 h9)).trans (ne h8 h7)
  have tag : ∀ {k t}, T k = some t → t ≠ 3 → (if x.blk = some k then some 3 else T k) = some t := fun {k t} h8 h9 => by
    rw [if_neg fun h7 => ?_]
    · exact h8
    · rcases hnew k h7 with h6 | h6
      · rw [h8] at h6; cases h6; exact h9 rfl
      · have := hR.lt k (by rw [h8]; simp); omega
  refine hk h2 (fun k => if x.blk = some k then some 3 else T k) ⟨c2, (old hR.trb (by decide) (by decide)).trans hR.rcell, hR.map.congr (old hR.tmb (by decide) (by decide)), hx.congr fun k hk hl _ => u2.old k hl (x1 k hk),
    hR.told.congr fun k hk _ _ => old (hR.tst k hk) (by decide) (by decide), hR.rbs.congr fun k o hk _ _ => old (hR.tsb k (by simp [Sl.blk, hk])) (by decide) (by decide), tag hR.tcb (by decide), tag hR.trb (by decide), tag hR.tmb (by decide), fun k hk => by rw [if_pos hk], fun k hk => tag (hR.tst k hk) (by decide), fun k hk => tag (hR.tsb k hk) (by decide), fun k hk => ?_⟩
    ⟨Upd.then (hu.mono fun k _ h8 => by rw [h8]; simp) u2 fun k _ h8 => by subst h8; rw [hR.tcb]; simp, fun k hk => ?_⟩ u2
  · have := hu.size
    by_cases h8 : x.blk = some k
    · have := (hx.lt h8).2; omega
    · rw [if_neg h8] at hk
      have := hR.lt k hk; omega
  · by_cases h8 : x.blk = some k
    · rcases hnew k h8 with h7 | h7
      · exact .inl (by rw [h7]; simp)
      · exact .inr h7
    · rw [if_neg h8] at hk
      exact .inl hk

/-- the map of those that wait becomes another one, in its place -/
theorem ClR.setMap {h h1 : Heap} {T : Nat → Option Nat} {cb rb mb : Nat} {so st sb : Sl} {c : Cl} (hR : ClR h T cb rb mb so st sb c) {l : List (Int × Int)} (hm : MapI h1 mb l) (u1 : Upd (· = mb) h h1) (z1 : h1.size = h.size) : ClR h1 T cb rb mb so st sb { c with waits := l } ∧ Stp T T h h1 := by
  have nm : ∀ {k t}, T k = some t → t ≠ 2 → k ≠ mb := fun {k t} h8 h9 h7 => by subst h7; rw [hR.tmb] at h8; cases h8; exact h9 rfl
  have old : ∀ {k t}, T k = some t → t ≠ 2 → h1[k]? = h[k]? := fun {k t} h8 h9 => u1.old k (hR.lt k (by rw [h8]; simp)) (nm h8 h9)
  exact ⟨⟨(old hR.tcb (by decide)).trans hR.cells, (old hR.trb (by decide)).trans hR.rcell, hm, hR.out.congr fun k hk _ _ => old (hR.tso k hk) (by decide), hR.told.congr fun k hk _ _ => old (hR.tst k hk) (by decide), hR.rbs.congr fun k o hk _ _ => old (hR.tsb k (by simp [Sl.blk, hk])) (by decide), hR.tcb, hR.trb, hR.tmb, hR.tso, hR.tst, hR.tsb, fun k hk => by rw [z1]; exact hR.lt k hk⟩,
    Stp.ofUpd u1 fun k _ hk => by subst hk; rw [hR.tmb]; simp⟩

def Cl.fallI (c : Cl) (i : Nat) (id : Int) : Cl := { c with waits := c.waits.eraseIdx i, told := c.told ++ [fallT id] }

theorem fall_spec {h : Heap} {T : Nat → Option Nat} {cb : Nat} {c : Cl} (hC : Client h T cb c) (ha : Asc c.waits) {i : Nat} {p : Int × Int} (hp : c.waits[i]? = some p) (hl : c.told.length ≤ 1099511627776) {K : Heap → Prop}
    (hk : ∀ h' T', Client h' T' cb (c.fallI i p.1) → Stp T T' h h' → K h') : m_client_Client_fall (some ⟨cb, 0, none⟩) p.1 K h := by
  obtain ⟨rb, mb, so, st, sb, hR⟩ := hC
  unfold m_client_Client_fall g_client_Client_fall
  refine deref_ (ldMk hR.cells rfl (hR.map.del ha hp fun h1 m1 u1 z1 => deref_ ?_))
  obtain ⟨hR1, st1⟩ := hR.setMap m1 u1 z1
  refine ldLk (s := st) hR1.cells rfl (newK fun h6 c6 e6 z6 => ?_)
  have hrow : Row h6 ⟨some ⟨h1.size, 0, none⟩, 1, 1⟩ 7 (tC (fallT p.1)) := ⟨rfl, Nat.le_refl _, (show 1 < 9223372036854775808 by decide), .inr ⟨h1.size, 0, rfl, has_block c6 fun i v hi => by simpa [tC, fallT, zAn] using hi⟩⟩
  have htl : st.len = c.told.length := by
    have := hR.told.len
    rw [flat_len tC_len] at this
    omega
  have hlast := hR1.told.congr (h' := h6) fun k _ hl _ => e6.old k hl
  refine hrow.rd (Own.app hlast rfl rfl rfl (by omega) (by omega) (Nat.zero_le _) fun t7 h8 ho8 hl8 hu8 hblk => deref_ ?_)
  have e : ({ c with waits := c.waits.eraseIdx i } : Cl).told.flatMap tC ++ tC (fallT p.1) = (c.told ++ [fallT p.1]).flatMap tC := by simp
  rw [e] at ho8
  refine hR1.setTold ho8 (fun k hk => ?_) (Upd.then (e6.upd _) hu8 fun k _ h8 => hR1.tst k h8) fun h11 T11 hR11 st11 _ => ?_
  · rcases hblk with h9 | h9
    · exact .inl (hR1.tst k (h9 ▸ hk))
    · rw [h9] at hk
      cases hk
      exact .inr (by omega)
  · exact hk h11 T11 ⟨rb, mb, so, t7, sb, hR11⟩ (st1.trans st11)

def keepW (tmo at_ : Int) (p : Int × Int) : Bool := decide (at_ - p.2 < tmo)

def Cl.tick (c : Cl) (at_ : Int) : Cl :=
  { c with last := at_, waits := c.waits.filter (keepW c.tmo at_), told := c.told ++ (c.waits.filter fun p => !keepW c.tmo at_ p).map fun p => fallT p.1 }

def Cl.atE (c : Cl) (at_ : Int) : Int := if at_ < 0 then 2 else if at_ > 1152921504606846976 then 2 else if at_ < c.last then 7 else 0

structure WOK (c : Cl) : Prop where
  asc : Asc c.waits
  ids : ∀ p, p ∈ c.waits → 1 ≤ p.1 ∧ p.1 < c.next
  ats : ∀ p, p ∈ c.waits → 0 ≤ p.2 ∧ p.2 ≤ c.last
  last : 0 ≤ c.last ∧ c.last ≤ 1152921504606846976
  next : 1 ≤ c.next ∧ c.next ≤ 4611686018427387904
  sum : c.told.length + c.waits.length ≤ 1073741824

theorem asc_filter {l : List (Int × Int)} (ha : Asc l) (f : Int × Int → Bool) : Asc (l.filter f) := List.Pairwise.filter f ha

def Cl.tickK (c : Cl) (at_ : Int) (k : Nat) : Cl :=
  { c with last := at_, waits := (c.waits.take k).filter (keepW c.tmo at_) ++ c.waits.drop k, told := c.told ++ ((c.waits.take k).filter fun p => !keepW c.tmo at_ p).map fun p => fallT p.1 }

theorem at_spec {h : Heap} {T : Nat → Option Nat} {cb : Nat} {c : Cl} (hC : Client h T cb c) (hW : WOK c) {at_ : Int} {thenM : (Int → Heap → Prop) → Heap → Prop} {K : Int → Heap → Prop}
    (hbad : c.atE at_ ≠ 0 → K (c.atE at_) h)
    (hgo : c.atE at_ = 0 → ∀ h' T', Client h' T' cb (c.tick at_) → Stp T T' h h' → thenM K h') :
    g_client_Client_at__client_Client_Tick_1 m_client_Client_Waiting m_client_Client_fall thenM (some ⟨cb, 0, none⟩) at_ K h := by
  obtain ⟨rb, mb, so, st, sb, hR⟩ := hC
  unfold g_client_Client_at__client_Client_Tick_1
  unfold Cl.atE at hbad hgo
  have hlast := hW.last
  have hnext := hW.next
  have hsum := hW.sum
  refine bindI_intro (bindB_intro (iteP_false (iteP_dec (fun h0 => ?_) fun h0 => bindB_intro (iteP_dec (fun h1 => ?_) fun h1 => deref_ (ldIk hR.cells rfl (bindB_intro (iteP_dec (fun h2 => ?_) fun h2 => ?_)))))))
  · rw [if_pos h0] at hbad
    exact hbad (by decide)
  · rw [if_neg h0, if_pos h1] at hbad
    exact hbad (by decide)
  · rw [if_neg h0, if_neg h1, if_pos h2] at hbad
    exact hbad (by decide)
  · rw [if_neg h0, if_neg h1, if_neg h2] at hgo
    have hgo := hgo rfl
    refine deref_ (hR.setF { c with last := at_ } (by decide) rfl rfl rfl rfl rfl rfl rfl fun h11 hR11 st11 z11 => ?_)
    have hb64 : ∀ p, p ∈ c.waits → -9223372036854775808 ≤ p.1 ∧ p.1 < 9223372036854775808 := fun p hp => by have := hW.ids p hp; omega
    refine Waiting_spec hR11 hW.asc hb64 (by show c.waits.length ≤ _; omega) fun s h13 hs13 e13 => ?_
    have hsl : s.len = c.waits.length := by
      have := hs13.len
      simp at this
      omega
    have hs0 : ∀ k, s.blk = some k → T k = none := fun k hk => none_new hR.lt (by have := (hs13.lt hk).1; omega)
    have l11 := hR11.lt
    refine loopM_intro (fun p h' => ∃ (k : Nat) (T' : Nat → Option Nat), p.1 = (k : Int) ∧ k ≤ c.waits.length ∧ Client h' T' cb (c.tickK at_ k) ∧ Stp T T' h13 h') (fun p _ => c.waits.length - p.1.toNat)
      ⟨0, T, rfl, Nat.zero_le _, ⟨rb, mb, so, st, sb, ?_⟩, Stp.refl _ _⟩ ?_
    · have e : c.tickK at_ 0 = { c with last := at_ } := by simp [Cl.tickK]
      rw [e]
      exact hR11.ext e13
    rintro ⟨i, u⟩ h15 ⟨k, T15, hi, hkl, hC15, st15⟩
    dsimp only at hi
    subst hi
    dsimp only
    refine iteP_dec (fun hlt => ?_) (fun hge => ?_)
    · have hk1 : k < c.waits.length := by omega
      have hp : c.waits[k]? = some c.waits[k] := List.getElem?_eq_getElem hk1
      have htk : c.waits.take (k + 1) = c.waits.take k ++ [c.waits[k]] := List.take_succ_eq_append_getElem hk1
      have hdk : c.waits.drop k = c.waits[k] :: c.waits.drop (k + 1) := List.drop_eq_getElem_cons hk1
      have hmem : c.waits[k] ∈ c.waits := List.getElem_mem hk1
      generalize c.waits[k] = p at hp htk hdk hmem
      have hsr : Ints h15 s (c.waits.map (·.1)) := (hs13.congr (h' := h15) fun k hk hl _ => st15.upd.old k hl fun h9 => h9 (hs0 k hk)).row
      refine Ints.idx hsr rfl (x := p.1) (by rw [List.getElem?_map, hp]; rfl) (bindI_intro (deref_ (deref_ ?_)))
      obtain ⟨rb5, mb5, so5, st5, sb5, hR5⟩ := hC15
      have hasc : Asc (c.tickK at_ k).waits := by
        have hsub : ((c.waits.take k).filter (keepW c.tmo at_) ++ c.waits.drop k).Sublist c.waits := by
          conv => rhs; rw [← List.take_append_drop k c.waits]
          exact List.Sublist.append List.filter_sublist (List.Sublist.refl _)
        exact List.Pairwise.sublist hsub hW.asc
      have hpos : (c.tickK at_ k).waits[((c.waits.take k).filter (keepW c.tmo at_)).length]? = some p := by
        show ((c.waits.take k).filter (keepW c.tmo at_) ++ c.waits.drop k)[_]? = _
        rw [hdk, List.getElem?_append_right (Nat.le_refl _), Nat.sub_self]
        rfl
      have hat := hW.ats p hmem
      refine ldMk hR5.cells rfl (ldIk hR5.cells rfl (hR5.map.get hasc hpos ⟨p.2, rfl, ⟨(cell_block hR5.cells).trans rfl, trivial⟩, ?_⟩))
      rw [wrap64 (n := at_ - p.2) (by omega) (by omega), wrap64 (n := (k : Int) + 1) (by omega) (by omega)]
      have hfl : ((c.waits.take k).filter fun p => !keepW c.tmo at_ p).length + ((c.waits.take k).filter (keepW c.tmo at_)).length ≤ k := by
        have h1 := List.length_eq_countP_add_countP (p := keepW c.tmo at_) (l := c.waits.take k)
        rw [List.countP_eq_length_filter, List.countP_eq_length_filter] at h1
        have h2 : (c.waits.take k).length = k := by rw [List.length_take]; omega
        have h3 : (List.filter (fun a => decide ¬keepW c.tmo at_ a = true) (c.waits.take k)) = (c.waits.take k).filter fun p => !keepW c.tmo at_ p := by
          congr 1; funext a; cases keepW c.tmo at_ a <;> rfl
        rw [h3] at h1
        omega
      refine iteP_dec (fun hge => ?_) (fun hlt => ?_)
      · have hkp : keepW c.tmo at_ p = false := by unfold keepW; exact decide_eq_false (by have : (c.tickK at_ k).tmo = c.tmo := rfl; omega)
        refine fall_spec ⟨rb5, mb5, so5, st5, sb5, hR5⟩ hasc hpos (by
          show (c.told ++ List.map _ _).length ≤ _
          rw [List.length_append, List.length_map]; omega) fun h26 T26 hC26 st26 => ⟨⟨k + 1, T26, by omega, by omega, ?_, st15.trans st26⟩, by omega⟩
        have e : (c.tickK at_ k).fallI ((c.waits.take k).filter (keepW c.tmo at_)).length p.1 = c.tickK at_ (k + 1) := by
          unfold Cl.fallI Cl.tickK
          dsimp only
          rw [htk, List.filter_append, List.filter_append, hdk, List.eraseIdx_append_of_length_le (Nat.le_refl _), Nat.sub_self]
          simp [hkp]
        rw [← e]
        exact hC26
      · have hkp : keepW c.tmo at_ p = true := by unfold keepW; exact decide_eq_true (by have : (c.tickK at_ k).tmo = c.tmo := rfl; omega)
        refine ⟨⟨k + 1, T15, by omega, by omega, ⟨rb5, mb5, so5, st5, sb5, ?_⟩, st15⟩, by omega⟩
        have e : c.tickK at_ k = c.tickK at_ (k + 1) := by
          unfold Cl.tickK
          rw [htk, List.filter_append, List.filter_append, hdk]
          simp [hkp]
        rw [← e]
        exact hR5
    · have hk2 : k = c.waits.length := by omega
      have e : c.tickK at_ k = c.tick at_ := by
        unfold Cl.tickK Cl.tick
        rw [hk2, List.take_length, List.drop_length, List.append_nil]
      rw [e] at hC15
      have hx : (fun t27 h28 => bindI t27 fun t29 => K t29 h28) = K := rfl
      rw [hx]
      exact hgo h15 T15 hC15 ((st11.trans (Stp.ofExt e13)).trans st15)

end Go.Proofs.Ytbofhmcjcllcaaa
