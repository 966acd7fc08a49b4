/- The client, H. (gathered by carve.py out of texts proved for other seats) -/
import Derived.Test.YtbofhmcjcllcaaaClE
import Derived.Test.YtbofhmcjcllcaaaClG
namespace Go.Proofs.Ytbofhmcjcllcaaa
open Go Go.Fw

/-- the reader's two cells become other ones -/
theorem ClR.setRd {h h1 : Heap} {T : Nat → Option Nat} {cb rb mb : Nat} {so st sb : Sl} {c : Cl} (hR : ClR h T cb rb mb so st sb c) {x : Sl} {l : List UInt8} {br : Bool} (hc : h1[rb]? = some (.cells #[slV x, .bool br] 108 (0, 0))) (hx : Bytes h1 x l)
    (hnew : ∀ k, x.blk = some k → T k = some 5 ∨ h.size ≤ k) (hlt : ∀ k, x.blk = some k → k < h1.size) (hu : Upd (· = rb) h h1) : ∃ T', ClR h1 T' cb rb mb so st x { c with rb := l, broken := br } ∧ Stp T T' h h1 ∧ ∀ k, T' k ≠ none → T k ≠ none ∨ x.blk = some k := by
  have nrb : ∀ {k t}, T k = some t → t ≠ 1 → k ≠ rb := fun {k t} h8 h9 h7 => by subst h7; rw [hR.trb] at h8; cases h8; exact h9 rfl
  have old : ∀ {k t}, T k = some t → t ≠ 1 → h1[k]? = h[k]? := fun {k t} h8 h9 => hu.old k (hR.lt k (by rw [h8]; simp)) (nrb h8 h9)
  have tag : ∀ {k t}, T k = some t → t ≠ 5 → (if x.blk = some k then some 5 else T k) = some t := fun {k t} h8 h9 => by
    rw [if_neg fun h7 => ?_]
    · exact h8
    · rcases hnew k h7 with h6 | h6
      · rw [h8] at h6; cases h6; exact h9 rfl
      · have := hR.lt k (by rw [h8]; simp); omega
  refine ⟨fun k => if x.blk = some k then some 5 else T k, ⟨(old hR.tcb (by decide)).trans hR.cells, hc, hR.map.congr (old hR.tmb (by decide)), hR.out.congr fun k hk _ _ => old (hR.tso k hk) (by decide), hR.told.congr fun k hk _ _ => old (hR.tst k hk) (by decide), hx,
    tag hR.tcb (by decide), tag hR.trb (by decide), tag hR.tmb (by decide), fun k hk => tag (hR.tso k hk) (by decide), fun k hk => tag (hR.tst k hk) (by decide), fun k hk => by rw [if_pos hk], fun k hk => ?_⟩, ⟨hu.mono fun k _ hk => by subst hk; rw [hR.trb]; simp, fun k hk => ?_⟩, fun k hk => ?_⟩
  · by_cases h8 : x.blk = some k
    · exact hlt k h8
    · rw [if_neg h8] at hk
      have := hR.lt k hk
      have := hu.size
      omega
  · by_cases h8 : x.blk = some k
    · rcases hnew k h8 with h7 | h7
      · exact .inl (by rw [h7]; simp)
      · exact .inr h7
    · rw [if_neg h8] at hk
      exact .inl hk
  · dsimp only at hk
    by_cases h8 : x.blk = some k
    · exact .inr h8
    · rw [if_neg h8] at hk
      exact .inl hk

theorem Reset_spec' {h : Heap} {T : Nat → Option Nat} {cb rb mb : Nat} {so st sb : Sl} {c : Cl} (hR : ClR h T cb rb mb so st sb c) {K : Heap → Prop} (hk : ∀ h' T', ClR h' T' cb rb mb so st ⟨none, 0, 0⟩ { c with rb := [], broken := false } → Stp T T' h h' → K h') : m_frame_Reader_Reset (some ⟨rb, 0, none⟩) K h := by
  unfold m_frame_Reader_Reset g_frame_Reader_Reset
  refine iteP_true (deref_ (put2 hR.rcell (show 0 < 2 by decide) rfl fun h1 c1 u1 z1 => deref_ (put2 c1 (show 0 + 1 < 2 by decide) rfl fun h4 c4 u4 z4 => ?_)))
  obtain ⟨T', hR', st', _⟩ := hR.setRd (x := ⟨none, 0, 0⟩) (l := []) (br := false) c4 (Row.nil _ 1) (fun k hk => by simp [Sl.blk] at hk) (fun k hk => by simp [Sl.blk] at hk) (u1.trans u4)
  exact hk h4 T' hR' st'

def Cl.down (c : Cl) : Cl := { c with up := false, waits := [], told := c.told ++ c.waits.map fun p => fallT p.1, out := [], rb := [], broken := false, dial := c.last + c.backoff, backoff := min (2 * c.backoff) c.most }

def Cl.downK (c : Cl) (k : Nat) : Cl := { c with up := false, waits := c.waits.drop k, told := c.told ++ (c.waits.take k).map fun p => fallT p.1 }

theorem down_spec {h : Heap} {T : Nat → Option Nat} {cb : Nat} {c : Cl} (hC : Client h T cb c) (hW : WOK c) (hN : NOK c) {K : Heap → Prop} (hk : ∀ h' T', Client h' T' cb c.down → Stp T T' h h' → K h') : m_client_Client_down (some ⟨cb, 0, none⟩) K h := by
  obtain ⟨rb, mb, so, st, sb, hR⟩ := hC
  unfold m_client_Client_down g_client_Client_down
  have hnext := hW.next
  have hsum := hW.sum
  have hb64 : ∀ p, p ∈ c.waits → -9223372036854775808 ≤ p.1 ∧ p.1 < 9223372036854775808 := fun p hp => by have := hW.ids p hp; omega
  refine deref_ (hR.setF { c with up := false } (by decide) rfl rfl rfl rfl rfl rfl rfl fun h1 hR1 st1 z1 => Waiting_spec hR1 hW.asc hb64 (by show c.waits.length ≤ _; omega) fun s h2 hs2 e2 => ?_)
  have hsl : s.len = c.waits.length := by
    have := hs2.len
    simp at this
    omega
  have hs0 : ∀ k, s.blk = some k → T k = none := fun k hk => none_new hR.lt (by have := (hs2.lt hk).1; omega)
  refine loopM_intro (fun p h' => ∃ (k : Nat) (T' : Nat → Option Nat), p.1 = (k : Int) ∧ k ≤ c.waits.length ∧ Client h' T' cb (c.downK k) ∧ Stp T T' h2 h') (fun p _ => c.waits.length - p.1.toNat)
    ⟨0, T, rfl, Nat.zero_le _, ⟨rb, mb, so, st, sb, ?_⟩, Stp.refl _ _⟩ ?_
  · have e : c.downK 0 = { c with up := false } := by simp [Cl.downK]
    rw [e]
    exact hR1.ext e2
  rintro ⟨i, u⟩ h4 ⟨k, T4, hi, hkl, hC4, st4⟩
  dsimp only at hi
  subst hi
  dsimp only
  refine iteP_dec (fun hlt => ?_) (fun hge => ?_)
  · have hk1 : k < c.waits.length := by omega
    have hp : c.waits[k]? = some c.waits[k] := List.getElem?_eq_getElem hk1
    have htk : c.waits.take (k + 1) = c.waits.take k ++ [c.waits[k]] := List.take_succ_eq_append_getElem hk1
    have hdk : c.waits.drop k = c.waits[k] :: c.waits.drop (k + 1) := List.drop_eq_getElem_cons hk1
    generalize c.waits[k] = p at hp htk hdk
    have hsr : Ints h4 s (c.waits.map (·.1)) := (hs2.congr (h' := h4) fun k hk hl _ => st4.upd.old k hl fun h9 => h9 (hs0 k hk)).row
    refine Ints.idx hsr rfl (x := p.1) (by rw [List.getElem?_map, hp]; rfl) (bindI_intro ?_)
    have hasc : Asc (c.downK k).waits := List.Pairwise.sublist (List.drop_sublist k c.waits) hW.asc
    refine fall_spec hC4 hasc (i := 0) (p := p) (by show (c.waits.drop k)[0]? = _; rw [hdk]; rfl) (by
      show (c.told ++ List.map _ _).length ≤ _
      rw [List.length_append, List.length_map, List.length_take]; omega) fun h8 T8 hC8 st8 => ?_
    rw [wrap64 (n := (k : Int) + 1) (by omega) (by omega)]
    refine ⟨⟨k + 1, T8, by omega, by omega, ?_, st4.trans st8⟩, by omega⟩
    have e : (c.downK k).fallI 0 p.1 = c.downK (k + 1) := by
      unfold Cl.fallI Cl.downK
      dsimp only
      rw [htk, hdk]
      simp
    rw [← e]
    exact hC8
  · have hk2 : k = c.waits.length := by omega
    obtain ⟨rb4, mb4, so4, st4', sb4, hR4⟩ := hC4
    refine deref_ (hR4.setOut (x := ⟨none, 0, 0⟩) (l := []) (Own.nil _ _ 1) (fun k hk => by simp [Sl.blk] at hk) (Upd.refl _ _) fun h11 T11 hR11 st11 _ => deref_ (ldPk hR11.cells rfl (Reset_spec' hR11 fun h15 T15 hR15 st15 => ?_)))
    refine failed_spec ⟨_, _, _, _, _, hR15⟩ hW.last (hN.noF (c' := { { c.downK k with out := [] } with rb := [], broken := false }) rfl rfl rfl rfl rfl rfl) fun h16 hC16 st16 => ?_
    have e : ({ { c.downK k with out := [] } with rb := [], broken := false } : Cl).failed = c.down := by
      unfold Cl.failed Cl.downK Cl.down
      rw [hk2, List.take_length, List.drop_length]
    rw [e] at hC16
    exact hk h16 T15 hC16 (((((st1.trans (Stp.ofExt e2)).trans st4).trans st11).trans st15).trans st16)

def Cl.lostE (c : Cl) (at_ : Int) : Int := if c.atE at_ = 0 then (if c.up then 0 else 51) else c.atE at_

def Cl.lostS (c : Cl) (at_ : Int) : Cl := if c.atE at_ = 0 then (if c.up then (c.tick at_).down else c.tick at_) else c

theorem at_bytes (c : Option Addr) (a : Int) (t : Option Addr × Option Addr × Unit) (K : Int → Heap → Prop) (h : Heap) : m_client_Client_at__client_Client_Bytes_1 c a t K h = g_client_Client_at__client_Client_Tick_1 m_client_Client_Waiting m_client_Client_fall (fun K h => m_client_Client_Bytes_1 t.1 t.2.1 K h) c a K h := rfl

def Cl.answ (c : Cl) (a : An) : Cl := if c.waits.any (fun p => p.1 == a.1) then { c with waits := c.waits.filter (fun p => p.1 != a.1), told := c.told ++ [⟨a.1, a, false⟩] } else c

theorem asc_erase : ∀ {l : List (Int × Int)}, Asc l → ∀ {i : Nat} {p : Int × Int}, l[i]? = some p → l.eraseIdx i = l.filter (fun q => q.1 != p.1)
  | [], _, i, p, h => by simp at h
  | x :: l, ha, 0, p, h => by
    simp only [List.getElem?_cons_zero, Option.some.injEq] at h
    subst h
    have h1 := (List.pairwise_cons.1 ha).1
    have : l.filter (fun q => q.1 != x.1) = l := List.filter_eq_self.2 fun q hq => by
      have := h1 q hq
      simp
      omega
    simp [this]
  | x :: l, ha, i + 1, p, h => by
    have h1 := (List.pairwise_cons.1 ha).1
    have hl : l[i]? = some p := by simpa using h
    have := h1 p (List.mem_of_getElem? hl)
    have hx : (x.1 != p.1) = true := by simp; omega
    rw [List.eraseIdx_cons_succ, asc_erase (List.pairwise_cons.1 ha).2 hl, List.filter_cons, hx]
    rfl

theorem answered_spec {h : Heap} {T : Nat → Option Nat} {cb : Nat} {c : Cl} (hC : Client h T cb c) (ha : Asc c.waits) (hl : c.told.length ≤ 1099511627776) {a : An} {K : Heap → Prop}
    (hk : ∀ h' T', Client h' T' cb (c.answ a) → Stp T T' h h' → K h') : m_client_Client_answered (some ⟨cb, 0, none⟩) a K h := by
  unfold m_client_Client_answered g_client_Client_answered
  obtain ⟨a1, a2, a3, a4, a5, u⟩ := a
  refine newK fun h1 c1 e1 z1 => deref_ ?_
  obtain ⟨rb, mb, so, st, sb, hR⟩ := hC
  have hR1 := hR.ext e1
  have n1 : T h.size = none := none_new hR.lt (Nat.le_refl _)
  refine ldMk hR1.cells rfl (ldIk c1 rfl ?_)
  cases hany : c.waits.any (fun p => p.1 == a1) with
  | false =>
    have hno : ∀ p, p ∈ c.waits → p.1 ≠ a1 := fun p hp he => by
      have : c.waits.any (fun p => p.1 == a1) = true := List.any_eq_true.2 ⟨p, hp, by simp [he]⟩
      rw [hany] at this
      cases this
    refine hR1.map.getNone hno ⟨0, rfl, bindI_intro (bindB_intro (iteP_false ?_))⟩
    refine hk h1 T ?_ (Stp.ofExt e1)
    unfold Cl.answ
    rw [hany]
    exact ⟨rb, mb, so, st, sb, hR1⟩
  | true =>
    obtain ⟨p, hp, hpe⟩ := List.any_eq_true.1 hany
    have hpe : p.1 = a1 := by simpa using hpe
    obtain ⟨i, hi⟩ := List.getElem?_of_mem hp
    subst hpe
    refine hR1.map.get ha hi ⟨p.2, rfl, bindI_intro (bindB_intro (iteP_true (deref_ (ldMk hR1.cells rfl (ldIk c1 rfl (hR1.map.del ha hi fun h9 m9 u9 z9 => deref_ ?_))))))⟩
    obtain ⟨hR9, st9⟩ := hR1.setMap m9 u9 z9
    have c9 := st9.keep n1 c1
    refine ldLk (s := st) hR9.cells rfl (ldIk c9 rfl (ldIk c9 rfl (ldIk c9 rfl (ldIk c9 rfl (ldIk c9 rfl (ldIk c9 rfl (newK fun h20 c20 e20 z20 => ?_)))))))
    have d20 := keepE c9 e20
    have hR20 := hR9.ext e20
    have hrow : Row h20 ⟨some ⟨h9.size, 0, none⟩, 1, 1⟩ 7 (tC ⟨p.1, (p.1, a2, a3, a4, a5, ()), false⟩) := ⟨rfl, Nat.le_refl _, (show 1 < 9223372036854775808 by decide), .inr ⟨h9.size, 0, rfl, has_block c20 fun i v hi => by simpa [tC] using hi⟩⟩
    have htl : st.len = c.told.length := by
      have := hR.told.len
      rw [flat_len tC_len] at this
      omega
    refine ⟨⟨(cell_block d20).trans rfl, (cell_block d20).trans rfl, (cell_block d20).trans rfl, (cell_block d20).trans rfl, (cell_block d20).trans rfl, trivial⟩, ⟨(cell_block d20).trans rfl, trivial⟩, ⟨(cell_block hR20.cells).trans rfl, trivial⟩, hrow.rd (Own.app hR20.told rfl rfl rfl (by omega) (by omega) (Nat.zero_le _) fun t21 h22 ho22 hl22 hu22 hblk => ?_)⟩
    have d22 : h22[h.size]? = _ := (hu22.old _ (blk_lt d20) fun h9' => by have := hR20.tst _ h9'; rw [n1] at this; cases this).trans d20
    refine ⟨⟨(cell_block d22).trans rfl, (cell_block d22).trans rfl, (cell_block d22).trans rfl, (cell_block d22).trans rfl, (cell_block d22).trans rfl, trivial⟩, ⟨(cell_block d22).trans rfl, trivial⟩, deref_ ?_⟩
    have e : ({ c with waits := c.waits.eraseIdx i } : Cl).told.flatMap tC ++ tC ⟨p.1, (p.1, a2, a3, a4, a5, ()), false⟩ = (c.told ++ [(⟨p.1, (p.1, a2, a3, a4, a5, ()), false⟩ : Tld)]).flatMap tC := by simp
    rw [e] at ho22
    refine hR9.setTold ho22 (fun k hk => ?_) (Upd.then (e20.upd _) hu22 fun k _ h8 => hR9.tst k h8) fun h25 T25 hR25 st25 _ => ?_
    · rcases hblk with h9' | h9'
      · exact .inl (hR9.tst k (h9' ▸ hk))
      · rw [h9'] at hk
        cases hk
        exact .inr (by omega)
    · refine hk h25 T25 ⟨rb, mb, so, t21, sb, ?_⟩ (((Stp.ofExt e1).trans st9).trans st25)
      unfold Cl.answ
      rw [hany, if_pos rfl, ← asc_erase ha hi]
      exact hR25

def Cl.take (c : Cl) : List (List UInt8) → Cl × Bool
  | [] => (c, false)
  | p :: ps => if (readA p).2.1 ≠ 0 then (c, true) else (c.answ (readA p).1).take ps

def Cl.putB (c : Cl) (l : List UInt8) : Cl × Int :=
  let q := putS c.rb c.broken l
  let r := ({ c with rb := q.2.2, broken := q.2.1 } : Cl).take q.1
  let e : Int := if r.2 then 50 else if q.2.1 then 50 else 0
  (if e = 0 then r.1 else r.1.down, e)

def Cl.bytesR (c : Cl) (at_ : Int) (l : List UInt8) : Cl × Int := if c.atE at_ = 0 then (if c.up then (c.tick at_).putB l else (c.tick at_, 51)) else (c, c.atE at_)

theorem WOK.answ {c : Cl} (hW : WOK c) (a : An) : WOK (c.answ a) := by
  unfold Cl.answ
  split
  · rename_i hany
    obtain ⟨p, hp, hpe⟩ := List.any_eq_true.1 hany
    refine ⟨asc_filter hW.asc _, fun p hp => hW.ids p (List.mem_filter.1 hp).1, fun p hp => hW.ats p (List.mem_filter.1 hp).1, hW.last, hW.next, ?_⟩
    have hs := hW.sum
    show (c.told ++ [_]).length + (c.waits.filter _).length ≤ _
    rw [List.length_append]
    have : (c.waits.filter (fun p => p.1 != a.1)).length < c.waits.length := by
      refine List.length_filter_lt_length_iff_exists.2 ⟨p, hp, ?_⟩
      simp at hpe
      simp [hpe]
    simp only [List.length_cons, List.length_nil]
    omega
  · exact hW

theorem NOK.answ {c : Cl} (hN : NOK c) (a : An) : NOK (c.answ a) := by
  unfold Cl.answ
  split
  · exact ⟨hN.tmo, hN.least, hN.back, hN.most, hN.name⟩
  · exact hN

theorem WOK.rbs {c : Cl} (hW : WOK c) {l : List UInt8} {b : Bool} : WOK { c with rb := l, broken := b } := ⟨hW.asc, hW.ids, hW.ats, hW.last, hW.next, hW.sum⟩

theorem NOK.rbs {c : Cl} (hN : NOK c) {l : List UInt8} {b : Bool} : NOK { c with rb := l, broken := b } := ⟨hN.tmo, hN.least, hN.back, hN.most, hN.name⟩

theorem WOK.take : ∀ {l : List (List UInt8)} {c : Cl}, WOK c → WOK (c.take l).1
  | [], c, h => h
  | p :: ps, c, h => by
    unfold Cl.take
    split
    · exact h
    · exact WOK.take (h.answ _)

theorem NOK.take : ∀ {l : List (List UInt8)} {c : Cl}, NOK c → NOK (c.take l).1
  | [], c, h => h
  | p :: ps, c, h => by
    unfold Cl.take
    split
    · exact h
    · exact NOK.take (h.answ _)

/-- how far the answers were taken -/
theorem take_split : ∀ (l : List (List UInt8)) (c : Cl) (k : Nat) (p : List UInt8), l[k]? = some p → ∀ c1, (c.take (l.take k)) = (c1, false) → c.take (l.take (k + 1)) = (if (readA p).2.1 ≠ 0 then (c1, true) else (c1.answ (readA p).1, false)) ∧ ((readA p).2.1 ≠ 0 → c.take l = (c1, true))
  | [], c, k, p, h, c1, hc => by simp at h
  | x :: l, c, 0, p, h, c1, hc => by
    simp only [List.getElem?_cons_zero, Option.some.injEq] at h
    subst h
    simp only [List.take_zero, Cl.take, Prod.mk.injEq, and_true] at hc
    subst hc
    refine ⟨?_, fun hx => ?_⟩
    · show Cl.take c (x :: l.take 0) = _
      unfold Cl.take
      split
      · rfl
      · rw [List.take_zero]
        rfl
    · unfold Cl.take
      rw [if_pos hx]
  | x :: l, c, k + 1, p, h, c1, hc => by
    have hl : l[k]? = some p := by simpa using h
    rw [List.take_succ_cons] at hc
    unfold Cl.take at hc
    split at hc
    · simp at hc
    · rename_i hx
      obtain ⟨i1, i2⟩ := take_split l (c.answ (readA x).1) k p hl c1 hc
      refine ⟨?_, fun hp => ?_⟩
      · rw [List.take_succ_cons, Cl.take, if_neg hx]
        exact i1
      · rw [Cl.take, if_neg hx]
        exact i2 hp

theorem Bytes_spec {h : Heap} {T : Nat → Option Nat} {cb : Nat} {c : Cl} (hC : Client h T cb c) (hW : WOK c) (hN : NOK c) (hbr : c.broken = false) {at_ : Int} {b : Sl} {l : List UInt8} (hb : Bytes h b l) (hbT : l ≠ [] → ∀ k, b.blk = some k → T k = none) (hsz : c.rb.length + l.length ≤ 1099511627776) {K : Int → Heap → Prop}
    (hk : ∀ h' T', Client h' T' cb (c.bytesR at_ l).1 → Stp T T' h h' → K (c.bytesR at_ l).2 h') : m_client_Client_Bytes (some ⟨cb, 0, none⟩) at_ b K h := by
  unfold m_client_Client_Bytes g_client_Client_Bytes
  refine newK fun h1 c1 e1 z1 => newK fun h2 c2 e2 z2 => bindI_intro (ldPk (keepE c1 e2) rfl ?_)
  have d1 := keepE c1 e2
  have x2 := e1.trans e2
  have n1 : T h.size = none := none_new hC.lt (Nat.le_refl _)
  have n2 : T h1.size = none := none_new hC.lt (by omega)
  rw [at_bytes]
  refine at_spec (hC.ext x2) hW (fun he => bindI_intro ?_) fun he h' T' hC' st' => ?_
  · have := hk h2 T (by unfold Cl.bytesR; rw [if_neg he]; exact hC.ext x2) (Stp.ofExt x2)
    unfold Cl.bytesR at this
    rw [if_neg he] at this
    exact this
  · have f1 := st'.keep n1 d1
    have f2 := st'.keep n2 c2
    have m1 := st'.none_ n1 (blk_lt d1)
    have stT := (Stp.ofExt (T := T) x2).trans st'
    have hC2 := hC'
    obtain ⟨rb, mb, so, st, sb, hR⟩ := hC'
    unfold Cl.bytesR at hk
    rw [if_pos he] at hk
    unfold m_client_Client_Bytes_1 g_client_Client_Bytes_1
    refine bindI_intro (deref_ (ldPk f1 rfl (deref_ (ldBk hR.cells rfl ?_))))
    have hup : (c.tick at_).up = c.up := rfl
    rw [hup]
    cases hu : c.up with
    | false =>
      rw [hu] at hk
      exact iteP_true (bindI_intro (bindI_intro (hk h' T' hC2 stT)))
    | true =>
      rw [hu] at hk
      simp only [if_true] at hk
      refine iteP_false (deref_ (ldPk f1 rfl (deref_ (ldPk hR.cells rfl (deref_ (ldLk (s := b) f2 rfl ?_))))))
      have hb' : Bytes h' b l := (hb.ext x2).congr fun k o hp hne hl => st'.upd.old k hl fun h9 => h9 (hbT (fun he => hne (by rw [he]; rfl)) k (by simp [Sl.blk, hp]))
      have hG : IsG 108 h' rb (fun k => k ≠ rb) c.rb c.broken := ⟨⟨sb, hR.rcell, hR.rbs, (fun k hk h9 => by have := hR.tsb k hk; rw [h9, hR.trb] at this; cases this), (fun h9 => by rw [hbr] at h9; cases h9)⟩⟩
      refine Put2_spec hG hb' hsz fun out h17 mid hm1 hm2 hout hG17 u17 => ?_
      obtain ⟨x, hx1, hx2, hx3, hx4⟩ := hG17.cells
      have f17 : h17[h.size]? = _ := (u17.old _ (blk_lt f1) fun h9 => by rw [h9, hR.trb] at m1; cases m1).trans f1
      obtain ⟨T17, hR17, st17, only17⟩ := hR.setRd hx1 hx2 (fun k hk => .inr (hx3 k hk).1) (fun k hk => by have := (hx3 k hk).2; omega) u17
      have m17 := st17.none_ m1 (blk_lt f1)
      have f17' := f17
      have hmid : ∀ k, mid ≤ k → T17 k = none := fun k hk => Classical.byContradiction fun h9 => by
        rcases only17 k h9 with h8 | h8
        · have := hR.lt k h8; omega
        · have := (hx3 k h8).2; omega
      have hq : putS (c.tick at_).rb (c.tick at_).broken l = putS c.rb c.broken l := rfl
      unfold Cl.putB at hk
      dsimp only at hk
      rw [hq] at hk
      have W2 : WOK { c.tick at_ with rb := (putS c.rb c.broken l).2.2, broken := (putS c.rb c.broken l).2.1 } := (hW.tick he).rbs
      have N2 : NOK { c.tick at_ with rb := (putS c.rb c.broken l).2.2, broken := (putS c.rb c.broken l).2.1 } := (hN.tick at_).rbs
      generalize putS c.rb c.broken l = q at hk hout hG17 hx1 hx2 hx4 hR17 W2 N2 ⊢
      generalize ({ c.tick at_ with rb := q.2.2, broken := q.2.1 } : Cl) = c2 at hk hR17 W2 N2
      have hol : out.len = q.1.length := OwnRows.len hout
      have hob : out.len < 9223372036854775808 := by
        obtain ⟨_, ho, _⟩ := hout.rows
        have := ho.cap
        have := ho.big
        omega
      refine ⟨⟨(cell_block f17).trans rfl, trivial⟩, bindI_intro ?_⟩
      refine cutP_intro (fun s h44 => ∃ T44, s.1 = (if (c2.take q.1).2 then 50 else if q.2.1 then 50 else 0 : Int) ∧ Client h44 T44 cb (c2.take q.1).1 ∧ Stp T17 T44 h17 h44) ?_ ?_
      · rintro ⟨er, u⟩ h44 ⟨T44, hs, hC44, st44⟩
        dsimp only at hs
        subst hs
        have f44 := st44.keep m17 f17
        dsimp only
        by_cases hz : (if (c2.take q.1).2 then 50 else if q.2.1 then 50 else 0 : Int) = 0
        · rw [hz] at hk ⊢
          rw [if_pos rfl] at hk
          exact iteP_false (bindI_intro (bindI_intro (hk h44 T44 hC44 ((stT.trans st17).trans st44))))
        · rw [if_neg hz] at hk
          refine iteP_pos (by simpa using hz) (deref_ (ldPk f44 rfl (down_spec hC44 (WOK.take W2) (NOK.take N2) fun h48 T48 hC48 st48 => bindI_intro (bindI_intro (hk h48 T48 hC48 (((stT.trans st17).trans st44).trans st48))))))
      · refine loopM_intro (fun p h' => ∃ (k : Nat) (T' : Nat → Option Nat) (c' : Cl), p.1 = (if q.2.1 then 50 else 0 : Int) ∧ p.2.1 = (k : Int) ∧ k ≤ q.1.length ∧ Client h' T' cb c' ∧ Stp T17 T' h17 h' ∧ c2.take (q.1.take k) = (c', false)) (fun p _ => q.1.length - p.2.1.toNat)
          ⟨0, T17, c2, rfl, rfl, Nat.zero_le _, ⟨rb, mb, so, st, x, hR17⟩, Stp.refl _ _, rfl⟩ ?_
        rintro ⟨er, i, u⟩ h21 ⟨k, T21, c', hs, hi, hkl, hC21, st21, htk⟩
        dsimp only at hs hi
        subst hs hi
        dsimp only
        refine iteP_dec (fun hlt => ?_) (fun hge => ?_)
        · have hk1 : k < q.1.length := by omega
          have hp : q.1[k]? = some q.1[k] := List.getElem?_eq_getElem hk1
          generalize q.1[k] = p at hp
          have hout21 : OwnRows h21 mid out q.1 := hout.congr fun k hk hge => st21.upd.old k hk fun h9 => h9 (hmid k hge)
          obtain ⟨t1, t2⟩ := take_split q.1 c2 k p hp c' htk
          have hW' : WOK c' := by have := WOK.take (l := q.1.take k) W2; rw [htk] at this; exact this
          refine OwnRows.idx hout21 rfl hp fun y hy => ReadAnswer_spec hy fun h28 e28 => newK fun h30 c30 e30 z30 => stsAll c30 rfl rfl fun h31 c31 u31 z31 => bindI_intro (bindI_intro ?_)
          have x31 : Ext h21 h31 := (e28.trans e30).then u31 fun k hk => by have := e28.size; omega
          have hC31 := hC21.ext x31
          have st31 := st21.trans (Stp.ofExt (T := T21) x31)
          by_cases hw : (readA p).2.1 = 0
          · rw [hw]
            refine iteP_false (deref_ ?_)
            have f31 := st31.keep m17 f17
            refine ldPk f31 rfl (ldIk c31 rfl (ldIk c31 rfl (ldIk c31 rfl (ldIk c31 rfl (ldIk c31 rfl (answered_spec (a := (readA p).1) hC31 hW'.asc (by have := hW'.sum; omega) fun h41 T41 hC41 st41 => ?_))))))
            rw [wrap64 (n := (k : Int) + 1) (by omega) (by omega)]
            refine ⟨⟨k + 1, T41, _, rfl, by omega, by omega, hC41, st31.trans st41, ?_⟩, by omega⟩
            rw [t1, if_neg (by rw [hw]; exact fun h => h rfl)]
          · refine iteP_pos (by simpa using hw) (bindI_intro ⟨T21, ?_, ?_, st31⟩)
            · rw [t2 hw]
              rfl
            · rw [t2 hw]
              exact hC31
        · have hk2 : k = q.1.length := by omega
          rw [hk2, List.take_length] at htk
          rw [htk]
          exact ⟨T21, rfl, hC21, st21⟩

end Go.Proofs.Ytbofhmcjcllcaaa
