/- The client, C. (gathered by carve.py out of texts proved for other seats) -/
import Derived.Test.YtbofhmcjcllcaaaClB
namespace Go.Proofs.Ytbofhmcjcllcaaa
open Go Go.Fw

theorem Stp.also {T T' : Nat → Option Nat} {h h' h'' : Heap} {S : Nat → Prop} (st : Stp T T' h h') (u : Upd S h' h'') (hS : ∀ k, S k → h.size ≤ k) : Stp T T' h h'' :=
  ⟨Upd.then st.upd u fun k hk h9 => by have := hS k h9; omega, st.new⟩

theorem newE {h : Heap} {t : TypeId} {K : Nat → Heap → Prop} (size : Nat) (hk : ∀ h1, Own h1 h.size ⟨some ⟨h.size, 0, none⟩, 0, 0⟩ size [] → Ext h h1 → h1.size = h.size + 1 → K h.size h1) : newC h [] t K := by
  refine newC_intro (hk _ ?_ (Ext.push _ _) (by simp))
  exact Own.newC (h := h) (cells := []) (t := t) (size := size) (n := 0) (by simp) (by decide)

theorem newMapK {h : Heap} {K : Nat → Heap → Prop} (hk : ∀ h1, MapI h1 h.size [] → Ext h h1 → h1.size = h.size + 1 → K h.size h1) : newMap h K :=
  hk _ ⟨#[], 0, push_new, MapKept.stamped_empty 0, rfl⟩ (Ext.push _ _) (by simp)

theorem cloneG {h : Heap} {s : Sl} {size bytes : Nat} {vs zs : List Value} {elem : TypeId} (hb : Row h s size vs) (hone : vs.all oneCell = true) (hz : zs.length = size) (hl : s.len * bytes ≤ 140737488355328) (hl2 : s.len ≤ 140737488355328) {K : Sl → Heap → Prop}
    (hk : ∀ t h', Own h' h.size t size vs → Ext h h' → K t h') :
    iteP s.ptr.isNone (K ⟨none, 0, 0⟩ h) (newC h [] elem fun b h1 => rdS s size h1 fun new => Fw.app elem size bytes zs ⟨some ⟨b, 0, none⟩, 0, 0⟩ s.len new h1 fun t h2 => K t h2) := by
  have hlen := hb.len
  cases hp : s.ptr with
  | none =>
    refine iteP_true ?_
    have : vs = [] := by
      rcases hb.at_ with h0 | ⟨bb, o, hp', _⟩
      · exact List.eq_nil_of_length_eq_zero (by rw [hlen, h0, Nat.zero_mul])
      · rw [hp] at hp'; cases hp'
    subst this
    exact hk _ _ (Own.nil h h.size size) (Ext.refl h)
  | some a =>
    refine iteP_false (newE size fun h1 ho1 e1 z1 => (hb.ext e1).rd (Own.app ho1 hlen hone hz (by dsimp only; rw [Nat.zero_add]; exact hl) (by dsimp only; omega) (by omega) fun t h' ho' hl' hu hblk => ?_))
    rw [List.nil_append] at ho'
    exact hk t h' ho' (e1.then hu fun k hk => by simp [Sl.blk] at hk; omega)

def newCl (tmo least most : Int) (name : ByteArray) : Cl := ⟨tmo, least, most, name, false, 0, 1, [], [], [], 0, least, [], false⟩

def newE_ (tmo least most : Int) (name : ByteArray) : Int :=
  if tmo < 1 then 2 else if tmo > 60000000 then 2 else if least < 1 then 2 else if most < least then 2 else if most > 3600000000 then 2 else if rightB (0, 5, 0, 0, name, 0, ()) then 0 else 10

theorem mk_client {h : Heap} {cb rb mb : Nat} {c : Cl} (hc : h[cb]? = some (.cells (clC rb mb ⟨none, 0, 0⟩ ⟨none, 0, 0⟩ c) 79 (0, 0))) (hr : h[rb]? = some (.cells #[slV ⟨none, 0, 0⟩, .bool c.broken] 108 (0, 0))) (hm : MapI h mb c.waits)
    (h1 : c.out = []) (h2 : c.told = []) (h3 : c.rb = []) (n1 : cb ≠ rb) (n2 : cb ≠ mb) (n3 : rb ≠ mb) : ∃ T, Client h T cb c ∧ ∀ k, T k ≠ none → k = cb ∨ k = rb ∨ k = mb := by
  refine ⟨fun k => if k = cb then some 0 else if k = rb then some 1 else if k = mb then some 2 else none, ⟨rb, mb, ⟨none, 0, 0⟩, ⟨none, 0, 0⟩, ⟨none, 0, 0⟩, ⟨hc, hr, hm, by rw [h1]; exact Own.nil _ _ 1, by rw [h2]; exact Own.nil _ _ 7, by rw [h3]; exact Row.nil _ 1, by simp, ?_, ?_, fun k hk => by simp [Sl.blk] at hk, fun k hk => by simp [Sl.blk] at hk, fun k hk => by simp [Sl.blk] at hk, fun k hk => ?_⟩⟩, fun k hk => ?_⟩
  · show (if _ then _ else _) = _
    rw [if_neg (fun e => n1 e.symm), if_pos rfl]
  · show (if _ then _ else _) = _
    rw [if_neg (fun e => n2 e.symm), if_neg (fun e => n3 e.symm), if_pos rfl]
  · have l1 := blk_lt hc
    have l2 := blk_lt hr
    have l3 := hm.lt
    by_cases q1 : k = cb
    · omega
    · by_cases q2 : k = rb
      · omega
      · by_cases q3 : k = mb
        · omega
        · simp only [q1, q2, q3, if_false] at hk; exact absurd rfl hk
  · by_cases q1 : k = cb
    · exact .inl q1
    · by_cases q2 : k = rb
      · exact .inr (.inl q2)
      · by_cases q3 : k = mb
        · exact .inr (.inr q3)
        · simp only [q1, q2, q3, if_false] at hk; exact absurd rfl hk

theorem New_spec {h : Heap} {tmo least most : Int} {name : ByteArray} (hs : name.size < 9223372036854775808) {K : Option Addr → Int → Heap → Prop}
    (hbad : newE_ tmo least most name ≠ 0 → ∀ h', Ext h h' → K none (newE_ tmo least most name) h')
    (hgo : newE_ tmo least most name = 0 → ∀ h' T cb, Client h' T cb (newCl tmo least most name) → Ext h h' → (∀ k, T k ≠ none → h.size ≤ k) → K (some ⟨cb, 0, none⟩) 0 h') : m_client_New (tmo, least, most, ()) name K h := by
  unfold m_client_New g_client_New
  unfold newE_ at hbad hgo
  refine newK fun h1 c1 e1 z1 => bindI_intro (ldIk c1 rfl (iteP_dec (fun q1 => ?_) fun q1 => ldIk c1 rfl (iteP_dec (fun q2 => ?_) fun q2 => ldIk c1 rfl (iteP_dec (fun q3 => ?_) fun q3 => ldIk c1 rfl (ldIk c1 rfl (iteP_dec (fun q4 => ?_) fun q4 => ldIk c1 rfl (bindB_intro (iteP_dec (fun q5 => ?_) fun q5 => ?_))))))))
  · rw [if_pos q1] at hbad; exact hbad (by decide) h1 e1
  · rw [if_neg q1, if_pos q2] at hbad; exact hbad (by decide) h1 e1
  · rw [if_neg q1, if_neg q2, if_pos q3] at hbad; exact hbad (by decide) h1 e1
  · rw [if_neg q1, if_neg q2, if_neg q3, if_pos q4] at hbad; exact hbad (by decide) h1 e1
  · rw [if_neg q1, if_neg q2, if_neg q3, if_neg q4, if_pos q5] at hbad; exact hbad (by decide) h1 e1
  · rw [if_neg q1, if_neg q2, if_neg q3, if_neg q4, if_neg q5] at hbad hgo
    refine Right_spec (r := (0, 5, 0, 0, name, 0, ())) hs fun h15 e15 => bindB_intro ?_
    cases hr : rightB (0, 5, 0, 0, name, 0, ()) with
    | false =>
      rw [hr] at hbad
      exact iteP_true (bindI_intro (hbad (by decide) h15 (e1.trans e15)))
    | true =>
      rw [hr] at hgo
      have hgo := hgo rfl
      have c15 := keepE c1 e15
      have x15 := e1.trans e15
      have z15 := e15.size
      refine iteP_false (ldIk c15 rfl (ldIk c15 rfl (ldIk c15 rfl (ldIk c15 rfl ⟨?_, ?_⟩))))
      · unfold m_frame_New g_frame_New
        refine newK fun h23 c23 e23 z23 => ⟨⟨(cell_block (keepE c15 e23)).trans rfl, trivial⟩, ⟨(cell_block (keepE c15 e23)).trans rfl, (cell_block (keepE c15 e23)).trans rfl, (cell_block (keepE c15 e23)).trans rfl, trivial⟩, newMapK fun h25 m25 e25 z25 => ?_⟩
        have c25 := keepE (keepE c15 e23) e25
        refine ⟨⟨(cell_block c25).trans rfl, trivial⟩, ⟨(cell_block c25).trans rfl, (cell_block c25).trans rfl, (cell_block c25).trans rfl, trivial⟩, newK fun h27 c27 e27 z27 => ?_⟩
        have d27 := keepE c25 e27
        refine ⟨⟨(cell_block d27).trans rfl, trivial⟩, ⟨(cell_block d27).trans rfl, (cell_block d27).trans rfl, (cell_block d27).trans rfl, trivial⟩, bindI_intro ?_⟩
        obtain ⟨T, hC, hT⟩ := mk_client (h := h27) (cb := h25.size) (rb := h15.size) (mb := h23.size) (c := newCl tmo least most name) c27 (keepE (keepE c23 e25) e27) (m25.congr (e27.old _ m25.lt)) rfl rfl rfl (by omega) (by omega) (by omega)
        have := x15.size
        exact hgo h27 T _ hC (((x15.trans e23).trans e25).trans e27) fun k hk => by have := hT k hk; omega
      · refine newMapK fun h30 m30 e30 z30 => ?_
        have c30 := keepE c15 e30
        refine ⟨⟨(cell_block c30).trans rfl, trivial⟩, ⟨(cell_block c30).trans rfl, (cell_block c30).trans rfl, (cell_block c30).trans rfl, trivial⟩, ?_⟩
        unfold m_frame_New g_frame_New
        refine newK fun h32 c32 e32 z32 => ?_
        have d32 := keepE c30 e32
        refine ⟨⟨(cell_block d32).trans rfl, trivial⟩, ⟨(cell_block d32).trans rfl, (cell_block d32).trans rfl, (cell_block d32).trans rfl, trivial⟩, newK fun h34 c34 e34 z34 => ?_⟩
        have d34 := keepE d32 e34
        refine ⟨⟨(cell_block d34).trans rfl, trivial⟩, ⟨(cell_block d34).trans rfl, (cell_block d34).trans rfl, (cell_block d34).trans rfl, trivial⟩, bindI_intro ?_⟩
        obtain ⟨T, hC, hT⟩ := mk_client (h := h34) (cb := h32.size) (rb := h30.size) (mb := h15.size) (c := newCl tmo least most name) c34 (keepE c32 e34) (m30.congr ((e32.trans e34).old _ m30.lt)) rfl rfl rfl (by omega) (by omega) (by omega)
        have := x15.size
        exact hgo h34 T _ hC (((x15.trans e30).trans e32).trans e34) fun k hk => by have := hT k hk; omega

def Cl.atS (c : Cl) (at_ : Int) : Cl := if c.atE at_ = 0 then c.tick at_ else c

def Cl.dialF (c : Cl) (at_ : Int) : Bool := if c.atE at_ = 0 then !c.up && decide (at_ ≥ c.dial) else false

def Cl.failed (c : Cl) : Cl := { c with dial := c.last + c.backoff, backoff := min (2 * c.backoff) c.most }

structure NOK (c : Cl) : Prop where
  tmo : 1 ≤ c.tmo ∧ c.tmo ≤ 60000000
  least : 1 ≤ c.least
  back : c.least ≤ c.backoff ∧ c.backoff ≤ c.most
  most : c.most ≤ 3600000000
  name : c.name.size ≤ 64

theorem minV_eq (x y : Int) : minV x y = min x y := by unfold minV; omega

theorem failed_spec {h : Heap} {T : Nat → Option Nat} {cb : Nat} {c : Cl} (hC : Client h T cb c) (hW : 0 ≤ c.last ∧ c.last ≤ 1152921504606846976) (hN : NOK c) {K : Heap → Prop} (hk : ∀ h', Client h' T cb c.failed → Stp T T h h' → K h') : m_client_Client_failed (some ⟨cb, 0, none⟩) K h := by
  obtain ⟨rb, mb, so, st, sb, hR⟩ := hC
  unfold m_client_Client_failed g_client_Client_failed
  have hb := hN.back
  have hl := hN.least
  have hm := hN.most
  refine deref_ (deref_ (ldIk hR.cells rfl (ldIk hR.cells rfl (deref_ (hR.setF { c with dial := c.last + c.backoff } (by decide) rfl ?_ rfl rfl rfl rfl rfl fun h6 hR6 st6 z6 => deref_ (deref_ (ldIk hR6.cells rfl (ldIk hR6.cells rfl (deref_ (hR6.setF c.failed (by decide) rfl ?_ rfl rfl rfl rfl rfl fun h15 hR15 st15 z15 => hk h15 ⟨rb, mb, so, st, sb, hR15⟩ (st6.trans st15)))))))))))
  · rw [wrap64 (by omega) (by omega)]
    rfl
  · dsimp only
    rw [wrap64 (n := 2 * c.backoff) (by omega) (by omega), minV_eq]
    rfl

def Cl.refE (c : Cl) (at_ : Int) : Int := if c.atE at_ = 0 then (if c.up then 52 else 0) else c.atE at_

def Cl.refS (c : Cl) (at_ : Int) : Cl := if c.atE at_ = 0 then (if c.up then c.tick at_ else (c.tick at_).failed) else c

theorem atE_zero {c : Cl} {at_ : Int} (h : c.atE at_ = 0) : 0 ≤ at_ ∧ at_ ≤ 1152921504606846976 ∧ c.last ≤ at_ := by
  unfold Cl.atE at h
  split at h
  · cases h
  · split at h
    · cases h
    · split at h
      · cases h
      · omega

theorem NOK.tick {c : Cl} (hN : NOK c) (at_ : Int) : NOK (c.tick at_) := ⟨hN.tmo, hN.least, hN.back, hN.most, hN.name⟩

theorem NOK.failed {c : Cl} (hN : NOK c) : NOK c.failed := by
  have := hN.back
  have := hN.least
  refine ⟨hN.tmo, hN.least, ?_, hN.most, hN.name⟩
  show c.least ≤ min (2 * c.backoff) c.most ∧ min (2 * c.backoff) c.most ≤ c.most
  omega

theorem NOK.noF {c c' : Cl} (hN : NOK c) (h1 : c'.tmo = c.tmo) (h2 : c'.least = c.least) (h3 : c'.most = c.most) (h4 : c'.backoff = c.backoff) (h5 : c'.name = c.name) (_h6 : c'.last = c.last) : NOK c' :=
  ⟨by rw [h1]; exact hN.tmo, by rw [h2]; exact hN.least, by rw [h2, h3, h4]; exact hN.back, by rw [h3]; exact hN.most, by rw [h5]; exact hN.name⟩

theorem Connected_spec {h : Heap} {T : Nat → Option Nat} {cb : Nat} {c : Cl} (hC : Client h T cb c) {K : Bool → Heap → Prop} (hk : K c.up h) : m_client_Client_Connected (some ⟨cb, 0, none⟩) K h := by
  obtain ⟨rb, mb, so, st, sb, hR⟩ := hC
  exact iteP_true (deref_ (ldBk hR.cells rfl (bindB_intro hk)))

theorem Told_spec {h : Heap} {T : Nat → Option Nat} {cb : Nat} {c : Cl} (hC : Client h T cb c) {K : Sl → Heap → Prop}
    (hk : ∀ s h' T', Own h' 0 s 7 (c.told.flatMap tC) → (∀ k, s.blk = some k → T k = some 4) → Client h' T' cb { c with told := [] } → Stp T T' h h' → K s h') : m_client_Client_Told (some ⟨cb, 0, none⟩) K h := by
  obtain ⟨rb, mb, so, st, sb, hR⟩ := hC
  refine iteP_false (deref_ (ldLk (s := st) hR.cells rfl (deref_ (hR.setTold (x := ⟨none, 0, 0⟩) (l := []) (Own.nil _ _ 7) (fun k hk => by simp [Sl.blk] at hk) (Upd.refl _ _) fun h3 T3 hR3 st3 u3 => ?_))))
  refine hk st h3 T3 (hR.told.congr fun k hk hl _ => u3.old k hl fun h9 => ?_) hR.tst ⟨rb, mb, so, ⟨none, 0, 0⟩, sb, hR3⟩ st3
  have := hR.tst k hk
  rw [h9, hR.tcb] at this
  cases this

end Go.Proofs.Ytbofhmcjcllcaaa
