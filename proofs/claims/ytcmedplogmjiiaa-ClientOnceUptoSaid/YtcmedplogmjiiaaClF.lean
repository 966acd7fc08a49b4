/- live; the laws ClientNone and ClientBacks, on their models. -/
import Derived.Test.YtcmedplogmjiiaaClH
import Derived.KernelRfl
namespace Go.Proofs.Ytcmedplogmjiiaa
open Go Go.Fw

def xT : ByteArray := ByteArray.mk #[120]
theorem right_x : rightB (helloR xT) = true := by decide
theorem WOK.new {tmo least most : Int} {name : ByteArray} : WOK (newCl tmo least most name) :=
  ⟨List.Pairwise.nil, (fun p hp => (by cases hp)), (fun p hp => (by cases hp)), (by show (0 : Int) ≤ 0 ∧ (0 : Int) ≤ 1152921504606846976; omega), (by show (1 : Int) ≤ 1 ∧ (1 : Int) ≤ 4611686018427387904; omega), (by show 0 + 0 ≤ 1073741824; omega)⟩
theorem new_ok {tmo least most : Int} {name : ByteArray} (h : newE_ tmo least most name = 0) : (1 ≤ tmo ∧ tmo ≤ 60000000 ∧ 1 ≤ least ∧ least ≤ most ∧ most ≤ 3600000000) ∧ rightB (helloR name) = true := by
  unfold newE_ at h
  split at h
  · cases h
  · split at h
    · cases h
    · split at h
      · cases h
      · split at h
        · cases h
        · split at h
          · cases h
          · split at h
            · rename_i hr
              exact ⟨by omega, hr⟩
            · cases h
theorem NOK.new {tmo least most : Int} {name : ByteArray} (h : newE_ tmo least most name = 0) : NOK (newCl tmo least most name) := by
  obtain ⟨hb, hr⟩ := new_ok h
  refine ⟨⟨hb.1, hb.2.1⟩, hb.2.2.1, ⟨Int.le_refl _, hb.2.2.2.1⟩, hb.2.2.2.2, right_text hr⟩

theorem WOK.noup {c : Cl} (hW : WOK c) {u : Bool} {b d : Int} {o : List UInt8} : WOK { c with up := u, backoff := b, out := o, dial := d } := ⟨hW.asc, hW.ids, hW.ats, hW.last, hW.next, hW.sum⟩
theorem WOK.up {c : Cl} (hW : WOK c) (at_ : Int) : WOK (c.upS at_) := by
  unfold Cl.upS
  split
  · rename_i he
    split
    · exact hW.tick he
    · exact ⟨(hW.tick he).asc, (hW.tick he).ids, (hW.tick he).ats, (hW.tick he).last, (hW.tick he).next, (hW.tick he).sum⟩
  · exact hW
theorem WOK.ref {c : Cl} (hW : WOK c) (at_ : Int) : WOK (c.refS at_) := by
  unfold Cl.refS
  split
  · rename_i he
    split
    · exact hW.tick he
    · exact ⟨(hW.tick he).asc, (hW.tick he).ids, (hW.tick he).ats, (hW.tick he).last, (hW.tick he).next, (hW.tick he).sum⟩
  · exact hW
theorem WOK.atS {c : Cl} (hW : WOK c) (at_ : Int) : WOK (c.atS at_) := by
  unfold Cl.atS
  split
  · rename_i he
    exact hW.tick he
  · exact hW
theorem asc_snoc {l : List (Int × Int)} (ha : Asc l) {n v : Int} (hn : ∀ p, p ∈ l → p.1 < n) : Asc (l ++ [(n, v)]) := by
  refine List.pairwise_append.2 ⟨ha, List.pairwise_singleton _ _, fun a ha b hb => ?_⟩
  have : b = (n, v) := List.mem_singleton.1 hb
  subst this
  exact hn a ha
theorem WOK.ask {c : Cl} (hW : WOK c) (hnx : c.next < 4611686018427387904) (hsum : c.told.length + c.waits.length < 1073741824) (at_ : Int) (r : Rq) : WOK (c.askR at_ r).2 := by
  unfold Cl.askR
  split
  · rename_i he
    have ht := hW.tick he
    have hz := atE_zero he
    split
    · split
      · have hs : (c.tick at_).told.length + (c.tick at_).waits.length < 1073741824 := by
          show (c.told ++ List.map _ _).length + (List.filter _ c.waits).length < _
          rw [List.length_append, List.length_map]
          have h1 := List.length_eq_countP_add_countP (p := keepW c.tmo at_) (l := c.waits)
          rw [List.countP_eq_length_filter, List.countP_eq_length_filter] at h1
          have h3 : (List.filter (fun a => decide ¬keepW c.tmo at_ a = true) c.waits) = c.waits.filter fun p => !keepW c.tmo at_ p := by
            congr 1; funext a; cases keepW c.tmo at_ a <;> rfl
          rw [h3] at h1
          omega
        refine ⟨asc_snoc ht.asc fun p hp => (ht.ids p hp).2, fun p hp => ?_, fun p hp => ?_, ht.last, ?_, ?_⟩
        · rcases List.mem_append.1 hp with h9 | h9
          · have := ht.ids p h9
            have hn : (c.tick at_).next = c.next := rfl
            show 1 ≤ p.1 ∧ p.1 < c.next + 1
            omega
          · have : p = (c.next, at_) := List.mem_singleton.1 h9
            subst this
            have := hW.next
            show 1 ≤ c.next ∧ c.next < c.next + 1
            omega
        · rcases List.mem_append.1 hp with h9 | h9
          · exact ht.ats p h9
          · have : p = (c.next, at_) := List.mem_singleton.1 h9
            subst this
            show 0 ≤ at_ ∧ at_ ≤ at_
            omega
        · have := hW.next
          show 1 ≤ c.next + 1 ∧ c.next + 1 ≤ _
          omega
        · show (c.tick at_).told.length + ((c.tick at_).waits ++ [(c.next, at_)]).length ≤ _
          rw [List.length_append]
          show _ + (_ + 1) ≤ _
          omega
      · exact ht
    · exact ht
  · exact hW

theorem tld_idx {h : Heap} {base : Nat} {s : Sl} {l : List Tld} (ho : Own h base s 7 (l.flatMap tC)) {n : Nat} {p : Tld} (hp : l[n]? = some p) {k : Int} (hi : k = (n : Int)) {K : Nat → Nat → Prop}
    (hk : ∀ b o, h.has b o (tC p) → K b o) : idxA s.ptr s.len k 7 K := by
  subst hi
  have hl := ho.len
  rw [flat_len tC_len] at hl
  have hlt : n < l.length := (List.getElem?_eq_some_iff.1 hp).1
  obtain ⟨b, hptr, hb⟩ := Own.ptr_ ho (o := 0) (by rw [flat_len tC_len]; omega)
  refine ⟨b, 0, hptr, by omega, by omega, ?_⟩
  have e : 0 + (n : Int).toNat * 7 = n * 7 := by omega
  rw [e]
  refine hk b _ (has_of fun i v hi => Own.cell_ ho hb ?_)
  have hi7 : i < 7 := (List.getElem?_eq_some_iff.1 hi).1
  rw [flat_get tC_len l n i p hp hi7]
  exact hi

def askQ : Rq := (0, 1, 1, 1, ByteArray.mk #[], 0, ())
theorem right_ask : rightB (setId askQ 0) = true := by decide
theorem live_spec {h : Heap} {K : Bool → Heap → Prop} (hk : ∀ h', Ext h h' → K true h') : m_spillwaylaw21_live K h := by
  unfold m_spillwaylaw21_live g_spillwaylaw21_live
  have h0 : newE_ 1000 10 40 xT = 0 := by
    unfold newE_
    have : rightB (0, 5, 0, 0, xT, 0, ()) = true := right_x
    rw [if_neg (by decide), if_neg (by decide), if_neg (by decide), if_neg (by decide), if_neg (by decide), if_pos this]
  refine New_spec (name := xT) (by decide) (fun hb => absurd h0 hb) fun _ h2 T2 cb hC2 e2 t2 => bindI_intro (iteP_false (iteP_false ?_))
  have W0 : WOK (newCl 1000 10 40 xT) := WOK.new
  have N0 : NOK (newCl 1000 10 40 xT) := NOK.new h0
  refine Ask_spec hC2 W0 (by decide) (by decide) (r := askQ) (by decide) fun h6 T6 hC6 st6 => bindI_intro (bindB_intro (bindI_intro ?_))
  have a1 : (newCl 1000 10 40 xT).askR 0 askQ = ((0, true, 0), (newCl 1000 10 40 xT).tick 0) := by
    unfold Cl.askR
    rw [if_pos (by decide), if_pos ⟨right_ask, by decide⟩, if_neg fun h => absurd h.1 (by decide)]
  rw [a1] at hC6 ⊢
  have W1 := W0.tick (at_ := 0) (by decide)
  have N1 := N0.tick 0
  dsimp only at hC6 ⊢
  refine Up_spec hC6 W1 N1 (by show 0 ≤ _; decide) fun h8 T8 hC8 st8 => bindI_intro ?_
  have a2 : ((newCl 1000 10 40 xT).tick 0).upE 1 = 0 := by decide
  have W2 := W1.up 1
  rw [a2]
  have a2s : ((newCl 1000 10 40 xT).tick 0).upS 1 = { ((newCl 1000 10 40 xT).tick 0).tick 1 with up := true, backoff := 10, out := [] ++ allB [helloR xT] } := by
    unfold Cl.upS
    rw [if_pos (by decide), if_neg (by decide)]
    rfl
  rw [a2s] at hC8 W2
  generalize hc2 : ({ ((newCl 1000 10 40 xT).tick 0).tick 1 with up := true, backoff := 10, out := [] ++ allB [helloR xT] } : Cl) = c2 at hC8 W2
  have hout : c2.out.length ≤ 1099511627776 := by
    subst hc2
    have := allB_len (helloR xT)
    show ([] ++ allB [helloR xT]).length ≤ _
    rw [List.nil_append]; omega
  refine Ask_spec hC8 W2 (by subst hc2; decide) hout (r := askQ) (by decide) fun h12 T12 hC12 st12 => bindI_intro (bindB_intro (bindI_intro ?_))
  have W3 := W2.ask (by subst hc2; decide) (by subst hc2; decide) 2 askQ
  have a3 : c2.askR 2 askQ = ((1, false, 0), { c2.tick 2 with next := 2, waits := [(1, 2)], out := c2.out ++ allB [setId askQ 1] }) := by
    unfold Cl.askR
    rw [if_pos (by subst hc2; decide), if_pos ⟨right_ask, by decide⟩, if_pos ⟨by subst hc2; rfl, by subst hc2; decide⟩]
    subst hc2
    rfl
  rw [a3] at hC12 W3 ⊢
  dsimp only at hC12 W3 ⊢
  generalize hc3 : ({ c2.tick 2 with next := 2, waits := [(1, 2)], out := c2.out ++ allB [setId askQ 1] } : Cl) = c3 at hC12 W3
  refine Tick_spec hC12 W3 fun h15 T15 hC15 st15 => ?_
  have a4 : c3.atE 1002 = 0 := by subst hc3; subst hc2; decide
  have a4t : (c3.atS 1002).told = [fallT 1] := by
    unfold Cl.atS
    rw [if_pos a4]
    subst hc3; subst hc2; rfl
  have a4u : (c3.atS 1002).up = true := by
    unfold Cl.atS
    rw [if_pos a4]
    subst hc3; subst hc2; rfl
  refine Told_spec hC15 fun s h17 T17 ho17 ht17 hC17 st17 => ?_
  rw [a4t] at ho17
  have hsl : s.len = 1 := by
    have := ho17.len
    rw [flat_len tC_len] at this
    simp at this
    omega
  have tld := fun {K : Nat → Nat → Prop} (hk : ∀ b o, h17.has b o (tC (fallT 1)) → K b o) => tld_idx ho17 (n := 0) rfl (k := 0) rfl hk
  refine iteP_true (iteP_true (iteP_true (iteP_true (iteP_true (iteP_true (iteP_pos (by rw [hsl]; rfl) (tld fun b o hh => ⟨true, hh.2.2.2.2.2.2.1, iteP_true (tld fun b o hh => ⟨1, hh.1, iteP_true (Connected_spec hC17 (bindB_intro ?_))⟩)⟩)))))))
  have hu : ({ c3.atS 1002 with told := [] } : Cl).up = true := a4u
  rw [hu]
  have ex : Ext h h17 := by
    have s1 := (((st6.trans st8).trans st12).trans st15).trans st17
    exact s1.ext e2 t2
  exact hk h17 ex

/-! ### no client -/
theorem at_none {thenM : (Int → Heap → Prop) → Heap → Prop} {at_ : Int} {K : Int → Heap → Prop} {h : Heap} (hk : K 1 h) : g_client_Client_at__client_Client_Tick_1 m_client_Client_Waiting m_client_Client_fall thenM none at_ K h :=
  bindI_intro (bindB_intro (iteP_true (bindI_intro hk)))
theorem Tick_none {h : Heap} {at_ : Int} {K : Int → Heap → Prop} (hk : K 1 h) : m_client_Client_Tick none at_ K h := by
  unfold m_client_Client_Tick g_client_Client_Tick
  refine bindI_intro ?_
  rw [at_tick]
  exact at_none (bindI_intro hk)
theorem Up_none {h : Heap} {at_ : Int} {K : Int → Heap → Prop} (hk : ∀ h', Ext h h' → K 1 h') : m_client_Client_Up none at_ K h := by
  unfold m_client_Client_Up g_client_Client_Up
  refine newK fun h1 c1 e1 z1 => bindI_intro (ldPk c1 rfl ?_)
  rw [at_up]
  exact at_none (bindI_intro (hk h1 e1))
theorem Refused_none {h : Heap} {at_ : Int} {K : Int → Heap → Prop} (hk : ∀ h', Ext h h' → K 1 h') : m_client_Client_Refused none at_ K h := by
  unfold m_client_Client_Refused g_client_Client_Refused
  refine newK fun h1 c1 e1 z1 => bindI_intro (ldPk c1 rfl ?_)
  rw [at_refused]
  exact at_none (bindI_intro (hk h1 e1))
theorem Lost_none {h : Heap} {at_ : Int} {K : Int → Heap → Prop} (hk : ∀ h', Ext h h' → K 1 h') : m_client_Client_Lost none at_ K h := by
  unfold m_client_Client_Lost g_client_Client_Lost
  refine newK fun h1 c1 e1 z1 => bindI_intro (ldPk c1 rfl ?_)
  rw [at_lost]
  exact at_none (bindI_intro (hk h1 e1))
theorem Bytes_none {h : Heap} {at_ : Int} {b : Sl} {K : Int → Heap → Prop} (hk : ∀ h', Ext h h' → K 1 h') : m_client_Client_Bytes none at_ b K h := by
  unfold m_client_Client_Bytes g_client_Client_Bytes
  refine newK fun h1 c1 e1 z1 => newK fun h2 c2 e2 z2 => bindI_intro (ldPk (keepE c1 e2) rfl ?_)
  rw [at_bytes]
  exact at_none (bindI_intro (hk h2 (e1.trans e2)))
theorem Dial_none {h : Heap} {at_ : Int} {K : Bool → Int → Heap → Prop} (hk : ∀ h', Ext h h' → K false 1 h') : m_client_Client_Dial none at_ K h := by
  unfold m_client_Client_Dial g_client_Client_Dial
  refine newK fun h1 c1 e1 z1 => newK fun h3 c3 e3 z3 => newK fun h5 c5 e5 z5 => bindI_intro (ldPk (keepE (keepE c1 e3) e5) rfl (ldIk (keepE c3 e5) rfl ?_))
  rw [at_dial]
  refine at_none (bindI_intro (ldBk c5 rfl (put2 c5 (show 0 < 1 by decide) rfl fun h11 c11 u11 z11 => bindI_intro (ldBk c11 rfl (hk h11 ?_)))))
  exact ((e1.trans e3).trans e5).then u11 fun k hk => by have := e1.size; have := e3.size; omega
theorem Ask_none {h : Heap} {at_ : Int} {r : Rq} {K : Int → Bool → Int → Heap → Prop} (hk : ∀ h', Ext h h' → K 0 false 1 h') : m_client_Client_Ask none at_ r K h := by
  unfold m_client_Client_Ask g_client_Client_Ask
  refine newK fun h1 c1 e1 z1 => newK fun h3 c3 e3 z3 => newK fun h5 c5 e5 z5 => newK fun h7 c7 e7 z7 => newK fun h9 c9 e9 z9 => bindI_intro ?_
  have d1 := keepE (keepE (keepE (keepE c1 e3) e5) e7) e9
  have d3 := keepE (keepE (keepE c3 e5) e7) e9
  have d7 := keepE c7 e9
  refine ldPk d1 rfl (ldIk d3 rfl ?_)
  rw [at_ask]
  refine at_none (bindI_intro (ldIk d7 rfl (ldBk c9 rfl (put2 d7 (show 0 < 1 by decide) rfl fun h16 r16 u16 z16 => ?_))))
  have q9 := keepB c9 u16 (by omega)
  refine ⟨⟨(cell_block q9).trans rfl, trivial⟩, put2 q9 (show 0 < 1 by decide) rfl fun h17 r17 u17 z17 => bindI_intro (ldIk (keepB r16 u17 (by omega)) rfl (ldBk r17 rfl (hk h17 ?_)))⟩
  exact (((((e1.trans e3).trans e5).trans e7).trans e9).then u16 fun k hk => by omega).then u17 fun k hk => by omega

abbrev Deed21 := Int × Int × Int × Int × Int × Int × ByteArray × Int × Sl × Unit
theorem ClientNone_true {x : Deed21} {h : Heap} {K : Bool → Heap → Prop} (hk : ∀ h', Ext h h' → K true h') : m_spillwaylaw21_ClientNone x K h := by
  unfold m_spillwaylaw21_ClientNone g_spillwaylaw21_ClientNone
  obtain ⟨x1, x2, x3, x4, x5, x6, x7, x8, xs, u⟩ := x
  refine newK fun h1 c1 e1 z1 => ldIk c1 rfl (ldIk c1 rfl (ldIk c1 rfl (ldIk c1 rfl (ldIk c1 rfl (ldSk c1 rfl (ldIk c1 rfl ?_))))))
  refine Ask_none fun h11 e11 => bindI_intro (bindB_intro (bindI_intro (ldIk (keepE c1 e11) rfl (Dial_none fun h16 e16 => bindB_intro (bindI_intro (live_spec fun h19 e19 => iteP_true (iteP_true (iteP_true ?_))))))))
  have x19 := ((e1.trans e11).trans e16).trans e19
  have c19 := keepE (keepE (keepE c1 e11) e16) e19
  refine ldIk c19 rfl (Up_none fun h22 e22 => iteP_true (ldIk (keepE c19 e22) rfl (Refused_none fun h25 e25 => iteP_true (ldIk (keepE (keepE c19 e22) e25) rfl (Lost_none fun h28 e28 => iteP_true ?_)))))
  have c28 := keepE (keepE (keepE c19 e22) e25) e28
  refine ldIk c28 rfl (ldLk (s := xs) c28 rfl (Bytes_none fun h32 e32 => iteP_true (ldIk (keepE c28 e32) rfl (Tick_none ?_))))
  refine iteP_true (iteP_true (iteP_true (iteP_true (iteP_true (iteP_true (iteP_true ?_))))))
  refine iteP_false (iteP_true (iteP_true (bindB_intro (hk h32 ?_))))
  exact (((x19.trans e22).trans e25).trans e28).trans e32

/-! ### ClientBacks -/
structure BkI (c : Cl) (least most : Int) (i : Nat) : Prop where
  w : WOK c
  n : NOK c
  hl : c.least = least
  hm : c.most = most
  up : c.up = false
  waits : c.waits = []
  told : c.told = []
  out : c.out = []
  rb : c.rb = []
  dial : c.dial ≤ (i : Int) * most
  last : c.last ≤ (i : Int) * most

theorem tick_nil {c : Cl} (h1 : c.waits = []) (at_ : Int) : c.tick at_ = { c with last := at_ } := by
  unfold Cl.tick
  rw [h1]
  simp
theorem ClientBacks_true {s : Int × Int × Int × Unit} {n : Int} {h : Heap} {K : Bool → Heap → Prop} (hn : 0 ≤ n ∧ n < 256) (hk : ∀ h', Ext h h' → K true h') : m_spillwaylaw21_ClientBacks s n K h := by
  unfold m_spillwaylaw21_ClientBacks g_spillwaylaw21_ClientBacks
  obtain ⟨tmo, least, most, u⟩ := s
  refine newK fun h1 c1 e1 z1 => ldIk c1 rfl (ldIk c1 rfl (ldIk c1 rfl ?_))
  refine New_spec (name := xT) (by decide) (fun hb h6 e6 => bindI_intro (iteP_pos (by simpa using hb) (live_spec fun h8 e8 => iteP_true (bindB_intro (hk h8 ((e1.trans e6).trans e8)))))) fun hz h6 T6 cb hC6 e6 t6 => bindI_intro (iteP_false (bindI_intro (bindI_intro ?_)))
  obtain ⟨hb, _⟩ := new_ok hz
  dsimp only at hb
  have hI0 : BkI (newCl tmo least most xT) least most 0 := ⟨WOK.new, NOK.new hz, rfl, rfl, rfl, rfl, rfl, rfl, rfl, by show (0 : Int) ≤ _; simp, by show (0 : Int) ≤ _; simp⟩
  have hw : IntKind.wrap .i64 n = n := wrap64 (by omega) (by omega)
  have hmod : Int.tmod n 12 ≤ 11 ∧ 0 ≤ Int.tmod n 12 := by
    rw [Int.tmod_eq_emod_of_nonneg hn.1]
    omega
  rw [hw]
  generalize Int.tmod n 12 = q at hmod
  refine loopM_intro (fun p h' => ∃ (i : Nat) (T : Nat → Option Nat) (c : Cl), p.2.1 = (i : Int) ∧ p.1 = (i : Int) * most ∧ (i : Int) ≤ q ∧ Client h' T cb c ∧ BkI c least most i ∧ Ext h1 h' ∧ ∀ k, T k ≠ none → h1.size ≤ k) (fun p _ => 12 - p.2.1.toNat)
    ⟨0, T6, _, rfl, by simp, hmod.2, hC6, hI0, e6, t6⟩ ?_
  rintro ⟨at_, i, u⟩ h14 ⟨k, T, c, hi, hat, hkq, hC, hI, x14, low⟩
  dsimp only at hi hat
  subst hi
  dsimp only
  refine ⟨by decide, iteP_dec (fun hlt => ?_) (fun hge => live_spec fun h37 e37 => bindB_intro (hk h37 ((e1.trans x14).trans e37)))⟩
  have hk11 : (k : Int) ≤ 11 := by omega
  have hat0 : 0 ≤ at_ ∧ at_ ≤ 39600000000 := by
    have h1 : (0 : Int) ≤ (k : Int) * most := Int.mul_nonneg (by omega) (by omega)
    have h2 : (k : Int) * most ≤ 11 * 3600000000 := Int.mul_le_mul hk11 (by omega) (by omega) (by omega)
    omega
  have hdl := hI.dial
  have hll := hI.last
  have ae : c.atE at_ = 0 := by
    unfold Cl.atE
    rw [if_neg (by omega), if_neg (by omega), if_neg (by omega)]
  have adS : c.atS at_ = { c with last := at_ } := by unfold Cl.atS; rw [if_pos ae, tick_nil hI.waits]
  refine Dial_spec hC hI.w (at_ := at_) fun h17 T17 hC17 st17 => bindB_intro (bindI_intro ?_)
  have hd : c.dialF at_ = true := by
    unfold Cl.dialF
    rw [if_pos ae, hI.up]
    show (true && _) = true
    rw [Bool.true_and]
    exact decide_eq_true (by omega)
  rw [ae, hd]
  refine iteP_false (iteP_false ?_)
  have W17 := hI.w.atS at_
  rw [adS] at hC17 W17
  generalize hcc : ({ c with last := at_ } : Cl) = c7 at hC17 W17
  have N7 : NOK c7 := by subst hcc; exact ⟨hI.n.tmo, hI.n.least, hI.n.back, hI.n.most, hI.n.name⟩
  have a7 : c7.atE at_ = 0 := by
    subst hcc
    unfold Cl.atE
    rw [if_neg (by omega), if_neg (by omega), if_neg (by show ¬ at_ < at_; omega)]
  have r7 : c7.refS at_ = { c with last := at_, dial := at_ + c.backoff, backoff := min (2 * c.backoff) c.most } := by
    unfold Cl.refS
    rw [if_pos a7]
    subst hcc
    show (if c.up = true then _ else _) = _
    rw [hI.up, tick_nil (by exact hI.waits)]
    rfl
  have r7e : c7.refE at_ = 0 := by
    unfold Cl.refE
    rw [if_pos a7]
    subst hcc
    show (if c.up = true then _ else _) = _
    rw [hI.up]
    rfl
  refine Refused_spec hC17 W17 N7 (at_ := at_) fun h20 T20 hC20 st20 => ?_
  rw [r7e]
  refine iteP_false ?_
  have W20 := W17.ref at_
  rw [r7] at hC20 W20
  have N20 : NOK { c with last := at_, dial := at_ + c.backoff, backoff := min (2 * c.backoff) c.most } := by
    have := hI.n.back
    have := hI.n.least
    refine ⟨hI.n.tmo, hI.n.least, ?_, hI.n.most, hI.n.name⟩
    show c.least ≤ min (2 * c.backoff) c.most ∧ min (2 * c.backoff) c.most ≤ c.most
    omega
  have hbk := hI.n.back
  rw [hI.hl, hI.hm] at hbk
  have hmost := hI.hm
  generalize hc8 : ({ c with last := at_, dial := at_ + c.backoff, backoff := min (2 * c.backoff) c.most } : Cl) = c8 at hC20 W20 N20
  have stA := st17.trans st20
  have x20 := stA.ext x14 low
  have low20 := stA.low x14 low
  have hf8 : c8.up = false ∧ c8.waits = [] ∧ c8.told = [] ∧ c8.out = [] ∧ c8.rb = [] ∧ c8.last = at_ ∧ c8.dial = at_ + c.backoff ∧ c8.least = least ∧ c8.most = most := by
    subst hc8
    exact ⟨hI.up, hI.waits, hI.told, hI.out, hI.rb, rfl, rfl, hI.hl, hI.hm⟩
  obtain ⟨f1, f2, f3, f4, f5, f6, f7, f8, f9⟩ := hf8
  have aE : ∀ a : Int, at_ ≤ a → a ≤ 1152921504606846976 → c8.atE a = 0 := fun a h8 h9 => by
    unfold Cl.atE
    rw [if_neg (by omega), if_neg (by omega), if_neg (by omega)]
  have aD : ∀ a : Int, at_ ≤ a → a ≤ 1152921504606846976 → c8.dialF a = decide (a ≥ at_ + c.backoff) := fun a h8 h9 => by
    unfold Cl.dialF
    rw [if_pos (aE a h8 h9), f1, f7]
    rfl
  have lens : c8.out.length ≤ 1099511627776 ∧ c8.told.length ≤ 1099511627776 ∧ c8.rb.length ≤ 1099511627776 := by
    rw [f3, f4, f5]
    decide
  have c20 := keepE c1 x20
  refine ldIk c20 rfl (Fork_spec hC20 lens.1 lens.2.1 lens.2.2 fun h23 T23 cb23 hC23 e23 t23 => ⟨⟨(cell_block (keepE c20 e23)).trans rfl, trivial⟩, ?_⟩)
  rw [wrap64 (n := at_ + least) (by omega) (by omega), wrap64 (n := at_ + least - 1) (by omega) (by omega)]
  refine Dial_spec hC23 W20 (at_ := at_ + least - 1) fun h26 T26 hC26 st26 => ?_
  have x26 : Ext h20 h26 := st26.ext e23 t23
  have c26 := keepE c20 x26
  rw [aD _ (by omega) (by omega), aE _ (by omega) (by omega), decide_eq_false (by omega)]
  refine ⟨⟨(cell_block c26).trans rfl, trivial⟩, bindB_intro (bindI_intro (ldIk c26 rfl (Fork_spec (hC20.ext x26) lens.1 lens.2.1 lens.2.2 fun h29 T29 cb29 hC29 e29 t29 => ⟨⟨(cell_block (keepE c26 e29)).trans rfl, trivial⟩, ?_⟩)))⟩
  rw [wrap64 (n := at_ + most) (by omega) (by omega)]
  refine Dial_spec hC29 W20 (at_ := at_ + most) fun h32 T32 hC32 st32 => ?_
  have x32 : Ext h26 h32 := st32.ext e29 t29
  have c32 := keepE c26 x32
  rw [aD _ (by omega) (by omega), aE _ (by omega) (by omega), decide_eq_true (by omega)]
  refine ⟨⟨(cell_block c32).trans rfl, trivial⟩, bindB_intro (bindI_intro (iteP_false (iteP_false (iteP_false (ldIk c32 rfl (bindI_intro (bindI_intro ?_)))))))⟩
  dsimp only
  rw [wrap64 (n := (k : Int) + 1) (by omega) (by omega), wrap64 (n := at_ + most) (by omega) (by omega)]
  have hnext : at_ + most = ((k + 1 : Nat) : Int) * most := by
    rw [hat, Int.natCast_add, Int.add_mul]
    simp
  refine ⟨⟨k + 1, T20, c8, by omega, hnext, by omega, (hC20.ext x26).ext x32, ⟨W20, N20, f8, f9, f1, f2, f3, f4, f5, ?_, ?_⟩, (x20.trans x26).trans x32, low20⟩, by omega⟩
  · rw [f7, ← hnext]; omega
  · rw [f6, ← hnext]; omega

end Go.Proofs.Ytcmedplogmjiiaa
