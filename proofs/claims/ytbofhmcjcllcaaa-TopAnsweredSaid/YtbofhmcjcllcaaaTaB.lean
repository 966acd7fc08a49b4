/- Client and network at once in memory; what the network says of one connection. -/
import Derived.Test.YtbofhmcjcllcaaaTaA
namespace Go.Proofs.Ytbofhmcjcllcaaa
open Go Go.Fw

/-! ### one connection -/
def cnA (w c : List UInt8) : St.Cn := ⟨⟨[], [], false⟩, ⟨w, c, false⟩, 1, false⟩
theorem err_1 (w c : List UInt8) (e most : Int) (he : e = 0 ∨ e = 1) (hm : 0 ≤ most) : St.errS [cnA w c] 1 e most = 0 := by
  unfold St.errS
  rw [if_neg (by decide), if_neg (by simp), if_neg (by omega), if_neg (by omega), if_neg (by omega)]
  rfl
theorem wr_1 {w l : List UInt8} (h : w.length + l.length ≤ 65536) : St.wrS [cnA w []] 1 1 l = (0, [cnA (w ++ l) []]) := by
  unfold St.wrS
  rw [err_1 _ _ _ _ (.inr rfl) (Int.le_refl _), if_neg (by simp)]
  show St.wrI [cnA w []] 0 1 l = _
  unfold St.wrI
  show (if w.length + l.length > 65536 then _ else _) = _
  rw [if_neg (by omega)]
  rfl
theorem mv_1 {w : List UInt8} {k : Int} {n : Nat} (hk : k = (n : Int)) : (St.mvS [cnA w []] 1 1 k).2 = [cnA (w.drop n) (w.take n)] := by
  subst hk
  unfold St.mvS
  rw [err_1 _ _ _ _ (.inr rfl) (by omega), if_neg (by simp)]
  show (St.mvI [cnA w []] 0 1 (n : Int).toNat).2 = _
  rw [Int.toNat_natCast]
  show [cnA (w.drop (min n w.length)) ([] ++ w.take (min n w.length))] = _
  have e1 : w.take (min n w.length) = w.take n := by
    rcases Nat.le_total n w.length with h | h
    · rw [Nat.min_eq_left h]
    · rw [Nat.min_eq_right h, List.take_length, List.take_of_length_le h]
  have e2 : w.drop (min n w.length) = w.drop n := by
    rcases Nat.le_total n w.length with h | h
    · rw [Nat.min_eq_left h]
    · rw [Nat.min_eq_right h, List.drop_length, List.drop_eq_nil_of_le h]
  rw [e1, e2, List.nil_append]
theorem rd_1 {w c : List UInt8} (hc : c.length ≤ 1000) : (St.rdS_ [cnA w c] 1 0 1000).1.1 = c ∧ (St.rdS_ [cnA w c] 1 0 1000).1.2.2 = 0 ∧ (St.rdS_ [cnA w c] 1 0 1000).2 = [cnA w []] := by
  unfold St.rdS_
  rw [err_1 _ _ _ _ (.inl rfl) (by decide), if_neg (by simp)]
  have e : St.rdI [cnA w c] (1 - 1 : Int).toNat (1 - (0 : Int).toNat) (1000 : Int).toNat = St.rdI [cnA w c] 0 1 1000 := rfl
  rw [e]
  refine ⟨?_, rfl, ?_⟩
  · show c.take (min 1000 c.length) = c
    rw [Nat.min_eq_right hc, List.take_length]
  · show [cnA w (c.drop (min 1000 c.length))] = _
    rw [Nat.min_eq_right hc, List.drop_length]
theorem lk_1 (w : List UInt8) : (St.lkS [cnA w []] 1 1).1 = (w.length : Int) := by
  unfold St.lkS
  rw [err_1 _ _ _ _ (.inr rfl) (Int.le_refl _), if_neg (by simp)]
  rfl
theorem di_1 {ps : Int → Bool} (h : ps 1 = true) : St.diS ps [] 1 = ((1, 0), [cnA [] []]) := by
  unfold St.diS
  rw [if_neg (by decide), if_neg (by rw [h]; decide), if_neg (by decide)]
  rfl
theorem hw_1 {w c : List UInt8} (h1 : w.length ≤ 65536) (h2 : c.length ≤ 65536) : ∀ x j, x ∈ [cnA w c] → j < 2 → (x.side j).way.length ≤ 65536 ∧ (x.side j).come.length ≤ 1099511627776 := fun x j hx hj => by
  have : x = cnA w c := List.mem_singleton.1 hx
  subst this
  rcases St.two j hj with rfl | rfl
  · exact ⟨Nat.zero_le _, Nat.zero_le _⟩
  · exact ⟨h1, by show c.length ≤ _; omega⟩

/-! ### both in memory -/
structure TaI (h0 h : Heap) (T T2 : Nat → Option Nat) (nb cb : Nat) (ps : Int → Bool) (A : St.Cn) (c : Cl) : Prop where
  net : St.Net h T nb ps [A]
  cl : Client h T2 cb c
  d : ∀ k, T k ≠ none → T2 k = none
  l1 : ∀ k, T k ≠ none → h0.size ≤ k
  l2 : ∀ k, T2 k ≠ none → h0.size ≤ k
  ext : Ext h0 h
theorem TaI.grow {h0 h h' : Heap} {T T2 : Nat → Option Nat} {nb cb : Nat} {ps : Int → Bool} {A : St.Cn} {c : Cl} (hI : TaI h0 h T T2 nb cb ps A c) (e : Ext h h') : TaI h0 h' T T2 nb cb ps A c :=
  ⟨hI.net.ext e, hI.cl.ext e, hI.d, hI.l1, hI.l2, hI.ext.trans e⟩
theorem TaI.netS {h0 h h' : Heap} {T T2 T' : Nat → Option Nat} {nb cb : Nat} {ps : Int → Bool} {A A' : St.Cn} {c : Cl} (hI : TaI h0 h T T2 nb cb ps A c) (hn : St.Net h' T' nb ps [A']) (st : Stp T T' h h') : TaI h0 h' T' T2 nb cb ps A' c := by
  have hs := hI.ext.size
  refine ⟨hn, hI.cl.upd st.upd fun k _ hk => hI.d k hk, fun k hk => ?_, fun k hk => ?_, hI.l2, hI.ext.then st.upd hI.l1⟩
  · rcases st.new k hk with h1 | h1
    · exact hI.d k h1
    · exact none_new hI.cl.lt h1
  · rcases st.new k hk with h1 | h1
    · exact hI.l1 k h1
    · omega
theorem TaI.clS {h0 h h' : Heap} {T T2 T2' : Nat → Option Nat} {nb cb : Nat} {ps : Int → Bool} {A : St.Cn} {c c' : Cl} (hI : TaI h0 h T T2 nb cb ps A c) (hc : Client h' T2' cb c') (st : Stp T2 T2' h h') : TaI h0 h' T T2' nb cb ps A c' := by
  have hs := hI.ext.size
  have hd : ∀ k, T2 k ≠ none → T k = none := fun k hk => Classical.byContradiction fun h9 => hk (hI.d k h9)
  refine ⟨hI.net.upd st.upd fun k _ hk => hd k hk, hc, fun k hk => Classical.byContradiction fun h9 => ?_, hI.l1, fun k hk => ?_, hI.ext.then st.upd hI.l2⟩
  · rcases st.new k h9 with h1 | h1
    · exact hk (hd k h1)
    · exact hk (none_new hI.net.lt h1)
  · rcases st.new k hk with h1 | h1
    · exact hI.l2 k h1
    · omega
theorem TaI.updS {h0 h h' : Heap} {T T2 : Nat → Option Nat} {nb cb : Nat} {ps : Int → Bool} {A : St.Cn} {c : Cl} {S : Nat → Prop} (hI : TaI h0 h T T2 nb cb ps A c) (hu : Upd S h h') (hd : ∀ k, S k → (T k = none ∧ T2 k = none) ∧ h0.size ≤ k) : TaI h0 h' T T2 nb cb ps A c :=
  ⟨hI.net.upd hu fun k _ hk => (hd k hk).1.1, hI.cl.upd hu fun k _ hk => (hd k hk).1.2, hI.d, hI.l1, hI.l2, hI.ext.then hu fun k hk => (hd k hk).2⟩
/-- a row of one's own, that neither holds -/
structure TR (h0 h : Heap) (T T2 : Nat → Option Nat) (s : Sl) (l : List Tld) : Prop where
  row : Own h h0.size s 7 (l.flatMap tC)
  none_ : ∀ k, s.blk = some k → T k = none ∧ T2 k = none
theorem TR.grow {h0 h h' : Heap} {T T2 : Nat → Option Nat} {s : Sl} {l : List Tld} (hT : TR h0 h T T2 s l) (e : Ext h h') : TR h0 h' T T2 s l := ⟨hT.row.congr fun k _ hl _ => e.old k hl, hT.none_⟩
theorem TR.netS {h0 h h' : Heap} {T T2 T' : Nat → Option Nat} {s : Sl} {l : List Tld} (hT : TR h0 h T T2 s l) (st : Stp T T' h h') : TR h0 h' T' T2 s l :=
  ⟨hT.row.congr fun k hk hl _ => st.upd.old k hl fun h9 => h9 (hT.none_ k hk).1, fun k hk => ⟨st.none_ (hT.none_ k hk).1 (hT.row.lt hk).2, (hT.none_ k hk).2⟩⟩
theorem TR.clS {h0 h h' : Heap} {T T2 T2' : Nat → Option Nat} {s : Sl} {l : List Tld} (hT : TR h0 h T T2 s l) (st : Stp T2 T2' h h') : TR h0 h' T T2' s l :=
  ⟨hT.row.congr fun k hk hl _ => st.upd.old k hl fun h9 => h9 (hT.none_ k hk).2, fun k hk => ⟨(hT.none_ k hk).1, st.none_ (hT.none_ k hk).2 (hT.row.lt hk).2⟩⟩

/-- a row of answers handed in -/
def RowsA (h : Heap) (s : Sl) (l : List An) : Prop := s.len = l.length ∧ ∀ (i : Nat) (a : An), l[i]? = some a → ∃ b o, s.ptr = some ⟨b, o, none⟩ ∧ h.has b (o + i * 5) (anC a)
theorem RowsA.idx {h : Heap} {s : Sl} {l : List An} (hr : RowsA h s l) {i : Int} {n : Nat} (hi : i = (n : Int)) {a : An} (hv : l[n]? = some a) {K : Nat → Nat → Prop} (hk : ∀ b o, h.has b o (anC a) → K b o) : idxA s.ptr s.len i 5 K := by
  subst hi
  have hlt : n < l.length := (List.getElem?_eq_some_iff.1 hv).1
  obtain ⟨b, o, h1, h2⟩ := hr.2 n a hv
  refine ⟨b, o, h1, by omega, by have := hr.1; omega, ?_⟩
  have e : o + (n : Int).toNat * 5 = o + n * 5 := by omega
  rw [e]
  exact hk b _ h2

def whF (n : Int) : Int := if Int.tmod n 50 < 0 then Int.tmod n 50 + 50 else Int.tmod n 50
theorem whF_range (n : Int) : 0 ≤ whF n ∧ whF n < 50 := by
  have h1 : Int.tmod n 50 < 50 := Int.tmod_lt_of_pos n (by decide)
  have h2 := Int.tmod_lt_of_pos (-n) (show (0 : Int) < 50 by decide)
  rw [Int.neg_tmod] at h2
  unfold whF
  split <;> omega
theorem which_spec {n : Int} {h : Heap} {K : Int → Heap → Prop} (hk : K (whF n) h) : m_spillwaytop_which n 50 K h := by
  unfold m_spillwaytop_which g_spillwaytop_which
  have h1 : Int.tmod n 50 < 50 := Int.tmod_lt_of_pos n (by decide)
  have h2 := Int.tmod_lt_of_pos (-n) (show (0 : Int) < 50 by decide)
  rw [Int.neg_tmod] at h2
  unfold whF at hk
  refine bindI_intro ⟨by decide, bindI_intro (iteP_dec (fun h0 => ?_) fun h0 => ?_)⟩
  · rw [if_pos h0] at hk
    rw [wrap64 (n := Int.tmod n 50 + 50) (by omega) (by omega)]
    exact bindI_intro (bindI_intro hk)
  · rw [if_neg h0] at hk
    exact bindI_intro hk

end Go.Proofs.Ytbofhmcjcllcaaa
