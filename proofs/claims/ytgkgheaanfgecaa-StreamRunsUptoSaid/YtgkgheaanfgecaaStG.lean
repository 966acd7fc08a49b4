/- What StreamOrder keeps beside the network: two rows of bytes told, two read, two numbers. -/
import Derived.Test.YtgkgheaanfgecaaStF
namespace Go.Proofs.Ytgkgheaanfgecaa
open Go Go.Fw

theorem Own.blen_ {h : Heap} {base : Nat} {x : Sl} {l : List UInt8} (ho : Own h base x 1 (l.map bv)) : l.length = x.len := by
  have := ho.len; simp at this; omega

theorem Same_spec {a b : Sl} {l m : List UInt8} {h : Heap} {K : Bool → Heap → Prop} (ha : Bytes h a l) (hb : Bytes h b m) (hk : K (decide (l = m)) h) : m_spillwaymem_Same a b K h := by
  unfold m_spillwaymem_Same g_spillwaymem_Same
  have h1 := ha.length
  have h2 := hb.length
  have h3 := ha.big
  have h4 := ha.cap
  refine ⟨fun hne => ?_, fun heq => bindI_intro ?_⟩
  · have : l ≠ m := by
      rintro rfl
      rw [h1, h2] at hne
      simp at hne
    rw [decide_eq_false this] at hk
    exact hk
  · have hlm : l.length = m.length := by rw [h1, h2] at heq; simp at heq; omega
    refine loopM_intro (fun s h' => h' = h ∧ ∃ k : Nat, k ≤ l.length ∧ s.1 = (k : Int) ∧ l.take k = m.take k) (fun s _ => l.length - s.1.toNat) ⟨rfl, 0, Nat.zero_le _, rfl, by simp⟩ ?_
    rintro ⟨i, u⟩ h' ⟨rfl, k, hk', hi, htake⟩
    dsimp only at hi
    subst hi
    dsimp only
    refine iteP_dec (fun hlt => ?_) (fun hge => ?_)
    · have hl1 : k < l.length := by omega
      have hl2 : k < m.length := by omega
      refine Bytes.idx ha rfl (List.getElem?_eq_getElem hl1) ?_
      refine Bytes.idx hb rfl (List.getElem?_eq_getElem hl2) ?_
      refine ⟨fun hne => ?_, fun he => bindI_intro ?_⟩
      · have : l ≠ m := by rintro rfl; simp at hne
        rw [decide_eq_false this] at hk
        exact hk
      · have he' : l[k] = m[k] := by
          simp at he
          exact UInt8.toNat_inj.1 (by omega)
        rw [wrap64 (by omega) (by omega)]
        refine ⟨⟨rfl, k + 1, by omega, by omega, ?_⟩, by omega⟩
        rw [List.take_succ_eq_append_getElem hl1, List.take_succ_eq_append_getElem hl2, htake, he']
    · have : l = m := by
        rw [List.take_of_length_le (by omega), List.take_of_length_le (by omega)] at htake
        exact htake
      rw [decide_eq_true this] at hk
      exact hk

/-! ### deeds -/
structure Deed where
  kind : Int
  conn : Int
  end_ : Int
  n : Int
  ports : List Int
  b : List UInt8
def dC (d : Deed) (pl bl : Sl) : List Value := [iv d.kind, iv d.conn, iv d.end_, iv d.n, slV pl, slV bl]
def Deeds (h : Heap) (s : Sl) (ds : List Deed) : Prop := s.len = ds.length ∧ ∀ (i : Nat) (d : Deed), ds[i]? = some d → ∃ b o pl bl, s.ptr = some ⟨b, o, none⟩ ∧ h.has b (o + i * 6) (dC d pl bl) ∧ Ints h pl d.ports ∧ Bytes h bl d.b
def bulkD (ds : List Deed) : Nat := (ds.map fun d => d.ports.length + d.b.length + 1).sum
theorem bulk_get : ∀ {ds : List Deed} {d : Deed}, d ∈ ds → d.ports.length + d.b.length + 1 ≤ bulkD ds
  | x :: ds, d, h => by
    simp only [bulkD, List.map_cons, List.sum_cons]
    rcases List.mem_cons.1 h with rfl | h
    · omega
    · have := bulk_get h
      simp only [bulkD] at this
      omega
theorem bulk_len : ∀ ds : List Deed, ds.length ≤ bulkD ds
  | [] => Nat.le_refl _
  | x :: ds => by
    have := bulk_len ds
    simp only [bulkD, List.map_cons, List.sum_cons, List.length_cons] at this ⊢
    omega
theorem Deeds.ext {h h' : Heap} {s : Sl} {ds : List Deed} (hd : Deeds h s ds) (he : Ext h h') : Deeds h' s ds := by
  refine ⟨hd.1, fun i d hi => ?_⟩
  obtain ⟨b, o, pl, bl, h1, h2, h3, h4⟩ := hd.2 i d hi
  exact ⟨b, o, pl, bl, h1, has_congr (he.old b (has_lt h2 (by simp [dC]))) h2, h3.ext he, h4.ext he⟩
theorem Deeds.idx {h : Heap} {s : Sl} {ds : List Deed} (hd : Deeds h s ds) {i : Int} {n : Nat} (hi : i = (n : Int)) {d : Deed} (hv : ds[n]? = some d) {K : Nat → Nat → Prop}
    (hk : ∀ b o pl bl, h.has b o (dC d pl bl) → Ints h pl d.ports → Bytes h bl d.b → K b o) : idxA s.ptr s.len i 6 K := by
  subst hi
  have hlt : n < ds.length := by
    rcases Nat.lt_or_ge n ds.length with h9 | h9
    · exact h9
    · rw [List.getElem?_eq_none h9] at hv; cases hv
  obtain ⟨b, o, pl, bl, h1, h2, h3, h4⟩ := hd.2 n d hv
  have := hd.1
  refine ⟨b, o, h1, by omega, by omega, ?_⟩
  have e : o + (n : Int).toNat * 6 = o + n * 6 := by omega
  rw [e]
  exact hk b _ pl bl h2 h3 h4

/-! ### two rows -/
structure PairR (h : Heap) (T2 : Nat → Option Nat) (b tb t0 : Nat) (ws : Nat → Sl) (w : Nat → List UInt8) : Prop where
  cells : h[b]? = some (.cells #[slV (ws 0), slV (ws 1)] 31 (0, 0))
  tag : T2 b = some tb
  row : ∀ e, e < 2 → RowT h T2 (ws e) (t0 + e) (w e)
theorem PairR.cell {h : Heap} {T2 : Nat → Option Nat} {b tb t0 : Nat} {ws : Nat → Sl} {w : Nat → List UInt8} (hp : PairR h T2 b tb t0 ws w) {j : Nat} (hj : j < 2) : h.cell b (0 + j * 1) = some (slV (ws j)) := by
  rw [cell_block hp.cells]
  rcases two j hj with rfl | rfl <;> rfl
theorem PairR.keep {h h' : Heap} {T2 T2' : Nat → Option Nat} {b tb t0 : Nat} {ws : Nat → Sl} {w : Nat → List UInt8} (hp : PairR h T2 b tb t0 ws w) (he : ∀ k, T2 k = some tb ∨ T2 k = some t0 ∨ T2 k = some (t0 + 1) → k < h.size → h'[k]? = h[k]?) (hT : ∀ k, T2 k ≠ none → T2' k = T2 k) : PairR h' T2' b tb t0 ws w := by
  refine ⟨?_, by rw [hT b (by rw [hp.tag]; simp)]; exact hp.tag, fun e he2 => ?_⟩
  · rw [he b (.inl hp.tag) (blk_lt hp.cells)]; exact hp.cells
  · refine ((hp.row e he2).congr fun k hk hl => he k ?_ hl).tags hT
    rcases two e he2 with rfl | rfl
    · exact .inr (.inl hk)
    · exact .inr (.inr hk)

/-- one of the two rows grows -/
theorem PairR.app {h : Heap} {T2 : Nat → Option Nat} {b tb t0 : Nat} {ws : Nat → Sl} {w : Nat → List UInt8} (hp : PairR h T2 b tb t0 ws w) (hlt : ∀ k, T2 k ≠ none → k < h.size) (htb : tb < t0) {j : Nat} (hj : j < 2) {e : Int} (he : e = (j : Int)) {l : List UInt8} {n : Nat} (hn : n = l.length) (hb : (w j).length + l.length ≤ 1099511627776) {K : Heap → Prop}
    (hfin : ∀ h3 T2' ws', PairR h3 T2' b tb t0 ws' (fun i => if i = j then w j ++ l else w i) → Upd (fun k => T2 k = some tb ∨ T2 k = some (t0 + j)) h h3 → (∀ k, T2 k ≠ none → T2' k = T2 k) → (∀ k, T2' k ≠ none → T2 k ≠ none ∨ h.size ≤ k) → (∀ k, T2' k ≠ none → k < h3.size) → K h3) :
    Fw.app 5 1 1 [Value.int .u8 0] (ws j) n (l.map bv) h fun x h2 => idxN 2 e fun j => st h2 b (0 + j * 1) (slV x) K := by
  have hr := hp.row j hj
  have hbl := Own.blen_ hr.own
  subst hn
  refine Own.app hr.own (by simp) (bv_one _) rfl (by omega) (by omega) (Nat.zero_le _) fun x h2 ho hl hu hblk => idxN_ he hj ?_
  rw [← List.map_append] at ho
  have hT0 : ∀ k, h.size ≤ k → T2 k = none := fun k hk => none_new hlt hk
  have hu' := Upd.of_blk hr hu
  have hnew : ∀ k, x.blk = some k → T2 k = some (t0 + j) ∨ h.size ≤ k := fun k hk => by
    rcases hblk with e1 | e1
    · rw [e1] at hk; exact .inl (hr.tag k hk)
    · rw [e1] at hk; exact .inr (Nat.le_of_eq (Option.some.inj hk))
  have hbl2 := blk_lt hp.cells
  have hc2 : h2[b]? = some (.cells #[slV (ws 0), slV (ws 1)] 31 (0, 0)) := by
    rw [hu'.old b hbl2 (by rw [hp.tag]; simp only [Option.some.injEq]; omega)]; exact hp.cells
  have z2 := hu.size
  refine put2 hc2 (by simp; omega) rfl fun h3 c3 u3 z3 => ?_
  have hT' : ∀ k, T2 k ≠ none → (if x.blk = some k then some (t0 + j) else T2 k) = T2 k := fun k hk => by
    split
    · rename_i hx1
      rcases hnew k hx1 with h9 | h9
      · exact h9.symm
      · exact absurd (hT0 k h9) hk
    · rfl
  have nb : ∀ {k t : Nat}, T2 k = some t → t ≠ tb → k ≠ b := fun {k t} hk ht he => by
    subst he
    rw [hp.tag] at hk
    exact ht (Option.some.inj hk).symm
  refine hfin h3 (fun k => if x.blk = some k then some (t0 + j) else T2 k) (fun i => if i = j then x else ws i) ⟨?_, by show (if _ then _ else _) = _; rw [hT' b (by rw [hp.tag]; simp)]; exact hp.tag, fun i hi => ?_⟩
    (Upd.then (hu'.mono fun k _ hk => .inr hk) u3 fun k _ hk => by subst hk; exact .inl hp.tag) hT' (fun k hk => ?_) fun k hk => ?_
  · rw [c3]
    rcases two j hj with rfl | rfl <;> rfl
  · by_cases hij : i = j
    · subst hij
      simp only [if_true]
      refine ⟨ho.congr fun k hk hl _ => u3.old k hl ?_, fun k hk => by simp only [hk, if_true]⟩
      rcases hnew k hk with h9 | h9
      · exact nb h9 (by omega)
      · omega
    · simp only [hij, if_false]
      have hri := hp.row i hi
      refine (hri.congr fun k hk hl => (u3.old k (by omega) (nb hk (by omega))).trans (hu'.old k hl (by rw [hk]; simp only [Option.some.injEq]; omega))).tags hT'
  · by_cases hx1 : x.blk = some k
    · rcases hnew k hx1 with h9 | h9
      · exact .inl (by rw [h9]; simp)
      · exact .inr h9
    · simp only [hx1, if_false] at hk
      exact .inl hk
  · by_cases hx1 : x.blk = some k
    · have := (ho.lt hx1).2; omega
    · simp only [hx1, if_false] at hk
      have := hlt k hk; omega

/-! ### all of it -/
structure OrdC (h0 h : Heap) (nb b14 b16 b18 : Nat) (T T2 : Nat → Option Nat) (ps : Int → Bool) (A B : Cn) (ws rs : Nat → Sl) (w r : Nat → List UInt8) (m : Nat → Int) : Prop where
  net : Net h T nb ps [A, B]
  pw : PairR h T2 b14 10 13 ws w
  pr : PairR h T2 b16 11 15 rs r
  cm : h[b18]? = some (.cells #[iv (m 0), iv (m 1)] 32 (0, 0))
  tm : T2 b18 = some 12
  lt : ∀ k, T2 k ≠ none → k < h.size
  dis : ∀ k, T2 k ≠ none → T k = none
  low : ∀ k, T2 k ≠ none ∨ T k ≠ none → h0.size ≤ k
  ext : Ext h0 h

theorem OrdC.upd {h0 h h' : Heap} {nb b14 b16 b18 : Nat} {T T2 : Nat → Option Nat} {ps : Int → Bool} {A B : Cn} {ws rs : Nat → Sl} {w r : Nat → List UInt8} {m : Nat → Int} (hO : OrdC h0 h nb b14 b16 b18 T T2 ps A B ws rs w r m) (e : Ext h h') : OrdC h0 h' nb b14 b16 b18 T T2 ps A B ws rs w r m :=
  ⟨hO.net.ext e, hO.pw.keep (fun k _ hl => e.old k hl) fun _ _ => rfl, hO.pr.keep (fun k _ hl => e.old k hl) fun _ _ => rfl, keepE hO.cm e, hO.tm, fun k hk => Nat.lt_of_lt_of_le (hO.lt k hk) e.size, hO.dis, hO.low, hO.ext.trans e⟩

theorem OrdC.step {h0 h h' : Heap} {nb b14 b16 b18 : Nat} {T T' T2 : Nat → Option Nat} {ps : Int → Bool} {A B A' B' : Cn} {ws rs : Nat → Sl} {w r : Nat → List UInt8} {m : Nat → Int} (hO : OrdC h0 h nb b14 b16 b18 T T2 ps A B ws rs w r m)
    (hn : Net h' T' nb ps [A', B']) (st : Stp T T' h h') : OrdC h0 h' nb b14 b16 b18 T' T2 ps A' B' ws rs w r m := by
  have old : ∀ k, T2 k ≠ none → k < h.size → h'[k]? = h[k]? := fun k hk hl => st.upd.old k hl fun h9 => h9 (hO.dis k hk)
  refine ⟨hn, hO.pw.keep (fun k hk hl => old k ?_ hl) fun _ _ => rfl, hO.pr.keep (fun k hk hl => old k ?_ hl) fun _ _ => rfl, ?_, hO.tm, fun k hk => Nat.lt_of_lt_of_le (hO.lt k hk) st.upd.size, fun k hk => ?_, fun k hk => ?_, st.ext hO.ext fun k hk => hO.low k (.inr hk)⟩
  · rcases hk with h9 | h9 | h9 <;> rw [h9] <;> simp
  · rcases hk with h9 | h9 | h9 <;> rw [h9] <;> simp
  · rw [old b18 (by rw [hO.tm]; simp) (blk_lt hO.cm)]; exact hO.cm
  · rcases hT : T' k with _ | t
    · rfl
    · have h1 := hO.lt k hk
      rcases st.new k (by rw [hT]; simp) with h9 | h9
      · exact absurd (hO.dis k hk) h9
      · omega
  · rcases hk with h9 | h9
    · exact hO.low k (.inl h9)
    · rcases st.new k h9 with h8 | h8
      · exact hO.low k (.inr h8)
      · have := hO.ext.size; omega

theorem OrdC.appW {h0 h : Heap} {nb b14 b16 b18 : Nat} {T T2 : Nat → Option Nat} {ps : Int → Bool} {A B : Cn} {ws rs : Nat → Sl} {w r : Nat → List UInt8} {m : Nat → Int} (hO : OrdC h0 h nb b14 b16 b18 T T2 ps A B ws rs w r m)
    {j : Nat} (hj : j < 2) {e : Int} (he : e = (j : Int)) {l : List UInt8} {n : Nat} (hn : n = l.length) (hb : (w j).length + l.length ≤ 1099511627776) {K : Heap → Prop}
    (hk : ∀ h3 T2' ws', OrdC h0 h3 nb b14 b16 b18 T T2' ps A B ws' rs (fun i => if i = j then w j ++ l else w i) r m → K h3) :
    Fw.app 5 1 1 [Value.int .u8 0] (ws j) n (l.map bv) h fun x h2 => idxN 2 e fun j => st h2 b14 (0 + j * 1) (slV x) K := by
  refine hO.pw.app hO.lt (by decide) hj he hn hb fun h3 T2' ws' hp hu hT hnew hlt => hk h3 T2' ws' ⟨hO.net.upd hu fun k hl hS => ?_, hp, hO.pr.keep (fun k hk hl => hu.old k hl ?_) hT, ?_, by rw [hT b18 (by rw [hO.tm]; simp)]; exact hO.tm, hlt, fun k hk => ?_, fun k hk => ?_, ?_⟩
  · exact hO.dis k (by rcases hS with h9 | h9 <;> rw [h9] <;> simp)
  · rintro (h9 | h9) <;> rcases hk with h8 | h8 | h8 <;> rw [h8] at h9 <;> have := Option.some.inj h9 <;> omega
  · rw [hu.old b18 (blk_lt hO.cm) (by rw [hO.tm]; simp only [Option.some.injEq]; omega)]; exact hO.cm
  · rcases hnew k hk with h9 | h9
    · exact hO.dis k h9
    · exact none_new hO.net.lt h9
  · rcases hk with h9 | h9
    · rcases hnew k h9 with h8 | h8
      · exact hO.low k (.inl h8)
      · have := hO.ext.size; omega
    · exact hO.low k (.inr h9)
  · exact hO.ext.then hu fun k hS => hO.low k (.inl (by rcases hS with h9 | h9 <;> rw [h9] <;> simp))

theorem OrdC.appR {h0 h : Heap} {nb b14 b16 b18 : Nat} {T T2 : Nat → Option Nat} {ps : Int → Bool} {A B : Cn} {ws rs : Nat → Sl} {w r : Nat → List UInt8} {m : Nat → Int} (hO : OrdC h0 h nb b14 b16 b18 T T2 ps A B ws rs w r m)
    {j : Nat} (hj : j < 2) {e : Int} (he : e = (j : Int)) {l : List UInt8} {n : Nat} (hn : n = l.length) (hb : (r j).length + l.length ≤ 1099511627776) {K : Heap → Prop}
    (hk : ∀ h3 T2' rs', OrdC h0 h3 nb b14 b16 b18 T T2' ps A B ws rs' w (fun i => if i = j then r j ++ l else r i) m → K h3) :
    Fw.app 5 1 1 [Value.int .u8 0] (rs j) n (l.map bv) h fun x h2 => idxN 2 e fun j => st h2 b16 (0 + j * 1) (slV x) K := by
  refine hO.pr.app hO.lt (by decide) hj he hn hb fun h3 T2' ws' hp hu hT hnew hlt => hk h3 T2' ws' ⟨hO.net.upd hu fun k hl hS => ?_, hO.pw.keep (fun k hk hl => hu.old k hl ?_) hT, hp, ?_, by rw [hT b18 (by rw [hO.tm]; simp)]; exact hO.tm, hlt, fun k hk => ?_, fun k hk => ?_, ?_⟩
  · exact hO.dis k (by rcases hS with h9 | h9 <;> rw [h9] <;> simp)
  · rintro (h9 | h9) <;> rcases hk with h8 | h8 | h8 <;> rw [h8] at h9 <;> have := Option.some.inj h9 <;> omega
  · rw [hu.old b18 (blk_lt hO.cm) (by rw [hO.tm]; simp only [Option.some.injEq]; omega)]; exact hO.cm
  · rcases hnew k hk with h9 | h9
    · exact hO.dis k h9
    · exact none_new hO.net.lt h9
  · rcases hk with h9 | h9
    · rcases hnew k h9 with h8 | h8
      · exact hO.low k (.inl h8)
      · have := hO.ext.size; omega
    · exact hO.low k (.inr h9)
  · exact hO.ext.then hu fun k hS => hO.low k (.inl (by rcases hS with h9 | h9 <;> rw [h9] <;> simp))

theorem OrdC.cellM {h0 h : Heap} {nb b14 b16 b18 : Nat} {T T2 : Nat → Option Nat} {ps : Int → Bool} {A B : Cn} {ws rs : Nat → Sl} {w r : Nat → List UInt8} {m : Nat → Int} (hO : OrdC h0 h nb b14 b16 b18 T T2 ps A B ws rs w r m) {j : Nat} (hj : j < 2) : h.cell b18 (0 + j * 1) = some (iv (m j)) := by
  rw [cell_block hO.cm]
  rcases two j hj with rfl | rfl <;> rfl
theorem OrdC.stM {h0 h : Heap} {nb b14 b16 b18 : Nat} {T T2 : Nat → Option Nat} {ps : Int → Bool} {A B : Cn} {ws rs : Nat → Sl} {w r : Nat → List UInt8} {m : Nat → Int} (hO : OrdC h0 h nb b14 b16 b18 T T2 ps A B ws rs w r m)
    {j : Nat} (hj : j < 2) {x : Int} {K : Heap → Prop} (hfin : ∀ h3, OrdC h0 h3 nb b14 b16 b18 T T2 ps A B ws rs w r (fun i => if i = j then x else m i) → Upd (· = b18) h h3 → K h3) : st h b18 (0 + j * 1) (iv x) K := by
  refine put2 hO.cm (by simp; omega) rfl fun h3 c3 u3 z3 => hfin h3 ⟨hO.net.upd u3 fun k _ hk => ?_, hO.pw.keep (fun k hk hl => u3.old k hl ?_) fun _ _ => rfl, hO.pr.keep (fun k hk hl => u3.old k hl ?_) fun _ _ => rfl, ?_, hO.tm, fun k hk => by have := hO.lt k hk; omega, hO.dis, hO.low, hO.ext.then u3 fun k hk => ?_⟩ u3
  · subst hk; exact hO.dis _ (by rw [hO.tm]; simp)
  · rintro rfl; rcases hk with h8 | h8 | h8 <;> rw [hO.tm] at h8 <;> have := Option.some.inj h8 <;> omega
  · rintro rfl; rcases hk with h8 | h8 | h8 <;> rw [hO.tm] at h8 <;> have := Option.some.inj h8 <;> omega
  · rw [c3]
    rcases two j hj with rfl | rfl <;> rfl
  · subst hk; exact hO.low _ (.inl (by rw [hO.tm]; simp))

end Go.Proofs.Ytgkgheaanfgecaa
