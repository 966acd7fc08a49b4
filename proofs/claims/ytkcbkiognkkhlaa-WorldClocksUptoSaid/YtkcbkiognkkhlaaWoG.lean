/- Numbers handed in and kept; WorldClocks' law, on its model. -/
import Derived.Test.YtkcbkiognkkhlaaWoF
namespace Go.Proofs.Ytkcbkiognkkhlaa
open Go Go.Fw

def patI : List Value := (List.range 9).map fun (j : Nat) => iv (-700 - (j : Int))
/-- numbers in a block of their own, with the room's pattern behind them -/
structure HandedI (h : Heap) (base : Nat) (s : Sl) (l : List Int) : Prop where
  at_ : ∃ b e, s = ⟨some ⟨b, 0, none⟩, l.length, l.length + 9⟩ ∧ base ≤ b ∧ h[b]? = some (.cells (l.map iv ++ patI).toArray e (0, 0)) ∧ l.length + 9 < 9223372036854775808
theorem HandedI.whole {h : Heap} {base : Nat} {s : Sl} {l : List Int} (hs : HandedI h base s l) : Row h ⟨s.ptr, l.length + 9, s.cap⟩ 1 (l.map iv ++ patI) := by
  obtain ⟨b, e, rfl, _, hb, hl⟩ := hs.at_
  refine ⟨by simp [patI], Nat.le_refl _, hl, .inr ⟨b, 0, rfl, has_block hb fun i v hi => ?_⟩⟩
  simpa using hi
theorem HandedI.ints {h : Heap} {base : Nat} {s : Sl} {l : List Int} (hs : HandedI h base s l) : Ints h s l := by
  obtain ⟨b, e, rfl, _, hb, hl⟩ := hs.at_
  refine ⟨by simp, by simp, hl, .inr ⟨b, 0, rfl, has_block hb fun i v hi => ?_⟩⟩
  have hlt : i < (l.map iv).length := by
    rcases Nat.lt_or_ge i (l.map iv).length with h | h
    · exact h
    · rw [List.getElem?_eq_none h] at hi; cases hi
  simp only [Nat.zero_add, List.getElem?_toArray]
  rw [List.getElem?_append_left hlt]
  exact hi
theorem HandedI.lt {h : Heap} {base : Nat} {s : Sl} {l : List Int} (hs : HandedI h base s l) {k : Nat} (hk : s.blk = some k) : base ≤ k ∧ k < h.size := by
  obtain ⟨b, e, rfl, h1, hb, hl⟩ := hs.at_
  simp [Sl.blk] at hk
  subst hk
  refine ⟨h1, ?_⟩
  rcases Nat.lt_or_ge b h.size with hl | hl
  · exact hl
  · rw [Array.getElem?_eq_none hl] at hb; cases hb
theorem HandedI.congr {h h' : Heap} {base : Nat} {s : Sl} {l : List Int} (hs : HandedI h base s l) (he : ∀ k, s.blk = some k → k < h.size → h'[k]? = h[k]?) : HandedI h' base s l := by
  have hlt := fun k hk => (hs.lt (k := k) hk).2
  obtain ⟨b, e, rfl, h1, hb, hl⟩ := hs.at_
  have hblk : Sl.blk ⟨some ⟨b, 0, none⟩, l.length, l.length + 9⟩ = some b := rfl
  exact ⟨b, e, rfl, h1, by rw [he b hblk (hlt b hblk)]; exact hb, hl⟩

theorem take_setI (c : Array Value) (k : Nat) (v : Value) (hk : k < c.size) : (c.setIfInBounds k v).toList.take (k + 1) = c.toList.take k ++ [v] := by
  rw [Array.toList_setIfInBounds, List.take_succ_eq_append_getElem (by simpa using hk), List.take_set_of_le (Nat.le_refl _)]
  simp

theorem HandI_spec {b : Sl} {l : List Int} {h : Heap} {K : Sl → Heap → Prop} (hb : Ints h b l) (hsz : l.length ≤ 1073741824)
    (hk : ∀ s h', HandedI h' h.size s l → Ext h h' → K s h') : m_spillwaymem_HandInts b K h := by
  unfold m_spillwaymem_HandInts g_spillwaymem_HandInts
  have hlen := hb.length
  rw [wrap64 (n := (b.len : Int) + 9) (by omega) (by omega)]
  refine ⟨by omega, Int.le_refl _, by omega, by omega, bindI_intro ?_⟩
  have hn : ((b.len : Int) + 9).toNat = l.length + 9 := by omega
  rw [hn]
  have hext1 := Ext.push h (.cells (zerosL [Value.int .i64 0] (l.length + 9)).toArray 3)
  refine loopM_intro (fun s h' => ∃ (k : Nat) (c : Array Value), s.1 = (k : Int) ∧ k ≤ l.length ∧ Ext h h' ∧ h'[h.size]? = some (.cells c 3 (0, 0)) ∧ c.size = l.length + 9 ∧ c.toList.take k = (l.map iv).take k) (fun s _ => l.length - s.1.toNat)
    ⟨0, _, rfl, Nat.zero_le _, hext1, push_new, by simp [zerosL_length'], by simp⟩ ?_
  rintro ⟨i, u⟩ h' ⟨k, c, hi, hkl, hext, hblk, hcs, hct⟩
  dsimp only at hi
  subst hi
  dsimp only
  refine iteP_dec (fun hlt => ?_) (fun hge => bindI_intro ?_)
  · have hk1 : k < l.length := by omega
    refine Ints.idx (hb.ext hext) rfl (List.getElem?_eq_getElem hk1) ?_
    refine ⟨h.size, 0, rfl, by omega, by omega, ?_⟩
    have e0 : 0 + (k : Int).toNat * 1 = k := by omega
    rw [e0]
    refine put2 hblk (by omega) rfl fun h2 c2 u2 z2 => bindI_intro ?_
    rw [wrap64 (n := (k : Int) + 1) (by omega) (by omega)]
    refine ⟨⟨k + 1, _, rfl, by omega, hext.then u2 fun j hj => by omega, c2, by simpa using hcs, ?_⟩, by omega⟩
    rw [take_setI _ _ _ (by omega), hct, List.take_succ_eq_append_getElem (l := l.map iv) (by simpa using hk1)]
    simp
  · have hkl' : k = l.length := by omega
    subst hkl'
    refine loopM_intro (fun s h' => ∃ (k : Nat) (c : Array Value), s.1 = (k : Int) ∧ l.length ≤ k ∧ k ≤ l.length + 9 ∧ Ext h h' ∧ h'[h.size]? = some (.cells c 3 (0, 0)) ∧ c.size = l.length + 9 ∧ c.toList.take k = (l.map iv ++ patI).take k) (fun s _ => l.length + 9 - s.1.toNat)
      ⟨l.length, c, by rw [hlen], Nat.le_refl _, by omega, hext, hblk, hcs, by rw [hct, List.take_append_of_le_length (by simp)]⟩ ?_
    rintro ⟨i, u⟩ h2 ⟨k, c2, hi, hlk, hk9, hext2, hblk2, hcs2, hct2⟩
    dsimp only at hi
    subst hi
    dsimp only
    refine iteP_dec (fun hlt => ?_) (fun hge => ?_)
    · refine ⟨h.size, 0, rfl, by omega, by omega, ?_⟩
      have e0 : 0 + (k : Int).toNat * 1 = k := by omega
      rw [e0]
      rw [wrap64 (n := (-700 : Int) - (k : Int)) (by omega) (by omega), wrap64 (n := (-700 : Int) - (k : Int) + (b.len : Int)) (by omega) (by omega)]
      have ev : (-700 : Int) - (k : Int) + (b.len : Int) = -700 - ((k - l.length : Nat) : Int) := by omega
      rw [ev]
      refine put2 hblk2 (by omega) rfl fun h3 c3 u3 z3 => bindI_intro ?_
      rw [wrap64 (n := (k : Int) + 1) (by omega) (by omega)]
      refine ⟨⟨k + 1, _, rfl, by omega, by omega, hext2.then u3 fun j hj => by omega, c3, by simpa using hcs2, ?_⟩, by omega⟩
      rw [take_setI _ _ _ (by omega), hct2, List.take_succ_eq_append_getElem (l := l.map iv ++ patI) (by simp [patI]; omega)]
      congr 2
      rw [List.getElem_append_right (by simp; omega)]
      simp [patI]
    · have hk' : k = l.length + 9 := by omega
      have hcl : c2 = (l.map iv ++ patI).toArray := by
        have e1 : c2.toList.take k = c2.toList := List.take_of_length_le (by simp; omega)
        have e2 : (l.map iv ++ patI).take k = l.map iv ++ patI := List.take_of_length_le (by simp [patI]; omega)
        rw [e1, e2] at hct2
        rw [← hct2]
      subst hcl
      refine ⟨by omega, by omega, by omega, by omega, ?_⟩
      refine hk _ h2 ⟨h.size, 3, ?_, Nat.le_refl _, hblk2, by omega⟩ hext2
      have e1 : ((b.len : Int) - 0).toNat = l.length := by omega
      have e2 : (((l.length + 9 : Nat) : Int) - 0).toNat = l.length + 9 := by omega
      simp [slPtr, Addr.add, hlen]
      omega

theorem KeptI_spec {a t : Sl} {l : List Int} {base : Nat} {h : Heap} {K : Bool → Heap → Prop} (ha : HandedI h base a l) (ht : Ints h t l) (hsz : l.length ≤ 1099511627776) (hk : K true h) : m_spillwaymem_KeptInts a t K h := by
  unfold m_spillwaymem_KeptInts g_spillwaymem_KeptInts
  have hlen := ht.length
  refine SameInts_spec ha.ints ht ?_
  rw [decide_eq_true (rfl : l = l)]
  refine iteP_false ?_
  rw [wrap64 (n := (t.len : Int) + 9) (by omega) (by omega)]
  have hw := ha.whole
  have hc := hw.cap
  refine Row.slc hw (a := 0) (b := l.length + 9) (m := a.cap) rfl (by omega) rfl (by omega) (Nat.le_refl _) hc (Nat.le_refl _) ?_
  intro s hs hsl _ _
  have e : ((l.map iv ++ patI).drop 0).take (l.length + 9 - 0) = l.map iv ++ patI := by rw [List.drop_zero, List.take_of_length_le (by simp [patI])]
  rw [e] at hs
  refine bindI_intro (loopM_intro (fun s h' => h' = h ∧ ∃ k : Nat, s.1 = (k : Int) ∧ l.length ≤ k ∧ k ≤ l.length + 9) (fun s _ => l.length + 9 - s.1.toNat) ⟨rfl, l.length, by rw [hlen], Nat.le_refl _, by omega⟩ ?_)
  rintro ⟨i, u⟩ h' ⟨rfl, k, hi, hlk, hk9⟩
  dsimp only at hi
  subst hi
  dsimp only
  refine iteP_dec (fun hlt => ?_) (fun hge => hk)
  have hx : (l.map iv ++ patI)[k]? = some (iv (-700 - ((k - l.length : Nat) : Int))) := by
    rw [List.getElem?_append_right (by simp; omega)]
    simp only [patI, List.length_map, List.getElem?_map]
    rw [List.getElem?_eq_getElem (by simp; omega)]
    simp
  refine Row.idx hs rfl hx fun bb o _ hc => ⟨_, hc, ?_⟩
  rw [wrap64 (n := (-700 : Int) - (k : Int)) (by omega) (by omega), wrap64 (n := (-700 : Int) - (k : Int) + (t.len : Int)) (by omega) (by omega)]
  have ev : (-700 : Int) - (k : Int) + (t.len : Int) = -700 - ((k - l.length : Nat) : Int) := by omega
  rw [ev]
  refine iteP_neg (by simp) (bindI_intro ?_)
  rw [wrap64 (n := (k : Int) + 1) (by omega) (by omega)]
  exact ⟨⟨rfl, k + 1, rfl, by omega, by omega⟩, by omega⟩

/-! ### deeds -/
abbrev Deed := Int × Int × List Int
structure Deeds (h : Heap) (s : Sl) (ds : List Deed) : Prop where
  len : s.len = ds.length
  at_ : ∀ (i : Nat) (d : Deed), ds[i]? = some d → ∃ b o sl, s.ptr = some ⟨b, o, none⟩ ∧ h.has b (o + i * 3) [iv d.1, iv d.2.1, slV sl] ∧ Ints h sl d.2.2
def bulkD (ds : List Deed) : Nat := (ds.map fun d => d.2.2.length + 1).sum
theorem Deeds.ext {h h' : Heap} {s : Sl} {ds : List Deed} (hr : Deeds h s ds) (he : Ext h h') : Deeds h' s ds :=
  ⟨hr.len, fun i d hi => by
    obtain ⟨b, o, sl, hp, hh, hl⟩ := hr.at_ i d hi
    exact ⟨b, o, sl, hp, has_congr (he.old b (has_lt hh (by simp))) hh, hl.ext he⟩⟩
theorem Deeds.idx {h : Heap} {s : Sl} {ds : List Deed} (hr : Deeds h s ds) {i : Int} {n : Nat} (hi : i = n) {d : Deed} (hx : ds[n]? = some d) {K : Nat → Nat → Prop} (hk : ∀ b o sl, h.has b o [iv d.1, iv d.2.1, slV sl] → Ints h sl d.2.2 → K b o) : idxA s.ptr s.len i 3 K := by
  obtain ⟨b, o, sl, hp, hh, hl⟩ := hr.at_ n d hx
  have hlt : n < ds.length := by
    rcases Nat.lt_or_ge n ds.length with h9 | h9
    · exact h9
    · rw [List.getElem?_eq_none h9] at hx; cases hx
  have hll := hr.len
  subst hi
  exact ⟨b, o, hp, by omega, by omega, by rw [Int.toNat_natCast]; exact hk b _ sl hh hl⟩
theorem bulkD_mem {ds : List Deed} {n : Nat} {d : Deed} (h : ds[n]? = some d) : d.2.2.length + 1 ≤ bulkD ds := by
  induction ds generalizing n with
  | nil => simp at h
  | cons x r ih =>
    cases n with
    | zero => simp at h; subst h; simp [bulkD]
    | succ n =>
      have := ih (by simpa using h)
      simp only [bulkD, List.map_cons, List.sum_cons] at this ⊢
      omega
theorem bulkD_len : ∀ (ds : List Deed), ds.length ≤ bulkD ds
  | [] => by simp [bulkD]
  | x :: r => by
    have := bulkD_len r
    simp only [bulkD, List.map_cons, List.sum_cons, List.length_cons] at this ⊢
    omega

/-! ### the law -/
abbrev ptrV (b : Nat) : Value := .pointer (some ⟨b, 0, none⟩)
structure CkI (h0 : Heap) (R : Nat) (h : Heap) (C : Nat) (at_ : Int) (old were : Sl) (bs : List Nat) (ws : List Int) : Prop where
  ext : Ext h0 h
  c : IsC 99 h C at_
  r : IsC 45 h R at_
  rng : 0 ≤ at_ ∧ at_ ≤ 1152921504606846976
  cb : h0.size ≤ C
  rb : h0.size ≤ R
  ne : C ≠ R
  len : bs.length = ws.length
  six : bs.length ≤ 6
  own1 : Own h h0.size old 1 (bs.map ptrV)
  own2 : Own h h0.size were 1 (ws.map iv)
  each : ∀ (i B : Nat) (a : Int), bs[i]? = some B → ws[i]? = some a → IsC 99 h B a ∧ B ≠ C ∧ B ≠ R
  ap1 : ∀ k, old.blk = some k → k ≠ C ∧ k ≠ R ∧ k ∉ bs ∧ were.blk ≠ some k
  ap2 : ∀ k, were.blk = some k → k ≠ C ∧ k ≠ R ∧ k ∉ bs

theorem isC_lt {T : TypeId} {h : Heap} {b : Nat} {a : Int} (hc : IsC T h b a) : b < h.size := by
  rcases Nat.lt_or_ge b h.size with hl | hl
  · exact hl
  · unfold IsC at hc; rw [Array.getElem?_eq_none hl] at hc; cases hc

theorem CkI.step {h0 : Heap} {R : Nat} {h h' : Heap} {C : Nat} {at_ at' : Int} {old were : Sl} {bs : List Nat} {ws : List Int} (hI : CkI h0 R h C at_ old were bs ws) (hu : Upd (fun k => k = C ∨ k = R) h h') (hc : IsC 99 h' C at') (hr : IsC 45 h' R at') (hg : 0 ≤ at' ∧ at' ≤ 1152921504606846976) :
    CkI h0 R h' C at' old were bs ws where
  ext := hI.ext.then hu fun k hk => by have := hI.cb; have := hI.rb; omega
  c := hc
  r := hr
  rng := hg
  cb := hI.cb
  rb := hI.rb
  ne := hI.ne
  len := hI.len
  six := hI.six
  own1 := hI.own1.congr fun k hk hl _ => hu.old k hl fun he => by have := hI.ap1 k hk; omega
  own2 := hI.own2.congr fun k hk hl _ => hu.old k hl fun he => by have := hI.ap2 k hk; omega
  each i B a h1 h2 := by
    obtain ⟨g1, g2, g3⟩ := hI.each i B a h1 h2
    exact ⟨(hu.old B (isC_lt g1) (by omega)).trans g1, g2, g3⟩
  ap1 := hI.ap1
  ap2 := hI.ap2
theorem CkI.grow {h0 : Heap} {R : Nat} {h h' : Heap} {C : Nat} {at_ : Int} {old were : Sl} {bs : List Nat} {ws : List Int} (hI : CkI h0 R h C at_ old were bs ws) (he : Ext h h') : CkI h0 R h' C at_ old were bs ws :=
  hI.step (he.upd _) (keepE hI.c he) (keepE hI.r he) hI.rng

theorem WorldClocks_true {at_ : Int} {s : Sl} {ds : List Deed} {h : Heap} {K : Bool → Heap → Prop} (hd : Deeds h s ds) (hn : bulkD ds ≤ 1048576) (hk : ∀ h', Ext h h' → K true h') : m_spillwaylaw02_WorldClocks at_ s K h := by
  unfold m_spillwaylaw02_WorldClocks g_spillwaylaw02_WorldClocks
  have hdl := bulkD_len ds
  have hlen := hd.len
  cases htm : tmB at_ with
  | false =>
    refine NewClock_spec (fun e => by rw [htm] at e; cases e) (fun _ => bindI_intro ?_)
    refine RNewClock_spec (fun e => by rw [htm] at e; cases e) (fun _ => bindI_intro ?_)
    exact live_spec fun h7 e7 => iteP_false (iteP_neg rfl (iteP_neg rfl (iteP_pos rfl (hk h7 e7))))
  | true =>
    refine NewClock_spec (fun _ h2 c2 e2 z2 => bindI_intro ?_) (fun e => by rw [htm] at e; cases e)
    refine RNewClock_spec (fun _ h5 c5 e5 z5 => bindI_intro ?_) (fun e => by rw [htm] at e; cases e)
    refine live_spec fun h7 e7 => iteP_false (iteP_neg rfl (iteP_neg rfl (iteP_neg rfl (bindI_intro ?_))))
    have x7 := (e2.trans e5).trans e7
    have hrng := tmB_iff.1 htm
    have hI0 : CkI h h2.size h7 h.size at_ ⟨none, 0, 0⟩ ⟨none, 0, 0⟩ [] [] := ⟨x7, keepE (keepE c2 e5) e7, keepE c5 e7, hrng, Nat.le_refl _, by omega, by omega, rfl, by simp, Own.nil _ _ 1, Own.nil _ _ 1, by simp, by simp [Sl.blk], by simp [Sl.blk]⟩
    refine loopM_intro (fun p h' => ∃ (k C : Nat) (a : Int) (bs : List Nat) (ws : List Int), p.1 = some ⟨C, 0, none⟩ ∧ p.2.2.2.1 = (k : Int) ∧ k ≤ ds.length ∧ CkI h h2.size h' C a p.2.1 p.2.2.1 bs ws) (fun p _ => ds.length - p.2.2.2.1.toNat)
      ⟨0, h.size, at_, [], [], rfl, rfl, Nat.zero_le _, hI0⟩ ?_
    clear hI0
    rintro ⟨c, old, were, i, u⟩ h10 ⟨k, C, a, bs, ws, hc, hi, hkl, hI⟩
    dsimp only at hc hi hI
    subst hc hi
    dsimp only
    refine iteP_dec (fun hlt => ?_) (fun hge => bindI_intro ?_)
    · have hk1 : k < ds.length := by omega
      have hx : ds[k]? = some ds[k] := List.getElem?_eq_getElem hk1
      generalize ds[k] = d at hx
      have hdb := bulkD_mem hx
      have get : ∀ {h' : Heap} {K' : Nat → Nat → Prop}, Ext h h' → (∀ b o sl, h'.has b o [iv d.1, iv d.2.1, slV sl] → Ints h' sl d.2.2 → K' b o) → idxA s.ptr s.len (k : Int) 3 K' := fun {h' K'} he hK => Deeds.idx (hd.ext he) rfl hx hK
      refine get hI.ext fun b o sl hh hsl => ⟨sl, hh.2.2.1, ?_⟩
      refine HandI_spec hsl (by omega) fun t h13 ht e13 => ?_
      have hI13 := hI.grow e13
      have htb : ∀ j, t.blk = some j → h10.size ≤ j := fun j hj => (ht.lt hj).1
      have hCl := isC_lt hI.c
      have hRl := isC_lt hI.r
      -- behind the deed
      refine cutP_intro (fun p h' => ∃ (C' : Nat) (a' : Int) (bs' : List Nat) (ws' : List Int), p.1 = some ⟨C', 0, none⟩ ∧ CkI h h2.size h' C' a' p.2.1 p.2.2.1 bs' ws' ∧ HandedI h' h10.size t d.2.2) ?_ ?_
      · rintro ⟨c, old', were', u⟩ h59 ⟨C', a', bs', ws', hc, hI', ht'⟩
        dsimp only at hc hI' ⊢
        subst hc
        refine deref_ (ldIk hI'.r rfl (Now_spec hI'.c ⟨⟨(cell_block hI'.r).trans rfl, trivial⟩, iteP_neg (by simp) ?_⟩))
        refine get hI'.ext fun b o sl hh hsl => ⟨sl, hh.2.2.1, ?_⟩
        refine KeptI_spec ht' hsl (by omega) ⟨⟨(cell_block hI'.r).trans rfl, trivial⟩, iteP_false (bindI_intro ?_)⟩
        rw [wrap64 (n := (k : Int) + 1) (by omega) (by omega)]
        exact ⟨⟨k + 1, C', a', bs', ws', rfl, by omega, by omega, hI'⟩, by omega⟩
      · have keepT : ∀ {h' : Heap}, Upd (fun k => k = C ∨ k = h2.size) h13 h' → HandedI h' h10.size t d.2.2 := fun {h'} hu => ht.congr fun j hj hl => hu.old j hl (by have := htb j hj; omega)
        have same : ∃ (C' : Nat) (a' : Int) (bs' : List Nat) (ws' : List Int), (some ⟨C, 0, none⟩ : Option Addr) = some ⟨C', 0, none⟩ ∧ CkI h h2.size h13 C' a' old were bs' ws' ∧ HandedI h13 h10.size t d.2.2 := ⟨C, a, bs, ws, rfl, hI13, ht⟩
        refine get hI13.ext fun b o sl hh hsl => ⟨_, hh.1, bindB_intro ⟨fun _ => ?_, fun _ => bindB_intro ⟨fun _ => ?_, fun _ => bindB_intro ⟨fun _ => ?_, fun _ => same⟩⟩⟩⟩
        · -- ticks
          refine Tick_spec hI13.c hI13.rng ht.ints (fun a' hta ha' h21 c21 u21 z21 => bindI_intro (bindI_intro ?_)) (fun hta => bindI_intro (bindI_intro ?_))
          · have x21 : Ext h h21 := hI13.ext.then u21 fun j hj => by have := hI13.cb; omega
            refine get x21 fun b o sl hh hsl => ⟨sl, hh.2.2.1, ?_⟩
            have r21 : IsC 45 h21 h2.size a := keepB hI13.r u21 (Ne.symm hI13.ne)
            refine RTick_spec r21 hI13.rng hsl (fun a2 hta2 ha2 h27 c27 u27 z27 => bindI_intro (bindI_intro ?_)) (fun hta2 => by rw [hta] at hta2; cases hta2)
            rw [hta] at hta2
            cases hta2
            have hu : Upd (fun k => k = C ∨ k = h2.size) h13 h27 := (u21.mono fun k _ hk => .inl hk).trans (u27.mono fun k _ hk => .inr hk)
            exact iteP_neg (by simp) (iteP_neg (by simp) ⟨C, a', bs, ws, rfl, hI13.step hu (keepB c21 u27 hI13.ne) c27 ha', keepT hu⟩)
          · refine get hI13.ext fun b o sl hh hsl => ⟨sl, hh.2.2.1, ?_⟩
            refine RTick_spec hI13.r hI13.rng hsl (fun a2 hta2 _ _ _ _ _ => by rw [hta] at hta2; cases hta2) (fun _ => bindI_intro (bindI_intro ?_))
            exact iteP_neg (by simp) (iteP_neg (by simp) same)
        · -- sets
          refine Deeds.idx hd rfl hx fun b o sl hh hsl => Deeds.idx hd rfl hx fun b2 o2 sl2 hh2 hsl2 => ?_
          have f1 : ∀ h', Ext h h' → h'.cell b (o + 1) = some (iv d.2.1) := fun h' he => (cell_congr (he.old b (cell_lt hh.2.1)) _).trans hh.2.1
          have f2 : ∀ h', Ext h h' → h'.cell b2 (o2 + 1) = some (iv d.2.1) := fun h' he => (cell_congr (he.old b2 (cell_lt hh2.2.1)) _).trans hh2.2.1
          refine ⟨_, f1 h13 hI13.ext, _, f2 h13 hI13.ext, ?_⟩
          refine Set_spec hI13.c fun h37 c37 u37 z37 => ?_
          have x37 : Ext h h37 := hI13.ext.then u37 fun j hj => by have := hI13.cb; omega
          refine ⟨⟨f2 h37 x37, trivial⟩, ?_⟩
          refine RSet_spec (keepB hI13.r u37 (Ne.symm hI13.ne)) fun h39 c39 u39 z39 => iteP_neg (by simp) ?_
          have hu : Upd (fun k => k = C ∨ k = h2.size) h13 h39 := (u37.mono fun k _ hk => .inl hk).trans (u39.mono fun k _ hk => .inr hk)
          exact ⟨C, _, bs, ws, rfl, hI13.step hu (keepB c37 u39 hI13.ne) c39 (setS_range hI13.rng), keepT hu⟩
        · -- forks
          refine iteP_dec (fun hsix => ?_) (fun _ => same)
          have hol1 := hI13.own1.len
          have hol2 := hI13.own2.len
          simp only [List.length_map, Nat.mul_one] at hol1 hol2
          have hlen2 := hI13.len
          have w13 := hI13.ext.size
          refine newK fun h42 c42 e42 z42 => ?_
          have hrow : Row h42 ⟨some ⟨h13.size, 0, none⟩, 1, 1⟩ 1 [ptrV C] := ⟨rfl, Nat.le_refl _, (show 1 < 9223372036854775808 by decide), .inr ⟨h13.size, 0, rfl, has_block c42 fun i v hi => by simpa using hi⟩⟩
          refine hrow.rd ?_
          have own42 := hI13.own1.congr (h' := h42) fun k _ hl _ => e42.old k hl
          refine Own.app own42 rfl rfl rfl (by omega) (by omega) (by omega) fun old' h44 ho44 hl44 u44 hblk44 => ?_
          have w44 := u44.size
          have apt : ∀ {B : Nat}, B < h13.size → old.blk ≠ some B → h44[B]? = h13[B]? := fun {B} hB hne => (u44.old B (by omega) hne).trans (e42.old B hB)
          have r44 : IsC 45 h44 h2.size a := (apt (isC_lt hI13.r) fun he => (hI13.ap1 _ he).2.1 rfl).trans hI13.r
          refine deref_ (ldIk r44 rfl (newK fun h49 c49 e49 z49 => ?_))
          have hrow2 : Row h49 ⟨some ⟨h44.size, 0, none⟩, 1, 1⟩ 1 [iv a] := ⟨rfl, Nat.le_refl _, (show 1 < 9223372036854775808 by decide), .inr ⟨h44.size, 0, rfl, has_block c49 fun i v hi => by simpa using hi⟩⟩
          refine hrow2.rd ?_
          have own49 : Own h49 h.size were 1 (ws.map iv) := by
            refine hI13.own2.congr fun j hj hl _ => ?_
            rw [e49.old j (by omega)]
            exact apt hl fun he => (hI13.ap1 j he).2.2.2 hj
          refine Own.app own49 rfl rfl rfl (by omega) (by omega) (by omega) fun were' h51 ho51 hl51 u51 hblk51 => ?_
          have w51 := u51.size
          have apt2 : ∀ {B : Nat}, B < h13.size → old.blk ≠ some B → were.blk ≠ some B → h51[B]? = h13[B]? := fun {B} hB h1 h2 => ((u51.old B (by omega) h2).trans (e49.old B (by omega))).trans (apt hB h1)
          have c51 : IsC 99 h51 C a := (apt2 (isC_lt hI13.c) (fun he => (hI13.ap1 _ he).1 rfl) (fun he => (hI13.ap2 _ he).1 rfl)).trans hI13.c
          refine CFork_spec c51 fun h54 c54 e54 z54 => ?_
          have hCl13 := isC_lt hI13.c
          have hRl13 := isC_lt hI13.r
          -- the blocks of the two rows now
          have b1 : ∀ j, old'.blk = some j → (old.blk = some j ∧ j < h13.size) ∨ j = h42.size := fun j hj => by
            rcases hblk44 with e | e
            · rw [e] at hj; exact .inl ⟨hj, (hI13.own1.lt hj).2⟩
            · rw [e] at hj; cases hj; exact .inr rfl
          have b2 : ∀ j, were'.blk = some j → (were.blk = some j ∧ j < h13.size) ∨ j = h49.size := fun j hj => by
            rcases hblk51 with e | e
            · rw [e] at hj; exact .inl ⟨hj, (hI13.own2.lt hj).2⟩
            · rw [e] at hj; cases hj; exact .inr rfl
          have bsl : ∀ B, B ∈ bs → B < h13.size := fun B hB => by
            obtain ⟨j, hj, rfl⟩ := List.mem_iff_getElem.1 hB
            have hjw : j < ws.length := by omega
            exact isC_lt (hI13.each j _ _ (List.getElem?_eq_getElem hj) (List.getElem?_eq_getElem hjw)).1
          have x51 : Ext h h51 := ((hI13.ext.trans e42).then u44 fun j hj => (hI13.own1.lt hj).1).trans e49 |>.then u51 fun j hj => (hI13.own2.lt hj).1
          refine ⟨h51.size, a, bs ++ [C], ws ++ [a], rfl, ?_, ?_⟩
          · refine ⟨x51.trans e54, c54, ?_, hI13.rng, by omega, hI13.rb, by omega, by simp [hlen2], by simp; omega, ?_, ?_, ?_, ?_, ?_⟩
            · have r51 : IsC 45 h51 h2.size a := (apt2 hRl13 (fun he => (hI13.ap1 _ he).2.1 rfl) (fun he => (hI13.ap2 _ he).2.1 rfl)).trans hI13.r
              exact keepE r51 e54
            · rw [List.map_append]
              have o49 := ho44.congr (h' := h49) fun j _ hl _ => e49.old j hl
              have o51 := o49.congr (h' := h51) fun j hj hl _ => u51.old j hl fun he => by
                rcases b1 j hj with ⟨h1, _⟩ | h1
                · exact (hI13.ap1 j h1).2.2.2 he
                · have := (hI13.own2.lt he).2; omega
              exact o51.congr fun j _ hl _ => e54.old j hl
            · rw [List.map_append]
              exact ho51.congr fun j _ hl _ => e54.old j hl
            · intro i B a' h1 h2'
              rcases Nat.lt_or_ge i bs.length with hi | hi
              · rw [List.getElem?_append_left hi] at h1
                rw [List.getElem?_append_left (by omega)] at h2'
                obtain ⟨g1, g2, g3⟩ := hI13.each i B a' h1 h2'
                have hBm := List.mem_of_getElem? h1
                have hBl := isC_lt g1
                refine ⟨keepE ((apt2 hBl (fun he => (hI13.ap1 _ he).2.2.1 hBm) (fun he => (hI13.ap2 _ he).2.2 hBm)).trans g1 : h51[B]? = _) e54, by omega, g3⟩
              · have hib : i = bs.length := by
                  have : i < (bs ++ [C]).length := by
                    rcases Nat.lt_or_ge i (bs ++ [C]).length with h9 | h9
                    · exact h9
                    · rw [List.getElem?_eq_none h9] at h1; cases h1
                  simp at this; omega
                subst hib
                rw [List.getElem?_append_right (Nat.le_refl _)] at h1
                rw [hlen2, List.getElem?_append_right (Nat.le_refl _)] at h2'
                simp at h1 h2'
                subst h1 h2'
                exact ⟨keepE c51 e54, by omega, hI13.ne⟩
            · intro j hj
              refine ⟨?_, ?_, ?_, ?_⟩
              · have := (ho44.lt hj).2; omega
              · rcases b1 j hj with ⟨h1, _⟩ | h1
                · exact (hI13.ap1 j h1).2.1
                · omega
              · intro hm
                rcases List.mem_append.1 hm with hm | hm
                · rcases b1 j hj with ⟨h1, _⟩ | h1
                  · exact (hI13.ap1 j h1).2.2.1 hm
                  · have := bsl j hm; omega
                · have : j = C := by simpa using hm
                  rcases b1 j hj with ⟨h1, _⟩ | h1
                  · exact (hI13.ap1 j h1).1 this
                  · omega
              · intro hm
                rcases b2 j hm with ⟨h2, h2'⟩ | h2
                · rcases b1 j hj with ⟨h1, _⟩ | h1
                  · exact (hI13.ap1 j h1).2.2.2 h2
                  · omega
                · rcases b1 j hj with ⟨_, h1⟩ | h1 <;> omega
            · intro j hj
              refine ⟨?_, ?_, ?_⟩
              · have := (ho51.lt hj).2; omega
              · rcases b2 j hj with ⟨h1, _⟩ | h1
                · exact (hI13.ap2 j h1).2.1
                · omega
              · intro hm
                rcases List.mem_append.1 hm with hm | hm
                · rcases b2 j hj with ⟨h1, _⟩ | h1
                  · exact (hI13.ap2 j h1).2.2 hm
                  · have := bsl j hm; omega
                · have : j = C := by simpa using hm
                  rcases b2 j hj with ⟨h1, _⟩ | h1
                  · exact (hI13.ap2 j h1).1 this
                  · omega
          · refine ht.congr fun j hj hl => ?_
            have hj10 := htb j hj
            rw [e54.old j (by omega)]
            refine apt2 hl (fun he => ?_) (fun he => ?_)
            · have := (hI.own1.lt he).2; omega
            · have := (hI.own2.lt he).2; omega
    · -- the old ones stand where they stood
      have hol1 := hI.own1.len
      have hol2 := hI.own2.len
      simp only [List.length_map, Nat.mul_one] at hol1 hol2
      have hlen2 := hI.len
      have hsix := hI.six
      refine loopM_intro (fun p h' => h' = h10 ∧ ∃ j : Nat, p.1 = (j : Int) ∧ j ≤ bs.length) (fun p _ => bs.length - p.1.toNat) ⟨rfl, 0, rfl, Nat.zero_le _⟩ ?_
      rintro ⟨i, u⟩ h75 ⟨rfl, j, hi, hjl⟩
      dsimp only at hi
      subst hi
      dsimp only
      refine iteP_dec (fun hlt => ?_) (fun _ => hk _ hI.ext)
      have hj : j < bs.length := by omega
      have hjw : j < ws.length := by omega
      have e1 : bs[j]? = some bs[j] := List.getElem?_eq_getElem hj
      have e2 : ws[j]? = some ws[j] := List.getElem?_eq_getElem hjw
      generalize bs[j] = B at e1
      generalize ws[j] = a' at e2
      obtain ⟨g1, _, _⟩ := hI.each j B a' e1 e2
      refine Row.idx hI.own1.row rfl (v := ptrV B) (by rw [List.getElem?_map, e1]; rfl) fun b76 o77 _ hc1 => ?_
      refine Row.idx hI.own2.row rfl (v := iv a') (by rw [List.getElem?_map, e2]; rfl) fun b78 o79 _ hc2 => ⟨_, hc1, _, hc2, ?_⟩
      refine Now_spec g1 ⟨⟨hc2, trivial⟩, iteP_neg (by simp) (bindI_intro ?_)⟩
      rw [wrap64 (n := (j : Int) + 1) (by omega) (by omega)]
      exact ⟨⟨rfl, j + 1, by omega, by omega⟩, by omega⟩

end Go.Proofs.Ytkcbkiognkkhlaa
