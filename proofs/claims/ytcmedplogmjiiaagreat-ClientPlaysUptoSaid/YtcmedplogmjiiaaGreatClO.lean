/- Small walks of ClientPlays: Waiting, the rows of numbers and of what was told. -/
import Derived.Test.YtcmedplogmjiiaaGreatClN
namespace Go.Proofs.YtcmedplogmjiiaaGreat
open Go Go.Fw

theorem RWaiting_spec {h : Heap} {T : Nat → Option Nat} {cb : Nat} {c : Cl} (hC : RefC h T cb c) (hwl : c.waits.length ≤ 1099511627776) {K : Sl → Heap → Prop}
    (hk : ∀ s h', Own h' h.size s 1 ((c.waits.map (·.1)).map iv) → Ext h h' → K s h') : m_spillwayref21_Client_Waiting (some ⟨cb, 0, none⟩) K h := by
  unfold m_spillwayref21_Client_Waiting g_spillwayref21_Client_Waiting
  obtain ⟨rb, sl, so, st, sb, hR⟩ := hC
  have hsl := wlen hR.l
  refine bindI_intro (loopM_intro (fun p h' => ∃ k : Nat, p.2.1 = (k : Int) ∧ k ≤ c.waits.length ∧ Own h' h.size p.1 1 (((c.waits.take k).map (·.1)).map iv) ∧ Ext h h') (fun p _ => c.waits.length - p.2.1.toNat) ⟨0, rfl, Nat.zero_le _, Own.nil h h.size 1, Ext.refl _⟩ ?_)
  rintro ⟨l, i, u⟩ h3 ⟨k, hi, hkl, ho, e3⟩
  dsimp only at hi ho
  subst hi
  dsimp only
  have hR3 := hR.ext e3
  have hll : l.len = k := by
    have := ho.len
    rw [List.length_map, List.length_map, List.length_take] at this
    omega
  refine iteP_true (deref_ (ldLk (s := sl) hR3.cells rfl (iteP_dec (fun hlt => ?_) fun hge => ?_)))
  · have hk1 : k < c.waits.length := by omega
    have hp : c.waits[k]? = some c.waits[k] := List.getElem?_eq_getElem hk1
    have htk : c.waits.take (k + 1) = c.waits.take k ++ [c.waits[k]] := List.take_succ_eq_append_getElem hk1
    generalize c.waits[k] = p at hp htk
    refine deref_ (ldLk (s := sl) hR3.cells rfl (wait_idx hR3.l hp rfl fun b7 o8 d9 d0 d1 => ⟨p.1, d0, newK fun h11 c11 e11 z11 => ?_⟩))
    have hrow : Row h11 ⟨some ⟨h3.size, 0, none⟩, 1, 1⟩ 1 [iv p.1] := ⟨rfl, Nat.le_refl _, (show 1 < 9223372036854775808 by decide), .inr ⟨h3.size, 0, rfl, has_block c11 fun i v hi => by simpa using hi⟩⟩
    have ho11 : Own h11 h.size l 1 (((c.waits.take k).map (·.1)).map iv) := ho.congr fun k _ hl _ => e11.old k hl
    have s3 := e3.size
    have s11 := e11.size
    refine hrow.rd (Own.app ho11 rfl rfl rfl (by omega) (by omega) (by omega) fun t12 h13 ho13 hl13 hu13 hblk => bindI_intro ?_)
    have e : ((c.waits.take k).map (·.1)).map iv ++ [iv p.1] = ((c.waits.take (k + 1)).map (·.1)).map iv := by rw [htk]; simp
    rw [e] at ho13
    rw [wrap64 (n := (k : Int) + 1) (by omega) (by omega)]
    exact ⟨⟨k + 1, by omega, by omega, ho13, (e3.trans e11).then hu13 fun k hk => (ho.lt hk).1⟩, by omega⟩
  · have hk2 : k = c.waits.length := by omega
    rw [hk2, List.take_length] at ho
    exact hk l h3 ho e3

theorem tld_at {h : Heap} {base : Nat} {s : Sl} {l : List Tld} (ho : Own h base s 7 (l.flatMap tC)) {n : Nat} {p : Tld} (hp : l[n]? = some p) {k : Int} (hi : k = (n : Int)) {K : Nat → Nat → Prop}
    (hk : ∀ b o, s.blk = some b → h.has b o (tC p) → K b o) : idxA s.ptr s.len k 7 K := by
  subst hi
  have hl := ho.len
  rw [flat_len tC_len] at hl
  have hlt : n < l.length := (List.getElem?_eq_some_iff.1 hp).1
  obtain ⟨b, hptr, hb⟩ := Own.ptr_ ho (o := 0) (by rw [flat_len tC_len]; omega)
  refine ⟨b, 0, hptr, by omega, by omega, ?_⟩
  have e : 0 + (n : Int).toNat * 7 = n * 7 := by omega
  rw [e]
  refine hk b _ hb (has_of fun i v hi => Own.cell_ ho hb ?_)
  have hi7 : i < 7 := (List.getElem?_eq_some_iff.1 hi).1
  rw [flat_get tC_len l n i p hp hi7]
  exact hi

/-- what was told, as rows of the reference's -/
theorem told_conv {h : Heap} {base : Nat} {s : Sl} {l : List Tld} (hs : Own h base s 7 (l.flatMap tC)) (hl : l.length ≤ 1099511627776) {K : Sl → Heap → Prop}
    (hk : ∀ s' h', Own h' h.size s' 7 (l.flatMap tC) → Ext h h' → K s' h') : m_spillwaylaw21_told s K h := by
  unfold m_spillwaylaw21_told g_spillwaylaw21_told
  have hsl := tlen hs
  refine bindI_intro (loopM_intro (fun p h' => ∃ k : Nat, p.2.1 = (k : Int) ∧ k ≤ l.length ∧ Own h' h.size p.1 7 ((l.take k).flatMap tC) ∧ Ext h h') (fun p _ => l.length - p.2.1.toNat) ⟨0, rfl, Nat.zero_le _, Own.nil h h.size 7, Ext.refl _⟩ ?_)
  rintro ⟨out, i, u⟩ h3 ⟨k, hi, hkl, ho, e3⟩
  dsimp only at hi ho
  subst hi
  dsimp only
  have hs3 : Own h3 base s 7 (l.flatMap tC) := hs.congr fun k _ hl _ => e3.old k hl
  have hll := tlen ho
  rw [List.length_take] at hll
  refine iteP_dec (fun hlt => ?_) fun hge => ?_
  · have hk1 : k < l.length := by omega
    have hp : l[k]? = some l[k] := List.getElem?_eq_getElem hk1
    have htk : l.take (k + 1) = l.take k ++ [l[k]] := List.take_succ_eq_append_getElem hk1
    generalize l[k] = p at hp htk
    refine tld_at hs3 hp rfl fun b o hb hh => tld_at hs3 hp rfl fun b4 o5 hb4 hh4 => tld_at hs3 hp rfl fun b6 o7 hb6 hh6 => ⟨p.id, hh.1, p.a.1, hh4.2.1, p.a.2.1, hh4.2.2.1, p.a.2.2.1, hh4.2.2.2.1, p.a.2.2.2.1, hh4.2.2.2.2.1, p.a.2.2.2.2.1, hh4.2.2.2.2.2.1, p.fb, hh6.2.2.2.2.2.2.1, newK fun h15 c15 e15 z15 => ?_⟩
    have s3 := e3.size
    have s15 := e15.size
    have g : ∀ {b o}, h3.has b o (tC p) → h15.has b o (tC p) := fun {b o} hh => has_congr (e15.old b (has_lt hh (by simp [tC]))) hh
    have q := g hh
    have q4 := g hh4
    have q6 := g hh6
    have hrow : Row h15 ⟨some ⟨h3.size, 0, none⟩, 1, 1⟩ 7 (tC p) := ⟨rfl, Nat.le_refl _, (show 1 < 9223372036854775808 by decide), .inr ⟨h3.size, 0, rfl, has_block c15 fun i v hi => by simpa [tC] using hi⟩⟩
    have ho15 : Own h15 h.size out 7 ((l.take k).flatMap tC) := ho.congr fun k _ hl _ => e15.old k hl
    refine ⟨⟨q6.2.2.2.2.2.2.1, trivial⟩, ⟨q4.2.1, q4.2.2.1, q4.2.2.2.1, q4.2.2.2.2.1, q4.2.2.2.2.2.1, trivial⟩, ⟨q.1, trivial⟩, hrow.rd (Own.app ho15 rfl rfl rfl (by omega) (by omega) (by omega) fun t16 h17 ho17 hl17 hu17 hblk => ?_)⟩
    have g' : ∀ {b o}, s.blk = some b → h15.has b o (tC p) → h17.has b o (tC p) := fun {b o} hb hh => has_congr (hu17.old b (has_lt hh (by simp [tC])) fun h9 => by have := (ho15.lt h9).1; have := (hs.lt hb).2; omega) hh
    have r := g' hb q
    have r4 := g' hb4 q4
    have r6 := g' hb6 q6
    have e : (l.take k).flatMap tC ++ tC p = (l.take (k + 1)).flatMap tC := by rw [htk]; simp
    rw [e] at ho17
    refine ⟨⟨r6.2.2.2.2.2.2.1, trivial⟩, ⟨r4.2.1, r4.2.2.1, r4.2.2.2.1, r4.2.2.2.2.1, r4.2.2.2.2.2.1, trivial⟩, ⟨r.1, trivial⟩, bindI_intro ?_⟩
    rw [wrap64 (n := (k : Int) + 1) (by omega) (by omega)]
    exact ⟨⟨k + 1, by omega, by omega, ho17, (e3.trans e15).then hu17 fun k hk => (ho15.lt hk).1⟩, by omega⟩
  · have hk2 : k = l.length := by omega
    rw [hk2, List.take_length] at ho
    exact hk out h3 ho e3

theorem SInts_spec {a b : Sl} {l : List Int} {h : Heap} {K : Bool → Heap → Prop} (ha : Ints h a l) (hb : Ints h b l) (hk : K true h) : m_spillwayref11_SameInts a b K h := by
  unfold m_spillwayref11_SameInts g_spillwayref11_SameInts
  have h1 := ha.length
  have h2 := hb.length
  have h3 := ha.big
  have h4 := ha.cap
  refine iteP_neg (by rw [h1, h2]; simp) (bindI_intro (loopM_intro (fun s h' => h' = h ∧ ∃ k : Nat, k ≤ l.length ∧ s.1 = (k : Int)) (fun s _ => l.length - s.1.toNat) ⟨rfl, 0, Nat.zero_le _, rfl⟩ ?_))
  rintro ⟨i, u⟩ h' ⟨rfl, k, hk', hi⟩
  dsimp only at hi
  subst hi
  dsimp only
  refine iteP_dec (fun hlt => ?_) (fun hge => hk)
  have hl1 : k < l.length := by omega
  refine Ints.idx ha rfl (List.getElem?_eq_getElem hl1) (Ints.idx hb rfl (List.getElem?_eq_getElem hl1) (iteP_neg (by simp) (bindI_intro ?_)))
  rw [wrap64 (n := (k : Int) + 1) (by omega) (by omega)]
  exact ⟨⟨rfl, k + 1, by omega, rfl⟩, by omega⟩

theorem RSame_spec {a b : Sl} {l : List Tld} {h : Heap} {ba bb : Nat} {K : Bool → Heap → Prop} (ha : Own h ba a 7 (l.flatMap tC)) (hb : Own h bb b 7 (l.flatMap tC)) (hk : K true h) : m_spillwayref21_Same a b K h := by
  unfold m_spillwayref21_Same g_spillwayref21_Same
  have h1 := tlen ha
  have h2 := tlen hb
  have h3 := ha.big
  have h4 := ha.cap
  refine iteP_neg (by rw [h1, h2]; simp) (bindI_intro (loopM_intro (fun s h' => h' = h ∧ ∃ k : Nat, k ≤ l.length ∧ s.1 = (k : Int)) (fun s _ => l.length - s.1.toNat) ⟨rfl, 0, Nat.zero_le _, rfl⟩ ?_))
  rintro ⟨i, u⟩ h' ⟨rfl, k, hk', hi⟩
  dsimp only at hi
  subst hi
  dsimp only
  refine iteP_dec (fun hlt => ?_) (fun hge => hk)
  have hl1 : k < l.length := by omega
  have hp : l[k]? = some l[k] := List.getElem?_eq_getElem hl1
  generalize l[k] = p at hp
  refine tld_idx ha hp rfl fun b o hh => ⟨p.id, hh.1, p.a.1, hh.2.1, p.a.2.1, hh.2.2.1, p.a.2.2.1, hh.2.2.2.1, p.a.2.2.2.1, hh.2.2.2.2.1, p.a.2.2.2.2.1, hh.2.2.2.2.2.1, p.fb, hh.2.2.2.2.2.2.1, ?_⟩
  refine tld_idx hb hp rfl fun b o hh => ⟨p.id, hh.1, p.a.1, hh.2.1, p.a.2.1, hh.2.2.1, p.a.2.2.1, hh.2.2.2.1, p.a.2.2.2.1, hh.2.2.2.2.1, p.a.2.2.2.2.1, hh.2.2.2.2.2.1, p.fb, hh.2.2.2.2.2.2.1, ?_⟩
  refine iteP_neg (by simp) (bindI_intro ?_)
  rw [wrap64 (n := (k : Int) + 1) (by omega) (by omega)]
  exact ⟨⟨rfl, k + 1, by omega, rfl⟩, by omega⟩

end Go.Proofs.YtcmedplogmjiiaaGreat
