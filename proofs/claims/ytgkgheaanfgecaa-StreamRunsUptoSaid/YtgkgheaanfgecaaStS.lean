/- StreamRuns' law, on its model: the pair that runs, and those that were forked. -/
import Derived.Test.YtgkgheaanfgecaaStR
namespace Go.Proofs.Ytgkgheaanfgecaa
open Go Go.Fw

def pC (p : Nat × Nat) : List Value := [.pointer (some ⟨p.1, 0, none⟩), .pointer (some ⟨p.2, 0, none⟩)]
theorem pC_len (p : Nat × Nat) : (pC p).length = 2 := rfl

/-- a pair that was forked: it is as it was, whatever is written where P says -/
def OldR (h0 h : Heap) (P : Nat → Prop) (p : Nat × Nat) : Prop :=
  ∃ T R Z ob ps cs, TwoR h0 h T R Z p.1 p.2 ob ps cs ∧ cs.length ≤ 1073741824 ∧ ∀ k, T k ≠ none ∨ R k ≠ none ∨ Z k → k < h.size ∧ ¬ P k
theorem OldR.upd {h0 h h' : Heap} {P P' S : Nat → Prop} {p : Nat × Nat} (ho : OldR h0 h P p) (hu : Upd S h h') (he : Ext h0 h') (hS : ∀ k, k < h.size → S k → P k) (hP : ∀ k, k < h.size → P' k → P k) : OldR h0 h' P' p := by
  obtain ⟨T, R, Z, ob, ps, cs, hT, hc, hd⟩ := ho
  refine ⟨T, R, Z, ob, ps, cs, hT.upd hu (fun k hk hs => ?_) he, hc, fun k hk => ?_⟩
  · have hp := hS k hk hs
    exact ⟨Classical.byContradiction fun h9 => (hd k (.inl h9)).2 hp, Classical.byContradiction fun h9 => (hd k (.inr (.inl h9))).2 hp, fun h9 => (hd k (.inr (.inr h9))).2 hp⟩
  · have := hd k hk
    have := hu.size
    exact ⟨by omega, fun h9 => (hd k hk).2 (hP k (hd k hk).1 h9)⟩

structure RunI (h0 h : Heap) (b : Nat) (old : Sl) (n room : Nat) (Tp Tr : Nat → Option Nat) (Z : Nat → Prop) (nb rb ob : Nat) (ps : Int → Bool) (cs : List Cn) (l : List (Nat × Nat)) : Prop where
  two : TwoR h0 h Tp Tr Z nb rb ob ps cs
  bd : Bd cs n
  room : ob + room ≤ 1048576
  cell : h[b]? = some (.cells (pC (nb, rb)).toArray 47 (0, 0))
  bp : Tp b = none
  br : Tr b = none
  bz : ¬ Z b
  bl : h0.size ≤ b
  row : Own h h0.size old 2 (l.flatMap pC)
  free : ∀ k, old.blk = some k → k ≠ b ∧ Tp k = none ∧ Tr k = none ∧ ¬ Z k
  olds : ∀ p, p ∈ l → OldR h0 h (fun k => Tp k ≠ none ∨ Tr k ≠ none ∨ k = b ∨ old.blk = some k) p

theorem RunI.len {h0 h : Heap} {b : Nat} {old : Sl} {n room : Nat} {Tp Tr : Nat → Option Nat} {Z : Nat → Prop} {nb rb ob : Nat} {ps : Int → Bool} {cs : List Cn} {l : List (Nat × Nat)} (hI : RunI h0 h b old n room Tp Tr Z nb rb ob ps cs l) : old.len = l.length := by
  have := hI.row.len
  rw [flat_len pC_len] at this
  omega

/-- one deed -/
theorem RunI.go {h0 h h' : Heap} {b : Nat} {old : Sl} {n room : Nat} {Tp Tr Tp' Tr' : Nat → Option Nat} {Z Z' : Nat → Prop} {nb rb ob ob' n' room' : Nat} {ps ps' : Int → Bool} {cs cs' : List Cn} {l : List (Nat × Nat)} (hI : RunI h0 h b old n room Tp Tr Z nb rb ob ps cs l)
    (hT : TwoR h0 h' Tp' Tr' Z' nb rb ob' ps' cs') (hG : Go2 Tp Tr Z Tp' Tr' Z' h h') (hB : Bd cs' n') (hr : ob' + room' ≤ 1048576) : RunI h0 h' b old n' room' Tp' Tr' Z' nb rb ob' ps' cs' l := by
  have bl := blk_lt hI.cell
  have keep : ∀ k, k < h.size → Tp k = none → Tr k = none → h'[k]? = h[k]? := fun k hk h1 h2 => hG.upd.old k hk (by rintro (h9 | h9); exact h9 h1; exact h9 h2)
  have np : ∀ k, k < h.size → Tp k = none → Tp' k = none := fun k hk h1 => Classical.byContradiction fun h9 => by
    rcases hG.newp k h9 with h8 | h8
    · exact h8 h1
    · omega
  have nr : ∀ k, k < h.size → Tr k = none → Tr' k = none := fun k hk h1 => Classical.byContradiction fun h9 => by
    rcases hG.newr k h9 with h8 | h8
    · exact h8 h1
    · omega
  have nz : ∀ k, k < h.size → ¬ Z k → ¬ Z' k := fun k hk h1 h9 => by
    rcases hG.newz k h9 with h8 | h8
    · exact h1 h8
    · omega
  refine ⟨hT, hB, hr, (keep b bl hI.bp hI.br).trans hI.cell, np b bl hI.bp, nr b bl hI.br, nz b bl hI.bz, hI.bl, hI.row.congr fun k hk hl _ => keep k hl (hI.free k hk).2.1 (hI.free k hk).2.2.1, fun k hk => ?_, fun p hp => ?_⟩
  · have hl := (hI.row.lt hk).2
    have hf := hI.free k hk
    exact ⟨hf.1, np k hl hf.2.1, nr k hl hf.2.2.1, nz k hl hf.2.2.2⟩
  · refine (hI.olds p hp).upd hG.upd hT.ext (fun k hk hS => hS.elim .inl fun h9 => .inr (.inl h9)) fun k hk hS => ?_
    rcases hS with h9 | h9 | h9
    · rcases hG.newp k h9 with h8 | h8
      · exact .inl h8
      · omega
    · rcases hG.newr k h9 with h8 | h8
      · exact .inr (.inl h8)
      · omega
    · exact .inr (.inr h9)

theorem pair_row {h : Heap} {b nb rb : Nat} {e : TypeId} (c : h[b]? = some (.cells (pC (nb, rb)).toArray e (0, 0))) : Row h ⟨some ⟨b, 0, none⟩, 1, 1⟩ 2 (pC (nb, rb)) :=
  ⟨rfl, Nat.le_refl _, (show 1 < 9223372036854775808 by decide), .inr ⟨b, 0, rfl, has_block c fun i v hi => by simpa [pC] using hi⟩⟩

theorem pair_idx {h : Heap} {base : Nat} {s : Sl} {l : List (Nat × Nat)} (ho : Own h base s 2 (l.flatMap pC)) {n : Nat} {p : Nat × Nat} (hp : l[n]? = some p) {k : Int} (hi : k = (n : Int)) {K : Nat → Nat → Prop}
    (hk : ∀ b o, h.cell b o = some (.pointer (some ⟨p.1, 0, none⟩)) → h.cell b (o + 1) = some (.pointer (some ⟨p.2, 0, none⟩)) → K b o) : idxA s.ptr s.len k 2 K := by
  subst hi
  have hl := ho.len
  rw [flat_len pC_len] at hl
  have hlt : n < l.length := by
    rcases Nat.lt_or_ge n l.length with h9 | h9
    · exact h9
    · rw [List.getElem?_eq_none h9] at hp; cases hp
  obtain ⟨b, hptr, hb⟩ := Own.ptr_ ho (o := 0) (by rw [flat_len pC_len]; omega)
  refine ⟨b, 0, hptr, by omega, by omega, ?_⟩
  have e : 0 + (n : Int).toNat * 2 = n * 2 := by omega
  rw [e]
  refine hk b _ (Own.cell_ ho hb (o := n * 2 + 0) (by rw [flat_get pC_len l n 0 p hp (by omega)]; rfl)) (Own.cell_ ho hb (by rw [flat_get pC_len l n 1 p hp (by omega)]; rfl))

theorem StreamRuns_true {s : Sl} {ds : List Deed} {h : Heap} {K : Bool → Heap → Prop} (hd : Deeds h s ds) (hb1 : bulkD ds ≤ 1048576) (hfin : ∀ h', Ext h h' → K true h') : m_spillwaylaw22_StreamRuns s K h := by
  unfold m_spillwaylaw22_StreamRuns g_spillwaylaw22_StreamRuns
  have hn1 : ds.length ≤ 1048576 := Nat.le_trans (bulk_len ds) hb1
  have hsl := hd.1
  refine live_spec fun h1 e1 => iteP_false ?_
  refine New_spec fun h3 T3 hn3 e3 t3 => RNew_spec fun h5 R5 hr5 e5 r5 => newK fun h6 c6 e6 z6 => stsAll c6 rfl rfl fun h7 c7 u7 z7 => bindI_intro ?_
  have l3 := hn3.lt
  have z1 := e1.size
  have z3 := e3.size
  have z5 := e5.size
  have x5 := (e1.trans e3).trans e5
  have x7 : Ext h h7 := (x5.trans e6).then u7 fun k hk => by have := x5.size; omega
  have t5 : T3 h5.size = none := none_new l3 (by omega)
  have s5 : R5 h5.size = none := none_new hr5.lt.1 (Nat.le_refl _)
  have hI0 : RunI h h7 h5.size ⟨none, 0, 0⟩ 0 (bulkD ds) T3 R5 (fun _ => False) (h1.size + 1) h3.size 0 (fun _ => false) [] [] := by
    refine ⟨⟨((hn3.ext e5).ext e6).upd u7 fun k _ hk => by subst hk; exact t5, (hr5.ext e6).upd u7 fun k _ hk => by subst hk; exact ⟨s5, fun h => h⟩, fun k hk => ⟨?_, fun h => h⟩, fun k hk => ?_, x7⟩, ⟨Nat.le_refl _, fun c j hc => by simp at hc⟩, by omega, c7, t5, s5, fun h => h, x5.size, Own.nil _ _ 2, fun k hk => by simp [Sl.blk] at hk, fun p hp => by simp at hp⟩
    · refine Classical.byContradiction fun h9 => ?_
      have := l3 k hk
      have := r5 k h9
      omega
    · rcases hk with h9 | h9
      · have := t3 k h9; omega
      · have := r5 k h9; omega
  generalize h1.size + 1 = nb at hI0 ⊢
  generalize h5.size = b at hI0 ⊢
  generalize h3.size = rb at hI0 ⊢
  clear c6 c7 u7 e6 t5 s5 hr5 hn3 l3 t3 r5
  refine loopM_intro (fun p h' => ∃ n : Nat, p.2.1 = (n : Int) ∧ n ≤ ds.length ∧ ∃ Tp Tr Z nb rb ob ps cs l, RunI h h' b p.1 n (bulkD (ds.drop n)) Tp Tr Z nb rb ob ps cs l) (fun p _ => ds.length - p.2.1.toNat) ⟨0, rfl, Nat.zero_le _, _, _, _, _, _, _, _, _, _, hI0⟩ ?_
  rintro ⟨old, i, u⟩ h10 ⟨n, hi, hnl, Tp, Tr, Z, nb, rb, ob, ps, cs, l, hI⟩
  dsimp only at hi hI
  subst hi
  dsimp only
  refine iteP_dec (fun hlt => ?_) (fun hge => bindI_intro ?_)
  · have hk1 : n < ds.length := by omega
    have hx : ds[n]? = some ds[n] := List.getElem?_eq_getElem hk1
    have hdrop : ds.drop n = ds[n] :: ds.drop (n + 1) := List.drop_eq_getElem_cons hk1
    have hdb := bulk_get (List.getElem_mem hk1)
    generalize ds[n] = d at hx hdb hdrop
    have hbd : bulkD (ds.drop n) = d.ports.length + d.b.length + 1 + bulkD (ds.drop (n + 1)) := by rw [hdrop]; simp [bulkD]
    refine cutP_intro (fun p h' => ∃ Tp Tr Z nb rb ob ps cs l, RunI h h' b p.1 n (bulkD (ds.drop n)) Tp Tr Z nb rb ob ps cs l) ?_ ?_
    · rintro ⟨old, u⟩ h29 ⟨Tp, Tr, Z, nb, rb, ob, ps, cs, l, hI⟩
      dsimp only at hI
      dsimp only
      refine hd.idx rfl hx fun b24 o24 pl bl hh0 hpl hbl => ?_
      have hh := has_congr (hI.two.ext.old b24 (has_lt hh0 (by simp [dC]))) hh0
      refine ldPk hI.cell rfl (ldPk hI.cell rfl ⟨_, hh.1, _, hh.2.1, _, hh.2.2.1, _, hh.2.2.2.1, pl, hh.2.2.2.2.1, bl, hh.2.2.2.2.2.1, ?_⟩)
      have hroom := hI.room
      refine do_spec hI.two hI.bd (by omega) (d := d) hpl hbl (by omega) (by omega) fun h41 Tp' Tr' Z' ob' ps' cs' hT' hG hB' hob' => iteP_false (bindI_intro ?_)
      rw [wrap64 (n := (n : Int) + 1) (by omega) (by omega)]
      exact ⟨⟨n + 1, by omega, by omega, _, _, _, _, _, _, _, _, _, hI.go hT' hG hB' (by omega)⟩, by omega⟩
    · have again : ∃ Tp Tr Z nb rb ob ps cs l, RunI h h10 b old n (bulkD (ds.drop n)) Tp Tr Z nb rb ob ps cs l := ⟨_, _, _, _, _, _, _, _, _, hI⟩
      refine hd.idx rfl hx fun b12 o12 pl bl hh0 hpl hbl => ?_
      have hh := has_congr (hI.two.ext.old b12 (has_lt hh0 (by simp [dC]))) hh0
      refine ⟨_, hh.1, iteP_dec (fun h8 => iteP_dec (fun h4 => ?_) fun _ => again) fun _ => again⟩
      refine ldPk hI.cell rfl (ldPk hI.cell rfl (newK fun h17 c17 e17 z17 => Row.rd (pair_row c17) (Own.app (hI.row.congr (h' := h17) fun k _ hl _ => e17.old k hl) rfl rfl rfl (by omega) (by omega) (by have := hI.two.ext.size; omega) fun t18 h19 ho19 hl19 hu19 hblk => ?_)))
      have l10 := hI.two.ext.size
      have bl10 := blk_lt hI.cell
      have z19 := hu19.size
      have x17 := hI.two.ext.trans e17
      have x19 : Ext h h19 := x17.then hu19 fun k hk => (hI.row.lt hk).1
      have hT19 := (hI.two.grow e17).upd hu19 (fun k _ hk => (hI.free k hk).2) x19
      have c19 : h19[b]? = _ := (hu19.old b (by omega) fun hk => (hI.free b hk).1 rfl).trans (keepE hI.cell e17)
      have hlen := hI.bd.len
      have hroom := hI.room
      refine ldPk c19 rfl (ldPk c19 rfl (PFork_spec hT19.net (by omega) (hI.bd.hw (by omega)) fun h23 T23 nb' hn23 e23 low23 => ⟨⟨(cell_block (keepE c19 e23)).trans rfl, trivial⟩, RFork_spec (hT19.grow e23).ref (by omega) (by omega) fun h25 R25 rb' hr25 e25 low25 => stsAll (keepE (keepE c19 e23) e25) rfl rfl fun h26 c26 u26 z26 => ?_⟩))
      have z23 := e23.size
      have z25 := e25.size
      have t26 : T23 b = none := Classical.byContradiction fun h9 => by have := low23 b h9; omega
      have r26 : R25 b = none := Classical.byContradiction fun h9 => by have := low25 b h9; omega
      have x26 : Ext h h26 := ((x19.trans e23).trans e25).then u26 fun k hk => by have := hI.bl; omega
      have p10 := hI.two.net.lt
      have q10 := hI.two.ref.lt
      have tb : ∀ k, t18.blk = some k → old.blk = some k ∨ k = h17.size := fun k hk => by
        rcases hblk with h9 | h9
        · exact .inl (h9 ▸ hk)
        · rw [h9] at hk; exact .inr (Option.some.inj hk).symm
      have tb19 : ∀ k, t18.blk = some k → k < h19.size := fun k hk => (ho19.lt hk).2
      have u2 : Upd (· = b) h19 h26 := Upd.then (Upd.then (e23.upd _) (e25.upd fun _ => False) fun k _ h9 => h9.elim) u26 fun k _ h9 => h9
      have u02 : Upd (fun k => old.blk = some k ∨ k = b) h10 h26 := Upd.then (Upd.then (e17.upd _) hu19 fun k _ h9 => .inl h9) u2 fun k _ h9 => .inr h9
      have nb17 : ∀ k, t18.blk = some k → k ≠ b := fun k hk => by
        rcases tb k hk with h9 | h9
        · exact (hI.free k h9).1
        · omega
      refine ⟨T23, R25, Z, nb', rb', ob, ps, cs, l ++ [(nb, rb)], ⟨⟨(hn23.ext e25).upd u26 fun k _ hk => by subst hk; exact t26, hr25.upd u26 fun k _ hk => by subst hk; exact ⟨r26, hI.bz⟩, fun k hk => ⟨?_, fun h9 => ?_⟩, fun k hk => ?_, x26⟩, hI.bd, hI.room, c26, t26, r26, hI.bz, hI.bl, ?_, fun k hk => ⟨nb17 k hk, ?_, ?_, fun h9 => ?_⟩, fun p hp => ?_⟩⟩
      · refine Classical.byContradiction fun h9 => ?_
        have := hn23.lt k hk
        have := low25 k h9
        omega
      · have := low23 k hk
        have := q10.2.1 k h9
        omega
      · rcases hk with h9 | h9
        · have := low23 k h9; omega
        · have := low25 k h9; omega
      · rw [List.flatMap_append]
        refine ho19.congr fun k hk hl _ => u2.old k hl (nb17 k hk)
      · refine Classical.byContradiction fun h9 => ?_
        have := tb19 k hk
        have := low23 k h9
        omega
      · refine Classical.byContradiction fun h9 => ?_
        have := tb19 k hk
        have := low25 k h9
        omega
      · rcases tb k hk with h8 | h8
        · exact (hI.free k h8).2.2.2 h9
        · have := q10.2.1 k h9; omega
      · have hP : ∀ k, k < h10.size → (T23 k ≠ none ∨ R25 k ≠ none ∨ k = b ∨ t18.blk = some k) → k = b ∨ old.blk = some k := fun k hk h9 => by
          rcases h9 with h9 | h9 | h9 | h9
          · have := low23 k h9; omega
          · have := low25 k h9; omega
          · exact .inl h9
          · rcases tb k h9 with h8 | h8
            · exact .inr h8
            · omega
        rcases List.mem_append.1 hp with h9 | h9
        · exact (hI.olds p h9).upd u02 x26 (fun k _ hS => .inr (.inr hS.symm)) fun k hk hS => .inr (.inr (hP k hk hS))
        · have : p = (nb, rb) := List.mem_singleton.1 h9
          subst this
          have fr : ∀ k, k = b ∨ old.blk = some k → Tp k = none ∧ Tr k = none ∧ ¬ Z k := fun k hk => by
            rcases hk with rfl | hk
            · exact ⟨hI.bp, hI.br, hI.bz⟩
            · exact (hI.free k hk).2
          refine ⟨Tp, Tr, Z, ob, ps, cs, hI.two.upd u02 (fun k _ hS => fr k hS.symm) x26, by omega, fun k hk => ?_⟩
          have hkl : k < h10.size := by
            rcases hk with h8 | h8 | h8
            · exact p10 k h8
            · exact q10.1 k h8
            · exact q10.2.1 k h8
          have := u02.size
          refine ⟨by omega, fun h8 => ?_⟩
          have hf := fr k (hP k hkl h8)
          rcases hk with h7 | h7 | h7
          · exact h7 hf.1
          · exact h7 hf.2.1
          · exact hf.2.2 h7
  · have hol := hI.len
    have hcap := hI.row.cap
    have hbig := hI.row.big
    refine loopM_intro (fun p h' => ∃ j : Nat, p.1 = (j : Int) ∧ j ≤ l.length ∧ Ext h10 h') (fun p _ => l.length - p.1.toNat) ⟨0, rfl, Nat.zero_le _, Ext.refl _⟩ ?_
    rintro ⟨i, u⟩ h47 ⟨j, hi, hjl, e47⟩
    dsimp only at hi
    subst hi
    dsimp only
    refine iteP_dec (fun hlt2 => ?_) (fun hge2 => hfin h47 (hI.two.ext.trans e47))
    have hj1 : j < l.length := by omega
    have hp : l[j]? = some l[j] := List.getElem?_eq_getElem hj1
    have hm : l[j] ∈ l := List.getElem_mem hj1
    generalize l[j] = p at hp hm
    obtain ⟨T, R, Z9, ob9, ps9, cs9, hT9, hc9, _⟩ := hI.olds p hm
    refine pair_idx (hI.row.congr (h' := h47) fun k _ hl _ => e47.old k hl) hp rfl fun b48 o49 d0 d1 => ⟨_, d0, _, d1, ?_⟩
    refine alike_spec (hT9.grow e47) hc9 fun h53 e53 => iteP_false (bindI_intro ?_)
    rw [wrap64 (n := (j : Int) + 1) (by omega) (by omega)]
    exact ⟨⟨j + 1, by omega, by omega, e47.trans e53⟩, by omega⟩

end Go.Proofs.Ytgkgheaanfgecaa
