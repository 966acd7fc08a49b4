/- Both networks at once: what they say stays within bounds; alike; one step of both. -/
import Derived.Test.YtgkgheaanfgecaaStO
import Derived.Test.YtgkgheaanfgecaaStH
namespace Go.Proofs.Ytgkgheaanfgecaa
open Go Go.Fw

/-! ### bounds -/
structure Bd (cs : List Cn) (n : Nat) : Prop where
  len : cs.length ≤ n
  row : ∀ c j, c ∈ cs → j < 2 → (c.side j).way.length ≤ 65536 ∧ (c.side j).come.length ≤ 65536 * n
theorem Bd.mono {cs : List Cn} {n n' : Nat} (h : Bd cs n) (hn : n ≤ n') : Bd cs n' := ⟨Nat.le_trans h.len hn, fun c j hc hj => by have := h.row c j hc hj; omega⟩
theorem Bd.hw {cs : List Cn} {n : Nat} (h : Bd cs n) (hn : n ≤ 1048580) : ∀ c j, c ∈ cs → j < 2 → (c.side j).way.length ≤ 65536 ∧ (c.side j).come.length ≤ 1099511627776 := fun c j hc hj => by have := h.row c j hc hj; omega
theorem Bd.set {cs : List Cn} {n : Nat} (h : Bd cs n) {i : Nat} {c : Cn} (hc : ∀ j, j < 2 → (c.side j).way.length ≤ 65536 ∧ (c.side j).come.length ≤ 65536 * (n + 1)) : Bd (cs.set i c) (n + 1) := by
  refine ⟨by rw [List.length_set]; have := h.len; omega, fun d j hd hj => ?_⟩
  rcases List.mem_or_eq_of_mem_set hd with h1 | h1
  · have := h.row d j h1 hj; omega
  · subst h1; exact hc j hj
theorem Bd.put {cs : List Cn} {n : Nat} (h : Bd cs n) {i j : Nat} {c : Cn} (hc : cs[i]? = some c) (hj : j < 2) {s : Side} (h1 : s.way.length ≤ 65536) (h2 : s.come.length ≤ 65536 * (n + 1)) : Bd (cs.set i (c.putS j s)) (n + 1) := by
  refine h.set fun e he => ?_
  rw [side_put c hj he]
  split
  · exact ⟨h1, h2⟩
  · have := h.row c e (List.mem_of_getElem? hc) he; omega
theorem errS_two {cs : List Cn} {k e m : Int} (h : errS cs k e m = 0) : e.toNat < 2 := by
  unfold errS at h
  split at h
  · cases h
  · split at h
    · cases h
    · split at h
      · cases h
      · split at h
        · cases h
        · omega
theorem Bd.wr {cs : List Cn} {n : Nat} (h : Bd cs n) (k e : Int) (l : List UInt8) : Bd (wrS cs k e l).2 (n + 1) := by
  unfold wrS
  split
  · exact h.mono (by omega)
  · rename_i he
    have hj := errS_two (Classical.not_not.1 he)
    unfold wrI
    split
    · exact h.mono (by omega)
    · rename_i c hc
      have hb := h.row c _ (List.mem_of_getElem? hc) hj
      split
      · exact h.mono (by omega)
      · split
        · exact h.mono (by omega)
        · rename_i h1
          refine h.put hc hj ?_ (by show (c.side e.toNat).come.length ≤ _; omega)
          show ((c.side e.toNat).way ++ l).length ≤ _
          rw [List.length_append]; omega
theorem Bd.mv {cs : List Cn} {n : Nat} (h : Bd cs n) (k e m : Int) : Bd (mvS cs k e m).2 (n + 1) := by
  unfold mvS
  split
  · exact h.mono (by omega)
  · rename_i he
    have hj := errS_two (Classical.not_not.1 he)
    unfold mvI
    split
    · exact h.mono (by omega)
    · rename_i c hc
      have hb := h.row c _ (List.mem_of_getElem? hc) hj
      refine h.put hc hj (by rw [List.length_drop]; omega) (by rw [List.length_append, List.length_take]; omega)
theorem Bd.rd {cs : List Cn} {n : Nat} (h : Bd cs n) (k e m : Int) : Bd (rdS_ cs k e m).2 (n + 1) := by
  unfold rdS_
  split
  · exact h.mono (by omega)
  · rename_i he
    have hj := errS_two (Classical.not_not.1 he)
    have hj1 : 1 - e.toNat < 2 := by omega
    unfold rdI
    split
    · exact h.mono (by omega)
    · rename_i c hc
      have hb := h.row c _ (List.mem_of_getElem? hc) hj1
      exact h.put hc hj1 (by show (c.side (1 - e.toNat)).way.length ≤ _; omega) (by rw [List.length_drop]; omega)
theorem Bd.sh {cs : List Cn} {n : Nat} (h : Bd cs n) (k e : Int) : Bd (shS cs k e).2 (n + 1) := by
  unfold shS
  split
  · exact h.mono (by omega)
  · rename_i he
    have hj := errS_two (Classical.not_not.1 he)
    unfold shI
    split
    · exact h.mono (by omega)
    · rename_i c hc
      have hb := h.row c _ (List.mem_of_getElem? hc) hj
      split
      · exact h.mono (by omega)
      · exact h.put hc hj (by show (c.side e.toNat).way.length ≤ _; omega) (by show (c.side e.toNat).come.length ≤ _; omega)
theorem Bd.di {cs : List Cn} {n : Nat} (h : Bd cs n) (ps : Int → Bool) (p : Int) : Bd (diS ps cs p).2 (n + 1) := by
  unfold diS
  split
  · exact h.mono (by omega)
  · split
    · exact h.mono (by omega)
    · split
      · exact h.mono (by omega)
      · refine ⟨by have := h.len; simp; omega, fun c j hc hj => ?_⟩
        rcases List.mem_append.1 hc with h1 | h1
        · have := h.row c j h1 hj; omega
        · have : c = newC_ p := List.mem_singleton.1 h1
          subst this
          rcases two j hj with rfl | rfl <;> exact ⟨Nat.zero_le _, Nat.zero_le _⟩
theorem Bd.brA {n : Nat} : ∀ {l : List Int} {cs : List Cn}, Bd cs n → Bd (brA cs l) n
  | [], _, h => h
  | k :: r, cs, h => by
    unfold Go.Proofs.Ytgkgheaanfgecaa.brA
    refine Bd.brA ?_
    split
    · refine ⟨by rw [List.length_set]; exact h.len, fun d j hd hj => ?_⟩
      rcases List.mem_or_eq_of_mem_set hd with h1 | h1
      · exact h.row d j h1 hj
      · subst h1
        rcases two j hj with rfl | rfl <;> exact ⟨Nat.zero_le _, Nat.zero_le _⟩
    · exact h
theorem Bd.br {cs : List Cn} {n : Nat} (h : Bd cs n) (l : List Int) : Bd (brS cs l).2 (n + 1) := by
  unfold brS
  split
  · exact h.mono (by omega)
  · exact h.mono (by omega)
  · exact (Bd.brA h).mono (by omega)

/-! ### both -/
structure TwoR (h0 h : Heap) (Tp Tr : Nat → Option Nat) (Z : Nat → Prop) (nb rb ob : Nat) (ps : Int → Bool) (cs : List Cn) : Prop where
  net : Net h Tp nb ps cs
  ref : Ref h Tr Z rb ob ps cs
  dis : ∀ k, Tp k ≠ none → Tr k = none ∧ ¬ Z k
  low : ∀ k, Tp k ≠ none ∨ Tr k ≠ none → h0.size ≤ k
  ext : Ext h0 h
structure Go2 (Tp Tr : Nat → Option Nat) (Z : Nat → Prop) (Tp' Tr' : Nat → Option Nat) (Z' : Nat → Prop) (h h' : Heap) : Prop where
  upd : Upd (fun k => Tp k ≠ none ∨ Tr k ≠ none) h h'
  newp : ∀ k, Tp' k ≠ none → Tp k ≠ none ∨ h.size ≤ k
  newr : ∀ k, Tr' k ≠ none → Tr k ≠ none ∨ h.size ≤ k
  newz : ∀ k, Z' k → Z k ∨ h.size ≤ k
theorem Go2.ext {Tp Tr : Nat → Option Nat} {Z : Nat → Prop} {h h' : Heap} (e : Ext h h') : Go2 Tp Tr Z Tp Tr Z h h' := ⟨e.upd _, fun _ h => .inl h, fun _ h => .inl h, fun _ h => .inl h⟩
theorem TwoR.upd {h0 h h' : Heap} {Tp Tr : Nat → Option Nat} {Z : Nat → Prop} {nb rb ob : Nat} {ps : Int → Bool} {cs : List Cn} (hT : TwoR h0 h Tp Tr Z nb rb ob ps cs) {S : Nat → Prop} (hu : Upd S h h') (hd : ∀ k, k < h.size → S k → Tp k = none ∧ Tr k = none ∧ ¬ Z k) (he : Ext h0 h') : TwoR h0 h' Tp Tr Z nb rb ob ps cs :=
  ⟨hT.net.upd hu fun k hk hS => (hd k hk hS).1, hT.ref.upd hu fun k hk hS => (hd k hk hS).2, hT.dis, hT.low, he⟩
theorem TwoR.grow {h0 h h' : Heap} {Tp Tr : Nat → Option Nat} {Z : Nat → Prop} {nb rb ob : Nat} {ps : Int → Bool} {cs : List Cn} (hT : TwoR h0 h Tp Tr Z nb rb ob ps cs) (e : Ext h h') : TwoR h0 h' Tp Tr Z nb rb ob ps cs :=
  hT.upd (S := fun _ => False) (e.upd _) (fun _ _ h => h.elim) (hT.ext.trans e)

/-- the program's step, then the reference's -/
theorem TwoR.step {h0 h h1 h2 : Heap} {Tp Tr Tp' Tr' : Nat → Option Nat} {Z Z' : Nat → Prop} {nb rb ob ob' : Nat} {ps ps' : Int → Bool} {cs cs' : List Cn} (hT : TwoR h0 h Tp Tr Z nb rb ob ps cs) (hn : Net h1 Tp' nb ps' cs') (st : Stp Tp Tp' h h1) (hr : Ref h2 Tr' Z' rb ob' ps' cs') (sz : Stz Tr Z Tr' Z' h1 h2) :
    TwoR h0 h2 Tp' Tr' Z' nb rb ob' ps' cs' ∧ Go2 Tp Tr Z Tp' Tr' Z' h h2 := by
  have l0 := hT.ref.lt
  have p0 := hT.net.lt
  have p1 := hn.lt
  have s1 := st.upd.size
  have s2 := sz.upd.size
  have e1 : Ext h0 h1 := st.ext hT.ext fun k hk => hT.low k (.inl hk)
  have key : ∀ k, Tp' k ≠ none → Tr k = none ∧ ¬ Z k := fun k hk => by
    rcases st.new k hk with h9 | h9
    · exact hT.dis k h9
    · exact ⟨none_new l0.1 h9, fun hz => by have := l0.2.1 k hz; omega⟩
  refine ⟨⟨hn.upd sz.upd fun k hk hS => ?_, hr, fun k hk => ?_, fun k hk => ?_, e1.then sz.upd fun k hk => hT.low k (.inr hk)⟩, ⟨Upd.then (st.upd.mono fun k _ h => .inl h) sz.upd fun k _ h => .inr h, st.new, fun k hk => ?_, fun k hk => ?_⟩⟩
  · refine Classical.byContradiction fun h9 => hS (key k h9).1
  · have hk1 := p1 k hk
    refine ⟨Classical.byContradiction fun h9 => ?_, fun h9 => ?_⟩
    · rcases sz.new k h9 with h8 | h8
      · exact h8 (key k hk).1
      · omega
    · rcases sz.newz k h9 with h8 | h8
      · exact (key k hk).2 h8
      · omega
  · have s0 := hT.ext.size
    rcases hk with h9 | h9
    · rcases st.new k h9 with h8 | h8
      · exact hT.low k (.inl h8)
      · omega
    · rcases sz.new k h9 with h8 | h8
      · exact hT.low k (.inr h8)
      · omega
  · rcases sz.new k hk with h8 | h8
    · exact .inl h8
    · exact .inr (by omega)
  · rcases sz.newz k hk with h8 | h8
    · exact .inl h8
    · exact .inr (by omega)
/-- the reference as it stands behind the program's step -/
theorem TwoR.mid {h0 h h1 : Heap} {Tp Tr Tp' : Nat → Option Nat} {Z : Nat → Prop} {nb rb ob : Nat} {ps : Int → Bool} {cs : List Cn} (hT : TwoR h0 h Tp Tr Z nb rb ob ps cs) (st : Stp Tp Tp' h h1) : Ref h1 Tr Z rb ob ps cs :=
  hT.ref.upd st.upd fun k _ hk => hT.dis k hk

theorem ldPk {h : Heap} {b o : Nat} {p : Option Addr} {c : Array Value} {e : TypeId} {K : Option Addr → Prop} (hb : h[b]? = some (.cells c e (0, 0))) (hc : c[o]? = some (.pointer p)) (hk : K p) : ldP h b o K := ⟨p, (cell_block hb).trans hc, hk⟩

theorem alike_spec {h0 h : Heap} {Tp Tr : Nat → Option Nat} {Z : Nat → Prop} {nb rb ob : Nat} {ps : Int → Bool} {cs : List Cn} (hT : TwoR h0 h Tp Tr Z nb rb ob ps cs) (hlen : cs.length ≤ 1073741824) {K : Bool → Heap → Prop} (hk : ∀ h', Ext h h' → K true h') :
    m_spillwaylaw22_both_alike (some ⟨nb, 0, none⟩, some ⟨rb, 0, none⟩, ()) K h := by
  unfold m_spillwaylaw22_both_alike g_spillwaylaw22_both_alike
  refine newK fun h2 c2 e2 z2 => ldPk c2 rfl ?_
  have hT2 := hT.grow e2
  refine RConns_spec hT2.ref hlen fun out h4 ho4 e4 => ldPk (keepE c2 e4) rfl ?_
  have hT4 := hT2.grow e4
  refine Conns_spec hT4.net hlen fun out2 h7 ho7 e7 => ?_
  have hcl := connsF_len cs 0
  have hol : out.len = (connsF 0 cs).length := Ints.length ho4.row
  refine SameInts_spec ho7.row ((ho4.congr fun k _ hl _ => e7.old k hl).row) ?_
  rw [decide_eq_true rfl]
  refine iteP_false (bindI_intro ?_)
  have hw : IntKind.wrap .i64 ((out.len : Int) + 1) = (out.len : Int) + 1 := wrap64 (by omega) (by omega)
  refine loopM_intro (fun p h' => ∃ k : Nat, p.1 = (k : Int) - 1 ∧ k ≤ out.len + 3 ∧ Ext h7 h') (fun p _ => (out.len + 3 : Nat) - (p.1 + 1).toNat) ⟨0, rfl, by omega, Ext.refl _⟩ ?_
  rintro ⟨i, u⟩ h12 ⟨k, hi, hkl, e12⟩
  dsimp only at hi
  subst hi
  dsimp only
  rw [hw]
  refine iteP_dec (fun hlt => bindI_intro ?_) (fun hge => hk h12 (((e2.trans e4).trans e7).trans e12))
  refine loopM_intro (fun p h' => ∃ j : Nat, p.1 = (j : Int) ∧ j ≤ 2 ∧ Ext h7 h') (fun p _ => 2 - p.1.toNat) ⟨0, rfl, by omega, e12⟩ ?_
  rintro ⟨i, u⟩ h16 ⟨j, hi, hj2, e16⟩
  dsimp only at hi
  subst hi
  dsimp only
  refine iteP_dec (fun hlt2 => ?_) (fun hge2 => bindI_intro ?_)
  · have c16 := keepE (keepE (keepE c2 e4) e7) e16
    have hT16 := (hT4.grow e7).grow e16
    refine ldPk c16 rfl (Look_spec hT16.net (bindI_intro (bindI_intro (bindI_intro (ldPk c16 rfl (RLook_spec hT16.ref fun h26 e26 => bindI_intro (bindI_intro (bindI_intro ?_)))))))) 
    have c26 := keepE c16 e26
    have hT26 := hT16.grow e26
    refine iteP_neg (by simp) (iteP_neg (by simp) (iteP_neg (by simp) (ldPk c26 rfl ⟨(ptS cs ((k : Int) - 1), ()), Port_spec hT26.net ⟨rfl, rfl⟩, ldPk c26 rfl ⟨(ptS cs ((k : Int) - 1), ()), RPort_spec hT26.ref ⟨rfl, rfl⟩, iteP_neg (by simp) (bindI_intro ?_)⟩⟩)))
    rw [wrap64 (by omega) (by omega)]
    exact ⟨⟨j + 1, by omega, by omega, e16.trans e26⟩, by omega⟩
  · rw [wrap64 (by omega) (by omega)]
    exact ⟨⟨k + 1, by omega, by omega, e16⟩, by omega⟩

end Go.Proofs.Ytgkgheaanfgecaa
