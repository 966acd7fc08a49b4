/- Loads: samples, the program's and the reference's. -/
import Derived.Test.YtkcbkiognkkhlaaWoB
namespace Go.Proofs.Ytkcbkiognkkhlaa
open Go Go.Fw

abbrev Smp := Int × Int × Int
abbrev smC (x : Smp) : List Value := [iv x.1, iv x.2.1, iv x.2.2]
abbrev smL (l : List Smp) : List Value := l.flatMap smC
abbrev SmpR (h : Heap) (s : Sl) (l : List Smp) : Prop := Row h s 3 (smL l)

theorem smL_len (l : List Smp) : (smL l).length = l.length * 3 := by
  induction l with
  | nil => rfl
  | cons x l ih => simp only [smL, List.flatMap_cons, List.length_append, List.length_cons] at ih ⊢; rw [ih]; show 3 + _ = _; omega
theorem smL_sub : ∀ {l : List Smp} {n : Nat} {x : Smp}, l[n]? = some x → ((smL l).drop (n * 3)).take 3 = smC x
  | [], n, x, h => by simp at h
  | y :: l, 0, x, h => by
    simp at h
    subst h
    rfl
  | y :: l, n + 1, x, h => by
    have ih := smL_sub (l := l) (n := n) (x := x) (by simpa using h)
    have e : (smL (y :: l)).drop ((n + 1) * 3) = (smL l).drop (n * 3) := by
      simp only [smL, List.flatMap_cons]
      rw [show (n + 1) * 3 = 3 + n * 3 from by omega, ← List.drop_drop]
      rfl
    rw [e, ih]
theorem SmpR.length {h : Heap} {s : Sl} {l : List Smp} (hr : SmpR h s l) : s.len = l.length := by
  have := hr.len
  rw [smL_len] at this
  omega
theorem Own.slen {h : Heap} {base : Nat} {s : Sl} {l : List Smp} (ho : Own h base s 3 (smL l)) : s.len = l.length := by
  have := ho.len
  rw [smL_len] at this
  omega
theorem SmpR.idx {h : Heap} {s : Sl} {l : List Smp} (hr : SmpR h s l) {i : Int} {n : Nat} (hi : i = n) {x : Smp} (hv : l[n]? = some x) {K : Nat → Nat → Prop} (hk : ∀ b o, h.has b o (smC x) → K b o) : idxA s.ptr s.len i 3 K := by
  have hlt : n < l.length := by
    rcases Nat.lt_or_ge n l.length with h9 | h9
    · exact h9
    · rw [List.getElem?_eq_none h9] at hv; cases hv
  have hl := SmpR.length hr
  subst hi
  rcases hr.at_ with h0 | ⟨b, o, hp, hh⟩
  · omega
  · refine ⟨b, o, hp, by omega, by omega, ?_⟩
    rw [Int.toNat_natCast]
    refine hk _ _ ?_
    have := has_sub hh (n * 3) 3
    rw [smL_sub hv] at this
    exact this
theorem ld3 {h : Heap} {b o : Nat} {x : Smp} {K : Int → Int → Int → Prop} (hh : h.has b o (smC x)) (hk : K x.1 x.2.1 x.2.2) :
    ldI h b o .i64 fun t => ldI h b (o + 1) .i64 fun t4 => ldI h b (o + 2) .i64 fun t5 => K t t4 t5 := by
  obtain ⟨h0, h1, h2, _⟩ := hh
  exact ⟨_, h0, _, h1, _, h2, hk⟩
theorem one3 (l : List Smp) : (smL l).all oneCell = true := by
  induction l with
  | nil => rfl
  | cons x l ih => simp only [smL, List.flatMap_cons, List.all_append] at ih ⊢; rw [ih]; rfl

theorem SClone_spec {b : Sl} {l : List Smp} {h : Heap} {K : Sl → Heap → Prop} (hb : SmpR h b l) (hsz : l.length ≤ 1099511627776)
    (hk : ∀ s h', Own h' h.size s 3 (smL l) → Ext h h' → K s h') : m_slices_Clone_world_Sample_world_Sample_ b K h := by
  unfold m_slices_Clone_world_Sample_world_Sample_ g_slices_Clone_world_Sample_world_Sample_
  have hlen := SmpR.length hb
  cases hp : b.ptr with
  | none =>
    refine iteP_true ?_
    have : l = [] := by
      rcases hb.at_ with h0 | ⟨bb, o, hp', _⟩
      · exact List.eq_nil_of_length_eq_zero (by omega)
      · rw [hp] at hp'; cases hp'
    subst this
    exact hk _ _ (Own.nil h h.size 3) (Ext.refl h)
  | some a =>
    refine iteP_false ?_
    have hext := Ext.push h (.cells #[] 66)
    refine newC_intro ((hb.ext hext).rd ?_)
    have ho := Own.newC (h := h) (cells := []) (t := 66) (size := 3) (n := 0) rfl (by decide)
    refine Own.app ho (by rw [smL_len, hlen]) (one3 l) rfl (by simp [hlen]; omega) (by simp [hlen]; omega) (by simp) ?_
    intro s' h' ho' hl' hu hblk
    refine hk s' h' (by simpa using ho') (hext.then hu ?_)
    intro k hk
    simp [Sl.blk] at hk
    omega

def cntB (n : Int) : Bool := decide (n ≥ 0) && decide (n ≤ 1099511627776)
theorem may_spec {n : Int} {K : Bool → Heap → Prop} {h : Heap} (hk : K (cntB n) h) : m_world_Load_Add_1 n K h := by
  unfold m_world_Load_Add_1 g_world_Load_Add_1
  unfold cntB at hk
  refine ⟨fun e => bindB_intro ?_, fun e => ?_⟩
  · rw [e] at hk; exact hk
  · rw [e] at hk; exact hk

def lateB (all : List Smp) (x : Smp) : Bool := match all.getLast? with
  | some y => decide (x.1 < y.1)
  | none => false
def addG (all : List Smp) : List Smp → Int × List Smp
  | [] => (0, all)
  | x :: r => if (tmB x.1 && (cntB x.2.1 && cntB x.2.2)) = false then (2, all) else if lateB all x = true then (7, all) else if all.length ≥ 4096 then (3, all) else addG (all ++ [x]) r
/-- what Add tells, and what there is then -/
def addS (l0 l : List Smp) : Int × List Smp := if (addG l0 l).1 = 0 then (0, (addG l0 l).2) else ((addG l0 l).1, l0)

theorem addG_len : ∀ (l all : List Smp), all.length ≤ 4096 → (addG all l).2.length ≤ 4096
  | [], all, h => h
  | x :: r, all, h => by
    unfold addG
    split
    · exact h
    · split
      · exact h
      · split
        · exact h
        · exact addG_len r _ (by simp; omega)

structure IsL (T : TypeId) (h : Heap) (b : Nat) (S : Nat → Prop) (l : List Smp) : Prop where
  cells : ∃ s : Sl, h[b]? = some (.cells #[slV s] T (0, 0)) ∧ SmpR h s l ∧ ∀ k, s.blk = some k → S k
section
variable {T : TypeId} {h h' : Heap} {b : Nat} {S S' : Nat → Prop} {l : List Smp}
theorem IsL.mono (hr : IsL T h b S l) (hs : ∀ k, S k → S' k) : IsL T h b S' l := by
  obtain ⟨s, h1, h2, h3⟩ := hr.cells
  exact ⟨s, h1, h2, fun k hk => hs k (h3 k hk)⟩
theorem IsL.upd {U : Nat → Prop} (hr : IsL T h b S l) (hu : Upd U h h') (hb : ¬ U b) (hs : ∀ k, S k → k < h.size → ¬ U k) : IsL T h' b S l := by
  obtain ⟨s, h1, h2, h3⟩ := hr.cells
  have hlt : b < h.size := by
    rcases Nat.lt_or_ge b h.size with hl | hl
    · exact hl
    · rw [Array.getElem?_eq_none hl] at h1; cases h1
  exact ⟨s, by rw [hu.old b hlt hb]; exact h1, h2.congr fun k o hp _ hl => hu.old k hl (hs k (h3 k (by simp [Sl.blk, hp])) hl), h3⟩
theorem IsL.ext (hr : IsL T h b S l) (he : Ext h h') : IsL T h' b S l := hr.upd (U := fun _ => False) (he.upd _) id fun _ _ _ => id
theorem IsL.lt (hr : IsL T h b S l) : b < h.size := by
  obtain ⟨s, hb, _⟩ := hr.cells
  rcases Nat.lt_or_ge b h.size with hl | hl
  · exact hl
  · rw [Array.getElem?_eq_none hl] at hb; cases hb
end

theorem last_of {all : List Smp} (h : 0 < all.length) : ∃ y, all[all.length - 1]? = some y ∧ all.getLast? = some y := by
  have : all.length - 1 < all.length := by omega
  refine ⟨all[all.length - 1], List.getElem?_eq_getElem this, ?_⟩
  rw [List.getLast?_eq_getElem?, List.getElem?_eq_getElem this]

/-- a sample more -/
theorem push3 {T : TypeId} {h h1 : Heap} {base : Nat} {s : Sl} {l : List Smp} {x : Smp} {K : Sl → Heap → Prop} (ho : Own h base s 3 (smL l)) (hext : Ext h h1) (hbase : base ≤ h.size) (hn : l.length ≤ 1099511627776)
    (hk : ∀ s' h', Own h' base s' 3 (smL (l ++ [x])) → Upd (fun k => s.blk = some k) h1 h' → K s' h') :
    newC h1 (smC x) T fun b h2 => rdS ⟨some ⟨b, 0, none⟩, 1, 1⟩ 3 h2 fun new => app T 3 24 [Value.int .i64 0, Value.int .i64 0, Value.int .i64 0] s 1 new h2 K := by
  refine newK fun h2 c2 e2 z2 => ?_
  have hrow : Row h2 ⟨some ⟨h1.size, 0, none⟩, 1, 1⟩ 3 (smC x) := ⟨rfl, Nat.le_refl _, (show 1 < 9223372036854775808 by decide), .inr ⟨h1.size, 0, rfl, has_block c2 fun i v hi => by simpa using hi⟩⟩
  refine hrow.rd ?_
  have holen := Own.slen ho
  have z1 := hext.size
  have ho2 := ho.congr (h' := h2) fun k _ hl _ => (hext.trans e2).old k hl
  refine Own.app ho2 rfl rfl rfl (by omega) (by omega) (by omega) fun s' h' ho' hl' hu hblk => hk s' h' ?_ ?_
  · have e : smL (l ++ [x]) = smL l ++ smC x := by simp [smL]
    rw [e]; exact ho'
  · exact Upd.then (e2.upd _) hu fun k _ hk => hk

theorem Add_spec {h : Heap} {b : Nat} {S : Nat → Prop} {l0 l : List Smp} {s : Sl} {K : Int → Heap → Prop} (hr : IsL 101 h b S l0) (hl0 : l0.length ≤ 4096) (hs : SmpR h s l)
    (hk : ∀ h', IsL 101 h' b (fun k => S k ∨ (h.size ≤ k ∧ k < h'.size)) (addS l0 l).2 → Upd (· = b) h h' → K (addS l0 l).1 h') : m_world_Load_Add (some ⟨b, 0, none⟩) s K h := by
  unfold m_world_Load_Add g_world_Load_Add
  have hlt := hr.lt
  have hr0 := hr
  obtain ⟨q, hq, hql, hqb⟩ := hr.cells
  have hlen := SmpR.length hs
  have hcap := hs.cap
  have hbig := hs.big
  -- an error leaves it
  have bad : ∀ (e : Int) (all : List Smp) (h' : Heap), addG l0 l = (e, all) → e ≠ 0 → Ext h h' → K e h' := fun e all h' he hne hx => by
    have h1 : addS l0 l = (e, l0) := by unfold addS; rw [he, if_neg hne]
    have := hk h' (by rw [h1]; exact (hr0.ext hx).mono fun k hk => .inl hk) (hx.upd _)
    rw [h1] at this
    exact this
  refine bindI_intro (iteP_false (deref_ (ldLk hq rfl (SClone_spec hql (by omega) fun t3 h4 ho4 e4 => ?_))))
  refine loopM_intro (fun p h' => ∃ (k : Nat) (all : List Smp), p.2.1 = (k : Int) ∧ k ≤ l.length ∧ Ext h h' ∧ Own h' h.size p.1 3 (smL all) ∧ all.length ≤ 4096 ∧ addG l0 l = addG all (l.drop k)) (fun p _ => l.length - p.2.1.toNat)
    ⟨0, l0, rfl, Nat.zero_le _, e4, ho4, hl0, rfl⟩ ?_
  rintro ⟨next, i, u⟩ h7 ⟨k, all, hi, hkl, hext, hown, hal, hg⟩
  dsimp only at hi hown
  subst hi
  dsimp only
  have hnl := Own.slen hown
  refine iteP_dec (fun hlt1 => ?_) (fun hge => ?_)
  · have hk1 : k < l.length := by omega
    have hx : l[k]? = some l[k] := List.getElem?_eq_getElem hk1
    have hd : l.drop k = l[k] :: l.drop (k + 1) := List.drop_eq_getElem_cons hk1
    generalize l[k] = x at hx hd
    rw [hd, addG] at hg
    refine SmpR.idx (hs.ext hext) rfl hx fun b8 o9 hh => ld3 hh ?_
    refine newK fun h14 c14 e14 z14 => stsAll c14 rfl rfl fun h15 c15 u15 z15 => bindI_intro ?_
    have x15 : Ext h7 h15 := e14.then u15 fun k hk => by omega
    have y15 := hext.trans x15
    refine ldIk c15 rfl (isTime_spec ⟨fun e => bindI_intro ?_, fun e => ?_⟩)
    · have e' : tmB x.1 = false := by simpa using e
      rw [if_pos (by rw [e']; rfl)] at hg
      exact bad 2 all _ hg (by decide) y15
    have e1 : tmB x.1 = true := by simpa using e
    refine ldIk c15 rfl (may_spec ⟨fun e => bindI_intro ?_, fun e => ?_⟩)
    · have e' : cntB x.2.1 = false := by simpa using e
      rw [if_pos (by rw [e']; simp)] at hg
      exact bad 2 all _ hg (by decide) y15
    have e2 : cntB x.2.1 = true := by simpa using e
    refine ldIk c15 rfl (may_spec (bindB_intro ⟨fun e => bindI_intro ?_, fun e => ?_⟩))
    · have e' : cntB x.2.2 = false := by simpa using e
      rw [if_pos (by rw [e']; simp)] at hg
      exact bad 2 all _ hg (by decide) y15
    have e3 : cntB x.2.2 = true := by simpa using e
    rw [if_neg (by rw [e1, e2, e3]; simp)] at hg
    have c15' : h15[h7.size]? = some (.cells (smC x).toArray 66 (0, 0)) := c15
    -- what is left, whether there is one before it or not
    have rest : lateB all x = false → bindB (decide ((next.len : Int) ≥ 4096)) fun t35 => iteP t35 (bindI 3 fun t36 => K t36 h15) (
        ldI h15 h7.size 0 .i64 fun t37 => ldI h15 h7.size (0 + 1) .i64 fun t38 => ldI h15 h7.size (0 + 2) .i64 fun t39 =>
        newC h15 [Value.int .i64 t37, Value.int .i64 t38, Value.int .i64 t39] 66 fun b40 h41 =>
        rdS ⟨some ⟨b40, 0, none⟩, 1, 1⟩ 3 h41 fun new => app 66 3 24 [Value.int .i64 0, Value.int .i64 0, Value.int .i64 0] next 1 new h41 fun t42 h43 =>
        (∃ (k' : Nat) (all : List Smp), (IntKind.wrap .i64 ((k : Int) + 1)) = (k' : Int) ∧ k' ≤ l.length ∧ Ext h h43 ∧ Own h43 h.size t42 3 (smL all) ∧ all.length ≤ 4096 ∧ addG l0 l = addG all (l.drop k')) ∧ l.length - (IntKind.wrap .i64 ((k : Int) + 1)).toNat < l.length - ((k : Int)).toNat) := fun hlate => by
      rw [if_neg (by rw [hlate]; simp)] at hg
      refine bindB_intro (iteP_dec (fun h1 => bindI_intro ?_) (fun h1 => ?_))
      · rw [if_pos (by omega)] at hg
        exact bad 3 all _ hg (by decide) y15
      · rw [if_neg (by omega)] at hg
        refine ldIk c15' rfl (ldIk c15' rfl (ldIk c15' rfl ?_))
        refine push3 hown x15 hext.size (by omega) fun s' h' ho' hu' => ?_
        rw [wrap64 (n := (k : Int) + 1) (by omega) (by omega)]
        exact ⟨⟨k + 1, all ++ [x], by omega, by omega, y15.then hu' fun k hk => (hown.lt hk).1, ho', by simp; omega, hg⟩, by omega⟩
    refine iteP_dec (fun hpos => ?_) (fun hnil => ?_)
    · obtain ⟨y, hy, hlast⟩ := last_of (all := all) (by omega)
      refine ldIk c15 rfl ?_
      have hrow : SmpR h15 next all := (hown.congr (h' := h15) fun k _ hl _ => x15.old k hl).row
      refine SmpR.idx hrow (n := all.length - 1) (by rw [wrap64 (by omega) (by omega)]; omega) hy fun b30 o31 hh => ⟨_, hh.1, bindB_intro (iteP_dec (fun h1 => bindI_intro ?_) (fun h1 => ?_))⟩
      · rw [if_pos (by unfold lateB; rw [hlast]; simpa using h1)] at hg
        exact bad 7 all _ hg (by decide) y15
      · exact rest (by unfold lateB; rw [hlast]; simpa using h1)
    · have hn : all = [] := List.eq_nil_of_length_eq_zero (by omega)
      exact rest (by unfold lateB; rw [hn]; rfl)
  · have hk9 : k = l.length := by omega
    subst hk9
    rw [List.drop_length] at hg
    have h1 : addS l0 l = (0, all) := by unfold addS; rw [hg]; rfl
    have hq7 := keepE hq hext
    refine deref_ (put2 hq7 (by simp) rfl fun h56 c56 u56 z56 => bindI_intro ?_)
    have := hk h56 (by
      rw [h1]
      refine ⟨next, c56, ?_, fun k hk => .inr ⟨(hown.lt hk).1, by rw [z56]; exact (hown.lt hk).2⟩⟩
      exact hown.row.congr fun k o hp _ hl => u56.old k hl (by have := (hown.lt (b := k) (by simp [Sl.blk, hp])).1; omega)) ((hext.upd _).trans u56)
    rw [h1] at this
    exact this

theorem RAdd_spec {h : Heap} {b : Nat} {S : Nat → Prop} {l0 l : List Smp} {s : Sl} {K : Int → Heap → Prop} (hr : IsL 64 h b S l0) (hl0 : l0.length ≤ 4096) (hs : SmpR h s l)
    (hk : ∀ h', IsL 64 h' b (fun k => S k ∨ (h.size ≤ k ∧ k < h'.size)) (addS l0 l).2 → Upd (· = b) h h' → K (addS l0 l).1 h') : m_spillwayref02_Load_Add (some ⟨b, 0, none⟩) s K h := by
  unfold m_spillwayref02_Load_Add g_spillwayref02_Load_Add
  have hlt := hr.lt
  have hr0 := hr
  obtain ⟨q, hq, hql, hqb⟩ := hr.cells
  have hlen := SmpR.length hs
  have hqlen := SmpR.length hql
  have hcap := hs.cap
  have hbig := hs.big
  have bad : ∀ (e : Int) (all : List Smp) (h' : Heap), addG l0 l = (e, all) → e ≠ 0 → Ext h h' → K e h' := fun e all h' he hne hx => by
    have h1 : addS l0 l = (e, l0) := by unfold addS; rw [he, if_neg hne]
    have := hk h' (by rw [h1]; exact (hr0.ext hx).mono fun k hk => .inl hk) (hx.upd _)
    rw [h1] at this
    exact this
  refine bindI_intro (iteP_false (newC_intro ?_))
  have hext2 := Ext.push h (.cells #[] 68)
  have hq2 := keepE hq hext2
  refine deref_ (ldLk hq2 rfl ((hql.ext hext2).rd ?_))
  have ho2 := Own.newC (h := h) (cells := []) (t := 68) (size := 3) (n := 0) rfl (by decide)
  refine Own.app ho2 (by rw [smL_len, hqlen]) (one3 l0) rfl (by simp [hqlen]; omega) (by simp [hqlen]; omega) (by simp) fun t5 h6 ho6 hl6 hu6 hblk6 => bindI_intro ?_
  have e6 : Ext h h6 := hext2.then hu6 fun k hk => by simp [Sl.blk] at hk; omega
  rw [List.nil_append] at ho6
  refine loopM_intro (fun p h' => ∃ (k : Nat) (all : List Smp), p.2.1 = (k : Int) ∧ k ≤ l.length ∧ Ext h h' ∧ Own h' h.size p.1 3 (smL all) ∧ all.length ≤ 4096 ∧ addG l0 l = addG all (l.drop k)) (fun p _ => l.length - p.2.1.toNat)
    ⟨0, l0, rfl, Nat.zero_le _, e6, ho6, hl0, rfl⟩ ?_
  rintro ⟨next, i, u⟩ h7 ⟨k, all, hi, hkl, hext, hown, hal, hg⟩
  dsimp only at hi hown
  subst hi
  dsimp only
  have hnl := Own.slen hown
  refine iteP_dec (fun hlt1 => ?_) (fun hge => ?_)
  · have hk1 : k < l.length := by omega
    have hx : l[k]? = some l[k] := List.getElem?_eq_getElem hk1
    have hd : l.drop k = l[k] :: l.drop (k + 1) := List.drop_eq_getElem_cons hk1
    generalize l[k] = x at hx hd
    rw [hd, addG] at hg
    refine SmpR.idx (hs.ext hext) rfl hx fun b8 o9 hh => ld3 hh ?_
    refine newK fun h14 c14 e14 z14 => stsAll c14 rfl rfl fun h15 c15 u15 z15 => ?_
    have x15 : Ext h7 h15 := e14.then u15 fun k hk => by omega
    have y15 := hext.trans x15
    have c15' : h15[h7.size]? = some (.cells (smC x).toArray 68 (0, 0)) := c15
    refine ldIk c15 rfl (RIsTime_spec ⟨fun e => bindI_intro ?_, fun e => ?_⟩)
    · have e' : tmB x.1 = false := by simpa using e
      rw [if_pos (by rw [e']; rfl)] at hg
      exact bad 2 all _ hg (by decide) y15
    have e1 : tmB x.1 = true := by simpa using e
    have bad2 : (cntB x.2.1 = false ∨ cntB x.2.2 = false) → K 2 h15 := fun hc => by
      rw [if_pos (by rcases hc with hc | hc <;> rw [hc] <;> simp)] at hg
      exact bad 2 all _ hg (by decide) y15
    refine ldIk c15 rfl (iteP_dec (fun h1 => bindI_intro (bad2 (.inl (by unfold cntB; rw [decide_eq_false (by omega)]; rfl)))) (fun h1 => ?_))
    refine ldIk c15 rfl (iteP_dec (fun h2 => bindI_intro (bad2 (.inl (by unfold cntB; rw [decide_eq_false (p := x.2.1 ≤ 1099511627776) (by omega)]; simp)))) (fun h2 => ?_))
    refine ldIk c15 rfl (iteP_dec (fun h3 => bindI_intro (bad2 (.inr (by unfold cntB; rw [decide_eq_false (by omega)]; rfl)))) (fun h3 => ?_))
    refine ldIk c15 rfl (bindB_intro (iteP_dec (fun h4 => bindI_intro (bad2 (.inr (by unfold cntB; rw [decide_eq_false (p := x.2.2 ≤ 1099511627776) (by omega)]; simp)))) (fun h4 => ?_)))
    have e2 : cntB x.2.1 = true := by unfold cntB; rw [decide_eq_true (by omega), decide_eq_true (by omega)]; rfl
    have e3 : cntB x.2.2 = true := by unfold cntB; rw [decide_eq_true (by omega), decide_eq_true (by omega)]; rfl
    rw [if_neg (by rw [e1, e2, e3]; simp)] at hg
    have rest : lateB all x = false → bindB ((next.len : Int) == 4096) fun t35 => iteP t35 (bindI 3 fun t36 => K t36 h15) (
        ldI h15 h7.size 0 .i64 fun t37 => ldI h15 h7.size (0 + 1) .i64 fun t38 => ldI h15 h7.size (0 + 2) .i64 fun t39 =>
        newC h15 [Value.int .i64 t37, Value.int .i64 t38, Value.int .i64 t39] 68 fun b40 h41 =>
        rdS ⟨some ⟨b40, 0, none⟩, 1, 1⟩ 3 h41 fun new => app 68 3 24 [Value.int .i64 0, Value.int .i64 0, Value.int .i64 0] next 1 new h41 fun t42 h43 =>
        bindI (IntKind.wrap .i64 ((k : Int) + 1)) fun i48 => (∃ (k' : Nat) (all : List Smp), i48 = (k' : Int) ∧ k' ≤ l.length ∧ Ext h h43 ∧ Own h43 h.size t42 3 (smL all) ∧ all.length ≤ 4096 ∧ addG l0 l = addG all (l.drop k')) ∧ l.length - i48.toNat < l.length - ((k : Int)).toNat) := fun hlate => by
      rw [if_neg (by rw [hlate]; simp)] at hg
      refine bindB_intro ⟨fun h1 => bindI_intro ?_, fun h1 => ?_⟩
      · have h1' : next.len = 4096 := by simp at h1; omega
        rw [if_pos (by omega)] at hg
        exact bad 3 all _ hg (by decide) y15
      · have h1' : next.len ≠ 4096 := by simp at h1; omega
        rw [if_neg (by omega)] at hg
        refine ldIk c15' rfl (ldIk c15' rfl (ldIk c15' rfl ?_))
        refine push3 hown x15 hext.size (by omega) fun s' h' ho' hu' => bindI_intro ?_
        rw [wrap64 (n := (k : Int) + 1) (by omega) (by omega)]
        exact ⟨⟨k + 1, all ++ [x], by omega, by omega, y15.then hu' fun k hk => (hown.lt hk).1, ho', by simp; omega, hg⟩, by omega⟩
    refine iteP_dec (fun hpos => ?_) (fun hnil => ?_)
    · obtain ⟨y, hy, hlast⟩ := last_of (all := all) (by omega)
      refine ldIk c15 rfl ?_
      have hrow : SmpR h15 next all := (hown.congr (h' := h15) fun k _ hl _ => x15.old k hl).row
      refine SmpR.idx hrow (n := all.length - 1) (by rw [wrap64 (by omega) (by omega)]; omega) hy fun b30 o31 hh => ⟨_, hh.1, bindB_intro (iteP_dec (fun h1 => bindI_intro ?_) (fun h1 => ?_))⟩
      · rw [if_pos (by unfold lateB; rw [hlast]; simpa using h1)] at hg
        exact bad 7 all _ hg (by decide) y15
      · exact rest (by unfold lateB; rw [hlast]; simpa using h1)
    · have hn : all = [] := List.eq_nil_of_length_eq_zero (by omega)
      exact rest (by unfold lateB; rw [hn]; rfl)
  · have hk9 : k = l.length := by omega
    subst hk9
    rw [List.drop_length] at hg
    have h1 : addS l0 l = (0, all) := by unfold addS; rw [hg]; rfl
    have hq7 := keepE hq hext
    refine deref_ (put2 hq7 (by simp) rfl fun h56 c56 u56 z56 => bindI_intro ?_)
    have := hk h56 (by
      rw [h1]
      refine ⟨next, c56, ?_, fun k hk => .inr ⟨(hown.lt hk).1, by rw [z56]; exact (hown.lt hk).2⟩⟩
      exact hown.row.congr fun k o hp _ hl => u56.old k hl (by have := (hown.lt (b := k) (by simp [Sl.blk, hp])).1; omega)) ((hext.upd _).trans u56)
    rw [h1] at this
    exact this

/-- a new load -/
theorem NewLoad_spec {h : Heap} {l : List Smp} {s : Sl} {K : Option Addr → Int → Heap → Prop} (hs : SmpR h s l)
    (hk : ∀ h', ((addS [] l).1 = 0 → IsL 101 h' h.size (fun k => h.size < k ∧ k < h'.size) (addS [] l).2) → Ext h h' → h.size < h'.size → K (if (addS [] l).1 = 0 then some ⟨h.size, 0, none⟩ else none) (addS [] l).1 h') : m_world_NewLoad s K h := by
  unfold m_world_NewLoad g_world_NewLoad
  refine bindI_intro (newK fun h1 c1 e1 z1 => ?_)
  have hr : IsL 101 h1 h.size (fun _ => False) [] := ⟨⟨none, 0, 0⟩, c1, Row.nil _ 3, by simp [Sl.blk]⟩
  refine Add_spec hr (by simp) (hs.ext e1) fun h3 hr3 u3 => bindI_intro ?_
  have x3 : Ext h h3 := e1.then u3 fun k hk => by omega
  have := hk h3 (fun _ => hr3.mono fun k hk => by
    rcases hk with hk | hk
    · exact hk.elim
    · exact ⟨by omega, hk.2⟩) x3 (by have := u3.size; omega)
  refine ⟨fun e => bindI_intro ?_, fun e => bindI_intro ?_⟩
  · rw [if_neg (by simpa using e)] at this
    exact this
  · have e' : (addS [] l).1 = 0 := by simpa using e
    rw [if_pos e', e'] at this
    exact this
theorem RNewLoad_spec {h : Heap} {l : List Smp} {s : Sl} {K : Option Addr → Int → Heap → Prop} (hs : SmpR h s l)
    (hk : ∀ h', ((addS [] l).1 = 0 → IsL 64 h' h.size (fun k => h.size < k ∧ k < h'.size) (addS [] l).2) → Ext h h' → h.size < h'.size → K (if (addS [] l).1 = 0 then some ⟨h.size, 0, none⟩ else none) (addS [] l).1 h') : m_spillwayref02_NewLoad s K h := by
  unfold m_spillwayref02_NewLoad g_spillwayref02_NewLoad
  refine bindI_intro (newK fun h1 c1 e1 z1 => ?_)
  have hr : IsL 64 h1 h.size (fun _ => False) [] := ⟨⟨none, 0, 0⟩, c1, Row.nil _ 3, by simp [Sl.blk]⟩
  refine RAdd_spec hr (by simp) (hs.ext e1) fun h3 hr3 u3 => bindI_intro ?_
  have x3 : Ext h h3 := e1.then u3 fun k hk => by omega
  have := hk h3 (fun _ => hr3.mono fun k hk => by
    rcases hk with hk | hk
    · exact hk.elim
    · exact ⟨by omega, hk.2⟩) x3 (by have := u3.size; omega)
  refine ⟨fun e => bindI_intro ?_, fun e => bindI_intro ?_⟩
  · rw [if_neg (by simpa using e)] at this
    exact this
  · have e' : (addS [] l).1 = 0 := by simpa using e
    rw [if_pos e', e'] at this
    exact this

/-- the load at a time -/
def atS (l : List Smp) (n : Int) : Smp := l.foldl (fun s x => if x.1 ≤ n then x else s) (0, 0, 0)
theorem atS_snoc (l : List Smp) (x : Smp) (n : Int) : atS (l ++ [x]) n = if x.1 ≤ n then x else atS l n := by unfold atS; rw [List.foldl_append]; rfl

theorem At_spec {h : Heap} {b : Nat} {S : Nat → Prop} {l : List Smp} {n : Int} {K : (Int × Int × Int × Unit) → Heap → Prop} (hr : IsL 101 h b S l) (hk : ∀ h', Ext h h' → K ((atS l n).1, (atS l n).2.1, (atS l n).2.2, ()) h') : m_world_Load_At (some ⟨b, 0, none⟩) n K h := by
  unfold m_world_Load_At g_world_Load_At
  refine newK fun h1 c1 e1 z1 => newK fun h3 c3 e3 z3 => iteP_false ?_
  obtain ⟨q, hq, hql, _⟩ := (hr.ext (e1.trans e3)).cells
  have x3 := e1.trans e3
  replace c1 := keepE c1 e3
  have hlen := SmpR.length hql
  have hcap := hql.cap
  have hbig := hql.big
  have hqlt : ∀ k o, q.ptr = some ⟨k, o, none⟩ → smL l ≠ [] → k < h.size := by
    obtain ⟨q', hq', hql', _⟩ := hr.cells
    have : q' = q := by
      have h1 := keepE hq' x3
      rw [hq] at h1
      simp only [Option.some.injEq, Obj.cells.injEq, Array.mk.injEq, List.cons.injEq, and_true, slV, Value.slice.injEq] at h1
      obtain ⟨a, b, c⟩ := h1
      cases q; cases q'
      simp at a b c
      simp [a, b, c]
    subst this
    intro k o hp hne
    rcases hql'.at_ with h0 | ⟨b2, o2, hp2, hh⟩
    · exact absurd (hql'.nil_of h0) hne
    · rw [hp] at hp2
      cases hp2
      exact has_lt hh hne
  refine deref_ (ldLk hq rfl ?_)
  refine loopM_intro (fun p h' => ∃ k : Nat, p.1 = (k : Int) ∧ k ≤ l.length ∧ Upd (fun j => h.size ≤ j) h3 h' ∧ h'[h.size]? = h3[h.size]? ∧ h'[h1.size]? = some (.cells (smC (atS (l.take k) n)).toArray 66 (0, 0))) (fun p _ => l.length - p.1.toNat)
    ⟨0, rfl, Nat.zero_le _, Upd.refl _ _, rfl, c3⟩ ?_
  rintro ⟨i, u⟩ h13 ⟨k, hi, hkl, hU, hb1, hb2⟩
  dsimp only at hi
  subst hi
  dsimp only
  have zU := hU.size
  refine iteP_dec (fun hlt => ?_) (fun hge => ?_)
  · have hk1 : k < l.length := by omega
    have hx : l[k]? = some l[k] := List.getElem?_eq_getElem hk1
    have htk : l.take (k + 1) = l.take k ++ [l[k]] := List.take_succ_eq_append_getElem hk1
    generalize l[k] = x at hx htk
    have hql13 : SmpR h13 q l := hql.congr fun k o hp hne hl => hU.old k hl (by have := hqlt k o hp hne; omega)
    refine SmpR.idx hql13 rfl hx fun b14 o15 hh => ld3 hh ?_
    refine newK fun h20 c20 e20 z20 => stsAll c20 rfl rfl fun h21 c21 u21 z21 => ?_
    have x21 : Ext h13 h21 := e20.then u21 fun k hk => by omega
    have hb1' := fun v (hv : h13[h.size]? = some v) => keepE hv x21
    have hb2' := keepE hb2 x21
    have hwr : IntKind.wrap .i64 ((k : Int) + 1) = ((k + 1 : Nat) : Int) := by rw [wrap64 (by omega) (by omega)]; omega
    refine ldIk c21 rfl (iteP_dec (fun h1 => ?_) (fun h1 => ?_))
    · refine ldIk c21 rfl (ldIk c21 rfl (ldIk c21 rfl (stsAll hb2' rfl rfl fun h26 c26 u26 z26 => ?_)))
      rw [hwr]
      refine ⟨⟨k + 1, rfl, by omega, Upd.then (hU.trans (x21.upd _)) u26 fun k hk hk2 => by omega, ?_, ?_⟩, by omega⟩
      · rw [u26.old h.size (by omega) (by omega), x21.old h.size (by omega), hb1]
      · rw [htk, atS_snoc, if_pos h1]
        exact c26
    · rw [hwr]
      refine ⟨⟨k + 1, rfl, by omega, hU.trans (x21.upd _), ?_, ?_⟩, by omega⟩
      · rw [x21.old h.size (by omega), hb1]
      · rw [htk, atS_snoc, if_neg h1]
        exact hb2'
  · have hk9 : k = l.length := by omega
    subst hk9
    rw [List.take_of_length_le (Nat.le_refl _)] at hb2
    refine ldIk hb2 rfl (ldIk hb2 rfl (ldIk hb2 rfl (stsAll (hb1.trans c1) rfl rfl fun h30 c30 u30 z30 => ?_)))
    refine ldIk c30 rfl (ldIk c30 rfl (ldIk c30 rfl (hk h30 ?_)))
    exact (x3.then hU fun k hk => hk).then u30 fun k hk => by omega

end Go.Proofs.Ytkcbkiognkkhlaa
