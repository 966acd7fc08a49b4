/- One deed on both networks. -/
import Derived.Test.YtgkgheaanfgecaaStQ
namespace Go.Proofs.Ytgkgheaanfgecaa
open Go Go.Fw

abbrev DeedV := Int × Int × Int × Int × Sl × Sl × Unit
def dV (d : Deed) (pl bl : Sl) : DeedV := (d.kind, d.conn, d.end_, d.n, pl, bl, ())

def firstF (l : List Int) : Int := match l with
  | [] => 0
  | x :: _ => x
theorem first_spec {h : Heap} {d : Deed} {pl bl : Sl} (hp : Ints h pl d.ports) {K : Int → Heap → Prop} (hk : ∀ h', Ext h h' → K (firstF d.ports) h') : m_spillwaylaw22_Deed_first (dV d pl bl) K h := by
  unfold m_spillwaylaw22_Deed_first g_spillwaylaw22_Deed_first
  have hl := hp.length
  refine newK fun h1 c1 e1 z1 => bindI_intro (ldLk (s := pl) c1 rfl ⟨fun e => bindI_intro ?_, fun e => ?_⟩)
  · have h0 : pl.len = 0 := by simpa using e
    have : d.ports = [] := List.eq_nil_of_length_eq_zero (by omega)
    rw [this] at hk
    exact hk h1 e1
  · have h0 : pl.len ≠ 0 := by simpa using e
    cases hd : d.ports with
    | nil => rw [hd] at hl; simp at hl; omega
    | cons x r =>
      rw [hd] at hp hk
      refine ldLk (s := pl) c1 rfl (Ints.idx (hp.ext e1) (n := 0) rfl (x := x) rfl (bindI_intro (hk h1 e1)))

def brokenF (d : Deed) : List Int := match d.ports with
  | [] => [d.conn]
  | x :: _ => [d.conn, x]
theorem newO {h : Heap} {cells : List Value} {t : TypeId} {K : Nat → Heap → Prop} (size n : Nat) (hl : cells.length = n * size) (hn : n < 9223372036854775808) (hk : ∀ h1, Own h1 h.size ⟨some ⟨h.size, 0, none⟩, n, n⟩ size cells → Ext h h1 → h1.size = h.size + 1 → K h.size h1) : newC h cells t K :=
  newC_intro (hk _ (Own.newC hl hn) (Ext.push _ _) (by simp))
theorem broken_spec {h : Heap} {d : Deed} {pl bl : Sl} (hp : Ints h pl d.ports) {K : Sl → Heap → Prop} (hk : ∀ s h', Own h' h.size s 1 ((brokenF d).map iv) → Ext h h' → K s h') : m_spillwaylaw22_Deed_broken (dV d pl bl) K h := by
  unfold m_spillwaylaw22_Deed_broken g_spillwaylaw22_Deed_broken
  have hl := hp.length
  refine newK fun h1 c1 e1 z1 => ldIk c1 rfl (newO 1 1 rfl (by decide) fun h3 o3 e3 z3 => ?_)
  have c3 := keepE c1 e3
  refine ldLk (s := pl) c3 rfl (iteP_dec (fun hpos => ?_) (fun hneg => ?_))
  · cases hd : d.ports with
    | nil => rw [hd] at hl; simp at hl; omega
    | cons x r =>
      have hb : brokenF d = [d.conn, x] := by unfold brokenF; rw [hd]
      rw [hd] at hp
      refine ldLk (s := pl) c3 rfl (Ints.idx (hp.ext (e1.trans e3)) (n := 0) rfl (x := x) rfl ?_)
      refine newK fun h9 c9 e9 z9 => ?_
      have hrow : Row h9 ⟨some ⟨h3.size, 0, none⟩, 1, 1⟩ 1 [iv x] := ⟨rfl, Nat.le_refl _, (show 1 < 9223372036854775808 by decide), .inr ⟨h3.size, 0, rfl, has_block c9 fun i v hi => by simpa using hi⟩⟩
      refine hrow.rd (Own.app (o3.congr (h' := h9) fun k _ hl _ => e9.old k hl) rfl rfl rfl (by dsimp only; omega) (by dsimp only; omega) (by omega) fun t10 h11 ho11 _ hu11 _ => ?_)
      have e11 : Ext h h11 := ((e1.trans e3).trans e9).then hu11 fun k hk => by simp [Sl.blk] at hk; omega
      refine hk t10 h11 ?_ e11
      rw [hb]
      exact ho11.base (by omega)
  · have hd : d.ports = [] := List.eq_nil_of_length_eq_zero (by omega)
    have hb : brokenF d = [d.conn] := by unfold brokenF; rw [hd]
    refine hk _ h3 ?_ (e1.trans e3)
    rw [hb]
    exact o3.base (by omega)

theorem held_deed {h : Heap} {b : Nat} {d : Deed} {pl bl : Sl} (c : h[b]? = some (.cells (dC d pl bl).toArray 35 (0, 0))) : heldL h [(b, 0, iv d.kind), (b, 0 + 1, iv d.conn), (b, 0 + 2, iv d.end_), (b, 0 + 3, iv d.n), (b, 0 + 4, slV pl), (b, 0 + 5, slV bl)] :=
  ⟨(cell_block c).trans rfl, (cell_block c).trans rfl, (cell_block c).trans rfl, (cell_block c).trans rfl, (cell_block c).trans rfl, (cell_block c).trans rfl, trivial⟩
theorem Stp.ofExt {T : Nat → Option Nat} {h h' : Heap} (e : Ext h h') : Stp T T h h' := ⟨e.upd _, fun _ h => .inl h⟩
theorem Stz.ofExt {T : Nat → Option Nat} {Z : Nat → Prop} {h h' : Heap} (e : Ext h h') : Stz T Z T Z h h' := ⟨e.upd _, fun _ h => .inl h, fun _ h => h, fun _ h => .inl h⟩

theorem do_spec {h0 h : Heap} {Tp Tr : Nat → Option Nat} {Z : Nat → Prop} {nb rb ob n : Nat} {ps : Int → Bool} {cs : List Cn} (hT : TwoR h0 h Tp Tr Z nb rb ob ps cs) (hB : Bd cs n) (hn : n ≤ 1048576) {d : Deed} {pl bl : Sl} (hpl : Ints h0 pl d.ports) (hbl : Bytes h0 bl d.b)
    (hob : ob + d.ports.length ≤ 1048576) (hb2 : d.b.length ≤ 1048576) {K : Bool → Heap → Prop}
    (hk : ∀ h' Tp' Tr' Z' ob' ps' cs', TwoR h0 h' Tp' Tr' Z' nb rb ob' ps' cs' → Go2 Tp Tr Z Tp' Tr' Z' h h' → Bd cs' (n + 1) → ob' ≤ ob + d.ports.length → K true h') :
    m_spillwaylaw22_both_do (some ⟨nb, 0, none⟩, some ⟨rb, 0, none⟩, ()) (dV d pl bl) K h := by
  unfold m_spillwaylaw22_both_do g_spillwaylaw22_both_do
  have lp := hT.net.lt
  have lr := hT.ref.lt
  refine newK fun h2 c2 e2 z2 => newK fun h4 c4 e4 z4 => ldLk (s := pl) c4 rfl ?_
  have x4 := e2.trans e4
  refine HandI_spec (hpl.ext (hT.ext.trans x4)) (by omega) fun t5 h6 hi6 e6 => ldLk (s := bl) (keepE c4 e6) rfl ?_
  have x6 := x4.trans e6
  refine Hand_spec (hbl.ext (hT.ext.trans x6)) (by omega) fun t8 h9 hh9 e9 => ?_
  have x9 := x6.trans e9
  have z6 := e6.size
  have z9 := e9.size
  have hT9 := hT.grow x9
  have c2' := keepE (keepE (keepE c2 e4) e6) e9
  have c4' := keepE (keepE c4 e6) e9
  have hi9 := hi6.congr (h' := h9) fun k _ hl => e9.old k hl
  have hpl9 := hpl.ext hT9.ext
  have hbl9 := hbl.ext hT9.ext
  have newp : ∀ {k}, h.size ≤ k → Tp k = none := fun hk => none_new lp hk
  have newr : ∀ {k}, h.size ≤ k → Tr k = none := fun hk => none_new lr.1 hk
  have newz : ∀ {k}, h.size ≤ k → ¬ Z k := fun {k} hk hz => by have := lr.2.1 k hz; omega
  have plr : ∀ k, pl.blk = some k → d.ports ≠ [] → Tr k = none := fun k hkb hne => by
    rcases hpl.at_ with h9 | ⟨b, o, hp, hh⟩
    · have := hpl.length
      exact absurd (List.eq_nil_of_length_eq_zero (by omega)) hne
    · simp [Sl.blk, hp] at hkb
      subst hkb
      have hl := has_lt hh (by intro h8; exact hne (List.map_eq_nil_iff.1 h8))
      refine Classical.byContradiction fun h9 => ?_
      have := hT.low b (.inr h9)
      omega
  refine cutP_intro (fun _ h' => (∃ Tp' Tr' Z' ob' ps' cs', TwoR h0 h' Tp' Tr' Z' nb rb ob' ps' cs' ∧ Go2 Tp Tr Z Tp' Tr' Z' h9 h' ∧ Bd cs' (n + 1) ∧ ob' ≤ ob + d.ports.length) ∧ (∀ k, h.size ≤ k → k < h9.size → h'[k]? = h9[k]?)) ?_ ?_
  · rintro ⟨⟩ h165 ⟨⟨Tp', Tr', Z', ob', ps', cs', hT', hG, hB', hob'⟩, hkeep⟩
    have c2'' : h165[h.size]? = _ := (hkeep h.size (Nat.le_refl _) (by omega)).trans c2'
    have c4'' : h165[h2.size]? = _ := (hkeep h2.size (by omega) (by omega)).trans c4'
    have hi165 := hi9.congr (h' := h165) fun k hk _ => hkeep k (by have := hi9.lt hk; omega) (by have := hi9.lt hk; omega)
    have hh165 := hh9.congr (h' := h165) fun k hk _ => hkeep k (by have := hh9.lt hk; omega) (by have := hh9.lt hk; omega)
    have sG := hG.upd.size
    refine ldLk (s := pl) c4'' rfl (KeptI_spec hi165 (hpl.ext hT'.ext) (by omega) (iteP_neg rfl (ldLk (s := bl) c4'' rfl (Kept_spec hh165 (hbl.ext hT'.ext) (by omega) (iteP_neg rfl (bindI_intro ?_))))))
    have hown := hh165.own
    rw [bv_u8] at hown
    have t8n : ∀ k, t8.blk = some k → (h6.size ≤ k ∧ k < h9.size) ∧ Tp' k = none ∧ Tr' k = none ∧ ¬ Z' k := fun k hk => by
      have a := hh9.lt hk
      refine ⟨a, Classical.byContradiction fun h9 => ?_, Classical.byContradiction fun h9 => ?_, fun h9 => ?_⟩
      · rcases hG.newp k h9 with h8 | h8
        · exact h8 (newp (by omega))
        · omega
      · rcases hG.newr k h9 with h8 | h8
        · exact h8 (newr (by omega))
        · omega
      · rcases hG.newz k h9 with h8 | h8
        · exact newz (by omega) h8
        · omega
    have t8b := hh165.own.cap
    have t8c := hh165.own.big
    refine loopM_intro (fun p h' => ∃ (k : Nat) (vs : List Int), p.1 = (k : Int) ∧ k ≤ t8.len ∧ Own h' h6.size t8 1 (vs.map (Value.int .u8)) ∧ Upd (fun k => t8.blk = some k) h165 h') (fun p _ => t8.len - p.1.toNat) ⟨0, _, rfl, Nat.zero_le _, hown, Upd.refl _ _⟩ ?_
    rintro ⟨i, u⟩ h176 ⟨k, vs, hi, hkl, ho, hu⟩
    dsimp only at hi
    subst hi
    dsimp only
    refine iteP_dec (fun hlt => flip_step ho rfl (by omega) fun h182 vs' ho' hu' z' => bindI_intro ?_) (fun hge => ?_)
    · rw [wrap64 (by omega) (by omega)]
      exact ⟨⟨k + 1, vs', by omega, by omega, ho', hu.trans hu'⟩, by omega⟩
    · have hT176 : TwoR h0 h176 Tp' Tr' Z' nb rb ob' ps' cs' := hT'.upd hu (fun k _ hS => (t8n k hS).2) (hT'.ext.then hu fun k hS => by have := (t8n k hS).1; have := hT9.ext.size; have := hT.ext.size; omega)
      have c176 : h176[h.size]? = _ := (hu.old h.size (by omega) fun hS => by have := (t8n _ hS).1; omega).trans c2''
      refine ldPk c176 rfl (ldPk c176 rfl (alike_spec hT176 (by have := hB'.len; omega) fun h187 e187 => bindB_intro ?_))
      refine hk h187 Tp' Tr' Z' ob' ps' cs' (hT176.grow e187) ⟨?_, fun k hk => ?_, fun k hk => ?_, fun k hk => ?_⟩ hB' hob'
      · refine Upd.then (Upd.then (Upd.then (x9.upd _) hG.upd fun k _ h => h) hu fun k hk hS => ?_) (e187.upd fun _ => False) fun k _ h => h.elim
        have := (t8n k hS).1
        omega
      · rcases hG.newp k hk with h9 | h9
        · exact .inl h9
        · exact .inr (by omega)
      · rcases hG.newr k hk with h9 | h9
        · exact .inl h9
        · exact .inr (by omega)
      · rcases hG.newz k hk with h9 | h9
        · exact .inl h9
        · exact .inr (by omega)
  · have fin : ∀ {h' : Heap} {Tp' Tr' : Nat → Option Nat} {Z' : Nat → Prop} {ob' : Nat} {ps' : Int → Bool} {cs' : List Cn}, TwoR h0 h' Tp' Tr' Z' nb rb ob' ps' cs' → Go2 Tp Tr Z Tp' Tr' Z' h9 h' → Bd cs' (n + 1) → ob' ≤ ob + d.ports.length →
        (∃ Tp' Tr' Z' ob' ps' cs', TwoR h0 h' Tp' Tr' Z' nb rb ob' ps' cs' ∧ Go2 Tp Tr Z Tp' Tr' Z' h9 h' ∧ Bd cs' (n + 1) ∧ ob' ≤ ob + d.ports.length) ∧ (∀ k, h.size ≤ k → k < h9.size → h'[k]? = h9[k]?) := fun {h' Tp' Tr' Z' ob' ps' cs'} a b c e =>
      ⟨⟨_, _, _, _, _, _, a, b, c, e⟩, fun k h1 h2 => b.upd.old k h2 (by rintro (h | h); exact h (newp h1); exact h (newr h1))⟩
    have nob : ob ≤ ob + d.ports.length := Nat.le_add_right _ _
    have hw := hB.hw (by omega)
    have hlen := hB.len
    have p1 : Tp h.size = none := newp (Nat.le_refl _)
    have p2 : Tp h2.size = none := newp (by omega)
    have l1 := blk_lt c2'
    have l2 := blk_lt c4'
    refine ldIk c4' rfl (bindB_intro ⟨fun _ => ?_, fun _ => bindB_intro ⟨fun _ => ?_, fun _ => bindB_intro ⟨fun _ => ?_, fun _ => bindB_intro ⟨fun _ => ?_, fun _ => bindB_intro ⟨fun _ => ?_, fun _ => bindB_intro ⟨fun _ => ?_, fun _ => bindB_intro ⟨fun _ => ?_, fun _ => bindB_intro ⟨fun _ => ?_, fun _ => ?_⟩⟩⟩⟩⟩⟩⟩⟩)
    · -- Listen
      refine ldPk c2' rfl (ldPk c2' rfl (ldLk (s := pl) c4' rfl (Listen_spec hT9.net hi9.ints (fun k hk => newp (by have := (hi9.lt hk).1; omega)) fun h17 hn17 st17 => ?_)))
      have d2 := st17.keep p1 c2'
      have d4 := st17.keep p2 c4'
      have x17 := st17.ext hT9.ext fun k hk => hT9.low k (.inl hk)
      refine ⟨⟨(cell_block d4).trans rfl, trivial⟩, ⟨(cell_block d2).trans rfl, trivial⟩, RListen_spec (hT9.mid st17) (hpl.ext x17) plr (by omega) fun h19 Tr' hr19 sz19 => iteP_neg (by simp) ?_⟩
      obtain ⟨a, b⟩ := hT9.step hn17 st17 hr19 sz19
      exact fin a b (hB.mono (by omega)) (by omega)
    · -- Stop
      refine ldPk c2' rfl (ldPk c2' rfl (ldLk (s := pl) c4' rfl (Stop_spec hT9.net hi9.ints (fun k hk => newp (by have := (hi9.lt hk).1; omega)) fun h17 hn17 st17 => ?_)))
      have d2 := st17.keep p1 c2'
      have d4 := st17.keep p2 c4'
      have x17 := st17.ext hT9.ext fun k hk => hT9.low k (.inl hk)
      refine ⟨⟨(cell_block d4).trans rfl, trivial⟩, ⟨(cell_block d2).trans rfl, trivial⟩, RStop_spec (hT9.mid st17) (hpl.ext x17) plr (by omega) fun h19 Tr' hr19 sz19 => iteP_neg (by simp) ?_⟩
      obtain ⟨a, b⟩ := hT9.step hn17 st17 hr19 sz19
      exact fin a b (hB.mono (by omega)) nob
    · -- Dial
      refine ldPk c2' rfl (ldIk c4' rfl (ldIk c4' rfl (ldIk c4' rfl (ldIk c4' rfl (ldLk (s := pl) c4' rfl (ldLk (s := bl) c4' rfl (first_spec hpl9 fun h37 e37 => ?_)))))))
      have d2 := keepE c2' e37
      have d4 := keepE c4' e37
      refine ⟨⟨(cell_block d2).trans rfl, trivial⟩, Dial_spec (hT9.net.ext e37) (by omega) fun h40 Tp' hn40 st40 => bindI_intro (bindI_intro ?_)⟩
      have f2 := st40.keep p1 d2
      have f4 := st40.keep p2 d4
      have x40 := st40.ext (hT9.ext.trans e37) fun k hk => hT9.low k (.inl hk)
      refine ldPk f2 rfl (ldIk f4 rfl (ldIk f4 rfl (ldIk f4 rfl (ldIk f4 rfl (ldLk (s := pl) f4 rfl (ldLk (s := bl) f4 rfl (first_spec (hpl.ext x40) fun h49 e49 => ?_)))))))
      have st49 : Stp Tp Tp' h9 h49 := ((Stp.ofExt e37).trans st40).trans (Stp.ofExt e49)
      refine ⟨⟨(cell_block (keepE f2 e49)).trans rfl, trivial⟩, RDial_spec (hT9.mid st49) (by omega) fun h52 Tr' hr52 sz52 => bindI_intro (bindI_intro (iteP_neg (by simp) (iteP_neg (by simp) ?_)))⟩
      obtain ⟨a, b⟩ := hT9.step (hn40.ext e49) st49 hr52 sz52
      exact fin a b (hB.di ps _) nob
    · -- Write
      refine ldPk c2' rfl (ldIk c4' rfl (ldIk c4' rfl (ldPk c2' rfl (ldIk c4' rfl (ldIk c4' rfl (ldLk (s := bl) c4' rfl (Write_spec hT9.net hh9.bytes (by omega) (fun c j hc hj => (hw c j hc hj).1) fun h17 Tp' hn17 st17 => ?_)))))))
      have d2 := st17.keep p1 c2'
      have d4 := st17.keep p2 c4'
      have x17 := st17.ext hT9.ext fun k hk => hT9.low k (.inl hk)
      refine ⟨⟨(cell_block d4).trans rfl, trivial⟩, ⟨(cell_block d4).trans rfl, trivial⟩, ⟨(cell_block d4).trans rfl, trivial⟩, ⟨(cell_block d2).trans rfl, trivial⟩, RWrite_spec (hT9.mid st17) (hbl.ext x17) (by omega) (fun c j hc hj => (hw c j hc hj).1) fun h19 Z' hr19 sz19 => iteP_neg (by simp [dV]) ?_⟩
      obtain ⟨a, b⟩ := hT9.step hn17 st17 hr19 sz19
      exact fin a b (hB.wr _ _ _) nob
    · -- Move
      refine ldPk c2' rfl (ldIk c4' rfl (ldIk c4' rfl (ldIk c4' rfl (Move_spec hT9.net hw fun h17 Tp' hn17 st17 => bindI_intro (bindI_intro ?_)))))
      have d2 := st17.keep p1 c2'
      have d4 := st17.keep p2 c4'
      refine ldPk d2 rfl (ldIk d4 rfl (ldIk d4 rfl (ldIk d4 rfl (RMove_spec (hT9.mid st17) hw fun h19 Z' hr19 sz19 => bindI_intro (bindI_intro (iteP_neg (by simp) (iteP_neg (by simp) ?_)))))))
      obtain ⟨a, b⟩ := hT9.step hn17 st17 hr19 sz19
      exact fin a b (hB.mv _ _ _) nob
    · -- Read
      refine ldPk c2' rfl (ldIk c4' rfl (ldIk c4' rfl (ldIk c4' rfl (Read_spec hT9.net hw fun out h17 Tp' hn17 st17 ho17 hT17 => bindB_intro (bindI_intro ?_)))))
      have d2 := st17.keep p1 c2'
      have d4 := st17.keep p2 c4'
      refine ldPk d2 rfl (ldIk d4 rfl (ldIk d4 rfl (ldIk d4 rfl (RRead_spec (hT9.mid st17) hw fun out2 h19 Z' hr19 sz19 hb19 => bindB_intro (bindI_intro ?_)))))
      obtain ⟨a, b⟩ := hT9.step hn17 st17 hr19 sz19
      have r9 := hT9.ref.lt
      have outn : ∀ k, out.blk = some k → (h9.size ≤ k ∧ k < h17.size) ∧ Tp' k = none ∧ Tr k = none ∧ ¬ Z' k := fun k hk => by
        have a := ho17.lt hk
        refine ⟨a, hT17 k hk, none_new r9.1 a.1, fun h9 => ?_⟩
        rcases sz19.newz k h9 with h8 | h8
        · have := r9.2.1 k h8; omega
        · omega
      have ho19 : Own h19 h9.size out 1 _ := ho17.congr fun k hk hl _ => sz19.upd.old k hl fun h9 => h9 (outn k hk).2.2.1
      refine Same_spec ho19.row hb19 ?_
      rw [decide_eq_true rfl]
      refine iteP_false (iteP_neg (by simp) (iteP_neg (by simp) (bindI_intro ?_)))
      have hown := ho19
      rw [bv_u8] at hown
      have oc := ho19.cap
      have og := ho19.big
      refine loopM_intro (fun p h' => ∃ (k : Nat) (vs : List Int), p.1 = (k : Int) ∧ k ≤ out.len ∧ Own h' h9.size out 1 (vs.map (Value.int .u8)) ∧ Upd (fun k => out.blk = some k) h19 h') (fun p _ => out.len - p.1.toNat) ⟨0, _, rfl, Nat.zero_le _, hown, Upd.refl _ _⟩ ?_
      rintro ⟨i, u⟩ h107 ⟨k, vs, hi, hkl, ho, hu⟩
      dsimp only at hi
      subst hi
      dsimp only
      refine iteP_dec (fun hlt => flip_step ho rfl (by omega) fun h182 vs' ho' hu' z' => bindI_intro ?_) (fun hge => ?_)
      · rw [wrap64 (by omega) (by omega)]
        exact ⟨⟨k + 1, vs', by omega, by omega, ho', hu.trans hu'⟩, by omega⟩
      · have s17 := st17.upd.size
        have s19 := sz19.upd.size
        have e0 := hT9.ext.size
        have a' := a.upd hu (fun k _ hS => ⟨(outn k hS).2.1, (outn k hS).2.2⟩) (a.ext.then hu fun k hS => by have := (outn k hS).1; omega)
        exact fin a' ⟨Upd.then b.upd hu fun k hk hS => (by have := (outn k hS).1; omega), b.newp, b.newr, b.newz⟩ (hB.rd _ _ _) nob
    · -- Shut
      refine ldPk c2' rfl (ldIk c4' rfl (ldIk c4' rfl (ldPk c2' rfl (ldIk c4' rfl (ldIk c4' rfl (Shut_spec hT9.net fun h17 hn17 st17 => ?_))))))
      have d2 := st17.keep p1 c2'
      have d4 := st17.keep p2 c4'
      refine ⟨⟨(cell_block d4).trans rfl, trivial⟩, ⟨(cell_block d4).trans rfl, trivial⟩, ⟨(cell_block d2).trans rfl, trivial⟩, RShut_spec (hT9.mid st17) fun h19 Z' hr19 sz19 => iteP_neg (by simp [dV]) ?_⟩
      obtain ⟨a, b⟩ := hT9.step hn17 st17 hr19 sz19
      exact fin a b (hB.sh _ _) nob
    · -- Break
      refine ldPk c2' rfl (ldIk c4' rfl (ldIk c4' rfl (ldIk c4' rfl (ldIk c4' rfl (ldLk (s := pl) c4' rfl (ldLk (s := bl) c4' rfl (ldPk c2' rfl (ldIk c4' rfl (ldIk c4' rfl (ldIk c4' rfl (ldIk c4' rfl (ldLk (s := pl) c4' rfl (ldLk (s := bl) c4' rfl (broken_spec hpl9 fun t h37 ho37 e37 => ?_))))))))))))))
      have d2 := keepE c2' e37
      have d4 := keepE c4' e37
      have p9 := hT9.net.lt
      have r9 := hT9.ref.lt
      refine ⟨held_deed d4, ⟨(cell_block d2).trans rfl, trivial⟩, ⟨(cell_block d2).trans rfl, trivial⟩, Break_spec (hT9.net.ext e37) ho37.row (fun k hk => none_new p9 (ho37.lt hk).1) fun h40 hn40 st40 => ?_⟩
      have f2 := st40.keep p1 d2
      have f4 := st40.keep p2 d4
      have x40 := st40.ext (hT9.ext.trans e37) fun k hk => hT9.low k (.inl hk)
      refine ⟨held_deed f4, ⟨(cell_block f2).trans rfl, trivial⟩, broken_spec (hpl.ext x40) fun t2 h49 ho49 e49 => ?_⟩
      have st49 : Stp Tp Tp h9 h49 := ((Stp.ofExt e37).trans st40).trans (Stp.ofExt e49)
      have s37 := e37.size
      have s40 := st40.upd.size
      refine ⟨⟨(cell_block (keepE f2 e49)).trans rfl, trivial⟩, RBreak_spec (hT9.mid st49) ho49.row (fun k hk => none_new r9.1 (by have := (ho49.lt hk).1; omega)) fun h52 Z' hr52 sz52 => iteP_neg (by simp) ?_⟩
      obtain ⟨a, b⟩ := hT9.step (hn40.ext e49) st49 hr52 sz52
      exact fin a b (hB.br _) nob
    · exact fin hT9 (Go2.ext (Ext.refl _)) (hB.mono (by omega)) nob

end Go.Proofs.Ytgkgheaanfgecaa
