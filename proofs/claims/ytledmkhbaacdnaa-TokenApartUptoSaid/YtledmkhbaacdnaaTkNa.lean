/- Never too much is granted, in plain words: what holds of a server with the flows of one namespace, whatever is asked. -/
import Derived.Test.YtledmkhbaacdnaaTkY
import Derived.Test.YtledmkhbaacdnaaTkWa
namespace Go.Proofs.Ytledmkhbaacdnaa
open Go Go.Fw
set_option linter.unusedSimpArgs false
set_option linter.unusedVariables false

/-! ### Never too much is granted, in plain words: what holds of a server with the flows of one namespace, whatever is asked. -/
theorem strEq_iff {a b : ByteArray} : strEq a b = true ↔ a = b := by
  unfold strEq
  rw [ByteArray.toList_eq, ByteArray.toList_eq, beq_iff_eq]
  constructor
  · intro h
    cases a; cases b
    congr
    exact Array.toList_inj.1 h
  · rintro rfl; rfl
/-! ### the flows of a namespace that is new -/
theorem freshL_same (l : List F4) : ∀ (S : Srv), (S.freshL l).spaces = S.spaces ∧ (S.freshL l).begun = S.begun ∧ (S.freshL l).last = S.last ∧ (S.freshL l).out = S.out ∧ (S.freshL l).next = S.next ∧ (S.freshL l).conns = S.conns ∧ (S.freshL l).nn = S.nn := by
  induction l with
  | nil => intro S; exact ⟨rfl, rfl, rfl, rfl, rfl, rfl, rfl⟩
  | cons f l ih =>
    intro S
    have h1 : S.freshL (f :: l) = (S.fresh1 f).freshL l := rfl
    rw [h1]
    obtain ⟨a1, a2, a3, a4, a5, a6, a7⟩ := ih (S.fresh1 f)
    have h2 : (S.fresh1 f).spaces = S.spaces ∧ (S.fresh1 f).begun = S.begun ∧ (S.fresh1 f).last = S.last ∧ (S.fresh1 f).out = S.out ∧ (S.fresh1 f).next = S.next ∧ (S.fresh1 f).conns = S.conns ∧ (S.fresh1 f).nn = S.nn := by
      unfold Srv.fresh1
      split
      · exact ⟨rfl, rfl, rfl, rfl, rfl, rfl, rfl⟩
      · split <;> exact ⟨rfl, rfl, rfl, rfl, rfl, rfl, rfl⟩
    obtain ⟨b1, b2, b3, b4, b5, b6, b7⟩ := h2
    exact ⟨a1.trans b1, a2.trans b2, a3.trans b3, a4.trans b4, a5.trans b5, a6.trans b6, a7.trans b7⟩
theorem freshL_other (l : List F4) : ∀ (S : Srv) (id : Int), (∀ f, f ∈ l → f.1 ≠ id) → (S.freshL l).counts id = S.counts id := by
  induction l with
  | nil => intro S id _; rfl
  | cons f l ih =>
    intro S id h
    have h1 : S.freshL (f :: l) = (S.fresh1 f).freshL l := rfl
    rw [h1, ih _ id fun g hg => h g (List.mem_cons_of_mem _ hg)]
    have hne := h f (List.mem_cons_self ..)
    unfold Srv.fresh1
    split
    · exact if_neg hne.symm
    · split
      · exact if_neg hne.symm
      · rfl
theorem freshL_new (l : List F4) : ∀ (S : Srv), (l.map (·.1)).Nodup → (∀ f, f ∈ l → S.counts f.1 = none) → ∀ f, f ∈ l → (S.freshL l).counts f.1 = some (freshC f) := by
  induction l with
  | nil => intro S _ _ f hf; cases hf
  | cons g l ih =>
    intro S hnd hn f hf
    have h1 : S.freshL (g :: l) = (S.fresh1 g).freshL l := rfl
    rw [List.map_cons, List.nodup_cons] at hnd
    have hg := hn g (List.mem_cons_self ..)
    rw [h1]
    rcases List.mem_cons.1 hf with rfl | hf
    · rw [freshL_other l _ _ fun q hq e => hnd.1 (by rw [← e]; exact List.mem_map_of_mem hq), fresh1_none hg]
      exact if_pos rfl
    · refine ih _ hnd.2 (fun q hq => ?_) f hf
      rw [fresh1_none hg]
      show (if q.1 = g.1 then _ else _) = none
      rw [if_neg]
      · exact hn q (List.mem_cons_of_mem _ hq)
      · intro e
        exact hnd.1 (by rw [← e]; exact List.mem_map_of_mem hq)

/-! ### what was granted -/
abbrev G4 := Int × Int × Int × ByteArray
def g4L (g : G4) : List Value := [iv g.1, iv g.2.1, iv g.2.2.1, .string g.2.2.2]
theorem g4L_len (g : G4) : (g4L g).length = 4 := rfl
def ofI (id : Int) (l : List G4) : List (Int × Int) := (l.filter fun g => decide (g.2.1 = id)).map fun g => (g.1, g.2.2.1)
def ofT (id : Int) (text : ByteArray) (l : List G4) : List (Int × Int) := (l.filter fun g => decide (g.2.1 = id) && strEq g.2.2.2 text).map fun g => (g.1, g.2.2.1)
theorem ofI_app (id : Int) (a b : List G4) : ofI id (a ++ b) = ofI id a ++ ofI id b := by unfold ofI; rw [List.filter_append, List.map_append]
theorem ofT_app (id : Int) (t : ByteArray) (a b : List G4) : ofT id t (a ++ b) = ofT id t a ++ ofT id t b := by unfold ofT; rw [List.filter_append, List.map_append]
theorem ofI_one {id : Int} {g : G4} (h : g.2.1 = id) : ofI id [g] = [(g.1, g.2.2.1)] := by unfold ofI; simp [h]
theorem ofI_zero {id : Int} {g : G4} (h : g.2.1 ≠ id) : ofI id [g] = [] := by unfold ofI; simp [h]
theorem ofT_one {id : Int} {t : ByteArray} {g : G4} (h : g.2.1 = id) (ht : g.2.2.2 = t) : ofT id t [g] = [(g.1, g.2.2.1)] := by unfold ofT; simp [h, ht, strEq_self]
theorem ofT_zero {id : Int} {t : ByteArray} {g : G4} (h : g.2.1 ≠ id ∨ g.2.2.2 ≠ t) : ofT id t [g] = [] := by
  unfold ofT
  rw [List.filter_cons_of_neg]
  · rfl
  · simp only [Bool.and_eq_true, decide_eq_true_eq, strEq_iff]
    rintro ⟨h1, h2⟩
    rcases h with h | h
    · exact h h1
    · exact h h2
theorem ofI_mem {id : Int} {l : List G4} {x : Int × Int} (h : x ∈ ofI id l) : ∃ g, g ∈ l ∧ x = (g.1, g.2.2.1) := by
  unfold ofI at h
  obtain ⟨g, hg, rfl⟩ := List.mem_map.1 h
  exact ⟨g, (List.mem_filter.1 hg).1, rfl⟩
theorem ofT_mem {id : Int} {t : ByteArray} {l : List G4} {x : Int × Int} (h : x ∈ ofT id t l) : ∃ g, g ∈ l ∧ x = (g.1, g.2.2.1) := by
  unfold ofT at h
  obtain ⟨g, hg, rfl⟩ := List.mem_map.1 h
  exact ⟨g, (List.mem_filter.1 hg).1, rfl⟩
theorem nearT_le (at_ id : Int) (t : ByteArray) : ∀ {l : List G4}, (∀ g, g ∈ l → 0 ≤ g.2.2.1) → nearN at_ (ofT id t l) ≤ nearN at_ (ofI id l)
  | [], _ => Int.le_refl _
  | g :: l, h => by
    have ih := nearT_le at_ id t (l := l) fun x hx => h x (List.mem_cons_of_mem _ hx)
    have hg := h g (List.mem_cons_self ..)
    have e1 : ofI id (g :: l) = ofI id [g] ++ ofI id l := ofI_app id [g] l
    have e2 : ofT id t (g :: l) = ofT id t [g] ++ ofT id t l := ofT_app id t [g] l
    rw [e1, e2, near_app, near_app]
    have pos : ∀ a n : Int, 0 ≤ n → 0 ≤ nearN at_ [(a, n)] := fun a n hn => by
      unfold nearN
      refine sum_nonneg fun x hx => ?_
      obtain ⟨y, hy, rfl⟩ := List.mem_map.1 hx
      have := (List.mem_filter.1 hy).1
      simp at this
      subst this
      exact hn
    rcases Decidable.em (g.2.1 = id) with h1 | h1
    · rcases Classical.em (g.2.2.2 = t) with h2 | h2
      · rw [ofI_one h1, ofT_one h1 h2]; omega
      · rw [ofI_one h1, ofT_zero (.inr h2)]
        have := pos g.1 g.2.2.1 hg
        have z : nearN at_ [] = 0 := rfl
        omega
    · rw [ofI_zero h1, ofT_zero (.inl h1)]; omega

/-! ### a sketch never tells less than what was added -/
def fromW (at_ : Int) (l : List (Int × Int)) : Int := ((l.filter fun x => decide (bgn x.1 > bgn at_ - 1000000)).map (·.2)).sum
theorem fromW_app (at_ : Int) (a b : List (Int × Int)) : fromW at_ (a ++ b) = fromW at_ a + fromW at_ b := by unfold fromW; rw [List.filter_append, List.map_append, List.sum_append]
theorem fromW_one (at_ a n : Int) : fromW at_ [(a, n)] = if bgn a > bgn at_ - 1000000 then n else 0 := by
  unfold fromW
  by_cases h : bgn a > bgn at_ - 1000000
  · rw [if_pos h]; simp [h]
  · rw [if_neg h, List.filter_cons_of_neg (by simpa using h)]; rfl
theorem near_le_fromW {l : List (Int × Int)} {at_ : Int} (hl : ∀ x, x ∈ l → 0 ≤ x.2) : nearN at_ l ≤ fromW at_ l := by
  refine filt_le hl fun x hx h => ?_
  simp only [decide_eq_true_eq] at h ⊢
  unfold bgn
  omega
theorem sumB_kept {at_ a r c : Int} (h : a ≤ at_) (l : List Bk) : sumB at_ r c (keptB a l) = sumB at_ r c l := by
  have hb : bgn a ≤ bgn at_ := by unfold bgn; omega
  unfold sumB keptB
  suffices ∀ (l : List Bk) (n : Int), (l.filter fun b => !decide (b.at_ ≤ bgn a - 1000000)).foldl (fun n b => if b.at_ > bgn at_ - 1000000 then spl n (b.n r c) else n) n = l.foldl (fun n b => if b.at_ > bgn at_ - 1000000 then spl n (b.n r c) else n) n from this l 0
  intro l
  induction l with
  | nil => intro n; rfl
  | cons b l ih =>
    intro n
    rw [List.filter_cons]
    by_cases h1 : b.at_ ≤ bgn a - 1000000
    · rw [if_neg (by simpa using h1), List.foldl_cons, if_neg (by omega)]
      exact ih n
    · rw [if_pos (by simpa using h1), List.foldl_cons, List.foldl_cons]
      exact ih _
theorem sumB_open {at_ a r c : Int} (h : a ≤ at_) {l : List Bk} (hl : ∀ b, b ∈ l → b.OK) : sumB at_ r c (openB a l) = sumB at_ r c l := by
  unfold openB
  split
  · rw [sumB_snoc, sumB_kept h]
    split
    · have := sumB_rng at_ r c l hl
      unfold spl newB3
      dsimp only
      omega
    · rfl
  · exact sumB_kept h l
theorem lastSet_snoc (l : List Bk) (b : Bk) (f : Bk → Bk) : lastSet (l ++ [b]) f = l ++ [f b] := by
  unfold lastSet
  rw [List.getLast?_append]
  simp
theorem bump_n {b : Bk} {seed x : Int} {key : ByteArray} {r : Int} (h : r = 0 ∨ r = 1 ∨ r = 2) (c : Int) : (bumpK b seed x key 3).n r c = if c = colV seed r key then spl (b.n r c) x else b.n r c := by
  show bumpN b.n seed x key 3 r c = _
  rcases h with rfl | rfl | rfl
  · by_cases hc : c = colV seed 0 key <;> simp [bumpN, updP, hc]
  · by_cases hc : c = colV seed 1 key <;> simp [bumpN, updP, hc]
  · by_cases hc : c = colV seed 2 key <;> simp [bumpN, updP, hc]
/-- an addition: each row's sum goes up by it in the key's column, and stays elsewhere -/
theorem sumB_add {s : Sk} (ok : s.OK) {a at_ x r c : Int} (ha : wrongE s.last a = 0) (h : a ≤ at_) {key : ByteArray} (hr : r = 0 ∨ r = 1 ∨ r = 2) (hx : 0 ≤ x) :
    sumB at_ r c (s.add a x key).bs = if c = colV s.seed r key ∧ bgn a > bgn at_ - 1000000 then spl (sumB at_ r c s.bs) x else sumB at_ r c s.bs := by
  obtain ⟨b, hb, hba⟩ := openB_last a s.bs
  obtain ⟨l, hl⟩ := List.getLast?_eq_some_iff.1 hb
  have ho := sumB_open (r := r) (c := c) h (l := s.bs) fun b hb => (ok.bs b hb).1
  have hok := (Sk.opened_ok ok ha).bs
  have hrng := sumB_rng at_ r c l fun y hy => (hok y (show y ∈ openB a s.bs by rw [hl]; exact List.mem_append_left _ hy)).1
  have hbn := (hok b (show b ∈ openB a s.bs by rw [hl]; simp)).1.n r c
  rw [hl, sumB_snoc] at ho
  show sumB at_ r c (lastSet (openB a s.bs) fun b => bumpK b s.seed x key 3) = _
  rw [hl, lastSet_snoc, sumB_snoc, show (bumpK b s.seed x key 3).at_ = b.at_ from rfl, bump_n hr, ← ho, hba]
  by_cases h1 : bgn a > bgn at_ - 1000000
  · rw [if_pos h1, if_pos h1]
    by_cases h2 : c = colV s.seed r key
    · rw [if_pos h2, if_pos ⟨h2, h1⟩]
      unfold spl
      omega
    · rw [if_neg h2, if_neg (fun e => h2 e.1)]
  · rw [if_neg h1, if_neg h1, if_neg (fun e => h1 e.2)]
theorem add_ok {s : Sk} (ok : s.OK) {a x : Int} (ha : wrongE s.last a = 0) (hx : 0 ≤ x ∧ x ≤ 1099511627776) {key : ByteArray} : (s.add a x key).OK := by
  obtain ⟨b, hb, hba⟩ := openB_last a s.bs
  have hok := Sk.opened_ok ok ha
  have hm : (s.opened a).bs[(s.opened a).bs.length - 1]? = some b := by
    rw [← List.getLast?_eq_getElem?]; exact hb
  have okb := (hok.bs b (List.mem_of_getElem? hm)).1
  have := hok.set hm (b' := bumpK b s.seed x key 3) rfl ⟨okb.lo, okb.step, spl_rng okb.total (by omega), fun r c => ?_⟩
  · show Sk.OK ⟨s.seed, a, lastSet (openB a s.bs) fun b => bumpK b s.seed x key 3⟩
    rw [lastSet_eq hb]
    exact this
  · have step : ∀ (n : Int → Int → Int), (∀ r c, 0 ≤ n r c ∧ n r c ≤ 4611686018427387904) → ∀ (r' c' : Int) (r c : Int), 0 ≤ updP n r' c' (spl (n r' c') x) r c ∧ updP n r' c' (spl (n r' c') x) r c ≤ 4611686018427387904 := fun n hn r' c' r c => by
      unfold updP
      split
      · exact spl_rng (hn _ _) (by omega)
      · exact hn _ _
    exact step _ (step _ (step _ okb.n _ _) _ _) _ _ _ _

/-! ### Never too much is granted, in plain words: the invariant and what each deed leaves of it. -/
theorem rightF_rng {f : F4} (h : rightF f = true) : (1 ≤ f.1 ∧ f.1 ≤ 1099511627776) ∧ (0 ≤ f.2.1 ∧ f.2.1 ≤ 1099511627776) ∧ (f.2.2.1 = 1 ∨ f.2.2.1 = 2 ∨ f.2.2.1 = 3) ∧ (f.2.2.1 ≠ 3 → f.2.2.2.1 = 0) ∧ (0 ≤ f.2.2.2.1 ∧ f.2.2.2.1 ≤ 3600000000) := by
  unfold rightF at h
  rw [Bool.and_eq_true, Bool.and_eq_true, Bool.and_eq_true] at h
  obtain ⟨h1, h2, h3, h4⟩ := h
  have q1 := inB_spec h1
  have q2 := inB_spec h2
  have q3 := inB_spec h3
  unfold leaseF at h4
  refine ⟨by omega, by omega, by omega, fun hn => ?_, ?_⟩
  · rw [if_neg hn] at h4
    simpa using h4
  · split at h4
    · have := inB_spec h4; omega
    · have : f.2.2.2.1 = 0 := by simpa using h4
      omega
theorem nodup_eq {l : List F4} (h : (l.map (·.1)).Nodup) {f g : F4} (hf : f ∈ l) (hg : g ∈ l) (e : f.1 = g.1) : f = g := by
  obtain ⟨i, hi⟩ := List.getElem?_of_mem hf
  obtain ⟨j, hj⟩ := List.getElem?_of_mem hg
  have h1 : (l.map (·.1))[i]? = some f.1 := by rw [List.getElem?_map, hi]; rfl
  have h2 : (l.map (·.1))[j]? = some f.1 := by rw [List.getElem?_map, hj, e]; rfl
  obtain ⟨l1, e1⟩ := List.getElem?_eq_some_iff.1 h1
  obtain ⟨l2, e2⟩ := List.getElem?_eq_some_iff.1 h2
  have := (List.getElem_inj h).1 (e1.trans e2.symm)
  subst this
  rw [hi] at hj
  exact Option.some.inj hj

def RateOK (S : Srv) (l : List G4) (f : F4) (w : Win) : Prop := w.last ≤ S.last ∧ (∀ i, 0 ≤ w.p i ∧ w.p i ≤ f.2.1) ∧ ∀ i, w.p i = bktN i (ofI f.1 l)
def ValOK (S : Srv) (l : List G4) (f : F4) (s : Sk) : Prop := s.OK ∧ s.last ≤ S.last ∧ ∀ (t : ByteArray) (at_ r : Int), (r = 0 ∨ r = 1 ∨ r = 2) → s.last ≤ at_ → min (fromW at_ (ofT f.1 t l)) 4611686018427387904 ≤ sumB at_ r (colV s.seed r t) s.bs
structure Parts (fl : List F4) (S : Srv) (got old l : List G4) : Prop where
  is : got = old ++ l
  old : ∀ g, g ∈ old → g.1 ≤ S.begun
  new : ∀ g, g ∈ l → 0 ≤ g.1 ∧ g.1 ≤ S.last
  rate : ∀ f, f ∈ fl → ∀ w, S.counts f.1 = some (.rate w) → RateOK S l f w
  val : ∀ f, f ∈ fl → ∀ s, S.counts f.1 = some (.value s) → ValOK S l f s
structure Never (fl : List F4) (S : Srv) (got : List G4) : Prop where
  right : ∀ f, f ∈ fl → rightF f = true
  nodup : (fl.map (·.1)).Nodup
  spaces : S.spaces = [(nA, fl)]
  times : 0 ≤ S.begun ∧ S.begun ≤ S.last ∧ S.last ≤ 1152921504606846976
  cnts : ∀ f, f ∈ fl → ∃ c, S.counts f.1 = some c ∧ c.kind = f.2.2.1
  out : S.out.length ≤ 1024
  pos : ∀ g, g ∈ got → 0 ≤ g.2.2.1
  parts : ∃ old l, Parts fl S got old l

theorem shr_sub {S : Srv} {at_ : Int} {o : List F4} (h : Shr S at_ o) : o.Sublist S.out := by
  rcases h with rfl | rfl | ⟨i, rfl⟩
  · exact List.Sublist.refl _
  · exact List.filter_sublist
  · exact (List.eraseIdx_sublist _ _).trans List.filter_sublist
theorem Never.ok {fl : List F4} {S : Srv} {got : List G4} (h : Never fl S got) : S.OK := by
  refine ⟨by have := h.out; omega, fun x hx f hf => ?_⟩
  rw [h.spaces] at hx
  simp only [List.mem_cons, List.not_mem_nil, or_false] at hx
  subst hx
  exact h.cnts f hf
theorem Never.still {fl : List F4} {S : Srv} {got : List G4} (h : Never fl S got) {at_ : Int} (ha : lookE S.last at_ = 0) {o : List F4} (ho : o.length ≤ S.out.length) (cs : Int → Option ByteArray) (nn : Nat) (nx : Int) : Never fl { S with last := at_, out := o, conns := cs, nn := nn, next := nx } got := by
  obtain ⟨a0, a1, a2⟩ := lookE_ok ha
  obtain ⟨t0, t1, t2⟩ := h.times
  obtain ⟨old, l, hp⟩ := h.parts
  exact ⟨h.right, h.nodup, h.spaces, ⟨t0, Int.le_trans t1 a2, a1⟩, h.cnts, Nat.le_trans ho h.out, h.pos, old, l, hp.is, hp.old, fun g hg => ⟨(hp.new g hg).1, Int.le_trans (hp.new g hg).2 a2⟩,
    fun f hf w hw => ⟨Int.le_trans (hp.rate f hf w hw).1 a2, (hp.rate f hf w hw).2⟩, fun f hf s hs => ⟨(hp.val f hf s hs).1, Int.le_trans (hp.val f hf s hs).2.1 a2, (hp.val f hf s hs).2.2⟩⟩
theorem Never.conn {fl : List F4} {S : Srv} {got : List G4} (h : Never fl S got) (cs : Int → Option ByteArray) (nn : Nat) : Never fl { S with conns := cs, nn := nn } got := by
  obtain ⟨old, l, hp⟩ := h.parts
  exact ⟨h.right, h.nodup, h.spaces, h.times, h.cnts, h.out, h.pos, old, l, hp.is, hp.old, hp.new, hp.rate, hp.val⟩
theorem Never.flow {fl : List F4} {S : Srv} {got : List G4} (h : Never fl S got) {ns : ByteArray} {id : Int} {f : F4} (hf : flowV S.spaces ns id = some f) : f ∈ fl ∧ f.1 = id := by
  obtain ⟨x, hx, hf, hh⟩ := flow_mem hf
  rw [h.spaces] at hx
  simp only [List.mem_cons, List.not_mem_nil, or_false] at hx
  subst hx
  refine ⟨hf, ?_⟩
  unfold hitF at hh
  rw [Bool.and_eq_true] at hh
  simpa using hh.1
theorem notOver {used : Int} {f : F4} {r : Rq} (h : overV used f r = false) (hf : 0 ≤ f.2.1 ∧ f.2.1 ≤ 1099511627776) (hr : 1 ≤ r.2.2.2.1 ∧ r.2.2.2.1 ≤ 1099511627776) : used + r.2.2.2.1 ≤ f.2.1 := by
  unfold overV at h
  rw [decide_eq_false_iff_not, wrap64 (by omega) (by omega)] at h
  omega
theorem notQuiet {S : Srv} {at_ : Int} {f : F4} (h : quietV S at_ f = false) (hb : 0 ≤ S.begun ∧ S.begun ≤ 1152921504606846976) (hf : 0 ≤ f.2.2.2.1 ∧ f.2.2.2.1 ≤ 3600000000) : S.begun + 1000000 ≤ at_ := by
  unfold quietV at h
  rw [decide_eq_false_iff_not, maxV_eq, wrap64 (by omega) (by omega)] at h
  omega
def Srv.tookAt (S : Srv) (at_ : Int) (f : F4) (c : Cnt) : Srv := { S with last := at_, counts := fun i => if i = f.1 then some c else S.counts i }
/-- what is near: nothing of what was granted ahead of the last beginning -/
theorem near_grant {S : Srv} {fl : List F4} {got old l : List G4} (hp : Parts fl S got old l) {at_ id n F C : Int} {t : ByteArray} (hb : S.begun + 1000000 ≤ at_) (hl : nearN at_ (ofT id t l) ≤ F) (hF : F + n ≤ C) : nearN at_ (ofT id t (got ++ [(at_, id, n, t)])) ≤ C := by
  rw [ofT_app, hp.is, ofT_app, near_app, near_app, ofT_one (g := (at_, id, n, t)) rfl rfl, near_one _ _ _ (by omega)]
  have h0 : nearN at_ (ofT id t old) = 0 := filt_none fun x hx => by
    obtain ⟨g, hg, rfl⟩ := ofT_mem hx
    have := hp.old g hg
    exact decide_eq_false (by show ¬ at_ - g.1 < 900000; omega)
  dsimp only
  omega
theorem Never.took {fl : List F4} {S : Srv} {got : List G4} (h : Never fl S got) {at_ : Int} (ha : lookE S.last at_ = 0) {f : F4} (hf : f ∈ fl) {n : Int} (hn : 0 ≤ n) (t : ByteArray) {c : Cnt} (hk : c.kind = f.2.2.1)
    (hr : ∀ old l, Parts fl S got old l → (∀ w, c = .rate w → RateOK (S.tookAt at_ f c) (l ++ [(at_, f.1, n, t)]) f w) ∧ ∀ s, c = .value s → ValOK (S.tookAt at_ f c) (l ++ [(at_, f.1, n, t)]) f s) :
    Never fl (S.tookAt at_ f c) (got ++ [(at_, f.1, n, t)]) := by
  obtain ⟨a0, a1, a2⟩ := lookE_ok ha
  obtain ⟨t0, t1, t2⟩ := h.times
  obtain ⟨old, l, hp⟩ := h.parts
  obtain ⟨hr1, hr2⟩ := hr old l hp
  have mine : ∀ g, g ∈ fl → g.1 = f.1 → g = f := fun g hg e => nodup_eq h.nodup hg hf e
  have hc : ∀ i, (S.tookAt at_ f c).counts i = if i = f.1 then some c else S.counts i := fun _ => rfl
  refine ⟨h.right, h.nodup, h.spaces, ⟨t0, Int.le_trans t1 a2, a1⟩, fun g hg => ?_, h.out, fun g hg => ?_, old, l ++ [(at_, f.1, n, t)], by rw [hp.is, List.append_assoc], hp.old, fun g hg => ?_, fun g hg w hw => ?_, fun g hg s hs => ?_⟩
  · rw [hc]
    split
    · rename_i e
      rw [mine g hg e]
      exact ⟨c, rfl, hk⟩
    · exact h.cnts g hg
  · rcases List.mem_append.1 hg with hg | hg
    · exact h.pos g hg
    · simp at hg; subst hg; exact hn
  · rcases List.mem_append.1 hg with hg | hg
    · exact ⟨(hp.new g hg).1, Int.le_trans (hp.new g hg).2 a2⟩
    · simp at hg; subst hg; exact ⟨a0, Int.le_refl _⟩
  · rw [hc] at hw
    split at hw
    · rename_i e
      rw [mine g hg e]
      exact hr1 w (Option.some.inj hw)
    · rename_i e
      obtain ⟨q1, q2, q3⟩ := hp.rate g hg w hw
      refine ⟨Int.le_trans q1 a2, q2, fun i => ?_⟩
      rw [ofI_app, ofI_zero (g := (at_, f.1, n, t)) (fun e' => e e'.symm), List.append_nil]
      exact q3 i
  · rw [hc] at hs
    split at hs
    · rename_i e
      rw [mine g hg e]
      exact hr2 s (Option.some.inj hs)
    · rename_i e
      obtain ⟨q1, q2, q3⟩ := hp.val g hg s hs
      refine ⟨q1, Int.le_trans q2 a2, fun t' at' r hr' hl => ?_⟩
      rw [ofT_app, ofT_zero (g := (at_, f.1, n, t)) (.inl fun e' => e e'.symm), List.append_nil]
      exact q3 t' at' r hr' hl

/-- a grant of what is counted -/
theorem Never.counted {fl : List F4} {S : Srv} {got : List G4} (h : Never fl S got) {at_ : Int} (ha : lookE S.last at_ = 0) {f : F4} (hf : f ∈ fl) (h3 : f.2.2.1 ≠ 3) {r : Rq} (hc : 1 ≤ r.2.2.2.1 ∧ r.2.2.2.1 ≤ 1099511627776) (hq : quietV S at_ f = false) (ho : overV (usedV S at_ f r.2.2.2.2.1) f r = false) :
    Never fl ((S.at at_).take at_ f r) (got ++ [(at_, f.1, r.2.2.2.1, r.2.2.2.2.1)]) ∧ nearN at_ (ofT f.1 r.2.2.2.2.1 (got ++ [(at_, f.1, r.2.2.2.1, r.2.2.2.2.1)])) ≤ f.2.1 := by
  obtain ⟨a0, a1, a2⟩ := lookE_ok ha
  obtain ⟨t0, t1, t2⟩ := h.times
  obtain ⟨⟨i0, i1⟩, hcnt, hkd, hls, hle⟩ := rightF_rng (h.right f hf)
  obtain ⟨c, hcc, hck⟩ := h.cnts f hf
  have hbq := notQuiet hq (by omega) hle
  have hov := notOver ho hcnt hc
  have hS : (S.at at_).take at_ f r = S.tookAt at_ f (c.took at_ r.2.2.2.2.1 r.2.2.2.1) := by
    unfold Srv.take Srv.at Srv.tookAt
    dsimp only
    rw [hcc]
    rfl
  have hu : usedV S at_ f r.2.2.2.2.1 = c.used at_ r.2.2.2.2.1 := by
    unfold usedV
    rw [if_neg h3, hcc]
  rw [hu] at hov
  rw [hS]
  generalize r.2.2.2.1 = n at hc hov ⊢
  generalize r.2.2.2.2.1 = t at hov ⊢
  have hpos : ∀ old l, Parts fl S got old l → ∀ g, g ∈ l → 0 ≤ g.2.2.1 := fun old l hp g hg => h.pos g (by rw [hp.is]; exact List.mem_append_right _ hg)
  cases c with
  | leased => exact absurd hck.symm h3
  | rate w =>
    have hk1 : f.2.2.1 = 1 := hck.symm
    have key : ∀ old l, Parts fl S got old l → w.sum at_ = fromN (loW at_) (ofI f.1 l) ∧ wrongE w.last at_ = 0 := fun old l hp => by
      obtain ⟨q1, q2, q3⟩ := hp.rate f hf w hcc
      refine ⟨sum_notes hcnt q2 q3 a0 fun x hx => ?_, by unfold wrongE; rw [if_neg (by omega), if_neg (by omega), if_neg (by omega)]⟩
      obtain ⟨g, hg, rfl⟩ := ofI_mem hx
      exact Int.le_trans (hp.new g hg).2 a2
    have usd : ∀ old l, Parts fl S got old l → (Cnt.rate w).used at_ t = w.sum at_ := fun old l hp => by
      show w.used at_ = _
      unfold Win.used
      rw [if_pos (key old l hp).2]
    refine ⟨h.took ha hf (by omega) t (by rw [hk1]; rfl) fun old l hp => ⟨fun w' hw' => ?_, fun s hs => by cases hs⟩, ?_⟩
    · obtain ⟨q1, q2, q3⟩ := hp.rate f hf w hcc
      have hw9 : w' = w.add at_ n := by
        have : (Cnt.rate w).took at_ t n = .rate (w.add at_ n) := by
          show Cnt.rate (w.took at_ n) = _
          unfold Win.took
          rw [if_pos (key old l hp).2]
        rw [this] at hw'
        exact (Cnt.rate.inj hw').symm
      have hl : ∀ x, x ∈ ofI f.1 l → 0 ≤ x.2 := fun x hx => by
        obtain ⟨g, hg, rfl⟩ := ofI_mem hx
        exact hpos old l hp g hg
      have hb : w.p (bkt at_) ≤ w.sum at_ := by
        rw [(key old l hp).1, q3]
        refine filt_le hl fun x hx h9 => ?_
        simp only [decide_eq_true_eq] at h9 ⊢
        rw [h9]
        unfold loW
        have : 0 ≤ bkt at_ := by unfold bkt; omega
        omega
      rw [usd old l hp] at hov
      have q2b := q2 (bkt at_)
      have hpl : plusV (w.p (bkt at_)) n = w.p (bkt at_) + n := by rw [plusV_eq (by omega) (by omega)]; omega
      subst hw9
      refine ⟨Int.le_refl _, fun i => ?_, fun i => ?_⟩
      · show 0 ≤ (if i = bkt at_ then plusV (w.p i) n else w.p i) ∧ (if i = bkt at_ then plusV (w.p i) n else w.p i) ≤ f.2.1
        split
        · rename_i e
          rw [e, hpl]
          omega
        · exact q2 i
      · show (if i = bkt at_ then plusV (w.p i) n else w.p i) = _
        rw [ofI_app, ofI_one (g := (at_, f.1, n, t)) rfl, bkt_app, bkt_one, ← q3]
        split
        · rename_i e
          rw [e, hpl]
        · omega
    · obtain ⟨old, l, hp⟩ := h.parts
      rw [usd old l hp, (key old l hp).1] at hov
      refine near_grant hp hbq ?_ hov
      refine Int.le_trans (nearT_le _ _ _ (hpos old l hp)) (near_le_from fun x hx => ?_)
      obtain ⟨g, hg, rfl⟩ := ofI_mem hx
      exact ⟨(hp.new g hg).1, hpos old l hp g hg⟩
  | value s =>
    have hk1 : f.2.2.1 = 2 := hck.symm
    have wr : ∀ old l, Parts fl S got old l → wrongE s.last at_ = 0 := fun old l hp => by
      obtain ⟨q1, q2, q3⟩ := hp.val f hf s hcc
      unfold wrongE
      rw [if_neg (by omega), if_neg (by omega), if_neg (by omega)]
    have usd : ∀ old l, Parts fl S got old l → min (fromW at_ (ofT f.1 t l)) 4611686018427387904 ≤ (Cnt.value s).used at_ t := fun old l hp => by
      obtain ⟨q1, q2, q3⟩ := hp.val f hf s hcc
      show _ ≤ s.used at_ t
      unfold Sk.used
      rw [if_pos (wr old l hp)]
      have e0 := q3 t at_ 0 (.inl rfl) (by omega)
      have e1 := q3 t at_ 1 (.inr (.inl rfl)) (by omega)
      have e2 := q3 t at_ 2 (.inr (.inr rfl)) (by omega)
      show _ ≤ minV (minV (minV 4611686018427387904 (sumB at_ 0 (colV s.seed 0 t) s.bs)) (sumB at_ 1 (colV s.seed 1 t) s.bs)) (sumB at_ 2 (colV s.seed 2 t) s.bs)
      rw [minV_eq, minV_eq, minV_eq]
      omega
    refine ⟨h.took ha hf (by omega) t (by rw [hk1]; rfl) fun old l hp => ⟨(fun w' hw' => by cases hw'), fun s' hs' => ?_⟩, ?_⟩
    · obtain ⟨q1, q2, q3⟩ := hp.val f hf s hcc
      have hw := wr old l hp
      have hs9 : s' = s.add at_ n t := by
        have : (Cnt.value s).took at_ t n = .value (s.add at_ n t) := by
          show Cnt.value (s.took at_ n t) = _
          unfold Sk.took
          rw [if_pos hw]
        rw [this] at hs'
        exact (Cnt.value.inj hs').symm
      subst hs9
      refine ⟨add_ok q1 hw (by omega), Int.le_refl _, fun t' at' r' hr' hl => ?_⟩
      have hl' : at_ ≤ at' := hl
      have hq3 := q3 t' at' r' hr' (by omega)
      rw [show (s.add at_ n t).seed = s.seed from rfl, sumB_add q1 hw hl' hr' (by omega), ofT_app, fromW_app]
      have hrng := sumB_rng at' r' (colV s.seed r' t') s.bs fun b hb => (q1.bs b hb).1
      rcases Classical.em (t = t') with e | e
      · subst e
        rw [ofT_one (g := (at_, f.1, n, t)) rfl rfl, fromW_one]
        by_cases hb : bgn at_ > bgn at' - 1000000
        · rw [if_pos hb, if_pos ⟨rfl, hb⟩]
          unfold spl
          dsimp only
          omega
        · rw [if_neg hb, if_neg (fun e => hb e.2)]
          omega
      · rw [ofT_zero (g := (at_, f.1, n, t)) (.inr e)]
        have : fromW at' [] = 0 := rfl
        split
        · unfold spl; omega
        · omega
    · obtain ⟨old, l, hp⟩ := h.parts
      have hus := usd old l hp
      refine near_grant hp hbq (F := fromW at_ (ofT f.1 t l)) (near_le_fromW fun x hx => ?_) (by omega)
      obtain ⟨g, hg, rfl⟩ := ofT_mem hx
      exact hpos old l hp g hg

/-- what was granted behind a request -/
def gotG (S : Srv) (at_ conn : Int) (r : Rq) (got : List G4) : List G4 :=
  if (doV S at_ conn r).1.2 = 0 ∧ (doV S at_ conn r).1.1.2.1 = 1 ∧ (r.2.1 = 1 ∨ r.2.1 = 2) then got ++ [(at_, r.2.2.1, r.2.2.2.1, r.2.2.2.2.1)] else got
theorem Never.do {fl : List F4} {S : Srv} {got : List G4} (h : Never fl S got) (at_ conn : Int) (r : Rq) : Never fl (doV S at_ conn r).2 (gotG S at_ conn r got) ∧
    ((doV S at_ conn r).1.2 = 0 → (doV S at_ conn r).1.1.2.1 = 1 → (r.2.1 = 1 ∨ r.2.1 = 2) → (0 ≤ at_ ∧ at_ ≤ 1152921504606846976) ∧ 1 ≤ r.2.2.2.1 ∧ ∃ f, f ∈ fl ∧ f.1 = r.2.2.1 ∧ nearN at_ (ofT r.2.2.1 r.2.2.2.2.1 (got ++ [(at_, r.2.2.1, r.2.2.2.1, r.2.2.2.2.1)])) ≤ f.2.1) := by
  unfold gotG
  rcases doV_cases S at_ conn r with ⟨h1, h2⟩ | ⟨h1, hl, hid, hS | ⟨ns, f, hc, hG⟩⟩
  · rw [if_neg (fun e => h1 e.1), h2]
    exact ⟨h, fun e => (h1 e).elim⟩
  · have hn : ¬ ((doV S at_ conn r).1.2 = 0 ∧ (doV S at_ conn r).1.1.2.1 = 1 ∧ (r.2.1 = 1 ∨ r.2.1 = 2)) := fun e => by rcases hS.nope with q | q <;> omega
    rw [if_neg hn]
    obtain ⟨o, cs, ho, e⟩ := hS.is
    refine ⟨?_, fun q1 q2 q3 => (hn ⟨q1, q2, q3⟩).elim⟩
    rw [e]
    exact h.still hl (shr_sub ho).length_le cs S.nn S.next
  · obtain ⟨hf, hid⟩ := h.flow hG.flow
    rcases hG.is with ⟨h3, e⟩ | ⟨h3, hlen, e⟩
    · have hk : r.2.1 = 1 ∨ r.2.1 = 2 := by
        have := (rightF_rng (h.right f hf)).2.2.1
        rw [hG.kind] at this h3
        omega
      have hc2 := right_count hG.right (by omega)
      obtain ⟨g1, g2⟩ := h.counted hl hf h3 hc2 hG.quiet hG.over
      rw [if_pos ⟨h1, hG.one, hk⟩, e, ← hid]
      exact ⟨g1, fun _ _ _ => ⟨by have := lookE_ok hl; omega, hc2.1, f, hf, rfl, g2⟩⟩
    · have hk : r.2.1 = 3 := by rw [← hG.kind]; exact h3
      rw [if_neg (fun e => by omega), e]
      refine ⟨?_, fun _ _ q => by omega⟩
      have hst := h.still hl (o := aliveV at_ S.out) (List.length_filter_le _ _) S.conns S.nn (IntKind.wrap .i64 (S.next + 1))
      obtain ⟨old, l, hp⟩ := hst.parts
      refine ⟨hst.right, hst.nodup, hst.spaces, hst.times, hst.cnts, ?_, hst.pos, old, l, hp.is, hp.old, hp.new, hp.rate, hp.val⟩
      show (aliveV at_ S.out ++ [_]).length ≤ 1024
      rw [List.length_append, List.length_singleton]
      omega
theorem Never.restart {fl : List F4} {S : Srv} {got : List G4} (h : Never fl S got) {at_ : Int} (ha : lookE S.last at_ = 0) : Never fl (S.restarted at_) got := by
  obtain ⟨a0, a1, a2⟩ := lookE_ok ha
  obtain ⟨t0, t1, t2⟩ := h.times
  obtain ⟨old, l, hp⟩ := h.parts
  have hc : ∀ id, (S.restarted at_).counts id = (S.counts id).map fun c => freshK id c.kind := fun _ => rfl
  refine ⟨h.right, h.nodup, h.spaces, ⟨a0, Int.le_refl _, a1⟩, fun f hf => ?_, Nat.zero_le _, h.pos, got, [], by simp, fun g hg => ?_, (fun g hg => by cases hg), fun f hf w hw => ?_, fun f hf s hs => ?_⟩
  · obtain ⟨c, hc1, hk⟩ := h.cnts f hf
    rw [hc, hc1]
    exact ⟨_, rfl, by rw [freshK_kind f.1 (kind_is c)]; exact hk⟩
  · show g.1 ≤ at_
    rw [hp.is] at hg
    rcases List.mem_append.1 hg with hg | hg
    · have := hp.old g hg; omega
    · have := (hp.new g hg).2; omega
  · rw [hc] at hw
    obtain ⟨c, hc1, hk⟩ := h.cnts f hf
    rw [hc1] at hw
    have hw' : freshK f.1 c.kind = .rate w := Option.some.inj hw
    have hkk : c.kind = 1 := by
      rw [← freshK_kind f.1 (kind_is c), hw']; rfl
    rw [hkk] at hw'
    have : w = ⟨0, fun _ => 0⟩ := (Cnt.rate.inj hw').symm
    subst this
    have := (rightF_rng (h.right f hf)).2.1
    exact ⟨a0, fun _ => ⟨Int.le_refl _, this.1⟩, fun _ => rfl⟩
  · rw [hc] at hs
    obtain ⟨c, hc1, hk⟩ := h.cnts f hf
    rw [hc1] at hs
    have hs' : freshK f.1 c.kind = .value s := Option.some.inj hs
    have hkk : c.kind = 2 := by
      rw [← freshK_kind f.1 (kind_is c), hs']; rfl
    rw [hkk] at hs'
    have : s = ⟨IntKind.wrap .u64 f.1, 0, []⟩ := (Cnt.value.inj hs').symm
    subst this
    refine ⟨⟨Int.le_refl _, (by decide : (0 : Int) ≤ 1152921504606846976), (fun b hb => by cases hb), List.Pairwise.nil, Nat.zero_le _⟩, a0, fun t at' r _ _ => ?_⟩
    show min (fromW at' []) 4611686018427387904 ≤ 0
    have : fromW at' [] = 0 := rfl
    omega
theorem Never.opened {fl : List F4} {S : Srv} {got : List G4} (h : Never fl S got) (conn : Int) : Never fl (S.opened conn) got := by
  unfold Srv.opened
  split
  · exact h.conn _ _
  · exact h
/-- the beginning -/
theorem Never.begin {at_ : Int} (ht : isT at_) {fl : List F4} (hl : LoadOK (newS at_) nA fl) : Never fl ((newS at_).loaded nA fl) [] := by
  obtain ⟨hn, hr, ⟨nd, _⟩, _⟩ := hl
  have hright : ∀ f, f ∈ fl → rightF f = true := fun f hf => by
    have := List.any_eq_false.1 hr f hf
    simpa using this
  have hcs := freshL_new fl { newS at_ with spaces := (newS at_).spaces ++ [(nA, fl)] } nd (fun f hf => rfl)
  obtain ⟨b1, b2, b3, b4, b5, b6, b7⟩ := freshL_same fl { newS at_ with spaces := (newS at_).spaces ++ [(nA, fl)] }
  have hld : (newS at_).loaded nA fl = { newS at_ with spaces := (newS at_).spaces ++ [(nA, fl)] }.freshL fl := rfl
  rw [← hld] at hcs b1 b2 b3 b4
  generalize (newS at_).loaded nA fl = S at hcs b1 b2 b3 b4 ⊢
  have b2' : S.begun = at_ := b2
  have b3' : S.last = at_ := b3
  have b4' : S.out = [] := b4
  obtain ⟨i0, i1⟩ := ht
  refine ⟨hright, nd, b1, by omega, fun f hf => ⟨_, hcs f hf, freshC_kind (hright f hf)⟩, by rw [b4']; exact Nat.zero_le _, (fun g hg => by cases hg), [], [], rfl, (fun g hg => by cases hg), (fun g hg => by cases hg), fun f hf w hw => ?_, fun f hf s hs => ?_⟩
  · rw [hcs f hf] at hw
    have hw' := Option.some.inj hw
    unfold freshC at hw'
    split at hw'
    · have : w = ⟨0, fun _ => 0⟩ := (Cnt.rate.inj hw').symm
      subst this
      have := (rightF_rng (hright f hf)).2.1
      exact ⟨by show (0 : Int) ≤ S.last; omega, fun _ => ⟨Int.le_refl _, this.1⟩, fun _ => rfl⟩
    · split at hw' <;> cases hw'
  · rw [hcs f hf] at hs
    have hs' := Option.some.inj hs
    unfold freshC at hs'
    split at hs'
    · cases hs'
    · split at hs'
      · have : s = ⟨IntKind.wrap .u64 f.1, 0, []⟩ := (Cnt.value.inj hs').symm
        subst this
        refine ⟨⟨Int.le_refl _, (by decide : (0 : Int) ≤ 1152921504606846976), (fun b hb => by cases hb), List.Pairwise.nil, Nat.zero_le _⟩, by show (0 : Int) ≤ S.last; omega, fun t at' r _ _ => ?_⟩
        show min (fromW at' []) 4611686018427387904 ≤ 0
        have : fromW at' [] = 0 := rfl
        omega
      · cases hs'
end Go.Proofs.Ytledmkhbaacdnaa
