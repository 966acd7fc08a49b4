/- Never too much is granted, in plain words: what holds of a server with one flow by rate and one by lease, whatever is asked. -/
import Derived.Test.YtckcdkhiehdkkaaTkY
namespace Go.Proofs.Ytckcdkhiehdkkaa
open Go Go.Fw
set_option linter.unusedSimpArgs false
set_option linter.unusedVariables false

def nX : ByteArray := ByteArray.mk #[120]
def fR (rt : Int) : F4 := (1, rt, 1, 0, ())
def fL (ls : Int) : F4 := (2, ls, 3, 2000000, ())
def sumC (l : List F4) : Int := (l.map fun t => t.2.2.1).sum
structure Held (rt ls : Int) (S : Srv) (got : List (Int × Int)) : Prop where
  rng : (0 ≤ rt ∧ rt ≤ 255) ∧ (0 ≤ ls ∧ ls ≤ 255)
  spaces : S.spaces = [(nX, [fR rt, fL ls])]
  times : 0 ≤ S.begun ∧ S.begun ≤ S.last ∧ S.last ≤ 1152921504606846976
  kinds : ∀ id c, S.counts id = some c → c.kind ≠ 2
  two : S.counts 2 = some .leased
  one : ∃ w old l, S.counts 1 = some (.rate w) ∧ w.last ≤ S.last ∧ (∀ i, 0 ≤ w.p i ∧ w.p i ≤ 255) ∧ got = old ++ l ∧ (∀ x, x ∈ old → 0 ≤ x.1 ∧ x.1 ≤ S.begun) ∧ (∀ x, x ∈ l → 0 ≤ x.1 ∧ x.1 ≤ S.last) ∧ ∀ i, w.p i = bktN i l
  pos : ∀ x, x ∈ got → 0 ≤ x.2
  near : ∀ t, S.last ≤ t → nearN t got ≤ rt
  out : (∀ t, t ∈ S.out → t.2.1 = 2 ∧ 0 ≤ t.2.2.1) ∧ sumC S.out ≤ ls ∧ S.out.length ≤ 1024

theorem sub_sum {l l' : List F4} (h : l'.Sublist l) (hp : ∀ t, t ∈ l → 0 ≤ t.2.2.1) : sumC l' ≤ sumC l := by
  induction h with
  | slnil => exact Int.le_refl _
  | cons a _ ih =>
    have := ih fun t ht => hp t (List.mem_cons_of_mem _ ht)
    have := hp a (List.mem_cons_self ..)
    unfold sumC at *
    rw [List.map_cons, List.sum_cons]
    omega
  | cons_cons a _ ih =>
    have := ih fun t ht => hp t (List.mem_cons_of_mem _ ht)
    unfold sumC at *
    rw [List.map_cons, List.sum_cons, List.map_cons, List.sum_cons]
    omega
theorem Shr.sub {S : Srv} {at_ : Int} {o : List F4} (h : Shr S at_ o) : o.Sublist S.out := by
  rcases h with rfl | rfl | ⟨i, rfl⟩
  · exact List.Sublist.refl _
  · exact List.filter_sublist
  · exact (List.eraseIdx_sublist _ _).trans List.filter_sublist
theorem Held.ok {rt ls : Int} {S : Srv} {got : List (Int × Int)} (h : Held rt ls S got) : S.OK := by
  refine ⟨by have := h.out.2.2; omega, fun x hx f hf => ?_⟩
  obtain ⟨w, old, l, h1, _⟩ := h.one
  rw [h.spaces] at hx
  simp only [List.mem_cons, List.not_mem_nil, or_false] at hx
  subst hx
  simp only [List.mem_cons, List.not_mem_nil, or_false] at hf
  rcases hf with rfl | rfl
  · exact ⟨_, h1, rfl⟩
  · exact ⟨_, h.two, rfl⟩
/-- nothing is granted: time goes on -/
theorem Held.still {rt ls : Int} {S : Srv} {got : List (Int × Int)} (h : Held rt ls S got) {at_ : Int} (ha : lookE S.last at_ = 0) {o : List F4} (ho : Shr S at_ o) (cs : Int → Option ByteArray) : Held rt ls { S with last := at_, out := o, conns := cs } got := by
  obtain ⟨a0, a1, a2⟩ := lookE_ok ha
  obtain ⟨t0, t1, t2⟩ := h.times
  obtain ⟨w, old, l, h1, h2, h3, h4, h5, h6, h7⟩ := h.one
  have hs := ho.sub
  exact ⟨h.rng, h.spaces, ⟨t0, Int.le_trans t1 a2, a1⟩, h.kinds, h.two, ⟨w, old, l, h1, Int.le_trans h2 a2, h3, h4, h5, fun x hx => ⟨(h6 x hx).1, Int.le_trans (h6 x hx).2 a2⟩, h7⟩, h.pos, fun t ht => h.near t (Int.le_trans a2 ht),
    fun t ht => h.out.1 t (hs.subset ht), Int.le_trans (sub_sum hs fun t ht => (h.out.1 t ht).2) h.out.2.1, Nat.le_trans hs.length_le h.out.2.2⟩
theorem filt_mono {p q : (Int × Int) → Bool} {l : List (Int × Int)} (hp : ∀ x, x ∈ l → 0 ≤ x.2) (h : ∀ x, p x = true → q x = true) : ((l.filter p).map (·.2)).sum ≤ ((l.filter q).map (·.2)).sum := filt_le hp fun x _ => h x
theorem near_anti {s t : Int} (hst : s ≤ t) {l : List (Int × Int)} (hp : ∀ x, x ∈ l → 0 ≤ x.2) : nearN t l ≤ nearN s l := filt_mono hp fun x hx => by
  simp only [decide_eq_true_eq] at hx ⊢
  omega
theorem Held.flow {rt ls : Int} {S : Srv} {got : List (Int × Int)} (h : Held rt ls S got) {ns : ByteArray} {id : Int} {f : F4} (hf : flowV S.spaces ns id = some f) : f = fR rt ∨ f = fL ls := by
  obtain ⟨x, hx, hf, _⟩ := flow_mem hf
  rw [h.spaces] at hx
  simp only [List.mem_cons, List.not_mem_nil, or_false] at hx
  subst hx
  simpa using hf
theorem flowB_rng {r : Rq} (h : flowB r = true) : 1 ≤ r.2.2.2.1 ∧ r.2.2.2.1 ≤ 1099511627776 := by
  unfold flowB at h
  simp only [Bool.and_eq_true] at h
  have := h.2
  unfold inB at this
  simp only [Bool.and_eq_true, decide_eq_true_eq] at this
  omega
theorem right_count {r : Rq} (h : rightB r = true) (hw : r.2.1 = 1 ∨ r.2.1 = 2 ∨ r.2.1 = 3) : 1 ≤ r.2.2.2.1 ∧ r.2.2.2.1 ≤ 1099511627776 := by
  refine flowB_rng ?_
  unfold rightB at h
  rcases hw with e | e | e <;> simp [e] at h <;> simp [h]
/-- a grant by rate -/
theorem Held.rate {rt ls : Int} {S : Srv} {got : List (Int × Int)} (h : Held rt ls S got) {at_ : Int} (ha : lookE S.last at_ = 0) {r : Rq} (hc : 1 ≤ r.2.2.2.1 ∧ r.2.2.2.1 ≤ 1099511627776) (hq : quietV S at_ (fR rt) = false) (ho : overV (usedV S at_ (fR rt) r.2.2.2.2.1) (fR rt) r = false) :
    Held rt ls ((S.at at_).take at_ (fR rt) r) (got ++ [(at_, r.2.2.2.1)]) := by
  obtain ⟨a0, a1, a2⟩ := lookE_ok ha
  obtain ⟨t0, t1, t2⟩ := h.times
  obtain ⟨w, old, l, h1, h2, h3, h4, h5, h6, h7⟩ := h.one
  obtain ⟨⟨r0, r1⟩, _⟩ := h.rng
  have hpl : ∀ x, x ∈ l → 0 ≤ x.2 := fun x hx => h.pos x (by rw [h4]; exact List.mem_append_right _ hx)
  have hlt : ∀ x, x ∈ l → x.1 ≤ at_ := fun x hx => Int.le_trans (h6 x hx).2 a2
  have hsum : w.sum at_ = fromN (loW at_) l := sum_notes (c := 255) (by omega) h3 h7 a0 hlt
  have hwr : wrongE w.last at_ = 0 := by unfold wrongE; rw [if_neg (by omega), if_neg (by omega), if_neg (by omega)]
  have hu : usedV S at_ (fR rt) r.2.2.2.2.1 = w.sum at_ := by
    unfold usedV
    rw [if_neg (by show ¬ (1 : Int) = 3; decide), show (fR rt).1 = 1 from rfl, h1]
    show w.used at_ = _
    unfold Win.used
    rw [if_pos hwr]
  have hle : w.sum at_ + r.2.2.2.1 ≤ rt := by
    unfold overV at ho
    rw [hu, show (fR rt).2.1 = rt from rfl, decide_eq_false_iff_not, wrap64 (by omega) (by omega)] at ho
    omega
  have hqq : S.begun + 1000000 ≤ at_ := by
    unfold quietV at hq
    rw [show (fR rt).2.2.2.1 = 0 from rfl, show maxV 1000000 0 = 1000000 from by decide, decide_eq_false_iff_not, wrap64 (by omega) (by omega)] at hq
    omega
  have hf0 : bktN (bkt at_) l ≤ fromN (loW at_) l := by
    refine filt_mono hpl fun x hx => ?_
    simp only [decide_eq_true_eq] at hx ⊢
    rw [hx]
    unfold loW
    have : 0 ≤ bkt at_ := by unfold bkt; omega
    omega
  have hb : w.p (bkt at_) + r.2.2.2.1 ≤ 255 := by rw [h7]; omega
  have hpl' : plusV (w.p (bkt at_)) r.2.2.2.1 = w.p (bkt at_) + r.2.2.2.1 := by
    have := h3 (bkt at_)
    rw [plusV_eq (by omega) (by omega)]
    omega
  have hS : (S.at at_).take at_ (fR rt) r = { S with last := at_, counts := fun i => if i = 1 then some (.rate (w.add at_ r.2.2.2.1)) else S.counts i } := by
    unfold Srv.take Srv.at
    dsimp only
    rw [show (fR rt).1 = 1 from rfl, h1]
    have : (Cnt.rate w).took at_ r.2.2.2.2.1 r.2.2.2.1 = .rate (w.add at_ r.2.2.2.1) := by
      show Cnt.rate (w.took at_ r.2.2.2.1) = _
      unfold Win.took
      rw [if_pos hwr]
    rw [Option.map_some, this]
  rw [hS]
  refine ⟨h.rng, h.spaces, ⟨t0, Int.le_trans t1 a2, a1⟩, fun id c hid => ?_, ?_, ⟨w.add at_ r.2.2.2.1, old, l ++ [(at_, r.2.2.2.1)], (show (if (1 : Int) = 1 then some (Cnt.rate (w.add at_ r.2.2.2.1)) else S.counts 1) = _ from if_pos rfl), Int.le_refl _, fun i => ?_, by rw [h4, List.append_assoc], h5, fun x hx => ?_, fun i => ?_⟩, fun x hx => ?_, fun t ht => ?_, h.out⟩
  · dsimp only at hid
    split at hid
    · cases hid; exact (by decide : (1 : Int) ≠ 2)
    · exact h.kinds id c hid
  · show (if (2 : Int) = 1 then some (Cnt.rate (w.add at_ r.2.2.2.1)) else S.counts 2) = _
    rw [if_neg (by decide)]
    exact h.two
  · show 0 ≤ (if i = bkt at_ then plusV (w.p i) r.2.2.2.1 else w.p i) ∧ (if i = bkt at_ then plusV (w.p i) r.2.2.2.1 else w.p i) ≤ 255
    split
    · rename_i e
      rw [e, hpl']
      have := h3 (bkt at_)
      omega
    · exact h3 i
  · rcases List.mem_append.1 hx with hx | hx
    · exact ⟨(h6 x hx).1, hlt x hx⟩
    · simp at hx; subst hx; exact ⟨a0, Int.le_refl _⟩
  · show (if i = bkt at_ then plusV (w.p i) r.2.2.2.1 else w.p i) = _
    rw [bkt_app, bkt_one, ← h7]
    split
    · rename_i e
      rw [e, hpl']
    · omega
  · rcases List.mem_append.1 hx with hx | hx
    · exact h.pos x hx
    · simp at hx; subst hx; show 0 ≤ r.2.2.2.1; omega
  · have ht' : at_ ≤ t := ht
    have hp' : ∀ x, x ∈ got ++ [(at_, r.2.2.2.1)] → 0 ≤ x.2 := fun x hx => by
      rcases List.mem_append.1 hx with hx | hx
      · exact h.pos x hx
      · simp at hx; subst hx; show 0 ≤ r.2.2.2.1; omega
    refine Int.le_trans (near_anti ht' hp') ?_
    rw [near_app, near_one _ _ _ (by omega), h4, near_app]
    have hold : nearN at_ old = 0 := filt_none fun x hx => decide_eq_false (by have := h5 x hx; omega)
    have hnl : nearN at_ l ≤ fromN (loW at_) l := near_le_from fun x hx => ⟨(h6 x hx).1, hpl x hx⟩
    omega
theorem sumL_two : ∀ {l : List F4} {n c : Int}, (∀ t, t ∈ l → t.2.1 = 2 ∧ 0 ≤ t.2.2.1) → 0 ≤ n → n + sumC l ≤ c → c ≤ 4611686018427387904 → l.foldl (fun n t => if t.2.1 = 2 then IntKind.wrap .i64 (n + t.2.2.1) else n) n = n + sumC l
  | [], n, c, _, _, _, _ => by simp [sumC]
  | t :: l, n, c, h, h0, hc, hm => by
    obtain ⟨e, hp⟩ := h t (List.mem_cons_self ..)
    have hl : ∀ t, t ∈ l → t.2.1 = 2 ∧ 0 ≤ t.2.2.1 := fun x hx => h x (List.mem_cons_of_mem _ hx)
    have hs : sumC (t :: l) = t.2.2.1 + sumC l := by unfold sumC; rw [List.map_cons, List.sum_cons]
    have hn : 0 ≤ sumC l := by
      unfold sumC
      refine sum_nonneg fun x hx => ?_
      obtain ⟨y, hy, rfl⟩ := List.mem_map.1 hx
      exact (hl y hy).2
    rw [List.foldl_cons, if_pos e, wrap64 (by omega) (by omega), sumL_two (c := c) hl (by omega) (by omega) hm, hs]
    omega
/-- a grant by lease -/
theorem Held.leased {rt ls : Int} {S : Srv} {got : List (Int × Int)} (h : Held rt ls S got) {at_ : Int} (ha : lookE S.last at_ = 0) {r : Rq} (hc : 1 ≤ r.2.2.2.1 ∧ r.2.2.2.1 ≤ 1099511627776) (ho : overV (usedV S at_ (fL ls) r.2.2.2.2.1) (fL ls) r = false) (hl : (aliveV at_ S.out).length < 1024) :
    Held rt ls ((S.at at_).lease at_ (fL ls) r) got := by
  have hst := h.still ha (o := aliveV at_ S.out) (.inr (.inl rfl)) S.conns
  have hso : sumC (aliveV at_ S.out) ≤ ls := hst.out.2.1
  obtain ⟨_, l0, l1⟩ := h.rng
  have hu : usedV S at_ (fL ls) r.2.2.2.2.1 = sumC (aliveV at_ S.out) := by
    unfold usedV
    rw [if_pos (show (fL ls).2.2.1 = 3 from rfl)]
    have := sumL_two (n := 0) (c := 255) hst.out.1 (Int.le_refl _) (by show 0 + sumC (aliveV at_ S.out) ≤ 255; omega) (by omega)
    show sumL 2 _ = _
    unfold sumL
    rw [this]
    show 0 + sumC (aliveV at_ S.out) = _
    omega
  have hn : 0 ≤ sumC (aliveV at_ S.out) := by
    unfold sumC
    refine sum_nonneg fun x hx => ?_
    obtain ⟨y, hy, rfl⟩ := List.mem_map.1 hx
    exact (hst.out.1 y hy).2
  have hle : sumC (aliveV at_ S.out) + r.2.2.2.1 ≤ ls := by
    unfold overV at ho
    rw [hu, show (fL ls).2.1 = ls from rfl, decide_eq_false_iff_not, wrap64 (by omega) (by omega)] at ho
    omega
  refine ⟨hst.rng, hst.spaces, hst.times, hst.kinds, hst.two, hst.one, hst.pos, hst.near, fun t ht => ?_, ?_, ?_⟩
  · rcases List.mem_append.1 (show t ∈ aliveV at_ S.out ++ [(S.next, 2, r.2.2.2.1, IntKind.wrap .i64 (at_ + 2000000), ())] from ht) with ht | ht
    · exact hst.out.1 t ht
    · simp at ht; subst ht; exact ⟨rfl, by show 0 ≤ r.2.2.2.1; omega⟩
  · show sumC (aliveV at_ S.out ++ [(S.next, 2, r.2.2.2.1, IntKind.wrap .i64 (at_ + 2000000), ())]) ≤ ls
    unfold sumC at hle ⊢
    rw [List.map_append, List.sum_append]
    simp only [List.map_cons, List.map_nil, List.sum_cons, List.sum_nil]
    omega
  · show (aliveV at_ S.out ++ [_]).length ≤ 1024
    rw [List.length_append, List.length_singleton]
    omega
/-- a request, whatever it is -/
def gotN (S : Srv) (at_ conn : Int) (r : Rq) (got : List (Int × Int)) : List (Int × Int) :=
  if (doV S at_ conn r).1.2 = 0 ∧ (doV S at_ conn r).1.1.2.1 = 1 ∧ r.2.1 = 1 then got ++ [(at_, r.2.2.2.1)] else got
structure Said (S : Srv) (at_ : Int) (r : Rq) (a : An) (S' : Srv) : Prop where
  look : lookE S.last at_ = 0
  bad : rightB r = false → a.2.1 = 5
  last : S'.last = at_
theorem Held.do {rt ls : Int} {S : Srv} {got : List (Int × Int)} (h : Held rt ls S got) (at_ conn : Int) (r : Rq) : Held rt ls (doV S at_ conn r).2 (gotN S at_ conn r got) ∧ ((doV S at_ conn r).1.2 = 0 → Said S at_ r (doV S at_ conn r).1.1 (doV S at_ conn r).2) := by
  unfold gotN
  rcases doV_cases S at_ conn r with ⟨h1, h2⟩ | ⟨h1, hl, hid, hS | ⟨ns, f, hc, hG⟩⟩
  · rw [if_neg (fun e => h1 e.1), h2]
    exact ⟨h, fun e => (h1 e).elim⟩
  · rw [if_neg (fun e => by rcases hS.nope with q | q <;> omega)]
    obtain ⟨o, cs, ho, e⟩ := hS.is
    refine ⟨?_, fun _ => ⟨hl, hS.bad, by rw [e]⟩⟩
    rw [e]
    exact h.still hl ho cs
  · have hbad : ∀ n : Int, rightB r = false → n = 5 := fun n e => by rw [hG.right] at e; cases e
    rcases h.flow hG.flow with rfl | rfl
    · have hk : r.2.1 = 1 := hG.kind.symm
      rw [if_pos ⟨h1, hG.one, hk⟩]
      rcases hG.is with ⟨_, e⟩ | ⟨e3, _⟩
      · refine ⟨?_, fun _ => ⟨hl, hbad _, by rw [e]; rfl⟩⟩
        rw [e]
        exact h.rate hl (right_count hG.right (.inl hk)) hG.quiet hG.over
      · exact absurd e3 (show ¬ (1 : Int) = 3 by decide)
    · have hk : r.2.1 = 3 := hG.kind.symm
      rw [if_neg (fun e => by omega)]
      rcases hG.is with ⟨e3, _⟩ | ⟨_, hlen, e⟩
      · exact absurd rfl e3
      · refine ⟨?_, fun _ => ⟨hl, hbad _, by rw [e]; rfl⟩⟩
        rw [e]
        exact h.leased hl (right_count hG.right (.inr (.inr hk))) hG.over hlen
theorem Held.restart {rt ls : Int} {S : Srv} {got : List (Int × Int)} (h : Held rt ls S got) {at_ : Int} (ha : lookE S.last at_ = 0) : Held rt ls (S.restarted at_) got := by
  obtain ⟨a0, a1, a2⟩ := lookE_ok ha
  obtain ⟨t0, t1, t2⟩ := h.times
  obtain ⟨w, old, l, h1, h2, h3, h4, h5, h6, h7⟩ := h.one
  refine ⟨h.rng, h.spaces, ⟨a0, Int.le_refl _, a1⟩, fun id c hid => ?_, ?_, ⟨⟨0, fun _ => 0⟩, got, [], ?_, a0, fun _ => ⟨Int.le_refl _, by show (0 : Int) ≤ 255; decide⟩, by simp, fun x hx => ?_, (fun x hx => by cases hx), fun _ => rfl⟩, h.pos, fun t ht => h.near t (Int.le_trans a2 ht), (fun t ht => by cases ht), h.rng.2.1, by show 0 ≤ 1024; omega⟩
  · change (S.counts id).map (fun c => freshK id c.kind) = some c at hid
    cases hd : S.counts id with
    | none => rw [hd] at hid; cases hid
    | some d =>
      rw [hd] at hid
      cases hid
      rw [freshK_kind id (kind_is d)]
      exact h.kinds id d hd
  · show (S.counts 2).map _ = _
    rw [h.two]
    rfl
  · show (S.counts 1).map _ = _
    rw [h1]
    rfl
  · rw [h4] at hx
    show 0 ≤ x.1 ∧ x.1 ≤ at_
    rcases List.mem_append.1 hx with hx | hx
    · have := h5 x hx; omega
    · have := h6 x hx; omega
theorem Held.opened {rt ls : Int} {S : Srv} {got : List (Int × Int)} (h : Held rt ls S got) (conn : Int) : Held rt ls (S.opened conn) got := by
  unfold Srv.opened
  split
  · exact ⟨h.rng, h.spaces, h.times, h.kinds, h.two, h.one, h.pos, h.near, h.out⟩
  · exact h

/-- the beginning -/
def gS (rt ls : Int) : Srv := (newS 0).loaded nX [fR rt, fL ls]
theorem gS_eq (rt ls : Int) : gS rt ls = ⟨0, 0, [(nX, [fR rt, fL ls])], fun i => if i = 2 then some .leased else if i = 1 then some (.rate ⟨0, fun _ => 0⟩) else none, 2, fun _ => none, 0, [], 1⟩ := rfl
theorem g_ok {rt ls : Int} (h : (0 ≤ rt ∧ rt ≤ 255) ∧ (0 ≤ ls ∧ ls ≤ 255)) : LoadOK (newS 0) nX [fR rt, fL ls] := by
  refine ⟨by decide, ?_, ⟨by show ([1, 2] : List Int).Nodup; decide, fun f hf h => ?_⟩, ?_⟩
  · have h1 : rightF (fR rt) = true := by unfold rightF fR inB leaseF; simp; omega
    have h2 : rightF (fL ls) = true := by unfold rightF fL inB leaseF; simp [inB]; omega
    simp [h1, h2]
  · obtain ⟨x, hx, _⟩ := h
    cases hx
  · rfl
theorem Held.begin {rt ls : Int} (h : (0 ≤ rt ∧ rt ≤ 255) ∧ (0 ≤ ls ∧ ls ≤ 255)) : Held rt ls (gS rt ls) [] := by
  rw [gS_eq]
  refine ⟨h, rfl, ⟨Int.le_refl _, Int.le_refl _, (by show (0 : Int) ≤ 1152921504606846976; decide)⟩, fun id c hid => ?_, rfl, ⟨_, [], [], rfl, Int.le_refl _, fun _ => ⟨Int.le_refl _, by show (0 : Int) ≤ 255; decide⟩, rfl, (fun x hx => by cases hx), (fun x hx => by cases hx), fun _ => rfl⟩, (fun x hx => by cases hx), fun t _ => h.1.1, (fun t ht => by cases ht), h.2.1, by show 0 ≤ 1024; omega⟩
  dsimp only at hid
  split at hid
  · cases hid; exact (by decide : (3 : Int) ≠ 2)
  · split at hid
    · cases hid; exact (by decide : (1 : Int) ≠ 2)
    · cases hid
end Go.Proofs.Ytckcdkhiehdkkaa
