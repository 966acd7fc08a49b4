/- The sketch: maps of pairs of numbers; a sketch in plain words, and in memory. -/
import Derived.Test.YtledmkhbaacdnaaTkF
namespace Go.Proofs.Ytledmkhbaacdnaa
open Go Go.Fw
set_option linter.unusedSimpArgs false
set_option linter.unusedVariables false

/-! ### maps of pairs; what is not there is nought -/
def pk (r c : Int) : Value := .agg #[iv r, iv c]
theorem pk_inj {r c r' c' : Int} (h : pk r c = pk r' c') : r = r' ∧ c = c' := by
  unfold pk at h
  injection h with h
  injection h with h
  injection h with h1 h2
  injection h2 with h2 _
  exact ⟨iv_inj h1, iv_inj h2⟩
structure EntP (es : Array MapEntry) (n : Int → Int → Int) : Prop where
  to : ∀ e, e ∈ es.toList → ∃ r c, e.key = pk r c ∧ e.val = iv (n r c)
  of : ∀ r c, n r c ≠ 0 → ∃ e, e ∈ es.toList ∧ e.key = pk r c
def MapP (h : Heap) (mb : Nat) (n : Int → Int → Int) : Prop := ∃ es c, h[mb]? = some (.map es c) ∧ MapKept.Stamped es c ∧ EntP es n
def updP (n : Int → Int → Int) (r c x : Int) : Int → Int → Int := fun r' c' => if r' = r ∧ c' = c then x else n r' c'
theorem EntP.key {es : Array MapEntry} {n : Int → Int → Int} (he : EntP es n) : ∀ x, x ∈ es.toList → IsAggKey [.int .i64, .int .i64] x.key := fun x hx => by
  obtain ⟨r, c, hk, _⟩ := he.to x hx
  exact ⟨[iv r, iv c], hk, rfl, rfl, trivial⟩
theorem aggEq_pk (r c r' c' : Int) : aggEq [iv r, iv c] (pk r' c') = (decide (r = r') && decide (c = c')) := by
  unfold aggEq pk
  simp only [leafsEq, leafEq]
  cases h1 : decide (r = r') <;> cases h2 : decide (c = c') <;> simp_all
theorem findA_spec (r c : Int) : ∀ (l : List MapEntry) (i : Nat), (∀ e, e ∈ l → ∃ r c, e.key = pk r c) →
    (findA [iv r, iv c] l i = none ∧ ∀ e, e ∈ l → e.key ≠ pk r c) ∨ ∃ j e, findA [iv r, iv c] l i = some (i + j, e.val) ∧ l[j]? = some e ∧ e.key = pk r c
  | [], i, _ => .inl ⟨rfl, fun e he => by cases he⟩
  | e :: l, i, h => by
    obtain ⟨r', c', hk⟩ := h e (List.mem_cons_self ..)
    unfold findA
    rw [hk, aggEq_pk]
    rcases Decidable.em (r = r' ∧ c = c') with ⟨h1, h2⟩ | hn
    · subst h1 h2
      right
      refine ⟨0, e, ?_, rfl, hk⟩
      simp
    · have : (decide (r = r') && decide (c = c')) = false := by
        rw [← Bool.decide_and]
        exact decide_eq_false hn
      rw [this]
      simp only [cond_false]
      rcases findA_spec r c l (i + 1) (fun e he => h e (List.mem_cons_of_mem _ he)) with ⟨g1, g2⟩ | ⟨j, e', g1, g2, g3⟩
      · refine .inl ⟨g1, fun e' he => ?_⟩
        rcases List.mem_cons.1 he with rfl | he
        · rw [hk]
          intro e9
          obtain ⟨q1, q2⟩ := pk_inj e9
          exact hn ⟨q1.symm, q2.symm⟩
        · exact g2 e' he
      · exact .inr ⟨j + 1, e', by rw [g1]; congr 2; omega, g2, g3⟩
theorem EntP.find {es : Array MapEntry} {n : Int → Int → Int} (he : EntP es n) (r c : Int) :
    (findA [iv r, iv c] es.toList 0 = none ∧ n r c = 0 ∧ ∀ e, e ∈ es.toList → e.key ≠ pk r c) ∨ ∃ j e, findA [iv r, iv c] es.toList 0 = some (j, e.val) ∧ es.toList[j]? = some e ∧ e.key = pk r c ∧ e.val = iv (n r c) := by
  rcases findA_spec r c es.toList 0 (fun e hm => by obtain ⟨r, c, hk, _⟩ := he.to e hm; exact ⟨r, c, hk⟩) with ⟨h1, h2⟩ | ⟨j, e, h1, h2, h3⟩
  · refine .inl ⟨h1, ?_, h2⟩
    rcases Decidable.em (n r c = 0) with h0 | h0
    · exact h0
    · obtain ⟨e, hm, hk⟩ := he.of r c h0
      exact absurd hk (h2 e hm)
  · obtain ⟨r', c', hk, hv⟩ := he.to e (List.mem_of_getElem? h2)
    rw [h3] at hk
    obtain ⟨rfl, rfl⟩ := pk_inj hk
    rw [Nat.zero_add] at h1
    exact .inr ⟨j, e, h1, h2, h3, hv⟩
theorem MapP.congr {h h' : Heap} {mb : Nat} {n : Int → Int → Int} (hm : MapP h mb n) (he : h'[mb]? = h[mb]?) : MapP h' mb n := by
  obtain ⟨es, c, hb, r⟩ := hm
  exact ⟨es, c, he.trans hb, r⟩
theorem MapP.lt {h : Heap} {mb : Nat} {n : Int → Int → Int} (hm : MapP h mb n) : mb < sz h := by
  obtain ⟨es, c, hb, r⟩ := hm
  exact blk_lt hb
theorem MapP.new {h : Heap} : MapP (h.push (.map #[] 0)) (sz h) (fun _ _ => 0) :=
  ⟨#[], 0, push_new, MapKept.stamped_empty 0, fun e he => by simp at he, fun r c h => (h rfl).elim⟩
theorem MapP.get {h : Heap} {mb : Nat} {n : Int → Int → Int} (hm : MapP h mb n) (r c : Int) {K : Int → Prop} (hk : K (n r c)) : mapGetA [(.int .i64), (.int .i64)] h (some mb) [Value.int .i64 r, Value.int .i64 c] fun x => asI (x.getD (Value.int .i64 0)) .i64 K := by
  obtain ⟨es, cl, hb, hs, he⟩ := hm
  refine ⟨(fun e => by cases e), fun b e => ?_⟩
  cases e
  refine ⟨es, cl, hb, he.key, ?_⟩
  rcases he.find r c with ⟨h1, h2, _⟩ | ⟨j, e, h1, h2, h3, h4⟩
  · rw [h1]
    exact ⟨0, rfl, by rw [h2] at hk; exact hk⟩
  · rw [h1]
    exact ⟨n r c, h4, hk⟩
theorem MapP.put {h : Heap} {mb : Nat} {n : Int → Int → Int} (hm : MapP h mb n) (r c x : Int) {K : Heap → Prop}
    (hk : ∀ h', MapP h' mb (updP n r c x) → Upd (· = mb) h h' → sz h' = sz h → K h') : mapPutA [(.int .i64), (.int .i64)] h (some mb) [Value.int .i64 r, Value.int .i64 c] (Value.int .i64 x) K := by
  have hlt := hm.lt
  obtain ⟨es, cl, hb, hs, he⟩ := hm
  refine ⟨mb, es, cl, rfl, hb, he.key, ?_⟩
  rcases he.find r c with ⟨h1, h2, h3⟩ | ⟨j, e, h1, h2, h3, h4⟩
  · rw [h1]
    refine hk _ ⟨es.push { key := pk r c, val := iv x, born := cl }, cl + 1, set_at hlt, MapKept.stamped_push hs fun y hy => h3 y hy, fun y hy => ?_, fun r' c' hn => ?_⟩ set_upd (by unfold sz; simp)
    · simp only [Array.toList_push, List.mem_append, List.mem_singleton] at hy
      rcases hy with hy | rfl
      · obtain ⟨r', c', hk', hv⟩ := he.to y hy
        refine ⟨r', c', hk', ?_⟩
        rw [hv]
        unfold updP
        rw [if_neg]
        rintro ⟨rfl, rfl⟩
        exact h3 y hy hk'
      · exact ⟨r, c, rfl, by unfold updP; rw [if_pos ⟨rfl, rfl⟩]⟩
    · simp only [Array.toList_push, List.mem_append, List.mem_singleton]
      unfold updP at hn
      split at hn
      · rename_i e9
        obtain ⟨rfl, rfl⟩ := e9
        exact ⟨_, .inr rfl, rfl⟩
      · obtain ⟨y, hy, hyk⟩ := he.of r' c' hn
        exact ⟨y, .inl hy, hyk⟩
  · rw [h1]
    have hj' : es[j]? = some e := by simpa using h2
    have uniq : ∀ i y, es.toList[i]? = some y → y.key = pk r c → i = j := by
      intro i y hi hy
      have hnd := hs.2.2
      have q1 : (es.toList.map (·.key))[i]? = some (pk r c) := by rw [List.getElem?_map, hi]; simp [hy]
      have q2 : (es.toList.map (·.key))[j]? = some (pk r c) := by rw [List.getElem?_map, h2]; simp [h3]
      obtain ⟨hil, q1⟩ := List.getElem?_eq_some_iff.1 q1
      obtain ⟨hjl, q2⟩ := List.getElem?_eq_some_iff.1 q2
      exact (List.getElem_inj hnd).1 (q1.trans q2.symm)
    refine hk _ ⟨es.modify j fun y => { y with key := pk r c, val := iv x }, cl, set_at hlt, MapKept.stamped_modify hs j _ (fun y _ => rfl) (fun y _ hy => ?_), fun y hy => ?_, fun r' c' hn => ?_⟩ set_upd (by unfold sz; simp)
    · rw [hj'] at hy
      cases hy
      exact h3.symm
    · obtain ⟨i, hi⟩ := List.getElem?_of_mem hy
      rw [Array.getElem?_toList, Array.getElem?_modify] at hi
      by_cases hij : j = i
      · subst hij
        rw [if_pos rfl, hj'] at hi
        simp only [Option.map_some, Option.some.injEq] at hi
        subst hi
        exact ⟨r, c, rfl, by unfold updP; rw [if_pos ⟨rfl, rfl⟩]⟩
      · rw [if_neg hij] at hi
        have hi' : es.toList[i]? = some y := by simpa using hi
        obtain ⟨r', c', hk', hv⟩ := he.to y (List.mem_of_getElem? hi')
        refine ⟨r', c', hk', ?_⟩
        rw [hv]
        unfold updP
        rw [if_neg]
        rintro ⟨rfl, rfl⟩
        exact hij (uniq i y hi' hk').symm
    · unfold updP at hn
      split at hn
      · rename_i e9
        obtain ⟨rfl, rfl⟩ := e9
        refine ⟨{ e with key := pk r' c', val := iv x }, List.mem_of_getElem? (i := j) ?_, rfl⟩
        rw [Array.getElem?_toList, Array.getElem?_modify, if_pos rfl, hj']
        rfl
      · rename_i hne
        obtain ⟨y, hy, hyk⟩ := he.of r' c' hn
        obtain ⟨m, hm⟩ := List.getElem?_of_mem hy
        refine ⟨y, List.mem_of_getElem? (i := m) ?_, hyk⟩
        rw [Array.getElem?_toList, Array.getElem?_modify, if_neg]
        · simpa using hm
        · intro hjm
          subst hjm
          rw [h2] at hm
          cases hm
          rw [h3] at hyk
          obtain ⟨q1, q2⟩ := pk_inj hyk
          exact hne ⟨q1.symm, q2.symm⟩

/-! ### a sketch, in plain words -/
structure Bk where
  at_ : Int
  total : Int
  n : Int → Int → Int
structure Sk where
  seed : Int
  last : Int
  bs : List Bk
structure Bk.OK (b : Bk) : Prop where
  lo : 0 ≤ b.at_
  step : b.at_ % 100000 = 0
  total : 0 ≤ b.total ∧ b.total ≤ 4611686018427387904
  n : ∀ r c, 0 ≤ b.n r c ∧ b.n r c ≤ 4611686018427387904
structure Sk.OK (s : Sk) : Prop where
  lo : 0 ≤ s.last
  hi : s.last ≤ 1152921504606846976
  bs : ∀ b, b ∈ s.bs → b.OK ∧ b.at_ ≤ s.last
  up : s.bs.Pairwise fun a b => a.at_ < b.at_
  few : s.bs.length ≤ 12

/-! ### in memory, by tags -/
def tg (id : Int) (j : Nat) : Nat := 6 + 4 * id.toNat + j
abbrev B3 := Bk × Nat
def b3L (x : B3) : List Value := [iv x.1.at_, iv x.1.total, .map (some x.2)]
theorem b3L_len (x : B3) : (b3L x).length = 3 := rfl
theorem b3L_one (x : B3) : (b3L x).all oneCell = true := by simp [b3L, one_int, one_map]
theorem b3L_all (l : List B3) : (l.flatMap b3L).all oneCell = true := by
  rw [List.all_eq_true]
  intro v hv
  obtain ⟨t, _, hv⟩ := List.mem_flatMap.1 hv
  exact List.all_eq_true.1 (b3L_one t) v hv
structure SkR (h : Heap) (T : Nat → Option Nat) (id : Int) (wb : Nat) (sl : Sl) (lb : List B3) (s : Sk) : Prop where
  ok : s.OK
  cells : obj h wb = some (.cells [iv 1000000, iv 10, iv 3, iv 256, .int .u64 s.seed, slV sl, iv s.last].toArray 111 (0, 0))
  own : Own h 0 sl 3 (lb.flatMap b3L)
  bs : lb.map (·.1) = s.bs
  nd : (lb.map (·.2)).Nodup
  maps : ∀ x, x ∈ lb → MapP h x.2 x.1.n ∧ T x.2 = some (tg id 2)
  tw : T wb = some (tg id 0)
  ts : ∀ k, sl.blk = some k → T k = some (tg id 1)
theorem tg_ne {id : Int} {i j : Nat} (h : i ≠ j) : tg id i ≠ tg id j := by unfold tg; omega
theorem SkR.congr {h h' : Heap} {T T' : Nat → Option Nat} {id : Int} {wb : Nat} {sl : Sl} {lb : List B3} {s : Sk} (hs : SkR h T id wb sl lb s) (hT : ∀ k t, T k = some t → T' k = some t) (he : ∀ k j, j < 4 → T k = some (tg id j) → h'[k]? = h[k]?) : SkR h' T' id wb sl lb s :=
  ⟨hs.ok, (he wb 0 (by decide) hs.tw).trans hs.cells, hs.own.congr fun b hb _ _ => he b 1 (by decide) (hs.ts b hb), hs.bs, hs.nd, fun x hx => ⟨(hs.maps x hx).1.congr (he _ 2 (by decide) (hs.maps x hx).2), hT _ _ (hs.maps x hx).2⟩, hT _ _ hs.tw, fun k hk => hT _ _ (hs.ts k hk)⟩
theorem SkR.ext {h h' : Heap} {T : Nat → Option Nat} {id : Int} {wb : Nat} {sl : Sl} {lb : List B3} {s : Sk} (hs : SkR h T id wb sl lb s) (he : Ext h h') : SkR h' T id wb sl lb s :=
  ⟨hs.ok, keepX hs.cells he, hs.own.congr fun b hb _ _ => he.old b (hs.own.lt hb).2, hs.bs, hs.nd, fun x hx => ⟨(hs.maps x hx).1.congr (he.old _ (hs.maps x hx).1.lt), (hs.maps x hx).2⟩, hs.tw, hs.ts⟩
end Go.Proofs.Ytledmkhbaacdnaa
