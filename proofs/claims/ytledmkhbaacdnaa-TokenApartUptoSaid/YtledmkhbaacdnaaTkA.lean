/- Maps of numbers with whatever values: found, put, deleted, emptied, ranged over. Plain laws on memory. -/
import Derived.Test.YtledmkhbaacdnaaTkP
namespace Go.Proofs.Ytledmkhbaacdnaa
open Go Go.Fw
set_option linter.unusedSimpArgs false
set_option linter.unusedVariables false

/-- a function with one place turned -/
def upd {α : Type} (f : Int → Option α) (k : Int) (v : Option α) : Int → Option α := fun j => if j = k then v else f j
theorem upd_same {α : Type} (f : Int → Option α) (k : Int) (v : Option α) : upd f k v k = v := if_pos rfl
theorem upd_ne {α : Type} (f : Int → Option α) {k j : Int} (v : Option α) (h : j ≠ k) : upd f k v j = f j := if_neg h

/-- what a map's entries say -/
structure EntV (es : Array MapEntry) (f : Int → Option Value) : Prop where
  to : ∀ e, e ∈ es.toList → ∃ k, e.key = iv k ∧ f k = some e.val
  of : ∀ k v, f k = some v → ∃ e, e ∈ es.toList ∧ e.key = iv k
def MapV (h : Heap) (mb : Nat) (f : Int → Option Value) (n : Nat) : Prop :=
  ∃ es c, h[mb]? = some (.map es c) ∧ MapKept.Stamped es c ∧ es.size = n ∧ EntV es f

theorem iv_inj {a b : Int} (h : iv a = iv b) : a = b := by injection h
theorem EntV.key {es : Array MapEntry} {f : Int → Option Value} (he : EntV es f) : ∀ x, x ∈ es.toList → MapKept.IsKey (.int .i64) x.key := fun x hx => by
  obtain ⟨k, hk, _⟩ := he.to x hx
  rw [hk]
  rfl
theorem EntV.val {es : Array MapEntry} {f : Int → Option Value} (he : EntV es f) {e : MapEntry} (hm : e ∈ es.toList) {k : Int} (hk : e.key = iv k) : f k = some e.val := by
  obtain ⟨j, hj, hv⟩ := he.to e hm
  rw [hk] at hj
  rw [iv_inj hj]
  exact hv
theorem EntV.find {es : Array MapEntry} {f : Int → Option Value} (he : EntV es f) (k : Int) :
    (Instr.findNow (.int .i64) (iv k) es.toList 0 = some none ∧ f k = none) ∨ ∃ j e, Instr.findNow (.int .i64) (iv k) es.toList 0 = some (some (j, e.val)) ∧ es.toList[j]? = some e ∧ e.key = iv k ∧ f k = some e.val := by
  rcases MapKept.findNow_spec (d := .int .i64) (k := iv k) rfl es.toList 0 he.key with ⟨h1, h2⟩ | ⟨j, e, h1, h2, h3⟩
  · refine .inl ⟨h1, ?_⟩
    cases hf : f k with
    | none => rfl
    | some v =>
      obtain ⟨e, hm, hk⟩ := he.of k v hf
      exact absurd hk (h2 e hm)
  · rw [Nat.zero_add] at h1
    exact .inr ⟨j, e, h1, h2, h3, he.val (List.mem_of_getElem? h2) h3⟩

theorem MapV.congr {h h' : Heap} {mb : Nat} {f : Int → Option Value} {n : Nat} (hm : MapV h mb f n) (he : h'[mb]? = h[mb]?) : MapV h' mb f n := by
  obtain ⟨es, c, hb, r⟩ := hm
  exact ⟨es, c, he.trans hb, r⟩
theorem MapV.lt {h : Heap} {mb : Nat} {f : Int → Option Value} {n : Nat} (hm : MapV h mb f n) : mb < h.size := by
  obtain ⟨es, c, hb, r⟩ := hm
  exact blk_lt hb
theorem MapV.new {h : Heap} {K : Nat → Heap → Prop} (hk : ∀ h1, MapV h1 h.size (fun _ => none) 0 → Ext h h1 → h1.size = h.size + 1 → K h.size h1) : newMap h K :=
  hk _ ⟨#[], 0, push_new, MapKept.stamped_empty 0, rfl, ⟨fun e he => by simp at he, fun k v hv => by cases hv⟩⟩ (Ext.push _ _) (by simp)
theorem MapV.get {h : Heap} {mb : Nat} {f : Int → Option Value} {n : Nat} (hm : MapV h mb f n) (k : Int) {K : Option Value → Prop} (hk : K (f k)) : mapGet (.int .i64) h (some mb) (iv k) K := by
  obtain ⟨es, c, hb, hs, hn, he⟩ := hm
  refine ⟨(fun e => by cases e), fun b e => ?_⟩
  cases e
  rcases he.find k with ⟨h1, h2⟩ | ⟨j, e, h1, h2, h3, h4⟩
  · exact ⟨es, c, none, hb, h1, by rw [h2] at hk; exact hk⟩
  · exact ⟨es, c, _, hb, h1, by rw [h4] at hk; exact hk⟩
theorem MapV.len {h : Heap} {mb : Nat} {f : Int → Option Value} {n : Nat} (hm : MapV h mb f n) {K : Int → Prop} (hk : K (n : Int)) : lenM h (some mb) K := by
  obtain ⟨es, c, hb, hs, hn, he⟩ := hm
  refine ⟨(fun e => by cases e), fun b e => ?_⟩
  cases e
  exact ⟨es, c, hb, by rw [hn]; exact hk⟩
theorem set_upd {h : Heap} {b : Nat} {x : Obj} : Upd (· = b) h (h.setIfInBounds b x) :=
  ⟨by simp, fun k _ hk => by rw [Array.getElem?_setIfInBounds_ne (fun e => hk e.symm)]⟩
theorem set_at {h : Heap} {b : Nat} {x : Obj} (hb : b < h.size) : (h.setIfInBounds b x)[b]? = some x := by simp [hb]

theorem EntV.modify {es : Array MapEntry} {f : Int → Option Value} (he : EntV es f) {c : Nat} (hs : MapKept.Stamped es c) {j : Nat} {e : MapEntry} {k : Int} (hj : es.toList[j]? = some e) (hk : e.key = iv k) (v : Value) :
    EntV (es.modify j fun x => { x with key := iv k, val := v }) (upd f k (some v)) ∧ MapKept.Stamped (es.modify j fun x => { x with key := iv k, val := v }) c := by
  have hj' : es[j]? = some e := by simpa using hj
  have uniq : ∀ i x, es.toList[i]? = some x → x.key = iv k → i = j := by
    intro i x hi hx
    have hnd := hs.2.2
    have h1 : (es.toList.map (·.key))[i]? = some (iv k) := by rw [List.getElem?_map, hi]; simp [hx]
    have h2 : (es.toList.map (·.key))[j]? = some (iv k) := by rw [List.getElem?_map, hj]; simp [hk]
    obtain ⟨hil, h1⟩ := List.getElem?_eq_some_iff.1 h1
    obtain ⟨hjl, h2⟩ := List.getElem?_eq_some_iff.1 h2
    exact (List.getElem_inj hnd).1 (h1.trans h2.symm)
  refine ⟨⟨fun x hx => ?_, fun i u hu => ?_⟩, ?_⟩
  · obtain ⟨i, hi⟩ := List.getElem?_of_mem hx
    rw [Array.getElem?_toList, Array.getElem?_modify] at hi
    by_cases hij : j = i
    · subst hij
      rw [if_pos rfl, hj'] at hi
      simp only [Option.map_some, Option.some.injEq] at hi
      subst hi
      exact ⟨k, rfl, upd_same _ _ _⟩
    · rw [if_neg hij] at hi
      have hi' : es.toList[i]? = some x := by simpa using hi
      obtain ⟨m, hm, hv⟩ := he.to x (List.mem_of_getElem? hi')
      refine ⟨m, hm, ?_⟩
      rw [upd_ne]
      · exact hv
      · intro hmk
        subst hmk
        exact hij (uniq i x hi' hm).symm
  · by_cases hik : i = k
    · subst hik
      refine ⟨{ e with key := iv i, val := v }, ?_, rfl⟩
      refine List.mem_of_getElem? (i := j) ?_
      rw [Array.getElem?_toList, Array.getElem?_modify, if_pos rfl, hj']
      rfl
    · rw [upd_ne f _ hik] at hu
      obtain ⟨x, hx, hxk⟩ := he.of i u hu
      obtain ⟨m, hm⟩ := List.getElem?_of_mem hx
      refine ⟨x, List.mem_of_getElem? (i := m) ?_, hxk⟩
      rw [Array.getElem?_toList, Array.getElem?_modify, if_neg]
      · simpa using hm
      · intro hjm
        subst hjm
        rw [hj] at hm
        cases hm
        exact hik (iv_inj (hxk.symm.trans hk))
  · refine MapKept.stamped_modify hs j _ (fun x _ => rfl) fun x _ hx => ?_
    rw [hj'] at hx
    cases hx
    exact hk.symm

theorem MapV.put {h : Heap} {mb : Nat} {f : Int → Option Value} {n : Nat} (hm : MapV h mb f n) (k : Int) (v : Value) {K : Heap → Prop}
    (hk : ∀ h', MapV h' mb (upd f k (some v)) (if (f k).isSome then n else n + 1) → Upd (· = mb) h h' → h'.size = h.size → K h') : mapPut (.int .i64) h (some mb) (iv k) v K := by
  have hlt := hm.lt
  obtain ⟨es, c, hb, hs, hn, he⟩ := hm
  rcases he.find k with ⟨h1, h2⟩ | ⟨j, e, h1, h2, h3, h4⟩
  · refine ⟨mb, es, c, none, rfl, hb, he.key, h1, hk _ ⟨es.push { key := iv k, val := v, born := c }, c + 1, set_at hlt, MapKept.stamped_push hs fun x hx hxk => ?_, by simp [h2, hn], ⟨fun x hx => ?_, fun i u hu => ?_⟩⟩ set_upd (by simp)⟩
    · have := he.val hx hxk
      rw [h2] at this
      cases this
    · simp only [Array.toList_push, List.mem_append, List.mem_singleton] at hx
      rcases hx with hx | rfl
      · obtain ⟨m, hm, hv⟩ := he.to x hx
        refine ⟨m, hm, ?_⟩
        rw [upd_ne]
        · exact hv
        · intro hmk
          subst hmk
          rw [h2] at hv
          cases hv
      · exact ⟨k, rfl, upd_same _ _ _⟩
    · simp only [Array.toList_push, List.mem_append, List.mem_singleton]
      by_cases hik : i = k
      · subst hik
        exact ⟨_, .inr rfl, rfl⟩
      · rw [upd_ne f _ hik] at hu
        obtain ⟨x, hx, hxk⟩ := he.of i u hu
        exact ⟨x, .inl hx, hxk⟩
  · obtain ⟨g1, g2⟩ := he.modify hs h2 h3 v
    exact ⟨mb, es, c, _, rfl, hb, he.key, h1, hk _ ⟨_, c, set_at hlt, g2, by simp [h4, hn], g1⟩ set_upd (by simp)⟩

theorem EntV.erase {es : Array MapEntry} {f : Int → Option Value} (he : EntV es f) {c : Nat} (hs : MapKept.Stamped es c) {j : Nat} {e : MapEntry} {k : Int} (hj : es.toList[j]? = some e) (hk : e.key = iv k) :
    EntV (es.eraseIdxIfInBounds j) (upd f k none) ∧ MapKept.Stamped (es.eraseIdxIfInBounds j) c ∧ (es.eraseIdxIfInBounds j).toList = es.toList.eraseIdx j ∧ (es.eraseIdxIfInBounds j).size = es.size - 1 := by
  obtain ⟨hjl, hje⟩ := List.getElem?_eq_some_iff.1 hj
  have hjs : j < es.size := by simpa using hjl
  have hl : (es.eraseIdxIfInBounds j).toList = es.toList.eraseIdx j := by
    unfold Array.eraseIdxIfInBounds
    rw [dif_pos hjs, Array.toList_eraseIdx]
  have hnd := hs.2.2
  have mem : ∀ x, x ∈ es.toList.eraseIdx j ↔ x ∈ es.toList ∧ x.key ≠ iv k := fun x => by
    constructor
    · intro hx
      obtain ⟨i, hne, hi⟩ := List.mem_eraseIdx_iff_getElem?.1 hx
      refine ⟨List.mem_of_getElem? hi, fun hxk => hne ?_⟩
      have h1 : (es.toList.map (·.key))[i]? = some (iv k) := by rw [List.getElem?_map, hi]; simp [hxk]
      have h2 : (es.toList.map (·.key))[j]? = some (iv k) := by rw [List.getElem?_map, hj]; simp [hk]
      obtain ⟨hil, h1⟩ := List.getElem?_eq_some_iff.1 h1
      obtain ⟨hjl, h2⟩ := List.getElem?_eq_some_iff.1 h2
      exact (List.getElem_inj hnd).1 (h1.trans h2.symm)
    · rintro ⟨hx, hxk⟩
      obtain ⟨i, hi⟩ := List.getElem?_of_mem hx
      refine List.mem_eraseIdx_iff_getElem?.2 ⟨i, fun hij => ?_, hi⟩
      subst hij
      rw [hj] at hi
      cases hi
      exact hxk hk
  refine ⟨⟨fun x hx => ?_, fun i u hu => ?_⟩, MapKept.stamped_erase hs j, hl, ?_⟩
  · rw [hl] at hx
    obtain ⟨hx, hxk⟩ := (mem x).1 hx
    obtain ⟨m, hm, hv⟩ := he.to x hx
    refine ⟨m, hm, ?_⟩
    rw [upd_ne]
    · exact hv
    · intro hmk
      subst hmk
      exact hxk hm
  · by_cases hik : i = k
    · subst hik
      rw [upd_same] at hu
      cases hu
    · rw [upd_ne f _ hik] at hu
      obtain ⟨x, hx, hxk⟩ := he.of i u hu
      exact ⟨x, by rw [hl]; exact (mem x).2 ⟨hx, fun h => hik (iv_inj (hxk.symm.trans h))⟩, hxk⟩
  · unfold Array.eraseIdxIfInBounds
    rw [dif_pos hjs]
    simp

theorem MapV.del {h : Heap} {mb : Nat} {f : Int → Option Value} {n : Nat} (hm : MapV h mb f n) (k : Int) {K : Heap → Prop}
    (hk : ∀ h', MapV h' mb (upd f k none) (if (f k).isSome then n - 1 else n) → Upd (· = mb) h h' → h'.size = h.size → K h') : mapDel (.int .i64) h (some mb) (iv k) K := by
  have hlt := hm.lt
  obtain ⟨es, c, hb, hs, hn, he⟩ := hm
  refine ⟨(fun e => by cases e), fun b e => ?_⟩
  cases e
  rcases he.find k with ⟨h1, h2⟩ | ⟨j, e, h1, h2, h3, h4⟩
  · have hu : upd f k none = f := by
      funext j
      unfold upd
      split
      · rename_i hj; rw [hj, h2]
      · rfl
    refine ⟨es, c, none, hb, h1, hk _ ⟨es, c, set_at hlt, hs, by simp [h2, hn], by rw [hu]; exact he⟩ set_upd (by simp)⟩
  · obtain ⟨g1, g2, g3, g4⟩ := he.erase hs h2 h3
    exact ⟨es, c, _, hb, h1, hk _ ⟨_, c, set_at hlt, g2, by simp [h4, g4, hn], g1⟩ set_upd (by simp)⟩
theorem MapV.clear {h : Heap} {mb : Nat} {f : Int → Option Value} {n : Nat} (hm : MapV h mb f n) {K : Heap → Prop}
    (hk : ∀ h', MapV h' mb (fun _ => none) 0 → Upd (· = mb) h h' → h'.size = h.size → K h') : clrM h (some mb) K := by
  have hlt := hm.lt
  obtain ⟨es, c, hb, hs, hn, he⟩ := hm
  refine ⟨(fun e => by cases e), fun b e => ?_⟩
  cases e
  exact ⟨es, c, hb, hk _ ⟨#[], c, set_at hlt, MapKept.stamped_empty c, rfl, ⟨fun e he => by simp at he, fun k v hv => by cases hv⟩⟩ set_upd (by simp)⟩

/-! ### a range over such a map -/
/-- under way: which keys are left, and how many -/
def RangeV (h : Heap) (mb it : Nat) (f : Int → Option Value) (n : Nat) (rem : Int → Prop) (L : Nat) : Prop :=
  ∃ (es : Array MapEntry) (c since : Nat) (seen : Array Nat) (c0 : Nat), h[mb]? = some (.map es c) ∧ MapKept.Stamped es c ∧ es.size = n ∧ EntV es f ∧ h[it]? = some (.mapIter (some mb) since seen c0) ∧ (∀ x, x ∈ es.toList → x.born < since) ∧ (since ≤ c0 ∧ since ≤ c) ∧
    (leftOf es seen).size = L ∧ ∀ k, rem k ↔ ∃ e, e ∈ (leftOf es seen).toList ∧ e.key = iv k
/-- a key has just come up -/
def RangeAt (h : Heap) (mb it : Nat) (f : Int → Option Value) (n : Nat) (rem : Int → Prop) (L : Nat) (k : Int) : Prop :=
  ∃ (es : Array MapEntry) (c since : Nat) (seen : Array Nat) (e : MapEntry), h[mb]? = some (.map es c) ∧ MapKept.Stamped es c ∧ es.size = n ∧ EntV es f ∧ h[it]? = some (.mapIter (some mb) since (seen.push e.born) c) ∧ (∀ x, x ∈ es.toList → x.born < since) ∧ since ≤ c ∧
    e ∈ es.toList ∧ e.key = iv k ∧ (leftOf es (seen.push e.born)).size = L ∧ ∀ j, rem j ↔ ∃ e', e' ∈ (leftOf es (seen.push e.born)).toList ∧ e'.key = iv j

theorem leftOf_toList (es : Array MapEntry) (seen : Array Nat) : (leftOf es seen).toList = es.toList.filter fun e => !seen.contains e.born := by
  unfold leftOf; rw [Array.toList_filter]
theorem leftOf_size (es : Array MapEntry) (seen : Array Nat) : (leftOf es seen).size = (es.toList.filter fun e => !seen.contains e.born).length := by
  rw [← leftOf_toList, Array.length_toList]
theorem left_push {es : Array MapEntry} {seen : Array Nat} {b : Nat} {e : MapEntry} : e ∈ (leftOf es (seen.push b)).toList ↔ e ∈ (leftOf es seen).toList ∧ e.born ≠ b := by
  rw [leftOf_toList, leftOf_toList, List.mem_filter, List.mem_filter, contains_push]
  cases seen.contains e.born <;> simp

theorem RangeV.lt {h : Heap} {mb it : Nat} {f : Int → Option Value} {n : Nat} {rem : Int → Prop} {L : Nat} (hr : RangeV h mb it f n rem L) : mb < h.size ∧ it < h.size ∧ mb ≠ it := by
  obtain ⟨es, c, since, seen, c0, hb, _, _, _, hi, _⟩ := hr
  refine ⟨blk_lt hb, blk_lt hi, fun e => ?_⟩
  subst e
  rw [hb] at hi
  cases hi
theorem RangeV.map {h : Heap} {mb it : Nat} {f : Int → Option Value} {n : Nat} {rem : Int → Prop} {L : Nat} (hr : RangeV h mb it f n rem L) : MapV h mb f n := by
  obtain ⟨es, c, since, seen, c0, hb, hs, hn, he, _⟩ := hr
  exact ⟨es, c, hb, hs, hn, he⟩
theorem RangeV.congr {h h' : Heap} {mb it : Nat} {f : Int → Option Value} {n : Nat} {rem : Int → Prop} {L : Nat} (hr : RangeV h mb it f n rem L) (h1 : h'[mb]? = h[mb]?) (h2 : h'[it]? = h[it]?) : RangeV h' mb it f n rem L := by
  obtain ⟨es, c, since, seen, c0, hb, hs, hn, he, hi, r⟩ := hr
  exact ⟨es, c, since, seen, c0, h1.trans hb, hs, hn, he, h2.trans hi, r⟩
theorem RangeAt.congr {h h' : Heap} {mb it : Nat} {f : Int → Option Value} {n : Nat} {rem : Int → Prop} {L : Nat} {k : Int} (hr : RangeAt h mb it f n rem L k) (h1 : h'[mb]? = h[mb]?) (h2 : h'[it]? = h[it]?) : RangeAt h' mb it f n rem L k := by
  obtain ⟨es, c, since, seen, e, hb, hs, hn, he, hi, r⟩ := hr
  exact ⟨es, c, since, seen, e, h1.trans hb, hs, hn, he, h2.trans hi, r⟩
theorem MapV.range {h : Heap} {mb : Nat} {f : Int → Option Value} {n : Nat} (hm : MapV h mb f n) {K : Nat → Heap → Prop} (hk : ∀ h1, RangeV h1 mb h.size f n (fun k => (f k).isSome = true) n → Ext h h1 → h1.size = h.size + 1 → K h.size h1) : rgM h (some mb) K := by
  have hlt := hm.lt
  obtain ⟨es, c, hb, hs, hn, he⟩ := hm
  have hl : (leftOf es #[]).toList = es.toList := by
    rw [leftOf_toList]
    exact List.filter_eq_self.2 fun a _ => by simp
  refine ⟨(fun e => by cases e), fun b e => ?_⟩
  cases e
  refine ⟨es, c, hb, hk _ ⟨es, c, c, #[], c, (push_old hlt).trans hb, hs, hn, he, push_new, hs.1, ⟨Nat.le_refl _, Nat.le_refl _⟩, ?_, fun k => ?_⟩ (Ext.push _ _) (by simp)⟩
  · rw [← Array.length_toList, hl, Array.length_toList, hn]
  · rw [hl]
    constructor
    · intro hk
      obtain ⟨v, hv⟩ := Option.isSome_iff_exists.1 hk
      exact he.of k v hv
    · rintro ⟨e, hm, hek⟩
      rw [he.val hm hek]
      rfl
theorem RangeV.next {h : Heap} {mb it : Nat} {f : Int → Option Value} {n : Nat} {rem : Int → Prop} {L : Nat} (hr : RangeV h mb it f n rem L) {T : Value → Value → Heap → Prop} {F : Prop}
    (hF : (∀ k, ¬ rem k) → F) (hT : ∀ k v h' L', rem k → f k = some v → RangeAt h' mb it f n (fun j => rem j ∧ j ≠ k) L' k → L' < L → Upd (· = it) h h' → h'.size = h.size → T (iv k) v h') : nextM h it T F := by
  obtain ⟨hl1, hl2, hne⟩ := hr.lt
  obtain ⟨es, c, since, seen, c0, hb, hs, hn, he, hi, hold, hsc, hL, hrem⟩ := hr
  refine .inr ⟨mb, since, seen, c0, es, c, hi, hb, hold, hsc.1, fun h0 => hF fun k hk => ?_, fun e hm => ?_⟩
  · obtain ⟨e, hm, _⟩ := (hrem k).1 hk
    rw [leftOf_toList] at hm
    rw [leftOf_size] at h0
    rw [List.eq_nil_of_length_eq_zero h0] at hm
    cases hm
  · obtain ⟨hme, hns⟩ := mem_left hm
    obtain ⟨k, hk, hv⟩ := he.to e hme
    rw [hk]
    refine hT k e.val _ (leftOf es (seen.push e.born)).size ((hrem k).2 ⟨e, hm, hk⟩) hv ⟨es, c, since, seen, e, ?_, hs, hn, he, set_at hl2, hold, hsc.2, hme, hk, rfl, fun j => ?_⟩ (by have := left_shrinks es seen e hm; omega) set_upd (by simp)
    · rw [Array.getElem?_setIfInBounds_ne (Ne.symm hne)]; exact hb
    · constructor
      · rintro ⟨hj, hjk⟩
        obtain ⟨e', hm', hk'⟩ := (hrem j).1 hj
        refine ⟨e', left_push.2 ⟨hm', fun hb' => hjk ?_⟩, hk'⟩
        have hnd := hs.2.1
        obtain ⟨i, hi⟩ := List.getElem?_of_mem (mem_left hm').1
        obtain ⟨m, hm2⟩ := List.getElem?_of_mem hme
        have h1 : (es.toList.map (·.born))[i]? = some e.born := by rw [List.getElem?_map, hi]; simp [hb']
        have h2 : (es.toList.map (·.born))[m]? = some e.born := by rw [List.getElem?_map, hm2]; rfl
        obtain ⟨hil, h1⟩ := List.getElem?_eq_some_iff.1 h1
        obtain ⟨hjl, h2⟩ := List.getElem?_eq_some_iff.1 h2
        have := (List.getElem_inj hnd).1 (h1.trans h2.symm)
        subst this
        rw [hi] at hm2
        cases hm2
        exact iv_inj (hk'.symm.trans hk)
      · rintro ⟨e', hm', hk'⟩
        obtain ⟨hm1, hb1⟩ := left_push.1 hm'
        refine ⟨(hrem j).2 ⟨e', hm1, hk'⟩, fun hjk => hb1 ?_⟩
        subst hjk
        have hnd := hs.2.2
        obtain ⟨i, hi⟩ := List.getElem?_of_mem (mem_left hm1).1
        obtain ⟨m, hm2⟩ := List.getElem?_of_mem hme
        have h1 : (es.toList.map (·.key))[i]? = some (iv j) := by rw [List.getElem?_map, hi]; simp [hk']
        have h2 : (es.toList.map (·.key))[m]? = some (iv j) := by rw [List.getElem?_map, hm2]; simp [hk]
        obtain ⟨hil, h1⟩ := List.getElem?_eq_some_iff.1 h1
        obtain ⟨hjl, h2⟩ := List.getElem?_eq_some_iff.1 h2
        have := (List.getElem_inj hnd).1 (h1.trans h2.symm)
        subst this
        rw [hi] at hm2
        cases hm2
        rfl
theorem RangeAt.ent {h : Heap} {mb it : Nat} {f : Int → Option Value} {n : Nat} {rem : Int → Prop} {L : Nat} {k : Int} (hr : RangeAt h mb it f n rem L k) {K : Value → Value → Prop} (hk : ∀ v, f k = some v → K (iv k) v) : entM h it K := by
  obtain ⟨es, c, since, seen, e, hb, hs, hn, he, hi, hold, hsc, hme, hek, hL, hrem⟩ := hr
  have := hk e.val (he.val hme hek)
  rw [← hek] at this
  exact ⟨mb, since, seen, es, c, e, hi, hb, hme, hs.2.1, this⟩
theorem RangeAt.go {h : Heap} {mb it : Nat} {f : Int → Option Value} {n : Nat} {rem : Int → Prop} {L : Nat} {k : Int} (hr : RangeAt h mb it f n rem L k) : RangeV h mb it f n rem L := by
  obtain ⟨es, c, since, seen, e, hb, hs, hn, he, hi, hold, hsc, hme, hek, hL, hrem⟩ := hr
  exact ⟨es, c, since, _, c, hb, hs, hn, he, hi, hold, ⟨hsc, hsc⟩, hL, hrem⟩
theorem filter_erase {α : Type} (p : α → Bool) : ∀ (l : List α) (j : Nat) (x : α), l[j]? = some x → p x = false → (l.eraseIdx j).filter p = l.filter p
  | [], j, x, h, _ => by simp at h
  | y :: l, 0, x, h, hp => by simp at h; subst h; simp [hp]
  | y :: l, j + 1, x, h, hp => by
    have ih := filter_erase p l j x (by simpa using h) hp
    simp only [List.eraseIdx_cons_succ, List.filter_cons, ih]
theorem RangeAt.del {h : Heap} {mb it : Nat} {f : Int → Option Value} {n : Nat} {rem : Int → Prop} {L : Nat} {k : Int} (hr : RangeAt h mb it f n rem L k) {K : Heap → Prop}
    (hk : ∀ h' n', RangeV h' mb it (upd f k none) n' rem L → Upd (· = mb) h h' → h'.size = h.size → K h') : mapDel (.int .i64) h (some mb) (iv k) K := by
  obtain ⟨hl1, hl2, hne⟩ := hr.go.lt
  obtain ⟨es, c, since, seen, e, hb, hs, hn, he, hi, hold, hsc, hme, hek, hL, hrem⟩ := hr
  refine ⟨(fun e => by cases e), fun b e => ?_⟩
  cases e
  rcases he.find k with ⟨h1, h2⟩ | ⟨j, e', h1, h2, h3, h4⟩
  · rw [he.val hme hek] at h2; cases h2
  · obtain ⟨g1, g2, g3, g4⟩ := he.erase hs h2 h3
    have hee : e' = e := by
      have hnd := hs.2.2
      obtain ⟨m, hm2⟩ := List.getElem?_of_mem hme
      have q1 : (es.toList.map (·.key))[j]? = some (iv k) := by rw [List.getElem?_map, h2]; simp [h3]
      have q2 : (es.toList.map (·.key))[m]? = some (iv k) := by rw [List.getElem?_map, hm2]; simp [hek]
      obtain ⟨hil, q1⟩ := List.getElem?_eq_some_iff.1 q1
      obtain ⟨hjl, q2⟩ := List.getElem?_eq_some_iff.1 q2
      have := (List.getElem_inj hnd).1 (q1.trans q2.symm)
      subst this
      rw [h2] at hm2
      exact Option.some.inj hm2
    subst hee
    have hleft : (leftOf (es.eraseIdxIfInBounds j) (seen.push e'.born)).toList = (leftOf es (seen.push e'.born)).toList := by
      rw [leftOf_toList, leftOf_toList, g3]
      exact filter_erase _ _ _ _ h2 (by rw [contains_push, beq_self_eq_true, Bool.or_true]; rfl)
    exact ⟨es, c, _, hb, h1, hk _ _ ⟨_, c, since, _, c, set_at hl1, g2, rfl, g1, by rw [Array.getElem?_setIfInBounds_ne hne]; exact hi, fun x hx => hold x ((by rw [g3] at hx; exact List.mem_of_mem_eraseIdx hx)), ⟨hsc, hsc⟩,
      by rw [← Array.length_toList, hleft, Array.length_toList, hL], fun q => by rw [hleft]; exact hrem q⟩ set_upd (by simp)⟩
theorem RangeAt.put {h : Heap} {mb it : Nat} {f : Int → Option Value} {n : Nat} {rem : Int → Prop} {L : Nat} {k : Int} (hr : RangeAt h mb it f n rem L k) (v : Value) {K : Heap → Prop}
    (hk : ∀ h', RangeV h' mb it (upd f k (some v)) n rem L → Upd (· = mb) h h' → h'.size = h.size → K h') : mapPut (.int .i64) h (some mb) (iv k) v K := by
  obtain ⟨hl1, hl2, hne⟩ := hr.go.lt
  obtain ⟨es, c, since, seen, e, hb, hs, hn, he, hi, hold, hsc, hme, hek, hL, hrem⟩ := hr
  rcases he.find k with ⟨h1, h2⟩ | ⟨j, e', h1, h2, h3, h4⟩
  · rw [he.val hme hek] at h2; cases h2
  · obtain ⟨g1, g2⟩ := he.modify hs h2 h3 v
    have hj' : es[j]? = some e' := by simpa using h2
    have hl : (es.modify j fun x => { x with key := iv k, val := v }).toList = es.toList.set j { e' with key := iv k, val := v } := by
      apply List.ext_getElem?
      intro i
      rw [Array.getElem?_toList, Array.getElem?_modify, List.getElem?_set]
      have hjl : j < es.toList.length := (List.getElem?_eq_some_iff.1 h2).1
      by_cases hij : j = i
      · subst hij
        rw [if_pos rfl, if_pos rfl, if_pos hjl, hj']
        rfl
      · rw [if_neg hij, if_neg hij, Array.getElem?_toList]
    have hee : e'.born = e.born := by
      have hnd := hs.2.2
      obtain ⟨m, hm2⟩ := List.getElem?_of_mem hme
      have q1 : (es.toList.map (·.key))[j]? = some (iv k) := by rw [List.getElem?_map, h2]; simp [h3]
      have q2 : (es.toList.map (·.key))[m]? = some (iv k) := by rw [List.getElem?_map, hm2]; simp [hek]
      obtain ⟨hil, q1⟩ := List.getElem?_eq_some_iff.1 q1
      obtain ⟨hjl, q2⟩ := List.getElem?_eq_some_iff.1 q2
      have := (List.getElem_inj hnd).1 (q1.trans q2.symm)
      subst this
      rw [h2] at hm2
      rw [Option.some.inj hm2]
    have hfs : ∀ (l : List MapEntry) (j : Nat) (x y : MapEntry), l[j]? = some x → (!(seen.push e.born).contains x.born) = false → (!(seen.push e.born).contains y.born) = false →
        (l.set j y).filter (fun z => !(seen.push e.born).contains z.born) = l.filter (fun z => !(seen.push e.born).contains z.born) := by
      intro l
      induction l with
      | nil => intro j x y h; simp at h
      | cons z l ih =>
        intro j x y h hx hy
        cases j with
        | zero => simp at h; subst h; simp only [List.set_cons_zero, List.filter_cons, hx, hy]; simp
        | succ j => simp only [List.set_cons_succ, List.filter_cons, ih j x y (by simpa using h) hx hy]
    have hcon : (!(seen.push e.born).contains e'.born) = false := by rw [hee, contains_push, beq_self_eq_true, Bool.or_true]; rfl
    have hleft : (leftOf (es.modify j fun x => { x with key := iv k, val := v }) (seen.push e.born)).toList = (leftOf es (seen.push e.born)).toList := by
      rw [leftOf_toList, leftOf_toList, hl]
      exact hfs _ _ _ _ h2 hcon hcon
    refine ⟨mb, es, c, _, rfl, hb, he.key, h1, hk _ ⟨_, c, since, _, c, set_at hl1, g2, by simp [hn], g1, by rw [Array.getElem?_setIfInBounds_ne hne]; exact hi, fun x hx => ?_, ⟨hsc, hsc⟩,
      by rw [← Array.length_toList, hleft, Array.length_toList, hL], fun q => by rw [hleft]; exact hrem q⟩ set_upd (by simp)⟩
    rw [hl] at hx
    rcases List.mem_or_eq_of_mem_set hx with hx | hx
    · exact hold x hx
    · subst hx
      exact hold e' (List.mem_of_getElem? h2)

end Go.Proofs.Ytledmkhbaacdnaa
