/- What one namespace asks changes nothing of another one, in plain words. -/
import Derived.Test.YtledmkhbaacdnaaTkNa
namespace Go.Proofs.Ytledmkhbaacdnaa
open Go Go.Fw
set_option linter.unusedSimpArgs false
set_option linter.unusedVariables false

def nB : ByteArray := ByteArray.mk #[98]
theorem strE_ab : strEq nA nB = false := by
  cases h : strEq nA nB with
  | false => rfl
  | true => exact absurd (strEq_iff.1 h) (by unfold nA nB; intro e; injection e with e; cases e)
theorem strE_ba : strEq nB nA = false := by
  cases h : strEq nB nA with
  | false => rfl
  | true => exact absurd (strEq_iff.1 h) (by unfold nA nB; intro e; injection e with e; cases e)
theorem strE_bb : strEq nB nB = true := strEq_self _
theorem strE_be : strEq nB (ByteArray.mk #[]) = false := by rw [strEq_nil]; rfl

/-- the tokens of an id that are out at a time: how many, until when -/
def tok (id at_ : Int) (l : List F4) : List (Int × Int) := (l.filter fun t => decide (t.2.1 = id) && !deadF at_ t).map fun t => (t.2.2.1, t.2.2.2.1)
theorem tok_app (id at_ : Int) (a b : List F4) : tok id at_ (a ++ b) = tok id at_ a ++ tok id at_ b := by unfold tok; rw [List.filter_append, List.map_append]
theorem tok_alive {id s at_ : Int} (h : s ≤ at_) (l : List F4) : tok id at_ (aliveV s l) = tok id at_ l := by
  unfold tok aliveV
  rw [List.filter_filter]
  congr 1
  apply List.filter_congr
  intro t _
  unfold deadF
  by_cases h1 : at_ ≥ t.2.2.2.1
  · simp [h1]
  · have : ¬ s ≥ t.2.2.2.1 := by omega
    simp [h1, this]
theorem tok_other {id at_ : Int} {t : F4} (h : t.2.1 ≠ id) : tok id at_ [t] = [] := by unfold tok; simp [h]
theorem tok_next {id t a b f c u : Int} : tok id t [(a, f, c, u, ())] = tok id t [(b, f, c, u, ())] := by
  unfold tok deadF
  simp only [List.filter_cons, List.filter_nil]
  split <;> rfl
theorem tok_sum (id at_ : Int) (l : List F4) : sumL id (aliveV at_ l) = (tok id at_ l).foldl (fun n t => IntKind.wrap .i64 (n + t.1)) 0 := by
  unfold sumL aliveV tok
  suffices ∀ n : Int, (l.filter fun t => !deadF at_ t).foldl (fun n t => if t.2.1 = id then IntKind.wrap .i64 (n + t.2.2.1) else n) n = ((l.filter fun t => decide (t.2.1 = id) && !deadF at_ t).map fun t => (t.2.2.1, t.2.2.2.1)).foldl (fun n t => IntKind.wrap .i64 (n + t.1)) n from this 0
  induction l with
  | nil => intro n; rfl
  | cons t l ih =>
    intro n
    rw [List.filter_cons, List.filter_cons]
    cases hd : deadF at_ t with
    | true => simpa [hd] using ih n
    | false =>
      by_cases he : t.2.1 = id
      · simp only [he, Bool.not_false, decide_true, Bool.and_self, if_true, List.foldl_cons, List.map_cons]
        exact ih _
      · simp only [he, Bool.not_false, decide_false, Bool.false_and, Bool.false_eq_true, if_true, if_false, List.foldl_cons]
        exact ih _

structure Ap (fa fb : List F4) (W O : Srv) (n : Nat) : Prop where
  nodup : ((fa ++ fb).map (·.1)).Nodup
  right : ∀ f, f ∈ fa ++ fb → rightF f = true
  spW : W.spaces = [(nA, fa), (nB, fb)]
  spO : O.spaces = [(nA, fa), (nB, fb)]
  begun : W.begun = O.begun
  conW : W.conns 1 = some nA ∧ W.conns 2 = some nB
  conO : O.conns 1 = some nA
  times : O.last ≤ W.last
  cnts : ∀ f, f ∈ fa ++ fb → (∃ c, W.counts f.1 = some c ∧ c.kind = f.2.2.1) ∧ ∃ c, O.counts f.1 = some c ∧ c.kind = f.2.2.1
  same : ∀ f, f ∈ fa → W.counts f.1 = O.counts f.1
  out : ∀ f, f ∈ fa → ∀ at_, W.last ≤ at_ → tok f.1 at_ W.out = tok f.1 at_ O.out
  few : W.out.length ≤ n ∧ O.out.length ≤ n
  next : 1 ≤ W.next ∧ W.next ≤ n + 1
theorem Ap.okW {fa fb : List F4} {W O : Srv} {n : Nat} (h : Ap fa fb W O n) (hn : n ≤ 4096) : W.OK := by
  refine ⟨by have := h.few.1; omega, fun x hx f hf => (h.cnts f ?_).1⟩
  rw [h.spW] at hx
  simp only [List.mem_cons, List.not_mem_nil, or_false] at hx
  rcases hx with rfl | rfl
  · exact List.mem_append_left _ hf
  · exact List.mem_append_right _ hf
theorem Ap.okO {fa fb : List F4} {W O : Srv} {n : Nat} (h : Ap fa fb W O n) (hn : n ≤ 4096) : O.OK := by
  refine ⟨by have := h.few.2; omega, fun x hx f hf => (h.cnts f ?_).2⟩
  rw [h.spO] at hx
  simp only [List.mem_cons, List.not_mem_nil, or_false] at hx
  rcases hx with rfl | rfl
  · exact List.mem_append_left _ hf
  · exact List.mem_append_right _ hf
theorem flow_a {fa fb : List F4} {id : Int} {f : F4} (h : flowV [(nA, fa), (nB, fb)] nA id = some f) : f ∈ fa := by
  obtain ⟨x, hx, hf, hh⟩ := flow_mem h
  simp only [List.mem_cons, List.not_mem_nil, or_false] at hx
  rcases hx with rfl | rfl
  · exact hf
  · unfold hitF at hh
    dsimp only at hh
    rw [show (ByteArray.mk #[] : ByteArray) = nE from rfl, strE_e, strE_ba] at hh
    simp at hh
theorem flow_b {fa fb : List F4} {id : Int} {f : F4} (h : flowV [(nA, fa), (nB, fb)] nB id = some f) : f ∈ fb := by
  obtain ⟨x, hx, hf, hh⟩ := flow_mem h
  simp only [List.mem_cons, List.not_mem_nil, or_false] at hx
  rcases hx with rfl | rfl
  · unfold hitF at hh
    dsimp only at hh
    rw [strE_be, strE_ab] at hh
    simp at hh
  · exact hf
theorem ap_ne {fa fb : List F4} (h : ((fa ++ fb).map (·.1)).Nodup) {f g : F4} (hf : f ∈ fa) (hg : g ∈ fb) : g.1 ≠ f.1 := fun e => by
  rw [List.map_append, List.nodup_append] at h
  exact h.2.2 f.1 (List.mem_map_of_mem hf) g.1 (List.mem_map_of_mem hg) e.symm
theorem ansV_want {S : Srv} {at_ conn : Int} {ns : ByteArray} {r : Rq} (h5 : r.2.1 ≠ 5) (h4 : r.2.1 ≠ 4) (hn : strEq ns (ByteArray.mk #[]) = false) : ansV S at_ conn ns r = if rightB r = false then (stA 5, S) else wantV S at_ ns r := by
  unfold ansV
  rw [if_neg h5, if_neg (show ¬ strEq ns (ByteArray.mk #[]) = true by rw [hn]; decide), if_neg h4]
/-- the time goes on -/
theorem Ap.at {fa fb : List F4} {W O : Srv} {n : Nat} (h : Ap fa fb W O n) {at_ : Int} (ha : W.last ≤ at_) : Ap fa fb (W.at at_) (O.at at_) n ∧ Ap fa fb (W.at at_) O n :=
  ⟨⟨h.nodup, h.right, h.spW, h.spO, h.begun, h.conW, h.conO, Int.le_refl _, h.cnts, h.same, fun f hf t ht => h.out f hf t (Int.le_trans ha ht), h.few, h.next⟩,
   ⟨h.nodup, h.right, h.spW, h.spO, h.begun, h.conW, h.conO, Int.le_trans h.times ha, h.cnts, h.same, fun f hf t ht => h.out f hf t (Int.le_trans ha ht), h.few, h.next⟩⟩
theorem Ap.le {fa fb : List F4} {W O : Srv} {n m : Nat} (h : Ap fa fb W O n) (hm : n ≤ m) : Ap fa fb W O m :=
  ⟨h.nodup, h.right, h.spW, h.spO, h.begun, h.conW, h.conO, h.times, h.cnts, h.same, h.out, ⟨Nat.le_trans h.few.1 hm, Nat.le_trans h.few.2 hm⟩, h.next.1, by have := h.next.2; omega⟩
theorem take_counts {S : Srv} {at_ : Int} {f : F4} {r : Rq} (i : Int) : (S.take at_ f r).counts i = if i = f.1 then (S.counts f.1).map (fun c => c.took at_ r.2.2.2.2.1 r.2.2.2.1) else S.counts i := rfl
theorem take_kind {S : Srv} {at_ : Int} {f g : F4} {r : Rq} (h : ∃ c, S.counts g.1 = some c ∧ c.kind = g.2.2.1) : ∃ c, (S.take at_ f r).counts g.1 = some c ∧ c.kind = g.2.2.1 := by
  obtain ⟨c, h1, h2⟩ := h
  rw [take_counts]
  split
  · rename_i e
    rw [← e, h1]
    exact ⟨_, rfl, by rw [Cnt.took_kind]; exact h2⟩
  · exact ⟨c, h1, h2⟩
/-- a request of the other namespace -/
theorem Ap.want2 {fa fb : List F4} {W O : Srv} {n : Nat} (h : Ap fa fb W O n) (hn : n < 1024) {at_ : Int} (ha : W.last = at_) (r : Rq) : Ap fa fb (wantV W at_ nB r).2 O (if (wantV W at_ nB r).1.2.2.2.2.1 > 0 then n + 1 else n) := by
  cases hf : flowV W.spaces nB r.2.2.1 with
  | none => rw [wantV_none hf]; exact h
  | some f =>
    rw [wantV_some hf]
    rw [h.spW] at hf
    have hfb := flow_b hf
    split
    · exact h
    split
    · exact h
    unfold grantV
    split
    · exact h
    split
    · show Ap fa fb (W.take at_ f r) O n
      refine ⟨h.nodup, h.right, h.spW, h.spO, h.begun, h.conW, h.conO, h.times, fun g hg => ⟨take_kind (h.cnts g hg).1, (h.cnts g hg).2⟩, fun g hg => ?_, h.out, h.few, h.next⟩
      rw [take_counts, if_neg (fun e => ap_ne h.nodup hg hfb e.symm)]
      exact h.same g hg
    split
    · rename_i hl
      have := h.few.1
      have h2 : (aliveV at_ W.out).length ≤ W.out.length := List.length_filter_le _ _
      omega
    · have hnx := h.next
      have : (if ((0, 1, leftV (usedV W at_ f r.2.2.2.2.1) f r, f.2.2.2.1, W.next, ()) : An).2.2.2.2.1 > 0 then n + 1 else n) = n + 1 := if_pos (by show W.next > 0; omega)
      rw [this]
      have hwr : IntKind.wrap .i64 (W.next + 1) = W.next + 1 := wrap64 (by omega) (by omega)
      refine ⟨h.nodup, h.right, h.spW, h.spO, h.begun, h.conW, h.conO, h.times, h.cnts, h.same, fun g hg t ht => ?_, ⟨?_, by have := h.few.2; omega⟩, ?_⟩
      · show tok g.1 t (aliveV at_ W.out ++ [_]) = _
        have ht' : W.last ≤ t := ht
        rw [tok_app, tok_other (by exact ap_ne h.nodup hg hfb), List.append_nil, tok_alive (by omega)]
        exact h.out g hg t ht
      · show (aliveV at_ W.out ++ [_]).length ≤ n + 1
        have h2 : (aliveV at_ W.out).length ≤ W.out.length := List.length_filter_le _ _
        have := h.few.1
        rw [List.length_append, List.length_singleton]
        omega
      · show 1 ≤ IntKind.wrap .i64 (W.next + 1) ∧ IntKind.wrap .i64 (W.next + 1) ≤ ((n + 1 : Nat) : Int) + 1
        rw [hwr]
        omega
/-- a request of the one, to both -/
def alikeA (a b : An) : Prop := a.1 = b.1 ∧ a.2.1 = b.2.1 ∧ a.2.2.1 = b.2.2.1 ∧ a.2.2.2.1 = b.2.2.2.1
theorem alikeA.rfl' (a : An) : alikeA a a := ⟨rfl, rfl, rfl, rfl⟩
theorem Ap.want1 {fa fb : List F4} {W O : Srv} {n : Nat} (h : Ap fa fb W O n) (hn : n < 1024) {at_ : Int} (ha : W.last = at_) (hb : O.last = at_) (r : Rq) :
    alikeA (wantV W at_ nA r).1 (wantV O at_ nA r).1 ∧ Ap fa fb (wantV W at_ nA r).2 (wantV O at_ nA r).2 (if (wantV W at_ nA r).1.2.2.2.2.1 > 0 then n + 1 else n) := by
  cases hf : flowV W.spaces nA r.2.2.1 with
  | none =>
    have hf' : flowV O.spaces nA r.2.2.1 = none := by rw [h.spO, ← h.spW]; exact hf
    rw [wantV_none hf, wantV_none hf']; exact ⟨alikeA.rfl' _, h⟩
  | some f =>
    have hf' : flowV O.spaces nA r.2.2.1 = some f := by rw [h.spO, ← h.spW]; exact hf
    rw [wantV_some hf, wantV_some hf']
    rw [h.spW] at hf
    have hfa := flow_a hf
    have hq : quietV O at_ f = quietV W at_ f := by unfold quietV; rw [h.begun]
    have hu : usedV O at_ f r.2.2.2.2.1 = usedV W at_ f r.2.2.2.2.1 := by
      unfold usedV
      split
      · rw [tok_sum, tok_sum, h.out f hfa at_ (by omega)]
      · rw [h.same f hfa]
    rw [hq]
    split
    · exact ⟨alikeA.rfl' _, h⟩
    split
    · exact ⟨alikeA.rfl' _, h⟩
    unfold grantV
    rw [hu]
    split
    · exact ⟨alikeA.rfl' _, h⟩
    split
    · refine ⟨alikeA.rfl' _, ?_⟩
      show Ap fa fb (W.take at_ f r) (O.take at_ f r) n
      refine ⟨h.nodup, h.right, h.spW, h.spO, h.begun, h.conW, h.conO, h.times, fun g hg => ⟨take_kind (h.cnts g hg).1, take_kind (h.cnts g hg).2⟩, fun g hg => ?_, h.out, h.few, h.next⟩
      rw [take_counts, take_counts, h.same f hfa]
      split
      · rfl
      · exact h.same g hg
    have h2 : (aliveV at_ W.out).length ≤ W.out.length := List.length_filter_le _ _
    have h3 : (aliveV at_ O.out).length ≤ O.out.length := List.length_filter_le _ _
    have h4 := h.few
    rw [if_neg (by omega), if_neg (by omega)]
    refine ⟨⟨rfl, rfl, rfl, rfl⟩, ?_⟩
    have hnx := h.next
    have : (if ((0, 1, leftV (usedV W at_ f r.2.2.2.2.1) f r, f.2.2.2.1, W.next, ()) : An).2.2.2.2.1 > 0 then n + 1 else n) = n + 1 := if_pos (by show W.next > 0; omega)
    rw [this]
    have hwr : IntKind.wrap .i64 (W.next + 1) = W.next + 1 := wrap64 (by omega) (by omega)
    refine ⟨h.nodup, h.right, h.spW, h.spO, h.begun, h.conW, h.conO, h.times, h.cnts, h.same, fun g hg t ht => ?_, ⟨?_, ?_⟩, ?_⟩
    · show tok g.1 t (aliveV at_ W.out ++ [_]) = tok g.1 t (aliveV at_ O.out ++ [_])
      have ht' : W.last ≤ t := ht
      rw [tok_app, tok_app, tok_alive (by omega), tok_alive (by omega), h.out g hg t ht, tok_next]
    · show (aliveV at_ W.out ++ [_]).length ≤ n + 1
      rw [List.length_append, List.length_singleton]
      omega
    · show (aliveV at_ O.out ++ [_]).length ≤ n + 1
      rw [List.length_append, List.length_singleton]
      omega
    · show 1 ≤ IntKind.wrap .i64 (W.next + 1) ∧ IntKind.wrap .i64 (W.next + 1) ≤ ((n + 1 : Nat) : Int) + 1
      rw [hwr]
      omega
theorem Ap.do2 {fa fb : List F4} {W O : Srv} {n : Nat} (h : Ap fa fb W O n) (hn : n < 1024) {at_ : Int} (ha : W.last ≤ at_) {r : Rq} (h5 : r.2.1 ≠ 5) (h4 : r.2.1 ≠ 4) : Ap fa fb (doV W at_ 2 r).2 O (if (doV W at_ 2 r).1.1.2.2.2.2.1 > 0 then n + 1 else n) := by
  rcases Decidable.em (lookE W.last at_ = 0) with q | q
  case inr => rw [doV_look q]; exact h
  rw [doV_some (fun e => e q) h.conW.2 (ansV_want h5 h4 strE_be)]
  have hA := (h.at ha).2
  cases hr : rightB r with
  | false => rw [if_pos rfl]; exact hA
  | true => rw [if_neg (by decide)]; exact hA.want2 hn rfl r
theorem Ap.do1 {fa fb : List F4} {W O : Srv} {n : Nat} (h : Ap fa fb W O n) (hn : n < 1024) {at_ : Int} (ha : W.last ≤ at_) {r : Rq} (h5 : r.2.1 ≠ 5) (h4 : r.2.1 ≠ 4) :
    ((doV W at_ 1 r).1.2 = (doV O at_ 1 r).1.2 ∧ alikeA (doV W at_ 1 r).1.1 (doV O at_ 1 r).1.1) ∧ Ap fa fb (doV W at_ 1 r).2 (doV O at_ 1 r).2 (if (doV W at_ 1 r).1.1.2.2.2.2.1 > 0 then n + 1 else n) := by
  have hl : lookE O.last at_ = lookE W.last at_ := by
    have := h.times
    unfold lookE
    split
    · rw [if_neg (by omega), if_neg (by omega)]
    · rfl
  rcases Decidable.em (lookE W.last at_ = 0) with q | q
  case inr => rw [doV_look q, doV_look (by rw [hl]; exact q), hl]; exact ⟨⟨rfl, alikeA.rfl' _⟩, h⟩
  have strE_ae : strEq nA (ByteArray.mk #[]) = false := strE_e
  rw [doV_some (fun e => e q) h.conW.1 (ansV_want h5 h4 strE_ae), doV_some (by rw [hl]; exact fun e => e q) h.conO (ansV_want h5 h4 strE_ae)]
  have hA := (h.at ha).1
  cases hr : rightB r with
  | false => rw [if_pos rfl, if_pos rfl]; exact ⟨⟨rfl, alikeA.rfl' _⟩, hA⟩
  | true =>
    rw [if_neg (by decide), if_neg (by decide)]
    obtain ⟨⟨a1, a2, a3, a4⟩, a5⟩ := hA.want1 hn rfl rfl r
    exact ⟨⟨rfl, rfl, a2, a3, a4⟩, a5⟩
end Go.Proofs.Ytledmkhbaacdnaa
