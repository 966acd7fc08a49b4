/- The token server: what the script of 'live' comes to, in plain words. -/
import Derived.Test.YtledmkhbaacdnaaTkU
namespace Go.Proofs.Ytledmkhbaacdnaa
open Go Go.Fw
set_option linter.unusedSimpArgs false
set_option linter.unusedVariables false

def nA : ByteArray := ByteArray.mk #[97]
def nE : ByteArray := ByteArray.mk #[]
def lf : F4 := (1, 5, 1, 0, ())
def LS1 : Srv := (newS 0).loaded nA [lf]
theorem LS1_eq : LS1 = ⟨0, 0, [(nA, [lf])], fun i => if i = 1 then some (.rate ⟨0, fun _ => 0⟩) else none, 1, fun _ => none, 0, [], 1⟩ := rfl
theorem strE_a : strEq nA nA = true := strEq_self _
theorem strE_e : strEq nA nE = false := by rw [show nE = ByteArray.mk #[] from rfl, strEq_nil]; rfl
theorem strE_ee : strEq nE nE = true := strEq_self _
def LS3 (last : Int) (w : Win) : Srv := ⟨0, last, [(nA, [lf])], fun i => if i = 1 then some (.rate w) else none, 1, fun i => if i = 1 then some nA else none, 1, [], 1⟩
theorem l_ok : LoadOK (newS 0) nA [lf] := by
  refine ⟨by decide, by decide, ⟨by decide, fun f hf h => ?_⟩, ?_⟩
  · obtain ⟨x, hx, _⟩ := h
    cases hx
  · decide
theorem l_open : openE LS1 1 = 0 := by decide
theorem l_do1 : doV (LS1.opened 1) 5 1 (3, 5, 0, 0, nA, 0, ()) = (((3, 1, 0, 0, 0, ()), 0), LS3 5 ⟨0, fun _ => 0⟩) := by
  have h0 : LS1.opened 1 = ⟨0, 0, [(nA, [lf])], fun i => if i = 1 then some (.rate ⟨0, fun _ => 0⟩) else none, 1, fun i => if i = 1 then some nE else none, 1, [], 1⟩ := by
    rw [Srv.opened, if_pos l_open]; rfl
  rw [h0, doV_some (by decide) (ns := nE) rfl rfl]
  have h1 : ∀ S : Srv, S.spaces = [(nA, [lf])] → ansV S 5 1 nE (3, 5, 0, 0, nA, 0, ()) = (stA 1, S.conn 1 nA) := fun S hS => by
    unfold ansV
    have hh : hasV S nA = true := by unfold hasV; rw [hS]; simp [strE_a]
    rw [if_neg (by decide), if_pos rfl, if_pos hh]
  rw [h1 _ rfl]
  refine Prod.ext rfl ?_
  unfold LS3 Srv.conn
  dsimp only
  congr 1
  funext i
  by_cases h : i = 1 <;> simp [h]
theorem l_flow (S : Srv) (hS : S.spaces = [(nA, [lf])]) : flowV S.spaces nA 1 = some lf := by
  have : hitF nA 1 nA lf = true := by
    unfold hitF
    rw [strE_a]
    simp [lf]
  rw [hS]
  unfold flowV
  simp [this]
theorem l_ans (S : Srv) (hS : S.spaces = [(nA, [lf])]) {at_ : Int} {r : Rq} (h1 : rightB r = true) (h2 : r.2.1 = 1) (h3 : r.2.2.1 = 1) : ansV S at_ 1 nA r = if quietV S at_ lf then (stA 7, S) else grantV S at_ lf r := by
  unfold ansV
  rw [if_neg (by rw [h1]; decide), if_neg (by rw [h2]; decide), if_neg (by rw [show ByteArray.mk #[] = nE from rfl, strE_e]; decide), if_neg (by rw [h2]; decide), wantV_some (f := lf) (by rw [h3]; exact l_flow S hS), if_neg (by rw [h2]; decide)]
theorem l_do2 : doV (LS3 5 ⟨0, fun _ => 0⟩) 999999 1 (4, 1, 1, 1, nE, 0, ()) = (((4, 7, 0, 0, 0, ()), 0), LS3 999999 ⟨0, fun _ => 0⟩) := by
  rw [doV_some (by decide) (ns := nA) rfl rfl, l_ans _ rfl (by decide) rfl rfl, if_pos (by decide)]
  rfl
def LW : Win := ⟨1000000, fun i => if i = bkt 1000000 then plusV 0 1 else 0⟩
theorem l_do3 : doV (LS3 999999 ⟨0, fun _ => 0⟩) 1000000 1 (5, 1, 1, 1, nE, 0, ()) = (((5, 1, 4, 0, 0, ()), 0), LS3 1000000 LW) := by
  rw [doV_some (by decide) (ns := nA) rfl rfl, l_ans _ rfl (by decide) rfl rfl, if_neg (by decide)]
  have hu : ∀ S : Srv, S.counts 1 = some (.rate ⟨0, fun _ => 0⟩) → usedV S 1000000 lf nE = 0 := fun S hS => by
    unfold usedV
    rw [if_neg (by decide), show lf.1 = 1 from rfl, hS]
    decide +kernel
  unfold grantV
  rw [hu _ rfl, if_neg (by decide), if_pos (by decide)]
  have : Win.took ⟨0, fun _ => 0⟩ 1000000 1 = LW := by
    unfold Win.took
    rw [if_pos (by decide)]
    rfl
  refine Prod.ext rfl ?_
  unfold Srv.take LS3
  dsimp only
  congr 1
  funext i
  by_cases h : i = 1
  · subst h
    rw [if_pos rfl, if_pos rfl]
    simp only [lf, if_true, Option.map_some, Cnt.took, this]
  · rw [if_neg h, if_neg (show ¬ i = lf.1 from h), if_neg h]
theorem l_do4 : (doV (LS3 1000000 LW) 1000000 1 (6, 1, 1, 5, nE, 0, ())).1 = ((6, 2, 4, 0, 0, ()), 0) := by
  rw [doV_some (by decide) (ns := nA) rfl rfl, l_ans _ rfl (by decide) rfl rfl, if_neg (by decide)]
  have hu : ∀ S : Srv, S.counts 1 = some (.rate LW) → usedV S 1000000 lf nE = 1 := fun S hS => by
    unfold usedV
    rw [if_neg (by decide), show lf.1 = 1 from rfl, hS]
    decide +kernel
  unfold grantV
  rw [hu _ rfl, if_pos (by decide)]
  rfl
end Go.Proofs.Ytledmkhbaacdnaa
