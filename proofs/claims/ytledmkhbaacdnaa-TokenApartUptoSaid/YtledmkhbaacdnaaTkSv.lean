/- The token server in memory: what stays of it. -/
import Derived.Test.YtledmkhbaacdnaaTkU
namespace Go.Proofs.Ytledmkhbaacdnaa
open Go Go.Fw
set_option linter.unusedSimpArgs false
set_option linter.unusedVariables false

theorem sv_ext {h h' : Heap} {T : Nat → Option Nat} {sb : Nat} {S : Srv} (hS : Server h T sb S) (he : Ext h h') : Server h' T sb S := by
  obtain ⟨cb, nb, sp, so, ls, hR⟩ := hS
  exact ⟨cb, nb, sp, so, ls, hR.ext he⟩
theorem sv_no {h : Heap} {T : Nat → Option Nat} {sb : Nat} {S : Srv} (hS : Server h T sb S) {k : Nat} (hk : sz h ≤ k) : T k = none := by
  obtain ⟨cb, nb, sp, so, ls, hR⟩ := hS
  exact hR.no hk
theorem sv_congr {h h' : Heap} {T : Nat → Option Nat} {sb : Nat} {S : Srv} (hS : Server h T sb S) (hz : sz h ≤ sz h') (he : ∀ k, T k ≠ none → h'[k]? = h[k]?) : Server h' T sb S := by
  obtain ⟨cb, nb, sp, so, ls, hR⟩ := hS
  exact ⟨cb, nb, sp, so, ls, hR.congr hz he⟩
theorem st_no {h h' : Heap} {T T' : Nat → Option Nat} {sb : Nat} {S : Srv} (_ : Server h T sb S) (st : Stp T T' h h') {k : Nat} (h1 : T k = none) (h2 : k < sz h) : T' k = none := by
  cases hT : T' k with
  | none => rfl
  | some t =>
    rcases st.new k (by rw [hT]; exact fun e => by cases e) with h3 | h3
    · exact (h3 h1).elim
    · rw [size_def] at h3; omega
end Go.Proofs.Ytledmkhbaacdnaa
