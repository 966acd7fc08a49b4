/- From a law's model to the call: it returns true, and what was there is as it was. -/
import Derived.Test.YtledmkhbaacdnaaFwM
import Derived.Test.YtledmkhbaacdnaaFwU
import Derived.Below
namespace Go.Fw
open Go Go.RowKit

theorem law_calls {P : Program} {f : FuncId} {s : CallSpec} (ok : CallOK P f s) (t : TupV s.args) (w : World) {args : Array Value} (hargs : ((TupV.evs s.args t).map EV.v).toArray = args)
    (h : s.sem t (fun r h' => resV s.res r = .bool true ∧ Ext w.heap h') (fun _ _ => False) w.heap) : Calls P f args w fun e w' => e = .returned (.bool true) ∧ Below w.heap.size w w' := by
  rw [← hargs]
  refine (ok.calls t _ _ w h).mono ?_
  rintro e w' (⟨r, rfl, hs, hr, hx⟩ | ⟨v, rfl, hs, hk⟩)
  · exact ⟨by rw [hr], hs.2.1, hs.1, hs.2.2, hx.size, hx.old⟩
  · exact hk.elim

end Go.Fw
