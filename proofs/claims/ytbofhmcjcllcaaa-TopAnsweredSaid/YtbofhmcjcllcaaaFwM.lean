/- From a reading that is a model to the call. -/
import Derived.Test.YtbofhmcjcllcaaaFwL
import Derived.Laws.Externs
import GoSem.Extern.MapsClone
namespace Go.Fw
open Go

inductive AllOK (P : Program) : List (FuncId × CallSpec) → Prop
  | nil : AllOK P []
  | cons {f : FuncId} {s : CallSpec} {l : List (FuncId × CallSpec)} (h : CallOK P f s) (r : AllOK P l) : AllOK P ((f, s) :: l)

theorem allOK_call {P : Program} : ∀ {l : List (FuncId × CallSpec)}, AllOK P l → ∀ x, x ∈ l → CallOK P x.1 x.2
  | [], _, x, h => by cases h
  | _ :: _, .cons h0 hr, x, h => by
    cases h with
    | head => exact h0
    | tail _ h => exact allOK_call hr x h

inductive AllExt (P : Program) : List FuncId → Prop
  | nil : AllExt P []
  | cons {f : FuncId} {l : List FuncId} (h : ExtOK P f) (r : AllExt P l) : AllExt P (f :: l)
theorem allExt_mem {P : Program} : ∀ {l : List FuncId}, AllExt P l → ∀ f, f ∈ l → ExtOK P f
  | [], _, x, h => by cases h
  | _ :: _, .cons h0 hr, x, h => by
    cases h with
    | head => exact h0
    | tail _ h => exact allExt_mem hr x h

theorem cfg_ok (c : Cfg) (h : AllOK c.P c.calls) (h' : AllExt c.P c.ext) : c.OK := ⟨allOK_call h, allExt_mem h'⟩

theorem ext_clone {P : Program} {f : FuncId} {fn : Func} (hf : P.funcs[f]? = some fn) (hname : (fn.name == "runtime.NumGoroutine") = false) (hb : fn.body.isNone = true) (hn : Extern.findNext fn = none)
    (he : Extern.find fn = some Extern.MapsClone.clone) : ExtOK P f := by
  intro t b es cl w hw
  refine ⟨{ w with heap := w.heap.push (.map es cl) }, ?_, ⟨rfl, rfl, rfl⟩, rfl⟩
  rw [run_callFunc_extern hf hname hb hn he]
  have e : Extern.MapsClone.clone #[.iface t (.map (some b))] = (getObj b >>= fun o => match o with
      | .map entries clock => (newObj (.map entries clock) >>= fun n => pure (.iface t (.map (some n))))
      | _ => stuck "maps.clone: a map expected") := rfl
  rw [e]
  simp only [Sem.run_bind, MapKept.run_getObj_map hw, Result.andThen_ok]
  rfl

theorem ok_of {c : Cfg} {f : FuncId} {fn : Func} {ann : Ann} {s : CallSpec} (hf : c.P.funcs[f]? = some fn) (hname : (fn.name == "runtime.NumGoroutine") = false) (hbody : fn.body.isNone = false)
    (hn : c.n = fn.ntmps) (hlen : s.args.length ≤ fn.ntmps) (hc : c.OK) (hmixed : c.P.follows .mixedOrders = true)
    (hr : ∀ (t : TupV s.args) (K : TupV s.res → Heap → Prop) (h : Heap), funP c fn ann (TupV.evs s.args t) s.res K h = s.sem t K h) : CallOK c.P f s where
  named := ⟨fn, hf, hname, hbody⟩
  calls t K w hk := by
    have hl : (TupV.evs s.args t).length ≤ fn.ntmps := by
      have : ∀ (vs : List VT) (x : TupV vs), (TupV.evs vs x).length = vs.length := by
        intro vs
        induction vs with
        | nil => intro x; rfl
        | cons v vs ih => intro x; simp only [TupV.evs, List.length_cons, ih]
      rw [this]
      exact hlen
    exact funP_calls hc hmixed hf hn hl (by rw [hr]; exact hk)

end Go.Fw
