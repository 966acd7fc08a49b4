/- From a reading that is a model to the call. -/
import Derived.Test.YtledmkhbaacdnaaFwL
import Derived.Laws.Externs
import GoSem.Extern.MapsClone
namespace Go.Fw
open Go

inductive AllOK (P : Program) : List (FuncId × CallSpec) → Prop
  | nil : AllOK P []
  | cons {f : FuncId} {s : CallSpec} {l : List (FuncId × CallSpec)} (h : CallOK P f s) (r : AllOK P l) : AllOK P ((f, s) :: l)

theorem allOK_call {P : Program} : ∀ {l : List (FuncId × CallSpec)}, AllOK P l → ∀ x, x ∈ l → CallOK P x.1 x.2
  | [], _, x, h => by cases h
  | _ :: _, .cons h0 hr, x, h => by
    cases h with
    | head => exact h0
    | tail _ h => exact allOK_call hr x h

inductive AllExt (P : Program) : List FuncId → Prop
  | nil : AllExt P []
  | cons {f : FuncId} {l : List FuncId} (h : ExtOK P f) (r : AllExt P l) : AllExt P (f :: l)
theorem allExt_mem {P : Program} : ∀ {l : List FuncId}, AllExt P l → ∀ f, f ∈ l → ExtOK P f
  | [], _, x, h => by cases h
  | _ :: _, .cons h0 hr, x, h => by
    cases h with
    | head => exact h0
    | tail _ h => exact allExt_mem hr x h

inductive AllDyn (P : Program) : List (String × TypeId × FuncId) → Prop
  | nil : AllDyn P []
  | cons {n : String} {t : TypeId} {f : FuncId} {l : List (String × TypeId × FuncId)} (h : MethOK P n t f) (r : AllDyn P l) : AllDyn P ((n, t, f) :: l)
theorem allDyn_mem {P : Program} : ∀ {l : List (String × TypeId × FuncId)}, AllDyn P l → ∀ x, x ∈ l → MethOK P x.1 x.2.1 x.2.2
  | [], _, x, h => by cases h
  | _ :: _, .cons h0 hr, x, h => by
    cases h with
    | head => exact h0
    | tail _ h => exact allDyn_mem hr x h

inductive AllIter (P : Program) : List (FuncId × IterSpec) → Prop
  | nil : AllIter P []
  | cons {f : FuncId} {s : IterSpec} {l : List (FuncId × IterSpec)} (h : IterOK P f s) (r : AllIter P l) : AllIter P ((f, s) :: l)
theorem allIter_mem {P : Program} : ∀ {l : List (FuncId × IterSpec)}, AllIter P l → ∀ x, x ∈ l → IterOK P x.1 x.2
  | [], _, x, h => by cases h
  | _ :: _, .cons h0 hr, x, h => by
    cases h with
    | head => exact h0
    | tail _ h => exact allIter_mem hr x h

def isPtrD : Option TypeDesc → Bool
  | some (.pointer _) => true
  | none => true
  | _ => false
/-- a method of a type that is no pointer's, its own -/
theorem meth_ok {P : Program} {name : String} {t : TypeId} {f : FuncId} {i : TypeInfo} {m : Method} (hi : P.info? t = some i) (hm : i.methods.find? (·.name == name) = some m) (hp : m.path = #[]) (hf : m.func = some (f, false)) (hd : isPtrD (P.underlying t) = false) (hs : 0 < P.types.size) : MethOK P name t f := by
  intro v w
  obtain ⟨n, hn⟩ : ∃ n, P.types.size + Made.depth = n + 1 := ⟨P.types.size + Made.depth - 1, by omega⟩
  rw [hn]
  unfold method
  cases hu : P.underlying t with
  | none => rw [hu] at hd; cases hd
  | some d =>
    simp only [Sem.run_bind, run_typeInfo P w t hi, Result.andThen_ok, hm, hp, follow, Sem.run_pure, hf]
    unfold receiverAt
    simp only [Sem.run_bind, run_underlying P w t hu, Result.andThen_ok]
    rw [hu] at hd
    cases d <;> first
      | (cases hd; done)
      | (simp only [Place.get, Sem.run_pure, Result.andThen_ok, Sem.run_bind])

theorem cfg_ok (c : Cfg) (h : AllOK c.P c.calls) (h' : AllExt c.P c.ext) (h'' : AllDyn c.P c.dyn) (h3 : AllIter c.P c.iters) (h4 : YOK c.P c.yld) : c.OK := ⟨allOK_call h, allExt_mem h', allDyn_mem h'', allIter_mem h3, h4⟩

theorem ext_clone {P : Program} {f : FuncId} {fn : Func} (hf : P.funcs[f]? = some fn) (hname : (fn.name == "runtime.NumGoroutine") = false) (hb : fn.body.isNone = true) (hn : Extern.findNext fn = none)
    (he : Extern.find fn = some Extern.MapsClone.clone) : ExtOK P f := by
  intro t b es cl w hw
  refine ⟨{ w with heap := w.heap.push (.map es cl) }, ?_, ⟨rfl, rfl, rfl⟩, rfl⟩
  rw [run_callFunc_extern hf hname hb hn he]
  have e : Extern.MapsClone.clone #[.iface t (.map (some b))] = (getObj b >>= fun o => match o with
      | .map entries clock => (newObj (.map entries clock) >>= fun n => pure (.iface t (.map (some n))))
      | _ => stuck "maps.clone: a map expected") := rfl
  rw [e]
  simp only [Sem.run_bind, MapKept.run_getObj_map hw, Result.andThen_ok]
  rfl

theorem ok_of {c : Cfg} {f : FuncId} {fn : Func} {ann : Ann} {s : CallSpec} (hf : c.P.funcs[f]? = some fn) (hname : (fn.name == "runtime.NumGoroutine") = false) (hbody : fn.body.isNone = false)
    (hn : c.n = fn.ntmps) (hlen : s.args.length ≤ fn.ntmps) (hc : c.OK) (hmixed : c.P.follows .mixedOrders = true)
    (hr : ∀ (t : TupV s.args) (K : TupV s.res → Heap → Prop) (Kp : Value → Heap → Prop) (h : Heap), funP c fn ann (TupV.evs s.args t) s.res K Kp h = s.sem t K Kp h) : CallOK c.P f s where
  named := ⟨fn, hf, hname, hbody⟩
  calls t K Kp w hk := by
    have hl : (TupV.evs s.args t).length ≤ fn.ntmps := by
      have : ∀ (vs : List VT) (x : TupV vs), (TupV.evs vs x).length = vs.length := by
        intro vs
        induction vs with
        | nil => intro x; rfl
        | cons v vs ih => intro x; simp only [TupV.evs, List.length_cons, ih]
      rw [this]
      exact hlen
    exact funP_calls hc hmixed hf hn hl (by rw [hr]; exact hk)

end Go.Fw
