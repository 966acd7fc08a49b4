/- From a reading that is a model to the call. -/
import Derived.Test.YtkcbkiognkkhlaaFwL
namespace Go.Fw
open Go

inductive AllOK (P : Program) : List (FuncId × CallSpec) → Prop
  | nil : AllOK P []
  | cons {f : FuncId} {s : CallSpec} {l : List (FuncId × CallSpec)} (h : CallOK P f s) (r : AllOK P l) : AllOK P ((f, s) :: l)

theorem allOK_call {P : Program} : ∀ {l : List (FuncId × CallSpec)}, AllOK P l → ∀ f s, Cfg.call.go f l = some s → CallOK P f s
  | [], _, f, s, h => by simp [Cfg.call.go] at h
  | (g, s') :: l, .cons h0 hr, f, s, h => by
    simp only [Cfg.call.go] at h
    cases hb : Nat.beq f g with
    | true =>
      rw [hb] at h
      simp only [cond_true, Option.some.injEq] at h
      subst h
      rw [Nat.eq_of_beq_eq_true hb]
      exact h0
    | false =>
      rw [hb] at h
      exact allOK_call hr f s h

theorem cfg_ok (c : Cfg) (h : AllOK c.P c.calls) : c.OK := fun f s hs => allOK_call h f s hs
theorem cfg_nil (c : Cfg) (h : c.calls = []) : c.OK := cfg_ok c (by rw [h]; exact .nil)

theorem ok_of {c : Cfg} {f : FuncId} {fn : Func} {ann : Ann} {s : CallSpec} (hf : c.P.funcs[f]? = some fn) (hname : (fn.name == "runtime.NumGoroutine") = false) (hbody : fn.body.isNone = false)
    (hn : c.n = fn.ntmps) (hlen : s.args.length ≤ fn.ntmps) (hc : c.OK) (hmixed : c.P.follows .mixedOrders = true)
    (hr : ∀ (t : TupV s.args) (K : TupV s.res → Heap → Prop) (h : Heap), funP c fn ann (TupV.evs s.args t) s.res K h = s.sem t K h) : CallOK c.P f s where
  named := ⟨fn, hf, hname, hbody⟩
  calls t K w hk := by
    have hl : (TupV.evs s.args t).length ≤ fn.ntmps := by
      have : ∀ (vs : List VT) (x : TupV vs), (TupV.evs vs x).length = vs.length := by
        intro vs
        induction vs with
        | nil => intro x; rfl
        | cons v vs ih => intro x; simp only [TupV.evs, List.length_cons, ih]
      rw [this]
      exact hlen
    exact funP_calls hc hmixed hf hn hl (by rw [hr]; exact hk)

end Go.Fw
