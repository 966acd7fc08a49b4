/- The law: what one namespace asks changes nothing of another one. -/
import Derived.Test.YtledmkhbaacdnaaTkPa
import Derived.Test.YtledmkhbaacdnaaTkNc
namespace Go.Proofs.Ytledmkhbaacdnaa
open Go Go.Fw
set_option linter.unusedSimpArgs false
set_option linter.unusedVariables false

def apS (fa fb : List F4) : Srv := ((newS 0).loaded nA fa).loaded nB fb
def hello (ns : ByteArray) : Rq := (0, 5, 0, 0, ns, 0, ())
def apS1 (fa fb : List F4) : Srv := (doV ((apS fa fb).opened 1) 0 1 (hello nA)).2
def apS2 (fa fb : List F4) : Srv := (doV ((apS1 fa fb).opened 2) 0 2 (hello nB)).2
theorem loaded_facts {S : Srv} {ns : ByteArray} {fl : List F4} : (S.loaded ns fl).spaces = S.spaces ++ [(ns, fl)] ∧ (S.loaded ns fl).begun = S.begun ∧ (S.loaded ns fl).last = S.last ∧ (S.loaded ns fl).out = S.out ∧ (S.loaded ns fl).next = S.next ∧ (S.loaded ns fl).conns = S.conns ∧ (S.loaded ns fl).nn = S.nn := freshL_same fl { S with spaces := S.spaces ++ [(ns, fl)] }
theorem hello_do {S : Srv} {conn : Int} {ns old : ByteArray} (hl : S.last = 0) (hc : S.conns conn = some old) (hr : rightB (hello ns) = true) (hs : hasV S ns = true) : doV S 0 conn (hello ns) = (((0, 1, 0, 0, 0, ()), 0), S.conn conn ns) := by
  have hk : lookE S.last 0 = 0 := by rw [hl]; decide
  rw [doV_some (fun e => e hk) hc rfl]
  unfold ansV
  have hs' : hasV { S with last := 0 } (hello ns).2.2.2.2.1 = true := hs
  rw [if_neg (by rw [hr]; decide), if_pos (show (hello ns).2.1 = 5 from rfl), if_pos hs']
  refine Prod.ext rfl ?_
  unfold Srv.conn
  dsimp only
  rw [← hl]
  rfl
theorem ap_ids {fa fb : List F4} (h1 : LoadOK (newS 0) nA fa) (h2 : LoadOK ((newS 0).loaded nA fa) nB fb) : ((fa ++ fb).map (·.1)).Nodup := by
  obtain ⟨_, _, ⟨n1, _⟩, _⟩ := h1
  obtain ⟨_, _, ⟨n2, n3⟩, _⟩ := h2
  rw [List.map_append, List.nodup_append]
  refine ⟨n1, n2, fun a ha b hb e => ?_⟩
  subst e
  obtain ⟨g, hg, hge⟩ := List.mem_map.1 hb
  obtain ⟨f, hf, hfe⟩ := List.mem_map.1 ha
  refine n3 g hg ?_
  rw [loaded_facts.1]
  exact ⟨(nA, fa), by simp [newS], strE_ab, f, hf, hfe.trans hge.symm⟩
theorem Ap.begin {fa fb : List F4} (h1 : LoadOK (newS 0) nA fa) (h2 : LoadOK ((newS 0).loaded nA fa) nB fb) : openE (apS fa fb) 1 = 0 ∧ (apS fa fb).OK ∧ openE (apS1 fa fb) 2 = 0 ∧ ((apS fa fb).opened 1).OK ∧ ((apS1 fa fb).opened 2).OK ∧ Ap fa fb (apS2 fa fb) (apS2 fa fb) 0 := by
  have hids := ap_ids h1 h2
  have rt : ∀ {S : Srv} {ns : ByteArray} {fl : List F4}, LoadOK S ns fl → ∀ f, f ∈ fl → rightF f = true := fun h f hf => by
    have := List.any_eq_false.1 h.2.1 f hf
    simpa using this
  obtain ⟨a1, a2, a3, a4, a5, a6, a7⟩ := @loaded_facts (newS 0) nA fa
  obtain ⟨b1, b2, b3, b4, b5, b6, b7⟩ := @loaded_facts ((newS 0).loaded nA fa) nB fb
  rw [List.map_append, List.nodup_append] at hids
  obtain ⟨i1, i2, i3⟩ := hids
  have c1 : ∀ f, f ∈ fa → ((newS 0).loaded nA fa).counts f.1 = some (freshC f) := freshL_new fa { newS 0 with spaces := (newS 0).spaces ++ [(nA, fa)] } i1 fun f hf => rfl
  have c0 : ∀ g, g ∈ fb → ((newS 0).loaded nA fa).counts g.1 = none := fun g hg => (freshL_other fa { newS 0 with spaces := (newS 0).spaces ++ [(nA, fa)] } g.1 fun f hf e => i3 f.1 (List.mem_map_of_mem hf) g.1 (List.mem_map_of_mem hg) e).trans rfl
  have c2 : ∀ g, g ∈ fb → (apS fa fb).counts g.1 = some (freshC g) := freshL_new fb { (newS 0).loaded nA fa with spaces := ((newS 0).loaded nA fa).spaces ++ [(nB, fb)] } i2 c0
  have c3 : ∀ f, f ∈ fa → (apS fa fb).counts f.1 = some (freshC f) := fun f hf => (freshL_other fb { (newS 0).loaded nA fa with spaces := ((newS 0).loaded nA fa).spaces ++ [(nB, fb)] } f.1 fun g hg e => i3 f.1 (List.mem_map_of_mem hf) g.1 (List.mem_map_of_mem hg) e.symm).trans (c1 f hf)
  have cnt : ∀ f, f ∈ fa ++ fb → ∃ c, (apS fa fb).counts f.1 = some c ∧ c.kind = f.2.2.1 := fun f hf => by
    rcases List.mem_append.1 hf with hf | hf
    · exact ⟨_, c3 f hf, freshC_kind (rt h1 f hf)⟩
    · exact ⟨_, c2 f hf, freshC_kind (rt h2 f hf)⟩
  have sp : (apS fa fb).spaces = [(nA, fa), (nB, fb)] := by show (((newS 0).loaded nA fa).loaded nB fb).spaces = _; rw [b1, a1]; rfl
  have be : (apS fa fb).begun = 0 := (b2.trans a2).trans rfl
  have la : (apS fa fb).last = 0 := (b3.trans a3).trans rfl
  have ou : (apS fa fb).out = [] := (b4.trans a4).trans rfl
  have nx : (apS fa fb).next = 1 := (b5.trans a5).trans rfl
  have co : (apS fa fb).conns = fun _ => none := (b6.trans a6).trans rfl
  have nn : (apS fa fb).nn = 0 := (b7.trans a7).trans rfl
  have ok : ∀ S : Srv, S.spaces = (apS fa fb).spaces → S.counts = (apS fa fb).counts → S.out = (apS fa fb).out → S.OK := fun S e1 e2 e3 => by
    refine ⟨by rw [e3, ou]; exact Nat.zero_le _, fun x hx f hf => ?_⟩
    rw [e2]
    refine cnt f ?_
    rw [e1, sp] at hx
    simp only [List.mem_cons, List.not_mem_nil, or_false] at hx
    rcases hx with rfl | rfl
    · exact List.mem_append_left _ hf
    · exact List.mem_append_right _ hf
  have hA : ∀ S : Srv, S.spaces = (apS fa fb).spaces → hasV S nA = true ∧ hasV S nB = true := fun S e => by
    unfold hasV
    rw [e, sp]
    simp [strE_a, strE_bb]
  have o1 : openE (apS fa fb) 1 = 0 := by
    unfold openE
    rw [if_neg (by decide), if_neg (by decide), if_neg (by rw [co]; decide), if_neg (by rw [nn]; decide)]
  have e1 : (apS fa fb).opened 1 = { apS fa fb with conns := fun i => if i = 1 then some (ByteArray.mk #[]) else (apS fa fb).conns i, nn := (apS fa fb).nn + 1 } := by unfold Srv.opened; rw [if_pos o1]
  have d1 : apS1 fa fb = ((apS fa fb).opened 1).conn 1 nA := by
    unfold apS1
    rw [hello_do (old := ByteArray.mk #[]) (by rw [e1]; exact la) (by rw [e1]; rfl) (by decide) (hA _ (by rw [e1])).1]
  have o2 : openE (apS1 fa fb) 2 = 0 := by
    unfold openE
    rw [if_neg (by decide), if_neg (by decide)]
    have q1 : (apS1 fa fb).conns 2 = none := by rw [d1, e1]; show (if (2 : Int) = 1 then some nA else if (2 : Int) = 1 then some (ByteArray.mk #[]) else (apS fa fb).conns 2) = none; rw [if_neg (by decide), if_neg (by decide), co]
    have q2 : (apS1 fa fb).nn = 1 := by rw [d1, e1]; show (apS fa fb).nn + 1 = 1; rw [nn]
    rw [q1, q2]
    rfl
  have e2 : (apS1 fa fb).opened 2 = { apS1 fa fb with conns := fun i => if i = 2 then some (ByteArray.mk #[]) else (apS1 fa fb).conns i, nn := (apS1 fa fb).nn + 1 } := by unfold Srv.opened; rw [if_pos o2]
  have d2 : apS2 fa fb = ((apS1 fa fb).opened 2).conn 2 nB := by
    unfold apS2
    rw [hello_do (old := ByteArray.mk #[]) (by rw [e2, d1, e1]; exact la) (by rw [e2]; rfl) (by decide) (hA _ (by rw [e2, d1, e1]; rfl)).2]
  refine ⟨o1, ok _ rfl rfl rfl, o2, ok _ (by rw [e1]) (by rw [e1]) (by rw [e1]), ok _ (by rw [e2, d1, e1]; rfl) (by rw [e2, d1, e1]; rfl) (by rw [e2, d1, e1]; rfl), ?_⟩
  have f1 : (apS2 fa fb).spaces = [(nA, fa), (nB, fb)] := by rw [d2, e2, d1, e1]; exact sp
  have f2 : (apS2 fa fb).counts = (apS fa fb).counts := by rw [d2, e2, d1, e1]; rfl
  have f3 : (apS2 fa fb).out = [] := by rw [d2, e2, d1, e1]; exact ou
  have f4 : (apS2 fa fb).next = 1 := by rw [d2, e2, d1, e1]; exact nx
  have f5 : (apS2 fa fb).conns 1 = some nA ∧ (apS2 fa fb).conns 2 = some nB := by
    rw [d2, e2, d1, e1]
    exact ⟨rfl, rfl⟩
  refine ⟨by rw [List.map_append, List.nodup_append]; exact ⟨i1, i2, i3⟩, fun f hf => (List.mem_append.1 hf).elim (rt h1 f) (rt h2 f), f1, f1, rfl, f5, f5.1, Int.le_refl _, fun f hf => by rw [f2]; exact ⟨cnt f hf, cnt f hf⟩, fun f hf => rfl, fun f hf t ht => rfl, by rw [f3]; exact ⟨Nat.zero_le _, Nat.zero_le _⟩, by rw [f4]; decide⟩

/-- two servers, apart in memory -/
structure Tw (h0 : Heap) (s1 s2 : Nat) (T1 T2 : Nat → Option Nat) (W O : Srv) (hh : Heap) : Prop where
  a : Server hh T1 s1 W
  b : Server hh T2 s2 O
  dis : ∀ k, T1 k ≠ none → T2 k = none
  ext : Ext h0 hh
  low1 : ∀ k, T1 k ≠ none → sz h0 ≤ k
  low2 : ∀ k, T2 k ≠ none → sz h0 ≤ k
theorem sv_lt {h : Heap} {T : Nat → Option Nat} {sb : Nat} {S : Srv} (hS : Server h T sb S) {k : Nat} (hk : T k ≠ none) : k < sz h := by
  obtain ⟨cb, nb, sp, so, ls, hR⟩ := hS
  exact hR.lt k hk
theorem Tw.step1 {h0 hh hh' : Heap} {s1 s2 : Nat} {T1 T2 T1' : Nat → Option Nat} {W O W' : Srv} (h : Tw h0 s1 s2 T1 T2 W O hh) (hS : Server hh' T1' s1 W') (st : Stp T1 T1' hh hh') : Tw h0 s1 s2 T1' T2 W' O hh' := by
  refine ⟨hS, sv_congr h.b st.upd.size fun k hk => st.upd.old k (sv_lt h.b hk) fun e => hk (h.dis k e), fun k hk => ?_, h.ext.then st.upd h.low1, fun k hk => (st.new k hk).elim (h.low1 k) fun h9 => Nat.le_trans h.ext.size h9, h.low2⟩
  rcases st.new k hk with h9 | h9
  · exact h.dis k h9
  · exact sv_no h.b h9
theorem Tw.step2 {h0 hh hh' : Heap} {s1 s2 : Nat} {T1 T2 T2' : Nat → Option Nat} {W O O' : Srv} (h : Tw h0 s1 s2 T1 T2 W O hh) (hS : Server hh' T2' s2 O') (st : Stp T2 T2' hh hh') : Tw h0 s1 s2 T1 T2' W O' hh' := by
  refine ⟨sv_congr h.a st.upd.size fun k hk => st.upd.old k (sv_lt h.a hk) fun e => e (h.dis k hk), hS, fun k hk => ?_, h.ext.then st.upd h.low2, h.low1, fun k hk => (st.new k hk).elim (h.low2 k) fun h9 => Nat.le_trans h.ext.size h9⟩
  cases hx : T2' k with
  | none => rfl
  | some t =>
    rcases st.new k (by rw [hx]; exact fun e => by cases e) with h9 | h9
    · exact (h9 (h.dis k hk)).elim
    · have := sv_lt h.a hk
      rw [size_def] at h9
      omega
theorem Tw.more {h0 hh hh' : Heap} {s1 s2 : Nat} {T1 T2 : Nat → Option Nat} {W O : Srv} (h : Tw h0 s1 s2 T1 T2 W O hh) (he : Ext hh hh') : Tw h0 s1 s2 T1 T2 W O hh' :=
  ⟨sv_ext h.a he, sv_ext h.b he, h.dis, h.ext.trans he, h.low1, h.low2⟩
theorem Tw.no {h0 hh : Heap} {s1 s2 : Nat} {T1 T2 : Nat → Option Nat} {W O : Srv} (h : Tw h0 s1 s2 T1 T2 W O hh) {k : Nat} (hk : sz hh ≤ k) : T1 k = none ∧ T2 k = none := ⟨sv_no h.a hk, sv_no h.b hk⟩
/-- a request of the first server's: its answer, in the two ways -/
theorem Tw.do1 {h0 hh : Heap} {s1 s2 : Nat} {T1 T2 : Nat → Option Nat} {W O : Srv} (h : Tw h0 s1 s2 T1 T2 W O hh) (hok : W.OK) {at_ conn : Int} {r : Rq} (hs : r.2.2.2.2.1.size < 9223372036854775808) {K : An → Int → Heap → Prop}
    (hk : ∀ h' T1', Tw h0 s1 s2 T1' T2 (doV W at_ conn r).2 O h' → Stp T1 T1' hh h' → K (doV W at_ conn r).1.1 (doV W at_ conn r).1.2 h') : m_token_Server_Do (some ⟨s1, 0, none⟩) at_ conn r K hh :=
  Do_spec h.a hok hs fun h' T1' hS st => hk h' T1' (h.step1 hS st) st
theorem Tw.do2 {h0 hh : Heap} {s1 s2 : Nat} {T1 T2 : Nat → Option Nat} {W O : Srv} (h : Tw h0 s1 s2 T1 T2 W O hh) (hok : O.OK) {at_ conn : Int} {r : Rq} (hs : r.2.2.2.2.1.size < 9223372036854775808) {K : An → Int → Heap → Prop}
    (hk : ∀ h' T2', Tw h0 s1 s2 T1 T2' W (doV O at_ conn r).2 h' → Stp T2 T2' hh h' → K (doV O at_ conn r).1.1 (doV O at_ conn r).1.2 h') : m_token_Server_Do (some ⟨s2, 0, none⟩) at_ conn r K hh :=
  Do_spec h.b hok hs fun h' T2' hS st => hk h' T2' (h.step2 hS st) st
end Go.Proofs.Ytledmkhbaacdnaa
