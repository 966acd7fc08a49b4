/- The token server: Close, Last; what the laws do with rows of flows. -/
import Derived.Test.YtledmkhbaacdnaaTkSv
import Derived.Test.YtledmkhbaacdnaaTkNa
namespace Go.Proofs.Ytledmkhbaacdnaa
open Go Go.Fw
set_option linter.unusedSimpArgs false
set_option linter.unusedVariables false

theorem rB {h : Heap} {b o : Nat} {n : Bool} {K : Bool → Prop} (hc : objCell o (obj h b) = some (.bool n)) (hk : K n) : ldB h b o K := by rw [ldB_ev hc]; exact hk
theorem rS {h : Heap} {b o : Nat} {n : ByteArray} {K : ByteArray → Prop} (hc : objCell o (obj h b) = some (.string n)) (hk : K n) : ldS h b o K := by rw [ldS_ev hc]; exact hk
theorem held1 {hh : Heap} {b o : Nat} {v : Value} (hc : objCell o (obj hh b) = some v) : heldL hh [(b, o, v)] := by rw [heldL_cons, heldL_nil]; exact ⟨hc, trivial⟩
theorem wrS {i n : Nat} (h : i < n) (hn : n < 9223372036854775808) : IntKind.wrap .i64 ((i : Int) + 1) = ((i + 1 : Nat) : Int) := by rw [wrap64 (by omega) (by omega)]; rfl

def closeE (S : Srv) (conn : Int) : Int := if (S.conns conn).isSome then 0 else 4
def Srv.closed (S : Srv) (conn : Int) : Srv := if (S.conns conn).isSome then { S with conns := fun i => if i = conn then none else S.conns i, nn := S.nn - 1 } else S
theorem Close_spec {h : Heap} {T : Nat → Option Nat} {sb : Nat} {S : Srv} (hS : Server h T sb S) {conn : Int} {K : Int → Heap → Prop}
    (hk : ∀ h', Server h' T sb (S.closed conn) → Stp T T h h' → K (closeE S conn) h') : m_token_Server_Close (some ⟨sb, 0, none⟩) conn K h := by
  obtain ⟨cb, nb, sp, so, ls, hR⟩ := hS
  unfold m_token_Server_Close g_token_Server_Close
  unfold Srv.closed closeE at hk
  refine bindI_intro (iteP_false (deref_ (rM (cellR hR.cells rfl) ?_)))
  refine hR.conns.get conn ?_
  cases hc : S.conns conn with
  | none =>
    rw [hc] at hk
    refine ⟨ByteArray.mk #[], rfl, ?_⟩
    rw [bindB_ev]
    exact iteP_true (bindI_intro (hk h ⟨cb, nb, sp, so, ls, hR⟩ (Stp.refl _ _)))
  | some ns =>
    rw [hc] at hk
    refine ⟨ns, rfl, ?_⟩
    rw [bindB_ev]
    refine iteP_false (deref_ (rM (cellR hR.cells rfl) ?_))
    refine hR.conns.del conn fun h' hm hu hz => bindI_intro (hk h' ⟨cb, nb, sp, so, ls, ?_⟩ ⟨hu.mono fun k _ hk => by subst hk; rw [hR.tnb]; exact (fun e => by cases e), fun _ h => .inl h⟩)
    have e : upd (fun i => (S.conns i).map Value.string) conn none = fun i => (if i = conn then none else S.conns i).map .string := by
      funext i
      unfold upd
      split <;> rfl
    rw [e, hc] at hm
    exact hR.setN hu hm
theorem Last_ev {h : Heap} {T : Nat → Option Nat} {sb : Nat} {S : Srv} (hS : Server h T sb S) {K : Int → Heap → Prop} (hk : K S.last h) : m_token_Server_Last (some ⟨sb, 0, none⟩) K h := by
  obtain ⟨cb, nb, sp, so, ls, hR⟩ := hS
  unfold m_token_Server_Last g_token_Server_Last
  exact bindI_intro (iteP_false (deref_ (rI (cellR hR.cells rfl) (bindI_intro hk))))

theorem kinds_spec {h : Heap} {s : Sl} {l : List F4} (hr : Row h s 4 (l.flatMap f4L)) {K : Bool → Heap → Prop} (hk : ∀ b, K b h) : m_spillwaylaw20_kinds s K h := by
  unfold m_spillwaylaw20_kinds g_spillwaylaw20_kinds
  have hl := rowLen f4L_len hr (by decide)
  have hb := hr.big
  have hc := hr.cap
  refine bindI_intro (loopQ (fun st hh => ∃ i : Nat, st = ((i : Int), ()) ∧ i ≤ l.length ∧ hh = h) (fun st _ => (s.len - st.1).toNat) ⟨0, rfl, Nat.zero_le _, rfl⟩ ?_)
  rintro _ _ ⟨i, rfl, hi, rfl⟩ Q hQ
  dsimp only
  refine iteP_dec (fun q => ?_) fun _ => hk true
  obtain ⟨f, hf⟩ : ∃ f, l[i]? = some f := ⟨_, List.getElem?_eq_getElem (by omega)⟩
  obtain ⟨b, o, _, _, hidx, hcell⟩ := elemR f4L_len hr hf (by decide)
  refine hidx rfl (rI (hcell 2 _ rfl) ⟨fun _ => hk false, fun _ => hidx rfl (rI (hcell 2 _ rfl) ⟨fun _ => hk false, fun _ => bindI_intro ?_⟩)⟩)
  rw [wrS (n := s.len) (by omega) (by omega)]
  exact hQ _ _ ⟨i + 1, rfl, by omega, rfl⟩ (by dsimp only; omega)

theorem flows_spec {h : Heap} {s : Sl} {l : List F4} (hr : Row h s 4 (l.flatMap f4L)) (hln : l.length * 32 ≤ 140737488355328) {K : Sl → Heap → Prop} (hk : ∀ t h', Own h' h.size t 4 (l.flatMap f4L) → Ext h h' → K t h') : m_spillwaylaw20_flows s K h := by
  unfold m_spillwaylaw20_flows g_spillwaylaw20_flows
  have hl := rowLen f4L_len hr (by decide)
  have hb := hr.big
  have hc := hr.cap
  refine bindI_intro (loopQ (fun st hh => ∃ (i : Nat) (t : Sl), st = (t, (i : Int), ()) ∧ i ≤ l.length ∧ Own hh h.size t 4 ((l.take i).flatMap f4L) ∧ Ext h hh) (fun st _ => (s.len - st.2.1).toNat) ⟨0, _, rfl, Nat.zero_le _, Own.nil _ _ _, Ext.refl _⟩ ?_)
  rintro _ hh ⟨i, t, rfl, hi, ho, he⟩ Q hQ
  dsimp only
  refine iteP_dec (fun q => ?_) fun q => ?_
  · obtain ⟨f, hf⟩ : ∃ f, l[i]? = some f := ⟨_, List.getElem?_eq_getElem (by omega)⟩
    obtain ⟨b, o, hsb, hbl, hidx, hcell⟩ := elemR f4L_len (hr.ext he) hf (by decide)
    refine hidx rfl (hidx rfl (hidx rfl (hidx rfl (rI (hcell 0 _ rfl) (rI (hcell 1 _ rfl) (rI (hcell 2 _ rfl) (rI (hcell 3 _ rfl) ?_)))))))
    rw [newC_ev]
    have e2 : Ext hh (hh.push (.cells [Value.int .i64 f.1, Value.int .i64 f.2.1, Value.int .i64 f.2.2.1, Value.int .i64 f.2.2.2.1].toArray 53 (0, 0))) := Ext.push _ _
    have hrow : Row (hh.push (.cells [Value.int .i64 f.1, Value.int .i64 f.2.1, Value.int .i64 f.2.2.1, Value.int .i64 f.2.2.2.1].toArray 53 (0, 0))) ⟨some ⟨sz hh, 0, none⟩, 1, 1⟩ 4 (f4L f) := (Own.newC (h := hh) (cells := f4L f) (t := 53) (size := 4) (n := 1) rfl (by decide)).row
    generalize hh.push (.cells [Value.int .i64 f.1, Value.int .i64 f.2.1, Value.int .i64 f.2.2.1, Value.int .i64 f.2.2.2.1].toArray 53 (0, 0)) = h2 at e2 hrow ⊢
    have hc2 : ∀ j v, (f4L f)[j]? = some v → objCell (o + j) (obj h2 b) = some v := fun j v hv => by rw [ext_obj e2 hbl]; exact hcell j v hv
    have ho2 := ho.congr (h' := h2) fun k hk _ _ => e2.old k (ho.lt hk).2
    have htl : t.len = i := by
      have := rowLen f4L_len ho.row (by decide)
      rw [List.length_take] at this
      omega
    refine ⟨held1 (hc2 3 _ rfl), held1 (hc2 2 _ rfl), held1 (hc2 1 _ rfl), held1 (hc2 0 _ rfl), hrow.rd ?_⟩
    refine Own.app ho2 rfl (by simp [f4L, one_int]) rfl (by omega) (by omega) (he.trans e2).size fun t3 h3 ho3 hl3 u3 hb3 => ?_
    have e3 : Ext h h3 := (he.trans e2).then u3 fun k hk => (ho2.lt hk).1
    have hne : t.blk ≠ some b := fun e => by
      have h1 := (ho.lt e).1
      have h2 := (elemR f4L_len hr hf (by decide))
      obtain ⟨b', o', hb', hl', _⟩ := h2
      rw [hsb] at hb'
      cases hb'
      have : b < sz h := hl'
      rw [size_def] at h1
      omega
    have hc3 : ∀ j v, (f4L f)[j]? = some v → objCell (o + j) (obj h3 b) = some v := fun j v hv => by
      rw [upd_obj u3 (by have := ext_sz e2; omega) hne]
      exact hc2 j v hv
    refine ⟨held1 (hc3 3 _ rfl), held1 (hc3 2 _ rfl), held1 (hc3 1 _ rfl), held1 (hc3 0 _ rfl), bindI_intro ?_⟩
    rw [wrS (n := s.len) (by omega) (by omega)]
    refine hQ _ _ ⟨i + 1, t3, rfl, by omega, ?_, e3⟩ (by dsimp only; omega)
    rw [List.take_add_one, hf, List.flatMap_append]
    simpa using ho3
  · rw [List.take_of_length_le (by omega)] at ho
    exact hk t hh ho he
theorem count_spec {h : Heap} {s : Sl} {l : List F4} (hr : Row h s 4 (l.flatMap f4L)) (hnd : (l.map (·.1)).Nodup) {f : F4} (hf : f ∈ l) {K : Int → Heap → Prop} (hk : K f.2.1 h) : m_spillwaylaw20_count s f.1 K h := by
  unfold m_spillwaylaw20_count g_spillwaylaw20_count
  have hl := rowLen f4L_len hr (by decide)
  have hb := hr.big
  have hc := hr.cap
  refine bindI_intro (bindI_intro (loopQ (fun st hh => ∃ i : Nat, st = ((i : Int), ()) ∧ i ≤ l.length ∧ hh = h ∧ ∀ j, j < i → l[j]? ≠ some f) (fun st _ => (s.len - st.1).toNat) ⟨0, rfl, Nat.zero_le _, rfl, fun j hj => by omega⟩ ?_))
  rintro _ _ ⟨i, rfl, hi, rfl, hno⟩ Q hQ
  dsimp only
  refine iteP_dec (fun q => ?_) fun q => ?_
  · obtain ⟨g, hg⟩ : ∃ g, l[i]? = some g := ⟨_, List.getElem?_eq_getElem (by omega)⟩
    obtain ⟨b, o, _, _, hidx, hcell⟩ := elemR f4L_len hr hg (by decide)
    refine hidx rfl (rI (hcell 0 _ rfl) ⟨fun e => ?_, fun e => ?_⟩)
    · have e' : g.1 = f.1 := by simpa using e
      have : g = f := nodup_eq hnd (List.mem_of_getElem? hg) hf e'
      subst this
      exact hidx rfl (rI (hcell 1 _ rfl) (bindI_intro hk))
    · have e' : g.1 ≠ f.1 := by simpa using e
      rw [bindI_ev, wrS (n := s.len) (by omega) (by omega)]
      refine hQ _ _ ⟨i + 1, rfl, by omega, rfl, fun j hj hfj => ?_⟩ (by dsimp only; omega)
      rcases (show j < i ∨ j = i by omega) with h1 | rfl
      · exact hno j h1 hfj
      · rw [hg] at hfj
        cases hfj
        exact e' rfl
  · obtain ⟨j, hj⟩ := List.getElem?_of_mem hf
    exact (hno j (by have := idx_lt hj; omega) hj).elim

/-! ### deeds -/
abbrev Dd := Int × Int × Int × Rq × ByteArray × Sl
def dL (d : Dd) : List Value := [iv d.1, iv d.2.1, iv d.2.2.1, iv d.2.2.2.1.1, .int .u8 d.2.2.2.1.2.1, iv d.2.2.2.1.2.2.1, iv d.2.2.2.1.2.2.2.1, .string d.2.2.2.1.2.2.2.2.1, iv d.2.2.2.1.2.2.2.2.2.1, .string d.2.2.2.2.1, slV d.2.2.2.2.2]
theorem dL_len (d : Dd) : (dL d).length = 11 := rfl
/-- a server, and a row of the law's own beside it -/
structure Gn (h0 : Heap) (sb : Nat) (ps : Sl) (n : Nat) (vs : List Value) (T : Nat → Option Nat) (S : Srv) (hh : Heap) : Prop where
  srv : Server hh T sb S
  own : Own hh h0.size ps n vs
  sep : ∀ k, ps.blk = some k → T k = none
  ext : Ext h0 hh
  low : ∀ k, T k ≠ none → sz h0 ≤ k
theorem Gn.step {h0 hh hh' : Heap} {sb n : Nat} {ps : Sl} {vs : List Value} {T T' : Nat → Option Nat} {S S' : Srv} (hG : Gn h0 sb ps n vs T S hh) (hS : Server hh' T' sb S') (st : Stp T T' hh hh') : Gn h0 sb ps n vs T' S' hh' := by
  refine ⟨hS, hG.own.congr fun b hb hlt _ => st.upd.old b hlt fun e => e (hG.sep b hb), fun k hk => st_no hG.srv st (hG.sep k hk) (hG.own.lt hk).2, hG.ext.then st.upd hG.low, fun k hk => ?_⟩
  rcases st.new k hk with h1 | h1
  · exact hG.low k h1
  · exact Nat.le_trans hG.ext.size h1
theorem Gn.more {h0 hh hh' : Heap} {sb n : Nat} {ps : Sl} {vs : List Value} {T : Nat → Option Nat} {S : Srv} (hG : Gn h0 sb ps n vs T S hh) (he : Ext hh hh') : Gn h0 sb ps n vs T S hh' :=
  ⟨sv_ext hG.srv he, hG.own.congr fun b _ hlt _ => he.old b hlt, hG.sep, hG.ext.trans he, hG.low⟩
end Go.Proofs.Ytledmkhbaacdnaa
