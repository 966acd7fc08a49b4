/- The token server: Load. -/
import Derived.Test.YtledmkhbaacdnaaTkR
namespace Go.Proofs.Ytledmkhbaacdnaa
open Go Go.Fw
set_option linter.unusedSimpArgs false
set_option linter.unusedVariables false

theorem SrvR.no {h : Heap} {T : Nat → Option Nat} {sb cb nb : Nat} {sp so : Sl} {ls : List Sp3} {S : Srv} (hR : SrvR h T sb cb nb sp so ls S) {k : Nat} (hk : sz h ≤ k) : T k = none := by
  cases hT : T k with
  | none => rfl
  | some t =>
    have := hR.lt k (by rw [hT]; exact fun e => by cases e)
    omega
/-- the namespaces turned -/
theorem SrvR.setP {h h' : Heap} {T T' : Nat → Option Nat} {sb cb nb : Nat} {sp sp' so : Sl} {ls ls' : List Sp3} {S : Srv} (hR : SrvR h T sb cb nb sp so ls S) (hu : Upd (fun k => k = sb ∨ T k = some 1 ∨ T k = none) h h')
    (hc : obj h' sb = some (.cells [iv S.begun, iv S.last, slV sp', .map (some cb), .map (some nb), slV so, iv S.next].toArray 60 (0, 0)))
    (hT : ∀ k t, T k = some t → T' k = some t) (hlt : ∀ k, T' k ≠ none → k < sz h') (hs : SpR h' T' sp' ls') : SrvR h' T' sb cb nb sp' so ls' { S with spaces := ls'.map (fun x => (x.1, x.2.2)) } := by
  have q : ∀ k t, T k = some t → t ≠ 0 → t ≠ 1 → h'[k]? = h[k]? := fun k t hk h0 h4 => hu.old k (hR.lt k (by rw [hk]; exact fun e => by cases e)) fun e => by
    rcases e with e | e | e
    · subst e
      rw [hR.tsb] at hk
      cases hk
      exact h0 rfl
    · rw [hk] at e
      cases e
      exact h4 rfl
    · rw [hk] at e
      cases e
  exact ⟨hc, hs, rfl, hR.counts.congr hT (q cb _ hR.tcb (by decide) (by decide)) (fun k t hk h6 => q k t hk (by omega) (by omega)), hR.conns.congr (q nb _ hR.tnb (by decide) (by decide)),
    hR.out.congr fun b hb _ _ => q b _ (hR.tso b hb) (by decide) (by decide), hT _ _ hR.tsb, hT _ _ hR.tcb, hT _ _ hR.tnb, fun k hk => hT _ _ (hR.tso k hk), hlt⟩
/-- a counter put -/
theorem SrvR.putC {h h' : Heap} {T T' : Nat → Option Nat} {sb cb nb : Nat} {sp so : Sl} {ls : List Sp3} {S : Srv} (hR : SrvR h T sb cb nb sp so ls S) {id : Int} {c : Cnt} (hid : 1 ≤ id) (hu : Upd (fun k => k = cb) h h')
    (hT : ∀ k t, T k = some t → T' k = some t) (hlt : ∀ k, T' k ≠ none → k < sz h') {f : Int → Option Value} {n : Nat} {v : Value} (hm : MapV h' cb (upd f id (some (.agg #[v, iv c.kind]))) n) (h1 : ∀ id, S.counts id = none → f id = none) (h2 : ∀ id c, S.counts id = some c → 1 ≤ id ∧ ∃ v, f id = some (.agg #[v, iv c.kind]) ∧ CntR h T id v c)
    (hc : CntR h' T' id v c) : SrvR h' T' sb cb nb sp so ls { S with counts := fun i => if i = id then some c else S.counts i, nc := n } := by
  have q : ∀ k t, T k = some t → t ≠ 2 → h'[k]? = h[k]? := fun k t hk h0 => hu.old k (hR.lt k (by rw [hk]; exact fun e => by cases e)) fun e => by
    subst e
    rw [hR.tcb] at hk
    cases hk
    exact h0 rfl
  refine ⟨(q sb 0 hR.tsb (by decide)).trans hR.cells, hR.spaces.congr hT (fun k hk => hk.elim (fun h => q k _ h (by decide)) (fun h => q k _ h (by decide))), hR.names, ⟨_, hm, fun i hi => ?_, fun i d hi => ?_⟩, hR.conns.congr (q nb _ hR.tnb (by decide)),
    hR.out.congr fun b hb _ _ => q b _ (hR.tso b hb) (by decide), hT _ _ hR.tsb, hT _ _ hR.tcb, hT _ _ hR.tnb, fun k hk => hT _ _ (hR.tso k hk), hlt⟩
  · dsimp only at hi
    unfold upd
    split at hi
    · cases hi
    · rename_i hne
      rw [if_neg hne]
      exact h1 i hi
  · dsimp only at hi
    unfold upd
    split at hi
    · rename_i hii
      subst hii
      cases hi
      exact ⟨hid, v, if_pos rfl, hc⟩
    · rename_i hii
      obtain ⟨hi1, w, hw, hr⟩ := h2 i d hi
      exact ⟨hi1, w, (if_neg hii).trans hw, hr.congr hT fun k j hj hk => q k _ hk (by unfold tg; omega)⟩

def Srv.fresh1 (S : Srv) (f : F4) : Srv := match S.counts f.1 with
  | none => { S with counts := fun i => if i = f.1 then some (freshC f) else S.counts i, nc := S.nc + 1 }
  | some c => if c.kind ≠ f.2.2.1 then { S with counts := fun i => if i = f.1 then some (freshC f) else S.counts i } else S
def Srv.freshL (S : Srv) (l : List F4) : Srv := l.foldl Srv.fresh1 S
def Srv.loaded (S : Srv) (name : ByteArray) (fl : List F4) : Srv := { S with spaces := S.spaces ++ [(name, fl)] }.freshL fl
def LoadOK (S : Srv) (name : ByteArray) (fl : List F4) : Prop := nameB name = true ∧ (fl.any fun f => !rightF f) = false ∧ NoTwice S.spaces name fl ∧ fullV S name fl = false
theorem fresh1_none {S : Srv} {f : F4} (h : S.counts f.1 = none) : S.fresh1 f = { S with counts := fun i => if i = f.1 then some (freshC f) else S.counts i, nc := S.nc + 1 } := by unfold Srv.fresh1; rw [h]
theorem fresh1_turn {S : Srv} {f : F4} {c : Cnt} (h : S.counts f.1 = some c) (hc : c.kind ≠ f.2.2.1) : S.fresh1 f = { S with counts := fun i => if i = f.1 then some (freshC f) else S.counts i } := by unfold Srv.fresh1; rw [h]; exact if_pos hc
theorem fresh1_same {S : Srv} {f : F4} {c : Cnt} (h : S.counts f.1 = some c) (hc : ¬ c.kind ≠ f.2.2.1) : S.fresh1 f = S := by unfold Srv.fresh1; rw [h]; exact if_neg hc

theorem freshC_kind {f : F4} (h : rightF f = true) : (freshC f).kind = f.2.2.1 := by
  unfold rightF at h
  rw [Bool.and_eq_true, Bool.and_eq_true, Bool.and_eq_true] at h
  have := inB_spec h.2.2.1
  unfold freshC
  split
  · rename_i e; exact e.symm
  · split
    · rename_i e; exact e.symm
    · show (3 : Int) = _; omega
theorem right_id {f : F4} (h : rightF f = true) : 1 ≤ f.1 := by
  unfold rightF at h
  rw [Bool.and_eq_true] at h
  exact (inB_spec h.1).1

theorem flowClone_spec {h : Heap} {s : Sl} {l : List F4} (hr : Row h s 4 (l.flatMap f4L)) (hl : l.length ≤ 1099511627776) {K : Sl → Heap → Prop}
    (hk : ∀ t h', Own h' h.size t 4 (l.flatMap f4L) → Ext h h' → K t h') : m_slices_Clone_token_Flow_token_Flow_ s K h := by
  unfold m_slices_Clone_token_Flow_token_Flow_ g_slices_Clone_token_Flow_token_Flow_
  have hlen := rowLen f4L_len hr (by decide)
  exact clone_row (bytes := 32) (zs := [.int .i64 0, .int .i64 0, .int .i64 0, .int .i64 0]) hr (f4L_all l) rfl (by omega) (by omega) fun t h' ho he _ => hk t h' ho he

/-- one flow's counter, put where there is none of its kind -/
theorem fresh_put {h : Heap} {T : Nat → Option Nat} {sb cb nb : Nat} {sp so : Sl} {ls : List Sp3} {S : Srv} (hR : SrvR h T sb cb nb sp so ls S) {f : F4} (hf : rightF f = true) {n : Nat} (hn : n = if (S.counts f.1).isSome then S.nc else S.nc + 1) {K : Heap → Prop} {R : Value → Heap → Prop} (hX : ∀ v h', Ext h h' → oneCell v = true → mapPut (.int .i64) h' (some cb) (iv f.1) (.agg #[v, iv f.2.2.1]) K → R v h')
    (hk : ∀ h' T', SrvR h' T' sb cb nb sp so ls { S with counts := fun i => if i = f.1 then some (freshC f) else S.counts i, nc := n } → Stp T T' h h' → K h') :
    m_token_fresh f R h := by
  refine fresh_spec hR.lt fun v h' T' hc he hT hnew hlt => hX v h' he hc.one ?_
  have hR1 := hR.ext he
  obtain ⟨g, hm, g1, g2⟩ := hR1.counts
  refine hm.put f.1 _ fun h3 hm3 u3 z3 => ?_
  have hcb : T' cb = some 2 := hT _ _ hR.tcb
  have hc3 : CntR h3 T' f.1 v (freshC f) := hc.congr (fun _ _ h => h) fun k j _ hkk => by
    have hkl : k < sz h' := hlt k (by rw [hkk]; exact fun e => by cases e)
    refine u3.old k hkl fun e => ?_
    subst e
    rw [hcb] at hkk
    injection hkk with hkk
    unfold tg at hkk
    omega
  rw [← freshC_kind hf] at hm3
  have hnn : (if (g f.1).isSome then S.nc else S.nc + 1) = n := by
    rw [hn]
    cases hcs : S.counts f.1 with
    | none => rw [g1 _ hcs]; rfl
    | some c => obtain ⟨_, v, hv, _⟩ := g2 _ c hcs; rw [hv]; rfl
  rw [hnn] at hm3
  have z3' : sz h3 = sz h' := z3
  refine hk h3 T' (hR1.putC (right_id hf) u3 hT (fun k hk => by rw [z3']; exact hlt k hk) hm3 g1 g2 hc3) ⟨(he.upd _).trans (u3.mono fun k _ hk => ?_), fun k hk => hnew k hk⟩
  subst hk
  rw [hR.tcb]
  exact fun e => by cases e

/-- the counters of the flows, one behind the other -/
theorem loaded_loop {h : Heap} {T : Nat → Option Nat} {sb cb nb : Nat} {sp so : Sl} {ls : List Sp3} {S : Srv} (hR : SrvR h T sb cb nb sp so ls S) {s : Sl} {fl : List F4} (hr : Row h s 4 (fl.flatMap f4L)) (hsl : ∀ k, s.blk = some k → T k = none) (hf : ∀ f, f ∈ fl → rightF f = true)
    {body : ((Int × Unit) → Heap → Prop) → Nat → Nat → Int → Heap → Prop} {K : Heap → Prop}
    (hb : ∀ (i : Nat) (f : F4) (b o : Nat) (h1 : Heap) (T1 : Nat → Option Nat) (S1 : Srv) (Q : (Int × Unit) → Heap → Prop), fl[i]? = some f → SrvR h1 T1 sb cb nb sp so ls S1 → (∀ j v, (f4L f)[j]? = some v → objCell (o + j) (obj h1 b) = some v) →
      (∀ h2 T2, SrvR h2 T2 sb cb nb sp so ls (S1.fresh1 f) → Stp T1 T2 h1 h2 → Q (IntKind.wrap .i64 ((i : Int) + 1), ()) h2) → body Q b o i h1)
    (hk : ∀ h' T', SrvR h' T' sb cb nb sp so ls (S.freshL fl) → Stp T T' h h' → K h') :
    loopM (σ := Int × Unit) (fun J45 s46 h47 => (fun (s64 : Int) => iteP (decide (s64 < (s.len : Int))) (idxA s.ptr s.len s64 4 fun b48 o49 => body J45 b48 o49 s64 h47) (K h47)) s46.1) (0, ()) h := by
  have hl := rowLen f4L_len hr (by decide)
  have hbig := hr.big
  have hcap := hr.cap
  refine loopQ (fun st hh => ∃ (i : Nat) (T1 : Nat → Option Nat), st = ((i : Int), ()) ∧ i ≤ fl.length ∧ SrvR hh T1 sb cb nb sp so ls (S.freshL (fl.take i)) ∧ Stp T T1 h hh) (fun st _ => (s.len - st.1).toNat) ⟨0, T, rfl, by omega, hR, Stp.refl _ _⟩ ?_
  rintro _ hh ⟨i, T1, rfl, hi, hR1, st1⟩ Q hQ
  dsimp only
  refine iteP_dec (fun q => ?_) fun q => ?_
  · obtain ⟨f, hfi⟩ : ∃ f, fl[i]? = some f := ⟨_, List.getElem?_eq_getElem (by omega)⟩
    have hr1 : Row hh s 4 (fl.flatMap f4L) := hr.congr fun b o hp _ hb => st1.upd.old b hb fun e => e (hsl b (by simp [Sl.blk, hp]))
    obtain ⟨b, o, _, _, hidx, hcell⟩ := elemR f4L_len hr1 hfi (by decide)
    have hwr : IntKind.wrap .i64 ((i : Int) + 1) = ((i + 1 : Nat) : Int) := by rw [wrap64 (by omega) (by omega)]; rfl
    refine hidx rfl (hb i f b o hh T1 _ Q hfi hR1 hcell fun h2 T2 hR2 st2 => hQ _ _ ⟨i + 1, T2, by rw [hwr], by omega, ?_, st1.trans st2⟩ (by rw [hwr]; dsimp only; omega))
    rw [List.take_add_one, hfi]
    unfold Srv.freshL
    rw [List.foldl_append]
    exact hR2
  · rw [List.take_of_length_le (by omega)] at hR1
    exact hk hh T1 hR1 st1
end Go.Proofs.Ytledmkhbaacdnaa
