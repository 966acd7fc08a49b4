/- The token server: in plain words, and in memory. -/
import Derived.Test.YtledmkhbaacdnaaTkSa
namespace Go.Proofs.Ytledmkhbaacdnaa
open Go Go.Fw
set_option linter.unusedSimpArgs false
set_option linter.unusedVariables false

abbrev F4 := Int × Int × Int × Int × Unit
def f4L (f : F4) : List Value := [iv f.1, iv f.2.1, iv f.2.2.1, iv f.2.2.2.1]
theorem f4L_len (f : F4) : (f4L f).length = 4 := rfl
theorem f4L_all (l : List F4) : (l.flatMap f4L).all oneCell = true := by
  rw [List.all_eq_true]
  intro v hv
  obtain ⟨t, _, hv⟩ := List.mem_flatMap.1 hv
  simp only [f4L, List.mem_cons, List.not_mem_nil, or_false] at hv
  rcases hv with rfl | rfl | rfl | rfl <;> exact one_int
def zF : F4 := (0, 0, 0, 0, ())

inductive Cnt where
  | rate (w : Win)
  | value (s : Sk)
  | leased
def Cnt.kind : Cnt → Int
  | .rate _ => 1
  | .value _ => 2
  | .leased => 3

structure Srv where
  begun : Int
  last : Int
  spaces : List (ByteArray × List F4)
  counts : Int → Option Cnt
  nc : Nat
  conns : Int → Option ByteArray
  nn : Nat
  out : List F4
  next : Int

/-! ### in memory, by tags: 0 the server, 1 its spaces, 2 the counts' map, 3 the connections', 4 what is out, 5 flows, 6 + 4 id + j a counter's -/
abbrev Sp3 := ByteArray × Sl × List F4
def spL (x : Sp3) : List Value := [.string x.1, slV x.2.1]
theorem spL_len (x : Sp3) : (spL x).length = 2 := rfl
structure SpR (h : Heap) (T : Nat → Option Nat) (sp : Sl) (ls : List Sp3) : Prop where
  own : Own h 0 sp 2 (ls.flatMap spL)
  tag : ∀ k, sp.blk = some k → T k = some 1
  rows : ∀ x, x ∈ ls → Row h x.2.1 4 (x.2.2.flatMap f4L) ∧ ∀ k, x.2.1.blk = some k → T k = some 5
def CntR (h : Heap) (T : Nat → Option Nat) (id : Int) (v : Value) : Cnt → Prop
  | .rate w => ∃ wb mb, v = .iface 88 (.agg #[.pointer (some ⟨wb, 0, none⟩)]) ∧ WinR h wb mb w ∧ T wb = some (tg id 0) ∧ T mb = some (tg id 1)
  | .value s => ∃ wb sl lb, v = .iface 94 (.agg #[.pointer (some ⟨wb, 0, none⟩)]) ∧ SkR h T id wb sl lb s
  | .leased => v = .iface 96 (.agg #[])
def CntsR (h : Heap) (T : Nat → Option Nat) (cb : Nat) (cs : Int → Option Cnt) (nc : Nat) : Prop :=
  ∃ f, MapV h cb f nc ∧ (∀ id, cs id = none → f id = none) ∧ ∀ id c, cs id = some c → 1 ≤ id ∧ ∃ v, f id = some (.agg #[v, iv c.kind]) ∧ CntR h T id v c
structure SrvR (h : Heap) (T : Nat → Option Nat) (sb cb nb : Nat) (sp so : Sl) (ls : List Sp3) (S : Srv) : Prop where
  cells : obj h sb = some (.cells [iv S.begun, iv S.last, slV sp, .map (some cb), .map (some nb), slV so, iv S.next].toArray 60 (0, 0))
  spaces : SpR h T sp ls
  names : ls.map (fun x => (x.1, x.2.2)) = S.spaces
  counts : CntsR h T cb S.counts S.nc
  conns : MapV h nb (fun i => (S.conns i).map .string) S.nn
  out : Own h 0 so 4 (S.out.flatMap f4L)
  tsb : T sb = some 0
  tcb : T cb = some 2
  tnb : T nb = some 3
  tso : ∀ k, so.blk = some k → T k = some 4
  lt : ∀ k, T k ≠ none → k < sz h
def Server (h : Heap) (T : Nat → Option Nat) (sb : Nat) (S : Srv) : Prop := ∃ cb nb sp so ls, SrvR h T sb cb nb sp so ls S

theorem SpR.congr {h h' : Heap} {T T' : Nat → Option Nat} {sp : Sl} {ls : List Sp3} (hs : SpR h T sp ls) (hT : ∀ k t, T k = some t → T' k = some t) (he : ∀ k, T k = some 1 ∨ T k = some 5 → h'[k]? = h[k]?) : SpR h' T' sp ls :=
  ⟨hs.own.congr fun b hb _ _ => he b (.inl (hs.tag b hb)), fun k hk => hT _ _ (hs.tag k hk), fun x hx => ⟨(hs.rows x hx).1.congr fun b o hp _ _ => he b (.inr ((hs.rows x hx).2 b (by simp [Sl.blk, hp]))), fun k hk => hT _ _ ((hs.rows x hx).2 k hk)⟩⟩
theorem CntR.congr {h h' : Heap} {T T' : Nat → Option Nat} {id : Int} {v : Value} {c : Cnt} (hc : CntR h T id v c) (hT : ∀ k t, T k = some t → T' k = some t) (he : ∀ k j, j < 4 → T k = some (tg id j) → h'[k]? = h[k]?) : CntR h' T' id v c := by
  cases c with
  | rate w =>
    obtain ⟨wb, mb, hv, hw, t1, t2⟩ := hc
    exact ⟨wb, mb, hv, hw.congr (he wb 0 (by decide) t1) (he mb 1 (by decide) t2), hT _ _ t1, hT _ _ t2⟩
  | value s =>
    obtain ⟨wb, sl, lb, hv, hs⟩ := hc
    exact ⟨wb, sl, lb, hv, hs.congr hT he⟩
  | leased => exact hc
theorem CntsR.congr {h h' : Heap} {T T' : Nat → Option Nat} {cb : Nat} {cs : Int → Option Cnt} {nc : Nat} (hc : CntsR h T cb cs nc) (hT : ∀ k t, T k = some t → T' k = some t) (hcb : h'[cb]? = h[cb]?) (he : ∀ k t, T k = some t → 6 ≤ t → h'[k]? = h[k]?) : CntsR h' T' cb cs nc := by
  obtain ⟨f, hm, h1, h2⟩ := hc
  refine ⟨f, hm.congr hcb, h1, fun id c hid => ?_⟩
  obtain ⟨hi, v, hv, hr⟩ := h2 id c hid
  exact ⟨hi, v, hv, hr.congr hT fun k j _ hk => he k _ hk (by unfold tg; omega)⟩
theorem SrvR.congr {h h' : Heap} {T : Nat → Option Nat} {sb cb nb : Nat} {sp so : Sl} {ls : List Sp3} {S : Srv} (hR : SrvR h T sb cb nb sp so ls S) (hz : sz h ≤ sz h') (he : ∀ k, T k ≠ none → h'[k]? = h[k]?) : SrvR h' T sb cb nb sp so ls S := by
  have q : ∀ k t, T k = some t → h'[k]? = h[k]? := fun k t hk => he k (by rw [hk]; exact fun e => by cases e)
  exact ⟨(q sb 0 hR.tsb).trans hR.cells, hR.spaces.congr (fun _ _ h => h) (fun k hk => hk.elim (q k _) (q k _)), hR.names, hR.counts.congr (fun _ _ h => h) (q cb _ hR.tcb) (fun k t hk _ => q k t hk), hR.conns.congr (q nb _ hR.tnb),
    hR.out.congr fun b hb _ _ => q b _ (hR.tso b hb), hR.tsb, hR.tcb, hR.tnb, hR.tso, fun k hk => Nat.lt_of_lt_of_le (hR.lt k hk) hz⟩
theorem SrvR.ext {h h' : Heap} {T : Nat → Option Nat} {sb cb nb : Nat} {sp so : Sl} {ls : List Sp3} {S : Srv} (hR : SrvR h T sb cb nb sp so ls S) (he : Ext h h') : SrvR h' T sb cb nb sp so ls S :=
  hR.congr he.size fun k hk => he.old k (hR.lt k hk)
/-- the server's own block turned -/
theorem SrvR.setB {h h' : Heap} {T : Nat → Option Nat} {sb cb nb : Nat} {sp so : Sl} {ls : List Sp3} {S : Srv} (hR : SrvR h T sb cb nb sp so ls S) {b l n : Int} (hu : Upd (· = sb) h h')
    (hc : obj h' sb = some (.cells [iv b, iv l, slV sp, .map (some cb), .map (some nb), slV so, iv n].toArray 60 (0, 0))) : SrvR h' T sb cb nb sp so ls { S with begun := b, last := l, next := n } := by
  have q : ∀ k t, T k = some t → t ≠ 0 → h'[k]? = h[k]? := fun k t hk h0 => hu.old k (hR.lt k (by rw [hk]; exact fun e => by cases e)) fun e => by
    subst e
    rw [hR.tsb] at hk
    cases hk
    exact h0 rfl
  exact ⟨hc, hR.spaces.congr (fun _ _ h => h) (fun k hk => hk.elim (fun h => q k _ h (by decide)) (fun h => q k _ h (by decide))), hR.names, hR.counts.congr (fun _ _ h => h) (q cb _ hR.tcb (by decide)) (fun k t hk h6 => q k t hk (by omega)), hR.conns.congr (q nb _ hR.tnb (by decide)),
    hR.out.congr fun b hb _ _ => q b _ (hR.tso b hb) (by decide), hR.tsb, hR.tcb, hR.tnb, hR.tso, fun k hk => Nat.lt_of_lt_of_le (hR.lt k hk) hu.size⟩
/-- the connections turned -/
theorem SrvR.setN {h h' : Heap} {T : Nat → Option Nat} {sb cb nb : Nat} {sp so : Sl} {ls : List Sp3} {S : Srv} (hR : SrvR h T sb cb nb sp so ls S) {cs : Int → Option ByteArray} {n : Nat} (hu : Upd (· = nb) h h')
    (hc : MapV h' nb (fun i => (cs i).map .string) n) : SrvR h' T sb cb nb sp so ls { S with conns := cs, nn := n } := by
  have q : ∀ k t, T k = some t → t ≠ 3 → h'[k]? = h[k]? := fun k t hk h0 => hu.old k (hR.lt k (by rw [hk]; exact fun e => by cases e)) fun e => by
    subst e
    rw [hR.tnb] at hk
    cases hk
    exact h0 rfl
  exact ⟨(q sb 0 hR.tsb (by decide)).trans hR.cells, hR.spaces.congr (fun _ _ h => h) (fun k hk => hk.elim (fun h => q k _ h (by decide)) (fun h => q k _ h (by decide))), hR.names, hR.counts.congr (fun _ _ h => h) (q cb _ hR.tcb (by decide)) (fun k t hk h6 => q k t hk (by omega)), hc,
    hR.out.congr fun b hb _ _ => q b _ (hR.tso b hb) (by decide), hR.tsb, hR.tcb, hR.tnb, hR.tso, fun k hk => Nat.lt_of_lt_of_le (hR.lt k hk) hu.size⟩
/-- what is out turned: the server's block leads to another row -/
theorem SrvR.setO {h h' : Heap} {T : Nat → Option Nat} {sb cb nb : Nat} {sp so so' : Sl} {ls : List Sp3} {S : Srv} (hR : SrvR h T sb cb nb sp so ls S) {n : Int} {o : List F4} (hu : Upd (fun k => k = sb ∨ T k = some 4 ∨ T k = none) h h')
    (hc : obj h' sb = some (.cells [iv S.begun, iv S.last, slV sp, .map (some cb), .map (some nb), slV so', iv n].toArray 60 (0, 0))) (ho : Own h' 0 so' 4 (o.flatMap f4L))
    (hn : ∀ k, so'.blk = some k → T k = some 4 ∨ T k = none) : SrvR h' (fun k => if so'.blk = some k then some 4 else T k) sb cb nb sp so' ls { S with out := o, next := n } := by
  have hT : ∀ k t, T k = some t → (fun k => if so'.blk = some k then some 4 else T k) k = some t := fun k t hk => by
    dsimp only
    split
    · rename_i hb
      rcases hn k hb with e | e
      · rw [← hk, e]
      · rw [e] at hk; cases hk
    · exact hk
  have q : ∀ k t, T k = some t → t ≠ 0 → t ≠ 4 → h'[k]? = h[k]? := fun k t hk h0 h4 => hu.old k (hR.lt k (by rw [hk]; exact fun e => by cases e)) fun e => by
    rcases e with e | e
    · subst e
      rw [hR.tsb] at hk
      cases hk
      exact h0 rfl
    · rw [hk] at e
      rcases e with e | e
      · cases e
        exact h4 rfl
      · cases e
  refine ⟨hc, hR.spaces.congr hT (fun k hk => hk.elim (fun h => q k _ h (by decide) (by decide)) (fun h => q k _ h (by decide) (by decide))), hR.names, hR.counts.congr hT (q cb _ hR.tcb (by decide) (by decide)) (fun k t hk h6 => q k t hk (by omega) (by omega)), hR.conns.congr (q nb _ hR.tnb (by decide) (by decide)),
    ho, hT _ _ hR.tsb, hT _ _ hR.tcb, hT _ _ hR.tnb, fun k hk => if_pos hk, fun k hk => ?_⟩
  split at hk
  · rename_i hb
    exact (ho.lt hb).2
  · exact Nat.lt_of_lt_of_le (hR.lt k hk) hu.size
/-- one counter turned -/
theorem SrvR.setC {h h' : Heap} {T T' : Nat → Option Nat} {sb cb nb : Nat} {sp so : Sl} {ls : List Sp3} {S : Srv} (hR : SrvR h T sb cb nb sp so ls S) {id : Int} {c : Cnt} (hid : 1 ≤ id) (hu : Upd (fun k => ∃ j, j < 4 ∧ T k = some (tg id j)) h h')
    (hT : ∀ k t, T k = some t → T' k = some t) (hlt : ∀ k, T' k ≠ none → k < sz h') {f : Int → Option Value} (hm : MapV h cb f S.nc) (h1 : ∀ id, S.counts id = none → f id = none) (h2 : ∀ id c, S.counts id = some c → 1 ≤ id ∧ ∃ v, f id = some (.agg #[v, iv c.kind]) ∧ CntR h T id v c)
    {v : Value} (hf : f id = some (.agg #[v, iv c.kind])) (hc : CntR h' T' id v c) : SrvR h' T' sb cb nb sp so ls { S with counts := fun i => if i = id then some c else S.counts i } := by
  have q : ∀ k t, T k = some t → t < 6 → h'[k]? = h[k]? := fun k t hk h0 => hu.old k (hR.lt k (by rw [hk]; exact fun e => by cases e)) fun ⟨j, _, e⟩ => by
    rw [hk] at e
    cases e
    unfold tg at h0
    omega
  refine ⟨(q sb 0 hR.tsb (by decide)).trans hR.cells, hR.spaces.congr hT (fun k hk => hk.elim (fun h => q k _ h (by decide)) (fun h => q k _ h (by decide))), hR.names, ⟨f, hm.congr (q cb _ hR.tcb (by decide)), fun i hi => ?_, fun i d hi => ?_⟩, hR.conns.congr (q nb _ hR.tnb (by decide)),
    hR.out.congr fun b hb _ _ => q b _ (hR.tso b hb) (by decide), hT _ _ hR.tsb, hT _ _ hR.tcb, hT _ _ hR.tnb, fun k hk => hT _ _ (hR.tso k hk), hlt⟩
  · dsimp only at hi
    split at hi
    · cases hi
    · exact h1 i hi
  · dsimp only at hi
    split at hi
    · rename_i hii
      subst hii
      cases hi
      exact ⟨hid, v, hf, hc⟩
    · rename_i hii
      obtain ⟨hi1, w, hw, hr⟩ := h2 i d hi
      refine ⟨hi1, w, hw, hr.congr hT fun k j hj hk => hu.old k (hR.lt k (by rw [hk]; exact fun e => by cases e)) fun ⟨j', hj', e⟩ => ?_⟩
      rw [hk] at e
      injection e with e
      unfold tg at e
      omega
end Go.Proofs.Ytledmkhbaacdnaa
