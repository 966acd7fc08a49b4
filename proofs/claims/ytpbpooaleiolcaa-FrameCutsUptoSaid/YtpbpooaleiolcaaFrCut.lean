/- FrameCuts' law, on its model. -/
import Derived.Test.YtpbpooaleiolcaaFrP
import Derived.Deep.Slices
import Derived.ChangeSlices
namespace Go.Proofs.Ytpbpooaleiolcaa
open Go Go.Fw

/-- small numbers that came in -/
structure Halves (h : Heap) (s : Sl) (zs : List Int) : Prop where
  row : Row h s 1 (zs.map (Value.int .u16))
  each : ∀ n ∈ zs, 0 ≤ n ∧ n ≤ 65535
theorem Halves.len {h : Heap} {s : Sl} {zs : List Int} (hr : Halves h s zs) : s.len = zs.length := by
  have := hr.row.len
  simp at this
  omega
theorem Halves.ext {h h' : Heap} {s : Sl} {zs : List Int} (hr : Halves h s zs) (he : Ext h h') : Halves h' s zs := ⟨hr.row.ext he, hr.each⟩
theorem Halves.idx {h : Heap} {s : Sl} {zs : List Int} (hr : Halves h s zs) {i : Int} {n : Nat} (hi : i = n) {x : Int} (hx : zs[n]? = some x) {K : Int → Prop} (hk : K x) :
    idxA s.ptr s.len i 1 fun b o => ldI h b o .u16 K :=
  Row.idx hr.row hi (v := .int .u16 x) (by simp [hx]) fun _ _ _ hc => ⟨_, hc, hk⟩

theorem IsR.upd {h h' : Heap} {b base : Nat} {st : List UInt8} {br : Bool} {S : Nat → Prop} (hr : IsR h b base st br) (hu : Upd S h h') (hs : ∀ k, S k → k < base ∧ k ≠ b) : IsR h' b base st br := by
  obtain ⟨s, h1, h2, h3, h4⟩ := hr.cells
  refine ⟨s, ?_, ?_, h3, h4⟩
  · rw [hu.old b hr.lt fun hS => (hs b hS).2 rfl]; exact h1
  · refine h2.congr fun k o hp _ hl => hu.old k hl fun hS => ?_
    have := (h3 k (by simp [Sl.blk, hp])).1
    have := (hs k hS).1
    omega
theorem IsR.base0 {h : Heap} {b base : Nat} {st : List UInt8} {br : Bool} (hr : IsR h b base st br) : IsR h b 0 st br := by
  obtain ⟨s, h1, h2, h3, h4⟩ := hr.cells
  exact ⟨s, h1, h2, fun k hk => ⟨Nat.zero_le _, (h3 k hk).2⟩, h4⟩

theorem FrameCuts_true {l cuts : Sl} {ll : List (List UInt8)} {zs : List Int} {h : Heap} {K : Bool → Heap → Prop} (hp : RowsB h l ll) (hz : Halves h cuts zs) (hb : total ll ≤ 1048576) (hzb : zs.length ≤ 1048576) (hk : ∀ h', Ext h h' → K true h') : m_spillwaylaw18_FrameCuts l cuts K h := by
  unfold m_spillwaylaw18_FrameCuts g_spillwaylaw18_FrameCuts
  have hll := hp.len
  have hcnt := total_count ll
  refine live_spec fun h1 hext1 => iteP_false ?_
  refine Frames_spec (hp.ext hext1) hb (fun e h2 he hext2 => bindI_intro ?_) (fun t2 h2 hgood hown hext2 => bindI_intro (iteP_neg rfl ?_))
  · rcases he with rfl | rfl
    · exact iteP_pos rfl (iteP_pos rfl (hk _ (hext1.trans hext2)))
    · exact iteP_pos rfl (iteP_neg rfl (bindB_intro (hk _ (hext1.trans hext2))))
  have hfl := fr_len ll
  have hB2 : Bytes h2 t2 (fr ll) := hown.row
  have htl := hB2.length
  have htc := hB2.cap
  have hcutF := cutA_fr ll hgood
  have hspF := splitA_fr ll hgood
  generalize hF : fr ll = F at *
  refine Split_spec hB2 (by omega) fun o3 h3 ho3 hext3 => bindI_intro (bindI_intro ?_)
  rw [hspF] at ho3 ⊢
  dsimp only at ho3 ⊢
  refine iteP_neg rfl (iteP_neg (by rw [htl]; simp) ?_)
  have hext03 := (hext1.trans hext2).trans hext3
  refine SamePayloads_spec (OwnRows.rowsB ho3) (hp.ext hext03) (by omega) ?_
  rw [decide_eq_true (rfl : ll = ll)]
  refine iteP_false (New_spec fun h4 hr4 hext4 hsz4 => bindI_intro (bindI_intro ?_))
  have hlt2 : h2.size ≤ h3.size := hext3.size
  refine loopM_intro (fun s h' => ∃ (a k : Nat) (ls : List (List UInt8)) (st : List UInt8), s.2.1 = (a : Int) ∧ s.2.2.1 = (k : Int) ∧ a ≤ F.length ∧ k ≤ zs.length + 1 ∧ (k = zs.length + 1 → a = F.length) ∧ Ext h3 h' ∧ h3.size < h'.size ∧
      IsR h' h3.size 0 st false ∧ RowsO h' h4.size s.1 ls ∧ cutA (F.take a) = (ls, false, st)) (fun s _ => zs.length + 2 - s.2.2.1.toNat)
    ⟨0, 0, [], [], rfl, rfl, Nat.zero_le _, Nat.zero_le _, fun h => by omega, hext4, by omega, hr4 0, RowsO.nil _ _, cutA_short (by simp)⟩ ?_
  rintro ⟨out, ai, ki, u⟩ h' ⟨a, k, ls, st, ha, hki, hal, hkl, hkz, hext, hsz, hr, hrows, hcut⟩
  dsimp only at ha hki hrows
  subst ha hki
  dsimp only
  have hext0 := hext03.trans hext
  refine iteP_dec (fun hlt => bindI_intro ?_) (fun hge => ?_)
  · rw [wrap64 (n := (t2.len : Int) - (a : Int)) (by omega) (by omega)]
    have hzl := (hz.ext hext0).len
    refine cutP_intro (fun s h'' => h'' = h' ∧ ∃ p : Nat, s.1 = (p : Int) ∧ a + p ≤ F.length ∧ (k = zs.length → a + p = F.length)) ?_ ?_
    · rintro ⟨pi, u2⟩ h'' ⟨rfl, p, hpi, hap, hpz⟩
      dsimp only at hpi
      subst hpi
      dsimp only
      rw [wrap64 (n := (a : Int) + (p : Int)) (by omega) (by omega)]
      have hB : Bytes h'' t2 F := hB2.ext (hext3.trans hext)
      refine Row.slc hB (a := a) (b := a + p) (m := t2.cap) rfl (by omega) rfl (by omega) (by omega) (by omega) (Nat.le_refl _) ?_
      intro s hs _ _ _
      have hs' : Bytes h'' s ((F.drop a).take p) := by
        have e : ((F.map bv).drop a).take (a + p - a) = ((F.drop a).take p).map bv := by rw [List.map_take, List.map_drop]; congr 1; omega
        rw [e] at hs; exact hs
      have htake : F.take a ++ (F.drop a).take p = F.take (a + p) := by rw [List.take_add]
      have two := cutA_two _ (F.take a) ((F.drop a).take p) (Nat.le_refl _)
      rw [hcut, htake] at two
      have two2 := two.2 rfl
      have whole := (cutA_two _ (F.take (a + p)) (F.drop (a + p)) (Nat.le_refl _)).1
      rw [List.take_append_drop, hcutF] at whole
      have inv1 := cutA_inv _ (F.take a) (Nat.le_refl _)
      rw [hcut] at inv1
      have inv2 := (cutA_inv _ (F.take (a + p)) (Nat.le_refl _)).2.2.2
      have hstl : st.length ≤ 4099 := inv1.2.1
      dsimp only at two2
      refine Put_spec hr hs' (by simp; omega) fun t h5 ht hr5 hu5 => bindI_intro ?_
      have eput : putS st false ((F.drop a).take p) = cutA (st ++ (F.drop a).take p) := rfl
      rw [eput] at ht hr5 ⊢
      rw [two2] at whole inv2
      generalize cutA (st ++ (F.drop a).take p) = c at *
      obtain ⟨mm, br, st'⟩ := c
      dsimp only at *
      have hbr : br = false := by
        cases br with
        | false => rfl
        | true => exact absurd (whole rfl) (by simp)
      subst hbr
      refine iteP_neg rfl ?_
      have hr5' := hr5 h''.size (.inl (Nat.le_refl _))
      have hrows5 := hrows.upd hu5 fun k hk => by omega
      have hs45 := hu5.size
      have hs4 : h4.size ≤ h''.size := by omega
      simp only [List.length_append, List.length_take] at inv2
      refine RowsO.app hrows5 ht hs4 hs45 (fun k hk => (hrows.blk hk).2) (by omega) fun out' h6 hrows6 hu6 => bindI_intro (bindI_intro ?_)
      have hb6 := fun k (hk : out.blk = some k) => hrows.blk hk
      refine ⟨⟨a + p, k + 1, ls ++ mm, st', ?_, ?_, hap, by have := hkz; omega, fun h => hpz (by omega), ?_, ?_, ?_, hrows6, two2⟩, ?_⟩
      · omega
      · rw [wrap64 (by omega) (by omega)]
        omega
      · refine (hext.then hu5 fun k hk => by omega).then hu6 fun k hk => ?_
        have := (hb6 k hk).1
        omega
      · have := hu6.size
        omega
      · refine (hr5'.upd hu6 fun k hk => ?_).base0
        have := hb6 k hk
        omega
      · rw [wrap64 (by omega) (by omega)]
        omega
    · have hkk : k ≤ zs.length := by
        rcases Nat.lt_or_ge zs.length k with h9 | h9
        · have := hkz (by omega); omega
        · exact h9
      have full : ∀ h9 : k = k, (fun (s : Int × Unit) (h'' : Heap) => h'' = h' ∧ ∃ p : Nat, s.1 = (p : Int) ∧ a + p ≤ F.length ∧ (k = zs.length → a + p = F.length)) ((t2.len : Int) - (a : Int), ()) h' :=
        fun _ => ⟨rfl, F.length - a, by dsimp only; omega, by omega, fun _ => by omega⟩
      refine iteP_dec (fun hki => ?_) (fun hki => full rfl)
      have hk1 : k < zs.length := by omega
      have hx : zs[k]? = some zs[k] := List.getElem?_eq_getElem hk1
      have hxr := hz.each _ (List.getElem_mem hk1)
      refine Halves.idx (hz.ext hext0) rfl hx ?_
      rw [wrap64 (n := zs[k]) (by omega) (by omega)]
      refine iteP_dec (fun hxl => ?_) (fun hxl => full rfl)
      refine Halves.idx (hz.ext hext0) rfl hx (bindI_intro ?_)
      rw [wrap64 (n := zs[k]) (by omega) (by omega)]
      exact ⟨rfl, zs[k].toNat, by dsimp only; omega, by omega, fun h => by omega⟩
  · have hae : a = F.length := by omega
    subst hae
    rw [List.take_of_length_le (Nat.le_refl _), hcutF] at hcut
    cases hcut
    refine SamePayloads_spec hrows.rowsB (hp.ext hext0) (by omega) ?_
    rw [decide_eq_true (rfl : ll = ll)]
    refine iteP_true (Left_spec hr (iteP_pos rfl ?_))
    refine Missing_spec hr (by simp) (bindB_intro ?_)
    exact hk _ hext0

open Go.ChangeShapes Go.WideShapes in
theorem arg_halves {H : Type} {enc : TypeId × Value → H} {P : Program} {w : World} {base : Nat} {spare : Nat → Bool} {held : Bool} {t e : TypeId} {fuel : Nat} {a : Option Addr} {len cap : Nat} {x : DataW H × List MemPlace} (ht : P.underlying t = some (.slice e)) (he : P.underlying e = some (.int .u16)) (hc : P.cellsOf e = 1)
    (h : DataW.trod enc P w base spare held fuel t [.slice a len cap] = some x) : ∃ zs, Halves w.heap ⟨a, len, cap⟩ zs ∧ zs.length + 1 ≤ Rows.uptoBulk x.1 := by
  rcases open_ints ht he hc h with ⟨hcs, rfl⟩ | ⟨a', len', cap', zs, hcs, _, hl, hm, hz, rfl, hcell, hwf⟩
  · simp at hcs
    obtain ⟨rfl, rfl, rfl⟩ := hcs
    exact ⟨[], ⟨Row.nil _ 1, by simp⟩, by simp [Rows.uptoBulk]⟩
  · simp at hcs
    obtain ⟨rfl, rfl, rfl⟩ := hcs
    have hlen : len ≤ zs.length := by rw [hz]; split <;> omega
    have hbig : cap < 9223372036854775808 := maxLen_lt hm
    refine ⟨zs.take len, ⟨⟨by simp; omega, hl, hbig, ?_⟩, fun n hn => ?_⟩, ?_⟩
    · rcases Nat.eq_zero_or_pos len with h0 | h0
      · exact .inl h0
      · right
        have hc0 := hcell 0 (by omega)
        have hsp : a' = ⟨a'.block, a'.off, none⟩ := by
          have e0 : a'.add 0 = a' := rfl
          rw [e0] at hc0
          exact spot_none hc0
        refine ⟨a'.block, a'.off, by rw [← hsp], has_of fun i v hv => ?_⟩
        simp only [List.getElem?_map, Option.map_eq_some_iff] at hv
        obtain ⟨n, hn, rfl⟩ := hv
        rw [List.getElem?_take] at hn
        split at hn
        · have hi : i < zs.length := by omega
          have := hcell i hi
          rw [hsp, add_none, cell_eq] at this
          rw [this, List.getD, hn]
          rfl
        · cases hn
    · simpa [Lit.wf, IntKind.min, IntKind.max, IntKind.signed, IntKind.bits] using hwf n (List.mem_of_mem_take hn)
    · simp only [Rows.uptoBulk]
      have h1 := bulk_length (H := H) (lits .u16 (zs.take len))
      have h2 : (lits (H := H) .u16 (zs.take len)).length = (zs.take len).length := by simp [lits]
      omega

end Go.Proofs.Ytpbpooaleiolcaa
