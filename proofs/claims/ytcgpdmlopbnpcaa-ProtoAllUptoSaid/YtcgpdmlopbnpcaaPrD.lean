/- ReadRequest and ReadAnswer, the reference's. -/
import Derived.Test.YtcgpdmlopbnpcaaPrC
namespace Go.Proofs.Ytcgpdmlopbnpcaa
open Go Go.Fw

theorem numR_b0 {lb : List UInt8} {x : UInt8} (h : lb[0]? = some x) : IntKind.wrap .u8 (numR lb 0 1) = (x.toNat : Int) := by
  cases lb with
  | nil => simp at h
  | cons y l =>
    simp at h
    subst h
    have e : numR (y :: l) 0 1 = numV [y] := by
      unfold numR
      rw [if_pos (by simp)]
      rfl
    have := y.toNat_lt
    have e2 : be [y] = y.toNat := by unfold be; simp
    rw [e]
    unfold numV
    rw [e2, wrap64 (by omega) (by omega)]
    exact wrap8 (by omega) (by omega)

theorem sub_bytes {h : Heap} {b : Sl} {lb : List UInt8} (hb : Bytes h b lb) {a : Nat} (ha : a ≤ lb.length) {lo hi mx : Int} (e1 : lo = (a : Int)) (e2 : hi = (b.len : Int)) (e3 : mx = (b.cap : Int)) {K : Sl → Prop} (hk : ∀ s', Bytes h s' (lb.drop a) → K s') :
    slc b.ptr b.cap 1 lo hi mx K := by
  have hlen := hb.length
  have hcap := hb.cap
  refine Row.slc hb (a := a) (b := b.len) (m := b.cap) e1 e2 e3 (by omega) (Nat.le_refl _) hcap (Nat.le_refl _) fun s' hs _ _ _ => hk s' ?_
  have e : ((lb.map bv).drop a).take (b.len - a) = (lb.drop a).map bv := by rw [List.map_drop, List.take_of_length_le (by simp; omega)]
  rw [e] at hs
  exact hs

theorem numR_eq {lb : List UInt8} {t : Nat} (h : t + 8 ≤ lb.length) : numV ((lb.drop t).take 8) = numR lb t 8 := by unfold numR; rw [if_pos h]

theorem RReadRequest_spec {b : Sl} {lb : List UInt8} {h : Heap} {K : Rq → Int → Int → Heap → Prop} (hb : Bytes h b lb) (hk : ∀ h', Ext h h' → K (readR lb).1 (readR lb).2.1 (readR lb).2.2 h') : m_spillwayref19_ReadRequest b K h := by
  unfold m_spillwayref19_ReadRequest g_spillwayref19_ReadRequest
  have hlen := hb.length
  have hcap := hb.cap
  have hbig := hb.big
  refine newK fun h2 c1 e2 z2 => bindI_intro (bindI_intro ?_)
  have hb2 := hb.ext e2
  -- what is wrong
  have bad : ∀ (at_ : Int), errR lb = (6, at_) → sts h2 h.size 0 (rqC zR) fun h4 => bindI 6 fun t5 => bindI at_ fun t6 =>
      ldI h4 h.size 0 .i64 fun t7 => ldI h4 h.size (0 + 1) .u8 fun t8 => ldI h4 h.size (0 + 2) .i64 fun t9 => ldI h4 h.size (0 + 3) .i64 fun t10 => ldS h4 h.size (0 + 4) fun t11 => ldI h4 h.size (0 + 5) .i64 fun t12 => K (t7, t8, t9, t10, t11, t12, ()) t5 t6 h4 := fun at_ he => by
    refine stsAll c1 rfl rfl fun h4 c4 u4 _ => bindI_intro (bindI_intro ?_)
    refine ldIk c4 rfl (ldIk c4 rfl (ldIk c4 rfl (ldIk c4 rfl (ldSk c4 rfl (ldIk c4 rfl ?_)))))
    have := hk h4 (e2.then u4 fun k hk => by omega)
    unfold readR at this
    rw [he, if_pos (show (6 : Int) ≠ 0 by decide)] at this
    exact this
  refine iteP_dec (fun h1 => ?_) (fun h1 => ?_)
  · refine bad _ ?_
    unfold errR
    have h3 : lb.length < 34 + tl lb := by omega
    rw [if_pos h3, if_pos h3, hlen]
  have hx : lb[33]? = some lb[33] := List.getElem?_eq_getElem (by omega)
  have htl : tl lb = lb[33].toNat := by
    unfold tl
    rw [if_pos (by omega), List.getD_eq_getElem?_getD, hx]
    rfl
  have hx8 := (lb[33]).toNat_lt
  generalize lb[33] = x at hx htl hx8
  have hw : IntKind.wrap .i64 ((34 : Int) + IntKind.wrap .i64 (x.toNat : Int)) = ((34 + tl lb : Nat) : Int) := by
    rw [wrap64 (n := (x.toNat : Int)) (by omega) (by omega), wrap64 (by omega) (by omega), htl]
    omega
  refine Bytes.idx hb2 rfl hx ?_
  rw [hw]
  refine iteP_dec (fun h3 => ?_) (fun h3 => ?_)
  · refine bad _ ?_
    unfold errR
    have h3 : lb.length < 34 + tl lb := by omega
    rw [if_pos h3, if_pos h3, hlen]
  refine Bytes.idx hb2 rfl hx (bindI_intro ?_)
  rw [hw]
  refine iteP_dec (fun h4 => ?_) (fun h4 => ?_)
  · refine bad _ ?_
    unfold errR
    have h5 : ¬ lb.length < 34 + tl lb := by omega
    have h6 : 34 + tl lb < lb.length := by omega
    rw [if_neg h5, if_pos h6, if_neg h5, if_pos h6]
  have hL : lb.length = 34 + tl lb := by omega
  have hE : errR lb = (if rightB (fieldsR lb) then 0 else 6, 0) := by
    unfold errR
    have h5 : ¬ lb.length < 34 + tl lb := by omega
    have h6 : ¬ 34 + tl lb < lb.length := by omega
    rw [if_neg h5, if_neg h6, if_neg h5, if_neg h6]
  refine cutP_intro (fun p h' => ∃ bq, p.1 = some ⟨bq, 0, none⟩ ∧ h2.size ≤ bq ∧ h'[bq]? = some (.cells (rqC (fieldsR lb)).toArray 26 (0, 0)) ∧ Ext h2 h') ?_ ?_
  · rintro ⟨q, u⟩ h89 ⟨bq, hq0, hbq, hq, e89⟩
    dsimp only at hq0
    subst hq0
    dsimp only
    refine deref_ (ldIk hq rfl (ldIk hq rfl (ldIk hq rfl (ldIk hq rfl (ldSk hq rfl (ldIk hq rfl ?_))))))
    refine RRight_spec (r := fieldsR lb) fun h99 e99 => ?_
    have q99 := keepE hq e99
    have c99 := keepE (keepE c1 e89) e99
    have x99 := (e2.trans e89).trans e99
    refine ⟨fun e => ?_, fun e => ?_⟩
    · have e' : rightB (fieldsR lb) = false := by simpa using e
      refine stsAll c99 rfl rfl fun h4 c4 u4 _ => bindI_intro (bindI_intro ?_)
      refine ldIk c4 rfl (ldIk c4 rfl (ldIk c4 rfl (ldIk c4 rfl (ldSk c4 rfl (ldIk c4 rfl ?_)))))
      have := hk h4 (x99.then u4 fun k hk => by omega)
      unfold readR at this
      rw [hE, e', if_pos (by decide)] at this
      exact this
    · have e' : rightB (fieldsR lb) = true := by simpa using e
      refine deref_ (ldIk q99 rfl (ldIk q99 rfl (ldIk q99 rfl (ldIk q99 rfl (ldSk q99 rfl (ldIk q99 rfl ?_))))))
      refine stsAll c99 rfl rfl fun h4 c4 u4 _ => bindI_intro (bindI_intro ?_)
      refine ldIk c4 rfl (ldIk c4 rfl (ldIk c4 rfl (ldIk c4 rfl (ldSk c4 rfl (ldIk c4 rfl ?_)))))
      have := hk h4 (x99.then u4 fun k hk => by omega)
      unfold readR at this
      rw [hE, e', if_neg (by decide)] at this
      exact this
  · have hx0 : lb[0]? = some lb[0] := List.getElem?_eq_getElem (by omega)
    have hw0 := numR_b0 hx0
    generalize lb[0] = x0 at hx0 hw0
    refine Row.idx hb2 (n := 0) rfl (v := bv x0) (by simp [hx0]) fun b37 o hp37 hc37 => ?_
    refine sub_bytes hb2 (a := 1) (by omega) rfl rfl rfl fun t39 s39 => ?_
    refine sub_bytes hb2 (a := 9) (by omega) rfl rfl rfl fun t40 s40 => ?_
    refine sub_bytes hb2 (a := 17) (by omega) rfl rfl rfl fun t41 s41 => ?_
    refine sub_bytes hb2 (a := 25) (by omega) rfl rfl rfl fun t42 s42 => ?_
    refine sub_bytes hb2 (a := 34) (by omega) rfl rfl rfl fun t43 s43 => ?_
    refine ⟨_, hc37, ?_⟩
    have htext : textR lb = ⟨(lb.drop 34).toArray⟩ := by
      unfold textR
      rw [if_pos (by omega), List.take_of_length_le (by simp; omega)]
    have B : ∀ h', Ext h2 h' → b2s t43 h' fun s => s = textR lb := fun h' he => b2s_bytes (s43.ext he) htext.symm
    have C : ∀ h', Ext h2 h' → heldL h' [(b37, o + 0, Value.int .u8 (x0.toNat : Int))] := fun h' he => ⟨(cell_congr (he.old b37 (cell_lt hc37)) _).trans hc37, trivial⟩
    have N1 : ∀ h', Ext h2 h' → ∀ K' : Int → Heap → Prop, K' (numR lb 1 8) h' → m_spillwayref19_number t39 K' h' := fun h' he K' hK => RNumber_spec (s39.ext he) (by simp; omega) (by rw [numR_eq (by omega)]; exact hK)
    have N2 : ∀ h', Ext h2 h' → ∀ K' : Int → Heap → Prop, K' (numR lb 9 8) h' → m_spillwayref19_number t40 K' h' := fun h' he K' hK => RNumber_spec (s40.ext he) (by simp; omega) (by rw [numR_eq (by omega)]; exact hK)
    have N3 : ∀ h', Ext h2 h' → ∀ K' : Int → Heap → Prop, K' (numR lb 17 8) h' → m_spillwayref19_number t41 K' h' := fun h' he K' hK => RNumber_spec (s41.ext he) (by simp; omega) (by rw [numR_eq (by omega)]; exact hK)
    have N4 : ∀ h', Ext h2 h' → ∀ K' : Int → Heap → Prop, K' (numR lb 25 8) h' → m_spillwayref19_number t42 K' h' := fun h' he K' hK => RNumber_spec (s42.ext he) (by simp; omega) (by rw [numR_eq (by omega)]; exact hK)
    have fin : ∀ (bq : Nat) (cs : Array Value) (h' : Heap), h2.size ≤ bq → cs.size = 6 → h'[bq]? = some (.cells cs 26 (0, 0)) → Ext h2 h' →
        sts h' bq 0 [.int .i64 (numR lb 1 8), .int .u8 (x0.toNat : Int), .int .i64 (numR lb 9 8), .int .i64 (numR lb 17 8), .string (textR lb), .int .i64 (numR lb 25 8)] fun h'' =>
          ∃ bq', (some ⟨bq, 0, none⟩ : Option Addr) = some ⟨bq', 0, none⟩ ∧ h2.size ≤ bq' ∧ h''[bq']? = some (.cells (rqC (fieldsR lb)).toArray 26 (0, 0)) ∧ Ext h2 h'' := fun bq cs h' h1 hcs h2' he =>
      stsAll h2' hcs rfl fun h'' c'' u'' _ => ⟨bq, rfl, h1, by rw [c'']; unfold fieldsR; rw [hw0], he.then u'' fun k hk => by omega⟩
    refine b2s_bytes s43 ?_
    rw [← htext]
    refine ⟨N1 _ (Ext.refl _) _ ⟨B _ (Ext.refl _), C _ (Ext.refl _), ?_⟩, newK fun a0 q0 e0 z0 => ⟨B _ e0, C _ e0, ?_⟩⟩
    · refine ⟨N2 _ (Ext.refl _) _ ⟨B _ (Ext.refl _), C _ (Ext.refl _), ?_⟩, newK fun a0 q0 e0 z0 => ⟨B _ e0, C _ e0, ?_⟩⟩
      · refine ⟨N3 _ (Ext.refl _) _ ⟨B _ (Ext.refl _), C _ (Ext.refl _), ?_⟩, newK fun a0 q0 e0 z0 => ⟨B _ e0, C _ e0, ?_⟩⟩
        · refine ⟨N4 _ (Ext.refl _) _ ⟨B _ (Ext.refl _), C _ (Ext.refl _), ?_⟩, newK fun a0 q0 e0 z0 => ⟨B _ e0, C _ e0, ?_⟩⟩
          · refine newK fun a0 q0 e0 z0 => ⟨B _ e0, C _ e0, ?_⟩
            exact fin _ _ _ (by omega) rfl q0 e0
          · refine N4 _ e0 _ ⟨B _ e0, C _ e0, ?_⟩
            exact fin _ _ _ (by omega) rfl q0 e0
        · refine N3 _ e0 _ ⟨B _ e0, C _ e0, ?_⟩
          refine N4 _ e0 _ ⟨B _ e0, C _ e0, ?_⟩
          exact fin _ _ _ (by omega) rfl q0 e0
      · refine N2 _ e0 _ ⟨B _ e0, C _ e0, ?_⟩
        refine N3 _ e0 _ ⟨B _ e0, C _ e0, ?_⟩
        refine N4 _ e0 _ ⟨B _ e0, C _ e0, ?_⟩
        exact fin _ _ _ (by omega) rfl q0 e0
    · refine N1 _ e0 _ ⟨B _ e0, C _ e0, ?_⟩
      refine N2 _ e0 _ ⟨B _ e0, C _ e0, ?_⟩
      refine N3 _ e0 _ ⟨B _ e0, C _ e0, ?_⟩
      refine N4 _ e0 _ ⟨B _ e0, C _ e0, ?_⟩
      exact fin _ _ _ (by omega) rfl q0 e0

theorem RReadAnswer_spec {b : Sl} {lb : List UInt8} {h : Heap} {K : An → Int → Int → Heap → Prop} (hb : Bytes h b lb) (hk : ∀ h', Ext h h' → K (readA lb).1 (readA lb).2.1 (readA lb).2.2 h') : m_spillwayref19_ReadAnswer b K h := by
  unfold m_spillwayref19_ReadAnswer g_spillwayref19_ReadAnswer
  have hlen := hb.length
  have hcap := hb.cap
  have hbig := hb.big
  refine newK fun h2 c1 e2 z2 => bindI_intro (bindI_intro ?_)
  have hb2 := hb.ext e2
  have bad : ∀ (at_ : Int), errA lb = (6, at_) → sts h2 h.size 0 (anC zA) fun h4 => bindI 6 fun t5 => bindI at_ fun t6 =>
      ldI h4 h.size 0 .i64 fun t7 => ldI h4 h.size (0 + 1) .u8 fun t8 => ldI h4 h.size (0 + 2) .i64 fun t9 => ldI h4 h.size (0 + 3) .i64 fun t10 => ldI h4 h.size (0 + 4) .i64 fun t12 => K (t7, t8, t9, t10, t12, ()) t5 t6 h4 := fun at_ he => by
    refine stsAll c1 rfl rfl fun h4 c4 u4 _ => bindI_intro (bindI_intro ?_)
    refine ldIk c4 rfl (ldIk c4 rfl (ldIk c4 rfl (ldIk c4 rfl (ldIk c4 rfl ?_))))
    have := hk h4 (e2.then u4 fun k hk => by omega)
    unfold readA at this
    rw [he, if_pos (show (6 : Int) ≠ 0 by decide)] at this
    exact this
  refine iteP_dec (fun h1 => ?_) (fun h1 => ?_)
  · refine bad _ ?_
    unfold errA
    have h3 : lb.length < 33 := by omega
    rw [if_pos h3, if_pos h3, hlen]
  refine iteP_dec (fun h4 => ?_) (fun h4 => ?_)
  · refine bad _ ?_
    unfold errA
    have h5 : ¬ lb.length < 33 := by omega
    have h6 : 33 < lb.length := by omega
    rw [if_neg h5, if_pos h6, if_neg h5, if_pos h6]
    rfl
  have hE : errA lb = (if rightA (fieldsA lb) then 0 else 6, 0) := by
    unfold errA
    have h5 : ¬ lb.length < 33 := by omega
    have h6 : ¬ 33 < lb.length := by omega
    rw [if_neg h5, if_neg h6, if_neg h5, if_neg h6]
  refine cutP_intro (fun p h' => ∃ bq, p.1 = some ⟨bq, 0, none⟩ ∧ h2.size ≤ bq ∧ h'[bq]? = some (.cells (anC (fieldsA lb)).toArray 32 (0, 0)) ∧ Ext h2 h') ?_ ?_
  · rintro ⟨q, u⟩ h89 ⟨bq, hq0, hbq, hq, e89⟩
    dsimp only at hq0
    subst hq0
    dsimp only
    refine deref_ (ldIk hq rfl (ldIk hq rfl (ldIk hq rfl (ldIk hq rfl (ldIk hq rfl ?_)))))
    refine RRightA_spec (a := fieldsA lb) fun h99 e99 => ?_
    have q99 := keepE hq e99
    have c99 := keepE (keepE c1 e89) e99
    have x99 := (e2.trans e89).trans e99
    refine ⟨fun e => ?_, fun e => ?_⟩
    · have e' : rightA (fieldsA lb) = false := by simpa using e
      refine stsAll c99 rfl rfl fun h4 c4 u4 _ => bindI_intro (bindI_intro ?_)
      refine ldIk c4 rfl (ldIk c4 rfl (ldIk c4 rfl (ldIk c4 rfl (ldIk c4 rfl ?_))))
      have := hk h4 (x99.then u4 fun k hk => by omega)
      unfold readA at this
      rw [hE, e', if_pos (by decide)] at this
      exact this
    · have e' : rightA (fieldsA lb) = true := by simpa using e
      refine deref_ (ldIk q99 rfl (ldIk q99 rfl (ldIk q99 rfl (ldIk q99 rfl (ldIk q99 rfl ?_)))))
      refine stsAll c99 rfl rfl fun h4 c4 u4 _ => bindI_intro (bindI_intro ?_)
      refine ldIk c4 rfl (ldIk c4 rfl (ldIk c4 rfl (ldIk c4 rfl (ldIk c4 rfl ?_))))
      have := hk h4 (x99.then u4 fun k hk => by omega)
      unfold readA at this
      rw [hE, e', if_neg (by decide)] at this
      exact this
  · have hx0 : lb[0]? = some lb[0] := List.getElem?_eq_getElem (by omega)
    have hw0 := numR_b0 hx0
    generalize lb[0] = x0 at hx0 hw0
    refine Row.idx hb2 (n := 0) rfl (v := bv x0) (by simp [hx0]) fun b37 o hp37 hc37 => ?_
    refine sub_bytes hb2 (a := 1) (by omega) rfl rfl rfl fun t39 s39 => ?_
    refine sub_bytes hb2 (a := 9) (by omega) rfl rfl rfl fun t40 s40 => ?_
    refine sub_bytes hb2 (a := 17) (by omega) rfl rfl rfl fun t41 s41 => ?_
    refine sub_bytes hb2 (a := 25) (by omega) rfl rfl rfl fun t42 s42 => ?_
    refine ⟨_, hc37, ?_⟩
    have C : ∀ h', Ext h2 h' → heldL h' [(b37, o + 0, Value.int .u8 (x0.toNat : Int))] := fun h' he => ⟨(cell_congr (he.old b37 (cell_lt hc37)) _).trans hc37, trivial⟩
    have N1 : ∀ h', Ext h2 h' → ∀ K' : Int → Heap → Prop, K' (numR lb 1 8) h' → m_spillwayref19_number t39 K' h' := fun h' he K' hK => RNumber_spec (s39.ext he) (by simp; omega) (by rw [numR_eq (by omega)]; exact hK)
    have N2 : ∀ h', Ext h2 h' → ∀ K' : Int → Heap → Prop, K' (numR lb 9 8) h' → m_spillwayref19_number t40 K' h' := fun h' he K' hK => RNumber_spec (s40.ext he) (by simp; omega) (by rw [numR_eq (by omega)]; exact hK)
    have N3 : ∀ h', Ext h2 h' → ∀ K' : Int → Heap → Prop, K' (numR lb 17 8) h' → m_spillwayref19_number t41 K' h' := fun h' he K' hK => RNumber_spec (s41.ext he) (by simp; omega) (by rw [numR_eq (by omega)]; exact hK)
    have N4 : ∀ h', Ext h2 h' → ∀ K' : Int → Heap → Prop, K' (numR lb 25 8) h' → m_spillwayref19_number t42 K' h' := fun h' he K' hK => RNumber_spec (s42.ext he) (by simp; omega) (by rw [numR_eq (by omega)]; exact hK)
    have fin : ∀ (bq : Nat) (cs : Array Value) (h' : Heap), h2.size ≤ bq → cs.size = 5 → h'[bq]? = some (.cells cs 32 (0, 0)) → Ext h2 h' →
        sts h' bq 0 [.int .i64 (numR lb 1 8), .int .u8 (x0.toNat : Int), .int .i64 (numR lb 9 8), .int .i64 (numR lb 17 8), .int .i64 (numR lb 25 8)] fun h'' =>
          ∃ bq', (some ⟨bq, 0, none⟩ : Option Addr) = some ⟨bq', 0, none⟩ ∧ h2.size ≤ bq' ∧ h''[bq']? = some (.cells (anC (fieldsA lb)).toArray 32 (0, 0)) ∧ Ext h2 h'' := fun bq cs h' h1 hcs h2' he =>
      stsAll h2' hcs rfl fun h'' c'' u'' _ => ⟨bq, rfl, h1, by rw [c'']; unfold fieldsA; rw [hw0], he.then u'' fun k hk => by omega⟩
    refine ⟨N1 _ (Ext.refl _) _ ⟨C _ (Ext.refl _), ?_⟩, newK fun a0 q0 e0 z0 => ⟨C _ e0, ?_⟩⟩
    · refine ⟨N2 _ (Ext.refl _) _ ⟨C _ (Ext.refl _), ?_⟩, newK fun a0 q0 e0 z0 => ⟨C _ e0, ?_⟩⟩
      · refine ⟨N3 _ (Ext.refl _) _ ⟨C _ (Ext.refl _), ?_⟩, newK fun a0 q0 e0 z0 => ⟨C _ e0, ?_⟩⟩
        · refine ⟨N4 _ (Ext.refl _) _ ⟨C _ (Ext.refl _), ?_⟩, newK fun a0 q0 e0 z0 => ⟨C _ e0, ?_⟩⟩
          · refine newK fun a0 q0 e0 z0 => ⟨C _ e0, ?_⟩
            exact fin _ _ _ (by omega) rfl q0 e0
          · refine N4 _ e0 _ ⟨C _ e0, ?_⟩
            exact fin _ _ _ (by omega) rfl q0 e0
        · refine N3 _ e0 _ ⟨C _ e0, ?_⟩
          refine N4 _ e0 _ ⟨C _ e0, ?_⟩
          exact fin _ _ _ (by omega) rfl q0 e0
      · refine N2 _ e0 _ ⟨C _ e0, ?_⟩
        refine N3 _ e0 _ ⟨C _ e0, ?_⟩
        refine N4 _ e0 _ ⟨C _ e0, ?_⟩
        exact fin _ _ _ (by omega) rfl q0 e0
    · refine N1 _ e0 _ ⟨C _ e0, ?_⟩
      refine N2 _ e0 _ ⟨C _ e0, ?_⟩
      refine N3 _ e0 _ ⟨C _ e0, ?_⟩
      refine N4 _ e0 _ ⟨C _ e0, ?_⟩
      exact fin _ _ _ (by omega) rfl q0 e0

end Go.Proofs.Ytcgpdmlopbnpcaa
