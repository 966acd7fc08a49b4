/- ReadRequest and ReadAnswer, the program's: what they read. -/
import Derived.Test.YtcgpdmlopbnpcaaPrB
namespace Go.Proofs.Ytcgpdmlopbnpcaa
open Go Go.Fw

def tl (lb : List UInt8) : Nat := if 34 ≤ lb.length then (lb.getD 33 0).toNat else 0
theorem tl_lt (lb : List UInt8) : tl lb ≤ 255 := by
  unfold tl
  split
  · have := (lb.getD 33 0).toNat_lt; omega
  · omega
theorem numR_tl (lb : List UInt8) : numR lb 33 1 = (tl lb : Int) := by
  unfold numR tl
  by_cases h : 33 + 1 ≤ lb.length
  · rw [if_pos h, if_pos (by omega)]
    have e : (lb.drop 33).take 1 = [lb.getD 33 0] := by
      rw [List.take_one, List.head?_drop, List.getD_eq_getElem?_getD, List.getElem?_eq_getElem (by omega)]
      rfl
    rw [e]
    have := (lb.getD 33 0).toNat_lt
    have e2 : be [lb.getD 33 0] = (lb.getD 33 0).toNat := by unfold be; simp
    unfold numV
    rw [e2]
    exact wrap64 (by omega) (by omega)
  · rw [if_neg h, if_neg (by omega)]
    rfl
def textR (lb : List UInt8) : ByteArray := if 34 + tl lb ≤ lb.length then ⟨((lb.drop 34).take (tl lb)).toArray⟩ else ByteArray.empty
theorem textR_lt (lb : List UInt8) : (textR lb).size ≤ 255 := by
  have := tl_lt lb
  unfold textR
  split
  · have e : (ByteArray.mk ((lb.drop 34).take (tl lb)).toArray).size = ((lb.drop 34).take (tl lb)).length := rfl
    rw [e, List.length_take]
    omega
  · show (0 : Nat) ≤ 255
    omega
def fieldsR (lb : List UInt8) : Rq := (numR lb 1 8, IntKind.wrap .u8 (numR lb 0 1), numR lb 9 8, numR lb 17 8, textR lb, numR lb 25 8, ())
def zR : Rq := (0, 0, 0, 0, ByteArray.mk #[], 0, ())
def errR (lb : List UInt8) : Int × Int := (if lb.length < 34 + tl lb then 6 else if 34 + tl lb < lb.length then 6 else if rightB (fieldsR lb) then 0 else 6,
  if lb.length < 34 + tl lb then (lb.length : Int) else if 34 + tl lb < lb.length then ((34 + tl lb : Nat) : Int) else 0)
def readR (lb : List UInt8) : Rq × Int × Int := if (errR lb).1 ≠ 0 then (zR, (errR lb).1, (errR lb).2) else (fieldsR lb, 0, 0)

def fieldsA (lb : List UInt8) : An := (numR lb 1 8, IntKind.wrap .u8 (numR lb 0 1), numR lb 9 8, numR lb 17 8, numR lb 25 8, ())
def zA : An := (0, 0, 0, 0, 0, ())
def errA (lb : List UInt8) : Int × Int := (if lb.length < 33 then 6 else if 33 < lb.length then 6 else if rightA (fieldsA lb) then 0 else 6,
  if lb.length < 33 then (lb.length : Int) else if 33 < lb.length then ((33 : Nat) : Int) else 0)
def readA (lb : List UInt8) : An × Int × Int := if (errA lb).1 ≠ 0 then (zA, (errA lb).1, (errA lb).2) else (fieldsA lb, 0, 0)

/-- a whole block is written over -/
theorem stsAll {h : Heap} {b : Nat} {vs : List Value} {c : Array Value} {e : TypeId} {K : Heap → Prop} (hb : h[b]? = some (.cells c e (0, 0))) (hc : c.size = vs.length) (hv : vs.all oneCell = true)
    (hk : ∀ h', h'[b]? = some (.cells vs.toArray e (0, 0)) → Upd (· = b) h h' → h'.size = h.size → K h') : sts h b 0 vs K := by
  refine ⟨free_block hb (by omega), hv, hk _ ?_ (Upd.puts h b 0 vs) puts_size⟩
  obtain ⟨c', hc', hl⟩ := puts_block (vs := vs) (o := 0) hb (by omega)
  rw [hc']
  have : c' = vs.toArray := by
    apply Array.ext'
    rw [hl]
    simp
    omega
  rw [this]

theorem keepB {h h' : Heap} {b k : Nat} {x : Obj} (hq : h[b]? = some x) (hu : Upd (· = k) h h') (hne : b ≠ k) : h'[b]? = some x := by
  have hl : b < h.size := by
    rcases Nat.lt_or_ge b h.size with hl | hl
    · exact hl
    · rw [Array.getElem?_eq_none hl] at hq; cases hq
  rw [hu.old b hl hne]; exact hq
theorem keepE {h h' : Heap} {b : Nat} {x : Obj} (hq : h[b]? = some x) (hu : Ext h h') : h'[b]? = some x := by
  have hl : b < h.size := by
    rcases Nat.lt_or_ge b h.size with hl | hl
    · exact hl
    · rw [Array.getElem?_eq_none hl] at hq; cases hq
  rw [hu.old b hl]; exact hq

theorem number1 {T : TypeId} {h : Heap} {b : Nat} {s : Sl} {lb : List UInt8} {t : Nat} {K : Int → Heap → Prop} (hr : RdI T h b s lb t) (ht : t ≤ 1000)
    (hk : ∀ h', RdI T h' b s lb (t + 1) → Upd (· = b) h h' → h'.size = h.size → K (numR lb t 1) h') : m_proto_reader_number (some ⟨b, 0, none⟩) 1 K h :=
  number_spec (n := 1) hr (by omega) ht hk
theorem number8 {T : TypeId} {h : Heap} {b : Nat} {s : Sl} {lb : List UInt8} {t : Nat} {K : Int → Heap → Prop} (hr : RdI T h b s lb t) (ht : t ≤ 1000)
    (hk : ∀ h', RdI T h' b s lb (t + 8) → Upd (· = b) h h' → h'.size = h.size → K (numR lb t 8) h') : m_proto_reader_number (some ⟨b, 0, none⟩) 8 K h :=
  number_spec (n := 8) hr (by omega) ht hk

theorem ReadRequest_spec {s : Sl} {lb : List UInt8} {h : Heap} {K : Rq → Int → Int → Heap → Prop} (hb : Bytes h s lb) (hk : ∀ h', Ext h h' → K (readR lb).1 (readR lb).2.1 (readR lb).2.2 h') : m_proto_ReadRequest s K h := by
  unfold m_proto_ReadRequest g_proto_ReadRequest
  have hsb : ∀ k o, s.ptr = some ⟨k, o, none⟩ → lb.map bv ≠ [] → k < h.size := fun k o hp hne => by
    rcases hb.at_ with h0 | ⟨b, o2, hp2, hh⟩
    · exact absurd (hb.nil_of h0) hne
    · rw [hp] at hp2
      cases hp2
      exact has_lt hh hne
  refine newK fun h2 c1 e2 z2 => bindI_intro (bindI_intro (newK fun h5 c4 e5 z5 => ?_))
  have r0 : RdI 56 h5 h2.size s lb 0 := ⟨⟨0, false, c4, by omega, (fun h => by cases h), fun _ => rfl⟩, (hb.ext e2).ext e5, fun k o hp hne => by have := hsb k o hp hne; omega⟩
  replace c1 := keepE c1 e5
  have x5 := e2.trans e5
  refine cutP_intro (fun p h' => ∃ bq, p.1 = some ⟨bq, 0, none⟩ ∧ h5.size ≤ bq ∧ h'[bq]? = some (.cells (rqC (numR lb 1 8, IntKind.wrap .u8 (numR lb 0 1), numR lb 9 8, numR lb 17 8, ByteArray.mk #[], numR lb 25 8, ())).toArray 26 (0, 0)) ∧
    RdI 56 h' h2.size s lb 33 ∧ Upd (fun k => k = h2.size ∨ h5.size ≤ k) h5 h') ?_ ?_
  · rintro ⟨q, u⟩ h65 ⟨bq, hq0, hbq, hq, hr, hU⟩
    dsimp only at hq0
    subst hq0
    dsimp only
    have x65 := x5.then hU fun k hk => by omega
    have c65 : h65[h.size]? = _ := (hU.old h.size (by omega) (by omega)).trans c1
    refine number1 hr (by omega) fun h67 r67 u67 z67 => ?_
    rw [numR_tl]
    have htl := tl_lt lb
    refine take_spec r67 htl (by omega) fun t68 h69 r69 u69 z69 hyes hno => ?_
    have text : ∀ K' : ByteArray → Prop, K' (textR lb) → b2s t68 h69 K' := fun K' hK' => by
      unfold textR at hK'
      by_cases hc : 34 + tl lb ≤ lb.length
      · rw [if_pos hc] at hK'
        exact b2s_bytes (hyes hc) hK'
      · rw [if_neg hc] at hK'
        rw [hno (by omega)]
        exact .inl ⟨rfl, hK'⟩
    have u69' := u67.trans u69
    have hbne : bq ≠ h2.size := by omega
    refine text _ (deref_ (put2 (keepB hq u69' hbne) (by simp) rfl fun h72 q72 u72 z72 => ?_))
    replace q72 : h72[bq]? = some (.cells (rqC (fieldsR lb)).toArray 26 (0, 0)) := q72
    have c72 := keepB (keepB c65 u69' (by omega)) u72 (by omega)
    have x72 := (x65.then u69' fun k hk => by omega).then u72 fun k hk => by omega
    have r72 := r69.upd u72 (by omega) fun k o hp hne _ => by have := hsb k o hp hne; omega
    refine deref_ (ldIk q72 rfl (ldIk q72 rfl (ldIk q72 rfl (ldIk q72 rfl (ldSk q72 rfl (ldIk q72 rfl ?_))))))
    have htx := textR_lt lb
    refine Right_spec (r := fieldsR lb) (by show (textR lb).size < _; omega) fun h82 e82 => ?_
    have q82 := keepE q72 e82
    have c82 := keepE c72 e82
    have x82 := x72.trans e82
    refine ended_spec (r72.ext e82) (bindI_intro (bindI_intro ?_))
    change iteP ((errR lb).1 != 0) _ _
    refine ⟨fun e => ?_, fun e => ?_⟩
    · refine stsAll c82 rfl rfl fun h86 c86 u86 _ => bindI_intro (bindI_intro ?_)
      refine ldIk c86 rfl (ldIk c86 rfl (ldIk c86 rfl (ldIk c86 rfl (ldSk c86 rfl (ldIk c86 rfl ?_)))))
      have := hk h86 (x82.then u86 fun k hk => by omega)
      unfold readR at this
      rw [if_pos (by simpa using e)] at this
      exact this
    · refine deref_ (ldIk q82 rfl (ldIk q82 rfl (ldIk q82 rfl (ldIk q82 rfl (ldSk q82 rfl (ldIk q82 rfl ?_))))))
      refine stsAll c82 rfl rfl fun h86 c86 u86 _ => bindI_intro (bindI_intro ?_)
      refine ldIk c86 rfl (ldIk c86 rfl (ldIk c86 rfl (ldIk c86 rfl (ldSk c86 rfl (ldIk c86 rfl ?_)))))
      have := hk h86 (x82.then u86 fun k hk => by omega)
      unfold readR at this
      rw [if_neg (by simpa using e)] at this
      exact this
  · have fin : ∀ (bq : Nat) (cs : Array Value) (h' : Heap), (h5.size ≤ bq) → cs.size = 6 → h'[bq]? = some (.cells cs 26 (0, 0)) → RdI 56 h' h2.size s lb 33 → Upd (· = h2.size) h5 h' →
        sts h' bq 0 [.int .i64 (numR lb 1 8), .int .u8 (IntKind.wrap .u8 (numR lb 0 1)), .int .i64 (numR lb 9 8), .int .i64 (numR lb 17 8), .string (ByteArray.mk #[]), .int .i64 (numR lb 25 8)] fun h'' =>
          ∃ bq', (some ⟨bq, 0, none⟩ : Option Addr) = some ⟨bq', 0, none⟩ ∧ h5.size ≤ bq' ∧ h''[bq']? = some (.cells (rqC (numR lb 1 8, IntKind.wrap .u8 (numR lb 0 1), numR lb 9 8, numR lb 17 8, ByteArray.mk #[], numR lb 25 8, ())).toArray 26 (0, 0)) ∧
            RdI 56 h'' h2.size s lb 33 ∧ Upd (fun k => k = h2.size ∨ h5.size ≤ k) h5 h'' := fun bq cs h' h1 hcs h2' hr hu =>
      stsAll h2' hcs rfl fun h'' c'' u'' _ => ⟨bq, rfl, h1, c'', hr.upd u'' (by omega) (fun k o hp hne _ => by have := hsb k o hp hne; omega), (hu.mono fun k _ hk => .inl hk).trans (u''.mono fun k _ hk => .inr (by omega))⟩
    have u0 : Upd (· = h2.size) h5 h5 := Upd.refl _ _
    refine ⟨number1 r0 (by omega) fun g1 r1 w1 y1 => ?_, newK fun a0 q0 e0 z0 => ?_⟩
    · have u1 := u0.trans w1
      refine ⟨number8 r1 (by omega) fun g2 r2 w2 y2 => ?_, newK fun a0 q0 e0 z0 => ?_⟩
      · have u2 := u1.trans w2
        refine ⟨number8 r2 (by omega) fun g3 r3 w3 y3 => ?_, newK fun a0 q0 e0 z0 => ?_⟩
        · have u3 := u2.trans w3
          refine ⟨number8 r3 (by omega) fun g4 r4 w4 y4 => ?_, newK fun a0 q0 e0 z0 => ?_⟩
          · have u4 := u3.trans w4
            refine ⟨number8 r4 (by omega) fun g5 r5 w5 y5 => ?_, newK fun a0 q0 e0 z0 => ?_⟩
            · have u5 := u4.trans w5
              refine newK fun a0 q0 e0 z0 => ?_
              exact fin _ _ _ (by omega) rfl q0 (r5.ext e0) (u5.trans (e0.upd _))
            · have x4 := r4.ext e0
              have t4 := u4.trans (e0.upd _)
              refine number8 x4 (by omega) fun a5 x5 w5 y5 => ?_
              have t5 := t4.trans w5
              replace q0 := keepB q0 w5 (by omega)
              exact fin _ _ _ (by omega) rfl q0 x5 t5
          · have x3 := r3.ext e0
            have t3 := u3.trans (e0.upd _)
            refine number8 x3 (by omega) fun a4 x4 w4 y4 => ?_
            have t4 := t3.trans w4
            replace q0 := keepB q0 w4 (by omega)
            refine number8 x4 (by omega) fun a5 x5 w5 y5 => ?_
            have t5 := t4.trans w5
            replace q0 := keepB q0 w5 (by omega)
            exact fin _ _ _ (by omega) rfl q0 x5 t5
        · have x2 := r2.ext e0
          have t2 := u2.trans (e0.upd _)
          refine number8 x2 (by omega) fun a3 x3 w3 y3 => ?_
          have t3 := t2.trans w3
          replace q0 := keepB q0 w3 (by omega)
          refine number8 x3 (by omega) fun a4 x4 w4 y4 => ?_
          have t4 := t3.trans w4
          replace q0 := keepB q0 w4 (by omega)
          refine number8 x4 (by omega) fun a5 x5 w5 y5 => ?_
          have t5 := t4.trans w5
          replace q0 := keepB q0 w5 (by omega)
          exact fin _ _ _ (by omega) rfl q0 x5 t5
      · have x1 := r1.ext e0
        have t1 := u1.trans (e0.upd _)
        refine number8 x1 (by omega) fun a2 x2 w2 y2 => ?_
        have t2 := t1.trans w2
        replace q0 := keepB q0 w2 (by omega)
        refine number8 x2 (by omega) fun a3 x3 w3 y3 => ?_
        have t3 := t2.trans w3
        replace q0 := keepB q0 w3 (by omega)
        refine number8 x3 (by omega) fun a4 x4 w4 y4 => ?_
        have t4 := t3.trans w4
        replace q0 := keepB q0 w4 (by omega)
        refine number8 x4 (by omega) fun a5 x5 w5 y5 => ?_
        have t5 := t4.trans w5
        replace q0 := keepB q0 w5 (by omega)
        exact fin _ _ _ (by omega) rfl q0 x5 t5
    · have x0 := r0.ext e0
      have t0 := u0.trans (e0.upd _)
      refine number1 x0 (by omega) fun a1 x1 w1 y1 => ?_
      have t1 := t0.trans w1
      replace q0 := keepB q0 w1 (by omega)
      refine number8 x1 (by omega) fun a2 x2 w2 y2 => ?_
      have t2 := t1.trans w2
      replace q0 := keepB q0 w2 (by omega)
      refine number8 x2 (by omega) fun a3 x3 w3 y3 => ?_
      have t3 := t2.trans w3
      replace q0 := keepB q0 w3 (by omega)
      refine number8 x3 (by omega) fun a4 x4 w4 y4 => ?_
      have t4 := t3.trans w4
      replace q0 := keepB q0 w4 (by omega)
      refine number8 x4 (by omega) fun a5 x5 w5 y5 => ?_
      have t5 := t4.trans w5
      replace q0 := keepB q0 w5 (by omega)
      exact fin _ _ _ (by omega) rfl q0 x5 t5

theorem ReadAnswer_spec {s : Sl} {lb : List UInt8} {h : Heap} {K : An → Int → Int → Heap → Prop} (hb : Bytes h s lb) (hk : ∀ h', Ext h h' → K (readA lb).1 (readA lb).2.1 (readA lb).2.2 h') : m_proto_ReadAnswer s K h := by
  unfold m_proto_ReadAnswer g_proto_ReadAnswer
  have hsb : ∀ k o, s.ptr = some ⟨k, o, none⟩ → lb.map bv ≠ [] → k < h.size := fun k o hp hne => by
    rcases hb.at_ with h0 | ⟨b, o2, hp2, hh⟩
    · exact absurd (hb.nil_of h0) hne
    · rw [hp] at hp2
      cases hp2
      exact has_lt hh hne
  refine newK fun h2 c1 e2 z2 => bindI_intro (bindI_intro (newK fun h5 c4 e5 z5 => ?_))
  have r0 : RdI 54 h5 h2.size s lb 0 := ⟨⟨0, false, c4, by omega, (fun h => by cases h), fun _ => rfl⟩, (hb.ext e2).ext e5, fun k o hp hne => by have := hsb k o hp hne; omega⟩
  replace c1 := keepE c1 e5
  have x5 := e2.trans e5
  refine number1 r0 (by omega) fun g1 r1 w1 y1 => ?_
  refine number8 r1 (by omega) fun g2 r2 w2 y2 => ?_
  refine number8 r2 (by omega) fun g3 r3 w3 y3 => ?_
  refine number8 r3 (by omega) fun g4 r4 w4 y4 => ?_
  refine number8 r4 (by omega) fun g5 r5 w5 y5 => ?_
  have U5 := (((w1.trans w2).trans w3).trans w4).trans w5
  have c5 := keepB c1 U5 (by omega)
  have xg5 := x5.then U5 fun k hk => by omega
  refine newK fun h17 q17 e17 z17 => ?_
  refine stsAll q17 rfl rfl fun h18 q18 u18 z18 => ?_
  have c18 := keepB (keepE c5 e17) u18 (by omega)
  have x18 := (xg5.trans e17).then u18 fun k hk => by omega
  have r18 := (r5.ext e17).upd u18 (by omega) fun k o hp hne _ => by have := hsb k o hp hne; omega
  replace q18 : h18[g5.size]? = some (.cells (anC (fieldsA lb)).toArray 32 (0, 0)) := q18
  refine ldIk q18 rfl (ldIk q18 rfl (ldIk q18 rfl (ldIk q18 rfl (ldIk q18 rfl ?_))))
  refine RightA_spec (a := fieldsA lb) fun h25 e25 => ?_
  have q25 := keepE q18 e25
  have c25 := keepE c18 e25
  have x25 := x18.trans e25
  refine ended_spec (r18.ext e25) (bindI_intro (bindI_intro ?_))
  change iteP ((errA lb).1 != 0) _ _
  refine ⟨fun e => ?_, fun e => ?_⟩
  · refine stsAll c25 rfl rfl fun h86 c86 u86 _ => bindI_intro (bindI_intro ?_)
    refine ldIk c86 rfl (ldIk c86 rfl (ldIk c86 rfl (ldIk c86 rfl (ldIk c86 rfl ?_))))
    have := hk h86 (x25.then u86 fun k hk => by omega)
    unfold readA at this
    rw [if_pos (by simpa using e)] at this
    exact this
  · refine ldIk q25 rfl (ldIk q25 rfl (ldIk q25 rfl (ldIk q25 rfl (ldIk q25 rfl ?_))))
    refine stsAll c25 rfl rfl fun h86 c86 u86 _ => bindI_intro (bindI_intro ?_)
    refine ldIk c86 rfl (ldIk c86 rfl (ldIk c86 rfl (ldIk c86 rfl (ldIk c86 rfl ?_))))
    have := hk h86 (x25.then u86 fun k hk => by omega)
    unfold readA at this
    rw [if_neg (by simpa using e)] at this
    exact this

end Go.Proofs.Ytcgpdmlopbnpcaa
