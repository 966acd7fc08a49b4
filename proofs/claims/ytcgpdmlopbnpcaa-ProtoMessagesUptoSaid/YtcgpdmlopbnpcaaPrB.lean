/- Numbers as bytes, and bytes as numbers. -/
import Derived.Test.YtcgpdmlopbnpcaaPrA
namespace Go.Proofs.Ytcgpdmlopbnpcaa
open Go Go.Fw

/-! ### bytes as a number -/
def be (l : List UInt8) : Nat := l.foldl (fun n c => n * 256 + c.toNat) 0
theorem be_snoc (l : List UInt8) (c : UInt8) : be (l ++ [c]) = be l * 256 + c.toNat := by unfold be; rw [List.foldl_append]; rfl
theorem be_lt : ∀ (n : Nat) (l : List UInt8), l.length = n → be l < 256 ^ n
  | 0, l, h => by
    have : l = [] := List.eq_nil_of_length_eq_zero h
    subst this
    simp [be]
  | n + 1, l, h => by
    have hne : l ≠ [] := by intro e; subst e; simp at h
    have e := List.dropLast_concat_getLast hne
    rw [← e, be_snoc, Nat.pow_succ]
    have h1 := be_lt n l.dropLast (by simp [h])
    have := (l.getLast hne).toNat_lt
    omega
theorem be_lt8 {l : List UInt8} (h : l.length ≤ 8) : be l < 18446744073709551616 := by
  have h1 := be_lt _ l rfl
  have : 256 ^ l.length ≤ 256 ^ 8 := Nat.pow_le_pow_right (by omega) h
  omega
theorem be_lt7 {l : List UInt8} (h : l.length ≤ 7) : be l < 72057594037927936 := by
  have h1 := be_lt _ l rfl
  have : 256 ^ l.length ≤ 256 ^ 7 := Nat.pow_le_pow_right (by omega) h
  omega

def numV (l : List UInt8) : Int := IntKind.wrap .i64 (be l : Int)

theorem wrapU64 {n : Int} (h0 : 0 ≤ n) (h1 : n < 18446744073709551616) : IntKind.wrap .u64 n = n := by
  unfold IntKind.wrap
  have hb : (2 : Int) ^ IntKind.u64.bits = 18446744073709551616 := by decide
  have hs : IntKind.u64.signed = false := rfl
  simp only [hb, hs, Bool.false_and, Bool.false_eq_true, if_false]
  omega

theorem wrap64_eq (n : Int) : IntKind.wrap .i64 n = if n % 18446744073709551616 ≥ 9223372036854775808 then n % 18446744073709551616 - 18446744073709551616 else n % 18446744073709551616 := by
  unfold IntKind.wrap
  have hb : (2 : Int) ^ IntKind.i64.bits = 18446744073709551616 := by decide
  have hb' : (2 : Int) ^ (IntKind.i64.bits - 1) = 9223372036854775808 := by decide
  have hs : IntKind.i64.signed = true := rfl
  simp only [hb, hb', hs, Bool.true_and, decide_eq_true_eq]

theorem or_toNat (N c : Nat) (hN : N < 72057594037927936) (hc : c < 256) : BitVec.toNat (BitVec.ofNat 64 (N * 256) ||| BitVec.ofNat 64 c) = N * 256 + c := by
  rw [BitVec.toNat_or]
  simp only [BitVec.toNat_ofNat]
  rw [Nat.mod_eq_of_lt (by omega), Nat.mod_eq_of_lt (by omega), Nat.mul_comm N 256, show (256 : Nat) = 2 ^ 8 from rfl, ← Nat.two_pow_add_eq_or_of_lt (by omega)]

theorem ofInt_wrap (n : Int) : BitVec.ofInt 64 (IntKind.wrap .i64 n) = BitVec.ofInt 64 n := by
  apply BitVec.eq_of_toNat_eq
  rw [BitVec.toNat_ofInt, BitVec.toNat_ofInt, wrap64_eq]
  have e : ((2 ^ 64 : Nat) : Int) = 18446744073709551616 := by decide
  rw [e]
  split <;> omega

theorem or_i64 (N c : Nat) (hN : N < 72057594037927936) (hc : c < 256) : orV .i64 (shlV .i64 (N : Int) 8) (IntKind.wrap .i64 (c : Int)) = IntKind.wrap .i64 ((N * 256 + c : Nat) : Int) := by
  unfold orV shlV
  have h8 : min (8 : Int).toNat IntKind.i64.bits = 8 := by decide
  have hb : IntKind.i64.bits = 64 := rfl
  rw [h8, hb, ofInt_wrap, ofInt_wrap]
  have e : (N : Int) * 2 ^ 8 = ((N * 256 : Nat) : Int) := by omega
  rw [e]
  simp only [BitVec.ofInt_natCast]
  rw [or_toNat N c hN hc]

theorem or_u64 (N c : Nat) (hN : N < 72057594037927936) (hc : c < 256) : orV .u64 (shlV .u64 (N : Int) 8) (IntKind.wrap .u64 (c : Int)) = ((N * 256 + c : Nat) : Int) := by
  unfold orV shlV
  have h8 : min (8 : Int).toNat IntKind.u64.bits = 8 := by decide
  have hb : IntKind.u64.bits = 64 := rfl
  rw [h8, hb, wrapU64 (n := (c : Int)) (by omega) (by omega)]
  have e : (N : Int) * 2 ^ 8 = ((N * 256 : Nat) : Int) := by omega
  rw [e, wrapU64 (n := ((N * 256 : Nat) : Int)) (by omega) (by omega)]
  simp only [BitVec.ofInt_natCast]
  rw [or_toNat N c hN hc]
  exact wrapU64 (by omega) (by omega)

theorem RNumber_spec {b : Sl} {l : List UInt8} {h : Heap} {K : Int → Heap → Prop} (hb : Bytes h b l) (hl : 8 ≤ l.length) (hk : K (numV (l.take 8)) h) : m_spillwayref19_number b K h := by
  unfold m_spillwayref19_number g_spillwayref19_number
  refine bindI_intro (bindI_intro (bindI_intro ?_))
  refine loopM_intro (fun p h' => h' = h ∧ ∃ k : Nat, k ≤ 8 ∧ p.2.1 = (k : Int) ∧ p.1 = numV (l.take k)) (fun p _ => 8 - p.2.1.toNat) ⟨rfl, 0, by omega, rfl, rfl⟩ ?_
  rintro ⟨n, i, u⟩ h' ⟨rfl, k, hk8, hi, hn⟩
  dsimp only at hi hn
  subst hi hn
  dsimp only
  refine iteP_dec (fun hlt => ⟨by omega, ?_⟩) (fun hge => bindI_intro ?_)
  · have hx : l[k]? = some l[k] := List.getElem?_eq_getElem (by omega)
    refine Bytes.idx hb rfl hx (bindI_intro (bindI_intro ?_))
    have h7 := be_lt7 (l := l.take k) (by simp; omega)
    have e : numV (l.take k) = (be (l.take k) : Int) := by unfold numV; exact wrap64 (by omega) (by omega)
    rw [e, or_i64 _ _ h7 (l[k]).toNat_lt, wrap64 (n := (k : Int) + 1) (by omega) (by omega)]
    refine ⟨⟨rfl, k + 1, by omega, by omega, ?_⟩, by omega⟩
    rw [List.take_succ_eq_append_getElem (by omega)]
    unfold numV
    rw [be_snoc]
  · have : k = 8 := by omega
    subst this
    exact hk

/-! ### the program's reader -/
/-- a reader at block b: what it reads, how far it came, whether it came to the end too early -/
structure RdI (T : TypeId) (h : Heap) (b : Nat) (s : Sl) (lb : List UInt8) (t : Nat) : Prop where
  cells : ∃ (at_ : Nat) (short : Bool), h[b]? = some (.cells #[slV s, .int .i64 (at_ : Int), .bool short] T (0, 0)) ∧ at_ ≤ lb.length ∧ (short = true → lb.length < t) ∧ (short = false → at_ = t)
  bytes : Bytes h s lb
  apart : ∀ k o, s.ptr = some ⟨k, o, none⟩ → lb.map bv ≠ [] → k ≠ b

theorem RdI.lt {T : TypeId} {h : Heap} {b : Nat} {s : Sl} {lb : List UInt8} {t : Nat} (hr : RdI T h b s lb t) : b < h.size := by
  obtain ⟨_, _, hb, _⟩ := hr.cells
  rcases Nat.lt_or_ge b h.size with hl | hl
  · exact hl
  · rw [Array.getElem?_eq_none hl] at hb; cases hb
theorem RdI.ext {T : TypeId} {h h' : Heap} {b : Nat} {s : Sl} {lb : List UInt8} {t : Nat} (hr : RdI T h b s lb t) (he : Ext h h') : RdI T h' b s lb t := by
  have hlt := hr.lt
  obtain ⟨a, sh, hb, h1⟩ := hr.cells
  exact ⟨⟨a, sh, by rw [he.old b hlt]; exact hb, h1⟩, hr.bytes.ext he, hr.apart⟩
theorem RdI.upd {T : TypeId} {h h' : Heap} {b : Nat} {s : Sl} {lb : List UInt8} {t : Nat} {U : Nat → Prop} (hr : RdI T h b s lb t) (he : Upd U h h') (hb : ¬ U b) (hs : ∀ k o, s.ptr = some ⟨k, o, none⟩ → lb.map bv ≠ [] → k < h.size → ¬ U k) : RdI T h' b s lb t := by
  have hlt := hr.lt
  obtain ⟨a, sh, hc, h1⟩ := hr.cells
  exact ⟨⟨a, sh, by rw [he.old b hlt hb]; exact hc, h1⟩, hr.bytes.congr fun k o hp hne hl => he.old k hl (hs k o hp hne hl), hr.apart⟩

theorem put2 {h : Heap} {b o : Nat} {v : Value} {K : Heap → Prop} {c : Array Value} {e : TypeId} (hb : h[b]? = some (.cells c e (0, 0))) (ho : o < c.size) (hv : oneCell v = true)
    (hk : ∀ h', h'[b]? = some (.cells (c.setIfInBounds o v) e (0, 0)) → Upd (· = b) h h' → h'.size = h.size → K h') : st h b o v K := by
  refine ⟨⟨c[o], by rw [cell_block hb]; simp [ho]⟩, ?_, hv, hk _ (put_block hb) (Upd.put h b o v) put_size⟩
  unfold Heap.froz; rw [hb]; simp
theorem deref_ {b o : Nat} {K : Nat → Nat → Prop} (hk : K b o) : derefP (some ⟨b, o, none⟩) K := ⟨b, o, rfl, hk⟩
theorem ldBk {h : Heap} {b o : Nat} {n : Bool} {c : Array Value} {e : TypeId} {K : Bool → Prop} (hb : h[b]? = some (.cells c e (0, 0))) (hc : c[o]? = some (.bool n)) (hk : K n) : ldB h b o K := ⟨n, (cell_block hb).trans hc, hk⟩
theorem ldLk {h : Heap} {b o : Nat} {s : Sl} {c : Array Value} {e : TypeId} {K : Sl → Prop} (hb : h[b]? = some (.cells c e (0, 0))) (hc : c[o]? = some (slV s)) (hk : K s) : ldL h b o K := ⟨s, (cell_block hb).trans hc, hk⟩

theorem take_spec {T : TypeId} {h : Heap} {b : Nat} {s : Sl} {lb : List UInt8} {t n : Nat} {K : Sl → Heap → Prop} (hr : RdI T h b s lb t) (hn : n ≤ 255) (ht : t ≤ 1000)
    (hk : ∀ s' h', RdI T h' b s lb (t + n) → Upd (· = b) h h' → h'.size = h.size → (t + n ≤ lb.length → Bytes h' s' ((lb.drop t).take n)) → (lb.length < t + n → s' = ⟨none, 0, 0⟩) → K s' h') :
    m_proto_reader_take (some ⟨b, 0, none⟩) (n : Int) K h := by
  unfold m_proto_reader_take g_proto_reader_take
  obtain ⟨⟨at_, short, hb, hal, hsh1, hsh2⟩, hs, hap⟩ := hr
  have hlen := hs.length
  have hcap := hs.cap
  have hbig := hs.big
  -- it came to the end too early
  have over : ∀ h', h'[b]? = some (.cells #[slV s, .int .i64 (at_ : Int), .bool true] T (0, 0)) → Upd (· = b) h h' → h'.size = h.size → lb.length < t + n → K ⟨none, 0, 0⟩ h' := fun h' hb' hu hsz hlt =>
    hk _ h' ⟨⟨at_, true, hb', hal, fun _ => hlt, fun h => (by cases h)⟩, hs.congr fun k o hp hne hl => hu.old k hl (hap k o hp hne), hap⟩ hu hsz (fun h => by omega) (fun _ => rfl)
  refine cutP_intro (fun _ h' => h'[b]? = some (.cells #[slV s, .int .i64 (t : Int), .bool false] T (0, 0)) ∧ Upd (· = b) h h' ∧ h'.size = h.size ∧ t + n ≤ lb.length) ?_ ?_
  · rintro u h' ⟨hb', hu, hsz, hle⟩
    have hs' : Bytes h' s lb := hs.congr fun k o hp hne hl => hu.old k hl (hap k o hp hne)
    refine deref_ (ldIk hb' rfl (deref_ (put2 hb' (by simp) rfl fun h2 hb2 hu2 hsz2 => ?_)))
    have hw : IntKind.wrap .i64 ((t : Int) + (n : Int)) = ((t + n : Nat) : Int) := by rw [wrap64 (by omega) (by omega)]; omega
    rw [hw] at hb2
    have hs2 : Bytes h2 s lb := hs'.congr fun k o hp hne hl => hu2.old k hl (hap k o hp hne)
    refine deref_ (ldLk hb2 rfl (deref_ (ldIk hb2 rfl (deref_ (ldIk hb2 rfl ?_)))))
    have hw2 : IntKind.wrap .i64 (((t + n : Nat) : Int) - (n : Int)) = (t : Int) := by rw [wrap64 (by omega) (by omega)]; omega
    rw [hw2]
    refine Row.slc hs2 (a := t) (b := t + n) (m := s.cap) rfl rfl rfl (by omega) (by omega) (by omega) (Nat.le_refl _) fun s' hs3 _ _ _ => ?_
    refine hk s' h2 ⟨⟨t + n, false, hb2, hle, fun h => (by cases h), fun _ => rfl⟩, hs2, hap⟩ (hu.trans hu2) (by omega) (fun _ => ?_) (fun h => by omega)
    have e : ((lb.map bv).drop t).take (t + n - t) = ((lb.drop t).take n).map bv := by rw [List.map_take, List.map_drop]; congr 1; omega
    rw [e] at hs3
    exact hs3
  · refine deref_ (ldBk hb rfl ⟨fun e => ?_, fun e => ?_⟩)
    · have hlt := hsh1 e
      subst e
      refine deref_ (put2 hb (by simp) rfl fun h2 hb2 hu2 hsz2 => deref_ (ldBk hb2 rfl (iteP_true ?_)))
      exact over h2 hb2 hu2 hsz2 (by omega)
    · have hat := hsh2 e
      subst hat e
      refine deref_ (deref_ (ldLk hb rfl (ldIk hb rfl (deref_ (put2 hb (by simp) rfl fun h2 hb2 hu2 hsz2 => deref_ (ldBk hb2 rfl ?_))))))
      rw [wrap64 (n := (s.len : Int) - (at_ : Int)) (by omega) (by omega)] at hb2 ⊢
      refine iteP_dec (fun h1 => ?_) (fun h1 => ?_)
      · rw [decide_eq_true h1] at hb2
        exact over h2 hb2 hu2 hsz2 (by omega)
      · rw [decide_eq_false h1] at hb2
        exact ⟨hb2, hu2, hsz2, by omega⟩

def numR (lb : List UInt8) (t n : Nat) : Int := if t + n ≤ lb.length then numV ((lb.drop t).take n) else 0

theorem number_spec {T : TypeId} {h : Heap} {b : Nat} {s : Sl} {lb : List UInt8} {t n : Nat} {K : Int → Heap → Prop} (hr : RdI T h b s lb t) (hn : n ≤ 8) (ht : t ≤ 1000)
    (hk : ∀ h', RdI T h' b s lb (t + n) → Upd (· = b) h h' → h'.size = h.size → K (numR lb t n) h') :
    m_proto_reader_number (some ⟨b, 0, none⟩) (n : Int) K h := by
  unfold m_proto_reader_number g_proto_reader_number
  refine bindI_intro (bindI_intro ?_)
  refine take_spec hr (by omega) ht fun s' h' hr' hu hsz hyes hno => ?_
  have key : ∃ l : List UInt8, Bytes h' s' l ∧ l.length ≤ 8 ∧ numR lb t n = numV l := by
    unfold numR
    by_cases hc : t + n ≤ lb.length
    · rw [if_pos hc]
      exact ⟨_, hyes hc, by simp; omega, rfl⟩
    · rw [if_neg hc, hno (by omega)]
      exact ⟨[], Row.nil _ 1, by simp, rfl⟩
  obtain ⟨l, hl, hl8, hv⟩ := key
  have hll := hl.length
  have := hk h' hr' hu hsz
  rw [hv] at this
  refine loopM_intro (fun p h2 => h2 = h' ∧ ∃ k : Nat, k ≤ l.length ∧ p.2.1 = (k : Int) ∧ p.1 = (be (l.take k) : Int)) (fun p _ => l.length - p.2.1.toNat) ⟨rfl, 0, by omega, rfl, rfl⟩ ?_
  rintro ⟨m, i, u⟩ h2 ⟨rfl, k, hk8, hi, hm⟩
  dsimp only at hi hm
  subst hi hm
  dsimp only
  refine iteP_dec (fun hlt => ?_) (fun hge => bindI_intro ?_)
  · have hx : l[k]? = some l[k] := List.getElem?_eq_getElem (by omega)
    refine Bytes.idx hl rfl hx (bindI_intro ⟨by omega, bindI_intro ?_⟩)
    have h7 := be_lt7 (l := l.take k) (by simp; omega)
    rw [or_u64 _ _ h7 (l[k]).toNat_lt, wrap64 (n := (k : Int) + 1) (by omega) (by omega)]
    refine ⟨⟨rfl, k + 1, by omega, by omega, ?_⟩, by omega⟩
    rw [List.take_succ_eq_append_getElem (by omega), be_snoc]
  · have : l.take k = l := List.take_of_length_le (by omega)
    rw [this]
    exact ‹K (numV l) h2›

theorem ended_spec {T : TypeId} {h : Heap} {b : Nat} {s : Sl} {lb : List UInt8} {t : Nat} {right : Bool} {K : Int → Int → Heap → Prop} (hr : RdI T h b s lb t)
    (hk : K (if lb.length < t then 6 else if t < lb.length then 6 else if right then 0 else 6) (if lb.length < t then (lb.length : Int) else if t < lb.length then (t : Int) else 0) h) :
    m_proto_reader_ended (some ⟨b, 0, none⟩) right K h := by
  unfold m_proto_reader_ended g_proto_reader_ended
  obtain ⟨⟨at_, short, hb, hal, hsh1, hsh2⟩, hs, hap⟩ := hr
  have hlen := hs.length
  refine bindI_intro (bindI_intro (deref_ (ldBk hb rfl (bindB_intro ⟨fun e => ?_, fun e => ?_⟩))))
  · have hlt := hsh1 e
    rw [if_pos hlt, if_pos hlt, ← hlen] at hk
    exact deref_ (ldLk hb rfl (bindI_intro (bindI_intro hk)))
  · have hat := hsh2 e
    subst hat
    have h0 : ¬ lb.length < at_ := by omega
    rw [if_neg h0, if_neg h0] at hk
    refine deref_ (ldIk hb rfl (deref_ (ldLk hb rfl (bindB_intro (iteP_dec (fun h1 => ?_) (fun h1 => bindB_intro ?_))))))
    · have h2 : at_ < lb.length := by omega
      rw [if_pos h2, if_pos h2] at hk
      exact deref_ (ldIk hb rfl (bindI_intro (bindI_intro hk)))
    · have h2 : ¬ at_ < lb.length := by omega
      rw [if_neg h2, if_neg h2] at hk
      cases right with
      | true => exact iteP_false (bindI_intro (bindI_intro hk))
      | false => exact iteP_true (bindI_intro (bindI_intro hk))

end Go.Proofs.Ytcgpdmlopbnpcaa
