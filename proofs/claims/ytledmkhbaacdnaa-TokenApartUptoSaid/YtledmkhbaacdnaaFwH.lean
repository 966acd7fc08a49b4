/- Why a reading is right: slices, append, make, conversions. -/
import Derived.Test.YtledmkhbaacdnaaFwG
namespace Go.Fw
open Go

theorem bound_ok {P : Program} {w : World} {k : IntKind} {i : Int} {y : Nat} {code : BoundsCode} (h0 : 0 ≤ i) (h1 : i ≤ y) : (Instr.sliceBound (.int k i) y code).run P w = .ok i.toNat w := by
  unfold Instr.sliceBound asIntOf
  simp [h0, h1]

theorem optB_some {d n : Int} {x : Option (Option EV)} (h : optB d x = some n) : (x = none ∧ n = d) ∨ ∃ k, x = some (some (.val (.int k n))) := by
  unfold optB at h
  split at h
  · simp only [Option.some.injEq] at h; exact .inl ⟨rfl, h.symm⟩
  · simp only [Option.some.injEq] at h; subst h; exact .inr ⟨_, rfl⟩
  · cases h

theorem bounds_run {P : Program} {w : World} {isSlice : Bool} {len cap : Nat} {lo hi mx : Option Value} {l h m : Int}
    (hlo : (lo = none ∧ l = 0) ∨ ∃ k, lo = some (.int k l)) (hhi : (hi = none ∧ h = len) ∨ ∃ k, hi = some (.int k h)) (hmx : (mx = none ∧ m = cap) ∨ ∃ k, mx = some (.int k m))
    (hno : hi = none → mx = none) (h0 : 0 ≤ l) (h1 : l ≤ h) (h2 : h ≤ m) (h3 : m ≤ cap) :
    (Instr.sliceBounds isSlice len cap lo hi mx).run P w = .ok (l.toNat, h.toNat, m.toNat) w := by
  unfold Instr.sliceBounds
  have e1 : (m.toNat : Int) = m := Int.toNat_of_nonneg (by omega)
  have e2 : (h.toNat : Int) = h := Int.toNat_of_nonneg (by omega)
  rcases hmx with ⟨rfl, rfl⟩ | ⟨km, rfl⟩
  · rcases hhi with ⟨rfl, rfl⟩ | ⟨kh, rfl⟩
    · rcases hlo with ⟨rfl, rfl⟩ | ⟨kl, rfl⟩
      · simp
      · simp [bound_ok h0 h1]
    · rcases hlo with ⟨rfl, rfl⟩ | ⟨kl, rfl⟩
      · simp only [Sem.run_bind, Sem.run_pure, Result.andThen_ok, bound_ok (k := kh) (y := cap) (by omega : 0 ≤ h) (by omega)]
        simp
      · simp only [Sem.run_bind, Sem.run_pure, Result.andThen_ok, bound_ok (k := kh) (y := cap) (by omega : 0 ≤ h) (by omega), bound_ok (k := kl) (y := h.toNat) h0 (by omega)]
        simp
  · rcases hhi with ⟨rfl, rfl⟩ | ⟨kh, rfl⟩
    · cases hno rfl
    · simp only [Sem.run_bind, bound_ok (k := km) (y := cap) (by omega : 0 ≤ m) h3, Result.andThen_ok, bound_ok (k := kh) (y := m.toNat) (by omega : 0 ≤ h) (by omega)]
      rcases hlo with ⟨rfl, rfl⟩ | ⟨kl, rfl⟩
      · simp
      · simp only [Sem.run_bind, bound_ok (k := kl) (y := h.toNat) h0 (by omega), Result.andThen_ok, Sem.run_pure]

theorem run_sliceAt_slice {P : Program} {w : World} {t el : TypeId} {p : Option Addr} {len cap size : Nat} {lo hi mx : Option Value} {l h m : Int} {inf : TypeInfo}
    (hu : P.underlying t = some (.slice el)) (hinf : P.info? el = some inf) (hs : inf.size = size)
    (hb : (Instr.sliceBounds true len cap lo hi mx).run P w = .ok (l.toNat, h.toNat, m.toNat) w) :
    (Instr.sliceAt t (.slice p len cap) lo hi mx).run P w = .ok (.slice (slPtr p l.toNat m.toNat size) (h.toNat - l.toNat) (m.toNat - l.toNat)) w := by
  unfold Instr.sliceAt Instr.slice slPtr
  simp only [Sem.run_bind, run_underlying P w t hu, Result.andThen_ok, hb, run_sizeOf P w el hinf, hs, Sem.run_pure]

theorem run_sliceAt_string {P : Program} {w : World} {t : TypeId} {s : ByteArray} {lo hi : Option Value} {l h : Int} {m : Nat}
    (hu : P.underlying t = some .string) (hb : (Instr.sliceBounds false s.size s.size lo hi none).run P w = .ok (l.toNat, h.toNat, m) w) :
    (Instr.sliceAt t (.string s) lo hi none).run P w = .ok (.string (s.extract l.toNat h.toNat)) w := by
  unfold Instr.sliceAt Instr.slice
  simp only [Sem.run_bind, run_underlying P w t hu, Result.andThen_ok, Option.isSome_none, Bool.false_eq_true, if_false, hb, Sem.run_pure]

theorem wrap_id {n : Int} (h0 : 0 ≤ n) (h1 : n ≤ 9223372036854775807) : IntKind.i64.wrap n = n := by
  unfold IntKind.wrap
  have hb : (2 : Int) ^ IntKind.i64.bits = 18446744073709551616 := by decide
  have hb' : (2 : Int) ^ (IntKind.i64.bits - 1) = 9223372036854775808 := by decide
  simp only [hb, hb']
  have : n % 18446744073709551616 = n := Int.emod_eq_of_lt h0 (by omega)
  rw [this]
  have : ¬ (n ≥ 9223372036854775808) := by omega
  simp [this]

theorem run_makeSlice {P : Program} {w : World} {t el : TypeId} {k k' : IntKind} {l c : Int} {inf : TypeInfo} {z : Value}
    (hu : P.underlying t = some (.slice el)) (hinf : P.info? el = some inf) (hz : inf.zero = some z) (hlen : z.cells.size = inf.size)
    (h0 : 0 ≤ l) (h1 : l ≤ c) (h2 : c * inf.bytes ≤ 281474976710656) (h3 : c ≤ 281474976710656) :
    (Instr.makeSlice t (.int k l) (.int k' c)).run P w = .ok (.slice (some ⟨w.heap.size, 0, none⟩) l.toNat c.toNat) { w with heap := w.heap.push (.cells (zerosL z.cells.toList c.toNat).toArray el) } := by
  unfold Instr.makeSlice asInt asIntOf
  have wl : IntKind.i64.wrap l = l := wrap_id h0 (by omega)
  have wc : IntKind.i64.wrap c = c := wrap_id (by omega) (by omega)
  have hbig : (2 : Int) ^ 48 = 281474976710656 := by decide
  simp only [Sem.run_bind, run_underlying P w t hu, Result.andThen_ok, Sem.run_pure, run_typeInfo P w el hinf, wl, wc]
  have hc : ¬ ((decide (c < 0) || decide ((inf.bytes : Int) * c > 2 ^ 48) || decide (l < 0) || decide (l > c)) = true) := by
    have e1 : ¬ c < 0 := by omega
    have e2 : (inf.bytes : Int) * c ≤ 281474976710656 := by rw [Int.mul_comm]; exact h2
    have e3 : ¬ l < 0 := by omega
    have e4 : ¬ l > c := by omega
    simp [e1, e2, e3, e4]
  rw [if_neg hc]
  simp only [Sem.run_bind, run_askRoom, Result.andThen_ok, run_sizeOf P w el hinf]
  by_cases hn : c.toNat * inf.size = 0
  · rw [if_pos hn]
    have hz0 : zerosL z.cells.toList c.toNat = [] := List.eq_nil_of_length_eq_zero (by rw [zerosL_length]; simpa [hlen] using hn)
    simp only [Sem.run_bind, Sem.run_pure, Result.andThen_ok, run_newRow]
    have hr : Array.range 0 = #[] := Array.eq_empty_of_size_eq_zero (by simp)
    rw [hz0]
    simp [hn, hr]
  · rw [if_neg hn]
    simp only [Sem.run_bind, run_zeroValue P w el hinf hz, Sem.run_pure, Result.andThen_ok, run_newRow]
    have := zeros_range z.cells c.toNat (c.toNat * inf.size) (by rw [hlen])
    congr 3
    rw [← this]


/-! ### append, string conversions -/
theorem next_bytes {need cap bytes : Nat} (h : cap < need) (hb : need * bytes ≤ 140737488355328) : Builtin.nextslicecap need cap * bytes ≤ 281474976710656 := by
  unfold Builtin.nextslicecap
  split
  · omega
  · split
    · have : 2 * cap * bytes ≤ 2 * (need * bytes) := by rw [Nat.mul_assoc]; exact Nat.mul_le_mul_left 2 (Nat.mul_le_mul_right _ (by omega))
      omega
    · have key : ∀ (r c : Nat), c ≤ 2 * need → 256 ≤ c → Builtin.growBy need r c ≤ 2 * need := by
        intro r
        induction r with
        | zero => intro c hc _; unfold Builtin.growBy; omega
        | succ r ih =>
          intro c hc h256
          unfold Builtin.growBy
          split
          · omega
          · exact ih _ (by omega) (by omega)
      have := key 4 cap (by omega) (by omega)
      have : Builtin.growBy need 4 cap * bytes ≤ 2 * (need * bytes) := by
        rw [← Nat.mul_assoc]; exact Nat.mul_le_mul_right _ this
      omega

theorem rdS_spec {P : Program} {w : World} {x : Sl} {size : Nat} {K : List Value → Prop} (h : rdS x size w.heap K) :
    ∃ l, (Builtin.firstCells size x.len (.slice x.ptr x.len x.cap)).run P w = .ok l.toArray w ∧ K l := by
  rcases h with ⟨hp, hk⟩ | ⟨b, o, l, hp, hl, hh, hk⟩
  · refine ⟨[], ?_, hk⟩
    rw [hp]
    cases x.ptr <;> simp [Builtin.firstCells, loadCells, loadCellsFrom]
  · refine ⟨l, ?_, hk⟩
    rw [hp]
    simp only [Builtin.firstCells]
    rw [← hl]
    exact run_loadCells P w b o l hh

theorem zeroCells_eq (z : Array Value) (n : Nat) : (Builtin.zeroCells z n).toList = zerosL z.toList n := by
  unfold Builtin.zeroCells
  exact zeros_range z n _ rfl

/-- append of what reads as 'new' -/
theorem run_append {P : Program} {w : World} {t el : TypeId} {ts : Array TypeId} {rt : TypeId} {s : Sl} {x : Value} {n : Nat} {new : List Value} {inf : TypeInfo} {z : Value} {K : Sl → Heap → Prop}
    (ht : ts[0]? = some t) (ht1 : ∀ u, ts[1]? = some u → ∃ d, P.underlying u = some d ∧ ∀ k, d ≠ .int k)
    (hu : P.underlying t = some (.slice el)) (hinf : P.info? el = some inf) (hz : inf.zero = some z)
    (hlen : (Builtin.lenOf x).run P w = .ok n w) (hnew : ∀ w' : World, w'.heap = w.heap → (Builtin.firstCells inf.size n x).run P w' = .ok new.toArray w')
    (hk : app el inf.size inf.bytes z.cells.toList s n new w.heap K) :
    ∃ s' w', (Builtin.append_ ts rt #[.slice s.ptr s.len s.cap, x]).run P w = .ok (.slice s'.ptr s'.len s'.cap) w' ∧ Same w w' ∧ K s' w'.heap := by
  obtain ⟨hroom, hgrow⟩ := hk
  have h63 : IntKind.i64.max = 9223372036854775807 := by decide
  have h48 : (2 : Nat) ^ 48 = 281474976710656 := by decide
  have grows : ∀ (hgt : s.cap < s.len + n) (W : World), W = w → ∃ s' w',
      (do let newCap ← choose (Question.appendCap (s.len + n) s.cap el)
          let __do_lift ← typeInfo el
          askRoom (newCap * __do_lift.bytes)
          let old ← Builtin.firstCells inf.size s.len (Value.slice s.ptr s.len s.cap)
          let new ← Builtin.firstCells inf.size n x
          let __do_lift ← zeroValue el
          let __do_lift ← newRow el (old ++ new ++ Builtin.zeroCells __do_lift.cells (newCap - (s.len + n)))
          pure (Value.slice (some __do_lift) (s.len + n) newCap) : Sem Value).run P W = .ok (.slice s'.ptr s'.len s'.cap) w' ∧ Same w w' ∧ K s' w'.heap := by
    rintro hgt W rfl
    obtain ⟨hb, hle, hrd⟩ := hgrow hgt
    have hq : (Question.appendCap (s.len + n) s.cap el).forced = false := rfl
    simp only [Sem.run_bind, run_choose, hq, Bool.false_eq_true, if_false, Result.andThen_ok]
    generalize hcap : (Question.appendCap (s.len + n) s.cap el).cut (W.tape W.drawn (Question.appendCap (s.len + n) s.cap el)) = newCap
    have hc1 : s.len + n ≤ newCap ∧ newCap < 9223372036854775808 := by
      subst hcap
      simp only [Question.cut]
      have : (2 : Nat) ^ 63 = 9223372036854775808 := by decide
      rw [this]
      have := Nat.mod_lt (W.tape W.drawn (Question.appendCap (s.len + n) s.cap el)) (show 9223372036854775808 - (s.len + n) > 0 by omega)
      omega
    obtain ⟨old, hold, hk⟩ := rdS_spec (P := P) (w := { W with drawn := W.drawn + 1 }) hrd
    simp only [run_typeInfo P _ el hinf, Result.andThen_ok, run_askRoom, hold, hnew { W with drawn := W.drawn + 1 } rfl, run_zeroValue P _ el hinf hz, run_newRow, Sem.run_pure]
    refine ⟨⟨some ⟨W.heap.size, 0, none⟩, s.len + n, newCap⟩, _, rfl, ⟨rfl, rfl, rfl⟩, ?_⟩
    have := hk newCap hc1.1 hc1.2
    rw [← zeroCells_eq] at this
    have e : (old ++ new ++ (Builtin.zeroCells z.cells (newCap - (s.len + n))).toList).toArray = old.toArray ++ new.toArray ++ Builtin.zeroCells z.cells (newCap - (s.len + n)) := by
      apply Array.ext'
      simp
    rw [e] at this
    exact this
  unfold Builtin.append_
  simp only [ht, List.getElem?_toArray, List.getElem?_cons_zero, List.getElem?_cons_succ, Sem.run_bind, run_underlying P w t hu, Result.andThen_ok, run_sizeOf P w el hinf]
  have rest : ∀ (q : Prop), ¬ q → ∃ s' w', (if s.len + n ≤ s.cap then (do
          let new ← Builtin.firstCells inf.size n x
          match s.ptr with
            | some a => do
              storeCells (a.add (s.len * inf.size)) new.toList
              pure (Value.slice s.ptr (s.len + n) s.cap)
            | _ => pure (Value.slice s.ptr (s.len + n) s.cap) : Sem Value) else stuck "").run P w = .ok (.slice s'.ptr s'.len s'.cap) w' ∧ Same w w' ∧ K s' w'.heap ∨ s.cap < s.len + n := by
    intro _ _
    rcases Nat.lt_or_ge s.cap (s.len + n) with hgt | hle
    · exact ⟨⟨none, 0, 0⟩, w, .inr hgt⟩
    · rw [if_pos hle]
      simp only [Sem.run_bind, hnew w rfl, Result.andThen_ok]
      rcases hroom hle with ⟨hp, hk⟩ | ⟨b, o, hp, hf, ha, hk⟩
      · refine ⟨⟨s.ptr, s.len + n, s.cap⟩, w, .inl ⟨?_, Same.refl w, hk⟩⟩
        rw [hp]
        cases s.ptr <;> simp [storeCells]
      · rw [hp]
        refine ⟨⟨some ⟨b, o, none⟩, s.len + n, s.cap⟩, { w with heap := Heap.puts w.heap b (o + s.len * inf.size) new }, .inl ⟨?_, ⟨rfl, rfl, rfl⟩, by rw [hp] at hk; exact hk⟩⟩
        simp only [add_eq, Sem.run_bind]
        have := run_storeCells P b (o + s.len * inf.size) new 0 w (by simpa using hf) ha
        simp only [Nat.add_zero] at this
        rw [this]
        rfl
  obtain ⟨s₁, w₁, hrest⟩ := rest False id
  cases h1 : ts[1]? with
  | none =>
    simp only [Sem.run_bind, Sem.run_pure, Result.andThen_ok, Bool.false_eq_true, if_false, hlen, Bool.not_false, if_true, false_or]
    rcases Nat.lt_or_ge s.cap (s.len + n) with hgt | hle
    · rw [if_neg (by omega)]
      obtain ⟨hb, hle, _⟩ := hgrow hgt
      simp only [Sem.run_bind, run_typeInfo P w el hinf, Result.andThen_ok]
      rw [if_neg (by rw [h63]; omega)]
      simp only [Sem.run_bind, run_typeInfo P w el hinf, Result.andThen_ok]
      rw [if_neg (by rw [h48]; have := next_bytes hgt hb; omega)]
      exact grows hgt w rfl
    · rw [if_pos hle] at hrest ⊢
      exact ⟨s₁, w₁, hrest.resolve_right (by omega)⟩
  | some u =>
    obtain ⟨d, hd, hne⟩ := ht1 u h1
    simp only [Sem.run_bind, Sem.run_pure, run_underlying P w u hd, Result.andThen_ok, Bool.false_eq_true, if_false, hlen, Bool.not_false, if_true, false_or]
    rcases Nat.lt_or_ge s.cap (s.len + n) with hgt | hle
    · rw [if_neg (by omega)]
      obtain ⟨hb, hle, _⟩ := hgrow hgt
      simp only [Sem.run_bind, run_typeInfo P w el hinf, Result.andThen_ok]
      rw [if_neg (by rw [h63]; omega)]
      simp only [Sem.run_bind, run_typeInfo P w el hinf, Result.andThen_ok]
      rw [if_neg (by rw [h48]; have := next_bytes hgt hb; omega)]
      exact grows hgt w rfl
    · rw [if_pos hle] at hrest ⊢
      exact ⟨s₁, w₁, hrest.resolve_right (by omega)⟩

end Go.Fw
