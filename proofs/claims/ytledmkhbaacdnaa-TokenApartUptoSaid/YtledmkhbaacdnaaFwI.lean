/- Why a reading is right: conversions; the operations, all of them. -/
import Derived.Test.YtledmkhbaacdnaaFwH
namespace Go.Fw
open Go

theorem byteVals_push (s : ByteArray) (x : UInt8) : byteVals (s.push x) = byteVals s ++ [Value.int .u8 x.toNat] := by
  unfold byteVals
  simp

theorem forIn_bytes (P : Program) (f : Value → ByteArray → Sem (ForInStep ByteArray)) (hf : ∀ n s, f (.int .u8 n) s = pure (ForInStep.yield (s.push (UInt8.ofNat n.toNat)))) :
    ∀ (l : List UInt8) (acc : ByteArray) (w : World), (forIn (l.map fun b => Value.int .u8 b.toNat) acc f).run P w = .ok (l.foldl ByteArray.push acc) w
  | [], acc, w => by simp
  | x :: l, acc, w => by
    simp only [List.map_cons, List.forIn_cons, hf, Sem.run_bind, Sem.run_pure, Result.andThen_ok, List.foldl_cons]
    have := forIn_bytes P f hf l (acc.push x) w
    simpa using this

theorem foldl_push (l : List UInt8) : ∀ acc : ByteArray, l.foldl ByteArray.push acc = ⟨acc.data ++ l.toArray⟩ := by
  induction l with
  | nil => intro acc; simp
  | cons x l ih =>
    intro acc
    rw [List.foldl_cons, ih]
    simp [ByteArray.push]

theorem run_b2s {P : Program} {w : World} {x : Sl} {K : ByteArray → Prop} (h : b2s x w.heap K) :
    ∃ s, (Conv.bytesToString (.slice x.ptr x.len x.cap)).run P w = .ok (.string s) w ∧ K s := by
  rcases h with ⟨hp, hk⟩ | ⟨b, o, s, hp, hl, hh, hk⟩
  · refine ⟨_, ?_, hk⟩
    rw [hp]
    cases x.ptr <;> rfl
  · refine ⟨s, ?_, hk⟩
    rw [hp]
    unfold Conv.bytesToString
    have hlen : (byteVals s).length = x.len := by rw [← hl]; unfold byteVals; simp
    simp only [Sem.run_bind, ← hlen, run_loadCells P w b o _ hh, Result.andThen_ok]
    simp only [List.forIn_toArray]
    unfold byteVals
    rw [forIn_bytes P _ (fun _ _ => rfl)]
    simp only [Result.andThen_ok, foldl_push]
    simp


theorem run_s2b {P : Program} {w : World} {el : TypeId} {s : ByteArray} {K : Sl → Heap → Prop} (h : s2b el s w.heap K) :
    ∃ x w', (Conv.stringToBytes el s).run P w = .ok (.slice x.ptr x.len x.cap) w' ∧ Same w w' ∧ K x w'.heap := by
  obtain ⟨hs, h⟩ := h
  unfold Conv.stringToBytes
  have hq : (Question.appendCap s.size 0 el).forced = false := rfl
  simp only [Sem.run_bind, run_choose, hq, Bool.false_eq_true, if_false, Result.andThen_ok]
  generalize hcap : (Question.appendCap s.size 0 el).cut (w.tape w.drawn (Question.appendCap s.size 0 el)) = cap
  have hc1 : s.size ≤ cap ∧ cap < 9223372036854775808 := by
    subst hcap
    simp only [Question.cut]
    have : (2 : Nat) ^ 63 = 9223372036854775808 := by decide
    rw [this]
    have := Nat.mod_lt (w.tape w.drawn (Question.appendCap s.size 0 el)) (show 9223372036854775808 - s.size > 0 by omega)
    omega
  simp only [run_newRow, Result.andThen_ok]
  have hsz : ((s.data.map fun b => Value.int .u8 b.toNat) ++ Array.replicate (cap - s.size) (Value.int .u8 0)).size = cap := by
    simp
    have : s.data.size = s.size := rfl
    omega
  unfold markStringish
  simp only [Sem.run_bind, run_shape, Result.andThen_ok, World.shape?, Array.getElem?_push_size, hsz, run_freeze, Sem.run_pure]
  refine ⟨⟨some ⟨w.heap.size, 0, none⟩, s.size, cap⟩, _, rfl, ?_, ?_⟩
  · unfold World.freeze
    simp only [Nat.one_ne_zero, if_false]
    exact ⟨rfl, rfl, rfl⟩
  · have := h cap hc1.1 hc1.2
    unfold World.freeze
    simp only [Nat.one_ne_zero, if_false]
    have e : (w.heap.push (Obj.cells ((s.data.map fun b => Value.int .u8 b.toNat) ++ Array.replicate (cap - s.size) (Value.int .u8 0)) el)).modify w.heap.size
        (fun x => match x with
          | .cells c elem (lo, hi) => .cells c elem (if (lo == hi) = true then (cap, cap + 1) else (min lo cap, max hi (cap + 1)))
          | o => o) = w.heap.push (.cells (byteVals s ++ List.replicate (cap - s.size) (Value.int .u8 0)).toArray el (cap, cap + 1)) := by
      have ea : ((s.data.map fun b => Value.int .u8 b.toNat) ++ Array.replicate (cap - s.size) (Value.int .u8 0)) = (byteVals s ++ List.replicate (cap - s.size) (Value.int .u8 0)).toArray := by
        apply Array.ext'
        simp [byteVals]
      rw [ea]
      apply Array.ext_getElem?
      intro i
      rw [Array.getElem?_modify]
      by_cases hi : w.heap.size = i
      · subst hi
        simp
      · rw [if_neg hi]
        simp [Array.getElem?_push, Ne.symm hi]
    exact e ▸ this

end Go.Fw
