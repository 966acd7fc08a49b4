/- What both clients keep; both at once in memory. -/
import Derived.Test.YtcmedplogmjiiaaGreatClS
namespace Go.Proofs.YtcmedplogmjiiaaGreat
open Go Go.Fw

/-! ### what a client keeps, deed by deed -/
theorem Mon.filter {l : List (Int × Int)} (hM : Mon l) (f : Int × Int → Bool) : Mon (l.filter f) := List.Pairwise.filter f hM
theorem Mon.sub {l l' : List (Int × Int)} (hM : Mon l) (h : l'.Sublist l) : Mon l' := List.Pairwise.sublist h hM
theorem answ_sub (c : Cl) (a : An) : (c.answ a).waits.Sublist c.waits := by
  unfold Cl.answ
  split
  · exact List.filter_sublist
  · exact List.Sublist.refl _
theorem take_sub : ∀ (l : List (List UInt8)) (c : Cl), (c.take l).1.waits.Sublist c.waits
  | [], _ => List.Sublist.refl _
  | p :: ps, c => by
    unfold Cl.take
    split
    · exact List.Sublist.refl _
    · exact (take_sub ps _).trans (answ_sub c _)

structure On2 (c : Cl) (n : Nat) : Prop where
  w : WOK c
  nk : NOK c
  br : c.broken = false
  mon : Mon c.waits
  next : c.next ≤ (n : Int) + 1
  out : c.out.length ≤ 1024 * n
  rb : c.rb.length ≤ 1048576 * n
  sum : c.told.length + c.waits.length ≤ n
theorem On2.mono {c : Cl} {n n' : Nat} (h : On2 c n) (hn : n ≤ n') : On2 c n' :=
  ⟨h.w, h.nk, h.br, h.mon, by have := h.next; omega, by have := h.out; omega, by have := h.rb; omega, by have := h.sum; omega⟩
theorem On2.succ {c : Cl} {n : Nat} (h : On2 c n) : On2 c (n + 1) := h.mono (Nat.le_succ n)
theorem On2.tick {c : Cl} {n : Nat} (h : On2 c n) {at_ : Int} (he : c.atE at_ = 0) : On2 (c.tick at_) n :=
  ⟨h.w.tick he, h.nk.tick at_, h.br, h.mon.filter _, h.next, h.out, h.rb, by rw [tick_sum]; exact h.sum⟩
theorem On2.down {c : Cl} {n : Nat} (hw : WOK c) (hn : NOK c) (h1 : c.next ≤ (n : Int) + 1) (h2 : c.told.length + c.waits.length ≤ n) : On2 c.down n := by
  refine ⟨hw.down, hn.down, rfl, List.Pairwise.nil, h1, Nat.zero_le _, Nat.zero_le _, ?_⟩
  show (c.told ++ List.map _ _).length + 0 ≤ _
  rw [List.length_append, List.length_map]
  omega
theorem On2.atS {c : Cl} {n : Nat} (hI : On2 c n) (at_ : Int) : On2 (c.atS at_) n := by
  unfold Cl.atS
  split
  · rename_i he
    exact hI.tick he
  · exact hI
theorem On2.upS {c : Cl} {n : Nat} (hI : On2 c n) (at_ : Int) : On2 (c.upS at_) (n + 1) := by
  unfold Cl.upS
  split
  · rename_i he
    have hD := (hI.tick he).succ
    split
    · exact hD
    · have h1 := hI.nk.least
      have h2 := hI.nk.back
      have h3 := hI.out
      have h4 := allB_len (helloR c.name)
      refine ⟨(hI.w.tick he).noup (d := c.dial), ⟨hI.nk.tmo, h1, ⟨Int.le_refl _, Int.le_trans h2.1 h2.2⟩, hI.nk.most, hI.nk.name⟩, hI.br, hD.mon, hD.next, ?_, hD.rb, hD.sum⟩
      show (c.out ++ _).length ≤ _
      rw [List.length_append]
      omega
  · exact hI.succ
theorem On2.refS {c : Cl} {n : Nat} (hI : On2 c n) (at_ : Int) : On2 (c.refS at_) n := by
  unfold Cl.refS
  split
  · rename_i he
    have hD := hI.tick he
    split
    · exact hD
    · exact ⟨(hI.w.tick he).noup (u := c.up) (o := c.out), (hI.nk.tick at_).failed, hI.br, hD.mon, hD.next, hD.out, hD.rb, hD.sum⟩
  · exact hI
theorem On2.lostS {c : Cl} {n : Nat} (hI : On2 c n) (at_ : Int) : On2 (c.lostS at_) n := by
  unfold Cl.lostS
  split
  · rename_i he
    have hD := hI.tick he
    split
    · exact On2.down hD.w hD.nk hD.next hD.sum
    · exact hD
  · exact hI
theorem On2.bytes {c : Cl} {n : Nat} {l : List UInt8} (hl : l.length ≤ 1048576) (hI : On2 c n) (at_ : Int) : On2 (c.bytesR at_ l).1 (n + 1) := by
  unfold Cl.bytesR
  split
  · rename_i he
    have hD := (hI.tick he).succ
    split
    · show On2 ((c.tick at_).putB l).1 _
      unfold Cl.putB
      dsimp only
      have hq : putS (c.tick at_).rb (c.tick at_).broken l = cutA (c.rb ++ l) := by
        show putS c.rb c.broken l = _
        unfold putS
        rw [hI.br]
        rfl
      rw [hq]
      have hlen := cutA_len (c.rb ++ l).length (c.rb ++ l) (Nat.le_refl _)
      generalize cutA (c.rb ++ l) = q at hlen
      have hrb := hI.rb
      rw [List.length_append] at hlen
      have w2 : WOK { c.tick at_ with rb := q.2.2, broken := q.2.1 } := hD.w.rbs
      have n2 : NOK { c.tick at_ with rb := q.2.2, broken := q.2.1 } := hD.nk.rbs
      have m2 : Mon ({ c.tick at_ with rb := q.2.2, broken := q.2.1 } : Cl).waits := hD.mon
      have hsm : ({ c.tick at_ with rb := q.2.2, broken := q.2.1 } : Cl).told.length + ({ c.tick at_ with rb := q.2.2, broken := q.2.1 } : Cl).waits.length ≤ n + 1 := hD.sum
      have hnx : ({ c.tick at_ with rb := q.2.2, broken := q.2.1 } : Cl).next ≤ ((n + 1 : Nat) : Int) + 1 := hD.next
      have hou : ({ c.tick at_ with rb := q.2.2, broken := q.2.1 } : Cl).out.length ≤ 1024 * (n + 1) := hD.out
      have hr2 : ({ c.tick at_ with rb := q.2.2, broken := q.2.1 } : Cl).rb = q.2.2 := rfl
      have hb2 : ({ c.tick at_ with rb := q.2.2, broken := q.2.1 } : Cl).broken = q.2.1 := rfl
      generalize ({ c.tick at_ with rb := q.2.2, broken := q.2.1 } : Cl) = c2 at w2 n2 m2 hsm hnx hou hr2 hb2 ⊢
      obtain ⟨a1, a2, a3, a4, a5, a6, a7⟩ := take_same q.1 c2
      by_cases hz : (if (c2.take q.1).2 then 50 else if q.2.1 then 50 else 0 : Int) = 0
      · rw [if_pos hz]
        have hbr : q.2.1 = false := by
          cases hq9 : q.2.1 with
          | false => rfl
          | true =>
            rw [hq9] at hz
            cases hz9 : (c2.take q.1).2 <;> rw [hz9] at hz <;> simp at hz
        exact ⟨WOK.take w2, NOK.take n2, by rw [a6, hb2, hbr], m2.sub (take_sub _ _), by rw [a3]; exact hnx, by rw [a4]; exact hou, by rw [a5, hr2]; omega, Nat.le_trans a7 hsm⟩
      · rw [if_neg hz]
        exact On2.down (WOK.take w2) (NOK.take n2) (by rw [a3]; exact hnx) (Nat.le_trans a7 hsm)
    · exact hD
  · exact hI.succ
theorem On2.ask {c : Cl} {n : Nat} (hn : n ≤ 1000) (hI : On2 c n) (at_ : Int) (r : Rq) : On2 (c.askR at_ r).2 (n + 1) := by
  have hnx := hI.next
  have hsm := hI.sum
  have hW := hI.w.ask (by omega) (by omega) at_ r
  unfold Cl.askR at hW ⊢
  by_cases he : c.atE at_ = 0
  · rw [if_pos he] at hW ⊢
    have hT := hI.tick he
    have hD := hT.succ
    by_cases h1 : rightB (setId r 0) = true ∧ r.2.1 ≠ 5
    · rw [if_pos h1] at hW ⊢
      by_cases h2 : c.up = true ∧ (c.tick at_).waits.length < 256
      · rw [if_pos h2] at hW ⊢
        have h3 := hI.out
        have h4 := allB_len (setId r c.next)
        have hts := tick_sum c at_
        refine ⟨hW, ⟨hI.nk.tmo, hI.nk.least, hI.nk.back, hI.nk.most, hI.nk.name⟩, hI.br, ?_, ?_, ?_, hD.rb, ?_⟩
        · show Mon ((c.tick at_).waits ++ [(c.next, at_)])
          unfold Mon
          rw [List.pairwise_append]
          refine ⟨hT.mon, List.pairwise_singleton _ _, fun a ha b hb => ?_⟩
          have : b = (c.next, at_) := List.mem_singleton.1 hb
          subst this
          exact (hT.w.ats a ha).2
        · show c.next + 1 ≤ _
          omega
        · show (c.out ++ _).length ≤ _
          rw [List.length_append]
          omega
        · show (c.tick at_).told.length + ((c.tick at_).waits ++ [_]).length ≤ _
          rw [List.length_append]
          simp only [List.length_cons, List.length_nil]
          omega
      · rw [if_neg h2]
        exact hD
    · rw [if_neg h1]
      exact hD
  · rw [if_neg he]
    exact hI.succ
theorem On2.sent {c : Cl} {n : Nat} (hI : On2 c n) : On2 { c with out := [] } n :=
  ⟨hI.w.noup (u := c.up) (b := c.backoff) (d := c.dial), ⟨hI.nk.tmo, hI.nk.least, hI.nk.back, hI.nk.most, hI.nk.name⟩, hI.br, hI.mon, hI.next, Nat.zero_le _, hI.rb, hI.sum⟩
theorem On2.said {c : Cl} {n : Nat} (hI : On2 c n) : On2 { c with told := [] } n := by
  have h1 := hI.sum
  have h2 := hI.w.sum
  exact ⟨⟨hI.w.asc, hI.w.ids, hI.w.ats, hI.w.last, hI.w.next, by show 0 + c.waits.length ≤ _; omega⟩, ⟨hI.nk.tmo, hI.nk.least, hI.nk.back, hI.nk.most, hI.nk.name⟩, hI.br, hI.mon, hI.next, hI.out, hI.rb, by show 0 + c.waits.length ≤ _; omega⟩

def doP (c : Cl) (k at_ : Int) (r : Rq) (l : List UInt8) : Cl :=
  if k = 0 then c.atS at_ else if k = 1 then (c.askR at_ r).2 else if k = 2 then c.atS at_ else if k = 3 then c.upS at_ else if k = 4 then c.refS at_ else if k = 5 then c.lostS at_ else if k = 6 then (c.bytesR at_ l).1 else if k = 7 then { c with out := [] } else { c with told := [] }
theorem On2.doP {c : Cl} {n : Nat} (hn : n ≤ 1000) (hI : On2 c n) (k at_ : Int) (r : Rq) {l : List UInt8} (hl : l.length ≤ 1048576) : On2 (doP c k at_ r l) (n + 1) := by
  unfold Go.Proofs.YtcmedplogmjiiaaGreat.doP
  repeat' split
  · exact (hI.atS at_).succ
  · exact hI.ask hn at_ r
  · exact (hI.atS at_).succ
  · exact hI.upS at_
  · exact (hI.refS at_).succ
  · exact (hI.lostS at_).succ
  · exact hI.bytes hl at_
  · exact hI.sent.succ
  · exact hI.said.succ

/-! ### both in memory -/
structure Two (h : Heap) (T T2 : Nat → Option Nat) (cb rb : Nat) (c c2 : Cl) : Prop where
  a : Client h T cb c
  b : RefC h T2 rb c2
  d : ∀ k, T k ≠ none → T2 k = none
structure Go2 (T T2 T' T2' : Nat → Option Nat) (h h' : Heap) : Prop where
  upd : Upd (fun k => T k ≠ none ∨ T2 k ≠ none) h h'
  new : ∀ k, T' k ≠ none ∨ T2' k ≠ none → (T k ≠ none ∨ T2 k ≠ none) ∨ h.size ≤ k
theorem Go2.refl (T T2 : Nat → Option Nat) (h : Heap) : Go2 T T2 T T2 h h := ⟨Upd.refl _ _, fun _ h => .inl h⟩
theorem Go2.trans {T T2 T' T2' U U2 : Nat → Option Nat} {a b c : Heap} (h : Go2 T T2 T' T2' a b) (h' : Go2 T' T2' U U2 b c) : Go2 T T2 U U2 a c := by
  refine ⟨Upd.then h.upd h'.upd fun k hk hT => ?_, fun k hk => ?_⟩
  · rcases h.new k hT with h1 | h1
    · exact h1
    · omega
  · have := h.upd.size
    rcases h'.new k hk with h1 | h1
    · exact h.new k h1
    · exact .inr (by omega)
theorem Go2.ofExt {T T2 : Nat → Option Nat} {h h' : Heap} (e : Ext h h') : Go2 T T2 T T2 h h' := ⟨e.upd _, fun _ h => .inl h⟩
theorem Go2.also {T T2 T' T2' : Nat → Option Nat} {h h' h'' : Heap} {S : Nat → Prop} (g : Go2 T T2 T' T2' h h') (u : Upd S h' h'') (hS : ∀ k, S k → h.size ≤ k) : Go2 T T2 T' T2' h h'' :=
  ⟨Upd.then g.upd u fun k hk h9 => by have := hS k h9; omega, g.new⟩
theorem Go2.none_ {T T2 T' T2' : Nat → Option Nat} {h h' : Heap} (g : Go2 T T2 T' T2' h h') {k : Nat} (h1 : T k = none) (h2 : T2 k = none) (hk : k < h.size) : T' k = none ∧ T2' k = none := by
  have : ¬ (T' k ≠ none ∨ T2' k ≠ none) := fun h9 => by
    rcases g.new k h9 with h8 | h8
    · rcases h8 with h8 | h8
      · exact h8 h1
      · exact h8 h2
    · omega
  exact ⟨Classical.byContradiction fun h9 => this (.inl h9), Classical.byContradiction fun h9 => this (.inr h9)⟩
theorem Go2.keep {T T2 T' T2' : Nat → Option Nat} {h h' : Heap} (g : Go2 T T2 T' T2' h h') {k : Nat} (h1 : T k = none) (h2 : T2 k = none) (hk : k < h.size) : h'[k]? = h[k]? :=
  g.upd.old k hk fun h9 => by
    rcases h9 with h9 | h9
    · exact h9 h1
    · exact h9 h2
theorem Two.upd {h h' : Heap} {T T2 : Nat → Option Nat} {cb rb : Nat} {c c2 : Cl} {S : Nat → Prop} (hT : Two h T T2 cb rb c c2) (hu : Upd S h h') (hd : ∀ k, k < h.size → S k → T k = none ∧ T2 k = none) : Two h' T T2 cb rb c c2 :=
  ⟨hT.a.upd hu fun k hk hS => (hd k hk hS).1, hT.b.upd hu fun k hk hS => (hd k hk hS).2, hT.d⟩
theorem Two.ext {h h' : Heap} {T T2 : Nat → Option Nat} {cb rb : Nat} {c c2 : Cl} (hT : Two h T T2 cb rb c c2) (e : Ext h h') : Two h' T T2 cb rb c c2 := ⟨hT.a.ext e, hT.b.ext e, hT.d⟩
theorem Two.lt {h : Heap} {T T2 : Nat → Option Nat} {cb rb : Nat} {c c2 : Cl} (hT : Two h T T2 cb rb c c2) {k : Nat} (hk : T k ≠ none ∨ T2 k ≠ none) : k < h.size := by
  rcases hk with h1 | h1
  · exact hT.a.lt k h1
  · exact hT.b.lt k h1
theorem Two.none_ {h : Heap} {T T2 : Nat → Option Nat} {cb rb : Nat} {c c2 : Cl} (hT : Two h T T2 cb rb c c2) {k : Nat} (hk : h.size ≤ k) : T k = none ∧ T2 k = none := ⟨none_new hT.a.lt hk, none_new hT.b.lt hk⟩
theorem Two.left {h h' : Heap} {T T2 T' : Nat → Option Nat} {cb rb : Nat} {c c2 c' : Cl} (hT : Two h T T2 cb rb c c2) (hC : Client h' T' cb c') (st : Stp T T' h h') : Two h' T' T2 cb rb c' c2 ∧ Go2 T T2 T' T2 h h' := by
  refine ⟨⟨hC, hT.b.upd st.upd fun k _ hk => hT.d k hk, fun k hk => ?_⟩, ⟨st.upd.mono fun k _ hk => .inl hk, fun k hk => ?_⟩⟩
  · rcases st.new k hk with h1 | h1
    · exact hT.d k h1
    · exact none_new hT.b.lt h1
  · rcases hk with hk | hk
    · rcases st.new k hk with h1 | h1
      · exact .inl (.inl h1)
      · exact .inr h1
    · exact .inl (.inr hk)
theorem Two.right {h h' : Heap} {T T2 T2' : Nat → Option Nat} {cb rb : Nat} {c c2 c' : Cl} (hT : Two h T T2 cb rb c c2) (hC : RefC h' T2' rb c') (st : Stp T2 T2' h h') : Two h' T T2' cb rb c c' ∧ Go2 T T2 T T2' h h' := by
  have hd : ∀ k, T2 k ≠ none → T k = none := fun k hk => Classical.byContradiction fun h9 => hk (hT.d k h9)
  refine ⟨⟨hT.a.upd st.upd fun k _ hk => hd k hk, hC, fun k hk => Classical.byContradiction fun h9 => ?_⟩, ⟨st.upd.mono fun k _ hk => .inr hk, fun k hk => ?_⟩⟩
  · rcases st.new k h9 with h1 | h1
    · exact hk (hd k h1)
    · exact hk (none_new hT.a.lt h1)
  · rcases hk with hk | hk
    · exact .inl (.inl hk)
    · rcases st.new k hk with h1 | h1
      · exact .inl (.inr h1)
      · exact .inr h1

end Go.Proofs.YtcmedplogmjiiaaGreat
