/- Small words of the walks: blocks, loads, stores. -/
import Derived.Test.YtkcbkiognkkhlaaM
import Derived.Test.YtkcbkiognkkhlaaFwU
namespace Go.Proofs.Ytkcbkiognkkhlaa
open Go Go.Fw

theorem newK {h : Heap} {cells : List Value} {t : TypeId} {K : Nat → Heap → Prop} (hk : ∀ h1, h1[h.size]? = some (.cells cells.toArray t (0, 0)) → Ext h h1 → h1.size = h.size + 1 → K h.size h1) : newC h cells t K :=
  newC_intro (hk _ push_new (Ext.push _ _) (by simp))

theorem ldIk {h : Heap} {b o : Nat} {k : IntKind} {n : Int} {c : Array Value} {e : TypeId} {K : Int → Prop} (hb : h[b]? = some (.cells c e (0, 0))) (hc : c[o]? = some (.int k n)) (hk : K n) : ldI h b o k K := ⟨n, (cell_block hb).trans hc, hk⟩

theorem ldSk {h : Heap} {b o : Nat} {n : ByteArray} {c : Array Value} {e : TypeId} {K : ByteArray → Prop} (hb : h[b]? = some (.cells c e (0, 0))) (hc : c[o]? = some (.string n)) (hk : K n) : ldS h b o K := ⟨n, (cell_block hb).trans hc, hk⟩

theorem put2 {h : Heap} {b o : Nat} {v : Value} {K : Heap → Prop} {c : Array Value} {e : TypeId} (hb : h[b]? = some (.cells c e (0, 0))) (ho : o < c.size) (hv : oneCell v = true)
    (hk : ∀ h', h'[b]? = some (.cells (c.setIfInBounds o v) e (0, 0)) → Upd (· = b) h h' → h'.size = h.size → K h') : st h b o v K := by
  refine ⟨⟨c[o], by rw [cell_block hb]; simp [ho]⟩, ?_, hv, hk _ (put_block hb) (Upd.put h b o v) put_size⟩
  unfold Heap.froz; rw [hb]; simp

theorem deref_ {b o : Nat} {K : Nat → Nat → Prop} (hk : K b o) : derefP (some ⟨b, o, none⟩) K := ⟨b, o, rfl, hk⟩

theorem ldBk {h : Heap} {b o : Nat} {n : Bool} {c : Array Value} {e : TypeId} {K : Bool → Prop} (hb : h[b]? = some (.cells c e (0, 0))) (hc : c[o]? = some (.bool n)) (hk : K n) : ldB h b o K := ⟨n, (cell_block hb).trans hc, hk⟩

theorem ldLk {h : Heap} {b o : Nat} {s : Sl} {c : Array Value} {e : TypeId} {K : Sl → Prop} (hb : h[b]? = some (.cells c e (0, 0))) (hc : c[o]? = some (slV s)) (hk : K s) : ldL h b o K := ⟨s, (cell_block hb).trans hc, hk⟩

theorem stsAll {h : Heap} {b : Nat} {vs : List Value} {c : Array Value} {e : TypeId} {K : Heap → Prop} (hb : h[b]? = some (.cells c e (0, 0))) (hc : c.size = vs.length) (hv : vs.all oneCell = true)
    (hk : ∀ h', h'[b]? = some (.cells vs.toArray e (0, 0)) → Upd (· = b) h h' → h'.size = h.size → K h') : sts h b 0 vs K := by
  refine ⟨free_block hb (by omega), hv, hk _ ?_ (Upd.puts h b 0 vs) puts_size⟩
  obtain ⟨c', hc', hl⟩ := puts_block (vs := vs) (o := 0) hb (by omega)
  rw [hc']
  have : c' = vs.toArray := by
    apply Array.ext'
    rw [hl]
    simp
    omega
  rw [this]

theorem keepB {h h' : Heap} {b k : Nat} {x : Obj} (hq : h[b]? = some x) (hu : Upd (· = k) h h') (hne : b ≠ k) : h'[b]? = some x := by
  have hl : b < h.size := by
    rcases Nat.lt_or_ge b h.size with hl | hl
    · exact hl
    · rw [Array.getElem?_eq_none hl] at hq; cases hq
  rw [hu.old b hl hne]; exact hq

theorem keepE {h h' : Heap} {b : Nat} {x : Obj} (hq : h[b]? = some x) (hu : Ext h h') : h'[b]? = some x := by
  have hl : b < h.size := by
    rcases Nat.lt_or_ge b h.size with hl | hl
    · exact hl
    · rw [Array.getElem?_eq_none hl] at hq; cases hq
  rw [hu.old b hl]; exact hq

theorem Upd.then {S T : Nat → Prop} {a b c : Heap} (h : Upd S a b) (h' : Upd T b c) (hs : ∀ k, k < a.size → T k → S k) : Upd S a c :=
  ⟨Nat.le_trans h.size h'.size, fun k hk hn => (h'.old k (Nat.lt_of_lt_of_le hk h.size) fun hT => hn (hs k hk hT)).trans (h.old k hk hn)⟩

theorem wrapU64 {n : Int} (h0 : 0 ≤ n) (h1 : n < 18446744073709551616) : IntKind.wrap .u64 n = n := by
  unfold IntKind.wrap
  have hb : (2 : Int) ^ IntKind.u64.bits = 18446744073709551616 := by decide
  have hs : IntKind.u64.signed = false := rfl
  simp only [hb, hs, Bool.false_and, Bool.false_eq_true, if_false]
  omega

end Go.Proofs.Ytkcbkiognkkhlaa
