/- What maps.Keys and slices.Sorted do at a map of numbers that ascend as its entries stand. -/
import Derived.Test.YtbofhmcjcllcaaaFwU
import Derived.MapKept
namespace Go.Proofs.Ytbofhmcjcllcaaa
open Go Go.Fw

/-- maps.Keys: a function value over one new block that holds the map -/
def m_maps_Keys_map_int_int_int_int_ (m : Option Nat) (K : Value → Heap → Prop) (h : Heap) : Prop :=
  newC h [Value.map m] 77 fun b h' => K (.func (.func 48) #[] #[.pointer (some ⟨b, 0, none⟩)]) h'

/-- a map of numbers whose entries stand in their order -/
def Rising (h : Heap) (m : Nat) (l : List Int) : Prop :=
  ∃ es clk, h[m]? = some (.map es clk) ∧ MapKept.Stamped es clk ∧ es.toList.map (·.key) = l.map (Value.int .i64) ∧ l.Pairwise (· < ·) ∧ ∀ x, x ∈ l → -9223372036854775808 ≤ x ∧ x < 9223372036854775808

def m_slices_Sorted_int_ (x : Value) (K : Sl → Heap → Prop) (h : Heap) : Prop :=
  ∃ b m l, x = .func (.func 48) #[] #[.pointer (some ⟨b, 0, none⟩)] ∧ h.cell b 0 = some (.map (some m)) ∧ Rising h m l ∧ l.length * 8 ≤ 140737488355328 ∧
    ∀ s h', Own h' h.size s 1 (l.map (Value.int .i64)) → Ext h h' → K s h'

end Go.Proofs.Ytbofhmcjcllcaaa
