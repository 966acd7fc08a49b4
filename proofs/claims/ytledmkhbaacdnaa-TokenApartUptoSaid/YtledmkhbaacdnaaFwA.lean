/- The words in which the functions' models are written: memory as an array of blocks, and what one step of a function asks of it and leaves. Plain definitions, no program. -/
import GoSem.Core.World
import GoSem.Core.View
import GoSem.Core.Lib
import GoSem.Instr.Lookup
import Derived.MapKept
import Derived.Laws.IdiomRangeMap
namespace Go.Fw
open Go

abbrev Heap := Array Obj

def Heap.cell (h : Heap) (b o : Nat) : Option Value :=
  match h[b]? with
  | some (.cells c _ _) => c[o]?
  | _ => none

def Heap.froz (h : Heap) (b o : Nat) : Bool :=
  match h[b]? with
  | some (.cells _ _ (lo, hi)) => decide (lo ≤ o) && decide (o < hi)
  | _ => false

def Heap.put (h : Heap) (b o : Nat) (v : Value) : Heap :=
  h.modify b fun
    | .cells c e f => .cells (c.setIfInBounds o v) e f
    | x => x

def Heap.puts (h : Heap) (b : Nat) : Nat → List Value → Heap
  | _, [] => h
  | o, v :: vs => (h.put b o v).puts b (o + 1) vs

def Heap.has (h : Heap) (b : Nat) : Nat → List Value → Prop
  | _, [] => True
  | o, v :: vs => h.cell b o = some v ∧ h.has b (o + 1) vs

/-- cells that can be written -/
def Heap.free (h : Heap) (b : Nat) : Nat → Nat → Prop
  | _, 0 => True
  | o, n + 1 => ((∃ u, h.cell b o = some u) ∧ h.froz b o = false) ∧ h.free b (o + 1) n

structure Sl where
  ptr : Option Addr
  len : Nat
  cap : Nat

def oneCell : Value → Bool
  | .agg _ | .tuple _ => false
  | _ => true

def iteP (b : Bool) (A B : Prop) : Prop := (b = true → A) ∧ (b = false → B)
def bindI (n : Int) (K : Int → Prop) : Prop := K n
def bindB (b : Bool) (K : Bool → Prop) : Prop := K b
def ldI (h : Heap) (b o : Nat) (k : IntKind) (K : Int → Prop) : Prop := ∃ n, h.cell b o = some (.int k n) ∧ K n
def ldB (h : Heap) (b o : Nat) (K : Bool → Prop) : Prop := ∃ x, h.cell b o = some (.bool x) ∧ K x
def ldS (h : Heap) (b o : Nat) (K : ByteArray → Prop) : Prop := ∃ x, h.cell b o = some (.string x) ∧ K x
def ldP (h : Heap) (b o : Nat) (K : Option Addr → Prop) : Prop := ∃ x, h.cell b o = some (.pointer x) ∧ K x
def ldL (h : Heap) (b o : Nat) (K : Sl → Prop) : Prop := ∃ x : Sl, h.cell b o = some (.slice x.ptr x.len x.cap) ∧ K x
def ldM (h : Heap) (b o : Nat) (K : Option Nat → Prop) : Prop := ∃ x, h.cell b o = some (.map x) ∧ K x
def ldV (h : Heap) (b o : Nat) (K : Value → Prop) : Prop := ∃ x, h.cell b o = some x ∧ K x
def derefP (p : Option Addr) (K : Nat → Nat → Prop) : Prop := ∃ b o, p = some ⟨b, o, none⟩ ∧ K b o
def st (h : Heap) (b o : Nat) (v : Value) (K : Heap → Prop) : Prop :=
  (∃ u, h.cell b o = some u) ∧ h.froz b o = false ∧ oneCell v = true ∧ K (h.put b o v)
def sts (h : Heap) (b o : Nat) (vs : List Value) (K : Heap → Prop) : Prop :=
  h.free b o vs.length ∧ vs.all oneCell = true ∧ K (h.puts b o vs)
def idxA (p : Option Addr) (l : Nat) (i : Int) (size : Nat) (K : Nat → Nat → Prop) : Prop :=
  ∃ b o, p = some ⟨b, o, none⟩ ∧ 0 ≤ i ∧ i < l ∧ K b (o + i.toNat * size)
def idxN (l : Nat) (i : Int) (K : Nat → Prop) : Prop := 0 ≤ i ∧ i < l ∧ K i.toNat
def idxS (s : ByteArray) (i : Int) (K : Int → Prop) : Prop := ∃ x, 0 ≤ i ∧ s[i.toNat]? = some x ∧ K (UInt8.toNat x)
def need (p : Prop) (K : Prop) : Prop := p ∧ K
def slPtr (p : Option Addr) (l m size : Nat) : Option Addr := if m = l then p else p.map (·.add (l * size))
def slc (p : Option Addr) (cap size : Nat) (lo hi mx : Int) (K : Sl → Prop) : Prop :=
  0 ≤ lo ∧ lo ≤ hi ∧ hi ≤ mx ∧ mx ≤ cap ∧ K ⟨slPtr p lo.toNat mx.toNat size, hi.toNat - lo.toNat, mx.toNat - lo.toNat⟩
def slcS (s : ByteArray) (lo hi : Int) (K : ByteArray → Prop) : Prop :=
  0 ≤ lo ∧ lo ≤ hi ∧ hi ≤ s.size ∧ K (s.extract lo.toNat hi.toNat)
def shlV (k : IntKind) (x y : Int) : Int := k.wrap (x * 2 ^ (min y.toNat k.bits))
def shrV (k : IntKind) (x y : Int) : Int := x.fdiv (2 ^ (min y.toNat k.bits))
def andV (k : IntKind) (x y : Int) : Int := k.wrap (BitVec.toNat (BitVec.ofInt k.bits x &&& BitVec.ofInt k.bits y))
def orV (k : IntKind) (x y : Int) : Int := k.wrap (BitVec.toNat (BitVec.ofInt k.bits x ||| BitVec.ofInt k.bits y))
def xorV (k : IntKind) (x y : Int) : Int := k.wrap (BitVec.toNat (BitVec.ofInt k.bits x ^^^ BitVec.ofInt k.bits y))
def andnV (k : IntKind) (x y : Int) : Int := k.wrap (BitVec.toNat (BitVec.ofInt k.bits x &&& ~~~ BitVec.ofInt k.bits y))
def strEq (x y : ByteArray) : Bool := x.toList == y.toList
def minV (x y : Int) : Int := if y < x then y else x
def maxV (x y : Int) : Int := if y > x then y else x
def catS (x y : ByteArray) (K : ByteArray → Prop) : Prop := x.size + y.size ≤ 9223372036854775807 ∧ K (x ++ y)
def byteVals (s : ByteArray) : List Value := s.data.toList.map fun b => Value.int .u8 b.toNat
/-- the cells that a slice's elements take -/
def rdS (x : Sl) (size : Nat) (h : Heap) (K : List Value → Prop) : Prop :=
  (x.len = 0 ∧ K []) ∨ ∃ b o l, x.ptr = some ⟨b, o, none⟩ ∧ l.length = x.len * size ∧ h.has b o l ∧ K l
def zerosL (zs : List Value) (n : Nat) : List Value := (List.replicate n zs).flatten
def app (elem : TypeId) (size bytes : Nat) (zs : List Value) (s : Sl) (n : Nat) (new : List Value) (h : Heap) (K : Sl → Heap → Prop) : Prop :=
  (s.len + n ≤ s.cap →
    (new = [] ∧ K ⟨s.ptr, s.len + n, s.cap⟩ h) ∨
    (∃ b o, s.ptr = some ⟨b, o, none⟩ ∧ h.free b (o + s.len * size) new.length ∧ new.all oneCell = true ∧ K ⟨s.ptr, s.len + n, s.cap⟩ (h.puts b (o + s.len * size) new))) ∧
  (s.cap < s.len + n → (s.len + n) * bytes ≤ 140737488355328 ∧ s.len + n ≤ 140737488355328 ∧ rdS s size h fun old =>
    ∀ cap, s.len + n ≤ cap → cap < 9223372036854775808 →
      K ⟨some ⟨h.size, 0, none⟩, s.len + n, cap⟩ (h.push (.cells (old ++ new ++ zerosL zs (cap - (s.len + n))).toArray elem)))
def mkS (elem : TypeId) (bytes : Nat) (zs : List Value) (l c : Int) (h : Heap) (K : Sl → Heap → Prop) : Prop :=
  0 ≤ l ∧ l ≤ c ∧ c * bytes ≤ 281474976710656 ∧ c ≤ 281474976710656 ∧
    K ⟨some ⟨h.size, 0, none⟩, l.toNat, c.toNat⟩ (h.push (.cells (zerosL zs c.toNat).toArray elem))
def b2s (x : Sl) (h : Heap) (K : ByteArray → Prop) : Prop :=
  (x.len = 0 ∧ K ByteArray.empty) ∨ ∃ b o s, x.ptr = some ⟨b, o, none⟩ ∧ s.size = x.len ∧ h.has b o (byteVals s) ∧ K s
def s2b (elem : TypeId) (s : ByteArray) (h : Heap) (K : Sl → Heap → Prop) : Prop :=
  s.size < 9223372036854775808 ∧ ∀ cap, s.size ≤ cap → cap < 9223372036854775808 →
    K ⟨some ⟨h.size, 0, none⟩, s.size, cap⟩ (h.push (.cells (byteVals s ++ List.replicate (cap - s.size) (Value.int .u8 0)).toArray elem (cap, cap + 1)))
def Heap.frz (h : Heap) (b : Nat) : Heap :=
  h.modify b fun
    | .cells c e _ => .cells c e (c.size, c.size + 1)
    | x => x
/-- a constant text's bytes: the mark behind their end -/
def mark8 (p : Option Addr) (h : Heap) (K : Heap → Prop) : Prop :=
  ∃ b o c e, p = some ⟨b, o, none⟩ ∧ h[b]? = some (.cells c e (0, 0)) ∧ K (h.frz b)
def cpy (d : Sl) (new : List Value) (h : Heap) (K : Heap → Prop) : Prop :=
  (d.ptr = none ∧ K h) ∨
  (∃ b o, d.ptr = some ⟨b, o, none⟩ ∧ h.free b o new.length ∧ new.all oneCell = true ∧ K (h.puts b o new))

/-- a new block -/
def newC (h : Heap) (cells : List Value) (t : TypeId) (K : Nat → Heap → Prop) : Prop := K h.size (h.push (.cells cells.toArray t))

/-! maps of plain keys -/
def mapGet (d : TypeDesc) (h : Heap) (m : Option Nat) (key : Value) (K : Option Value → Prop) : Prop :=
  (m = none → K none) ∧ ∀ b, m = some b → ∃ es c r, h[b]? = some (.map es c) ∧ Instr.findNow d key es.toList 0 = some r ∧ K (r.map (·.2))
/-! maps whose keys are structs of plain fields -/
def isLeafs : List TypeDesc → List Value → Prop
  | [], [] => True
  | d :: ds, v :: vs => MapKept.IsKey d v ∧ isLeafs ds vs
  | _, _ => False
def IsAggKey (ds : List TypeDesc) (v : Value) : Prop := ∃ cs : List Value, v = .agg cs.toArray ∧ isLeafs ds cs
def leafEq : Value → Value → Bool
  | .int _ a, .int _ b => a == b
  | .string a, .string b => strEq a b
  | .bool a, .bool b => a == b
  | _, _ => false
def leafsEq : List Value → List Value → Bool
  | [], [] => true
  | v :: vs, w :: ws => bif leafEq v w then leafsEq vs ws else false
  | _, _ => false
def aggEq (k : List Value) : Value → Bool
  | .agg cs => leafsEq k cs.toList
  | _ => false
def findA (k : List Value) : List MapEntry → Nat → Option (Nat × Value)
  | [], _ => none
  | e :: es, i => bif aggEq k e.key then some (i, e.val) else findA k es (i + 1)
def mapGetA (ds : List TypeDesc) (h : Heap) (m : Option Nat) (key : List Value) (K : Option Value → Prop) : Prop :=
  (m = none → K none) ∧ ∀ b, m = some b → ∃ es c, h[b]? = some (.map es c) ∧ (∀ x, x ∈ es.toList → IsAggKey ds x.key) ∧ K ((findA key es.toList 0).map (·.2))
def asI (v : Value) (k : IntKind) (K : Int → Prop) : Prop := ∃ n, v = .int k n ∧ K n
def asB (v : Value) (K : Bool → Prop) : Prop := ∃ x, v = .bool x ∧ K x
def asS (v : Value) (K : ByteArray → Prop) : Prop := ∃ x, v = .string x ∧ K x
def asP (v : Value) (K : Option Addr → Prop) : Prop := ∃ x, v = .pointer x ∧ K x
def asL (v : Value) (K : Sl → Prop) : Prop := ∃ x : Sl, v = .slice x.ptr x.len x.cap ∧ K x
def asM (v : Value) (K : Option Nat → Prop) : Prop := ∃ x, v = .map x ∧ K x
def asT (v : Value) (t : TypeId) (K : Value → Prop) : Prop := ∃ x, v = .iface t x ∧ K x
def newMap (h : Heap) (K : Nat → Heap → Prop) : Prop := K h.size (h.push (.map #[] 0))
def putO (es : Array MapEntry) (c : Nat) (key v : Value) : Option (Nat × Value) → Obj
  | some (i, _) => .map (es.modify i fun e => { e with key := key, val := v }) c
  | none => .map (es.push { key := key, val := v, born := c }) (c + 1)
def mapPut (d : TypeDesc) (h : Heap) (m : Option Nat) (key v : Value) (K : Heap → Prop) : Prop :=
  ∃ b es c r, m = some b ∧ h[b]? = some (.map es c) ∧ (∀ x, x ∈ es.toList → MapKept.IsKey d x.key) ∧ Instr.findNow d key es.toList 0 = some r ∧ K (h.setIfInBounds b (putO es c key v r))
def mapPutA (ds : List TypeDesc) (h : Heap) (m : Option Nat) (key : List Value) (v : Value) (K : Heap → Prop) : Prop :=
  ∃ b es c, m = some b ∧ h[b]? = some (.map es c) ∧ (∀ x, x ∈ es.toList → IsAggKey ds x.key) ∧ K (h.setIfInBounds b (putO es c (.agg key.toArray) v (findA key es.toList 0)))
def delO (es : Array MapEntry) (c : Nat) : Option (Nat × Value) → Obj
  | some (i, _) => .map (es.eraseIdxIfInBounds i) c
  | none => .map es c
def mapDel (d : TypeDesc) (h : Heap) (m : Option Nat) (key : Value) (K : Heap → Prop) : Prop :=
  (m = none → K h) ∧ ∀ b, m = some b → ∃ es c r, h[b]? = some (.map es c) ∧ Instr.findNow d key es.toList 0 = some r ∧ K (h.setIfInBounds b (delO es c r))
def clrM (h : Heap) (m : Option Nat) (K : Heap → Prop) : Prop :=
  (m = none → K h) ∧ ∀ b, m = some b → ∃ es c, h[b]? = some (.map es c) ∧ K (h.setIfInBounds b (.map #[] c))
/-- a row's cells become zero -/
def clrS (s : Sl) (zs : List Value) (h : Heap) (K : Heap → Prop) : Prop :=
  (s.ptr = none ∧ K h) ∨ (s.len = 0 ∧ K h) ∨
  ∃ b o, s.ptr = some ⟨b, o, none⟩ ∧ h.free b o (zerosL zs s.len).length ∧ (zerosL zs s.len).all oneCell = true ∧ K (h.puts b o (zerosL zs s.len))
/-- a range over a map: the iterator, which of the entries left comes next, what it holds -/
def rgM (h : Heap) (m : Option Nat) (K : Nat → Heap → Prop) : Prop :=
  (m = none → K h.size (h.push (.mapIter none 0 #[] 0))) ∧ ∀ b, m = some b → ∃ es c, h[b]? = some (.map es c) ∧ K h.size (h.push (.mapIter (some b) c #[] c))
def nextM (h : Heap) (r : Nat) (T : Value → Value → Heap → Prop) (F : Prop) : Prop :=
  (∃ s seen c, h[r]? = some (.mapIter none s seen c) ∧ F) ∨
  ∃ bm since seen c0 es clock, h[r]? = some (.mapIter (some bm) since seen c0) ∧ h[bm]? = some (.map es clock) ∧ (∀ x, x ∈ es.toList → x.born < since) ∧ since ≤ c0 ∧
    ((leftOf es seen).size = 0 → F) ∧ ∀ e, e ∈ (leftOf es seen).toList → T e.key e.val (h.setIfInBounds r (.mapIter (some bm) since (seen.push e.born) clock))
def entM (h : Heap) (r : Nat) (K : Value → Value → Prop) : Prop :=
  ∃ (bm since : Nat) (seen : Array Nat) (es : Array MapEntry) (clock : Nat) (e : MapEntry), h[r]? = some (.mapIter (some bm) since (seen.push e.born) clock) ∧ h[bm]? = some (.map es clock) ∧ e ∈ es.toList ∧ (es.toList.map (·.born)).Nodup ∧ K e.key e.val
/-- a value that is made so -/
def exG {ρ : Type} (v : Value) (mk : ρ → Value) (K : ρ → Prop) : Prop := ∃ r, v = mk r ∧ K r
def lenM (h : Heap) (m : Option Nat) (K : Int → Prop) : Prop :=
  (m = none → K 0) ∧ ∀ b, m = some b → ∃ es c, h[b]? = some (.map es c) ∧ K (es.size : Int)
def cloneM (x : Value) (h : Heap) (K : Value → Heap → Prop) : Prop :=
  ∃ t b es c, x = .iface t (.map (some b)) ∧ h[b]? = some (.map es c) ∧ K (.iface t (.map (some h.size))) (h.push (.map es c))

/-- a call whose answer and memory hang on nothing that an order could turn -/
def qcall {ρ : Type} (m : (ρ → Heap → Prop) → Heap → Prop) (h : Heap) (K : ρ → Prop) : Prop :=
  ∃ r, m (fun r' h' => r' = r ∧ h' = h) h ∧ K r

/-- cells that hold what was loaded from them -/
def heldL (h : Heap) : List (Nat × Nat × Value) → Prop
  | [] => True
  | (b, o, v) :: r => h.cell b o = some v ∧ heldL h r
/-- in whichever of two orders -/
def bothP (A B : Prop) : Prop := A ∧ B

/-- a range over a function: the loop's record, at its states -/
def recSt (r : Loop) (st : LoopState) (p : Option Code) : Obj := .loop { r with state := st, pending := p }
/-- the record as it lies, with what is asked of it -/
def isRec (h : Heap) (l : Nat) (r : Loop) (st : LoopState) (p : Option Code) (K : Prop) : Prop := h[l]? = some (recSt r st p) ∧ K
def setO (h : Heap) (l : Nat) (o : Obj) : Heap := h.setIfInBounds l o
/-- what the rounds' function is handed: which yield, with what, how it goes on -/
abbrev Yld := Nat → List Value → (Bool → Heap → Prop) → Heap → Prop
/-- a round: the record was ready, is busy, and is ready again, or done, with the jump that is pending -/
def yieldM (r : Loop) (l : Nat) (n : Nat) (body : List Value → Heap → (Option Code → Heap → Prop) → Prop) : Yld := fun l' vs k h =>
  l' = l ∧ vs.length = n ∧ isRec h l r .ready none (
    body vs h fun p h' => isRec h' l r .busy none (k p.isNone (setO h' l (recSt r (if p.isNone then .ready else .done) p))))
/-- where the assignments to the loop's left sides are over: the record becomes busy -/
def busyM (r : Loop) (l : Nat) (h : Heap) (K : Heap → Prop) : Prop := isRec h l r .ready none (K (setO h l (recSt r .busy none)))
/-- a range over a function, outermost: the block for deferred calls at h.size, the record behind it -/
def rangeM (n : Nat) (it : Yld → Nat → (Heap → Prop) → Heap → Prop) (body : Nat → Loop → List Value → Heap → (Option Code → Heap → Prop) → Prop) (h : Heap) (K : Option Code → Nat → Heap → Prop) : Prop :=
  ∀ r : Loop, it (yieldM r (h.size + 1) n (body (h.size + 1) r)) (h.size + 1)
    (fun h' => ∃ st p, st ≠ .busy ∧ isRec h' (h.size + 1) r st p (K p h.size (setO h' (h.size + 1) (recSt r .exhausted p)))) ((h.push (.deferred (some []))).push (recSt r .ready none))
/-- the jump that a round has left behind -/
def jumpP (p : Option Code) (N : Prop) (X : Nat → Prop) (R : Prop) : Prop := match p with
  | none => N
  | some (.exit id) => X id
  | some .ret => R
  | _ => False
/-- a round's arguments, by their types -/
def argsV {ρ : Type} (mk : ρ → List Value) (vs : List Value) (K : ρ → Prop) : Prop := ∃ r, vs = mk r ∧ K r
/-- the block for deferred calls is shut -/
def shutM (D : Nat) (h : Heap) (K : Heap → Prop) : Prop := h[D]? = some (.deferred (some [])) ∧ K (setO h D (.deferred none))

def loopM {σ : Type} (body : (σ → Heap → Prop) → σ → Heap → Prop) (s : σ) (h : Heap) : Prop :=
  ∃ (I : σ → Heap → Prop) (μ : σ → Heap → Nat), I s h ∧ ∀ s h, I s h → body (fun s' h' => I s' h' ∧ μ s' h' < μ s h) s h
def cutP {σ : Type} (rest : σ → Heap → Prop) (pre : (σ → Heap → Prop) → Prop) : Prop :=
  ∃ J : σ → Heap → Prop, (∀ s h, J s h → rest s h) ∧ pre J

theorem loopM_intro {σ : Type} {body : (σ → Heap → Prop) → σ → Heap → Prop} {s : σ} {h : Heap} (I : σ → Heap → Prop) (μ : σ → Heap → Nat)
    (h0 : I s h) (hr : ∀ s h, I s h → body (fun s' h' => I s' h' ∧ μ s' h' < μ s h) s h) : loopM body s h := ⟨I, μ, h0, hr⟩
theorem cutP_intro {σ : Type} {rest : σ → Heap → Prop} {pre : (σ → Heap → Prop) → Prop} (J : σ → Heap → Prop)
    (h1 : ∀ s h, J s h → rest s h) (h2 : pre J) : cutP rest pre := ⟨J, h1, h2⟩
theorem cutP_self {σ : Type} {rest : σ → Heap → Prop} {pre : (σ → Heap → Prop) → Prop} (h : pre rest) : cutP rest pre := ⟨rest, fun _ _ h => h, h⟩

end Go.Fw
