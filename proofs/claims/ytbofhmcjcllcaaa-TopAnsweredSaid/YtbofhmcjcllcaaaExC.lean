/- maps.Keys and slices.Sorted, by the shelf's contracts. -/
import Derived.Test.YtbofhmcjcllcaaaExM
import Derived.Test.YtbofhmcjcllcaaaFwM
import Derived.Shelf.SlIterI.Nil
import Derived.Shelf.SortM.Plain
import Derived.Shelf.SortM.SortNone
import Derived.Maps.OwnSet
import Derived.Test.YtbofhmcjcllcaaaProg
import Derived.KernelRfl
namespace Go.Proofs.Ytbofhmcjcllcaaa
open Go Go.Fw
open Go.RowKit Go.Maps Go.Sort Go.Shelf

def Try.keysA_ren : Go.Shelf.Ren := ⟨fun | 7 => 33 | 10 => 48 | n => n, fun | 23 => 77 | 26 => 3 | 3 => 3 | 28 => 94 | 0 => 0 | 27 => 93 | 33 => 104 | 4 => 4 | n => n, fun | n => n⟩

theorem Try.keysA : Go.Proofs.SlLaysZI.n7 Try.prog Try.keysA_ren := {
  mixed := by kernel_rfl,
  f7 := ⟨Try.f33.name, by decide, Try.func33.trans (congrArg some (by kernel_rfl))⟩,
  f10 := ⟨Try.f48.name, by decide, Try.func48.trans (congrArg some (by kernel_rfl))⟩,
  t0 := Try.underlying0,
  a0 := Try.isAgg0,
  z0 := Try.sizeOf0,
  v0 := Try.zeroValue0,
  t4 := Try.underlying4,
  a4 := Try.isAgg4,
  z4 := Try.sizeOf4,
  v4 := Try.zeroValue4,
  t23 := Try.underlying77,
  a23 := Try.isAgg77,
  z23 := Try.sizeOf77,
  v23 := Try.zeroValue77,
  t26 := Try.underlying3,
  a26 := Try.isAgg3,
  z26 := Try.sizeOf3,
  v26 := Try.zeroValue3,
  t27 := Try.underlying93,
  a27 := Try.isAgg93,
  z27 := Try.sizeOf93,
  v27 := Try.zeroValue93,
  t28 := Try.underlying94,
  a28 := Try.isAgg94,
  z28 := Try.sizeOf94,
  v28 := Try.zeroValue94,
  t33 := Try.underlying104,
  a33 := Try.isAgg104,
  z33 := Try.sizeOf104,
  v33 := Try.zeroValue104 }

def Try.sortedA_ren : Go.Shelf.Ren := ⟨fun | 6 => 32 | 8 => 46 | 9 => 47 | 11 => 58 | 13 => 60 | 12 => 59 | 23 => 71 | 24 => 72 | 14 => 62 | 15 => 63 | 16 => 64 | 17 => 65 | 18 => 66 | 19 => 67 | 20 => 68 | 21 => 69 | 22 => 70 | 25 => 73 | 26 => 74 | 27 => 75 | 28 => 76 | 29 => 77 | 30 => 78 | 31 => 79 | n => n, fun | 26 => 3 | 28 => 94 | 24 => 23 | 0 => 0 | 3 => 3 | 37 => 87 | 48 => 139 | 50 => 128 | 4 => 4 | 40 => 132 | 39 => 131 | 45 => 113 | 5 => 5 | 9 => 9 | 51 => 141 | 55 => 145 | 57 => 147 | 58 => 148 | 33 => 104 | n => n, fun | n => n⟩

theorem Try.sortedA : Go.Proofs.SlLaysZI.n6 Try.prog Try.sortedA_ren := {
  mixed := by kernel_rfl,
  f6 := ⟨Try.f32.name, by decide, Try.func32.trans (congrArg some (by kernel_rfl))⟩,
  f8 := ⟨Try.f46.name, by decide, Try.func46.trans (congrArg some (by kernel_rfl))⟩,
  f11 := ⟨Try.f58.name, by decide, Try.func58.trans (congrArg some (by kernel_rfl))⟩,
  t0 := Try.underlying0,
  a0 := Try.isAgg0,
  z0 := Try.sizeOf0,
  v0 := Try.zeroValue0,
  t24 := Try.underlying23,
  a24 := Try.isAgg23,
  z24 := Try.sizeOf23,
  v24 := Try.zeroValue23,
  t26 := Try.underlying3,
  a26 := Try.isAgg3,
  z26 := Try.sizeOf3,
  v26 := Try.zeroValue3,
  t28 := Try.underlying94,
  a28 := Try.isAgg94,
  z28 := Try.sizeOf94,
  v28 := Try.zeroValue94,
  i26 := by kernel_rfl }

def Try.sortA_ren : Go.Shelf.Ren := ⟨fun | 5 => 47 | 8 => 60 | 7 => 59 | 19 => 71 | 20 => 72 | 10 => 62 | 11 => 63 | 12 => 64 | 13 => 65 | 14 => 66 | 15 => 67 | 16 => 68 | 17 => 69 | 18 => 70 | 30 => 73 | 31 => 74 | 32 => 75 | 33 => 76 | 34 => 77 | 35 => 78 | 40 => 79 | n => n, fun | 23 => 23 | 25 => 3 | 3 => 3 | 32 => 87 | 22 => 23 | 0 => 0 | 44 => 139 | 46 => 128 | 4 => 4 | 36 => 132 | 35 => 131 | 41 => 113 | 5 => 5 | 9 => 9 | 53 => 141 | 57 => 145 | 63 => 147 | 64 => 148 | n => n, fun | n => n⟩

theorem Try.sortA : Go.Proofs.SlLaysM.n5 Try.prog Try.sortA_ren := {
  mixed := by kernel_rfl,
  f5 := ⟨Try.f47.name, by decide, Try.func47.trans (congrArg some (by kernel_rfl))⟩,
  f7 := ⟨Try.f59.name, by decide, Try.func59.trans (congrArg some (by kernel_rfl))⟩,
  f8 := Try.func60.trans (congrArg some (by kernel_rfl)),
  f10 := ⟨Try.f62.name, by decide, Try.func62.trans (congrArg some (by kernel_rfl))⟩,
  f11 := ⟨Try.f63.name, by decide, Try.func63.trans (congrArg some (by kernel_rfl))⟩,
  f12 := ⟨Try.f64.name, by decide, Try.func64.trans (congrArg some (by kernel_rfl))⟩,
  f13 := ⟨Try.f65.name, by decide, Try.func65.trans (congrArg some (by kernel_rfl))⟩,
  f14 := ⟨Try.f66.name, by decide, Try.func66.trans (congrArg some (by kernel_rfl))⟩,
  f15 := ⟨Try.f67.name, by decide, Try.func67.trans (congrArg some (by kernel_rfl))⟩,
  f16 := ⟨Try.f68.name, by decide, Try.func68.trans (congrArg some (by kernel_rfl))⟩,
  f17 := ⟨Try.f69.name, by decide, Try.func69.trans (congrArg some (by kernel_rfl))⟩,
  f18 := ⟨Try.f70.name, by decide, Try.func70.trans (congrArg some (by kernel_rfl))⟩,
  f19 := Try.func71.trans (congrArg some (by kernel_rfl)),
  f20 := Try.func72.trans (congrArg some (by kernel_rfl)),
  f30 := ⟨Try.f73.name, by decide, Try.func73.trans (congrArg some (by kernel_rfl))⟩,
  f31 := Try.func74.trans (congrArg some (by kernel_rfl)),
  f32 := Try.func75.trans (congrArg some (by kernel_rfl)),
  f33 := ⟨Try.f76.name, by decide, Try.func76.trans (congrArg some (by kernel_rfl))⟩,
  f34 := ⟨Try.f77.name, by decide, Try.func77.trans (congrArg some (by kernel_rfl))⟩,
  f35 := ⟨Try.f78.name, by decide, Try.func78.trans (congrArg some (by kernel_rfl))⟩,
  f40 := ⟨Try.f79.name, by decide, Try.func79.trans (congrArg some (by kernel_rfl))⟩,
  t0 := Try.underlying0,
  a0 := Try.isAgg0,
  z0 := Try.sizeOf0,
  v0 := Try.zeroValue0,
  t3 := Try.underlying3,
  a3 := Try.isAgg3,
  z3 := Try.sizeOf3,
  v3 := Try.zeroValue3,
  t4 := Try.underlying4,
  a4 := Try.isAgg4,
  z4 := Try.sizeOf4,
  v4 := Try.zeroValue4,
  t5 := Try.underlying5,
  a5 := Try.isAgg5,
  z5 := Try.sizeOf5,
  v5 := Try.zeroValue5,
  t9 := Try.underlying9,
  a9 := Try.isAgg9,
  z9 := Try.sizeOf9,
  v9 := Try.zeroValue9,
  t22 := Try.underlying23,
  a22 := Try.isAgg23,
  z22 := Try.sizeOf23,
  v22 := Try.zeroValue23,
  t23 := Try.underlying23,
  a23 := Try.isAgg23,
  z23 := Try.sizeOf23,
  v23 := Try.zeroValue23,
  t25 := Try.underlying3,
  a25 := Try.isAgg3,
  z25 := Try.sizeOf3,
  v25 := Try.zeroValue3,
  t32 := Try.underlying87,
  a32 := Try.isAgg87,
  z32 := Try.sizeOf87,
  v32 := Try.zeroValue87,
  t35 := Try.underlying131,
  a35 := Try.isAgg131,
  z35 := Try.sizeOf131,
  v35 := Try.zeroValue131,
  t36 := Try.underlying132,
  a36 := Try.isAgg132,
  z36 := Try.sizeOf132,
  v36 := Try.zeroValue132,
  t41 := Try.underlying113,
  a41 := Try.isAgg113,
  z41 := Try.sizeOf113,
  v41 := Try.zeroValue113,
  t44 := Try.underlying139,
  a44 := Try.isAgg139,
  z44 := Try.sizeOf139,
  v44 := Try.zeroValue139,
  t46 := Try.underlying128,
  a46 := Try.isAgg128,
  z46 := Try.sizeOf128,
  v46 := Try.zeroValue128,
  t53 := Try.underlying141,
  a53 := Try.isAgg141,
  z53 := Try.sizeOf141,
  v53 := Try.zeroValue141,
  t57 := Try.underlying145,
  a57 := Try.isAgg145,
  z57 := Try.sizeOf145,
  v57 := Try.zeroValue145,
  t63 := Try.underlying147,
  a63 := Try.isAgg147,
  z63 := Try.sizeOf147,
  v63 := Try.zeroValue147,
  t64 := Try.underlying148,
  a64 := Try.isAgg148,
  z64 := Try.sizeOf148,
  v64 := Try.zeroValue148 }

theorem sortsA (m : Nat) : AnyZI.SortsIn Try.prog Try.sortedA_ren Fence.wide m :=
  ⟨fun blk off cap ss W hH hblk hsz => callsIn_wide.2 (AnyM.slices_Sort_int Try.sortA blk off cap ss W hH hblk hsz),
   fun p cap W => callsIn_wide.2 (AnyM.slices_Sort_int_none Try.sortA p cap W)⟩

theorem keys_calls (m : Option Nat) (w : World) : Calls Try.prog 33 #[.map m] w fun e w' => e = .returned (.func (.func 48) #[] #[.pointer (some ⟨w.heap.size, 0, none⟩)]) ∧ w' = w.alloc (.cells #[.map m] 77) :=
  (callsIn_wide (n := 5)).1 (AnyZI.keys_in Try.keysA Fence.wide 5 trivial rfl m w)

def anyR (_ : Value) : Option (DataW Unit × List MemPlace) := some (.nil, [])

theorem rise_own {w : World} {m : Nat} {l : List Int} (hR : Rising w.heap m l) (hlen : l.length * 8 ≤ 140737488355328) :
    ∃ (n : Nat) (D : DataW Unit), w.ownsMap Try.prog 3 anyR m n D ∧ Maps.size D = l.length ∧ (intKeys D).Perm l := by
  obtain ⟨es, clk, hm, hst, hk, hp, hb⟩ := hR
  have hu : Try.prog.underlying 3 = some (.int .i64) := Try.underlying3
  have hes : es.size = l.length := by
    have := congrArg List.length hk
    simpa using this
  have hkey : ∀ x ∈ es.toList, ∃ n : Int, x.key = .int .i64 n ∧ (Lit.int .i64 n).wf = true := fun x hx => by
    have : x.key ∈ l.map (Value.int .i64) := by rw [← hk]; exact List.mem_map_of_mem hx
    obtain ⟨n, hn, hn'⟩ := List.mem_map.1 this
    refine ⟨n, hn'.symm, ?_⟩
    have := hb n hn
    simp only [Lit.wf, Bool.and_eq_true, decide_eq_true_eq]
    have h1 : IntKind.i64.min = -9223372036854775808 := by decide
    have h2 : IntKind.i64.max = 9223372036854775807 := by decide
    omega
  have hrg : ∀ x ∈ es.toList, ∃ n : Int, x.key = .int .i64 n ∧ WideElems.rd Try.prog 3 anyR x = some (.int .i64 n, .nil) := fun x hx => by
    obtain ⟨n, hn, hw⟩ := hkey x hx
    refine ⟨n, hn, ?_⟩
    unfold WideElems.rd
    rw [hn, keyOf_int_mk hu hw]
    rfl
  have F : WideElems.Fit Try.prog 3 anyR es clk := ⟨by unfold maxLen; omega, hst, fun x hx => by
    obtain ⟨n, _, h⟩ := hrg x hx
    exact ⟨_, h⟩⟩
  refine ⟨es.size, _, World.ownsMap_of_fit hm F fun _ _ _ h => h, ?_, ?_⟩
  · show (List.foldr DataW.insert [] _).length = _
    rw [(WideShapes.sorted_perm _).length_eq]
    simp [hes]
  · show (List.map (fun p => Go.intOf p.1) (List.foldr DataW.insert [] _)).Perm l
    refine ((WideShapes.sorted_perm _).map _).trans ?_
    have : (es.toList.map (WideElems.rg Try.prog 3 anyR)).map (fun p => Go.intOf p.1) = l := by
      refine (List.map_inj_right (f := Value.int .i64) (fun a b h => by simpa using h)).1 ?_
      rw [← hk, List.map_map, List.map_map]
      refine List.map_congr_left fun x hx => ?_
      obtain ⟨n, hn, h⟩ := hrg x hx
      simp only [Function.comp_apply, WideElems.rg, h, hn]
      rfl
    rw [this]

theorem sorted_calls {w : World} {b m : Nat} {l : List Int} (hc : Heap.cell w.heap b 0 = some (.map (some m))) (hR : Rising w.heap m l) (hlen : l.length * 8 ≤ 140737488355328) :
    Calls Try.prog 32 #[.func (.func 48) #[] #[.pointer (some ⟨b, 0, none⟩)]] w fun e w' => ∃ v, e = .returned v ∧ w'.ownsRow w.heap.size 3 1 v l.length (l.map encZ) ∧ Below w.heap.size w w' := by
  obtain ⟨n, D, hown, hsz, hperm⟩ := rise_own hR hlen
  have hbl : b < w.heap.size := by
    rcases Nat.lt_or_ge b w.heap.size with h9 | h9
    · exact h9
    · unfold Heap.cell at hc
      rw [Array.getElem?_eq_none h9] at hc
      cases hc
  have hcell : w.cell? ⟨b, 0, none⟩ = some (.map (some m)) := by rw [cell_eq]; exact hc
  have hseq : SeqGives Fence.wide 2 Try.prog 48 #[.pointer (some ⟨b, 0, none⟩)] encZ (fun ss => ss.Perm (intKeys D)) (Maps.size D) w :=
    AnyZI.keys_gives (ρ := Try.keysA_ren) { Try.keysA with } Fence.wide _ trivial rfl (by omega) b m n D w hbl hcell hown
  have cS := AnyZI.sorted_in Try.sortedA Fence.wide 5 trivial trivial trivial trivial rfl (by omega) (sortsA _) (enters_of Try.func47 (by kernel_rfl) rfl) 48 #[.pointer (some ⟨b, 0, none⟩)] trivial (enters_of Try.func48 (by kernel_rfl) rfl) _ _ (by rw [hsz]; unfold maxLen; omega) (by rw [hsz]; exact hlen) _ hseq
  change CallsIn _ _ Try.prog 32 _ _ _ at cS
  refine ((callsIn_wide (n := 5)).1 cS).mono ?_
  rintro e w' ⟨v, ss, rfl, hS, hrow, _, hb⟩
  refine ⟨v, rfl, ?_, hb⟩
  have hp : ss.Perm l := hS.trans hperm
  rw [mergeSort_of_perm_i hp] at hrow
  have hsort : l.mergeSort leI = l := List.mergeSort_of_pairwise (by
    obtain ⟨_, _, _, _, _, h, _⟩ := hR
    exact h.imp fun hab => by simp; omega)
  rw [hsort, hp.length_eq] at hrow
  exact hrow

noncomputable def s_maps_Keys_map_int_int_int_int_ : CallSpec := ⟨[.one (.M)], [.one (.V)], fun t K h => m_maps_Keys_map_int_int_int_int_ t.1 (fun r0 h => K (r0, ()) h) h⟩
theorem ok_maps_Keys_map_int_int_int_int_ : CallOK Try.prog 33 s_maps_Keys_map_int_int_int_int_ where
  named := ⟨_, Try.func33, by kernel_rfl, by kernel_rfl⟩
  calls t K w hk := by
    refine (keys_calls t.1 w).mono ?_
    rintro e w' ⟨rfl, rfl⟩
    exact ⟨(_, ()), rfl, ⟨rfl, rfl, rfl⟩, hk⟩

noncomputable def s_slices_Sorted_int_ : CallSpec := ⟨[.one (.V)], [.one (.L)], fun t K h => m_slices_Sorted_int_ t.1 (fun r0 h => K (r0, ()) h) h⟩
theorem ok_slices_Sorted_int_ : CallOK Try.prog 32 s_slices_Sorted_int_ where
  named := ⟨_, Try.func32, by kernel_rfl, by kernel_rfl⟩
  calls t K w hk := by
    obtain ⟨x, u⟩ := t
    obtain ⟨b, m, l, hx, hc, hR, hlen, hk⟩ := hk
    dsimp only at hx
    subst hx
    refine (sorted_calls hc hR hlen).mono ?_
    rintro e w' ⟨v, rfl, hrow, hb⟩
    have hx : Ext w.heap w'.heap := ⟨hb.size, hb.block⟩
    have hs : Fw.Same w w' := ⟨hb.tape, hb.os, hb.output⟩
    rcases hrow with ⟨h1, ⟨rfl, h0⟩ | ⟨g, cap, cur, rfl, hg, hcur, hn, hcap, hsz, htk⟩⟩
    · refine ⟨(⟨none, 0, 0⟩, ()), rfl, hs, hk _ _ ⟨?_, Nat.le_refl _, by decide, .inl ⟨rfl, rfl⟩⟩ hx⟩
      rw [h1, h0]
    · refine ⟨(⟨some ⟨g, 0, none⟩, l.length, cap⟩, ()), rfl, hs, hk _ _ ⟨h1, hn, ?_, .inr ⟨g, cur, _, rfl, hg, hcur, hsz, htk.symm⟩⟩ hx⟩
      unfold maxLen at hcap
      show cap < _
      omega

end Go.Proofs.Ytbofhmcjcllcaaa
