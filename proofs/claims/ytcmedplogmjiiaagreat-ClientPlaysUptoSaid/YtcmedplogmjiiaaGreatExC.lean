/- maps.Keys and slices.Sorted, by the shelf's contracts. -/
import Derived.Test.YtcmedplogmjiiaaGreatExM
import Derived.Test.YtcmedplogmjiiaaGreatFwM
import Derived.Shelf.SlIterI.Nil
import Derived.Shelf.SortM.Plain
import Derived.Shelf.SortM.SortNone
import Derived.Maps.OwnSet
import Derived.Test.YtcmedplogmjiiaaGreatProg
import Derived.KernelRfl
namespace Go.Proofs.YtcmedplogmjiiaaGreat
open Go Go.Fw
open Go.RowKit Go.Maps Go.Sort Go.Shelf

def Tryz.keysA_ren : Go.Shelf.Ren := ⟨fun | 7 => 48 | 10 => 77 | n => n, fun | 23 => 50 | 26 => 3 | 3 => 3 | 28 => 83 | 0 => 0 | 27 => 82 | 33 => 106 | 4 => 4 | n => n, fun | n => n⟩

theorem Tryz.keysA : Go.Proofs.SlLaysZI.n7 Tryz.prog Tryz.keysA_ren := {
  mixed := by kernel_rfl,
  f7 := ⟨Tryz.f48.name, by decide, Tryz.func48.trans (congrArg some (by kernel_rfl))⟩,
  f10 := ⟨Tryz.f77.name, by decide, Tryz.func77.trans (congrArg some (by kernel_rfl))⟩,
  t0 := Tryz.underlying0,
  a0 := Tryz.isAgg0,
  z0 := Tryz.sizeOf0,
  v0 := Tryz.zeroValue0,
  t4 := Tryz.underlying4,
  a4 := Tryz.isAgg4,
  z4 := Tryz.sizeOf4,
  v4 := Tryz.zeroValue4,
  t23 := Tryz.underlying50,
  a23 := Tryz.isAgg50,
  z23 := Tryz.sizeOf50,
  v23 := Tryz.zeroValue50,
  t26 := Tryz.underlying3,
  a26 := Tryz.isAgg3,
  z26 := Tryz.sizeOf3,
  v26 := Tryz.zeroValue3,
  t27 := Tryz.underlying82,
  a27 := Tryz.isAgg82,
  z27 := Tryz.sizeOf82,
  v27 := Tryz.zeroValue82,
  t28 := Tryz.underlying83,
  a28 := Tryz.isAgg83,
  z28 := Tryz.sizeOf83,
  v28 := Tryz.zeroValue83,
  t33 := Tryz.underlying106,
  a33 := Tryz.isAgg106,
  z33 := Tryz.sizeOf106,
  v33 := Tryz.zeroValue106 }

def Tryz.sortedA_ren : Go.Shelf.Ren := ⟨fun | 6 => 47 | 8 => 75 | 9 => 76 | 11 => 91 | 13 => 93 | 12 => 92 | 23 => 108 | 24 => 109 | 14 => 99 | 15 => 100 | 16 => 101 | 17 => 102 | 18 => 103 | 19 => 104 | 20 => 105 | 21 => 106 | 22 => 107 | 25 => 112 | 26 => 113 | 27 => 114 | 28 => 115 | 29 => 116 | 30 => 117 | 31 => 118 | n => n, fun | 26 => 3 | 28 => 83 | 24 => 44 | 0 => 0 | 3 => 3 | 37 => 126 | 48 => 141 | 50 => 130 | 4 => 4 | 40 => 134 | 39 => 133 | 45 => 111 | 5 => 5 | 9 => 9 | 51 => 146 | 55 => 150 | 57 => 153 | 58 => 154 | 33 => 106 | n => n, fun | n => n⟩

theorem Tryz.sortedA : Go.Proofs.SlLaysZI.n6 Tryz.prog Tryz.sortedA_ren := {
  mixed := by kernel_rfl,
  f6 := ⟨Tryz.f47.name, by decide, Tryz.func47.trans (congrArg some (by kernel_rfl))⟩,
  f8 := ⟨Tryz.f75.name, by decide, Tryz.func75.trans (congrArg some (by kernel_rfl))⟩,
  f11 := ⟨Tryz.f91.name, by decide, Tryz.func91.trans (congrArg some (by kernel_rfl))⟩,
  t0 := Tryz.underlying0,
  a0 := Tryz.isAgg0,
  z0 := Tryz.sizeOf0,
  v0 := Tryz.zeroValue0,
  t24 := Tryz.underlying44,
  a24 := Tryz.isAgg44,
  z24 := Tryz.sizeOf44,
  v24 := Tryz.zeroValue44,
  t26 := Tryz.underlying3,
  a26 := Tryz.isAgg3,
  z26 := Tryz.sizeOf3,
  v26 := Tryz.zeroValue3,
  t28 := Tryz.underlying83,
  a28 := Tryz.isAgg83,
  z28 := Tryz.sizeOf83,
  v28 := Tryz.zeroValue83,
  i26 := by kernel_rfl }

def Tryz.sortA_ren : Go.Shelf.Ren := ⟨fun | 5 => 76 | 8 => 93 | 7 => 92 | 19 => 108 | 20 => 109 | 10 => 99 | 11 => 100 | 12 => 101 | 13 => 102 | 14 => 103 | 15 => 104 | 16 => 105 | 17 => 106 | 18 => 107 | 30 => 112 | 31 => 113 | 32 => 114 | 33 => 115 | 34 => 116 | 35 => 117 | 40 => 118 | n => n, fun | 23 => 44 | 25 => 3 | 3 => 3 | 32 => 126 | 22 => 44 | 0 => 0 | 44 => 141 | 46 => 130 | 4 => 4 | 36 => 134 | 35 => 133 | 41 => 111 | 5 => 5 | 9 => 9 | 53 => 146 | 57 => 150 | 63 => 153 | 64 => 154 | n => n, fun | n => n⟩

theorem Tryz.sortA : Go.Proofs.SlLaysM.n5 Tryz.prog Tryz.sortA_ren := {
  mixed := by kernel_rfl,
  f5 := ⟨Tryz.f76.name, by decide, Tryz.func76.trans (congrArg some (by kernel_rfl))⟩,
  f7 := ⟨Tryz.f92.name, by decide, Tryz.func92.trans (congrArg some (by kernel_rfl))⟩,
  f8 := Tryz.func93.trans (congrArg some (by kernel_rfl)),
  f10 := ⟨Tryz.f99.name, by decide, Tryz.func99.trans (congrArg some (by kernel_rfl))⟩,
  f11 := ⟨Tryz.f100.name, by decide, Tryz.func100.trans (congrArg some (by kernel_rfl))⟩,
  f12 := ⟨Tryz.f101.name, by decide, Tryz.func101.trans (congrArg some (by kernel_rfl))⟩,
  f13 := ⟨Tryz.f102.name, by decide, Tryz.func102.trans (congrArg some (by kernel_rfl))⟩,
  f14 := ⟨Tryz.f103.name, by decide, Tryz.func103.trans (congrArg some (by kernel_rfl))⟩,
  f15 := ⟨Tryz.f104.name, by decide, Tryz.func104.trans (congrArg some (by kernel_rfl))⟩,
  f16 := ⟨Tryz.f105.name, by decide, Tryz.func105.trans (congrArg some (by kernel_rfl))⟩,
  f17 := ⟨Tryz.f106.name, by decide, Tryz.func106.trans (congrArg some (by kernel_rfl))⟩,
  f18 := ⟨Tryz.f107.name, by decide, Tryz.func107.trans (congrArg some (by kernel_rfl))⟩,
  f19 := Tryz.func108.trans (congrArg some (by kernel_rfl)),
  f20 := Tryz.func109.trans (congrArg some (by kernel_rfl)),
  f30 := ⟨Tryz.f112.name, by decide, Tryz.func112.trans (congrArg some (by kernel_rfl))⟩,
  f31 := Tryz.func113.trans (congrArg some (by kernel_rfl)),
  f32 := Tryz.func114.trans (congrArg some (by kernel_rfl)),
  f33 := ⟨Tryz.f115.name, by decide, Tryz.func115.trans (congrArg some (by kernel_rfl))⟩,
  f34 := ⟨Tryz.f116.name, by decide, Tryz.func116.trans (congrArg some (by kernel_rfl))⟩,
  f35 := ⟨Tryz.f117.name, by decide, Tryz.func117.trans (congrArg some (by kernel_rfl))⟩,
  f40 := ⟨Tryz.f118.name, by decide, Tryz.func118.trans (congrArg some (by kernel_rfl))⟩,
  t0 := Tryz.underlying0,
  a0 := Tryz.isAgg0,
  z0 := Tryz.sizeOf0,
  v0 := Tryz.zeroValue0,
  t3 := Tryz.underlying3,
  a3 := Tryz.isAgg3,
  z3 := Tryz.sizeOf3,
  v3 := Tryz.zeroValue3,
  t4 := Tryz.underlying4,
  a4 := Tryz.isAgg4,
  z4 := Tryz.sizeOf4,
  v4 := Tryz.zeroValue4,
  t5 := Tryz.underlying5,
  a5 := Tryz.isAgg5,
  z5 := Tryz.sizeOf5,
  v5 := Tryz.zeroValue5,
  t9 := Tryz.underlying9,
  a9 := Tryz.isAgg9,
  z9 := Tryz.sizeOf9,
  v9 := Tryz.zeroValue9,
  t22 := Tryz.underlying44,
  a22 := Tryz.isAgg44,
  z22 := Tryz.sizeOf44,
  v22 := Tryz.zeroValue44,
  t23 := Tryz.underlying44,
  a23 := Tryz.isAgg44,
  z23 := Tryz.sizeOf44,
  v23 := Tryz.zeroValue44,
  t25 := Tryz.underlying3,
  a25 := Tryz.isAgg3,
  z25 := Tryz.sizeOf3,
  v25 := Tryz.zeroValue3,
  t32 := Tryz.underlying126,
  a32 := Tryz.isAgg126,
  z32 := Tryz.sizeOf126,
  v32 := Tryz.zeroValue126,
  t35 := Tryz.underlying133,
  a35 := Tryz.isAgg133,
  z35 := Tryz.sizeOf133,
  v35 := Tryz.zeroValue133,
  t36 := Tryz.underlying134,
  a36 := Tryz.isAgg134,
  z36 := Tryz.sizeOf134,
  v36 := Tryz.zeroValue134,
  t41 := Tryz.underlying111,
  a41 := Tryz.isAgg111,
  z41 := Tryz.sizeOf111,
  v41 := Tryz.zeroValue111,
  t44 := Tryz.underlying141,
  a44 := Tryz.isAgg141,
  z44 := Tryz.sizeOf141,
  v44 := Tryz.zeroValue141,
  t46 := Tryz.underlying130,
  a46 := Tryz.isAgg130,
  z46 := Tryz.sizeOf130,
  v46 := Tryz.zeroValue130,
  t53 := Tryz.underlying146,
  a53 := Tryz.isAgg146,
  z53 := Tryz.sizeOf146,
  v53 := Tryz.zeroValue146,
  t57 := Tryz.underlying150,
  a57 := Tryz.isAgg150,
  z57 := Tryz.sizeOf150,
  v57 := Tryz.zeroValue150,
  t63 := Tryz.underlying153,
  a63 := Tryz.isAgg153,
  z63 := Tryz.sizeOf153,
  v63 := Tryz.zeroValue153,
  t64 := Tryz.underlying154,
  a64 := Tryz.isAgg154,
  z64 := Tryz.sizeOf154,
  v64 := Tryz.zeroValue154 }

theorem sortsA (m : Nat) : AnyZI.SortsIn Tryz.prog Tryz.sortedA_ren Fence.wide m :=
  ⟨fun blk off cap ss W hH hblk hsz => callsIn_wide.2 (AnyM.slices_Sort_int Tryz.sortA blk off cap ss W hH hblk hsz),
   fun p cap W => callsIn_wide.2 (AnyM.slices_Sort_int_none Tryz.sortA p cap W)⟩

theorem keys_calls (m : Option Nat) (w : World) : Calls Tryz.prog 48 #[.map m] w fun e w' => e = .returned (.func (.func 77) #[] #[.pointer (some ⟨w.heap.size, 0, none⟩)]) ∧ w' = w.alloc (.cells #[.map m] 50) :=
  (callsIn_wide (n := 5)).1 (AnyZI.keys_in Tryz.keysA Fence.wide 5 trivial rfl m w)

def anyR (_ : Value) : Option (DataW Unit × List MemPlace) := some (.nil, [])

theorem rise_own {w : World} {m : Nat} {l : List Int} (hR : Rising w.heap m l) (hlen : l.length * 8 ≤ 140737488355328) :
    ∃ (n : Nat) (D : DataW Unit), w.ownsMap Tryz.prog 3 anyR m n D ∧ Maps.size D = l.length ∧ (intKeys D).Perm l := by
  obtain ⟨es, clk, hm, hst, hk, hp, hb⟩ := hR
  have hu : Tryz.prog.underlying 3 = some (.int .i64) := Tryz.underlying3
  have hes : es.size = l.length := by
    have := congrArg List.length hk
    simpa using this
  have hkey : ∀ x ∈ es.toList, ∃ n : Int, x.key = .int .i64 n ∧ (Lit.int .i64 n).wf = true := fun x hx => by
    have : x.key ∈ l.map (Value.int .i64) := by rw [← hk]; exact List.mem_map_of_mem hx
    obtain ⟨n, hn, hn'⟩ := List.mem_map.1 this
    refine ⟨n, hn'.symm, ?_⟩
    have := hb n hn
    simp only [Lit.wf, Bool.and_eq_true, decide_eq_true_eq]
    have h1 : IntKind.i64.min = -9223372036854775808 := by decide
    have h2 : IntKind.i64.max = 9223372036854775807 := by decide
    omega
  have hrg : ∀ x ∈ es.toList, ∃ n : Int, x.key = .int .i64 n ∧ WideElems.rd Tryz.prog 3 anyR x = some (.int .i64 n, .nil) := fun x hx => by
    obtain ⟨n, hn, hw⟩ := hkey x hx
    refine ⟨n, hn, ?_⟩
    unfold WideElems.rd
    rw [hn, keyOf_int_mk hu hw]
    rfl
  have F : WideElems.Fit Tryz.prog 3 anyR es clk := ⟨by unfold maxLen; omega, hst, fun x hx => by
    obtain ⟨n, _, h⟩ := hrg x hx
    exact ⟨_, h⟩⟩
  refine ⟨es.size, _, World.ownsMap_of_fit hm F fun _ _ _ h => h, ?_, ?_⟩
  · show (List.foldr DataW.insert [] _).length = _
    rw [(WideShapes.sorted_perm _).length_eq]
    simp [hes]
  · show (List.map (fun p => Go.intOf p.1) (List.foldr DataW.insert [] _)).Perm l
    refine ((WideShapes.sorted_perm _).map _).trans ?_
    have : (es.toList.map (WideElems.rg Tryz.prog 3 anyR)).map (fun p => Go.intOf p.1) = l := by
      refine (List.map_inj_right (f := Value.int .i64) (fun a b h => by simpa using h)).1 ?_
      rw [← hk, List.map_map, List.map_map]
      refine List.map_congr_left fun x hx => ?_
      obtain ⟨n, hn, h⟩ := hrg x hx
      simp only [Function.comp_apply, WideElems.rg, h, hn]
      rfl
    rw [this]

theorem sorted_calls {w : World} {b m : Nat} {l : List Int} (hc : Heap.cell w.heap b 0 = some (.map (some m))) (hR : Rising w.heap m l) (hlen : l.length * 8 ≤ 140737488355328) :
    Calls Tryz.prog 47 #[.func (.func 77) #[] #[.pointer (some ⟨b, 0, none⟩)]] w fun e w' => ∃ v, e = .returned v ∧ w'.ownsRow w.heap.size 3 1 v l.length (l.map encZ) ∧ Below w.heap.size w w' := by
  obtain ⟨n, D, hown, hsz, hperm⟩ := rise_own hR hlen
  have hbl : b < w.heap.size := by
    rcases Nat.lt_or_ge b w.heap.size with h9 | h9
    · exact h9
    · unfold Heap.cell at hc
      rw [Array.getElem?_eq_none h9] at hc
      cases hc
  have hcell : w.cell? ⟨b, 0, none⟩ = some (.map (some m)) := by rw [cell_eq]; exact hc
  have hseq : SeqGives Fence.wide 2 Tryz.prog 77 #[.pointer (some ⟨b, 0, none⟩)] encZ (fun ss => ss.Perm (intKeys D)) (Maps.size D) w :=
    AnyZI.keys_gives (ρ := Tryz.keysA_ren) { Tryz.keysA with } Fence.wide _ trivial rfl (by omega) b m n D w hbl hcell hown
  have cS := AnyZI.sorted_in Tryz.sortedA Fence.wide 5 trivial trivial trivial trivial rfl (by omega) (sortsA _) (enters_of Tryz.func76 (by kernel_rfl) rfl) 77 #[.pointer (some ⟨b, 0, none⟩)] trivial (enters_of Tryz.func77 (by kernel_rfl) rfl) _ _ (by rw [hsz]; unfold maxLen; omega) (by rw [hsz]; exact hlen) _ hseq
  change CallsIn _ _ Tryz.prog 47 _ _ _ at cS
  refine ((callsIn_wide (n := 5)).1 cS).mono ?_
  rintro e w' ⟨v, ss, rfl, hS, hrow, _, hb⟩
  refine ⟨v, rfl, ?_, hb⟩
  have hp : ss.Perm l := hS.trans hperm
  rw [mergeSort_of_perm_i hp] at hrow
  have hsort : l.mergeSort leI = l := List.mergeSort_of_pairwise (by
    obtain ⟨_, _, _, _, _, h, _⟩ := hR
    exact h.imp fun hab => by simp; omega)
  rw [hsort, hp.length_eq] at hrow
  exact hrow

noncomputable def s_maps_Keys_map_int_int_int_int_ : CallSpec := ⟨[.one (.M)], [.one (.V)], fun t K h => m_maps_Keys_map_int_int_int_int_ t.1 (fun r0 h => K (r0, ()) h) h⟩
theorem ok_maps_Keys_map_int_int_int_int_ : CallOK Tryz.prog 48 s_maps_Keys_map_int_int_int_int_ where
  named := ⟨_, Tryz.func48, by kernel_rfl, by kernel_rfl⟩
  calls t K w hk := by
    refine (keys_calls t.1 w).mono ?_
    rintro e w' ⟨rfl, rfl⟩
    exact ⟨(_, ()), rfl, ⟨rfl, rfl, rfl⟩, hk⟩

noncomputable def s_slices_Sorted_int_ : CallSpec := ⟨[.one (.V)], [.one (.L)], fun t K h => m_slices_Sorted_int_ t.1 (fun r0 h => K (r0, ()) h) h⟩
theorem ok_slices_Sorted_int_ : CallOK Tryz.prog 47 s_slices_Sorted_int_ where
  named := ⟨_, Tryz.func47, by kernel_rfl, by kernel_rfl⟩
  calls t K w hk := by
    obtain ⟨x, u⟩ := t
    obtain ⟨b, m, l, hx, hc, hR, hlen, hk⟩ := hk
    dsimp only at hx
    subst hx
    refine (sorted_calls hc hR hlen).mono ?_
    rintro e w' ⟨v, rfl, hrow, hb⟩
    have hx : Ext w.heap w'.heap := ⟨hb.size, hb.block⟩
    have hs : Fw.Same w w' := ⟨hb.tape, hb.os, hb.output⟩
    rcases hrow with ⟨h1, ⟨rfl, h0⟩ | ⟨g, cap, cur, rfl, hg, hcur, hn, hcap, hsz, htk⟩⟩
    · refine ⟨(⟨none, 0, 0⟩, ()), rfl, hs, hk _ _ ⟨?_, Nat.le_refl _, by decide, .inl ⟨rfl, rfl⟩⟩ hx⟩
      rw [h1, h0]
    · refine ⟨(⟨some ⟨g, 0, none⟩, l.length, cap⟩, ()), rfl, hs, hk _ _ ⟨h1, hn, ?_, .inr ⟨g, cur, _, rfl, hg, hcur, hsz, htk.symm⟩⟩ hx⟩
      unfold maxLen at hcap
      show cap < _
      omega

end Go.Proofs.YtcmedplogmjiiaaGreat
