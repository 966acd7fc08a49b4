/- maps.Keys and slices.Sorted, by the shelf's contracts. -/
import Derived.Shelf.SlIterI.Nil
import Derived.Shelf.SortM.Plain
import Derived.Shelf.SortM.SortNone
import Derived.Maps.OwnSet
import Derived.Test.YthbfgkphlmlihaaGreatProg
import Derived.KernelRfl
import Derived.Below
import Derived.Test.YthbfgkphlmlihaaGreatPa6
set_option linter.unusedVariables false
set_option linter.unusedSimpArgs false
namespace Go.Proofs.YthbfgkphlmlihaaGreat
open Go Go.Fw
open Go.RowKit Go.Maps Go.Sort Go.Shelf
def Tryz.keysA_ren:Go.Shelf.Ren:=⟨fun | 7=>56 | 10=>113 | n=>n,fun | 23=>73 | 26=>3 | 3=>88 | 28=>151 | 0=>0 | 27=>150 | 33=>153 | 4=>4 | n=>n,fun | n=>n⟩
theorem Tryz.keysA:Go.Proofs.SlLaysZI.n7 Tryz.prog Tryz.keysA_ren:={
  mixed:=by kernel_rfl,
  f7:=⟨Tryz.f56.name,by decide,Tryz.func56.trans (congrArg some (by kernel_rfl))⟩,
  f10:=⟨Tryz.f113.name,by decide,Tryz.func113.trans (congrArg some (by kernel_rfl))⟩,
  t0:=Tryz.underlying0,
  a0:=Tryz.isAgg0,
  z0:=Tryz.sizeOf0,
  v0:=Tryz.zeroValue0,
  t4:=Tryz.underlying4,
  a4:=Tryz.isAgg4,
  z4:=Tryz.sizeOf4,
  v4:=Tryz.zeroValue4,
  t23:=Tryz.underlying73,
  a23:=Tryz.isAgg73,
  z23:=Tryz.sizeOf73,
  v23:=Tryz.zeroValue73,
  t26:=Tryz.underlying3,
  a26:=Tryz.isAgg3,
  z26:=Tryz.sizeOf3,
  v26:=Tryz.zeroValue3,
  t27:=Tryz.underlying150,
  a27:=Tryz.isAgg150,
  z27:=Tryz.sizeOf150,
  v27:=Tryz.zeroValue150,
  t28:=Tryz.underlying151,
  a28:=Tryz.isAgg151,
  z28:=Tryz.sizeOf151,
  v28:=Tryz.zeroValue151,
  t33:=Tryz.underlying153,
  a33:=Tryz.isAgg153,
  z33:=Tryz.sizeOf153,
  v33:=Tryz.zeroValue153 }
def Tryz.sortedA_ren:Go.Shelf.Ren:=⟨fun | 6=>55 | 8=>111 | 9=>112 | 11=>178 | 13=>180 | 12=>179 | 23=>235 | 24=>236 | 14=>226 | 15=>227 | 16=>228 | 17=>229 | 18=>230 | 19=>231 | 20=>232 | 21=>233 | 22=>234 | 25=>264 | 26=>265 | 27=>266 | 28=>267 | 29=>268 | 30=>269 | 31=>286 | n=>n,fun | 26=>3 | 28=>151 | 24=>85 | 0=>0 | 3=>3 | 37=>314 | 48=>364 | 50=>27 | 4=>4 | 40=>358 | 39=>357 | 45=>229 | 5=>5 | 9=>9 | 51=>385 | 55=>389 | 57=>398 | 58=>383 | 33=>153 | n=>n,fun | n=>n⟩
theorem Tryz.sortedA:Go.Proofs.SlLaysZI.n6 Tryz.prog Tryz.sortedA_ren:={
  mixed:=by kernel_rfl,
  f6:=⟨Tryz.f55.name,by decide,Tryz.func55.trans (congrArg some (by kernel_rfl))⟩,
  f8:=⟨Tryz.f111.name,by decide,Tryz.func111.trans (congrArg some (by kernel_rfl))⟩,
  f11:=⟨Tryz.f178.name,by decide,Tryz.func178.trans (congrArg some (by kernel_rfl))⟩,
  t0:=Tryz.underlying0,
  a0:=Tryz.isAgg0,
  z0:=Tryz.sizeOf0,
  v0:=Tryz.zeroValue0,
  t24:=Tryz.underlying85,
  a24:=Tryz.isAgg85,
  z24:=Tryz.sizeOf85,
  v24:=Tryz.zeroValue85,
  t26:=Tryz.underlying3,
  a26:=Tryz.isAgg3,
  z26:=Tryz.sizeOf3,
  v26:=Tryz.zeroValue3,
  t28:=Tryz.underlying151,
  a28:=Tryz.isAgg151,
  z28:=Tryz.sizeOf151,
  v28:=Tryz.zeroValue151,
  i26:=by kernel_rfl }
def Tryz.sortA_ren:Go.Shelf.Ren:=⟨fun | 5=>112 | 8=>180 | 7=>179 | 19=>235 | 20=>236 | 10=>226 | 11=>227 | 12=>228 | 13=>229 | 14=>230 | 15=>231 | 16=>232 | 17=>233 | 18=>234 | 30=>264 | 31=>265 | 32=>266 | 33=>267 | 34=>268 | 35=>269 | 40=>286 | n=>n,fun | 23=>85 | 25=>3 | 3=>3 | 32=>314 | 22=>85 | 0=>0 | 44=>364 | 46=>27 | 4=>4 | 36=>358 | 35=>357 | 41=>229 | 5=>5 | 9=>9 | 53=>385 | 57=>389 | 63=>398 | 64=>383 | n=>n,fun | n=>n⟩
theorem Tryz.sortA:Go.Proofs.SlLaysM.n5 Tryz.prog Tryz.sortA_ren:={
  mixed:=by kernel_rfl,
  f5:=⟨Tryz.f112.name,by decide,Tryz.func112.trans (congrArg some (by kernel_rfl))⟩,
  f7:=⟨Tryz.f179.name,by decide,Tryz.func179.trans (congrArg some (by kernel_rfl))⟩,
  f8:=Tryz.func180.trans (congrArg some (by kernel_rfl)),
  f10:=⟨Tryz.f226.name,by decide,Tryz.func226.trans (congrArg some (by kernel_rfl))⟩,
  f11:=⟨Tryz.f227.name,by decide,Tryz.func227.trans (congrArg some (by kernel_rfl))⟩,
  f12:=⟨Tryz.f228.name,by decide,Tryz.func228.trans (congrArg some (by kernel_rfl))⟩,
  f13:=⟨Tryz.f229.name,by decide,Tryz.func229.trans (congrArg some (by kernel_rfl))⟩,
  f14:=⟨Tryz.f230.name,by decide,Tryz.func230.trans (congrArg some (by kernel_rfl))⟩,
  f15:=⟨Tryz.f231.name,by decide,Tryz.func231.trans (congrArg some (by kernel_rfl))⟩,
  f16:=⟨Tryz.f232.name,by decide,Tryz.func232.trans (congrArg some (by kernel_rfl))⟩,
  f17:=⟨Tryz.f233.name,by decide,Tryz.func233.trans (congrArg some (by kernel_rfl))⟩,
  f18:=⟨Tryz.f234.name,by decide,Tryz.func234.trans (congrArg some (by kernel_rfl))⟩,
  f19:=Tryz.func235.trans (congrArg some (by kernel_rfl)),
  f20:=Tryz.func236.trans (congrArg some (by kernel_rfl)),
  f30:=⟨Tryz.f264.name,by decide,Tryz.func264.trans (congrArg some (by kernel_rfl))⟩,
  f31:=Tryz.func265.trans (congrArg some (by kernel_rfl)),
  f32:=Tryz.func266.trans (congrArg some (by kernel_rfl)),
  f33:=⟨Tryz.f267.name,by decide,Tryz.func267.trans (congrArg some (by kernel_rfl))⟩,
  f34:=⟨Tryz.f268.name,by decide,Tryz.func268.trans (congrArg some (by kernel_rfl))⟩,
  f35:=⟨Tryz.f269.name,by decide,Tryz.func269.trans (congrArg some (by kernel_rfl))⟩,
  f40:=⟨Tryz.f286.name,by decide,Tryz.func286.trans (congrArg some (by kernel_rfl))⟩,
  t0:=Tryz.underlying0,
  a0:=Tryz.isAgg0,
  z0:=Tryz.sizeOf0,
  v0:=Tryz.zeroValue0,
  t3:=Tryz.underlying3,
  a3:=Tryz.isAgg3,
  z3:=Tryz.sizeOf3,
  v3:=Tryz.zeroValue3,
  t4:=Tryz.underlying4,
  a4:=Tryz.isAgg4,
  z4:=Tryz.sizeOf4,
  v4:=Tryz.zeroValue4,
  t5:=Tryz.underlying5,
  a5:=Tryz.isAgg5,
  z5:=Tryz.sizeOf5,
  v5:=Tryz.zeroValue5,
  t9:=Tryz.underlying9,
  a9:=Tryz.isAgg9,
  z9:=Tryz.sizeOf9,
  v9:=Tryz.zeroValue9,
  t22:=Tryz.underlying85,
  a22:=Tryz.isAgg85,
  z22:=Tryz.sizeOf85,
  v22:=Tryz.zeroValue85,
  t23:=Tryz.underlying85,
  a23:=Tryz.isAgg85,
  z23:=Tryz.sizeOf85,
  v23:=Tryz.zeroValue85,
  t25:=Tryz.underlying3,
  a25:=Tryz.isAgg3,
  z25:=Tryz.sizeOf3,
  v25:=Tryz.zeroValue3,
  t32:=Tryz.underlying314,
  a32:=Tryz.isAgg314,
  z32:=Tryz.sizeOf314,
  v32:=Tryz.zeroValue314,
  t35:=Tryz.underlying357,
  a35:=Tryz.isAgg357,
  z35:=Tryz.sizeOf357,
  v35:=Tryz.zeroValue357,
  t36:=Tryz.underlying358,
  a36:=Tryz.isAgg358,
  z36:=Tryz.sizeOf358,
  v36:=Tryz.zeroValue358,
  t41:=Tryz.underlying229,
  a41:=Tryz.isAgg229,
  z41:=Tryz.sizeOf229,
  v41:=Tryz.zeroValue229,
  t44:=Tryz.underlying364,
  a44:=Tryz.isAgg364,
  z44:=Tryz.sizeOf364,
  v44:=Tryz.zeroValue364,
  t46:=Tryz.underlying27,
  a46:=Tryz.isAgg27,
  z46:=Tryz.sizeOf27,
  v46:=Tryz.zeroValue27,
  t53:=Tryz.underlying385,
  a53:=Tryz.isAgg385,
  z53:=Tryz.sizeOf385,
  v53:=Tryz.zeroValue385,
  t57:=Tryz.underlying389,
  a57:=Tryz.isAgg389,
  z57:=Tryz.sizeOf389,
  v57:=Tryz.zeroValue389,
  t63:=Tryz.underlying398,
  a63:=Tryz.isAgg398,
  z63:=Tryz.sizeOf398,
  v63:=Tryz.zeroValue398,
  t64:=Tryz.underlying383,
  a64:=Tryz.isAgg383,
  z64:=Tryz.sizeOf383,
  v64:=Tryz.zeroValue383 }
theorem ZGo (m:Nat):AnyZI.SortsIn Tryz.prog Tryz.sortedA_ren Fence.wide m :=
  ⟨fun blk off cap c W d a b=>callsIn_wide.2 (AnyM.slices_Sort_int Tryz.sortA blk off cap c W d a b),
   fun p cap W=>callsIn_wide.2 (AnyM.slices_Sort_int_none Tryz.sortA p cap W)⟩
theorem Zvy (m:Option Nat) (w:World):Calls Tryz.prog 56 #[.map m] w fun e w'=>e = .returned (.func (.func 113) #[] #[.pointer (some ⟨w.heap.size,0,none⟩)])/\w'=w.alloc (.cells #[.map m] 73) :=
  (callsIn_wide (n:=5)).1 (AnyZI.keys_in Tryz.keysA Fence.wide 5 trivial rfl m w)
def ZIb (_:Value):Option (DataW Unit × List MemPlace):=some (.nil,[])
theorem ZAw {w:World} {m:Nat} {l:List Int} (r:Zuz w.heap m l) (hlen:l.length*8<=140737488355328) :
    ∃ (n:Nat) (D:DataW Unit),w.ownsMap Tryz.prog 3 ZIb m n D/\Maps.size D=l.length/\(intKeys D).Perm l:=by
  obtain ⟨es,i,hm,j,k,t,s⟩:=r;have hu:Tryz.prog.underlying 3=some (.int .i64):=Tryz.underlying3
  have o:es.size=l.length:=by
    have:=congrArg List.length k;simpa using this
  have e:∀ x∈es.toList,∃ n:Int,x.key = .int .i64 n/\(Lit.int .i64 n).wf=true:=fun x c=>by
    have:x.key∈l.map (Value.int .i64):=by rw [<- k];exact List.mem_map_of_mem c
    obtain ⟨n,d,q⟩:=Axz.1 this;refine ⟨n,q.symm,?_⟩;have:=s n d;simp only [Lit.wf,Awn,decide_eq_true_eq];have h1:IntKind.i64.min = -9223372036854775808:=by decide
    have u:IntKind.i64.max=9223372036854775807:=by decide
    omega
  have g:∀ x∈es.toList,∃ n:Int,x.key = .int .i64 n/\WideElems.rd Tryz.prog 3 ZIb x=some (.int .i64 n,.nil):=fun x c=>by
    obtain ⟨n,d,hw⟩:=e x c;refine ⟨n,d,?_⟩;unfold WideElems.rd;rw [d,keyOf_int_mk hu hw];rfl
  have F:WideElems.Fit Tryz.prog 3 ZIb es i:=⟨by unfold maxLen;omega,j,fun x c=>by
    obtain ⟨n,_,h⟩:=g x c
    exact ⟨_,h⟩⟩
  refine ⟨es.size,_,World.ownsMap_of_fit hm F fun _ _ _ h=>h,?_,?_⟩
  ·show (List.foldr DataW.insert [] _).length=_
   rw [(WideShapes.sorted_perm _).length_eq];simp [o]
  ·show (List.map (fun p=>Go.intOf p.1) (List.foldr DataW.insert [] _)).Perm l
   refine ((WideShapes.sorted_perm _).map _).trans ?_
   have:(es.toList.map (WideElems.rg Tryz.prog 3 ZIb)).map (fun p=>Go.intOf p.1)=l:=by
     refine (List.map_inj_right (f:=Value.int .i64) (fun a b h=>by simpa using h)).1 ?_;rw [<- k,Aya,Aya];refine List.map_congr_left fun x c=>?_;obtain ⟨n,d,h⟩:=g x c;simp only [Function.comp_apply,WideElems.rg,h,d];rfl
   rw [this]
theorem Zrk {w:World} {b m:Nat} {l:List Int} (k:Zf.cell w.heap b 0=some (.map (some m))) (r:Zuz w.heap m l) (hlen:l.length*8<=140737488355328) :
    Calls Tryz.prog 55 #[.func (.func 113) #[] #[.pointer (some ⟨b,0,none⟩)]] w fun e w'=>∃ v,e = .returned v/\w'.ownsRow w.heap.size 3 1 v l.length (l.map encZ)/\Below w.heap.size w w':=by
  obtain ⟨n,D,g,i,c⟩:=ZAw r hlen
  have o:b<w.heap.size:=by
    rcases Aqd b w.heap.size with p | p
    ·exact p
    ·unfold Zf.cell at k
     rw [Aqe p] at k;cases k
  have d:w.cell? ⟨b,0,none⟩=some (.map (some m)):=by rw [ZqQ];exact k
  have j:SeqGives Fence.wide 2 Tryz.prog 113 #[.pointer (some ⟨b,0,none⟩)] encZ (fun q=>q.Perm (intKeys D)) (Maps.size D) w :=
    AnyZI.keys_gives (ρ:=Tryz.keysA_ren) { Tryz.keysA with } Fence.wide _ trivial rfl (by omega) b m n D w o d g
  have s:=AnyZI.sorted_in Tryz.sortedA Fence.wide 5 trivial trivial trivial trivial rfl (by omega) (ZGo _) (enters_of Tryz.func112 (by kernel_rfl) rfl) 113 #[.pointer (some ⟨b,0,none⟩)] trivial (enters_of Tryz.func113 (by kernel_rfl) rfl) _ _ (by rw [i];unfold maxLen;omega) (by rw [i];exact hlen) _ j;change CallsIn _ _ Tryz.prog 55 _ _ _ at s;refine ((callsIn_wide (n:=5)).1 s).mono ?_;rintro e w' ⟨v,q,rfl,u,a,_,x⟩;refine ⟨v,rfl,?_,x⟩;have t:q.Perm l:=u.trans c;rw [mergeSort_of_perm_i t] at a
  have f:l.mergeSort leI=l:=List.mergeSort_of_pairwise (by
    obtain ⟨_,_,_,_,_,h,_⟩:=r
    exact h.imp fun y=>by simp;omega)
  rw [f,t.length_eq] at a;exact a
noncomputable def ZaY:Zh:=⟨[.one (.M)],[.one (.V)],fun t K _ h=>Yx t.1 (fun r0 h=>K (r0,()) h) h⟩
theorem ZaL:ZC Tryz.prog 56 ZaY where
  named:=⟨_,Tryz.func56,by kernel_rfl,by kernel_rfl⟩
  calls t K b w a:=by
    refine (Zvy t.1 w).mono ?_;rintro e w' ⟨rfl,rfl⟩;exact .inl ⟨(_,()),rfl,⟨rfl,rfl,rfl⟩,a⟩
noncomputable def Zkl:Zh:=⟨[.one (.V)],[.one (.L)],fun t K _ h=>Zgy t.1 (fun r0 h=>K (r0,()) h) h⟩
theorem Zjx:ZC Tryz.prog 55 Zkl where
  named:=⟨_,Tryz.func55,by kernel_rfl,by kernel_rfl⟩
  calls t K r w i:=by
    obtain ⟨x,u⟩:=t;obtain ⟨b,m,l,a,n,o,hlen,i⟩:=i;dsimp only at a;subst a;refine (Zrk n o hlen).mono ?_;rintro e w' ⟨v,rfl,c,d⟩;have a:Ext w.heap w'.heap:=⟨d.size,d.block⟩;have hs:Fw.Same w w':=⟨d.tape,d.os,d.output⟩;rcases c with ⟨h1,⟨rfl,h0⟩ | ⟨g,cap,cur,rfl,p,f,q,h,j,k⟩⟩
    ·refine .inl ⟨(⟨none,0,0⟩,()),rfl,hs,i _ _ ⟨?_,Aqo _,by decide,.inl ⟨rfl,rfl⟩⟩ a⟩
     rw [h1,h0]
    ·refine .inl ⟨(⟨some ⟨g,0,none⟩,l.length,cap⟩,()),rfl,hs,i _ _ ⟨h1,q,?_,.inr ⟨g,cur,_,rfl,p,f,j,k.symm⟩⟩ a⟩
     unfold maxLen at h;show cap<_;omega
end Go.Proofs.YthbfgkphlmlihaaGreat
namespace Go.Proofs.YthbfgkphlmlihaaGreat
open Go Go.Fw Go.Proofs.Tryz
noncomputable section
abbrev zqI:VT:= .one (.I .i64)
abbrev zqU:VT:= .one (.I .u64)
abbrev zqT:VT:= .one (.I .u8)
abbrev zqP:VT:= .one .P
abbrev zqS:VT:= .one .S
abbrev zqB:VT:= .one .B
abbrev zqL:VT:= .one .L
abbrev Zv8:VT:= .agg [.I .i64,.S,.S,.S,.B,.I .i64,.L]
abbrev Zwl:VT:= .agg [.L,.L,.L,.L,.L]
abbrev ZyW:VT:= .agg [.S,.S,.B,.I .i64,.I .u8,.S,.I .u8,.I .i64,.I .i64,.B,.I .i64,.B]
abbrev ZB3:VT:= .agg [.I .i64,.I .i64,.I .i64,.I .i64,.I .i64,.I .i64]
abbrev ZFl:VT:= .agg [.S,.I .i64,.I .i64,.I .i64,.L]
abbrev ZFk:VT:= .agg [.I .i64,.I .i64,.I .i64,.I .i64,.I .i64,.I .i64,.I .i64]
abbrev ZHB:VT:= .agg [.S,.I .u8,.I .i64,.I .i64,.I .i64,.I .i64,.I .i64]
abbrev ZHA:VT:= .agg [.S,.B,.L]
abbrev ZHz:VT:= .agg [.I .u8,.S,.S,.S]
abbrev ZB6:VT:= .agg [.I .i64,.I .i64,.I .i64,.I .i64,.I .i64]
abbrev ZB5:VT:= .agg [.I .u64,.I .u64,.B]
abbrev ZB4:VT:= .agg [.I .u8,.I .i64,.I .i64]
abbrev ZFm:VT:= .agg [.I .i64,.I .i64,.I .i64,.I .i64,.I .u64]
abbrev zqs (a:Ann):Ann:= .seq .leaf a
abbrev zql (a:List Nat) (b:List VT) (c:List (Nat × Nat)):Ann:= .block (.loop a b c .leaf)
def zqk:List Nat->OrdT->OrdT
  | [],t=>t
  | n::r,t=> .take (n / 2) (n % 2 ==1) (zqk r t)
abbrev ZFg {a:Type} (f:(a->HP)->HP):Unit->(a × Unit->HP)->(Value->HP)->HP:=fun _ K _ h=>f (fun a h=>K (a,()) h) h
abbrev ZKZ {a0:Type} (f:a0->(HP)->HP):a0 × Unit->(Unit->HP)->(Value->HP)->HP:=fun t K _ h=>f t.1 (fun h=>K (()) h) h
abbrev Zdm {a0 a:Type} (f:a0->(a->HP)->HP):a0 × Unit->(a × Unit->HP)->(Value->HP)->HP:=fun t K _ h=>f t.1 (fun a h=>K (a,()) h) h
abbrev Zsq {a0 a b1:Type} (f:a0->(a->b1->HP)->HP):a0 × Unit->(a × b1 × Unit->HP)->(Value->HP)->HP:=fun t K _ h=>f t.1 (fun a b1 h=>K (a,b1,()) h) h
abbrev ZKY {a0 a b1 b2:Type} (f:a0->(a->b1->b2->HP)->HP):a0 × Unit->(a × b1 × b2 × Unit->HP)->(Value->HP)->HP:=fun t K _ h=>f t.1 (fun a b1 b2 h=>K (a,b1,b2,()) h) h
abbrev ZB1 {a0 a:Type} (f:a0->a->(HP)->HP):a0 × a × Unit->(Unit->HP)->(Value->HP)->HP:=fun t K _ h=>f t.1 t.2.1 (fun h=>K (()) h) h
abbrev XW {a0 b a:Type} (f:a0->b->(a->HP)->HP):a0 × b × Unit->(a × Unit->HP)->(Value->HP)->HP:=fun t K _ h=>f t.1 t.2.1 (fun a h=>K (a,()) h) h
abbrev ZpV {a0 b a b1:Type} (f:a0->b->(a->b1->HP)->HP):a0 × b × Unit->(a × b1 × Unit->HP)->(Value->HP)->HP:=fun t K _ h=>f t.1 t.2.1 (fun a b1 h=>K (a,b1,()) h) h
abbrev ZFf {a0 b a b1 b2:Type} (f:a0->b->(a->b1->b2->HP)->HP):a0 × b × Unit->(a × b1 × b2 × Unit->HP)->(Value->HP)->HP:=fun t K _ h=>f t.1 t.2.1 (fun a b1 b2 h=>K (a,b1,b2,()) h) h
abbrev Zy2 {a0 a b:Type} (f:a0->a->b->(HP)->HP):a0 × a × b × Unit->(Unit->HP)->(Value->HP)->HP:=fun t K _ h=>f t.1 t.2.1 t.2.2.1 (fun h=>K (()) h) h
abbrev Zjf {a0 b c a:Type} (f:a0->b->c->(a->HP)->HP):a0 × b × c × Unit->(a × Unit->HP)->(Value->HP)->HP:=fun t K _ h=>f t.1 t.2.1 t.2.2.1 (fun a h=>K (a,()) h) h
abbrev ZpU {a0 b c a b1:Type} (f:a0->b->c->(a->b1->HP)->HP):a0 × b × c × Unit->(a × b1 × Unit->HP)->(Value->HP)->HP:=fun t K _ h=>f t.1 t.2.1 t.2.2.1 (fun a b1 h=>K (a,b1,()) h) h
abbrev ZB0 {a0 b c a b1 b2:Type} (f:a0->b->c->(a->b1->b2->HP)->HP):a0 × b × c × Unit->(a × b1 × b2 × Unit->HP)->(Value->HP)->HP:=fun t K _ h=>f t.1 t.2.1 t.2.2.1 (fun a b1 b2 h=>K (a,b1,b2,()) h) h
abbrev ZFe {a0 a b a3:Type} (f:a0->a->b->a3->(HP)->HP):a0 × a × b × a3 × Unit->(Unit->HP)->(Value->HP)->HP:=fun t K _ h=>f t.1 t.2.1 t.2.2.1 t.2.2.2.1 (fun h=>K (()) h) h
abbrev ZpT {a0 b c a3 a:Type} (f:a0->b->c->a3->(a->HP)->HP):a0 × b × c × a3 × Unit->(a × Unit->HP)->(Value->HP)->HP:=fun t K _ h=>f t.1 t.2.1 t.2.2.1 t.2.2.2.1 (fun a h=>K (a,()) h) h
abbrev ZFd {a0 b c a3 a b1:Type} (f:a0->b->c->a3->(a->b1->HP)->HP):a0 × b × c × a3 × Unit->(a × b1 × Unit->HP)->(Value->HP)->HP:=fun t K _ h=>f t.1 t.2.1 t.2.2.1 t.2.2.2.1 (fun a b1 h=>K (a,b1,()) h) h
abbrev ZKX {a0 b c a3 a b1 b2:Type} (f:a0->b->c->a3->(a->b1->b2->HP)->HP):a0 × b × c × a3 × Unit->(a × b1 × b2 × Unit->HP)->(Value->HP)->HP:=fun t K _ h=>f t.1 t.2.1 t.2.2.1 t.2.2.2.1 (fun a b1 b2 h=>K (a,b1,b2,()) h) h
abbrev ZKW {a0 a b a3 a4:Type} (f:a0->a->b->a3->a4->(HP)->HP):a0 × a × b × a3 × a4 × Unit->(Unit->HP)->(Value->HP)->HP:=fun t K _ h=>f t.1 t.2.1 t.2.2.1 t.2.2.2.1 t.2.2.2.2.1 (fun h=>K (()) h) h
abbrev ZKV {a0 b c a3 a4 a:Type} (f:a0->b->c->a3->a4->(a->HP)->HP):a0 × b × c × a3 × a4 × Unit->(a × Unit->HP)->(Value->HP)->HP:=fun t K _ h=>f t.1 t.2.1 t.2.2.1 t.2.2.2.1 t.2.2.2.2.1 (fun a h=>K (a,()) h) h
abbrev ZFc {a0 b c a3 a4 a b1:Type} (f:a0->b->c->a3->a4->(a->b1->HP)->HP):a0 × b × c × a3 × a4 × Unit->(a × b1 × Unit->HP)->(Value->HP)->HP:=fun t K _ h=>f t.1 t.2.1 t.2.2.1 t.2.2.2.1 t.2.2.2.2.1 (fun a b1 h=>K (a,b1,()) h) h
abbrev ZKU {a0 b c a3 a4 a b1 b2:Type} (f:a0->b->c->a3->a4->(a->b1->b2->HP)->HP):a0 × b × c × a3 × a4 × Unit->(a × b1 × b2 × Unit->HP)->(Value->HP)->HP:=fun t K _ h=>f t.1 t.2.1 t.2.2.1 t.2.2.2.1 t.2.2.2.2.1 (fun a b1 b2 h=>K (a,b1,b2,()) h) h
noncomputable abbrev zqC (l:List (FuncId × Zh)) (n:Nat):Cfg:=Zkn Tryz.prog l n [] [] [] Zl1
abbrev zqO (f:FuncId) (s:Zh):Prop:=ZC Tryz.prog f s
abbrev zqR (l:List (FuncId × Zh)) (n:Nat) (f:Func) (s:Zh):Prop:=ZQ (zqC l n) f .leaf s
theorem zqY {c:Cfg} {f:Func} {a:Ann} {s:Zh} (h:ZQ c f a s:=by intro _ _ _ _;kernel_rfl):ZQ c f a s:=h
theorem zq1 {P:Program} {f0:FuncId} {a:Zh} (h0:ZC P f0 a):AllOK P [(f0,a)]:= .cons h0 .nil
theorem zq2 {P:Program} {f0 f1:FuncId} {a s1:Zh} (h0:ZC P f0 a) (h1:ZC P f1 s1):AllOK P [(f0,a),(f1,s1)]:= .cons h0 (.cons h1 .nil)
theorem zq3 {P:Program} {f0 f1 f2:FuncId} {a s1 s2:Zh} (h0:ZC P f0 a) (h1:ZC P f1 s1) (b:ZC P f2 s2):AllOK P [(f0,a),(f1,s1),(f2,s2)]:= .cons h0 (.cons h1 (.cons b .nil))
theorem zq4 {P:Program} {f0 f1 f2 f3:FuncId} {a s1 s2 b:Zh} (h0:ZC P f0 a) (h1:ZC P f1 s1) (c:ZC P f2 s2) (h3:ZC P f3 b):AllOK P [(f0,a),(f1,s1),(f2,s2),(f3,b)]:= .cons h0 (.cons h1 (.cons c (.cons h3 .nil)))
theorem zq5 {P:Program} {f0 f1 f2 f3 f4:FuncId} {a s1 s2 b s4:Zh} (h0:ZC P f0 a) (h1:ZC P f1 s1) (c:ZC P f2 s2) (h3:ZC P f3 b) (d:ZC P f4 s4):AllOK P [(f0,a),(f1,s1),(f2,s2),(f3,b),(f4,s4)]:= .cons h0 (.cons h1 (.cons c (.cons h3 (.cons d .nil))))
theorem zq6 {P:Program} {f0 f1 f2 f3 f4 f5:FuncId} {a s1 s2 b s4 s5:Zh} (h0:ZC P f0 a) (h1:ZC P f1 s1) (c:ZC P f2 s2) (h3:ZC P f3 b) (d:ZC P f4 s4) (e:ZC P f5 s5):AllOK P [(f0,a),(f1,s1),(f2,s2),(f3,b),(f4,s4),(f5,s5)]:= .cons h0 (.cons h1 (.cons c (.cons h3 (.cons d (.cons e .nil)))))
theorem zq7 {P:Program} {f0 f1 f2 f3 f4 f5 f6:FuncId} {a s1 s2 b s4 s5 c:Zh} (h0:ZC P f0 a) (h1:ZC P f1 s1) (d:ZC P f2 s2) (h3:ZC P f3 b) (e:ZC P f4 s4) (f:ZC P f5 s5) (g:ZC P f6 c):AllOK P [(f0,a),(f1,s1),(f2,s2),(f3,b),(f4,s4),(f5,s5),(f6,c)]:= .cons h0 (.cons h1 (.cons d (.cons h3 (.cons e (.cons f (.cons g .nil))))))
theorem zq8 {P:Program} {f0 f1 f2 f3 f4 f5 f6 f7:FuncId} {a s1 s2 b s4 s5 c s7:Zh} (h0:ZC P f0 a) (h1:ZC P f1 s1) (d:ZC P f2 s2) (h3:ZC P f3 b) (e:ZC P f4 s4) (f:ZC P f5 s5) (g:ZC P f6 c) (h:ZC P f7 s7):AllOK P [(f0,a),(f1,s1),(f2,s2),(f3,b),(f4,s4),(f5,s5),(f6,c),(f7,s7)]:= .cons h0 (.cons h1 (.cons d (.cons h3 (.cons e (.cons f (.cons g (.cons h .nil)))))))
theorem zq9 {P:Program} {f0 f1 f2 f3 f4 f5 f6 f7 f8:FuncId} {a s1 s2 b s4 s5 c s7 s8:Zh} (h0:ZC P f0 a) (h1:ZC P f1 s1) (d:ZC P f2 s2) (h3:ZC P f3 b) (e:ZC P f4 s4) (f:ZC P f5 s5) (g:ZC P f6 c) (h:ZC P f7 s7) (i:ZC P f8 s8):AllOK P [(f0,a),(f1,s1),(f2,s2),(f3,b),(f4,s4),(f5,s5),(f6,c),(f7,s7),(f8,s8)]:= .cons h0 (.cons h1 (.cons d (.cons h3 (.cons e (.cons f (.cons g (.cons h (.cons i .nil))))))))
theorem ZRx {P:Program} {f0 f1 f2 f3 f4 f5 f6 f7 f8 f9:FuncId} {a s1 s2 b s4 s5 c s7 s8 s9:Zh} (h0:ZC P f0 a) (h1:ZC P f1 s1) (d:ZC P f2 s2) (h3:ZC P f3 b) (e:ZC P f4 s4) (f:ZC P f5 s5) (g:ZC P f6 c) (h:ZC P f7 s7) (i:ZC P f8 s8) (j:ZC P f9 s9):AllOK P [(f0,a),(f1,s1),(f2,s2),(f3,b),(f4,s4),(f5,s5),(f6,c),(f7,s7),(f8,s8),(f9,s9)]:= .cons h0 (.cons h1 (.cons d (.cons h3 (.cons e (.cons f (.cons g (.cons h (.cons i (.cons j .nil)))))))))
theorem ZQc {P:Program} {f0 f1 f2 f3 f4 f5 f6 f7 f8 f9 f10:FuncId} {c s1 s2 d s4 s5 e s7 s8 s9 a:Zh} (h0:ZC P f0 c) (h1:ZC P f1 s1) (f:ZC P f2 s2) (h3:ZC P f3 d) (g:ZC P f4 s4) (h:ZC P f5 s5) (i:ZC P f6 e) (j:ZC P f7 s7) (k:ZC P f8 s8) (l:ZC P f9 s9) (b:ZC P f10 a):AllOK P [(f0,c),(f1,s1),(f2,s2),(f3,d),(f4,s4),(f5,s5),(f6,e),(f7,s7),(f8,s8),(f9,s9),(f10,a)]:= .cons h0 (.cons h1 (.cons f (.cons h3 (.cons g (.cons h (.cons i (.cons j (.cons k (.cons l (.cons b .nil))))))))))
theorem Zct:Tryz.prog.follows .mixedOrders=true:=by kernel_rfl
theorem zqF {l:List (FuncId × Zh)} {n:Nat} {f:FuncId} {fn:Func} {a:Ann} {s:Zh} (d:ZQ (zqC l n) fn a s) (e:Tryz.prog.funcs[f]?=some fn) (h:AllOK Tryz.prog l:=by exact .nil) (b:(fn.name == "runtime.NumGoroutine")=false:=by kernel_rfl) (c:fn.body.isNone=false:=by kernel_rfl) (g:n=fn.ntmps:=by rfl) (hlen:s.args.length<=fn.ntmps:=by decide):ZC Tryz.prog f s:=okF d e Zct (ZhG _ h .nil .nil .nil (Zi8 _)) b c g hlen
abbrev zk0 (f:zT0):Zh:=⟨[],[zqP],ZFg f⟩
theorem zr0:zqR [] 3 f19 (zk0 Zgq):=zqY
theorem zo0:zqO 19 (zk0 ZdX):=zqF zr0 func19
theorem zr1:zqR [] 5 f20 (zk0 Zmb):=zqY
theorem zo1:zqO 20 (zk0 Zj5):=zqF zr1 func20
abbrev zk2 (f:zT2):Zh:=⟨[zqI,zqU],[zqP,zqI],ZpV f⟩
theorem zr2 {v0 v1}:zqR [(19,zk0 v0),(20,zk0 v1)] 20 f9 (zk2 (ZiH v0 v1)):=zqY
theorem zo2:zqO 9 (zk2 Zd5):=zqF zr2 func9 (zq2 zo0 zo1)
abbrev zk3 (f:zT3):Zh:=⟨[Zwl],[zqL],Zdm f⟩
theorem zr3:zqR [] 29 f80 (zk3 ZhO):=zqY
theorem zo3:zqO 80 (zk3 ZdG):=zqF zr3 func80
abbrev zk4 (f:zT4):Zh:=⟨[zqI,zqI,zqI],[zqB],Zjf f⟩
theorem zr4:zqR [] 15 f141 (zk4 ZfP):=zqY
theorem zo4:zqO 141 (zk4 Yq):=zqF zr4 func141
abbrev zk5 (f:zT5):Zh:=⟨[zqS],[zqB],Zdm f⟩
theorem zr5 {v4}:ZQ (zqC [(141,zk4 v4)] 19) f114 (zqs (.seq (zqs (zql [6] [zqI] [(2,3),(7,15)])) .leaf)) (zk5 (ZfR v4)):=zqY
theorem zo5:zqO 114 (zk5 Zao):=zqF zr5 func114 (zq1 zo4)
theorem zr6 {v5}:zqR [(114,zk5 v5)] 6 f242 (zk5 (Zc1 v5)):=zqY
theorem zo6:zqO 242 (zk5 ZcM):=zqF zr6 func242 (zq1 zo5)
abbrev zk7 (f:zT7):Zh:=⟨[.one (.L),.fn 242],[.one (.I .i64)],fun t K _ h=>f t.1 (fun r0 h=>K (r0,()) h) h⟩
theorem zr7 {v6}:ZQ (zqC [(242,zk5 v6)] 19) f155 (zqs (.seq (zqs (zql [8] [zqI] [(4,5),(9,18)])) .leaf)) (zk7 (Yk v6)):=zqY
theorem zo7:zqO 155 (zk7 ZK):=zqF zr7 func155 (zq1 zo6)
abbrev zk8 (f:zT8):Zh:=⟨[.one (.L),.fn 242],[.one (.B)],fun t K _ h=>f t.1 (fun r0 h=>K (r0,()) h) h⟩
theorem zr8 {a}:zqR [(155,zk7 a)] 9 f97 (zk8 (ZY a)):=zqY
theorem zo8:zqO 97 (zk8 ZX):=zqF zr8 func97 (zq1 zo7)
abbrev zk9 (f:zT9):Zh:=⟨[.agg [.S,.L]],[zqB],Zdm f⟩
theorem zr9 {v5 a}:zqR [(114,zk5 v5),(97,zk8 a)] 12 f198 (zk9 (Zek v5 a)):=zqY
theorem zo9:zqO 198 (zk9 Zax):=zqF zr9 func198 (zq2 zo5 zo8)
abbrev Zzv (f:Zsh):Zh:=⟨[zqP,zqP],[zqB],XW f⟩
theorem ZQb {v4}:zqR [(141,zk4 v4)] 7 f190 (Zzv (ZhW v4)):=zqY
theorem ZRj:zqO 190 (Zzv ZdO):=zqF ZQb func190 (zq1 zo4)
abbrev Zkh (f:ZgA):Zh:=⟨[zqP],[zqB],Zdm f⟩
theorem ZQa:zqR [] 10 f191 (Zkh ZhV):=zqY
theorem ZRi:zqO 191 (Zkh ZdN):=zqF ZQa func191
theorem ZP9:zqR [] 10 f192 (Zkh ZhU):=zqY
theorem ZRh:zqO 192 (Zkh ZdM):=zqF ZP9 func192
theorem ZP8:zqR [] 15 f193 (Zkh ZhT):=zqY
theorem ZRg:zqO 193 (Zkh ZdL):=zqF ZP8 func193
abbrev ZF3 (f:ZE2):Zh:=⟨[zqB,zqI,zqI,zqI],[zqB],ZpT f⟩
theorem ZP7 {v4}:zqR [(141,zk4 v4)] 24 f143 (ZF3 (ZjI v4)):=zqY
theorem ZMu:zqO 143 (ZF3 Zeq):=zqF ZP7 func143 (zq1 zo4)
abbrev ZNr (f:ZE1):Zh:=⟨[zqP,zqP,zqP],[zqB],Zjf f⟩
theorem ZP6 {a}:zqR [(143,ZF3 a)] 14 f194 (ZNr (ZhS a)):=zqY
theorem ZRf:zqO 194 (ZNr ZdK):=zqF ZP6 func194 (zq1 ZMu)
theorem ZP5:zqR [] 15 f195 (Zkh ZhR):=zqY
theorem ZRe:zqO 195 (Zkh ZdJ):=zqF ZP5 func195
theorem ZP4 {a}:zqR [(143,ZF3 a)] 16 f196 (Zkh (ZhQ a)):=zqY
theorem ZRd:zqO 196 (Zkh ZdI):=zqF ZP4 func196 (zq1 ZMu)
theorem ZP3 {v4}:zqR [(141,zk4 v4)] 12 f140 (Zzv (Zhh v4)):=zqY
theorem ZRc:zqO 140 (Zzv ZcQ):=zqF ZP3 func140 (zq1 zo4)
theorem ZP2 {a}:zqR [(143,ZF3 a)] 8 f142 (Zkh (Zhg a)):=zqY
theorem ZRb:zqO 142 (Zkh ZcP):=zqF ZP2 func142 (zq1 ZMu)
theorem ZP1 {v4}:zqR [(141,zk4 v4)] 10 f144 (Zkh (Zhf v4)):=zqY
theorem ZRa:zqO 144 (Zkh ZcO):=zqF ZP1 func144 (zq1 zo4)
theorem ZP0 {v4}:zqR [(141,zk4 v4)] 5 f145 (Zkh (Zhe v4)):=zqY
theorem ZQ9:zqO 145 (Zkh ZcN):=zqF ZP0 func145 (zq1 zo4)
theorem ZPZ {v4}:zqR [(141,zk4 v4)] 10 f148 (Zkh (ZiO v4)):=zqY
theorem ZQ8:zqO 148 (Zkh ZeG):=zqF ZPZ func148 (zq1 zo4)
abbrev ZNq (f:ZH4):Zh:=⟨[zqL,zqS],[zqI],XW f⟩
theorem ZPY:ZQ (zqC [] 19) f243 (zqs (.seq (zqs (zql [8] [zqI] [(4,5),(9,18)])) .leaf)) (ZNq Xh):=zqY
theorem ZQ7:zqO 243 (ZNq X5):=zqF ZPY func243
abbrev ZHK (f:ZGd):Zh:=⟨[zqL,zqS],[zqB],XW f⟩
theorem ZPX {v23}:zqR [(243,ZNq v23)] 9 f199 (ZHK (XC v23)):=zqY
theorem ZOy:zqO 199 (ZHK YB):=zqF ZPX func199 (zq1 ZQ7)
abbrev ZHJ (f:zT8):Zh:=⟨[zqL],[zqB],Zdm f⟩
theorem ZPW {v24}:ZQ (zqC [(199,ZHK v24)] 18) f150 (zqs (.seq (zqs (zql [7] [zqI] [(2,4),(8,17)])) .leaf)) (ZHJ (ZiK v24)):=zqY
theorem ZOx:zqO 150 (ZHJ ZeC):=zqF ZPW func150 (zq1 ZOy)
theorem ZPV {v4 v25}:zqR [(141,zk4 v4),(150,ZHJ v25)] 17 f149 (Zzv (ZiN v4 v25)):=zqY
theorem ZQ6:zqO 149 (Zzv ZeF):=zqF ZPV func149 (zq2 zo4 ZOx)
abbrev ZNp (f:ZH3):Zh:=⟨[.agg [.S,.I .i64]],[zqB],Zdm f⟩
theorem ZPU {v4}:zqR [(141,zk4 v4)] 13 f153 (ZNp (Zhd v4)):=zqY
theorem ZQ5:zqO 153 (ZNp Zg6):=zqF ZPU func153 (zq1 zo4)
abbrev ZNo (f:zT7):Zh:=⟨[.one (.L),.fn 153],[.one (.I .i64)],fun t K _ h=>f t.1 (fun r0 h=>K (r0,()) h) h⟩
theorem ZPT {v27}:ZQ (zqC [(153,ZNp v27)] 19) f200 (zqs (.seq (zqs (zql [8] [zqI] [(4,5),(9,18)])) .leaf)) (ZNo (Yn v27)):=zqY
theorem ZQ4:zqO 200 (ZNo Ym):=zqF ZPT func200 (zq1 ZQ5)
abbrev ZNn (f:zT8):Zh:=⟨[.one (.L),.fn 153],[.one (.B)],fun t K _ h=>f t.1 (fun r0 h=>K (r0,()) h) h⟩
theorem ZPS {v28}:zqR [(200,ZNo v28)] 9 f152 (ZNn (Yh v28)):=zqY
theorem ZQ3:zqO 152 (ZNn Yb):=zqF ZPS func152 (zq1 ZQ4)
theorem ZPR {v29}:zqR [(152,ZNn v29)] 6 f151 (Zkh (ZiM v29)):=zqY
theorem ZQ2:zqO 151 (Zkh ZeE):=zqF ZPR func151 (zq1 ZQ3)
theorem ZPQ {v4 v25}:zqR [(141,zk4 v4),(150,ZHJ v25)] 12 f197 (Zkh (ZhP v4 v25)):=zqY
theorem ZQ1:zqO 197 (Zkh ZdH):=zqF ZPQ func197 (zq2 zo4 ZOx)
abbrev ZEZ (f:ZDp):Zh:=⟨[.agg [.S,.L,.I .i64],zqL],[zqI],XW f⟩
noncomputable abbrev ZRm (v9:zT9) (v10:Zsh) (v11:ZgA) (a:ZgA) (b:ZgA) (c:ZE1) (d:ZgA) (e:ZgA) (f:Zsh) (g:ZgA) (v20:ZgA) (h:ZgA) (v22:ZgA) (v26:Zsh) (v30:ZgA) (i:ZgA):Cfg:=Zkn Tryz.prog [(198,zk9 v9),(190,Zzv v10),(191,Zkh v11),(192,Zkh a),(193,Zkh b),(194,ZNr c),(195,Zkh d),(196,Zkh e),(140,Zzv f),(142,Zkh g),(144,Zkh v20),(145,Zkh h),(148,Zkh v22),(149,Zzv v26),(151,Zkh v30),(197,Zkh i)] 23 [] [] [] Zl1 [(190,[.P,.P]),(191,[.P]),(192,[.P]),(193,[.P]),(194,[.P,.P,.P]),(195,[.P]),(196,[.P]),(140,[.P,.P]),(142,[.P]),(144,[.P]),(145,[.P]),(148,[.P]),(149,[.P,.P]),(151,[.P]),(197,[.P])]
theorem ZPP (v9:zT9) (v10:Zsh) (v11:ZgA) (a:ZgA) (b:ZgA) (c:ZE1) (d:ZgA) (e:ZgA) (f:Zsh) (g:ZgA) (v20:ZgA) (h:ZgA) (v22:ZgA) (v26:Zsh) (v30:ZgA) (i:ZgA):ZQ (ZRm v9 v10 v11 a b c d e f g v20 h v22 v26 v30 i) f139 (zqs (zqs (.seq (zqs (zql [13] [zqI] [(4,4),(6,6),(14,22)])) .leaf))) (ZEZ (Zhc v9 v10 v11 a b c d e f g v20 h v22 v26 v30 i)):=fun _ _ _ _=>by kernel_rfl
theorem ZHC:ZC Tryz.prog 139 (ZEZ Zay):=okF (ZPP Zax ZdO ZdN ZdM ZdL ZdK ZdJ ZdI ZcQ ZcP ZcO ZcN ZeG ZeF ZeE ZdH) func139 Zct (ZhG _ (.cons zo9 (.cons ZRj (.cons ZRi (.cons ZRh (.cons ZRg (.cons ZRf (.cons ZRe (.cons ZRd (.cons ZRc (.cons ZRb (.cons ZRa (.cons ZQ9 (.cons ZQ8 (.cons ZQ6 (.cons ZQ2 (.cons ZQ1 .nil)))))))))))))))) .nil .nil .nil (Zi8 _))
abbrev ZNm (f:ZH2):Zh:=⟨[ZyW],[zqI],Zdm f⟩
theorem ZPO {v32}:ZQ (zqC [(139,ZEZ v32)] 56) f131 (zqs (zqs (.cut [3] [.one .L] [(10,22)] .leaf (.cut [4] [.one .P] [(23,30)] .leaf (.cut [5] [.one .P] [(31,38)] .leaf (zqs (.cut [] [] [(39,41)] .leaf .leaf))))))) (ZNm (ZjN v32)):=zqY
theorem ZQ0:zqO 131 (ZNm ZhA):=zqF ZPO func131 (zq1 ZHC)
abbrev Zst (f:Zon):Zh:=⟨[zqI,zqP],[zqI],XW f⟩
theorem ZPN {v33}:zqR [(131,ZNm v33)] 10 f130 (Zst (Zgp v33)):=zqY
theorem ZQZ:zqO 130 (Zst Zb3):=zqF ZPN func130 (zq1 ZQ0)
abbrev ZHI (f:ZGc):Zh:=⟨[ZHB],[zqI],Zdm f⟩
theorem ZPM {v32}:ZQ (zqC [(139,ZEZ v32)] 17) f84 (zqs (zqs (.cut [] [] [(4,6)] .leaf .leaf))) (ZHI (ZiP v32)):=zqY
theorem ZOw:zqO 84 (ZHI Zdc):=zqF ZPM func84 (zq1 ZHC)
theorem ZPL {v35}:zqR [(84,ZHI v35)] 10 f132 (Zst (Zgo v35)):=zqY
theorem ZQY:zqO 132 (Zst Zb2):=zqF ZPL func132 (zq1 ZOw)
abbrev ZBj (f:Zzy):Zh:=⟨[ZFl],[zqI],Zdm f⟩
theorem ZPK {v32}:ZQ (zqC [(139,ZEZ v32)] 28) f92 (zqs (zqs (.seq (zqs (zql [9] [zqI] [(5,5),(10,18)])) .leaf))) (ZBj (ZkQ v32)):=zqY
theorem ZOv:zqO 92 (ZBj Zg7):=zqF ZPK func92 (zq1 ZHC)
theorem ZPJ {a}:zqR [(92,ZBj a)] 10 f133 (Zst (Zgn a)):=zqY
theorem ZQX:zqO 133 (Zst Zb1):=zqF ZPJ func133 (zq1 ZOv)
abbrev ZHH (f:ZGb):Zh:=⟨[ZB6],[zqI],Zdm f⟩
theorem ZPI {v4}:ZQ (zqC [(141,zk4 v4)] 25) f135 (zqs (.seq (zqs (zql [17] [zqI] [(2,2),(4,4),(18,24)])) .leaf)) (ZHH (ZfQ v4)):=zqY
theorem ZOu:zqO 135 (ZHH Zba):=zqF ZPI func135 (zq1 zo4)
theorem ZPH {a}:zqR [(135,ZHH a)] 10 f134 (Zst (Zgm a)):=zqY
theorem ZQW:zqO 134 (Zst Zb0):=zqF ZPH func134 (zq1 ZOu)
abbrev ZHG (f:ZGa):Zh:=⟨[ZHA],[zqI],Zdm f⟩
theorem ZPG {v32}:zqR [(139,ZEZ v32)] 12 f137 (ZHG (ZjL v32)):=zqY
theorem ZOt:zqO 137 (ZHG Zf2):=zqF ZPG func137 (zq1 ZHC)
theorem ZPF {v41}:zqR [(137,ZHG v41)] 10 f136 (Zst (Zgl v41)):=zqY
theorem ZQV:zqO 136 (Zst ZbZ):=zqF ZPF func136 (zq1 ZOt)
abbrev ZNl (f:ZH1):Zh:=⟨[Zwl],[zqT,zqI,zqI],ZKY f⟩
noncomputable abbrev ZRl (v3:zT3) (a:Zon) (v36:Zon) (b:Zon) (c:Zon) (d:Zon):Cfg:=Zkn Tryz.prog [(80,zk3 v3),(130,Zst a),(132,Zst v36),(133,Zst b),(134,Zst c),(136,Zst d)] 49 [] [] [] Zl1 [(130,[.P]),(132,[.P]),(133,[.P]),(134,[.P]),(136,[.P])]
theorem ZPE (v3:zT3) (a:Zon) (v36:Zon) (b:Zon) (c:Zon) (d:Zon):ZQ (ZRl v3 a v36 b c d) f38 (zqs (zqs (.seq (zqs (zql [16] [zqI] [(2,4),(7,7),(17,25)])) (.seq (zqs (.block (.loop [28] [zqI] [(2,4),(9,11),(29,48)] (zqs (zqs (.seq (.block (zqs (zqs (zql [34] [zqI] [(2,4),(10,11),(35,47)])))) .leaf)))))) .leaf)))) (ZNl (ZiL v3 a v36 b c d)):=fun _ _ _ _=>by kernel_rfl
theorem ZQU:ZC Tryz.prog 38 (ZNl ZgG):=okF (ZPE ZdG Zb3 Zb2 Zb1 Zb0 ZbZ) func38 Zct (ZhG _ (.cons zo3 (.cons ZQZ (.cons ZQY (.cons ZQX (.cons ZQW (.cons ZQV .nil)))))) .nil .nil .nil (Zi8 _))
abbrev ZCj (f:ZDo):Zh:=⟨[zqL],[zqL],Zdm f⟩
theorem ZPD:zqR [] 8 f94 (ZCj XA):=zqY
theorem ZOs:zqO 94 (ZCj Z1):=zqF ZPD func94
theorem ZPC:zqR [] 8 f138 (ZCj X7):=zqY
theorem ZQT:zqO 138 (ZCj YT):=zqF ZPC func138
abbrev ZNk (f:ZH0):Zh:=⟨[zqL],[Zwl],Zdm f⟩
theorem ZPB {v44 a}:ZQ (zqC [(94,ZCj v44),(138,ZCj a)] 72) f81 (zqs (zqs (.seq (zqs (.block (.loop [12] [zqI] [(5,5),(7,7),(9,9),(13,70)] (zqs (zqs (.seq (.block (zqs (zqs (zqs (zqs (.seq (zqs (zql [37] [zqI] [(7,7),(38,51)])) (zqs (zql [55] [zqI] [(9,9),(56,69)])))))))) .leaf)))))) .leaf))) (ZNk (ZjM v44 a)):=zqY
theorem ZQS:zqO 81 (ZNk Zhz):=zqF ZPB func81 (zq2 ZOs ZQT)
abbrev ZHF (f:ZF9):Zh:=⟨[Zwl],[Zwl],Zdm f⟩
theorem ZPA {v46}:zqR [(81,ZNk v46)] 6 f39 (ZHF (ZjO v46)):=zqY
theorem ZOr:zqO 39 (ZHF Zf3):=zqF ZPA func39 (zq1 ZQS)
abbrev ZCi (f:ZBm):Zh:=⟨[zqP,Zwl],[zqI],XW f⟩
theorem ZPz {a b}:zqR [(38,ZNl a),(39,ZHF b)] 31 f21 (ZCi (Ze8 a b)):=zqY
theorem ZQR:zqO 21 (ZCi ZcA):=zqF ZPz func21 (zq2 ZQU ZOr)
abbrev ZNj (f:ZHZ):Zh:=⟨[zqP],[Zwl,zqI],Zsq f⟩
theorem ZPy {a}:ZQ (zqC [(39,ZHF a)] 16) f22 (zqs (zqs (.seq (.order (zqk [1,3,5,11,13,15,7,17,8,18,20] .done)) .leaf))) (ZNj (ZfB a)):=zqY
theorem ZQQ:zqO 22 (ZNj Zdb):=zqF ZPy func22 (zq1 ZOr)
abbrev ZNi (f:ZHY):Zh:=⟨[ZyW,ZyW],[zqB],XW f⟩
theorem ZPx:zqR [] 8 f41 (ZNi Zcn):=zqY
theorem ZQP:zqO 41 (ZNi ZaF):=zqF ZPx func41
abbrev ZNh (f:Zwb):Zh:=⟨[.one (.L),.one (.L),.fn 41],[.one (.L)],fun t K _ h=>f t.1 t.2.1 (fun r0 h=>K (r0,()) h) h⟩
theorem ZPw {a}:ZQ (zqC [(41,ZNi a)] 56) f40 (zqs (zqs (zqs (.seq (zqs (.block (.loop [8,19] [.one .L,zqI] [(10,13),(20,54)] (zqs (zqs (.seq (.block (zqs (zqs (.seq (zqs (zql [11,25] [zqI,zqI] [(12,13),(26,49)])) .leaf)))) .leaf)))))) .leaf)))) (ZNh (YM a)):=zqY
theorem ZQO:zqO 40 (ZNh Yi):=zqF ZPw func40 (zq1 ZQP)
abbrev Zwn (f:zT2):Zh:=⟨[zqI,zqI],[zqP,zqI],ZpV f⟩
theorem ZPv:zqR [] 24 f82 (Zwn ZjP):=zqY
theorem ZQN:zqO 82 (Zwn Zf4):=zqF ZPv func82
theorem ZPu:zqR [] 33 f83 (Zwn ZjG):=zqY
theorem ZQM:zqO 83 (Zwn Zf1):=zqF ZPu func83
abbrev ZNg (f:ZHX):Zh:=⟨[ZyW],[.agg [.P,.P]],Zdm f⟩
theorem ZPt {a v53}:ZQ (zqC [(82,Zwn a),(83,Zwn v53)] 39) f42 (zqs (zqs (.cut [] [] [(4,20)] .leaf .leaf))) (ZNg (ZfA a v53)):=zqY
theorem ZQL:zqO 42 (ZNg Zbu):=zqF ZPt func42 (zq2 ZQN ZQM)
abbrev ZNf (f:ZHW):Zh:=⟨[ZHB,ZHB],[zqB],XW f⟩
theorem ZPs:zqR [] 8 f44 (ZNf Zcm):=zqY
theorem ZQK:zqO 44 (ZNf ZaE):=zqF ZPs func44
abbrev ZNe (f:Zwb):Zh:=⟨[.one (.L),.one (.L),.fn 44],[.one (.L)],fun t K _ h=>f t.1 t.2.1 (fun r0 h=>K (r0,()) h) h⟩
theorem ZPr {a}:ZQ (zqC [(44,ZNf a)] 56) f43 (zqs (zqs (zqs (.seq (zqs (.block (.loop [8,19] [.one .L,zqI] [(10,13),(20,54)] (zqs (zqs (.seq (.block (zqs (zqs (.seq (zqs (zql [11,25] [zqI,zqI] [(12,13),(26,49)])) .leaf)))) .leaf)))))) .leaf)))) (ZNe (YI a)):=zqY
theorem ZQJ:zqO 43 (ZNe Z0):=zqF ZPr func43 (zq1 ZQK)
theorem ZPq:zqR [] 31 f119 (Zwn ZjE):=zqY
theorem ZK3:zqO 119 (Zwn ZcL):=zqF ZPq func119
abbrev Zzb (f:ZyX):Zh:=⟨[zqP],[],ZKZ f⟩
theorem ZPp {v57}:zqR [(119,Zwn v57)] 14 f67 (Zzb (Zam v57)):=zqY
theorem ZOq:zqO 67 (Zzb Y6):=zqF ZPp func67 (zq1 ZK3)
abbrev ZNd (f:ZHV):Zh:=⟨[ZHB],[zqP,zqI],Zsq f⟩
theorem ZPo {v35 a}:zqR [(84,ZHI v35),(67,Zzb a)] 17 f45 (ZNd (ZiZ v35 a)):=zqY
theorem ZQI:zqO 45 (ZNd ZeP):=zqF ZPo func45 (zq2 ZOw ZOq)
abbrev Zss (f:ZoO):Zh:=⟨[zqL,zqL],[zqB],XW f⟩
theorem ZPn:ZQ (zqC [] 26) f85 (zqs (zqs (.seq (zqs (zql [13] [zqI] [(4,5),(14,25)])) .leaf))) (Zss Xz):=zqY
theorem ZQH:zqO 85 (Zss Xx):=zqF ZPn func85
theorem ZPm:ZQ (zqC [] 26) f86 (zqs (zqs (.seq (zqs (zql [13] [zqI] [(4,5),(14,25)])) .leaf))) (Zss Xk):=zqY
theorem ZQG:zqO 86 (Zss Xj):=zqF ZPm func86
theorem ZPl:ZQ (zqC [] 26) f87 (zqs (zqs (.seq (zqs (zql [13] [zqI] [(4,5),(14,25)])) .leaf))) (Zss Xc):=zqY
theorem ZQF:zqO 87 (Zss Xb):=zqF ZPl func87
theorem ZPk:ZQ (zqC [] 26) f146 (zqs (zqs (.seq (zqs (zql [13] [zqI] [(4,5),(14,25)])) .leaf))) (Zss Xy):=zqY
theorem ZQE:zqO 146 (Zss YY):=zqF ZPk func146
abbrev ZEY (f:ZDn):Zh:=⟨[ZFl,ZFl],[zqB],XW f⟩
theorem ZPj {v63}:zqR [(146,Zss v63)] 38 f89 (ZEY (Zhb v63)):=zqY
theorem ZQD:zqO 89 (ZEY ZeD):=zqF ZPj func89 (zq1 ZQE)
abbrev ZNc (f:ZoO):Zh:=⟨[.one (.L),.one (.L),.fn 89],[.one (.B)],fun t K _ h=>f t.1 t.2.1 (fun r0 h=>K (r0,()) h) h⟩
theorem ZPi {v64}:ZQ (zqC [(89,ZEY v64)] 32) f88 (zqs (zqs (.seq (zqs (zql [17] [zqI] [(6,9),(18,31)])) .leaf))) (ZNc (ZM v64)):=zqY
theorem ZQC:zqO 88 (ZNc ZL):=zqF ZPi func88 (zq1 ZQD)
theorem ZPh:ZQ (zqC [] 26) f147 (zqs (zqs (.seq (zqs (zql [13] [zqI] [(4,5),(14,25)])) .leaf))) (Zss Zb8):=zqY
theorem ZQB:zqO 147 (Zss ZbY):=zqF ZPh func147
abbrev ZNb (f:ZHU):Zh:=⟨[ZHA,ZHA],[zqB],XW f⟩
theorem ZPg {a}:zqR [(147,Zss a)] 24 f91 (ZNb (Zje a)):=zqY
theorem ZQA:zqO 91 (ZNb Zja):=zqF ZPg func91 (zq1 ZQB)
abbrev ZNa (f:ZoO):Zh:=⟨[.one (.L),.one (.L),.fn 91],[.one (.B)],fun t K _ h=>f t.1 t.2.1 (fun r0 h=>K (r0,()) h) h⟩
theorem ZPf {a}:ZQ (zqC [(91,ZNb a)] 32) f90 (zqs (zqs (.seq (zqs (zql [17] [zqI] [(6,9),(18,31)])) .leaf))) (ZNa (Zw a)):=zqY
theorem ZQz:zqO 90 (ZNa Zv):=zqF ZPf func90 (zq1 ZQA)
abbrev ZM9 (f:ZHT):Zh:=⟨[Zwl,Zwl],[zqB],XW f⟩
theorem ZPe {a b c d e}:zqR [(85,Zss a),(86,Zss b),(87,Zss c),(88,ZNc d),(90,ZNa e)] 38 f47 (ZM9 (ZjJ a b c d e)):=zqY
theorem ZQy:zqO 47 (ZM9 ZjA):=zqF ZPe func47 (zq5 ZQH ZQG ZQF ZQC ZQz)
theorem ZPd {a}:zqR [(47,ZM9 a)] 12 f46 (ZEY (Zcl a)):=zqY
theorem ZQx:zqO 46 (ZEY XG):=zqF ZPd func46 (zq1 ZQy)
abbrev ZM8 (f:Zwb):Zh:=⟨[.one (.L),.one (.L),.fn 46],[.one (.L)],fun t K _ h=>f t.1 t.2.1 (fun r0 h=>K (r0,()) h) h⟩
theorem ZPc {a}:ZQ (zqC [(46,ZEY a)] 56) f48 (zqs (zqs (zqs (.seq (zqs (.block (.loop [8,19] [.one .L,zqI] [(10,13),(20,54)] (zqs (zqs (.seq (.block (zqs (zqs (.seq (zqs (zql [11,25] [zqI,zqI] [(12,13),(26,49)])) .leaf)))) .leaf)))))) .leaf)))) (ZM8 (YQ a)):=zqY
theorem ZQw:zqO 48 (ZM8 Yl):=zqF ZPc func48 (zq1 ZQx)
abbrev ZM7 (f:ZHS):Zh:=⟨[zqI],[zqP,zqI],Zsq f⟩
theorem ZPb:ZQ (zqC [] 30) f93 (zqs (zqs (zqs (.seq (.order (zqk [1,3,5,7,9,11,13,15,16,18,20,22,24,26,28,30] .done)) .leaf)))) (ZM7 ZnX):=zqY
theorem ZQv:zqO 93 (ZM7 Zlj):=zqF ZPb func93
theorem ZPa:zqR [] 7 f96 (ZBj Zgu):=zqY
theorem ZOp:zqO 96 (ZBj Zb5):=zqF ZPa func96
abbrev ZM6 (f:ZHR):Zh:=⟨[zqI,zqI],[zqB],XW f⟩
theorem ZO9:zqR [] 12 f154 (ZM6 ZhN):=zqY
theorem ZQu:zqO 154 (ZM6 ZfL):=zqF ZO9 func154
abbrev ZM5 (f:ZHQ):Zh:=⟨[zqI,zqI,zqI,zqI,zqU],[zqP,zqI],ZFc f⟩
theorem ZO8 {a}:zqR [(154,ZM6 a)] 49 f95 (ZM5 (ZjH a)):=zqY
theorem ZQt:zqO 95 (ZM5 Zhx):=zqF ZO8 func95 (zq1 ZQu)
abbrev ZM4 (f:ZHP):Zh:=⟨[ZFl,zqI,zqU],[zqP,zqI],ZpU f⟩
theorem ZO7 {a b v44 c d}:zqR [(92,ZBj a),(93,ZM7 b),(94,ZCj v44),(96,ZBj c),(95,ZM5 d)] 50 f49 (ZM4 (ZnY a b v44 c d)):=zqY
theorem ZQs:zqO 49 (ZM4 ZjB):=zqF ZO7 func49 (zq5 ZOv ZQv ZOs ZOp ZQt)
abbrev ZM3 (f:ZHO):Zh:=⟨[zqP,Zwl],[.agg [.L,.L,.L,.I .i64]],XW f⟩
theorem ZO6 {a b c d e f}:ZQ (zqC [(40,ZNh a),(42,ZNg b),(43,ZNe c),(45,ZNd d),(48,ZM8 e),(49,ZM4 f)] 173) f23 (zqs (zqs (zqs (.seq (.seq (.order (zqk [1,3,5,7,11,19,9,13,14,16] .done)) (.block (.loop [34] [zqI] [(7,8),(35,65)] (zqs (zqs (.seq (.block (zqs (zqs (.cond (.order (zqk [1,5,9,3,7,10,13,14,16,18,20] .done)) (.order (zqk [1,5,7,9,11,15,3,13,16,19,20,22,24,26,28] .done)))))) .leaf)))))) (.seq (.seq (.order (zqk [1,3,5,7,11,19,9,13,14,16] .done)) (.block (.loop [75] [zqI] [(9,12),(76,117)] (zqs (zqs (.seq (.block (zqs (.seq (zqs (.cond (.seq (.order (zqk [1,5,9,3,7,10,13,14,16,18,20] .done)) .leaf) .leaf)) .leaf))) .leaf)))))) (zqs (.seq (.seq (.order (zqk [1,3,5,7,11,15,21,9,13,16,18] .done)) (.block (.loop [128] [zqI] [(14,17),(129,171)] (zqs (zqs (.seq (.block (zqs (.seq (zqs (.cond (.seq (.order (zqk [1,5,9,3,7,10,13,14,16,18,20] .done)) .leaf) .leaf)) (.seq (.order (zqk [1,3,5,7,11,17,19,21,25,27,29,9,13,15,23,31,32,34,37,39,40,42] .done)) .leaf)))) .leaf)))))) .leaf))))))) (ZM3 (Zdy a b c d e f)):=zqY
theorem ZQr:zqO 23 (ZM3 Zbl):=zqF ZO6 func23 (zq6 ZQO ZQL ZQJ ZQI ZQw ZQs)
theorem ZO5 {a b c}:ZQ (zqC [(21,ZCi a),(22,ZNj b),(23,ZM3 c)] 46) f10 (zqs (zqs (.seq (.seq (.order (zqk [1,3,5,7,9,11,12,14] .done)) .leaf) (zqs (zqs (.seq (.order (zqk [1,3,5,7,9,10,12,14,16,18] .done)) .leaf)))))) (ZCi (Zeh a b c)):=zqY
theorem ZOo:zqO 10 (ZCi Zaw):=zqF ZO5 func10 (zq3 ZQR ZQQ ZQr)
abbrev ZCh (f:ZBl):Zh:=⟨[Zv8],[zqL,zqI],Zsq f⟩
theorem ZO4 {v5}:ZQ (zqC [(114,zk5 v5)] 59) f58 (zqs (.cut [] [] [(2,3),(5,25)] .leaf (zqs (.cut [4] [.one .L] [(35,45)] .leaf .leaf)))) (ZCh (ZkP v5)):=zqY
theorem ZFo:zqO 58 (ZCh ZbH):=zqF ZO4 func58 (zq1 zo5)
theorem ZO3:zqR [] 6 f98 (zk5 Zck):=zqY
theorem ZQq:zqO 98 (zk5 Zcg):=zqF ZO3 func98
abbrev ZM2 (f:zT7):Zh:=⟨[.one (.L),.fn 98],[.one (.I .i64)],fun t K _ h=>f t.1 (fun r0 h=>K (r0,()) h) h⟩
theorem ZO2 {a}:ZQ (zqC [(98,zk5 a)] 19) f155 (zqs (.seq (zqs (zql [8] [zqI] [(4,5),(9,18)])) .leaf)) (ZM2 (Ye a)):=zqY
theorem ZQp:zqO 155 (ZM2 Z8):=zqF ZO2 func155 (zq1 ZQq)
abbrev ZM1 (f:zT8):Zh:=⟨[.one (.L),.fn 98],[.one (.B)],fun t K _ h=>f t.1 (fun r0 h=>K (r0,()) h) h⟩
theorem ZO1 {a}:zqR [(155,ZM2 a)] 9 f97 (ZM1 (ZU a)):=zqY
theorem ZQo:zqO 97 (ZM1 ZE):=zqF ZO1 func97 (zq1 ZQp)
abbrev Zwm (f:Zwa):Zh:=⟨[zqP,zqL],[zqI],XW f⟩
theorem ZO0:ZQ (zqC [] 27) f156 (zqs (zqs (.seq (zqs (.block (.loop [11] [zqI] [(7,7),(12,24)] (zqs (zqs (.seq (.block (zqs (.seq (.order (zqk [1,3,5,7,9,10,12] .done)) .leaf))) .leaf)))))) .leaf))) (Zwm Ze0):=zqY
theorem ZK2:zqO 156 (Zwm Xv):=zqF ZO0 func156
theorem ZOZ {v57}:zqR [(119,Zwn v57)] 18 f201 (zk0 (Zmc v57)):=zqY
theorem ZQn:zqO 201 (zk0 Zj6):=zqF ZOZ func201 (zq1 ZK3)
abbrev ZFZ (f:ZE0):Zh:=⟨[zqP,ZHz],[],ZB1 f⟩
theorem ZOY {a}:ZQ (zqC [(201,zk0 a)] 27) f157 (zqs (.seq (.order (zqk [1,3,5,7,9,10,12] .done)) (.cond (.seq (.order (zqk [1,3,5,7,9,10,12] .done)) (.order (zqk [1,3,5,7,9,11,12,14,16,18,20] .done))) .leaf))) (ZFZ (ZeZ a)):=zqY
theorem ZK1:zqO 157 (ZFZ Xu):=zqF ZOY func157 (zq1 ZQn)
theorem ZOX {a b c}:ZQ (zqC [(58,ZCh a),(156,Zwm b),(157,ZFZ c)] 57) f99 (zqs (zqs (zqs (.seq (zqs (zql [5,16] [.one .L,zqI] [(4,4),(7,9),(17,31)])) (.seq (.seq (.order (zqk [1,3,5,7,11,13,15,17,19,21,23,8,24] .done)) .leaf) (.seq (zqs (.block (.loop [47] [zqI] [(11,11),(48,56)] (zqs (zqs (.seq (.block (zqs (.order (zqk [1,3,5,7,8] .done)))) .leaf)))))) .leaf)))))) (Zwm (Zfs a b c)):=zqY
theorem ZQm:zqO 99 (Zwm Zc7):=zqF ZOX func99 (zq3 ZFo ZK2 ZK1)
abbrev Zza (f:Zsg):Zh:=⟨[zqP,Zv8],[zqI],XW f⟩
theorem ZOW {a b c}:ZQ (zqC [(58,ZCh a),(97,ZM1 b),(99,Zwm c)] 65) f50 (zqs (zqs (zqs (.seq (.order (zqk [1,3,5,7,9,10,12,14] .done)) .leaf)))) (Zza (Zdx a b c)):=zqY
theorem ZQl:zqO 50 (Zza Zac):=zqF ZOW func50 (zq3 ZFo ZQo ZQm)
abbrev ZM0 (f:ZHN):Zh:=⟨[zqI,zqS,zqP,zqP],[],ZFe f⟩
theorem ZOV:zqR [] 13 f63 (ZM0 ZjK):=zqY
theorem ZQk:zqO 63 (ZM0 Zhy):=zqF ZOV func63
abbrev ZCg (f:ZBk):Zh:=⟨[Zwl,zqT,zqS],[zqL],Zjf f⟩
theorem ZOU {a}:ZQ (zqC [(63,ZM0 a)] 98) f27 (zqs (zqs (zqs (.seq (zqs (.block (zqs (.cond (zqs (zql [25] [zqI] [(9,10),(26,35)])) (zqs (.cond (zqs (zql [41] [zqI] [(11,12),(42,51)])) (zqs (.cond (zqs (zql [57] [zqI] [(13,14),(58,67)])) (zqs (.cond (zqs (zql [73] [zqI] [(15,15),(74,80)])) (zqs (.cond (zqs (zql [86] [zqI] [(16,17),(87,96)])) .leaf)))))))))))) .leaf)))) (ZCg (Zmd a)):=zqY
theorem ZFn:zqO 27 (ZCg ZaW):=zqF ZOU func27 (zq1 ZQk)
abbrev ZMZ (f:ZHM):Zh:=⟨[ZHA,zqS],[zqB],XW f⟩
theorem ZOT {v41 v24}:zqR [(137,ZHG v41),(199,ZHK v24)] 19 f160 (ZMZ (Zf9 v41 v24)):=zqY
theorem ZQj:zqO 160 (ZMZ Zes):=zqF ZOT func160 (zq2 ZOt ZOy)
abbrev ZuL (f:ZtG):Zh:=⟨[zqI,zqP],[zqB],XW f⟩
theorem ZOS {a}:ZQ (zqC [(160,ZMZ a)] 22) f159 (zqs (.seq (.order (zqk [17,1,3,5,7,9,11,13,15,19,21,23,24,26,28,31,32,34,36] .done)) .leaf)) (ZuL (Zdw a)):=zqY
theorem ZQi:zqO 159 (ZuL Zbk):=zqF ZOS func159 (zq1 ZQj)
abbrev ZMY (f:Zv9):Zh:=⟨[zqP,zqT,.clo 159 [.P]],[zqI,zqB],ZpU f⟩
theorem ZOR {a b}:ZQ (zqC [(27,ZCg a),(159,ZuL b)] 34) f158 (zqs (.seq (.seq (.order (zqk [1,3,5,15,17,19,21,23,31,7,9,11,13,25,26,28] .done)) (zql [25] [zqI] [(6,7),(9,9),(26,33)])) .leaf)) (ZMY (ZB a b)):=zqY
theorem ZQh:zqO 158 (ZMY X0):=zqF ZOR func158 (zq2 ZFn ZQi)
abbrev ZpW (f:Zml):Zh:=⟨[zqP],[zqI,zqB],Zsq f⟩
theorem ZOQ {a}:zqR [(158,ZMY a)] 9 f100 (ZpW (Ze6 a)):=zqY
theorem ZQg:zqO 100 (ZpW Za1):=zqF ZOQ func100 (zq1 ZQh)
theorem ZHe:ZyQ Tryz.prog 79:=Zyc func79 (by kernel_rfl) (by kernel_rfl) (by kernel_rfl) (by kernel_rfl)
abbrev ZMX (f:ZHL):Zh:=⟨[.one (.M)],[.one (.M)],Zdm f⟩
noncomputable abbrev ZRk:Cfg:=Zkn Tryz.prog [] 9 [79] [] [] Zl1
theorem ZOP:ZQ (ZRk) f187 (.leaf) (ZMX Yz):=fun _ _ _ _=>by kernel_rfl
theorem ZQf:ZC Tryz.prog 187 (ZMX ZR):=okF (ZOP) func187 Zct (ZhG _ .nil (.cons ZHe .nil) .nil .nil (Zi8 _))
abbrev ZuK (f:ZtF):Zh:=⟨[zqP],[zqP],Zdm f⟩
theorem ZOO {a}:zqR [(187,ZMX a)] 15 f127 (ZuK (Zds a)):=zqY
theorem ZQe:zqO 127 (ZuK Zbh):=zqF ZOO func127 (zq1 ZQf)
theorem ZON {a}:ZQ (zqC [(127,ZuK a)] 23) f72 (zqs (zqs (.seq (.order (zqk [1,3,5,11,13,15,17,25,27,29,7,19,31,8,20,22,32,34,36] .done)) .leaf))) (ZuK (Zd3 a)):=zqY
theorem ZQd:zqO 72 (ZuK ZaV):=zqF ZON func72 (zq1 ZQe)
abbrev ZHE (f:ZF8):Zh:=⟨[zqP,ZHz],[zqP],XW f⟩
theorem ZOM {a}:ZQ (zqC [(72,ZuK a)] 15) f30 (zqs (zqs (.seq (.order (zqk [1,3,5,7,9,11,12,14,16] .done)) .leaf))) (ZHE (Zgg a)):=zqY
theorem ZOn:zqO 30 (ZHE ZbX):=zqF ZOM func30 (zq1 ZQd)
abbrev ZoN (f:ZlG):Zh:=⟨[zqP,zqI],[zqI],XW f⟩
theorem ZOL:zqR [] 22 f120 (ZoN ZcU):=zqY
theorem ZK0:zqO 120 (ZoN YN):=zqF ZOL func120
abbrev ZHD (f:Zzx):Zh:=⟨[zqP,zqI],[.clo 182 [.P,.P]],XW f⟩
theorem ZOK:zqR [] 6 f124 (ZHD ZeT):=zqY
theorem ZOm:zqO 124 (ZHD Xt):=zqF ZOK func124
theorem ZKT:zqR [] 16 f122 (ZoN ZaI):=zqY
theorem ZCf:zqO 122 (ZoN ZP):=zqF ZKT func122
abbrev ZF7:List VT:=[.yl,.one (.P),.one (.P)]
abbrev ZF5:List VT:=[]
abbrev ZDl (f:Zky):ZcI:=⟨[.one (.P),.one (.P)],fun Y l t K h=>f Y l t.1 t.2.1 K h⟩
noncomputable def ZNB (Y:Yld):Cfg:=Zkn Tryz.prog [(122,(ZoN ZP))] 52 [] [] [] Y
theorem ZKS (a:ZlG) (Y:Yld) (t:Xl ZF7) (K:Xl ZF5->HP) (b:Value->HP) (h:Zf):ZE7 (Zkn Tryz.prog [(122,ZoN a)] 52 [] [] [] Y) f182 (zqs (zqs (.block (.loop [5] [zqI] [(6,7),(19,51)] (zqs (.seq (.block (zqs (.seq (.order (zqk [0,2,5,7,9,11,13,15,17,19,21,23,25,27,29,30,32,34,36] .done)) .leaf))) .leaf)))))) (Xl.evs ZF7 t) ZF5 K b h=Zdq a Y t.1 t.2.1 t.2.2.1 (fun h=>K (()) h) h:=by kernel_rfl
theorem ZFY:Zsc Tryz.prog 182 (ZDl Xa):=fun Y a=>ZDT (c:=ZNB Y) func182 (by kernel_rfl) (by kernel_rfl) rfl (Awt rfl) (ZhG _ (.cons ZCf .nil) .nil .nil .nil a) Zct (ZKS ZP Y)
abbrev ZmZ (f:Zkk):Zh:=⟨[zqI,zqI],[zqI],XW f⟩
theorem ZKR:zqR [] 11 f183 (ZmZ Zlo):=zqY
theorem ZMW:zqO 183 (ZmZ Zix):=zqF ZKR func183
abbrev Zzu (f:ZsI):Zh:=⟨[ZB3,ZB3],[ZB3],XW f⟩
theorem ZKQ {a}:ZQ (zqC [(183,ZmZ a)] 53) f125 (zqs (.cut [5] [.one .P] [(6,31)] (.order (zqk [1,5,11,15,21,25,31,35,41,45,3,7,13,17,23,27,33,37,43,47] (.fork 4 (.fork 9 (.fork 14 (.fork 19 (.fork 24 (zqk [51,52,54] .done) 26 (zqk [48,50,54] .done)) 26 (zqk [38,48,50,54] .done)) 26 (zqk [28,38,48,50,54] .done)) 26 (zqk [18,28,38,48,50,54] .done)) 26 (zqk [8,18,28,38,48,50,54] .done)))) .leaf)) (Zzu (ZjD a)):=zqY
theorem ZFX:zqO 125 (Zzu Zep):=zqF ZKQ func125 (zq1 ZMW)
abbrev ZmY (f:ZmC):Zh:=⟨[zqP,zqI],[ZB3,zqI],ZpV f⟩
noncomputable abbrev ZNA (c:ZlG) (d:Zzx) (a:ZsI) (b:Zky):Cfg:=Zkn Tryz.prog [(120,ZoN c),(124,ZHD d),(125,Zzu a)] 25 [] [] [(182,ZDl b)] Zl1
theorem ZKP (c:ZlG) (d:Zzx) (a:ZsI) (b:Zky):ZQ (ZNA c d a b) f69 (zqs (zqs (zqs (.seq (zqs (.block (.range [ZFk] .leaf .leaf))) .leaf)))) (ZmY (Zd7 c d a b)):=fun _ _ _ _=>by kernel_rfl
theorem ZCe:ZC Tryz.prog 69 (ZmY XJ):=okF (ZKP YN Xt Zep Xa) func69 Zct (ZhG _ (.cons ZK0 (.cons ZOm (.cons ZFX .nil))) .nil .nil (.cons ZFY .nil) (Zi8 _))
theorem ZKO {a}:zqR [(69,ZmY a)] 17 f161 (ZmY (Ze4 a)):=zqY
theorem Zy9:zqO 161 (ZmY Xw):=zqF ZKO func161 (zq1 ZCe)
abbrev Zki (f:Zkx):Zh:=⟨[zqP,zqI],[zqI,zqI],ZpV f⟩
theorem ZKN {a}:zqR [(161,ZmY a)] 27 f162 (Zki (Zb7 a)):=zqY
theorem ZMV:zqO 162 (Zki ZaU):=zqF ZKN func162 (zq1 Zy9)
noncomputable abbrev ZNz (c:ZlG) (d:Zzx) (a:ZlG) (b:Zky):Cfg:=Zkn Tryz.prog [(120,ZoN c),(124,ZHD d),(122,ZoN a)] 33 [] [] [(182,ZDl b)] Zl1
theorem ZKM (c:ZlG) (d:Zzx) (a:ZlG) (b:Zky):ZQ (ZNz c d a b) f202 (zqs (zqs (zqs (.seq (zqs (.block (.range [ZFk] .leaf (.block (.seq (.order (zqk [3,1,5,9,11,6,12,14] .done)) .leaf))))) .leaf)))) (Zki (Zdr c d a b)):=fun _ _ _ _=>by kernel_rfl
theorem ZFW:ZC Tryz.prog 202 (Zki X9):=okF (ZKM YN Xt ZP Xa) func202 Zct (ZhG _ (.cons ZK0 (.cons ZOm (.cons ZCf .nil))) .nil .nil (.cons ZFY .nil) (Zi8 _))
theorem ZKL {a}:zqR [(202,Zki a)] 16 f163 (Zki (Zd2 a)):=zqY
theorem ZMU:zqO 163 (Zki ZaT):=zqF ZKL func163 (zq1 ZFW)
theorem ZKK {a}:zqR [(161,ZmY a)] 17 f164 (Zki (Zfu a)):=zqY
theorem ZMT:zqO 164 (Zki Zc8):=zqF ZKK func164 (zq1 Zy9)
abbrev ZlF (f:Zk0):Zh:=⟨[zqP],[zqI],Zdm f⟩
theorem ZKJ:zqR [] 9 f32 (ZlF ZcH):=zqY
theorem Zy8:zqO 32 (ZlF YL):=zqF ZKJ func32
abbrev Zku (f:Zh4):Zh:=⟨[zqI],[zqB],Zdm f⟩
theorem ZKI:zqR [] 9 f288 (Zku Zel):=zqY
theorem ZMS:zqO 288 (Zku ZbN):=zqF ZKI func288
abbrev ZDk (f:zT7):Zh:=⟨[.one (.L),.fn 288],[.one (.I .i64)],fun t K _ h=>f t.1 (fun r0 h=>K (r0,()) h) h⟩
theorem ZKH {a}:ZQ (zqC [(288,Zku a)] 19) f110 (zqs (.seq (zqs (zql [8] [zqI] [(4,5),(9,18)])) .leaf)) (ZDk (YE a)):=zqY
theorem ZMR:zqO 110 (ZDk YD):=zqF ZKH func110 (zq1 ZMS)
abbrev ZDj (f:zT8):Zh:=⟨[.one (.L),.fn 288],[.one (.B)],fun t K _ h=>f t.1 (fun r0 h=>K (r0,()) h) h⟩
theorem ZKG {a}:zqR [(110,ZDk a)] 9 f287 (ZDj (Yv a)):=zqY
theorem ZMQ:zqO 287 (ZDj Yt):=zqF ZKG func287 (zq1 ZMR)
abbrev ZDi (f:ZAi):Zh:=⟨[ZFk],[zqB],Zdm f⟩
theorem ZKF {a}:zqR [(287,ZDj a)] 20 f271 (ZDi (ZfE a)):=zqY
theorem ZMP:zqO 271 (ZDi Zdf):=zqF ZKF func271 (zq1 ZMQ)
abbrev ZuU (f:ZsH):Zh:=⟨[ZB6,zqI,ZFk],[zqB],Zjf f⟩
theorem ZKE {b a}:zqR [(135,ZHH b),(271,ZDi a)] 22 f244 (ZuU (ZkR b a)):=zqY
theorem ZMO:zqO 244 (ZuU Ziy):=zqF ZKE func244 (zq2 ZOu ZMP)
theorem ZKD:zqR [] 16 f272 (zk4 ZiX):=zqY
theorem ZMN:zqO 272 (zk4 ZeO):=zqF ZKD func272
abbrev Zsz (f:ZgT):Zh:=⟨[zqI],[zqU],Zdm f⟩
theorem ZKC:zqR [] 6 f290 (Zsz ZjQ):=zqY
theorem ZMM:zqO 290 (Zsz ZhB):=zqF ZKC func290
abbrev Zzt (f:Zkw):Zh:=⟨[zqU,zqU],[zqU,zqU],ZpV f⟩
theorem ZKB:zqR [] 51 f237 (Zzt ZfD):=zqY
theorem ZFV:zqO 237 (Zzt Zaq):=zqF ZKB func237
theorem Zyd:ZyT Tryz.prog 298:=ZEB func298 (by kernel_rfl) (by kernel_rfl) (by kernel_rfl) (by kernel_rfl)
abbrev ZDh (f:ZAh):Zh:=⟨[zqU,zqU,zqU],[.agg [.I .u64,.I .u64,.I .u64]],Zjf f⟩
noncomputable abbrev ZNy (a:Zkw):Cfg:=Zkn Tryz.prog [(237,Zzt a)] 45 [] [] [] Zl1 [] [298]
theorem ZKA (a:Zkw):ZQ (ZNy a) f289 (.leaf) (ZDh (Zhm a)):=fun _ _ _ _=>by kernel_rfl
theorem ZML:ZC Tryz.prog 289 (ZDh ZeN):=okF (ZKA Zaq) func289 Zct (ZhG _ (.cons ZFV .nil) .nil .nil .nil (Zi8 _) (.cons Zyd .nil))
abbrev ZDg (f:Zh4):Zh:=⟨[zqU],[zqB],Zdm f⟩
theorem ZKz:zqR [] 6 f301 (ZDg Zem):=zqY
theorem ZMK:zqO 301 (ZDg Zd6):=zqF ZKz func301
abbrev ZDf (f:Zkk):Zh:=⟨[zqU,zqU],[zqI],XW f⟩
theorem ZKy {a}:zqR [(301,ZDg a)] 20 f299 (ZDf (Zc2 a)):=zqY
theorem ZMJ:zqO 299 (ZDf Za6):=zqF ZKy func299 (zq1 ZMK)
abbrev ZDe (f:ZAg):Zh:=⟨[zqL,zqL],[zqI],XW f⟩
theorem ZKx {a}:ZQ (zqC [(299,ZDf a)] 36) f291 (zqs (.seq (zqs (zql [11] [zqI] [(4,8),(12,30)])) .leaf)) (ZDe (XO a)):=zqY
theorem ZMI:zqO 291 (ZDe Y5):=zqF ZKx func291 (zq1 ZMJ)
theorem ZKw {a b c}:zqR [(290,Zsz a),(289,ZDh b),(291,ZDe c)] 23 f273 (zk4 (Zfg a b c)):=zqY
theorem ZMH:zqO 273 (zk4 ZcT):=zqF ZKw func273 (zq3 ZMM ZML ZMI)
abbrev ZuT (f:ZsG):Zh:=⟨[ZB6,zqI,ZFk],[zqS],Zjf f⟩
theorem ZKv {a b}:zqR [(272,zk4 a),(273,zk4 b)] 47 f245 (ZuT (ZiW a b)):=zqY
theorem ZMG:zqO 245 (ZuT ZgK):=zqF ZKv func245 (zq2 ZMN ZMH)
theorem ZKu {a b}:zqR [(244,ZuU a),(245,ZuT b)] 16 f203 (ZuT (ZiY a b)):=zqY
theorem ZMF:zqO 203 (ZuT ZgL):=zqF ZKu func203 (zq2 ZMO ZMG)
theorem ZKt {a}:zqR [(203,ZuT a)] 12 f166 (ZuU (Zh0 a)):=zqY
theorem ZME:zqO 166 (ZuU ZfN):=zqF ZKt func166 (zq1 ZMF)
abbrev ZDd (f:ZAf):Zh:=⟨[zqI,zqP,zqP],[zqB],Zjf f⟩
theorem ZKs {a}:ZQ (zqC [(166,ZuU a)] 24) f165 (zqs (.seq (.order (zqk [17,1,3,5,7,9,11,13,15,19,21,23,25,27,29,31,33,34,36,38] .done)) .leaf)) (ZDd (Zcj a)):=zqY
theorem ZMD:zqO 165 (ZDd XF):=zqF ZKs func165 (zq1 ZME)
abbrev ZDc (f:ZAe):Zh:=⟨[zqP,zqT,.clo 165 [.P,.P]],[zqI,zqB],ZpU f⟩
theorem ZKr {b a}:ZQ (zqC [(27,ZCg b),(165,ZDd a)] 34) f158 (zqs (.seq (.seq (.order (zqk [1,3,5,15,17,19,21,23,31,7,9,11,13,25,26,28] .done)) (zql [25] [zqI] [(6,7),(9,9),(26,33)])) .leaf)) (ZDc (XS b a)):=zqY
theorem ZMC:zqO 158 (ZDc XR):=zqF ZKr func158 (zq2 ZFn ZMD)
theorem ZKq {g a b c d e f}:ZQ (zqC [(30,ZHE g),(161,ZmY a),(162,Zki b),(163,Zki c),(164,Zki d),(32,ZlF e),(158,ZDc f)] 96) f101 (zqs (zqs (zqs (zqs (zqs (zqs (zqs (.cut [13] [.one .P] [(69,90)] (.order (zqk [1,5,9,39,41,3,11,13,15,17,19,21,23,25,27,29,31,33,35,37] (.fork 3 (zqk [43,44,46] .done) 22 (zqk [6,42,46] .done)))) .leaf)))))))) (ZpW (Zdv g a b c d e f)):=zqY
theorem ZMB:zqO 101 (ZpW Zaa):=zqF ZKq func101 (zq7 ZOn Zy9 ZMV ZMU ZMT Zy8 ZMC)
abbrev Zoq (f:Zos):Zh:=⟨[zqP,zqI,zqS],[zqI],Zjf f⟩
theorem ZKp:zqR [] 28 f206 (Zoq Zhl):=zqY
theorem ZMA:zqO 206 (Zoq ZeM):=zqF ZKp func206
theorem ZKo:zqR [] 22 f247 (ZoN ZdC):=zqY
theorem ZFU:zqO 247 (ZoN Zae):=zqF ZKo func247
abbrev ZDb (f:ZAd):Zh:=⟨[zqS],[zqU],Zdm f⟩
theorem ZKn:ZQ (zqC [] 19) f276 (zqs (zqs (.seq (zqs (zql [3,7] [zqU,zqI] [(4,4),(8,17)])) .leaf))) (ZDb ZiJ):=zqY
theorem ZMz:zqO 276 (ZDb ZgF):=zqF ZKn func276
abbrev ZDa (f:ZgT):Zh:=⟨[zqU],[zqU],Zdm f⟩
theorem ZKm:zqR [] 17 f275 (ZDa ZkO):=zqY
theorem ZMy:zqO 275 (ZDa Ziw):=zqF ZKm func275
abbrev Zzs (f:ZwD):Zh:=⟨[ZFm,zqI,zqS],[zqI],Zjf f⟩
theorem ZKl {a b}:zqR [(276,ZDb a),(275,ZDa b)] 23 f252 (Zzs (ZcZ a b)):=zqY
theorem ZFT:zqO 252 (Zzs Xp):=zqF ZKl func252 (zq2 ZMz ZMy)
abbrev Zzr (f:ZwC):Zh:=⟨[ZFm,zqI],[zqI],XW f⟩
theorem ZKk:zqR [] 14 f248 (Zzr ZdB):=zqY
theorem ZFS:zqO 248 (Zzr Zad):=zqF ZKk func248
abbrev ZC9 (f:ZAc):Zh:=⟨[.agg [.I .i64,.I .i64,.M],zqP],[zqI],XW f⟩
theorem ZKj:zqR [] 8 f293 (ZC9 ZaP):=zqY
theorem ZMx:zqO 293 (ZC9 ZaM):=zqF ZKj func293
theorem ZKi:zqR [] 12 f251 (ZmZ ZiI):=zqY
theorem ZFR:zqO 251 (ZmZ ZbL):=zqF ZKi func251
abbrev ZC8 (f:ZAb):Zh:=⟨[zqP,zqI,.clo 293 [.P]],[zqI],Zjf f⟩
theorem ZKh {a b c}:ZQ (zqC [(248,Zzr a),(293,ZC9 b),(251,ZmZ c)] 41) f292 (zqs (zqs (.seq (zqs (.block (.loop [7,15] [zqI,zqI] [(9,9),(16,39)] (zqs (zqs (.seq (.block (zqs (.seq (.order (zqk [1,5,7,9,13,17,19,21,23,3,11,25,14,26,28] .done)) .leaf))) .leaf)))))) .leaf))) (ZC8 (YJ a b c)):=zqY
theorem ZMw:zqO 292 (ZC8 Z2):=zqF ZKh func292 (zq3 ZFS ZMx ZFR)
theorem ZKg {a b}:ZQ (zqC [(252,Zzs a),(292,ZC8 b)] 35) f277 (zqs (zqs (.seq (zqs (zql [7,15] [zqI,zqI] [(8,9),(16,33)])) .leaf))) (Zoq (Zbx a b)):=zqY
theorem ZMv:zqO 277 (Zoq X1):=zqF ZKg func277 (zq2 ZFT ZMw)
abbrev ZC7 (f:ZAa):Zh:=⟨[zqP,zqI,zqS],[zqI,zqI],ZpU f⟩
theorem ZKf {a b}:zqR [(247,ZoN a),(277,Zoq b)] 19 f253 (ZC7 (Zby a b)):=zqY
theorem ZMt:zqO 253 (ZC7 X2):=zqF ZKf func253 (zq2 ZFU ZMv)
theorem ZKe {a b}:zqR [(69,ZmY a),(253,ZC7 b)] 42 f207 (Zoq (ZfT a b)):=zqY
theorem ZFQ:zqO 207 (Zoq Zca):=zqF ZKe func207 (zq2 ZCe ZMt)
abbrev ZC6 (f:Zz9):Zh:=⟨[.agg [.S,.I .i64],zqP],[zqB],XW f⟩
theorem ZKd:zqR [] 8 f254 (ZC6 Zff):=zqY
theorem ZMs:zqO 254 (ZC6 ZcE):=zqF ZKd func254
abbrev ZC5 (f:Zkj):Zh:=⟨[zqL,.clo 254 [.P]],[zqI],XW f⟩
theorem ZKc {a}:ZQ (zqC [(254,ZC6 a)] 19) f200 (zqs (.seq (zqs (zql [8] [zqI] [(4,5),(9,18)])) .leaf)) (ZC5 (Yf a)):=zqY
theorem ZMr:zqO 200 (ZC5 Z9):=zqF ZKc func200 (zq1 ZMs)
abbrev ZC4 (f:Zz8):Zh:=⟨[ZFl,zqS],[zqI],XW f⟩
theorem ZKb {a}:zqR [(200,ZC5 a)] 23 f208 (ZC4 (Zgv a)):=zqY
theorem ZMq:zqO 208 (ZC4 ZdZ):=zqF ZKb func208 (zq1 ZMr)
abbrev Zsy (f:Zra):Zh:=⟨[zqP,zqI,zqS,zqI],[zqB,zqI],ZFd f⟩
theorem ZKa {a b c}:ZQ (zqC [(206,Zoq a),(207,Zoq b),(208,ZC4 c)] 41) f170 (zqs (.cut [] [] [(8,9),(11,20)] .leaf (zqs (.seq (.order (zqk [1,3,5,9,11,13,17,21,15,6,18,22,24,26,28] .done)) .leaf)))) (Zsy (Zcc a b c)):=zqY
theorem ZFP:zqO 170 (Zsy Zap):=zqF ZKa func170 (zq3 ZMA ZFQ ZMq)
theorem ZJ9 {a}:ZQ (zqC [(170,Zsy a)] 77) f167 (zqs (.cut [4,5] [.one .P,.one .P] [(9,30)] (.order (zqk [17,39,1,3,5,7,9,11,13,15,19,21,23,25,27,29,31,33,35,37,41,43] (.fork 22 (zqk [46,48,50] .done) 23 (zqk [44,48,50] .done)))) (zqs (.seq (.order (zqk [11,1,3,5,7,9,13,15,17,18,20] .done)) (.seq (.order (zqk [11,1,3,5,7,9,12,14,16,18,20] .done)) (.seq (.order (zqk [1,3,5,7,9,11,13,15,16,18,20,23,24,26,29,31,32,34] .done)) .leaf)))))) (ZuL (Zeb a)):=zqY
theorem ZMp:zqO 167 (ZuL XK):=zqF ZJ9 func167 (zq1 ZFP)
abbrev ZC3 (f:Zv9):Zh:=⟨[zqP,zqT,.clo 167 [.P]],[zqI,zqB],ZpU f⟩
theorem ZJ8 {b a}:ZQ (zqC [(27,ZCg b),(167,ZuL a)] 34) f158 (zqs (.seq (.seq (.order (zqk [1,3,5,15,17,19,21,23,31,7,9,11,13,25,26,28] .done)) (zql [25] [zqI] [(6,7),(9,9),(26,33)])) .leaf)) (ZC3 (Zaf b a)):=zqY
theorem ZMo:zqO 158 (ZC3 Zab):=zqF ZJ8 func158 (zq2 ZFn ZMp)
theorem ZJ7 {a}:zqR [(158,ZC3 a)] 9 f102 (ZpW (Zfy a)):=zqY
theorem ZMn:zqO 102 (ZpW Zbs):=zqF ZJ7 func102 (zq1 ZMo)
abbrev ZC2 (f:ZuZ):Zh:=⟨[zqL,Zv8],[.clo 255 [.P,.P]],XW f⟩
theorem ZJ6:zqR [] 6 f209 (ZC2 ZiQ):=zqY
theorem ZMm:zqO 209 (ZC2 ZgH):=zqF ZJ6 func209
abbrev ZC1 (f:Zz7):Zh:=⟨[ZyW,zqP,zqP,zqP],[zqB],ZpT f⟩
theorem ZJ5:zqR [] 28 f278 (ZC1 Ze9):=zqY
theorem ZMl:zqO 278 (ZC1 ZcB):=zqF ZJ5 func278
abbrev ZC0 (f:Zz6):Zh:=⟨[zqL,.clo 278 [.P,.P,.P]],[zqI],XW f⟩
theorem ZJ4 {a}:ZQ (zqC [(278,ZC1 a)] 19) f294 (zqs (.seq (zqs (zql [8] [zqI] [(4,5),(9,18)])) .leaf)) (ZC0 (Yg a)):=zqY
theorem ZMk:zqO 294 (ZC0 Ya):=zqF ZJ4 func294 (zq1 ZMl)
abbrev ZCZ (f:Zz5):Zh:=⟨[zqL,.clo 278 [.P,.P,.P]],[zqB],XW f⟩
theorem ZJ3 {a}:zqR [(294,ZC0 a)] 9 f279 (ZCZ (ZV a)):=zqY
theorem ZMj:zqO 279 (ZCZ ZF):=zqF ZJ3 func279 (zq1 ZMk)
abbrev Zzq (f:ZwB):Zh:=⟨[zqL,zqI,zqS],[zqB],Zjf f⟩
theorem ZJ2 {a}:zqR [(279,ZCZ a)] 32 f256 (Zzq (Zgr a)):=zqY
theorem ZMi:zqO 256 (Zzq X6):=zqF ZJ2 func256 (zq1 ZMj)
abbrev ZF6:List VT:=[.yl,.one (.P),.one (.P)]
abbrev ZF4:List VT:=[]
abbrev ZF2 (f:Zky):ZcI:=⟨[.one (.P),.one (.P)],fun Y l t K h=>f Y l t.1 t.2.1 K h⟩
noncomputable def ZNx (Y:Yld):Cfg:=Zkn Tryz.prog [(256,(Zzq X6))] 33 [] [] [] Y
theorem ZJ1 (a:ZwB) (Y:Yld) (t:Xl ZF6) (K:Xl ZF4->HP) (b:Value->HP) (h:Zf):ZE7 (Zkn Tryz.prog [(256,Zzq a)] 33 [] [] [] Y) f255 (zqs (zql [8] [zqI] [(4,5),(9,32)])) (Xl.evs ZF6 t) ZF4 K b h=Zhi a Y t.1 t.2.1 t.2.2.1 (fun h=>K (()) h) h:=by kernel_rfl
theorem ZMh:Zsc Tryz.prog 255 (ZF2 ZeH):=fun Y a=>ZDT (c:=ZNx Y) func255 (by kernel_rfl) (by kernel_rfl) rfl (Awt rfl) (ZhG _ (.cons ZMi .nil) .nil .nil .nil a) Zct (ZJ1 X6 Y)
abbrev Zzp (f:ZsF):Zh:=⟨[ZyW,Zv8],[.agg [.S,.S,.S,.B]],XW f⟩
theorem ZJ0:zqR [] 36 f210 (Zzp ZhX):=zqY
theorem ZFO:zqO 210 (Zzp Zb9):=zqF ZJ0 func210
abbrev ZCY (f:Zz4):Zh:=⟨[zqL,Zv8],[zqL],XW f⟩
noncomputable abbrev ZNw (a:ZuZ) (b:ZsF) (c:Zky):Cfg:=Zkn Tryz.prog [(209,ZC2 a),(210,Zzp b)] 23 [] [] [(255,ZF2 c)] Zl1
theorem ZJZ (a:ZuZ) (b:ZsF) (c:Zky):ZQ (ZNw a b c) f171 (zqs (zqs (.seq (zqs (.block (.range [zqI,ZyW] .leaf .leaf))) .leaf))) (ZCY (ZiR a b c)):=fun _ _ _ _=>by kernel_rfl
theorem ZMg:ZC Tryz.prog 171 (ZCY ZgI):=okF (ZJZ ZgH Zb9 ZeH) func171 Zct (ZhG _ (.cons ZMm (.cons ZFO .nil)) .nil .nil (.cons ZMh .nil) (Zi8 _))
abbrev ZCX (f:Zz3):Zh:=⟨[zqS],[ZHz],Zdm f⟩
theorem ZJY:zqR [] 5 f31 (ZCX Zha):=zqY
theorem ZMf:zqO 31 (ZCX ZeB):=zqF ZJY func31
abbrev ZCW (f:Zz2):Zh:=⟨[zqP,ZyW],[zqP],XW f⟩
theorem ZJX {a b c}:ZQ (zqC [(210,Zzp a),(31,ZCX b),(30,ZHE c)] 43) f211 (zqs (.cut [5] [.one .P] [(7,12)] (.order (zqk [3,5,7,1,9] (.fork 5 (zqk [12,14] .done) 6 (zqk [10,14] .done)))) (zqs (.cut [] [] [(16,33)] .leaf (.seq (.order (zqk [1,3,5,7,9,11,13,15,16,18] .done)) .leaf))))) (ZCW (Zfw a b c)):=zqY
theorem ZMe:zqO 211 (ZCW Zda):=zqF ZJX func211 (zq3 ZFO ZMf ZOn)
theorem ZJW {a}:zqR [(202,Zki a)] 17 f212 (Zki (Zd1 a)):=zqY
theorem ZMd:zqO 212 (Zki ZaS):=zqF ZJW func212 (zq1 ZFW)
theorem ZJV:zqR [] 9 f76 (ZuK ZeY):=zqY
theorem ZFN:zqO 76 (ZuK Za0):=zqF ZJV func76
theorem ZJU:zqR [] 9 f280 (Zku ZjF):=zqY
theorem ZMc:zqO 280 (Zku Zhw):=zqF ZJU func280
abbrev ZhI (f:Zhq):Zh:=⟨[zqP,zqI,zqL],[zqI],Zjf f⟩
theorem ZJT {a}:ZQ (zqC [(280,Zku a)] 33) f257 (zqs (zqs (zqs (.seq (zqs (zql [19] [zqI] [(6,6),(8,8),(20,26)])) .leaf)))) (ZhI (ZeU a)):=zqY
theorem ZFM:zqO 257 (ZhI ZaZ):=zqF ZJT func257 (zq1 ZMc)
theorem ZJS:zqR [] 10 f238 (Zsz Zkb):=zqY
theorem ZFL:zqO 238 (Zsz Zfq):=zqF ZJS func238
abbrev Zzo (f:ZwA):Zh:=⟨[zqI,zqI],[ZB5],XW f⟩
theorem ZJR {a b}:zqR [(238,Zsz a),(237,Zzt b)] 30 f184 (Zzo (ZiT a b)):=zqY
theorem ZFK:zqO 184 (Zzo ZeK):=zqF ZJR func184 (zq2 ZFL ZFV)
abbrev Zzn (f:ZsE):Zh:=⟨[ZB5],[zqI,zqB],Zsq f⟩
theorem ZJQ:zqR [] 36 f185 (Zzn ZfC):=zqY
theorem ZFJ:zqO 185 (Zzn YW):=zqF ZJQ func185
abbrev Zzm (f:Zwz):Zh:=⟨[zqB],[zqI],Zdm f⟩
theorem ZJP:zqR [] 4 f186 (Zzm Zkc):=zqY
theorem ZFI:zqO 186 (Zzm Zer):=zqF ZJP func186
theorem ZJO {a b c}:zqR [(184,Zzo a),(185,Zzn b),(186,Zzm c)] 21 f126 (ZmZ (ZiU a b c)):=zqY
theorem ZFH:zqO 126 (ZmZ ZcR):=zqF ZJO func126 (zq3 ZFK ZFJ ZFI)
abbrev Zzl (f:Zwy):Zh:=⟨[zqI,zqB],[zqI,zqI],ZpV f⟩
theorem ZJN:zqR [] 9 f296 (Zzl Zme):=zqY
theorem ZFG:zqO 296 (Zzl Zib):=zqF ZJN func296
abbrev Zsx (f:Zkw):Zh:=⟨[zqI,zqI],[zqI,zqI],ZpV f⟩
theorem ZJM {a}:zqR [(296,Zzl a)] 26 f295 (Zsx (Zlp a)):=zqY
theorem ZMb:zqO 295 (Zsx Zf5):=zqF ZJM func295 (zq1 ZFG)
abbrev Zwp (f:zT7):Zh:=⟨[zqL],[zqI],Zdm f⟩
theorem ZJL {a b}:ZQ (zqC [(295,Zsx a),(186,Zzm b)] 28) f283 (zqs (zqs (.seq (zqs (zql [3,10] [zqI,zqI] [(5,7),(11,26)])) .leaf))) (Zwp (Zmf a b)):=zqY
theorem ZCd:zqO 283 (Zwp Zde):=zqF ZJL func283 (zq2 ZMb ZFI)
abbrev ZmX (f:ZmB):Zh:=⟨[zqP,zqI,zqI],[zqI,zqI],ZpU f⟩
theorem ZJK {a b}:ZQ (zqC [(126,ZmZ a),(283,Zwp b)] 88) f262 (zqs (zqs (zqs (zqs (.cut [6] [zqI] [(8,8),(28,82)] (.block (zqs (.cond .leaf (zqs (.cond (.seq (.order (zqk [1,3,5,7,11,13,15,17,9,19,20,22,24,26] .done)) (.order (zqk [1,3,9,11,13,15,17,4,6,18,20] .done))) .leaf))))) .leaf))))) (ZmX (ZcF a b)):=zqY
theorem ZMa:zqO 262 (ZmX XY):=zqF ZJK func262 (zq2 ZFH ZCd)
abbrev ZuS (f:ZgT):Zh:=⟨[zqU],[zqI],Zdm f⟩
theorem ZJJ:ZQ (zqC [] 25) f236 (zqs (.cut [0,2] [zqU,zqI] [(3,6)] .leaf (.cut [0,2] [zqU,zqI] [(7,12)] .leaf (.cut [0,2] [zqU,zqI] [(13,18)] .leaf .leaf)))) (ZuS Zdg):=zqY
theorem ZL9:zqO 236 (ZuS Zbv):=zqF ZJJ func236
theorem ZJI {a}:zqR [(236,ZuS a)] 6 f302 (ZuS (ZaQ a)):=zqY
theorem ZL8:zqO 302 (ZuS XE):=zqF ZJI func302 (zq1 ZL9)
abbrev ZF1 (f:Zwx):Zh:=⟨[zqU,zqU,zqU],[zqU,zqU],ZpU f⟩
noncomputable abbrev ZNv (a:ZgT):Cfg:=Zkn Tryz.prog [(302,ZuS a)] 135 [] [] [] Zl1
theorem ZJH (a:ZgT):ZQ (ZNv a) f300 (zqs (.cut [] [] [(19,21)] .leaf (.cut [] [] [(22,25)] .leaf (zqs (zqs (zqs (zqs (zqs (zqs (zqs (zqs (zqs (zqs (zqs (.cut [15] [zqU] [(16,16),(67,85)] (.block (.loop [15,16] [zqU,zqU] [(67,85)] (.cut [] [] [(67,78)] .leaf .leaf))) (zqs (zqs (zqs (.cut [18] [zqU] [(16,16),(102,120)] (.block (.loop [16,18] [zqU,zqU] [(102,120)] (.cut [] [] [(102,113)] .leaf .leaf))) .leaf))))))))))))))))))) ⟨[zqU,zqU,zqU],[zqU,zqU],fun t K b h=>(Zdh a) t.1 t.2.1 t.2.2.1 (fun r0 c h=>K (r0,c,()) h) b h⟩:=fun _ _ _ _=>by kernel_rfl
theorem ZL7:ZC Tryz.prog 300 (ZF1 Zar):=ZAF (okF (ZJH XE) func300 Zct (ZhG _ (.cons ZL8 .nil) .nil .nil .nil (Zi8 _)))
abbrev ZCV (f:Zz1):Zh:=⟨[ZB5,zqI,zqB],[zqI,zqB],ZpU f⟩
noncomputable abbrev ZNu (a:ZgT) (b:Zwx) (c:ZsE):Cfg:=Zkn Tryz.prog [(238,Zsz a),(300,ZF1 b),(185,Zzn c)] 74 [] [] [] Zl1 [] [298]
theorem ZJG (a:ZgT) (b:Zwx) (c:ZsE):ZQ (ZNu a b c) f297 (zqs (zqs (.seq (.order (zqk [1,3,7,11,13,17,5,9,15,18,20,23,25,26,28] .done)) (.seq (.order (zqk [1,3,7,11,15,19,21,5,9,13,17,23,25,26,28] .done)) (.cut [] [] [(12,13),(42,64)] .leaf (.cut [] [] [(65,69)] .leaf .leaf)))))) (ZCV (ZiS a b c)):=fun _ _ _ _=>by kernel_rfl
theorem ZL6:ZC Tryz.prog 297 (ZCV Zdd):=okF (ZJG Zfq Zar YW) func297 Zct (ZhG _ (.cons ZFL (.cons ZL7 (.cons ZFJ .nil))) .nil .nil .nil (Zi8 _) (.cons Zyd .nil))
abbrev Zzk (f:Zww):Zh:=⟨[zqI,zqI,zqI,zqB],[zqI,zqI],ZFd f⟩
theorem ZJF {a b c}:zqR [(184,Zzo a),(297,ZCV b),(296,Zzl c)] 23 f285 (Zzk (ZhE a b c)):=zqY
theorem ZFF:zqO 285 (Zzk ZcS):=zqF ZJF func285 (zq3 ZFK ZL6 ZFG)
abbrev ZCU (f:Zz0):Zh:=⟨[.agg [.I .i64,.I .i64,.I .i64,.I .i64],zqI],[zqI],XW f⟩
theorem ZJE {a}:zqR [(285,Zzk a)] 38 f263 (ZCU (Zd9 a)):=zqY
theorem ZL5:zqO 263 (ZCU Zat):=zqF ZJE func263 (zq1 ZFF)
theorem ZJD {a b c}:ZQ (zqC [(257,ZhI a),(262,ZmX b),(263,ZCU c)] 43) f222 (zqs (zqs (zqs (zqs (.seq (.order (zqk [1,3,5,9,11,13,7,15,16,18,20] .done)) .leaf))))) (ZmX (ZcG a b c)):=zqY
theorem ZCc:zqO 222 (ZmX Xd):=zqF ZJD func222 (zq3 ZFM ZMa ZL5)
abbrev Zsw (f:Zq9):Zh:=⟨[zqP,zqI,zqI,zqI,zqI],[zqB,zqI],ZFc f⟩
theorem ZJC {a b}:zqR [(257,ZhI a),(222,ZmX b)] 52 f214 (Zsw (ZeV a b)):=zqY
theorem ZFE:zqO 214 (Zsw XZ):=zqF ZJC func214 (zq2 ZFM ZCc)
theorem ZJB {a b}:zqR [(76,ZuK a),(214,Zsw b)] 21 f215 (Zsw (ZeX a b)):=zqY
theorem ZL4:zqO 215 (Zsw Zcv):=zqF ZJB func215 (zq2 ZFN ZFE)
theorem ZJA:zqR [] 9 f259 (ZlF Zfb):=zqY
theorem ZFD:zqO 259 (ZlF Za5):=zqF ZJA func259
theorem ZJz {a}:zqR [(285,Zzk a)] 25 f281 (Zsx (ZbR a)):=zqY
theorem ZFC:zqO 281 (Zsx Zai):=zqF ZJz func281 (zq1 ZFF)
theorem ZJy:zqR [] 12 f282 (ZpW Zfa):=zqY
theorem ZFB:zqO 282 (ZpW X3):=zqF ZJy func282
abbrev ZCT (f:ZzZ):Zh:=⟨[zqP,zqI,zqB],[],Zy2 f⟩
theorem ZJx:zqR [] 6 f261 (ZCT ZdD):=zqY
theorem ZL3:zqO 261 (ZCT Zdp):=zqF ZJx func261
abbrev ZCS (f:ZpY):Zh:=⟨[.one (.P),.one (.I .i64),.one (.I .i64),.one (.I .i64),.fn 261],[.one (.I .i64),.one (.B),.one (.I .i64)],fun t K _ h=>f t.1 t.2.1 t.2.2.1 t.2.2.2.1 (fun r0 a b h=>K (r0,a,b,()) h) h⟩
theorem ZJw {a b c d}:ZQ (zqC [(281,Zsx a),(282,ZpW b),(283,Zwp c),(261,ZCT d)] 78) f258 (zqs (zqs (zqs (zqs (zqs (.cut [15] [zqI] [(16,17),(46,59)] .leaf .leaf)))))) (ZCS (YA a b c d)):=zqY
theorem ZL2:zqO 258 (ZCS Z4):=zqF ZJw func258 (zq4 ZFC ZFB ZCd ZL3)
abbrev ZuR (f:ZsD):Zh:=⟨[zqP,zqI,zqI],[zqI,zqB,zqI],ZB0 f⟩
theorem ZJv {a b}:zqR [(259,ZlF a),(258,ZCS b)] 18 f219 (ZuR (Zfc a b)):=zqY
theorem ZL1:zqO 219 (ZuR ZcC):=zqF ZJv func219 (zq2 ZFD ZL2)
abbrev ZCR (f:ZzY):Zh:=⟨[zqP,zqI,zqB,zqI],[zqB],ZpT f⟩
theorem ZJu:zqR [] 19 f218 (ZCR Ze5):=zqY
theorem ZL0:zqO 218 (ZCR Zcz):=zqF ZJu func218
theorem ZJt {a b}:zqR [(76,ZuK a),(222,ZmX b)] 15 f220 (ZmX (ZeW a b)):=zqY
theorem ZLZ:zqO 220 (ZmX Zcu):=zqF ZJt func220 (zq2 ZFN ZCc)
theorem ZJs:zqR [] 9 f75 (ZuK Zfd):=zqY
theorem ZLY:zqO 75 (ZuK ZcD):=zqF ZJs func75
abbrev Zzj (f:Zwv):Zh:=⟨[zqI],[.clo 284 [.P]],Zdm f⟩
theorem ZJr:zqR [] 4 f260 (Zzj ZgN):=zqY
theorem ZFA:zqO 260 (Zzj ZeJ):=zqF ZJr func260
abbrev ZCQ (f:ZzX):Zh:=⟨[zqP,zqI,zqB,zqP],[],ZFe f⟩
theorem ZJq:zqR [] 17 f284 (ZCQ Zhk):=zqY
theorem ZLX:zqO 284 (ZCQ Zg8):=zqF ZJq func284
abbrev Zzi (f:Zwu):Zh:=⟨[zqP,zqI,zqI,zqI,.clo 284 [.P]],[zqI,zqB,zqI],ZKU f⟩
theorem ZJp {a b c d}:ZQ (zqC [(281,Zsx a),(282,ZpW b),(283,Zwp c),(284,ZCQ d)] 78) f258 (zqs (zqs (zqs (zqs (zqs (.cut [15] [zqI] [(16,17),(46,59)] .leaf .leaf)))))) (Zzi (Y0 a b c d)):=zqY
theorem ZFz:zqO 258 (Zzi Z3):=zqF ZJp func258 (zq4 ZFC ZFB ZCd ZLX)
abbrev Zzh (f:ZpY):Zh:=⟨[zqP,zqI,zqI,zqI],[zqI,zqB,zqI],ZKX f⟩
theorem ZJo {a b}:zqR [(260,Zzj a),(258,Zzi b)] 21 f223 (Zzh (Zgt a b)):=zqY
theorem ZFy:zqO 223 (Zzh Zb4):=zqF ZJo func223 (zq2 ZFA ZFz)
abbrev ZCP (f:ZzW):Zh:=⟨[ZyW,zqI,zqI,zqI],[zqB],ZpT f⟩
theorem ZJn:zqR [] 41 f224 (ZCP Zhj):=zqY
theorem ZLW:zqO 224 (ZCP ZeI):=zqF ZJn func224
abbrev ZCO (f:ZzV):Zh:=⟨[zqP,ZyW,.agg [.P,.P]],[zqB],Zjf f⟩
theorem ZJm {a b c d e f g h i j k}:ZQ (zqC [(211,ZCW a),(161,ZmY b),(212,Zki c),(215,Zsw d),(219,ZuR e),(218,ZCR f),(220,ZmX g),(75,ZuK h),(223,Zzh i),(32,ZlF j),(224,ZCP k)] 140) f172 (zqs (zqs (zqs (zqs (.cut [12,13] [.one .P,.one .P] [(41,50)] (.order (zqk [1,3,5,7,11,13,15,17,9,19] (.fork 10 (zqk [22,24,26] .done) 11 (zqk [20,24,26] .done)))) (.seq (zqs (.block (zqs (.cond .leaf (zqs (.cond .leaf (zqs (.cond (zqs (zqs (zqs (.seq (.order (zqk [1,3,5,9,11,13,6,14,17,19,20,22,24] .done)) .leaf)))) .leaf)))))))) (.seq (.order (zqk [3,7,1,5,11,8,12,14] .done)) .leaf))))))) (ZCO (Zfz a b c d e f g h i j k)):=zqY
theorem ZLV:zqO 172 (ZCO Zbt):=zqF ZJm func172 (ZQc ZMe Zy9 ZMd ZL4 ZL1 ZL0 ZLZ ZLY ZFy Zy8 ZLW)
theorem ZJl {a b}:ZQ (zqC [(171,ZCY a),(172,ZCO b)] 66) f103 (zqs (.seq (.seq (.order (zqk [1,3,5,17,19,21,29,7,9,11,13,15,23,24,26] .done)) (.block (.loop [21] [zqI] [(2,3),(5,6),(22,65)] (zqs (zqs (.seq (.block (zqs (zqs (.cut [] [] [(36,48)] .leaf (.seq (.order (zqk [1,5,7,9,21,3,11,12,14,16,19,22,25,26,28] .done)) .leaf))))) .leaf)))))) .leaf)) (ZpW (Ze7 a b)):=zqY
theorem ZLU:zqO 103 (ZpW Za2):=zqF ZJl func103 (zq2 ZMg ZLV)
theorem ZJk:zqR [] 22 f64 (ZoN Zcp):=zqY
theorem ZCb:zqO 64 (ZoN Xg):=zqF ZJk func64
abbrev Zzg (f:Zwt):Zh:=⟨[zqP,zqI],[zqB],XW f⟩
theorem ZJj:zqR [] 25 f225 (Zzg Zbz):=zqY
theorem ZFx:zqO 225 (Zzg Xq):=zqF ZJj func225
abbrev ZCN (f:ZzU):Zh:=⟨[zqP,zqI],[zqB,zqI],ZpV f⟩
theorem ZJi {a b}:zqR [(64,ZoN a),(225,Zzg b)] 16 f176 (ZCN (Zcq a b)):=zqY
theorem ZLT:zqO 176 (ZCN ZaH):=zqF ZJi func176 (zq2 ZCb ZFx)
theorem ZJh {a}:ZQ (zqC [(176,ZCN a)] 41) f173 (zqs (zqs (.seq (.order (zqk [11,1,3,5,7,9,12,14,16,18,20] .done)) (.seq (.order (zqk [1,3,5,6,8,10,13,14,16,19,21,22,24] .done)) .leaf)))) (ZuL (ZcW a)):=zqY
theorem ZLS:zqO 173 (ZuL Xo):=zqF ZJh func173 (zq1 ZLT)
abbrev ZCM (f:Zv9):Zh:=⟨[zqP,zqT,.clo 173 [.P]],[zqI,zqB],ZpU f⟩
theorem ZJg {b a}:ZQ (zqC [(27,ZCg b),(173,ZuL a)] 34) f158 (zqs (.seq (.seq (.order (zqk [1,3,5,15,17,19,21,23,31,7,9,11,13,25,26,28] .done)) (zql [25] [zqI] [(6,7),(9,9),(26,33)])) .leaf)) (ZCM (XU b a)):=zqY
theorem ZLR:zqO 158 (ZCM XT):=zqF ZJg func158 (zq2 ZFn ZLS)
theorem ZJf {a}:zqR [(158,ZCM a)] 9 f104 (ZpW (Zef a)):=zqY
theorem ZLQ:zqO 104 (ZpW Zav):=zqF ZJf func104 (zq1 ZLR)
abbrev ZCL (f:ZuY):Zh:=⟨[zqP],[ZB4,zqB],Zsq f⟩
noncomputable abbrev ZNt (e:Zml) (a:Zml) (b:Zml) (c:Zml) (d:Zml):Cfg:=Zkn Tryz.prog [(100,ZpW e),(101,ZpW a),(102,ZpW b),(103,ZpW c),(104,ZpW d)] 33 [] [] [] Zl1 [(100,[]),(101,[]),(102,[]),(103,[]),(104,[])]
theorem ZJe (e:Zml) (a:Zml) (b:Zml) (c:Zml) (d:Zml):ZQ (ZNt e a b c d) f51 (zqs (zqs (.seq (zqs (zql [16] [zqI] [(3,3),(6,8),(17,31)])) .leaf))) (ZCL (Zfx e a b c d)):=fun _ _ _ _=>by kernel_rfl
theorem ZLP:ZC Tryz.prog 51 (ZCL Zbr):=okF (ZJe Za1 Zaa Zbs Za2 Zav) func51 Zct (ZhG _ (.cons ZQg (.cons ZMB (.cons ZMn (.cons ZLU (.cons ZLQ .nil))))) .nil .nil .nil (Zi8 _))
theorem ZJd:zqR [] 9 f59 (Zku ZiF):=zqY
theorem ZCa:zqO 59 (Zku ZbF):=zqF ZJd func59
abbrev ZuQ (f:ZsC):Zh:=⟨[ZHz,zqP],[zqB],XW f⟩
theorem ZJc {a}:ZQ (zqC [(32,ZlF a)] 13) f177 (zqs (.seq (.order (zqk [1,3,5,7,9,11,12,14,16,18] .done)) .leaf)) (ZuQ (Ze1 a)):=zqY
theorem ZLO:zqO 177 (ZuQ Zcw):=zqF ZJc func177 (zq1 Zy8)
abbrev ZCK (f:Zkj):Zh:=⟨[zqL,.clo 177 [.P]],[zqI],XW f⟩
theorem ZJb {a}:ZQ (zqC [(177,ZuQ a)] 19) f115 (zqs (.seq (zqs (zql [8] [zqI] [(4,5),(9,18)])) .leaf)) (ZCK (Yc a)):=zqY
theorem ZLN:zqO 115 (ZCK Z6):=zqF ZJb func115 (zq1 ZLO)
abbrev Zzf (f:ZpX):Zh:=⟨[zqL,.clo 177 [.P]],[zqB],XW f⟩
theorem ZJa {a}:zqR [(115,ZCK a)] 9 f60 (Zzf (ZS a)):=zqY
theorem ZFw:zqO 60 (Zzf Zs):=zqF ZJa func60 (zq1 ZLN)
theorem ZI9:zqR [] 9 f117 (Zku ZiG):=zqY
theorem ZFv:zqO 117 (Zku ZeA):=zqF ZI9 func117
theorem ZI8:zqR [] 9 f181 (ZlF Zbn):=zqY
theorem ZLM:zqO 181 (ZlF Zbg):=zqF ZI8 func181
theorem ZI7 {a b}:ZQ (zqC [(117,Zku a),(181,ZlF b)] 34) f116 (zqs (zqs (zqs (.seq (zqs (zql [16] [zqI] [(6,6),(8,8),(17,26)])) .leaf)))) (ZhI (Zd0 a b)):=zqY
theorem ZB9:zqO 116 (ZhI XB):=zqF ZI7 func116 (zq2 ZFv ZLM)
abbrev Zze (f:Zws):Zh:=⟨[ZB3],[zqB],Zdm f⟩
theorem ZI6:ZQ (zqC [] 52) f121 (zqs (.seq (zqs (zql [19] [zqI] [(2,2),(4,4),(20,29)])) .leaf)) (Zze ZhM):=zqY
theorem ZFu:zqO 121 (Zze ZdF):=zqF ZI6 func121
abbrev ZCJ (f:ZzT):Zh:=⟨[zqL],[ZB3],Zdm f⟩
theorem ZI5 {a b}:ZQ (zqC [(121,Zze a),(125,Zzu b)] 19) f123 (zqs (zqs (.seq (zqs (zql [8] [zqI] [(5,5),(9,17)])) .leaf))) (ZCJ (ZiE a b)):=zqY
theorem ZLL:zqO 123 (ZCJ ZgE):=zqF ZI5 func123 (zq2 ZFu ZFX)
theorem ZI4 {d a b c}:ZQ (zqC [(120,ZoN d),(121,Zze a),(122,ZoN b),(123,ZCJ c)] 77) f68 (zqs (zqs (.seq (zqs (zql [21] [zqI] [(6,6),(9,9),(22,28)])) (zqs (zqs (.cut [] [] [(11,11),(36,54)] (zqs (zqs (.cond (.order (zqk [1,3,5,9,7,11,12] .done)) .leaf))) (.seq (zqs (.block (.loop [] [] [(12,12),(60,76)] (.cut [61] [.one .B] [(60,60)] .leaf .leaf)))) .leaf))))))) (ZhI (Zd8 d a b c)):=zqY
theorem Zy7:zqO 68 (ZhI Xi):=zqF ZI4 func68 (zq4 ZK0 ZFu ZCf ZLL)
abbrev Zwo (f:ZuX):Zh:=⟨[zqP,zqI,zqL],[],Zy2 f⟩
theorem ZI3 {a}:zqR [(68,ZhI a)] 21 f118 (Zwo (Zgi a)):=zqY
theorem ZB8:zqO 118 (Zwo ZaR):=zqF ZI3 func118 (zq1 Zy7)
theorem ZI2 {a b}:ZQ (zqC [(116,ZhI a),(118,Zwo b)] 34) f107 (zqs (zqs (zqs (.seq (zqs (zql [8,20] [.one .L,zqI] [(10,10),(21,29)])) .leaf)))) (ZhI (Zfv a b)):=zqY
theorem ZLK:zqO 107 (ZhI Zc9):=zqF ZI2 func107 (zq2 ZB9 ZB8)
abbrev ZuP (f:ZsB):Zh:=⟨[zqP,zqP],[zqI],XW f⟩
theorem ZI1 {a}:zqR [(107,ZhI a)] 11 f106 (ZuP (Zea a)):=zqY
theorem ZLJ:zqO 106 (ZuP ZbG):=zqF ZI1 func106 (zq1 ZLK)
abbrev ZCI (f:Zq8):Zh:=⟨[zqP,Zv8,zqB,.clo 106 [.P]],[zqI],ZpT f⟩
theorem ZI0 {d a e b f c}:ZQ (zqC [(58,ZCh d),(59,Zku a),(156,Zwm e),(60,Zzf b),(157,ZFZ f),(106,ZuP c)] 93) f105 (zqs (zqs (zqs (.seq (.block (zqs (.cond .leaf (zqs (.cond .leaf (zqs (.cond .leaf (.seq (.order (zqk [7,1,3,5,11,13,15,17,19,21,23,8,24,26] .done)) .leaf)))))))) (.cut [] [] [(8,8),(61,66)] .leaf (.seq (zqs (.block (.loop [69] [zqI] [(12,12),(70,87)] (zqs (zqs (.seq (.block (zqs (.seq (.order (zqk [1,3,5,7,8] .done)) (.order (zqk [1,3,5,7,9,11,13,14,16] .done))))) .leaf)))))) .leaf)))))) (ZCI (ZaB d a e b f c)):=zqY
theorem ZLI:zqO 105 (ZCI Zau):=zqF ZI0 func105 (zq6 ZFo ZCa ZK2 ZFw ZK1 ZLJ)
theorem ZIZ {a}:zqR [(105,ZCI a)] 9 f52 (Zza (Zft a)):=zqY
theorem ZLH:zqO 52 (Zza Zbq):=zqF ZIZ func52 (zq1 ZLI)
abbrev Zsv (f:Zq7):Zh:=⟨[zqP,zqS],[zqI,zqB],ZpV f⟩
theorem ZIY:zqR [] 27 f270 (Zsv ZfS):=zqY
theorem ZFt:zqO 270 (Zsv Zbc):=zqF ZIY func270
theorem ZIX:ZQ (zqC [] 22) f239 (.order (zqk [1,3,5,9,11,13,17,19,21,25,27,29,7,15,23,31,32,34,36,38,40,42] .done)) (Zzb ZhY):=zqY
theorem ZB7:zqO 239 (Zzb Zbb):=zqF ZIX func239
abbrev Zsu (f:Zor):Zh:=⟨[zqP,zqP],[],ZB1 f⟩
theorem ZIW:ZQ (zqC [] 30) f240 (.seq (.order (zqk [1,3,5,7,9,11,15,17,19,13,20,22,24,26,28,30] .done)) .leaf) (Zsu Zfe):=zqY
theorem ZFs:zqO 240 (Zsu Zaz):=zqF ZIW func240
theorem ZIV {a b c}:zqR [(270,Zsv a),(239,Zzb b),(240,Zsu c)] 29 f246 (Zsv (ZgO a b c)):=zqY
theorem ZLG:zqO 246 (Zsv ZeL):=zqF ZIV func246 (zq3 ZFt ZB7 ZFs)
theorem ZIU {a b}:ZQ (zqC [(270,Zsv a),(239,Zzb b)] 39) f241 (zqs (zqs (.seq (zqs (zql [5,12] [zqI,zqI] [(7,9),(13,37)])) .leaf))) (Zwm (ZhZ a b)):=zqY
theorem ZLF:zqO 241 (Zwm ZfM):=zqF ZIU func241 (zq2 ZFt ZB7)
abbrev ZCH (f:ZzS):Zh:=⟨[zqP,zqS,zqI],[zqS,zqB,zqI],ZB0 f⟩
theorem ZIT {a b c}:ZQ (zqC [(239,Zzb a),(240,Zsu b),(241,Zwm c)] 71) f189 (zqs (zqs (zqs (.cut [6,7] [.one .S,.one .B] [(31,54)] (.seq (.order (zqk [1,3,5,11,13,15,7,17,8,18,20] .done)) .leaf) .leaf)))) (ZCH (ZiV a b c)):=zqY
theorem ZLE:zqO 189 (ZCH ZgJ):=zqF ZIT func189 (zq3 ZB7 ZFs ZLF)
abbrev ZCG (f:ZzR):Zh:=⟨[zqP,zqI,zqS],[],Zy2 f⟩
theorem ZIS {a e v57 b c d}:ZQ (zqC [(246,Zsv a),(96,ZBj e),(119,Zwn v57),(207,Zoq b),(68,ZhI c),(189,ZCH d)] 63) f204 (zqs (zqs (zqs (.cut [] [] [(10,12),(41,56)] .leaf .leaf)))) (ZCG (ZfU a e v57 b c d)):=zqY
theorem ZLD:zqO 204 (ZCG ZdP):=zqF ZIS func204 (zq6 ZLG ZOp ZK3 ZFQ Zy7 ZLE)
abbrev Zzd (f:Zwr):Zh:=⟨[.agg [.I .i64,.I .i64,.M],zqP,zqP],[zqB],Zjf f⟩
theorem ZIR:zqR [] 15 f250 (Zzd Zc0):=zqY
theorem ZFr:zqO 250 (Zzd Y2):=zqF ZIR func250
abbrev ZCF (f:ZzQ):Zh:=⟨[zqL,.clo 250 [.P,.P]],[zqI],XW f⟩
theorem ZIQ {a}:ZQ (zqC [(250,Zzd a)] 19) f274 (zqs (.seq (zqs (zql [8] [zqI] [(4,5),(9,18)])) .leaf)) (ZCF (ZI a)):=zqY
theorem ZLC:zqO 274 (ZCF Zz):=zqF ZIQ func274 (zq1 ZFr)
abbrev ZCE (f:ZzP):Zh:=⟨[zqL,.clo 250 [.P,.P]],[zqL],XW f⟩
theorem ZIP {a b}:ZQ (zqC [(274,ZCF a),(250,Zzd b)] 42) f249 (zqs (zqs (zqs (.seq (zqs (zql [5,6] [zqI,zqI] [(7,7),(16,35)])) .leaf)))) (ZCE (ZH a b)):=zqY
theorem ZLB:zqO 249 (ZCE Zy):=zqF ZIP func249 (zq2 ZLC ZFr)
abbrev ZCD (f:ZzO):Zh:=⟨[zqP,zqI,zqS,zqL],[zqI],ZpT f⟩
theorem ZIO {a b c d e}:ZQ (zqC [(247,ZoN a),(248,Zzr b),(249,ZCE c),(251,ZmZ d),(252,Zzs e)] 154) f205 (zqs (zqs (zqs (.seq (zqs (zql [31] [zqI] [(8,8),(11,11),(32,41)])) (zqs (zqs (zqs (.seq (.order (zqk [11,1,3,4,6,9,12,14,16,18] .done)) (.cut [] [] [(13,13),(64,95)] (zqs (zqs (.cond (.order (zqk [1,3,5,7,9,11,12,14,16,18,20,22,24] .done)) .leaf))) (zqs (.seq (zqs (.block (.loop [109] [zqI] [(16,18),(110,153)] (zqs (zqs (.seq (.block (zqs (zqs (zqs (.block (.loop [127] [zqI] [(17,18),(128,152)] (zqs (zqs (.seq (.block (zqs (zqs (.order (zqk [1,3,5,11,13,15,23,7,9,17,19,20,24,26] .done))))) .leaf))))))))) .leaf)))))) .leaf))))))))))) (ZCD (Zej a b c d e)):=zqY
theorem ZLA:zqO 205 (ZCD ZbM):=zqF ZIO func205 (zq5 ZFU ZFS ZLB ZFR ZFT)
theorem ZIN {a b c d}:zqR [(170,Zsy a),(204,ZCG b),(68,ZhI c),(205,ZCD d)] 53 f169 (Zsy (ZdQ a b c d)):=zqY
theorem ZLz:zqO 169 (Zsy Zcb):=zqF ZIN func169 (zq4 ZFP ZLD Zy7 ZLA)
abbrev ZuO (f:Zm1):Zh:=⟨[zqP,zqP,zqP],[],Zy2 f⟩
theorem ZIM {a}:ZQ (zqC [(169,Zsy a)] 16) f168 (.order (zqk [1,3,5,7,9,11,13,15,16,18,20,23,24] .done)) (ZuO (ZcV a)):=zqY
theorem ZLy:zqO 168 (ZuO Xn):=zqF ZIM func168 (zq1 ZLz)
abbrev ZuN (f:Zm0):Zh:=⟨[zqP,zqP,zqP,zqP,zqP],[],ZKW f⟩
theorem ZIL {a}:zqR [(214,Zsw a)] 13 f213 (ZuN (Zee a)):=zqY
theorem ZLx:zqO 213 (ZuN XN):=zqF ZIL func213 (zq1 ZFE)
theorem ZIK {a b c}:zqR [(259,ZlF a),(260,Zzj b),(258,Zzi c)] 20 f217 (ZuR (Zgs a b c)):=zqY
theorem ZLw:zqO 217 (ZuR ZdY):=zqF ZIK func217 (zq3 ZFD ZFA ZFz)
theorem ZIJ {a}:zqR [(217,ZuR a)] 8 f216 (ZuO (Zed a)):=zqY
theorem ZLv:zqO 216 (ZuO XM):=zqF ZIJ func216 (zq1 ZLw)
theorem ZII {a b}:zqR [(222,ZmX a),(223,Zzh b)] 16 f221 (ZuN (Zec a b)):=zqY
theorem ZLu:zqO 221 (ZuN XL):=zqF ZII func221 (zq2 ZCc ZFy)
abbrev ZCC (f:ZzN):Zh:=⟨[zqP,zqI],[zqB,zqB,zqI],ZFf f⟩
theorem ZIH {a b}:zqR [(64,ZoN a),(225,Zzg b)] 34 f175 (ZCC (ZbT a b)):=zqY
theorem ZLt:zqO 175 (ZCC Zak):=zqF ZIH func175 (zq2 ZCb ZFx)
theorem ZIG {a}:ZQ (zqC [(175,ZCC a)] 29) f174 (.seq (.order (zqk [1,3,5,6,8,10,13,14,16,19,21,23,24,26,28] .done)) (zqs (.cond (.order (zqk [11,1,3,5,7,9,13,14,16,18,20,22] .done)) .leaf))) (Zsu (ZbP a)):=zqY
theorem ZLs:zqO 174 (Zsu Y4):=zqF ZIG func174 (zq1 ZLt)
theorem ZIF {a b}:ZQ (zqC [(116,ZhI a),(118,Zwo b)] 51) f109 (zqs (zqs (zqs (zqs (.seq (zqs (zql [8,28] [.one .L,zqI] [(10,10),(29,37)])) .leaf))))) (ZhI (Zgj a b)):=zqY
theorem ZLr:zqO 109 (ZhI ZdV):=zqF ZIF func109 (zq2 ZB9 ZB8)
theorem ZIE {a}:zqR [(109,ZhI a)] 11 f108 (ZuP (Ze2 a)):=zqY
theorem ZLq:zqO 108 (ZuP Zcx):=zqF ZIE func108 (zq1 ZLr)
abbrev ZCB (f:Zq8):Zh:=⟨[zqP,Zv8,zqB,.clo 108 [.P]],[zqI],ZpT f⟩
theorem ZID {d a e b f c}:ZQ (zqC [(58,ZCh d),(59,Zku a),(156,Zwm e),(60,Zzf b),(157,ZFZ f),(108,ZuP c)] 93) f105 (zqs (zqs (zqs (.seq (.block (zqs (.cond .leaf (zqs (.cond .leaf (zqs (.cond .leaf (.seq (.order (zqk [7,1,3,5,11,13,15,17,19,21,23,8,24,26] .done)) .leaf)))))))) (.cut [] [] [(8,8),(61,66)] .leaf (.seq (zqs (.block (.loop [69] [zqI] [(12,12),(70,87)] (zqs (zqs (.seq (.block (zqs (.seq (.order (zqk [1,3,5,7,8] .done)) (.order (zqk [1,3,5,7,9,11,13,14,16] .done))))) .leaf)))))) .leaf)))))) (ZCB (YU d a e b f c)):=zqY
theorem ZLp:zqO 105 (ZCB ZaK):=zqF ZID func105 (zq6 ZFo ZCa ZK2 ZFw ZK1 ZLq)
theorem ZIC {a}:zqR [(105,ZCB a)] 9 f53 (Zza (Zgf a)):=zqY
theorem ZLo:zqO 53 (Zza ZbW):=zqF ZIC func53 (zq1 ZLp)
abbrev Zzc (f:Zwq):Zh:=⟨[zqP,Zv8,zqB],[zqI,ZB4,zqI],ZB0 f⟩
noncomputable abbrev ZNs (i:Zsg) (a:ZuY) (b:Zsg) (c:Zm1) (d:Zm0) (e:Zm1) (f:Zm0) (g:Zor) (h:Zsg):Cfg:=Zkn Tryz.prog [(50,Zza i),(51,ZCL a),(52,Zza b),(168,ZuO c),(213,ZuN d),(216,ZuO e),(221,ZuN f),(174,Zsu g),(53,Zza h)] 116 [] [] [] Zl1 [(168,[.P,.P,.P]),(213,[.P,.P,.P,.P,.P]),(216,[.P,.P,.P]),(221,[.P,.P,.P,.P,.P]),(174,[.P,.P])]
theorem ZIB (i:Zsg) (a:ZuY) (b:Zsg) (c:Zm1) (d:Zm0) (e:Zm1) (f:Zm0) (g:Zor) (h:Zsg):ZQ (ZNs i a b c d e f g h) f24 (zqs (zqs (.seq (.seq (.order (zqk [1,3,5,7,8,10] .done)) .leaf) (zqs (.seq (.order (zqk [1,3,5,9,7,10,12,14] .done)) (.seq (zqs (zqs (.cond (.seq (.order (zqk [1,3,5,7,9,11,12] .done)) (.seq (.order (zqk [3,1,4,6] .done)) .leaf)) .leaf))) (.seq (zqs (zql [60] [zqI] [(14,14),(61,66)])) (.seq (.order (zqk [1,3,5,7,9,11,12] .done)) (zqs (zqs (zqs (zqs (.seq (.order (zqk [1,3,5,7,11,15,17,19,9,13,21,22,24] .done)) (.seq (.order (zqk [1,3,5,7,13,9,10,14,16] .done)) .leaf)))))))))))))) (Zzc (ZdA i a b c d e f g h)):=fun _ _ _ _=>by kernel_rfl
theorem ZFq:ZC Tryz.prog 24 (Zzc YF):=okF (ZIB Zac Zbr Zbq Xn XN XM XL Y4 ZbW) func24 Zct (ZhG _ (.cons ZQl (.cons ZLP (.cons ZLH (.cons ZLy (.cons ZLx (.cons ZLv (.cons ZLu (.cons ZLs (.cons ZLo .nil))))))))) .nil .nil .nil (Zi8 _))
abbrev ZCA (f:ZzM):Zh:=⟨[zqP,Zv8],[zqI,ZB4,zqI],ZFf f⟩
theorem ZIA {a}:zqR [(24,Zzc a)] 13 f11 (ZCA (Zdz a)):=zqY
theorem ZLn:zqO 11 (ZCA Zbm):=zqF ZIA func11 (zq1 ZFq)
theorem ZIz:zqR [] 12 f57 (ZuL ZcY):=zqY
theorem ZFp:zqO 57 (ZuL Za4):=zqF ZIz func57
abbrev ZCz (f:Zkj):Zh:=⟨[zqL,.clo 57 [.P]],[zqI],XW f⟩
theorem ZIy {a}:ZQ (zqC [(57,ZuL a)] 19) f110 (zqs (.seq (zqs (zql [8] [zqI] [(4,5),(9,18)])) .leaf)) (ZCz (Yy a)):=zqY
theorem ZLm:zqO 110 (ZCz Yw):=zqF ZIy func110 (zq1 ZFp)
abbrev ZCy (f:ZzL):Zh:=⟨[zqL,.clo 57 [.P]],[zqL],XW f⟩
theorem ZIx {a b}:ZQ (zqC [(110,ZCz a),(57,ZuL b)] 42) f54 (zqs (zqs (zqs (.seq (zqs (zql [5,6] [zqI,zqI] [(7,7),(16,35)])) .leaf)))) (ZCy (Yu a b)):=zqY
theorem ZLl:zqO 54 (ZCy Ys):=zqF ZIx func54 (zq2 ZLm ZFp)
abbrev ZCx (f:ZzK):Zh:=⟨[zqP],[zqL],Zdm f⟩
theorem ZIw {a b c}:zqR [(56,⟨[.one (.M)],[.one (.V)],fun t K _ h=>a t.1 (fun r0 h=>K (r0,()) h) h⟩),(55,⟨[.one (.V)],[zqL],fun t K _ h=>b t.1 (fun r0 h=>K (r0,()) h) h⟩),(54,ZCy c)] 14 f25 (ZCx (Zeg a b c)):=zqY
theorem ZLk:zqO 25 (ZCx ZbI):=zqF ZIw func25 (zq3 ZaL Zjx ZLl)
abbrev ZCw (f:ZzJ):Zh:=⟨[],[zqB],ZFg f⟩
theorem ZIv {v2 c a b}:zqR [(9,zk2 v2),(10,ZCi c),(11,ZCA a),(25,ZCx b)] 75 f12 (ZCw (Zdu v2 c a b)):=zqY
theorem ZLj:zqO 12 (ZCw Zbj):=zqF ZIv func12 (zq4 zo2 ZOo ZLn ZLk)
abbrev ZCv (f:ZzI):Zh:=⟨[Zv8],[Zv8],Zdm f⟩
theorem ZIu:zqR [] 9 f33 (ZCv Zci):=zqY
theorem ZLi:zqO 33 (ZCv Xf):=zqF ZIu func33
theorem ZIt {a}:ZQ (zqC [(32,ZlF a)] 13) f61 (zqs (.seq (.order (zqk [1,3,5,7,9,11,12,14,16,18] .done)) .leaf)) (ZuQ (Ze3 a)):=zqY
theorem ZLh:zqO 61 (ZuQ Zcy):=zqF ZIt func61 (zq1 Zy8)
abbrev ZCu (f:Zkj):Zh:=⟨[zqL,.clo 61 [.P]],[zqI],XW f⟩
theorem ZIs {a}:ZQ (zqC [(61,ZuQ a)] 19) f115 (zqs (.seq (zqs (zql [8] [zqI] [(4,5),(9,18)])) .leaf)) (ZCu (Yd a)):=zqY
theorem ZLg:zqO 115 (ZCu Z7):=zqF ZIs func115 (zq1 ZLh)
abbrev ZCt (f:ZpX):Zh:=⟨[zqL,.clo 61 [.P]],[zqB],XW f⟩
theorem ZIr {a}:zqR [(115,ZCu a)] 9 f60 (ZCt (ZT a)):=zqY
theorem ZLf:zqO 60 (ZCt ZD):=zqF ZIr func60 (zq1 ZLg)
abbrev ZuM (f:ZsA):Zh:=⟨[zqP,zqI,zqI,zqB],[zqI],ZpT f⟩
theorem ZIq {a b c}:ZQ (zqC [(116,ZhI a),(117,Zku b),(118,Zwo c)] 52) f62 (zqs (zqs (zqs (.cut [] [] [(38,39)] .leaf .leaf)))) (ZuM (Zgk a b c)):=zqY
theorem ZLe:zqO 62 (ZuM ZdW):=zqF ZIq func62 (zq3 ZB9 ZFv ZB8)
abbrev ZCs (f:ZzH):Zh:=⟨[zqP,Zv8,zqI,zqB],[zqI],ZpT f⟩
theorem ZIp {d a b c}:ZQ (zqC [(58,ZCh d),(59,Zku a),(60,ZCt b),(62,ZuM c)] 70) f26 (zqs (zqs (zqs (zqs (.seq (zqs (.block (.loop [48] [zqI] [(12,12),(49,64)] (zqs (zqs (.seq (.block (zqs (.order (zqk [15,19,21,1,3,5,7,9,11,17,12,22] .done)))) .leaf)))))) .leaf))))) (ZCs (Zgh d a b c)):=zqY
theorem ZLd:zqO 26 (ZCs ZdU):=zqF ZIp func26 (zq4 ZFo ZCa ZLf ZLe)
abbrev ZCr (f:ZzG):Zh:=⟨[zqL,zqI],[zqI],XW f⟩
theorem ZIo:ZQ (zqC [] 19) f71 (zqs (.seq (zqs (zql [8] [zqI] [(4,5),(9,18)])) .leaf)) (ZCr ZbQ):=zqY
theorem ZLc:zqO 71 (ZCr ZbK):=zqF ZIo func71
abbrev ZCq (f:ZzF):Zh:=⟨[zqL,zqI],[zqB],XW f⟩
theorem ZIn {a}:zqR [(71,ZCr a)] 9 f29 (ZCq (ZaO a)):=zqY
theorem ZLb:zqO 29 (ZCq Y7):=zqF ZIn func29 (zq1 ZLc)
abbrev ZCp (f:ZzE):Zh:=⟨[zqP,zqI,zqB],[zqB],Zjf f⟩
theorem ZIm:zqR [] 21 f65 (ZCp ZbS):=zqY
theorem ZLa:zqO 65 (ZCp Zaj):=zqF ZIm func65
abbrev ZCo (f:ZzD):Zh:=⟨[zqP,zqI],[],ZB1 f⟩
theorem ZIl:zqR [] 25 f66 (ZCo Zco):=zqY
theorem ZK9:zqO 66 (ZCo ZaG):=zqF ZIl func66
abbrev ZCn (f:ZzC):Zh:=⟨[zqP,ZB3],[zqB],XW f⟩
theorem ZIk {a}:ZQ (zqC [(126,ZmZ a)] 56) f70 (zqs (zqs (.seq (.order (zqk [1,7,9,11,13,17,3,15,19,4,20,22,24,26,28,30,32,35,36,38,41,45,43,47,48,50,52,54] .done)) .leaf))) (ZCn (Xs a)):=zqY
theorem ZK8:zqO 70 (ZCn YH):=zqF ZIk func70 (zq1 ZFH)
abbrev ZCm (f:ZzB):Zh:=⟨[zqP,zqI,zqI,zqB,zqB],[zqI],ZKV f⟩
theorem ZIj {a b c g d e f}:ZQ (zqC [(64,ZoN a),(65,ZCp b),(66,ZCo c),(67,Zzb g),(68,ZhI d),(69,ZmY e),(70,ZCn f)] 102) f28 (zqs (.cut [] [] [(10,11),(16,46)] .leaf (zqs (zqs (.seq (.block (.cut [55] [.one .B] [(56,59)] .leaf (.cond .leaf (zqs (.cond .leaf (zqs (.cond (zqs (.cut [] [] [(77,78)] .leaf (.seq (.order (zqk [1,3,5,9,7,11,12,14] .done)) .leaf))) .leaf))))))) .leaf))))) (ZCm (Zcr a b c g d e f)):=zqY
theorem ZK7:zqO 28 (ZCm XH):=zqF ZIj func28 (zq7 ZCb ZLa ZK9 ZOq Zy7 ZCe ZK8)
theorem ZIi {a d b c}:ZQ (zqC [(26,ZCs a),(27,ZCg d),(29,ZCq b),(28,ZCm c)] 122) f13 (zqs (zqs (zqs (zqs (zqs (zqs (zqs (zqs (zqs (.seq (.order (zqk [1,3,5,7,11,15,17,9,13,18] .done)) (.seq (.seq (.order (zqk [1,3,5,7,11,13,21,9,15,16,18] .done)) (.block (.loop [97] [zqI] [(13,14),(98,121)] (zqs (zqs (.seq (.block (zqs (zqs (.order (zqk [1,5,7,9,11,15,3,13,17,18,20] .done))))) .leaf)))))) .leaf))))))))))) (ZuM (Zei a d b c)):=zqY
theorem ZK6:zqO 13 (ZuM ZbJ):=zqF ZIi func13 (zq4 ZLd ZFn ZLb ZK7)
abbrev ZCl (f:ZzA):Zh:=⟨[zqP,zqI,zqI],[zqI],Zjf f⟩
theorem ZIh:zqR [] 35 f34 (ZCl ZcX):=zqY
theorem ZK5:zqO 34 (ZCl Za3):=zqF ZIh func34
abbrev ZCk (f:Zzz):Zh:=⟨[zqP,zqP,.agg [.I .i64,.I .i64,.S,.S,.S,.B,.I .i64,.L,.B,.I .i64,.I .i64,.B,.L,.L,.L,.L,.L,.I .i64,.I .i64]],[zqB],Zjf f⟩
theorem ZIg {a b c e d}:ZQ (zqC [(33,ZCv a),(24,Zzc b),(13,ZuM c),(10,ZCi e),(34,ZCl d)] 95) f15 (zqs (.seq (zqs (.block (zqs (.cond (.cut [7,8,9] [zqI,.one .P,zqI] [(17,27)] (.order (zqk [1,3,9,5,11] (.fork 3 (.fork 6 (zqk [15,17,19,21,22,24,26,28] .done) 11 (zqk [12,14,17,19,21,24,26,28] .done)) 11 (zqk [6,12,14,17,19,21,24,26,28] .done)))) (.cut [10,11,12] [zqI,.one .P,zqI] [(28,38)] (.order (zqk [1,3,9,5,11] (.fork 3 (.fork 6 (zqk [15,17,19,21,22,24,26,28] .done) 11 (zqk [12,14,17,19,21,24,26,28] .done)) 11 (zqk [6,12,14,17,19,21,24,26,28] .done)))) .leaf)) (zqs (.cond (.seq (.order (zqk [1,3,7,11,17,19,23,27,5,9,13,21,25,29,14,30,32,34] .done)) .leaf) (zqs (.cond (.seq (.order (zqk [1,3,9,11,5,13,6,14,16,18] .done)) .leaf) .leaf)))))))) (.seq (.order (zqk [1,3,7,13,15,19,5,9,17,21,10,22,24,26] .done)) .leaf))) (ZCk (Zdt a b c e d)):=zqY
theorem ZK4:zqO 15 (ZCk Zbi):=zqF ZIg func15 (zq5 ZLi ZFq ZK6 ZOo ZK5)
abbrev ZF0 (f:ZDq):Zh:=⟨[zqI,zqU,zqL],[zqB],Zjf f⟩
theorem ZIf {v2 a b}:ZQ (zqC [(9,zk2 v2),(12,ZCw a),(15,ZCk b)] 56) f6 (zqs (zqs (zqs (zqs (.seq (zqs (zql [11] [zqI] [(6,6),(37,54)])) .leaf))))) (ZF0 (ZaN v2 a b)):=zqY
theorem Zg2:ZC Tryz.prog 6 (ZF0 XD):=zqF ZIf func6 (zq3 zo2 ZLj ZK4)
end
end Go.Proofs.YthbfgkphlmlihaaGreat
namespace Go.Fw
open Go Go.RowKit
theorem ZxH {P:Program} {f:FuncId} {s:Zh} (ok:ZC P f s) (t:Xl s.args) (w:World) {args:Array Value} (a:((Xl.evs s.args t).map EV.v).toArray=args)
    (h:s.sem t (fun r h'=>ZGw s.res r = .bool true/\Ext w.heap h') (fun _ _=>False) w.heap):Calls P f args w fun e w'=>e = .returned (.bool true)/\Below w.heap.size w w':=by
  rw [<- a];refine (ok.calls t _ _ w h).mono ?_;rintro e w' (⟨r,rfl,hs,c,b⟩ | ⟨v,rfl,hs,d⟩)
  ·exact ⟨by rw [c],hs.2.1,hs.1,hs.2.2,b.size,b.old⟩
  ·exact d.elim
end Go.Fw
