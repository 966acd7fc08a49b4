/- maps.Keys and slices.Sorted, by the shelf's contracts. -/
import Derived.Shelf.SlIterI.Nil
import Derived.Shelf.SortM.Plain
import Derived.Shelf.SortM.SortNone
import Derived.Maps.OwnSet
import Derived.Test.YthbfgkphlmlihaaGreatProg
import Derived.KernelRfl
import Derived.Below
import Derived.Test.YthbfgkphlmlihaaGreatPa6
set_option linter.unusedVariables false
set_option linter.unusedSimpArgs false
namespace Go.Proofs.YthbfgkphlmlihaaGreat
open Go Go.Fw
open Go.RowKit Go.Maps Go.Sort Go.Shelf
def Tryz.keysA_ren:Go.Shelf.Ren:=⟨fun | 7=>56 | 10=>113 | n=>n,fun | 23=>73 | 26=>3 | 3=>88 | 28=>151 | 0=>0 | 27=>150 | 33=>153 | 4=>4 | n=>n,fun | n=>n⟩
theorem Tryz.keysA:Go.Proofs.SlLaysZI.n7 Tryz.prog Tryz.keysA_ren:={
  mixed:=by kernel_rfl,
  f7:=⟨Tryz.f56.name,by decide,Tryz.func56.trans (congrArg some (by kernel_rfl))⟩,
  f10:=⟨Tryz.f113.name,by decide,Tryz.func113.trans (congrArg some (by kernel_rfl))⟩,
  t0:=Tryz.underlying0,
  a0:=Tryz.isAgg0,
  z0:=Tryz.sizeOf0,
  v0:=Tryz.zeroValue0,
  t4:=Tryz.underlying4,
  a4:=Tryz.isAgg4,
  z4:=Tryz.sizeOf4,
  v4:=Tryz.zeroValue4,
  t23:=Tryz.underlying73,
  a23:=Tryz.isAgg73,
  z23:=Tryz.sizeOf73,
  v23:=Tryz.zeroValue73,
  t26:=Tryz.underlying3,
  a26:=Tryz.isAgg3,
  z26:=Tryz.sizeOf3,
  v26:=Tryz.zeroValue3,
  t27:=Tryz.underlying150,
  a27:=Tryz.isAgg150,
  z27:=Tryz.sizeOf150,
  v27:=Tryz.zeroValue150,
  t28:=Tryz.underlying151,
  a28:=Tryz.isAgg151,
  z28:=Tryz.sizeOf151,
  v28:=Tryz.zeroValue151,
  t33:=Tryz.underlying153,
  a33:=Tryz.isAgg153,
  z33:=Tryz.sizeOf153,
  v33:=Tryz.zeroValue153 }
def Tryz.sortedA_ren:Go.Shelf.Ren:=⟨fun | 6=>55 | 8=>111 | 9=>112 | 11=>178 | 13=>180 | 12=>179 | 23=>235 | 24=>236 | 14=>226 | 15=>227 | 16=>228 | 17=>229 | 18=>230 | 19=>231 | 20=>232 | 21=>233 | 22=>234 | 25=>264 | 26=>265 | 27=>266 | 28=>267 | 29=>268 | 30=>269 | 31=>286 | n=>n,fun | 26=>3 | 28=>151 | 24=>85 | 0=>0 | 3=>3 | 37=>314 | 48=>364 | 50=>27 | 4=>4 | 40=>358 | 39=>357 | 45=>229 | 5=>5 | 9=>9 | 51=>385 | 55=>389 | 57=>398 | 58=>383 | 33=>153 | n=>n,fun | n=>n⟩
theorem Tryz.sortedA:Go.Proofs.SlLaysZI.n6 Tryz.prog Tryz.sortedA_ren:={
  mixed:=by kernel_rfl,
  f6:=⟨Tryz.f55.name,by decide,Tryz.func55.trans (congrArg some (by kernel_rfl))⟩,
  f8:=⟨Tryz.f111.name,by decide,Tryz.func111.trans (congrArg some (by kernel_rfl))⟩,
  f11:=⟨Tryz.f178.name,by decide,Tryz.func178.trans (congrArg some (by kernel_rfl))⟩,
  t0:=Tryz.underlying0,
  a0:=Tryz.isAgg0,
  z0:=Tryz.sizeOf0,
  v0:=Tryz.zeroValue0,
  t24:=Tryz.underlying85,
  a24:=Tryz.isAgg85,
  z24:=Tryz.sizeOf85,
  v24:=Tryz.zeroValue85,
  t26:=Tryz.underlying3,
  a26:=Tryz.isAgg3,
  z26:=Tryz.sizeOf3,
  v26:=Tryz.zeroValue3,
  t28:=Tryz.underlying151,
  a28:=Tryz.isAgg151,
  z28:=Tryz.sizeOf151,
  v28:=Tryz.zeroValue151,
  i26:=by kernel_rfl }
def Tryz.sortA_ren:Go.Shelf.Ren:=⟨fun | 5=>112 | 8=>180 | 7=>179 | 19=>235 | 20=>236 | 10=>226 | 11=>227 | 12=>228 | 13=>229 | 14=>230 | 15=>231 | 16=>232 | 17=>233 | 18=>234 | 30=>264 | 31=>265 | 32=>266 | 33=>267 | 34=>268 | 35=>269 | 40=>286 | n=>n,fun | 23=>85 | 25=>3 | 3=>3 | 32=>314 | 22=>85 | 0=>0 | 44=>364 | 46=>27 | 4=>4 | 36=>358 | 35=>357 | 41=>229 | 5=>5 | 9=>9 | 53=>385 | 57=>389 | 63=>398 | 64=>383 | n=>n,fun | n=>n⟩
theorem Tryz.sortA:Go.Proofs.SlLaysM.n5 Tryz.prog Tryz.sortA_ren:={
  mixed:=by kernel_rfl,
  f5:=⟨Tryz.f112.name,by decide,Tryz.func112.trans (congrArg some (by kernel_rfl))⟩,
  f7:=⟨Tryz.f179.name,by decide,Tryz.func179.trans (congrArg some (by kernel_rfl))⟩,
  f8:=Tryz.func180.trans (congrArg some (by kernel_rfl)),
  f10:=⟨Tryz.f226.name,by decide,Tryz.func226.trans (congrArg some (by kernel_rfl))⟩,
  f11:=⟨Tryz.f227.name,by decide,Tryz.func227.trans (congrArg some (by kernel_rfl))⟩,
  f12:=⟨Tryz.f228.name,by decide,Tryz.func228.trans (congrArg some (by kernel_rfl))⟩,
  f13:=⟨Tryz.f229.name,by decide,Tryz.func229.trans (congrArg some (by kernel_rfl))⟩,
  f14:=⟨Tryz.f230.name,by decide,Tryz.func230.trans (congrArg some (by kernel_rfl))⟩,
  f15:=⟨Tryz.f231.name,by decide,Tryz.func231.trans (congrArg some (by kernel_rfl))⟩,
  f16:=⟨Tryz.f232.name,by decide,Tryz.func232.trans (congrArg some (by kernel_rfl))⟩,
  f17:=⟨Tryz.f233.name,by decide,Tryz.func233.trans (congrArg some (by kernel_rfl))⟩,
  f18:=⟨Tryz.f234.name,by decide,Tryz.func234.trans (congrArg some (by kernel_rfl))⟩,
  f19:=Tryz.func235.trans (congrArg some (by kernel_rfl)),
  f20:=Tryz.func236.trans (congrArg some (by kernel_rfl)),
  f30:=⟨Tryz.f264.name,by decide,Tryz.func264.trans (congrArg some (by kernel_rfl))⟩,
  f31:=Tryz.func265.trans (congrArg some (by kernel_rfl)),
  f32:=Tryz.func266.trans (congrArg some (by kernel_rfl)),
  f33:=⟨Tryz.f267.name,by decide,Tryz.func267.trans (congrArg some (by kernel_rfl))⟩,
  f34:=⟨Tryz.f268.name,by decide,Tryz.func268.trans (congrArg some (by kernel_rfl))⟩,
  f35:=⟨Tryz.f269.name,by decide,Tryz.func269.trans (congrArg some (by kernel_rfl))⟩,
  f40:=⟨Tryz.f286.name,by decide,Tryz.func286.trans (congrArg some (by kernel_rfl))⟩,
  t0:=Tryz.underlying0,
  a0:=Tryz.isAgg0,
  z0:=Tryz.sizeOf0,
  v0:=Tryz.zeroValue0,
  t3:=Tryz.underlying3,
  a3:=Tryz.isAgg3,
  z3:=Tryz.sizeOf3,
  v3:=Tryz.zeroValue3,
  t4:=Tryz.underlying4,
  a4:=Tryz.isAgg4,
  z4:=Tryz.sizeOf4,
  v4:=Tryz.zeroValue4,
  t5:=Tryz.underlying5,
  a5:=Tryz.isAgg5,
  z5:=Tryz.sizeOf5,
  v5:=Tryz.zeroValue5,
  t9:=Tryz.underlying9,
  a9:=Tryz.isAgg9,
  z9:=Tryz.sizeOf9,
  v9:=Tryz.zeroValue9,
  t22:=Tryz.underlying85,
  a22:=Tryz.isAgg85,
  z22:=Tryz.sizeOf85,
  v22:=Tryz.zeroValue85,
  t23:=Tryz.underlying85,
  a23:=Tryz.isAgg85,
  z23:=Tryz.sizeOf85,
  v23:=Tryz.zeroValue85,
  t25:=Tryz.underlying3,
  a25:=Tryz.isAgg3,
  z25:=Tryz.sizeOf3,
  v25:=Tryz.zeroValue3,
  t32:=Tryz.underlying314,
  a32:=Tryz.isAgg314,
  z32:=Tryz.sizeOf314,
  v32:=Tryz.zeroValue314,
  t35:=Tryz.underlying357,
  a35:=Tryz.isAgg357,
  z35:=Tryz.sizeOf357,
  v35:=Tryz.zeroValue357,
  t36:=Tryz.underlying358,
  a36:=Tryz.isAgg358,
  z36:=Tryz.sizeOf358,
  v36:=Tryz.zeroValue358,
  t41:=Tryz.underlying229,
  a41:=Tryz.isAgg229,
  z41:=Tryz.sizeOf229,
  v41:=Tryz.zeroValue229,
  t44:=Tryz.underlying364,
  a44:=Tryz.isAgg364,
  z44:=Tryz.sizeOf364,
  v44:=Tryz.zeroValue364,
  t46:=Tryz.underlying27,
  a46:=Tryz.isAgg27,
  z46:=Tryz.sizeOf27,
  v46:=Tryz.zeroValue27,
  t53:=Tryz.underlying385,
  a53:=Tryz.isAgg385,
  z53:=Tryz.sizeOf385,
  v53:=Tryz.zeroValue385,
  t57:=Tryz.underlying389,
  a57:=Tryz.isAgg389,
  z57:=Tryz.sizeOf389,
  v57:=Tryz.zeroValue389,
  t63:=Tryz.underlying398,
  a63:=Tryz.isAgg398,
  z63:=Tryz.sizeOf398,
  v63:=Tryz.zeroValue398,
  t64:=Tryz.underlying383,
  a64:=Tryz.isAgg383,
  z64:=Tryz.sizeOf383,
  v64:=Tryz.zeroValue383 }
theorem ZGz (m:Nat):AnyZI.SortsIn Tryz.prog Tryz.sortedA_ren Fence.wide m :=
  ⟨λblk off cap c W d a b=>callsIn_wide.2 (AnyM.slices_Sort_int Tryz.sortA blk off cap c W d a b),
   λp cap W=>callsIn_wide.2 (AnyM.slices_Sort_int_none Tryz.sortA p cap W)⟩
theorem ZvH (m:Option Nat) (w:World):Calls Tryz.prog 56 #[.map m] w λe w'=>e = .returned (.func (.func 113) #[] #[.pointer (some ⟨w.heap.size,0,none⟩)])/\w'=w.alloc (.cells #[.map m] 73) :=
  (callsIn_wide (n:=5)).1 (AnyZI.keys_in Tryz.keysA Fence.wide 5 trivial rfl m w)
def ZIj (_:Value):Option (DataW Unit × List MemPlace):=some (.nil,[])
theorem ZAE {w:World} {m:Nat} {l:List Int} (r:ZuH w.heap m l) (hlen:l.length*8<=140737488355328) :
    ∃ (n:Nat) (D:DataW Unit),w.ownsMap Tryz.prog 3 ZIj m n D/\Maps.size D=l.length/\(intKeys D).Perm l:=by
  obtain ⟨es,i,hm,j,k,t,s⟩:=r;have hu:Tryz.prog.underlying 3=some (.int .i64):=Tryz.underlying3
  have o:es.size=l.length:=by
    have:=congrArg List.length k;simpa using this
  have e:∀ x∈es.toList,∃ n:Int,x.key = .int .i64 n/\(Lit.int .i64 n).wf=true:=λx c=>by
    have:x.key∈l.map (Value.int .i64):=by rw [<- k];exact List.mem_map_of_mem c
    obtain ⟨n,d,q⟩:=Axz.1 this;refine ⟨n,q.symm,?_⟩;have:=s n d;simp only [Lit.wf,Awn,decide_eq_true_eq];have h1:IntKind.i64.min = -9223372036854775808:=by decide
    have u:IntKind.i64.max=9223372036854775807:=by decide
    omega
  have g:∀ x∈es.toList,∃ n:Int,x.key = .int .i64 n/\WideElems.rd Tryz.prog 3 ZIj x=some (.int .i64 n,.nil):=λx c=>by
    obtain ⟨n,d,hw⟩:=e x c;refine ⟨n,d,?_⟩;unfold WideElems.rd;rw [d,keyOf_int_mk hu hw];rfl
  have F:WideElems.Fit Tryz.prog 3 ZIj es i:=⟨by unfold maxLen;omega,j,λx c=>by
    obtain ⟨n,_,h⟩:=g x c
    exact ⟨_,h⟩⟩
  refine ⟨es.size,_,World.ownsMap_of_fit hm F λ_ _ _ h=>h,?_,?_⟩
  ·show (List.foldr DataW.insert [] _).length=_
   rw [(WideShapes.sorted_perm _).length_eq];simp [o]
  ·show (List.map (λp=>Go.intOf p.1) (List.foldr DataW.insert [] _)).Perm l
   refine ((WideShapes.sorted_perm _).map _).trans ?_
   have:(es.toList.map (WideElems.rg Tryz.prog 3 ZIj)).map (λp=>Go.intOf p.1)=l:=by
     refine (List.map_inj_right (f:=Value.int .i64) (λa b h=>by simpa using h)).1 ?_;rw [<- k,Aya,Aya];refine List.map_congr_left λx c=>?_;obtain ⟨n,d,h⟩:=g x c;simp only [Function.comp_apply,WideElems.rg,h,d];rfl
   rw [this]
theorem Zrq {w:World} {b m:Nat} {l:List Int} (k:Zf.cell w.heap b 0=some (.map (some m))) (r:ZuH w.heap m l) (hlen:l.length*8<=140737488355328) :
    Calls Tryz.prog 55 #[.func (.func 113) #[] #[.pointer (some ⟨b,0,none⟩)]] w λe w'=>∃ v,e = .returned v/\w'.ownsRow w.heap.size 3 1 v l.length (l.map encZ)/\Below w.heap.size w w':=by
  obtain ⟨n,D,g,i,c⟩:=ZAE r hlen
  have o:b<w.heap.size:=by
    rcases Aqd b w.heap.size with p | p
    ·exact p
    ·unfold Zf.cell at k
     rw [Aqe p] at k;cases k
  have d:w.cell? ⟨b,0,none⟩=some (.map (some m)):=by rw [ZqW];exact k
  have j:SeqGives Fence.wide 2 Tryz.prog 113 #[.pointer (some ⟨b,0,none⟩)] encZ (λq=>q.Perm (intKeys D)) (Maps.size D) w :=
    AnyZI.keys_gives (ρ:=Tryz.keysA_ren) { Tryz.keysA with } Fence.wide _ trivial rfl (by omega) b m n D w o d g
  have s:=AnyZI.sorted_in Tryz.sortedA Fence.wide 5 trivial trivial trivial trivial rfl (by omega) (ZGz _) (enters_of Tryz.func112 (by kernel_rfl) rfl) 113 #[.pointer (some ⟨b,0,none⟩)] trivial (enters_of Tryz.func113 (by kernel_rfl) rfl) _ _ (by rw [i];unfold maxLen;omega) (by rw [i];exact hlen) _ j;change CallsIn _ _ Tryz.prog 55 _ _ _ at s;refine ((callsIn_wide (n:=5)).1 s).mono ?_;rintro e w' ⟨v,q,rfl,u,a,_,x⟩;refine ⟨v,rfl,?_,x⟩;have t:q.Perm l:=u.trans c;rw [mergeSort_of_perm_i t] at a
  have f:l.mergeSort leI=l:=List.mergeSort_of_pairwise (by
    obtain ⟨_,_,_,_,_,h,_⟩:=r
    exact h.imp λy=>by simp;omega)
  rw [f,t.length_eq] at a;exact a
noncomputable def ZaZ:Zh:=⟨[.one (.M)],[.one (.V)],λt K _ h=>Yx t.1 (λr0 h=>K (r0,()) h) h⟩
theorem ZaN:ZC Tryz.prog 56 ZaZ where
  named:=⟨_,Tryz.func56,by kernel_rfl,by kernel_rfl⟩
  calls t K b w a:=by
    refine (ZvH t.1 w).mono ?_;rintro e w' ⟨rfl,rfl⟩;exact .inl ⟨(_,()),rfl,⟨rfl,rfl,rfl⟩,a⟩
noncomputable def Zko:Zh:=⟨[.one (.V)],[.one (.L)],λt K _ h=>ZgA t.1 (λr0 h=>K (r0,()) h) h⟩
theorem ZjA:ZC Tryz.prog 55 Zko where
  named:=⟨_,Tryz.func55,by kernel_rfl,by kernel_rfl⟩
  calls t K r w i:=by
    obtain ⟨x,u⟩:=t;obtain ⟨b,m,l,a,n,o,hlen,i⟩:=i;dsimp only at a;subst a;refine (Zrq n o hlen).mono ?_;rintro e w' ⟨v,rfl,c,d⟩;have a:Ext w.heap w'.heap:=⟨d.size,d.block⟩;have hs:Fw.Same w w':=⟨d.tape,d.os,d.output⟩;rcases c with ⟨h1,⟨rfl,h0⟩ | ⟨g,cap,cur,rfl,p,f,q,h,j,k⟩⟩
    ·refine .inl ⟨(⟨none,0,0⟩,()),rfl,hs,i _ _ ⟨?_,Aqo _,by decide,.inl ⟨rfl,rfl⟩⟩ a⟩
     rw [h1,h0]
    ·refine .inl ⟨(⟨some ⟨g,0,none⟩,l.length,cap⟩,()),rfl,hs,i _ _ ⟨h1,q,?_,.inr ⟨g,cur,_,rfl,p,f,j,k.symm⟩⟩ a⟩
     unfold maxLen at h;show cap<_;omega
end Go.Proofs.YthbfgkphlmlihaaGreat
namespace Go.Proofs.YthbfgkphlmlihaaGreat
open Go Go.Fw Go.Proofs.Tryz
noncomputable section
abbrev zqI:VT:= .one (.I .i64)
abbrev zqU:VT:= .one (.I .u64)
abbrev zqT:VT:= .one (.I .u8)
abbrev zqP:VT:= .one .P
abbrev zqS:VT:= .one .S
abbrev zqB:VT:= .one .B
abbrev zqL:VT:= .one .L
abbrev Zwh:VT:= .agg [.I .i64,.S,.S,.S,.B,.I .i64,.L]
abbrev Zwv:VT:= .agg [.L,.L,.L,.L,.L]
abbrev Zy3:VT:= .agg [.S,.S,.B,.I .i64,.I .u8,.S,.I .u8,.I .i64,.I .i64,.B,.I .i64,.B]
abbrev ZCe:VT:= .agg [.I .i64,.I .i64,.I .i64,.I .i64,.I .i64,.I .i64]
abbrev ZFx:VT:= .agg [.S,.I .i64,.I .i64,.I .i64,.L]
abbrev ZFw:VT:= .agg [.I .i64,.I .i64,.I .i64,.I .i64,.I .i64,.I .i64,.I .i64]
abbrev ZHL:VT:= .agg [.S,.I .u8,.I .i64,.I .i64,.I .i64,.I .i64,.I .i64]
abbrev ZHK:VT:= .agg [.S,.B,.L]
abbrev ZHJ:VT:= .agg [.I .u8,.S,.S,.S]
abbrev ZCh:VT:= .agg [.I .i64,.I .i64,.I .i64,.I .i64,.I .i64]
abbrev ZCg:VT:= .agg [.I .u64,.I .u64,.B]
abbrev ZCf:VT:= .agg [.I .u8,.I .i64,.I .i64]
abbrev ZFy:VT:= .agg [.I .i64,.I .i64,.I .i64,.I .i64,.I .u64]
abbrev zqs (a:Ann):Ann:= .seq .leaf a
abbrev zql (a:List Nat) (b:List VT) (c:List (Nat × Nat)):Ann:= .block (.loop a b c .leaf)
def zqk:List Nat->OrdT->OrdT
  | [],t=>t
  | n::r,t=> .take (n / 2) (n % 2 ==1) (zqk r t)
abbrev ZFs {a:Type} (f:(a->HP)->HP):Unit->(a × Unit->HP)->(Value->HP)->HP:=λ_ K _ h=>f (λa h=>K (a,()) h) h
abbrev ZK8 {a0:Type} (f:a0->(HP)->HP):a0 × Unit->(Unit->HP)->(Value->HP)->HP:=λt K _ h=>f t.1 (λh=>K (()) h) h
abbrev Zdn {a0 a:Type} (f:a0->(a->HP)->HP):a0 × Unit->(a × Unit->HP)->(Value->HP)->HP:=λt K _ h=>f t.1 (λa h=>K (a,()) h) h
abbrev ZsB {a0 a b1:Type} (f:a0->(a->b1->HP)->HP):a0 × Unit->(a × b1 × Unit->HP)->(Value->HP)->HP:=λt K _ h=>f t.1 (λa b1 h=>K (a,b1,()) h) h
abbrev ZK7 {a0 a b1 b2:Type} (f:a0->(a->b1->b2->HP)->HP):a0 × Unit->(a × b1 × b2 × Unit->HP)->(Value->HP)->HP:=λt K _ h=>f t.1 (λa b1 b2 h=>K (a,b1,b2,()) h) h
abbrev ZCc {a0 a:Type} (f:a0->a->(HP)->HP):a0 × a × Unit->(Unit->HP)->(Value->HP)->HP:=λt K _ h=>f t.1 t.2.1 (λh=>K (()) h) h
abbrev XX {a0 b a:Type} (f:a0->b->(a->HP)->HP):a0 × b × Unit->(a × Unit->HP)->(Value->HP)->HP:=λt K _ h=>f t.1 t.2.1 (λa h=>K (a,()) h) h
abbrev Zp1 {a0 b a b1:Type} (f:a0->b->(a->b1->HP)->HP):a0 × b × Unit->(a × b1 × Unit->HP)->(Value->HP)->HP:=λt K _ h=>f t.1 t.2.1 (λa b1 h=>K (a,b1,()) h) h
abbrev ZFr {a0 b a b1 b2:Type} (f:a0->b->(a->b1->b2->HP)->HP):a0 × b × Unit->(a × b1 × b2 × Unit->HP)->(Value->HP)->HP:=λt K _ h=>f t.1 t.2.1 (λa b1 b2 h=>K (a,b1,b2,()) h) h
abbrev Zy9 {a0 a b:Type} (f:a0->a->b->(HP)->HP):a0 × a × b × Unit->(Unit->HP)->(Value->HP)->HP:=λt K _ h=>f t.1 t.2.1 t.2.2.1 (λh=>K (()) h) h
abbrev Zjk {a0 b c a:Type} (f:a0->b->c->(a->HP)->HP):a0 × b × c × Unit->(a × Unit->HP)->(Value->HP)->HP:=λt K _ h=>f t.1 t.2.1 t.2.2.1 (λa h=>K (a,()) h) h
abbrev Zp0 {a0 b c a b1:Type} (f:a0->b->c->(a->b1->HP)->HP):a0 × b × c × Unit->(a × b1 × Unit->HP)->(Value->HP)->HP:=λt K _ h=>f t.1 t.2.1 t.2.2.1 (λa b1 h=>K (a,b1,()) h) h
abbrev ZCb {a0 b c a b1 b2:Type} (f:a0->b->c->(a->b1->b2->HP)->HP):a0 × b × c × Unit->(a × b1 × b2 × Unit->HP)->(Value->HP)->HP:=λt K _ h=>f t.1 t.2.1 t.2.2.1 (λa b1 b2 h=>K (a,b1,b2,()) h) h
abbrev ZFq {a0 a b a3:Type} (f:a0->a->b->a3->(HP)->HP):a0 × a × b × a3 × Unit->(Unit->HP)->(Value->HP)->HP:=λt K _ h=>f t.1 t.2.1 t.2.2.1 t.2.2.2.1 (λh=>K (()) h) h
abbrev ZpZ {a0 b c a3 a:Type} (f:a0->b->c->a3->(a->HP)->HP):a0 × b × c × a3 × Unit->(a × Unit->HP)->(Value->HP)->HP:=λt K _ h=>f t.1 t.2.1 t.2.2.1 t.2.2.2.1 (λa h=>K (a,()) h) h
abbrev ZFp {a0 b c a3 a b1:Type} (f:a0->b->c->a3->(a->b1->HP)->HP):a0 × b × c × a3 × Unit->(a × b1 × Unit->HP)->(Value->HP)->HP:=λt K _ h=>f t.1 t.2.1 t.2.2.1 t.2.2.2.1 (λa b1 h=>K (a,b1,()) h) h
abbrev ZK6 {a0 b c a3 a b1 b2:Type} (f:a0->b->c->a3->(a->b1->b2->HP)->HP):a0 × b × c × a3 × Unit->(a × b1 × b2 × Unit->HP)->(Value->HP)->HP:=λt K _ h=>f t.1 t.2.1 t.2.2.1 t.2.2.2.1 (λa b1 b2 h=>K (a,b1,b2,()) h) h
abbrev ZK5 {a0 a b a3 a4:Type} (f:a0->a->b->a3->a4->(HP)->HP):a0 × a × b × a3 × a4 × Unit->(Unit->HP)->(Value->HP)->HP:=λt K _ h=>f t.1 t.2.1 t.2.2.1 t.2.2.2.1 t.2.2.2.2.1 (λh=>K (()) h) h
abbrev ZK4 {a0 b c a3 a4 a:Type} (f:a0->b->c->a3->a4->(a->HP)->HP):a0 × b × c × a3 × a4 × Unit->(a × Unit->HP)->(Value->HP)->HP:=λt K _ h=>f t.1 t.2.1 t.2.2.1 t.2.2.2.1 t.2.2.2.2.1 (λa h=>K (a,()) h) h
abbrev ZFo {a0 b c a3 a4 a b1:Type} (f:a0->b->c->a3->a4->(a->b1->HP)->HP):a0 × b × c × a3 × a4 × Unit->(a × b1 × Unit->HP)->(Value->HP)->HP:=λt K _ h=>f t.1 t.2.1 t.2.2.1 t.2.2.2.1 t.2.2.2.2.1 (λa b1 h=>K (a,b1,()) h) h
abbrev ZK3 {a0 b c a3 a4 a b1 b2:Type} (f:a0->b->c->a3->a4->(a->b1->b2->HP)->HP):a0 × b × c × a3 × a4 × Unit->(a × b1 × b2 × Unit->HP)->(Value->HP)->HP:=λt K _ h=>f t.1 t.2.1 t.2.2.1 t.2.2.2.1 t.2.2.2.2.1 (λa b1 b2 h=>K (a,b1,b2,()) h) h
noncomputable abbrev zqC (l:List (FuncId × Zh)) (n:Nat):Cfg:=Zkq Tryz.prog l n [] [] [] Zl4
abbrev zqO (f:FuncId) (s:Zh):Prop:=ZC Tryz.prog f s
abbrev zqR (l:List (FuncId × Zh)) (n:Nat) (f:Func) (s:Zh):Prop:=ZQ (zqC l n) f .leaf s
theorem zqY {c:Cfg} {f:Func} {a:Ann} {s:Zh} (h:ZQ c f a s:=by intro _ _ _ _;kernel_rfl):ZQ c f a s:=h
theorem zq1 {P:Program} {f0:FuncId} {a:Zh} (h0:ZC P f0 a):AllOK P [(f0,a)]:= .cons h0 .nil
theorem zq2 {P:Program} {f0 f1:FuncId} {a s1:Zh} (h0:ZC P f0 a) (h1:ZC P f1 s1):AllOK P [(f0,a),(f1,s1)]:= .cons h0 (.cons h1 .nil)
theorem zq3 {P:Program} {f0 f1 f2:FuncId} {a s1 s2:Zh} (h0:ZC P f0 a) (h1:ZC P f1 s1) (b:ZC P f2 s2):AllOK P [(f0,a),(f1,s1),(f2,s2)]:= .cons h0 (.cons h1 (.cons b .nil))
theorem zq4 {P:Program} {f0 f1 f2 f3:FuncId} {a s1 s2 b:Zh} (h0:ZC P f0 a) (h1:ZC P f1 s1) (c:ZC P f2 s2) (h3:ZC P f3 b):AllOK P [(f0,a),(f1,s1),(f2,s2),(f3,b)]:= .cons h0 (.cons h1 (.cons c (.cons h3 .nil)))
theorem zq5 {P:Program} {f0 f1 f2 f3 f4:FuncId} {a s1 s2 b s4:Zh} (h0:ZC P f0 a) (h1:ZC P f1 s1) (c:ZC P f2 s2) (h3:ZC P f3 b) (d:ZC P f4 s4):AllOK P [(f0,a),(f1,s1),(f2,s2),(f3,b),(f4,s4)]:= .cons h0 (.cons h1 (.cons c (.cons h3 (.cons d .nil))))
theorem zq6 {P:Program} {f0 f1 f2 f3 f4 f5:FuncId} {a s1 s2 b s4 s5:Zh} (h0:ZC P f0 a) (h1:ZC P f1 s1) (c:ZC P f2 s2) (h3:ZC P f3 b) (d:ZC P f4 s4) (e:ZC P f5 s5):AllOK P [(f0,a),(f1,s1),(f2,s2),(f3,b),(f4,s4),(f5,s5)]:= .cons h0 (.cons h1 (.cons c (.cons h3 (.cons d (.cons e .nil)))))
theorem zq7 {P:Program} {f0 f1 f2 f3 f4 f5 f6:FuncId} {a s1 s2 b s4 s5 c:Zh} (h0:ZC P f0 a) (h1:ZC P f1 s1) (d:ZC P f2 s2) (h3:ZC P f3 b) (e:ZC P f4 s4) (f:ZC P f5 s5) (g:ZC P f6 c):AllOK P [(f0,a),(f1,s1),(f2,s2),(f3,b),(f4,s4),(f5,s5),(f6,c)]:= .cons h0 (.cons h1 (.cons d (.cons h3 (.cons e (.cons f (.cons g .nil))))))
theorem zq8 {P:Program} {f0 f1 f2 f3 f4 f5 f6 f7:FuncId} {a s1 s2 b s4 s5 c s7:Zh} (h0:ZC P f0 a) (h1:ZC P f1 s1) (d:ZC P f2 s2) (h3:ZC P f3 b) (e:ZC P f4 s4) (f:ZC P f5 s5) (g:ZC P f6 c) (h:ZC P f7 s7):AllOK P [(f0,a),(f1,s1),(f2,s2),(f3,b),(f4,s4),(f5,s5),(f6,c),(f7,s7)]:= .cons h0 (.cons h1 (.cons d (.cons h3 (.cons e (.cons f (.cons g (.cons h .nil)))))))
theorem zq9 {P:Program} {f0 f1 f2 f3 f4 f5 f6 f7 f8:FuncId} {a s1 s2 b s4 s5 c s7 s8:Zh} (h0:ZC P f0 a) (h1:ZC P f1 s1) (d:ZC P f2 s2) (h3:ZC P f3 b) (e:ZC P f4 s4) (f:ZC P f5 s5) (g:ZC P f6 c) (h:ZC P f7 s7) (i:ZC P f8 s8):AllOK P [(f0,a),(f1,s1),(f2,s2),(f3,b),(f4,s4),(f5,s5),(f6,c),(f7,s7),(f8,s8)]:= .cons h0 (.cons h1 (.cons d (.cons h3 (.cons e (.cons f (.cons g (.cons h (.cons i .nil))))))))
theorem ZRG {P:Program} {f0 f1 f2 f3 f4 f5 f6 f7 f8 f9:FuncId} {a s1 s2 b s4 s5 c s7 s8 s9:Zh} (h0:ZC P f0 a) (h1:ZC P f1 s1) (d:ZC P f2 s2) (h3:ZC P f3 b) (e:ZC P f4 s4) (f:ZC P f5 s5) (g:ZC P f6 c) (h:ZC P f7 s7) (i:ZC P f8 s8) (j:ZC P f9 s9):AllOK P [(f0,a),(f1,s1),(f2,s2),(f3,b),(f4,s4),(f5,s5),(f6,c),(f7,s7),(f8,s8),(f9,s9)]:= .cons h0 (.cons h1 (.cons d (.cons h3 (.cons e (.cons f (.cons g (.cons h (.cons i (.cons j .nil)))))))))
theorem ZQm {P:Program} {f0 f1 f2 f3 f4 f5 f6 f7 f8 f9 f10:FuncId} {c s1 s2 d s4 s5 e s7 s8 s9 a:Zh} (h0:ZC P f0 c) (h1:ZC P f1 s1) (f:ZC P f2 s2) (h3:ZC P f3 d) (g:ZC P f4 s4) (h:ZC P f5 s5) (i:ZC P f6 e) (j:ZC P f7 s7) (k:ZC P f8 s8) (l:ZC P f9 s9) (b:ZC P f10 a):AllOK P [(f0,c),(f1,s1),(f2,s2),(f3,d),(f4,s4),(f5,s5),(f6,e),(f7,s7),(f8,s8),(f9,s9),(f10,a)]:= .cons h0 (.cons h1 (.cons f (.cons h3 (.cons g (.cons h (.cons i (.cons j (.cons k (.cons l (.cons b .nil))))))))))
theorem Zcv:Tryz.prog.follows .mixedOrders=true:=by kernel_rfl
theorem zqF {l:List (FuncId × Zh)} {n:Nat} {f:FuncId} {fn:Func} {a:Ann} {s:Zh} (d:ZQ (zqC l n) fn a s) (e:Tryz.prog.funcs[f]?=some fn) (h:AllOK Tryz.prog l:=by exact .nil) (b:(fn.name == "runtime.NumGoroutine")=false:=by kernel_rfl) (c:fn.body.isNone=false:=by kernel_rfl) (g:n=fn.ntmps:=by rfl) (hlen:s.args.length<=fn.ntmps:=by decide):ZC Tryz.prog f s:=okF d e Zcv (ZhI _ h .nil .nil .nil (Zja _)) b c g hlen
abbrev zk0 (f:zT0):Zh:=⟨[],[zqP],ZFs f⟩
theorem zr0:zqR [] 3 f19 (zk0 Zgs):=zqY
theorem zo0:zqO 19 (zk0 ZdZ):=zqF zr0 func19
theorem zr1:zqR [] 5 f20 (zk0 Zme):=zqY
theorem zo1:zqO 20 (zk0 Zj8):=zqF zr1 func20
abbrev zk2 (f:zT2):Zh:=⟨[zqI,zqU],[zqP,zqI],Zp1 f⟩
theorem zr2 {v0 v1}:zqR [(19,zk0 v0),(20,zk0 v1)] 20 f9 (zk2 (ZkT v0 v1)):=zqY
theorem zo2:zqO 9 (zk2 Zg7):=zqF zr2 func9 (zq2 zo0 zo1)
abbrev zk3 (f:zT3):Zh:=⟨[Zwv],[zqL],Zdn f⟩
theorem zr3:zqR [] 29 f80 (zk3 ZhQ):=zqY
theorem zo3:zqO 80 (zk3 ZdI):=zqF zr3 func80
abbrev zk4 (f:zT4):Zh:=⟨[zqI,zqI,zqI],[zqB],Zjk f⟩
theorem zr4:zqR [] 15 f141 (zk4 ZfR):=zqY
theorem zo4:zqO 141 (zk4 Yq):=zqF zr4 func141
abbrev zk5 (f:zT5):Zh:=⟨[zqS],[zqB],Zdn f⟩
theorem zr5 {v4}:ZQ (zqC [(141,zk4 v4)] 19) f114 (zqs (.seq (zqs (zql [6] [zqI] [(2,3),(7,15)])) .leaf)) (zk5 (ZfT v4)):=zqY
theorem zo5:zqO 114 (zk5 Zap):=zqF zr5 func114 (zq1 zo4)
theorem zr6 {v5}:zqR [(114,zk5 v5)] 6 f242 (zk5 (Zc3 v5)):=zqY
theorem zo6:zqO 242 (zk5 ZcO):=zqF zr6 func242 (zq1 zo5)
abbrev zk7 (f:zT7):Zh:=⟨[.one (.L),.fn 242],[.one (.I .i64)],λt K _ h=>f t.1 (λr0 h=>K (r0,()) h) h⟩
theorem zr7 {v6}:ZQ (zqC [(242,zk5 v6)] 19) f155 (zqs (.seq (zqs (zql [8] [zqI] [(4,5),(9,18)])) .leaf)) (zk7 (Yk v6)):=zqY
theorem zo7:zqO 155 (zk7 ZK):=zqF zr7 func155 (zq1 zo6)
abbrev zk8 (f:zT8):Zh:=⟨[.one (.L),.fn 242],[.one (.B)],λt K _ h=>f t.1 (λr0 h=>K (r0,()) h) h⟩
theorem zr8 {a}:zqR [(155,zk7 a)] 9 f97 (zk8 (ZY a)):=zqY
theorem zo8:zqO 97 (zk8 ZX):=zqF zr8 func97 (zq1 zo7)
abbrev zk9 (f:zT9):Zh:=⟨[.agg [.S,.L]],[zqB],Zdn f⟩
theorem zr9 {v5 a}:zqR [(114,zk5 v5),(97,zk8 a)] 12 f198 (zk9 (Zel v5 a)):=zqY
theorem zo9:zqO 198 (zk9 Zax):=zqF zr9 func198 (zq2 zo5 zo8)
abbrev ZzC (f:Zss):Zh:=⟨[zqP,zqP],[zqB],XX f⟩
theorem ZQl {v4}:zqR [(141,zk4 v4)] 7 f190 (ZzC (ZhY v4)):=zqY
theorem ZRs:zqO 190 (ZzC ZdQ):=zqF ZQl func190 (zq1 zo4)
abbrev Zkk (f:ZgC):Zh:=⟨[zqP],[zqB],Zdn f⟩
theorem ZQk:zqR [] 10 f191 (Zkk ZhX):=zqY
theorem ZRr:zqO 191 (Zkk ZdP):=zqF ZQk func191
theorem ZQj:zqR [] 10 f192 (Zkk ZhW):=zqY
theorem ZRq:zqO 192 (Zkk ZdO):=zqF ZQj func192
theorem ZQi:zqR [] 15 f193 (Zkk ZhV):=zqY
theorem ZRp:zqO 193 (Zkk ZdN):=zqF ZQi func193
abbrev ZGe (f:ZFe):Zh:=⟨[zqB,zqI,zqI,zqI],[zqB],ZpZ f⟩
theorem ZQh {v4}:zqR [(141,zk4 v4)] 24 f143 (ZGe (ZjL v4)):=zqY
theorem ZMF:zqO 143 (ZGe Zer):=zqF ZQh func143 (zq1 zo4)
abbrev ZNB (f:ZFd):Zh:=⟨[zqP,zqP,zqP],[zqB],Zjk f⟩
theorem ZQg {a}:zqR [(143,ZGe a)] 14 f194 (ZNB (ZhU a)):=zqY
theorem ZRo:zqO 194 (ZNB ZdM):=zqF ZQg func194 (zq1 ZMF)
theorem ZQf:zqR [] 15 f195 (Zkk ZhT):=zqY
theorem ZRn:zqO 195 (Zkk ZdL):=zqF ZQf func195
theorem ZQe {a}:zqR [(143,ZGe a)] 16 f196 (Zkk (ZhS a)):=zqY
theorem ZRm:zqO 196 (Zkk ZdK):=zqF ZQe func196 (zq1 ZMF)
theorem ZQd {v4}:zqR [(141,zk4 v4)] 12 f140 (ZzC (Zhj v4)):=zqY
theorem ZRl:zqO 140 (ZzC ZcS):=zqF ZQd func140 (zq1 zo4)
theorem ZQc {a}:zqR [(143,ZGe a)] 8 f142 (Zkk (Zhi a)):=zqY
theorem ZRk:zqO 142 (Zkk ZcR):=zqF ZQc func142 (zq1 ZMF)
theorem ZQb {v4}:zqR [(141,zk4 v4)] 10 f144 (Zkk (Zhh v4)):=zqY
theorem ZRj:zqO 144 (Zkk ZcQ):=zqF ZQb func144 (zq1 zo4)
theorem ZQa {v4}:zqR [(141,zk4 v4)] 5 f145 (Zkk (Zhg v4)):=zqY
theorem ZRi:zqO 145 (Zkk ZcP):=zqF ZQa func145 (zq1 zo4)
theorem ZP9 {v4}:zqR [(141,zk4 v4)] 10 f148 (Zkk (ZiP v4)):=zqY
theorem ZRh:zqO 148 (Zkk ZeI):=zqF ZP9 func148 (zq1 zo4)
abbrev ZNA (f:ZIc):Zh:=⟨[zqL,zqS],[zqI],XX f⟩
theorem ZP8:ZQ (zqC [] 19) f243 (zqs (.seq (zqs (zql [8] [zqI] [(4,5),(9,18)])) .leaf)) (ZNA Xh):=zqY
theorem ZRg:zqO 243 (ZNA X6):=zqF ZP8 func243
abbrev ZHT (f:ZGo):Zh:=⟨[zqL,zqS],[zqB],XX f⟩
theorem ZP7 {v23}:zqR [(243,ZNA v23)] 9 f199 (ZHT (XD v23)):=zqY
theorem ZOI:zqO 199 (ZHT YB):=zqF ZP7 func199 (zq1 ZRg)
abbrev ZFb (f:zT8):Zh:=⟨[zqL],[zqB],Zdn f⟩
theorem ZP6 {v24}:ZQ (zqC [(199,ZHT v24)] 18) f150 (zqs (.seq (zqs (zql [7] [zqI] [(2,4),(8,17)])) .leaf)) (ZFb (ZiL v24)):=zqY
theorem ZOH:zqO 150 (ZFb ZeE):=zqF ZP6 func150 (zq1 ZOI)
theorem ZP5 {v4 v25}:zqR [(141,zk4 v4),(150,ZFb v25)] 17 f149 (ZzC (ZiO v4 v25)):=zqY
theorem ZRf:zqO 149 (ZzC ZeH):=zqF ZP5 func149 (zq2 zo4 ZOH)
abbrev ZNz (f:ZIb):Zh:=⟨[.agg [.S,.I .i64]],[zqB],Zdn f⟩
theorem ZP4 {v4}:zqR [(141,zk4 v4)] 13 f153 (ZNz (Zhf v4)):=zqY
theorem ZRe:zqO 153 (ZNz Zg8):=zqF ZP4 func153 (zq1 zo4)
abbrev ZNy (f:zT7):Zh:=⟨[.one (.L),.fn 153],[.one (.I .i64)],λt K _ h=>f t.1 (λr0 h=>K (r0,()) h) h⟩
theorem ZP3 {v27}:ZQ (zqC [(153,ZNz v27)] 19) f200 (zqs (.seq (zqs (zql [8] [zqI] [(4,5),(9,18)])) .leaf)) (ZNy (Yn v27)):=zqY
theorem ZRd:zqO 200 (ZNy Ym):=zqF ZP3 func200 (zq1 ZRe)
abbrev ZNx (f:zT8):Zh:=⟨[.one (.L),.fn 153],[.one (.B)],λt K _ h=>f t.1 (λr0 h=>K (r0,()) h) h⟩
theorem ZP2 {v28}:zqR [(200,ZNy v28)] 9 f152 (ZNx (Yh v28)):=zqY
theorem ZRc:zqO 152 (ZNx Yb):=zqF ZP2 func152 (zq1 ZRd)
theorem ZP1 {v29}:zqR [(152,ZNx v29)] 6 f151 (Zkk (ZiN v29)):=zqY
theorem ZRb:zqO 151 (Zkk ZeG):=zqF ZP1 func151 (zq1 ZRc)
theorem ZP0 {v4 v25}:zqR [(141,zk4 v4),(150,ZFb v25)] 12 f197 (Zkk (ZhR v4 v25)):=zqY
theorem ZRa:zqO 197 (Zkk ZdJ):=zqF ZP0 func197 (zq2 zo4 ZOH)
abbrev ZFa (f:ZDA):Zh:=⟨[.agg [.S,.L,.I .i64],zqL],[zqI],XX f⟩
noncomputable abbrev ZRv (v9:zT9) (v10:Zss) (v11:ZgC) (a:ZgC) (b:ZgC) (c:ZFd) (d:ZgC) (e:ZgC) (f:Zss) (g:ZgC) (v20:ZgC) (h:ZgC) (v22:ZgC) (v26:Zss) (v30:ZgC) (i:ZgC):Cfg:=Zkq Tryz.prog [(198,zk9 v9),(190,ZzC v10),(191,Zkk v11),(192,Zkk a),(193,Zkk b),(194,ZNB c),(195,Zkk d),(196,Zkk e),(140,ZzC f),(142,Zkk g),(144,Zkk v20),(145,Zkk h),(148,Zkk v22),(149,ZzC v26),(151,Zkk v30),(197,Zkk i)] 23 [] [] [] Zl4 [(190,[.P,.P]),(191,[.P]),(192,[.P]),(193,[.P]),(194,[.P,.P,.P]),(195,[.P]),(196,[.P]),(140,[.P,.P]),(142,[.P]),(144,[.P]),(145,[.P]),(148,[.P]),(149,[.P,.P]),(151,[.P]),(197,[.P])]
theorem ZPZ (v9:zT9) (v10:Zss) (v11:ZgC) (a:ZgC) (b:ZgC) (c:ZFd) (d:ZgC) (e:ZgC) (f:Zss) (g:ZgC) (v20:ZgC) (h:ZgC) (v22:ZgC) (v26:Zss) (v30:ZgC) (i:ZgC):ZQ (ZRv v9 v10 v11 a b c d e f g v20 h v22 v26 v30 i) f139 (zqs (zqs (.seq (zqs (zql [13] [zqI] [(4,4),(6,6),(14,22)])) .leaf))) (ZFa (Zhe v9 v10 v11 a b c d e f g v20 h v22 v26 v30 i)):=λ_ _ _ _=>by kernel_rfl
theorem ZHM:ZC Tryz.prog 139 (ZFa Zay):=okF (ZPZ Zax ZdQ ZdP ZdO ZdN ZdM ZdL ZdK ZcS ZcR ZcQ ZcP ZeI ZeH ZeG ZdJ) func139 Zcv (ZhI _ (.cons zo9 (.cons ZRs (.cons ZRr (.cons ZRq (.cons ZRp (.cons ZRo (.cons ZRn (.cons ZRm (.cons ZRl (.cons ZRk (.cons ZRj (.cons ZRi (.cons ZRh (.cons ZRf (.cons ZRb (.cons ZRa .nil)))))))))))))))) .nil .nil .nil (Zja _))
abbrev ZNw (f:ZIa):Zh:=⟨[Zy3],[zqI],Zdn f⟩
theorem ZPY {v32}:ZQ (zqC [(139,ZFa v32)] 56) f131 (zqs (zqs (.cut [3] [.one .L] [(10,22)] .leaf (.cut [4] [.one .P] [(23,30)] .leaf (.cut [5] [.one .P] [(31,38)] .leaf (zqs (.cut [] [] [(39,41)] .leaf .leaf))))))) (ZNw (ZjQ v32)):=zqY
theorem ZQ9:zqO 131 (ZNw ZhC):=zqF ZPY func131 (zq1 ZHM)
abbrev ZsE (f:Zos):Zh:=⟨[zqI,zqP],[zqI],XX f⟩
theorem ZPX {v33}:zqR [(131,ZNw v33)] 10 f130 (ZsE (Zgr v33)):=zqY
theorem ZQ8:zqO 130 (ZsE Zb5):=zqF ZPX func130 (zq1 ZQ9)
abbrev ZHS (f:ZGn):Zh:=⟨[ZHL],[zqI],Zdn f⟩
theorem ZPW {v32}:ZQ (zqC [(139,ZFa v32)] 17) f84 (zqs (zqs (.cut [] [] [(4,6)] .leaf .leaf))) (ZHS (ZiQ v32)):=zqY
theorem ZOG:zqO 84 (ZHS Zdd):=zqF ZPW func84 (zq1 ZHM)
theorem ZPV {v35}:zqR [(84,ZHS v35)] 10 f132 (ZsE (Zgq v35)):=zqY
theorem ZQ7:zqO 132 (ZsE Zb4):=zqF ZPV func132 (zq1 ZOG)
abbrev ZBt (f:ZzG):Zh:=⟨[ZFx],[zqI],Zdn f⟩
theorem ZPU {v32}:ZQ (zqC [(139,ZFa v32)] 28) f92 (zqs (zqs (.seq (zqs (zql [9] [zqI] [(5,5),(10,18)])) .leaf))) (ZBt (ZkU v32)):=zqY
theorem ZOF:zqO 92 (ZBt Zg9):=zqF ZPU func92 (zq1 ZHM)
theorem ZPT {a}:zqR [(92,ZBt a)] 10 f133 (ZsE (Zgp a)):=zqY
theorem ZQ6:zqO 133 (ZsE Zb3):=zqF ZPT func133 (zq1 ZOF)
abbrev ZHR (f:ZGm):Zh:=⟨[ZCh],[zqI],Zdn f⟩
theorem ZPS {v4}:ZQ (zqC [(141,zk4 v4)] 25) f135 (zqs (.seq (zqs (zql [17] [zqI] [(2,2),(4,4),(18,24)])) .leaf)) (ZHR (ZfS v4)):=zqY
theorem ZOE:zqO 135 (ZHR Zbc):=zqF ZPS func135 (zq1 zo4)
theorem ZPR {a}:zqR [(135,ZHR a)] 10 f134 (ZsE (Zgo a)):=zqY
theorem ZQ5:zqO 134 (ZsE Zb2):=zqF ZPR func134 (zq1 ZOE)
abbrev ZHQ (f:ZGl):Zh:=⟨[ZHK],[zqI],Zdn f⟩
theorem ZPQ {v32}:zqR [(139,ZFa v32)] 12 f137 (ZHQ (ZjO v32)):=zqY
theorem ZOD:zqO 137 (ZHQ Zf4):=zqF ZPQ func137 (zq1 ZHM)
theorem ZPP {v41}:zqR [(137,ZHQ v41)] 10 f136 (ZsE (Zgn v41)):=zqY
theorem ZQ4:zqO 136 (ZsE Zb1):=zqF ZPP func136 (zq1 ZOD)
abbrev ZNv (f:ZH9):Zh:=⟨[Zwv],[zqT,zqI,zqI],ZK7 f⟩
noncomputable abbrev ZRu (v3:zT3) (a:Zos) (v36:Zos) (b:Zos) (c:Zos) (d:Zos):Cfg:=Zkq Tryz.prog [(80,zk3 v3),(130,ZsE a),(132,ZsE v36),(133,ZsE b),(134,ZsE c),(136,ZsE d)] 49 [] [] [] Zl4 [(130,[.P]),(132,[.P]),(133,[.P]),(134,[.P]),(136,[.P])]
theorem ZPO (v3:zT3) (a:Zos) (v36:Zos) (b:Zos) (c:Zos) (d:Zos):ZQ (ZRu v3 a v36 b c d) f38 (zqs (zqs (.seq (zqs (zql [16] [zqI] [(2,4),(7,7),(17,25)])) (.seq (zqs (.block (.loop [28] [zqI] [(2,4),(9,11),(29,48)] (zqs (zqs (.seq (.block (zqs (zqs (zql [34] [zqI] [(2,4),(10,11),(35,47)])))) .leaf)))))) .leaf)))) (ZNv (ZiM v3 a v36 b c d)):=λ_ _ _ _=>by kernel_rfl
theorem ZQ3:ZC Tryz.prog 38 (ZNv ZgJ):=okF (ZPO ZdI Zb5 Zb4 Zb3 Zb2 Zb1) func38 Zcv (ZhI _ (.cons zo3 (.cons ZQ8 (.cons ZQ7 (.cons ZQ6 (.cons ZQ5 (.cons ZQ4 .nil)))))) .nil .nil .nil (Zja _))
abbrev ZCu (f:ZDz):Zh:=⟨[zqL],[zqL],Zdn f⟩
theorem ZPN:zqR [] 8 f94 (ZCu XB):=zqY
theorem ZOC:zqO 94 (ZCu Z1):=zqF ZPN func94
theorem ZPM:zqR [] 8 f138 (ZCu X8):=zqY
theorem ZQ2:zqO 138 (ZCu YT):=zqF ZPM func138
abbrev ZNu (f:ZH8):Zh:=⟨[zqL],[Zwv],Zdn f⟩
theorem ZPL {v44 a}:ZQ (zqC [(94,ZCu v44),(138,ZCu a)] 72) f81 (zqs (zqs (.seq (zqs (.block (.loop [12] [zqI] [(5,5),(7,7),(9,9),(13,70)] (zqs (zqs (.seq (.block (zqs (zqs (zqs (zqs (.seq (zqs (zql [37] [zqI] [(7,7),(38,51)])) (zqs (zql [55] [zqI] [(9,9),(56,69)])))))))) .leaf)))))) .leaf))) (ZNu (ZjP v44 a)):=zqY
theorem ZQ1:zqO 81 (ZNu ZhB):=zqF ZPL func81 (zq2 ZOC ZQ2)
abbrev ZHP (f:ZGk):Zh:=⟨[Zwv],[Zwv],Zdn f⟩
theorem ZPK {v46}:zqR [(81,ZNu v46)] 6 f39 (ZHP (ZjR v46)):=zqY
theorem ZOB:zqO 39 (ZHP Zf5):=zqF ZPK func39 (zq1 ZQ1)
abbrev ZBs (f:ZzF):Zh:=⟨[zqP,Zwv],[zqI],XX f⟩
theorem ZPJ {a b}:zqR [(38,ZNv a),(39,ZHP b)] 31 f21 (ZBs (Zfa a b)):=zqY
theorem ZQ0:zqO 21 (ZBs ZcC):=zqF ZPJ func21 (zq2 ZQ3 ZOB)
abbrev ZCt (f:ZBw):Zh:=⟨[zqP],[Zwv,zqI],ZsB f⟩
theorem ZPI {a}:ZQ (zqC [(39,ZHP a)] 16) f22 (zqs (zqs (.seq (.order (zqk [1,3,5,11,13,15,7,17,8,18,20] .done)) .leaf))) (ZCt (ZfD a)):=zqY
theorem ZOA:zqO 22 (ZCt Zbw):=zqF ZPI func22 (zq1 ZOB)
abbrev ZNt (f:ZH7):Zh:=⟨[Zy3,Zy3],[zqB],XX f⟩
theorem ZPH:zqR [] 8 f41 (ZNt Zcp):=zqY
theorem ZQZ:zqO 41 (ZNt ZaG):=zqF ZPH func41
abbrev ZNs (f:Zwk):Zh:=⟨[.one (.L),.one (.L),.fn 41],[.one (.L)],λt K _ h=>f t.1 t.2.1 (λr0 h=>K (r0,()) h) h⟩
theorem ZPG {a}:ZQ (zqC [(41,ZNt a)] 56) f40 (zqs (zqs (zqs (.seq (zqs (.block (.loop [8,19] [.one .L,zqI] [(10,13),(20,54)] (zqs (zqs (.seq (.block (zqs (zqs (.seq (zqs (zql [11,25] [zqI,zqI] [(12,13),(26,49)])) .leaf)))) .leaf)))))) .leaf)))) (ZNs (YN a)):=zqY
theorem ZQY:zqO 40 (ZNs Yi):=zqF ZPG func40 (zq1 ZQZ)
abbrev Zwx (f:zT2):Zh:=⟨[zqI,zqI],[zqP,zqI],Zp1 f⟩
theorem ZPF:zqR [] 24 f82 (Zwx ZjS):=zqY
theorem ZQX:zqO 82 (Zwx Zf6):=zqF ZPF func82
theorem ZPE:zqR [] 33 f83 (Zwx ZjJ):=zqY
theorem ZQW:zqO 83 (Zwx Zf3):=zqF ZPE func83
abbrev ZNr (f:ZH6):Zh:=⟨[Zy3],[.agg [.P,.P]],Zdn f⟩
theorem ZPD {a v53}:ZQ (zqC [(82,Zwx a),(83,Zwx v53)] 39) f42 (zqs (zqs (.cut [] [] [(4,20)] .leaf .leaf))) (ZNr (ZfC a v53)):=zqY
theorem ZQV:zqO 42 (ZNr Zbv):=zqF ZPD func42 (zq2 ZQX ZQW)
abbrev ZNq (f:ZH5):Zh:=⟨[ZHL,ZHL],[zqB],XX f⟩
theorem ZPC:zqR [] 8 f44 (ZNq Zco):=zqY
theorem ZQU:zqO 44 (ZNq ZaF):=zqF ZPC func44
abbrev ZNp (f:Zwk):Zh:=⟨[.one (.L),.one (.L),.fn 44],[.one (.L)],λt K _ h=>f t.1 t.2.1 (λr0 h=>K (r0,()) h) h⟩
theorem ZPB {a}:ZQ (zqC [(44,ZNq a)] 56) f43 (zqs (zqs (zqs (.seq (zqs (.block (.loop [8,19] [.one .L,zqI] [(10,13),(20,54)] (zqs (zqs (.seq (.block (zqs (zqs (.seq (zqs (zql [11,25] [zqI,zqI] [(12,13),(26,49)])) .leaf)))) .leaf)))))) .leaf)))) (ZNp (YI a)):=zqY
theorem ZQT:zqO 43 (ZNp Z0):=zqF ZPB func43 (zq1 ZQU)
theorem ZPA:zqR [] 31 f119 (Zwx ZjH):=zqY
theorem ZLd:zqO 119 (Zwx ZcN):=zqF ZPA func119
abbrev Zzi (f:Zy4):Zh:=⟨[zqP],[],ZK8 f⟩
theorem ZPz {v57}:zqR [(119,Zwx v57)] 14 f67 (Zzi (Zan v57)):=zqY
theorem ZOz:zqO 67 (Zzi Y6):=zqF ZPz func67 (zq1 ZLd)
abbrev ZNo (f:ZH4):Zh:=⟨[ZHL],[zqP,zqI],ZsB f⟩
theorem ZPy {v35 a}:zqR [(84,ZHS v35),(67,Zzi a)] 17 f45 (ZNo (Zi0 v35 a)):=zqY
theorem ZQS:zqO 45 (ZNo ZeR):=zqF ZPy func45 (zq2 ZOG ZOz)
abbrev ZsD (f:ZoT):Zh:=⟨[zqL,zqL],[zqB],XX f⟩
theorem ZPx:ZQ (zqC [] 26) f85 (zqs (zqs (.seq (zqs (zql [13] [zqI] [(4,5),(14,25)])) .leaf))) (ZsD XA):=zqY
theorem ZQR:zqO 85 (ZsD Xy):=zqF ZPx func85
theorem ZPw:ZQ (zqC [] 26) f86 (zqs (zqs (.seq (zqs (zql [13] [zqI] [(4,5),(14,25)])) .leaf))) (ZsD Xk):=zqY
theorem ZQQ:zqO 86 (ZsD Xj):=zqF ZPw func86
theorem ZPv:ZQ (zqC [] 26) f87 (zqs (zqs (.seq (zqs (zql [13] [zqI] [(4,5),(14,25)])) .leaf))) (ZsD Xd):=zqY
theorem ZQP:zqO 87 (ZsD Xc):=zqF ZPv func87
theorem ZPu:ZQ (zqC [] 26) f146 (zqs (zqs (.seq (zqs (zql [13] [zqI] [(4,5),(14,25)])) .leaf))) (ZsD Xz):=zqY
theorem ZQO:zqO 146 (ZsD YY):=zqF ZPu func146
abbrev ZE9 (f:ZDy):Zh:=⟨[ZFx,ZFx],[zqB],XX f⟩
theorem ZPt {v63}:zqR [(146,ZsD v63)] 38 f89 (ZE9 (Zhd v63)):=zqY
theorem ZQN:zqO 89 (ZE9 ZeF):=zqF ZPt func89 (zq1 ZQO)
abbrev ZNn (f:ZoT):Zh:=⟨[.one (.L),.one (.L),.fn 89],[.one (.B)],λt K _ h=>f t.1 t.2.1 (λr0 h=>K (r0,()) h) h⟩
theorem ZPs {v64}:ZQ (zqC [(89,ZE9 v64)] 32) f88 (zqs (zqs (.seq (zqs (zql [17] [zqI] [(6,9),(18,31)])) .leaf))) (ZNn (ZM v64)):=zqY
theorem ZQM:zqO 88 (ZNn ZL):=zqF ZPs func88 (zq1 ZQN)
theorem ZPr:ZQ (zqC [] 26) f147 (zqs (zqs (.seq (zqs (zql [13] [zqI] [(4,5),(14,25)])) .leaf))) (ZsD Zca):=zqY
theorem ZQL:zqO 147 (ZsD Zb0):=zqF ZPr func147
abbrev ZNm (f:ZH3):Zh:=⟨[ZHK,ZHK],[zqB],XX f⟩
theorem ZPq {a}:zqR [(147,ZsD a)] 24 f91 (ZNm (Zjg a)):=zqY
theorem ZQK:zqO 91 (ZNm Zjc):=zqF ZPq func91 (zq1 ZQL)
abbrev ZNl (f:ZoT):Zh:=⟨[.one (.L),.one (.L),.fn 91],[.one (.B)],λt K _ h=>f t.1 t.2.1 (λr0 h=>K (r0,()) h) h⟩
theorem ZPp {a}:ZQ (zqC [(91,ZNm a)] 32) f90 (zqs (zqs (.seq (zqs (zql [17] [zqI] [(6,9),(18,31)])) .leaf))) (ZNl (Zw a)):=zqY
theorem ZQJ:zqO 90 (ZNl Zv):=zqF ZPp func90 (zq1 ZQK)
abbrev ZNk (f:ZH2):Zh:=⟨[Zwv,Zwv],[zqB],XX f⟩
theorem ZPo {a b c d e}:zqR [(85,ZsD a),(86,ZsD b),(87,ZsD c),(88,ZNn d),(90,ZNl e)] 38 f47 (ZNk (ZjM a b c d e)):=zqY
theorem ZQI:zqO 47 (ZNk ZjD):=zqF ZPo func47 (zq5 ZQR ZQQ ZQP ZQM ZQJ)
theorem ZPn {a}:zqR [(47,ZNk a)] 12 f46 (ZE9 (Zcn a)):=zqY
theorem ZQH:zqO 46 (ZE9 XG):=zqF ZPn func46 (zq1 ZQI)
abbrev ZNj (f:Zwk):Zh:=⟨[.one (.L),.one (.L),.fn 46],[.one (.L)],λt K _ h=>f t.1 t.2.1 (λr0 h=>K (r0,()) h) h⟩
theorem ZPm {a}:ZQ (zqC [(46,ZE9 a)] 56) f48 (zqs (zqs (zqs (.seq (zqs (.block (.loop [8,19] [.one .L,zqI] [(10,13),(20,54)] (zqs (zqs (.seq (.block (zqs (zqs (.seq (zqs (zql [11,25] [zqI,zqI] [(12,13),(26,49)])) .leaf)))) .leaf)))))) .leaf)))) (ZNj (YR a)):=zqY
theorem ZQG:zqO 48 (ZNj Yl):=zqF ZPm func48 (zq1 ZQH)
abbrev ZNi (f:ZH1):Zh:=⟨[zqI],[zqP,zqI],ZsB f⟩
theorem ZPl:ZQ (zqC [] 30) f93 (zqs (zqs (zqs (.seq (.order (zqk [1,3,5,7,9,11,13,15,16,18,20,22,24,26,28,30] .done)) .leaf)))) (ZNi Zn3):=zqY
theorem ZQF:zqO 93 (ZNi Zln):=zqF ZPl func93
theorem ZPk:zqR [] 7 f96 (ZBt Zgw):=zqY
theorem ZOy:zqO 96 (ZBt Zb7):=zqF ZPk func96
abbrev ZNh (f:ZH0):Zh:=⟨[zqI,zqI],[zqB],XX f⟩
theorem ZPj:zqR [] 12 f154 (ZNh ZhP):=zqY
theorem ZQE:zqO 154 (ZNh ZfN):=zqF ZPj func154
abbrev ZNg (f:ZHZ):Zh:=⟨[zqI,zqI,zqI,zqI,zqU],[zqP,zqI],ZFo f⟩
theorem ZPi {a}:zqR [(154,ZNh a)] 49 f95 (ZNg (ZjK a)):=zqY
theorem ZQD:zqO 95 (ZNg Zhz):=zqF ZPi func95 (zq1 ZQE)
abbrev ZNf (f:ZHY):Zh:=⟨[ZFx,zqI,zqU],[zqP,zqI],Zp0 f⟩
theorem ZPh {a b v44 c d}:zqR [(92,ZBt a),(93,ZNi b),(94,ZCu v44),(96,ZBt c),(95,ZNg d)] 50 f49 (ZNf (Zn4 a b v44 c d)):=zqY
theorem ZQC:zqO 49 (ZNf ZjE):=zqF ZPh func49 (zq5 ZOF ZQF ZOC ZOy ZQD)
abbrev ZNe (f:ZHX):Zh:=⟨[zqP,Zwv],[.agg [.L,.L,.L,.I .i64]],XX f⟩
theorem ZPg {a b c d e f}:ZQ (zqC [(40,ZNs a),(42,ZNr b),(43,ZNp c),(45,ZNo d),(48,ZNj e),(49,ZNf f)] 173) f23 (zqs (zqs (zqs (.seq (.seq (.order (zqk [1,3,5,7,11,19,9,13,14,16] .done)) (.block (.loop [34] [zqI] [(7,8),(35,65)] (zqs (zqs (.seq (.block (zqs (zqs (.cond (.order (zqk [1,5,9,3,7,10,13,14,16,18,20] .done)) (.order (zqk [1,5,7,9,11,15,3,13,16,19,20,22,24,26,28] .done)))))) .leaf)))))) (.seq (.seq (.order (zqk [1,3,5,7,11,19,9,13,14,16] .done)) (.block (.loop [75] [zqI] [(9,12),(76,117)] (zqs (zqs (.seq (.block (zqs (.seq (zqs (.cond (.seq (.order (zqk [1,5,9,3,7,10,13,14,16,18,20] .done)) .leaf) .leaf)) .leaf))) .leaf)))))) (zqs (.seq (.seq (.order (zqk [1,3,5,7,11,15,21,9,13,16,18] .done)) (.block (.loop [128] [zqI] [(14,17),(129,171)] (zqs (zqs (.seq (.block (zqs (.seq (zqs (.cond (.seq (.order (zqk [1,5,9,3,7,10,13,14,16,18,20] .done)) .leaf) .leaf)) (.seq (.order (zqk [1,3,5,7,11,17,19,21,25,27,29,9,13,15,23,31,32,34,37,39,40,42] .done)) .leaf)))) .leaf)))))) .leaf))))))) (ZNe (Zdz a b c d e f)):=zqY
theorem ZQB:zqO 23 (ZNe Zbm):=zqF ZPg func23 (zq6 ZQY ZQV ZQT ZQS ZQG ZQC)
theorem ZPf {a b c}:ZQ (zqC [(21,ZBs a),(22,ZCt b),(23,ZNe c)] 46) f10 (zqs (zqs (.seq (.seq (.order (zqk [1,3,5,7,9,11,12,14] .done)) .leaf) (zqs (zqs (.seq (.order (zqk [1,3,5,7,9,10,12,14,16,18] .done)) .leaf)))))) (ZBs (Zei a b c)):=zqY
theorem ZLc:zqO 10 (ZBs XO):=zqF ZPf func10 (zq3 ZQ0 ZOA ZQB)
abbrev ZCs (f:ZBv):Zh:=⟨[Zwh],[zqL,zqI],ZsB f⟩
theorem ZPe {v5}:ZQ (zqC [(114,zk5 v5)] 59) f58 (zqs (.cut [] [] [(2,3),(5,25)] .leaf (zqs (.cut [4] [.one .L] [(35,45)] .leaf .leaf)))) (ZCs (ZkS v5)):=zqY
theorem ZFA:zqO 58 (ZCs ZbJ):=zqF ZPe func58 (zq1 zo5)
theorem ZPd:zqR [] 6 f98 (zk5 Zcm):=zqY
theorem ZQA:zqO 98 (zk5 Zci):=zqF ZPd func98
abbrev ZNd (f:zT7):Zh:=⟨[.one (.L),.fn 98],[.one (.I .i64)],λt K _ h=>f t.1 (λr0 h=>K (r0,()) h) h⟩
theorem ZPc {a}:ZQ (zqC [(98,zk5 a)] 19) f155 (zqs (.seq (zqs (zql [8] [zqI] [(4,5),(9,18)])) .leaf)) (ZNd (Ye a)):=zqY
theorem ZQz:zqO 155 (ZNd Z8):=zqF ZPc func155 (zq1 ZQA)
abbrev ZNc (f:zT8):Zh:=⟨[.one (.L),.fn 98],[.one (.B)],λt K _ h=>f t.1 (λr0 h=>K (r0,()) h) h⟩
theorem ZPb {a}:zqR [(155,ZNd a)] 9 f97 (ZNc (ZU a)):=zqY
theorem ZQy:zqO 97 (ZNc ZE):=zqF ZPb func97 (zq1 ZQz)
abbrev Zww (f:Zwj):Zh:=⟨[zqP,zqL],[zqI],XX f⟩
theorem ZPa:ZQ (zqC [] 27) f156 (zqs (zqs (.seq (zqs (.block (.loop [11] [zqI] [(7,7),(12,24)] (zqs (zqs (.seq (.block (zqs (.seq (.order (zqk [1,3,5,7,9,10,12] .done)) .leaf))) .leaf)))))) .leaf))) (Zww Ze2):=zqY
theorem ZLb:zqO 156 (Zww Xv):=zqF ZPa func156
theorem ZO9 {v57}:zqR [(119,Zwx v57)] 18 f201 (zk0 (Zmf v57)):=zqY
theorem ZQx:zqO 201 (zk0 Zj9):=zqF ZO9 func201 (zq1 ZLd)
abbrev ZGb (f:ZFc):Zh:=⟨[zqP,ZHJ],[],ZCc f⟩
theorem ZO8 {a}:ZQ (zqC [(201,zk0 a)] 27) f157 (zqs (.seq (.order (zqk [1,3,5,7,9,10,12] .done)) (.cond (.seq (.order (zqk [1,3,5,7,9,10,12] .done)) (.order (zqk [1,3,5,7,9,11,12,14,16,18,20] .done))) .leaf))) (ZGb (Ze1 a)):=zqY
theorem ZLa:zqO 157 (ZGb Xu):=zqF ZO8 func157 (zq1 ZQx)
theorem ZO7 {a b c}:ZQ (zqC [(58,ZCs a),(156,Zww b),(157,ZGb c)] 57) f99 (zqs (zqs (zqs (.seq (zqs (zql [5,16] [.one .L,zqI] [(4,4),(7,9),(17,31)])) (.seq (.seq (.order (zqk [1,3,5,7,11,13,15,17,19,21,23,8,24] .done)) .leaf) (.seq (zqs (.block (.loop [47] [zqI] [(11,11),(48,56)] (zqs (zqs (.seq (.block (zqs (.order (zqk [1,3,5,7,8] .done)))) .leaf)))))) .leaf)))))) (Zww (Zfu a b c)):=zqY
theorem ZQw:zqO 99 (Zww Zc9):=zqF ZO7 func99 (zq3 ZFA ZLb ZLa)
abbrev Zzh (f:Zsr):Zh:=⟨[zqP,Zwh],[zqI],XX f⟩
theorem ZO6 {a b c}:ZQ (zqC [(58,ZCs a),(97,ZNc b),(99,Zww c)] 65) f50 (zqs (zqs (zqs (.seq (.order (zqk [1,3,5,7,9,10,12,14] .done)) .leaf)))) (Zzh (Zdy a b c)):=zqY
theorem ZQv:zqO 50 (Zzh Zad):=zqF ZO6 func50 (zq3 ZFA ZQy ZQw)
abbrev ZNb (f:ZHW):Zh:=⟨[zqI,zqS,zqP,zqP],[],ZFq f⟩
theorem ZO5:zqR [] 13 f63 (ZNb ZjN):=zqY
theorem ZQu:zqO 63 (ZNb ZhA):=zqF ZO5 func63
abbrev ZCr (f:ZBu):Zh:=⟨[Zwv,zqT,zqS],[zqL],Zjk f⟩
theorem ZO4 {a}:ZQ (zqC [(63,ZNb a)] 98) f27 (zqs (zqs (zqs (.seq (zqs (.block (zqs (.cond (zqs (zql [25] [zqI] [(9,10),(26,35)])) (zqs (.cond (zqs (zql [41] [zqI] [(11,12),(42,51)])) (zqs (.cond (zqs (zql [57] [zqI] [(13,14),(58,67)])) (zqs (.cond (zqs (zql [73] [zqI] [(15,15),(74,80)])) (zqs (.cond (zqs (zql [86] [zqI] [(16,17),(87,96)])) .leaf)))))))))))) .leaf)))) (ZCr (Zmg a)):=zqY
theorem ZFz:zqO 27 (ZCr ZaX):=zqF ZO4 func27 (zq1 ZQu)
abbrev ZNa (f:ZHV):Zh:=⟨[ZHK,zqS],[zqB],XX f⟩
theorem ZO3 {v41 v24}:zqR [(137,ZHQ v41),(199,ZHT v24)] 19 f160 (ZNa (Zgb v41 v24)):=zqY
theorem ZQt:zqO 160 (ZNa Zet):=zqF ZO3 func160 (zq2 ZOD ZOI)
abbrev ZuS (f:ZtQ):Zh:=⟨[zqI,zqP],[zqB],XX f⟩
theorem ZO2 {a}:ZQ (zqC [(160,ZNa a)] 22) f159 (zqs (.seq (.order (zqk [17,1,3,5,7,9,11,13,15,19,21,23,24,26,28,31,32,34,36] .done)) .leaf)) (ZuS (Zdx a)):=zqY
theorem ZQs:zqO 159 (ZuS Zbl):=zqF ZO2 func159 (zq1 ZQt)
abbrev ZM9 (f:Zwi):Zh:=⟨[zqP,zqT,.clo 159 [.P]],[zqI,zqB],Zp0 f⟩
theorem ZO1 {a b}:ZQ (zqC [(27,ZCr a),(159,ZuS b)] 34) f158 (zqs (.seq (.seq (.order (zqk [1,3,5,15,17,19,21,23,31,7,9,11,13,25,26,28] .done)) (zql [25] [zqI] [(6,7),(9,9),(26,33)])) .leaf)) (ZM9 (ZB a b)):=zqY
theorem ZQr:zqO 158 (ZM9 X1):=zqF ZO1 func158 (zq2 ZFz ZQs)
abbrev Zp2 (f:Zmo):Zh:=⟨[zqP],[zqI,zqB],ZsB f⟩
theorem ZO0 {a}:zqR [(158,ZM9 a)] 9 f100 (Zp2 (Ze8 a)):=zqY
theorem ZQq:zqO 100 (Zp2 Za2):=zqF ZO0 func100 (zq1 ZQr)
theorem ZHp:ZyX Tryz.prog 79:=Zyl func79 (by kernel_rfl) (by kernel_rfl) (by kernel_rfl) (by kernel_rfl)
abbrev ZM8 (f:ZHU):Zh:=⟨[.one (.M)],[.one (.M)],Zdn f⟩
noncomputable abbrev ZRt:Cfg:=Zkq Tryz.prog [] 9 [79] [] [] Zl4
theorem ZOZ:ZQ (ZRt) f187 (.leaf) (ZM8 Yz):=λ_ _ _ _=>by kernel_rfl
theorem ZQp:ZC Tryz.prog 187 (ZM8 ZR):=okF (ZOZ) func187 Zcv (ZhI _ .nil (.cons ZHp .nil) .nil .nil (Zja _))
abbrev ZuR (f:ZtP):Zh:=⟨[zqP],[zqP],Zdn f⟩
theorem ZOY {a}:zqR [(187,ZM8 a)] 15 f127 (ZuR (Zdt a)):=zqY
theorem ZQo:zqO 127 (ZuR Zbi):=zqF ZOY func127 (zq1 ZQp)
theorem ZOX {a}:ZQ (zqC [(127,ZuR a)] 23) f72 (zqs (zqs (.seq (.order (zqk [1,3,5,11,13,15,17,25,27,29,7,19,31,8,20,22,32,34,36] .done)) .leaf))) (ZuR (Zd5 a)):=zqY
theorem ZQn:zqO 72 (ZuR ZaW):=zqF ZOX func72 (zq1 ZQo)
abbrev ZHO (f:ZGj):Zh:=⟨[zqP,ZHJ],[zqP],XX f⟩
theorem ZOW {a}:ZQ (zqC [(72,ZuR a)] 15) f30 (zqs (zqs (.seq (.order (zqk [1,3,5,7,9,11,12,14,16] .done)) .leaf))) (ZHO (Zgi a)):=zqY
theorem ZOx:zqO 30 (ZHO ZbZ):=zqF ZOW func30 (zq1 ZQn)
abbrev ZoS (f:ZlJ):Zh:=⟨[zqP,zqI],[zqI],XX f⟩
theorem ZOV:zqR [] 22 f120 (ZoS ZcW):=zqY
theorem ZK9:zqO 120 (ZoS YO):=zqF ZOV func120
abbrev ZHN (f:ZzE):Zh:=⟨[zqP,zqI],[.clo 182 [.P,.P]],XX f⟩
theorem ZOU:zqR [] 6 f124 (ZHN ZeV):=zqY
theorem ZOw:zqO 124 (ZHN Xt):=zqF ZOU func124
theorem ZK2:zqR [] 16 f122 (ZoS ZaJ):=zqY
theorem ZCq:zqO 122 (ZoS ZP):=zqF ZK2 func122
abbrev ZGi:List VT:=[.yl,.one (.P),.one (.P)]
abbrev ZGg:List VT:=[]
abbrev ZDw (f:ZkB):ZcK:=⟨[.one (.P),.one (.P)],λY l t K h=>f Y l t.1 t.2.1 K h⟩
noncomputable def ZNL (Y:Yld):Cfg:=Zkq Tryz.prog [(122,(ZoS ZP))] 52 [] [] [] Y
theorem ZK1 (a:ZlJ) (Y:Yld) (t:Xl ZGi) (K:Xl ZGg->HP) (b:Value->HP) (h:Zf):ZFj (Zkq Tryz.prog [(122,ZoS a)] 52 [] [] [] Y) f182 (zqs (zqs (.block (.loop [5] [zqI] [(6,7),(19,51)] (zqs (.seq (.block (zqs (.seq (.order (zqk [0,2,5,7,9,11,13,15,17,19,21,23,25,27,29,30,32,34,36] .done)) .leaf))) .leaf)))))) (Xl.evs ZGi t) ZGg K b h=Zdr a Y t.1 t.2.1 t.2.2.1 (λh=>K (()) h) h:=by kernel_rfl
theorem ZGa:Zsn Tryz.prog 182 (ZDw Xb):=λY a=>ZD2 (c:=ZNL Y) func182 (by kernel_rfl) (by kernel_rfl) rfl (Awt rfl) (ZhI _ (.cons ZCq .nil) .nil .nil .nil a) Zcv (ZK1 ZP Y)
abbrev Zm4 (f:Zkn):Zh:=⟨[zqI,zqI],[zqI],XX f⟩
theorem ZK0:zqR [] 11 f183 (Zm4 Zls):=zqY
theorem ZM7:zqO 183 (Zm4 Ziz):=zqF ZK0 func183
abbrev ZzB (f:ZsT):Zh:=⟨[ZCe,ZCe],[ZCe],XX f⟩
theorem ZKZ {a}:ZQ (zqC [(183,Zm4 a)] 53) f125 (zqs (.cut [5] [.one .P] [(6,31)] (.order (zqk [1,5,11,15,21,25,31,35,41,45,3,7,13,17,23,27,33,37,43,47] (.fork 4 (.fork 9 (.fork 14 (.fork 19 (.fork 24 (zqk [51,52,54] .done) 26 (zqk [48,50,54] .done)) 26 (zqk [38,48,50,54] .done)) 26 (zqk [28,38,48,50,54] .done)) 26 (zqk [18,28,38,48,50,54] .done)) 26 (zqk [8,18,28,38,48,50,54] .done)))) .leaf)) (ZzB (ZjG a)):=zqY
theorem ZF9:zqO 125 (ZzB Zeq):=zqF ZKZ func125 (zq1 ZM7)
abbrev Zm3 (f:ZmG):Zh:=⟨[zqP,zqI],[ZCe,zqI],Zp1 f⟩
noncomputable abbrev ZNK (c:ZlJ) (d:ZzE) (a:ZsT) (b:ZkB):Cfg:=Zkq Tryz.prog [(120,ZoS c),(124,ZHN d),(125,ZzB a)] 25 [] [] [(182,ZDw b)] Zl4
theorem ZKY (c:ZlJ) (d:ZzE) (a:ZsT) (b:ZkB):ZQ (ZNK c d a b) f69 (zqs (zqs (zqs (.seq (zqs (.block (.range [ZFw] .leaf .leaf))) .leaf)))) (Zm3 (Zd8 c d a b)):=λ_ _ _ _=>by kernel_rfl
theorem ZCp:ZC Tryz.prog 69 (Zm3 XJ):=okF (ZKY YO Xt Zeq Xb) func69 Zcv (ZhI _ (.cons ZK9 (.cons ZOw (.cons ZF9 .nil))) .nil .nil (.cons ZGa .nil) (Zja _))
theorem ZKX {a}:zqR [(69,Zm3 a)] 17 f161 (Zm3 (Ze6 a)):=zqY
theorem Zzg:zqO 161 (Zm3 Xw):=zqF ZKX func161 (zq1 ZCp)
abbrev Zkl (f:ZkA):Zh:=⟨[zqP,zqI],[zqI,zqI],Zp1 f⟩
theorem ZKW {a}:zqR [(161,Zm3 a)] 27 f162 (Zkl (Zb9 a)):=zqY
theorem ZM6:zqO 162 (Zkl ZaV):=zqF ZKW func162 (zq1 Zzg)
noncomputable abbrev ZNJ (c:ZlJ) (d:ZzE) (a:ZlJ) (b:ZkB):Cfg:=Zkq Tryz.prog [(120,ZoS c),(124,ZHN d),(122,ZoS a)] 33 [] [] [(182,ZDw b)] Zl4
theorem ZKV (c:ZlJ) (d:ZzE) (a:ZlJ) (b:ZkB):ZQ (ZNJ c d a b) f202 (zqs (zqs (zqs (.seq (zqs (.block (.range [ZFw] .leaf (.block (.seq (.order (zqk [3,1,5,9,11,6,12,14] .done)) .leaf))))) .leaf)))) (Zkl (Zds c d a b)):=λ_ _ _ _=>by kernel_rfl
theorem ZF8:ZC Tryz.prog 202 (Zkl Zaa):=okF (ZKV YO Xt ZP Xb) func202 Zcv (ZhI _ (.cons ZK9 (.cons ZOw (.cons ZCq .nil))) .nil .nil (.cons ZGa .nil) (Zja _))
theorem ZKU {a}:zqR [(202,Zkl a)] 16 f163 (Zkl (Zd4 a)):=zqY
theorem ZM5:zqO 163 (Zkl ZaU):=zqF ZKU func163 (zq1 ZF8)
theorem ZKT {a}:zqR [(161,Zm3 a)] 17 f164 (Zkl (Zfw a)):=zqY
theorem ZM4:zqO 164 (Zkl Zda):=zqF ZKT func164 (zq1 Zzg)
abbrev ZlI (f:Zk4):Zh:=⟨[zqP],[zqI],Zdn f⟩
theorem ZKS:zqR [] 9 f32 (ZlI ZcJ):=zqY
theorem Zzf:zqO 32 (ZlI YM):=zqF ZKS func32
abbrev Zkx (f:Zh6):Zh:=⟨[zqI],[zqB],Zdn f⟩
theorem ZKR:zqR [] 9 f288 (Zkx Zem):=zqY
theorem ZM3:zqO 288 (Zkx ZbP):=zqF ZKR func288
abbrev ZDv (f:zT7):Zh:=⟨[.one (.L),.fn 288],[.one (.I .i64)],λt K _ h=>f t.1 (λr0 h=>K (r0,()) h) h⟩
theorem ZKQ {a}:ZQ (zqC [(288,Zkx a)] 19) f110 (zqs (.seq (zqs (zql [8] [zqI] [(4,5),(9,18)])) .leaf)) (ZDv (YE a)):=zqY
theorem ZM2:zqO 110 (ZDv YD):=zqF ZKQ func110 (zq1 ZM3)
abbrev ZDu (f:zT8):Zh:=⟨[.one (.L),.fn 288],[.one (.B)],λt K _ h=>f t.1 (λr0 h=>K (r0,()) h) h⟩
theorem ZKP {a}:zqR [(110,ZDv a)] 9 f287 (ZDu (Yv a)):=zqY
theorem ZM1:zqO 287 (ZDu Yt):=zqF ZKP func287 (zq1 ZM2)
abbrev ZDt (f:ZAq):Zh:=⟨[ZFw],[zqB],Zdn f⟩
theorem ZKO {a}:zqR [(287,ZDu a)] 20 f271 (ZDt (ZfG a)):=zqY
theorem ZM0:zqO 271 (ZDt Zdg):=zqF ZKO func271 (zq1 ZM1)
abbrev Zu1 (f:ZsS):Zh:=⟨[ZCh,zqI,ZFw],[zqB],Zjk f⟩
theorem ZKN {b a}:zqR [(135,ZHR b),(271,ZDt a)] 22 f244 (Zu1 (ZkV b a)):=zqY
theorem ZMZ:zqO 244 (Zu1 ZiA):=zqF ZKN func244 (zq2 ZOE ZM0)
theorem ZKM:zqR [] 16 f272 (zk4 ZiY):=zqY
theorem ZMY:zqO 272 (zk4 ZeQ):=zqF ZKM func272
abbrev ZsK (f:ZgW):Zh:=⟨[zqI],[zqU],Zdn f⟩
theorem ZKL:zqR [] 6 f290 (ZsK ZjT):=zqY
theorem ZMX:zqO 290 (ZsK ZhD):=zqF ZKL func290
abbrev ZzA (f:Zkz):Zh:=⟨[zqU,zqU],[zqU,zqU],Zp1 f⟩
theorem ZKK:zqR [] 51 f237 (ZzA ZfF):=zqY
theorem ZF7:zqO 237 (ZzA Zar):=zqF ZKK func237
theorem Zym:Zy0 Tryz.prog 298:=ZEL func298 (by kernel_rfl) (by kernel_rfl) (by kernel_rfl) (by kernel_rfl)
abbrev ZDs (f:ZAp):Zh:=⟨[zqU,zqU,zqU],[.agg [.I .u64,.I .u64,.I .u64]],Zjk f⟩
noncomputable abbrev ZNI (a:Zkz):Cfg:=Zkq Tryz.prog [(237,ZzA a)] 45 [] [] [] Zl4 [] [298]
theorem ZKJ (a:Zkz):ZQ (ZNI a) f289 (.leaf) (ZDs (Zho a)):=λ_ _ _ _=>by kernel_rfl
theorem ZMW:ZC Tryz.prog 289 (ZDs ZeP):=okF (ZKJ Zar) func289 Zcv (ZhI _ (.cons ZF7 .nil) .nil .nil .nil (Zja _) (.cons Zym .nil))
abbrev ZDr (f:Zh6):Zh:=⟨[zqU],[zqB],Zdn f⟩
theorem ZKI:zqR [] 6 f301 (ZDr Zen):=zqY
theorem ZMV:zqO 301 (ZDr Zd7):=zqF ZKI func301
abbrev ZDq (f:Zkn):Zh:=⟨[zqU,zqU],[zqI],XX f⟩
theorem ZKH {a}:zqR [(301,ZDr a)] 20 f299 (ZDq (Zc4 a)):=zqY
theorem ZMU:zqO 299 (ZDq Za7):=zqF ZKH func299 (zq1 ZMV)
abbrev ZDp (f:ZAo):Zh:=⟨[zqL,zqL],[zqI],XX f⟩
theorem ZKG {a}:ZQ (zqC [(299,ZDq a)] 36) f291 (zqs (.seq (zqs (zql [11] [zqI] [(4,8),(12,30)])) .leaf)) (ZDp (XP a)):=zqY
theorem ZMT:zqO 291 (ZDp Y5):=zqF ZKG func291 (zq1 ZMU)
theorem ZKF {a b c}:zqR [(290,ZsK a),(289,ZDs b),(291,ZDp c)] 23 f273 (zk4 (Zfi a b c)):=zqY
theorem ZMS:zqO 273 (zk4 ZcV):=zqF ZKF func273 (zq3 ZMX ZMW ZMT)
abbrev Zu0 (f:ZsR):Zh:=⟨[ZCh,zqI,ZFw],[zqS],Zjk f⟩
theorem ZKE {a b}:zqR [(272,zk4 a),(273,zk4 b)] 47 f245 (Zu0 (ZiX a b)):=zqY
theorem ZMR:zqO 245 (Zu0 ZgN):=zqF ZKE func245 (zq2 ZMY ZMS)
theorem ZKD {a b}:zqR [(244,Zu1 a),(245,Zu0 b)] 16 f203 (Zu0 (ZiZ a b)):=zqY
theorem ZMQ:zqO 203 (Zu0 ZgO):=zqF ZKD func203 (zq2 ZMZ ZMR)
theorem ZKC {a}:zqR [(203,Zu0 a)] 12 f166 (Zu1 (Zh2 a)):=zqY
theorem ZMP:zqO 166 (Zu1 ZfP):=zqF ZKC func166 (zq1 ZMQ)
abbrev ZDo (f:ZAn):Zh:=⟨[zqI,zqP,zqP],[zqB],Zjk f⟩
theorem ZKB {a}:ZQ (zqC [(166,Zu1 a)] 24) f165 (zqs (.seq (.order (zqk [17,1,3,5,7,9,11,13,15,19,21,23,25,27,29,31,33,34,36,38] .done)) .leaf)) (ZDo (Zcl a)):=zqY
theorem ZMO:zqO 165 (ZDo XF):=zqF ZKB func165 (zq1 ZMP)
abbrev ZDn (f:ZAm):Zh:=⟨[zqP,zqT,.clo 165 [.P,.P]],[zqI,zqB],Zp0 f⟩
theorem ZKA {b a}:ZQ (zqC [(27,ZCr b),(165,ZDo a)] 34) f158 (zqs (.seq (.seq (.order (zqk [1,3,5,15,17,19,21,23,31,7,9,11,13,25,26,28] .done)) (zql [25] [zqI] [(6,7),(9,9),(26,33)])) .leaf)) (ZDn (XT b a)):=zqY
theorem ZMN:zqO 158 (ZDn XS):=zqF ZKA func158 (zq2 ZFz ZMO)
theorem ZKz {g a b c d e f}:ZQ (zqC [(30,ZHO g),(161,Zm3 a),(162,Zkl b),(163,Zkl c),(164,Zkl d),(32,ZlI e),(158,ZDn f)] 96) f101 (zqs (zqs (zqs (zqs (zqs (zqs (zqs (.cut [13] [.one .P] [(69,90)] (.order (zqk [1,5,9,39,41,3,11,13,15,17,19,21,23,25,27,29,31,33,35,37] (.fork 3 (zqk [43,44,46] .done) 22 (zqk [6,42,46] .done)))) .leaf)))))))) (Zp2 (Zdw g a b c d e f)):=zqY
theorem ZMM:zqO 101 (Zp2 Zab):=zqF ZKz func101 (zq7 ZOx Zzg ZM6 ZM5 ZM4 Zzf ZMN)
abbrev Zov (f:Zox):Zh:=⟨[zqP,zqI,zqS],[zqI],Zjk f⟩
theorem ZKy:zqR [] 28 f206 (Zov Zhn):=zqY
theorem ZML:zqO 206 (Zov ZeO):=zqF ZKy func206
theorem ZKx:zqR [] 22 f247 (ZoS ZdE):=zqY
theorem ZF6:zqO 247 (ZoS Zaf):=zqF ZKx func247
abbrev ZDm (f:ZAl):Zh:=⟨[zqS],[zqU],Zdn f⟩
theorem ZKw:ZQ (zqC [] 19) f276 (zqs (zqs (.seq (zqs (zql [3,7] [zqU,zqI] [(4,4),(8,17)])) .leaf))) (ZDm ZiK):=zqY
theorem ZMK:zqO 276 (ZDm ZgI):=zqF ZKw func276
abbrev ZDl (f:ZgW):Zh:=⟨[zqU],[zqU],Zdn f⟩
theorem ZKv:zqR [] 17 f275 (ZDl ZkR):=zqY
theorem ZMJ:zqO 275 (ZDl Ziy):=zqF ZKv func275
abbrev Zzz (f:ZwN):Zh:=⟨[ZFy,zqI,zqS],[zqI],Zjk f⟩
theorem ZKu {a b}:zqR [(276,ZDm a),(275,ZDl b)] 23 f252 (Zzz (Zc1 a b)):=zqY
theorem ZF5:zqO 252 (Zzz Xp):=zqF ZKu func252 (zq2 ZMK ZMJ)
abbrev Zzy (f:ZwM):Zh:=⟨[ZFy,zqI],[zqI],XX f⟩
theorem ZKt:zqR [] 14 f248 (Zzy ZdD):=zqY
theorem ZF4:zqO 248 (Zzy Zae):=zqF ZKt func248
abbrev ZDk (f:ZAk):Zh:=⟨[.agg [.I .i64,.I .i64,.M],zqP],[zqI],XX f⟩
theorem ZKs:zqR [] 8 f293 (ZDk ZaQ):=zqY
theorem ZMI:zqO 293 (ZDk ZaO):=zqF ZKs func293
theorem ZKr:zqR [] 12 f251 (Zm4 ZiJ):=zqY
theorem ZF3:zqO 251 (Zm4 ZbN):=zqF ZKr func251
abbrev ZDj (f:ZAj):Zh:=⟨[zqP,zqI,.clo 293 [.P]],[zqI],Zjk f⟩
theorem ZKq {a b c}:ZQ (zqC [(248,Zzy a),(293,ZDk b),(251,Zm4 c)] 41) f292 (zqs (zqs (.seq (zqs (.block (.loop [7,15] [zqI,zqI] [(9,9),(16,39)] (zqs (zqs (.seq (.block (zqs (.seq (.order (zqk [1,5,7,9,13,17,19,21,23,3,11,25,14,26,28] .done)) .leaf))) .leaf)))))) .leaf))) (ZDj (YJ a b c)):=zqY
theorem ZMH:zqO 292 (ZDj Z2):=zqF ZKq func292 (zq3 ZF4 ZMI ZF3)
theorem ZKp {a b}:ZQ (zqC [(252,Zzz a),(292,ZDj b)] 35) f277 (zqs (zqs (.seq (zqs (zql [7,15] [zqI,zqI] [(8,9),(16,33)])) .leaf))) (Zov (ZbA a b)):=zqY
theorem ZMG:zqO 277 (Zov X2):=zqF ZKp func277 (zq2 ZF5 ZMH)
abbrev ZDi (f:ZAi):Zh:=⟨[zqP,zqI,zqS],[zqI,zqI],Zp0 f⟩
theorem ZKo {a b}:zqR [(247,ZoS a),(277,Zov b)] 19 f253 (ZDi (ZbB a b)):=zqY
theorem ZME:zqO 253 (ZDi X3):=zqF ZKo func253 (zq2 ZF6 ZMG)
theorem ZKn {a b}:zqR [(69,Zm3 a),(253,ZDi b)] 42 f207 (Zov (ZfV a b)):=zqY
theorem ZF2:zqO 207 (Zov Zcc):=zqF ZKn func207 (zq2 ZCp ZME)
abbrev ZDh (f:ZAh):Zh:=⟨[.agg [.S,.I .i64],zqP],[zqB],XX f⟩
theorem ZKm:zqR [] 8 f254 (ZDh Zfh):=zqY
theorem ZMD:zqO 254 (ZDh ZcG):=zqF ZKm func254
abbrev ZDg (f:Zkm):Zh:=⟨[zqL,.clo 254 [.P]],[zqI],XX f⟩
theorem ZKl {a}:ZQ (zqC [(254,ZDh a)] 19) f200 (zqs (.seq (zqs (zql [8] [zqI] [(4,5),(9,18)])) .leaf)) (ZDg (Yf a)):=zqY
theorem ZMC:zqO 200 (ZDg Z9):=zqF ZKl func200 (zq1 ZMD)
abbrev ZDf (f:ZAg):Zh:=⟨[ZFx,zqS],[zqI],XX f⟩
theorem ZKk {a}:zqR [(200,ZDg a)] 23 f208 (ZDf (Zgx a)):=zqY
theorem ZMB:zqO 208 (ZDf Zd1):=zqF ZKk func208 (zq1 ZMC)
abbrev ZsJ (f:Zrg):Zh:=⟨[zqP,zqI,zqS,zqI],[zqB,zqI],ZFp f⟩
theorem ZKj {a b c}:ZQ (zqC [(206,Zov a),(207,Zov b),(208,ZDf c)] 41) f170 (zqs (.cut [] [] [(8,9),(11,20)] .leaf (zqs (.seq (.order (zqk [1,3,5,9,11,13,17,21,15,6,18,22,24,26,28] .done)) .leaf)))) (ZsJ (Zce a b c)):=zqY
theorem ZF1:zqO 170 (ZsJ Zaq):=zqF ZKj func170 (zq3 ZML ZF2 ZMB)
theorem ZKi {a}:ZQ (zqC [(170,ZsJ a)] 77) f167 (zqs (.cut [4,5] [.one .P,.one .P] [(9,30)] (.order (zqk [17,39,1,3,5,7,9,11,13,15,19,21,23,25,27,29,31,33,35,37,41,43] (.fork 22 (zqk [46,48,50] .done) 23 (zqk [44,48,50] .done)))) (zqs (.seq (.order (zqk [11,1,3,5,7,9,13,15,17,18,20] .done)) (.seq (.order (zqk [11,1,3,5,7,9,12,14,16,18,20] .done)) (.seq (.order (zqk [1,3,5,7,9,11,13,15,16,18,20,23,24,26,29,31,32,34] .done)) .leaf)))))) (ZuS (Zec a)):=zqY
theorem ZMA:zqO 167 (ZuS XK):=zqF ZKi func167 (zq1 ZF1)
abbrev ZDe (f:Zwi):Zh:=⟨[zqP,zqT,.clo 167 [.P]],[zqI,zqB],Zp0 f⟩
theorem ZKh {b a}:ZQ (zqC [(27,ZCr b),(167,ZuS a)] 34) f158 (zqs (.seq (.seq (.order (zqk [1,3,5,15,17,19,21,23,31,7,9,11,13,25,26,28] .done)) (zql [25] [zqI] [(6,7),(9,9),(26,33)])) .leaf)) (ZDe (Zag b a)):=zqY
theorem ZMz:zqO 158 (ZDe Zac):=zqF ZKh func158 (zq2 ZFz ZMA)
theorem ZKg {a}:zqR [(158,ZDe a)] 9 f102 (Zp2 (ZfA a)):=zqY
theorem ZMy:zqO 102 (Zp2 Zbt):=zqF ZKg func102 (zq1 ZMz)
abbrev ZDd (f:Zu6):Zh:=⟨[zqL,Zwh],[.clo 255 [.P,.P]],XX f⟩
theorem ZKf:zqR [] 6 f209 (ZDd ZiR):=zqY
theorem ZMx:zqO 209 (ZDd ZgK):=zqF ZKf func209
abbrev ZDc (f:ZAf):Zh:=⟨[Zy3,zqP,zqP,zqP],[zqB],ZpZ f⟩
theorem ZKe:zqR [] 28 f278 (ZDc Zfb):=zqY
theorem ZMw:zqO 278 (ZDc ZcD):=zqF ZKe func278
abbrev ZDb (f:ZAe):Zh:=⟨[zqL,.clo 278 [.P,.P,.P]],[zqI],XX f⟩
theorem ZKd {a}:ZQ (zqC [(278,ZDc a)] 19) f294 (zqs (.seq (zqs (zql [8] [zqI] [(4,5),(9,18)])) .leaf)) (ZDb (Yg a)):=zqY
theorem ZMv:zqO 294 (ZDb Ya):=zqF ZKd func294 (zq1 ZMw)
abbrev ZDa (f:ZAd):Zh:=⟨[zqL,.clo 278 [.P,.P,.P]],[zqB],XX f⟩
theorem ZKc {a}:zqR [(294,ZDb a)] 9 f279 (ZDa (ZV a)):=zqY
theorem ZMu:zqO 279 (ZDa ZF):=zqF ZKc func279 (zq1 ZMv)
abbrev Zzx (f:ZwL):Zh:=⟨[zqL,zqI,zqS],[zqB],Zjk f⟩
theorem ZKb {a}:zqR [(279,ZDa a)] 32 f256 (Zzx (Zgt a)):=zqY
theorem ZMt:zqO 256 (Zzx X7):=zqF ZKb func256 (zq1 ZMu)
abbrev ZGh:List VT:=[.yl,.one (.P),.one (.P)]
abbrev ZGf:List VT:=[]
abbrev ZGd (f:ZkB):ZcK:=⟨[.one (.P),.one (.P)],λY l t K h=>f Y l t.1 t.2.1 K h⟩
noncomputable def ZNH (Y:Yld):Cfg:=Zkq Tryz.prog [(256,(Zzx X7))] 33 [] [] [] Y
theorem ZKa (a:ZwL) (Y:Yld) (t:Xl ZGh) (K:Xl ZGf->HP) (b:Value->HP) (h:Zf):ZFj (Zkq Tryz.prog [(256,Zzx a)] 33 [] [] [] Y) f255 (zqs (zql [8] [zqI] [(4,5),(9,32)])) (Xl.evs ZGh t) ZGf K b h=Zhk a Y t.1 t.2.1 t.2.2.1 (λh=>K (()) h) h:=by kernel_rfl
theorem ZMs:Zsn Tryz.prog 255 (ZGd ZeJ):=λY a=>ZD2 (c:=ZNH Y) func255 (by kernel_rfl) (by kernel_rfl) rfl (Awt rfl) (ZhI _ (.cons ZMt .nil) .nil .nil .nil a) Zcv (ZKa X7 Y)
abbrev Zzw (f:ZsQ):Zh:=⟨[Zy3,Zwh],[.agg [.S,.S,.S,.B]],XX f⟩
theorem ZJ9:zqR [] 36 f210 (Zzw ZhZ):=zqY
theorem ZF0:zqO 210 (Zzw Zcb):=zqF ZJ9 func210
abbrev ZC9 (f:ZAc):Zh:=⟨[zqL,Zwh],[zqL],XX f⟩
noncomputable abbrev ZNG (a:Zu6) (b:ZsQ) (c:ZkB):Cfg:=Zkq Tryz.prog [(209,ZDd a),(210,Zzw b)] 23 [] [] [(255,ZGd c)] Zl4
theorem ZJ8 (a:Zu6) (b:ZsQ) (c:ZkB):ZQ (ZNG a b c) f171 (zqs (zqs (.seq (zqs (.block (.range [zqI,Zy3] .leaf .leaf))) .leaf))) (ZC9 (ZiS a b c)):=λ_ _ _ _=>by kernel_rfl
theorem ZMr:ZC Tryz.prog 171 (ZC9 ZgL):=okF (ZJ8 ZgK Zcb ZeJ) func171 Zcv (ZhI _ (.cons ZMx (.cons ZF0 .nil)) .nil .nil (.cons ZMs .nil) (Zja _))
abbrev ZC8 (f:ZAb):Zh:=⟨[zqS],[ZHJ],Zdn f⟩
theorem ZJ7:zqR [] 5 f31 (ZC8 Zhc):=zqY
theorem ZMq:zqO 31 (ZC8 ZeD):=zqF ZJ7 func31
abbrev ZC7 (f:ZAa):Zh:=⟨[zqP,Zy3],[zqP],XX f⟩
theorem ZJ6 {a b c}:ZQ (zqC [(210,Zzw a),(31,ZC8 b),(30,ZHO c)] 43) f211 (zqs (.cut [5] [.one .P] [(7,12)] (.order (zqk [3,5,7,1,9] (.fork 5 (zqk [12,14] .done) 6 (zqk [10,14] .done)))) (zqs (.cut [] [] [(16,33)] .leaf (.seq (.order (zqk [1,3,5,7,9,11,13,15,16,18] .done)) .leaf))))) (ZC7 (Zfy a b c)):=zqY
theorem ZMp:zqO 211 (ZC7 Zdc):=zqF ZJ6 func211 (zq3 ZF0 ZMq ZOx)
theorem ZJ5 {a}:zqR [(202,Zkl a)] 17 f212 (Zkl (Zd3 a)):=zqY
theorem ZMo:zqO 212 (Zkl ZaT):=zqF ZJ5 func212 (zq1 ZF8)
theorem ZJ4:zqR [] 9 f76 (ZuR Ze0):=zqY
theorem ZFZ:zqO 76 (ZuR Za1):=zqF ZJ4 func76
theorem ZJ3:zqR [] 9 f280 (Zkx ZjI):=zqY
theorem ZMn:zqO 280 (Zkx Zhy):=zqF ZJ3 func280
abbrev ZhK (f:Zhs):Zh:=⟨[zqP,zqI,zqL],[zqI],Zjk f⟩
theorem ZJ2 {a}:ZQ (zqC [(280,Zkx a)] 33) f257 (zqs (zqs (zqs (.seq (zqs (zql [19] [zqI] [(6,6),(8,8),(20,26)])) .leaf)))) (ZhK (ZeW a)):=zqY
theorem ZFY:zqO 257 (ZhK Za0):=zqF ZJ2 func257 (zq1 ZMn)
theorem ZJ1:zqR [] 10 f238 (ZsK Zke):=zqY
theorem ZFX:zqO 238 (ZsK Zft):=zqF ZJ1 func238
abbrev Zzv (f:ZwK):Zh:=⟨[zqI,zqI],[ZCg],XX f⟩
theorem ZJ0 {a b}:zqR [(238,ZsK a),(237,ZzA b)] 30 f184 (Zzv (ZiU a b)):=zqY
theorem ZFW:zqO 184 (Zzv ZeM):=zqF ZJ0 func184 (zq2 ZFX ZF7)
abbrev Zzu (f:ZsP):Zh:=⟨[ZCg],[zqI,zqB],ZsB f⟩
theorem ZJZ:zqR [] 36 f185 (Zzu ZfE):=zqY
theorem ZFV:zqO 185 (Zzu YW):=zqF ZJZ func185
abbrev Zzt (f:ZwJ):Zh:=⟨[zqB],[zqI],Zdn f⟩
theorem ZJY:zqR [] 4 f186 (Zzt Zkf):=zqY
theorem ZFU:zqO 186 (Zzt Zes):=zqF ZJY func186
theorem ZJX {a b c}:zqR [(184,Zzv a),(185,Zzu b),(186,Zzt c)] 21 f126 (Zm4 (ZiV a b c)):=zqY
theorem ZFT:zqO 126 (Zm4 ZcT):=zqF ZJX func126 (zq3 ZFW ZFV ZFU)
abbrev Zzs (f:ZwI):Zh:=⟨[zqI,zqB],[zqI,zqI],Zp1 f⟩
theorem ZJW:zqR [] 9 f296 (Zzs Zmh):=zqY
theorem ZFS:zqO 296 (Zzs Zid):=zqF ZJW func296
abbrev ZsI (f:Zkz):Zh:=⟨[zqI,zqI],[zqI,zqI],Zp1 f⟩
theorem ZJV {a}:zqR [(296,Zzs a)] 26 f295 (ZsI (Zlt a)):=zqY
theorem ZMm:zqO 295 (ZsI Zf7):=zqF ZJV func295 (zq1 ZFS)
abbrev Zwz (f:zT7):Zh:=⟨[zqL],[zqI],Zdn f⟩
theorem ZJU {a b}:ZQ (zqC [(295,ZsI a),(186,Zzt b)] 28) f283 (zqs (zqs (.seq (zqs (zql [3,10] [zqI,zqI] [(5,7),(11,26)])) .leaf))) (Zwz (Zmi a b)):=zqY
theorem ZCo:zqO 283 (Zwz Zdf):=zqF ZJU func283 (zq2 ZMm ZFU)
abbrev Zm2 (f:ZmF):Zh:=⟨[zqP,zqI,zqI],[zqI,zqI],Zp0 f⟩
theorem ZJT {a b}:ZQ (zqC [(126,Zm4 a),(283,Zwz b)] 88) f262 (zqs (zqs (zqs (zqs (.cut [6] [zqI] [(8,8),(28,82)] (.block (zqs (.cond .leaf (zqs (.cond (.seq (.order (zqk [1,3,5,7,11,13,15,17,9,19,20,22,24,26] .done)) (.order (zqk [1,3,9,11,13,15,17,4,6,18,20] .done))) .leaf))))) .leaf))))) (Zm2 (ZcH a b)):=zqY
theorem ZMl:zqO 262 (Zm2 XZ):=zqF ZJT func262 (zq2 ZFT ZCo)
abbrev ZuZ (f:ZgW):Zh:=⟨[zqU],[zqI],Zdn f⟩
theorem ZJS:ZQ (zqC [] 25) f236 (zqs (.cut [0,2] [zqU,zqI] [(3,6)] .leaf (.cut [0,2] [zqU,zqI] [(7,12)] .leaf (.cut [0,2] [zqU,zqI] [(13,18)] .leaf .leaf)))) (ZuZ Zdh):=zqY
theorem ZMk:zqO 236 (ZuZ Zbx):=zqF ZJS func236
theorem ZJR {a}:zqR [(236,ZuZ a)] 6 f302 (ZuZ (ZaR a)):=zqY
theorem ZMj:zqO 302 (ZuZ XE):=zqF ZJR func302 (zq1 ZMk)
abbrev ZGc (f:ZwH):Zh:=⟨[zqU,zqU,zqU],[zqU,zqU],Zp0 f⟩
noncomputable abbrev ZNF (a:ZgW):Cfg:=Zkq Tryz.prog [(302,ZuZ a)] 135 [] [] [] Zl4
theorem ZJQ (a:ZgW):ZQ (ZNF a) f300 (zqs (.cut [] [] [(19,21)] .leaf (.cut [] [] [(22,25)] .leaf (zqs (zqs (zqs (zqs (zqs (zqs (zqs (zqs (zqs (zqs (zqs (.cut [15] [zqU] [(16,16),(67,85)] (.block (.loop [15,16] [zqU,zqU] [(67,85)] (.cut [] [] [(67,78)] .leaf .leaf))) (zqs (zqs (zqs (.cut [18] [zqU] [(16,16),(102,120)] (.block (.loop [16,18] [zqU,zqU] [(102,120)] (.cut [] [] [(102,113)] .leaf .leaf))) .leaf))))))))))))))))))) ⟨[zqU,zqU,zqU],[zqU,zqU],λt K b h=>(Zdi a) t.1 t.2.1 t.2.2.1 (λr0 c h=>K (r0,c,()) h) b h⟩:=λ_ _ _ _=>by kernel_rfl
theorem ZMi:ZC Tryz.prog 300 (ZGc Zas):=ZAN (okF (ZJQ XE) func300 Zcv (ZhI _ (.cons ZMj .nil) .nil .nil .nil (Zja _)))
abbrev ZC6 (f:Zz9):Zh:=⟨[ZCg,zqI,zqB],[zqI,zqB],Zp0 f⟩
noncomputable abbrev ZNE (a:ZgW) (b:ZwH) (c:ZsP):Cfg:=Zkq Tryz.prog [(238,ZsK a),(300,ZGc b),(185,Zzu c)] 74 [] [] [] Zl4 [] [298]
theorem ZJP (a:ZgW) (b:ZwH) (c:ZsP):ZQ (ZNE a b c) f297 (zqs (zqs (.seq (.order (zqk [1,3,7,11,13,17,5,9,15,18,20,23,25,26,28] .done)) (.seq (.order (zqk [1,3,7,11,15,19,21,5,9,13,17,23,25,26,28] .done)) (.cut [] [] [(12,13),(42,64)] .leaf (.cut [] [] [(65,69)] .leaf .leaf)))))) (ZC6 (ZiT a b c)):=λ_ _ _ _=>by kernel_rfl
theorem ZMh:ZC Tryz.prog 297 (ZC6 Zde):=okF (ZJP Zft Zas YW) func297 Zcv (ZhI _ (.cons ZFX (.cons ZMi (.cons ZFV .nil))) .nil .nil .nil (Zja _) (.cons Zym .nil))
abbrev Zzr (f:ZwG):Zh:=⟨[zqI,zqI,zqI,zqB],[zqI,zqI],ZFp f⟩
theorem ZJO {a b c}:zqR [(184,Zzv a),(297,ZC6 b),(296,Zzs c)] 23 f285 (Zzr (ZhG a b c)):=zqY
theorem ZFR:zqO 285 (Zzr ZcU):=zqF ZJO func285 (zq3 ZFW ZMh ZFS)
abbrev ZC5 (f:Zz8):Zh:=⟨[.agg [.I .i64,.I .i64,.I .i64,.I .i64],zqI],[zqI],XX f⟩
theorem ZJN {a}:zqR [(285,Zzr a)] 38 f263 (ZC5 (Zea a)):=zqY
theorem ZMg:zqO 263 (ZC5 Zau):=zqF ZJN func263 (zq1 ZFR)
theorem ZJM {a b c}:ZQ (zqC [(257,ZhK a),(262,Zm2 b),(263,ZC5 c)] 43) f222 (zqs (zqs (zqs (zqs (.seq (.order (zqk [1,3,5,9,11,13,7,15,16,18,20] .done)) .leaf))))) (Zm2 (ZcI a b c)):=zqY
theorem ZCn:zqO 222 (Zm2 Xe):=zqF ZJM func222 (zq3 ZFY ZMl ZMg)
abbrev ZsH (f:Zrf):Zh:=⟨[zqP,zqI,zqI,zqI,zqI],[zqB,zqI],ZFo f⟩
theorem ZJL {a b}:zqR [(257,ZhK a),(222,Zm2 b)] 52 f214 (ZsH (ZeX a b)):=zqY
theorem ZFQ:zqO 214 (ZsH X0):=zqF ZJL func214 (zq2 ZFY ZCn)
theorem ZJK {a b}:zqR [(76,ZuR a),(214,ZsH b)] 21 f215 (ZsH (ZeZ a b)):=zqY
theorem ZMf:zqO 215 (ZsH Zcx):=zqF ZJK func215 (zq2 ZFZ ZFQ)
theorem ZJJ:zqR [] 9 f259 (ZlI Zfd):=zqY
theorem ZFP:zqO 259 (ZlI Za6):=zqF ZJJ func259
theorem ZJI {a}:zqR [(285,Zzr a)] 25 f281 (ZsI (ZbT a)):=zqY
theorem ZFO:zqO 281 (ZsI Zaj):=zqF ZJI func281 (zq1 ZFR)
theorem ZJH:zqR [] 12 f282 (Zp2 Zfc):=zqY
theorem ZFN:zqO 282 (Zp2 X4):=zqF ZJH func282
abbrev ZC4 (f:Zz7):Zh:=⟨[zqP,zqI,zqB],[],Zy9 f⟩
theorem ZJG:zqR [] 6 f261 (ZC4 ZdF):=zqY
theorem ZMe:zqO 261 (ZC4 Zdq):=zqF ZJG func261
abbrev ZC3 (f:Zp4):Zh:=⟨[.one (.P),.one (.I .i64),.one (.I .i64),.one (.I .i64),.fn 261],[.one (.I .i64),.one (.B),.one (.I .i64)],λt K _ h=>f t.1 t.2.1 t.2.2.1 t.2.2.2.1 (λr0 a b h=>K (r0,a,b,()) h) h⟩
theorem ZJF {a b c d}:ZQ (zqC [(281,ZsI a),(282,Zp2 b),(283,Zwz c),(261,ZC4 d)] 78) f258 (zqs (zqs (zqs (zqs (zqs (.cut [15] [zqI] [(16,17),(46,59)] .leaf .leaf)))))) (ZC3 (YA a b c d)):=zqY
theorem ZMd:zqO 258 (ZC3 Z4):=zqF ZJF func258 (zq4 ZFO ZFN ZCo ZMe)
abbrev ZuY (f:ZsO):Zh:=⟨[zqP,zqI,zqI],[zqI,zqB,zqI],ZCb f⟩
theorem ZJE {a b}:zqR [(259,ZlI a),(258,ZC3 b)] 18 f219 (ZuY (Zfe a b)):=zqY
theorem ZMc:zqO 219 (ZuY ZcE):=zqF ZJE func219 (zq2 ZFP ZMd)
abbrev ZC2 (f:Zz6):Zh:=⟨[zqP,zqI,zqB,zqI],[zqB],ZpZ f⟩
theorem ZJD:zqR [] 19 f218 (ZC2 Ze7):=zqY
theorem ZMb:zqO 218 (ZC2 ZcB):=zqF ZJD func218
theorem ZJC {a b}:zqR [(76,ZuR a),(222,Zm2 b)] 15 f220 (Zm2 (ZeY a b)):=zqY
theorem ZMa:zqO 220 (Zm2 Zcw):=zqF ZJC func220 (zq2 ZFZ ZCn)
theorem ZJB:zqR [] 9 f75 (ZuR Zff):=zqY
theorem ZL9:zqO 75 (ZuR ZcF):=zqF ZJB func75
abbrev Zzq (f:ZwF):Zh:=⟨[zqI],[.clo 284 [.P]],Zdn f⟩
theorem ZJA:zqR [] 4 f260 (Zzq ZgQ):=zqY
theorem ZFM:zqO 260 (Zzq ZeL):=zqF ZJA func260
abbrev ZC1 (f:Zz5):Zh:=⟨[zqP,zqI,zqB,zqP],[],ZFq f⟩
theorem ZJz:zqR [] 17 f284 (ZC1 Zhm):=zqY
theorem ZL8:zqO 284 (ZC1 Zha):=zqF ZJz func284
abbrev Zzp (f:ZwE):Zh:=⟨[zqP,zqI,zqI,zqI,.clo 284 [.P]],[zqI,zqB,zqI],ZK3 f⟩
theorem ZJy {a b c d}:ZQ (zqC [(281,ZsI a),(282,Zp2 b),(283,Zwz c),(284,ZC1 d)] 78) f258 (zqs (zqs (zqs (zqs (zqs (.cut [15] [zqI] [(16,17),(46,59)] .leaf .leaf)))))) (Zzp (Y0 a b c d)):=zqY
theorem ZFL:zqO 258 (Zzp Z3):=zqF ZJy func258 (zq4 ZFO ZFN ZCo ZL8)
abbrev Zzo (f:Zp4):Zh:=⟨[zqP,zqI,zqI,zqI],[zqI,zqB,zqI],ZK6 f⟩
theorem ZJx {a b}:zqR [(260,Zzq a),(258,Zzp b)] 21 f223 (Zzo (Zgv a b)):=zqY
theorem ZFK:zqO 223 (Zzo Zb6):=zqF ZJx func223 (zq2 ZFM ZFL)
abbrev ZC0 (f:Zz4):Zh:=⟨[Zy3,zqI,zqI,zqI],[zqB],ZpZ f⟩
theorem ZJw:zqR [] 41 f224 (ZC0 Zhl):=zqY
theorem ZL7:zqO 224 (ZC0 ZeK):=zqF ZJw func224
abbrev ZCZ (f:Zz3):Zh:=⟨[zqP,Zy3,.agg [.P,.P]],[zqB],Zjk f⟩
theorem ZJv {a b c d e f g h i j k}:ZQ (zqC [(211,ZC7 a),(161,Zm3 b),(212,Zkl c),(215,ZsH d),(219,ZuY e),(218,ZC2 f),(220,Zm2 g),(75,ZuR h),(223,Zzo i),(32,ZlI j),(224,ZC0 k)] 140) f172 (zqs (zqs (zqs (zqs (.cut [12,13] [.one .P,.one .P] [(41,50)] (.order (zqk [1,3,5,7,11,13,15,17,9,19] (.fork 10 (zqk [22,24,26] .done) 11 (zqk [20,24,26] .done)))) (.seq (zqs (.block (zqs (.cond .leaf (zqs (.cond .leaf (zqs (.cond (zqs (zqs (zqs (.seq (.order (zqk [1,3,5,9,11,13,6,14,17,19,20,22,24] .done)) .leaf)))) .leaf)))))))) (.seq (.order (zqk [3,7,1,5,11,8,12,14] .done)) .leaf))))))) (ZCZ (ZfB a b c d e f g h i j k)):=zqY
theorem ZL6:zqO 172 (ZCZ Zbu):=zqF ZJv func172 (ZQm ZMp Zzg ZMo ZMf ZMc ZMb ZMa ZL9 ZFK Zzf ZL7)
theorem ZJu {a b}:ZQ (zqC [(171,ZC9 a),(172,ZCZ b)] 66) f103 (zqs (.seq (.seq (.order (zqk [1,3,5,17,19,21,29,7,9,11,13,15,23,24,26] .done)) (.block (.loop [21] [zqI] [(2,3),(5,6),(22,65)] (zqs (zqs (.seq (.block (zqs (zqs (.cut [] [] [(36,48)] .leaf (.seq (.order (zqk [1,5,7,9,21,3,11,12,14,16,19,22,25,26,28] .done)) .leaf))))) .leaf)))))) .leaf)) (Zp2 (Ze9 a b)):=zqY
theorem ZL5:zqO 103 (Zp2 Za3):=zqF ZJu func103 (zq2 ZMr ZL6)
theorem ZJt:zqR [] 22 f64 (ZoS Zcr):=zqY
theorem ZCm:zqO 64 (ZoS Xg):=zqF ZJt func64
abbrev Zzn (f:ZwD):Zh:=⟨[zqP,zqI],[zqB],XX f⟩
theorem ZJs:zqR [] 25 f225 (Zzn ZbC):=zqY
theorem ZFJ:zqO 225 (Zzn Xq):=zqF ZJs func225
abbrev ZCY (f:Zz2):Zh:=⟨[zqP,zqI],[zqB,zqI],Zp1 f⟩
theorem ZJr {a b}:zqR [(64,ZoS a),(225,Zzn b)] 16 f176 (ZCY (Zcs a b)):=zqY
theorem ZL4:zqO 176 (ZCY ZaI):=zqF ZJr func176 (zq2 ZCm ZFJ)
theorem ZJq {a}:ZQ (zqC [(176,ZCY a)] 41) f173 (zqs (zqs (.seq (.order (zqk [11,1,3,5,7,9,12,14,16,18,20] .done)) (.seq (.order (zqk [1,3,5,6,8,10,13,14,16,19,21,22,24] .done)) .leaf)))) (ZuS (ZcY a)):=zqY
theorem ZL3:zqO 173 (ZuS Xo):=zqF ZJq func173 (zq1 ZL4)
abbrev ZCX (f:Zwi):Zh:=⟨[zqP,zqT,.clo 173 [.P]],[zqI,zqB],Zp0 f⟩
theorem ZJp {b a}:ZQ (zqC [(27,ZCr b),(173,ZuS a)] 34) f158 (zqs (.seq (.seq (.order (zqk [1,3,5,15,17,19,21,23,31,7,9,11,13,25,26,28] .done)) (zql [25] [zqI] [(6,7),(9,9),(26,33)])) .leaf)) (ZCX (XV b a)):=zqY
theorem ZL2:zqO 158 (ZCX XU):=zqF ZJp func158 (zq2 ZFz ZL3)
theorem ZJo {a}:zqR [(158,ZCX a)] 9 f104 (Zp2 (Zeg a)):=zqY
theorem ZL1:zqO 104 (Zp2 Zaw):=zqF ZJo func104 (zq1 ZL2)
abbrev ZCW (f:Zu5):Zh:=⟨[zqP],[ZCf,zqB],ZsB f⟩
noncomputable abbrev ZND (e:Zmo) (a:Zmo) (b:Zmo) (c:Zmo) (d:Zmo):Cfg:=Zkq Tryz.prog [(100,Zp2 e),(101,Zp2 a),(102,Zp2 b),(103,Zp2 c),(104,Zp2 d)] 33 [] [] [] Zl4 [(100,[]),(101,[]),(102,[]),(103,[]),(104,[])]
theorem ZJn (e:Zmo) (a:Zmo) (b:Zmo) (c:Zmo) (d:Zmo):ZQ (ZND e a b c d) f51 (zqs (zqs (.seq (zqs (zql [16] [zqI] [(3,3),(6,8),(17,31)])) .leaf))) (ZCW (Zfz e a b c d)):=λ_ _ _ _=>by kernel_rfl
theorem ZL0:ZC Tryz.prog 51 (ZCW Zbs):=okF (ZJn Za2 Zab Zbt Za3 Zaw) func51 Zcv (ZhI _ (.cons ZQq (.cons ZMM (.cons ZMy (.cons ZL5 (.cons ZL1 .nil))))) .nil .nil .nil (Zja _))
theorem ZJm:zqR [] 9 f59 (Zkx ZiH):=zqY
theorem ZCl:zqO 59 (Zkx ZbH):=zqF ZJm func59
abbrev ZuX (f:ZsN):Zh:=⟨[ZHJ,zqP],[zqB],XX f⟩
theorem ZJl {a}:ZQ (zqC [(32,ZlI a)] 13) f177 (zqs (.seq (.order (zqk [1,3,5,7,9,11,12,14,16,18] .done)) .leaf)) (ZuX (Ze3 a)):=zqY
theorem ZLZ:zqO 177 (ZuX Zcy):=zqF ZJl func177 (zq1 Zzf)
abbrev ZCV (f:Zkm):Zh:=⟨[zqL,.clo 177 [.P]],[zqI],XX f⟩
theorem ZJk {a}:ZQ (zqC [(177,ZuX a)] 19) f115 (zqs (.seq (zqs (zql [8] [zqI] [(4,5),(9,18)])) .leaf)) (ZCV (Yc a)):=zqY
theorem ZLY:zqO 115 (ZCV Z6):=zqF ZJk func115 (zq1 ZLZ)
abbrev Zzm (f:Zp3):Zh:=⟨[zqL,.clo 177 [.P]],[zqB],XX f⟩
theorem ZJj {a}:zqR [(115,ZCV a)] 9 f60 (Zzm (ZS a)):=zqY
theorem ZFI:zqO 60 (Zzm Zs):=zqF ZJj func60 (zq1 ZLY)
theorem ZJi:zqR [] 9 f117 (Zkx ZiI):=zqY
theorem ZFH:zqO 117 (Zkx ZeC):=zqF ZJi func117
theorem ZJh:zqR [] 9 f181 (ZlI Zbp):=zqY
theorem ZLX:zqO 181 (ZlI Zbh):=zqF ZJh func181
theorem ZJg {a b}:ZQ (zqC [(117,Zkx a),(181,ZlI b)] 34) f116 (zqs (zqs (zqs (.seq (zqs (zql [16] [zqI] [(6,6),(8,8),(17,26)])) .leaf)))) (ZhK (Zd2 a b)):=zqY
theorem ZCk:zqO 116 (ZhK XC):=zqF ZJg func116 (zq2 ZFH ZLX)
abbrev Zzl (f:ZwC):Zh:=⟨[ZCe],[zqB],Zdn f⟩
theorem ZJf:ZQ (zqC [] 52) f121 (zqs (.seq (zqs (zql [19] [zqI] [(2,2),(4,4),(20,29)])) .leaf)) (Zzl ZhO):=zqY
theorem ZFG:zqO 121 (Zzl ZdH):=zqF ZJf func121
abbrev ZCU (f:Zz1):Zh:=⟨[zqL],[ZCe],Zdn f⟩
theorem ZJe {a b}:ZQ (zqC [(121,Zzl a),(125,ZzB b)] 19) f123 (zqs (zqs (.seq (zqs (zql [8] [zqI] [(5,5),(9,17)])) .leaf))) (ZCU (ZiG a b)):=zqY
theorem ZLW:zqO 123 (ZCU ZgH):=zqF ZJe func123 (zq2 ZFG ZF9)
theorem ZJd {d a b c}:ZQ (zqC [(120,ZoS d),(121,Zzl a),(122,ZoS b),(123,ZCU c)] 77) f68 (zqs (zqs (.seq (zqs (zql [21] [zqI] [(6,6),(9,9),(22,28)])) (zqs (zqs (.cut [] [] [(11,11),(36,54)] (zqs (zqs (.cond (.order (zqk [1,3,5,9,7,11,12] .done)) .leaf))) (.seq (zqs (.block (.loop [] [] [(12,12),(60,76)] (.cut [61] [.one .B] [(60,60)] .leaf .leaf)))) .leaf))))))) (ZhK (Zd9 d a b c)):=zqY
theorem Zze:zqO 68 (ZhK Xi):=zqF ZJd func68 (zq4 ZK9 ZFG ZCq ZLW)
abbrev Zwy (f:Zu4):Zh:=⟨[zqP,zqI,zqL],[],Zy9 f⟩
theorem ZJc {a}:zqR [(68,ZhK a)] 21 f118 (Zwy (Zgk a)):=zqY
theorem ZCj:zqO 118 (Zwy ZaS):=zqF ZJc func118 (zq1 Zze)
theorem ZJb {a b}:ZQ (zqC [(116,ZhK a),(118,Zwy b)] 34) f107 (zqs (zqs (zqs (.seq (zqs (zql [8,20] [.one .L,zqI] [(10,10),(21,29)])) .leaf)))) (ZhK (Zfx a b)):=zqY
theorem ZLV:zqO 107 (ZhK Zdb):=zqF ZJb func107 (zq2 ZCk ZCj)
abbrev ZuW (f:ZsM):Zh:=⟨[zqP,zqP],[zqI],XX f⟩
theorem ZJa {a}:zqR [(107,ZhK a)] 11 f106 (ZuW (Zeb a)):=zqY
theorem ZLU:zqO 106 (ZuW ZbI):=zqF ZJa func106 (zq1 ZLV)
abbrev ZCT (f:Zre):Zh:=⟨[zqP,Zwh,zqB,.clo 106 [.P]],[zqI],ZpZ f⟩
theorem ZI9 {d a e b f c}:ZQ (zqC [(58,ZCs d),(59,Zkx a),(156,Zww e),(60,Zzm b),(157,ZGb f),(106,ZuW c)] 93) f105 (zqs (zqs (zqs (.seq (.block (zqs (.cond .leaf (zqs (.cond .leaf (zqs (.cond .leaf (.seq (.order (zqk [7,1,3,5,11,13,15,17,19,21,23,8,24,26] .done)) .leaf)))))))) (.cut [] [] [(8,8),(61,66)] .leaf (.seq (zqs (.block (.loop [69] [zqI] [(12,12),(70,87)] (zqs (zqs (.seq (.block (zqs (.seq (.order (zqk [1,3,5,7,8] .done)) (.order (zqk [1,3,5,7,9,11,13,14,16] .done))))) .leaf)))))) .leaf)))))) (ZCT (ZaB d a e b f c)):=zqY
theorem ZLT:zqO 105 (ZCT Zav):=zqF ZI9 func105 (zq6 ZFA ZCl ZLb ZFI ZLa ZLU)
theorem ZI8 {a}:zqR [(105,ZCT a)] 9 f52 (Zzh (Zfv a)):=zqY
theorem ZLS:zqO 52 (Zzh Zbr):=zqF ZI8 func52 (zq1 ZLT)
abbrev ZsG (f:Zrd):Zh:=⟨[zqP,zqS],[zqI,zqB],Zp1 f⟩
theorem ZI7:zqR [] 27 f270 (ZsG ZfU):=zqY
theorem ZFF:zqO 270 (ZsG Zbe):=zqF ZI7 func270
theorem ZI6:ZQ (zqC [] 22) f239 (.order (zqk [1,3,5,9,11,13,17,19,21,25,27,29,7,15,23,31,32,34,36,38,40,42] .done)) (Zzi Zh0):=zqY
theorem ZCi:zqO 239 (Zzi Zbd):=zqF ZI6 func239
abbrev ZsF (f:Zow):Zh:=⟨[zqP,zqP],[],ZCc f⟩
theorem ZI5:ZQ (zqC [] 30) f240 (.seq (.order (zqk [1,3,5,7,9,11,15,17,19,13,20,22,24,26,28,30] .done)) .leaf) (ZsF Zfg):=zqY
theorem ZFE:zqO 240 (ZsF Zaz):=zqF ZI5 func240
theorem ZI4 {a b c}:zqR [(270,ZsG a),(239,Zzi b),(240,ZsF c)] 29 f246 (ZsG (ZgR a b c)):=zqY
theorem ZLR:zqO 246 (ZsG ZeN):=zqF ZI4 func246 (zq3 ZFF ZCi ZFE)
theorem ZI3 {a b}:ZQ (zqC [(270,ZsG a),(239,Zzi b)] 39) f241 (zqs (zqs (.seq (zqs (zql [5,12] [zqI,zqI] [(7,9),(13,37)])) .leaf))) (Zww (Zh1 a b)):=zqY
theorem ZLQ:zqO 241 (Zww ZfO):=zqF ZI3 func241 (zq2 ZFF ZCi)
abbrev ZCS (f:Zz0):Zh:=⟨[zqP,zqS,zqI],[zqS,zqB,zqI],ZCb f⟩
theorem ZI2 {a b c}:ZQ (zqC [(239,Zzi a),(240,ZsF b),(241,Zww c)] 71) f189 (zqs (zqs (zqs (.cut [6,7] [.one .S,.one .B] [(31,54)] (.seq (.order (zqk [1,3,5,11,13,15,7,17,8,18,20] .done)) .leaf) .leaf)))) (ZCS (ZiW a b c)):=zqY
theorem ZLP:zqO 189 (ZCS ZgM):=zqF ZI2 func189 (zq3 ZCi ZFE ZLQ)
abbrev ZCR (f:ZzZ):Zh:=⟨[zqP,zqI,zqS],[],Zy9 f⟩
theorem ZI1 {a e v57 b c d}:ZQ (zqC [(246,ZsG a),(96,ZBt e),(119,Zwx v57),(207,Zov b),(68,ZhK c),(189,ZCS d)] 63) f204 (zqs (zqs (zqs (.cut [] [] [(10,12),(41,56)] .leaf .leaf)))) (ZCR (ZfW a e v57 b c d)):=zqY
theorem ZLO:zqO 204 (ZCR ZdR):=zqF ZI1 func204 (zq6 ZLR ZOy ZLd ZF2 Zze ZLP)
abbrev Zzk (f:ZwB):Zh:=⟨[.agg [.I .i64,.I .i64,.M],zqP,zqP],[zqB],Zjk f⟩
theorem ZI0:zqR [] 15 f250 (Zzk Zc2):=zqY
theorem ZFD:zqO 250 (Zzk Y2):=zqF ZI0 func250
abbrev ZCQ (f:ZzY):Zh:=⟨[zqL,.clo 250 [.P,.P]],[zqI],XX f⟩
theorem ZIZ {a}:ZQ (zqC [(250,Zzk a)] 19) f274 (zqs (.seq (zqs (zql [8] [zqI] [(4,5),(9,18)])) .leaf)) (ZCQ (ZJ a)):=zqY
theorem ZLN:zqO 274 (ZCQ Zz):=zqF ZIZ func274 (zq1 ZFD)
abbrev ZCP (f:ZzX):Zh:=⟨[zqL,.clo 250 [.P,.P]],[zqL],XX f⟩
theorem ZIY {a b}:ZQ (zqC [(274,ZCQ a),(250,Zzk b)] 42) f249 (zqs (zqs (zqs (.seq (zqs (zql [5,6] [zqI,zqI] [(7,7),(16,35)])) .leaf)))) (ZCP (ZH a b)):=zqY
theorem ZLM:zqO 249 (ZCP Zy):=zqF ZIY func249 (zq2 ZLN ZFD)
abbrev ZCO (f:ZzW):Zh:=⟨[zqP,zqI,zqS,zqL],[zqI],ZpZ f⟩
theorem ZIX {a b c d e}:ZQ (zqC [(247,ZoS a),(248,Zzy b),(249,ZCP c),(251,Zm4 d),(252,Zzz e)] 154) f205 (zqs (zqs (zqs (.seq (zqs (zql [31] [zqI] [(8,8),(11,11),(32,41)])) (zqs (zqs (zqs (.seq (.order (zqk [11,1,3,4,6,9,12,14,16,18] .done)) (.cut [] [] [(13,13),(64,95)] (zqs (zqs (.cond (.order (zqk [1,3,5,7,9,11,12,14,16,18,20,22,24] .done)) .leaf))) (zqs (.seq (zqs (.block (.loop [109] [zqI] [(16,18),(110,153)] (zqs (zqs (.seq (.block (zqs (zqs (zqs (.block (.loop [127] [zqI] [(17,18),(128,152)] (zqs (zqs (.seq (.block (zqs (zqs (.order (zqk [1,3,5,11,13,15,23,7,9,17,19,20,24,26] .done))))) .leaf))))))))) .leaf)))))) .leaf))))))))))) (ZCO (Zek a b c d e)):=zqY
theorem ZLL:zqO 205 (ZCO ZbO):=zqF ZIX func205 (zq5 ZF6 ZF4 ZLM ZF3 ZF5)
theorem ZIW {a b c d}:zqR [(170,ZsJ a),(204,ZCR b),(68,ZhK c),(205,ZCO d)] 53 f169 (ZsJ (ZdS a b c d)):=zqY
theorem ZLK:zqO 169 (ZsJ Zcd):=zqF ZIW func169 (zq4 ZF1 ZLO Zze ZLL)
abbrev ZuV (f:Zm6):Zh:=⟨[zqP,zqP,zqP],[],Zy9 f⟩
theorem ZIV {a}:ZQ (zqC [(169,ZsJ a)] 16) f168 (.order (zqk [1,3,5,7,9,11,13,15,16,18,20,23,24] .done)) (ZuV (ZcX a)):=zqY
theorem ZLJ:zqO 168 (ZuV Xn):=zqF ZIV func168 (zq1 ZLK)
abbrev ZuU (f:Zm5):Zh:=⟨[zqP,zqP,zqP,zqP,zqP],[],ZK5 f⟩
theorem ZIU {a}:zqR [(214,ZsH a)] 13 f213 (ZuU (Zef a)):=zqY
theorem ZLI:zqO 213 (ZuU XN):=zqF ZIU func213 (zq1 ZFQ)
theorem ZIT {a b c}:zqR [(259,ZlI a),(260,Zzq b),(258,Zzp c)] 20 f217 (ZuY (Zgu a b c)):=zqY
theorem ZLH:zqO 217 (ZuY Zd0):=zqF ZIT func217 (zq3 ZFP ZFM ZFL)
theorem ZIS {a}:zqR [(217,ZuY a)] 8 f216 (ZuV (Zee a)):=zqY
theorem ZLG:zqO 216 (ZuV XM):=zqF ZIS func216 (zq1 ZLH)
theorem ZIR {a b}:zqR [(222,Zm2 a),(223,Zzo b)] 16 f221 (ZuU (Zed a b)):=zqY
theorem ZLF:zqO 221 (ZuU XL):=zqF ZIR func221 (zq2 ZCn ZFK)
abbrev ZCN (f:ZzV):Zh:=⟨[zqP,zqI],[zqB,zqB,zqI],ZFr f⟩
theorem ZIQ {a b}:zqR [(64,ZoS a),(225,Zzn b)] 34 f175 (ZCN (ZbV a b)):=zqY
theorem ZLE:zqO 175 (ZCN Zal):=zqF ZIQ func175 (zq2 ZCm ZFJ)
theorem ZIP {a}:ZQ (zqC [(175,ZCN a)] 29) f174 (.seq (.order (zqk [1,3,5,6,8,10,13,14,16,19,21,23,24,26,28] .done)) (zqs (.cond (.order (zqk [11,1,3,5,7,9,13,14,16,18,20,22] .done)) .leaf))) (ZsF (ZbR a)):=zqY
theorem ZLD:zqO 174 (ZsF Y4):=zqF ZIP func174 (zq1 ZLE)
theorem ZIO {a b}:ZQ (zqC [(116,ZhK a),(118,Zwy b)] 51) f109 (zqs (zqs (zqs (zqs (.seq (zqs (zql [8,28] [.one .L,zqI] [(10,10),(29,37)])) .leaf))))) (ZhK (Zgl a b)):=zqY
theorem ZLC:zqO 109 (ZhK ZdX):=zqF ZIO func109 (zq2 ZCk ZCj)
theorem ZIN {a}:zqR [(109,ZhK a)] 11 f108 (ZuW (Ze4 a)):=zqY
theorem ZLB:zqO 108 (ZuW Zcz):=zqF ZIN func108 (zq1 ZLC)
abbrev ZCM (f:Zre):Zh:=⟨[zqP,Zwh,zqB,.clo 108 [.P]],[zqI],ZpZ f⟩
theorem ZIM {d a e b f c}:ZQ (zqC [(58,ZCs d),(59,Zkx a),(156,Zww e),(60,Zzm b),(157,ZGb f),(108,ZuW c)] 93) f105 (zqs (zqs (zqs (.seq (.block (zqs (.cond .leaf (zqs (.cond .leaf (zqs (.cond .leaf (.seq (.order (zqk [7,1,3,5,11,13,15,17,19,21,23,8,24,26] .done)) .leaf)))))))) (.cut [] [] [(8,8),(61,66)] .leaf (.seq (zqs (.block (.loop [69] [zqI] [(12,12),(70,87)] (zqs (zqs (.seq (.block (zqs (.seq (.order (zqk [1,3,5,7,8] .done)) (.order (zqk [1,3,5,7,9,11,13,14,16] .done))))) .leaf)))))) .leaf)))))) (ZCM (YU d a e b f c)):=zqY
theorem ZLA:zqO 105 (ZCM ZaL):=zqF ZIM func105 (zq6 ZFA ZCl ZLb ZFI ZLa ZLB)
theorem ZIL {a}:zqR [(105,ZCM a)] 9 f53 (Zzh (Zgh a)):=zqY
theorem ZLz:zqO 53 (Zzh ZbY):=zqF ZIL func53 (zq1 ZLA)
abbrev Zzj (f:ZwA):Zh:=⟨[zqP,Zwh,zqB],[zqI,ZCf,zqI],ZCb f⟩
noncomputable abbrev ZNC (i:Zsr) (a:Zu5) (b:Zsr) (c:Zm6) (d:Zm5) (e:Zm6) (f:Zm5) (g:Zow) (h:Zsr):Cfg:=Zkq Tryz.prog [(50,Zzh i),(51,ZCW a),(52,Zzh b),(168,ZuV c),(213,ZuU d),(216,ZuV e),(221,ZuU f),(174,ZsF g),(53,Zzh h)] 116 [] [] [] Zl4 [(168,[.P,.P,.P]),(213,[.P,.P,.P,.P,.P]),(216,[.P,.P,.P]),(221,[.P,.P,.P,.P,.P]),(174,[.P,.P])]
theorem ZIK (i:Zsr) (a:Zu5) (b:Zsr) (c:Zm6) (d:Zm5) (e:Zm6) (f:Zm5) (g:Zow) (h:Zsr):ZQ (ZNC i a b c d e f g h) f24 (zqs (zqs (.seq (.seq (.order (zqk [1,3,5,7,8,10] .done)) .leaf) (zqs (.seq (.order (zqk [1,3,5,9,7,10,12,14] .done)) (.seq (zqs (zqs (.cond (.seq (.order (zqk [1,3,5,7,9,11,12] .done)) (.seq (.order (zqk [3,1,4,6] .done)) .leaf)) .leaf))) (.seq (zqs (zql [60] [zqI] [(14,14),(61,66)])) (.seq (.order (zqk [1,3,5,7,9,11,12] .done)) (zqs (zqs (zqs (zqs (.seq (.order (zqk [1,3,5,7,11,15,17,19,9,13,21,22,24] .done)) (.seq (.order (zqk [1,3,5,7,13,9,10,14,16] .done)) .leaf)))))))))))))) (Zzj (ZdC i a b c d e f g h)):=λ_ _ _ _=>by kernel_rfl
theorem ZFC:ZC Tryz.prog 24 (Zzj YF):=okF (ZIK Zad Zbs Zbr Xn XN XM XL Y4 ZbY) func24 Zcv (ZhI _ (.cons ZQv (.cons ZL0 (.cons ZLS (.cons ZLJ (.cons ZLI (.cons ZLG (.cons ZLF (.cons ZLD (.cons ZLz .nil))))))))) .nil .nil .nil (Zja _))
abbrev ZCL (f:ZzU):Zh:=⟨[zqP,Zwh],[zqI,ZCf,zqI],ZFr f⟩
theorem ZIJ {a}:zqR [(24,Zzj a)] 13 f11 (ZCL (ZdB a)):=zqY
theorem ZLy:zqO 11 (ZCL Zbo):=zqF ZIJ func11 (zq1 ZFC)
theorem ZII:zqR [] 12 f57 (ZuS Zc0):=zqY
theorem ZFB:zqO 57 (ZuS Za5):=zqF ZII func57
abbrev ZCK (f:Zkm):Zh:=⟨[zqL,.clo 57 [.P]],[zqI],XX f⟩
theorem ZIH {a}:ZQ (zqC [(57,ZuS a)] 19) f110 (zqs (.seq (zqs (zql [8] [zqI] [(4,5),(9,18)])) .leaf)) (ZCK (Yy a)):=zqY
theorem ZLx:zqO 110 (ZCK Yw):=zqF ZIH func110 (zq1 ZFB)
abbrev ZCJ (f:ZzT):Zh:=⟨[zqL,.clo 57 [.P]],[zqL],XX f⟩
theorem ZIG {a b}:ZQ (zqC [(110,ZCK a),(57,ZuS b)] 42) f54 (zqs (zqs (zqs (.seq (zqs (zql [5,6] [zqI,zqI] [(7,7),(16,35)])) .leaf)))) (ZCJ (Yu a b)):=zqY
theorem ZLw:zqO 54 (ZCJ Ys):=zqF ZIG func54 (zq2 ZLx ZFB)
abbrev ZCI (f:ZzS):Zh:=⟨[zqP],[zqL],Zdn f⟩
theorem ZIF {a b c}:zqR [(56,⟨[.one (.M)],[.one (.V)],λt K _ h=>a t.1 (λr0 h=>K (r0,()) h) h⟩),(55,⟨[.one (.V)],[zqL],λt K _ h=>b t.1 (λr0 h=>K (r0,()) h) h⟩),(54,ZCJ c)] 14 f25 (ZCI (Zeh a b c)):=zqY
theorem ZLv:zqO 25 (ZCI ZbK):=zqF ZIF func25 (zq3 ZaN ZjA ZLw)
abbrev ZCH (f:ZzR):Zh:=⟨[],[zqB],ZFs f⟩
theorem ZIE {v2 c a b}:zqR [(9,zk2 v2),(10,ZBs c),(11,ZCL a),(25,ZCI b)] 75 f12 (ZCH (Zdv v2 c a b)):=zqY
theorem ZLu:zqO 12 (ZCH Zbk):=zqF ZIE func12 (zq4 zo2 ZLc ZLy ZLv)
abbrev ZCG (f:ZzQ):Zh:=⟨[Zwh],[Zwh],Zdn f⟩
theorem ZID:zqR [] 9 f33 (ZCG Zck):=zqY
theorem ZLt:zqO 33 (ZCG Xf):=zqF ZID func33
theorem ZIC {a}:ZQ (zqC [(32,ZlI a)] 13) f61 (zqs (.seq (.order (zqk [1,3,5,7,9,11,12,14,16,18] .done)) .leaf)) (ZuX (Ze5 a)):=zqY
theorem ZLs:zqO 61 (ZuX ZcA):=zqF ZIC func61 (zq1 Zzf)
abbrev ZCF (f:Zkm):Zh:=⟨[zqL,.clo 61 [.P]],[zqI],XX f⟩
theorem ZIB {a}:ZQ (zqC [(61,ZuX a)] 19) f115 (zqs (.seq (zqs (zql [8] [zqI] [(4,5),(9,18)])) .leaf)) (ZCF (Yd a)):=zqY
theorem ZLr:zqO 115 (ZCF Z7):=zqF ZIB func115 (zq1 ZLs)
abbrev ZCE (f:Zp3):Zh:=⟨[zqL,.clo 61 [.P]],[zqB],XX f⟩
theorem ZIA {a}:zqR [(115,ZCF a)] 9 f60 (ZCE (ZT a)):=zqY
theorem ZLq:zqO 60 (ZCE ZD):=zqF ZIA func60 (zq1 ZLr)
abbrev ZuT (f:ZsL):Zh:=⟨[zqP,zqI,zqI,zqB],[zqI],ZpZ f⟩
theorem ZIz {a b c}:ZQ (zqC [(116,ZhK a),(117,Zkx b),(118,Zwy c)] 52) f62 (zqs (zqs (zqs (.cut [] [] [(38,39)] .leaf .leaf)))) (ZuT (Zgm a b c)):=zqY
theorem ZLp:zqO 62 (ZuT ZdY):=zqF ZIz func62 (zq3 ZCk ZFH ZCj)
abbrev ZCD (f:ZzP):Zh:=⟨[zqP,Zwh,zqI,zqB],[zqI],ZpZ f⟩
theorem ZIy {d a b c}:ZQ (zqC [(58,ZCs d),(59,Zkx a),(60,ZCE b),(62,ZuT c)] 70) f26 (zqs (zqs (zqs (zqs (.seq (zqs (.block (.loop [48] [zqI] [(12,12),(49,64)] (zqs (zqs (.seq (.block (zqs (.order (zqk [15,19,21,1,3,5,7,9,11,17,12,22] .done)))) .leaf)))))) .leaf))))) (ZCD (Zgj d a b c)):=zqY
theorem ZLo:zqO 26 (ZCD ZdW):=zqF ZIy func26 (zq4 ZFA ZCl ZLq ZLp)
abbrev ZCC (f:ZzO):Zh:=⟨[zqL,zqI],[zqI],XX f⟩
theorem ZIx:ZQ (zqC [] 19) f71 (zqs (.seq (zqs (zql [8] [zqI] [(4,5),(9,18)])) .leaf)) (ZCC ZbS):=zqY
theorem ZLn:zqO 71 (ZCC ZbM):=zqF ZIx func71
abbrev ZCB (f:ZzN):Zh:=⟨[zqL,zqI],[zqB],XX f⟩
theorem ZIw {a}:zqR [(71,ZCC a)] 9 f29 (ZCB (ZaP a)):=zqY
theorem ZLm:zqO 29 (ZCB Y7):=zqF ZIw func29 (zq1 ZLn)
abbrev ZCA (f:ZzM):Zh:=⟨[zqP,zqI,zqB],[zqB],Zjk f⟩
theorem ZIv:zqR [] 21 f65 (ZCA ZbU):=zqY
theorem ZLl:zqO 65 (ZCA Zak):=zqF ZIv func65
abbrev ZCz (f:ZzL):Zh:=⟨[zqP,zqI],[],ZCc f⟩
theorem ZIu:zqR [] 25 f66 (ZCz Zcq):=zqY
theorem ZLk:zqO 66 (ZCz ZaH):=zqF ZIu func66
abbrev ZCy (f:ZzK):Zh:=⟨[zqP,ZCe],[zqB],XX f⟩
theorem ZIt {a}:ZQ (zqC [(126,Zm4 a)] 56) f70 (zqs (zqs (.seq (.order (zqk [1,7,9,11,13,17,3,15,19,4,20,22,24,26,28,30,32,35,36,38,41,45,43,47,48,50,52,54] .done)) .leaf))) (ZCy (Xs a)):=zqY
theorem ZLj:zqO 70 (ZCy YH):=zqF ZIt func70 (zq1 ZFT)
abbrev ZCx (f:ZzJ):Zh:=⟨[zqP,zqI,zqI,zqB,zqB],[zqI],ZK4 f⟩
theorem ZIs {a b c g d e f}:ZQ (zqC [(64,ZoS a),(65,ZCA b),(66,ZCz c),(67,Zzi g),(68,ZhK d),(69,Zm3 e),(70,ZCy f)] 102) f28 (zqs (.cut [] [] [(10,11),(16,46)] .leaf (zqs (zqs (.seq (.block (.cut [55] [.one .B] [(56,59)] .leaf (.cond .leaf (zqs (.cond .leaf (zqs (.cond (zqs (.cut [] [] [(77,78)] .leaf (.seq (.order (zqk [1,3,5,9,7,11,12,14] .done)) .leaf))) .leaf))))))) .leaf))))) (ZCx (Zct a b c g d e f)):=zqY
theorem ZLi:zqO 28 (ZCx XH):=zqF ZIs func28 (zq7 ZCm ZLl ZLk ZOz Zze ZCp ZLj)
theorem ZIr {a d b c}:ZQ (zqC [(26,ZCD a),(27,ZCr d),(29,ZCB b),(28,ZCx c)] 122) f13 (zqs (zqs (zqs (zqs (zqs (zqs (zqs (zqs (zqs (.seq (.order (zqk [1,3,5,7,11,15,17,9,13,18] .done)) (.seq (.seq (.order (zqk [1,3,5,7,11,13,21,9,15,16,18] .done)) (.block (.loop [97] [zqI] [(13,14),(98,121)] (zqs (zqs (.seq (.block (zqs (zqs (.order (zqk [1,5,7,9,11,15,3,13,17,18,20] .done))))) .leaf)))))) .leaf))))))))))) (ZuT (Zej a d b c)):=zqY
theorem ZLh:zqO 13 (ZuT ZbL):=zqF ZIr func13 (zq4 ZLo ZFz ZLm ZLi)
abbrev ZCw (f:ZzI):Zh:=⟨[zqP,zqI,zqI],[zqI],Zjk f⟩
theorem ZIq:zqR [] 35 f34 (ZCw ZcZ):=zqY
theorem ZLg:zqO 34 (ZCw Za4):=zqF ZIq func34
abbrev ZCv (f:ZzH):Zh:=⟨[zqP,zqP,.agg [.I .i64,.I .i64,.S,.S,.S,.B,.I .i64,.L,.B,.I .i64,.I .i64,.B,.L,.L,.L,.L,.L,.I .i64,.I .i64]],[zqB],Zjk f⟩
theorem ZIp {a b c e d}:ZQ (zqC [(33,ZCG a),(24,Zzj b),(13,ZuT c),(10,ZBs e),(34,ZCw d)] 95) f15 (zqs (.seq (zqs (.block (zqs (.cond (.cut [7,8,9] [zqI,.one .P,zqI] [(17,27)] (.order (zqk [1,3,9,5,11] (.fork 3 (.fork 6 (zqk [15,17,19,21,22,24,26,28] .done) 11 (zqk [12,14,17,19,21,24,26,28] .done)) 11 (zqk [6,12,14,17,19,21,24,26,28] .done)))) (.cut [10,11,12] [zqI,.one .P,zqI] [(28,38)] (.order (zqk [1,3,9,5,11] (.fork 3 (.fork 6 (zqk [15,17,19,21,22,24,26,28] .done) 11 (zqk [12,14,17,19,21,24,26,28] .done)) 11 (zqk [6,12,14,17,19,21,24,26,28] .done)))) .leaf)) (zqs (.cond (.seq (.order (zqk [1,3,7,11,17,19,23,27,5,9,13,21,25,29,14,30,32,34] .done)) .leaf) (zqs (.cond (.seq (.order (zqk [1,3,9,11,5,13,6,14,16,18] .done)) .leaf) .leaf)))))))) (.seq (.order (zqk [1,3,7,13,15,19,5,9,17,21,10,22,24,26] .done)) .leaf))) (ZCv (Zdu a b c e d)):=zqY
theorem ZLf:zqO 15 (ZCv Zbj):=zqF ZIp func15 (zq5 ZLt ZFC ZLh ZLc ZLg)
theorem ZIo {a}:zqR [(22,ZCt a)] 15 f16 (ZCt (ZdA a)):=zqY
theorem ZLe:zqO 16 (ZCt Zbn):=zqF ZIo func16 (zq1 ZOA)
theorem ZIn {v2 a d b c}:ZQ (zqC [(9,zk2 v2),(16,ZCt a),(10,ZBs d),(15,ZCv b),(12,ZCH c)] 54) f7 (zqs (zqs (zqs (zqs (.seq (zqs (zql [7] [zqI] [(2,2),(8,9),(24,52)])) .leaf))))) (ZFb (ZaC v2 a d b c)):=zqY
theorem ZgF:ZC Tryz.prog 7 (ZFb Xx):=zqF ZIn func7 (zq5 zo2 ZLe ZLc ZLf ZLu)
end
end Go.Proofs.YthbfgkphlmlihaaGreat
namespace Go.Fw
open Go Go.RowKit
theorem ZxQ {P:Program} {f:FuncId} {s:Zh} (ok:ZC P f s) (t:Xl s.args) (w:World) {args:Array Value} (a:((Xl.evs s.args t).map EV.v).toArray=args)
    (h:s.sem t (λr h'=>ZGH s.res r = .bool true/\Ext w.heap h') (λ_ _=>False) w.heap):Calls P f args w λe w'=>e = .returned (.bool true)/\Below w.heap.size w w':=by
  rw [<- a];refine (ok.calls t _ _ w h).mono ?_;rintro e w' (⟨r,rfl,hs,c,b⟩ | ⟨v,rfl,hs,d⟩)
  ·exact ⟨by rw [c],hs.2.1,hs.1,hs.2.2,b.size,b.old⟩
  ·exact d.elim
end Go.Fw
