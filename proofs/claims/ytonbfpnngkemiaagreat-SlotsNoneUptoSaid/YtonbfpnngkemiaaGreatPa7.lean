/- maps.Keys and slices.Sorted, by the shelf's contracts. -/
import Derived.Shelf.SlIterI.Nil
import Derived.Shelf.SortM.Plain
import Derived.Shelf.SortM.SortNone
import Derived.Maps.OwnSet
import Derived.Test.YtonbfpnngkemiaaGreatProg
import Derived.KernelRfl
import Derived.Test.YtonbfpnngkemiaaGreatPa6
set_option linter.unusedVariables false
set_option linter.unusedSimpArgs false
namespace Go.Proofs.YtonbfpnngkemiaaGreat
open Go Go.Fw
open Go.RowKit Go.Maps Go.Sort Go.Shelf
def Tryz.keysA_ren:Go.Shelf.Ren:=⟨fun| 7=>44| 10=>104|n=>n,fun| 23=>86| 26=>3| 3=>101| 28=>129| 0=>0| 27=>128| 33=>131| 4=>4|n=>n,fun|n=>n⟩
theorem Tryz.keysA:Go.Proofs.SlLaysZI.n7 Tryz.prog Tryz.keysA_ren:={
  mixed:=by kernel_rfl,
  f7:=⟨Tryz.f44.name,by decide,Tryz.func44.trans (congrArg some (by kernel_rfl))⟩,
  f10:=⟨Tryz.f104.name,by decide,Tryz.func104.trans (congrArg some (by kernel_rfl))⟩,
  t0:=Tryz.underlying0,
  a0:=Tryz.isAgg0,
  z0:=Tryz.sizeOf0,
  v0:=Tryz.zeroValue0,
  t4:=Tryz.underlying4,
  a4:=Tryz.isAgg4,
  z4:=Tryz.sizeOf4,
  v4:=Tryz.zeroValue4,
  t23:=Tryz.underlying86,
  a23:=Tryz.isAgg86,
  z23:=Tryz.sizeOf86,
  v23:=Tryz.zeroValue86,
  t26:=Tryz.underlying3,
  a26:=Tryz.isAgg3,
  z26:=Tryz.sizeOf3,
  v26:=Tryz.zeroValue3,
  t27:=Tryz.underlying128,
  a27:=Tryz.isAgg128,
  z27:=Tryz.sizeOf128,
  v27:=Tryz.zeroValue128,
  t28:=Tryz.underlying129,
  a28:=Tryz.isAgg129,
  z28:=Tryz.sizeOf129,
  v28:=Tryz.zeroValue129,
  t33:=Tryz.underlying131,
  a33:=Tryz.isAgg131,
  z33:=Tryz.sizeOf131,
  v33:=Tryz.zeroValue131}
def Tryz.sortedA_ren:Go.Shelf.Ren:=⟨fun| 6=>43| 8=>102| 9=>103| 11=>161| 13=>163| 12=>162| 23=>233| 24=>234| 14=>224| 15=>225| 16=>226| 17=>227| 18=>228| 19=>229| 20=>230| 21=>231| 22=>232| 25=>271| 26=>272| 27=>273| 28=>274| 29=>275| 30=>276| 31=>294|n=>n,fun| 26=>3| 28=>129| 24=>60| 0=>0| 3=>3| 37=>294| 48=>372| 50=>31| 4=>4| 40=>366| 39=>365| 45=>179| 5=>5| 9=>9| 51=>395| 55=>399| 57=>408| 58=>389| 33=>131|n=>n,fun|n=>n⟩
theorem Tryz.sortedA:Go.Proofs.SlLaysZI.n6 Tryz.prog Tryz.sortedA_ren:={
  mixed:=by kernel_rfl,
  f6:=⟨Tryz.f43.name,by decide,Tryz.func43.trans (congrArg some (by kernel_rfl))⟩,
  f8:=⟨Tryz.f102.name,by decide,Tryz.func102.trans (congrArg some (by kernel_rfl))⟩,
  f11:=⟨Tryz.f161.name,by decide,Tryz.func161.trans (congrArg some (by kernel_rfl))⟩,
  t0:=Tryz.underlying0,
  a0:=Tryz.isAgg0,
  z0:=Tryz.sizeOf0,
  v0:=Tryz.zeroValue0,
  t24:=Tryz.underlying60,
  a24:=Tryz.isAgg60,
  z24:=Tryz.sizeOf60,
  v24:=Tryz.zeroValue60,
  t26:=Tryz.underlying3,
  a26:=Tryz.isAgg3,
  z26:=Tryz.sizeOf3,
  v26:=Tryz.zeroValue3,
  t28:=Tryz.underlying129,
  a28:=Tryz.isAgg129,
  z28:=Tryz.sizeOf129,
  v28:=Tryz.zeroValue129,
  i26:=by kernel_rfl}
def Tryz.sortA_ren:Go.Shelf.Ren:=⟨fun| 5=>103| 8=>163| 7=>162| 19=>233| 20=>234| 10=>224| 11=>225| 12=>226| 13=>227| 14=>228| 15=>229| 16=>230| 17=>231| 18=>232| 30=>271| 31=>272| 32=>273| 33=>274| 34=>275| 35=>276| 40=>294|n=>n,fun| 23=>60| 25=>3| 3=>3| 32=>294| 22=>60| 0=>0| 44=>372| 46=>31| 4=>4| 36=>366| 35=>365| 41=>179| 5=>5| 9=>9| 53=>395| 57=>399| 63=>408| 64=>389|n=>n,fun|n=>n⟩
theorem Tryz.sortA:Go.Proofs.SlLaysM.n5 Tryz.prog Tryz.sortA_ren:={
  mixed:=by kernel_rfl,
  f5:=⟨Tryz.f103.name,by decide,Tryz.func103.trans (congrArg some (by kernel_rfl))⟩,
  f7:=⟨Tryz.f162.name,by decide,Tryz.func162.trans (congrArg some (by kernel_rfl))⟩,
  f8:=Tryz.func163.trans (congrArg some (by kernel_rfl)),
  f10:=⟨Tryz.f224.name,by decide,Tryz.func224.trans (congrArg some (by kernel_rfl))⟩,
  f11:=⟨Tryz.f225.name,by decide,Tryz.func225.trans (congrArg some (by kernel_rfl))⟩,
  f12:=⟨Tryz.f226.name,by decide,Tryz.func226.trans (congrArg some (by kernel_rfl))⟩,
  f13:=⟨Tryz.f227.name,by decide,Tryz.func227.trans (congrArg some (by kernel_rfl))⟩,
  f14:=⟨Tryz.f228.name,by decide,Tryz.func228.trans (congrArg some (by kernel_rfl))⟩,
  f15:=⟨Tryz.f229.name,by decide,Tryz.func229.trans (congrArg some (by kernel_rfl))⟩,
  f16:=⟨Tryz.f230.name,by decide,Tryz.func230.trans (congrArg some (by kernel_rfl))⟩,
  f17:=⟨Tryz.f231.name,by decide,Tryz.func231.trans (congrArg some (by kernel_rfl))⟩,
  f18:=⟨Tryz.f232.name,by decide,Tryz.func232.trans (congrArg some (by kernel_rfl))⟩,
  f19:=Tryz.func233.trans (congrArg some (by kernel_rfl)),
  f20:=Tryz.func234.trans (congrArg some (by kernel_rfl)),
  f30:=⟨Tryz.f271.name,by decide,Tryz.func271.trans (congrArg some (by kernel_rfl))⟩,
  f31:=Tryz.func272.trans (congrArg some (by kernel_rfl)),
  f32:=Tryz.func273.trans (congrArg some (by kernel_rfl)),
  f33:=⟨Tryz.f274.name,by decide,Tryz.func274.trans (congrArg some (by kernel_rfl))⟩,
  f34:=⟨Tryz.f275.name,by decide,Tryz.func275.trans (congrArg some (by kernel_rfl))⟩,
  f35:=⟨Tryz.f276.name,by decide,Tryz.func276.trans (congrArg some (by kernel_rfl))⟩,
  f40:=⟨Tryz.f294.name,by decide,Tryz.func294.trans (congrArg some (by kernel_rfl))⟩,
  t0:=Tryz.underlying0,
  a0:=Tryz.isAgg0,
  z0:=Tryz.sizeOf0,
  v0:=Tryz.zeroValue0,
  t3:=Tryz.underlying3,
  a3:=Tryz.isAgg3,
  z3:=Tryz.sizeOf3,
  v3:=Tryz.zeroValue3,
  t4:=Tryz.underlying4,
  a4:=Tryz.isAgg4,
  z4:=Tryz.sizeOf4,
  v4:=Tryz.zeroValue4,
  t5:=Tryz.underlying5,
  a5:=Tryz.isAgg5,
  z5:=Tryz.sizeOf5,
  v5:=Tryz.zeroValue5,
  t9:=Tryz.underlying9,
  a9:=Tryz.isAgg9,
  z9:=Tryz.sizeOf9,
  v9:=Tryz.zeroValue9,
  t22:=Tryz.underlying60,
  a22:=Tryz.isAgg60,
  z22:=Tryz.sizeOf60,
  v22:=Tryz.zeroValue60,
  t23:=Tryz.underlying60,
  a23:=Tryz.isAgg60,
  z23:=Tryz.sizeOf60,
  v23:=Tryz.zeroValue60,
  t25:=Tryz.underlying3,
  a25:=Tryz.isAgg3,
  z25:=Tryz.sizeOf3,
  v25:=Tryz.zeroValue3,
  t32:=Tryz.underlying294,
  a32:=Tryz.isAgg294,
  z32:=Tryz.sizeOf294,
  v32:=Tryz.zeroValue294,
  t35:=Tryz.underlying365,
  a35:=Tryz.isAgg365,
  z35:=Tryz.sizeOf365,
  v35:=Tryz.zeroValue365,
  t36:=Tryz.underlying366,
  a36:=Tryz.isAgg366,
  z36:=Tryz.sizeOf366,
  v36:=Tryz.zeroValue366,
  t41:=Tryz.underlying179,
  a41:=Tryz.isAgg179,
  z41:=Tryz.sizeOf179,
  v41:=Tryz.zeroValue179,
  t44:=Tryz.underlying372,
  a44:=Tryz.isAgg372,
  z44:=Tryz.sizeOf372,
  v44:=Tryz.zeroValue372,
  t46:=Tryz.underlying31,
  a46:=Tryz.isAgg31,
  z46:=Tryz.sizeOf31,
  v46:=Tryz.zeroValue31,
  t53:=Tryz.underlying395,
  a53:=Tryz.isAgg395,
  z53:=Tryz.sizeOf395,
  v53:=Tryz.zeroValue395,
  t57:=Tryz.underlying399,
  a57:=Tryz.isAgg399,
  z57:=Tryz.sizeOf399,
  v57:=Tryz.zeroValue399,
  t63:=Tryz.underlying408,
  a63:=Tryz.isAgg408,
  z63:=Tryz.sizeOf408,
  v63:=Tryz.zeroValue408,
  t64:=Tryz.underlying389,
  a64:=Tryz.isAgg389,
  z64:=Tryz.sizeOf389,
  v64:=Tryz.zeroValue389}
theorem ZGO(m:Nat):AnyZI.SortsIn Tryz.prog Tryz.sortedA_ren Fence.wide m:=
  ⟨λblk off cap c W d a b=>callsIn_wide.2 (AnyM.slices_Sort_int Tryz.sortA blk off cap c W d a b),
   λp cap W=>callsIn_wide.2 (AnyM.slices_Sort_int_none Tryz.sortA p cap W)⟩
theorem Zv6(m:Option Nat)(w:World):Calls Tryz.prog 44 #[.map m] w λe w'=>e= .returned (.func (.func 104) #[] #[.pointer (some ⟨w.heap.size,0,none⟩)])/\w'=w.alloc (.cells #[.map m] 86):=
  (callsIn_wide (n:=5)).1 (AnyZI.keys_in Tryz.keysA Fence.wide 5 trivial rfl m w)
def ZIE(_:Value):Option (DataW Unit×List MemPlace):=some (.nil,[])
theorem ZAU{w:World}{m:Nat}{l:List Int}(r:Zu2 w.heap m l)(hlen:l.length*8<=140737488355328):
    ∃(n:Nat) (D:DataW Unit),w.ownsMap Tryz.prog 3 ZIE m n D/\Maps.size D=l.length/\(intKeys D).Perm l:=by
  obtain⟨es,i,hm,j,k,t,s⟩:=r;have hu:Tryz.prog.underlying 3=some (.int .i64):=Tryz.underlying3
  have o:es.size=l.length:=by
    have:=congrArg List.length k;simpa using this
  have e:∀x∈es.toList,∃n:Int,x.key= .int .i64 n/\(Lit.int .i64 n).wf=true:=λx c=>by
    have:x.key∈l.map (Value.int .i64):=by rw[<-k];exact List.mem_map_of_mem c
    obtain⟨n,d,q⟩:=Axz.1 this;refine⟨n,q.symm,?_⟩;have:=s n d;simp only[Lit.wf,Awn,decide_eq_true_eq];have h1:IntKind.i64.min= -9223372036854775808:=by decide
    have u:IntKind.i64.max=9223372036854775807:=by decide
    omega
  have g:∀x∈es.toList,∃n:Int,x.key= .int .i64 n/\WideElems.rd Tryz.prog 3 ZIE x=some (.int .i64 n,.nil):=λx c=>by
    obtain⟨n,d,hw⟩:=e x c;refine⟨n,d,?_⟩;unfold WideElems.rd;rw[d,keyOf_int_mk hu hw];rfl
  have F:WideElems.Fit Tryz.prog 3 ZIE es i:=⟨by unfold maxLen;omega,j,λx c=>by
    obtain⟨n,_,h⟩:=g x c
    exact⟨_,h⟩⟩
  refine⟨es.size,_,World.ownsMap_of_fit hm F λ_ _ _ h=>h,?_,?_⟩
  ·show(List.foldr DataW.insert [] _).length=_;rw[(WideShapes.sorted_perm _).length_eq];simp[o]
  ·show (List.map (λp=>Go.intOf p.1) (List.foldr DataW.insert [] _)).Perm l;refine((WideShapes.sorted_perm _).map _).trans ?_
   have:(es.toList.map (WideElems.rg Tryz.prog 3 ZIE)).map (λp=>Go.intOf p.1)=l:=by
     refine(List.map_inj_right (f:=Value.int .i64) (λa b h=>by simpa using h)).1 ?_;rw[<-k,Aya,Aya];refine List.map_congr_left λx c=>?_;obtain⟨n,d,h⟩:=g x c;simp only[Function.comp_apply,WideElems.rg,h,d];rfl
   rw[this]
theorem ZrN{w:World}{b m:Nat}{l:List Int}(k:Zf.cell w.heap b 0=some (.map (some m)))(r:Zu2 w.heap m l)(hlen:l.length*8<=140737488355328):
    Calls Tryz.prog 43 #[.func (.func 104) #[] #[.pointer (some ⟨b,0,none⟩)]] w λe w'=>∃v,e= .returned v/\w'.ownsRow w.heap.size 3 1 v l.length (l.map encZ)/\Below w.heap.size w w':=by
  obtain⟨n,D,g,i,c⟩:=ZAU r hlen
  have o:b<w.heap.size:=by
    rcases Aqd b w.heap.size with p|p
    ·exact p
    ·unfold Zf.cell at k;rw[Aqe p]at k;cases k
  have d:w.cell? ⟨b,0,none⟩=some (.map (some m)):=by rw[Zre];exact k
  have j:SeqGives Fence.wide 2 Tryz.prog 104 #[.pointer (some ⟨b,0,none⟩)] encZ (λq=>q.Perm (intKeys D)) (Maps.size D) w:=
    AnyZI.keys_gives (ρ:=Tryz.keysA_ren) {Tryz.keysA with} Fence.wide _ trivial rfl (by omega) b m n D w o d g
  have s:=AnyZI.sorted_in Tryz.sortedA Fence.wide 5 trivial trivial trivial trivial rfl (by omega) (ZGO _) (enters_of Tryz.func103 (by kernel_rfl) rfl) 104 #[.pointer (some ⟨b,0,none⟩)] trivial (enters_of Tryz.func104 (by kernel_rfl) rfl) _ _ (by rw[i];unfold maxLen;omega) (by rw[i];exact hlen) _ j;change CallsIn _ _ Tryz.prog 43 _ _ _ at s;refine((callsIn_wide (n:=5)).1 s).mono ?_;rintro e w' ⟨v,q,rfl,u,a,_,x⟩;refine⟨v,rfl,?_,x⟩;have t:q.Perm l:=u.trans c;rw[mergeSort_of_perm_i t]at a
  have f:l.mergeSort leI=l:=List.mergeSort_of_pairwise (by
    obtain⟨_,_,_,_,_,h,_⟩:=r
    exact h.imp λy=>by simp;omega)
  rw[f,t.length_eq]at a;exact a
noncomputable def Za1:Zg:=⟨[.one (.M)],[.one (.V)],λt K _ h=>Yu t.1 (λr0 h=>K (r0,()) h) h⟩
theorem ZaO:Zr Tryz.prog 44 Za1 where
  named:=⟨_,Tryz.func44,by kernel_rfl,by kernel_rfl⟩
  calls t K b w a:=by
    refine(Zv6 t.1 w).mono ?_;rintro e w' ⟨rfl,rfl⟩;exact .inl ⟨(_,()),rfl,⟨rfl,rfl,rfl⟩,a⟩
noncomputable def ZkN:Zg:=⟨[.one (.V)],[.one (.L)],λt K _ h=>ZgS t.1 (λr0 h=>K (r0,()) h) h⟩
theorem ZjY:Zr Tryz.prog 43 ZkN where
  named:=⟨_,Tryz.func43,by kernel_rfl,by kernel_rfl⟩
  calls t K r w i:=by
    obtain⟨x,u⟩:=t;obtain⟨b,m,l,a,n,o,hlen,i⟩:=i;dsimp only at a;subst a;refine(ZrN n o hlen).mono ?_;rintro e w' ⟨v,rfl,c,d⟩;have a:Ext w.heap w'.heap:=⟨d.size,d.block⟩;have hs:Fw.Same w w':=⟨d.tape,d.os,d.output⟩;rcases c with⟨h1,⟨rfl,h0⟩ |⟨g,cap,cur,rfl,p,f,q,h,j,k⟩⟩
    ·refine .inl ⟨(⟨none,0,0⟩,()),rfl,hs,i _ _ ⟨?_,Aqo _,by decide,.inl ⟨rfl,rfl⟩⟩ a⟩;rw[h1,h0]
    ·refine .inl ⟨(⟨some ⟨g,0,none⟩,l.length,cap⟩,()),rfl,hs,i _ _ ⟨h1,q,?_,.inr ⟨g,cur,_,rfl,p,f,j,k.symm⟩⟩ a⟩;unfold maxLen at h;show cap<_;omega
end Go.Proofs.YtonbfpnngkemiaaGreat
