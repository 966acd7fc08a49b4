/- From a reading that is a model to the call. -/
import Derived.KernelRfl
import Derived.Laws.Externs
import GoSem.Extern.MapsClone
import Derived.Shelf.SlIterI.Nil
import Derived.Shelf.SortM.Plain
import Derived.Shelf.SortM.SortNone
import Derived.Maps.OwnSet
import Derived.Test.YthbfgkphlmlihaaGreatProg
import Derived.Test.YthbfgkphlmlihaaGreatPa6
set_option linter.unusedVariables false
set_option linter.unusedSimpArgs false
namespace Go.Fw
open Go
inductive AllOK (P:Program):List (FuncId × Ze)→Prop
  | nil:AllOK P []
  | cons {f:FuncId} {s:Ze} {l:List (FuncId × Ze)} (h:Zm P f s) (r:AllOK P l):AllOK P ((f,s)::l)
theorem ZjP {P:Program}:∀ {l:List (FuncId × Ze)},AllOK P l→∀ x,x∈l→Zm P x.1 x.2
  | [],_,x,h=>by cases h
  | _::_,.cons h0 hr,x,h=>by
    cases h with
    | head=>exact h0
    | tail _ h=>exact ZjP hr x h
inductive AllExt (P:Program):List FuncId→Prop
  | nil:AllExt P []
  | cons {f:FuncId} {l:List FuncId} (h:Zqw P f) (r:AllExt P l):AllExt P (f::l)
theorem ZjQ {P:Program}:∀ {l:List FuncId},AllExt P l→∀ f,f∈l→Zqw P f
  | [],_,x,h=>by cases h
  | _::_,.cons h0 hr,x,h=>by
    cases h with
    | head=>exact h0
    | tail _ h=>exact ZjQ hr x h
inductive AllDyn (P:Program):List (String × TypeId × FuncId)→Prop
  | nil:AllDyn P []
  | cons {n:String} {t:TypeId} {f:FuncId} {l:List (String × TypeId × FuncId)} (h:Zm6 P n t f) (r:AllDyn P l):AllDyn P ((n,t,f)::l)
theorem ZjR {P:Program}:∀ {l:List (String × TypeId × FuncId)},AllDyn P l→∀ x,x∈l→Zm6 P x.1 x.2.1 x.2.2
  | [],_,x,h=>by cases h
  | _::_,.cons h0 hr,x,h=>by
    cases h with
    | head=>exact h0
    | tail _ h=>exact ZjR hr x h
inductive AllIter (P:Program):List (FuncId × Zbj)→Prop
  | nil:AllIter P []
  | cons {f:FuncId} {s:Zbj} {l:List (FuncId × Zbj)} (h:ZlG P f s) (r:AllIter P l):AllIter P ((f,s)::l)
theorem ZiE {P:Program}:∀ {l:List (FuncId × Zbj)},AllIter P l→∀ x,x∈l→ZlG P x.1 x.2
  | [],_,x,h=>by cases h
  | _::_,.cons h0 hr,x,h=>by
    cases h with
    | head=>exact h0
    | tail _ h=>exact ZiE hr x h
theorem Zp (c:Cfg) (h:AllOK c.P c.calls) (h':AllExt c.P c.ext) (h'':AllDyn c.P c.dyn) (h3:AllIter c.P c.iters) (h4:YOK c.P c.yld):c.OK:=⟨ZjP h,ZjQ h',ZjR h'',ZiE h3,h4⟩
theorem Zp9 {P:Program} {f:FuncId} {fn:Func} (hf:P.funcs[f]?=some fn) (hname:(fn.name == "runtime.NumGoroutine")=false) (hb:fn.body.isNone=true) (hn:Extern.findNext fn=none)
    (he:Extern.find fn=some Extern.MapsClone.clone):Zqw P f:=by
  intro t b es cl w hw
  refine ⟨{ w with heap:=w.heap.push (.map es cl)},?_,⟨rfl,rfl,rfl⟩,rfl⟩
  rw [run_callFunc_extern hf hname hb hn he]
  have e:Extern.MapsClone.clone #[.iface t (.map (some b))]=(getObj b >>=fun o=>match o with
      | .map entries clock=>(newObj (.map entries clock) >>=fun n=>pure (.iface t (.map (some n))))
      | _=>stuck "maps.clone: a map expected"):=rfl
  rw [e]
  simp only [Sem.run_bind,MapKept.run_getObj_map hw,Result.andThen_ok]
  rfl
theorem Ztc {c:Cfg} {f:FuncId} {fn:Func} {ann:Ann} {s:Ze} (hf:c.P.funcs[f]?=some fn) (hname:(fn.name == "runtime.NumGoroutine")=false) (hbody:fn.body.isNone=false)
    (hn:c.n=fn.ntmps) (hlen:s.args.length≤fn.ntmps) (hc:c.OK) (hmixed:c.P.follows .mixedOrders=true)
    (hr:∀ (t:Xa s.args) (K:Xa s.res→Zd→Prop) (Kp:Value→Zd→Prop) (h:Zd),ZtK c fn ann (Xa.evs s.args t) s.res K Kp h=s.sem t K Kp h):Zm c.P f s where
  named:=⟨fn,hf,hname,hbody⟩
  calls t K Kp w hk:=by
    have hl:(Xa.evs s.args t).length≤fn.ntmps:=by
      have:∀ (vs:List VT) (x:Xa vs),(Xa.evs vs x).length=vs.length:=by
        intro vs
        induction vs with
        | nil=>intro x;rfl
        | cons v vs ih=>intro x;simp only [Xa.evs,List.length_cons,ih]
      rw [this]
      exact hlen
    exact Zny hc hmixed hf hn hl (by rw [hr];exact hk)
def ZD (c:Cfg) (fn:Func) (ann:Ann) (s:Ze):Prop:=∀ (t:Xa s.args) (K:Xa s.res→Zd→Prop) (Kp:Value→Zd→Prop) (h:Zd),ZtK c fn ann (Xa.evs s.args t) s.res K Kp h=s.sem t K Kp h
theorem okF {c:Cfg} {f:FuncId} {fn:Func} {ann:Ann} {s:Ze} (hr:ZD c fn ann s) (hf:c.P.funcs[f]?=some fn) (hm:c.P.follows .mixedOrders=true) (hc:c.OK)
    (hname:(fn.name == "runtime.NumGoroutine")=false:=by kernel_rfl) (hbody:fn.body.isNone=false:=by kernel_rfl) (hn:c.n=fn.ntmps:=by rfl) (hlen:s.args.length≤fn.ntmps:=by decide):Zm c.P f s :=
  Ztc hf hname hbody hn hlen hc hm hr
theorem ZdF {P:Program} {f:FuncId} {fn:Func} {s:Ze} (hf:P.funcs[f]?=some fn) (hname:(fn.name == "runtime.NumGoroutine")=false) (hbody:fn.body.isNone=false) (hs:∀ t K Kp h,¬ s.sem t K Kp h):Zm P f s where
  named:=⟨fn,hf,hname,hbody⟩
  calls t K Kp w hk:=(hs _ _ _ _ hk).elim
end Go.Fw
namespace Go.Proofs.YthbfgkphlmlihaaGreat
open Go Go.Fw
open Go.RowKit Go.Maps Go.Sort Go.Shelf
def Tryz.keysA_ren:Go.Shelf.Ren:=⟨fun | 7=>56 | 10=>113 | n=>n,fun | 23=>73 | 26=>3 | 3=>88 | 28=>151 | 0=>0 | 27=>150 | 33=>153 | 4=>4 | n=>n,fun | n=>n⟩
theorem Tryz.keysA:Go.Proofs.SlLaysZI.n7 Tryz.prog Tryz.keysA_ren:={
  mixed:=by kernel_rfl,
  f7:=⟨Tryz.f56.name,by decide,Tryz.func56.trans (congrArg some (by kernel_rfl))⟩,
  f10:=⟨Tryz.f113.name,by decide,Tryz.func113.trans (congrArg some (by kernel_rfl))⟩,
  t0:=Tryz.underlying0,
  a0:=Tryz.isAgg0,
  z0:=Tryz.sizeOf0,
  v0:=Tryz.zeroValue0,
  t4:=Tryz.underlying4,
  a4:=Tryz.isAgg4,
  z4:=Tryz.sizeOf4,
  v4:=Tryz.zeroValue4,
  t23:=Tryz.underlying73,
  a23:=Tryz.isAgg73,
  z23:=Tryz.sizeOf73,
  v23:=Tryz.zeroValue73,
  t26:=Tryz.underlying3,
  a26:=Tryz.isAgg3,
  z26:=Tryz.sizeOf3,
  v26:=Tryz.zeroValue3,
  t27:=Tryz.underlying150,
  a27:=Tryz.isAgg150,
  z27:=Tryz.sizeOf150,
  v27:=Tryz.zeroValue150,
  t28:=Tryz.underlying151,
  a28:=Tryz.isAgg151,
  z28:=Tryz.sizeOf151,
  v28:=Tryz.zeroValue151,
  t33:=Tryz.underlying153,
  a33:=Tryz.isAgg153,
  z33:=Tryz.sizeOf153,
  v33:=Tryz.zeroValue153 }
def Tryz.sortedA_ren:Go.Shelf.Ren:=⟨fun | 6=>55 | 8=>111 | 9=>112 | 11=>178 | 13=>180 | 12=>179 | 23=>235 | 24=>236 | 14=>226 | 15=>227 | 16=>228 | 17=>229 | 18=>230 | 19=>231 | 20=>232 | 21=>233 | 22=>234 | 25=>264 | 26=>265 | 27=>266 | 28=>267 | 29=>268 | 30=>269 | 31=>286 | n=>n,fun | 26=>3 | 28=>151 | 24=>85 | 0=>0 | 3=>3 | 37=>314 | 48=>364 | 50=>27 | 4=>4 | 40=>358 | 39=>357 | 45=>229 | 5=>5 | 9=>9 | 51=>385 | 55=>389 | 57=>398 | 58=>383 | 33=>153 | n=>n,fun | n=>n⟩
theorem Tryz.sortedA:Go.Proofs.SlLaysZI.n6 Tryz.prog Tryz.sortedA_ren:={
  mixed:=by kernel_rfl,
  f6:=⟨Tryz.f55.name,by decide,Tryz.func55.trans (congrArg some (by kernel_rfl))⟩,
  f8:=⟨Tryz.f111.name,by decide,Tryz.func111.trans (congrArg some (by kernel_rfl))⟩,
  f11:=⟨Tryz.f178.name,by decide,Tryz.func178.trans (congrArg some (by kernel_rfl))⟩,
  t0:=Tryz.underlying0,
  a0:=Tryz.isAgg0,
  z0:=Tryz.sizeOf0,
  v0:=Tryz.zeroValue0,
  t24:=Tryz.underlying85,
  a24:=Tryz.isAgg85,
  z24:=Tryz.sizeOf85,
  v24:=Tryz.zeroValue85,
  t26:=Tryz.underlying3,
  a26:=Tryz.isAgg3,
  z26:=Tryz.sizeOf3,
  v26:=Tryz.zeroValue3,
  t28:=Tryz.underlying151,
  a28:=Tryz.isAgg151,
  z28:=Tryz.sizeOf151,
  v28:=Tryz.zeroValue151,
  i26:=by kernel_rfl }
def Tryz.sortA_ren:Go.Shelf.Ren:=⟨fun | 5=>112 | 8=>180 | 7=>179 | 19=>235 | 20=>236 | 10=>226 | 11=>227 | 12=>228 | 13=>229 | 14=>230 | 15=>231 | 16=>232 | 17=>233 | 18=>234 | 30=>264 | 31=>265 | 32=>266 | 33=>267 | 34=>268 | 35=>269 | 40=>286 | n=>n,fun | 23=>85 | 25=>3 | 3=>3 | 32=>314 | 22=>85 | 0=>0 | 44=>364 | 46=>27 | 4=>4 | 36=>358 | 35=>357 | 41=>229 | 5=>5 | 9=>9 | 53=>385 | 57=>389 | 63=>398 | 64=>383 | n=>n,fun | n=>n⟩
theorem Tryz.sortA:Go.Proofs.SlLaysM.n5 Tryz.prog Tryz.sortA_ren:={
  mixed:=by kernel_rfl,
  f5:=⟨Tryz.f112.name,by decide,Tryz.func112.trans (congrArg some (by kernel_rfl))⟩,
  f7:=⟨Tryz.f179.name,by decide,Tryz.func179.trans (congrArg some (by kernel_rfl))⟩,
  f8:=Tryz.func180.trans (congrArg some (by kernel_rfl)),
  f10:=⟨Tryz.f226.name,by decide,Tryz.func226.trans (congrArg some (by kernel_rfl))⟩,
  f11:=⟨Tryz.f227.name,by decide,Tryz.func227.trans (congrArg some (by kernel_rfl))⟩,
  f12:=⟨Tryz.f228.name,by decide,Tryz.func228.trans (congrArg some (by kernel_rfl))⟩,
  f13:=⟨Tryz.f229.name,by decide,Tryz.func229.trans (congrArg some (by kernel_rfl))⟩,
  f14:=⟨Tryz.f230.name,by decide,Tryz.func230.trans (congrArg some (by kernel_rfl))⟩,
  f15:=⟨Tryz.f231.name,by decide,Tryz.func231.trans (congrArg some (by kernel_rfl))⟩,
  f16:=⟨Tryz.f232.name,by decide,Tryz.func232.trans (congrArg some (by kernel_rfl))⟩,
  f17:=⟨Tryz.f233.name,by decide,Tryz.func233.trans (congrArg some (by kernel_rfl))⟩,
  f18:=⟨Tryz.f234.name,by decide,Tryz.func234.trans (congrArg some (by kernel_rfl))⟩,
  f19:=Tryz.func235.trans (congrArg some (by kernel_rfl)),
  f20:=Tryz.func236.trans (congrArg some (by kernel_rfl)),
  f30:=⟨Tryz.f264.name,by decide,Tryz.func264.trans (congrArg some (by kernel_rfl))⟩,
  f31:=Tryz.func265.trans (congrArg some (by kernel_rfl)),
  f32:=Tryz.func266.trans (congrArg some (by kernel_rfl)),
  f33:=⟨Tryz.f267.name,by decide,Tryz.func267.trans (congrArg some (by kernel_rfl))⟩,
  f34:=⟨Tryz.f268.name,by decide,Tryz.func268.trans (congrArg some (by kernel_rfl))⟩,
  f35:=⟨Tryz.f269.name,by decide,Tryz.func269.trans (congrArg some (by kernel_rfl))⟩,
  f40:=⟨Tryz.f286.name,by decide,Tryz.func286.trans (congrArg some (by kernel_rfl))⟩,
  t0:=Tryz.underlying0,
  a0:=Tryz.isAgg0,
  z0:=Tryz.sizeOf0,
  v0:=Tryz.zeroValue0,
  t3:=Tryz.underlying3,
  a3:=Tryz.isAgg3,
  z3:=Tryz.sizeOf3,
  v3:=Tryz.zeroValue3,
  t4:=Tryz.underlying4,
  a4:=Tryz.isAgg4,
  z4:=Tryz.sizeOf4,
  v4:=Tryz.zeroValue4,
  t5:=Tryz.underlying5,
  a5:=Tryz.isAgg5,
  z5:=Tryz.sizeOf5,
  v5:=Tryz.zeroValue5,
  t9:=Tryz.underlying9,
  a9:=Tryz.isAgg9,
  z9:=Tryz.sizeOf9,
  v9:=Tryz.zeroValue9,
  t22:=Tryz.underlying85,
  a22:=Tryz.isAgg85,
  z22:=Tryz.sizeOf85,
  v22:=Tryz.zeroValue85,
  t23:=Tryz.underlying85,
  a23:=Tryz.isAgg85,
  z23:=Tryz.sizeOf85,
  v23:=Tryz.zeroValue85,
  t25:=Tryz.underlying3,
  a25:=Tryz.isAgg3,
  z25:=Tryz.sizeOf3,
  v25:=Tryz.zeroValue3,
  t32:=Tryz.underlying314,
  a32:=Tryz.isAgg314,
  z32:=Tryz.sizeOf314,
  v32:=Tryz.zeroValue314,
  t35:=Tryz.underlying357,
  a35:=Tryz.isAgg357,
  z35:=Tryz.sizeOf357,
  v35:=Tryz.zeroValue357,
  t36:=Tryz.underlying358,
  a36:=Tryz.isAgg358,
  z36:=Tryz.sizeOf358,
  v36:=Tryz.zeroValue358,
  t41:=Tryz.underlying229,
  a41:=Tryz.isAgg229,
  z41:=Tryz.sizeOf229,
  v41:=Tryz.zeroValue229,
  t44:=Tryz.underlying364,
  a44:=Tryz.isAgg364,
  z44:=Tryz.sizeOf364,
  v44:=Tryz.zeroValue364,
  t46:=Tryz.underlying27,
  a46:=Tryz.isAgg27,
  z46:=Tryz.sizeOf27,
  v46:=Tryz.zeroValue27,
  t53:=Tryz.underlying385,
  a53:=Tryz.isAgg385,
  z53:=Tryz.sizeOf385,
  v53:=Tryz.zeroValue385,
  t57:=Tryz.underlying389,
  a57:=Tryz.isAgg389,
  z57:=Tryz.sizeOf389,
  v57:=Tryz.zeroValue389,
  t63:=Tryz.underlying398,
  a63:=Tryz.isAgg398,
  z63:=Tryz.sizeOf398,
  v63:=Tryz.zeroValue398,
  t64:=Tryz.underlying383,
  a64:=Tryz.isAgg383,
  z64:=Tryz.sizeOf383,
  v64:=Tryz.zeroValue383 }
theorem Zvn (m:Nat):AnyZI.SortsIn Tryz.prog Tryz.sortedA_ren Fence.wide m :=
  ⟨fun blk off cap ss W hH hblk hsz=>callsIn_wide.2 (AnyM.slices_Sort_int Tryz.sortA blk off cap ss W hH hblk hsz),
   fun p cap W=>callsIn_wide.2 (AnyM.slices_Sort_int_none Tryz.sortA p cap W)⟩
theorem Znt (m:Option Nat) (w:World):Calls Tryz.prog 56 #[.map m] w fun e w'=>e = .returned (.func (.func 113) #[] #[.pointer (some ⟨w.heap.size,0,none⟩)])∧w'=w.alloc (.cells #[.map m] 73) :=
  (callsIn_wide (n:=5)).1 (AnyZI.keys_in Tryz.keysA Fence.wide 5 trivial rfl m w)
def Zwe (_:Value):Option (DataW Unit × List MemPlace):=some (.nil,[])
theorem ZqT {w:World} {m:Nat} {l:List Int} (hR:Zm4 w.heap m l) (hlen:l.length*8≤140737488355328) :
    ∃ (n:Nat) (D:DataW Unit),w.ownsMap Tryz.prog 3 Zwe m n D∧Maps.size D=l.length∧(intKeys D).Perm l:=by
  obtain ⟨es,clk,hm,hst,hk,hp,hb⟩:=hR
  have hu:Tryz.prog.underlying 3=some (.int .i64):=Tryz.underlying3
  have hes:es.size=l.length:=by
    have:=congrArg List.length hk
    simpa using this
  have hkey:∀ x∈es.toList,∃ n:Int,x.key = .int .i64 n∧(Lit.int .i64 n).wf=true:=fun x hx=>by
    have:x.key∈l.map (Value.int .i64):=by rw [← hk];exact List.mem_map_of_mem hx
    obtain ⟨n,hn,hn'⟩:=List.mem_map.1 this
    refine ⟨n,hn'.symm,?_⟩
    have:=hb n hn
    simp only [Lit.wf,Bool.and_eq_true,decide_eq_true_eq]
    have h1:IntKind.i64.min = -9223372036854775808:=by decide
    have h2:IntKind.i64.max=9223372036854775807:=by decide
    omega
  have hrg:∀ x∈es.toList,∃ n:Int,x.key = .int .i64 n∧WideElems.rd Tryz.prog 3 Zwe x=some (.int .i64 n,.nil):=fun x hx=>by
    obtain ⟨n,hn,hw⟩:=hkey x hx
    refine ⟨n,hn,?_⟩
    unfold WideElems.rd
    rw [hn,keyOf_int_mk hu hw]
    rfl
  have F:WideElems.Fit Tryz.prog 3 Zwe es clk:=⟨by unfold maxLen;omega,hst,fun x hx=>by
    obtain ⟨n,_,h⟩:=hrg x hx
    exact ⟨_,h⟩⟩
  refine ⟨es.size,_,World.ownsMap_of_fit hm F fun _ _ _ h=>h,?_,?_⟩
  ·show (List.foldr DataW.insert [] _).length=_
   rw [(WideShapes.sorted_perm _).length_eq]
   simp [hes]
  ·show (List.map (fun p=>Go.intOf p.1) (List.foldr DataW.insert [] _)).Perm l
   refine ((WideShapes.sorted_perm _).map _).trans ?_
   have:(es.toList.map (WideElems.rg Tryz.prog 3 Zwe)).map (fun p=>Go.intOf p.1)=l:=by
     refine (List.map_inj_right (f:=Value.int .i64) (fun a b h=>by simpa using h)).1 ?_
     rw [← hk,List.map_map,List.map_map]
     refine List.map_congr_left fun x hx=>?_
     obtain ⟨n,hn,h⟩:=hrg x hx
     simp only [Function.comp_apply,WideElems.rg,h,hn]
     rfl
   rw [this]
theorem Zk6 {w:World} {b m:Nat} {l:List Int} (hc:Zd.cell w.heap b 0=some (.map (some m))) (hR:Zm4 w.heap m l) (hlen:l.length*8≤140737488355328) :
    Calls Tryz.prog 55 #[.func (.func 113) #[] #[.pointer (some ⟨b,0,none⟩)]] w fun e w'=>∃ v,e = .returned v∧w'.ownsRow w.heap.size 3 1 v l.length (l.map encZ)∧Below w.heap.size w w':=by
  obtain ⟨n,D,hown,hsz,hperm⟩:=ZqT hR hlen
  have hbl:b<w.heap.size:=by
    rcases Nat.lt_or_ge b w.heap.size with h9 | h9
    ·exact h9
    ·unfold Zd.cell at hc
     rw [Array.getElem?_eq_none h9] at hc
     cases hc
  have hcell:w.cell? ⟨b,0,none⟩=some (.map (some m)):=by rw [ZkD];exact hc
  have hseq:SeqGives Fence.wide 2 Tryz.prog 113 #[.pointer (some ⟨b,0,none⟩)] encZ (fun ss=>ss.Perm (intKeys D)) (Maps.size D) w :=
    AnyZI.keys_gives (ρ:=Tryz.keysA_ren) { Tryz.keysA with } Fence.wide _ trivial rfl (by omega) b m n D w hbl hcell hown
  have cS:=AnyZI.sorted_in Tryz.sortedA Fence.wide 5 trivial trivial trivial trivial rfl (by omega) (Zvn _) (enters_of Tryz.func112 (by kernel_rfl) rfl) 113 #[.pointer (some ⟨b,0,none⟩)] trivial (enters_of Tryz.func113 (by kernel_rfl) rfl) _ _ (by rw [hsz];unfold maxLen;omega) (by rw [hsz];exact hlen) _ hseq
  change CallsIn _ _ Tryz.prog 55 _ _ _ at cS
  refine ((callsIn_wide (n:=5)).1 cS).mono ?_
  rintro e w' ⟨v,ss,rfl,hS,hrow,_,hb⟩
  refine ⟨v,rfl,?_,hb⟩
  have hp:ss.Perm l:=hS.trans hperm
  rw [mergeSort_of_perm_i hp] at hrow
  have hsort:l.mergeSort leI=l:=List.mergeSort_of_pairwise (by
    obtain ⟨_,_,_,_,_,h,_⟩:=hR
    exact h.imp fun hab=>by simp;omega)
  rw [hsort,hp.length_eq] at hrow
  exact hrow
noncomputable def X7:Ze:=⟨[.one (.M)],[.one (.V)],fun t K _ h=>Z0 t.1 (fun r0 h=>K (r0,()) h) h⟩
theorem X3:Zm Tryz.prog 56 X7 where
  named:=⟨_,Tryz.func56,by kernel_rfl,by kernel_rfl⟩
  calls t K Kp w hk:=by
    refine (Znt t.1 w).mono ?_
    rintro e w' ⟨rfl,rfl⟩
    exact .inl ⟨(_,()),rfl,⟨rfl,rfl,rfl⟩,hk⟩
noncomputable def ZfL:Ze:=⟨[.one (.V)],[.one (.L)],fun t K _ h=>ZbA t.1 (fun r0 h=>K (r0,()) h) h⟩
theorem Zff:Zm Tryz.prog 55 ZfL where
  named:=⟨_,Tryz.func55,by kernel_rfl,by kernel_rfl⟩
  calls t K Kp w hk:=by
    obtain ⟨x,u⟩:=t
    obtain ⟨b,m,l,hx,hc,hR,hlen,hk⟩:=hk
    dsimp only at hx
    subst hx
    refine (Zk6 hc hR hlen).mono ?_
    rintro e w' ⟨v,rfl,hrow,hb⟩
    have hx:Ext w.heap w'.heap:=⟨hb.size,hb.block⟩
    have hs:Fw.Same w w':=⟨hb.tape,hb.os,hb.output⟩
    rcases hrow with ⟨h1,⟨rfl,h0⟩ | ⟨g,cap,cur,rfl,hg,hcur,hn,hcap,hsz,htk⟩⟩
    ·refine .inl ⟨(⟨none,0,0⟩,()),rfl,hs,hk _ _ ⟨?_,Nat.le_refl _,by decide,.inl ⟨rfl,rfl⟩⟩ hx⟩
     rw [h1,h0]
    ·refine .inl ⟨(⟨some ⟨g,0,none⟩,l.length,cap⟩,()),rfl,hs,hk _ _ ⟨h1,hn,?_,.inr ⟨g,cur,_,rfl,hg,hcur,hsz,htk.symm⟩⟩ hx⟩
     unfold maxLen at hcap
     show cap<_
     omega
end Go.Proofs.YthbfgkphlmlihaaGreat
