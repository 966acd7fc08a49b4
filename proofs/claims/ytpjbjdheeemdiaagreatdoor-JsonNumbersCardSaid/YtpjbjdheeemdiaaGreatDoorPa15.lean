/- The reference's number: its digits, its places, its sign; spillwayref08.Whole. -/
import Derived.Lib.ItoaNum
import Derived.Lib.ItoaLen
import Derived.Test.YtpjbjdheeemdiaaGreatDoorPa14
set_option linter.unusedVariables false
set_option linter.unusedSimpArgs false
namespace Go.Js
open Go
def ZeO:BL→BL→Int→Bool→BL × Int × BL
  | [],D,p,_=>(D,p,[])
  | c::l,D,p,pt=>if c=46 then ZeO l D p true else if Yw c=true then ZeO l (D++[c]) (if pt then p - 1 else p) pt else (D,p,c::l)
theorem ZlB:∀ (x:BL) {l D:BL} {p:Int} {pt:Bool},Dg x→ZeO (x++l) D p pt=ZeO l (D++x) (if pt then p - x.length else p) pt
  | [],l,D,p,pt,_=>by simp
  | c::x,l,D,p,pt,h=>by
    have hc:=h c (by simp)
    have h46:c≠46:=fun e=>by rw [e] at hc;cases hc
    show ZeO (c::(x++l)) D p pt=_
    conv=>lhs;unfold ZeO
    rw [if_neg h46,if_pos hc,ZlB x fun d hd=>h d (List.mem_cons_of_mem _ hd)]
    rw [List.append_assoc]
    congr 1
    cases pt
    ·rfl
    ·simp only [↓reduceIte,List.length_cons];omega
theorem ZkC {e:BL} (h:Zoo e) (D:BL) (p:Int) (pt:Bool):ZeO e D p pt=(D,p,e):=by
  rcases h with rfl | ⟨c,s,E,rfl,hc,_⟩
  ·rfl
  ·unfold ZeO
   rw [if_neg (by rcases hc with rfl | rfl<;>decide),if_neg (by rcases hc with rfl | rfl<;>decide)]
theorem Zq5 {I f e:BL} (hI:Zow I) (hf:ZeT f) (he:Zoo e):ZeO (I++(f++e)) [] 0 false=(I++f.tail, -(f.tail.length:Int),e):=by
  rw [ZlB I hI.dg.1]
  simp only [List.nil_append,Bool.false_eq_true,↓reduceIte]
  rcases hf with rfl | ⟨F,rfl,_,hd⟩
  ·rw [List.nil_append,ZkC he];simp
  ·show ZeO (46::(F++e)) I 0 false=_
   unfold ZeO
   rw [if_pos rfl,ZlB F hd,ZkC he]
   simp
theorem ZsQ (l:BL):Lib.trimLeftB (48::l) 48=Lib.trimLeftB l 48:=by unfold Lib.trimLeftB;rw [List.dropWhile_cons_of_pos (by rfl)]
theorem Zmz {c:UInt8} (h:c≠48) (l:BL):Lib.trimLeftB (c::l) 48=c::l:=by unfold Lib.trimLeftB;rw [List.dropWhile_cons_of_neg (by simp [h])]
theorem Zmy {c:UInt8} (h:c≠48) (l:BL):Lib.trimRightB (l++[c]) 48=l++[c]:=by
  unfold Lib.trimRightB
  rw [List.reverse_append,List.reverse_singleton,List.singleton_append,List.dropWhile_cons_of_neg (by simp [h])]
  simp
def ZsC (x y:Int):Prop:=(x=y∧ -1099511627776<x∧x<1099511627776)∨(1073741824≤x∧x<1099511627776∧1073741824≤y)∨(x≤ -1073741824∧ -1099511627776<x∧y≤ -1073741824)
theorem Ztn {c:UInt8} {s E:BL} (hs:s=[]∨s=[43]∨s=[45]) (hE:E≠[]) (hd:Dg E):Zj7 (c::(s++E))=if s=[45] then -(ZaQ 0 E:Int) else ZaQ 0 E:=by
  rcases hs with rfl | rfl | rfl
  ·rw [List.nil_append,Zp8 c hE hd];simp
  ·exact Zk7 c E
  ·exact Zi7 c E
theorem Zo2 {neg:Bool} {D:BL} {x y p:Int} (h:ZsC x y) (hD:D.length≤65536) (hp : -65536≤p∧p≤65536):Zhb neg D (x+p)=Zhb neg D (y+p):=by
  rcases h with ⟨rfl,_⟩ | h
  ·rfl
  ·unfold Zhb
   dsimp only
   have h1:=Zd1 D 48
   have h2:=Zd0 (Lib.trimLeftB D 48) 48
   by_cases h0:Lib.trimRightB (Lib.trimLeftB D 48) 48=[]
   ·rw [if_pos h0,if_pos h0]
   ·rw [if_neg h0,if_neg h0,if_pos (by omega),if_pos (by omega)]
end Go.Js
namespace Go.Proofs.YtpjbjdheeemdiaaGreatDoor
open Go Go.Fw Go.Js
section
variable {h:Ze}
theorem Zhl (l:BL):Zcb (Zc l) 0 l:=⟨rfl,by rw [Yk];omega⟩
theorem Zdr {l:BL} {k:Nat} (hk:k≤l.length):Zcb (Zc l) k (l.drop k):=by
  have:=(Zhl l).dropK hk
  rwa [Nat.zero_add] at this
theorem Zvs {x y:BL} (hx:x.length+y.length≤4611686018427387904) {K:ByteArray→Prop} (hk:K (Zc (x++y))):Zkg (Zc x) (Zc y) K:=by
  refine ⟨by rw [Yk,Yk];omega,?_⟩
  have:Zc x++Zc y=Zc (x++y):=by
    apply ByteArray.ext
    simp [Zc]
  rw [this];exact hk
theorem ZuN {s:ByteArray} {n m:Nat} {l r:BL} (hr:Zcb s n l) (hr':Zcb s m r) (hnm:n≤m) {i j:Int} (hi:i=n) (hj:j=m) {K:ByteArray→Prop} (hk:K (Zc (ZdZ l r))):ZfW s i j K:=by
  subst hi hj
  refine ⟨by omega,by omega,by have:=hr'.len;omega,?_⟩
  rw [Int.toNat_natCast,Int.toNat_natCast,hr.extract hr' hnm]
  exact hk
theorem Zkc {neg:Bool} {I f e:BL} (hI:Zow I) (hf:ZeT f) (he:Zoo e) (hl:(mnB neg++(I++(f++e))).length≤65536) {K:ByteArray→Int→Bool→HP}
    (hk:∀ x,ZsC x (Zj7 e)→K (Zc (Lib.trimRightB (Lib.trimLeftB (I++f.tail) 48) 48)) (-(f.tail.length:Int)+(((Lib.trimLeftB (I++f.tail) 48).length:Int) - (Lib.trimRightB (Lib.trimLeftB (I++f.tail) 48) 48).length)+x) neg h) :
    YC (Zc (mnB neg++(I++(f++e)))) K h:=by
  unfold YC X6
  obtain ⟨hId,hI0⟩:=hI.dg
  generalize ht:mnB neg++(I++(f++e))=t at *
  have r0:=Zhl t
  have hts:(Zc t).size=t.length:=rfl
  have hml:(mnB neg).length≤1:=by cases neg<;>simp [mnB]
  have hsum:t.length=(mnB neg).length+(I.length+(f.length+e.length)):=by rw [← ht];simp only [List.length_append]
  have hIl:=List.length_pos_iff.2 hI0
  have r1:Zcb (Zc t) (mnB neg).length (I++(f++e)):=by
    have:=Zdr (l:=t) (k:=(mnB neg).length) (by omega)
    have e9:t.drop (mnB neg).length=I++(f++e):=by rw [← ht,List.drop_left]
    rw [e9] at this
    exact this
  obtain ⟨c0,I',hIc⟩:=List.exists_cons_of_ne_nil hI0
  have hc0:=hId c0 (by rw [hIc];simp)
  refine Za (Zm (fun p h'=>h'=h∧p.1=neg) ?_ ?_)
  case refine_2 =>
    refine Zn (by rw [hts];simp;omega) ?_
    cases neg with
    | true =>
      have:t=45::(I++(f++e)):=ht.symm
      rw [this] at r0 ⊢
      exact ZgC r0 rfl (Zd ⟨rfl,rfl⟩)
    | false =>
      have:t=c0::(I'++(f++e)):=by rw [← ht,hIc];rfl
      rw [this] at r0 ⊢
      refine ZgC r0 rfl (Zd ⟨rfl,?_⟩)
      dsimp only
      have:=Xv.1 hc0
      rw [beq_eq_false_iff_ne]
      omega
  rintro ⟨ng,u⟩ h1 ⟨rfl,rfl⟩
  dsimp only
  refine Za (Zm (fun p h'=>h'=h1∧p.1=((mnB ng).length:Nat)) ?_ ?_)
  case refine_2=>cases ng with
    | true=>exact Zn rfl (Za ⟨rfl,rfl⟩)
    | false=>exact Zl rfl ⟨rfl,rfl⟩
  rintro ⟨at_,u⟩ h2 ⟨rfl,hat⟩
  dsimp only at hat ⊢
  subst hat
  have hftl:f.tail.length≤f.length:=by rw [List.length_tail];omega
  refine Za (Zm (fun p h'=>h'=h2∧∃ n:Nat,p.1=n∧Zcb (Zc t) n e∧p.2.1=Zc (I++f.tail)∧p.2.2.1 = -(f.tail.length:Int)) ?_ ?_)
  case refine_2 =>
    refine ZB (fun p h'=>h'=h2∧∃ (n:Nat) (l D:BL),p.1=n∧p.2.1=Zc D∧Zcb (Zc t) n l∧ZeO l D p.2.2.1 p.2.2.2.1=(I++f.tail, -(f.tail.length:Int),e)∧ -(n:Int)≤p.2.2.1∧p.2.2.1≤0∧D.length≤n) (fun p _=>t.length - p.1.toNat)
      ⟨rfl,(mnB ng).length,I++(f++e),[],rfl,rfl,r1,Zq5 hI hf he,by show -((mnB ng).length:Int)≤0;omega,Int.le_refl _,Nat.zero_le _⟩ ?_
    rintro ⟨a_,D_,p,pt,u⟩ h3 ⟨rfl,n,l,D,ha,hD,hr,hsc,hp1,hp2,hDn⟩
    dsimp only at ha hD hsc hp1 hp2 ⊢
    subst ha hD
    have hlen:=hr.len
    rw [hts] at hlen
    refine Zm (fun _ h'=>h'=h3∧∃ c l',l=c::l'∧(c=46∨Yw c=true)) ?_ ?_
    ·rintro ⟨⟩ h4 ⟨rfl,c,l',rfl,hc⟩
     simp only [List.length_cons] at hlen
     have hr':Zcb (Zc t) (n+1) l':=hr.tail
     refine ZgC hr rfl (cEq 46 rfl (fun h46=>Za ?_) fun h46=>?_)
     ·rw [ZG (by omega) (by omega)]
      unfold ZeO at hsc
      rw [if_pos h46] at hsc
      exact ⟨⟨rfl,n+1,l',D,rfl,rfl,hr',hsc,by first | omega | (dsimp only;omega),hp2,by omega⟩,by first | omega | (dsimp only;omega)⟩
     ·have hc':Yw c=true:=hc.resolve_left h46
      unfold ZeO at hsc
      rw [if_neg h46,if_pos hc'] at hsc
      rw [ZG (by omega) (by omega)]
      refine ZuN hr hr' (by omega) rfl (by omega) ?_
      rw [show ZdZ (c::l') l'=[c] from XI [c] l']
      refine Zvs (by simp;omega) ?_
      cases pt with
      | true =>
        refine Zn rfl (Za (Za ?_))
        rw [ZG (by omega) (by omega)]
        exact ⟨⟨rfl,n+1,l',D++[c],rfl,rfl,hr',hsc,by first | omega | (dsimp only;omega),by first | omega | (dsimp only;omega),by simp;omega⟩,by first | omega | (dsimp only;omega)⟩
      | false =>
        refine Zl rfl (Za ?_)
        exact ⟨⟨rfl,n+1,l',D++[c],rfl,rfl,hr',hsc,by first | omega | (dsimp only;omega),hp2,by simp;omega⟩,by first | omega | (dsimp only;omega)⟩
    ·have stop:(∀ c l',l=c::l'→c≠46∧Yw c=false)→(h3=h3∧∃ n_1:Nat,(n:Int)=n_1∧Zcb (Zc t) n_1 e∧Zc D=Zc (I++f.tail)∧p = -(f.tail.length:Int)):=fun hs=>by
       have:ZeO l D p pt=(D,p,l):=by
         rcases l with _ | ⟨c,l'⟩
         ·rfl
         ·obtain ⟨a,b⟩:=hs c l' rfl
          unfold ZeO
          rw [if_neg a,if_neg (by rw [b];decide)]
       rw [this] at hsc
       cases hsc
       exact ⟨rfl,n,rfl,hr,rfl,rfl⟩
     refine Zi (fun hlt=>?_) fun hge=>stop ?_
     ·rcases l with _ | ⟨c,l'⟩
      ·rw [hts] at hlt;simp at hlen;omega
      refine ZgC hr rfl (Zgg ?_)
      rw [Zgh]
      cases hd:Yw c with
      | true=>exact Zn rfl ⟨rfl,c,l',rfl,.inr hd⟩
      | false =>
        refine Zl rfl (ZgC hr rfl ?_)
        refine Yj (fun h46=>⟨rfl,c,l',rfl,.inl (Za1 (d:=46) h46)⟩) fun h46=>stop fun c' l'' e=>?_
        cases e
        exact ⟨ZcF (d:=46) h46,hd⟩
     ·intro c l' e
      rw [hts] at hge
      rw [e,List.length_cons] at hlen
      omega
  rintro ⟨a_,D_,p,u⟩ h3 ⟨rfl,n,ha,hr,hD,hp⟩
  dsimp only at ha hD hp ⊢
  subst ha hD hp
  have hlen:=hr.len
  rw [hts] at hlen
  refine Za (Zm (fun p h'=>h'=h3∧ZsC p.1 (Zj7 e)) ?_ ?_)
  case refine_2 =>
    refine Zi (fun hlt=>Za ?_) fun hge=>?_
    ·rcases he with rfl | ⟨c,s,E,rfl,hc,hs,hE,hd⟩
     ·rw [hts] at hlt;simp at hlen;omega
     simp only [List.length_cons,List.length_append] at hlen
     rw [ZG (by omega) (by omega)]
     have hr1:Zcb (Zc t) (n+1) (s++E):=hr.tail
     rw [Ztn hs hE hd]
     have loop:∀ {m:Nat} {bl:Bool},Zcb (Zc t) m E→(bl=true↔s=[45])→Zan (σ:=Int × Int × Unit) (fun J49 s50 h51 =>
        (fun (at_47:Int) (exp48:Int) =>
        Zp (decide (at_47<((Zc t).size:Int))) (
        Zp (decide (exp48<1073741824)) (
        ZeH (Zc t) at_47 fun t52 =>
        Zk (IntKind.wrap .i64 ((IntKind.wrap .i64 (exp48*10))+(IntKind.wrap .i64 (IntKind.wrap .u8 (t52 - 48))))) fun exp53 =>
        Zk (IntKind.wrap .i64 (at_47+1)) fun at_54 =>
        J49 (at_54,exp53,()) h51) (
        Zk (IntKind.wrap .i64 (at_47+1)) fun at_55 =>
        J49 (at_55,exp48,()) h51)) (
        Zp bl (
        Zk (IntKind.wrap .i64 (0 - exp48)) fun exp56 =>
        (h51=h3∧ZsC exp56 (if s=[45] then -(ZaQ 0 E:Int) else ZaQ 0 E))) (
        (h51=h3∧ZsC exp48 (if s=[45] then -(ZaQ 0 E:Int) else ZaQ 0 E))))) s50.1 s50.2.1) ((m:Int),0,()) h3:=fun {m bl} hm hbl=>by
       refine ZB (fun p h'=>h'=h3∧∃ (k:Nat) (l x:BL) (a:Nat),p.1=k∧p.2.1=a∧Zcb (Zc t) k l∧E=x++l∧((a=ZaQ 0 x∧a<1099511627776)∨(1073741824≤a∧a<1099511627776∧1073741824≤ZaQ 0 x))) (fun p _=>t.length - p.1.toNat)
         ⟨rfl,m,E,[],0,rfl,rfl,hm,rfl,.inl ⟨rfl,by decide⟩⟩ ?_
       rintro ⟨k_,a_,u⟩ h4 ⟨rfl,k,l,x,a,hk',ha,hr2,hx,hv⟩
       dsimp only at hk' ha ⊢
       subst hk' ha
       have hlen2:=hr2.len
       rw [hts] at hlen2
       refine Zi (fun hlt2=>?_) fun hge2=>?_
       ·rcases l with _ | ⟨d,l⟩
        ·rw [hts] at hlt2;simp at hlen2;omega
        simp only [List.length_cons] at hlen2
        have hdd:=Xv.1 (hd d (by rw [hx];simp))
        have hx2:E=(x++[d])++l:=by rw [hx];simp
        have hva:ZaQ 0 (x++[d])=ZaQ 0 x*10+(d.toNat - 48):=by rw [Zey,Zah];rfl
        refine Zi (fun hsm=>ZgC hr2 rfl (Za (Za ?_))) fun hgr=>Za ?_
        ·have hu8:IntKind.wrap .u8 ((d.toNat:Int) - 48)=((d.toNat - 48:Nat):Int):=by
           rw [Zh8 (by omega) (by omega)];omega
         rw [hu8,ZG (n:=((d.toNat - 48:Nat):Int)) (by omega) (by omega),ZG (n:=(a:Int)*10) (by omega) (by omega),ZG (by omega) (by omega),ZG (by omega) (by omega)]
         refine ⟨⟨rfl,k+1,l,x++[d],a*10+(d.toNat - 48),rfl,by omega,hr2.tail,hx2,?_⟩,by first | omega | (dsimp only;omega)⟩
         rw [hva]
         omega
        ·rw [ZG (by omega) (by omega)]
         refine ⟨⟨rfl,k+1,l,x++[d],a,rfl,rfl,hr2.tail,hx2,?_⟩,by first | omega | (dsimp only;omega)⟩
         rw [hva]
         omega
       ·have:l=[]:=List.eq_nil_of_length_eq_zero (by rw [hts] at hge2;omega)
        subst this
        rw [List.append_nil] at hx
        subst hx
        unfold ZsC
        by_cases hs45:s=[45]
        ·refine Zn (hbl.2 hs45) (Za ⟨rfl,?_⟩)
         rw [if_pos hs45,ZG (by omega) (by omega)]
         omega
        ·refine Zl (by cases hb:bl;rfl;exact absurd (hbl.1 hb) hs45) ⟨rfl,?_⟩
         rw [if_neg hs45]
         omega
     rcases hs with rfl | rfl | rfl
     ·obtain ⟨d,E',hE'⟩:=List.exists_cons_of_ne_nil hE
      have hdd:=hd d (by rw [hE'];simp)
      have hr2:Zcb (Zc t) (n+1) (d::E'):=by rw [← hE'];exact hr1
      refine ZgC hr2 rfl (Zd (Zm (fun p h'=>h'=h3∧p.1=((n+1:Nat):Int)) ?_ ?_))
      ·rintro ⟨a,u⟩ h4 ⟨rfl,ha⟩
       dsimp only at ha ⊢
       subst ha
       refine loop hr1 ?_
       simp only [beq_iff_eq]
       have:=Xv.1 hdd
       constructor
       ·intro h;omega
       ·intro h;cases h
      ·have:=Xv.1 hdd
       exact ZgC hr2 rfl (Yj (fun h=>by omega) fun _=>ZgC hr2 rfl (Yj (fun h=>by omega) fun _=>⟨rfl,by omega⟩))
     ·have hr2:Zcb (Zc t) (n+1) (43::E):=hr1
      refine ZgC hr2 rfl (Zd (Zm (fun p h'=>h'=h3∧p.1=((n+2:Nat):Int)) ?_ ?_))
      ·rintro ⟨a,u⟩ h4 ⟨rfl,ha⟩
       dsimp only at ha ⊢
       subst ha
       exact loop hr2.tail (by decide)
      ·refine ZgC hr2 rfl (Zl rfl (ZgC hr2 rfl (Zn rfl (Za ⟨rfl,?_⟩))))
       rw [ZG (by simp at hlen;omega) (by simp at hlen;omega)]
       dsimp only
       omega
     ·have hr2:Zcb (Zc t) (n+1) (45::E):=hr1
      refine ZgC hr2 rfl (Zd (Zm (fun p h'=>h'=h3∧p.1=((n+2:Nat):Int)) ?_ ?_))
      ·rintro ⟨a,u⟩ h4 ⟨rfl,ha⟩
       dsimp only at ha ⊢
       subst ha
       exact loop hr2.tail (by decide)
      ·refine ZgC hr2 rfl (Zn rfl (Za ⟨rfl,?_⟩))
       rw [ZG (by simp at hlen;omega) (by simp at hlen;omega)]
       dsimp only
       omega
    ·have:e=[]:=List.eq_nil_of_length_eq_zero (by rw [hts] at hge;omega)
     subst this
     exact ⟨rfl,.inl ⟨rfl,by decide,by decide⟩⟩
  rintro ⟨x,u⟩ h4 ⟨rfl,hx⟩
  dsimp only at hx ⊢
  have key:=hk x hx
  generalize hDD:I++f.tail=DD at *
  have hDl:DD.length≤65536:=by rw [← hDD,List.length_append];omega
  refine Zm (fun p h'=>h'=h4∧p.1=Zc (Lib.trimLeftB DD 48)) ?_ ?_
  case refine_2 =>
    refine ZB (fun p h'=>h'=h4∧∃ d:BL,p.1=Zc d∧Lib.trimLeftB d 48=Lib.trimLeftB DD 48) (fun p _=>p.1.size) ⟨rfl,DD,rfl,rfl⟩ ?_
    rintro ⟨d_,u⟩ h5 ⟨rfl,d,hd,hq⟩
    dsimp only at hd ⊢
    subst hd
    rcases d with _ | ⟨c,d⟩
    ·exact Zl rfl ⟨rfl,by rw [← hq];rfl⟩
    ·refine Zn (by rw [Yk];simp) (ZgC (Zhl _) rfl (cEq 48 rfl (fun h48=>?_) fun h48=>?_))
     ·subst h48
      rw [ZsQ] at hq
      exact ZuN (r:=[]) (l:=d) (n:=1) (m:=(Zc (48::d)).size) (by have:=Zdr (l:=48::d) (k:=1) (by simp);exact this) (by have:=Zdr (l:=48::d) (k:=(48::d).length) (Nat.le_refl _);rwa [List.drop_length] at this) (by rw [Yk];simp) rfl rfl (by
        rw [show ZdZ d []=d by unfold ZdZ;simp]
        exact ⟨⟨rfl,d,rfl,hq⟩,by rw [Yk,Yk,List.length_cons];omega⟩)
     ·rw [Zmz h48] at hq
      exact ⟨rfl,by rw [← hq]⟩
  rintro ⟨d_,u⟩ h5 ⟨rfl,hd⟩
  dsimp only at hd ⊢
  subst hd
  have hdl:=Zd1 DD 48
  generalize Lib.trimLeftB DD 48=d0 at *
  refine Zm (fun p h'=>h'=h5∧p.1=Zc (Lib.trimRightB d0 48)∧p.2.1 = -(f.tail.length:Int)+((d0.length:Int) - (Lib.trimRightB d0 48).length)) ?_ ?_
  case refine_2 =>
    refine ZB (fun p h'=>h'=h5∧∃ d:BL,p.1=Zc d∧d.length≤d0.length∧p.2.1 = -(f.tail.length:Int)+((d0.length:Int) - d.length)∧Lib.trimRightB d 48=Lib.trimRightB d0 48) (fun p _=>p.1.size) ⟨rfl,d0,rfl,Nat.le_refl _,by first | omega | (dsimp only;omega),rfl⟩ ?_
    rintro ⟨d_,p_,u⟩ h6 ⟨rfl,d,hd,hdl2,hp,hq⟩
    dsimp only at hd hp ⊢
    subst hd hp
    rcases List.eq_nil_or_concat d with rfl | ⟨x',c,rfl⟩
    ·refine Zl rfl ⟨rfl,by rw [← hq];rfl,?_⟩
     rw [← hq];rfl
    ·rw [List.concat_eq_append] at *
     have hsz:(Zc (x'++[c])).size=x'.length+1:=by rw [Yk];simp
     have hrl:Zcb (Zc (x'++[c])) x'.length [c]:=by
       have:=Zdr (l:=x'++[c]) (k:=x'.length) (by simp)
       rwa [List.drop_left] at this
     simp only [List.length_append,List.length_singleton] at hdl2
     have hi:IntKind.wrap .i64 (((Zc (x'++[c])).size:Int) - 1)=(x'.length:Int):=by rw [hsz,ZG (by omega) (by omega)];omega
     refine Zn (by rw [hsz];simp) (ZgC hrl hi (cEq 48 rfl (fun h48=>?_) fun h48=>?_))
     ·subst h48
      rw [ZfU] at hq
      refine ZuN (Zhl (x'++[48])) hrl (Nat.zero_le _) rfl hi (Za ?_)
      rw [XI]
      rw [ZG (by simp only [List.length_append,List.length_singleton];omega) (by simp only [List.length_append,List.length_singleton];omega)]
      refine ⟨⟨rfl,x',rfl,by omega,?_,hq⟩,by rw [hsz];show x'.length<_;omega⟩
      simp only [List.length_append,List.length_singleton]
      omega
     ·rw [Zmy h48] at hq
      exact ⟨rfl,by rw [← hq],by rw [← hq]⟩
  rintro ⟨g_,p_,u⟩ h6 ⟨rfl,hg,hp⟩
  dsimp only at hg hp ⊢
  subst hg hp
  have hgl:=Zd0 d0 48
  refine Za (Zd ?_)
  have hxb : -1099511627776<x∧x<1099511627776:=by unfold ZsC at hx;omega
  rw [ZG (by omega) (by omega)]
  exact key
end
end Go.Proofs.YtpjbjdheeemdiaaGreatDoor
namespace Go.Js
open Go
def isE (c:UInt8):Bool:=decide (c=101)||decide (c=69)
theorem Zpz {l:BL} (h:Dg l):∀ c∈l,isE c=false:=fun c hc=>by
  have:=Xv.1 (h c hc)
  unfold isE
  rw [decide_eq_false (fun e=>by rw [e] at this;revert this;decide),decide_eq_false (fun e=>by rw [e] at this;revert this;decide)]
  rfl
theorem ZpY {neg:Bool} {I f:BL} (hI:Zow I) (hf:ZeT f):∀ c∈mnB neg++(I++f),isE c=false:=fun c hc=>by
  rcases List.mem_append.1 hc with h | h
  ·cases neg
   ·cases h
   ·rw [show c=45 by simpa [mnB] using h];rfl
  rcases List.mem_append.1 h with h | h
  ·exact Zpz hI.dg.1 c h
  ·rcases hf with rfl | ⟨F,rfl,_,hd⟩
   ·cases h
   ·rcases List.mem_cons.1 h with rfl | h
    ·rfl
    ·exact Zpz hd c h
theorem Zn6 {neg:Bool} {I f:BL} (hI:Zow I) (hf:ZeT f):(46∈mnB neg++(I++f))↔f≠[]:=by
  constructor
  ·intro h e
   subst e
   rcases List.mem_append.1 h with h | h
   ·cases neg
    ·cases h
    ·simp [mnB] at h
   ·rw [List.append_nil] at h
    exact hI.dg.1.ne (.inl (by decide)) h
  ·intro h
   rcases hf with rfl | ⟨F,rfl,_⟩
   ·exact absurd rfl h
   ·simp
end Go.Js
namespace Go.Proofs.YtpjbjdheeemdiaaGreatDoor
open Go Go.Fw Go.Js
theorem Zls {n:Int} (h0:0≤n) (h1:n<18446744073709551616):IntKind.wrap .u64 n=n:=by
  unfold IntKind.wrap
  have hb:(2:Int) ^ IntKind.u64.bits=18446744073709551616:=by decide
  have hs:IntKind.u64.signed=false:=rfl
  simp only [hb,hs,Bool.false_and,Bool.false_eq_true,if_false]
  omega
theorem Zu3 {w:Int} (h0:0<w) (h1:w<18446744073709551616):IntKind.wrap .u64 (0 - w)=18446744073709551616 - w:=by
  unfold IntKind.wrap
  have hb:(2:Int) ^ IntKind.u64.bits=18446744073709551616:=by decide
  have hs:IntKind.u64.signed=false:=rfl
  simp only [hb,hs,Bool.false_and,Bool.false_eq_true,if_false]
  omega
theorem Ztz {w:Int} (h0:0<w) (h1:w≤9223372036854775808):IntKind.wrap .i64 (18446744073709551616 - w) = -w:=by
  unfold IntKind.wrap
  have hb:(2:Int) ^ IntKind.i64.bits=18446744073709551616:=by decide
  have hb':(2:Int) ^ (IntKind.i64.bits - 1)=9223372036854775808:=by decide
  have hs:IntKind.i64.signed=true:=rfl
  simp only [hb,hb',hs,Bool.true_and]
  have:(18446744073709551616 - w) % 18446744073709551616=18446744073709551616 - w:=by omega
  rw [this,if_pos (by simp;omega)]
  omega
theorem Zmm {h:Ze} {z:VT5} {v:JV} {S:Nat→Prop} {K:Int→Bool→HP} (hv:Zbo h S z v) (hS:∀ j,S j→j<sz h) (hw:wV v≤4611686018427387904) (ht:ZbA h) (hh:9≤sz h)
    (hk:∀ n b h',Ext h h'→(v.k=4→Zbu v=true→b=(Zci v.t).isSome∧n=(Zci v.t).getD 0)→(¬ (v.k=4∧Zbu v=true)→n=0∧b=false)→K n b h'):YX z K h:=by
  unfold YX ZaC
  refine ZbY fun h1 c1 e1 z1=>Za ?_
  have c1':obj h1 h.size=some (.cells (XX z).toArray 33 (0,0)):=c1
  refine rI (Zr c1' rfl) ?_
  have hz1:z.1=v.k:=hv.1
  rw [hz1]
  by_cases h4:¬ v.k=4
  ·exact Zn (by rw [bne_iff_ne];omega) (Za (hk _ _ h1 e1 (fun h=>absurd h h4) fun _=>⟨rfl,rfl⟩))
  replace h4:v.k=4:=Decidable.not_not.1 h4
  refine Zl (by rw [h4];rfl) (rI (Zr c1' rfl) (rS (Zr c1' rfl) (rL (s:=z.2.2.1) (Zr c1' rfl) (rL (s:=z.2.2.2.1) (Zr c1' rfl) ?_))))
  refine Zmo (z:=z) (hv.ext hS e1) (fun j hj=>Nat.lt_of_lt_of_le (hS j hj) e1.size) hw (ht.ext e1) (by have:=e1.szz;omega) fun h2 e2=>?_
  have e12:=e1.trans e2
  have c2:=Y2 c1' e2
  cases hr:Zbu v with
  | false=>exact Zn rfl (Za (hk _ _ h2 e12 (fun _ h=>by rw [hr] at h;cases h) fun _=>⟨rfl,rfl⟩))
  | true =>
    have key:=fun n b (y:b=(Zci v.t).isSome∧n=(Zci v.t).getD 0)=>hk n b h2 e12 (fun _ _=>y) fun h=>absurd ⟨h4,hr⟩ h
    refine Zl rfl (rS (Zr c2 rfl) ?_)
    have hnum:ZcA v.t = .ok () []∧v.t.length≤65536:=by
      have:=(Zbt.1 hr).1.1
      rcases this with ⟨h,_⟩ | ⟨_,a,b,_⟩ | ⟨h,_⟩ | ⟨h,_⟩ | ⟨h,_⟩
      ·omega
      ·exact ⟨a,b⟩
      all_goals omega
    obtain ⟨hn,hl⟩:=hnum
    obtain ⟨neg,I,f,e,htx,hI,hf,he⟩:=ZmS hn
    rw [show z.2.1=Zc v.t from hv.2.1]
    generalize v.t=t at *
    subst htx
    rw [Zew hI hf he hl] at key
    refine Zkc hI hf he hl fun x hx=>Za (Zd ?_)
    have hlen:I.length+f.tail.length≤65536:=by
      have:f.tail.length≤f.length:=by rw [List.length_tail];omega
      simp only [List.length_append] at hl;omega
    rw [show Zj7 e - (f.tail.length:Int)=Zj7 e+(-(f.tail.length:Int)) by omega,← Zo2 (p:= -(f.tail.length:Int)) hx (by rw [List.length_append];exact hlen) (by omega)] at key
    have hxb : -1099511627776<x∧x<1099511627776:=by unfold ZsC at hx;omega
    have hdl:=Zd1 (I++f.tail) 48
    have hgl:=Zd0 (Lib.trimLeftB (I++f.tail) 48) 48
    have hgd:Dg (Lib.trimRightB (Lib.trimLeftB (I++f.tail) 48) 48):=fun c hc=>ZmA (hI.dg.1.app hf.dg) c ((Zkv _).subset hc)
    rw [List.length_append] at hdl
    unfold Zhb at key
    dsimp only at key
    generalize Lib.trimLeftB (I++f.tail) 48=d at *
    generalize Lib.trimRightB d 48=g at *
    rw [show x + -(f.tail.length:Int)+((d.length:Int) - g.length) = -(f.tail.length:Int)+((d.length:Int) - g.length)+x by omega] at key
    generalize hy : -(f.tail.length:Int)+((d.length:Int) - g.length)+x=y at *
    rw [show Za2 (Zc g) (ByteArray.mk #[])=decide (g=[]) from XS _ _]
    refine Zi (fun h0=>?_) fun h0=>?_
    ·rw [if_pos h0] at key
     exact Za (key 0 true ⟨rfl,rfl⟩)
    rw [if_neg h0] at key
    have gsz:((Zc g).size:Int)=g.length:=rfl
    refine Zi (fun hy0=>?_) fun hy0=>Zi (fun hy1=>?_) fun hy1=>?_
    ·rw [if_pos (.inl hy0)] at key
     exact Za (key 0 false ⟨rfl,rfl⟩)
    ·rw [if_pos (.inr (.inl (by omega)))] at key
     exact Za (key 0 false ⟨rfl,rfl⟩)
    rw [gsz,ZG (by omega) (by omega)]
    refine Zi (fun h19=>?_) fun h19=>Za (Za ?_)
    ·rw [if_pos (.inr (.inr (by omega)))] at key
     exact Za (key 0 false ⟨rfl,rfl⟩)
    rw [if_neg (by omega)] at key
    obtain ⟨k,rfl⟩:∃ k:Nat,y=k:=⟨y.toNat,by omega⟩
    rw [Int.toNat_natCast] at key
    have hdz:Dg (g++Lib.repeatL [48] k):=by
      refine hgd.app ?_
      have:∀ n,Dg (Lib.repeatL [48] n):=fun n=>by
        induction n with
        | zero=>exact Dg.nil
        | succ n ih=>exact Dg.cons rfl ih
      exact this k
    have hzl:(Lib.repeatL [48] k).length=k:=by rw [Lib.repeatL_length];simp
    have hval:ZaQ 0 (g++Lib.repeatL [48] k)=ZaQ 0 g*10 ^ k:=by rw [Zey,ZfS]
    generalize hgz:g++Lib.repeatL [48] k=G at *
    have hGl:G.length=g.length+k:=by rw [← hgz,List.length_append,hzl]
    have small:∀ x:BL,Dg x→x.length≤19→ZaQ 0 x<10 ^ 19:=fun x hx hxl=>by
      have up:∀ (l:BL) (a:Nat),Dg l→ZaQ a l<(a+1)*10 ^ l.length:=fun l=>by
        induction l with
        | nil=>intro a _;show a<(a+1)*1;omega
        | cons c l ih =>
          intro a hd
          have hc:=Xv.1 (hd c (by simp))
          rw [Zah]
          refine Nat.lt_of_lt_of_le (ih _ fun d hd'=>hd d (List.mem_cons_of_mem _ hd')) ?_
          rw [List.length_cons,Nat.pow_succ,Nat.mul_comm (10 ^ l.length) 10,← Nat.mul_assoc]
          exact Nat.mul_le_mul_right _ (by omega)
      have a:=up x 0 hx
      have b:10 ^ x.length≤10 ^ 19:=Nat.pow_le_pow_right (by decide) hxl
      omega
    have e19:(10:Nat) ^ 19=10000000000000000000:=by decide
    rw [e19] at small
    refine ZB (fun p h'=>h'=h2∧∃ i:Nat,p.2.1=i∧i≤G.length∧p.1=((ZaQ 0 (G.take i):Nat):Int)) (fun p _=>G.length - p.2.1.toNat) ⟨rfl,0,rfl,Nat.zero_le _,rfl⟩ ?_
    rintro ⟨n_,i_,u⟩ h3 ⟨rfl,i,hi,hile,hn_⟩
    dsimp only at hi hn_ ⊢
    subst hi hn_
    refine Zi (fun hlt=>Za ?_) fun hge=>?_
    ·have hi':i<G.length:=by omega
     have htk:G.take (i+1)=G.take i++[G[i]]:=by rw [List.take_add_one,List.getElem?_eq_getElem hi'];rfl
     have hv1:ZaQ 0 (G.take (i+1))=ZaQ 0 (G.take i)*10+(G[i].toNat - 48):=by rw [htk,Zey,Zah];rfl
     have hb1:=small (G.take (i+1)) (fun c hc=>hdz c (List.mem_of_mem_take hc)) (by rw [List.length_take];omega)
     rw [hv1] at hb1
     have hcd:=Xv.1 (hdz G[i] (List.getElem_mem hi'))
     rw [Zls (by omega) (by omega)]
     refine Zi (fun hig=>?_) fun hig=>Za ?_
     ·have hig':i<g.length:=by omega
      have hGi:G[i]=g[i]:=by
        have:G[i]?=g[i]?:=by rw [← hgz,List.getElem?_append_left hig']
        rw [List.getElem?_eq_getElem hi',List.getElem?_eq_getElem hig'] at this
        exact Option.some.inj this
      have hrg:Zcb (Zc g) i (g[i]::g.drop (i+1)):=by
        have:=Zdr (l:=g) (k:=i) (by omega)
        rwa [List.drop_eq_getElem_cons hig'] at this
      rw [hGi] at hv1 hb1 hcd
      refine ZgC hrg rfl (Za (Za ?_))
      have hu8:IntKind.wrap .u8 ((g[i].toNat:Int) - 48)=((g[i].toNat - 48:Nat):Int):=by
        rw [Zh8 (by omega) (by omega)];omega
      rw [hu8,Zls (n:=((g[i].toNat - 48:Nat):Int)) (by omega) (by omega),Zls (by omega) (by omega),ZG (by omega) (by omega)]
      exact ⟨⟨rfl,i+1,rfl,by omega,by rw [hv1];omega⟩,by omega⟩
     ·have hGi:G[i]=48:=by
        have:G[i]?=some 48:=by
          rw [← hgz,List.getElem?_append_right (by omega)]
          have rep:∀ (n j:Nat),j<n→(Lib.repeatL [48] n)[j]?=some (48:UInt8):=fun n=>by
            induction n with
            | zero=>intro j hj;omega
            | succ n ih =>
              intro j hj
              cases j with
              | zero=>rfl
              | succ j=>exact ih j (by omega)
          exact rep k _ (by omega)
        rw [List.getElem?_eq_getElem hi'] at this
        exact Option.some.inj this
      rw [hGi] at hv1
      rw [ZG (by omega) (by omega)]
      have:((48:UInt8).toNat - 48)=0:=rfl
      rw [this] at hv1
      exact ⟨⟨rfl,i+1,rfl,by omega,by rw [hv1];omega⟩,by omega⟩
    ·rw [List.take_of_length_le (by omega),hval]
     have hb:=small G hdz (by omega)
     rw [hval] at hb
     generalize ZaQ 0 g*10 ^ k=w at *
     refine ZfK ?_
     cases neg with
     | true =>
       rw [if_pos rfl] at key
       refine Zn rfl (Zi (fun hle=>Za ?_) fun hgt=>Zn rfl (Za ?_))
       ·rw [if_pos (by omega)] at key
        have:IntKind.wrap .i64 (IntKind.wrap .u64 (0 - (w:Int))) = -(w:Int):=by
          rcases Nat.eq_zero_or_pos w with h0 | h0
          ·subst h0;rfl
          ·rw [show IntKind.wrap .u64 (0 - (w:Int))=18446744073709551616 - (w:Int) from Zu3 (by omega) (by omega)]
           exact Ztz (by omega) (by omega)
        rw [this]
        exact key _ _ ⟨rfl,rfl⟩
       ·rw [if_neg (by omega)] at key
        exact key _ _ ⟨rfl,rfl⟩
     | false =>
       rw [if_neg Bool.false_ne_true] at key
       refine Zl rfl (Zl rfl (Zi (fun hge=>Za ?_) fun hlt=>Za ?_))
       ·rw [if_neg (by omega)] at key
        exact key _ _ ⟨rfl,rfl⟩
       ·rw [if_pos (by omega)] at key
        rw [ZG (by omega) (by omega)]
        exact key _ _ ⟨rfl,rfl⟩
end Go.Proofs.YtpjbjdheeemdiaaGreatDoor
namespace Go.Js
open Go
theorem ZmP {k:Nat} (h:k<10):(UInt8.ofNat (48+k)).toNat=48+k:=by
  rw [UInt8.toNat_ofNat']
  exact Nat.mod_eq_of_lt (by omega)
theorem Zqg (u:Nat):ZaQ 0 (Lib.decDigits u)=u∧Dg (Lib.decDigits u)∧(1≤u→∃ c r,Lib.decDigits u=c::r∧c≠48):=by
  induction u using Nat.strongRecOn with
  | _ u ih =>
    by_cases h:u<10
    ·rw [Lib.decDigits_one h]
     have e:=ZmP h
     refine ⟨?_,Dg.cons (Xv.2 (by omega)) Dg.nil,fun h1=>⟨_,_,rfl,fun e2=>?_⟩⟩
     ·rw [Zah,e]
      show 0*10+(48+u - 48)=u
      omega
     ·rw [e2] at e
      have:(48:UInt8).toNat=48:=rfl
      omega
    ·obtain ⟨a,b,c⟩:=ih (u / 10) (by omega)
     have e:=ZmP (k:=u % 10) (by omega)
     rw [Lib.decDigits,dif_neg h]
     refine ⟨?_,b.app (Dg.cons (Xv.2 (by omega)) Dg.nil),fun _=>?_⟩
     ·rw [Zey,Zah,a,e]
      show u / 10*10+(48+u % 10 - 48)=u
      omega
     ·obtain ⟨x,r,hx,hn⟩:=c (by omega)
      exact ⟨x,r++[UInt8.ofNat (48+u % 10)],by rw [hx];rfl,hn⟩
theorem Ztu (u:Nat):Zow (Lib.decDigits u):=by
  obtain ⟨_,b,c⟩:=Zqg u
  rcases Nat.eq_zero_or_pos u with h | h
  ·subst h;exact .inl (Lib.decDigits_one (by decide))
  ·obtain ⟨x,r,hx,hn⟩:=c h
   exact .inr ⟨x,r,hx,hn,by rw [← hx];exact b⟩
theorem Zq8 (k:Nat):Lib.repeatL [(48:UInt8)] (k+1)=Lib.repeatL [48] k++[48]:=by rw [Lib.repeatL_add];rfl
theorem Zlw (n:Nat):∀ (D:BL),D.length≤n→∃ k,D=Lib.trimRightB D 48++Lib.repeatL [48] k:=by
  induction n with
  | zero =>
    intro D h
    have:D=[]:=List.eq_nil_of_length_eq_zero (by omega)
    subst this
    exact ⟨0,rfl⟩
  | succ n ih =>
    intro D h
    rcases List.eq_nil_or_concat D with rfl | ⟨x,c,rfl⟩
    ·exact ⟨0,rfl⟩
    ·rw [List.concat_eq_append] at *
     by_cases hc:c=48
     ·subst hc
      obtain ⟨k,hk⟩:=ih x (by simp at h;omega)
      rw [ZfU]
      refine ⟨k+1,?_⟩
      rw [Zq8,← List.append_assoc,← hk]
     ·rw [Zmy hc]
      exact ⟨0,by simp [Lib.repeatL]⟩
theorem Zq2 {neg:Bool} {u:Nat} (h:u≤9223372036854775808):Zhb neg (Lib.decDigits u) 0=if neg then some (-(u:Int)) else if u<9223372036854775808 then some (u:Int) else none:=by
  obtain ⟨a,b,c⟩:=Zqg u
  rcases Nat.eq_zero_or_pos u with h0 | h0
  ·subst h0
   rw [Lib.decDigits_one (by decide)]
   cases neg<;>rfl
  ·obtain ⟨x,r,hx,hn⟩:=c h0
   have hd:Lib.trimLeftB (Lib.decDigits u) 48=Lib.decDigits u:=by rw [hx,Zmz hn]
   obtain ⟨k,hk⟩:=Zlw _ (Lib.decDigits u) (Nat.le_refl _)
   have hlen:(Lib.decDigits u).length≤19:=by
     rw [Lib.decDigits_length]
     rcases Nat.lt_or_ge 19 (Lib.nDigits u) with hh | hh
     ·exfalso
      have h1:=Zg7 r (x.toNat - 48)
      have h2:ZaQ 0 (Lib.decDigits u)=ZaQ (x.toNat - 48) r:=by
        rw [hx,Zah]
        congr 1
        omega
      have h3:r.length+1=Lib.nDigits u:=by rw [← Lib.decDigits_length,hx];rfl
      have hxd:=Xv.1 (b x (by rw [hx];simp))
      have hx48:x.toNat≠48:=fun e=>hn (UInt8.toNat_inj.1 e)
      have h4:10 ^ 19≤10 ^ r.length:=Nat.pow_le_pow_right (by decide) (by omega)
      have h5:1*10 ^ r.length≤(x.toNat - 48)*10 ^ r.length:=Nat.mul_le_mul_right _ (by omega)
      have h6:(9223372036854775808:Nat)<10 ^ 19:=by decide
      omega
     ·exact hh
   unfold Zhb
   rw [hd]
   generalize Lib.decDigits u=D at *
   have hgk:ZaQ 0 (Lib.trimRightB D 48)*10 ^ k=u:=by
     rw [← a]
     conv=>rhs;rw [hk]
     rw [Zey,ZfS]
   have hlk:(Lib.trimRightB D 48).length+k=D.length:=by
     conv=>rhs;rw [hk]
     rw [List.length_append,Lib.repeatL_length];simp
   dsimp only
   generalize Lib.trimRightB D 48=g at *
   have hg0:g≠[]:=by
     intro e
     subst e
     have:ZaQ 0 []*10 ^ k=0:=by show 0*10 ^ k=0;omega
     omega
   rw [if_neg hg0,show (0:Int)+((D.length:Int) - g.length)=(k:Int) by omega,if_neg (by omega),Int.toNat_natCast,hgk]
   cases neg with
   | true=>rw [if_pos rfl,if_pos h,if_pos rfl]
   | false=>rw [if_neg Bool.false_ne_true,if_neg Bool.false_ne_true]
theorem ZpP (n:Int):∃ neg u,Lib.itoa n=mnB neg++Lib.decDigits u∧(neg=true→n = -(u:Int))∧(neg=false→n=u):=by
  unfold Lib.itoa
  by_cases h:n<0
  ·rw [if_pos h]
   exact ⟨true,n.natAbs,rfl,fun _=>by omega,fun h=>by cases h⟩
  ·rw [if_neg h]
   exact ⟨false,n.toNat,rfl,fun h=>(by cases h),fun _=>by omega⟩
theorem Zn2 {n:Int} (h0 : -9223372036854775808≤n) (h1:n≤9223372036854775807):Zci (Lib.itoa n)=some n∧ZcA (Lib.itoa n) = .ok () []∧(Lib.itoa n).length≤65536:=by
  have hl:=Lib.itoa_length_le n h0 h1
  obtain ⟨neg,u,e,hp,hn⟩:=ZpP n
  have e2:mnB neg++Lib.decDigits u=mnB neg++(Lib.decDigits u++([]++[])):=by simp
  have hI:=Ztu u
  have hf:ZeT []:= .inl rfl
  have he:Zoo []:= .inl rfl
  refine ⟨?_,by rw [e,e2];exact ZmT hI hf he,by omega⟩
  have hl2:(mnB neg++(Lib.decDigits u++([]++[]))).length≤65536:=by rw [← e2,← e];omega
  rw [e,e2,Zew hI hf he hl2]
  have hu:u≤9223372036854775808:=by
    cases neg with
    | true=>have:=hp rfl;omega
    | false=>have:=hn rfl;omega
  have:=Zq2 (neg:=neg) hu
  rw [show Zj7 [] - (([]:BL).tail.length:Int)=0 from rfl,show ([]:BL).tail=[] from rfl,List.append_nil,this]
  cases neg with
  | true=>rw [if_pos rfl,← hp rfl]
  | false =>
    have:=hn rfl
    rw [if_neg Bool.false_ne_true,if_pos (by omega),← this]
end Go.Js
namespace Go.Proofs.YtpjbjdheeemdiaaGreatDoor
open Go Go.Fw Go.Js
theorem ZkT {t:BL} (h:ZcA t = .ok () []) (hl:t.length≤65536):Zbu ⟨4,t,[],.nil⟩=true :=
  Zbt.2 ⟨⟨.inr (.inl ⟨rfl,h,hl,rfl,rfl⟩),trivial,trivial⟩,by show 1+0≤65536;omega⟩
theorem Zpc {t:BL} (h:Zbu ⟨4,t,[],.nil⟩=true):ZcA t = .ok () []∧t.length≤65536:=by
  rcases (Zbt.1 h).1.1 with ⟨h,_⟩ | ⟨_,a,b,_⟩ | ⟨h,_⟩ | ⟨h,_⟩ | ⟨h,_⟩
  ·rcases h with h | h | h<;>cases h
  ·exact ⟨a,b⟩
  all_goals cases h
abbrev nV (t:BL):VT5:=(4,Zc t,⟨none,0,0⟩,⟨none,0,0⟩,())
theorem Zrx {a b:Bool} {A B:Prop} (h1:a≠b→A) (h2:a=b→B):Zp (a !=b) A B:=⟨fun e=>h1 (by simpa using e),fun e=>h2 (by simpa using e)⟩
theorem Zhr {h:Ze} {s:ByteArray} {K:VT5→HP} (hk:∀ h',Ext h h'→K (5,s,⟨none,0,0⟩,⟨none,0,0⟩,()) h'):ZbM s K h:=by
  unfold ZbM Zdz
  refine ZbY fun h1 c1 e1 z1=>?_
  have c1':obj h1 h.size=some (.cells zV.toArray 33 (0,0)):=c1
  have hs:sz h=h.size:=rfl
  exact ZdW (x:=⟨none,0,0⟩) (y:=⟨none,0,0⟩) c1' rfl fun h3 u3 z3=>hk h3 (e1.updS u3 fun j hj=>by omega)
theorem ZgE {h:Ze} {s0 s2:ByteArray} {n:Int} {K:Bool→HP} (h0:s0.size≤140737488351232) (hn : -9223372036854775808≤n∧n<9223372036854775808) (_h2:s2.size≤140737488351232) (ht:ZbA h) (hh:9≤sz h)
    (hk:∀ h',Ext h h'→K true h'):Xs s0 n s2 K h:=by
  unfold Xs XB
  have hs0:s0=Zc s0.data.toList:=rfl
  have hsl:s0.data.toList.length=s0.size:=by simp
  generalize s0.data.toList=t at hs0 hsl
  subst hs0
  have hsz:(Zc t).size=t.length:=rfl
  have hsh:sz h=h.size:=rfl
  refine ZbY fun h1 c1 e1 z1=>?_
  have c1':obj h1 h.size=some (.cells zV.toArray 33 (0,0)):=c1
  refine Zly c1' (by simp) (Zb5 (nV t)) fun h2 c2 u2 z2=>?_
  have c2':obj h2 h.size=some (.cells (XX (nV t)).toArray 33 (0,0)):=c2
  have e02:Ext h h2:=e1.updS u2 fun j hj=>by omega
  have ld:∀ {x:Ze} {K:Int→ByteArray→Sl→Sl→Prop},Ext h2 x→K 4 (Zc t) ⟨none,0,0⟩ ⟨none,0,0⟩→ldI x h.size 0 .u8 fun a=>ldS x h.size (0+1) fun b=>ldL x h.size (0+2) fun c=>ldL x h.size (0+3) fun d=>K a b c d:=fun e hK=>by
    have c:=Y2 c2' e
    exact rI (Zr c rfl) (rS (Zr c rfl) (rL (s:=⟨none,0,0⟩) (Zr c rfl) (rL (s:=⟨none,0,0⟩) (Zr c rfl) hK)))
  have vr:∀ {x:Ze} (u:BL),Zbo x (fun _=>False) (nV u) ⟨4,u,[],.nil⟩:=fun u=>Zbo.plain _ _ 4 u
  have fit:∀ {u:BL},u.length≤281474976710656→Zp5 ⟨4,u,[],.nil⟩:=fun hu=>⟨by dsimp only;omega,fun m hm=>(by cases hm),trivial⟩
  have wv:∀ {u:BL},u.length≤281474976710656→wV ⟨4,u,[],.nil⟩≤4611686018427387904:=fun hu=>by simp only [wV,nsW,pw];omega
  have hx:∀ {x:Ze},Ext h x→9≤sz x:=fun e=>by have:=e.szz;omega
  have noS:∀ {x:Ze} (j:Nat),False→j<sz x:=fun j hj=>hj.elim
  refine ld (Ext.refl _) (ZeN (z:=nV t) (vr t) noS (fit (by omega)) (ht.ext e02) (hx e02) fun a ok h3 e3 hy3 hn3=>Za (Zd ?_))
  have e03:=e02.trans e3
  refine ld e3 (Zmm (z:=nV t) (vr t) noS (wv (by omega)) (ht.ext e03) (hx e03) fun a' ok' h4 e4 hy4 hn4=>Za (Zd ?_))
  have e04:=e03.trans e4
  have same:a=a'∧ok=ok':=by
    by_cases hr:Zbu ⟨4,t,[],.nil⟩=true
    ·obtain ⟨x1,x2⟩:=hy3 rfl hr
     obtain ⟨x3,x4⟩:=hy4 rfl hr
     exact ⟨x2.trans x4.symm,x1.trans x3.symm⟩
    ·obtain ⟨x1,x2⟩:=hn3 fun hh=>hr hh.2
     obtain ⟨x3,x4⟩:=hn4 fun hh=>hr hh.2
     exact ⟨x1.trans x3.symm,x2.trans x4.symm⟩
  obtain ⟨rfl,rfl⟩:=same
  refine Zga (by omega) (ht.ext e04) fun h5 e5=>?_
  have e05:=e04.trans e5
  obtain ⟨iw,ip,il⟩:=Zn2 hn.1 (by omega:n≤9223372036854775807)
  refine ZeN (z:=nV (Lib.itoa n)) (vr (Lib.itoa n)) noS (fit (by omega)) (ht.ext e05) (hx e05) fun c fine h6 e6 hy6 _=>Za (Zd ?_)
  have e06:=e05.trans e6
  obtain ⟨rfl,rfl⟩:=hy6 rfl (ZkT ip il)
  refine ZpJ (ht.ext e06) (hx e06) fun h7 e7=>Zl rfl ?_
  have e07:=e06.trans e7
  refine Xk (fun h=>absurd rfl h) fun _=>Zrx (fun h=>absurd rfl h) fun _=>Zl (by rw [show (Zci (⟨4,Lib.itoa n,[],.nil⟩:JV).t)=some n from iw];rfl) (Xk (fun h=>absurd (by rw [show (Zci (⟨4,Lib.itoa n,[],.nil⟩:JV).t)=some n from iw];rfl) h) fun _=>?_)
  refine Zga (by omega) (ht.ext e07) fun h8 e8=>?_
  have e08:=e07.trans e8
  refine ⟨ht.ext e08,hn.1,by omega,fun h9 e9=>?_⟩
  have e09:=e08.trans e9
  have strS:∀ (x:ByteArray),Za2 x x=true:=fun x=>by
    have:x=Zc x.data.toList:=rfl
    rw [this,XS];exact decide_eq_true rfl
  refine Zl (by rw [show Za2 (Zc (Lib.itoa n)) (Zc (Lib.itoa n))=true from strS _];rfl) (Zhr fun h10 e10=>Zl (by rw [show Za2 s2 s2=true from strS _];rfl) (Zhr fun h11 e11=>Zl rfl ?_))
  have e011:=e09.trans (e10.trans e11)
  have e211:Ext h2 h11:=((((((e3.trans e4).trans e5).trans e6).trans e7).trans e8).trans e9).trans (e10.trans e11)
  refine ld e211 (Zf3 (z:=nV t) (vr t) noS (fit (by omega)) (ht.ext e011) (hx e011) fun h12 e12=>?_)
  have e012:=e011.trans e12
  cases hr:Zbu ⟨4,t,[],.nil⟩ with
  | false=>exact Zn rfl (hk h12 e012)
  | true =>
    obtain ⟨hp,hl⟩:=Zpc hr
    obtain ⟨y1,y2⟩:=hy3 rfl hr
    obtain ⟨neg,I,f,e,htx,hI,hf,he⟩:=ZmS hp
    obtain ⟨hf',hmore⟩:=ZpD (neg:=neg) hI hf he (by rw [← htx];exact hl)
    have hnE:=ZpY (neg:=neg) hI hf
    have hpt:=Zn6 (neg:=neg) hI hf
    refine Zl rfl (Za ?_)
    generalize hP:mnB neg++(I++f)=P at *
    have htP:t=P++e:=by rw [htx,← hP];simp
    have hPl:P.length+e.length=t.length:=by rw [htP,List.length_append]
    have rP:Zcb (Zc t) P.length e:=by
      have:=Zdr (l:=t) (k:=P.length) (by omega)
      have e9:t.drop P.length=e:=by rw [htP,List.drop_left]
      rw [e9] at this
      exact this
    refine Zm (fun p h'=>h'=h12∧p.1=(P.length:Int)) ?_ ?_
    case refine_2 =>
      refine ZB (fun p h'=>h'=h12∧∃ i:Nat,p.1=i∧i≤P.length) (fun p _=>P.length - p.1.toNat) ⟨rfl,0,rfl,Nat.zero_le _⟩ ?_
      rintro ⟨i_,u⟩ h13 ⟨rfl,i,hi,hil⟩
      dsimp only at hi ⊢
      subst hi
      rcases Nat.lt_or_ge i P.length with hiP | hiP
      ·have hri:Zcb (Zc t) i (P[i]::t.drop (i+1)):=by
         have:=Zdr (l:=t) (k:=i) (by omega)
         rw [List.drop_eq_getElem_cons (by omega)] at this
         have e9:t[i]'(by omega)=P[i]:=by
           have:t[i]?=P[i]?:=by rw [htP,List.getElem?_append_left hiP]
           rw [List.getElem?_eq_getElem (by omega),List.getElem?_eq_getElem hiP] at this
           exact Option.some.inj this
         rwa [e9] at this
       have hne:=hnE P[i] (List.getElem_mem hiP)
       unfold isE at hne
       simp only [Bool.or_eq_false_iff,decide_eq_false_iff_not] at hne
       refine Zn (decide_eq_true (by omega)) (ZgC hri rfl (Xk (fun _=>ZgC hri rfl (Xk (fun _=>Za ?_) fun h=>absurd (Za1 (d:=69) h) hne.2)) fun h=>absurd (Za1 (d:=101) h) hne.1))
       rw [ZG (by omega) (by omega)]
       exact ⟨⟨rfl,i+1,rfl,by omega⟩,by omega⟩
      ·have:i=P.length:=by omega
       subst this
       have fin:h13=h13∧(P.length:Int)=P.length:=⟨rfl,rfl⟩
       refine Zi (fun hlt=>?_) fun hge=>fin
       rcases he with rfl | ⟨c,s,E,rfl,hc,_⟩
       ·rw [hsz] at hlt;simp at hPl;omega
       ·refine ZgC rP rfl (Xk (fun h101=>ZgC rP rfl (Xk (fun h69=>?_) fun _=>fin)) fun _=>fin)
        exfalso
        rcases hc with rfl | rfl
        ·exact h101 rfl
        ·exact h69 rfl
    rintro ⟨k_,u⟩ h13 ⟨rfl,hk_⟩
    dsimp only at hk_ ⊢
    subst hk_
    refine Za (ZB (fun p h'=>h'=h13∧∃ i:Nat,p.2.1=i∧i≤P.length∧(p.1=true↔46∈P.take i)) (fun p _=>P.length - p.2.1.toNat) ⟨rfl,0,rfl,Nat.zero_le _,by simp⟩ ?_)
    rintro ⟨pt,i_,u⟩ h14 ⟨rfl,i,hi,hil,hpi⟩
    dsimp only at hi hpi ⊢
    subst hi
    refine Zi (fun hlt=>?_) fun hge=>?_
    ·have hiP:i<P.length:=by omega
     have htk:P.take (i+1)=P.take i++[P[i]]:=by rw [List.take_add_one,List.getElem?_eq_getElem hiP];rfl
     have hri:Zcb (Zc t) i (P[i]::t.drop (i+1)):=by
       have:=Zdr (l:=t) (k:=i) (by omega)
       rw [List.drop_eq_getElem_cons (by omega)] at this
       have e9:t[i]'(by omega)=P[i]:=by
         have:t[i]?=P[i]?:=by rw [htP,List.getElem?_append_left hiP]
         rw [List.getElem?_eq_getElem (by omega),List.getElem?_eq_getElem hiP] at this
         exact Option.some.inj this
       rwa [e9] at this
     rw [ZG (by omega) (by omega)]
     cases hptv:pt with
     | true =>
       have h46:=hpi.1 hptv
       exact Zn rfl (Za ⟨⟨rfl,i+1,rfl,by omega,⟨fun _=>by rw [htk];exact List.mem_append_left _ h46,fun _=>rfl⟩⟩,by omega⟩)
     | false =>
       have h46:46∉P.take i:=fun h=>by have:=hpi.2 h;rw [hptv] at this;cases this
       refine Zl rfl (ZgC hri rfl (Zd (Za ⟨⟨rfl,i+1,rfl,by omega,?_⟩,by omega⟩)))
       rw [htk,beq_iff_eq]
       simp only [List.mem_append,h46,false_or,List.mem_singleton]
       constructor
       ·intro h;exact (Za1 (d:=46) h).symm
       ·intro h;rw [← h];rfl
    ·have:i=P.length:=by omega
     subst this
     rw [List.take_length,hpt] at hpi
     have r00:=Zhl t
     have rEnd:Zcb (Zc t) t.length []:=by
       have:=Zdr (l:=t) (k:=t.length) (Nat.le_refl _)
       rwa [List.drop_length] at this
     have u1:ZdZ t e=P:=by rw [htP,XI]
     have u2:ZdZ e []=e:=by unfold ZdZ;simp
     have sl1:∀ {K:ByteArray→Prop},K (Zc P)→ZfW (Zc t) 0 (P.length:Int) K:=fun hK=>ZuN r00 rP (Nat.zero_le _) rfl rfl (by rw [u1];exact hK)
     have sl2:∀ {K:ByteArray→Prop},K (Zc e)→ZfW (Zc t) (P.length:Int) ((Zc t).size:Int) K:=fun hK=>ZuN rP rEnd (by omega) rfl (by rw [hsz]) (by rw [u2];exact hK)
     refine sl1 (Zvs (y:=[48]) (by simp;omega) (sl2 (Zvs (by simp;omega) ?_)))
     generalize hff:(if f=[] then ([46,48]:BL) else f++[48])=f' at *
     have hml:(mnB neg++(I++(f'++e))).length≤281474976710656:=by
       have:f'.length≤f.length+2:=by rw [← hff];by_cases hf0:f=[];(rw [if_pos hf0,hf0];simp);(rw [if_neg hf0];simp)
       have:=congrArg List.length hP
       simp only [List.length_append] at this ⊢
       omega
     refine Zm (fun p h'=>h'=h14∧p.1=Zc (mnB neg++(I++(f'++e)))) ?_ ?_
     ·rintro ⟨more,u⟩ h15 ⟨rfl,hm⟩
      dsimp only at hm ⊢
      subst hm
      refine ZeN (z:=nV (mnB neg++(I++(f'++e)))) (vr _) noS (fit hml) (ht.ext e012) (hx e012) fun d sm h16 e16 hy16 _=>Za (Zd (Zi (fun _=>hk h16 (e012.trans e16)) fun hle=>?_))
      have hle':(mnB neg++(I++(f'++e))).length≤65536:=by
        have:((Zc (mnB neg++(I++(f'++e)))).size:Int)=(mnB neg++(I++(f'++e))).length:=rfl
        omega
      obtain ⟨x1,x2⟩:=hy16 rfl (ZkT (ZmT hI hf' he) hle')
      have hw:=hmore hle'
      rw [← htx] at hw
      dsimp only at x1 x2 y1 y2
      rw [hw] at x1 x2
      refine Zn (by rw [x2,y2];simp) (Zd ?_)
      rw [x1,y1]
      have:=hk h16 (e012.trans e16)
      simpa using this
     ·cases hptv:pt with
      | true =>
        have hfn:=hpi.1 hptv
        refine Zl rfl ⟨rfl,?_⟩
        dsimp only
        rw [← hff,if_neg hfn,← hP]
        congr 1
        simp
      | false =>
        have hfn:f=[]:=by
          rcases Decidable.em (f=[]) with h | h
          ·exact h
          ·have:=hpi.2 h;rw [hptv] at this;cases this
        refine Zn rfl (sl1 (Zvs (y:=[46,48]) (by simp;omega) (sl2 (Zvs (by simp;omega) ⟨rfl,?_⟩))))
        dsimp only
        rw [← hff,if_pos hfn,← hP,hfn]
        congr 1
        simp
end Go.Proofs.YtpjbjdheeemdiaaGreatDoor
