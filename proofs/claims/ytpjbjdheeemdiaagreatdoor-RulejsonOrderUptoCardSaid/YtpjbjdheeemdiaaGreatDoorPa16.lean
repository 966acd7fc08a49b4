/- A member is put behind an object's; an array is made of values (json.Put, json.List). -/
import Derived.Test.YtpjbjdheeemdiaaGreatDoorPa15
set_option linter.unusedVariables false
set_option linter.unusedSimpArgs false
namespace Go.Proofs.YtpjbjdheeemdiaaGreatDoor
open Go Go.Fw Go.Js
section
variable {h:Zc}
theorem Zqk {z:VT5} {v:JV} {S:Nat->Prop} {K:VT5->HP} (hw:wV v<=1000000000000) (hv:Zam h S z v) (hS:∀ j,S j->j<sz h) (hk:∀ z' h',Ext h h'->Zam h' (fr h' (sz h)) z' v->K z' h'):ZbF z K h :=
  ⟨v.sub.hei+1,ZrF v.sub.hei (Aqo _) hw hv hS hk⟩
theorem Zdh {x:Sl} {l:JL} {cx:List Value} {S:Nat->Prop} (hr:Row h x 4 cx) (hin:inS S x) (hl:Xm h S l cx) (hS:∀ j,S j->j<sz h) (hw:pw l<=999999999000) {K:VT5->HP} (hk:∀ z' h',Ext h h'->Zam h' (fr h' (sz h)) z' ⟨6,[],[],l⟩->K z' h'):Xh x K h:=by
  unfold Xh ZiL
  refine YX fun h1 c1 e1 z1=>?_
  have s0:sz h=h.size:=rfl
  have s1:sz h1=h1.size:=rfl
  have c1':obj h1 h.size=some (.cells zV.toArray 33 (0,0)):=c1
  have hv:Zam h1 S (6,ByteArray.mk #[],x,⟨none,0,0⟩,()) ⟨6,[],[],l⟩:=⟨rfl,rfl,Row.nil _ _,ZcG,cx,hr.ext e1,hin,hl.keep (fun b _ hb=>Zq e1 hb) fun _ h=>h⟩
  refine Zqk (v:=⟨6,[],[],l⟩) (by simp only [wV,nsW,Ays];omega) hv (fun j hj=>by have:=hS j hj;omega) fun z2 h2 e2 hz2=>?_
  refine Zbc (x:=z2.2.2.1) (y:=z2.2.2.2.1) (Zl c1' e2) rfl fun h3 u3 z3=>hk _ h3 ((e1.trans e2).updS u3 fun j hj=>by omega) ?_
  exact hz2.keep (fun b hb hl=>Zo u3 hl fun e=>by have:=hb.1;omega) fun b hb=>⟨by have:=hb.1;omega,by have:=hb.2;omega⟩
theorem Zzm {z zp:VT5} {v p:JV} {S:Nat->Prop} {nm:BL} (hv:Zam h S z v) (hp:Zam h S zp p) (hS:∀ j,S j->j<sz h) (hk7:v.k=7) (hw:wV ⟨7,v.t,v.ns++[nm],v.sub.snoc p⟩<=999999999000) {K:VT5->HP}
    (hk:∀ z' h',Ext h h'->Zam h' (fr h' (sz h)) z' ⟨7,v.t,v.ns++[nm],v.sub.snoc p⟩->K z' h'):Zgr z (Zk nm) zp K h:=by
  unfold Zgr Zj0
  refine YX fun h1 c1 e1 z1=>YX fun h3 c3 e3 z3=>YX fun h5 c5 e5 z5=>?_
  have s0:sz h=h.size:=rfl
  have s1:sz h1=h1.size:=rfl
  have s3:sz h3=h3.size:=rfl
  have s5:sz h5=h5.size:=rfl
  have e05:Ext h h5:=e1.trans (e3.trans e5)
  have cv:obj h5 h.size=some (.cells (Xl z).toArray 33 (0,0)):=Zl (Zl c1 e3) e5
  have cp:obj h5 h1.size=some (.cells (Xl zp).toArray 33 (0,0)):=Zl c3 e5
  have cz:obj h5 h3.size=some (.cells zV.toArray 33 (0,0)):=c5
  obtain ⟨a1,a2,a3,a4,cx,a5,a6,a7⟩:=id hv
  have keepS:∀ {a:Zc},Ext h a->∀ j,S j->j<sz h->obj a j=obj h j:=fun e j hj hl=>Zq e hl
  have wns:v.ns.length+1<=1000000000000:=by
    have:=Zrg (v.ns++[nm])
    simp only [wV] at hw
    simp at this
    omega
  have hlx:z.2.2.1.len=v.sub.len:=by have:=a5.len;have:=a7.len;omega
  have wsub:v.sub.len+1<=1000000000000:=by
    have:=ZdN (v.sub.snoc p)
    rw [JL.len_snoc] at this
    simp only [wV] at hw
    omega
  refine Z0 (fun _ h'=>h'=h5) ?_ (rI (Zb cv rfl) (Zm (by simp [a1,hk7]) rfl))
  rintro ⟨⟩ h8 rfl
  refine rS (Zb cv rfl) (rL (s:=z.2.2.2.1) (Zb cv rfl) ?_)
  have rown:Row h8 z.2.2.2.1 1 (v.ns.map sV):=Yi a3 a4 (keepS e05)
  refine Zds (fun d t h'=>Ext h8 h'/\(d 4=true->d 7=false->Own h' (sz h8) t.1 1 (v.ns.map sV))/\(d 6=true->d 7=false->∃ b,t.2.1=⟨At b,1,1⟩/\sz h8<=b/\Box h' b (sV nm)/\(d 4=true->t.1.blk≠some b)) /\
      (d 7=true->Own h' (sz h8) t.2.2.1 1 ((v.ns++[nm]).map sV))/\(d 8=true->t.2.2.2.1=(7,z.2.1,⟨none,0,0⟩,t.2.2.1,())) /\
      (d 9=true->∃ b,t.2.2.2.2.1=At b/\sz h8<=b/\obj h' b=some (.cells zV.toArray 33 (0,0))/\(d 4=true->d 7=false->t.1.blk≠some b)/\(d 7=true->t.2.2.1.blk≠some b))/\(d 8=true->d 7=true))
    (⟨none,0,0⟩,⟨none,0,0⟩,⟨none,0,0⟩,(0,ByteArray.empty,⟨none,0,0⟩,⟨none,0,0⟩,()),none,()) ⟨Ext.refl _,(fun e=>by cases e),(fun e=>by cases e),(fun e=>by cases e),(fun e=>by cases e),(fun e=>by cases e),(fun e=>by cases e)⟩ ?_ ?_
  ·rintro d ⟨t1,t2,t3,t4,t5,⟨⟩⟩ h12 ⟨e12,q4,q6,q7,q8,q9,q87⟩
   dsimp only at q4 q6 q7 q8 q9
   have s12:sz h12=h12.size:=rfl
   have sz12:=e12.size
   have cv12:=Zl cv e12
   refine ⟨?_,?_,?_,?_,?_,trivial⟩
   ·intro d4
    refine ZiP (rown.ext e12) (by omega) fun y h14 e14 oy=>?_
    refine ⟨hv4 (Zl cv12 e14) rfl,e12.trans e14,fun _ _=>oy.base (by omega),fun d6 d7=>?_,fun d7=>(q7 d7).congr fun b _ hb _=>Zq e14 hb,q8,fun d9=>?_,q87⟩
    ·obtain ⟨b,r1,r2,r3,r4⟩:=q6 d6 d7
     exact ⟨b,r1,r2,r3.ext e14,fun _ e=>by have:=(oy.lt e).1;have:=r3.lt;omega⟩
    ·obtain ⟨b,r1,r2,r3,r4,r5⟩:=q9 d9
     exact ⟨b,r1,r2,Zl r3 e14,fun _ _ e=>by have:=(oy.lt e).1;have:=ZaJ r3;omega,r5⟩
   ·intro d6
    refine YX fun h16 c16 e16 z16=>?_
    refine ⟨hv4 (Zl cv12 e16) rfl,hv4 (Zl cv12 e16) rfl,e12.trans e16,fun d4 d7=>(q4 d4 d7).congr fun b _ hb _=>Zq e16 hb,fun _ d7=>⟨h12.size,rfl,by omega,⟨_,c16⟩,fun d4 e=>by have:=((q4 d4 d7).lt e).2;omega⟩,fun d7=>(q7 d7).congr fun b _ hb _=>Zq e16 hb,q8,fun d9=>?_,q87⟩
    obtain ⟨b,r1,r2,r3,r4,r5⟩:=q9 d9
    exact ⟨b,r1,r2,Zl r3 e16,r4,r5⟩
   ·intro d7 d4 d6 _
    have o4:=q4 d4 d7
    obtain ⟨b,rfl,r2,⟨Tb,r3⟩,r4⟩:=q6 d6 d7
    have hl4:t1.len=v.ns.length:=by have:=o4.len;simp at this;omega
    refine Zha (n:=1) (size:=1) r3 rfl (o4.app (new:=[sV nm]) (n:=1) rfl rfl rfl (by omega) (by omega) (by omega) fun y h18 oy hy u18 b18=>?_)
    have blt:∀ {j:Nat},t1.blk=some j->sz h8<=j/\j<sz h12:=fun e=>o4.lt e
    have e18:Ext h8 h18:=e12.updS u18 fun j hj=>(blt hj).1
    have oy':Own h18 (sz h8) y 1 ((v.ns++[nm]).map sV):=by simpa using oy
    have keep18:∀ {b:Nat} {o:Obj},obj h12 b=some o->b<sz h8->obj h18 b=some o:=fun c hb=>ZB c u18 fun e=>by have:=(blt e).1;omega
    have cv18:=ZB cv12 u18 fun e=>by have:=(blt e).1;omega
    refine ⟨hv4 cv18 rfl,hv4 cv18 rfl,e18,(fun _ e=>by cases e),(fun _ e=>by cases e),fun _=>oy',fun d8=>?_,fun d9=>?_,fun _=>rfl⟩
    ·exfalso
     have:=q87 d8
     rw [d7] at this
     cases this
    ·obtain ⟨b9,r1,r2',r3',r4',r5⟩:=q9 d9
     refine ⟨b9,r1,r2',ZB r3' u18 (fun e=>r4' d4 d7 e),(fun _ e=>by cases e),fun _ e=>?_⟩
     rcases b18 with e2 | e2
     ·exact r4' d4 d7 (e2▸e)
     ·rw [e2] at e
      have:=ZaJ r3'
      cases e
      omega
   ·intro d8 d7
    exact ⟨hv4 cv12 rfl,e12,q4,q6,q7,fun _=>rfl,q9,fun _=>d7⟩
   ·intro d9
    refine YX fun h20 c20 e20 z20=>?_
    refine ⟨hv4 (Zl cv12 e20) rfl,hv4 (Zl cv12 e20) rfl,e12.trans e20,fun d4 d7=>(q4 d4 d7).congr fun b _ hb _=>Zq e20 hb,fun d6 d7=>?_,fun d7=>(q7 d7).congr fun b _ hb _=>Zq e20 hb,q8,fun _=>⟨h12.size,rfl,by omega,c20,fun d4 d7 e=>by have:=((q4 d4 d7).lt e).2;omega,fun d7 e=>by have:=((q7 d7).lt e).2;omega⟩,q87⟩
    obtain ⟨b,r1,r2,r3,r4⟩:=q6 d6 d7
    exact ⟨b,r1,r2,r3.ext e20,r4⟩
  ·rintro d ⟨t1,t2,t3,t4,t5,⟨⟩⟩ h23 ⟨e23,_,_,q7,q8,q9,_⟩
   dsimp only at q7 q8 q9
   intro d4 d6 d7 d8 d9
   have o7:=q7 d7
   obtain ⟨ob,rfl,r2,r3,_,r5⟩:=q9 d9
   have r5:=r5 d7
   have h8_:=q8 d8
   subst h8_
   have s23:sz h23=h23.size:=rfl
   have cv23:=Zl cv e23
   refine ⟨hv4 cv23 rfl,hv4 cv23 rfl,Zu (ZeW r3 (by show 4<=4;omega) rfl fun h30 c30 u30 z30=>?_)⟩
   have c30':obj h30 ob=some (.cells (Xl (7,z.2.1,⟨none,0,0⟩,t3,())).toArray 33 (0,0)):=c30
   have hobl:=ZaJ r3
   have cv30:=ZB cv23 u30 (by omega)
   have cp30:=ZB (Zl cp e23) u30 (by omega)
   have cz30:=ZB (Zl cz e23) u30 (by omega)
   have o30:Own h30 (sz h8) t3 1 ((v.ns++[nm]).map sV):=o7.congr fun b hb hl _=>Zo u30 hl fun e=>r5 (e▸hb)
   have s30:sz h30=h30.size:=rfl
   have e030:Ext h h30:=(e05.trans e23).updS u30 fun j hj=>by omega
   have hp30:Zam h30 S zp p:=hp.keep (fun b _ hl=>Zq e030 hl) fun _ h=>h
   have row30:Row h30 z.2.2.1 4 cx:=Yi a5 a6 (keepS e030)
   have lst30:Xm h30 S v.sub cx:=a7.keep (keepS e030) fun _ h=>h
   have fin:∀ {h':Zc} {l:Sl},Ext h h'->obj h' ob=some (.cells (Xl (7,z.2.1,l,t3,())).toArray 33 (0,0))->Own h' (sz h8) l 4 (cx++Xl zp)->Own h' (sz h8) t3 1 ((v.ns++[nm]).map sV)->obj h' h3.size=some (.cells zV.toArray 33 (0,0)) ->
       Ze (At ob) fun b59 o60=>ldI h' b59 o60 .u8 fun t61=>ldS h' b59 (o60+1) fun t62=>ldL h' b59 (o60+2) fun t63=>ldL h' b59 (o60+3) fun t64=>ZbF (t61,t62,t63,t64,()) (fun t65 h66=>sts h66 h3.size 0 [.int .u8 t65.1,.string t65.2.1,.slice t65.2.2.1.ptr t65.2.2.1.len t65.2.2.1.cap,.slice t65.2.2.2.1.ptr t65.2.2.2.1.len t65.2.2.2.1.cap] fun h67 =>
        ldI h67 h3.size 0 .u8 fun t68=>ldS h67 h3.size (0+1) fun t69=>ldL h67 h3.size (0+2) fun t70=>ldL h67 h3.size (0+3) fun t71=>K (t68,t69,t70,t71,()) h67) h':=by
     intro h' l e' co ol o3 cz'
     have hS':∀ j,S j->j<sz h':=fun j hj=>by have:=hS j hj;have:=e'.size;have:sz h'=h'.size:=rfl;omega
     have hv':Zam h' (fun j=>j<sz h') (7,z.2.1,l,t3,()) ⟨7,v.t,v.ns++[nm],v.sub.snoc p⟩ :=
       ⟨rfl,a2,o3.row,fun _ b hb=>(o3.lt hb).2,cx++Xl zp,ol.row,fun _ b hb=>(ol.lt hb).2,Xm.snoc (hp.keep (fun b _ hl=>Zq e' hl) hS') (a7.keep (keepS e') hS')⟩
     refine Zu (rI (Zb co rfl) (rS (Zb co rfl) (rL (s:=l) (Zb co rfl) (rL (s:=t3) (Zb co rfl) (Zqk (v:=⟨7,v.t,v.ns++[nm],v.sub.snoc p⟩) (by omega) hv' (fun _ h=>h) fun z2 h2 e2 hz2=>?_)))))
     have:=e'.size
     refine Zbc (x:=z2.2.2.1) (y:=z2.2.2.2.1) (Zl cz' e2) rfl fun h3_ u3 z3_=>hk _ h3_ ((e'.trans e2).updS u3 fun j hj=>by omega) ?_
     have s':sz h'=h'.size:=rfl
     exact hz2.keep (fun b hb hl=>Zo u3 hl fun e=>by have:=hb.1;have:=ZaJ cz';omega) fun b hb=>⟨by have:=hb.1;omega,by have:=hb.2;omega⟩
   refine Z0 (fun _ h'=>Ext h h'/\∃ l,obj h' ob=some (.cells (Xl (7,z.2.1,l,t3,())).toArray 33 (0,0))/\Own h' (sz h8) l 4 (cx++Xl zp)/\Own h' (sz h8) t3 1 ((v.ns++[nm]).map sV)/\obj h' h3.size=some (.cells zV.toArray 33 (0,0))) ?_ ?_
   ·rintro ⟨⟩ h58 ⟨w1,l,w2,w3,w4,w5⟩
    exact fin w1 w2 w3 w4 w5
   ·have sz23:=e23.size
    have one:=Zxp a7
    have len_of:∀ {y:Sl} {h':Zc} {b:Nat},Own h' b y 4 cx->y.len=v.sub.len:=fun o=>by have:=o.len;have:=a7.len;omega
    refine rL (s:=z.2.2.1) (Zb cv30 rfl) (rI (Zb cp30 rfl) (rS (Zb cp30 rfl) (rL (s:=zp.2.2.1) (Zb cp30 rfl) (rL (s:=zp.2.2.2.1) (Zb cp30 rfl) ⟨?_,?_⟩))))
    ·refine ZlX row30 one (by omega) fun y h38 e38 oy=>⟨ZpY (Zl cp30 e38),?_⟩
     have s38:sz h38=h38.size:=rfl
     have sz38:=e38.size
     refine YX fun h40 c40 e40 z40=>Zha (l:=Xl zp) c40 rfl ?_
     have hyl:=len_of oy
     have s40:sz h40=h40.size:=rfl
     refine ((oy.base (base':=sz h8) (by omega)).congr fun b _ hb _=>Zq e40 hb).app (n:=1) rfl (Zcf zp) rfl (by omega) (by omega) (by omega) fun l8 h42 o8 l8l u8 b8=>?_
     have ylt:∀ {j:Nat},y.blk=some j->sz h30<=j/\j<sz h38:=fun e=>oy.lt e
     have co42:=ZB (Zl c30' (e38.trans e40)) u8 fun e=>by have:=(ylt e).1;omega
     refine Zu (Zjw co42 (by simp [Xl]) rfl fun h46 c46 u46 z46=>?_)
     have l8n:l8.blk≠some ob:=fun e=>by
       rcases b8 with h9 | h9
       ·have:=(ylt (h9▸e)).1;omega
       ·rw [h9] at e;cases e;omega
     refine ⟨((e030.trans (e38.trans e40)).updS u8 fun j hj=>by have:=(ylt hj).1;omega).updS u46 fun j hj=>by omega,l8,c46,o8.congr fun b hb hl _=>Zo u46 hl fun e=>l8n (e▸hb),?_,?_⟩
     ·refine ((o30.congr fun b _ hb _=>Zq (e38.trans e40) hb).congr fun b hb hl _=>Zo u8 hl fun e=>?_).congr fun b hb hl _=>Zo u46 hl fun e=>?_
      ·have:=(ylt e).1;have:=(o30.lt hb).2;omega
      ·exact r5 (e▸hb)
     ·exact ZB (ZB (Zl cz30 (e38.trans e40)) u8 fun e=>by have:=(ylt e).1;omega) u46 (by omega)
    ·refine YX fun h48 c48 e48 z48=>⟨hv4 (Zl cv30 e48) rfl,?_⟩
     have s48:sz h48=h48.size:=rfl
     have sz48:=e48.size
     refine ZlX (row30.ext e48) one (by omega) fun y h50 e50 oy=>Zha (l:=Xl zp) (Zl c48 e50) rfl ?_
     have hyl:=len_of oy
     have s50:sz h50=h50.size:=rfl
     have sz50:=e50.size
     refine (oy.base (base':=sz h8) (by omega)).app (n:=1) rfl (Zcf zp) rfl (by omega) (by omega) (by omega) fun l8 h42 o8 l8l u8 b8=>?_
     have ylt:∀ {j:Nat},y.blk=some j->sz h48<=j/\j<sz h50:=fun e=>oy.lt e
     have co42:=ZB (Zl c30' (e48.trans e50)) u8 fun e=>by have:=(ylt e).1;omega
     refine Zu (Zjw co42 (by simp [Xl]) rfl fun h46 c46 u46 z46=>?_)
     have l8n:l8.blk≠some ob:=fun e=>by
       rcases b8 with h9 | h9
       ·have:=(ylt (h9▸e)).1;omega
       ·rw [h9] at e;cases e;omega
     refine ⟨((e030.trans (e48.trans e50)).updS u8 fun j hj=>by have:=(ylt hj).1;omega).updS u46 fun j hj=>by omega,l8,c46,o8.congr fun b hb hl _=>Zo u46 hl fun e=>l8n (e▸hb),?_,?_⟩
     ·refine ((o30.congr fun b _ hb _=>Zq (e48.trans e50) hb).congr fun b hb hl _=>Zo u8 hl fun e=>?_).congr fun b hb hl _=>Zo u46 hl fun e=>?_
      ·have:=(ylt e).1;have:=(o30.lt hb).2;omega
      ·exact r5 (e▸hb)
     ·exact ZB (ZB (Zl cz30 (e48.trans e50)) u8 fun e=>by have:=(ylt e).1;omega) u46 (by omega)
end
end Go.Proofs.YtpjbjdheeemdiaaGreatDoor
namespace Go.Js
open Go Go.Fw Go.Proofs.YtpjbjdheeemdiaaGreatDoor
def ZdY (s:BL):JV:=⟨5,s,[],.nil⟩
def ZcI (n:Int):JV:=⟨4,Lib.itoa n,[],.nil⟩
def ZdA (b:Bool):JV:=⟨if b then 3 else 2,[],[],.nil⟩
def Zhj (l:List (BL × JV)):JV:=⟨7,[],l.map (·.1),ZcL (l.map (·.2))⟩
def ZcB (l:List JV):JV:=⟨6,[],[],ZcL l⟩
def Zia (ws:List BL) (n:Nat):JV:=ZdY (ws.getD (if n<ws.length then n else 0) [])
def Zd0 (f:FlowP):JV:=Zhj [(tx "resource", ZdY f.res),(tx "origin", ZdY f.org),(tx "threads", ZdA f.thr),(tx "count", ZcI f.cnt),(tx "strategy", Zia Zg8 f.strat),(tx "ref", ZdY f.ref),(tx "shape", Zia Zg9 f.shape),
  (tx "warm", ZcI f.warm),(tx "queue", ZcI f.queue),(tx "cluster", ZdA f.clu),(tx "id", ZcI f.id),(tx "fallback", ZdA f.fb)]
def Za7 (f:YJ):JV:=Zhj [(tx "resource", ZdY f.res),(tx "grade", Zia Zhf f.grade),(tx "count", ZcI f.cnt),(tx "slow", ZcI f.slow),(tx "least", ZcI f.least),(tx "window", ZcI f.window),(tx "recover", ZcI f.recover)]
def Zez (p:BL × Int):JV:=Zhj [(tx "value", ZdY p.1),(tx "count", ZcI p.2)]
def Zin (f:ZeP):JV:=Zhj [(tx "resource", ZdY f.res),(tx "index", ZcI f.index),(tx "count", ZcI f.cnt),(tx "seconds", ZcI f.secs),(tx "items", ZcB (f.items.map Zez))]
def XO (f:Xi):JV:=Zhj [(tx "qps", ZcI f.qps),(tx "threads", ZcI f.threads),(tx "rt", ZcI f.rt),(tx "load", ZcI f.load),(tx "cpu", ZcI f.cpu)]
def Zda (f:Za2):JV:=Zhj [(tx "resource", ZdY f.res),(tx "white", ZdA f.white),(tx "origins", ZcB (f.origins.map ZdY))]
def toV (r:RulesP):JV:=Zhj [(tx "flow", ZcB (r.fl.map Zd0)),(tx "break", ZcB (r.br.map Za7)),(tx "hot", ZcB (r.ho.map Zin)),(tx "system", ZcB (r.sy.map XO)),(tx "authority", ZcB (r.li.map Zda))]
theorem ZdO:∀ l:List JV,(ZcL l).list=l
  | []=>rfl
  | v::l=>by simp only [ZcL,JL.list,ZdO l]
theorem ZaW (l:List JV):(ZcL l).len=l.length:=by rw [<- JL.list_len,ZdO]
theorem Zro:∀ l:JL,ZcL l.list=l
  | .nil=>rfl
  | .cons k t ns s r=>by simp only [JL.list,ZcL,Zro r]
theorem ZiM {κ:Type}:∀ {F:List (BL × κ)} {i n:Nat} {a:BL} {k:κ},(F.map (·.1)).Nodup->F[i]?=some (a,k)->Zbs a F n=some (n+i,k)
  | [],i,n,a,k,_,h=>by simp at h
  | (b,k0)::r,0,n,a,k,_,h=>by
    simp at h
    obtain ⟨rfl,rfl⟩:=h
    simp [Zbs]
  | (b,k0)::r,i+1,n,a,k,hn,h=>by
    rw [Awo,Azr] at hn
    simp at h
    have hne:b≠a:=fun e=>hn.1 (e▸Ayw.2 ⟨(a,k),Axq h,rfl⟩)
    simp only [Zbs,if_neg hne]
    rw [ZiM hn.2 h]
    congr 2
    omega
def Zd4 {κ μ:Type} (rd:κ->JV->Except Nat μ):List (BL × κ)->List (BL × JV)->List μ->Prop
  | [],[],[]=>True
  | (_,k)::F,(_,v)::zs,x::m=>rd k v = .ok x/\Zd4 rd F zs m
  | _,_,_=>False
theorem Zli {κ μ:Type} {rd:κ->JV->Except Nat μ}:∀ {F:List (BL × κ)} {zs:List (BL × JV)} {m:List μ},Zd4 rd F zs m->zs.length=F.length/\m.length=F.length/\∀ (i:Nat) (p:BL × JV),zs[i]?=some p->∃ f x,F[i]?=some f/\m[i]?=some x/\rd f.2 p.2 = .ok x
  | [],[],[],_=>⟨rfl,rfl,fun i p h=>by simp at h⟩
  | (a,k)::F,(b,v)::zs,x::m,h=>by
    obtain ⟨h1,h2,h3⟩:=Zli h.2
    refine ⟨by simp [h1],by simp [h2],fun i p hp=>?_⟩
    cases i with
    | zero=>simp at hp;subst hp;exact ⟨(a,k),x,rfl,rfl,h.1⟩
    | succ i=>simp at hp;obtain ⟨f,y,e1,e2,e3⟩:=h3 i p hp;exact ⟨f,y,by simpa using e1,by simpa using e2,e3⟩
  | [],[],_::_,h=>h.elim
  | [],_::_,_,h=>h.elim
  | _::_,[],_,h=>h.elim
  | _::_,_::_,[],h=>h.elim
theorem ZAE {κ μ:Type} {rd:κ->JV->Except Nat μ} {F:List (BL × κ)} {zs:List (BL × JV)} {m0 m:List μ} (hn:zs.map (·.1)=F.map (·.1)) (hd:(F.map (·.1)).Nodup) (h0:m0.length=F.length) (h:Zd4 rd F zs m):OkZ rd F [] zs m0 m:=by
  obtain ⟨h1,h2,h3⟩:=Zli h
  have nm:∀ (i:Nat) p f,zs[i]?=some p->F[i]?=some f->p.1=f.1:=fun i p f hp hf=>by
    have a:(zs.map (·.1))[i]?=some p.1:=by rw [Awz,hp];rfl
    rw [hn,Awz,hf] at a
    simpa using a.symm
  refine ⟨fun p _=>by simp,by rw [hn];exact hd,fun p hp=>?_,by omega,fun j hj=>?_⟩
  ·obtain ⟨i,hi⟩:=Azk hp
   obtain ⟨f,x,e1,e2,e3⟩:=h3 i p hi
   have:=ZiM (n:=0) hd (i:=i) (a:=f.1) (k:=f.2) e1
   rw [Awb] at this
   exact ⟨i,f.2,x,by rw [nm i p f hi e1];exact this,e3,e2⟩
  ·rcases Aqd j F.length with hl | hl
   ·exfalso
    have hz:zs[j]?=some zs[j]:=Ayb (by omega)
    obtain ⟨f,x,e1,e2,e3⟩:=h3 j _ hz
    have:=ZiM (n:=0) hd (i:=j) (a:=f.1) (k:=f.2) e1
    rw [Awb,<- nm j _ f hz e1] at this
    exact hj _ (Axq hz) _ this
   ·rw [Aqt (by omega),Aqt (by omega)]
theorem ZyQ (zs:List (BL × JV)):ZEe (Zhj zs)=zs:=by
  unfold ZEe Zhj
  rw [ZdO]
  induction zs with
  | nil=>rfl
  | cons p zs ih=>simp only [Awo,List.zip_cons_cons,ih]
theorem Zlh {κ μ:Type} {rd:κ->JV->Except Nat μ} {F:List (BL × κ)} {zs:List (BL × JV)} {m0 m:List μ} (h0:F.length=m0.length) (o:OkZ rd F [] zs m0 m):Xp rd F m0 (Zhj zs) = .ok m :=
  (ZgI h0).2 ⟨⟨rfl,by show (zs.map (·.1)).length=(ZcL (zs.map (·.2))).len;rw [ZaW,Ayx,Ayx]⟩,by rw [ZyQ];exact o⟩
theorem Zbv {κ μ:Type} {rd:κ->JV->Except Nat μ} {F:List (BL × κ)} {zs zs':List (BL × JV)} {m0 m:List μ} (hn:zs.map (·.1)=F.map (·.1)) (hd:(F.map (·.1)).Nodup) (h0:m0.length=F.length) (h:Zd4 rd F zs m)
    (hn':zs'.map (·.1)=F.map (·.1)) (h':Zd4 rd F zs' m):Xp rd F m0 (Zhj zs) = .ok m/\Xp rd F m0 (Zhj zs'.reverse) = .ok m:=by
  have o:=ZAE hn hd h0 h
  have o':=ZAE hn' hd h0 h'
  refine ⟨Zlh h0.symm o,Zlh h0.symm (o'.perm ?_ fun p hp=>⟨p.2,by simpa using hp,fun _ _ _ _ h=>h⟩)⟩
  rw [Avc]
  exact List.reverse_perm _
def Zi1:JL->JL
  | .nil=> .nil
  | .cons k t ns s r=> .cons k t (if k=7 then (ns.take s.len).reverse else []) (if k=7 then ZcL (Zi1 s).list.reverse else Zi1 s) (Zi1 r)
def Zaf (v:JV):JV:=⟨v.k,v.t,if v.k=7 then (v.ns.take v.sub.len).reverse else [],if v.k=7 then ZcL (Zi1 v.sub).list.reverse else Zi1 v.sub⟩
theorem ZkC:∀ l:List JV,Zi1 (ZcL l)=ZcL (l.map Zaf)
  | []=>rfl
  | v::l=>by simp only [ZcL,Zi1,Awo,ZkC l,Zaf]
theorem ZgC (zs:List (BL × JV)):Zaf (Zhj zs)=Zhj (zs.map fun p=>(p.1,Zaf p.2)).reverse:=by
  unfold Zaf Zhj
  dsimp only
  rw [if_pos rfl,if_pos rfl,ZaW,ZkC,ZdO]
  congr 1
  ·rw [Awd (by simp),Avc,Azp]
   rfl
  ·rw [Avc,Azp,Azp]
   rfl
theorem ZnR (l:List JV):Zaf (ZcB l)=ZcB (l.map Zaf):=by
  unfold Zaf ZcB
  dsimp only
  rw [if_neg (by decide),if_neg (by decide),ZkC]
  rfl
theorem ZkA (s:BL):Zaf (ZdY s)=ZdY s:=rfl
theorem ZkB (s:Int):Zaf (ZcI s)=ZcI s:=rfl
theorem Zh0 (b:Bool):Zaf (ZdA b)=ZdA b:=by cases b<;>rfl
theorem ZkZ (ws:List BL) (n:Nat):Zaf (Zia ws n)=Zia ws n:=rfl
def wd (ws:List BL) (n:Nat):Nat:=if n<ws.length then n else 0
def FlowP.norm (f:FlowP):FlowP:={ f with strat:=wd Zg8 f.strat,shape:=wd Zg9 f.shape }
def YJ.norm (f:YJ):YJ:={ f with grade:=wd Zhf f.grade }
def RulesP.norm (r:RulesP):RulesP:=⟨r.fl.map FlowP.norm,r.br.map YJ.norm,r.ho,r.sy,r.li⟩
theorem Zlj (s:BL):ZaK .text (ZdY s) = .ok (.t s):=rfl
theorem ZcH {n:Int} (h:Zim n):ZaK .num (ZcI n) = .ok (.n n):=by
  show (match ZAG (Lib.itoa n) with
    | some m=>(.ok (.n m):Except Nat MV)
    | none=> .error 21)=_
  rw [Zw8 h]
theorem Zsi (b:Bool):ZaK .yes (ZdA b) = .ok (.b b):=by cases b<;>rfl
theorem ZzK {ws:List BL}:∀ {n i:Nat} {t:BL},ws.Nodup->ws[n]?=some t->idxOf t ws i=some (i+n):=by
  induction ws with
  | nil=>intro n i t _ h;simp at h
  | cons w ws ih =>
    intro n i t hd h
    rw [Azr] at hd
    cases n with
    | zero=>simp at h;subst h;simp [idxOf]
    | succ n =>
      simp at h
      have hne:w≠t:=fun e=>hd.1 (e▸Axq h)
      simp only [idxOf,if_neg hne]
      rw [ih hd.2 h]
      congr 1
      omega
theorem Zq3 {ws:List BL} (hd:ws.Nodup) (h0:0<ws.length) (n:Nat):ZaK (.word ws) (Zia ws n) = .ok (.w (wd ws n)):=by
  have hl:wd ws n<ws.length:=by unfold wd;split<;>omega
  have hg:ws[wd ws n]?=some (ws.getD (wd ws n) []):=by rw [Avb,Ayb hl];rfl
  have hi:=ZzK (i:=0) hd hg
  rw [Awb] at hi
  show (match idxOf (ws.getD (wd ws n) []) ws 0 with
    | some i=>(.ok (.w i):Except Nat MV)
    | none=> .error 26)=_
  rw [hi]
theorem Zoq {α β γ:Type} {f:β->Except Nat γ} {g:α->β} {o:α->γ}:∀ {l:List α},(∀ a,a∈l->f (g a) = .ok (o a))->Zjx f (l.map g) = .ok (l.map o)
  | [],_=>rfl
  | a::l,h=>by
    simp only [Awo,Zjx]
    rw [h a (by simp),Zoq fun b hb=>h b (by simp [hb])]
theorem Zzj (l:List BL):ZaK .texts (ZcB (l.map ZdY)) = .ok (.ts l):=by
  show (match Zjx ZpB (ZcL (l.map ZdY)).list with
    | .ok l=>(.ok (.ts l):Except Nat MV)
    | .error e=> .error e)=_
  rw [ZdO,Zoq (f:=ZpB) (g:=ZdY) (o:=id) fun a _=>rfl,Avd]
theorem Zsl {g:BL × Int->JV} (l:List (BL × Int)) (h:∀ p,p∈l->Zby (g p) = .ok p):ZaK .items (ZcB (l.map g)) = .ok (.is l):=by
  show (match Zjx Zby (ZcL (l.map g)).list with
    | .ok l=>(.ok (.is l):Except Nat MV)
    | .error e=> .error e)=_
  rw [ZdO,Zoq (f:=Zby) (g:=g) (o:=id) h,Avd]
theorem ZDv:(Zmn.map (·.1)).Nodup:=by decide +kernel
theorem ZAa:(Ziq.map (·.1)).Nodup:=by decide +kernel
theorem ZFr:(ZsI.map (·.1)).Nodup:=by decide +kernel
theorem Zww:(ZfS.map (·.1)).Nodup:=by decide +kernel
theorem ZC7:(ZjX.map (·.1)).Nodup:=by decide +kernel
theorem ZDb:(Zkv.map (·.1)).Nodup:=by decide +kernel
theorem ZwJ:(Zks.map (·.1)).Nodup:=by decide +kernel
theorem Zza:Zg8.Nodup:=by decide +kernel
theorem Zzh:Zg9.Nodup:=by decide +kernel
theorem ZzM:Zhf.Nodup:=by decide +kernel
theorem ZpS {p:BL × Int} (h:Zim p.2):Zby (Zez p) = .ok p/\Zby (Zaf (Zez p)) = .ok p:=by
  have b:=Zbv (rd:=Zdg) (F:=Zkv) (zs:=[(tx "value", ZdY p.1),(tx "count", ZcI p.2)]) (zs':=[(tx "value", ZdY p.1),(tx "count", ZcI p.2)]) (m0:=[.t [],.n 0]) (m:=[.t p.1,.n p.2]) rfl ZDb rfl ⟨rfl,ZcH h,trivial⟩ rfl ⟨rfl,ZcH h,trivial⟩
  constructor
  ·unfold Zby Zez
   rw [b.1]
   rfl
  ·unfold Zby Zez
   rw [ZgC]
   show (match Xp Zdg Zkv [.t [],.n 0] (Zhj ([(tx "value", ZdY p.1),(tx "count", ZcI p.2)]:List (BL × JV)).reverse) with
     | .ok m=>(.ok (Zna m):Except Nat (BL × Int))
     | .error e=> .error e)=_
   rw [b.2]
   rfl
theorem Zp6 {f:FlowP} (h:f.rng):ZaP (Zd0 f) = .ok f.norm/\ZaP (Zaf (Zd0 f)) = .ok f.norm:=by
  obtain ⟨r1,_,_,r2,r3,r4⟩:=h
  have ra:Zd4 ZaK Zmn [(tx "resource", ZdY f.res),(tx "origin", ZdY f.org),(tx "threads", ZdA f.thr),(tx "count", ZcI f.cnt),(tx "strategy", Zia Zg8 f.strat),(tx "ref", ZdY f.ref),(tx "shape", Zia Zg9 f.shape),
    (tx "warm", ZcI f.warm),(tx "queue", ZcI f.queue),(tx "cluster", ZdA f.clu),(tx "id", ZcI f.id),(tx "fallback", ZdA f.fb)] f.norm.mv :=
    ⟨Zlj _,Zlj _,Zsi _,ZcH r1,Zq3 Zza (by decide) _,Zlj _,Zq3 Zzh (by decide) _,ZcH r2,ZcH r3,Zsi _,ZcH r4,Zsi _,trivial⟩
  have b:=Zbv (rd:=ZaK) (F:=Zmn) (m0:=Zp8) rfl ZDv rfl ra rfl ra
  constructor
  ·unfold ZaP Zd0
   rw [b.1]
   rfl
  ·unfold ZaP Zd0
   rw [ZgC]
   simp only [Awo,Azz,ZkA,ZkB,Zh0,ZkZ]
   rw [b.2]
   rfl
theorem Znp {f:YJ} (h:f.rng):X7 (Za7 f) = .ok f.norm/\X7 (Zaf (Za7 f)) = .ok f.norm:=by
  obtain ⟨_,r1,r2,r3,r4,r5⟩:=h
  have ra:Zd4 ZaK Ziq [(tx "resource", ZdY f.res),(tx "grade", Zia Zhf f.grade),(tx "count", ZcI f.cnt),(tx "slow", ZcI f.slow),(tx "least", ZcI f.least),(tx "window", ZcI f.window),(tx "recover", ZcI f.recover)] f.norm.mv :=
    ⟨Zlj _,Zq3 ZzM (by decide) _,ZcH r1,ZcH r2,ZcH r3,ZcH r4,ZcH r5,trivial⟩
  have b:=Zbv (rd:=ZaK) (F:=Ziq) (m0:=Zkj) rfl ZAa rfl ra rfl ra
  constructor
  ·unfold X7 Za7
   rw [b.1]
   rfl
  ·unfold X7 Za7
   rw [ZgC]
   simp only [Awo,Azz,ZkA,ZkB,Zh0,ZkZ]
   rw [b.2]
   rfl
theorem ZsH {f:ZeP} (h:f.rng):Zcj (Zin f) = .ok f/\Zcj (Zaf (Zin f)) = .ok f:=by
  obtain ⟨r1,r2,r3,r4⟩:=h
  have ra:Zd4 ZaK ZsI [(tx "resource", ZdY f.res),(tx "index", ZcI f.index),(tx "count", ZcI f.cnt),(tx "seconds", ZcI f.secs),(tx "items", ZcB (f.items.map Zez))] f.mv :=
    ⟨Zlj _,ZcH r1,ZcH r2,ZcH r3,Zsl _ fun p hp=>(ZpS (r4 p hp)).1,trivial⟩
  have ra':Zd4 ZaK ZsI [(tx "resource", ZdY f.res),(tx "index", ZcI f.index),(tx "count", ZcI f.cnt),(tx "seconds", ZcI f.secs),(tx "items", ZcB (f.items.map (Zaf ∘ Zez)))] f.mv :=
    ⟨Zlj _,ZcH r1,ZcH r2,ZcH r3,Zsl _ fun p hp=>(ZpS (r4 p hp)).2,trivial⟩
  have b:=Zbv (rd:=ZaK) (F:=ZsI) (m0:=ZxF) rfl ZFr rfl ra rfl ra'
  constructor
  ·unfold Zcj Zin
   rw [b.1]
   rfl
  ·unfold Zcj Zin
   rw [ZgC]
   simp only [Awo,Azz,ZkA,ZkB,Zh0,ZkZ,ZnR,Azp]
   rw [b.2]
   rfl
theorem Zk2 {f:Xi} (h:f.rng):XZ (XO f) = .ok f/\XZ (Zaf (XO f)) = .ok f:=by
  obtain ⟨r1,r2,r3,r4,r5⟩:=h
  have ra:Zd4 ZaK ZfS [(tx "qps", ZcI f.qps),(tx "threads", ZcI f.threads),(tx "rt", ZcI f.rt),(tx "load", ZcI f.load),(tx "cpu", ZcI f.cpu)] f.mv :=
    ⟨ZcH r1,ZcH r2,ZcH r3,ZcH r4,ZcH r5,trivial⟩
  have b:=Zbv (rd:=ZaK) (F:=ZfS) (m0:=Ziw) rfl Zww rfl ra rfl ra
  constructor
  ·unfold XZ XO
   rw [b.1]
   rfl
  ·unfold XZ XO
   rw [ZgC]
   simp only [Awo,Azz,ZkB]
   rw [b.2]
   rfl
theorem ZpO (f:Za2):ZaO (Zda f) = .ok f/\ZaO (Zaf (Zda f)) = .ok f:=by
  have ra:Zd4 ZaK ZjX [(tx "resource", ZdY f.res),(tx "white", ZdA f.white),(tx "origins", ZcB (f.origins.map ZdY))] f.mv:=⟨Zlj _,Zsi _,Zzj _,trivial⟩
  have b:=Zbv (rd:=ZaK) (F:=ZjX) (m0:=Zos) rfl ZC7 rfl ra rfl ra
  constructor
  ·unfold ZaO Zda
   rw [b.1]
   rfl
  ·unfold ZaO Zda
   rw [ZgC]
   simp only [Awo,Azz,ZkA,Zh0,ZnR,Azp]
   rw [show Zaf ∘ ZdY=ZdY from rfl,b.2]
   rfl
theorem Zcz {α β:Type} {f:JV->Except Nat β} {g:α->JV} {o:α->β}:∀ {l:List α} {i:Nat},(∀ a,a∈l->f (g a) = .ok (o a))->Zab f (l.map g) i = .ok (l.map o)
  | [],_,_=>rfl
  | a::l,i,h=>by
    simp only [Awo,Zab]
    rw [h a (by simp),Zcz fun b hb=>h b (by simp [hb])]
theorem ZtD {r:RulesP} (h:r.rng):(Zgu (toV r)=if r.norm.whereE.2.2=0 then .ok r.norm else .error r.norm.whereE)/\Zgu (Zaf (toV r))=Zgu (toV r):=by
  obtain ⟨h1,h2,h3,h4⟩:=h
  have ra:Zd4 Zib Zks [(tx "flow", ZcB (r.fl.map Zd0)),(tx "break", ZcB (r.br.map Za7)),(tx "hot", ZcB (r.ho.map Zin)),(tx "system", ZcB (r.sy.map XO)),(tx "authority", ZcB (r.li.map Zda))]
    [ZcL (r.fl.map Zd0),ZcL (r.br.map Za7),ZcL (r.ho.map Zin),ZcL (r.sy.map XO),ZcL (r.li.map Zda)]:=⟨rfl,rfl,rfl,rfl,rfl,trivial⟩
  have rb:Zd4 Zib Zks [(tx "flow", ZcB (r.fl.map (Zaf ∘ Zd0))),(tx "break", ZcB (r.br.map (Zaf ∘ Za7))),(tx "hot", ZcB (r.ho.map (Zaf ∘ Zin))),(tx "system", ZcB (r.sy.map (Zaf ∘ XO))),(tx "authority", ZcB (r.li.map (Zaf ∘ Zda)))]
    [ZcL (r.fl.map (Zaf ∘ Zd0)),ZcL (r.br.map (Zaf ∘ Za7)),ZcL (r.ho.map (Zaf ∘ Zin)),ZcL (r.sy.map (Zaf ∘ XO)),ZcL (r.li.map (Zaf ∘ Zda))]:=⟨rfl,rfl,rfl,rfl,rfl,trivial⟩
  have b1:=(Zbv (rd:=Zib) (F:=Zks) (m0:=Zlf) rfl ZwJ rfl ra rfl ra).1
  have b2:=(Zbv (rd:=Zib) (F:=Zks) (m0:=Zlf) rfl ZwJ rfl rb rfl rb).2
  have e1:Zgu (toV r)=if r.norm.whereE.2.2=0 then .ok r.norm else .error r.norm.whereE:=by
    unfold Zgu toV
    rw [b1]
    unfold Zci Zl5
    simp only [List.getD_cons_zero,List.getD_cons_succ,ZdO]
    rw [Zcz fun a ha=>(Zp6 (h1 a ha)).1,Zcz fun a ha=>(Znp (h2 a ha)).1,Zcz (o:=id) fun a ha=>(ZsH (h3 a ha)).1,Zcz (o:=id) fun a ha=>(Zk2 (h4 a ha)).1,Zcz (o:=id) fun a _=>(ZpO a).1]
    simp only [Avd]
    rfl
  refine ⟨e1,?_⟩
  rw [e1]
  unfold Zgu toV
  rw [ZgC]
  simp only [Awo,Azz,ZnR,Azp]
  rw [b2]
  unfold Zci Zl5
  simp only [List.getD_cons_zero,List.getD_cons_succ,ZdO]
  rw [Zcz (g:=Zaf ∘ Zd0) fun a ha=>(Zp6 (h1 a ha)).2,Zcz (g:=Zaf ∘ Za7) fun a ha=>(Znp (h2 a ha)).2,Zcz (g:=Zaf ∘ Zin) (o:=id) fun a ha=>(ZsH (h3 a ha)).2,Zcz (g:=Zaf ∘ XO) (o:=id) fun a ha=>(Zk2 (h4 a ha)).2,Zcz (g:=Zaf ∘ Zda) (o:=id) fun a _=>(ZpO a).2]
  simp only [Avd]
  rfl
end Go.Js
namespace Go.Js
open Go Go.Fw Go.Proofs.YtpjbjdheeemdiaaGreatDoor
def okM (q:BL × JV):Prop:=q.1.length<=20/\wV q.2<=40000000000
theorem ZwQ (l:List JV):pw (ZcL l)=(l.map wV).sum:=Zzl l
theorem ZjH {α:Type} {f:α->Nat} {n:Nat}:∀ {l:List α},(∀ x,x∈l->f x<=n)->(l.map f).sum<=l.length*n
  | [],_=>by simp
  | x::l,h=>by
    have:=h x (by simp)
    have:=ZjH (l:=l) fun y hy=>h y (by simp [hy])
    simp only [Awo,Azo,Aqj,Awx]
    omega
theorem Zv5 {zs:List (BL × JV)} (hz:zs.length<=13) (h:∀ q,q∈zs->okM q):wV (Zhj zs)<=600000000000:=by
  have h1:=Zsv (zs.map (·.1))
  have h2:=ZwQ (zs.map (·.2))
  have b1:((zs.map (·.1)).map fun n:BL=>6*n.length+3).sum<=(zs.map (·.1)).length*123:=ZjH fun x hx=>by
    obtain ⟨q,hq,rfl⟩:=Ayw.1 hx
    have:=(h q hq).1
    omega
  have b2:((zs.map (·.2)).map wV).sum<=(zs.map (·.2)).length*40000000000:=ZjH fun x hx=>by
    obtain ⟨q,hq,rfl⟩:=Ayw.1 hx
    exact (h q hq).2
  rw [Ayx] at b1 b2
  have k1:zs.length*123<=13*123:=Aqz _ hz
  have k2:zs.length*40000000000<=13*40000000000:=Aqz _ hz
  unfold Zhj wV
  dsimp only
  rw [h1,h2]
  simp only [Ays]
  omega
theorem ZAo {s:BL} (h:s.length<=20000000):wV (ZdY s)<=40000000000:=by
  unfold ZdY wV
  simp only [nsW,pw]
  omega
theorem ZEH {n:Int} (h:Zim n):wV (ZcI n)<=40000000000:=by
  have:=Lib.itoa_length_le n h.1 h.2
  unfold ZcI wV
  simp only [nsW,pw]
  omega
theorem Zky (b:Bool):wV (ZdA b)<=40000000000:=by
  unfold ZdA wV
  simp only [nsW,pw,Ays]
  omega
theorem ZqL {ws:List BL} (h:∀ w,w∈ws->w.length<=20) (n:Nat):wV (Zia ws n)<=40000000000:=by
  refine ZAo ?_
  rw [Avb]
  cases hq:ws[if n<ws.length then n else 0]? with
  | none=>exact Ayk _
  | some w=>have:=h w (Axq hq);show w.length<=_;omega
theorem Zw6 (zs:List (BL × JV)) (q:BL × JV):Zhj (zs++[q])=⟨7,(Zhj zs).t,(Zhj zs).ns++[q.1],(Zhj zs).sub.snoc q.2⟩:=by
  have js:∀ (l:List JV) (v:JV),ZcL (l++[v])=(ZcL l).snoc v:=fun l v=>by
    induction l with
    | nil=>rfl
    | cons a l ih=>simp only [Ayp,ZcL,JL.snoc,ih]
  unfold Zhj
  simp only [Ayy,Awo,Azz,js]
theorem Zpr:∀ w,w∈Zg8->w.length<=20:=by decide +kernel
theorem Zpu:∀ w,w∈Zg9->w.length<=20:=by decide +kernel
theorem Zp2:∀ w,w∈Zhf->w.length<=20:=by decide +kernel
end Go.Js
namespace Go.Proofs.YtpjbjdheeemdiaaGreatDoor
open Go Go.Fw Go.Js
def ZrQ (h:Zc) (o lo:Nat) (zs:List (BL × JV)):Prop:=∃ z T,obj h o=some (.cells (Xl z).toArray T (0,0))/\Zam h (fun j=>lo<=j/\j<sz h/\j≠o) z (Zhj zs)/\(∀ q,q∈zs->okM q)/\lo<=o
theorem ZrQ.lt {h:Zc} {o lo:Nat} {zs:List (BL × JV)} (p:ZrQ h o lo zs):o<sz h:=by obtain ⟨z,T,c,_⟩:=p;exact ZaJ c
theorem ZrQ.ge {h:Zc} {o lo:Nat} {zs:List (BL × JV)} (p:ZrQ h o lo zs):lo<=o:=by obtain ⟨z,T,c,_,_,a⟩:=p;exact a
theorem ZrQ.ext {h h':Zc} {o lo:Nat} {zs:List (BL × JV)} (p:ZrQ h o lo zs) (e:Ext h h'):ZrQ h' o lo zs:=by
  obtain ⟨z,T,c,v,k,a⟩:=p
  have:=e.size
  have s0:sz h=h.size:=rfl
  have s1:sz h'=h'.size:=rfl
  exact ⟨z,T,Zl c e,v.keep (fun b _ hl=>Zq e hl) fun b hb=>⟨hb.1,by have:=hb.2.1;omega,hb.2.2⟩,k,a⟩
section
variable {h:Zc}
theorem Zdf {K:Option Addr->HP} (hk:∀ o h',Ext h h'->ZrQ h' o (sz h) []->K (At o) h'):ZS K h:=by
  unfold ZS ZdS
  refine YX fun h1 c1 e1 z1=>hk _ h1 e1 ⟨(7,ByteArray.mk #[],⟨none,0,0⟩,⟨none,0,0⟩,()),_,c1,?_,(fun q hq=>by cases hq),Aqo _⟩
  exact ⟨rfl,rfl,Row.nil _ _,ZcG,[],Row.nil _ _,ZcG,rfl⟩
theorem ZcK {o lo:Nat} {zs:List (BL × JV)} {nm:BL} {zv:VT5} {p:JV} {S:Nat->Prop} (ob:ZrQ h o lo zs) (hp:Zam h S zv p) (hS:∀ j,S j->j<sz h) (hz:zs.length<=12) (hm:okM (nm,p)) {K:Option Addr->HP}
    (hk:∀ h',ZrQ h' o lo (zs++[(nm,p)])->Upd (· = o) h h'->K (At o) h'):ZA (At o) (Zk nm) zv K h:=by
  obtain ⟨z,T,c,v,k,lo_o⟩:=ob
  unfold ZA Zcy
  refine YX fun h1 c1 e1 z1=>?_
  have s0:sz h=h.size:=rfl
  have s1:sz h1=h1.size:=rfl
  have ol:=ZaJ c
  have cp:obj h1 h.size=some (.cells (Xl zv).toArray 33 (0,0)):=c1
  have co:=Zl c e1
  have hk':∀ q,q∈zs++[(nm,p)]->okM q:=fun q hq=>by
    rcases Axz.1 hq with hq | hq
    ·exact k q hq
    ·rw [Axu] at hq;subst hq;exact hm
  have hw:wV (Zhj (zs++[(nm,p)]))<=600000000000:=Zv5 (by simp;omega) hk'
  have es:=Zw6 zs (nm,p)
  refine Zu (rI (Zb co rfl) (rS (Zb co rfl) (rL (s:=z.2.2.1) (Zb co rfl) (rL (s:=z.2.2.2.1) (Zb co rfl) (rI (Zb cp rfl) (rS (Zb cp rfl) (rL (s:=zv.2.2.1) (Zb cp rfl) (rL (s:=zv.2.2.2.1) (Zb cp rfl) ?_))))))))
  refine Zzm (S:=fun j=>j<sz h1) (v:=Zhj zs) (p:=p) (nm:=nm) (v.keep (fun b _ hl=>Zq e1 hl) fun b hb=>by have:=hb.2.1;omega) (hp.keep (fun b _ hl=>Zq e1 hl) fun b hb=>by have:=hS b hb;omega) (fun _ h=>h) rfl (by rw [es] at hw;exact Aqp hw (by decide)) fun z2 h2 e2 hz2=>?_
  rw [<- es] at hz2
  have e02:=e1.trans e2
  have s2:sz h2=h2.size:=rfl
  have:=e02.size
  refine Zu (ZeW (Zl co e2) (by show 4<=4;omega) rfl fun h3 c3 u3 z3=>hk h3 ⟨z2,T,c3,?_,hk',lo_o⟩ (UN e02 u3))
  exact hz2.keep (fun b hb hl=>Zo u3 hl fun e=>by have:=hb.1;omega) fun b hb=>⟨by have:=hb.1;omega,by have:=hb.2;omega,by have:=hb.1;omega⟩
theorem ZgE {o lo:Nat} {zs:List (BL × JV)} {nm s:BL} (ob:ZrQ h o lo zs) (hz:zs.length<=12) (hn:nm.length<=20) (hs:s.length<=20000000) {K:Option Addr->HP} (hk:∀ h',ZrQ h' o lo (zs++[(nm,ZdY s)])->Upd (· = o) h h'->K (At o) h') :
    ZU (At o) (Zk nm) (Zk s) K h:=by
  unfold ZU Zb2
  refine ZiC fun h1 e1=>ZcK (S:=fun _=>False) (zv:=(5,Zk s,⟨none,0,0⟩,⟨none,0,0⟩,())) (p:=ZdY s) (ob.ext e1) ⟨rfl,rfl,Row.nil _ _,ZcG,[],Row.nil _ _,ZcG,rfl⟩ (fun _ h=>h.elim) hz ⟨hn,ZAo hs⟩ fun h2 o2 u2=>hk h2 o2 (UN e1 u2)
theorem Xn {o lo:Nat} {zs:List (BL × JV)} {nm:BL} {n:Int} (ob:ZrQ h o lo zs) (hz:zs.length<=12) (hn:nm.length<=20) (hr:Zim n) (ht:ZaN h) {K:Option Addr->HP} (hk:∀ h',ZrQ h' o lo (zs++[(nm,ZcI n)])->Upd (· = o) h h'->K (At o) h') :
    ZJ (At o) (Zk nm) n K h:=by
  unfold ZJ Zbq
  refine ZtQ hr ht fun h1 e1=>ZcK (S:=fun _=>False) (zv:=(4,Zk (Lib.itoa n),⟨none,0,0⟩,⟨none,0,0⟩,())) (p:=ZcI n) (ob.ext e1) ⟨rfl,rfl,Row.nil _ _,ZcG,[],Row.nil _ _,ZcG,rfl⟩ (fun _ h=>h.elim) hz ⟨hn,ZEH hr⟩ fun h2 o2 u2=>hk h2 o2 (UN e1 u2)
theorem ZgD {b:Bool} {K:VT5->HP} (hk:∀ z h',Ext h h'->Zam h' (fun _=>False) z (ZdA b)->K z h'):Zai b K h:=by
  unfold Zai ZeK
  refine YX fun h1 c1 e1 z1=>?_
  have c1':obj h1 h.size=some (.cells zV.toArray 33 (0,0)):=c1
  have s0:sz h=h.size:=rfl
  have nil:∀ {h':Zc} (k:Nat),Zam h' (fun _=>False) ((k:Int),ByteArray.mk #[],⟨none,0,0⟩,⟨none,0,0⟩,()) ⟨k,[],[],.nil⟩:=fun {h'} k=>⟨rfl,rfl,Row.nil _ _,ZcG,[],Row.nil _ _,ZcG,rfl⟩
  cases b with
  | true=>exact Zn rfl (Zbc (x:=⟨none,0,0⟩) (y:=⟨none,0,0⟩) c1' rfl fun h3 u3 z3=>hk _ h3 (e1.updS u3 fun j hj=>by omega) (nil 3))
  | false=>exact Zm rfl (Zbc (x:=⟨none,0,0⟩) (y:=⟨none,0,0⟩) c1' rfl fun h3 u3 z3=>hk _ h3 (e1.updS u3 fun j hj=>by omega) (nil 2))
theorem ZjB {ws:List BL} {w:Sl} (hr:Row h w 1 (ws.map sV)) (h0:0<ws.length) {n:Nat} (hn:n<256) {K:VT5->HP} (hk:∀ z h',Ext h h'->Zam h' (fun _=>False) z (Zia ws n)->K z h'):Xf w n K h:=by
  unfold Xf Zcv
  refine YX fun h1 c1 e1 z1=>?_
  have c1':obj h1 h.size=some (.cells zV.toArray 33 (0,0)):=c1
  have s0:sz h=h.size:=rfl
  have hl:=ZaQ hr
  refine Z0 (fun p h'=>h'=h1/\p.1=((if n<ws.length then n else 0:Nat):Int)) ?_ ?_
  ·rintro ⟨i,u⟩ h5 ⟨rfl,hi⟩
   dsimp only at hi ⊢
   have hlt:(if n<ws.length then n else 0)<ws.length:=by split<;>omega
   refine ZfV (hr.ext e1) (i:=if n<ws.length then n else 0) (t:=ws.getD (if n<ws.length then n else 0) []) (by rw [Avb,Ayb hlt];rfl) hi ?_
   refine ZiC fun h8 e8=>Zbc (x:=⟨none,0,0⟩) (y:=⟨none,0,0⟩) (Zl c1' e8) rfl fun h3 u3 z3=>hk _ h3 ((e1.trans e8).updS u3 fun j hj=>by omega) ?_
   exact ⟨rfl,rfl,Row.nil _ _,ZcG,[],Row.nil _ _,ZcG,rfl⟩
  ·rw [Yt (by omega) (by omega)]
   refine Zt (fun h1'=>Za ⟨rfl,?_⟩) fun h1'=>⟨rfl,?_⟩
   ·dsimp only
    rw [if_neg (by omega)]
    rfl
   ·dsimp only
    rw [if_pos (by omega)]
theorem YE {b i:Nat} {l:List Value} {T:TypeId} {f:Nat × Nat} {v:Value} (c:obj h b=some (.cells l.toArray T f)) (hv:l[i]?=some v):Z9 h [(b,i,v)]:=⟨by rw [X6];exact Zb c hv,trivial⟩
end
end Go.Proofs.YtpjbjdheeemdiaaGreatDoor
namespace Go.Proofs.YtpjbjdheeemdiaaGreatDoor
open Go Go.Fw Go.Js
theorem ZmE:tx "cluster" = [99,108,117,115,116,101,114]:=by kernel_rfl
theorem ZfJ:tx "count" = [99,111,117,110,116]:=by kernel_rfl
theorem ZAr:tx "cpu" = [99,112,117]:=by kernel_rfl
theorem ZkY:tx "fallback" = [102,97,108,108,98,97,99,107]:=by kernel_rfl
theorem Zr6:tx "grade" = [103,114,97,100,101]:=by kernel_rfl
theorem ZEM:tx "id" = [105,100]:=by kernel_rfl
theorem Zr5:tx "index" = [105,110,100,101,120]:=by kernel_rfl
theorem Zr4:tx "items" = [105,116,101,109,115]:=by kernel_rfl
theorem Zr3:tx "least" = [108,101,97,115,116]:=by kernel_rfl
theorem Zwm:tx "load" = [108,111,97,100]:=by kernel_rfl
theorem Zph:tx "origin" = [111,114,105,103,105,110]:=by kernel_rfl
theorem ZmD:tx "origins" = [111,114,105,103,105,110,115]:=by kernel_rfl
theorem ZAq:tx "qps" = [113,112,115]:=by kernel_rfl
theorem Zr2:tx "queue" = [113,117,101,117,101]:=by kernel_rfl
theorem ZmC:tx "recover" = [114,101,99,111,118,101,114]:=by kernel_rfl
theorem ZAp:tx "ref" = [114,101,102]:=by kernel_rfl
theorem Zcg:tx "resource" = [114,101,115,111,117,114,99,101]:=by kernel_rfl
theorem ZEL:tx "rt" = [114,116]:=by kernel_rfl
theorem ZmB:tx "seconds" = [115,101,99,111,110,100,115]:=by kernel_rfl
theorem Zr1:tx "shape" = [115,104,97,112,101]:=by kernel_rfl
theorem Zwl:tx "slow" = [115,108,111,119]:=by kernel_rfl
theorem ZkX:tx "strategy" = [115,116,114,97,116,101,103,121]:=by kernel_rfl
theorem ZhZ:tx "threads" = [116,104,114,101,97,100,115]:=by kernel_rfl
theorem Zr0:tx "value" = [118,97,108,117,101]:=by kernel_rfl
theorem Zwj:tx "warm" = [119,97,114,109]:=by kernel_rfl
theorem ZrZ:tx "white" = [119,104,105,116,101]:=by kernel_rfl
theorem Zpg:tx "window" = [119,105,110,100,111,119]:=by kernel_rfl
theorem Zey (l:List JV) (v:JV):ZcL (l++[v])=(ZcL l).snoc v:=by
  induction l with
  | nil=>rfl
  | cons a l ih=>simp only [Ayp,ZcL,JL.snoc,ih]
theorem Zj2 {h0 H:Zc} {o lo:Nat} {zs:List (BL × JV)} {v:JV} (ob:ZrQ H o lo zs) (hlo:sz h0<=lo) (e:Ext h0 H) (hv:v=Zhj zs) {K:Option Addr->HP} (hk:∀ o z T h',Ext h0 h'->obj h' o=some (.cells (Xl z).toArray T (0,0))->Zam h' (fr h' (sz h0)) z v->K (At o) h'):K (At o) H:=by
  obtain ⟨z,T,c,w,_,_⟩:=ob
  subst hv
  exact hk o z T H e c (w.keep (fun _ _ _=>rfl) fun b hb=>⟨by have:=hb.1;omega,hb.2.1⟩)
theorem Zy0 {h0:Zc} {f:FlowP} (hx:f.res.length<=20000000/\f.org.length<=20000000/\f.ref.length<=20000000) (hr:f.rng) (ht:ZaN h0) {K:Option Addr->HP} (hk:∀ o z T h',Ext h0 h'->obj h' o=some (.cells (Xl z).toArray T (0,0))->Zam h' (fr h' (sz h0)) z (Zd0 f)->K (At o) h'):Zcp (ZzT f) K h0:=by
  unfold Zcp Zfx
  refine YX fun h1 c1 eH z1=>?_
  have s0:sz h0=h0.size:=rfl
  have s1:sz h1=h1.size:=rfl
  have cb:obj h1 h0.size=some (.cells (Zdx f).toArray 75 (0,0)):=c1
  refine rS (Zb cb rfl) ?_
  refine rS (Zb cb rfl) ?_
  refine rBl (Zb cb rfl) ?_
  refine rI (Zb cb rfl) ?_
  refine Zdf fun o g2 e2 ob=>?_
  have cb:=Zl cb e2
  have eH:=eH.trans e2
  have og:sz h1<=o:=ob.ge
  refine ⟨YE cb rfl,?_⟩
  refine ⟨YE cb rfl,?_⟩
  refine ⟨YE cb rfl,?_⟩
  refine ⟨YE cb rfl,?_⟩
  refine ZgE (nm:=[114,101,115,111,117,114,99,101]) (s:=f.res) ob (show 0<=12 by decide) (by decide) hx.1 fun g3 ob u3=>?_
  have cb:=ZB cb u3 (by omega)
  have eH:=eH.updS u3 fun j hj=>by omega
  refine ⟨YE cb rfl,?_⟩
  refine ⟨YE cb rfl,?_⟩
  refine ⟨YE cb rfl,?_⟩
  refine ZgE (nm:=[111,114,105,103,105,110]) (s:=f.org) ob (show 1<=12 by decide) (by decide) hx.2.1 fun g4 ob u4=>?_
  have cb:=ZB cb u4 (by omega)
  have eH:=eH.updS u4 fun j hj=>by omega
  refine ⟨YE cb rfl,?_⟩
  refine ⟨YE cb rfl,?_⟩
  refine ZgD fun z g5 e5 hz=>?_
  have cb:=Zl cb e5
  have eH:=eH.trans e5
  have ob:=ob.ext e5
  refine ⟨YE cb rfl,?_⟩
  refine ZcK (nm:=[116,104,114,101,97,100,115]) ob hz (fun _ h=>h.elim) (show 2<=12 by decide) ⟨show 7<=20 by decide,Zky _⟩ fun g6 ob u6=>?_
  have cb:=ZB cb u6 (by omega)
  have eH:=eH.updS u6 fun j hj=>by omega
  refine ⟨YE cb rfl,?_⟩
  refine Xn (nm:=[99,111,117,110,116]) ob (show 3<=12 by decide) (by decide) hr.1 (ht.ext eH) fun g7 ob u7=>?_
  have cb:=ZB cb u7 (by omega)
  have eH:=eH.updS u7 fun j hj=>by omega
  refine rI (Zb cb rfl) ?_
  refine rS (Zb cb rfl) ?_
  refine rI (Zb cb rfl) ?_
  refine Zr9 fun w g8 e8 hw _=>?_
  have cb:=Zl cb e8
  have eH:=eH.trans e8
  have ob:=ob.ext e8
  refine ⟨YE cb rfl,?_⟩
  refine ⟨YE cb rfl,?_⟩
  refine ⟨YE cb rfl,?_⟩
  refine ZjB hw (by decide) hr.2.1 fun z g9 e9 hz=>?_
  have cb:=Zl cb e9
  have eH:=eH.trans e9
  have ob:=ob.ext e9
  refine ⟨YE cb rfl,?_⟩
  refine ⟨YE cb rfl,?_⟩
  refine ZcK (nm:=[115,116,114,97,116,101,103,121]) ob hz (fun _ h=>h.elim) (show 4<=12 by decide) ⟨show 8<=20 by decide,ZqL Zpr _⟩ fun g10 ob u10=>?_
  have cb:=ZB cb u10 (by omega)
  have eH:=eH.updS u10 fun j hj=>by omega
  refine ⟨YE cb rfl,?_⟩
  refine ⟨YE cb rfl,?_⟩
  refine ZgE (nm:=[114,101,102]) (s:=f.ref) ob (show 5<=12 by decide) (by decide) hx.2.2 fun g11 ob u11=>?_
  have cb:=ZB cb u11 (by omega)
  have eH:=eH.updS u11 fun j hj=>by omega
  refine ⟨YE cb rfl,?_⟩
  refine Zsd fun w g12 e12 hw _=>?_
  have cb:=Zl cb e12
  have eH:=eH.trans e12
  have ob:=ob.ext e12
  refine ⟨YE cb rfl,?_⟩
  refine ZjB hw (by decide) hr.2.2.1 fun z g13 e13 hz=>?_
  have cb:=Zl cb e13
  have eH:=eH.trans e13
  have ob:=ob.ext e13
  refine ZcK (nm:=[115,104,97,112,101]) ob hz (fun _ h=>h.elim) (show 6<=12 by decide) ⟨show 5<=20 by decide,ZqL Zpu _⟩ fun g14 ob u14=>?_
  have cb:=ZB cb u14 (by omega)
  have eH:=eH.updS u14 fun j hj=>by omega
  refine rI (Zb cb rfl) ?_
  refine rI (Zb cb rfl) ?_
  refine Xn (nm:=[119,97,114,109]) ob (show 7<=12 by decide) (by decide) hr.2.2.2.1 (ht.ext eH) fun g15 ob u15=>?_
  have cb:=ZB cb u15 (by omega)
  have eH:=eH.updS u15 fun j hj=>by omega
  refine ⟨YE cb rfl,?_⟩
  refine Xn (nm:=[113,117,101,117,101]) ob (show 8<=12 by decide) (by decide) hr.2.2.2.2.1 (ht.ext eH) fun g16 ob u16=>?_
  have cb:=ZB cb u16 (by omega)
  have eH:=eH.updS u16 fun j hj=>by omega
  refine rBl (Zb cb rfl) ?_
  refine rI (Zb cb rfl) ?_
  refine rBl (Zb cb rfl) ?_
  refine ZgD fun z g17 e17 hz=>?_
  have cb:=Zl cb e17
  have eH:=eH.trans e17
  have ob:=ob.ext e17
  refine ⟨YE cb rfl,?_⟩
  refine ⟨YE cb rfl,?_⟩
  refine ZcK (nm:=[99,108,117,115,116,101,114]) ob hz (fun _ h=>h.elim) (show 9<=12 by decide) ⟨show 7<=20 by decide,Zky _⟩ fun g18 ob u18=>?_
  have cb:=ZB cb u18 (by omega)
  have eH:=eH.updS u18 fun j hj=>by omega
  refine ⟨YE cb rfl,?_⟩
  refine ⟨YE cb rfl,?_⟩
  refine Xn (nm:=[105,100]) ob (show 10<=12 by decide) (by decide) hr.2.2.2.2.2 (ht.ext eH) fun g19 ob u19=>?_
  have cb:=ZB cb u19 (by omega)
  have eH:=eH.updS u19 fun j hj=>by omega
  refine ⟨YE cb rfl,?_⟩
  refine ZgD fun z g20 e20 hz=>?_
  have cb:=Zl cb e20
  have eH:=eH.trans e20
  have ob:=ob.ext e20
  refine ZcK (nm:=[102,97,108,108,98,97,99,107]) ob hz (fun _ h=>h.elim) (show 11<=12 by decide) ⟨show 8<=20 by decide,Zky _⟩ fun g21 ob u21=>?_
  have cb:=ZB cb u21 (by omega)
  have eH:=eH.updS u21 fun j hj=>by omega
  exact Zj2 ob (by omega) eH (by rw [show (Zd0 f)=Zhj [([114,101,115,111,117,114,99,101],ZdY f.res),([111,114,105,103,105,110],ZdY f.org),([116,104,114,101,97,100,115],ZdA f.thr),([99,111,117,110,116],ZcI f.cnt),([115,116,114,97,116,101,103,121],Zia Zg8 f.strat),([114,101,102],ZdY f.ref),([115,104,97,112,101],Zia Zg9 f.shape),([119,97,114,109],ZcI f.warm),([113,117,101,117,101],ZcI f.queue),([99,108,117,115,116,101,114],ZdA f.clu),([105,100],ZcI f.id),([102,97,108,108,98,97,99,107],ZdA f.fb)] from by unfold Zd0;rw [Zcg,Zph,ZhZ,ZfJ,ZkX,ZAp,Zr1,Zwj,Zr2,ZmE,ZEM,ZkY]];rfl) hk
theorem Ztn {h0:Zc} {f:YJ} (hx:f.res.length<=20000000) (hr:f.rng) (ht:ZaN h0) {K:Option Addr->HP} (hk:∀ o z T h',Ext h0 h'->obj h' o=some (.cells (Xl z).toArray T (0,0))->Zam h' (fr h' (sz h0)) z (Za7 f)->K (At o) h'):Zbg (Zs7 f) K h0:=by
  unfold Zbg Zea
  refine YX fun h1 c1 eH z1=>?_
  have s0:sz h0=h0.size:=rfl
  have s1:sz h1=h1.size:=rfl
  have cb:obj h1 h0.size=some (.cells (Zcc f).toArray 80 (0,0)):=c1
  refine rS (Zb cb rfl) ?_
  refine rI (Zb cb rfl) ?_
  refine rI (Zb cb rfl) ?_
  refine Zdf fun o g2 e2 ob=>?_
  have cb:=Zl cb e2
  have eH:=eH.trans e2
  have og:sz h1<=o:=ob.ge
  refine ⟨YE cb rfl,?_⟩
  refine ⟨YE cb rfl,?_⟩
  refine ⟨YE cb rfl,?_⟩
  refine ZgE (nm:=[114,101,115,111,117,114,99,101]) (s:=f.res) ob (show 0<=12 by decide) (by decide) hx fun g3 ob u3=>?_
  have cb:=ZB cb u3 (by omega)
  have eH:=eH.updS u3 fun j hj=>by omega
  refine ⟨YE cb rfl,?_⟩
  refine ⟨YE cb rfl,?_⟩
  refine ZsO fun w g4 e4 hw _=>?_
  have cb:=Zl cb e4
  have eH:=eH.trans e4
  have ob:=ob.ext e4
  refine ⟨YE cb rfl,?_⟩
  refine ⟨YE cb rfl,?_⟩
  refine ZjB hw (by decide) hr.1 fun z g5 e5 hz=>?_
  have cb:=Zl cb e5
  have eH:=eH.trans e5
  have ob:=ob.ext e5
  refine ⟨YE cb rfl,?_⟩
  refine ZcK (nm:=[103,114,97,100,101]) ob hz (fun _ h=>h.elim) (show 1<=12 by decide) ⟨show 5<=20 by decide,ZqL Zp2 _⟩ fun g6 ob u6=>?_
  have cb:=ZB cb u6 (by omega)
  have eH:=eH.updS u6 fun j hj=>by omega
  refine ⟨YE cb rfl,?_⟩
  refine Xn (nm:=[99,111,117,110,116]) ob (show 2<=12 by decide) (by decide) hr.2.1 (ht.ext eH) fun g7 ob u7=>?_
  have cb:=ZB cb u7 (by omega)
  have eH:=eH.updS u7 fun j hj=>by omega
  refine rI (Zb cb rfl) ?_
  refine rI (Zb cb rfl) ?_
  refine rI (Zb cb rfl) ?_
  refine rI (Zb cb rfl) ?_
  refine Xn (nm:=[115,108,111,119]) ob (show 3<=12 by decide) (by decide) hr.2.2.1 (ht.ext eH) fun g8 ob u8=>?_
  have cb:=ZB cb u8 (by omega)
  have eH:=eH.updS u8 fun j hj=>by omega
  refine ⟨YE cb rfl,?_⟩
  refine ⟨YE cb rfl,?_⟩
  refine ⟨YE cb rfl,?_⟩
  refine Xn (nm:=[108,101,97,115,116]) ob (show 4<=12 by decide) (by decide) hr.2.2.2.1 (ht.ext eH) fun g9 ob u9=>?_
  have cb:=ZB cb u9 (by omega)
  have eH:=eH.updS u9 fun j hj=>by omega
  refine ⟨YE cb rfl,?_⟩
  refine ⟨YE cb rfl,?_⟩
  refine Xn (nm:=[119,105,110,100,111,119]) ob (show 5<=12 by decide) (by decide) hr.2.2.2.2.1 (ht.ext eH) fun g10 ob u10=>?_
  have cb:=ZB cb u10 (by omega)
  have eH:=eH.updS u10 fun j hj=>by omega
  refine ⟨YE cb rfl,?_⟩
  refine Xn (nm:=[114,101,99,111,118,101,114]) ob (show 6<=12 by decide) (by decide) hr.2.2.2.2.2 (ht.ext eH) fun g11 ob u11=>?_
  have cb:=ZB cb u11 (by omega)
  have eH:=eH.updS u11 fun j hj=>by omega
  exact Zj2 ob (by omega) eH (by rw [show (Za7 f)=Zhj [([114,101,115,111,117,114,99,101],ZdY f.res),([103,114,97,100,101],Zia Zhf f.grade),([99,111,117,110,116],ZcI f.cnt),([115,108,111,119],ZcI f.slow),([108,101,97,115,116],ZcI f.least),([119,105,110,100,111,119],ZcI f.window),([114,101,99,111,118,101,114],ZcI f.recover)] from by unfold Za7;rw [Zcg,Zr6,ZfJ,Zwl,Zr3,Zpg,ZmC]];rfl) hk
theorem Ztl {h0:Zc} {f:Xi} (hr:f.rng) (ht:ZaN h0) {K:Option Addr->HP} (hk:∀ o z T h',Ext h0 h'->obj h' o=some (.cells (Xl z).toArray T (0,0))->Zam h' (fr h' (sz h0)) z (XO f)->K (At o) h'):Zbd (ZnU f) K h0:=by
  unfold Zbd Zd7
  refine YX fun h1 c1 eH z1=>?_
  have s0:sz h0=h0.size:=rfl
  have s1:sz h1=h1.size:=rfl
  have cb:obj h1 h0.size=some (.cells (Zbw f).toArray 91 (0,0)):=c1
  refine rI (Zb cb rfl) ?_
  refine rI (Zb cb rfl) ?_
  refine rI (Zb cb rfl) ?_
  refine rI (Zb cb rfl) ?_
  refine rI (Zb cb rfl) ?_
  refine Zdf fun o g2 e2 ob=>?_
  have cb:=Zl cb e2
  have eH:=eH.trans e2
  have og:sz h1<=o:=ob.ge
  refine ⟨YE cb rfl,?_⟩
  refine ⟨YE cb rfl,?_⟩
  refine ⟨YE cb rfl,?_⟩
  refine ⟨YE cb rfl,?_⟩
  refine ⟨YE cb rfl,?_⟩
  refine Xn (nm:=[113,112,115]) ob (show 0<=12 by decide) (by decide) hr.1 (ht.ext eH) fun g3 ob u3=>?_
  have cb:=ZB cb u3 (by omega)
  have eH:=eH.updS u3 fun j hj=>by omega
  refine ⟨YE cb rfl,?_⟩
  refine ⟨YE cb rfl,?_⟩
  refine ⟨YE cb rfl,?_⟩
  refine ⟨YE cb rfl,?_⟩
  refine Xn (nm:=[116,104,114,101,97,100,115]) ob (show 1<=12 by decide) (by decide) hr.2.1 (ht.ext eH) fun g4 ob u4=>?_
  have cb:=ZB cb u4 (by omega)
  have eH:=eH.updS u4 fun j hj=>by omega
  refine ⟨YE cb rfl,?_⟩
  refine ⟨YE cb rfl,?_⟩
  refine ⟨YE cb rfl,?_⟩
  refine Xn (nm:=[114,116]) ob (show 2<=12 by decide) (by decide) hr.2.2.1 (ht.ext eH) fun g5 ob u5=>?_
  have cb:=ZB cb u5 (by omega)
  have eH:=eH.updS u5 fun j hj=>by omega
  refine ⟨YE cb rfl,?_⟩
  refine ⟨YE cb rfl,?_⟩
  refine Xn (nm:=[108,111,97,100]) ob (show 3<=12 by decide) (by decide) hr.2.2.2.1 (ht.ext eH) fun g6 ob u6=>?_
  have cb:=ZB cb u6 (by omega)
  have eH:=eH.updS u6 fun j hj=>by omega
  refine ⟨YE cb rfl,?_⟩
  refine Xn (nm:=[99,112,117]) ob (show 4<=12 by decide) (by decide) hr.2.2.2.2 (ht.ext eH) fun g7 ob u7=>?_
  have cb:=ZB cb u7 (by omega)
  have eH:=eH.updS u7 fun j hj=>by omega
  exact Zj2 ob (by omega) eH (by rw [show (XO f)=Zhj [([113,112,115],ZcI f.qps),([116,104,114,101,97,100,115],ZcI f.threads),([114,116],ZcI f.rt),([108,111,97,100],ZcI f.load),([99,112,117],ZcI f.cpu)] from by unfold XO;rw [ZAq,ZhZ,ZEL,Zwm,ZAr]];rfl) hk
theorem ZyZ {h0:Zc} {f:BL × Int} (hx:f.1.length<=20000000) (hr:Zim f.2) (ht:ZaN h0) {K:Option Addr->HP} (hk:∀ o z T h',Ext h0 h'->obj h' o=some (.cells (Xl z).toArray T (0,0))->Zam h' (fr h' (sz h0)) z (Zez f)->K (At o) h'):ZbU (Zk f.1,f.2,()) K h0:=by
  unfold ZbU ZeL
  refine YX fun h1 c1 eH z1=>?_
  have s0:sz h0=h0.size:=rfl
  have s1:sz h1=h1.size:=rfl
  have cb:obj h1 h0.size=some (.cells [sV f.1,i64 f.2].toArray 203 (0,0)):=c1
  refine rS (Zb cb rfl) ?_
  refine rI (Zb cb rfl) ?_
  refine Zdf fun o g2 e2 ob=>?_
  have cb:=Zl cb e2
  have eH:=eH.trans e2
  have og:sz h1<=o:=ob.ge
  refine ⟨YE cb rfl,?_⟩
  refine ⟨YE cb rfl,?_⟩
  refine ZgE (nm:=[118,97,108,117,101]) (s:=f.1) ob (show 0<=12 by decide) (by decide) hx fun g3 ob u3=>?_
  have cb:=ZB cb u3 (by omega)
  have eH:=eH.updS u3 fun j hj=>by omega
  refine ⟨YE cb rfl,?_⟩
  refine Xn (nm:=[99,111,117,110,116]) ob (show 1<=12 by decide) (by decide) hr (ht.ext eH) fun g4 ob u4=>?_
  have cb:=ZB cb u4 (by omega)
  have eH:=eH.updS u4 fun j hj=>by omega
  exact Zj2 ob (by omega) eH (by rw [show (Zez f)=Zhj [([118,97,108,117,101],ZdY f.1),([99,111,117,110,116],ZcI f.2)] from by unfold Zez;rw [Zr0,ZfJ]];rfl) hk
theorem ZnI {h0:Zc} {x:Sl} {l:List FlowP} {S:Nat->Prop} (hr:Row h0 x 12 (l.flatMap Zdx)) (hin:inS S x) (hS:∀ j,S j->j<sz h0) (hl:∀ p,p∈l->(p.res.length<=20000000/\p.org.length<=20000000/\p.ref.length<=20000000)/\p.rng) (hw:wV (ZcB (l.map fun p=>Zd0 p))<=40000000000) (ht:ZaN h0) {K:VT5->HP}
    (hk:∀ z h',Ext h0 h'->Zam h' (fr h' (sz h0)) z (ZcB (l.map fun p=>Zd0 p))->K z h'):Yf x K h0:=by
  unfold Yf Y1
  refine YX fun h1 c1 e1 z1=>?_
  have s0:sz h0=h0.size:=rfl
  have s1:sz h1=h1.size:=rfl
  have c1':obj h1 h0.size=some (.cells zV.toArray 33 (0,0)):=c1
  have hlen:=ZaA (c:=Zdx) (n:=12) (fun _=>rfl) hr (by decide)
  have big:=hr.big
  have cap:=hr.cap
  have hpw:pw (ZcL (l.map fun p=>Zd0 p))<=40000000000:=by simp only [wV,ZcB] at hw;omega
  have hcnt:l.length<=40000000000:=by have:=ZdN (ZcL (l.map fun p=>Zd0 p));rw [ZaW,Ayx] at this;omega
  refine Zv (fun p h'=>∃ (i:Nat) (vs:List Value),p.2.1=i/\i<=l.length/\Own h' (sz h1) p.1 4 vs/\Xm h' (fun j=>sz h1<=j/\j<sz h'/\p.1.blk≠some j) (ZcL ((l.take i).map fun p=>Zd0 p)) vs/\Ext h1 h') (fun p _=>(l.length - p.2.1).toNat)
    ⟨0,[],rfl,Ayk _,Own.nil _ _ _,rfl,Ext.refl _⟩ ?_
  rintro ⟨out,i_,u⟩ h3 ⟨i,vs,hi,hil,own,lst,e3⟩
  dsimp only at hi own lst ⊢
  subst hi
  have s3:sz h3=h3.size:=rfl
  have e03:=e1.trans e3
  have hol:out.len=i:=by have:=own.len;have:=lst.len;rw [ZaW,Ayx,Ayo] at this;omega
  have olt:∀ {j:Nat},out.blk=some j->sz h1<=j/\j<sz h3:=fun e=>own.lt e
  refine Zt (fun hlt=>?_) fun hge=>?_
  ·have hia:i<l.length:=by omega
   obtain ⟨p,hp⟩:∃ p,l[i]?=some p:=⟨l[i],Ayb hia⟩
   have hpm:=hl p (Axq hp)
   refine ZbN (c:=Zdx) (fun _=>rfl) (Yi hr hin fun b _ hb=>Zq e03 hb) (by decide) hp rfl fun b o g=>?_
   refine ⟨_,g 0 _ rfl,_,g 1 _ rfl,_,g 2 _ rfl,_,g 3 _ rfl,_,g 4 _ rfl,_,g 5 _ rfl,_,g 6 _ rfl,_,g 7 _ rfl,_,g 8 _ rfl,_,g 9 _ rfl,_,g 10 _ rfl,_,g 11 _ rfl,YX fun h17 c17 e17 z17=>ZeW c17 (by show 12<=12;omega) rfl fun h18 c18 u18 z18=>?_⟩
   have s17:sz h17=h17.size:=rfl
   have s18:sz h18=h18.size:=rfl
   have e318:Ext h3 h18:=e17.updS u18 fun j hj=>by subst hj;exact Aqo _
   refine rS (Zb c18 rfl) (rS (Zb c18 rfl) (rBl (Zb c18 rfl) (rI (Zb c18 rfl) (rI (Zb c18 rfl) (rS (Zb c18 rfl) (rI (Zb c18 rfl) (rI (Zb c18 rfl) (rI (Zb c18 rfl) (rBl (Zb c18 rfl) (rI (Zb c18 rfl) (rBl (Zb c18 rfl) (?_))))))))))))
   have t18:ZaN h18:=ht.ext (e03.trans e318)
   refine Zy0 (f:=p) hpm.1 hpm.2 t18 fun o z T h32 e32 c32 hz=>?_
   have s32:sz h32=h32.size:=rfl
   have sz32:sz h18<=sz h32:=e32.size
   have e332:Ext h3 h32:=e318.trans e32
   refine Zu (rI (Zb c32 rfl) (rS (Zb c32 rfl) (rL (s:=z.2.2.1) (Zb c32 rfl) (rL (s:=z.2.2.2.1) (Zb c32 rfl) ?_))))
   refine Zcb (cells:=Xl z) (own.congr fun b _ hb _=>Zq e332 hb) rfl (Zcf z) rfl (by omega) (by omega) (by have:=e3.size;omega) fun s' h42 o42 u42 b42=>?_
   have s42:sz h42=h42.size:=rfl
   have sz42:sz h32<=sz h42:=u42.size
   rw [Yt (by omega) (by omega)]
   have snb:∀ j,s'.blk=some j->out.blk=some j\/sz h32<=j:=fun j e=>by
     rcases b42 with e2 | ⟨c,e2,e3⟩
     ·left;rw [<- e2];exact e
     ·right;rw [e] at e2;cases e2;exact e3
   refine ⟨⟨i+1,vs++Xl z,rfl,by omega,o42,?_,(e3.trans e332).updS u42 fun j hj=>by have:=(olt hj).1;omega⟩,by omega⟩
   have ht1:(l.take (i+1)).map (fun p=>Zd0 p)=(l.take i).map (fun p=>Zd0 p)++[Zd0 p]:=by rw [Ayu,hp];simp
   rw [ht1,Zey]
   refine Xm.snoc (hz.keep (S':=fun j=>sz h1<=j/\j<sz h42/\s'.blk≠some j) (fun b hb hl=>Zo u42 hl fun e=>by have:=hb.1;have:=(olt e).2;omega) fun b hb=>⟨by have:=hb.1;have:=e3.size;omega,by have:=hb.2;omega,fun e=>?_⟩) (lst.keep (fun b hb hl=>?_) fun b hb=>⟨hb.1,by omega,fun e=>?_⟩)
   ·have h1b:=hb.1
    have h2b:=hb.2
    rcases snb b e with e2 | e2
    ·have:=(olt e2).2;omega
    ·omega
   ·rw [Zo u42 (by omega) fun e=>hb.2.2 e]
    exact Zq e332 hl
   ·rcases snb b e with e2 | e2
    ·exact hb.2.2 e2
    ·omega
  ·have:i=l.length:=by omega
   subst this
   rw [Awd (Aqo _)] at lst
   refine Zdh (S:=fun j=>sz h1<=j/\j<sz h3) own.row (fun _ b hb=>own.lt hb) (lst.keep (fun _ _ _=>rfl) fun b hb=>⟨hb.1,hb.2.1⟩) (fun j hj=>hj.2) (by omega) fun z h44 e44 hz=>?_
   refine Zbc (x:=z.2.2.1) (y:=z.2.2.2.1) (Zl c1' (e3.trans e44)) rfl fun h5 u5 z5=>hk _ h5 ((e03.trans e44).updS u5 fun j hj=>by omega) ?_
   have:=e03.size
   have:=e3.size
   exact hz.keep (fun b hb hl=>Zo u5 hl fun e=>by have:=hb.1;omega) fun b hb=>⟨by have:=hb.1;omega,by have:=hb.2;omega⟩
theorem Zl6 {h0:Zc} {x:Sl} {l:List YJ} {S:Nat->Prop} (hr:Row h0 x 7 (l.flatMap Zcc)) (hin:inS S x) (hS:∀ j,S j->j<sz h0) (hl:∀ p,p∈l->p.res.length<=20000000/\p.rng) (hw:wV (ZcB (l.map fun p=>Za7 p))<=40000000000) (ht:ZaN h0) {K:VT5->HP}
    (hk:∀ z h',Ext h0 h'->Zam h' (fr h' (sz h0)) z (ZcB (l.map fun p=>Za7 p))->K z h'):Z7 x K h0:=by
  unfold Z7 YV
  refine YX fun h1 c1 e1 z1=>?_
  have s0:sz h0=h0.size:=rfl
  have s1:sz h1=h1.size:=rfl
  have c1':obj h1 h0.size=some (.cells zV.toArray 33 (0,0)):=c1
  have hlen:=ZaA (c:=Zcc) (n:=7) (fun _=>rfl) hr (by decide)
  have big:=hr.big
  have cap:=hr.cap
  have hpw:pw (ZcL (l.map fun p=>Za7 p))<=40000000000:=by simp only [wV,ZcB] at hw;omega
  have hcnt:l.length<=40000000000:=by have:=ZdN (ZcL (l.map fun p=>Za7 p));rw [ZaW,Ayx] at this;omega
  refine Zv (fun p h'=>∃ (i:Nat) (vs:List Value),p.2.1=i/\i<=l.length/\Own h' (sz h1) p.1 4 vs/\Xm h' (fun j=>sz h1<=j/\j<sz h'/\p.1.blk≠some j) (ZcL ((l.take i).map fun p=>Za7 p)) vs/\Ext h1 h') (fun p _=>(l.length - p.2.1).toNat)
    ⟨0,[],rfl,Ayk _,Own.nil _ _ _,rfl,Ext.refl _⟩ ?_
  rintro ⟨out,i_,u⟩ h3 ⟨i,vs,hi,hil,own,lst,e3⟩
  dsimp only at hi own lst ⊢
  subst hi
  have s3:sz h3=h3.size:=rfl
  have e03:=e1.trans e3
  have hol:out.len=i:=by have:=own.len;have:=lst.len;rw [ZaW,Ayx,Ayo] at this;omega
  have olt:∀ {j:Nat},out.blk=some j->sz h1<=j/\j<sz h3:=fun e=>own.lt e
  refine Zt (fun hlt=>?_) fun hge=>?_
  ·have hia:i<l.length:=by omega
   obtain ⟨p,hp⟩:∃ p,l[i]?=some p:=⟨l[i],Ayb hia⟩
   have hpm:=hl p (Axq hp)
   refine ZbN (c:=Zcc) (fun _=>rfl) (Yi hr hin fun b _ hb=>Zq e03 hb) (by decide) hp rfl fun b o g=>?_
   refine ⟨_,g 0 _ rfl,_,g 1 _ rfl,_,g 2 _ rfl,_,g 3 _ rfl,_,g 4 _ rfl,_,g 5 _ rfl,_,g 6 _ rfl,YX fun h17 c17 e17 z17=>ZeW c17 (by show 7<=7;omega) rfl fun h18 c18 u18 z18=>?_⟩
   have s17:sz h17=h17.size:=rfl
   have s18:sz h18=h18.size:=rfl
   have e318:Ext h3 h18:=e17.updS u18 fun j hj=>by subst hj;exact Aqo _
   refine rS (Zb c18 rfl) (rI (Zb c18 rfl) (rI (Zb c18 rfl) (rI (Zb c18 rfl) (rI (Zb c18 rfl) (rI (Zb c18 rfl) (rI (Zb c18 rfl) (?_)))))))
   have t18:ZaN h18:=ht.ext (e03.trans e318)
   refine Ztn (f:=p) hpm.1 hpm.2 t18 fun o z T h32 e32 c32 hz=>?_
   have s32:sz h32=h32.size:=rfl
   have sz32:sz h18<=sz h32:=e32.size
   have e332:Ext h3 h32:=e318.trans e32
   refine Zu (rI (Zb c32 rfl) (rS (Zb c32 rfl) (rL (s:=z.2.2.1) (Zb c32 rfl) (rL (s:=z.2.2.2.1) (Zb c32 rfl) ?_))))
   refine Zcb (cells:=Xl z) (own.congr fun b _ hb _=>Zq e332 hb) rfl (Zcf z) rfl (by omega) (by omega) (by have:=e3.size;omega) fun s' h42 o42 u42 b42=>?_
   have s42:sz h42=h42.size:=rfl
   have sz42:sz h32<=sz h42:=u42.size
   rw [Yt (by omega) (by omega)]
   have snb:∀ j,s'.blk=some j->out.blk=some j\/sz h32<=j:=fun j e=>by
     rcases b42 with e2 | ⟨c,e2,e3⟩
     ·left;rw [<- e2];exact e
     ·right;rw [e] at e2;cases e2;exact e3
   refine ⟨⟨i+1,vs++Xl z,rfl,by omega,o42,?_,(e3.trans e332).updS u42 fun j hj=>by have:=(olt hj).1;omega⟩,by omega⟩
   have ht1:(l.take (i+1)).map (fun p=>Za7 p)=(l.take i).map (fun p=>Za7 p)++[Za7 p]:=by rw [Ayu,hp];simp
   rw [ht1,Zey]
   refine Xm.snoc (hz.keep (S':=fun j=>sz h1<=j/\j<sz h42/\s'.blk≠some j) (fun b hb hl=>Zo u42 hl fun e=>by have:=hb.1;have:=(olt e).2;omega) fun b hb=>⟨by have:=hb.1;have:=e3.size;omega,by have:=hb.2;omega,fun e=>?_⟩) (lst.keep (fun b hb hl=>?_) fun b hb=>⟨hb.1,by omega,fun e=>?_⟩)
   ·have h1b:=hb.1
    have h2b:=hb.2
    rcases snb b e with e2 | e2
    ·have:=(olt e2).2;omega
    ·omega
   ·rw [Zo u42 (by omega) fun e=>hb.2.2 e]
    exact Zq e332 hl
   ·rcases snb b e with e2 | e2
    ·exact hb.2.2 e2
    ·omega
  ·have:i=l.length:=by omega
   subst this
   rw [Awd (Aqo _)] at lst
   refine Zdh (S:=fun j=>sz h1<=j/\j<sz h3) own.row (fun _ b hb=>own.lt hb) (lst.keep (fun _ _ _=>rfl) fun b hb=>⟨hb.1,hb.2.1⟩) (fun j hj=>hj.2) (by omega) fun z h44 e44 hz=>?_
   refine Zbc (x:=z.2.2.1) (y:=z.2.2.2.1) (Zl c1' (e3.trans e44)) rfl fun h5 u5 z5=>hk _ h5 ((e03.trans e44).updS u5 fun j hj=>by omega) ?_
   have:=e03.size
   have:=e3.size
   exact hz.keep (fun b hb hl=>Zo u5 hl fun e=>by have:=hb.1;omega) fun b hb=>⟨by have:=hb.1;omega,by have:=hb.2;omega⟩
theorem ZkR {h0:Zc} {x:Sl} {l:List Xi} {S:Nat->Prop} (hr:Row h0 x 5 (l.flatMap Zbw)) (hin:inS S x) (hS:∀ j,S j->j<sz h0) (hl:∀ p,p∈l->p.rng) (hw:wV (ZcB (l.map fun p=>XO p))<=40000000000) (ht:ZaN h0) {K:VT5->HP}
    (hk:∀ z h',Ext h0 h'->Zam h' (fr h' (sz h0)) z (ZcB (l.map fun p=>XO p))->K z h'):Z1 x K h0:=by
  unfold Z1 YK
  refine YX fun h1 c1 e1 z1=>?_
  have s0:sz h0=h0.size:=rfl
  have s1:sz h1=h1.size:=rfl
  have c1':obj h1 h0.size=some (.cells zV.toArray 33 (0,0)):=c1
  have hlen:=ZaA (c:=Zbw) (n:=5) (fun _=>rfl) hr (by decide)
  have big:=hr.big
  have cap:=hr.cap
  have hpw:pw (ZcL (l.map fun p=>XO p))<=40000000000:=by simp only [wV,ZcB] at hw;omega
  have hcnt:l.length<=40000000000:=by have:=ZdN (ZcL (l.map fun p=>XO p));rw [ZaW,Ayx] at this;omega
  refine Zv (fun p h'=>∃ (i:Nat) (vs:List Value),p.2.1=i/\i<=l.length/\Own h' (sz h1) p.1 4 vs/\Xm h' (fun j=>sz h1<=j/\j<sz h'/\p.1.blk≠some j) (ZcL ((l.take i).map fun p=>XO p)) vs/\Ext h1 h') (fun p _=>(l.length - p.2.1).toNat)
    ⟨0,[],rfl,Ayk _,Own.nil _ _ _,rfl,Ext.refl _⟩ ?_
  rintro ⟨out,i_,u⟩ h3 ⟨i,vs,hi,hil,own,lst,e3⟩
  dsimp only at hi own lst ⊢
  subst hi
  have s3:sz h3=h3.size:=rfl
  have e03:=e1.trans e3
  have hol:out.len=i:=by have:=own.len;have:=lst.len;rw [ZaW,Ayx,Ayo] at this;omega
  have olt:∀ {j:Nat},out.blk=some j->sz h1<=j/\j<sz h3:=fun e=>own.lt e
  refine Zt (fun hlt=>?_) fun hge=>?_
  ·have hia:i<l.length:=by omega
   obtain ⟨p,hp⟩:∃ p,l[i]?=some p:=⟨l[i],Ayb hia⟩
   have hpm:=hl p (Axq hp)
   refine ZbN (c:=Zbw) (fun _=>rfl) (Yi hr hin fun b _ hb=>Zq e03 hb) (by decide) hp rfl fun b o g=>?_
   refine ⟨_,g 0 _ rfl,_,g 1 _ rfl,_,g 2 _ rfl,_,g 3 _ rfl,_,g 4 _ rfl,YX fun h17 c17 e17 z17=>ZeW c17 (by show 5<=5;omega) rfl fun h18 c18 u18 z18=>?_⟩
   have s17:sz h17=h17.size:=rfl
   have s18:sz h18=h18.size:=rfl
   have e318:Ext h3 h18:=e17.updS u18 fun j hj=>by subst hj;exact Aqo _
   refine rI (Zb c18 rfl) (rI (Zb c18 rfl) (rI (Zb c18 rfl) (rI (Zb c18 rfl) (rI (Zb c18 rfl) (?_)))))
   have t18:ZaN h18:=ht.ext (e03.trans e318)
   refine Ztl (f:=p) hpm t18 fun o z T h32 e32 c32 hz=>?_
   have s32:sz h32=h32.size:=rfl
   have sz32:sz h18<=sz h32:=e32.size
   have e332:Ext h3 h32:=e318.trans e32
   refine Zu (rI (Zb c32 rfl) (rS (Zb c32 rfl) (rL (s:=z.2.2.1) (Zb c32 rfl) (rL (s:=z.2.2.2.1) (Zb c32 rfl) ?_))))
   refine Zcb (cells:=Xl z) (own.congr fun b _ hb _=>Zq e332 hb) rfl (Zcf z) rfl (by omega) (by omega) (by have:=e3.size;omega) fun s' h42 o42 u42 b42=>?_
   have s42:sz h42=h42.size:=rfl
   have sz42:sz h32<=sz h42:=u42.size
   rw [Yt (by omega) (by omega)]
   have snb:∀ j,s'.blk=some j->out.blk=some j\/sz h32<=j:=fun j e=>by
     rcases b42 with e2 | ⟨c,e2,e3⟩
     ·left;rw [<- e2];exact e
     ·right;rw [e] at e2;cases e2;exact e3
   refine ⟨⟨i+1,vs++Xl z,rfl,by omega,o42,?_,(e3.trans e332).updS u42 fun j hj=>by have:=(olt hj).1;omega⟩,by omega⟩
   have ht1:(l.take (i+1)).map (fun p=>XO p)=(l.take i).map (fun p=>XO p)++[XO p]:=by rw [Ayu,hp];simp
   rw [ht1,Zey]
   refine Xm.snoc (hz.keep (S':=fun j=>sz h1<=j/\j<sz h42/\s'.blk≠some j) (fun b hb hl=>Zo u42 hl fun e=>by have:=hb.1;have:=(olt e).2;omega) fun b hb=>⟨by have:=hb.1;have:=e3.size;omega,by have:=hb.2;omega,fun e=>?_⟩) (lst.keep (fun b hb hl=>?_) fun b hb=>⟨hb.1,by omega,fun e=>?_⟩)
   ·have h1b:=hb.1
    have h2b:=hb.2
    rcases snb b e with e2 | e2
    ·have:=(olt e2).2;omega
    ·omega
   ·rw [Zo u42 (by omega) fun e=>hb.2.2 e]
    exact Zq e332 hl
   ·rcases snb b e with e2 | e2
    ·exact hb.2.2 e2
    ·omega
  ·have:i=l.length:=by omega
   subst this
   rw [Awd (Aqo _)] at lst
   refine Zdh (S:=fun j=>sz h1<=j/\j<sz h3) own.row (fun _ b hb=>own.lt hb) (lst.keep (fun _ _ _=>rfl) fun b hb=>⟨hb.1,hb.2.1⟩) (fun j hj=>hj.2) (by omega) fun z h44 e44 hz=>?_
   refine Zbc (x:=z.2.2.1) (y:=z.2.2.2.1) (Zl c1' (e3.trans e44)) rfl fun h5 u5 z5=>hk _ h5 ((e03.trans e44).updS u5 fun j hj=>by omega) ?_
   have:=e03.size
   have:=e3.size
   exact hz.keep (fun b hb hl=>Zo u5 hl fun e=>by have:=hb.1;omega) fun b hb=>⟨by have:=hb.1;omega,by have:=hb.2;omega⟩
theorem ZnH {h0:Zc} {x:Sl} {l:List (BL × Int)} {S:Nat->Prop} (hr:Row h0 x 2 (l.flatMap (fun p:BL × Int=>[sV p.1,i64 p.2]))) (hin:inS S x) (hS:∀ j,S j->j<sz h0) (hl:∀ p,p∈l->p.1.length<=20000000/\Zim p.2) (hw:wV (ZcB (l.map fun p=>Zez p))<=40000000000) (ht:ZaN h0) {K:VT5->HP}
    (hk:∀ z h',Ext h0 h'->Zam h' (fr h' (sz h0)) z (ZcB (l.map fun p=>Zez p))->K z h'):Yd x K h0:=by
  unfold Yd YZ
  refine YX fun h1 c1 e1 z1=>?_
  have s0:sz h0=h0.size:=rfl
  have s1:sz h1=h1.size:=rfl
  have c1':obj h1 h0.size=some (.cells zV.toArray 33 (0,0)):=c1
  have hlen:=ZaA (c:=(fun p:BL × Int=>[sV p.1,i64 p.2])) (n:=2) (fun _=>rfl) hr (by decide)
  have big:=hr.big
  have cap:=hr.cap
  have hpw:pw (ZcL (l.map fun p=>Zez p))<=40000000000:=by simp only [wV,ZcB] at hw;omega
  have hcnt:l.length<=40000000000:=by have:=ZdN (ZcL (l.map fun p=>Zez p));rw [ZaW,Ayx] at this;omega
  refine Zv (fun p h'=>∃ (i:Nat) (vs:List Value),p.2.1=i/\i<=l.length/\Own h' (sz h1) p.1 4 vs/\Xm h' (fun j=>sz h1<=j/\j<sz h'/\p.1.blk≠some j) (ZcL ((l.take i).map fun p=>Zez p)) vs/\Ext h1 h') (fun p _=>(l.length - p.2.1).toNat)
    ⟨0,[],rfl,Ayk _,Own.nil _ _ _,rfl,Ext.refl _⟩ ?_
  rintro ⟨out,i_,u⟩ h3 ⟨i,vs,hi,hil,own,lst,e3⟩
  dsimp only at hi own lst ⊢
  subst hi
  have s3:sz h3=h3.size:=rfl
  have e03:=e1.trans e3
  have hol:out.len=i:=by have:=own.len;have:=lst.len;rw [ZaW,Ayx,Ayo] at this;omega
  have olt:∀ {j:Nat},out.blk=some j->sz h1<=j/\j<sz h3:=fun e=>own.lt e
  refine Zt (fun hlt=>?_) fun hge=>?_
  ·have hia:i<l.length:=by omega
   obtain ⟨p,hp⟩:∃ p,l[i]?=some p:=⟨l[i],Ayb hia⟩
   have hpm:=hl p (Axq hp)
   refine ZbN (c:=(fun p:BL × Int=>[sV p.1,i64 p.2])) (fun _=>rfl) (Yi hr hin fun b _ hb=>Zq e03 hb) (by decide) hp rfl fun b o g=>?_
   refine ⟨_,g 0 _ rfl,_,g 1 _ rfl,YX fun h17 c17 e17 z17=>ZeW c17 (by show 2<=2;omega) rfl fun h18 c18 u18 z18=>?_⟩
   have s17:sz h17=h17.size:=rfl
   have s18:sz h18=h18.size:=rfl
   have e318:Ext h3 h18:=e17.updS u18 fun j hj=>by subst hj;exact Aqo _
   refine rS (Zb c18 rfl) (rI (Zb c18 rfl) (?_))
   have t18:ZaN h18:=ht.ext (e03.trans e318)
   refine ZyZ (f:=p) hpm.1 hpm.2 t18 fun o z T h32 e32 c32 hz=>?_
   have s32:sz h32=h32.size:=rfl
   have sz32:sz h18<=sz h32:=e32.size
   have e332:Ext h3 h32:=e318.trans e32
   refine Zu (rI (Zb c32 rfl) (rS (Zb c32 rfl) (rL (s:=z.2.2.1) (Zb c32 rfl) (rL (s:=z.2.2.2.1) (Zb c32 rfl) ?_))))
   refine Zcb (cells:=Xl z) (own.congr fun b _ hb _=>Zq e332 hb) rfl (Zcf z) rfl (by omega) (by omega) (by have:=e3.size;omega) fun s' h42 o42 u42 b42=>?_
   have s42:sz h42=h42.size:=rfl
   have sz42:sz h32<=sz h42:=u42.size
   rw [Yt (by omega) (by omega)]
   have snb:∀ j,s'.blk=some j->out.blk=some j\/sz h32<=j:=fun j e=>by
     rcases b42 with e2 | ⟨c,e2,e3⟩
     ·left;rw [<- e2];exact e
     ·right;rw [e] at e2;cases e2;exact e3
   refine ⟨⟨i+1,vs++Xl z,rfl,by omega,o42,?_,(e3.trans e332).updS u42 fun j hj=>by have:=(olt hj).1;omega⟩,by omega⟩
   have ht1:(l.take (i+1)).map (fun p=>Zez p)=(l.take i).map (fun p=>Zez p)++[Zez p]:=by rw [Ayu,hp];simp
   rw [ht1,Zey]
   refine Xm.snoc (hz.keep (S':=fun j=>sz h1<=j/\j<sz h42/\s'.blk≠some j) (fun b hb hl=>Zo u42 hl fun e=>by have:=hb.1;have:=(olt e).2;omega) fun b hb=>⟨by have:=hb.1;have:=e3.size;omega,by have:=hb.2;omega,fun e=>?_⟩) (lst.keep (fun b hb hl=>?_) fun b hb=>⟨hb.1,by omega,fun e=>?_⟩)
   ·have h1b:=hb.1
    have h2b:=hb.2
    rcases snb b e with e2 | e2
    ·have:=(olt e2).2;omega
    ·omega
   ·rw [Zo u42 (by omega) fun e=>hb.2.2 e]
    exact Zq e332 hl
   ·rcases snb b e with e2 | e2
    ·exact hb.2.2 e2
    ·omega
  ·have:i=l.length:=by omega
   subst this
   rw [Awd (Aqo _)] at lst
   refine Zdh (S:=fun j=>sz h1<=j/\j<sz h3) own.row (fun _ b hb=>own.lt hb) (lst.keep (fun _ _ _=>rfl) fun b hb=>⟨hb.1,hb.2.1⟩) (fun j hj=>hj.2) (by omega) fun z h44 e44 hz=>?_
   refine Zbc (x:=z.2.2.1) (y:=z.2.2.2.1) (Zl c1' (e3.trans e44)) rfl fun h5 u5 z5=>hk _ h5 ((e03.trans e44).updS u5 fun j hj=>by omega) ?_
   have:=e03.size
   have:=e3.size
   exact hz.keep (fun b hb hl=>Zo u5 hl fun e=>by have:=hb.1;omega) fun b hb=>⟨by have:=hb.1;omega,by have:=hb.2;omega⟩
theorem ZCw {h0:Zc} {f:ZeP} {x:Sl} {S:Nat->Prop} (hx:f.res.length<=20000000) (hr:f.rng) (hi:Row h0 x 2 (Ze0 f.items)) (hin:inS S x) (hS:∀ j,S j->j<sz h0) (hl:∀ p,p∈f.items->p.1.length<=20000000) (hwi:wV (ZcB (f.items.map Zez))<=40000000000) (ht:ZaN h0) {K:Option Addr->HP} (hk:∀ o z T h',Ext h0 h'->obj h' o=some (.cells (Xl z).toArray T (0,0))->Zam h' (fr h' (sz h0)) z (Zin f)->K (At o) h'):Zc9 (ZDQ x f) K h0:=by
  unfold Zc9 Zf9
  refine YX fun h1 c1 eH z1=>?_
  have s0:sz h0=h0.size:=rfl
  have s1:sz h1=h1.size:=rfl
  have cb:obj h1 h0.size=some (.cells (Zkw (x,f)).toArray 85 (0,0)):=c1
  refine rS (Zb cb rfl) ?_
  refine rI (Zb cb rfl) ?_
  refine rI (Zb cb rfl) ?_
  refine rI (Zb cb rfl) ?_
  refine Zdf fun o g2 e2 ob=>?_
  have cb:=Zl cb e2
  have eH:=eH.trans e2
  have og:sz h1<=o:=ob.ge
  refine ⟨YE cb rfl,?_⟩
  refine ⟨YE cb rfl,?_⟩
  refine ⟨YE cb rfl,?_⟩
  refine ⟨YE cb rfl,?_⟩
  refine ZgE (nm:=[114,101,115,111,117,114,99,101]) (s:=f.res) ob (show 0<=12 by decide) (by decide) hx fun g3 ob u3=>?_
  have cb:=ZB cb u3 (by omega)
  have eH:=eH.updS u3 fun j hj=>by omega
  refine ⟨YE cb rfl,?_⟩
  refine ⟨YE cb rfl,?_⟩
  refine ⟨YE cb rfl,?_⟩
  refine Xn (nm:=[105,110,100,101,120]) ob (show 1<=12 by decide) (by decide) hr.1 (ht.ext eH) fun g4 ob u4=>?_
  have cb:=ZB cb u4 (by omega)
  have eH:=eH.updS u4 fun j hj=>by omega
  refine ⟨YE cb rfl,?_⟩
  refine ⟨YE cb rfl,?_⟩
  refine Xn (nm:=[99,111,117,110,116]) ob (show 2<=12 by decide) (by decide) hr.2.1 (ht.ext eH) fun g5 ob u5=>?_
  have cb:=ZB cb u5 (by omega)
  have eH:=eH.updS u5 fun j hj=>by omega
  refine ⟨YE cb rfl,?_⟩
  refine Xn (nm:=[115,101,99,111,110,100,115]) ob (show 3<=12 by decide) (by decide) hr.2.2.1 (ht.ext eH) fun g6 ob u6=>?_
  have cb:=ZB cb u6 (by omega)
  have eH:=eH.updS u6 fun j hj=>by omega
  refine rL (s:=x) (Zb cb rfl) ?_
  refine ZnH (S:=S) (Yi hi hin fun b _ hb=>Zq eH hb) hin (fun j hj=>by have:=hS j hj;have:=eH.size;have:sz h0=h0.size:=rfl;exact Aqq (hS j hj) eH.size) (fun p hp=>⟨hl p hp,hr.2.2.2 p hp⟩) hwi (ht.ext eH) fun z g7 e7 hz=>?_
  have cb:=Zl cb e7
  have eH:=eH.trans e7
  have ob:=ob.ext e7
  refine ZcK (nm:=[105,116,101,109,115]) ob hz (fun _ h=>h.2) (show 4<=12 by decide) ⟨show 5<=20 by decide,hwi⟩ fun g8 ob u8=>?_
  have cb:=ZB cb u8 (by omega)
  have eH:=eH.updS u8 fun j hj=>by omega
  exact Zj2 ob (by omega) eH (by rw [show (Zin f)=Zhj [([114,101,115,111,117,114,99,101],ZdY f.res),([105,110,100,101,120],ZcI f.index),([99,111,117,110,116],ZcI f.cnt),([115,101,99,111,110,100,115],ZcI f.secs),([105,116,101,109,115],ZcB (f.items.map Zez))] from by unfold Zin;rw [Zcg,Zr5,ZfJ,ZmB,Zr4]];rfl) hk
theorem ZyY {h0:Zc} {f:Za2} {x:Sl} {S:Nat->Prop} (hx:f.res.length<=20000000) (hi:Row h0 x 1 (f.origins.map sV)) (hin:inS S x) (hS:∀ j,S j->j<sz h0) (hwi:wV (ZcB (f.origins.map ZdY))<=40000000000) {K:Option Addr->HP} (hk:∀ o z T h',Ext h0 h'->obj h' o=some (.cells (Xl z).toArray T (0,0))->Zam h' (fr h' (sz h0)) z (Zda f)->K (At o) h'):Zco (Zt1 x f) K h0:=by
  unfold Zco Zfw
  refine YX fun g1 c1 f1 z1=>?_
  have s0:sz h0=h0.size:=rfl
  have s1:sz g1=g1.size:=rfl
  have cg:obj g1 h0.size=some (.cells (ZfF (x,f)).toArray 95 (0,0)):=c1
  have hlen:=ZaQ hi
  have big:=hi.big
  have cap:=hi.cap
  have hpw:pw (ZcL (f.origins.map ZdY))<=40000000000:=by simp only [wV,ZcB] at hwi;omega
  have hcnt:f.origins.length<=40000000000:=by have:=ZdN (ZcL (f.origins.map ZdY));rw [ZaW,Ayx] at this;omega
  refine rL (s:=x) (Zb cg rfl) (Zv (fun p h'=>∃ (i:Nat) (vs:List Value),p.2.1=i/\i<=f.origins.length/\Own h' (sz g1) p.1 4 vs/\Xm h' (fun j=>sz g1<=j/\j<sz h'/\p.1.blk≠some j) (ZcL ((f.origins.take i).map ZdY)) vs/\Ext g1 h') (fun p _=>(f.origins.length - p.2.1).toNat)
    ⟨0,[],rfl,Ayk _,Own.nil _ _ _,rfl,Ext.refl _⟩ ?_)
  rintro ⟨out,i_,u⟩ h1 ⟨i,vs,hi_,hil,own,lst,e3⟩
  dsimp only at hi_ own lst ⊢
  subst hi_
  have s3:sz h1=h1.size:=rfl
  have e03:=f1.trans e3
  have hol:out.len=i:=by have:=own.len;have:=lst.len;rw [ZaW,Ayx,Ayo] at this;omega
  have olt:∀ {j:Nat},out.blk=some j->sz g1<=j/\j<sz h1:=fun e=>own.lt e
  refine Zt (fun hlt=>?_) fun hge=>?_
  ·have hia:i<f.origins.length:=by omega
   obtain ⟨t,ht⟩:∃ t,f.origins[i]?=some t:=⟨f.origins[i],Ayb hia⟩
   refine ZfV (Yi hi hin fun b _ hb=>Zq e03 hb) ht rfl (ZiC fun h32 e332=>?_)
   have s32:sz h32=h32.size:=rfl
   refine Zcb (cells:=Xl (5,Zk t,⟨none,0,0⟩,⟨none,0,0⟩,())) (own.congr fun b _ hb _=>Zq e332 hb) rfl rfl rfl (by omega) (by omega) (by have:=e3.size;have:=e332.size;omega) fun s' h42 o42 u42 b42=>?_
   have s42:sz h42=h42.size:=rfl
   have sz42:sz h32<=sz h42:=u42.size
   have sz32:=e332.size
   rw [Yt (by omega) (by omega)]
   have snb:∀ j,s'.blk=some j->out.blk=some j\/sz h32<=j:=fun j e=>by
     rcases b42 with e2 | ⟨c,e2,e3⟩
     ·left;rw [<- e2];exact e
     ·right;rw [e] at e2;cases e2;exact e3
   refine ⟨⟨i+1,_,rfl,by omega,o42,?_,(e3.trans e332).updS u42 fun j hj=>by have:=(olt hj).1;omega⟩,by omega⟩
   have ht1:(f.origins.take (i+1)).map ZdY=(f.origins.take i).map ZdY++[ZdY t]:=by rw [Ayu,ht];simp
   rw [ht1,Zey]
   refine Xm.snoc (v:=ZdY t) (show Zam h42 _ (5,Zk t,⟨none,0,0⟩,⟨none,0,0⟩,()) (ZdY t) from ⟨rfl,rfl,Row.nil _ _,ZcG,[],Row.nil _ _,ZcG,rfl⟩) (lst.keep (fun b hb hl=>?_) fun b hb=>⟨hb.1,by omega,fun e=>?_⟩)
   ·rw [Zo u42 (by omega) fun e=>hb.2.2 e]
    exact Zq e332 hl
   ·rcases snb b e with e2 | e2
    ·exact hb.2.2 e2
    ·omega
  have:i=f.origins.length:=by omega
  subst this
  rw [Awd (Aqo _)] at lst
  have cb:=Zl cg e3
  have eH:=e03
  have lst1:Xm h1 (fun j=>sz g1<=j/\j<sz h1) (ZcL (f.origins.map ZdY)) vs:=lst.keep (fun _ _ _=>rfl) fun b hb=>⟨hb.1,hb.2.1⟩
  have fH:Ext h1 h1:=Ext.refl _
  have sg:=e03.size
  have sg2:=e3.size
  refine rS (Zb cb rfl) ?_
  refine rBl (Zb cb rfl) ?_
  refine Zdf fun o g2 e2 ob=>?_
  have cb:=Zl cb e2
  have eH:=eH.trans e2
  have fH:=fH.trans e2
  have og:sz h1<=o:=ob.ge
  refine ⟨YE cb rfl,?_⟩
  refine ⟨YE cb rfl,?_⟩
  refine ZgE (nm:=[114,101,115,111,117,114,99,101]) (s:=f.res) ob (show 0<=12 by decide) (by decide) hx fun g3 ob u3=>?_
  have cb:=ZB cb u3 (by omega)
  have eH:=eH.updS u3 fun j hj=>by omega
  have fH:=fH.updS u3 fun j hj=>by omega
  refine ⟨YE cb rfl,?_⟩
  refine ZgD fun z g4 e4 hz=>?_
  have cb:=Zl cb e4
  have eH:=eH.trans e4
  have fH:=fH.trans e4
  have ob:=ob.ext e4
  refine ZcK (nm:=[119,104,105,116,101]) ob hz (fun _ h=>h.elim) (show 1<=12 by decide) ⟨show 5<=20 by decide,Zky _⟩ fun g5 ob u5=>?_
  have cb:=ZB cb u5 (by omega)
  have eH:=eH.updS u5 fun j hj=>by omega
  have fH:=fH.updS u5 fun j hj=>by omega
  refine Zdh (S:=fun j=>sz g1<=j/\j<sz h1) (own.row.ext fH) (fun _ b hb=>own.lt hb) (lst1.keep (fun b _ hb=>Zq fH hb) fun _ h=>h) (fun j hj=>Aqq hj.2 fH.size) (by omega) fun z g6 e6 hz=>?_
  have cb:=Zl cb e6
  have eH:=eH.trans e6
  have fH:=fH.trans e6
  have ob:=ob.ext e6
  refine ZcK (nm:=[111,114,105,103,105,110,115]) ob hz (fun _ h=>h.2) (show 2<=12 by decide) ⟨show 7<=20 by decide,hwi⟩ fun g7 ob u7=>?_
  have cb:=ZB cb u7 (by omega)
  have eH:=eH.updS u7 fun j hj=>by omega
  have fH:=fH.updS u7 fun j hj=>by omega
  exact Zj2 ob (by omega) eH (by rw [show (Zda f)=Zhj [([114,101,115,111,117,114,99,101],ZdY f.res),([119,104,105,116,101],ZdA f.white),([111,114,105,103,105,110,115],ZcB (f.origins.map ZdY))] from by unfold Zda;rw [Zcg,ZrZ,ZmD]];rfl) hk
theorem Zpd {h0:Zc} {x:Sl} {l:List (Sl × ZeP)} {S:Nat->Prop} (hr:Row h0 x 5 (l.flatMap Zkw)) (hin:inS S x) (hS:∀ j,S j->j<sz h0) (hl:∀ p,p∈l->p.2.res.length<=20000000/\p.2.rng/\ZFX h0 S p/\(∀ q,q∈p.2.items->q.1.length<=20000000)/\wV (ZcB (p.2.items.map Zez))<=40000000000) (hw:wV (ZcB (l.map fun p=>Zin p.2))<=40000000000) (ht:ZaN h0) {K:VT5->HP}
    (hk:∀ z h',Ext h0 h'->Zam h' (fr h' (sz h0)) z (ZcB (l.map fun p=>Zin p.2))->K z h'):Yh x K h0:=by
  unfold Yh Y7
  refine YX fun h1 c1 e1 z1=>?_
  have s0:sz h0=h0.size:=rfl
  have s1:sz h1=h1.size:=rfl
  have c1':obj h1 h0.size=some (.cells zV.toArray 33 (0,0)):=c1
  have hlen:=ZaA (c:=Zkw) (n:=5) (fun _=>rfl) hr (by decide)
  have big:=hr.big
  have cap:=hr.cap
  have hpw:pw (ZcL (l.map fun p=>Zin p.2))<=40000000000:=by simp only [wV,ZcB] at hw;omega
  have hcnt:l.length<=40000000000:=by have:=ZdN (ZcL (l.map fun p=>Zin p.2));rw [ZaW,Ayx] at this;omega
  refine Zv (fun p h'=>∃ (i:Nat) (vs:List Value),p.2.1=i/\i<=l.length/\Own h' (sz h1) p.1 4 vs/\Xm h' (fun j=>sz h1<=j/\j<sz h'/\p.1.blk≠some j) (ZcL ((l.take i).map fun p=>Zin p.2)) vs/\Ext h1 h') (fun p _=>(l.length - p.2.1).toNat)
    ⟨0,[],rfl,Ayk _,Own.nil _ _ _,rfl,Ext.refl _⟩ ?_
  rintro ⟨out,i_,u⟩ h3 ⟨i,vs,hi,hil,own,lst,e3⟩
  dsimp only at hi own lst ⊢
  subst hi
  have s3:sz h3=h3.size:=rfl
  have e03:=e1.trans e3
  have hol:out.len=i:=by have:=own.len;have:=lst.len;rw [ZaW,Ayx,Ayo] at this;omega
  have olt:∀ {j:Nat},out.blk=some j->sz h1<=j/\j<sz h3:=fun e=>own.lt e
  refine Zt (fun hlt=>?_) fun hge=>?_
  ·have hia:i<l.length:=by omega
   obtain ⟨p,hp⟩:∃ p,l[i]?=some p:=⟨l[i],Ayb hia⟩
   have hpm:=hl p (Axq hp)
   refine ZbN (c:=Zkw) (fun _=>rfl) (Yi hr hin fun b _ hb=>Zq e03 hb) (by decide) hp rfl fun b o g=>?_
   refine ⟨_,g 0 _ rfl,_,g 1 _ rfl,_,g 2 _ rfl,_,g 3 _ rfl,p.1,g 4 _ rfl,YX fun h17 c17 e17 z17=>ZeW c17 (by show 5<=5;omega) rfl fun h18 c18 u18 z18=>?_⟩
   have s17:sz h17=h17.size:=rfl
   have s18:sz h18=h18.size:=rfl
   have e318:Ext h3 h18:=e17.updS u18 fun j hj=>by subst hj;exact Aqo _
   refine rS (Zb c18 rfl) (rI (Zb c18 rfl) (rI (Zb c18 rfl) (rI (Zb c18 rfl) (rL (s:=p.1) (Zb c18 rfl) (?_)))))
   have t18:ZaN h18:=ht.ext (e03.trans e318)
   refine ZCw (f:=p.2) (x:=p.1) (S:=S) hpm.1 hpm.2.1 (Yi hpm.2.2.1.1 hpm.2.2.1.2 fun b _ hb=>Zq (e03.trans e318) hb) hpm.2.2.1.2 (fun j hj=>Aqq (hS j hj) (e03.trans e318).size) hpm.2.2.2.1 hpm.2.2.2.2 t18 fun o z T h32 e32 c32 hz=>?_
   have s32:sz h32=h32.size:=rfl
   have sz32:sz h18<=sz h32:=e32.size
   have e332:Ext h3 h32:=e318.trans e32
   refine Zu (rI (Zb c32 rfl) (rS (Zb c32 rfl) (rL (s:=z.2.2.1) (Zb c32 rfl) (rL (s:=z.2.2.2.1) (Zb c32 rfl) ?_))))
   refine Zcb (cells:=Xl z) (own.congr fun b _ hb _=>Zq e332 hb) rfl (Zcf z) rfl (by omega) (by omega) (by have:=e3.size;omega) fun s' h42 o42 u42 b42=>?_
   have s42:sz h42=h42.size:=rfl
   have sz42:sz h32<=sz h42:=u42.size
   rw [Yt (by omega) (by omega)]
   have snb:∀ j,s'.blk=some j->out.blk=some j\/sz h32<=j:=fun j e=>by
     rcases b42 with e2 | ⟨c,e2,e3⟩
     ·left;rw [<- e2];exact e
     ·right;rw [e] at e2;cases e2;exact e3
   refine ⟨⟨i+1,vs++Xl z,rfl,by omega,o42,?_,(e3.trans e332).updS u42 fun j hj=>by have:=(olt hj).1;omega⟩,by omega⟩
   have ht1:(l.take (i+1)).map (fun p=>Zin p.2)=(l.take i).map (fun p=>Zin p.2)++[Zin p.2]:=by rw [Ayu,hp];simp
   rw [ht1,Zey]
   refine Xm.snoc (hz.keep (S':=fun j=>sz h1<=j/\j<sz h42/\s'.blk≠some j) (fun b hb hl=>Zo u42 hl fun e=>by have:=hb.1;have:=(olt e).2;omega) fun b hb=>⟨by have:=hb.1;have:=e3.size;omega,by have:=hb.2;omega,fun e=>?_⟩) (lst.keep (fun b hb hl=>?_) fun b hb=>⟨hb.1,by omega,fun e=>?_⟩)
   ·have h1b:=hb.1
    have h2b:=hb.2
    rcases snb b e with e2 | e2
    ·have:=(olt e2).2;omega
    ·omega
   ·rw [Zo u42 (by omega) fun e=>hb.2.2 e]
    exact Zq e332 hl
   ·rcases snb b e with e2 | e2
    ·exact hb.2.2 e2
    ·omega
  ·have:i=l.length:=by omega
   subst this
   rw [Awd (Aqo _)] at lst
   refine Zdh (S:=fun j=>sz h1<=j/\j<sz h3) own.row (fun _ b hb=>own.lt hb) (lst.keep (fun _ _ _=>rfl) fun b hb=>⟨hb.1,hb.2.1⟩) (fun j hj=>hj.2) (by omega) fun z h44 e44 hz=>?_
   refine Zbc (x:=z.2.2.1) (y:=z.2.2.2.1) (Zl c1' (e3.trans e44)) rfl fun h5 u5 z5=>hk _ h5 ((e03.trans e44).updS u5 fun j hj=>by omega) ?_
   have:=e03.size
   have:=e3.size
   exact hz.keep (fun b hb hl=>Zo u5 hl fun e=>by have:=hb.1;omega) fun b hb=>⟨by have:=hb.1;omega,by have:=hb.2;omega⟩
theorem ZiZ {h0:Zc} {x:Sl} {l:List (Sl × Za2)} {S:Nat->Prop} (hr:Row h0 x 3 (l.flatMap ZfF)) (hin:inS S x) (hS:∀ j,S j->j<sz h0) (hl:∀ p,p∈l->p.2.res.length<=20000000/\Ztd h0 S p/\wV (ZcB (p.2.origins.map ZdY))<=40000000000) (hw:wV (ZcB (l.map fun p=>Zda p.2))<=40000000000) (ht:ZaN h0) {K:VT5->HP}
    (hk:∀ z h',Ext h0 h'->Zam h' (fr h' (sz h0)) z (ZcB (l.map fun p=>Zda p.2))->K z h'):ZV x K h0:=by
  unfold ZV YG
  refine YX fun h1 c1 e1 z1=>?_
  have s0:sz h0=h0.size:=rfl
  have s1:sz h1=h1.size:=rfl
  have c1':obj h1 h0.size=some (.cells zV.toArray 33 (0,0)):=c1
  have hlen:=ZaA (c:=ZfF) (n:=3) (fun _=>rfl) hr (by decide)
  have big:=hr.big
  have cap:=hr.cap
  have hpw:pw (ZcL (l.map fun p=>Zda p.2))<=40000000000:=by simp only [wV,ZcB] at hw;omega
  have hcnt:l.length<=40000000000:=by have:=ZdN (ZcL (l.map fun p=>Zda p.2));rw [ZaW,Ayx] at this;omega
  refine Zv (fun p h'=>∃ (i:Nat) (vs:List Value),p.2.1=i/\i<=l.length/\Own h' (sz h1) p.1 4 vs/\Xm h' (fun j=>sz h1<=j/\j<sz h'/\p.1.blk≠some j) (ZcL ((l.take i).map fun p=>Zda p.2)) vs/\Ext h1 h') (fun p _=>(l.length - p.2.1).toNat)
    ⟨0,[],rfl,Ayk _,Own.nil _ _ _,rfl,Ext.refl _⟩ ?_
  rintro ⟨out,i_,u⟩ h3 ⟨i,vs,hi,hil,own,lst,e3⟩
  dsimp only at hi own lst ⊢
  subst hi
  have s3:sz h3=h3.size:=rfl
  have e03:=e1.trans e3
  have hol:out.len=i:=by have:=own.len;have:=lst.len;rw [ZaW,Ayx,Ayo] at this;omega
  have olt:∀ {j:Nat},out.blk=some j->sz h1<=j/\j<sz h3:=fun e=>own.lt e
  refine Zt (fun hlt=>?_) fun hge=>?_
  ·have hia:i<l.length:=by omega
   obtain ⟨p,hp⟩:∃ p,l[i]?=some p:=⟨l[i],Ayb hia⟩
   have hpm:=hl p (Axq hp)
   refine ZbN (c:=ZfF) (fun _=>rfl) (Yi hr hin fun b _ hb=>Zq e03 hb) (by decide) hp rfl fun b o g=>?_
   refine ⟨_,g 0 _ rfl,_,g 1 _ rfl,p.1,g 2 _ rfl,YX fun h17 c17 e17 z17=>ZeW c17 (by show 3<=3;omega) rfl fun h18 c18 u18 z18=>?_⟩
   have s17:sz h17=h17.size:=rfl
   have s18:sz h18=h18.size:=rfl
   have e318:Ext h3 h18:=e17.updS u18 fun j hj=>by subst hj;exact Aqo _
   refine rS (Zb c18 rfl) (rBl (Zb c18 rfl) (rL (s:=p.1) (Zb c18 rfl) (?_)))
   have t18:ZaN h18:=ht.ext (e03.trans e318)
   refine ZyY (f:=p.2) (x:=p.1) (S:=S) hpm.1 (Yi hpm.2.1.1 hpm.2.1.2 fun b _ hb=>Zq (e03.trans e318) hb) hpm.2.1.2 (fun j hj=>Aqq (hS j hj) (e03.trans e318).size) hpm.2.2 fun o z T h32 e32 c32 hz=>?_
   have s32:sz h32=h32.size:=rfl
   have sz32:sz h18<=sz h32:=e32.size
   have e332:Ext h3 h32:=e318.trans e32
   refine Zu (rI (Zb c32 rfl) (rS (Zb c32 rfl) (rL (s:=z.2.2.1) (Zb c32 rfl) (rL (s:=z.2.2.2.1) (Zb c32 rfl) ?_))))
   refine Zcb (cells:=Xl z) (own.congr fun b _ hb _=>Zq e332 hb) rfl (Zcf z) rfl (by omega) (by omega) (by have:=e3.size;omega) fun s' h42 o42 u42 b42=>?_
   have s42:sz h42=h42.size:=rfl
   have sz42:sz h32<=sz h42:=u42.size
   rw [Yt (by omega) (by omega)]
   have snb:∀ j,s'.blk=some j->out.blk=some j\/sz h32<=j:=fun j e=>by
     rcases b42 with e2 | ⟨c,e2,e3⟩
     ·left;rw [<- e2];exact e
     ·right;rw [e] at e2;cases e2;exact e3
   refine ⟨⟨i+1,vs++Xl z,rfl,by omega,o42,?_,(e3.trans e332).updS u42 fun j hj=>by have:=(olt hj).1;omega⟩,by omega⟩
   have ht1:(l.take (i+1)).map (fun p=>Zda p.2)=(l.take i).map (fun p=>Zda p.2)++[Zda p.2]:=by rw [Ayu,hp];simp
   rw [ht1,Zey]
   refine Xm.snoc (hz.keep (S':=fun j=>sz h1<=j/\j<sz h42/\s'.blk≠some j) (fun b hb hl=>Zo u42 hl fun e=>by have:=hb.1;have:=(olt e).2;omega) fun b hb=>⟨by have:=hb.1;have:=e3.size;omega,by have:=hb.2;omega,fun e=>?_⟩) (lst.keep (fun b hb hl=>?_) fun b hb=>⟨hb.1,by omega,fun e=>?_⟩)
   ·have h1b:=hb.1
    have h2b:=hb.2
    rcases snb b e with e2 | e2
    ·have:=(olt e2).2;omega
    ·omega
   ·rw [Zo u42 (by omega) fun e=>hb.2.2 e]
    exact Zq e332 hl
   ·rcases snb b e with e2 | e2
    ·exact hb.2.2 e2
    ·omega
  ·have:i=l.length:=by omega
   subst this
   rw [Awd (Aqo _)] at lst
   refine Zdh (S:=fun j=>sz h1<=j/\j<sz h3) own.row (fun _ b hb=>own.lt hb) (lst.keep (fun _ _ _=>rfl) fun b hb=>⟨hb.1,hb.2.1⟩) (fun j hj=>hj.2) (by omega) fun z h44 e44 hz=>?_
   refine Zbc (x:=z.2.2.1) (y:=z.2.2.2.1) (Zl c1' (e3.trans e44)) rfl fun h5 u5 z5=>hk _ h5 ((e03.trans e44).updS u5 fun j hj=>by omega) ?_
   have:=e03.size
   have:=e3.size
   exact hz.keep (fun b hb hl=>Zo u5 hl fun e=>by have:=hb.1;omega) fun b hb=>⟨by have:=hb.1;omega,by have:=hb.2;omega⟩
end Go.Proofs.YtpjbjdheeemdiaaGreatDoor
