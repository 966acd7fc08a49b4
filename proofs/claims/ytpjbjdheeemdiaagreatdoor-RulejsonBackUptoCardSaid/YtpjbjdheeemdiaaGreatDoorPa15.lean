/- An item is read (printed by mkRjO.py) -/
import Derived.Lib.AtoiAllCases
import Derived.Test.YtpjbjdheeemdiaaGreatDoorPa14
set_option linter.unusedVariables false
set_option linter.unusedSimpArgs false
namespace Go.Proofs.YtpjbjdheeemdiaaGreatDoor
open Go Go.Fw Go.Js
theorem Zlr {κ μ:Type} {rd b:κ->JV->Except Nat μ} {F:List (BL × κ)} (h:∀ a j k v,Zbh a F 0=some (j,k)->rd k v=b k v):∀ (l:List (BL × JV)) (seen:List BL) (m:List μ),Zhh rd F seen l m=Zhh b F seen l m
  | [],_,_=>rfl
  | (a,v)::r,seen,m=>by
    simp only [Zhh]
    cases c:Zbh a F 0 with
    | none=>rfl
    | some p =>
      obtain ⟨j,k⟩:=p
      dsimp only
      rw [h a j k v c]
      split
      ·rfl
      ·cases b k v with
       | error e=>rfl
       | ok x=>exact Zlr h r _ _
def Ztq:List MV:=[.t [],.n 0]
theorem Zm0 {a:BL} {j:Nat} {k:FK} (h:Zbh a Zlc 0=some (j,k)):k = .text\/k = .num:=by
  have:=Axq (Y5 h)
  simp only [Zlc,Awr,Prod.mk.injEq,Azk,or_false] at this
  rcases this with ⟨_,rfl⟩ | ⟨_,rfl⟩
  ·exact .inl rfl
  ·exact .inr rfl
theorem ZoI (v:JV):Xn ZaR Zlc Ztq v=Xn Zdn Zlc [.t [],.n 0] v:=by
  unfold Xn
  split
  ·exact Zlr (fun a j k v b=>by rcases Zm0 b with rfl | rfl<;>rfl) _ _ _
  ·rfl
theorem ZyZ:∀ a j,Zbh a Zlc 0≠some (j,.items):=fun a j h=>by rcases Zm0 h with e | e<;>cases e
theorem ZyY:ZFu Zlc Ztq:=fun a j k h=>by rcases Zm0 h with rfl | rfl<;>trivial
theorem ZES {m:List MV} (h:m.map MV.sort=Ztq.map MV.sort):m=[.t (Zm1 m).1,.n (Zm1 m).2]:=by
  obtain ⟨c,l,rfl,a,h⟩:=ZF h
  obtain ⟨d,l,rfl,b,h⟩:=ZF h
  have:=ZeF h;subst this
  obtain ⟨_,rfl⟩:=Zmq a
  obtain ⟨_,rfl⟩:=Zex b
  rfl
def ZgG:Nat->Nat:=fun j=>([6,10]:List Nat).getD j 1000
set_option maxRecDepth 4000 in
set_option maxHeartbeats 2000000 in
theorem ZEQ:Zvq (Xo (ZH 1)):=by
  intro A R B T base m c3 l z v S K er rc ne rb bb an r9 b9 V n3 N ao hl ht hv hS hw ok bad
  unfold Xo ZbV
  refine YZ fun p X I z0=>YZ fun E c2 e1 z1=>?_
  have aW:sz A=A.size:=rfl
  have aX:sz p=p.size:=rfl
  have aY:sz E=E.size:=rfl
  have hR:=er.lt
  have hB:=rc.lt
  have Y:Ext A E:=I.trans e1
  have Z:obj E A.size=some (.cells (Xq z).toArray 33 (0,0)):=Zn X e1
  have cr:obj E p.size=some (.cells (Ztq.map Zgm).toArray 203 (0,0)):=c2.trans (by kernel_rfl)
  have aq:∀ x,x∈Ztq->mk x<4:=by decide +kernel
  have aa:=V.ext Y
  have O:∀ {h':Zc},Ext E h'->Yb h' [(A.size,0,.int .u8 z.1),(A.size,0+1,.string z.2.1),(A.size,0+2,.slice z.2.2.1.ptr z.2.2.1.len z.2.2.1.cap),(A.size,0+3,.slice z.2.2.2.1.ptr z.2.2.2.1.len z.2.2.2.1.cap)]:=fun e=>Zr2 (Zn Z e)
  have q:∀ {h':Zc},Ext E h'->Yb h' [(c3,0,.pointer (At R))]:=fun e=>Zf9 (aa.ext e)
  have wk:∀ {c:Nat},sz E<=c->sz A<=c/\c≠p.size:=fun h=>⟨by omega,by omega⟩
  obtain ⟨Tp,cp⟩:=aa
  refine Zo (rP (Zb cp rfl) (rI (Zb Z rfl) (rS (Zb Z rfl) (rL (s:=z.2.2.1) (Zb Z rfl) (rL (s:=z.2.2.2.1) (Zb Z rfl) (Zo (rP (Zb cp rfl) (Zo (rP (Zb cp rfl) ?_)))))))))
  refine ZdY (fun d t h=>Lit (YG R p.size (fun b=>sz A<=b/\b≠p.size)) Zlc 2 ZgG E d t.1 h/\(d 5=true->YG R p.size (fun b=>sz A<=b/\b≠p.size) .text 0 (.func (.func 211) #[] #[.pointer t.2.1.1,.pointer t.2.1.2.1]) h)/\(d 9=true->YG R p.size (fun b=>sz A<=b/\b≠p.size) .num 1 (.func (.func 213) #[] #[.pointer t.2.2.1.1,.pointer t.2.2.1.2.1]) h)) (none,(none,none,()),(none,none,()),()) ⟨Lit.start _ _,(fun e=>by cases e),(fun e=>by cases e)⟩ ?_ ?_
  ·rintro d ⟨s0,s1,s2,⟨⟩⟩ h ⟨L,P,Q⟩
   refine ⟨?_,?_,?_,?_,?_,trivial⟩
   ·exact fun I=>L.make I (by decide:∀ j,j<2->ZgG j≠2) fun mb h' G o=>⟨q G.ext,⟨q G.ext,⟨O G.ext,⟨q G.ext,⟨G,fun e=>(P e).ext o,fun e=>(Q e).ext o⟩⟩⟩⟩⟩
   ·exact fun I  => Zf3 fun X c2 h' o z1 z2 _ _ b1 b2=>⟨q (L.ext.trans o),⟨O (L.ext.trans o),⟨q (L.ext.trans o),⟨L.call o (fun g=>g.ext o) (by decide) (by decide:∀ j,j<2->ZgG j≠5),fun _=>⟨X,c2,rfl,⟨wk (Aqp L.ext.size z1),wk (Aqp L.ext.size z2)⟩,b1,b2⟩,fun e=>(Q e).ext o⟩⟩⟩⟩
   ·exact fun I a0 a1=>L.put a0 (j:=0) (a:=[118,97,108,117,101]) (k:= .text) (by kernel_rfl) (by decide:∀ i,i<2->ZgG i=ZgG 0->i=0) rfl (by decide) (P a1) YG.map fun h' G o u'=>⟨q o,⟨q o,⟨O o,⟨q o,⟨G,fun e=>(P e).map u',fun e=>(Q e).map u'⟩⟩⟩⟩⟩
   ·exact fun I a0=>Y6 fun X c2 h' o z1 z2 _ _ b1 b2=>⟨q (L.ext.trans o),⟨O (L.ext.trans o),⟨q (L.ext.trans o),⟨L.call o (fun g=>g.ext o) (by decide) (by decide:∀ j,j<2->ZgG j≠9),fun e=>(P e).ext o,fun _=>⟨X,c2,rfl,⟨wk (Aqp L.ext.size z1),wk (Aqp L.ext.size z2)⟩,b1,b2⟩⟩⟩⟩⟩
   ·exact fun I a0 a1=>L.put a0 (j:=1) (a:=[99,111,117,110,116]) (k:= .num) (by kernel_rfl) (by decide:∀ i,i<2->ZgG i=ZgG 1->i=1) rfl (by decide) (Q a1) YG.map fun h' G o u'=>⟨q o,⟨q o,⟨O o,⟨q o,⟨G,fun e=>(P e).map u',fun e=>(Q e).map u'⟩⟩⟩⟩⟩
  ·rintro d ⟨s0,s1,s2,⟨⟩⟩ h ⟨L,P,Q⟩
   intro d2 d5 d6 d9 d10
   refine ⟨q L.ext,⟨q L.ext,⟨O L.ext,⟨q L.ext,?_⟩⟩⟩⟩
   obtain ⟨mb,f,n,cls,rfl,bs,hm,hf,hG⟩:=L.all d2 (fun j N=>match j,N with
     | 0,_=>d6
     | 1,_=>d10
     | k+2,N=>absurd N (Azu.2 (Azv 2 k)))
   have U:Ext A h:=Y.trans L.ext
   have bx:sz E<=sz h:=L.ext.size
   have ax:=Zn cr L.ext
   show Xt (ZH 0) _ _ _ _ _
   have D:∀ {J:List MV} {h':Zc} {e:Nat},J.map mk=Ztq.map mk->Zha p.size 203 (sz h+1) J h'->Er h' R e->Upd (Wr R p.size (sz h+1)) h h'->(∀ x H,x=Zm1 J->Zha B T base (m.set 4 (.is (l++[x]))) H->Er H R e->Upd (Wr R B base) A H->K H) ->
       (Y9 (Yb h' [(c3,0,.pointer (At R))]) <| Y9 (Yb h' [(c3,0,.pointer (At R))]) <| Ze (At B) fun ay az=>ldL h' ay (az+4) fun t33=>ldS h' p.size 0 fun t34=>ldI h' p.size (0+1) .i64 fun t35 =>
         newC h' [.string t34,.int .i64 t35] 203 fun aA ad=>rdS ⟨some ⟨aA,0,none⟩,1,1⟩ 2 ad fun new=>app 203 2 24 [.string (ByteArray.mk #[]),.int .i64 0] t33 1 new ad fun t38 aB=>Ze (At B) fun aC aD=>st aB aC (aD+4) (.slice t38.ptr t38.len t38.cap) fun aE=>K aE):=by
     intro J h' e hs r aF u k
     have em:=ZES (Ziq hs)
     obtain ⟨x,hx⟩:∃ x,x=Zm1 J:=⟨_,rfl⟩
     rw [<- hx] at em
     rw [em] at r
     have c:=ZhH r (by intro y hy;simp only [Awr,Azk,or_false] at hy;rcases hy with rfl | rfl<;>(show (_:Nat)<4;simp [mk]))
     have bz:sz h<=sz h':=u.size
     have ag:Box h' c3 (.pointer (At R)):=(V.ext U).upd u (by rintro (e | e | e)<;>omega)
     have aG:Zha B T base m h':=rc.upd (UN U u) (by rintro (e | e | e)<;>omega) (by rintro b (e | e | e)<;>first | (left;omega) | (right;omega))
     obtain ⟨vs,cB,hlen,g⟩:=aG
     obtain ⟨w,aI,s,aJ,own⟩:=g 4 (.is l) N
     subst aJ
     have aK:4<m.length:=(Azl.1 N).1
     have aL:4<vs.length:=by omega
     have bA:s.len=l.length:=by have:=own.len;unfold ZfF at this;rw [Zfr (n:=2) (fun _=>rfl)] at this;omega
     have ba:sz h'=h'.size:=rfl
     refine ⟨Zf9 ag,Zf9 ag,Zo (rL (s:=s) (Zb cB (by simpa using aI)) (rS (Zb c rfl) (rI (Zb c rfl) (YZ fun h5 c5 e5 z5=>Zjm c5 rfl ?_))))⟩
     have bc:sz h5=h5.size:=rfl
     have C:Own h5 base s 2 (ZfF l):=own.congr fun b _ M _=>Zu e5 M
     refine C.app (new:=[sV x.1,.int .i64 x.2]) rfl rfl rfl (by omega) (by omega) (show base<=h5.size by omega) fun s6 h6 o6 bC u6 bD=>?_
     have aN:¬ s.blk=some B:=fun e=>by have:=(C.lt e).1;omega
     have aO:¬ s.blk=some R:=fun e=>by have:=(C.lt e).1;omega
     have aP:obj h6 B=some (.cells vs.toArray T (0,0)):=ZG (Zn cB e5) u6 aN
     refine Zo (Zk2 aP aL rfl fun h7 c7 u7 z7=>k x h7 hx ?_ ?_ ?_)
     ·refine Zul (h':=h7) (R:=R) cB hlen g ao c7 (x:= .is (l++[x])) ⟨s6,rfl,?_⟩ aK
      have o7:Own h6 base s6 2 (ZfF (l++[x])):=by
        have:ZfF (l++[x])=ZfF l++[sV x.1,.int .i64 x.2]:=by unfold ZfF;rw [Aze];rfl
        rw [this]
        exact o6
      exact o7.congr fun b _ M bG=>Zt u7 M fun e=>by omega
     ·exact ((aF.ext e5).upd u6 aO).upd u7 fun e=>ne e.symm
     ·refine UT (UT (UT (U.upd _) u ?_) ((e5.upd (fun b=>s.blk=some b)).trans u6) ?_) u7 ?_
      ·rintro k' (e | e | e)
       ·exact .inl (.inl e)
       ·right;omega
       ·right;omega
      ·intro k' e
       exact .inl (.inr (.inr (C.lt e).1))
      ·intro k' e
       exact .inl (.inr (.inl e))
   refine ZoR (f165:=ZH 0) (F:=Zlc) (m0:=Ztq) (S:=S) (B:=p.size) (T:=203) (W:=fun b=>sz A<=b/\b≠p.size) (.inl ZyZ) rfl ZyY (er.ext U) (Zuk ax aq) (by omega) (fun b M=>⟨by omega,M.2⟩) r9 (by omega) hm hf ⟨by omega,by omega⟩ hG (ht.ext U)
     (hv.keep (fun b _ hl=>Zu U hl) fun _ h=>h) (fun b M=>by obtain ⟨y1,y2,y3⟩:=hS b M;exact ⟨by omega,y2,by omega⟩) hw (fun J h' hq hs r o u=>D hs r o u fun x H hx r2 e2 u2=>ok x H ?_ r2 e2 u2) fun e J h' hq hn hs r o u=>D hs r o u fun x H hx r2 e2 u2=>bad e _ H ?_ hn r2 e2 u2
   ·rw [ZoI] at hq
    unfold ZaZ
    rw [hq,hx]
   ·rw [ZoI] at hq
    unfold ZaZ
    rw [hq]
theorem ZBl:ZFu Zts ZwF:=fun a j k h=>by
  have b:=Y5 h
  match j,b with
  | 0,b=>simp [Zts] at b;obtain ⟨_,rfl⟩:=b;trivial
  | 1,b=>simp [Zts] at b;obtain ⟨_,rfl⟩:=b;trivial
  | 2,b=>simp [Zts] at b;obtain ⟨_,rfl⟩:=b;trivial
  | 3,b=>simp [Zts] at b;obtain ⟨_,rfl⟩:=b;trivial
  | 4,b =>
    simp [Zts] at b;obtain ⟨_,rfl⟩:=b
    refine ⟨rfl,rfl,fun i y c d=>?_⟩
    match i,c,d with
    | 0,c,_=>simp [ZwF] at c;subst c;decide
    | 1,c,_=>simp [ZwF] at c;subst c;decide
    | 2,c,_=>simp [ZwF] at c;subst c;decide
    | 3,c,_=>simp [ZwF] at c;subst c;decide
    | 4,_,d=>exact absurd rfl d
    | i+5,c,_=>simp [ZwF] at c
  | j+5,b=>simp [Zts] at b
def ZcM:Nat->Nat:=fun j=>([6,10,14,18,22]:List Nat).getD j 1000
set_option maxRecDepth 4000 in
set_option maxHeartbeats 2000000 in
theorem ZG3 {p:Zc} {R:Nat} (er:Er p R 0) (r9:9<=R) (ht:ZaT p) (h9:9<=sz p) {z:VT5} {v:JV} {S:Nat->Prop} (hv:ZaS p S z v) (hS:∀ b,S b->b<sz p/\b≠R) (hw:wV v<=1000000000000) {K:(ByteArray × Int × Int × Int × Sl × Unit)->HP}
    (ok:∀ x f h',Zcc v = .ok f->Own h' (sz p) x 2 (ZfF f.items)->Er h' R 0->Upd (· = R) p h'->K (ZFC x f) h') (bad:∀ e x f h',Zcc v = .error e->e≠0->Own h' (sz p) x 2 (ZfF f.items)->Er h' R e->Upd (· = R) p h'->K (ZFC x f) h'):Zan (At R) z K p:=by
  unfold Zan ZcT
  refine YZ fun Z P I z0=>YZ fun h3 c2 e1 Q=>YZ fun G c3 e2 z2=>YZ fun J c4 e3 z3=>?_
  have aK:sz p=p.size:=rfl
  have aL:sz Z=Z.size:=rfl
  have aM:sz h3=h3.size:=rfl
  have aN:sz G=G.size:=rfl
  have aO:sz J=J.size:=rfl
  have hR:=er.lt
  have au:Ext p Z:=I
  have av:Ext p h3:=au.trans e1
  have aw:Ext p G:=av.trans e2
  have ax:Ext p J:=aw.trans e3
  have ay:obj J Z.size=some (.cells (Xq z).toArray 33 (0,0)):=Zn (Zn c2 e2) e3
  have az:obj J h3.size=some (.cells [.string (ByteArray.mk #[]),.int .i64 0,.int .i64 0,.int .i64 0,.slice none 0 0].toArray 85 (0,0)):=Zn c3 e3
  have ab:Box J p.size (.pointer (At R)):=⟨_,Zn (Zn (Zn P e1) e2) e3⟩
  have cv:=ay
  have cz:=az
  have cr:obj J G.size=some (.cells ([.t [],.n 0,.n 0,.n 0].map Zgm++[slV ⟨none,0,0⟩]).toArray 85 (0,0)):=c4.trans (by kernel_rfl)
  have aA:∀ x,x∈[.t [],.n 0,.n 0,.n 0]->mk x<4:=by decide +kernel
  have M:∀ {h':Zc},Ext J h'->Yb h' [(Z.size,0,.int .u8 z.1),(Z.size,0+1,.string z.2.1),(Z.size,0+2,.slice z.2.2.1.ptr z.2.2.1.len z.2.2.1.cap),(Z.size,0+3,.slice z.2.2.2.1.ptr z.2.2.2.1.len z.2.2.2.1.cap)]:=fun e=>Zr2 (Zn cv e)
  have U:∀ {c:Nat},sz J<=c->sz p<=c/\c≠G.size:=fun h=>⟨by omega,by omega⟩
  have o:∀ {h':Zc},Ext J h'->Yb h' [(p.size,0,.pointer (At R))]:=fun e=>Zf9 (ab.ext e)
  have aB:=ab
  have aC:sz p<=p.size/\p.size≠G.size:=⟨by omega,by omega⟩
  obtain ⟨Tp,cp⟩:=ab
  refine rP (Zb cp rfl) (rI (Zb cv rfl) (rS (Zb cv rfl) (rL (s:=z.2.2.1) (Zb cv rfl) (rL (s:=z.2.2.2.1) (Zb cv rfl) (rP (Zb cp rfl) (rP (Zb cp rfl) (rP (Zb cp rfl) (rP (Zb cp rfl) (rP (Zb cp rfl) (?_))))))))))
  refine ZdY (fun d t h=>Lit (YG R G.size (fun b=>sz p<=b/\b≠G.size)) Zts 2 ZcM J d t.1 h/\(d 5=true->YG R G.size (fun b=>sz p<=b/\b≠G.size) .text 0 (.func (.func 211) #[] #[.pointer t.2.1.1,.pointer t.2.1.2.1]) h)/\(d 9=true->YG R G.size (fun b=>sz p<=b/\b≠G.size) .num 1 (.func (.func 213) #[] #[.pointer t.2.2.1.1,.pointer t.2.2.1.2.1]) h)/\(d 13=true->YG R G.size (fun b=>sz p<=b/\b≠G.size) .num 2 (.func (.func 213) #[] #[.pointer t.2.2.2.1.1,.pointer t.2.2.2.1.2.1]) h)/\(d 17=true->YG R G.size (fun b=>sz p<=b/\b≠G.size) .num 3 (.func (.func 213) #[] #[.pointer t.2.2.2.2.1.1,.pointer t.2.2.2.2.1.2.1]) h)/\(d 21=true->YG R G.size (fun b=>sz p<=b/\b≠G.size) .items 4 (.func (.func 216) #[] #[.pointer t.2.2.2.2.2.1.1,.pointer t.2.2.2.2.2.1.2.1]) h)) (none,(none,none,()),(none,none,()),(none,none,()),(none,none,()),(none,none,()),()) ⟨Lit.start _ _,(fun e=>by cases e),(fun e=>by cases e),(fun e=>by cases e),(fun e=>by cases e),(fun e=>by cases e)⟩ ?_ ?_
  ·rintro d ⟨s0,s1,s2,s3,s4,s5,⟨⟩⟩ h ⟨L,N,O,A,C,D⟩
   refine ⟨?_,?_,?_,?_,?_,?_,?_,?_,?_,?_,?_,trivial⟩
   ·exact fun I=>L.make I (by decide:∀ j,j<5->ZcM j≠2) fun mb h' H l=>⟨o H.ext,⟨o H.ext,⟨o H.ext,⟨o H.ext,⟨o H.ext,⟨M H.ext,⟨o H.ext,⟨H,fun e=>(N e).ext l,fun e=>(O e).ext l,fun e=>(A e).ext l,fun e=>(C e).ext l,fun e=>(D e).ext l⟩⟩⟩⟩⟩⟩⟩⟩
   ·exact fun I  => Zf3 fun P c2 h' l Q z2 _ _ V X=>⟨o (L.ext.trans l),⟨o (L.ext.trans l),⟨o (L.ext.trans l),⟨o (L.ext.trans l),⟨M (L.ext.trans l),⟨o (L.ext.trans l),⟨L.call l (fun g=>g.ext l) (by decide) (by decide:∀ j,j<5->ZcM j≠5),fun _=>⟨P,c2,rfl,⟨U (Aqp L.ext.size Q),U (Aqp L.ext.size z2)⟩,V,X⟩,fun e=>(O e).ext l,fun e=>(A e).ext l,fun e=>(C e).ext l,fun e=>(D e).ext l⟩⟩⟩⟩⟩⟩⟩
   ·exact fun I a0 Y=>L.put a0 (j:=0) (a:=[114,101,115,111,117,114,99,101]) (k:= .text) (by kernel_rfl) (by decide:∀ i,i<5->ZcM i=ZcM 0->i=0) rfl (by decide) (N Y) YG.map fun h' H l q=>⟨o l,⟨o l,⟨o l,⟨o l,⟨o l,⟨M l,⟨o l,⟨H,fun e=>(N e).map q,fun e=>(O e).map q,fun e=>(A e).map q,fun e=>(C e).map q,fun e=>(D e).map q⟩⟩⟩⟩⟩⟩⟩⟩
   ·exact fun I a0=>Y6 fun P c2 h' l Q z2 _ _ V X=>⟨o (L.ext.trans l),⟨o (L.ext.trans l),⟨o (L.ext.trans l),⟨o (L.ext.trans l),⟨M (L.ext.trans l),⟨o (L.ext.trans l),⟨L.call l (fun g=>g.ext l) (by decide) (by decide:∀ j,j<5->ZcM j≠9),fun e=>(N e).ext l,fun _=>⟨P,c2,rfl,⟨U (Aqp L.ext.size Q),U (Aqp L.ext.size z2)⟩,V,X⟩,fun e=>(A e).ext l,fun e=>(C e).ext l,fun e=>(D e).ext l⟩⟩⟩⟩⟩⟩⟩
   ·exact fun I a0 Y=>L.put a0 (j:=1) (a:=[105,110,100,101,120]) (k:= .num) (by kernel_rfl) (by decide:∀ i,i<5->ZcM i=ZcM 1->i=1) rfl (by decide) (O Y) YG.map fun h' H l q=>⟨o l,⟨o l,⟨o l,⟨o l,⟨o l,⟨M l,⟨o l,⟨H,fun e=>(N e).map q,fun e=>(O e).map q,fun e=>(A e).map q,fun e=>(C e).map q,fun e=>(D e).map q⟩⟩⟩⟩⟩⟩⟩⟩
   ·exact fun I a0=>Y6 fun P c2 h' l Q z2 _ _ V X=>⟨o (L.ext.trans l),⟨o (L.ext.trans l),⟨o (L.ext.trans l),⟨o (L.ext.trans l),⟨M (L.ext.trans l),⟨o (L.ext.trans l),⟨L.call l (fun g=>g.ext l) (by decide) (by decide:∀ j,j<5->ZcM j≠13),fun e=>(N e).ext l,fun e=>(O e).ext l,fun _=>⟨P,c2,rfl,⟨U (Aqp L.ext.size Q),U (Aqp L.ext.size z2)⟩,V,X⟩,fun e=>(C e).ext l,fun e=>(D e).ext l⟩⟩⟩⟩⟩⟩⟩
   ·exact fun I a0 Y=>L.put a0 (j:=2) (a:=[99,111,117,110,116]) (k:= .num) (by kernel_rfl) (by decide:∀ i,i<5->ZcM i=ZcM 2->i=2) rfl (by decide) (A Y) YG.map fun h' H l q=>⟨o l,⟨o l,⟨o l,⟨o l,⟨o l,⟨M l,⟨o l,⟨H,fun e=>(N e).map q,fun e=>(O e).map q,fun e=>(A e).map q,fun e=>(C e).map q,fun e=>(D e).map q⟩⟩⟩⟩⟩⟩⟩⟩
   ·exact fun I a0=>Y6 fun P c2 h' l Q z2 _ _ V X=>⟨o (L.ext.trans l),⟨o (L.ext.trans l),⟨o (L.ext.trans l),⟨o (L.ext.trans l),⟨M (L.ext.trans l),⟨o (L.ext.trans l),⟨L.call l (fun g=>g.ext l) (by decide) (by decide:∀ j,j<5->ZcM j≠17),fun e=>(N e).ext l,fun e=>(O e).ext l,fun e=>(A e).ext l,fun _=>⟨P,c2,rfl,⟨U (Aqp L.ext.size Q),U (Aqp L.ext.size z2)⟩,V,X⟩,fun e=>(D e).ext l⟩⟩⟩⟩⟩⟩⟩
   ·exact fun I a0 Y=>L.put a0 (j:=3) (a:=[115,101,99,111,110,100,115]) (k:= .num) (by kernel_rfl) (by decide:∀ i,i<5->ZcM i=ZcM 3->i=3) rfl (by decide) (C Y) YG.map fun h' H l q=>⟨o l,⟨o l,⟨o l,⟨o l,⟨o l,⟨M l,⟨o l,⟨H,fun e=>(N e).map q,fun e=>(O e).map q,fun e=>(A e).map q,fun e=>(C e).map q,fun e=>(D e).map q⟩⟩⟩⟩⟩⟩⟩⟩
   ·exact fun I a0=>ZyJ fun P c2 h' l Q z2 V X=>⟨o (L.ext.trans l),⟨o (L.ext.trans l),⟨o (L.ext.trans l),⟨o (L.ext.trans l),⟨M (L.ext.trans l),⟨o (L.ext.trans l),⟨L.call l (fun g=>g.ext l) (by decide) (by decide:∀ j,j<5->ZcM j≠21),fun e=>(N e).ext l,fun e=>(O e).ext l,fun e=>(A e).ext l,fun e=>(C e).ext l,fun _=>⟨P,c2,_,rfl,⟨U (Aqp L.ext.size Q),U (Aqp L.ext.size z2),aC⟩,V,X,aB.ext (L.ext.trans l)⟩⟩⟩⟩⟩⟩⟩⟩
   ·exact fun I a0 Y=>L.put a0 (j:=4) (a:=[105,116,101,109,115]) (k:= .items) (by kernel_rfl) (by decide:∀ i,i<5->ZcM i=ZcM 4->i=4) rfl (by decide) (D Y) YG.map fun h' H l q=>⟨o l,⟨o l,⟨o l,⟨o l,⟨o l,⟨M l,⟨o l,⟨H,fun e=>(N e).map q,fun e=>(O e).map q,fun e=>(A e).map q,fun e=>(C e).map q,fun e=>(D e).map q⟩⟩⟩⟩⟩⟩⟩⟩
  ·rintro d ⟨s0,s1,s2,s3,s4,s5,⟨⟩⟩ h ⟨L,N,O,A,C,D⟩
   intro d2 d5 d6 d9 d10 d13 d14 d17 d18 d21 d22
   refine ⟨o L.ext,⟨o L.ext,⟨o L.ext,⟨o L.ext,⟨o L.ext,⟨M L.ext,⟨o L.ext,?_⟩⟩⟩⟩⟩⟩⟩
   obtain ⟨mb,f,n,cls,rfl,ba,hm,hf,hG⟩:=L.all d2 (fun j hj=>match j,hj with
     | 0,_=>d6
     | 1,_=>d10
     | 2,_=>d14
     | 3,_=>d18
     | 4,_=>d22
     | k+5,hj=>absurd hj (Azu.2 (Azv 5 k)))
   have hh:Ext p h:=ax.trans L.ext
   have bd:sz J<=sz h:=L.ext.size
   have aE:=Zn cr L.ext
   have ai:=Zn cz L.ext
   refine ⟨2,?_⟩
   refine ZoR (f165:=ZH 1) (F:=Zts) (m0:=ZwF) (S:=S) (B:=G.size) (T:=85) (W:=fun b=>sz p<=b/\b≠G.size) (.inr ZEQ) rfl ZBl (er.ext hh) (Zyc aE aA ⟨⟨none,0,0⟩,rfl,Own.nil _ _ _⟩) (by omega) (fun b hb=>⟨by omega,hb.2⟩) r9 (by omega) hm hf ⟨by omega,by omega⟩ hG (ht.ext hh)
     (hv.keep (fun b _ hl=>Zu hh hl) fun _ h=>h) (fun b hb=>by obtain ⟨y1,y2⟩:=hS b hb;exact ⟨by omega,y2,by omega⟩) hw (fun m h' hq hs r l u=>?_) fun e m h' hq hn hs r l u=>?_
   ·have em:m=(Zn3 m).mv:=ZuM (Ziq hs)
    obtain ⟨f,hf⟩:∃ f,f=Zn3 m:=⟨_,rfl⟩
    rw [<- hf] at em
    rw [em] at r
    obtain ⟨w,c,x,rfl,own⟩:=ZlP (m:=[.t f.res,.n f.index,.n f.cnt,.n f.secs]) r (by intro y hy;simp only [Awr,Azk,or_false] at hy;rcases hy with rfl | rfl | rfl | rfl<;>(show (_:Nat)<4;simp [mk]))
    have ad:=ZG ai u (by rintro (e | e | e)<;>omega)
    have aH:sz h<=sz h':=u.size
    have E:Box h' p.size (.pointer (At R)):=Box.upd (Box.ext ⟨Tp,cp⟩ L.ext) u (by rintro (e | e | e)<;>omega)
    refine ⟨Zf9 E,⟨Zf9 E,⟨Zf9 E,⟨Zf9 E,⟨Zf9 E,rS (Zb c rfl) (rI (Zb c rfl) (rI (Zb c rfl) (rI (Zb c rfl) (rL (s:=x) (Zb c rfl) (ZfK ad (by show 5<=5;omega) rfl fun h2 c2 u2 z2=>rS (Zb c2 rfl) (rI (Zb c2 rfl) (rI (Zb c2 rfl) (rI (Zb c2 rfl) (rL (s:=x) (Zb c2 rfl) (ok x f h2 ?_ (by exact (own.congr fun b _ hl hb=>Zt u2 hl fun e=>by omega).base (by omega)) ?_ ?_))))))))))⟩⟩⟩⟩⟩
    ·exact by unfold Zcc;rw [hq,hf];rfl
    ·exact l.upd u2 fun e=>by omega
    ·exact UT (UT (hh.upd _) u fun k hk=>by rcases hk with e | e | e<;>omega) u2 fun k hk=> .inr (by omega)
   ·have em:m=(Zn3 m).mv:=ZuM (Ziq hs)
    obtain ⟨f,hf⟩:∃ f,f=Zn3 m:=⟨_,rfl⟩
    rw [<- hf] at em
    rw [em] at r
    obtain ⟨w,c,x,rfl,own⟩:=ZlP (m:=[.t f.res,.n f.index,.n f.cnt,.n f.secs]) r (by intro y hy;simp only [Awr,Azk,or_false] at hy;rcases hy with rfl | rfl | rfl | rfl<;>(show (_:Nat)<4;simp [mk]))
    have ad:=ZG ai u (by rintro (e | e | e)<;>omega)
    have aH:sz h<=sz h':=u.size
    have E:Box h' p.size (.pointer (At R)):=Box.upd (Box.ext ⟨Tp,cp⟩ L.ext) u (by rintro (e | e | e)<;>omega)
    refine ⟨Zf9 E,⟨Zf9 E,⟨Zf9 E,⟨Zf9 E,⟨Zf9 E,rS (Zb c rfl) (rI (Zb c rfl) (rI (Zb c rfl) (rI (Zb c rfl) (rL (s:=x) (Zb c rfl) (ZfK ad (by show 5<=5;omega) rfl fun h2 c2 u2 z2=>rS (Zb c2 rfl) (rI (Zb c2 rfl) (rI (Zb c2 rfl) (rI (Zb c2 rfl) (rL (s:=x) (Zb c2 rfl) (bad e x f h2 ?_ hn (by exact (own.congr fun b _ hl hb=>Zt u2 hl fun e=>by omega).base (by omega)) ?_ ?_))))))))))⟩⟩⟩⟩⟩
    ·exact by unfold Zcc;rw [hq];rfl
    ·exact l.upd u2 fun e=>by omega
    ·exact UT (UT (hh.upd _) u fun k hk=>by rcases hk with e | e | e<;>omega) u2 fun k hk=> .inr (by omega)
end Go.Proofs.YtpjbjdheeemdiaaGreatDoor
namespace Go.Js
open Go
theorem Znq {α:Type} {f:JV->Except Nat α}:∀ {a b:List JV} {i:Nat},Zap f (a++b) i=match Zap f a i with
    | .error e=> .error e
    | .ok x=>match Zap f b (i+a.length) with
      | .error e=> .error e
      | .ok y=> .ok (x++y)
  | [],b,i=>by
    simp only [Ayq,Zap,Ays,Axk]
    cases Zap f b i<;>rfl
  | c::a,b,i=>by
    simp only [Ayp,Zap]
    rw [Znq,show i+1+a.length=i+(c::a).length by simp;omega]
    cases f c with
    | error e=>rfl
    | ok y=>cases Zap f a (i+1) with
      | error e=>rfl
      | ok x=>cases Zap f b (i+(c::a).length)<;>rfl
theorem Zhr {α:Type} {f:JV->Except Nat α} {l:List JV} {i:Nat} {x:JV} {done:List α} (b:l[i]?=some x) (hd:Zap f (l.take i) 0 = .ok done) :
    (∀ e,f x = .error e->Zap f l 0 = .error (i,e))/\∀ y,f x = .ok y->Zap f (l.take (i+1)) 0 = .ok (done++[y]):=by
  obtain ⟨c,a⟩:=Azl.1 b
  have d:l=l.take i++(x::l.drop (i+1)):=by
    rw [<- a,<- Ayl c,Azi]
  have g:l.take (i+1)=l.take i++[x]:=by rw [Ayu,b];rfl
  have h:(l.take i).length=i:=by rw [Ayo];omega
  refine ⟨fun e he=>?_,fun y j=>?_⟩
  ·rw [d,Znq,hd,h,Awb]
   simp [Zap,he]
  ·rw [g,Znq,hd]
   simp [Zap,j]
end Go.Js
namespace Go.Proofs.YtpjbjdheeemdiaaGreatDoor
open Go Go.Fw Go.Js
theorem Zcr {h:Zc} {base n bytes:Nat} {out:Sl} {vs cells zs:List Value} {T f:TypeId} {K:Sl->Zc->Prop} (own:Own h base out n vs) (m:cells.length=n) (g:cells.all Ye=true) (i:zs.length=n) (c:(out.len+1)*bytes<=140737488355328) (j:out.len+1<=140737488355328) (d:base<=sz h)
    (l:∀ s' h',Own h' base s' n (vs++cells)->Upd (fun k=>out.blk=some k) h h'->(s'.blk=out.blk\/∃ b,s'.blk=some b/\sz h<=b)->K s' h') :
    newC h cells f fun b a=>rdS ⟨some ⟨b,0,none⟩,1,1⟩ n a fun new=>app T n bytes zs out 1 new a K:=by
  refine YZ fun a c2 e z2=>Zjm c2 (by omega) ?_
  have s2:sz a=a.size:=rfl
  have s1:sz h=h.size:=rfl
  refine (own.congr fun b _ c _=>Zu e c).app (by omega) g i c j (show base<=a.size by omega) fun s' h' o _ u bb=>l s' h' o (UN e u) ?_
  rcases bb with bb | bb
  ·exact .inl bb
  ·exact .inr ⟨_,bb,by omega⟩
set_option maxHeartbeats 1000000 in
theorem Zzs {a:Zc} {l:Sl} {sub:JL} {P:List Value} {S:Nat->Prop} (row:Row a l 4 P) (T:inS S l) (C:XC a S sub P) (hS:∀ b,S b->b<sz a) (ht:ZaT a) (U:9<=sz a) (hw:pw sub<=1000000000000) {K:Sl->Int->Int->HP}
    (ok:∀ x (fs:List FlowP) h',Zap Za0 sub.list 0 = .ok fs->Own h' (sz a) x 12 (fs.flatMap Zd5)->Ext a h'->K x 0 0 h') (bad:∀ (i e:Nat) h',Zap Za0 sub.list 0 = .error (i,e)->e≠0->Ext a h'->K ⟨none,0,0⟩ i e h'):Z0 l K a:=by
  unfold Z0 YL
  have hlen:l.len=sub.len:=by have:=row.len;have:=C.len;omega
  have big:=row.big
  have cap:=row.cap
  have al:=Zey sub
  refine Za (Za (Zv (fun Q h=>∃ (i:Nat) (fs:List FlowP),Q.2.1=i/\i<=sub.len/\Zap Za0 (sub.list.take i) 0 = .ok fs/\fs.length=i/\Own h (sz a) Q.1 12 (fs.flatMap Zd5)/\Ext a h) (fun Q _=>(sub.len - Q.2.1).toNat)
    ⟨0,[],rfl,Ayk _,rfl,rfl,Own.nil _ _ _,Ext.refl _⟩ ?_))
  rintro ⟨out,i0,u⟩ d ⟨i,fs,hi,hle,V,W,own,o⟩
  dsimp only at hi own ⊢
  subst hi
  have an:out.len=i:=by have:=own.len;rw [Zfr (n:=12) (fun _=>rfl)] at this;omega
  refine Zq (fun ao=>?_) fun aq=>?_
  ·have X:i<sub.len:=by omega
   obtain ⟨k,t,ns,s,r,hd⟩:=JL.drop_cons X
   have v:=JL.list_get hd
   obtain ⟨nE,nO⟩:=Zhr (f:=Za0) v V
   have keep:∀ b,S b->b<sz a->obj d b=obj a b:=fun b _ Y=>Zu o Y
   have D:Row d l 4 P:=Ym row T keep
   have E:XC d S sub P:=C.keep keep fun _ h=>h
   refine ZgR D E hd rfl fun z' Z=>YZ fun U c9 e9 z9=>Za (ZfK c9 (by show 4<=4;omega) rfl fun g aa ab aw=>YZ fun c c12 F z12=>?_)
   have s0:sz a=a.size:=rfl
   have s3:sz d=d.size:=rfl
   have s9:sz U=U.size:=rfl
   have ax:sz g=g.size:=rfl
   have ay:sz c=c.size:=rfl
   have G:obj g d.size=some (.cells (Xq z').toArray 33 (0,0)):=aa
   have R:=Zn G F
   have H:Ext d g:=e9.updS ab fun j I=>by subst I;exact Aqo _
   have m:Ext d c:=H.trans F
   have w:Ext a c:=o.trans m
   have ai:sz a<=sz d:=o.size
   have ad:wV ⟨k,t,ns,s⟩<=1000000000000:=Aqp (Zib (Axq v)) hw
   have er:Er c g.size 0:=⟨_,c12⟩
   refine rI (Zb R rfl) (rS (Zb R rfl) (rL (s:=z'.2.2.1) (Zb R rfl) (rL (s:=z'.2.2.2.1) (Zb R rfl) ?_)))
   have J:ZaS c S z' ⟨k,t,ns,s⟩:=Z.keep (fun b _ Y=>Zu m Y) fun _ h=>h
   refine ZFb er (by omega) (ht.ext w) (by omega) J (fun b L=>by have:=hS b L;exact ⟨by omega,by omega⟩) ad (fun f p hr y q=>?_) fun e f p hr hn y q=>?_
   all_goals
     have aj:sz c<=sz p:=q.size
     have blt:∀ {b:Nat},out.blk=some b->sz a<=b/\b<sz d:=fun e=>own.lt e
     have B:Own p (sz a) out 12 (fs.flatMap Zd5):=(own.congr fun b _ L _=>Zu m L).congr fun b af L _=>Zt q L fun e=>by have:=blt af;omega
     have M:Ext a p:=w.updS q fun j I=>by subst I;omega
     refine Zcr (cells:=Zd5 f) B rfl rfl rfl (by omega) (by omega) (by omega) fun s' N ag O aA=>?_
     have z:Ext a N:=M.updS O fun j I=>(blt I).1
     have A:=y.upd O fun e=>by have:=(blt e).2;omega
     refine Zfy A ?_
   ·refine Zl rfl ?_
    rw [YA (by omega) (by omega)]
    refine ⟨⟨i+1,fs++[f],rfl,by omega,nO f hr,by simp [W],?_,z⟩,by omega⟩
    rw [Aze,Azw]
    exact ag
   ·exact Zm (by simp;omega) (Zfy A (Za (Za (bad i e N (nE e hr) hn z))))
  ·have:i=sub.len:=by omega
   subst this
   rw [Awd (by rw [JL.list_len];omega)] at V
   exact Za (Za (ok out fs d V own o))
set_option maxHeartbeats 1000000 in
theorem Zww {a:Zc} {l:Sl} {sub:JL} {P:List Value} {S:Nat->Prop} (row:Row a l 4 P) (T:inS S l) (C:XC a S sub P) (hS:∀ b,S b->b<sz a) (ht:ZaT a) (U:9<=sz a) (hw:pw sub<=1000000000000) {K:Sl->Int->Int->HP}
    (ok:∀ x (fs:List Yx) h',Zap Zal sub.list 0 = .ok fs->Own h' (sz a) x 7 (fs.flatMap Zcu)->Ext a h'->K x 0 0 h') (bad:∀ (i e:Nat) h',Zap Zal sub.list 0 = .error (i,e)->e≠0->Ext a h'->K ⟨none,0,0⟩ i e h'):ZR l K a:=by
  unfold ZR YD
  have hlen:l.len=sub.len:=by have:=row.len;have:=C.len;omega
  have big:=row.big
  have cap:=row.cap
  have al:=Zey sub
  refine Za (Za (Zv (fun Q h=>∃ (i:Nat) (fs:List Yx),Q.2.1=i/\i<=sub.len/\Zap Zal (sub.list.take i) 0 = .ok fs/\fs.length=i/\Own h (sz a) Q.1 7 (fs.flatMap Zcu)/\Ext a h) (fun Q _=>(sub.len - Q.2.1).toNat)
    ⟨0,[],rfl,Ayk _,rfl,rfl,Own.nil _ _ _,Ext.refl _⟩ ?_))
  rintro ⟨out,i0,u⟩ d ⟨i,fs,hi,hle,V,W,own,o⟩
  dsimp only at hi own ⊢
  subst hi
  have an:out.len=i:=by have:=own.len;rw [Zfr (n:=7) (fun _=>rfl)] at this;omega
  refine Zq (fun ao=>?_) fun aq=>?_
  ·have X:i<sub.len:=by omega
   obtain ⟨k,t,ns,s,r,hd⟩:=JL.drop_cons X
   have v:=JL.list_get hd
   obtain ⟨nE,nO⟩:=Zhr (f:=Zal) v V
   have keep:∀ b,S b->b<sz a->obj d b=obj a b:=fun b _ Y=>Zu o Y
   have D:Row d l 4 P:=Ym row T keep
   have E:XC d S sub P:=C.keep keep fun _ h=>h
   refine ZgR D E hd rfl fun z' Z=>YZ fun U c9 e9 z9=>Za (ZfK c9 (by show 4<=4;omega) rfl fun g aa ab aw=>YZ fun c c12 F z12=>?_)
   have s0:sz a=a.size:=rfl
   have s3:sz d=d.size:=rfl
   have s9:sz U=U.size:=rfl
   have ax:sz g=g.size:=rfl
   have ay:sz c=c.size:=rfl
   have G:obj g d.size=some (.cells (Xq z').toArray 33 (0,0)):=aa
   have R:=Zn G F
   have H:Ext d g:=e9.updS ab fun j I=>by subst I;exact Aqo _
   have m:Ext d c:=H.trans F
   have w:Ext a c:=o.trans m
   have ai:sz a<=sz d:=o.size
   have ad:wV ⟨k,t,ns,s⟩<=1000000000000:=Aqp (Zib (Axq v)) hw
   have er:Er c g.size 0:=⟨_,c12⟩
   refine rI (Zb R rfl) (rS (Zb R rfl) (rL (s:=z'.2.2.1) (Zb R rfl) (rL (s:=z'.2.2.2.1) (Zb R rfl) ?_)))
   have J:ZaS c S z' ⟨k,t,ns,s⟩:=Z.keep (fun b _ Y=>Zu m Y) fun _ h=>h
   refine ZBK er (by omega) (ht.ext w) (by omega) J (fun b L=>by have:=hS b L;exact ⟨by omega,by omega⟩) ad (fun f p hr y q=>?_) fun e f p hr hn y q=>?_
   all_goals
     have aj:sz c<=sz p:=q.size
     have blt:∀ {b:Nat},out.blk=some b->sz a<=b/\b<sz d:=fun e=>own.lt e
     have B:Own p (sz a) out 7 (fs.flatMap Zcu):=(own.congr fun b _ L _=>Zu m L).congr fun b af L _=>Zt q L fun e=>by have:=blt af;omega
     have M:Ext a p:=w.updS q fun j I=>by subst I;omega
     refine Zcr (cells:=Zcu f) B rfl rfl rfl (by omega) (by omega) (by omega) fun s' N ag O aA=>?_
     have z:Ext a N:=M.updS O fun j I=>(blt I).1
     have A:=y.upd O fun e=>by have:=(blt e).2;omega
     refine Zfy A ?_
   ·refine Zl rfl ?_
    rw [YA (by omega) (by omega)]
    refine ⟨⟨i+1,fs++[f],rfl,by omega,nO f hr,by simp [W],?_,z⟩,by omega⟩
    rw [Aze,Azw]
    exact ag
   ·exact Zm (by simp;omega) (Zfy A (Za (Za (bad i e N (nE e hr) hn z))))
  ·have:i=sub.len:=by omega
   subst this
   rw [Awd (by rw [JL.list_len];omega)] at V
   exact Za (Za (ok out fs d V own o))
set_option maxHeartbeats 1000000 in
theorem ZBF {a:Zc} {l:Sl} {sub:JL} {cx:List Value} {S:Nat->Prop} (row:Row a l 4 cx) (ad:inS S l) (N:XC a S sub cx) (hS:∀ b,S b->b<sz a) (ht:ZaT a) (h9:9<=sz a) (hw:pw sub<=1000000000000) {K:Sl->Int->Int->HP}
    (ok:∀ x (fs:List (Sl × Zew)) h',Zap Zcc sub.list 0 = .ok (fs.map (·.2))->Own h' (sz a) x 5 (fs.flatMap ZlF)->(∀ p,p∈fs->Own h' (sz a) p.1 2 (ZfF p.2.items))->Ext a h'->K x 0 0 h') (bad:∀ (i e:Nat) h',Zap Zcc sub.list 0 = .error (i,e)->e≠0->Ext a h'->K ⟨none,0,0⟩ i e h'):Ya l K a:=by
  unfold Ya YY
  have hlen:l.len=sub.len:=by have:=row.len;have:=N.len;omega
  have big:=row.big
  have cap:=row.cap
  have az:=Zey sub
  refine Za (Za (Zv (fun O h=>∃ (i:Nat) (fs:List (Sl × Zew)),O.2.1=i/\i<=sub.len/\Zap Zcc (sub.list.take i) 0 = .ok (fs.map (·.2))/\fs.length=i/\Own h (sz a) O.1 5 (fs.flatMap ZlF)/\Ext a h/\(∀ p,p∈fs->Own h (sz a) p.1 2 (ZfF p.2.items)/\∀ b,p.1.blk=some b->O.1.blk≠some b)) (fun O _=>(sub.len - O.2.1).toNat)
    ⟨0,[],rfl,Ayk _,rfl,rfl,Own.nil _ _ _,Ext.refl _,fun p hp=>by simp at hp⟩ ?_))
  rintro ⟨out,i0,u⟩ q ⟨i,fs,hi,hle,hE,ag,own,A,I⟩
  dsimp only at hi own I ⊢
  subst hi
  have aA:out.len=i:=by have:=own.len;rw [Zfr (n:=5) (fun _=>rfl)] at this;omega
  refine Zq (fun aB=>?_) fun aC=>?_
  ·have ah:i<sub.len:=by omega
   obtain ⟨k,t,ns,s,r,hd⟩:=JL.drop_cons ah
   have D:=JL.list_get hd
   obtain ⟨nE,nO⟩:=Zhr (f:=Zcc) D hE
   have keep:∀ b,S b->b<sz a->obj q b=obj a b:=fun b _ hl=>Zu A hl
   have P:Row q l 4 cx:=Ym row ad keep
   have Q:XC q S sub cx:=N.keep keep fun _ h=>h
   refine ZgR P Q hd rfl fun z' aj=>YZ fun h9 c9 e9 z9=>Za (ZfK c9 (by show 4<=4;omega) rfl fun v ak al aG=>YZ fun g c12 R z12=>?_)
   have s0:sz a=a.size:=rfl
   have s3:sz q=q.size:=rfl
   have s9:sz h9=h9.size:=rfl
   have aH:sz v=v.size:=rfl
   have aI:sz g=g.size:=rfl
   have T:obj v q.size=some (.cells (Xq z').toArray 33 (0,0)):=ak
   have cv:=Zn T R
   have U:Ext q v:=e9.updS al fun j V=>by subst V;exact Aqo _
   have o:Ext q g:=U.trans R
   have E:Ext a g:=A.trans o
   have au:sz a<=sz q:=A.size
   have an:wV ⟨k,t,ns,s⟩<=1000000000000:=Aqp (Zib (Axq D)) hw
   have er:Er g v.size 0:=⟨_,c12⟩
   refine rI (Zb cv rfl) (rS (Zb cv rfl) (rL (s:=z'.2.2.1) (Zb cv rfl) (rL (s:=z'.2.2.2.1) (Zb cv rfl) ?_)))
   have W:ZaS g S z' ⟨k,t,ns,s⟩:=aj.keep (fun b _ hl=>Zu o hl) fun _ h=>h
   refine ZG3 er (by omega) (ht.ext E) (by omega) W (fun b d=>by have:=hS b d;exact ⟨by omega,by omega⟩) an (fun x f w hr y F z=>?_) fun e x f w hr hn y F z=>?_
   all_goals
     have av:sz g<=sz w:=z.size
     have blt:∀ {b:Nat},out.blk=some b->sz a<=b/\b<sz q:=fun e=>own.lt e
     have J:Own w (sz a) out 5 (fs.flatMap ZlF):=(own.congr fun b _ d _=>Zu o d).congr fun b m d _=>Zt z d fun e=>by have:=blt m;omega
     have X:Ext a w:=E.updS z fun j V=>by subst V;omega
     refine Zcr (cells:=ZlF (x,f)) J rfl rfl rfl (by omega) (by omega) (by omega) fun s' L aq B Y=>?_
     have G:Ext a L:=X.updS B fun j V=>(blt V).1
     have H:=F.upd B fun e=>by have:=(blt e).2;omega
     refine Zfy H ?_
   ·have M:∀ p,p∈fs++[(x,f)]->Own L (sz a) p.1 2 (ZfF p.2.items)/\∀ b,p.1.blk=some b->s'.blk≠some b:=fun p hp=>by
      rcases Axz.1 hp with hp | hp
      ·obtain ⟨o1,n1⟩:=I p hp
       have Z:∀ {b:Nat},p.1.blk=some b->b<sz q:=fun e=>(o1.lt e).2
       refine ⟨((o1.congr fun b _ d _=>Zu o d).congr fun b m d _=>Zt z d fun e=>by have:=Z m;omega).congr fun b m d _=>Zt B d fun e=>n1 b m e,fun b d e=>?_⟩
       have:=Z d
       rcases Y with C | ⟨c,C,e3⟩
       ·exact n1 b d (C▸e)
       ·rw [e] at C;cases C;omega
      ·rw [Axu] at hp
       subst hp
       have Z:∀ {b:Nat},x.blk=some b->sz g<=b/\b<sz w:=fun e=>y.lt e
       refine ⟨(y.congr fun b m d _=>Zt B d fun e=>by have:=blt e;have:=Z m;omega).base (by omega),fun b d e=>?_⟩
       have h5:=Z d
       rcases Y with C | ⟨c,C,e3⟩
       ·have:=blt (C▸e)
        omega
       ·rw [e] at C;cases C;omega
    refine Zl rfl ?_
    rw [YA (by omega) (by omega)]
    refine ⟨⟨i+1,fs++[(x,f)],rfl,by omega,?_,by simp [ag],?_,G,M⟩,by omega⟩
    ·rw [Ayy];exact nO f hr
    ·rw [Aze,Azw];exact aq
   ·exact Zm (by simp;omega) (Zfy H (Za (Za (bad i e L (nE e hr) hn G))))
  ·have:i=sub.len:=by omega
   subst this
   rw [Awd (by rw [JL.list_len];omega)] at hE
   exact Za (Za (ok out fs q hE own (fun p hp=>(I p hp).1) A))
set_option maxHeartbeats 1000000 in
theorem ZtE {a:Zc} {l:Sl} {sub:JL} {P:List Value} {S:Nat->Prop} (row:Row a l 4 P) (T:inS S l) (C:XC a S sub P) (hS:∀ b,S b->b<sz a) (ht:ZaT a) (U:9<=sz a) (hw:pw sub<=1000000000000) {K:Sl->Int->Int->HP}
    (ok:∀ x (fs:List Y4) h',Zap Zaa sub.list 0 = .ok fs->Own h' (sz a) x 5 (fs.flatMap ZbG)->Ext a h'->K x 0 0 h') (bad:∀ (i e:Nat) h',Zap Zaa sub.list 0 = .error (i,e)->e≠0->Ext a h'->K ⟨none,0,0⟩ i e h'):ZN l K a:=by
  unfold ZN Yz
  have hlen:l.len=sub.len:=by have:=row.len;have:=C.len;omega
  have big:=row.big
  have cap:=row.cap
  have al:=Zey sub
  refine Za (Za (Zv (fun Q h=>∃ (i:Nat) (fs:List Y4),Q.2.1=i/\i<=sub.len/\Zap Zaa (sub.list.take i) 0 = .ok fs/\fs.length=i/\Own h (sz a) Q.1 5 (fs.flatMap ZbG)/\Ext a h) (fun Q _=>(sub.len - Q.2.1).toNat)
    ⟨0,[],rfl,Ayk _,rfl,rfl,Own.nil _ _ _,Ext.refl _⟩ ?_))
  rintro ⟨out,i0,u⟩ d ⟨i,fs,hi,hle,V,W,own,o⟩
  dsimp only at hi own ⊢
  subst hi
  have an:out.len=i:=by have:=own.len;rw [Zfr (n:=5) (fun _=>rfl)] at this;omega
  refine Zq (fun ao=>?_) fun aq=>?_
  ·have X:i<sub.len:=by omega
   obtain ⟨k,t,ns,s,r,hd⟩:=JL.drop_cons X
   have v:=JL.list_get hd
   obtain ⟨nE,nO⟩:=Zhr (f:=Zaa) v V
   have keep:∀ b,S b->b<sz a->obj d b=obj a b:=fun b _ Y=>Zu o Y
   have D:Row d l 4 P:=Ym row T keep
   have E:XC d S sub P:=C.keep keep fun _ h=>h
   refine ZgR D E hd rfl fun z' Z=>YZ fun U c9 e9 z9=>Za (ZfK c9 (by show 4<=4;omega) rfl fun g aa ab aw=>YZ fun c c12 F z12=>?_)
   have s0:sz a=a.size:=rfl
   have s3:sz d=d.size:=rfl
   have s9:sz U=U.size:=rfl
   have ax:sz g=g.size:=rfl
   have ay:sz c=c.size:=rfl
   have G:obj g d.size=some (.cells (Xq z').toArray 33 (0,0)):=aa
   have R:=Zn G F
   have H:Ext d g:=e9.updS ab fun j I=>by subst I;exact Aqo _
   have m:Ext d c:=H.trans F
   have w:Ext a c:=o.trans m
   have ai:sz a<=sz d:=o.size
   have ad:wV ⟨k,t,ns,s⟩<=1000000000000:=Aqp (Zib (Axq v)) hw
   have er:Er c g.size 0:=⟨_,c12⟩
   refine rI (Zb R rfl) (rS (Zb R rfl) (rL (s:=z'.2.2.1) (Zb R rfl) (rL (s:=z'.2.2.2.1) (Zb R rfl) ?_)))
   have J:ZaS c S z' ⟨k,t,ns,s⟩:=Z.keep (fun b _ Y=>Zu m Y) fun _ h=>h
   refine ZxS er (by omega) (ht.ext w) (by omega) J (fun b L=>by have:=hS b L;exact ⟨by omega,by omega⟩) ad (fun f p hr y q=>?_) fun e f p hr hn y q=>?_
   all_goals
     have aj:sz c<=sz p:=q.size
     have blt:∀ {b:Nat},out.blk=some b->sz a<=b/\b<sz d:=fun e=>own.lt e
     have B:Own p (sz a) out 5 (fs.flatMap ZbG):=(own.congr fun b _ L _=>Zu m L).congr fun b af L _=>Zt q L fun e=>by have:=blt af;omega
     have M:Ext a p:=w.updS q fun j I=>by subst I;omega
     refine Zcr (cells:=ZbG f) B rfl rfl rfl (by omega) (by omega) (by omega) fun s' N ag O aA=>?_
     have z:Ext a N:=M.updS O fun j I=>(blt I).1
     have A:=y.upd O fun e=>by have:=(blt e).2;omega
     refine Zfy A ?_
   ·refine Zl rfl ?_
    rw [YA (by omega) (by omega)]
    refine ⟨⟨i+1,fs++[f],rfl,by omega,nO f hr,by simp [W],?_,z⟩,by omega⟩
    rw [Aze,Azw]
    exact ag
   ·exact Zm (by simp;omega) (Zfy A (Za (Za (bad i e N (nE e hr) hn z))))
  ·have:i=sub.len:=by omega
   subst this
   rw [Awd (by rw [JL.list_len];omega)] at V
   exact Za (Za (ok out fs d V own o))
set_option maxHeartbeats 1000000 in
theorem Zzr {a:Zc} {l:Sl} {sub:JL} {cx:List Value} {S:Nat->Prop} (row:Row a l 4 cx) (ad:inS S l) (N:XC a S sub cx) (hS:∀ b,S b->b<sz a) (ht:ZaT a) (h9:9<=sz a) (hw:pw sub<=1000000000000) {K:Sl->Int->Int->HP}
    (ok:∀ x (fs:List (Sl × ZaI)) h',Zap ZaY sub.list 0 = .ok (fs.map (·.2))->Own h' (sz a) x 3 (fs.flatMap Zgt)->(∀ p,p∈fs->Own h' (sz a) p.1 1 (p.2.origins.map sV))->Ext a h'->K x 0 0 h') (bad:∀ (i e:Nat) h',Zap ZaY sub.list 0 = .error (i,e)->e≠0->Ext a h'->K ⟨none,0,0⟩ i e h'):ZM l K a:=by
  unfold ZM Yw
  have hlen:l.len=sub.len:=by have:=row.len;have:=N.len;omega
  have big:=row.big
  have cap:=row.cap
  have az:=Zey sub
  refine Za (Za (Zv (fun O h=>∃ (i:Nat) (fs:List (Sl × ZaI)),O.2.1=i/\i<=sub.len/\Zap ZaY (sub.list.take i) 0 = .ok (fs.map (·.2))/\fs.length=i/\Own h (sz a) O.1 3 (fs.flatMap Zgt)/\Ext a h/\(∀ p,p∈fs->Own h (sz a) p.1 1 (p.2.origins.map sV)/\∀ b,p.1.blk=some b->O.1.blk≠some b)) (fun O _=>(sub.len - O.2.1).toNat)
    ⟨0,[],rfl,Ayk _,rfl,rfl,Own.nil _ _ _,Ext.refl _,fun p hp=>by simp at hp⟩ ?_))
  rintro ⟨out,i0,u⟩ q ⟨i,fs,hi,hle,hE,ag,own,A,I⟩
  dsimp only at hi own I ⊢
  subst hi
  have aA:out.len=i:=by have:=own.len;rw [Zfr (n:=3) (fun _=>rfl)] at this;omega
  refine Zq (fun aB=>?_) fun aC=>?_
  ·have ah:i<sub.len:=by omega
   obtain ⟨k,t,ns,s,r,hd⟩:=JL.drop_cons ah
   have D:=JL.list_get hd
   obtain ⟨nE,nO⟩:=Zhr (f:=ZaY) D hE
   have keep:∀ b,S b->b<sz a->obj q b=obj a b:=fun b _ hl=>Zu A hl
   have P:Row q l 4 cx:=Ym row ad keep
   have Q:XC q S sub cx:=N.keep keep fun _ h=>h
   refine ZgR P Q hd rfl fun z' aj=>YZ fun h9 c9 e9 z9=>Za (ZfK c9 (by show 4<=4;omega) rfl fun v ak al aG=>YZ fun g c12 R z12=>?_)
   have s0:sz a=a.size:=rfl
   have s3:sz q=q.size:=rfl
   have s9:sz h9=h9.size:=rfl
   have aH:sz v=v.size:=rfl
   have aI:sz g=g.size:=rfl
   have T:obj v q.size=some (.cells (Xq z').toArray 33 (0,0)):=ak
   have cv:=Zn T R
   have U:Ext q v:=e9.updS al fun j V=>by subst V;exact Aqo _
   have o:Ext q g:=U.trans R
   have E:Ext a g:=A.trans o
   have au:sz a<=sz q:=A.size
   have an:wV ⟨k,t,ns,s⟩<=1000000000000:=Aqp (Zib (Axq D)) hw
   have er:Er g v.size 0:=⟨_,c12⟩
   refine rI (Zb cv rfl) (rS (Zb cv rfl) (rL (s:=z'.2.2.1) (Zb cv rfl) (rL (s:=z'.2.2.2.1) (Zb cv rfl) ?_)))
   have W:ZaS g S z' ⟨k,t,ns,s⟩:=aj.keep (fun b _ hl=>Zu o hl) fun _ h=>h
   refine ZEN er (by omega) (ht.ext E) (by omega) W (fun b d=>by have:=hS b d;exact ⟨by omega,by omega⟩) an (fun x f w hr y F z=>?_) fun e x f w hr hn y F z=>?_
   all_goals
     have av:sz g<=sz w:=z.size
     have blt:∀ {b:Nat},out.blk=some b->sz a<=b/\b<sz q:=fun e=>own.lt e
     have J:Own w (sz a) out 3 (fs.flatMap Zgt):=(own.congr fun b _ d _=>Zu o d).congr fun b m d _=>Zt z d fun e=>by have:=blt m;omega
     have X:Ext a w:=E.updS z fun j V=>by subst V;omega
     refine Zcr (cells:=Zgt (x,f)) J rfl rfl rfl (by omega) (by omega) (by omega) fun s' L aq B Y=>?_
     have G:Ext a L:=X.updS B fun j V=>(blt V).1
     have H:=F.upd B fun e=>by have:=(blt e).2;omega
     refine Zfy H ?_
   ·have M:∀ p,p∈fs++[(x,f)]->Own L (sz a) p.1 1 (p.2.origins.map sV)/\∀ b,p.1.blk=some b->s'.blk≠some b:=fun p hp=>by
      rcases Axz.1 hp with hp | hp
      ·obtain ⟨o1,n1⟩:=I p hp
       have Z:∀ {b:Nat},p.1.blk=some b->b<sz q:=fun e=>(o1.lt e).2
       refine ⟨((o1.congr fun b _ d _=>Zu o d).congr fun b m d _=>Zt z d fun e=>by have:=Z m;omega).congr fun b m d _=>Zt B d fun e=>n1 b m e,fun b d e=>?_⟩
       have:=Z d
       rcases Y with C | ⟨c,C,e3⟩
       ·exact n1 b d (C▸e)
       ·rw [e] at C;cases C;omega
      ·rw [Axu] at hp
       subst hp
       have Z:∀ {b:Nat},x.blk=some b->sz g<=b/\b<sz w:=fun e=>y.lt e
       refine ⟨(y.congr fun b m d _=>Zt B d fun e=>by have:=blt e;have:=Z m;omega).base (by omega),fun b d e=>?_⟩
       have h5:=Z d
       rcases Y with C | ⟨c,C,e3⟩
       ·have:=blt (C▸e)
        omega
       ·rw [e] at C;cases C;omega
    refine Zl rfl ?_
    rw [YA (by omega) (by omega)]
    refine ⟨⟨i+1,fs++[(x,f)],rfl,by omega,?_,by simp [ag],?_,G,M⟩,by omega⟩
    ·rw [Ayy];exact nO f hr
    ·rw [Aze,Azw];exact aq
   ·exact Zm (by simp;omega) (Zfy H (Za (Za (bad i e L (nE e hr) hn G))))
  ·have:i=sub.len:=by omega
   subst this
   rw [Awd (by rw [JL.list_len];omega)] at hE
   exact Za (Za (ok out fs q hE own (fun p hp=>(I p hp).1) A))
end Go.Proofs.YtpjbjdheeemdiaaGreatDoor
namespace Go.Js
open Go
theorem ZrL {l:List BL}:Zhd l=false↔l.Nodup:=by
  induction l with
  | nil=>simp [Zhd]
  | cons a l b=>simp [Zhd,Azs,b]
end Go.Js
namespace Go.Proofs.YtpjbjdheeemdiaaGreatDoor
open Go Go.Fw Go.Js
section
variable {h:Zc}
theorem XN {n a c:Int} {K:Bool->HP} (b:K (decide (a<=n)&&decide (n<=c)) h):ZP n a c K h:=by
  unfold ZP ZgS
  refine Zq (fun d=>Zh ?_) fun d=>?_
  ·rw [decide_eq_true (p:=a<=n) (by omega),Aqa] at b;exact b
  ·rw [decide_eq_false (p:=a<=n) (by omega),Aqb] at b;exact b
theorem ZAR {l:BL} {k:Nat} (a:k<=l.length):ZkE (Zj l) k (l.drop k):=by
  have:ZkE (Zj l) 0 l:=⟨rfl,by rw [ZdJ];omega⟩
  have:=this.dropK a
  rwa [Awb] at this
theorem Zm4 {l:BL} (r:l.length<9223372036854775807) {K:Bool->HP} (b:K (Za1 l) h):Zbe (Zj l) K h:=by
  unfold Zbe ZgW
  have j:(Zj l).size=l.length:=rfl
  refine Zv (fun p h'=>h'=h/\∃ i:Nat,p.1=i/\i<=l.length/\(l.take i).all ZCi=true) (fun p _=>l.length - p.1.toNat) ⟨rfl,0,rfl,Ayk _,rfl⟩ ?_
  rintro ⟨s,u⟩ t ⟨rfl,i,d,m,c⟩
  dsimp only at d ⊢
  subst d
  refine Zq (fun n=>Za ?_) fun o=>?_
  ·have a:i<l.length:=by omega
   have q:ZkE (Zj l) i (l[i]::l.drop (i+1)):=by
     have:=ZAR (l:=l) (k:=i) (by omega)
     rwa [Ayl a] at this
   refine ⟨l[i],by omega,by rw [Aqu];exact q.head,XN ?_⟩
   have v:=l[i].toNat_lt
   rw [YA (by omega) (by omega)]
   have e:(decide ((33:Int)<=(l[i].toNat:Int))&&decide ((l[i].toNat:Int)<=126))=ZCi l[i]:=by
     unfold ZCi
     congr 1<;>(rw [decide_eq_decide];omega)
   rw [e]
   cases f:ZCi l[i] with
   | false =>
     refine Zm rfl ?_
     have:Za1 l=false:=by
       unfold Za1
       have:l.all ZCi=false:=by
         cases g:l.all ZCi with
         | false=>rfl
         | true=>rw [Axc] at g;have:=g _ (Azn a);rw [f] at this;cases this
       rw [this];rfl
     rw [this] at b;exact b
   | true =>
     refine Zl rfl ?_
     rw [YA (by omega) (by omega)]
     refine ⟨⟨rfl,i+1,rfl,by omega,?_⟩,by omega⟩
     rw [Ayu,Ayb a,Azo,c]
     simp [f]
  ·rw [Awd (by omega)] at c
   refine XN (Zh ?_)
   unfold Za1 at b
   rw [c,Aqa] at b
   rw [show (decide ((1:Int)<=((Zj l).size:Int))&&decide (((Zj l).size:Int)<=64))=(decide (1<=l.length)&&decide (l.length<=64)) by
     rw [j];congr 1<;>(rw [decide_eq_decide];omega)]
   exact b
theorem Zm5 {nms:List BL} {nm:Sl} (a:Row h nm 1 (nms.map sV)) (hlen:∀ n,n∈nms->n.length<9223372036854775807) {K:Int->HP} (d:∀ n:Int,(0<=n↔nms.all Za1=false)->K n h):ZK nm K h:=by
  unfold ZK Yu
  have k:=Zb3 a
  have big:=a.big
  have cap:=a.cap
  refine Za (Zv (fun p h'=>h'=h/\∃ i:Nat,p.1=i/\i<=nms.length/\(nms.take i).all Za1=true) (fun p _=>(nms.length - p.1).toNat) ⟨rfl,0,rfl,Ayk _,rfl⟩ ?_)
  rintro ⟨q,u⟩ r ⟨rfl,i,f,l,b⟩
  dsimp only at f ⊢
  subst f
  refine Zq (fun m=>Za ?_) fun o=>Za ?_
  ·have c:i<nms.length:=by omega
   obtain ⟨t,ht⟩:∃ t,nms[i]?=some t:=⟨nms[i],Ayb c⟩
   have hm:=Axq ht
   refine ZgQ a ht rfl ?_
   unfold Za3 ZcP
   refine Zm4 (hlen t hm) (Zh ?_)
   cases g:Za1 t with
   | false =>
     refine Zm rfl (Za (d _ ⟨fun _=>?_,fun _=>by omega⟩))
     cases j:nms.all Za1 with
     | false=>rfl
     | true=>rw [Axc] at j;have:=j _ hm;rw [g] at this;cases this
   | true =>
     refine Zl rfl ?_
     rw [YA (by omega) (by omega)]
     refine ⟨⟨rfl,i+1,rfl,by omega,?_⟩,by omega⟩
     rw [Ayu,ht,Azo,b]
     simp [g]
  ·rw [Awd (by omega)] at b
   exact d _ ⟨fun s=>by omega,fun e=>by rw [b] at e;cases e⟩
theorem Zwa {res:BL} (g:res.length<9223372036854775807) {nms:List BL} {nm:Sl} (i:Row h nm 1 (nms.map sV)) (hlen:∀ n,n∈nms->n.length<9223372036854775807) {K:Bool->HP} (b:∀ h',Ext h h'->K (Za1 res&&nms.all Za1) h'):ZaM (Zj res,nm,()) K h:=by
  unfold ZaM ZdN
  refine YZ fun d e c j=>rS (Zb e rfl) (Zm4 g ?_)
  cases a:Za1 res with
  | false=>rw [a] at b;exact Zl rfl (b d c)
  | true =>
    rw [a] at b
    refine Zm rfl (rL (s:=nm) (Zb e rfl) ?_)
    unfold ZU Yp
    refine Zm5 (i.ext c) hlen fun n a=>Zh (Zh ?_)
    have:=b d c
    rw [Aqa] at this
    cases f:nms.all Za1 with
    | true =>
      rw [f] at this a
      rw [show decide (n>=0)=false by simp only [decide_eq_false_iff_not];intro h;have:=a.1 h;cases this]
      exact this
    | false =>
      rw [f] at this a
      rw [show decide (n>=0)=true by simp only [decide_eq_true_eq];exact a.2 rfl]
      exact this
theorem Zkr {b:Bool} {n a c:Int} {K:Bool->HP} (d:K (ZcE b n a c) h):Za4 b n a c K h:=by
  unfold Za4 ZiE
  cases b with
  | false =>
    have:ZcE false n a c=(n ==0):=by unfold ZcE;rw [if_neg Bool.false_ne_true];rfl
    rw [this] at d
    exact Zl rfl (Zm rfl (Zh d))
  | true =>
    have:ZcE true n a c=inB n a c:=if_pos rfl
    rw [this] at d
    refine Zm rfl (XN ?_)
    show Zy (inB n a c) _ _
    cases e:inB n a c with
    | true=>rw [e] at d;exact Zm rfl d
    | false=>rw [e] at d;exact Zl rfl (Zl rfl d)
theorem Zop {ws:List BL} {x:Sl} (c:Row h x 1 (ws.map sV)) {K:Bool->HP} (f:K (Zhd ws) h):ZbO x K h:=by
  unfold ZbO ZhR
  have r:=Zb3 c
  have big:=c.big
  have cap:=c.cap
  refine Zv (fun p h'=>h'=h/\∃ i:Nat,p.1=i/\i<=ws.length/\(ws.take i).Nodup) (fun p _=>(ws.length - p.1).toNat) ⟨rfl,0,rfl,Ayk _,by simp⟩ ?_
  rintro ⟨A,u⟩ g ⟨rfl,i,o,s,j⟩
  dsimp only at o ⊢
  subst o
  refine Zq (fun v=>?_) fun w=>?_
  ·have k:i<ws.length:=by omega
   obtain ⟨t,ht⟩:∃ t,ws[i]?=some t:=⟨ws[i],Ayb k⟩
   refine ZgQ c ht rfl (Za (c.slc (a:=0) (b:=i) (m:=x.cap) rfl rfl rfl (by omega) (by omega) (by omega) (Aqo _) fun s' l _ _ _=>?_))
   have n:Row g s' 1 ((ws.take i).map sV):=by simpa [List.map_take] using l
   refine Znv n ?_
   have d:ws.take (i+1)=ws.take i++[t]:=by rw [Ayu,ht];rfl
   by_cases hm:t∈ws.take i
   ·rw [decide_eq_true hm]
    have:Zhd ws=true:=by
      cases y:Zhd ws with
      | true=>rfl
      | false =>
        have q:=(List.take_sublist (i+1) ws).nodup (ZrL.1 y)
        rw [d,List.nodup_append] at q
        exact absurd rfl (q.2.2 t hm t (by simp))
    rw [this] at f
    exact Zm rfl f
   ·rw [decide_eq_false hm]
    refine Zl rfl ?_
    rw [YA (by omega) (by omega)]
    refine ⟨⟨rfl,i+1,rfl,by omega,?_⟩,by omega⟩
    rw [d,List.nodup_append]
    exact ⟨j,by simp,fun a z b g e=>hm (by simp at g;rw [<- g,<- e];exact z)⟩
  ·rw [Awd (by omega)] at j
   rw [ZrL.2 j] at f
   exact f
def ZsA (a:Value) (K:Bool->HP) (h:Zc):Prop :=
  (exG a (fun c:Option Addr × Option Addr × Unit=> .func (.func 275) #[] ⟨[.pointer c.1,.pointer c.2.1]⟩) fun c=>ZdA c.1 c.2.1 K h)\/(
  (exG a (fun c:Option Addr × Unit=> .func (.func 277) #[] ⟨[.pointer c.1]⟩) fun c=>Zdz c.1 K h)\/(
  (exG a (fun c:Option Addr × Unit=> .func (.func 278) #[] ⟨[.pointer c.1]⟩) fun c=>Zdy c.1 K h)\/(
  (exG a (fun c:Option Addr × Unit=> .func (.func 279) #[] ⟨[.pointer c.1]⟩) fun c=>Zdx c.1 K h)\/(
  (exG a (fun c:Option Addr × Option Addr × Option Addr × Unit=> .func (.func 280) #[] ⟨[.pointer c.1,.pointer c.2.1,.pointer c.2.2.1]⟩) fun c=>Zdw c.1 c.2.1 c.2.2.1 K h)\/(
  (exG a (fun c:Option Addr × Unit=> .func (.func 282) #[] ⟨[.pointer c.1]⟩) fun c=>Zdv c.1 K h)\/(
  (exG a (fun c:Option Addr × Unit=> .func (.func 283) #[] ⟨[.pointer c.1]⟩) fun c=>Zdu c.1 K h)\/(
  (exG a (fun c:Option Addr × Option Addr × Unit=> .func (.func 284) #[] ⟨[.pointer c.1,.pointer c.2.1]⟩) fun c=>ZcI c.1 c.2.1 K h)\/(
  (exG a (fun c:Option Addr × Unit=> .func (.func 285) #[] ⟨[.pointer c.1]⟩) fun c=>ZcH c.1 K h)\/(
  (exG a (fun c:Option Addr × Unit=> .func (.func 286) #[] ⟨[.pointer c.1]⟩) fun c=>ZcG c.1 K h)\/(
  (exG a (fun c:Option Addr × Unit=> .func (.func 287) #[] ⟨[.pointer c.1]⟩) fun c=>ZcF c.1 K h)\/(
  (exG a (fun c:Option Addr × Unit=> .func (.func 288) #[] ⟨[.pointer c.1]⟩) fun c=>Zei c.1 K h)\/(
  (exG a (fun c:Option Addr × Option Addr × Unit=> .func (.func 289) #[] ⟨[.pointer c.1,.pointer c.2.1]⟩) fun c=>Zeh c.1 c.2.1 K h)\/(
  (exG a (fun c:Option Addr × Unit=> .func (.func 291) #[] ⟨[.pointer c.1]⟩) fun c=>Zeg c.1 K h)\/(
  (exG a (fun c:Option Addr × Unit=> .func (.func 294) #[] ⟨[.pointer c.1]⟩) fun c=>Zdt c.1 K h)\/False))))))))))))))
theorem Zok {vs:List Value} {x:Sl} (a:Row h x 1 vs) {i:Nat} {v:Value} (c:vs[i]?=some v) {n:Int} (d:n=i) {K:Value->Prop} (e:K v):Zdb x.ptr x.len n 1 fun b o=>ldV h b o K :=
  Row.idx a d c fun b o _ f=>⟨_,f,e⟩
theorem Zqk {res:BL} (B:res.length<9223372036854775807) {nms:List BL} {nm:Sl} (C:Row h nm 1 (nms.map sV)) (hlen:∀ n,n∈nms->n.length<9223372036854775807) {e:Nat} {er:Int} (he:er=e) {all:Sl} {cls:List (Value × Bool)} (j:Row h all 1 (cls.map (·.1)))
    (D:∀ p,p∈cls->∀ {h':Zc} {K:Bool->HP},Ext h h'->(∀ g,Ext h' g->K p.2 g)->ZsA p.1 K h') {K:Int->HP}
    (k:∀ h' (n:Nat),n=(if Za1 res&&nms.all Za1 then (if cls.all (·.2) then 0 else e) else 10)->Ext h h'->K n h'):Xi (Zj res,nm,er,()) all K h:=by
  subst he
  unfold Xi Zga
  have l:all.len=cls.length:=by have:=j.len;simp at this;omega
  have big:=j.big
  have cap:=j.cap
  refine YZ fun I m t J=>Za (rS (Zb m rfl) (rL (s:=nm) (Zb m rfl) (Zwa B (C.ext t) hlen fun w x=>?_)))
  have c2:=Zn m x
  have c:=t.trans x
  cases o:(Za1 res&&nms.all Za1) with
  | false=>exact Zm rfl (Za (k w 10 (by rw [o];rfl) c))
  | true =>
    refine Zl rfl (Zv (fun p h'=>Ext w h'/\∃ i:Nat,p.1=i/\i<=cls.length/\(cls.take i).all (·.2)=true) (fun p _=>(cls.length - p.1).toNat) ⟨Ext.refl _,0,rfl,Ayk _,rfl⟩ ?_)
    rintro ⟨L,u⟩ y ⟨a,i,z,E,q⟩
    dsimp only at z ⊢
    subst z
    refine Zq (fun F=>?_) fun G=>Za ?_
    ·have r:i<cls.length:=by omega
     obtain ⟨p,hp⟩:∃ p,cls[i]?=some p:=⟨cls[i],Ayb r⟩
     have d:=c.trans a
     refine Zok (j.ext d) (v:=p.1) (by rw [Awz,hp];rfl) rfl ?_
     refine D p (Axq hp) (h':=y) (K:=_) d fun H f=>?_
     have c4:=Zn c2 (a.trans f)
     cases A:p.2 with
     | false =>
       refine Zm rfl (rI (Zb c4 rfl) (Za (k H e ?_ (d.trans f))))
       rw [o,if_pos rfl,if_neg]
       intro b
       rw [Axc] at b
       have:=b p (Axq hp)
       rw [A] at this
       cases this
     | true =>
       refine Zl rfl ?_
       rw [YA (by omega) (by omega)]
       refine ⟨⟨a.trans f,i+1,rfl,by omega,?_⟩,by omega⟩
       rw [Ayu,hp,Azo,q]
       simp [A]
    ·rw [Awd (by omega)] at q
     exact k y 0 (by rw [o,if_pos rfl,if_pos q]) (c.trans a)
end
end Go.Proofs.YtpjbjdheeemdiaaGreatDoor
namespace Go.Proofs.YtpjbjdheeemdiaaGreatDoor
open Go Go.Fw Go.Js
section
variable {h:Zc}
theorem Zws {K:Bool->HP} {b r:Bool} (a:K b h) (e:r=b):K r h:=e▸a
theorem Zv9 (n m:Nat):((n:Int) ==(m:Int))=decide (n=m):=by
  rw [Azx,beq_iff_eq,decide_eq_true_eq];omega
theorem ZNL {f:FlowP} {T:TypeId} {b c:Nat} {d:Int} (e:obj h b=some (.cells (Zd5 f).toArray T (0,0))) (a:Box h c (i64 d)) {K:Bool->HP} (g:K (inB f.cnt d 1099511627776) h):ZsA (.func (.func 275) #[] #[.pointer (At b),.pointer (At c)]) K h:=by
  obtain ⟨i,a⟩:=a
  refine .inl ⟨(At b,At c,()),rfl,?_⟩
  unfold ZdA Zg3
  exact Zo (rI (Zb e rfl) (Zo (rI (Zb a rfl) (XN (Zh g)))))
theorem ZNK {f:FlowP} {T:TypeId} {b:Nat} (a:obj h b=some (.cells (Zd5 f).toArray T (0,0))) {K:Bool->HP} (c:K (decide (f.strat<=2)&&decide (f.shape<=3)) h):ZsA (.func (.func 277) #[] #[.pointer (At b)]) K h:=by
  refine .inr (.inl ⟨(At b,()),rfl,?_⟩)
  unfold Zdz Zg2
  refine Zo (rI (Zb a rfl) (Zq (fun d=>Zo (rI (Zb a rfl) (Zh (Zws c ?_)))) fun d=>Zws c ?_))
  ·rw [decide_eq_true (p:=f.strat<=2) (by omega),Aqa,decide_eq_decide]
   omega
  ·rw [decide_eq_false (p:=f.strat<=2) (by omega),Aqb]
theorem ZNJ {f:FlowP} {T:TypeId} {b:Nat} (a:obj h b=some (.cells (Zd5 f).toArray T (0,0))) {K:Bool->HP} (c:K (!decide (f.strat=0)||decide (f.ref=[])) h):ZsA (.func (.func 278) #[] #[.pointer (At b)]) K h:=by
  refine .inr (.inr (.inl ⟨(At b,()),rfl,?_⟩))
  unfold Zdy Zg1
  refine Zo (rI (Zb a rfl) (Zar (fun d=>Zws c ?_) fun d=>Zo (rS (Zb a rfl) (Zh (Zws c ?_)))))
  ·rw [decide_eq_false (p:=f.strat=0) (by omega)]
   rfl
  ·rw [decide_eq_true (p:=f.strat=0) (by omega)]
   exact Zas f.ref []
theorem ZNI {f:FlowP} {T:TypeId} {b:Nat} (c:obj h b=some (.cells (Zd5 f).toArray T (0,0))) {K:Bool->HP} (a:K (!f.thr||decide (f.shape=0) && !f.clu) h):ZsA (.func (.func 279) #[] #[.pointer (At b)]) K h:=by
  refine .inr (.inr (.inr (.inl ⟨(At b,()),rfl,?_⟩)))
  unfold Zdx Zg0
  refine Zo (rBl (Zb c rfl) ?_)
  cases ht:f.thr with
  | false=>rw [ht] at a;exact Zm rfl a
  | true =>
    rw [ht] at a
    refine Zl rfl (Zo (rI (Zb c rfl) (Zag (fun d=>Zo (rBl (Zb c rfl) (Zh (Zws a ?_)))) fun d=>Zws a ?_)))
    ·rw [decide_eq_true (p:=f.shape=0) (by omega)];simp
    ·rw [decide_eq_false (p:=f.shape=0) (by omega)];simp
theorem ZNH {f:FlowP} {T:TypeId} {b w p:Nat} {c g:Bool} (i:obj h b=some (.cells (Zd5 f).toArray T (0,0))) (d:Box h w (.bool c)) (e:Box h p (.bool g)) {K:Bool->HP} (a:K (ZcE c f.warm 1 3600&&ZcE g f.queue 0 3600000000) h) :
    ZsA (.func (.func 280) #[] #[.pointer (At w),.pointer (At b),.pointer (At p)]) K h:=by
  obtain ⟨j,d⟩:=d
  obtain ⟨k,e⟩:=e
  refine .inr (.inr (.inr (.inr (.inl ⟨(At w,At b,At p,()),rfl,?_⟩))))
  unfold Zdw ZgZ
  refine Zo (rBl (Zb d rfl) (Zo (rI (Zb i rfl) (Zkr ?_))))
  cases ho:ZcE c f.warm 1 3600 with
  | false=>rw [ho] at a;exact Zl rfl a
  | true=>rw [ho] at a;exact Zm rfl (Zo (rBl (Zb e rfl) (Zo (rI (Zb i rfl) (Zkr (Zh a))))))
theorem ZNG {f:FlowP} {T:TypeId} {b:Nat} (c:obj h b=some (.cells (Zd5 f).toArray T (0,0))) {K:Bool->HP} (a:K (!f.clu||decide (f.strat=0)&&decide (f.shape=0)) h):ZsA (.func (.func 282) #[] #[.pointer (At b)]) K h:=by
  refine .inr (.inr (.inr (.inr (.inr (.inl ⟨(At b,()),rfl,?_⟩)))))
  unfold Zdv ZgY
  refine Zo (rBl (Zb c rfl) ?_)
  cases ht:f.clu with
  | false=>rw [ht] at a;exact Zm rfl a
  | true =>
    rw [ht] at a
    refine Zl rfl (Zo (rI (Zb c rfl) (Zag (fun d=>Zo (rI (Zb c rfl) (Zh (Zws a ?_)))) fun d=>Zws a ?_)))
    ·rw [decide_eq_true (p:=f.strat=0) (by omega)]
     exact Zv9 f.shape 0
    ·rw [decide_eq_false (p:=f.strat=0) (by omega)];rfl
theorem ZNF {f:FlowP} {T:TypeId} {b:Nat} (c:obj h b=some (.cells (Zd5 f).toArray T (0,0))) {K:Bool->HP} (a:K (ZcE f.clu f.id 1 1099511627776&&(f.clu || !f.fb)) h):ZsA (.func (.func 283) #[] #[.pointer (At b)]) K h:=by
  refine .inr (.inr (.inr (.inr (.inr (.inr (.inl ⟨(At b,()),rfl,?_⟩))))))
  unfold Zdu ZgX
  refine Zo (rBl (Zb c rfl) (Zo (rI (Zb c rfl) (Zkr ?_))))
  cases ho:ZcE f.clu f.id 1 1099511627776 with
  | false=>rw [ho] at a;exact Zl rfl a
  | true =>
    rw [ho] at a
    refine Zm rfl (Zo (rBl (Zb c rfl) ?_))
    cases d:f.clu with
    | true=>rw [d] at a;exact Zm rfl a
    | false=>rw [d] at a;exact Zl rfl (Zo (rBl (Zb c rfl) (Zh a)))
theorem ZzH {b:Nat} {v0 v:Value} (a:Box h b v0) (d:Ye v=true) {K:HP} (e:∀ h',Box h' b v->Upd (· = b) h h'->sz h'=sz h->K h'):st h b 0 v K:=by
  obtain ⟨T,a⟩:=a
  exact Zk2 a (by show 0<1;omega) d fun h' c u z=>e h' ⟨T,c⟩ u z
theorem Zk7 {v0 v:Value} {T:TypeId} (d:Ye v=true) {K:Nat->HP} (e:∀ b h',Ext h h'->Box h' b v->sz h<=b->K b h'):newC h [v0] T fun b c=>st c b 0 v fun a=>K b a:=by
  refine YZ fun c f g l=>Zk2 f (by show 0<1;omega) d fun a c2 i z2=>?_
  exact e _ a (g.updS i fun j k=>by subst k;exact Aqo _) ⟨_,c2⟩ (Aqo _)
def FlowP.nms (f:FlowP):List BL:=if f.strat=1\/f.strat=2 then [f.org,f.ref] else [f.org]
theorem Zzh {f:FlowP} {a:List Bool} (h:a=[inB f.cnt (if f.shape=0 then 0 else 1) 1099511627776,decide (f.strat<=2)&&decide (f.shape<=3),!decide (f.strat=0)||decide (f.ref=[]),!f.thr||decide (f.shape=0) && !f.clu,
    ZcE (decide (f.shape=1)||decide (f.shape=3)) f.warm 1 3600&&ZcE (decide (f.shape=2)||decide (f.shape=3)) f.queue 0 3600000000,!f.clu||decide (f.strat=0)&&decide (f.shape=0),ZcE f.clu f.id 1 1099511627776&&(f.clu || !f.fb)]):a.all id=f.good:=by
  subst h
  simp only [Awm,Azy,id,Ayr,FlowP.good]
  simp only [Azg]
theorem Zwp {f:FlowP}:(Za1 f.res&&(Go.Proofs.YtpjbjdheeemdiaaGreatDoor.FlowP.nms f).all Za1)=f.names:=by
  unfold FlowP.nms FlowP.names
  by_cases a:f.strat=1\/f.strat=2
  ·rw [if_pos a,if_pos a];simp [Azg]
  ·rw [if_neg a,if_neg a];simp
theorem Zsa {f:FlowP} (S:f.res.length<9223372036854775807/\f.org.length<9223372036854775807/\f.ref.length<9223372036854775807) {K:Int->HP} (hk:∀ h',Ext h h'->K f.err h'):Ze5 (ZBt f) K h:=by
  unfold Ze5 ZiG
  refine YZ fun d c1 e1 z1=>Za ?_
  have V:obj d h.size=some (.cells (Zd5 f).toArray 75 (0,0)):=c1
  have s0:sz h=h.size:=rfl
  refine rS (Zb V rfl) (YZ fun J c4 W z4=>?_)
  have s1:sz d=d.size:=rfl
  have s4:sz J=J.size:=rfl
  have A:=Zn V W
  refine ZO (fun p h'=>Ext d h'/\Row h' p.1 1 ((Go.Proofs.YtpjbjdheeemdiaaGreatDoor.FlowP.nms f).map sV)) ?_ ?_
  ·rintro ⟨nm,u⟩ X ⟨E,Y⟩
   dsimp only at Y ⊢
   have m:=Zn V E
   refine ZO (fun p h'=>Ext X h'/\∃ b,p.1=At b/\Box h' b (.bool (decide (f.shape=1)||decide (f.shape=3)))) ?_ ?_
   ·rintro ⟨wp,u⟩ Z ⟨q,w,rfl,bw⟩
    have s:=Zn m q
    refine ZO (fun p h'=>Ext Z h'/\∃ b,p.1=At b/\Box h' b (.bool (decide (f.shape=2)||decide (f.shape=3)))) ?_ ?_
    ·rintro ⟨pp,u⟩ l ⟨g,pb,rfl,bp⟩
     have L:=Zn s g
     refine Zk7 rfl fun lb t a bl ar=>?_
     have x:=Zn L a
     have F:Ext d t:=E.trans (q.trans (g.trans a))
     have au:h.size<sz l:=by have:=(E.trans (q.trans g)).size;have:sz l=l.size:=rfl;omega
     refine ZO (fun _ h'=>Ext h h'/\obj h' h.size=some (.cells (Zd5 f).toArray 75 (0,0))/\Box h' lb (i64 (if f.shape=0 then 0 else 1))/\Row h' nm 1 ((Go.Proofs.YtpjbjdheeemdiaaGreatDoor.FlowP.nms f).map sV)/\Box h' w (.bool (decide (f.shape=1)||decide (f.shape=3)))/\Box h' pb (.bool (decide (f.shape=2)||decide (f.shape=3)))) ?_ ?_
     ·rintro ⟨⟩ av ⟨ae,B,M,N,O,P⟩
      refine rS (Zb B rfl) (YZ fun aw af G ax=>?_)
      refine Zqk (cls:=[(.func (.func 275) #[] #[.pointer (At h.size),.pointer (At lb)],inB f.cnt (if f.shape=0 then 0 else 1) 1099511627776),(.func (.func 277) #[] #[.pointer (At h.size)],decide (f.strat<=2)&&decide (f.shape<=3)),
        (.func (.func 278) #[] #[.pointer (At h.size)],!decide (f.strat=0)||decide (f.ref=[])),(.func (.func 279) #[] #[.pointer (At h.size)],!f.thr||decide (f.shape=0) && !f.clu),
        (.func (.func 280) #[] #[.pointer (At w),.pointer (At h.size),.pointer (At pb)],ZcE (decide (f.shape=1)||decide (f.shape=3)) f.warm 1 3600&&ZcE (decide (f.shape=2)||decide (f.shape=3)) f.queue 0 3600000000),
        (.func (.func 282) #[] #[.pointer (At h.size)],!f.clu||decide (f.strat=0)&&decide (f.shape=0)),(.func (.func 283) #[] #[.pointer (At h.size)],ZcE f.clu f.id 1 1099511627776&&(f.clu || !f.fb))])
        S.1 (N.ext G) (fun n H=>?_) (e:=30) rfl ⟨rfl,Aqo _,by show 7<_;omega,.inr ⟨_,0,rfl,ZdE af fun i v hi=>by simpa using hi⟩⟩ (fun p hp h' T y k'=>?_) fun h' n H y=>Za ?_
      ·unfold FlowP.nms at H
       split at H<;>simp at H
       ·rcases H with rfl | rfl
        ·exact S.2.1
        ·exact S.2.2
       ·subst H;exact S.2.1
      ·have U:=G.trans y
       have c:=Zn B U
       have I:=k' h' (Ext.refl _)
       simp only [Awr,Azk,or_false] at hp
       rcases hp with rfl | rfl | rfl | rfl | rfl | rfl | rfl
       ·exact ZNL c (M.ext U) I
       ·exact ZNK c I
       ·exact ZNJ c I
       ·exact ZNI c I
       ·exact ZNH c (O.ext U) (P.ext U) I
       ·exact ZNG c I
       ·exact ZNF c I
      ·have:n=f.err:=by
         rw [H,Zwp]
         unfold FlowP.err
         rw [<- Zzh rfl]
         rfl
       subst this
       exact hk h' (ae.trans (G.trans y))
     ·have C:Ext h t:=e1.trans F
      have Q:=(Y.ext (q.trans (g.trans a)))
      refine rI (Zb x rfl) (Zag (fun d=>ZzH bl rfl fun ag R z aA=>?_) fun d=>?_)
      ·have ah:h.size≠lb:=by omega
       refine ⟨C.updS z fun j hj=>by subst hj;omega,ZG x z ah,by rw [if_pos (by omega)];exact R,?_,?_,?_⟩
       ·refine (Y.ext (q.trans g)).congr fun b _ _ _ hb=>?_
        show obj ag b=obj l b
        have aC:sz l=l.size:=rfl
        have aD:sz t=t.size:=rfl
        rw [Zt z (show b<sz t by have:=a.size;omega) (by omega)]
        exact Zu a hb
       ·have:=(bw.ext g).lt
        exact ((bw.ext g).ext a).upd z (by omega)
       ·have:=bp.lt
        exact (bp.ext a).upd z (by omega)
      ·exact ⟨C,x,by rw [if_neg (by omega)];exact bl,Q,(bw.ext g).ext a,bp.ext a⟩
    ·refine rI (Zb s rfl) (Zag (fun d=>Zk7 rfl fun b h' y bb _=>⟨y,b,rfl,?_⟩) fun d=>rI (Zb s rfl) (Zk7 rfl fun b h' y bb _=>⟨y,b,rfl,?_⟩))
     ·rw [decide_eq_true (p:=f.shape=2) (by omega),Bool.true_or];exact bb
     ·rw [decide_eq_false (p:=f.shape=2) (by omega),Bool.false_or,<- Zv9];exact bb
   ·refine rI (Zb m rfl) (Zag (fun d=>Zk7 rfl fun b h' y bb _=>⟨y,b,rfl,?_⟩) fun d=>rI (Zb m rfl) (Zk7 rfl fun b h' y bb _=>⟨y,b,rfl,?_⟩))
    ·rw [decide_eq_true (p:=f.shape=1) (by omega),Bool.true_or];exact bb
    ·rw [decide_eq_false (p:=f.shape=1) (by omega),Bool.false_or,<- Zv9];exact bb
  ·have D:Own J d.size ⟨some ⟨d.size,0,none⟩,1,1⟩ 1 [sV f.org]:=⟨rfl,Aqo _,by show 1<_;omega,.inr ⟨_,_,_,rfl,Aqo _,c4,rfl,rfl⟩⟩
   have push:∀ {T:Sl->HP},(f.strat=1\/f.strat=2)->(∀ s' h',Ext d h'->Row h' s' 1 ((Go.Proofs.YtpjbjdheeemdiaaGreatDoor.FlowP.nms f).map sV)->T s' h')->newC J [.string (Zj f.ref)] 9 fun b8 h9=>rdS ⟨some ⟨b8,0,none⟩,1,1⟩ 1 h9 fun new=>app 9 1 16 [.string (ByteArray.mk #[])] ⟨some ⟨d.size,0,none⟩,1,1⟩ 1 new h9 T:=by
     intro T hs k
     refine Zcr (cells:=[sV f.ref]) D rfl rfl rfl (show (1+1)*16<=140737488355328 by decide) (show 1+1<=140737488355328 by decide) (show d.size<=sz J by omega) fun s' h' o u _=>k s' h' (W.updS u fun j hj=>?_) ?_
     ·have:d.size=j:=by simpa [Sl.blk] using hj
      omega
     ·unfold FlowP.nms
      rw [if_pos hs]
      exact o.row
   refine rI (Zb A rfl) (Zag (fun aj=>rS (Zb A rfl) (push (.inl (by omega)) fun s' h' e r=>⟨e,r⟩)) fun aj=>rI (Zb A rfl) (Zag (fun ak=>rS (Zb A rfl) (push (.inr (by omega)) fun s' h' e r=>⟨e,r⟩)) fun ak=>⟨W,?_⟩))
   unfold FlowP.nms
   rw [if_neg (by omega)]
   exact D.row
end
section
variable {h:Zc}
theorem ZqM {cls:List Value} {T:TypeId} {b n:Nat} (c:obj h b=some (.cells cls.toArray T (0,0))) (a:cls.length=n) (d:n<9223372036854775808):Row h ⟨some ⟨b,0,none⟩,n,n⟩ 1 cls :=
  ⟨by simp [a],Aqo _,d,.inr ⟨_,0,rfl,ZdE c fun i v e=>by simpa using e⟩⟩
theorem ZHk {f:Yx} {T:TypeId} {b c:Nat} {d:Int} (e:obj h b=some (.cells (Zcu f).toArray T (0,0))) (a:Box h c (i64 d)) {K:Bool->HP} (g:K (decide (f.grade<=2)&&inB f.cnt 0 d) h):ZsA (.func (.func 284) #[] #[.pointer (At b),.pointer (At c)]) K h:=by
  obtain ⟨j,a⟩:=a
  refine .inr (.inr (.inr (.inr (.inr (.inr (.inr (.inl ⟨(At b,At c,()),rfl,?_⟩)))))))
  unfold ZcI Zgf
  refine Zo (rI (Zb e rfl) (Zq (fun i=>Zo (rI (Zb e rfl) (Zo (rI (Zb a rfl) (XN (Zh (Zws g ?_))))))) fun i=>Zws g ?_))
  ·rw [decide_eq_true (p:=f.grade<=2) (by omega),Aqa];rfl
  ·rw [decide_eq_false (p:=f.grade<=2) (by omega),Aqb]
theorem ZHj {f:Yx} {T:TypeId} {b:Nat} (a:obj h b=some (.cells (Zcu f).toArray T (0,0))) {K:Bool->HP} (c:K (ZcE (decide (f.grade=0)) f.slow 1 3600000000) h):ZsA (.func (.func 285) #[] #[.pointer (At b)]) K h:=by
  refine .inr (.inr (.inr (.inr (.inr (.inr (.inr (.inr (.inl ⟨(At b,()),rfl,?_⟩))))))))
  unfold ZcH Zge
  refine Zo (rI (Zb a rfl) (Zo (rI (Zb a rfl) (Zkr (Zh (Zws c ?_))))))
  rw [<- Zv9 f.grade 0]
  rfl
theorem ZHi {f:Yx} {T:TypeId} {b:Nat} (c:obj h b=some (.cells (Zcu f).toArray T (0,0))) {K:Bool->HP} (a:K (inB f.least 1 1099511627776&&inB f.window 1000000 120000000) h):ZsA (.func (.func 286) #[] #[.pointer (At b)]) K h:=by
  refine .inr (.inr (.inr (.inr (.inr (.inr (.inr (.inr (.inr (.inl ⟨(At b,()),rfl,?_⟩)))))))))
  unfold ZcG Zgd
  refine Zo (rI (Zb c rfl) (XN ?_))
  show Zy (inB f.least 1 1099511627776) _ _
  cases ho:inB f.least 1 1099511627776 with
  | false=>rw [ho] at a;exact Zl rfl a
  | true=>rw [ho] at a;exact Zm rfl (Zo (rI (Zb c rfl) (XN (Zh a))))
theorem ZHh {f:Yx} {T:TypeId} {b:Nat} (a:obj h b=some (.cells (Zcu f).toArray T (0,0))) {K:Bool->HP} (c:K (inB f.recover 1000000 3600000000) h):ZsA (.func (.func 287) #[] #[.pointer (At b)]) K h:=by
  refine .inr (.inr (.inr (.inr (.inr (.inr (.inr (.inr (.inr (.inr (.inl ⟨(At b,()),rfl,?_⟩))))))))))
  unfold ZcF Zgc
  exact Zo (rI (Zb a rfl) (XN (Zh c)))
theorem ZqQ {f:Yx} (x:f.res.length<9223372036854775807) {K:Int->HP} (y:∀ h',Ext h h'->K f.err h'):Zej (Zvh f) K h:=by
  unfold Zej ZhW
  refine YZ fun b z s H=>Za ?_
  have A:obj b h.size=some (.cells (Zcu f).toArray 80 (0,0)):=z
  have I:sz h=h.size:=rfl
  have s1:sz b=b.size:=rfl
  refine Zk7 rfl fun t J k u B=>?_
  have a:=Zn A k
  refine ZO (fun _ h'=>Ext h h'/\obj h' h.size=some (.cells (Zcu f).toArray 80 (0,0))/\Box h' t (i64 (if f.grade=2 then 1099511627776 else 1000))) ?_ ?_
  ·rintro ⟨⟩ L ⟨C,d,l⟩
   refine rS (Zb d rfl) (YZ fun D m g E=>?_)
   refine Zqk (cls:=[(.func (.func 284) #[] #[.pointer (At h.size),.pointer (At t)],decide (f.grade<=2)&&inB f.cnt 0 (if f.grade=2 then 1099511627776 else 1000)),(.func (.func 285) #[] #[.pointer (At h.size)],ZcE (decide (f.grade=0)) f.slow 1 3600000000),
     (.func (.func 286) #[] #[.pointer (At h.size)],inB f.least 1 1099511627776&&inB f.window 1000000 120000000),(.func (.func 287) #[] #[.pointer (At h.size)],inB f.recover 1000000 3600000000)])
     x (nms:=[]) (Row.nil _ 1) (fun n o=>by cases o) (e:=31) rfl (ZqM (n:=4) m rfl (by decide)) (fun p hp h' M q F=>?_) fun h' n o q=>Za ?_
   ·have v:=g.trans q
    have c:=Zn d v
    have i:=F h' (Ext.refl _)
    simp only [Awr,Azk,or_false] at hp
    rcases hp with rfl | rfl | rfl | rfl
    ·exact ZHk c (l.ext v) i
    ·exact ZHj c i
    ·exact ZHi c i
    ·exact ZHh c i
   ·have:n=f.err:=by
      rw [o]
      simp only [Azy,Ayr,Awm,Yx.err,Yx.good,Azg]
    subst this
    exact y h' (C.trans (g.trans q))
  ·refine rI (Zb a rfl) (Zag (fun b=>ZzH u rfl fun N r w O=>?_) fun b=>?_)
   ·exact ⟨(s.trans k).updS w fun j G=>by subst G;omega,ZG a w (by omega),by rw [if_pos (by omega)];exact r⟩
   ·exact ⟨s.trans k,a,by rw [if_neg (by omega)];exact u⟩
theorem ZnR {f:Y4} {K:Int->HP} (l:∀ h',Ext h h'->K f.err h'):Zds (ZpV f) K h:=by
  unfold Zds ZgU
  refine YZ fun m y q F=>Za ?_
  have d:obj m h.size=some (.cells (ZbG f).toArray 91 (0,0)):=y
  refine rI (Zb d rfl) (rI (Zb d rfl) (rI (Zb d rfl) (rI (Zb d rfl) (rI (Zb d rfl) (YZ fun r z s G=>?_)))))
  obtain ⟨ns,c⟩:∃ ns,ns=[f.qps,f.threads,f.rt,f.load,f.cpu]:=⟨_,rfl⟩
  have A:ns.length=5:=by rw [c];rfl
  have row:Row r ⟨some ⟨m.size,0,none⟩,5,5⟩ 1 (ns.map i64):=by
    rw [c]
    exact ⟨rfl,Aqo _,by show 5<_;omega,.inr ⟨_,0,rfl,ZdE z fun i v e=>by simpa [i64] using e⟩⟩
  have a:ns.all (fun n=>inB n (-1) 1099511627776)=(inB f.qps (-1) 1099511627776&&inB f.threads (-1) 1099511627776&&inB f.rt (-1) 1099511627776&&inB f.load (-1) 1099511627776&&inB f.cpu (-1) 1099511627776):=by
    rw [c];simp [Azg]
  refine Zv (fun p h'=>h'=r/\∃ i:Nat,p.1=i/\i<=5/\(ns.take i).all (fun n=>inB n (-1) 1099511627776)=true) (fun p _=>(5 - p.1).toNat) ⟨rfl,0,rfl,Ayk _,rfl⟩ ?_
  rintro ⟨H,u⟩ w ⟨rfl,i,e,B,g⟩
  dsimp only at e ⊢
  subst e
  refine Zq (fun C=>?_) fun D=>Za ?_
  ·have j:i<ns.length:=by omega
   obtain ⟨t,ht⟩:∃ t,ns[i]?=some t:=⟨ns[i],Ayb j⟩
   refine Row.idx row (i:=(i:Int)) (n:=i) rfl (v:=i64 t) (by rw [Awz,ht];rfl) fun b o _ E=>⟨t,E,Za (XN ?_)⟩
   show Zy (!inB t (-1) 1099511627776) _ _
   cases x:inB t (-1) 1099511627776 with
   | false =>
     refine Zm rfl (Za ?_)
     have:f.err=33:=by
       unfold Y4.err
       rw [<- a,if_neg]
       intro h
       rw [Axc] at h
       have:=h t (Axq ht)
       rw [x] at this
       cases this
     have k:=l w (q.trans s)
     rw [this] at k
     exact k
   | true =>
     refine Zl rfl ?_
     rw [YA (by omega) (by omega)]
     refine ⟨⟨rfl,i+1,rfl,by omega,?_⟩,by omega⟩
     rw [Ayu,ht,Azo,g]
     simp [x]
  ·have:i=5:=by omega
   subst this
   rw [Awd (by omega)] at g
   have:f.err=0:=by
     unfold Y4.err
     rw [<- a,if_pos g]
   have k:=l w (q.trans s)
   rw [this] at k
   exact k
theorem ZNC {f:ZaI} {x:Sl} {T:TypeId} {b:Nat} (c:obj h b=some (.cells (Zgt (x,f)).toArray T (0,0))) (d:Row h x 1 (f.origins.map sV)) {K:Bool->HP} (a:K (decide (1<=f.origins.length)&&decide (f.origins.length<=32) && !Zhd f.origins) h) :
    ZsA (.func (.func 294) #[] #[.pointer (At b)]) K h:=by
  refine .inr (.inr (.inr (.inr (.inr (.inr (.inr (.inr (.inr (.inr (.inr (.inr (.inr (.inr (.inl ⟨(At b,()),rfl,?_⟩))))))))))))))
  unfold Zdt ZgV
  have g:=Zb3 d
  refine Zo (rL (s:=x) (Zb c rfl) (XN ?_))
  have e:(decide ((1:Int)<=(x.len:Int))&&decide ((x.len:Int)<=32))=(decide (1<=f.origins.length)&&decide (f.origins.length<=32)):=by
    rw [g];congr 1<;>(rw [decide_eq_decide];omega)
  rw [e]
  cases ho:(decide (1<=f.origins.length)&&decide (f.origins.length<=32)) with
  | false=>rw [ho] at a;exact Zl rfl a
  | true=>rw [ho] at a;exact Zm rfl (Zo (rL (s:=x) (Zb c rfl) (Zop d (Zh a))))
theorem ZrT {f:ZaI} {x:Sl} (g:f.res.length<9223372036854775807/\∀ n,n∈f.origins->n.length<9223372036854775807) (i:Row h x 1 (f.origins.map sV)) {K:Int->HP} (j:∀ h',Ext h h'->K f.err h'):Ze4 (Zwh x f) K h:=by
  unfold Ze4 ZiF
  refine YZ fun k l c q=>Za ?_
  have d:obj k h.size=some (.cells (Zgt (x,f)).toArray 95 (0,0)):=l
  refine rS (Zb d rfl) (rL (s:=x) (Zb d rfl) (YZ fun r c5 a z5=>?_))
  refine Zqk (cls:=[(.func (.func 294) #[] #[.pointer (At h.size)],decide (1<=f.origins.length)&&decide (f.origins.length<=32) && !Zhd f.origins)])
    g.1 (nms:=f.origins) (i.ext (c.trans a)) g.2 (e:=34) rfl (ZqM (n:=1) c5 rfl (by decide)) (fun p hp h' t b m=>?_) fun h' n o b=>Za ?_
  ·simp only [Awr,Azk,or_false] at hp
   subst hp
   exact ZNC (Zn d (a.trans b)) (i.ext (c.trans (a.trans b))) (m h' (Ext.refl _))
  ·have:n=f.err:=by
     rw [o]
     simp only [Azy,Ayr,Awm,ZaI.err]
   subst this
   exact j h' (c.trans (a.trans b))
theorem Zm2 {l:List (BL × Int)}:(ZfF l).length=l.length*2:=Zfr (f:=fun p:BL × Int=>[sV p.1,.int .i64 p.2]) (n:=2) (fun _=>rfl) l
theorem Zqv {l:List (BL × Int)} {x:Sl} (c:Row h x 2 (ZfF l)) {i:Nat} {p:BL × Int} (hp:l[i]?=some p) {n:Int} (e:n=i) {K:ByteArray->Int->Prop} (g:K (Zj p.1) p.2):Zdb x.ptr x.len n 2 fun b o=>ldS h b o fun t=>ldI h b (o+1) .i64 fun t2=>K t t2:=by
  have j:=c.len
  rw [Zm2] at j
  have k:=Zy6 hp
  rcases c.at_ with m | ⟨b,o,a,d⟩
  ·omega
  ·rw [a]
   refine Zm7 (n:=i) e (by omega) ?_
   have g0:h.cell b (o+i*2)=some (sV p.1):=ZiC d (by have:=Znh (n:=2) (f:=fun p:BL × Int=>[sV p.1,.int .i64 p.2]) (fun _=>rfl) l i 0 p hp (by decide);simpa [ZfF] using this)
   have g1:h.cell b (o+i*2+1)=some (.int .i64 p.2):=by
     have:=ZiC d (i:=i*2+1) (by have:=Znh (n:=2) (f:=fun p:BL × Int=>[sV p.1,.int .i64 p.2]) (fun _=>rfl) l i 1 p hp (by decide);simpa [ZfF] using this)
     rw [<- Aqh] at this
     exact this
   exact ⟨_,g0,_,g1,g⟩
theorem ZPJ {f:Zew} {x:Sl} {T:TypeId} {b:Nat} (c:obj h b=some (.cells (ZlF (x,f)).toArray T (0,0))) {K:Bool->HP} (a:K (inB f.index 0 7&&inB f.cnt 0 1099511627776) h):ZsA (.func (.func 288) #[] #[.pointer (At b)]) K h:=by
  refine .inr (.inr (.inr (.inr (.inr (.inr (.inr (.inr (.inr (.inr (.inr (.inl ⟨(At b,()),rfl,?_⟩)))))))))))
  unfold Zei ZhV
  refine Zo (rI (Zb c rfl) (XN ?_))
  show Zy (inB f.index 0 7) _ _
  cases ho:inB f.index 0 7 with
  | false=>rw [ho] at a;exact Zl rfl a
  | true=>rw [ho] at a;exact Zm rfl (Zo (rI (Zb c rfl) (XN (Zh a))))
theorem ZPI {f:Zew} {x y:Sl} {T:TypeId} {b c:Nat} (e:obj h b=some (.cells (ZlF (x,f)).toArray T (0,0))) (g:Row h x 2 (ZfF f.items)) (d:Box h c (slV y)) (i:Row h y 1 ((f.items.map (·.1)).map sV)) {K:Bool->HP}
    (a:K (inB f.secs 1 60&&decide (f.items.length<=32) && !Zhd (f.items.map (·.1))) h):ZsA (.func (.func 289) #[] #[.pointer (At b),.pointer (At c)]) K h:=by
  obtain ⟨l,d⟩:=d
  refine .inr (.inr (.inr (.inr (.inr (.inr (.inr (.inr (.inr (.inr (.inr (.inr (.inl ⟨(At b,At c,()),rfl,?_⟩))))))))))))
  unfold Zeh ZhU
  have j:=g.len
  rw [Zm2] at j
  refine Zo (rI (Zb e rfl) (XN ?_))
  show Zy (inB f.secs 1 60) _ _
  cases ho:inB f.secs 1 60 with
  | false=>rw [ho] at a;exact Zl rfl a
  | true =>
    rw [ho] at a
    refine Zm rfl (Zo (rL (s:=x) (Zb e rfl) (Zq (fun k=>Zo (rL (s:=y) (Zb d rfl) (Zop i (Zh (Zws a ?_))))) fun k=>Zws a ?_)))
    ·rw [decide_eq_true (p:=f.items.length<=32) (by omega)];rfl
    ·rw [decide_eq_false (p:=f.items.length<=32) (by omega)];rfl
theorem ZPH {f:Zew} {x:Sl} {T:TypeId} {b:Nat} (D:obj h b=some (.cells (ZlF (x,f)).toArray T (0,0))) (j:Row h x 2 (ZfF f.items)) {K:Bool->HP} (o:∀ h',Ext h h'->K (f.items.all fun p=>decide (p.1.length<=64)&&inB p.2 0 1099511627776) h') :
    ZsA (.func (.func 291) #[] #[.pointer (At b)]) K h:=by
  refine .inr (.inr (.inr (.inr (.inr (.inr (.inr (.inr (.inr (.inr (.inr (.inr (.inr (.inl ⟨(At b,()),rfl,?_⟩)))))))))))))
  unfold Zeg ZhT
  refine Zo (rL (s:=x) (Zb D rfl) ?_)
  unfold Z2 Ys Yd Yv
  have E:=j.len
  rw [Zm2] at E
  have big:=j.big
  have cap:=j.cap
  obtain ⟨g,q⟩:∃ g:BL × Int->Bool,g=fun p=>decide (p.1.length<=64)&&inB p.2 0 1099511627776:=⟨_,rfl⟩
  rw [<- q] at o
  refine Za (Zv (fun p h'=>Ext h h'/\∃ i:Nat,p.1=i/\i<=f.items.length/\(f.items.take i).all g=true) (fun p _=>(f.items.length - p.1).toNat) ⟨Ext.refl _,0,rfl,Ayk _,rfl⟩ ?_)
  rintro ⟨J,u⟩ r ⟨l,i,A,F,t⟩
  dsimp only at A ⊢
  subst A
  refine Zq (fun G=>Za ?_) fun H=>Za (Zh (Zh ?_))
  ·have v:i<f.items.length:=by omega
   obtain ⟨p,hp⟩:∃ p,f.items[i]?=some p:=⟨f.items[i],Ayb v⟩
   refine Zqv (j.ext l) hp rfl ?_
   unfold Zef Zgb
   refine YZ fun w c3 B z3=>rS (n:=Zj p.1) (Zb c3 rfl) ?_
   have step:∀ (bad:Bool),bad = !g p->Zy bad (Zi (i:Int) fun t8=>(fun (t1:Int) r=>Yq (decide (t1>=0)) fun t2=>Yq (!t2) fun t3=>K t3 r) t8 w) (Ext h w/\(∃ y:Nat,IntKind.wrap .i64 ((i:Int)+1)=y/\y<=f.items.length/\(f.items.take y).all g=true)/\(f.items.length - IntKind.wrap .i64 ((i:Int)+1)).toNat<(f.items.length - (i:Int)).toNat):=fun bad m=>by
     cases d:g p with
     | false =>
       rw [d] at m
       refine Zm (by rw [m];rfl) (Za (Zh (Zh ?_)))
       rw [show decide ((i:Int)>=0)=true by simp]
       have:f.items.all g=false:=by
         cases C:f.items.all g with
         | false=>rfl
         | true=>rw [Axc] at C;have:=C p (Axq hp);rw [d] at this;cases this
       have k:=o w (l.trans B)
       rw [this] at k
       exact k
     | true =>
       rw [d] at m
       refine Zl (by rw [m];rfl) ?_
       rw [YA (by omega) (by omega)]
       refine ⟨l.trans B,⟨i+1,rfl,by omega,?_⟩,by omega⟩
       rw [Ayu,hp,Azo,t]
       simp [d]
   have I:(Zj p.1).size=p.1.length:=rfl
   refine Zq (fun z=>?_) fun z=>rI (n:=p.2) (Zb c3 rfl) (XN (Zh ?_))
   ·have:=step true (by rw [q];simp only [decide_eq_false (p:=p.1.length<=64) (by omega),Aqb,Axl])
    exact ⟨fun e=>this.1 e,fun e=>by cases e⟩
   ·have:=step (!inB p.2 0 1099511627776) (by rw [q];simp only [decide_eq_true (p:=p.1.length<=64) (by omega),Aqa])
    exact ⟨this.1,fun e=>let ⟨a,b,c⟩:=this.2 e;⟨⟨a,b⟩,c⟩⟩
  ·rw [Awd (by omega)] at t
   have k:=o r l
   rw [t] at k
   exact k
theorem Ztt {f:Zew} {x:Sl} (hl:f.res.length<9223372036854775807) (hi:f.items.length<=1000000000000) (z:Row h x 2 (ZfF f.items)) {K:Int->HP} (hk:∀ h',Ext h h'->K f.err h'):Zf5 (ZFC x f) K h:=by
  unfold Zf5 ZjT
  refine YZ fun A c1 e1 z1=>Za (YZ fun l c3 X z3=>?_)
  have s0:sz h=h.size:=rfl
  have s1:sz A=A.size:=rfl
  have s3:sz l=l.size:=rfl
  have Y:obj l h.size=some (.cells (ZlF (x,f)).toArray 85 (0,0)):=Zn c1 X
  have J:=z.len
  rw [Zm2] at J
  have big:=z.big
  have cap:=z.cap
  have hm:(f.items.map (·.1)).length=f.items.length:=by simp
  refine rL (s:=x) (Zb Y rfl) (Zv (fun p h'=>∃ (i:Nat) (y:Sl),p.1=i/\i<=f.items.length/\Ext h h'/\obj h' h.size=some (.cells (ZlF (x,f)).toArray 85 (0,0))/\Box h' A.size (slV y)/\Own h' (sz l) y 1 (((f.items.map (·.1)).take i).map sV)) (fun p _=>(f.items.length - p.1).toNat)
    ⟨0,⟨none,0,0⟩,rfl,Ayk _,e1.trans X,Y,⟨_,c3⟩,Own.nil _ _ _⟩ ?_)
  rintro ⟨i_,u⟩ B ⟨i,y,C,ag,g,m,o,a⟩
  dsimp only at C ⊢
  subst C
  have ah:y.len=i:=by have:=a.len;simp at this;omega
  have Z:sz l<=sz B\/True:= .inr trivial
  refine Zq (fun ai=>?_) fun aj=>?_
  ·have L:i<f.items.length:=by omega
   obtain ⟨p,hp⟩:∃ p,f.items[i]?=some p:=⟨f.items[i],Ayb L⟩
   refine Zqv (z.ext g) hp rfl (YZ fun D M N ak=>ZfK M (by show 2<=2;omega) rfl fun k c12 O z12=>?_)
   have s6:sz B=B.size:=rfl
   have al:sz D=D.size:=rfl
   have an:sz k=k.size:=rfl
   have d:Ext B k:=N.updS O fun j H=>by subst H;exact Aqo _
   have E:=o.ext d
   obtain ⟨Tb,F⟩:=E
   have q:Own k (sz l) y 1 (((f.items.map (·.1)).take i).map sV):=a.congr fun b _ P _=>Zu d P
   have aa:=o.lt
   have blt:∀ {b:Nat},y.blk=some b->sz l<=b/\b<sz B:=fun e=>a.lt e
   refine rL (s:=y) (Zb F rfl) (rS (n:=Zj p.1) (Zb c12 rfl) (Zcr (cells:=[sV p.1]) q rfl rfl rfl (by omega) (by omega) ?_ fun s' Q R t aq=>?_))
   ·have:=g.size
    omega
   have v:obj Q A.size=some (.cells [slV y].toArray Tb (0,0)):=ZG F t fun e=>by have:=(blt e).1;omega
   refine Zk2 v (by show 0<1;omega) rfl fun ar S w au=>?_
   rw [YA (by omega) (by omega)]
   refine ⟨⟨i+1,s',rfl,by omega,?_,?_,⟨_,S⟩,?_⟩,by omega⟩
   ·exact ((g.trans d).updS t fun j H=>by have:=(blt H).1;omega).updS w fun j H=>by omega
   ·exact ZG (ZG (Zn m d) t fun e=>by have:=(blt e).1;omega) w (by omega)
   ·have:((f.items.map (·.1)).take (i+1)).map sV=((f.items.map (·.1)).take i).map sV++[sV p.1]:=by
      rw [Ayu,Awz,hp];simp
    rw [this]
    exact R.congr fun b av P aw=>Zt w P fun e=>by omega
  ·have:i=f.items.length:=by omega
   subst this
   rw [Awd (by omega)] at a
   refine rS (Zb m rfl) (YZ fun ax T G ay=>?_)
   refine Zqk (cls:=[(.func (.func 288) #[] #[.pointer (At h.size)],inB f.index 0 7&&inB f.cnt 0 1099511627776),(.func (.func 289) #[] #[.pointer (At h.size),.pointer (At A.size)],inB f.secs 1 60&&decide (f.items.length<=32) && !Zhd (f.items.map (·.1))),
     (.func (.func 291) #[] #[.pointer (At h.size)],f.items.all fun p=>decide (p.1.length<=64)&&inB p.2 0 1099511627776)])
     hl (nms:=[]) (Row.nil _ 1) (fun n U=>by cases U) (e:=32) rfl (ZqM (n:=3) T rfl (by decide)) (fun p hp h' K' V W=>?_) fun h' n U V=>Za ?_
   ·have I:=G.trans V
    have c:=Zn m I
    have r:=z.ext (g.trans I)
    simp only [Awr,Azk,or_false] at hp
    rcases hp with rfl | rfl | rfl
    ·exact ZPJ c (W h' (Ext.refl _))
    ·exact ZPI c r (o.ext I) (a.row.ext I) (W h' (Ext.refl _))
    ·exact ZPH c r W
   ·have:n=f.err:=by
      rw [U]
      simp only [Azy,Ayr,Awm,Zew.err,Zew.good,Azg]
    subst this
    exact hk h' (g.trans (G.trans V))
end
end Go.Proofs.YtpjbjdheeemdiaaGreatDoor
namespace Go.Js
open Go
def Zhv (n:Int):Prop:= -9223372036854775808<=n/\n<=9223372036854775807
theorem Zyz {n:Int} (h:Zhv n):ZCg (Lib.itoa n)=some n:=by
  obtain ⟨neg,u,e,hp,b⟩:=ZrW n
  obtain ⟨v1,v2,_⟩:=ZtF u
  have a:=(Zzw u).dg.2
  obtain ⟨c,d⟩:=h
  have key:Lib.atoiAll (Lib.itoa n) = .ok n:=by
    rw [e]
    cases neg with
    | true =>
      have:=hp rfl
      show Lib.atoiAll (45::Lib.decDigits u)=_
      rw [Zlk v2 a,v1,if_pos (by omega),<- this]
    | false =>
      have:=b rfl
      show Lib.atoiAll (Lib.decDigits u)=_
      rw [Zlj v2 a,v1,if_pos (by omega),<- this]
  unfold ZCg
  rw [key]
  simp
end Go.Js
