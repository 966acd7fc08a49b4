/- An item is read (printed by mkRjO.py) -/
import Derived.Lib.AtoiAllCases
import Derived.Test.YtpjbjdheeemdiaaGreatDoorPa13
set_option linter.unusedVariables false
set_option linter.unusedSimpArgs false
namespace Go.Proofs.YtpjbjdheeemdiaaGreatDoor
open Go Go.Fw Go.Js
theorem Zkb {κ μ:Type} {rd rd':κ->JV->Except Nat μ} {F:List (BL × κ)} (h:∀ a j k v,Zbs a F 0=some (j,k)->rd k v=rd' k v):∀ (l:List (BL × JV)) (seen:List BL) (m:List μ),Zgo rd F seen l m=Zgo rd' F seen l m
  | [],_,_=>rfl
  | (a,v)::r,seen,m=>by
    simp only [Zgo]
    cases hf:Zbs a F 0 with
    | none=>rfl
    | some p =>
      obtain ⟨j,k⟩:=p
      dsimp only
      rw [h a j k v hf]
      split
      ·rfl
      ·cases rd' k v with
       | error e=>rfl
       | ok x=>exact Zkb h r _ _
def Zrp:List MV:=[.t [],.n 0]
theorem Zly {a:BL} {j:Nat} {k:FK} (h:Zbs a Zkv 0=some (j,k)):k = .text\/k = .num:=by
  have:=Axq (Y2 h)
  simp only [Zkv,Awr,Prod.mk.injEq,Azi,or_false] at this
  rcases this with ⟨_,rfl⟩ | ⟨_,rfl⟩
  ·exact .inl rfl
  ·exact .inr rfl
theorem ZmU (v:JV):Xp ZaK Zkv Zrp v=Xp Zdg Zkv [.t [],.n 0] v:=by
  unfold Xp
  split
  ·exact Zkb (fun a j k v hk=>by rcases Zly hk with rfl | rfl<;>rfl) _ _ _
  ·rfl
theorem Zxw:∀ a j,Zbs a Zkv 0≠some (j,.items):=fun a j h=>by rcases Zly h with e | e<;>cases e
theorem Zxv:ZDK Zkv Zrp:=fun a j k h=>by rcases Zly h with rfl | rfl<;>trivial
theorem ZDc {m:List MV} (h:m.map MV.sort=Zrp.map MV.sort):m=[.t (Zna m).1,.n (Zna m).2]:=by
  obtain ⟨x1,l,rfl,h1,h⟩:=ZC h
  obtain ⟨x2,l,rfl,h2,h⟩:=ZC h
  have:=Zd5 h;subst this
  obtain ⟨_,rfl⟩:=Zk5 h1
  obtain ⟨_,rfl⟩:=Zd2 h2
  rfl
def ZfN:Nat->Nat:=fun j=>([6,10]:List Nat).getD j 1000
set_option maxRecDepth 4000 in
set_option maxHeartbeats 2000000 in
theorem ZDa:Zte (Xk (ZF 1)):=by
  intro h0 R B T base m c3 l z v S K er rc ne rb bb hbase r9 b9 bx3 n3 hj hlf hl ht hv hS hw ok bad
  unfold Xk ZbI
  refine YX fun h1 c1 e0 z0=>YX fun h3 c2 e1 z1=>?_
  have s_h0:sz h0=h0.size:=rfl
  have s_h1:sz h1=h1.size:=rfl
  have s_h3:sz h3=h3.size:=rfl
  have hR:=er.lt
  have hB:=rc.lt
  have ex1:Ext h0 h3:=e0.trans e1
  have cv:obj h3 h0.size=some (.cells (Xl z).toArray 33 (0,0)):=Zl c1 e1
  have cr:obj h3 h1.size=some (.cells (Zrp.map ZfB).toArray 203 (0,0)):=c2.trans (by kernel_rfl)
  have hl0:∀ x,x∈Zrp->mk x<4:=by decide +kernel
  have cp5:=bx3.ext ex1
  have Hv:∀ {h':Zc},Ext h3 h'->Z9 h' [(h0.size,0,.int .u8 z.1),(h0.size,0+1,.string z.2.1),(h0.size,0+2,.slice z.2.2.1.ptr z.2.2.1.len z.2.2.1.cap),(h0.size,0+3,.slice z.2.2.2.1.ptr z.2.2.2.1.len z.2.2.2.1.cap)]:=fun e=>ZpY (Zl cv e)
  have Hp:∀ {h':Zc},Ext h3 h'->Z9 h' [(c3,0,.pointer (At R))]:=fun e=>Zfp (cp5.ext e)
  have wk:∀ {c:Nat},sz h3<=c->sz h0<=c/\c≠h1.size:=fun h=>⟨by omega,by omega⟩
  obtain ⟨Tp,cp⟩:=cp5
  refine Zu (rP (Zb cp rfl) (rI (Zb cv rfl) (rS (Zb cv rfl) (rL (s:=z.2.2.1) (Zb cv rfl) (rL (s:=z.2.2.2.1) (Zb cv rfl) (Zu (rP (Zb cp rfl) (Zu (rP (Zb cp rfl) ?_)))))))))
  refine Zds (fun d t h=>Lit (YD R h1.size (fun b=>sz h0<=b/\b≠h1.size)) Zkv 2 ZfN h3 d t.1 h/\(d 5=true->YD R h1.size (fun b=>sz h0<=b/\b≠h1.size) .text 0 (.func (.func 211) #[] #[.pointer t.2.1.1,.pointer t.2.1.2.1]) h)/\(d 9=true->YD R h1.size (fun b=>sz h0<=b/\b≠h1.size) .num 1 (.func (.func 213) #[] #[.pointer t.2.2.1.1,.pointer t.2.2.1.2.1]) h)) (none,(none,none,()),(none,none,()),()) ⟨Lit.start _ _,(fun e=>by cases e),(fun e=>by cases e)⟩ ?_ ?_
  ·rintro d ⟨s0,s1,s2,⟨⟩⟩ h ⟨L,q5,q9⟩
   refine ⟨?_,?_,?_,?_,?_,trivial⟩
   ·exact fun e0=>L.make e0 (by decide:∀ j,j<2->ZfN j≠2) fun mb h' L' e'=>⟨Hp L'.ext,⟨Hp L'.ext,⟨Hv L'.ext,⟨Hp L'.ext,⟨L',fun e=>(q5 e).ext e',fun e=>(q9 e).ext e'⟩⟩⟩⟩⟩
   ·exact fun e0  => Zfm fun c1 c2 h' e' z1 z2 _ _ b1 b2=>⟨Hp (L.ext.trans e'),⟨Hv (L.ext.trans e'),⟨Hp (L.ext.trans e'),⟨L.call e' (fun g=>g.ext e') (by decide) (by decide:∀ j,j<2->ZfN j≠5),fun _=>⟨c1,c2,rfl,⟨wk (Aqp L.ext.size z1),wk (Aqp L.ext.size z2)⟩,b1,b2⟩,fun e=>(q9 e).ext e'⟩⟩⟩⟩
   ·exact fun e0 a0 a1=>L.put a0 (j:=0) (a:=[118,97,108,117,101]) (k:= .text) (by kernel_rfl) (by decide:∀ i,i<2->ZfN i=ZfN 0->i=0) rfl (by decide) (q5 a1) YD.map fun h' L' e' u'=>⟨Hp e',⟨Hp e',⟨Hv e',⟨Hp e',⟨L',fun e=>(q5 e).map u',fun e=>(q9 e).map u'⟩⟩⟩⟩⟩
   ·exact fun e0 a0=>Y3 fun c1 c2 h' e' z1 z2 _ _ b1 b2=>⟨Hp (L.ext.trans e'),⟨Hv (L.ext.trans e'),⟨Hp (L.ext.trans e'),⟨L.call e' (fun g=>g.ext e') (by decide) (by decide:∀ j,j<2->ZfN j≠9),fun e=>(q5 e).ext e',fun _=>⟨c1,c2,rfl,⟨wk (Aqp L.ext.size z1),wk (Aqp L.ext.size z2)⟩,b1,b2⟩⟩⟩⟩⟩
   ·exact fun e0 a0 a1=>L.put a0 (j:=1) (a:=[99,111,117,110,116]) (k:= .num) (by kernel_rfl) (by decide:∀ i,i<2->ZfN i=ZfN 1->i=1) rfl (by decide) (q9 a1) YD.map fun h' L' e' u'=>⟨Hp e',⟨Hp e',⟨Hv e',⟨Hp e',⟨L',fun e=>(q5 e).map u',fun e=>(q9 e).map u'⟩⟩⟩⟩⟩
  ·rintro d ⟨s0,s1,s2,⟨⟩⟩ h ⟨L,q5,q9⟩
   intro d2 d5 d6 d9 d10
   refine ⟨Hp L.ext,⟨Hp L.ext,⟨Hv L.ext,⟨Hp L.ext,?_⟩⟩⟩⟩
   obtain ⟨mb,f,n,cls,rfl,hmb,hm,hf,hG⟩:=L.all d2 (fun j hj=>match j,hj with
     | 0,_=>d6
     | 1,_=>d10
     | k+2,hj=>absurd hj (Azt.2 (Azu 2 k)))
   have hh:Ext h0 h:=ex1.trans L.ext
   have szh:sz h3<=sz h:=L.ext.size
   have cr2:=Zl cr L.ext
   show Xq (ZF 0) _ _ _ _ _
   have tailK:∀ {m':List MV} {h':Zc} {e:Nat},m'.map mk=Zrp.map mk->Zge h1.size 203 (sz h+1) m' h'->Er h' R e->Upd (Wr R h1.size (sz h+1)) h h'->(∀ x h2,x=Zna m'->Zge B T base (m.set 4 (.is (l++[x]))) h2->Er h2 R e->Upd (Wr R B base) h0 h2->K h2) ->
       (Y6 (Z9 h' [(c3,0,.pointer (At R))]) <| Y6 (Z9 h' [(c3,0,.pointer (At R))]) <| Ze (At B) fun b31 o32=>ldL h' b31 (o32+4) fun t33=>ldS h' h1.size 0 fun t34=>ldI h' h1.size (0+1) .i64 fun t35 =>
         newC h' [.string t34,.int .i64 t35] 203 fun b36 h37=>rdS ⟨some ⟨b36,0,none⟩,1,1⟩ 2 h37 fun new=>app 203 2 24 [.string (ByteArray.mk #[]),.int .i64 0] t33 1 new h37 fun t38 h39=>Ze (At B) fun b40 o41=>st h39 b40 (o41+4) (.slice t38.ptr t38.len t38.cap) fun h42=>K h42):=by
     intro m' h' e hs r er' u k
     have em:=ZDc (Zhu hs)
     obtain ⟨x,hx⟩:∃ x,x=Zna m':=⟨_,rfl⟩
     rw [<- hx] at em
     rw [em] at r
     have c:=ZgH r (by intro y hy;simp only [Awr,Azi,or_false] at hy;rcases hy with rfl | rfl<;>(show (_:Nat)<4;simp [mk]))
     have szf:sz h<=sz h':=u.size
     have cpf:Box h' c3 (.pointer (At R)):=(bx3.ext hh).upd u (by rintro (e | e | e)<;>omega)
     have rc':Zge B T base m h':=rc.upd (UN hh u) (by rintro (e | e | e)<;>omega) (by rintro b (e | e | e)<;>first | (left;omega) | (right;omega))
     obtain ⟨vs,cB,hlen,g⟩:=rc'
     obtain ⟨w,hw2,s,hs2,own⟩:=g 4 (.is l) hj
     subst hs2
     have hjl:4<m.length:=(Azj.1 hj).1
     have hvl:4<vs.length:=by omega
     have hsl:s.len=l.length:=by have:=own.len;unfold Ze0 at this;rw [ZeM (n:=2) (fun _=>rfl)] at this;omega
     have s_h':sz h'=h'.size:=rfl
     refine ⟨Zfp cpf,Zfp cpf,Zu (rL (s:=s) (Zb cB (by simpa using hw2)) (rS (Zb c rfl) (rI (Zb c rfl) (YX fun h5 c5 e5 z5=>Zha c5 rfl ?_))))⟩
     have s_h5:sz h5=h5.size:=rfl
     have own5:Own h5 base s 2 (Ze0 l):=own.congr fun b _ hb _=>Zq e5 hb
     refine own5.app (new:=[sV x.1,.int .i64 x.2]) rfl rfl rfl (by omega) (by omega) (show base<=h5.size by omega) fun s6 h6 o6 hs6 u6 hb6=>?_
     have hBs:¬ s.blk=some B:=fun e=>by have:=(own5.lt e).1;omega
     have hRs:¬ s.blk=some R:=fun e=>by have:=(own5.lt e).1;omega
     have cB6:obj h6 B=some (.cells vs.toArray T (0,0)):=ZB (Zl cB e5) u6 hBs
     refine Zu (Zjw cB6 hvl rfl fun h7 c7 u7 z7=>k x h7 hx ?_ ?_ ?_)
     ·refine Zsh (h':=h7) (R:=R) cB hlen g hlf c7 (x:= .is (l++[x])) ⟨s6,rfl,?_⟩ hjl
      have o7:Own h6 base s6 2 (Ze0 (l++[x])):=by
        have:Ze0 (l++[x])=Ze0 l++[sV x.1,.int .i64 x.2]:=by unfold Ze0;rw [Azv];rfl
        rw [this]
        exact o6
      exact o7.congr fun b _ hb hbb=>Zo u7 hb fun e=>by omega
     ·exact ((er'.ext e5).upd u6 hRs).upd u7 fun e=>ne e.symm
     ·refine UT (UT (UT (hh.upd _) u ?_) ((e5.upd (fun b=>s.blk=some b)).trans u6) ?_) u7 ?_
      ·rintro k' (e | e | e)
       ·exact .inl (.inl e)
       ·right;omega
       ·right;omega
      ·intro k' e
       exact .inl (.inr (.inr (own5.lt e).1))
      ·intro k' e
       exact .inl (.inr (.inl e))
   refine Zm0 (f165:=ZF 0) (F:=Zkv) (m0:=Zrp) (S:=S) (B:=h1.size) (T:=203) (W:=fun b=>sz h0<=b/\b≠h1.size) (.inl Zxw) rfl Zxv (er.ext hh) (Zsg cr2 hl0) (by omega) (fun b hb=>⟨by omega,hb.2⟩) r9 (by omega) hm hf ⟨by omega,by omega⟩ hG (ht.ext hh)
     (hv.keep (fun b _ hl=>Zq hh hl) fun _ h=>h) (fun b hb=>by obtain ⟨y1,y2,y3⟩:=hS b hb;exact ⟨by omega,y2,by omega⟩) hw (fun m' h' hq hs r e' u=>tailK hs r e' u fun x h2 hx r2 e2 u2=>ok x h2 ?_ r2 e2 u2) fun e m' h' hq hn hs r e' u=>tailK hs r e' u fun x h2 hx r2 e2 u2=>bad e _ h2 ?_ hn r2 e2 u2
   ·rw [ZmU] at hq
    unfold Zby
    rw [hq,hx]
   ·rw [ZmU] at hq
    unfold Zby
    rw [hq]
theorem ZzL:ZDK ZsI ZxF:=fun a j k h=>by
  have h2:=Y2 h
  match j,h2 with
  | 0,h2=>simp [ZsI] at h2;obtain ⟨_,rfl⟩:=h2;trivial
  | 1,h2=>simp [ZsI] at h2;obtain ⟨_,rfl⟩:=h2;trivial
  | 2,h2=>simp [ZsI] at h2;obtain ⟨_,rfl⟩:=h2;trivial
  | 3,h2=>simp [ZsI] at h2;obtain ⟨_,rfl⟩:=h2;trivial
  | 4,h2 =>
    simp [ZsI] at h2;obtain ⟨_,rfl⟩:=h2
    refine ⟨rfl,rfl,fun i y hy hne=>?_⟩
    match i,hy,hne with
    | 0,hy,_=>simp [ZxF] at hy;subst hy;decide
    | 1,hy,_=>simp [ZxF] at hy;subst hy;decide
    | 2,hy,_=>simp [ZxF] at hy;subst hy;decide
    | 3,hy,_=>simp [ZxF] at hy;subst hy;decide
    | 4,_,hne=>exact absurd rfl hne
    | i+5,hy,_=>simp [ZxF] at hy
  | j+5,h2=>simp [ZsI] at h2
def Zcr:Nat->Nat:=fun j=>([6,10,14,18,22]:List Nat).getD j 1000
set_option maxRecDepth 4000 in
set_option maxHeartbeats 2000000 in
theorem ZFq {h0:Zc} {R:Nat} (er:Er h0 R 0) (r9:9<=R) (ht:ZaN h0) (h9:9<=sz h0) {z:VT5} {v:JV} {S:Nat->Prop} (hv:Zam h0 S z v) (hS:∀ b,S b->b<sz h0/\b≠R) (hw:wV v<=1000000000000) {K:(ByteArray × Int × Int × Int × Sl × Unit)->HP}
    (ok:∀ x f h',Zcj v = .ok f->Own h' (sz h0) x 2 (Ze0 f.items)->Er h' R 0->Upd (· = R) h0 h'->K (ZDQ x f) h') (bad:∀ e x f h',Zcj v = .error e->e≠0->Own h' (sz h0) x 2 (Ze0 f.items)->Er h' R e->Upd (· = R) h0 h'->K (ZDQ x f) h'):X9 (At R) z K h0:=by
  unfold X9 Zcx
  refine YX fun h1 c1 e0 z0=>YX fun h3 c2 e1 z1=>YX fun h5 c3 e2 z2=>YX fun h7 c4 e3 z3=>?_
  have s_h0:sz h0=h0.size:=rfl
  have s_h1:sz h1=h1.size:=rfl
  have s_h3:sz h3=h3.size:=rfl
  have s_h5:sz h5=h5.size:=rfl
  have s_h7:sz h7=h7.size:=rfl
  have hR:=er.lt
  have ex0:Ext h0 h1:=e0
  have ex1:Ext h0 h3:=ex0.trans e1
  have ex2:Ext h0 h5:=ex1.trans e2
  have ex3:Ext h0 h7:=ex2.trans e3
  have cv5:obj h7 h1.size=some (.cells (Xl z).toArray 33 (0,0)):=Zl (Zl c2 e2) e3
  have cz5:obj h7 h3.size=some (.cells [.string (ByteArray.mk #[]),.int .i64 0,.int .i64 0,.int .i64 0,.slice none 0 0].toArray 85 (0,0)):=Zl c3 e3
  have cp5:Box h7 h0.size (.pointer (At R)):=⟨_,Zl (Zl (Zl c1 e1) e2) e3⟩
  have cv:=cv5
  have cz:=cz5
  have cr:obj h7 h5.size=some (.cells ([.t [],.n 0,.n 0,.n 0].map ZfB++[slV ⟨none,0,0⟩]).toArray 85 (0,0)):=c4.trans (by kernel_rfl)
  have hlf:∀ x,x∈[.t [],.n 0,.n 0,.n 0]->mk x<4:=by decide +kernel
  have Hv:∀ {h':Zc},Ext h7 h'->Z9 h' [(h1.size,0,.int .u8 z.1),(h1.size,0+1,.string z.2.1),(h1.size,0+2,.slice z.2.2.1.ptr z.2.2.1.len z.2.2.1.cap),(h1.size,0+3,.slice z.2.2.2.1.ptr z.2.2.2.1.len z.2.2.2.1.cap)]:=fun e=>ZpY (Zl cv e)
  have wk:∀ {c:Nat},sz h7<=c->sz h0<=c/\c≠h5.size:=fun h=>⟨by omega,by omega⟩
  have Hp:∀ {h':Zc},Ext h7 h'->Z9 h' [(h0.size,0,.pointer (At R))]:=fun e=>Zfp (cp5.ext e)
  have bxc:=cp5
  have lbc:sz h0<=h0.size/\h0.size≠h5.size:=⟨by omega,by omega⟩
  obtain ⟨Tp,cp⟩:=cp5
  refine rP (Zb cp rfl) (rI (Zb cv rfl) (rS (Zb cv rfl) (rL (s:=z.2.2.1) (Zb cv rfl) (rL (s:=z.2.2.2.1) (Zb cv rfl) (rP (Zb cp rfl) (rP (Zb cp rfl) (rP (Zb cp rfl) (rP (Zb cp rfl) (rP (Zb cp rfl) (?_))))))))))
  refine Zds (fun d t h=>Lit (YD R h5.size (fun b=>sz h0<=b/\b≠h5.size)) ZsI 2 Zcr h7 d t.1 h/\(d 5=true->YD R h5.size (fun b=>sz h0<=b/\b≠h5.size) .text 0 (.func (.func 211) #[] #[.pointer t.2.1.1,.pointer t.2.1.2.1]) h)/\(d 9=true->YD R h5.size (fun b=>sz h0<=b/\b≠h5.size) .num 1 (.func (.func 213) #[] #[.pointer t.2.2.1.1,.pointer t.2.2.1.2.1]) h)/\(d 13=true->YD R h5.size (fun b=>sz h0<=b/\b≠h5.size) .num 2 (.func (.func 213) #[] #[.pointer t.2.2.2.1.1,.pointer t.2.2.2.1.2.1]) h)/\(d 17=true->YD R h5.size (fun b=>sz h0<=b/\b≠h5.size) .num 3 (.func (.func 213) #[] #[.pointer t.2.2.2.2.1.1,.pointer t.2.2.2.2.1.2.1]) h)/\(d 21=true->YD R h5.size (fun b=>sz h0<=b/\b≠h5.size) .items 4 (.func (.func 216) #[] #[.pointer t.2.2.2.2.2.1.1,.pointer t.2.2.2.2.2.1.2.1]) h)) (none,(none,none,()),(none,none,()),(none,none,()),(none,none,()),(none,none,()),()) ⟨Lit.start _ _,(fun e=>by cases e),(fun e=>by cases e),(fun e=>by cases e),(fun e=>by cases e),(fun e=>by cases e)⟩ ?_ ?_
  ·rintro d ⟨s0,s1,s2,s3,s4,s5,⟨⟩⟩ h ⟨L,q5,q9,q13,q17,q21⟩
   refine ⟨?_,?_,?_,?_,?_,?_,?_,?_,?_,?_,?_,trivial⟩
   ·exact fun e0=>L.make e0 (by decide:∀ j,j<5->Zcr j≠2) fun mb h' L' e'=>⟨Hp L'.ext,⟨Hp L'.ext,⟨Hp L'.ext,⟨Hp L'.ext,⟨Hp L'.ext,⟨Hv L'.ext,⟨Hp L'.ext,⟨L',fun e=>(q5 e).ext e',fun e=>(q9 e).ext e',fun e=>(q13 e).ext e',fun e=>(q17 e).ext e',fun e=>(q21 e).ext e'⟩⟩⟩⟩⟩⟩⟩⟩
   ·exact fun e0  => Zfm fun c1 c2 h' e' z1 z2 _ _ b1 b2=>⟨Hp (L.ext.trans e'),⟨Hp (L.ext.trans e'),⟨Hp (L.ext.trans e'),⟨Hp (L.ext.trans e'),⟨Hv (L.ext.trans e'),⟨Hp (L.ext.trans e'),⟨L.call e' (fun g=>g.ext e') (by decide) (by decide:∀ j,j<5->Zcr j≠5),fun _=>⟨c1,c2,rfl,⟨wk (Aqp L.ext.size z1),wk (Aqp L.ext.size z2)⟩,b1,b2⟩,fun e=>(q9 e).ext e',fun e=>(q13 e).ext e',fun e=>(q17 e).ext e',fun e=>(q21 e).ext e'⟩⟩⟩⟩⟩⟩⟩
   ·exact fun e0 a0 a1=>L.put a0 (j:=0) (a:=[114,101,115,111,117,114,99,101]) (k:= .text) (by kernel_rfl) (by decide:∀ i,i<5->Zcr i=Zcr 0->i=0) rfl (by decide) (q5 a1) YD.map fun h' L' e' u'=>⟨Hp e',⟨Hp e',⟨Hp e',⟨Hp e',⟨Hp e',⟨Hv e',⟨Hp e',⟨L',fun e=>(q5 e).map u',fun e=>(q9 e).map u',fun e=>(q13 e).map u',fun e=>(q17 e).map u',fun e=>(q21 e).map u'⟩⟩⟩⟩⟩⟩⟩⟩
   ·exact fun e0 a0=>Y3 fun c1 c2 h' e' z1 z2 _ _ b1 b2=>⟨Hp (L.ext.trans e'),⟨Hp (L.ext.trans e'),⟨Hp (L.ext.trans e'),⟨Hp (L.ext.trans e'),⟨Hv (L.ext.trans e'),⟨Hp (L.ext.trans e'),⟨L.call e' (fun g=>g.ext e') (by decide) (by decide:∀ j,j<5->Zcr j≠9),fun e=>(q5 e).ext e',fun _=>⟨c1,c2,rfl,⟨wk (Aqp L.ext.size z1),wk (Aqp L.ext.size z2)⟩,b1,b2⟩,fun e=>(q13 e).ext e',fun e=>(q17 e).ext e',fun e=>(q21 e).ext e'⟩⟩⟩⟩⟩⟩⟩
   ·exact fun e0 a0 a1=>L.put a0 (j:=1) (a:=[105,110,100,101,120]) (k:= .num) (by kernel_rfl) (by decide:∀ i,i<5->Zcr i=Zcr 1->i=1) rfl (by decide) (q9 a1) YD.map fun h' L' e' u'=>⟨Hp e',⟨Hp e',⟨Hp e',⟨Hp e',⟨Hp e',⟨Hv e',⟨Hp e',⟨L',fun e=>(q5 e).map u',fun e=>(q9 e).map u',fun e=>(q13 e).map u',fun e=>(q17 e).map u',fun e=>(q21 e).map u'⟩⟩⟩⟩⟩⟩⟩⟩
   ·exact fun e0 a0=>Y3 fun c1 c2 h' e' z1 z2 _ _ b1 b2=>⟨Hp (L.ext.trans e'),⟨Hp (L.ext.trans e'),⟨Hp (L.ext.trans e'),⟨Hp (L.ext.trans e'),⟨Hv (L.ext.trans e'),⟨Hp (L.ext.trans e'),⟨L.call e' (fun g=>g.ext e') (by decide) (by decide:∀ j,j<5->Zcr j≠13),fun e=>(q5 e).ext e',fun e=>(q9 e).ext e',fun _=>⟨c1,c2,rfl,⟨wk (Aqp L.ext.size z1),wk (Aqp L.ext.size z2)⟩,b1,b2⟩,fun e=>(q17 e).ext e',fun e=>(q21 e).ext e'⟩⟩⟩⟩⟩⟩⟩
   ·exact fun e0 a0 a1=>L.put a0 (j:=2) (a:=[99,111,117,110,116]) (k:= .num) (by kernel_rfl) (by decide:∀ i,i<5->Zcr i=Zcr 2->i=2) rfl (by decide) (q13 a1) YD.map fun h' L' e' u'=>⟨Hp e',⟨Hp e',⟨Hp e',⟨Hp e',⟨Hp e',⟨Hv e',⟨Hp e',⟨L',fun e=>(q5 e).map u',fun e=>(q9 e).map u',fun e=>(q13 e).map u',fun e=>(q17 e).map u',fun e=>(q21 e).map u'⟩⟩⟩⟩⟩⟩⟩⟩
   ·exact fun e0 a0=>Y3 fun c1 c2 h' e' z1 z2 _ _ b1 b2=>⟨Hp (L.ext.trans e'),⟨Hp (L.ext.trans e'),⟨Hp (L.ext.trans e'),⟨Hp (L.ext.trans e'),⟨Hv (L.ext.trans e'),⟨Hp (L.ext.trans e'),⟨L.call e' (fun g=>g.ext e') (by decide) (by decide:∀ j,j<5->Zcr j≠17),fun e=>(q5 e).ext e',fun e=>(q9 e).ext e',fun e=>(q13 e).ext e',fun _=>⟨c1,c2,rfl,⟨wk (Aqp L.ext.size z1),wk (Aqp L.ext.size z2)⟩,b1,b2⟩,fun e=>(q21 e).ext e'⟩⟩⟩⟩⟩⟩⟩
   ·exact fun e0 a0 a1=>L.put a0 (j:=3) (a:=[115,101,99,111,110,100,115]) (k:= .num) (by kernel_rfl) (by decide:∀ i,i<5->Zcr i=Zcr 3->i=3) rfl (by decide) (q17 a1) YD.map fun h' L' e' u'=>⟨Hp e',⟨Hp e',⟨Hp e',⟨Hp e',⟨Hp e',⟨Hv e',⟨Hp e',⟨L',fun e=>(q5 e).map u',fun e=>(q9 e).map u',fun e=>(q13 e).map u',fun e=>(q17 e).map u',fun e=>(q21 e).map u'⟩⟩⟩⟩⟩⟩⟩⟩
   ·exact fun e0 a0=>Zxh fun c1 c2 h' e' z1 z2 b1 b2=>⟨Hp (L.ext.trans e'),⟨Hp (L.ext.trans e'),⟨Hp (L.ext.trans e'),⟨Hp (L.ext.trans e'),⟨Hv (L.ext.trans e'),⟨Hp (L.ext.trans e'),⟨L.call e' (fun g=>g.ext e') (by decide) (by decide:∀ j,j<5->Zcr j≠21),fun e=>(q5 e).ext e',fun e=>(q9 e).ext e',fun e=>(q13 e).ext e',fun e=>(q17 e).ext e',fun _=>⟨c1,c2,_,rfl,⟨wk (Aqp L.ext.size z1),wk (Aqp L.ext.size z2),lbc⟩,b1,b2,bxc.ext (L.ext.trans e')⟩⟩⟩⟩⟩⟩⟩⟩
   ·exact fun e0 a0 a1=>L.put a0 (j:=4) (a:=[105,116,101,109,115]) (k:= .items) (by kernel_rfl) (by decide:∀ i,i<5->Zcr i=Zcr 4->i=4) rfl (by decide) (q21 a1) YD.map fun h' L' e' u'=>⟨Hp e',⟨Hp e',⟨Hp e',⟨Hp e',⟨Hp e',⟨Hv e',⟨Hp e',⟨L',fun e=>(q5 e).map u',fun e=>(q9 e).map u',fun e=>(q13 e).map u',fun e=>(q17 e).map u',fun e=>(q21 e).map u'⟩⟩⟩⟩⟩⟩⟩⟩
  ·rintro d ⟨s0,s1,s2,s3,s4,s5,⟨⟩⟩ h ⟨L,q5,q9,q13,q17,q21⟩
   intro d2 d5 d6 d9 d10 d13 d14 d17 d18 d21 d22
   refine ⟨Hp L.ext,⟨Hp L.ext,⟨Hp L.ext,⟨Hp L.ext,⟨Hp L.ext,⟨Hv L.ext,⟨Hp L.ext,?_⟩⟩⟩⟩⟩⟩⟩
   obtain ⟨mb,f,n,cls,rfl,hmb,hm,hf,hG⟩:=L.all d2 (fun j hj=>match j,hj with
     | 0,_=>d6
     | 1,_=>d10
     | 2,_=>d14
     | 3,_=>d18
     | 4,_=>d22
     | k+5,hj=>absurd hj (Azt.2 (Azu 5 k)))
   have hh:Ext h0 h:=ex3.trans L.ext
   have szh:sz h7<=sz h:=L.ext.size
   have cr2:=Zl cr L.ext
   have czh:=Zl cz L.ext
   refine ⟨2,?_⟩
   refine Zm0 (f165:=ZF 1) (F:=ZsI) (m0:=ZxF) (S:=S) (B:=h5.size) (T:=85) (W:=fun b=>sz h0<=b/\b≠h5.size) (.inr ZDa) rfl ZzL (er.ext hh) (ZwN cr2 hlf ⟨⟨none,0,0⟩,rfl,Own.nil _ _ _⟩) (by omega) (fun b hb=>⟨by omega,hb.2⟩) r9 (by omega) hm hf ⟨by omega,by omega⟩ hG (ht.ext hh)
     (hv.keep (fun b _ hl=>Zq hh hl) fun _ h=>h) (fun b hb=>by obtain ⟨y1,y2⟩:=hS b hb;exact ⟨by omega,y2,by omega⟩) hw (fun m h' hq hs r e' u=>?_) fun e m h' hq hn hs r e' u=>?_
   ·have em:m=(ZpW m).mv:=ZxE (Zhu hs)
    obtain ⟨f,hf⟩:∃ f,f=ZpW m:=⟨_,rfl⟩
    rw [<- hf] at em
    rw [em] at r
    obtain ⟨w,c,x,rfl,own⟩:=ZkF (m:=[.t f.res,.n f.index,.n f.cnt,.n f.secs]) r (by intro y hy;simp only [Awr,Azi,or_false] at hy;rcases hy with rfl | rfl | rfl | rfl<;>(show (_:Nat)<4;simp [mk]))
    have czf:=ZB czh u (by rintro (e | e | e)<;>omega)
    have szf:sz h<=sz h':=u.size
    have cpf:Box h' h0.size (.pointer (At R)):=Box.upd (Box.ext ⟨Tp,cp⟩ L.ext) u (by rintro (e | e | e)<;>omega)
    refine ⟨Zfp cpf,⟨Zfp cpf,⟨Zfp cpf,⟨Zfp cpf,⟨Zfp cpf,rS (Zb c rfl) (rI (Zb c rfl) (rI (Zb c rfl) (rI (Zb c rfl) (rL (s:=x) (Zb c rfl) (ZeW czf (by show 5<=5;omega) rfl fun h2 c2 u2 z2=>rS (Zb c2 rfl) (rI (Zb c2 rfl) (rI (Zb c2 rfl) (rI (Zb c2 rfl) (rL (s:=x) (Zb c2 rfl) (ok x f h2 ?_ (by exact (own.congr fun b _ hl hb=>Zo u2 hl fun e=>by omega).base (by omega)) ?_ ?_))))))))))⟩⟩⟩⟩⟩
    ·exact by unfold Zcj;rw [hq,hf];rfl
    ·exact e'.upd u2 fun e=>by omega
    ·exact UT (UT (hh.upd _) u fun k hk=>by rcases hk with e | e | e<;>omega) u2 fun k hk=> .inr (by omega)
   ·have em:m=(ZpW m).mv:=ZxE (Zhu hs)
    obtain ⟨f,hf⟩:∃ f,f=ZpW m:=⟨_,rfl⟩
    rw [<- hf] at em
    rw [em] at r
    obtain ⟨w,c,x,rfl,own⟩:=ZkF (m:=[.t f.res,.n f.index,.n f.cnt,.n f.secs]) r (by intro y hy;simp only [Awr,Azi,or_false] at hy;rcases hy with rfl | rfl | rfl | rfl<;>(show (_:Nat)<4;simp [mk]))
    have czf:=ZB czh u (by rintro (e | e | e)<;>omega)
    have szf:sz h<=sz h':=u.size
    have cpf:Box h' h0.size (.pointer (At R)):=Box.upd (Box.ext ⟨Tp,cp⟩ L.ext) u (by rintro (e | e | e)<;>omega)
    refine ⟨Zfp cpf,⟨Zfp cpf,⟨Zfp cpf,⟨Zfp cpf,⟨Zfp cpf,rS (Zb c rfl) (rI (Zb c rfl) (rI (Zb c rfl) (rI (Zb c rfl) (rL (s:=x) (Zb c rfl) (ZeW czf (by show 5<=5;omega) rfl fun h2 c2 u2 z2=>rS (Zb c2 rfl) (rI (Zb c2 rfl) (rI (Zb c2 rfl) (rI (Zb c2 rfl) (rL (s:=x) (Zb c2 rfl) (bad e x f h2 ?_ hn (by exact (own.congr fun b _ hl hb=>Zo u2 hl fun e=>by omega).base (by omega)) ?_ ?_))))))))))⟩⟩⟩⟩⟩
    ·exact by unfold Zcj;rw [hq];rfl
    ·exact e'.upd u2 fun e=>by omega
    ·exact UT (UT (hh.upd _) u fun k hk=>by rcases hk with e | e | e<;>omega) u2 fun k hk=> .inr (by omega)
end Go.Proofs.YtpjbjdheeemdiaaGreatDoor
namespace Go.Js
open Go
theorem ZlQ {α:Type} {f:JV->Except Nat α}:∀ {a b:List JV} {i:Nat},Zab f (a++b) i=match Zab f a i with
    | .error e=> .error e
    | .ok x=>match Zab f b (i+a.length) with
      | .error e=> .error e
      | .ok y=> .ok (x++y)
  | [],b,i=>by
    simp only [Ayq,Zab,Ays,Axk]
    cases Zab f b i<;>rfl
  | c::a,b,i=>by
    simp only [Ayp,Zab]
    rw [ZlQ,show i+1+a.length=i+(c::a).length by simp;omega]
    cases f c with
    | error e=>rfl
    | ok y=>cases Zab f a (i+1) with
      | error e=>rfl
      | ok x=>cases Zab f b (i+(c::a).length)<;>rfl
theorem Zgw {α:Type} {f:JV->Except Nat α} {l:List JV} {i:Nat} {x:JV} {done:List α} (hx:l[i]?=some x) (hd:Zab f (l.take i) 0 = .ok done) :
    (∀ e,f x = .error e->Zab f l 0 = .error (i,e))/\∀ y,f x = .ok y->Zab f (l.take (i+1)) 0 = .ok (done++[y]):=by
  obtain ⟨hi,hxe⟩:=Azj.1 hx
  have e1:l=l.take i++(x::l.drop (i+1)):=by
    rw [<- hxe,<- Ayl hi,Azg]
  have e2:l.take (i+1)=l.take i++[x]:=by rw [Ayu,hx];rfl
  have hl:(l.take i).length=i:=by rw [Ayo];omega
  refine ⟨fun e he=>?_,fun y hy=>?_⟩
  ·rw [e1,ZlQ,hd,hl,Awb]
   simp [Zab,he]
  ·rw [e2,ZlQ,hd]
   simp [Zab,hy]
end Go.Js
namespace Go.Proofs.YtpjbjdheeemdiaaGreatDoor
open Go Go.Fw Go.Js
theorem Zcb {h:Zc} {base n bytes:Nat} {out:Sl} {vs cells zs:List Value} {T T2:TypeId} {K:Sl->Zc->Prop} (own:Own h base out n vs) (hc:cells.length=n) (h1:cells.all Yc=true) (hz:zs.length=n) (hb:(out.len+1)*bytes<=140737488355328) (hl:out.len+1<=140737488355328) (hbase:base<=sz h)
    (hk:∀ s' h',Own h' base s' n (vs++cells)->Upd (fun k=>out.blk=some k) h h'->(s'.blk=out.blk\/∃ b,s'.blk=some b/\sz h<=b)->K s' h') :
    newC h cells T2 fun b h2=>rdS ⟨some ⟨b,0,none⟩,1,1⟩ n h2 fun new=>app T n bytes zs out 1 new h2 K:=by
  refine YX fun h2 c2 e2 z2=>Zha c2 (by omega) ?_
  have s2:sz h2=h2.size:=rfl
  have s1:sz h=h.size:=rfl
  refine (own.congr fun b _ hb _=>Zq e2 hb).app (by omega) h1 hz hb hl (show base<=h2.size by omega) fun s' h' o _ u bb=>hk s' h' o (UN e2 u) ?_
  rcases bb with bb | bb
  ·exact .inl bb
  ·exact .inr ⟨_,bb,by omega⟩
set_option maxHeartbeats 1000000 in
theorem ZxX {h0:Zc} {l:Sl} {sub:JL} {cx:List Value} {S:Nat->Prop} (row:Row h0 l 4 cx) (hin:inS S l) (lst:Xm h0 S sub cx) (hS:∀ b,S b->b<sz h0) (ht:ZaN h0) (h9:9<=sz h0) (hw:pw sub<=1000000000000) {K:Sl->Int->Int->HP}
    (ok:∀ x (fs:List FlowP) h',Zab ZaP sub.list 0 = .ok fs->Own h' (sz h0) x 12 (fs.flatMap Zdx)->Ext h0 h'->K x 0 0 h') (bad:∀ (i e:Nat) h',Zab ZaP sub.list 0 = .error (i,e)->e≠0->Ext h0 h'->K ⟨none,0,0⟩ i e h'):ZX l K h0:=by
  unfold ZX YI
  have hlen:l.len=sub.len:=by have:=row.len;have:=lst.len;omega
  have big:=row.big
  have cap:=row.cap
  have hlp:=ZdN sub
  refine Za (Za (Zv (fun p0 h=>∃ (i:Nat) (fs:List FlowP),p0.2.1=i/\i<=sub.len/\Zab ZaP (sub.list.take i) 0 = .ok fs/\fs.length=i/\Own h (sz h0) p0.1 12 (fs.flatMap Zdx)/\Ext h0 h) (fun p0 _=>(sub.len - p0.2.1).toNat)
    ⟨0,[],rfl,Ayk _,rfl,rfl,Own.nil _ _ _,Ext.refl _⟩ ?_))
  rintro ⟨out,i0,u⟩ h3 ⟨i,fs,hi,hle,hE,hfl,own,e03⟩
  dsimp only at hi own ⊢
  subst hi
  have hol:out.len=i:=by have:=own.len;rw [ZeM (n:=12) (fun _=>rfl)] at this;omega
  refine Zt (fun hlt=>?_) fun hge=>?_
  ·have hia:i<sub.len:=by omega
   obtain ⟨k,t,ns,s,r,hd⟩:=JL.drop_cons hia
   have hget:=JL.list_get hd
   obtain ⟨nE,nO⟩:=Zgw (f:=ZaP) hget hE
   have keep:∀ b,S b->b<sz h0->obj h3 b=obj h0 b:=fun b _ hl=>Zq e03 hl
   have row3:Row h3 l 4 cx:=Yi row hin keep
   have lst3:Xm h3 S sub cx:=lst.keep keep fun _ h=>h
   refine ZfW row3 lst3 hd rfl fun z' hz'=>YX fun h9 c9 e9 z9=>Za (ZeW c9 (by show 4<=4;omega) rfl fun h10 c10 u10 z10=>YX fun h12 c12 e12 z12=>?_)
   have s0:sz h0=h0.size:=rfl
   have s3:sz h3=h3.size:=rfl
   have s9:sz h9=h9.size:=rfl
   have s10:sz h10=h10.size:=rfl
   have s12:sz h12=h12.size:=rfl
   have c10':obj h10 h3.size=some (.cells (Xl z').toArray 33 (0,0)):=c10
   have cv:=Zl c10' e12
   have e310:Ext h3 h10:=e9.updS u10 fun j hj=>by subst hj;exact Aqo _
   have e312:Ext h3 h12:=e310.trans e12
   have e012:Ext h0 h12:=e03.trans e312
   have sz03:sz h0<=sz h3:=e03.size
   have hw':wV ⟨k,t,ns,s⟩<=1000000000000:=Aqp (Zhb (Axq hget)) hw
   have er:Er h12 h10.size 0:=⟨_,c12⟩
   refine rI (Zb cv rfl) (rS (Zb cv rfl) (rL (s:=z'.2.2.1) (Zb cv rfl) (rL (s:=z'.2.2.2.1) (Zb cv rfl) ?_)))
   have hz12:Zam h12 S z' ⟨k,t,ns,s⟩:=hz'.keep (fun b _ hl=>Zq e312 hl) fun _ h=>h
   refine ZDu er (by omega) (ht.ext e012) (by omega) hz12 (fun b hb=>by have:=hS b hb;exact ⟨by omega,by omega⟩) hw' (fun f h18 hr er18 u18=>?_) fun e f h18 hr hn er18 u18=>?_
   all_goals
     have sz12:sz h12<=sz h18:=u18.size
     have blt:∀ {b:Nat},out.blk=some b->sz h0<=b/\b<sz h3:=fun e=>own.lt e
     have own18:Own h18 (sz h0) out 12 (fs.flatMap Zdx):=(own.congr fun b _ hb _=>Zq e312 hb).congr fun b hbb hb _=>Zo u18 hb fun e=>by have:=blt hbb;omega
     have e018:Ext h0 h18:=e012.updS u18 fun j hj=>by subst hj;omega
     refine Zcb (cells:=Zdx f) own18 rfl rfl rfl (by omega) (by omega) (by omega) fun s' h22 o22 u22 b22=>?_
     have e022:Ext h0 h22:=e018.updS u22 fun j hj=>(blt hj).1
     have er22:=er18.upd u22 fun e=>by have:=(blt e).2;omega
     refine ZeU er22 ?_
   ·refine Zm rfl ?_
    rw [Yt (by omega) (by omega)]
    refine ⟨⟨i+1,fs++[f],rfl,by omega,nO f hr,by simp [hfl],?_,e022⟩,by omega⟩
    rw [Azv,Azw]
    exact o22
   ·exact Zn (by simp;omega) (ZeU er22 (Za (Za (bad i e h22 (nE e hr) hn e022))))
  ·have:i=sub.len:=by omega
   subst this
   rw [Awd (by rw [JL.list_len];omega)] at hE
   exact Za (Za (ok out fs h3 hE own e03))
set_option maxHeartbeats 1000000 in
theorem Zue {h0:Zc} {l:Sl} {sub:JL} {cx:List Value} {S:Nat->Prop} (row:Row h0 l 4 cx) (hin:inS S l) (lst:Xm h0 S sub cx) (hS:∀ b,S b->b<sz h0) (ht:ZaN h0) (h9:9<=sz h0) (hw:pw sub<=1000000000000) {K:Sl->Int->Int->HP}
    (ok:∀ x (fs:List YJ) h',Zab X7 sub.list 0 = .ok fs->Own h' (sz h0) x 7 (fs.flatMap Zcc)->Ext h0 h'->K x 0 0 h') (bad:∀ (i e:Nat) h',Zab X7 sub.list 0 = .error (i,e)->e≠0->Ext h0 h'->K ⟨none,0,0⟩ i e h'):ZO l K h0:=by
  unfold ZO YA
  have hlen:l.len=sub.len:=by have:=row.len;have:=lst.len;omega
  have big:=row.big
  have cap:=row.cap
  have hlp:=ZdN sub
  refine Za (Za (Zv (fun p0 h=>∃ (i:Nat) (fs:List YJ),p0.2.1=i/\i<=sub.len/\Zab X7 (sub.list.take i) 0 = .ok fs/\fs.length=i/\Own h (sz h0) p0.1 7 (fs.flatMap Zcc)/\Ext h0 h) (fun p0 _=>(sub.len - p0.2.1).toNat)
    ⟨0,[],rfl,Ayk _,rfl,rfl,Own.nil _ _ _,Ext.refl _⟩ ?_))
  rintro ⟨out,i0,u⟩ h3 ⟨i,fs,hi,hle,hE,hfl,own,e03⟩
  dsimp only at hi own ⊢
  subst hi
  have hol:out.len=i:=by have:=own.len;rw [ZeM (n:=7) (fun _=>rfl)] at this;omega
  refine Zt (fun hlt=>?_) fun hge=>?_
  ·have hia:i<sub.len:=by omega
   obtain ⟨k,t,ns,s,r,hd⟩:=JL.drop_cons hia
   have hget:=JL.list_get hd
   obtain ⟨nE,nO⟩:=Zgw (f:=X7) hget hE
   have keep:∀ b,S b->b<sz h0->obj h3 b=obj h0 b:=fun b _ hl=>Zq e03 hl
   have row3:Row h3 l 4 cx:=Yi row hin keep
   have lst3:Xm h3 S sub cx:=lst.keep keep fun _ h=>h
   refine ZfW row3 lst3 hd rfl fun z' hz'=>YX fun h9 c9 e9 z9=>Za (ZeW c9 (by show 4<=4;omega) rfl fun h10 c10 u10 z10=>YX fun h12 c12 e12 z12=>?_)
   have s0:sz h0=h0.size:=rfl
   have s3:sz h3=h3.size:=rfl
   have s9:sz h9=h9.size:=rfl
   have s10:sz h10=h10.size:=rfl
   have s12:sz h12=h12.size:=rfl
   have c10':obj h10 h3.size=some (.cells (Xl z').toArray 33 (0,0)):=c10
   have cv:=Zl c10' e12
   have e310:Ext h3 h10:=e9.updS u10 fun j hj=>by subst hj;exact Aqo _
   have e312:Ext h3 h12:=e310.trans e12
   have e012:Ext h0 h12:=e03.trans e312
   have sz03:sz h0<=sz h3:=e03.size
   have hw':wV ⟨k,t,ns,s⟩<=1000000000000:=Aqp (Zhb (Axq hget)) hw
   have er:Er h12 h10.size 0:=⟨_,c12⟩
   refine rI (Zb cv rfl) (rS (Zb cv rfl) (rL (s:=z'.2.2.1) (Zb cv rfl) (rL (s:=z'.2.2.2.1) (Zb cv rfl) ?_)))
   have hz12:Zam h12 S z' ⟨k,t,ns,s⟩:=hz'.keep (fun b _ hl=>Zq e312 hl) fun _ h=>h
   refine Zz9 er (by omega) (ht.ext e012) (by omega) hz12 (fun b hb=>by have:=hS b hb;exact ⟨by omega,by omega⟩) hw' (fun f h18 hr er18 u18=>?_) fun e f h18 hr hn er18 u18=>?_
   all_goals
     have sz12:sz h12<=sz h18:=u18.size
     have blt:∀ {b:Nat},out.blk=some b->sz h0<=b/\b<sz h3:=fun e=>own.lt e
     have own18:Own h18 (sz h0) out 7 (fs.flatMap Zcc):=(own.congr fun b _ hb _=>Zq e312 hb).congr fun b hbb hb _=>Zo u18 hb fun e=>by have:=blt hbb;omega
     have e018:Ext h0 h18:=e012.updS u18 fun j hj=>by subst hj;omega
     refine Zcb (cells:=Zcc f) own18 rfl rfl rfl (by omega) (by omega) (by omega) fun s' h22 o22 u22 b22=>?_
     have e022:Ext h0 h22:=e018.updS u22 fun j hj=>(blt hj).1
     have er22:=er18.upd u22 fun e=>by have:=(blt e).2;omega
     refine ZeU er22 ?_
   ·refine Zm rfl ?_
    rw [Yt (by omega) (by omega)]
    refine ⟨⟨i+1,fs++[f],rfl,by omega,nO f hr,by simp [hfl],?_,e022⟩,by omega⟩
    rw [Azv,Azw]
    exact o22
   ·exact Zn (by simp;omega) (ZeU er22 (Za (Za (bad i e h22 (nE e hr) hn e022))))
  ·have:i=sub.len:=by omega
   subst this
   rw [Awd (by rw [JL.list_len];omega)] at hE
   exact Za (Za (ok out fs h3 hE own e03))
set_option maxHeartbeats 1000000 in
theorem Zz3 {h0:Zc} {l:Sl} {sub:JL} {cx:List Value} {S:Nat->Prop} (row:Row h0 l 4 cx) (hin:inS S l) (lst:Xm h0 S sub cx) (hS:∀ b,S b->b<sz h0) (ht:ZaN h0) (h9:9<=sz h0) (hw:pw sub<=1000000000000) {K:Sl->Int->Int->HP}
    (ok:∀ x (fs:List (Sl × ZeP)) h',Zab Zcj sub.list 0 = .ok (fs.map (·.2))->Own h' (sz h0) x 5 (fs.flatMap Zkw)->(∀ p,p∈fs->Own h' (sz h0) p.1 2 (Ze0 p.2.items))->Ext h0 h'->K x 0 0 h') (bad:∀ (i e:Nat) h',Zab Zcj sub.list 0 = .error (i,e)->e≠0->Ext h0 h'->K ⟨none,0,0⟩ i e h'):Z8 l K h0:=by
  unfold Z8 YW
  have hlen:l.len=sub.len:=by have:=row.len;have:=lst.len;omega
  have big:=row.big
  have cap:=row.cap
  have hlp:=ZdN sub
  refine Za (Za (Zv (fun p0 h=>∃ (i:Nat) (fs:List (Sl × ZeP)),p0.2.1=i/\i<=sub.len/\Zab Zcj (sub.list.take i) 0 = .ok (fs.map (·.2))/\fs.length=i/\Own h (sz h0) p0.1 5 (fs.flatMap Zkw)/\Ext h0 h/\(∀ p,p∈fs->Own h (sz h0) p.1 2 (Ze0 p.2.items)/\∀ b,p.1.blk=some b->p0.1.blk≠some b)) (fun p0 _=>(sub.len - p0.2.1).toNat)
    ⟨0,[],rfl,Ayk _,rfl,rfl,Own.nil _ _ _,Ext.refl _,fun p hp=>by simp at hp⟩ ?_))
  rintro ⟨out,i0,u⟩ h3 ⟨i,fs,hi,hle,hE,hfl,own,e03,inn⟩
  dsimp only at hi own inn ⊢
  subst hi
  have hol:out.len=i:=by have:=own.len;rw [ZeM (n:=5) (fun _=>rfl)] at this;omega
  refine Zt (fun hlt=>?_) fun hge=>?_
  ·have hia:i<sub.len:=by omega
   obtain ⟨k,t,ns,s,r,hd⟩:=JL.drop_cons hia
   have hget:=JL.list_get hd
   obtain ⟨nE,nO⟩:=Zgw (f:=Zcj) hget hE
   have keep:∀ b,S b->b<sz h0->obj h3 b=obj h0 b:=fun b _ hl=>Zq e03 hl
   have row3:Row h3 l 4 cx:=Yi row hin keep
   have lst3:Xm h3 S sub cx:=lst.keep keep fun _ h=>h
   refine ZfW row3 lst3 hd rfl fun z' hz'=>YX fun h9 c9 e9 z9=>Za (ZeW c9 (by show 4<=4;omega) rfl fun h10 c10 u10 z10=>YX fun h12 c12 e12 z12=>?_)
   have s0:sz h0=h0.size:=rfl
   have s3:sz h3=h3.size:=rfl
   have s9:sz h9=h9.size:=rfl
   have s10:sz h10=h10.size:=rfl
   have s12:sz h12=h12.size:=rfl
   have c10':obj h10 h3.size=some (.cells (Xl z').toArray 33 (0,0)):=c10
   have cv:=Zl c10' e12
   have e310:Ext h3 h10:=e9.updS u10 fun j hj=>by subst hj;exact Aqo _
   have e312:Ext h3 h12:=e310.trans e12
   have e012:Ext h0 h12:=e03.trans e312
   have sz03:sz h0<=sz h3:=e03.size
   have hw':wV ⟨k,t,ns,s⟩<=1000000000000:=Aqp (Zhb (Axq hget)) hw
   have er:Er h12 h10.size 0:=⟨_,c12⟩
   refine rI (Zb cv rfl) (rS (Zb cv rfl) (rL (s:=z'.2.2.1) (Zb cv rfl) (rL (s:=z'.2.2.2.1) (Zb cv rfl) ?_)))
   have hz12:Zam h12 S z' ⟨k,t,ns,s⟩:=hz'.keep (fun b _ hl=>Zq e312 hl) fun _ h=>h
   refine ZFq er (by omega) (ht.ext e012) (by omega) hz12 (fun b hb=>by have:=hS b hb;exact ⟨by omega,by omega⟩) hw' (fun x f h18 hr ownx er18 u18=>?_) fun e x f h18 hr hn ownx er18 u18=>?_
   all_goals
     have sz12:sz h12<=sz h18:=u18.size
     have blt:∀ {b:Nat},out.blk=some b->sz h0<=b/\b<sz h3:=fun e=>own.lt e
     have own18:Own h18 (sz h0) out 5 (fs.flatMap Zkw):=(own.congr fun b _ hb _=>Zq e312 hb).congr fun b hbb hb _=>Zo u18 hb fun e=>by have:=blt hbb;omega
     have e018:Ext h0 h18:=e012.updS u18 fun j hj=>by subst hj;omega
     refine Zcb (cells:=Zkw (x,f)) own18 rfl rfl rfl (by omega) (by omega) (by omega) fun s' h22 o22 u22 b22=>?_
     have e022:Ext h0 h22:=e018.updS u22 fun j hj=>(blt hj).1
     have er22:=er18.upd u22 fun e=>by have:=(blt e).2;omega
     refine ZeU er22 ?_
   ·have inn22:∀ p,p∈fs++[(x,f)]->Own h22 (sz h0) p.1 2 (Ze0 p.2.items)/\∀ b,p.1.blk=some b->s'.blk≠some b:=fun p hp=>by
      rcases Axz.1 hp with hp | hp
      ·obtain ⟨o1,n1⟩:=inn p hp
       have l1:∀ {b:Nat},p.1.blk=some b->b<sz h3:=fun e=>(o1.lt e).2
       refine ⟨((o1.congr fun b _ hb _=>Zq e312 hb).congr fun b hbb hb _=>Zo u18 hb fun e=>by have:=l1 hbb;omega).congr fun b hbb hb _=>Zo u22 hb fun e=>n1 b hbb e,fun b hb e=>?_⟩
       have:=l1 hb
       rcases b22 with e2 | ⟨c,e2,e3⟩
       ·exact n1 b hb (e2▸e)
       ·rw [e] at e2;cases e2;omega
      ·rw [Axu] at hp
       subst hp
       have l1:∀ {b:Nat},x.blk=some b->sz h12<=b/\b<sz h18:=fun e=>ownx.lt e
       refine ⟨(ownx.congr fun b hbb hb _=>Zo u22 hb fun e=>by have:=blt e;have:=l1 hbb;omega).base (by omega),fun b hb e=>?_⟩
       have h5:=l1 hb
       rcases b22 with e2 | ⟨c,e2,e3⟩
       ·have:=blt (e2▸e)
        omega
       ·rw [e] at e2;cases e2;omega
    refine Zm rfl ?_
    rw [Yt (by omega) (by omega)]
    refine ⟨⟨i+1,fs++[(x,f)],rfl,by omega,?_,by simp [hfl],?_,e022,inn22⟩,by omega⟩
    ·rw [Ayy];exact nO f hr
    ·rw [Azv,Azw];exact o22
   ·exact Zn (by simp;omega) (ZeU er22 (Za (Za (bad i e h22 (nE e hr) hn e022))))
  ·have:i=sub.len:=by omega
   subst this
   rw [Awd (by rw [JL.list_len];omega)] at hE
   exact Za (Za (ok out fs h3 hE own (fun p hp=>(inn p hp).1) e03))
set_option maxHeartbeats 1000000 in
theorem ZrE {h0:Zc} {l:Sl} {sub:JL} {cx:List Value} {S:Nat->Prop} (row:Row h0 l 4 cx) (hin:inS S l) (lst:Xm h0 S sub cx) (hS:∀ b,S b->b<sz h0) (ht:ZaN h0) (h9:9<=sz h0) (hw:pw sub<=1000000000000) {K:Sl->Int->Int->HP}
    (ok:∀ x (fs:List Xi) h',Zab XZ sub.list 0 = .ok fs->Own h' (sz h0) x 5 (fs.flatMap Zbw)->Ext h0 h'->K x 0 0 h') (bad:∀ (i e:Nat) h',Zab XZ sub.list 0 = .error (i,e)->e≠0->Ext h0 h'->K ⟨none,0,0⟩ i e h'):ZL l K h0:=by
  unfold ZL Yw
  have hlen:l.len=sub.len:=by have:=row.len;have:=lst.len;omega
  have big:=row.big
  have cap:=row.cap
  have hlp:=ZdN sub
  refine Za (Za (Zv (fun p0 h=>∃ (i:Nat) (fs:List Xi),p0.2.1=i/\i<=sub.len/\Zab XZ (sub.list.take i) 0 = .ok fs/\fs.length=i/\Own h (sz h0) p0.1 5 (fs.flatMap Zbw)/\Ext h0 h) (fun p0 _=>(sub.len - p0.2.1).toNat)
    ⟨0,[],rfl,Ayk _,rfl,rfl,Own.nil _ _ _,Ext.refl _⟩ ?_))
  rintro ⟨out,i0,u⟩ h3 ⟨i,fs,hi,hle,hE,hfl,own,e03⟩
  dsimp only at hi own ⊢
  subst hi
  have hol:out.len=i:=by have:=own.len;rw [ZeM (n:=5) (fun _=>rfl)] at this;omega
  refine Zt (fun hlt=>?_) fun hge=>?_
  ·have hia:i<sub.len:=by omega
   obtain ⟨k,t,ns,s,r,hd⟩:=JL.drop_cons hia
   have hget:=JL.list_get hd
   obtain ⟨nE,nO⟩:=Zgw (f:=XZ) hget hE
   have keep:∀ b,S b->b<sz h0->obj h3 b=obj h0 b:=fun b _ hl=>Zq e03 hl
   have row3:Row h3 l 4 cx:=Yi row hin keep
   have lst3:Xm h3 S sub cx:=lst.keep keep fun _ h=>h
   refine ZfW row3 lst3 hd rfl fun z' hz'=>YX fun h9 c9 e9 z9=>Za (ZeW c9 (by show 4<=4;omega) rfl fun h10 c10 u10 z10=>YX fun h12 c12 e12 z12=>?_)
   have s0:sz h0=h0.size:=rfl
   have s3:sz h3=h3.size:=rfl
   have s9:sz h9=h9.size:=rfl
   have s10:sz h10=h10.size:=rfl
   have s12:sz h12=h12.size:=rfl
   have c10':obj h10 h3.size=some (.cells (Xl z').toArray 33 (0,0)):=c10
   have cv:=Zl c10' e12
   have e310:Ext h3 h10:=e9.updS u10 fun j hj=>by subst hj;exact Aqo _
   have e312:Ext h3 h12:=e310.trans e12
   have e012:Ext h0 h12:=e03.trans e312
   have sz03:sz h0<=sz h3:=e03.size
   have hw':wV ⟨k,t,ns,s⟩<=1000000000000:=Aqp (Zhb (Axq hget)) hw
   have er:Er h12 h10.size 0:=⟨_,c12⟩
   refine rI (Zb cv rfl) (rS (Zb cv rfl) (rL (s:=z'.2.2.1) (Zb cv rfl) (rL (s:=z'.2.2.2.1) (Zb cv rfl) ?_)))
   have hz12:Zam h12 S z' ⟨k,t,ns,s⟩:=hz'.keep (fun b _ hl=>Zq e312 hl) fun _ h=>h
   refine Zwv er (by omega) (ht.ext e012) (by omega) hz12 (fun b hb=>by have:=hS b hb;exact ⟨by omega,by omega⟩) hw' (fun f h18 hr er18 u18=>?_) fun e f h18 hr hn er18 u18=>?_
   all_goals
     have sz12:sz h12<=sz h18:=u18.size
     have blt:∀ {b:Nat},out.blk=some b->sz h0<=b/\b<sz h3:=fun e=>own.lt e
     have own18:Own h18 (sz h0) out 5 (fs.flatMap Zbw):=(own.congr fun b _ hb _=>Zq e312 hb).congr fun b hbb hb _=>Zo u18 hb fun e=>by have:=blt hbb;omega
     have e018:Ext h0 h18:=e012.updS u18 fun j hj=>by subst hj;omega
     refine Zcb (cells:=Zbw f) own18 rfl rfl rfl (by omega) (by omega) (by omega) fun s' h22 o22 u22 b22=>?_
     have e022:Ext h0 h22:=e018.updS u22 fun j hj=>(blt hj).1
     have er22:=er18.upd u22 fun e=>by have:=(blt e).2;omega
     refine ZeU er22 ?_
   ·refine Zm rfl ?_
    rw [Yt (by omega) (by omega)]
    refine ⟨⟨i+1,fs++[f],rfl,by omega,nO f hr,by simp [hfl],?_,e022⟩,by omega⟩
    rw [Azv,Azw]
    exact o22
   ·exact Zn (by simp;omega) (ZeU er22 (Za (Za (bad i e h22 (nE e hr) hn e022))))
  ·have:i=sub.len:=by omega
   subst this
   rw [Awd (by rw [JL.list_len];omega)] at hE
   exact Za (Za (ok out fs h3 hE own e03))
set_option maxHeartbeats 1000000 in
theorem ZxW {h0:Zc} {l:Sl} {sub:JL} {cx:List Value} {S:Nat->Prop} (row:Row h0 l 4 cx) (hin:inS S l) (lst:Xm h0 S sub cx) (hS:∀ b,S b->b<sz h0) (ht:ZaN h0) (h9:9<=sz h0) (hw:pw sub<=1000000000000) {K:Sl->Int->Int->HP}
    (ok:∀ x (fs:List (Sl × Za2)) h',Zab ZaO sub.list 0 = .ok (fs.map (·.2))->Own h' (sz h0) x 3 (fs.flatMap ZfF)->(∀ p,p∈fs->Own h' (sz h0) p.1 1 (p.2.origins.map sV))->Ext h0 h'->K x 0 0 h') (bad:∀ (i e:Nat) h',Zab ZaO sub.list 0 = .error (i,e)->e≠0->Ext h0 h'->K ⟨none,0,0⟩ i e h'):ZK l K h0:=by
  unfold ZK Ys
  have hlen:l.len=sub.len:=by have:=row.len;have:=lst.len;omega
  have big:=row.big
  have cap:=row.cap
  have hlp:=ZdN sub
  refine Za (Za (Zv (fun p0 h=>∃ (i:Nat) (fs:List (Sl × Za2)),p0.2.1=i/\i<=sub.len/\Zab ZaO (sub.list.take i) 0 = .ok (fs.map (·.2))/\fs.length=i/\Own h (sz h0) p0.1 3 (fs.flatMap ZfF)/\Ext h0 h/\(∀ p,p∈fs->Own h (sz h0) p.1 1 (p.2.origins.map sV)/\∀ b,p.1.blk=some b->p0.1.blk≠some b)) (fun p0 _=>(sub.len - p0.2.1).toNat)
    ⟨0,[],rfl,Ayk _,rfl,rfl,Own.nil _ _ _,Ext.refl _,fun p hp=>by simp at hp⟩ ?_))
  rintro ⟨out,i0,u⟩ h3 ⟨i,fs,hi,hle,hE,hfl,own,e03,inn⟩
  dsimp only at hi own inn ⊢
  subst hi
  have hol:out.len=i:=by have:=own.len;rw [ZeM (n:=3) (fun _=>rfl)] at this;omega
  refine Zt (fun hlt=>?_) fun hge=>?_
  ·have hia:i<sub.len:=by omega
   obtain ⟨k,t,ns,s,r,hd⟩:=JL.drop_cons hia
   have hget:=JL.list_get hd
   obtain ⟨nE,nO⟩:=Zgw (f:=ZaO) hget hE
   have keep:∀ b,S b->b<sz h0->obj h3 b=obj h0 b:=fun b _ hl=>Zq e03 hl
   have row3:Row h3 l 4 cx:=Yi row hin keep
   have lst3:Xm h3 S sub cx:=lst.keep keep fun _ h=>h
   refine ZfW row3 lst3 hd rfl fun z' hz'=>YX fun h9 c9 e9 z9=>Za (ZeW c9 (by show 4<=4;omega) rfl fun h10 c10 u10 z10=>YX fun h12 c12 e12 z12=>?_)
   have s0:sz h0=h0.size:=rfl
   have s3:sz h3=h3.size:=rfl
   have s9:sz h9=h9.size:=rfl
   have s10:sz h10=h10.size:=rfl
   have s12:sz h12=h12.size:=rfl
   have c10':obj h10 h3.size=some (.cells (Xl z').toArray 33 (0,0)):=c10
   have cv:=Zl c10' e12
   have e310:Ext h3 h10:=e9.updS u10 fun j hj=>by subst hj;exact Aqo _
   have e312:Ext h3 h12:=e310.trans e12
   have e012:Ext h0 h12:=e03.trans e312
   have sz03:sz h0<=sz h3:=e03.size
   have hw':wV ⟨k,t,ns,s⟩<=1000000000000:=Aqp (Zhb (Axq hget)) hw
   have er:Er h12 h10.size 0:=⟨_,c12⟩
   refine rI (Zb cv rfl) (rS (Zb cv rfl) (rL (s:=z'.2.2.1) (Zb cv rfl) (rL (s:=z'.2.2.2.1) (Zb cv rfl) ?_)))
   have hz12:Zam h12 S z' ⟨k,t,ns,s⟩:=hz'.keep (fun b _ hl=>Zq e312 hl) fun _ h=>h
   refine ZC6 er (by omega) (ht.ext e012) (by omega) hz12 (fun b hb=>by have:=hS b hb;exact ⟨by omega,by omega⟩) hw' (fun x f h18 hr ownx er18 u18=>?_) fun e x f h18 hr hn ownx er18 u18=>?_
   all_goals
     have sz12:sz h12<=sz h18:=u18.size
     have blt:∀ {b:Nat},out.blk=some b->sz h0<=b/\b<sz h3:=fun e=>own.lt e
     have own18:Own h18 (sz h0) out 3 (fs.flatMap ZfF):=(own.congr fun b _ hb _=>Zq e312 hb).congr fun b hbb hb _=>Zo u18 hb fun e=>by have:=blt hbb;omega
     have e018:Ext h0 h18:=e012.updS u18 fun j hj=>by subst hj;omega
     refine Zcb (cells:=ZfF (x,f)) own18 rfl rfl rfl (by omega) (by omega) (by omega) fun s' h22 o22 u22 b22=>?_
     have e022:Ext h0 h22:=e018.updS u22 fun j hj=>(blt hj).1
     have er22:=er18.upd u22 fun e=>by have:=(blt e).2;omega
     refine ZeU er22 ?_
   ·have inn22:∀ p,p∈fs++[(x,f)]->Own h22 (sz h0) p.1 1 (p.2.origins.map sV)/\∀ b,p.1.blk=some b->s'.blk≠some b:=fun p hp=>by
      rcases Axz.1 hp with hp | hp
      ·obtain ⟨o1,n1⟩:=inn p hp
       have l1:∀ {b:Nat},p.1.blk=some b->b<sz h3:=fun e=>(o1.lt e).2
       refine ⟨((o1.congr fun b _ hb _=>Zq e312 hb).congr fun b hbb hb _=>Zo u18 hb fun e=>by have:=l1 hbb;omega).congr fun b hbb hb _=>Zo u22 hb fun e=>n1 b hbb e,fun b hb e=>?_⟩
       have:=l1 hb
       rcases b22 with e2 | ⟨c,e2,e3⟩
       ·exact n1 b hb (e2▸e)
       ·rw [e] at e2;cases e2;omega
      ·rw [Axu] at hp
       subst hp
       have l1:∀ {b:Nat},x.blk=some b->sz h12<=b/\b<sz h18:=fun e=>ownx.lt e
       refine ⟨(ownx.congr fun b hbb hb _=>Zo u22 hb fun e=>by have:=blt e;have:=l1 hbb;omega).base (by omega),fun b hb e=>?_⟩
       have h5:=l1 hb
       rcases b22 with e2 | ⟨c,e2,e3⟩
       ·have:=blt (e2▸e)
        omega
       ·rw [e] at e2;cases e2;omega
    refine Zm rfl ?_
    rw [Yt (by omega) (by omega)]
    refine ⟨⟨i+1,fs++[(x,f)],rfl,by omega,?_,by simp [hfl],?_,e022,inn22⟩,by omega⟩
    ·rw [Ayy];exact nO f hr
    ·rw [Azv,Azw];exact o22
   ·exact Zn (by simp;omega) (ZeU er22 (Za (Za (bad i e h22 (nE e hr) hn e022))))
  ·have:i=sub.len:=by omega
   subst this
   rw [Awd (by rw [JL.list_len];omega)] at hE
   exact Za (Za (ok out fs h3 hE own (fun p hp=>(inn p hp).1) e03))
end Go.Proofs.YtpjbjdheeemdiaaGreatDoor
namespace Go.Js
open Go
theorem ZpJ {l:List BL}:Zgj l=false↔l.Nodup:=by
  induction l with
  | nil=>simp [Zgj]
  | cons a l ih=>simp [Zgj,Azr,ih]
end Go.Js
namespace Go.Proofs.YtpjbjdheeemdiaaGreatDoor
open Go Go.Fw Go.Js
section
variable {h:Zc}
theorem XF {n lo hi:Int} {K:Bool->HP} (hk:K (decide (lo<=n)&&decide (n<=hi)) h):ZM n lo hi K h:=by
  unfold ZM ZfX
  refine Zt (fun h1=>Zh ?_) fun h1=>?_
  ·rw [decide_eq_true (p:=lo<=n) (by omega),Aqa] at hk;exact hk
  ·rw [decide_eq_false (p:=lo<=n) (by omega),Aqb] at hk;exact hk
theorem Zzi {l:BL} {k:Nat} (hk:k<=l.length):Zjt (Zk l) k (l.drop k):=by
  have:Zjt (Zk l) 0 l:=⟨rfl,by rw [Zfi];omega⟩
  have:=this.dropK hk
  rwa [Awb] at this
theorem ZlA {l:BL} (hl:l.length<9223372036854775807) {K:Bool->HP} (hk:K (ZbO l) h):Za5 (Zk l) K h:=by
  unfold Za5 Zf1
  have hs:(Zk l).size=l.length:=rfl
  refine Zv (fun p h'=>h'=h/\∃ i:Nat,p.1=i/\i<=l.length/\(l.take i).all ZCX=true) (fun p _=>l.length - p.1.toNat) ⟨rfl,0,rfl,Ayk _,rfl⟩ ?_
  rintro ⟨i_,u⟩ h2 ⟨rfl,i,hi,hil,ha⟩
  dsimp only at hi ⊢
  subst hi
  refine Zt (fun hlt=>Za ?_) fun hge=>?_
  ·have hia:i<l.length:=by omega
   have hr:Zjt (Zk l) i (l[i]::l.drop (i+1)):=by
     have:=Zzi (l:=l) (k:=i) (by omega)
     rwa [Ayl hia] at this
   refine ⟨l[i],by omega,by rw [Aqu];exact hr.head,XF ?_⟩
   have hb:=l[i].toNat_lt
   rw [Yt (by omega) (by omega)]
   have e:(decide ((33:Int)<=(l[i].toNat:Int))&&decide ((l[i].toNat:Int)<=126))=ZCX l[i]:=by
     unfold ZCX
     congr 1<;>(rw [decide_eq_decide];omega)
   rw [e]
   cases hn:ZCX l[i] with
   | false =>
     refine Zn rfl ?_
     have:ZbO l=false:=by
       unfold ZbO
       have:l.all ZCX=false:=by
         cases hq:l.all ZCX with
         | false=>rfl
         | true=>rw [Axc] at hq;have:=hq _ (Azl hia);rw [hn] at this;cases this
       rw [this];rfl
     rw [this] at hk;exact hk
   | true =>
     refine Zm rfl ?_
     rw [Yt (by omega) (by omega)]
     refine ⟨⟨rfl,i+1,rfl,by omega,?_⟩,by omega⟩
     rw [Ayu,Ayb hia,Azm,ha]
     simp [hn]
  ·rw [Awd (by omega)] at ha
   refine XF (Zh ?_)
   unfold ZbO at hk
   rw [ha,Aqa] at hk
   rw [show (decide ((1:Int)<=((Zk l).size:Int))&&decide (((Zk l).size:Int)<=64))=(decide (1<=l.length)&&decide (l.length<=64)) by
     rw [hs];congr 1<;>(rw [decide_eq_decide];omega)]
   exact hk
theorem ZlB {nms:List BL} {nm:Sl} (hr:Row h nm 1 (nms.map sV)) (hlen:∀ n,n∈nms->n.length<9223372036854775807) {K:Int->HP} (hk:∀ n:Int,(0<=n↔nms.all ZbO=false)->K n h):ZH nm K h:=by
  unfold ZH Yq
  have hnl:=ZaQ hr
  have big:=hr.big
  have cap:=hr.cap
  refine Za (Zv (fun p h'=>h'=h/\∃ i:Nat,p.1=i/\i<=nms.length/\(nms.take i).all ZbO=true) (fun p _=>(nms.length - p.1).toNat) ⟨rfl,0,rfl,Ayk _,rfl⟩ ?_)
  rintro ⟨i_,u⟩ h2 ⟨rfl,i,hi,hil,ha⟩
  dsimp only at hi ⊢
  subst hi
  refine Zt (fun hlt=>Za ?_) fun hge=>Za ?_
  ·have hia:i<nms.length:=by omega
   obtain ⟨t,ht⟩:∃ t,nms[i]?=some t:=⟨nms[i],Ayb hia⟩
   have hm:=Axq ht
   refine ZfV hr ht rfl ?_
   unfold ZaS Zct
   refine ZlA (hlen t hm) (Zh ?_)
   cases hn:ZbO t with
   | false =>
     refine Zn rfl (Za (hk _ ⟨fun _=>?_,fun _=>by omega⟩))
     cases hq:nms.all ZbO with
     | false=>rfl
     | true=>rw [Axc] at hq;have:=hq _ hm;rw [hn] at this;cases this
   | true =>
     refine Zm rfl ?_
     rw [Yt (by omega) (by omega)]
     refine ⟨⟨rfl,i+1,rfl,by omega,?_⟩,by omega⟩
     rw [Ayu,ht,Azm,ha]
     simp [hn]
  ·rw [Awd (by omega)] at ha
   exact hk _ ⟨fun h0=>by omega,fun e=>by rw [ha] at e;cases e⟩
theorem ZtV {res:BL} (hl:res.length<9223372036854775807) {nms:List BL} {nm:Sl} (hr:Row h nm 1 (nms.map sV)) (hlen:∀ n,n∈nms->n.length<9223372036854775807) {K:Bool->HP} (hk:∀ h',Ext h h'->K (ZbO res&&nms.all ZbO) h'):ZaC (Zk res,nm,()) K h:=by
  unfold ZaC Zdj
  refine YX fun h1 c1 e1 z1=>rS (Zb c1 rfl) (ZlA hl ?_)
  cases hn:ZbO res with
  | false=>rw [hn] at hk;exact Zm rfl (hk h1 e1)
  | true =>
    rw [hn] at hk
    refine Zn rfl (rL (s:=nm) (Zb c1 rfl) ?_)
    unfold ZR Ym
    refine ZlB (hr.ext e1) hlen fun n hn=>Zh (Zh ?_)
    have:=hk h1 e1
    rw [Aqa] at this
    cases hq:nms.all ZbO with
    | true =>
      rw [hq] at this hn
      rw [show decide (n>=0)=false by simp only [decide_eq_false_iff_not];intro h;have:=hn.1 h;cases this]
      exact this
    | false =>
      rw [hq] at this hn
      rw [show decide (n>=0)=true by simp only [decide_eq_true_eq];exact hn.2 rfl]
      exact this
theorem Zje {b:Bool} {n lo hi:Int} {K:Bool->HP} (hk:K (ZcX b n lo hi) h):ZaT b n lo hi K h:=by
  unfold ZaT ZhI
  cases b with
  | false =>
    have:ZcX false n lo hi=(n ==0):=by unfold ZcX;rw [if_neg Bool.false_ne_true];rfl
    rw [this] at hk
    exact Zm rfl (Zn rfl (Zh hk))
  | true =>
    have:ZcX true n lo hi=inB n lo hi:=if_pos rfl
    rw [this] at hk
    refine Zn rfl (XF ?_)
    show Zz (inB n lo hi) _ _
    cases hq:inB n lo hi with
    | true=>rw [hq] at hk;exact Zn rfl hk
    | false=>rw [hq] at hk;exact Zm rfl (Zm rfl hk)
theorem ZmF {ws:List BL} {x:Sl} (hr:Row h x 1 (ws.map sV)) {K:Bool->HP} (hk:K (Zgj ws) h):ZbD x K h:=by
  unfold ZbD ZgP
  have hnl:=ZaQ hr
  have big:=hr.big
  have cap:=hr.cap
  refine Zv (fun p h'=>h'=h/\∃ i:Nat,p.1=i/\i<=ws.length/\(ws.take i).Nodup) (fun p _=>(ws.length - p.1).toNat) ⟨rfl,0,rfl,Ayk _,by simp⟩ ?_
  rintro ⟨i_,u⟩ h2 ⟨rfl,i,hi,hil,ha⟩
  dsimp only at hi ⊢
  subst hi
  refine Zt (fun hlt=>?_) fun hge=>?_
  ·have hia:i<ws.length:=by omega
   obtain ⟨t,ht⟩:∃ t,ws[i]?=some t:=⟨ws[i],Ayb hia⟩
   refine ZfV hr ht rfl (Za (hr.slc (a:=0) (b:=i) (m:=x.cap) rfl rfl rfl (by omega) (by omega) (by omega) (Aqo _) fun s' rs' _ _ _=>?_))
   have rs2:Row h2 s' 1 ((ws.take i).map sV):=by simpa [List.map_take] using rs'
   refine ZlV rs2 ?_
   have ht1:ws.take (i+1)=ws.take i++[t]:=by rw [Ayu,ht];rfl
   by_cases hm:t∈ws.take i
   ·rw [decide_eq_true hm]
    have:Zgj ws=true:=by
      cases hq:Zgj ws with
      | true=>rfl
      | false =>
        have nd:=(List.take_sublist (i+1) ws).nodup (ZpJ.1 hq)
        rw [ht1,List.nodup_append] at nd
        exact absurd rfl (nd.2.2 t hm t (by simp))
    rw [this] at hk
    exact Zn rfl hk
   ·rw [decide_eq_false hm]
    refine Zm rfl ?_
    rw [Yt (by omega) (by omega)]
    refine ⟨⟨rfl,i+1,rfl,by omega,?_⟩,by omega⟩
    rw [ht1,List.nodup_append]
    exact ⟨ha,by simp,fun a h1 b h2 e=>hm (by simp at h2;rw [<- h2,<- e];exact h1)⟩
  ·rw [Awd (by omega)] at ha
   rw [ZpJ.2 ha] at hk
   exact hk
def Zqw (cl:Value) (K:Bool->HP) (h:Zc):Prop :=
  (exG cl (fun c:Option Addr × Option Addr × Unit=> .func (.func 275) #[] ⟨[.pointer c.1,.pointer c.2.1]⟩) fun c=>Zc8 c.1 c.2.1 K h)\/(
  (exG cl (fun c:Option Addr × Unit=> .func (.func 277) #[] ⟨[.pointer c.1]⟩) fun c=>Zc7 c.1 K h)\/(
  (exG cl (fun c:Option Addr × Unit=> .func (.func 278) #[] ⟨[.pointer c.1]⟩) fun c=>Zc6 c.1 K h)\/(
  (exG cl (fun c:Option Addr × Unit=> .func (.func 279) #[] ⟨[.pointer c.1]⟩) fun c=>Zc5 c.1 K h)\/(
  (exG cl (fun c:Option Addr × Option Addr × Option Addr × Unit=> .func (.func 280) #[] ⟨[.pointer c.1,.pointer c.2.1,.pointer c.2.2.1]⟩) fun c=>Zc4 c.1 c.2.1 c.2.2.1 K h)\/(
  (exG cl (fun c:Option Addr × Unit=> .func (.func 282) #[] ⟨[.pointer c.1]⟩) fun c=>Zc3 c.1 K h)\/(
  (exG cl (fun c:Option Addr × Unit=> .func (.func 283) #[] ⟨[.pointer c.1]⟩) fun c=>Zc2 c.1 K h)\/(
  (exG cl (fun c:Option Addr × Option Addr × Unit=> .func (.func 284) #[] ⟨[.pointer c.1,.pointer c.2.1]⟩) fun c=>Zcn c.1 c.2.1 K h)\/(
  (exG cl (fun c:Option Addr × Unit=> .func (.func 285) #[] ⟨[.pointer c.1]⟩) fun c=>Zcm c.1 K h)\/(
  (exG cl (fun c:Option Addr × Unit=> .func (.func 286) #[] ⟨[.pointer c.1]⟩) fun c=>Zcl c.1 K h)\/(
  (exG cl (fun c:Option Addr × Unit=> .func (.func 287) #[] ⟨[.pointer c.1]⟩) fun c=>Zck c.1 K h)\/(
  (exG cl (fun c:Option Addr × Unit=> .func (.func 288) #[] ⟨[.pointer c.1]⟩) fun c=>ZdK c.1 K h)\/(
  (exG cl (fun c:Option Addr × Option Addr × Unit=> .func (.func 289) #[] ⟨[.pointer c.1,.pointer c.2.1]⟩) fun c=>ZdJ c.1 c.2.1 K h)\/(
  (exG cl (fun c:Option Addr × Unit=> .func (.func 291) #[] ⟨[.pointer c.1]⟩) fun c=>ZdI c.1 K h)\/(
  (exG cl (fun c:Option Addr × Unit=> .func (.func 294) #[] ⟨[.pointer c.1]⟩) fun c=>Zc1 c.1 K h)\/False))))))))))))))
theorem Zmz {vs:List Value} {x:Sl} (hr:Row h x 1 vs) {i:Nat} {v:Value} (hv:vs[i]?=some v) {n:Int} (hn:n=i) {K:Value->Prop} (hk:K v):ZcM x.ptr x.len n 1 fun b o=>ldV h b o K :=
  Row.idx hr hn hv fun b o _ hc=>⟨_,hc,hk⟩
theorem Zok {res:BL} (hl:res.length<9223372036854775807) {nms:List BL} {nm:Sl} (hr:Row h nm 1 (nms.map sV)) (hlen:∀ n,n∈nms->n.length<9223372036854775807) {e:Nat} {er:Int} (he:er=e) {all:Sl} {cls:List (Value × Bool)} (ha:Row h all 1 (cls.map (·.1)))
    (hc:∀ p,p∈cls->∀ {h':Zc} {K:Bool->HP},Ext h h'->(∀ h'',Ext h' h''->K p.2 h'')->Zqw p.1 K h') {K:Int->HP}
    (hk:∀ h' (n:Nat),n=(if ZbO res&&nms.all ZbO then (if cls.all (·.2) then 0 else e) else 10)->Ext h h'->K n h'):Xe (Zk res,nm,er,()) all K h:=by
  subst he
  unfold Xe Zfq
  have halen:all.len=cls.length:=by have:=ha.len;simp at this;omega
  have big:=ha.big
  have cap:=ha.cap
  refine YX fun h1 c1 e1 z1=>Za (rS (Zb c1 rfl) (rL (s:=nm) (Zb c1 rfl) (ZtV hl (hr.ext e1) hlen fun h2 e2=>?_)))
  have c2:=Zl c1 e2
  have e02:=e1.trans e2
  cases hn:(ZbO res&&nms.all ZbO) with
  | false=>exact Zn rfl (Za (hk h2 10 (by rw [hn];rfl) e02))
  | true =>
    refine Zm rfl (Zv (fun p h'=>Ext h2 h'/\∃ i:Nat,p.1=i/\i<=cls.length/\(cls.take i).all (·.2)=true) (fun p _=>(cls.length - p.1).toNat) ⟨Ext.refl _,0,rfl,Ayk _,rfl⟩ ?_)
    rintro ⟨i_,u⟩ h3 ⟨e23,i,hi,hil,hq⟩
    dsimp only at hi ⊢
    subst hi
    refine Zt (fun hlt=>?_) fun hge=>Za ?_
    ·have hia:i<cls.length:=by omega
     obtain ⟨p,hp⟩:∃ p,cls[i]?=some p:=⟨cls[i],Ayb hia⟩
     have e03:=e02.trans e23
     refine Zmz (ha.ext e03) (v:=p.1) (by rw [Awz,hp];rfl) rfl ?_
     refine hc p (Axq hp) (h':=h3) (K:=_) e03 fun h4 e34=>?_
     have c4:=Zl c2 (e23.trans e34)
     cases hb:p.2 with
     | false =>
       refine Zn rfl (rI (Zb c4 rfl) (Za (hk h4 e ?_ (e03.trans e34))))
       rw [hn,if_pos rfl,if_neg]
       intro hall
       rw [Axc] at hall
       have:=hall p (Axq hp)
       rw [hb] at this
       cases this
     | true =>
       refine Zm rfl ?_
       rw [Yt (by omega) (by omega)]
       refine ⟨⟨e23.trans e34,i+1,rfl,by omega,?_⟩,by omega⟩
       rw [Ayu,hp,Azm,hq]
       simp [hb]
    ·rw [Awd (by omega)] at hq
     exact hk h3 0 (by rw [hn,if_pos rfl,if_pos hq]) (e02.trans e23)
end
end Go.Proofs.YtpjbjdheeemdiaaGreatDoor
namespace Go.Proofs.YtpjbjdheeemdiaaGreatDoor
open Go Go.Fw Go.Js
section
variable {h:Zc}
theorem Zub {K:Bool->HP} {b r:Bool} (hk:K b h) (e:r=b):K r h:=e▸hk
theorem ZtU (n m:Nat):((n:Int) ==(m:Int))=decide (n=m):=by
  rw [Azx,beq_iff_eq,decide_eq_true_eq];omega
theorem ZL4 {f:FlowP} {T:TypeId} {b c:Nat} {lo:Int} (cb:obj h b=some (.cells (Zdx f).toArray T (0,0))) (cc:Box h c (i64 lo)) {K:Bool->HP} (hk:K (inB f.cnt lo 1099511627776) h):Zqw (.func (.func 275) #[] #[.pointer (At b),.pointer (At c)]) K h:=by
  obtain ⟨T2,cc⟩:=cc
  refine .inl ⟨(At b,At c,()),rfl,?_⟩
  unfold Zc8 Zf8
  exact Zu (rI (Zb cb rfl) (Zu (rI (Zb cc rfl) (XF (Zh hk)))))
theorem ZL3 {f:FlowP} {T:TypeId} {b:Nat} (cb:obj h b=some (.cells (Zdx f).toArray T (0,0))) {K:Bool->HP} (hk:K (decide (f.strat<=2)&&decide (f.shape<=3)) h):Zqw (.func (.func 277) #[] #[.pointer (At b)]) K h:=by
  refine .inr (.inl ⟨(At b,()),rfl,?_⟩)
  unfold Zc7 Zf7
  refine Zu (rI (Zb cb rfl) (Zt (fun h1=>Zu (rI (Zb cb rfl) (Zh (Zub hk ?_)))) fun h1=>Zub hk ?_))
  ·rw [decide_eq_true (p:=f.strat<=2) (by omega),Aqa,decide_eq_decide]
   omega
  ·rw [decide_eq_false (p:=f.strat<=2) (by omega),Aqb]
theorem ZL2 {f:FlowP} {T:TypeId} {b:Nat} (cb:obj h b=some (.cells (Zdx f).toArray T (0,0))) {K:Bool->HP} (hk:K (!decide (f.strat=0)||decide (f.ref=[])) h):Zqw (.func (.func 278) #[] #[.pointer (At b)]) K h:=by
  refine .inr (.inr (.inl ⟨(At b,()),rfl,?_⟩))
  unfold Zc6 Zf6
  refine Zu (rI (Zb cb rfl) (Zax (fun h1=>Zub hk ?_) fun h1=>Zu (rS (Zb cb rfl) (Zh (Zub hk ?_)))))
  ·rw [decide_eq_false (p:=f.strat=0) (by omega)]
   rfl
  ·rw [decide_eq_true (p:=f.strat=0) (by omega)]
   exact Zag f.ref []
theorem ZL1 {f:FlowP} {T:TypeId} {b:Nat} (cb:obj h b=some (.cells (Zdx f).toArray T (0,0))) {K:Bool->HP} (hk:K (!f.thr||decide (f.shape=0) && !f.clu) h):Zqw (.func (.func 279) #[] #[.pointer (At b)]) K h:=by
  refine .inr (.inr (.inr (.inl ⟨(At b,()),rfl,?_⟩)))
  unfold Zc5 Zf5
  refine Zu (rBl (Zb cb rfl) ?_)
  cases ht:f.thr with
  | false=>rw [ht] at hk;exact Zn rfl hk
  | true =>
    rw [ht] at hk
    refine Zm rfl (Zu (rI (Zb cb rfl) (ZaX (fun h1=>Zu (rBl (Zb cb rfl) (Zh (Zub hk ?_)))) fun h1=>Zub hk ?_)))
    ·rw [decide_eq_true (p:=f.shape=0) (by omega)];simp
    ·rw [decide_eq_false (p:=f.shape=0) (by omega)];simp
theorem ZL0 {f:FlowP} {T:TypeId} {b w p:Nat} {wm pc:Bool} (cb:obj h b=some (.cells (Zdx f).toArray T (0,0))) (cw:Box h w (.bool wm)) (cp:Box h p (.bool pc)) {K:Bool->HP} (hk:K (ZcX wm f.warm 1 3600&&ZcX pc f.queue 0 3600000000) h) :
    Zqw (.func (.func 280) #[] #[.pointer (At w),.pointer (At b),.pointer (At p)]) K h:=by
  obtain ⟨T1,cw⟩:=cw
  obtain ⟨T2,cp⟩:=cp
  refine .inr (.inr (.inr (.inr (.inl ⟨(At w,At b,At p,()),rfl,?_⟩))))
  unfold Zc4 Zf4
  refine Zu (rBl (Zb cw rfl) (Zu (rI (Zb cb rfl) (Zje ?_))))
  cases ho:ZcX wm f.warm 1 3600 with
  | false=>rw [ho] at hk;exact Zm rfl hk
  | true=>rw [ho] at hk;exact Zn rfl (Zu (rBl (Zb cp rfl) (Zu (rI (Zb cb rfl) (Zje (Zh hk))))))
theorem ZLZ {f:FlowP} {T:TypeId} {b:Nat} (cb:obj h b=some (.cells (Zdx f).toArray T (0,0))) {K:Bool->HP} (hk:K (!f.clu||decide (f.strat=0)&&decide (f.shape=0)) h):Zqw (.func (.func 282) #[] #[.pointer (At b)]) K h:=by
  refine .inr (.inr (.inr (.inr (.inr (.inl ⟨(At b,()),rfl,?_⟩)))))
  unfold Zc3 Zf3
  refine Zu (rBl (Zb cb rfl) ?_)
  cases ht:f.clu with
  | false=>rw [ht] at hk;exact Zn rfl hk
  | true =>
    rw [ht] at hk
    refine Zm rfl (Zu (rI (Zb cb rfl) (ZaX (fun h1=>Zu (rI (Zb cb rfl) (Zh (Zub hk ?_)))) fun h1=>Zub hk ?_)))
    ·rw [decide_eq_true (p:=f.strat=0) (by omega)]
     exact ZtU f.shape 0
    ·rw [decide_eq_false (p:=f.strat=0) (by omega)];rfl
theorem ZLY {f:FlowP} {T:TypeId} {b:Nat} (cb:obj h b=some (.cells (Zdx f).toArray T (0,0))) {K:Bool->HP} (hk:K (ZcX f.clu f.id 1 1099511627776&&(f.clu || !f.fb)) h):Zqw (.func (.func 283) #[] #[.pointer (At b)]) K h:=by
  refine .inr (.inr (.inr (.inr (.inr (.inr (.inl ⟨(At b,()),rfl,?_⟩))))))
  unfold Zc2 Zf2
  refine Zu (rBl (Zb cb rfl) (Zu (rI (Zb cb rfl) (Zje ?_))))
  cases ho:ZcX f.clu f.id 1 1099511627776 with
  | false=>rw [ho] at hk;exact Zm rfl hk
  | true =>
    rw [ho] at hk
    refine Zn rfl (Zu (rBl (Zb cb rfl) ?_))
    cases hc:f.clu with
    | true=>rw [hc] at hk;exact Zn rfl hk
    | false=>rw [hc] at hk;exact Zm rfl (Zu (rBl (Zb cb rfl) (Zh hk)))
theorem Zyd {b:Nat} {v0 v:Value} (cb:Box h b v0) (hv:Yc v=true) {K:HP} (hk:∀ h',Box h' b v->Upd (· = b) h h'->sz h'=sz h->K h'):st h b 0 v K:=by
  obtain ⟨T,cb⟩:=cb
  exact Zjw cb (by show 0<1;omega) hv fun h' c u z=>hk h' ⟨T,c⟩ u z
theorem ZjT {v0 v:Value} {T:TypeId} (hv:Yc v=true) {K:Nat->HP} (hk:∀ b h',Ext h h'->Box h' b v->sz h<=b->K b h'):newC h [v0] T fun b h1=>st h1 b 0 v fun h2=>K b h2:=by
  refine YX fun h1 c1 e1 z1=>Zjw c1 (by show 0<1;omega) hv fun h2 c2 u2 z2=>?_
  exact hk _ h2 (e1.updS u2 fun j hj=>by subst hj;exact Aqo _) ⟨_,c2⟩ (Aqo _)
def FlowP.nms (f:FlowP):List BL:=if f.strat=1\/f.strat=2 then [f.org,f.ref] else [f.org]
theorem ZxP {f:FlowP} {bs:List Bool} (h:bs=[inB f.cnt (if f.shape=0 then 0 else 1) 1099511627776,decide (f.strat<=2)&&decide (f.shape<=3),!decide (f.strat=0)||decide (f.ref=[]),!f.thr||decide (f.shape=0) && !f.clu,
    ZcX (decide (f.shape=1)||decide (f.shape=3)) f.warm 1 3600&&ZcX (decide (f.shape=2)||decide (f.shape=3)) f.queue 0 3600000000,!f.clu||decide (f.strat=0)&&decide (f.shape=0),ZcX f.clu f.id 1 1099511627776&&(f.clu || !f.fb)]):bs.all id=f.good:=by
  subst h
  simp only [Awm,Azy,id,Ayr,FlowP.good]
  simp only [Aze]
theorem Zt8 {f:FlowP}:(ZbO f.res&&(Go.Proofs.YtpjbjdheeemdiaaGreatDoor.FlowP.nms f).all ZbO)=f.names:=by
  unfold FlowP.nms FlowP.names
  by_cases hq:f.strat=1\/f.strat=2
  ·rw [if_pos hq,if_pos hq];simp [Aze]
  ·rw [if_neg hq,if_neg hq];simp
theorem Zp7 {f:FlowP} (hl:f.res.length<9223372036854775807/\f.org.length<9223372036854775807/\f.ref.length<9223372036854775807) {K:Int->HP} (hk:∀ h',Ext h h'->K f.err h'):Zeu (ZzT f) K h:=by
  unfold Zeu ZhK
  refine YX fun h1 c1 e1 z1=>Za ?_
  have cb:obj h1 h.size=some (.cells (Zdx f).toArray 75 (0,0)):=c1
  have s0:sz h=h.size:=rfl
  refine rS (Zb cb rfl) (YX fun h4 c4 e4 z4=>?_)
  have s1:sz h1=h1.size:=rfl
  have s4:sz h4=h4.size:=rfl
  have cb4:=Zl cb e4
  refine Z0 (fun p h'=>Ext h1 h'/\Row h' p.1 1 ((Go.Proofs.YtpjbjdheeemdiaaGreatDoor.FlowP.nms f).map sV)) ?_ ?_
  ·rintro ⟨nm,u⟩ h19 ⟨e19,rn⟩
   dsimp only at rn ⊢
   have cb19:=Zl cb e19
   refine Z0 (fun p h'=>Ext h19 h'/\∃ b,p.1=At b/\Box h' b (.bool (decide (f.shape=1)||decide (f.shape=3)))) ?_ ?_
   ·rintro ⟨wp,u⟩ h30 ⟨e30,w,rfl,bw⟩
    have cb30:=Zl cb19 e30
    refine Z0 (fun p h'=>Ext h30 h'/\∃ b,p.1=At b/\Box h' b (.bool (decide (f.shape=2)||decide (f.shape=3)))) ?_ ?_
    ·rintro ⟨pp,u⟩ h41 ⟨e41,pb,rfl,bp⟩
     have cb41:=Zl cb30 e41
     refine ZjT rfl fun lb h44 e44 bl lbs=>?_
     have cb44:=Zl cb41 e44
     have e1_44:Ext h1 h44:=e19.trans (e30.trans (e41.trans e44))
     have hlt:h.size<sz h41:=by have:=(e19.trans (e30.trans e41)).size;have:sz h41=h41.size:=rfl;omega
     refine Z0 (fun _ h'=>Ext h h'/\obj h' h.size=some (.cells (Zdx f).toArray 75 (0,0))/\Box h' lb (i64 (if f.shape=0 then 0 else 1))/\Row h' nm 1 ((Go.Proofs.YtpjbjdheeemdiaaGreatDoor.FlowP.nms f).map sV)/\Box h' w (.bool (decide (f.shape=1)||decide (f.shape=3)))/\Box h' pb (.bool (decide (f.shape=2)||decide (f.shape=3)))) ?_ ?_
     ·rintro ⟨⟩ h49 ⟨e49,cb49,bl49,rn49,bw49,bp49⟩
      refine rS (Zb cb49 rfl) (YX fun h52 c52 e52 z52=>?_)
      refine Zok (cls:=[(.func (.func 275) #[] #[.pointer (At h.size),.pointer (At lb)],inB f.cnt (if f.shape=0 then 0 else 1) 1099511627776),(.func (.func 277) #[] #[.pointer (At h.size)],decide (f.strat<=2)&&decide (f.shape<=3)),
        (.func (.func 278) #[] #[.pointer (At h.size)],!decide (f.strat=0)||decide (f.ref=[])),(.func (.func 279) #[] #[.pointer (At h.size)],!f.thr||decide (f.shape=0) && !f.clu),
        (.func (.func 280) #[] #[.pointer (At w),.pointer (At h.size),.pointer (At pb)],ZcX (decide (f.shape=1)||decide (f.shape=3)) f.warm 1 3600&&ZcX (decide (f.shape=2)||decide (f.shape=3)) f.queue 0 3600000000),
        (.func (.func 282) #[] #[.pointer (At h.size)],!f.clu||decide (f.strat=0)&&decide (f.shape=0)),(.func (.func 283) #[] #[.pointer (At h.size)],ZcX f.clu f.id 1 1099511627776&&(f.clu || !f.fb))])
        hl.1 (rn49.ext e52) (fun n hn=>?_) (e:=30) rfl ⟨rfl,Aqo _,by show 7<_;omega,.inr ⟨_,0,rfl,ZdR c52 fun i v hi=>by simpa using hi⟩⟩ (fun p hp h' K' e' k'=>?_) fun h' n hn e'=>Za ?_
      ·unfold FlowP.nms at hn
       split at hn<;>simp at hn
       ·rcases hn with rfl | rfl
        ·exact hl.2.1
        ·exact hl.2.2
       ·subst hn;exact hl.2.1
      ·have e0:=e52.trans e'
       have c:=Zl cb49 e0
       have k0:=k' h' (Ext.refl _)
       simp only [Awr,Azi,or_false] at hp
       rcases hp with rfl | rfl | rfl | rfl | rfl | rfl | rfl
       ·exact ZL4 c (bl49.ext e0) k0
       ·exact ZL3 c k0
       ·exact ZL2 c k0
       ·exact ZL1 c k0
       ·exact ZL0 c (bw49.ext e0) (bp49.ext e0) k0
       ·exact ZLZ c k0
       ·exact ZLY c k0
      ·have:n=f.err:=by
         rw [hn,Zt8]
         unfold FlowP.err
         rw [<- ZxP rfl]
         rfl
       subst this
       exact hk h' (e49.trans (e52.trans e'))
     ·have e044:Ext h h44:=e1.trans e1_44
      have rn44:=(rn.ext (e30.trans (e41.trans e44)))
      refine rI (Zb cb44 rfl) (ZaX (fun h1=>Zyd bl rfl fun h47 bl47 u47 z47=>?_) fun h1=>?_)
      ·have hne:h.size≠lb:=by omega
       refine ⟨e044.updS u47 fun j hj=>by subst hj;omega,ZB cb44 u47 hne,by rw [if_pos (by omega)];exact bl47,?_,?_,?_⟩
       ·refine (rn.ext (e30.trans e41)).congr fun b _ _ _ hb=>?_
        show obj h47 b=obj h41 b
        have s41:sz h41=h41.size:=rfl
        have s44:sz h44=h44.size:=rfl
        rw [Zo u47 (show b<sz h44 by have:=e44.size;omega) (by omega)]
        exact Zq e44 hb
       ·have:=(bw.ext e41).lt
        exact ((bw.ext e41).ext e44).upd u47 (by omega)
       ·have:=bp.lt
        exact (bp.ext e44).upd u47 (by omega)
      ·exact ⟨e044,cb44,by rw [if_neg (by omega)];exact bl,rn44,(bw.ext e41).ext e44,bp.ext e44⟩
    ·refine rI (Zb cb30 rfl) (ZaX (fun h1=>ZjT rfl fun b h' e' bb _=>⟨e',b,rfl,?_⟩) fun h1=>rI (Zb cb30 rfl) (ZjT rfl fun b h' e' bb _=>⟨e',b,rfl,?_⟩))
     ·rw [decide_eq_true (p:=f.shape=2) (by omega),Bool.true_or];exact bb
     ·rw [decide_eq_false (p:=f.shape=2) (by omega),Bool.false_or,<- ZtU];exact bb
   ·refine rI (Zb cb19 rfl) (ZaX (fun h1=>ZjT rfl fun b h' e' bb _=>⟨e',b,rfl,?_⟩) fun h1=>rI (Zb cb19 rfl) (ZjT rfl fun b h' e' bb _=>⟨e',b,rfl,?_⟩))
    ·rw [decide_eq_true (p:=f.shape=1) (by omega),Bool.true_or];exact bb
    ·rw [decide_eq_false (p:=f.shape=1) (by omega),Bool.false_or,<- ZtU];exact bb
  ·have own4:Own h4 h1.size ⟨some ⟨h1.size,0,none⟩,1,1⟩ 1 [sV f.org]:=⟨rfl,Aqo _,by show 1<_;omega,.inr ⟨_,_,_,rfl,Aqo _,c4,rfl,rfl⟩⟩
   have push:∀ {K':Sl->HP},(f.strat=1\/f.strat=2)->(∀ s' h',Ext h1 h'->Row h' s' 1 ((Go.Proofs.YtpjbjdheeemdiaaGreatDoor.FlowP.nms f).map sV)->K' s' h')->newC h4 [.string (Zk f.ref)] 9 fun b8 h9=>rdS ⟨some ⟨b8,0,none⟩,1,1⟩ 1 h9 fun new=>app 9 1 16 [.string (ByteArray.mk #[])] ⟨some ⟨h1.size,0,none⟩,1,1⟩ 1 new h9 K':=by
     intro K' hs k
     refine Zcb (cells:=[sV f.ref]) own4 rfl rfl rfl (show (1+1)*16<=140737488355328 by decide) (show 1+1<=140737488355328 by decide) (show h1.size<=sz h4 by omega) fun s' h' o u _=>k s' h' (e4.updS u fun j hj=>?_) ?_
     ·have:h1.size=j:=by simpa [Sl.blk] using hj
      omega
     ·unfold FlowP.nms
      rw [if_pos hs]
      exact o.row
   refine rI (Zb cb4 rfl) (ZaX (fun h1'=>rS (Zb cb4 rfl) (push (.inl (by omega)) fun s' h' e r=>⟨e,r⟩)) fun h1'=>rI (Zb cb4 rfl) (ZaX (fun h2'=>rS (Zb cb4 rfl) (push (.inr (by omega)) fun s' h' e r=>⟨e,r⟩)) fun h2'=>⟨e4,?_⟩))
   unfold FlowP.nms
   rw [if_neg (by omega)]
   exact own4.row
end
section
variable {h:Zc}
theorem ZoH {cls:List Value} {T:TypeId} {b n:Nat} (c:obj h b=some (.cells cls.toArray T (0,0))) (hn:cls.length=n) (hl:n<9223372036854775808):Row h ⟨some ⟨b,0,none⟩,n,n⟩ 1 cls :=
  ⟨by simp [hn],Aqo _,hl,.inr ⟨_,0,rfl,ZdR c fun i v hi=>by simpa using hi⟩⟩
theorem ZFG {f:YJ} {T:TypeId} {b c:Nat} {hi:Int} (cb:obj h b=some (.cells (Zcc f).toArray T (0,0))) (cc:Box h c (i64 hi)) {K:Bool->HP} (hk:K (decide (f.grade<=2)&&inB f.cnt 0 hi) h):Zqw (.func (.func 284) #[] #[.pointer (At b),.pointer (At c)]) K h:=by
  obtain ⟨T2,cc⟩:=cc
  refine .inr (.inr (.inr (.inr (.inr (.inr (.inr (.inl ⟨(At b,At c,()),rfl,?_⟩)))))))
  unfold Zcn Zfv
  refine Zu (rI (Zb cb rfl) (Zt (fun h1=>Zu (rI (Zb cb rfl) (Zu (rI (Zb cc rfl) (XF (Zh (Zub hk ?_))))))) fun h1=>Zub hk ?_))
  ·rw [decide_eq_true (p:=f.grade<=2) (by omega),Aqa];rfl
  ·rw [decide_eq_false (p:=f.grade<=2) (by omega),Aqb]
theorem ZFF {f:YJ} {T:TypeId} {b:Nat} (cb:obj h b=some (.cells (Zcc f).toArray T (0,0))) {K:Bool->HP} (hk:K (ZcX (decide (f.grade=0)) f.slow 1 3600000000) h):Zqw (.func (.func 285) #[] #[.pointer (At b)]) K h:=by
  refine .inr (.inr (.inr (.inr (.inr (.inr (.inr (.inr (.inl ⟨(At b,()),rfl,?_⟩))))))))
  unfold Zcm Zfu
  refine Zu (rI (Zb cb rfl) (Zu (rI (Zb cb rfl) (Zje (Zh (Zub hk ?_))))))
  rw [<- ZtU f.grade 0]
  rfl
theorem ZFE {f:YJ} {T:TypeId} {b:Nat} (cb:obj h b=some (.cells (Zcc f).toArray T (0,0))) {K:Bool->HP} (hk:K (inB f.least 1 1099511627776&&inB f.window 1000000 120000000) h):Zqw (.func (.func 286) #[] #[.pointer (At b)]) K h:=by
  refine .inr (.inr (.inr (.inr (.inr (.inr (.inr (.inr (.inr (.inl ⟨(At b,()),rfl,?_⟩)))))))))
  unfold Zcl Zft
  refine Zu (rI (Zb cb rfl) (XF ?_))
  show Zz (inB f.least 1 1099511627776) _ _
  cases ho:inB f.least 1 1099511627776 with
  | false=>rw [ho] at hk;exact Zm rfl hk
  | true=>rw [ho] at hk;exact Zn rfl (Zu (rI (Zb cb rfl) (XF (Zh hk))))
theorem ZFD {f:YJ} {T:TypeId} {b:Nat} (cb:obj h b=some (.cells (Zcc f).toArray T (0,0))) {K:Bool->HP} (hk:K (inB f.recover 1000000 3600000000) h):Zqw (.func (.func 287) #[] #[.pointer (At b)]) K h:=by
  refine .inr (.inr (.inr (.inr (.inr (.inr (.inr (.inr (.inr (.inr (.inl ⟨(At b,()),rfl,?_⟩))))))))))
  unfold Zck Zfs
  exact Zu (rI (Zb cb rfl) (XF (Zh hk)))
theorem ZoL {f:YJ} (hl:f.res.length<9223372036854775807) {K:Int->HP} (hk:∀ h',Ext h h'->K f.err h'):ZdL (Zs7 f) K h:=by
  unfold ZdL ZgU
  refine YX fun h1 c1 e1 z1=>Za ?_
  have cb:obj h1 h.size=some (.cells (Zcc f).toArray 80 (0,0)):=c1
  have s0:sz h=h.size:=rfl
  have s1:sz h1=h1.size:=rfl
  refine ZjT rfl fun mb h4 e4 bm mbs=>?_
  have cb4:=Zl cb e4
  refine Z0 (fun _ h'=>Ext h h'/\obj h' h.size=some (.cells (Zcc f).toArray 80 (0,0))/\Box h' mb (i64 (if f.grade=2 then 1099511627776 else 1000))) ?_ ?_
  ·rintro ⟨⟩ h8 ⟨e8,cb8,bm8⟩
   refine rS (Zb cb8 rfl) (YX fun h11 c11 e11 z11=>?_)
   refine Zok (cls:=[(.func (.func 284) #[] #[.pointer (At h.size),.pointer (At mb)],decide (f.grade<=2)&&inB f.cnt 0 (if f.grade=2 then 1099511627776 else 1000)),(.func (.func 285) #[] #[.pointer (At h.size)],ZcX (decide (f.grade=0)) f.slow 1 3600000000),
     (.func (.func 286) #[] #[.pointer (At h.size)],inB f.least 1 1099511627776&&inB f.window 1000000 120000000),(.func (.func 287) #[] #[.pointer (At h.size)],inB f.recover 1000000 3600000000)])
     hl (nms:=[]) (Row.nil _ 1) (fun n hn=>by cases hn) (e:=31) rfl (ZoH (n:=4) c11 rfl (by decide)) (fun p hp h' K' e' k'=>?_) fun h' n hn e'=>Za ?_
   ·have e0:=e11.trans e'
    have c:=Zl cb8 e0
    have k0:=k' h' (Ext.refl _)
    simp only [Awr,Azi,or_false] at hp
    rcases hp with rfl | rfl | rfl | rfl
    ·exact ZFG c (bm8.ext e0) k0
    ·exact ZFF c k0
    ·exact ZFE c k0
    ·exact ZFD c k0
   ·have:n=f.err:=by
      rw [hn]
      simp only [Azy,Ayr,Awm,YJ.err,YJ.good,Aze]
    subst this
    exact hk h' (e8.trans (e11.trans e'))
  ·refine rI (Zb cb4 rfl) (ZaX (fun h1=>Zyd bm rfl fun h7 bm7 u7 z7=>?_) fun h1=>?_)
   ·exact ⟨(e1.trans e4).updS u7 fun j hj=>by subst hj;omega,ZB cb4 u7 (by omega),by rw [if_pos (by omega)];exact bm7⟩
   ·exact ⟨e1.trans e4,cb4,by rw [if_neg (by omega)];exact bm⟩
theorem Zma {f:Xi} {K:Int->HP} (hk:∀ h',Ext h h'->K f.err h'):Zc0 (ZnU f) K h:=by
  unfold Zc0 ZfZ
  refine YX fun h1 c1 e1 z1=>Za ?_
  have cb:obj h1 h.size=some (.cells (Zbw f).toArray 91 (0,0)):=c1
  refine rI (Zb cb rfl) (rI (Zb cb rfl) (rI (Zb cb rfl) (rI (Zb cb rfl) (rI (Zb cb rfl) (YX fun h8 c8 e8 z8=>?_)))))
  obtain ⟨ns,hns⟩:∃ ns,ns=[f.qps,f.threads,f.rt,f.load,f.cpu]:=⟨_,rfl⟩
  have hn5:ns.length=5:=by rw [hns];rfl
  have row:Row h8 ⟨some ⟨h1.size,0,none⟩,5,5⟩ 1 (ns.map i64):=by
    rw [hns]
    exact ⟨rfl,Aqo _,by show 5<_;omega,.inr ⟨_,0,rfl,ZdR c8 fun i v hi=>by simpa [i64] using hi⟩⟩
  have hall:ns.all (fun n=>inB n (-1) 1099511627776)=(inB f.qps (-1) 1099511627776&&inB f.threads (-1) 1099511627776&&inB f.rt (-1) 1099511627776&&inB f.load (-1) 1099511627776&&inB f.cpu (-1) 1099511627776):=by
    rw [hns];simp [Aze]
  refine Zv (fun p h'=>h'=h8/\∃ i:Nat,p.1=i/\i<=5/\(ns.take i).all (fun n=>inB n (-1) 1099511627776)=true) (fun p _=>(5 - p.1).toNat) ⟨rfl,0,rfl,Ayk _,rfl⟩ ?_
  rintro ⟨i_,u⟩ h9 ⟨rfl,i,hi,hil,hq⟩
  dsimp only at hi ⊢
  subst hi
  refine Zt (fun hlt=>?_) fun hge=>Za ?_
  ·have hia:i<ns.length:=by omega
   obtain ⟨t,ht⟩:∃ t,ns[i]?=some t:=⟨ns[i],Ayb hia⟩
   refine Row.idx row (i:=(i:Int)) (n:=i) rfl (v:=i64 t) (by rw [Awz,ht];rfl) fun b o _ hc=>⟨t,hc,Za (XF ?_)⟩
   show Zz (!inB t (-1) 1099511627776) _ _
   cases hb:inB t (-1) 1099511627776 with
   | false =>
     refine Zn rfl (Za ?_)
     have:f.err=33:=by
       unfold Xi.err
       rw [<- hall,if_neg]
       intro h
       rw [Axc] at h
       have:=h t (Axq ht)
       rw [hb] at this
       cases this
     have k:=hk h9 (e1.trans e8)
     rw [this] at k
     exact k
   | true =>
     refine Zm rfl ?_
     rw [Yt (by omega) (by omega)]
     refine ⟨⟨rfl,i+1,rfl,by omega,?_⟩,by omega⟩
     rw [Ayu,ht,Azm,hq]
     simp [hb]
  ·have:i=5:=by omega
   subst this
   rw [Awd (by omega)] at hq
   have:f.err=0:=by
     unfold Xi.err
     rw [<- hall,if_pos hq]
   have k:=hk h9 (e1.trans e8)
   rw [this] at k
   exact k
theorem ZLV {f:Za2} {x:Sl} {T:TypeId} {b:Nat} (cb:obj h b=some (.cells (ZfF (x,f)).toArray T (0,0))) (hr:Row h x 1 (f.origins.map sV)) {K:Bool->HP} (hk:K (decide (1<=f.origins.length)&&decide (f.origins.length<=32) && !Zgj f.origins) h) :
    Zqw (.func (.func 294) #[] #[.pointer (At b)]) K h:=by
  refine .inr (.inr (.inr (.inr (.inr (.inr (.inr (.inr (.inr (.inr (.inr (.inr (.inr (.inr (.inl ⟨(At b,()),rfl,?_⟩))))))))))))))
  unfold Zc1 Zf0
  have hl:=ZaQ hr
  refine Zu (rL (s:=x) (Zb cb rfl) (XF ?_))
  have e:(decide ((1:Int)<=(x.len:Int))&&decide ((x.len:Int)<=32))=(decide (1<=f.origins.length)&&decide (f.origins.length<=32)):=by
    rw [hl];congr 1<;>(rw [decide_eq_decide];omega)
  rw [e]
  cases ho:(decide (1<=f.origins.length)&&decide (f.origins.length<=32)) with
  | false=>rw [ho] at hk;exact Zm rfl hk
  | true=>rw [ho] at hk;exact Zn rfl (Zu (rL (s:=x) (Zb cb rfl) (ZmF hr (Zh hk))))
theorem ZpP {f:Za2} {x:Sl} (hl:f.res.length<9223372036854775807/\∀ n,n∈f.origins->n.length<9223372036854775807) (hr:Row h x 1 (f.origins.map sV)) {K:Int->HP} (hk:∀ h',Ext h h'->K f.err h'):Zet (Zt1 x f) K h:=by
  unfold Zet ZhJ
  refine YX fun h1 c1 e1 z1=>Za ?_
  have cb:obj h1 h.size=some (.cells (ZfF (x,f)).toArray 95 (0,0)):=c1
  refine rS (Zb cb rfl) (rL (s:=x) (Zb cb rfl) (YX fun h5 c5 e5 z5=>?_))
  refine Zok (cls:=[(.func (.func 294) #[] #[.pointer (At h.size)],decide (1<=f.origins.length)&&decide (f.origins.length<=32) && !Zgj f.origins)])
    hl.1 (nms:=f.origins) (hr.ext (e1.trans e5)) hl.2 (e:=34) rfl (ZoH (n:=1) c5 rfl (by decide)) (fun p hp h' K' e' k'=>?_) fun h' n hn e'=>Za ?_
  ·simp only [Awr,Azi,or_false] at hp
   subst hp
   exact ZLV (Zl cb (e5.trans e')) (hr.ext (e1.trans (e5.trans e'))) (k' h' (Ext.refl _))
  ·have:n=f.err:=by
     rw [hn]
     simp only [Azy,Ayr,Awm,Za2.err]
   subst this
   exact hk h' (e1.trans (e5.trans e'))
theorem Zlz {l:List (BL × Int)}:(Ze0 l).length=l.length*2:=ZeM (f:=fun p:BL × Int=>[sV p.1,.int .i64 p.2]) (n:=2) (fun _=>rfl) l
theorem Zou {l:List (BL × Int)} {x:Sl} (hr:Row h x 2 (Ze0 l)) {i:Nat} {p:BL × Int} (hp:l[i]?=some p) {n:Int} (hn:n=i) {K:ByteArray->Int->Prop} (hk:K (Zk p.1) p.2):ZcM x.ptr x.len n 2 fun b o=>ldS h b o fun t=>ldI h b (o+1) .i64 fun t2=>K t t2:=by
  have hl:=hr.len
  rw [Zlz] at hl
  have hi:=ZxD hp
  rcases hr.at_ with h0 | ⟨b,o,hptr,hh⟩
  ·omega
  ·rw [hptr]
   refine ZlC (n:=i) hn (by omega) ?_
   have g0:h.cell b (o+i*2)=some (sV p.1):=ZhH hh (by have:=ZlK (n:=2) (f:=fun p:BL × Int=>[sV p.1,.int .i64 p.2]) (fun _=>rfl) l i 0 p hp (by decide);simpa [Ze0] using this)
   have g1:h.cell b (o+i*2+1)=some (.int .i64 p.2):=by
     have:=ZhH hh (i:=i*2+1) (by have:=ZlK (n:=2) (f:=fun p:BL × Int=>[sV p.1,.int .i64 p.2]) (fun _=>rfl) l i 1 p hp (by decide);simpa [Ze0] using this)
     rw [<- Aqh] at this
     exact this
   exact ⟨_,g0,_,g1,hk⟩
theorem ZNV {f:ZeP} {x:Sl} {T:TypeId} {b:Nat} (cb:obj h b=some (.cells (Zkw (x,f)).toArray T (0,0))) {K:Bool->HP} (hk:K (inB f.index 0 7&&inB f.cnt 0 1099511627776) h):Zqw (.func (.func 288) #[] #[.pointer (At b)]) K h:=by
  refine .inr (.inr (.inr (.inr (.inr (.inr (.inr (.inr (.inr (.inr (.inr (.inl ⟨(At b,()),rfl,?_⟩)))))))))))
  unfold ZdK ZgT
  refine Zu (rI (Zb cb rfl) (XF ?_))
  show Zz (inB f.index 0 7) _ _
  cases ho:inB f.index 0 7 with
  | false=>rw [ho] at hk;exact Zm rfl hk
  | true=>rw [ho] at hk;exact Zn rfl (Zu (rI (Zb cb rfl) (XF (Zh hk))))
theorem ZNU {f:ZeP} {x y:Sl} {T:TypeId} {b c:Nat} (cb:obj h b=some (.cells (Zkw (x,f)).toArray T (0,0))) (hr:Row h x 2 (Ze0 f.items)) (cc:Box h c (slV y)) (hy:Row h y 1 ((f.items.map (·.1)).map sV)) {K:Bool->HP}
    (hk:K (inB f.secs 1 60&&decide (f.items.length<=32) && !Zgj (f.items.map (·.1))) h):Zqw (.func (.func 289) #[] #[.pointer (At b),.pointer (At c)]) K h:=by
  obtain ⟨T2,cc⟩:=cc
  refine .inr (.inr (.inr (.inr (.inr (.inr (.inr (.inr (.inr (.inr (.inr (.inr (.inl ⟨(At b,At c,()),rfl,?_⟩))))))))))))
  unfold ZdJ ZgS
  have hl:=hr.len
  rw [Zlz] at hl
  refine Zu (rI (Zb cb rfl) (XF ?_))
  show Zz (inB f.secs 1 60) _ _
  cases ho:inB f.secs 1 60 with
  | false=>rw [ho] at hk;exact Zm rfl hk
  | true =>
    rw [ho] at hk
    refine Zn rfl (Zu (rL (s:=x) (Zb cb rfl) (Zt (fun h1=>Zu (rL (s:=y) (Zb cc rfl) (ZmF hy (Zh (Zub hk ?_))))) fun h1=>Zub hk ?_)))
    ·rw [decide_eq_true (p:=f.items.length<=32) (by omega)];rfl
    ·rw [decide_eq_false (p:=f.items.length<=32) (by omega)];rfl
theorem ZNT {f:ZeP} {x:Sl} {T:TypeId} {b:Nat} (cb:obj h b=some (.cells (Zkw (x,f)).toArray T (0,0))) (hr:Row h x 2 (Ze0 f.items)) {K:Bool->HP} (hk:∀ h',Ext h h'->K (f.items.all fun p=>decide (p.1.length<=64)&&inB p.2 0 1099511627776) h') :
    Zqw (.func (.func 291) #[] #[.pointer (At b)]) K h:=by
  refine .inr (.inr (.inr (.inr (.inr (.inr (.inr (.inr (.inr (.inr (.inr (.inr (.inr (.inl ⟨(At b,()),rfl,?_⟩)))))))))))))
  unfold ZdI ZgR
  refine Zu (rL (s:=x) (Zb cb rfl) ?_)
  unfold ZZ Yo Yb Yr
  have hl:=hr.len
  rw [Zlz] at hl
  have big:=hr.big
  have cap:=hr.cap
  obtain ⟨g,hg⟩:∃ g:BL × Int->Bool,g=fun p=>decide (p.1.length<=64)&&inB p.2 0 1099511627776:=⟨_,rfl⟩
  rw [<- hg] at hk
  refine Za (Zv (fun p h'=>Ext h h'/\∃ i:Nat,p.1=i/\i<=f.items.length/\(f.items.take i).all g=true) (fun p _=>(f.items.length - p.1).toNat) ⟨Ext.refl _,0,rfl,Ayk _,rfl⟩ ?_)
  rintro ⟨i_,u⟩ h2 ⟨e2,i,hi,hil,ha⟩
  dsimp only at hi ⊢
  subst hi
  refine Zt (fun hlt=>Za ?_) fun hge=>Za (Zh (Zh ?_))
  ·have hia:i<f.items.length:=by omega
   obtain ⟨p,hp⟩:∃ p,f.items[i]?=some p:=⟨f.items[i],Ayb hia⟩
   refine Zou (hr.ext e2) hp rfl ?_
   unfold ZdH Zfr
   refine YX fun h3 c3 e3 z3=>rS (n:=Zk p.1) (Zb c3 rfl) ?_
   have step:∀ (bad:Bool),bad = !g p->Zz bad (Zi (i:Int) fun t8=>(fun (t1:Int) h2=>Yx (decide (t1>=0)) fun t2=>Yx (!t2) fun t3=>K t3 h2) t8 h3) (Ext h h3/\(∃ i':Nat,IntKind.wrap .i64 ((i:Int)+1)=i'/\i'<=f.items.length/\(f.items.take i').all g=true)/\(f.items.length - IntKind.wrap .i64 ((i:Int)+1)).toNat<(f.items.length - (i:Int)).toNat):=fun bad hb=>by
     cases hgp:g p with
     | false =>
       rw [hgp] at hb
       refine Zn (by rw [hb];rfl) (Za (Zh (Zh ?_)))
       rw [show decide ((i:Int)>=0)=true by simp]
       have:f.items.all g=false:=by
         cases hq:f.items.all g with
         | false=>rfl
         | true=>rw [Axc] at hq;have:=hq p (Axq hp);rw [hgp] at this;cases this
       have k:=hk h3 (e2.trans e3)
       rw [this] at k
       exact k
     | true =>
       rw [hgp] at hb
       refine Zm (by rw [hb];rfl) ?_
       rw [Yt (by omega) (by omega)]
       refine ⟨e2.trans e3,⟨i+1,rfl,by omega,?_⟩,by omega⟩
       rw [Ayu,hp,Azm,ha]
       simp [hgp]
   have hsz:(Zk p.1).size=p.1.length:=rfl
   refine Zt (fun h64=>?_) fun h64=>rI (n:=p.2) (Zb c3 rfl) (XF (Zh ?_))
   ·have:=step true (by rw [hg];simp only [decide_eq_false (p:=p.1.length<=64) (by omega),Aqb,Axl])
    exact ⟨fun e=>this.1 e,fun e=>by cases e⟩
   ·have:=step (!inB p.2 0 1099511627776) (by rw [hg];simp only [decide_eq_true (p:=p.1.length<=64) (by omega),Aqa])
    exact ⟨this.1,fun e=>let ⟨a,b,c⟩:=this.2 e;⟨⟨a,b⟩,c⟩⟩
  ·rw [Awd (by omega)] at ha
   have k:=hk h2 e2
   rw [ha] at k
   exact k
theorem Zrs {f:ZeP} {x:Sl} (hl:f.res.length<9223372036854775807) (hi:f.items.length<=1000000000000) (hr:Row h x 2 (Ze0 f.items)) {K:Int->HP} (hk:∀ h',Ext h h'->K f.err h'):Zfn (ZDQ x f) K h:=by
  unfold Zfn ZiK
  refine YX fun h1 c1 e1 z1=>Za (YX fun h3 c3 e3 z3=>?_)
  have s0:sz h=h.size:=rfl
  have s1:sz h1=h1.size:=rfl
  have s3:sz h3=h3.size:=rfl
  have cb:obj h3 h.size=some (.cells (Zkw (x,f)).toArray 85 (0,0)):=Zl c1 e3
  have hxl:=hr.len
  rw [Zlz] at hxl
  have big:=hr.big
  have cap:=hr.cap
  have hm:(f.items.map (·.1)).length=f.items.length:=by simp
  refine rL (s:=x) (Zb cb rfl) (Zv (fun p h'=>∃ (i:Nat) (y:Sl),p.1=i/\i<=f.items.length/\Ext h h'/\obj h' h.size=some (.cells (Zkw (x,f)).toArray 85 (0,0))/\Box h' h1.size (slV y)/\Own h' (sz h3) y 1 (((f.items.map (·.1)).take i).map sV)) (fun p _=>(f.items.length - p.1).toNat)
    ⟨0,⟨none,0,0⟩,rfl,Ayk _,e1.trans e3,cb,⟨_,c3⟩,Own.nil _ _ _⟩ ?_)
  rintro ⟨i_,u⟩ h6 ⟨i,y,hi_,hil,e06,cb6,bx6,own6⟩
  dsimp only at hi_ ⊢
  subst hi_
  have hyl:y.len=i:=by have:=own6.len;simp at this;omega
  have hlow:sz h3<=sz h6\/True:= .inr trivial
  refine Zt (fun hlt=>?_) fun hge=>?_
  ·have hia:i<f.items.length:=by omega
   obtain ⟨p,hp⟩:∃ p,f.items[i]?=some p:=⟨f.items[i],Ayb hia⟩
   refine Zou (hr.ext e06) hp rfl (YX fun h11 c11 e11 z11=>ZeW c11 (by show 2<=2;omega) rfl fun h12 c12 u12 z12=>?_)
   have s6:sz h6=h6.size:=rfl
   have s11:sz h11=h11.size:=rfl
   have s12:sz h12=h12.size:=rfl
   have e612:Ext h6 h12:=e11.updS u12 fun j hj=>by subst hj;exact Aqo _
   have bx12:=bx6.ext e612
   obtain ⟨Tb,cbx⟩:=bx12
   have own12:Own h12 (sz h3) y 1 (((f.items.map (·.1)).take i).map sV):=own6.congr fun b _ hb _=>Zq e612 hb
   have h1lt:=bx6.lt
   have blt:∀ {b:Nat},y.blk=some b->sz h3<=b/\b<sz h6:=fun e=>own6.lt e
   refine rL (s:=y) (Zb cbx rfl) (rS (n:=Zk p.1) (Zb c12 rfl) (Zcb (cells:=[sV p.1]) own12 rfl rfl rfl (by omega) (by omega) ?_ fun s' h18 o18 u18 b18=>?_))
   ·have:=e06.size
    omega
   have cbx18:obj h18 h1.size=some (.cells [slV y].toArray Tb (0,0)):=ZB cbx u18 fun e=>by have:=(blt e).1;omega
   refine Zjw cbx18 (by show 0<1;omega) rfl fun h19 c19 u19 z19=>?_
   rw [Yt (by omega) (by omega)]
   refine ⟨⟨i+1,s',rfl,by omega,?_,?_,⟨_,c19⟩,?_⟩,by omega⟩
   ·exact ((e06.trans e612).updS u18 fun j hj=>by have:=(blt hj).1;omega).updS u19 fun j hj=>by omega
   ·exact ZB (ZB (Zl cb6 e612) u18 fun e=>by have:=(blt e).1;omega) u19 (by omega)
   ·have:((f.items.map (·.1)).take (i+1)).map sV=((f.items.map (·.1)).take i).map sV++[sV p.1]:=by
      rw [Ayu,Awz,hp];simp
    rw [this]
    exact o18.congr fun b hb1 hb hb2=>Zo u19 hb fun e=>by omega
  ·have:i=f.items.length:=by omega
   subst this
   rw [Awd (by omega)] at own6
   refine rS (Zb cb6 rfl) (YX fun h22 c22 e22 z22=>?_)
   refine Zok (cls:=[(.func (.func 288) #[] #[.pointer (At h.size)],inB f.index 0 7&&inB f.cnt 0 1099511627776),(.func (.func 289) #[] #[.pointer (At h.size),.pointer (At h1.size)],inB f.secs 1 60&&decide (f.items.length<=32) && !Zgj (f.items.map (·.1))),
     (.func (.func 291) #[] #[.pointer (At h.size)],f.items.all fun p=>decide (p.1.length<=64)&&inB p.2 0 1099511627776)])
     hl (nms:=[]) (Row.nil _ 1) (fun n hn=>by cases hn) (e:=32) rfl (ZoH (n:=3) c22 rfl (by decide)) (fun p hp h' K' e' k'=>?_) fun h' n hn e'=>Za ?_
   ·have e0:=e22.trans e'
    have c:=Zl cb6 e0
    have r:=hr.ext (e06.trans e0)
    simp only [Awr,Azi,or_false] at hp
    rcases hp with rfl | rfl | rfl
    ·exact ZNV c (k' h' (Ext.refl _))
    ·exact ZNU c r (bx6.ext e0) (own6.row.ext e0) (k' h' (Ext.refl _))
    ·exact ZNT c r k'
   ·have:n=f.err:=by
      rw [hn]
      simp only [Azy,Ayr,Awm,ZeP.err,ZeP.good,Aze]
    subst this
    exact hk h' (e06.trans (e22.trans e'))
end
end Go.Proofs.YtpjbjdheeemdiaaGreatDoor
namespace Go.Js
open Go
def Zim (n:Int):Prop:= -9223372036854775808<=n/\n<=9223372036854775807
theorem Zw8 {n:Int} (h:Zim n):ZAG (Lib.itoa n)=some n:=by
  obtain ⟨neg,u,e,hp,hn⟩:=Zxu n
  obtain ⟨v1,v2,_⟩:=Zx1 u
  have hne:=(ZDC u).dg.2
  obtain ⟨h0,h1⟩:=h
  have key:Lib.atoiAll (Lib.itoa n) = .ok n:=by
    rw [e]
    cases neg with
    | true =>
      have:=hp rfl
      show Lib.atoiAll (45::Lib.decDigits u)=_
      rw [Zuk v2 hne,v1,if_pos (by omega),<- this]
    | false =>
      have:=hn rfl
      show Lib.atoiAll (Lib.decDigits u)=_
      rw [Zuj v2 hne,v1,if_pos (by omega),<- this]
  unfold ZAG
  rw [key]
  simp
end Go.Js
