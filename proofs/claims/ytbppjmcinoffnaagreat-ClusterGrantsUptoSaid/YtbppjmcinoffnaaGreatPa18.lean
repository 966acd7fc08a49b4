/- The cluster: the law 'each grant that a client is told is one that the server made'. -/
import Derived.Test.YtbppjmcinoffnaaGreatPa17
set_option linter.unusedVariables false
set_option linter.unusedSimpArgs false
namespace Go.Proofs.YtbppjmcinoffnaaGreat
open Go Go.Fw
open Nat renaming reduceAdd→Nqa,reduceLT→Nqb,reduceLeDiff→Nqc,reduceEqDiff→Nqd,reduceMul→Nqe
open Tk (Zt rI rB rS rP rM rL ZhD XC held1 ZaI wrS nA F4 f4L YU Zed)
theorem ZzC {hh:Zb} {b o0 o1 o2 o3 o4 o5:Nat} {v0 v1 v2 v3 v4 v5:Value} (c0:ZL o0 (obj hh b)=some v0) (c1:ZL o1 (obj hh b)=some v1) (c2:ZL o2 (obj hh b)=some v2) (c3:ZL o3 (obj hh b)=some v3) (c4:ZL o4 (obj hh b)=some v4) (c5:ZL o5 (obj hh b)=some v5) :
    Zi hh [(b,o0,v0),(b,o1,v1),(b,o2,v2),(b,o3,v3),(b,o4,v4),(b,o5,v5)]:=by
  simp only [Zbd,ZcR]
  exact ⟨c0,c1,c2,c3,c4,c5,trivial⟩
theorem ZwQ {h:Zb} {mb:Nat} {ps:Int→Bool} (hp:St.Xu h mb ps) (n:Int) {K:Bool→Prop} (hk:K (ps n)):XF (.int .i64) h (some mb) (.int .i64 n) fun r=>asB (r.getD (.bool false)) K:=St.Xu.get hp n hk
section
variable {tmo:Int} {h0:Zb} {wb:Nat} {sp:Sl} {bu ba:Nat}
theorem Zst {hh:Zb} {T:TT} {w:Cu} {n:Nat} {A:Zbl} {U:Int→Bool} (l:LG tmo h0 wb sp bu ba hh T w n A U) (hn:w.grs.length≤80000000) {k:Nat} {t:Tld} (hfb:t.fb=false) (hst:t.a.2.1=1) (hid:t.id=t.a.1) (hne:t.a.1≠0) (hG:Zpb A w.grs w.now k t.a) (hnd:¬ A.d k t.id)
    (hd:∀ p,w.pes[k]?=some p→t.id<p.cl.next∧t.id∉Zjm p.cl) {sg st:Sl} {L:List Tld} (rg:Row hh sg 9 (w.grs.flatMap gtL)) (rt:Row hh st 7 (L.flatMap tC)) {x:Nat} (hx:L[x]?=some t) {J:Bool × Int × Unit→Zb→Prop} {F:Prop}
    {body:(Bool × Int × Unit→Zb→Prop)→Bool × Int × Unit→Zb→Prop}
    (hbody:∀ (Q:Bool × Int × Unit→Zb→Prop) (y:Nat) (h':Zb) (f:Bool),y<w.grs.length→h'=hh→f=false →
      (∀ g,w.grs[y]?=some g→(U y=false→ZmN A.f w.now k t.id g=true→X9 (.int .i64) hh (some bu) (iv y) (.bool true) fun h2=>Q (true,((y+1:Nat):Int),()) h2) ∧
        (U y=true∨ZmN A.f w.now k t.id g=false→Q (false,((y+1:Nat):Int),()) hh))→body Q (false,(y:Int),()) hh)
    (hend:∀ (Q:Bool × Int × Unit→Zb→Prop) (f:Bool) (y:Nat) (h':Zb),y≤w.grs.length→(f=true∨y=w.grs.length)→(f=true→J (true,(y:Int),()) h')→f=true→body Q (f,(y:Int),()) h')
    (hk:∀ (h':Zb) (U':Int→Bool) (y:Nat),LG tmo h0 wb sp bu ba h' T w n ⟨A.f,fun a b=>A.d a b∨(a=k∧b=t.id)⟩ U'→Upd (· = bu) hh h'→J (true,(y:Int),()) h') :
    YI body (false,0,()) hh:=by
  obtain ⟨g,g1,g2,g3,g4,g5⟩:=hG hst hne
  obtain ⟨j,hj⟩:=List.getElem?_of_mem g1
  have hfit:ZmN A.f w.now k t.id g=true:=by
    unfold ZmN
    have:(A.f k t.id).getD zR=g.2.2.2:=by rw [hid];have g4:A.f k t.a.1=some g.2.2.2:=g4;rw [g4];rfl
    rw [this,ZtJ,decide_eq_true g2,decide_eq_true (by rw [hid];exact g3),decide_eq_true g5]
    rfl
  have hfree:U j=false:=by
    cases hu:U j with
    | false=>rfl
    | true =>
      obtain ⟨x',h1,h2⟩:=l.us j hu
      rw [hj] at h1
      cases Option.some.inj h1
      rw [g2,g3,← hid] at h2
      exact (hnd h2).elim
  refine Zds (I:=fun s h'=>∃ (f:Bool) (y:Nat),s=(f,(y:Int),())∧y≤w.grs.length∧(f=false→h'=hh∧∀ (m:Nat) (x:Gt),m<y→w.grs[m]?=some x→U m=true∨ZmN A.f w.now k t.id x=false)∧(f=true→J (true,(y:Int),()) h')) (fun s _=>w.grs.length - s.2.1.toNat)
    ⟨false,0,rfl,Nat.zero_le _,fun _=>⟨rfl,fun m x hm=>by omega⟩,fun e=>by cases e⟩ ?_
  rintro _ h' ⟨f,y,rfl,hy,hF,hT⟩ Q hQ
  cases f with
  | true=>exact hend Q true y h' hy (.inl rfl) hT rfl
  | false =>
    obtain ⟨rfl,hno⟩:=hF rfl
    have hyl:y<w.grs.length:=by
      refine Classical.byContradiction fun e=>?_
      have:=Xk hj
      rcases hno j g (by omega) hj with q | q
      ·rw [hfree] at q;cases q
      ·rw [hfit] at q;cases q
    refine hbody Q y h' false hyl rfl rfl fun g' hg'=>⟨fun hu hf=>?_,fun hno2=>?_⟩
    ·have hf':=hf
     unfold ZmN at hf'
     simp only [Bool.and_eq_true,decide_eq_true_eq] at hf'
     obtain ⟨f1,f2,_,_⟩:=hf'
     refine l.use hg' (fun i p hp hi=>?_) fun h2 l2 u2=>?_
     ·have:i=k:=by omega
      subst this
      rw [f2]
      exact hd p hp
     ·rw [f1,f2] at l2
      exact hQ _ _ ⟨true,y+1,rfl,hyl,(fun e=>by cases e),fun _=>hk h2 _ _ l2 u2⟩ (by dsimp only;omega)
    ·refine hQ _ _ ⟨false,y+1,rfl,hyl,fun _=>⟨rfl,fun m x' hm hx'=>?_⟩,fun e=>by cases e⟩ (by dsimp only;omega)
     rcases Nat.lt_or_ge m y with q | q
     ·exact hno m x' q hx'
     ·have:m=y:=by omega
      subst this
      rw [hg'] at hx'
      cases Option.some.inj hx'
      exact hno2
theorem LG.told {hh:Zb} {T:TT} {w:Cu} {n:Nat} {A:Zbl} {U:Int→Bool} (l:LG tmo h0 wb sp bu ba hh T w n A U) {k:Nat} {K:Sl→Zb→Prop}
    (hk:∀ (st:Sl) (L:List Tld) (h':Zb) (T2:TT) (w3:Cu),LG tmo h0 wb sp bu ba h' T2 w3 n A U→w3.grs=w.grs→w3.now=w.now→Row h' st 7 (L.flatMap tC)→Zaq T T2 hh h'→(L.map (·.id)).Nodup →
      (∀ t,t∈L→(t.fb=false→t.id=t.a.1∧Zpb A w.grs w.now k t.a)∧¬ A.d k t.id∧1≤t.id∧∀ p,w3.pes[k]?=some p→t.id<p.cl.next∧t.id∉Zjm p.cl)→K st h'):Z8 (some ⟨wb,0,none⟩) (k:Int) K hh:=by
  refine Zp5 l.g.wd (hk _ [] hh T w l rfl rfl (Row.nil _ _) (Zaq.refl _ _) List.nodup_nil fun t ht=>by cases ht) fun k' p hi hp s h' T' r hW st=>?_
  have:k'=k:=by omega
  subst this
  have hg:=l.i.pes k' p hp
  have hi3:=l.i.took hp
  obtain ⟨g3,am3,um3,ta3,tu3,us3⟩:=l.step st hW (l.g.ok.took hp) hi3 (.inr trivial) rfl (List.prefix_refl _)
  have hnd:=hg.w.nd
  unfold Zjm at hnd
  rw [List.nodup_append] at hnd
  refine hk s p.cl.told h' T' _ ⟨g3,hi3,am3,um3,ta3,tu3,l.low,us3⟩ rfl rfl r st hnd.2.1 fun t ht=>⟨hg.w.told t ht,fun hd=>?_,?_,fun q hq=>?_⟩
  ·exact (hg.w.dn _ hd).2 (List.mem_append_right _ (List.mem_map_of_mem ht))
  ·exact (hg.w.ids t.id (List.mem_append_right _ (List.mem_map_of_mem ht))).1
  ·have hq':(w.setP k' { p with cl:={ p.cl with told:=[]}}).pes[k']?=some { p with cl:={ p.cl with told:=[]}}:=Zfq hp
   rw [hq'] at hq
   cases Option.some.inj hq
   refine ⟨(hg.w.ids t.id (List.mem_append_right _ (List.mem_map_of_mem ht))).2,fun hm=>?_⟩
   unfold Zjm at hm
   simp only [List.map_nil,List.append_nil] at hm
   exact hnd.2.2 _ hm _ (List.mem_map_of_mem ht) rfl
end
theorem Zw1 (x:Option Rq):(x.map rqV).getD (rqV zR)=rqV (x.getD zR):=by cases x<;>rfl
theorem ZhC {a0 a1 a2 a3 a4:Int} {s:Sl} {fl:List F4} {l:Sl} {ops:List Op} {h:Zb} {K:Bool→Zb→Prop} (h0:Row h s 4 (fl.flatMap f4L)∧(-9223372036854775808≤a1∧a1<9223372036854775808)) (hl:Row h l 10 (ops.flatMap opL)∧∀ o,o∈ops→Zxo o) (hb0:fl.length≤1048576) (hb1:ops.length≤1048576)
    (hk:∀ h',Ext h h'→K true h'):X7 (a0,a1,a2,a3,a4,s,()) l K h:=by
  obtain ⟨hr,h0⟩:=h0
  obtain ⟨hl,hok⟩:=hl
  unfold X7 X8
  refine Za1 fun h1 c1 e1 z1=>?_
  have z1:sz h1=sz h+1:=z1
  refine rI (Zt c1 rfl) (rI (Zt c1 rfl) (rI (Zt c1 rfl) (rI (Zt c1 rfl) (rI (Zt c1 rfl) ?_))))
  refine Zni (fun e h8 e8=>Za (Zam (fun _=>Zmx fun h10 e10=>ZF (Zx ?_)) (fun e2=>(e e2).elim))) fun e h8 T wb sp hW e8 low=>Za (Zam (fun e2=>(e2 rfl).elim) fun _=>?_)
  ·exact hk h10 ((e1.trans e8).trans e10)
  obtain ⟨q1,q2,q3⟩:=Zkp e
  have q2:1≤a1∧a1≤8:=q2
  have g8:Go1 a2 h1 wb sp h8 T (ZhW a0 a2 a3 a4 a1.toNat) 0:=⟨hW,ZaT.new e,e8,low⟩
  refine rL (Zt (Yh c1 e8) rfl) ?_
  have e18:=e1.trans e8
  refine g8.loadG (at_:=a0) rfl (hr.ext e18) (by omega) (fun hne k hk=>by have:=ZwA hr hne hk;omega) fun _ h14 T14 w14 g14 x1 x2 x3 x4=>?_
  have hI14:GI noA w14:=(GI.new a0 a2 a3 a4 a1.toNat q3).same x1 x2 x3 x4
  have hsl:l.len=ops.length:=by
    have:=hl.len
    rw [Z7 ZgP] at this
    omega
  have c1':obj h1 (sz h)=_:=c1
  have set:∀ {hh:Zb},Ext h1 hh→obj hh (sz h)=some (.cells [iv a0,iv a1,iv a2,iv a3,iv a4,slV s].toArray _ (0,0)):=fun e=>Yh c1' e
  rw [Zhj,Zhj]
  have z14:sz h1≤sz h14:=g14.ext.size
  have ea:Ext h14 (h14.push (.map #[] 0)):=Ext.push _ _
  have eb:Ext (h14.push (.map #[] 0)) ((h14.push (.map #[] 0)).push (.map #[] 0)):=Ext.push _ _
  have zb:sz (h14.push (.map #[] 0))=sz h14+1:=by show (h14.push _).size=h14.size+1;simp
  have l18:LG a2 h1 wb sp (sz h14) (sz (h14.push (.map #[] 0))) ((h14.push (.map #[] 0)).push (.map #[] 0)) T14 w14 0 noA (fun _=>false) :=
    ⟨(g14.ext1 ea).ext1 eb,hI14,Zoo.new Zeg,Xu.congr (St.Xu.new h14) (Zbk eb (by rw [zb];exact Nat.lt_succ_self _)),g14.wd.no (by omega),g14.wd.no (Nat.le_refl _),⟨z14,by omega,by omega⟩,fun y hy=>by cases hy⟩
  generalize (h14.push (.map #[] 0)).push (.map #[] 0)=h18 at l18 ⊢
  generalize sz (h14.push (.map #[] 0))=ba at l18 ⊢
  generalize sz h14=bu at l18 ⊢
  refine Za ?_
  have fin:∀ {hh:Zb},Ext h1 hh→Xv (fun t133 h132=>ZG t133 fun t=>K t h132) hh:=fun {hh} e=>Zmx fun h9 e9=>Zx (hk h9 ((e1.trans e).trans e9))
  refine Zds (I:=fun st hh=>∃ (k:Nat) (T:TT) (w:Cu) (A:Zbl) (U:Int→Bool),st=((k:Int),())∧k≤100∧LG a2 h1 wb sp bu ba hh T w k A U) (fun st _=>100 - st.1.toNat) ⟨0,T14,w14,noA,_,rfl,by decide,l18⟩ ?_
  rintro _ h22 ⟨k,T22,w,A,U,rfl,hk1,lg⟩ Q hQ
  dsimp only
  refine Zj (fun c=>?_) (fun c=>fin lg.g.ext)
  refine Zj (fun c2=>?_) (fun c2=>fin lg.g.ext)
  have hkl:k<ops.length:=by omega
  have ho:ops[k]?=some ops[k]:=List.getElem?_eq_getElem hkl
  have hom:ops[k]∈ops:=List.getElem_mem hkl
  generalize ops[k]=o at ho hom
  have rl:∀ {hh:Zb},Ext h1 hh→Row hh l 10 (ops.flatMap opL):=fun e=>(hl.ext e1).ext e
  obtain ⟨b,i,_,_,hidx,hc⟩:=ZaI ZgP (rl lg.g.ext) ho (by decide)
  refine hidx rfl ?_
  refine rI (hc 0 _ rfl) (rI (hc 1 _ rfl) (rI (hc 2 _ rfl) (rI (hc 3 _ rfl) (rI (hc 4 _ rfl) (rI (hc 5 _ rfl) (rI (hc 6 _ rfl) (rI (hc 7 _ rfl) (rS (hc 8 _ rfl) (rI (hc 9 _ rfl) ?_)))))))))
  clear hidx hc
  refine Zn4 lg.g.wd lg.g.ok (by omega) (o:=o) (hok o hom).kind (hok o hom).text fun h37 T37 hW37 s37=>Za (Zx (Za ?_))
  have hI37:=lg.i.do lg.g.ok (by omega) o
  have hadd:(ZkK A w o).d=A.d:=by unfold ZkK;split<;>rfl
  obtain ⟨g37,am37,um37,ta37,tu37,us37⟩:=lg.step s37 hW37 (lg.g.ok.do (by omega) o) hI37 (.inr trivial) hadd ((ZtT w.grs).do (w:=w) (List.prefix_refl _) o)
  have hfresh:=@GI.fresh a2 k A w lg.i lg.g.ok o
  generalize hA':ZkK A w o=A' at hI37 hadd us37
  unfold ZkK at hA'
  generalize hw':w.doR o=dd at hW37 hI37 g37 us37 hfresh hA' ⊢
  obtain ⟨⟨n1,n2,n3⟩,w'⟩:=dd
  dsimp only at hW37 hI37 g37 us37 hfresh hA' ⊢
  clear hw' hW37 s37
  refine ZoW (J:=fun _ hh=>∃ (T:TT),LG a2 h1 wb sp bu ba hh T w' (k+1) A' U) ?_ ?_
  ·
   rintro _ h66 ⟨T66,l66⟩
   refine Zjp l66.g.wd (by have:=l66.g.ok.grs;omega) fun sg h68 og e68=>Za ?_
   have l68:=l66.ext e68
   have hlen:w'.grs.length≤80000*(k+1):=l66.g.ok.grs
   have hn:w'.grs.length≤80000000:=by omega
   have hgl:sg.len=w'.grs.length:=by
     have:=og.len
     rw [Z7 ZgX] at this
     omega
   refine Zds (I:=fun st hh=>∃ (kk:Nat) (T:TT) (w2:Cu) (D:Int→Int→Prop) (U2:Int→Bool),st=((kk:Int),())∧(kk:Int)≤a1∧LG a2 h1 wb sp bu ba hh T w2 (k+1) ⟨A'.f,D⟩ U2∧w2.grs=w'.grs∧w2.now=w'.now∧Row hh sg 9 (w'.grs.flatMap gtL)∧(w'.grs≠[]→∀ b,sg.blk=some b→T b=none)) (fun st _=>(a1 - st.1).toNat)
     ⟨0,T66,w',A'.d,U,rfl,by omega,l68,rfl,rfl,og.row,fun _ b hb=>l66.g.wd.no (og.lt hb).1⟩ ?_
   rintro _ h72 ⟨kk,T72,w2,D2,U2,rfl,hkk,l72,y1,y2,rg72,tg72⟩ Q2 hQ2
   dsimp only
   refine rI (Zt (set l72.g.ext) rfl) (Zj (fun c3=>?_) (fun c3=>Za ?_))
   case refine_2 =>
     rw [wrS (n:=100) (by omega) (by decide)]
     exact hQ _ _ ⟨k+1,T72,w2,_,U2,rfl,by omega,l72⟩ (by dsimp only;omega)
   refine l72.told fun tt L h75 T75 w3 l75 y3 y4 rt s75 hnd hL=>Za ?_
   rw [y1] at y3
   rw [y2] at y4
   have hblk:w'.grs≠[]→∀ b,sg.blk=some b→T72 b=none∧b<sz h72:=fun hne b hb=>⟨tg72 hne b hb,by
     rcases rg72.at_ with q | ⟨b',o',hp,hh⟩
     ·exact (hne (List.eq_nil_of_length_eq_zero (by omega))).elim
     ·have:b'=b:=by simpa [Sl.blk,hp] using hb
      subst this
      refine Zkz hh fun e=>hne ?_
      have:=congrArg List.length e
      rw [Z7 ZgX] at this
      exact List.eq_nil_of_length_eq_zero (by have h9:w'.grs.length*9=0:=this;omega)⟩
   have rg75:Row h75 sg 9 (w'.grs.flatMap gtL):=rg72.congr fun b o hp hne hlt=>s75.upd.old b hlt fun e=>e (tg72 (fun e=>hne (by rw [e];rfl)) b (by simp [Sl.blk,hp]))
   have tg75:w'.grs≠[]→∀ b,sg.blk=some b→T75 b=none:=fun hne b hb=>s75.none_ (hblk hne b hb).1 (hblk hne b hb).2
   have htl:tt.len=L.length:=by
     have:=rt.len
     rw [Z7 ZiU] at this
     omega
   refine Zds (I:=fun st hh=>∃ (x:Nat) (D:Int→Int→Prop) (U3:Int→Bool),st=((x:Int),())∧x≤L.length∧LG a2 h1 wb sp bu ba hh T75 w3 (k+1) ⟨A'.f,D⟩ U3∧Row hh sg 9 (w'.grs.flatMap gtL)∧Row hh tt 7 (L.flatMap tC)∧∀ t,t∈L.drop x→¬ D kk t.id) (fun st _=>L.length - st.1.toNat)
     ⟨0,D2,U2,rfl,Nat.zero_le _,l75,rg75,rt,fun t ht=>(hL t (List.mem_of_mem_drop ht)).2.1⟩ ?_
   rintro _ h79 ⟨x,D3,U3,rfl,hx0,l79,rg79,rt79,hD3⟩ Q3 hQ3
   dsimp only
   refine Zj (fun c4=>?_) (fun c4=>Za ?_)
   case refine_2 =>
     rw [wrS (n:=9) (by omega) (by decide)]
     exact hQ2 _ _ ⟨kk+1,T75,w3,D3,U3,rfl,by omega,l79,y3,y4,rg79,tg75⟩ (by dsimp only;omega)
   have hxl:x<L.length:=by omega
   have hx:L[x]?=some L[x]:=List.getElem?_eq_getElem hxl
   have hxm:L[x]∈L:=List.getElem_mem hxl
   have hdr:L.drop x=L[x]::L.drop (x+1):=List.drop_eq_getElem_cons hxl
   generalize L[x]=t at hx hxm hdr
   have htlen:tt.len<9223372036854775808:=Nat.lt_of_le_of_lt rt79.cap rt79.big
   have next:Q3 (IntKind.wrap .i64 ((x:Int)+1),()) h79:=by
     rw [wrS (n:=L.length) hxl (by omega)]
     exact hQ3 _ _ ⟨x+1,D3,U3,rfl,hxl,l79,rg79,rt79,fun t' ht'=>hD3 t' (by rw [hdr];exact List.mem_cons_of_mem _ ht')⟩ (by dsimp only;omega)
   obtain ⟨tb,to,_,_,hit,hct⟩:=ZaI ZiU rt79 hx (by decide)
   refine hit rfl (rB (hct 6 _ rfl) ⟨fun cf=>Za next,fun cf=>hit rfl (rI (hct 2 _ rfl) (Zam (fun _=>Za next) fun cs=>Za ?_))⟩)
   obtain ⟨t1,t2,t3,t4⟩:=hL t hxm
   obtain ⟨t5,t6⟩:=t1 cf
   have hdt:¬ D3 kk t.id:=hD3 t (by rw [hdr];exact List.mem_cons_self ..)
   rw [y1,y2,← y3,← y4] at t6
   refine Zst l79 (by rw [y3];exact hn) cf cs t5 (by omega) t6 hdt t4 (by rw [y3];exact rg79) rt79 hx (J:=fun _ h'=>Q3 (IntKind.wrap .i64 ((x:Int)+1),()) h') (F:=True) (fun Q4 y h' f hy eh ef H=>?_) (fun Q4 f y h' hy hor hJ ef=>?_) fun h' U' y l' u'=>?_
   ·subst eh ef
    dsimp only
    have hyw:y<w'.grs.length:=by rw [← y3];exact hy
    have hg:w'.grs[y]?=some w'.grs[y]:=List.getElem?_eq_getElem hyw
    generalize w'.grs[y]=g at hg
    obtain ⟨H1,H2⟩:=H g (by rw [y3];exact hg)
    rw [y4] at H1 H2
    have skip:U3 y=true∨ZmN A'.f w'.now kk t.id g=false→Q4 (false,IntKind.wrap .i64 ((y:Int)+1),()) h':=fun e=>by rw [Zu9 hyw hn];exact H2 e
    obtain ⟨gb,go,_,_,hiy,hcy⟩:=ZaI ZgX rg79 hg (by decide)
    have nofit:∀ {b:Bool},b=false→ZmN A'.f w'.now kk t.id g=b→Q4 (false,IntKind.wrap .i64 ((y:Int)+1),()) h':=fun e1 e2=>skip (.inr (e2.trans e1))
    refine ZaS (decide_eq_true (by omega)) (ZaS rfl (ZwQ l79.um y ⟨fun cu=>?_,fun cu=>Za (skip (.inl (by simpa using cu)))⟩))
    have cu:U3 y=false:=by simpa using cu
    refine hiy rfl (rI (hcy 1 _ rfl) ⟨fun ce=>?_,fun ce=>Za (nofit rfl ?_)⟩)
    case refine_2 =>
      have:¬ g.2.1=(kk:Int):=by simpa using ce
      unfold ZmN
      rw [decide_eq_false this];rfl
    have ce:g.2.1=(kk:Int):=by simpa using ce
    refine hiy rfl (hit rfl (rI (hcy 2 _ rfl) (rI (hct 0 _ rfl) ⟨fun ci=>?_,fun ci=>Za (nofit rfl ?_)⟩)))
    case refine_2 =>
      have:¬ g.2.2.1=t.id:=by simpa using ci
      unfold ZmN
      rw [decide_eq_false this,Bool.and_comm];simp
    have ci:g.2.2.1=t.id:=by simpa using ci
    refine hiy rfl (hit rfl (rI (hcy 3 _ rfl) (rI (hcy 4 _ rfl) (rI (hcy 5 _ rfl) (rI (hcy 6 _ rfl) (rS (hcy 7 _ rfl) (rI (hcy 8 _ rfl) (rI (hct 0 _ rfl) ?_))))))))
    refine l79.am.get kk t.id ⟨(A'.f kk t.id).getD zR,Zw1 _,?_⟩
    refine ⟨held1 (hct 0 _ rfl),ZzC (hcy 3 _ rfl) (hcy 4 _ rfl) (hcy 5 _ rfl) (hcy 6 _ rfl) (hcy 7 _ rfl) (hcy 8 _ rfl),held1 (hct 0 _ rfl),held1 (hcy 2 _ rfl),held1 (hcy 1 _ rfl),?_⟩
    refine ⟨fun cq=>?_,fun cq=>Za (nofit rfl ?_)⟩
    case refine_2 =>
      have:rqE g.2.2.2 ((A'.f kk t.id).getD zR)=false:=cq
      unfold ZmN
      rw [this];simp
    have cq:rqE g.2.2.2 ((A'.f kk t.id).getD zR)=true:=cq
    refine hiy rfl (rI (hcy 0 _ rfl) (Zt3 l79.g.wd ?_))
    refine ⟨held1 (hcy 0 _ rfl),held1 (hct 0 _ rfl),ZzC (hcy 3 _ rfl) (hcy 4 _ rfl) (hcy 5 _ rfl) (hcy 6 _ rfl) (hcy 7 _ rfl) (hcy 8 _ rfl),held1 (hct 0 _ rfl),held1 (hcy 2 _ rfl),held1 (hcy 1 _ rfl),?_⟩
    rw [y4]
    refine Zj (fun cl=>?_) (fun cl=>Za (nofit rfl ?_))
    ·have:=H1 cu (by unfold ZmN;rw [decide_eq_true ce,decide_eq_true ci,cq,decide_eq_true cl];rfl)
     rw [← Zu9 hyw hn] at this
     exact this
    ·unfold ZmN
     rw [decide_eq_false cl];simp
   ·subst ef
    dsimp only
    exact Zj (fun _=>XE rfl (XE rfl (Za (hJ rfl)))) (fun _=>XE rfl (Za (hJ rfl)))
   ·obtain ⟨es,ck,hm,_⟩:=l79.um
    rw [wrS (n:=L.length) hxl (by omega)]
    refine hQ3 _ _ ⟨x+1,_,U',rfl,hxl,l',ZrH hm u' rg79,ZrH hm u' rt79,fun t' ht' hd'=>?_⟩ (by dsimp only;omega)
    rcases hd' with q | ⟨_,q⟩
    ·exact hD3 t' (by rw [hdr];exact List.mem_cons_of_mem _ ht') q
    ·have hnd2:((L.drop x).map (·.id)).Nodup:=hnd.sublist ((List.drop_sublist x L).map _)
     rw [hdr,List.map_cons,List.nodup_cons] at hnd2
     exact hnd2.1 (by rw [← q];exact List.mem_map_of_mem ht')
  ·intro Q2 hQ2
   have l37:A'.f=A.f→LG a2 h1 wb sp bu ba h37 T37 w' (k+1) A' U:=fun e=>⟨g37,hI37,by rw [e];exact am37,um37,ta37,tu37,lg.low,us37⟩
   obtain ⟨b,i,_,_,hidx,hc⟩:=ZaI ZgP (rl g37.ext) ho (by decide)
   refine hidx rfl (rI (hc 0 _ rfl) ?_)
   have hno:¬ (o.1=2∧n3=0∧n2=false)→A'.f=A.f:=fun e=>by rw [← hA',if_neg e]
   refine ⟨fun ce=>?_,fun ce=>hQ2 _ _ ⟨T37,l37 (hno fun e=>by rw [e.1] at ce;cases ce)⟩⟩
   have c2':o.1=2:=by simpa using ce
   refine ⟨fun ce3=>?_,fun ce3=>hQ2 _ _ ⟨T37,l37 (hno fun e=>by rw [e.2.1] at ce3;cases ce3)⟩⟩
   have c3':n3=0:=by simpa using ce3
   refine ⟨fun ce4=>?_,fun ce4=>hQ2 _ _ ⟨T37,l37 (hno fun e=>by rw [e.2.2] at ce4;cases ce4)⟩⟩
   have c4':n2=false:=by simpa using ce4
   rw [if_pos ⟨c2',c3',c4'⟩] at hA'
   refine hidx rfl ?_
   refine rI (hc 4 _ rfl) (rI (hc 5 _ rfl) (rI (hc 6 _ rfl) (rI (hc 7 _ rfl) (rS (hc 8 _ rfl) (rI (hc 9 _ rfl) ?_)))))
   refine Za1 fun h52 d52 e52 z52=>?_
   refine Ztd (vs:=[iv o.rq.1,.int .u8 o.rq.2.1,iv o.rq.2.2.1,iv o.rq.2.2.2.1,.string o.rq.2.2.2.2.1,iv o.rq.2.2.2.2.2.1]) d52 rfl (by simp only [List.all_cons,List.all_nil,YW,Zf8];rfl) rfl fun h53 d53 u53 z53=>?_
   refine ZhD d53 (show 0<6 by decide) YW fun h54 d54 u54 z54=>?_
   have e54:Ext h37 h54:=(e52.then u53 fun k hk=>by rw [hk];exact Nat.le_refl _).then u54 fun k hk=>by rw [hk];exact Nat.le_refl _
   obtain ⟨b',i',_,_,hidx',hc'⟩:=ZaI ZgP (rl (g37.ext.trans e54)) ho (by decide)
   refine hidx' rfl (rI (hc' 1 _ rfl) ?_)
   refine rI (Zt d54 rfl) (rI (Zt d54 rfl) (rI (Zt d54 rfl) (rI (Zt d54 rfl) (rS (Zt d54 rfl) (rI (Zt d54 rfl) ?_)))))
   refine (am37.congr (Zbk e54 am37.lt)).put (k:=o.2.1) (n:=n1) (hfresh c2' c3' c4') (ZfT o.rq n1) fun h64 am64 u64 z64=>hQ2 _ _ ⟨T37,?_⟩
   refine ⟨⟨(g37.wd.ext e54).upd u64 fun k hk=>by rw [hk];exact ta37,g37.ok,(g37.ext.trans e54).then u64 fun k hk=>by rw [hk];exact lg.low.2.1,g37.low⟩,hI37,by rw [← hA'];exact am64,Xu.congr um37 ?_,ta37,tu37,lg.low,us37⟩
   rw [ZdJ u64 (Nat.lt_of_lt_of_le (Xu.lt um37) e54.size) fun e=>lg.low.2.2 e]
   exact Zbk e54 (Xu.lt um37)
end Go.Proofs.YtbppjmcinoffnaaGreat
namespace Go.Proofs.YtbppjmcinoffnaaGreat.Tk
open Go Go.Fw Go.ChangeShapes Go.WideShapes
theorem ZlD {H:Type} {d:DataW H}:∀ {l:List (DataW H)},d∈l→Rows.uptoBulk d≤Rows.uptoBulkAll l
  | e::l,h=>by
    rcases List.mem_cons.1 h with rfl | h
    ·simp only [Rows.uptoBulkAll];omega
    ·have:=ZlD h
     simp only [Rows.uptoBulkAll]
     omega
section
variable {H:Type} {enc:TypeId × Value→H} {P:Program} {w:World} {base:Nat} {spare:Nat→Bool} {held:Bool}
theorem ZeM {fs:Array Field} {l:List (TypeId × Nat)} (hf:fs.toList.map (fun f=>(f.type,f.offset))=l) {i:Nat} {p:TypeId × Nat} (hp:l[i]?=some p):∃ f,fs[i]?=some f∧f.type=p.1∧f.offset=p.2:=by
  subst hf
  rw [List.getElem?_map,Option.map_eq_some_iff] at hp
  obtain ⟨f,h1,rfl⟩:=hp
  exact ⟨f,by simpa using h1,rfl,rfl⟩
theorem ZvD {t:TypeId} {fs:Array Field} {cs:List Value} {fuel:Nat} {x:DataW H × List MemPlace} (ht:P.underlying t=some (.struct fs)) (hc:P.cellsOf t=6) {ti tw ts:TypeId} (hti:P.underlying ti=some (.int .i64)) (htw:P.underlying tw=some (.int .u8)) (hts:P.underlying ts=some .string)
    (ci:P.cellsOf ti=1) (cw:P.cellsOf tw=1) (csz:P.cellsOf ts=1) (hf:fs.toList.map (fun f=>(f.type,f.offset))=[(ti,0),(tw,1),(ti,2),(ti,3),(ts,4),(ti,5)])
    (h:DataW.trod enc P w base spare held fuel t cs=some x):∃ r:Rq,cs=rqC r∧r.2.2.2.2.1.size<9223372036854775808∧r.2.2.2.2.1.size+1≤Rows.uptoBulk x.1:=by
  obtain ⟨xs,n,rfl,rfl,hl,hlen,hall⟩:=DataW.trod_struct ht h
  rw [hc] at hl
  have hfl:fs.size=6:=by
    have:=congrArg List.length hf
    simpa using this
  match cs,hl with
  | [c0,c1,c2,c3,c4,c5],_ =>
    have int:∀ (i o:Nat) (c:Value),([(ti,0),(tw,1),(ti,2),(ti,3),(ts,4),(ti,5)]:List (TypeId × Nat))[i]?=some (ti,o)→(([c0,c1,c2,c3,c4,c5]:List Value).drop o).take 1=[c]→∃ m,c = .int .i64 m:=fun i o c h1 h2=>by
      obtain ⟨f,g1,g2,g3⟩:=ZeM hf h1
      have:=hall i f g1
      simp only at g2 g3
      rw [g2,g3,ci,h2] at this
      have hi:i<xs.length:=by
        rw [hlen,hfl]
        rcases Nat.lt_or_ge i 6 with h9 | h9
        ·exact h9
        ·rw [List.getElem?_eq_none (by simpa using h9)] at h1;cases h1
      rw [List.getElem?_eq_getElem hi] at this
      obtain ⟨m,hm,_⟩:=DataW.trod_int hti this
      exact ⟨m,by simpa using hm⟩
    obtain ⟨m0,rfl⟩:=int 0 0 c0 rfl rfl
    obtain ⟨m2,rfl⟩:=int 2 2 c2 rfl rfl
    obtain ⟨m3,rfl⟩:=int 3 3 c3 rfl rfl
    obtain ⟨m5,rfl⟩:=int 5 5 c5 rfl rfl
    have w1:∃ m,c1 = .int .u8 m:=by
      obtain ⟨f,g1,g2,g3⟩:=ZeM hf (i:=1) rfl
      have:=hall 1 f g1
      simp only at g2 g3
      rw [g2,g3,cw] at this
      rw [List.getElem?_eq_getElem (by omega:1<xs.length)] at this
      obtain ⟨m,hm,_⟩:=DataW.trod_int htw this
      exact ⟨m,by simpa using hm⟩
    obtain ⟨m1,rfl⟩:=w1
    have s4:∃ s:ByteArray,c4 = .string s∧s.size≤maxLen∧s.size+1≤Rows.uptoBulkAll (xs.map (·.1)):=by
      obtain ⟨f,g1,g2,g3⟩:=ZeM hf (i:=4) rfl
      have:=hall 4 f g1
      simp only at g2 g3
      rw [g2,g3,csz] at this
      rw [List.getElem?_eq_getElem (by omega:4<xs.length)] at this
      obtain ⟨s,hs,hx,hsz⟩:=DataW.trod_string hts this
      refine ⟨s,by simpa using hs,hsz,?_⟩
      have hm:(DataW.lit (.string s.data.toList):DataW H)∈xs.map (·.1):=List.mem_map.2 ⟨xs[4],List.getElem_mem _,by rw [hx]⟩
      have:=ZlD hm
      simp only [Rows.uptoBulk] at this
      have e:s.data.toList.length=s.size:=by simp
      omega
    obtain ⟨s,rfl,hsz,hbulk⟩:=s4
    refine ⟨(m0,m1,m2,m3,s,m5,()),rfl,Zmu hsz,?_⟩
    simp only [Rows.uptoBulk]
    omega
end
section
variable {H:Type} {enc:TypeId × Value→H} {P:Program} {w:World} {base:Nat} {spare:Nat→Bool} {held:Bool}
theorem Zg7 {α:Type} [Inhabited α] {g:α→List Value} {n:Nat} (hg:∀ a,(g a).length=n) (hn:0<n) {Pa:α→Prop} {μ:α→Nat} {u t:TypeId} {fuel:Nat} {a:Option Addr} {len cap:Nat} {x:DataW H × List MemPlace} (hu:P.underlying u=some (.slice t)) (hc:P.cellsOf t=n)
    (elem:∀ {fuel:Nat} {cs:List Value} {x:DataW H × List MemPlace},DataW.trod enc P w base spare held fuel t cs=some x→∃ a:α,cs=g a∧Pa a∧μ a≤Rows.uptoBulk x.1)
    (h:DataW.trod enc P w base spare held fuel u [.slice a len cap]=some x):∃ l:List α,(Row w.heap ⟨a,len,cap⟩ n (l.flatMap g)∧∀ a,a∈l→Pa a)∧(l.map μ).sum+1≤Rows.uptoBulk x.1:=by
  rcases Deep.open_slice hu h with ⟨hcs,rfl⟩ | ⟨a',len',cap',m,n',D,Pl,hcs,_,hl,hm,hmm,rfl,hx⟩
  ·simp at hcs
   obtain ⟨rfl,rfl,rfl⟩:=hcs
   exact ⟨[],⟨Row.nil _ n,by simp⟩,by simp [Rows.uptoBulk]⟩
  ·simp at hcs
   obtain ⟨rfl,rfl,rfl⟩:=hcs
   have hlen:len≤m:=by rw [hmm];split<;>omega
   have hbig:cap<9223372036854775808:=Zmu hm
   have each:∀ i,i<len→∃ a:α,w.cells? base (a'.add (i*n)) n=some (g a)∧Pa a∧μ a≤Rows.uptoBulk (D i):=by
     intro i hi
     obtain ⟨cs',h1,h2⟩:=hx i (by omega)
     rw [hc] at h1
     obtain ⟨r,rfl,hp,hb⟩:=elem h2
     exact ⟨r,h1,hp,hb⟩
   obtain ⟨f,hf⟩:=Deep.choose_lt each
   have cell:∀ i,i<len→∀ k,k<n→w.cell? ((a'.add (i*n)).add k)=(g (f i))[k]?:=fun i hi k hk=>(World.cells?_some (hf i hi).1).2.2 k hk
   refine ⟨(List.range len).map f,⟨⟨by rw [Z7 hg];simp,hl,hbig,?_⟩,fun a ha=>?_⟩,?_⟩
   ·rcases Nat.eq_zero_or_pos len with h0 | h0
    ·exact .inl h0
    ·right
     have hsp:a'=⟨a'.block,a'.off,none⟩:=by
       have h0:=cell 0 (by omega) 0 hn
       have e0:(a'.add (0*n)).add 0=a':=by rw [Nat.zero_mul];rfl
       rw [e0,List.getElem?_eq_getElem (by rw [hg];exact hn)] at h0
       exact Zry h0
     refine ⟨a'.block,a'.off,by rw [← hsp],ZoM fun k v hv=>?_⟩
     have hk:k<len*n:=by
       have:=Xk hv
       rw [Z7 hg] at this
       simpa using this
     have hdm:=Nat.div_add_mod k n
     have hi:k / n<len:=(Nat.div_lt_iff_lt_mul hn).2 hk
     have hj:k % n<n:=Nat.mod_lt _ hn
     have e1:=Zgw hg ((List.range len).map f) (k / n) (k % n) (f (k / n)) (by rw [List.getElem?_map,List.getElem?_range hi];rfl) hj
     have ek:k / n*n+k % n=k:=by rw [Nat.mul_comm];exact hdm
     rw [ek,hv] at e1
     have:=cell (k / n) hi (k % n) hj
     rw [hsp,Zo8,Zo8,ZlB,← e1] at this
     rw [← ek,← Nat.add_assoc]
     exact this
   ·obtain ⟨i,hi,rfl⟩:=List.mem_map.1 ha
    exact (hf i (by simpa using hi)).2.1
   ·have h1:=ZjF D (fun i=>μ (f i)) (List.range len) fun i hi=>(hf i (by simpa using hi)).2.2
    simp only [Rows.uptoBulk,List.map_map]
    have:((List.range len).map (μ ∘ f)).sum≤Rows.uptoBulkAll ((List.range len).map D):=h1
    omega
theorem ZyV {n:Int} (h:(Lit.int .u8 n).wf=true):0≤n∧n<256:=by
  simp only [Lit.wf,Bool.and_eq_true,decide_eq_true_eq] at h
  have h1:IntKind.u8.min=0:=by decide
  have h2:IntKind.u8.max=255:=by decide
  omega
end
end Go.Proofs.YtbppjmcinoffnaaGreat.Tk
namespace Go.Proofs.YtbppjmcinoffnaaGreat
open Go Go.Fw Go.ChangeShapes Go.WideShapes
open Tk (F4 f4L YU Zg7 ZvD ZeM ZyV)
theorem ZyW {n:Int} (h:(Lit.int .i64 n).wf=true) : -9223372036854775808≤n∧n<9223372036854775808:=by
  simp only [Lit.wf,Bool.and_eq_true,decide_eq_true_eq] at h
  have h1:IntKind.i64.min = -9223372036854775808:=by decide
  have h2:IntKind.i64.max=9223372036854775807:=by decide
  omega
theorem Zk3 {α:Type}:∀ l:List α,(l.map fun _=>(1:Nat)).sum=l.length
  | []=>rfl
  | _::l=>by rw [List.map_cons,List.sum_cons,Zk3 l,List.length_cons];omega
section
variable {H:Type} {enc:TypeId × Value→H} {P:Program} {w:World} {base:Nat} {spare:Nat→Bool} {held:Bool}
theorem ZzS {t:TypeId} {fs:Array Field} {cs:List Value} {fuel:Nat} {x:DataW H × List MemPlace} (ht:P.underlying t=some (.struct fs)) (hc:P.cellsOf t=4) {ti tk:TypeId} (hti:P.underlying ti=some (.int .i64)) (htk:P.underlying tk=some (.int .i64)) (ci:P.cellsOf ti=1) (ck:P.cellsOf tk=1)
    (hf:fs.toList.map (fun f=>(f.type,f.offset))=[(ti,0),(ti,1),(tk,2),(ti,3)]) (h:DataW.trod enc P w base spare held fuel t cs=some x):∃ f:F4,cs=f4L f∧True∧1≤Rows.uptoBulk x.1:=by
  obtain ⟨xs,n,rfl,rfl,hl,hlen,hall⟩:=DataW.trod_struct ht h
  rw [hc] at hl
  have hfl:fs.size=4:=by
    have:=congrArg List.length hf
    simpa using this
  match cs,hl with
  | [c0,c1,c2,c3],_ =>
    have fld:∀ {i:Nat} {p:TypeId × Nat} (hi:i<xs.length),([(ti,0),(ti,1),(tk,2),(ti,3)]:List (TypeId × Nat))[i]?=some p→DataW.trod enc P w base spare held n p.1 (([c0,c1,c2,c3].drop p.2).take (P.cellsOf p.1))=some xs[i]:=fun {i p} hi hp=>by
      obtain ⟨f,g1,g2,g3⟩:=ZeM hf hp
      have:=hall i f g1
      rw [g2,g3,List.getElem?_eq_getElem hi] at this
      exact this
    have f0:=fld (i:=0) (by omega) rfl
    have f1:=fld (i:=1) (by omega) rfl
    have f2:=fld (i:=2) (by omega) rfl
    have f3:=fld (i:=3) (by omega) rfl
    dsimp only at f0 f1 f2 f3
    rw [ci] at f0 f1 f3
    rw [ck] at f2
    obtain ⟨m0,h0,_⟩:=DataW.trod_int hti f0
    obtain ⟨m1,h1,_⟩:=DataW.trod_int hti f1
    obtain ⟨m2,h2,_⟩:=DataW.trod_int htk f2
    obtain ⟨m3,h3,_⟩:=DataW.trod_int hti f3
    simp at h0 h1 h2 h3
    subst h0 h1 h2 h3
    refine ⟨(m0,m1,m2,m3,()),rfl,trivial,?_⟩
    simp only [Rows.uptoBulk]
    omega
theorem Zxl {u t:TypeId} {fs:Array Field} {fuel:Nat} {a:Option Addr} {len cap:Nat} {x:DataW H × List MemPlace} (hu:P.underlying u=some (.slice t)) (ht:P.underlying t=some (.struct fs)) (hc:P.cellsOf t=4) {ti tk:TypeId} (hti:P.underlying ti=some (.int .i64)) (htk:P.underlying tk=some (.int .i64)) (ci:P.cellsOf ti=1) (ck:P.cellsOf tk=1)
    (hf:fs.toList.map (fun f=>(f.type,f.offset))=[(ti,0),(ti,1),(tk,2),(ti,3)]) (h:DataW.trod enc P w base spare held fuel u [.slice a len cap]=some x):∃ l:List F4,Row w.heap ⟨a,len,cap⟩ 4 (l.flatMap f4L)∧l.length+1≤Rows.uptoBulk x.1:=by
  haveI:Inhabited F4:=⟨(0,0,0,0,())⟩
  obtain ⟨l,⟨h1,_⟩,h2⟩:=Zg7 (Pa:=fun _:F4=>True) (μ:=fun _=>1) YU (by decide) hu hc (ZzS ht hc hti htk ci ck hf) h
  refine ⟨l,h1,?_⟩
  have:=Zk3 l
  omega
theorem ZzR {t:TypeId} {fs rs:Array Field} {cs:List Value} {fuel:Nat} {x:DataW H × List MemPlace} (ht:P.underlying t=some (.struct fs)) (hc:P.cellsOf t=10) {ti tr tw ts tk:TypeId} (hti:P.underlying ti=some (.int .i64)) (htr:P.underlying tr=some (.struct rs))
    (htw:P.underlying tw=some (.int .u8)) (hts:P.underlying ts=some .string) (htk:P.underlying tk=some (.int .u8)) (ci:P.cellsOf ti=1) (cr:P.cellsOf tr=6) (cw:P.cellsOf tw=1) (csz:P.cellsOf ts=1) (ck:P.cellsOf tk=1)
    (hf:fs.toList.map (fun f=>(f.type,f.offset))=[(tk,0),(ti,1),(ti,2),(ti,3),(tr,4)]) (hr:rs.toList.map (fun f=>(f.type,f.offset))=[(ti,0),(tw,1),(ti,2),(ti,3),(ts,4),(ti,5)])
    (h:DataW.trod enc P w base spare held fuel t cs=some x):∃ o:Op,cs=opL o∧Zxo o∧1≤Rows.uptoBulk x.1:=by
  obtain ⟨xs,n,rfl,rfl,hl,hlen,hall⟩:=DataW.trod_struct ht h
  rw [hc] at hl
  have hfl:fs.size=5:=by
    have:=congrArg List.length hf
    simpa using this
  match cs,hl with
  | [c0,c1,c2,c3,c4,c5,c6,c7,c8,c9],_ =>
    have fld:∀ {i:Nat} {p:TypeId × Nat} (hi:i<xs.length),([(tk,0),(ti,1),(ti,2),(ti,3),(tr,4)]:List (TypeId × Nat))[i]?=some p→DataW.trod enc P w base spare held n p.1 (([c0,c1,c2,c3,c4,c5,c6,c7,c8,c9].drop p.2).take (P.cellsOf p.1))=some xs[i]:=fun {i p} hi hp=>by
      obtain ⟨f,g1,g2,g3⟩:=ZeM hf hp
      have:=hall i f g1
      rw [g2,g3,List.getElem?_eq_getElem hi] at this
      exact this
    have f0:=fld (i:=0) (by omega) rfl
    have f1:=fld (i:=1) (by omega) rfl
    have f2:=fld (i:=2) (by omega) rfl
    have f3:=fld (i:=3) (by omega) rfl
    have f4:=fld (i:=4) (by omega) rfl
    dsimp only at f0 f1 f2 f3 f4
    rw [ck] at f0
    rw [ci] at f1 f2 f3
    rw [cr] at f4
    obtain ⟨m0,h0,_,w0⟩:=DataW.trod_int htk f0
    obtain ⟨m1,h1,_⟩:=DataW.trod_int hti f1
    obtain ⟨m2,h2,_⟩:=DataW.trod_int hti f2
    obtain ⟨m3,h3,_⟩:=DataW.trod_int hti f3
    obtain ⟨r,h4,hrs,hrb⟩:=ZvD htr cr hti htw hts ci cw csz hr f4
    simp at h0 h1 h2 h3 h4
    obtain ⟨rfl,rfl,rfl,rfl,rfl,rfl⟩:=h4
    subst h0 h1 h2 h3
    refine ⟨(m0,m1,m2,m3,r),rfl,⟨ZyV w0,hrs⟩,?_⟩
    simp only [Rows.uptoBulk]
    omega
theorem Zxk {u t:TypeId} {fs rs:Array Field} {fuel:Nat} {a:Option Addr} {len cap:Nat} {x:DataW H × List MemPlace} (hu:P.underlying u=some (.slice t)) (ht:P.underlying t=some (.struct fs)) (hc:P.cellsOf t=10) {ti tr tw ts tk:TypeId} (hti:P.underlying ti=some (.int .i64)) (htr:P.underlying tr=some (.struct rs))
    (htw:P.underlying tw=some (.int .u8)) (hts:P.underlying ts=some .string) (htk:P.underlying tk=some (.int .u8)) (ci:P.cellsOf ti=1) (cr:P.cellsOf tr=6) (cw:P.cellsOf tw=1) (csz:P.cellsOf ts=1) (ck:P.cellsOf tk=1)
    (hf:fs.toList.map (fun f=>(f.type,f.offset))=[(tk,0),(ti,1),(ti,2),(ti,3),(tr,4)]) (hr:rs.toList.map (fun f=>(f.type,f.offset))=[(ti,0),(tw,1),(ti,2),(ti,3),(ts,4),(ti,5)])
    (h:DataW.trod enc P w base spare held fuel u [.slice a len cap]=some x):∃ l:List Op,(Row w.heap ⟨a,len,cap⟩ 10 (l.flatMap opL)∧∀ o,o∈l→Zxo o)∧l.length+1≤Rows.uptoBulk x.1:=by
  haveI:Inhabited Op:=⟨(0,0,0,0,0,0,0,0,ByteArray.empty,0,())⟩
  obtain ⟨l,h1,h2⟩:=Zg7 (Pa:=Zxo) (μ:=fun _=>1) ZgP (by decide) hu hc (ZzR ht hc hti htr htw hts htk ci cr cw csz ck hf hr) h
  refine ⟨l,h1,?_⟩
  have:=Zk3 l
  omega
theorem ZsT {t:TypeId} {fs gs cf:Array Field} {cs:List Value} {fuel:Nat} {x:DataW H × List MemPlace} (ht:P.underlying t=some (.struct fs)) (hc:P.cellsOf t=6) {ti tc tf tg tk:TypeId} (hti:P.underlying ti=some (.int .i64)) (htc:P.underlying tc=some (.struct cf)) (htf:P.underlying tf=some (.slice tg)) (htg:P.underlying tg=some (.struct gs)) (htk:P.underlying tk=some (.int .i64))
    (ci:P.cellsOf ti=1) (cc:P.cellsOf tc=3) (csl:P.cellsOf tf=1) (cg:P.cellsOf tg=4) (ck:P.cellsOf tk=1) (hf:fs.toList.map (fun f=>(f.type,f.offset))=[(ti,0),(ti,1),(tc,2),(tf,5)]) (hcf:cf.toList.map (fun f=>(f.type,f.offset))=[(ti,0),(ti,1),(ti,2)])
    (hg:gs.toList.map (fun f=>(f.type,f.offset))=[(ti,0),(ti,1),(tk,2),(ti,3)]) (h:DataW.trod enc P w base spare held fuel t cs=some x):∃ (a0 a1 a2 a3 a4:Int) (s:Sl) (fl:List F4),cs=[iv a0,iv a1,iv a2,iv a3,iv a4,slV s]∧(Row w.heap s 4 (fl.flatMap f4L)∧(-9223372036854775808≤a1∧a1<9223372036854775808))∧fl.length+1≤Rows.uptoBulk x.1:=by
  obtain ⟨xs,n,rfl,rfl,hl,hlen,hall⟩:=DataW.trod_struct ht h
  rw [hc] at hl
  have hfl:fs.size=4:=by
    have:=congrArg List.length hf
    simpa using this
  match cs,hl with
  | [c0,c1,c2,c3,c4,c5],_ =>
    have fld:∀ {i:Nat} {p:TypeId × Nat} (hi:i<xs.length),([(ti,0),(ti,1),(tc,2),(tf,5)]:List (TypeId × Nat))[i]?=some p→DataW.trod enc P w base spare held n p.1 (([c0,c1,c2,c3,c4,c5].drop p.2).take (P.cellsOf p.1))=some xs[i]:=fun {i p} hi hp=>by
      obtain ⟨f,g1,g2,g3⟩:=ZeM hf hp
      have:=hall i f g1
      rw [g2,g3,List.getElem?_eq_getElem hi] at this
      exact this
    have f0:=fld (i:=0) (by omega) rfl
    have f1:=fld (i:=1) (by omega) rfl
    have f2:=fld (i:=2) (by omega) rfl
    have f3:=fld (i:=3) (by omega) rfl
    dsimp only at f0 f1 f2 f3
    rw [ci] at f0 f1
    rw [cc] at f2
    rw [csl] at f3
    obtain ⟨m0,h0,_⟩:=DataW.trod_int hti f0
    obtain ⟨m1,h1,_,w1⟩:=DataW.trod_int hti f1
    simp at h0 h1
    subst h0 h1
    have hcl:∃ m2 m3 m4:Int,[c2,c3,c4]=[iv m2,iv m3,iv m4]:=by
      obtain ⟨ys,k,_,_,hl2,hlen2,hall2⟩:=DataW.trod_struct htc f2
      have hfl2:cf.size=3:=by
        have:=congrArg List.length hcf
        simpa using this
      have fld2:∀ {i:Nat} {p:TypeId × Nat} (hi:i<ys.length),([(ti,0),(ti,1),(ti,2)]:List (TypeId × Nat))[i]?=some p→DataW.trod enc P w base spare held k p.1 (([c2,c3,c4].drop p.2).take (P.cellsOf p.1))=some ys[i]:=fun {i p} hi hp=>by
        obtain ⟨f,g1,g2,g3⟩:=ZeM hcf hp
        have:=hall2 i f g1
        rw [g2,g3,List.getElem?_eq_getElem hi] at this
        exact this
      have g0:=fld2 (i:=0) (by omega) rfl
      have g1:=fld2 (i:=1) (by omega) rfl
      have g2:=fld2 (i:=2) (by omega) rfl
      dsimp only at g0 g1 g2
      rw [ci] at g0 g1 g2
      obtain ⟨m2,h2,_⟩:=DataW.trod_int hti g0
      obtain ⟨m3,h3,_⟩:=DataW.trod_int hti g1
      obtain ⟨m4,h4,_⟩:=DataW.trod_int hti g2
      simp at h2 h3 h4
      exact ⟨m2,m3,m4,by rw [h2,h3,h4]⟩
    obtain ⟨m2,m3,m4,hcl⟩:=hcl
    simp only [List.cons.injEq,and_true] at hcl
    obtain ⟨rfl,rfl,rfl⟩:=hcl
    have h5:∃ sl:Sl,c5=slV sl:=by
      rcases Deep.open_slice htf f3 with ⟨hcs,_⟩ | ⟨a',len',cap',m,n',D,Pl,hcs,_⟩
      ·simp at hcs
       exact ⟨⟨none,0,0⟩,hcs⟩
      ·simp at hcs
       exact ⟨⟨some a',len',cap'⟩,hcs⟩
    obtain ⟨sl,rfl⟩:=h5
    obtain ⟨fl,q1,q2⟩:=Zxl htf htg cg hti htk ci ck hg f3
    refine ⟨m0,m1,m2,m3,m4,sl,fl,rfl,⟨q1,ZyW w1⟩,?_⟩
    simp only [Rows.uptoBulk]
    have hx3:xs[3]∈xs:=List.getElem_mem (by omega)
    have hb:=Tk.ZlD (List.mem_map_of_mem (f:=fun y:DataW H × List MemPlace=>y.1) hx3)
    omega
end
end Go.Proofs.YtbppjmcinoffnaaGreat
