/- The rules of a kind that are of a resource: of any rules. -/
import Derived.Test.YtonbfpnngkemiaaGreatPa15
set_option linter.unusedVariables false
set_option linter.unusedSimpArgs false
namespace Go.Proofs.YtonbfpnngkemiaaGreat
open Go Go.Fw Go.Js
theorem Ztx{α β:Type}{nm:β->ByteArray}{res:ByteArray}{f:α->β}:∀(l:List α) (i:Nat),ofL (λa=>nm (f a)) res l i=ofL nm res (l.map f) i
  |[],_=>rfl
  | a::l,i=>by
    show(if _ then _ else _)=(if _ then _ else _);rw[Ztx l (i+1)]
def ofK(r:RulesP)(kind:Int)(res:ByteArray):List Int:=if kind=1 then ofL (λf:FlowP=>Zu f.res) res r.fl 0 else if kind=2 then ofL (λf:YK=>Zu f.res) res r.br 0 else if kind=3 then ofL (λf:ZdX=>Zu f.res) res r.ho 0
  else if kind=4 then ofL (λ_:Zas=>res) res r.sy 0 else if kind=5 then ofL (λf:Zbi=>Zu f.res) res r.li 0 else []
theorem ZSH{h:Zf}{S:Nat->Prop}{z:Rw.VTR}{r:RulesP}(x:Rw.Yn h S z r)(y:∀b,S b->b<sz h)(hl:ZsF r){kind:Int}{res:ByteArray}{K:Sl->Zf->Prop}(W:∀h' t,Ext h h'->Own h' (sz h) t 1 ((ofK r kind res).map iv)->K t h'):ZaZ z kind res K h:=by
  unfold ZaZ Zmu;refine ZF λh1 c1 X Y=>ZF λj Z T z2=>ZF λh3 v G z3=>?_;have w1:sz h1=sz h+1:=Y;have w2:sz j=sz h1+1:=z2;have w3:sz h3=sz j+1:=z3;have c:=(X.trans T).trans G;have m:=Zj (Zj c1 T) G;have d:=Zj Z G;have ne:sz h1≠sz j:=by omega
  have fin:∀{h':Zf} {t:Sl} {L:List Int},Upd (· = sz j) h3 h'->Own h' (sz h3) t 1 (L.map iv)->L=ofK r kind res->K t h':=λ{h' t L} u o e=>by
    subst e;exact W h' t (c.then u λk H=>by rw[H];show sz h<=sz j;omega) (o.base (by omega))
  obtain⟨U,B,I,ab⟩:=x.ho;obtain⟨V,C,J,ae⟩:=x.li;have M:=ZeN x.fl y c;have N:=ZeN x.br y c;have O:=ZeN I y c;have rs:=ZeN x.sy y c;have P:=ZeN J y c;have lf:=hl.f;have lb:=hl.b;have lh:=hl.h;have ls:=hl.s;have ll:=hl.l;have af:U.length=r.ho.length:=by rw[<-B,Ayv]
  have ag:V.length=r.li.length:=by rw[<-C,Ayv]
  have big:sz h<=sz j:=by omega
  refine Zd (Ym (λq=>?_) λq=>Zd (Ym (λw=>?_) λw=>Zd (Ym (λD=>?_) λD=>Zd (Ym (λE=>?_) λE=>Zd (Ym (λR=>?_) λR=>?_)))))
  ·exact rL (s:=z.1) (Zb m rfl) (ZrZ (body:=ZsB z.1) (b2:=sz h1) (b4:=sz j) (Y2 (g:=Rw.ZcR) (n:=12) (λ_=>rfl) M.1 (by decide)) lf d v ne (ZEh M.1 (M.2 _ big)) λh' t u o=>fin u o (by unfold ofK;rw[if_pos q]))
  ·exact rL (s:=z.2.1) (Zb m rfl) (ZrZ (body:=ZpZ z.2.1) (b2:=sz h1) (b4:=sz j) (Y2 (g:=Rw.ZbN) (n:=7) (λ_=>rfl) N.1 (by decide)) lb d v ne (ZA5 N.1 (N.2 _ big)) λh' t u o=>fin u o (by unfold ofK;rw[if_neg q,if_pos w]))
  ·exact rL (s:=z.2.2.1) (Zb m rfl) (ZrZ (body:=ZuS z.2.2.1) (b2:=sz h1) (b4:=sz j) (Y2 (g:=Rw.ZjI) (n:=5) (λ_=>rfl) O.1 (by decide)) (by omega) d v ne (ZG8 O.1 (O.2 _ big)) λh' t u o=>fin u o (by unfold ofK;rw[if_neg q,if_neg w,if_pos D,<-B];exact Ztx (nm:=λf:ZdX=>Zu f.res) (f:=λp:Sl×ZdX=>p.2) U 0))
  ·exact rL (s:=z.2.2.2.1) (Zb m rfl) (ZrZ (A:=r.sy) (nm:=λ_=>res) (b2:=sz h1) (b4:=sz j) (body:=λQ i F=>Zc i λ_=>ldS F (sz h1) 0 λt=>Q t F) (Y2 (g:=Rw.ZdB) (n:=5) (λ_=>rfl) rs.1 (by decide)) ls d v ne (λi a F Q _ u hq=>Za (rS (Zb (Y0 d u ne) rfl) (hq F (Ext.refl _)))) λh' t u o=>fin u o (by unfold ofK;rw[if_neg q,if_neg w,if_neg D,if_pos E]))
  ·exact rL (s:=z.2.2.2.2.1) (Zb m rfl) (ZrZ (body:=ZsA z.2.2.2.2.1) (b2:=sz h1) (b4:=sz j) (Y2 (g:=Rw.Zhp) (n:=3) (λ_=>rfl) P.1 (by decide)) (by omega) d v ne (ZEg P.1 (P.2 _ big)) λh' t u o=>fin u o (by unfold ofK;rw[if_neg q,if_neg w,if_neg D,if_neg E,if_pos R,<-C];exact Ztx (nm:=λf:Zbi=>Zu f.res) (f:=λp:Sl×Zbi=>p.2) V 0))
  ·exact rL (s:=sl0) (Zb v rfl) (fin (L:=[]) (Upd.refl _ _) (Own.nil _ _ _) (by unfold ofK;rw[if_neg q,if_neg w,if_neg D,if_neg E,if_neg R]))
abbrev P4:=ByteArray×ByteArray×ByteArray×Bool×Unit
def Zay(r:F12)(c:C8):P4:=if r.2.2.2.2.1=1 then(r.2.2.2.2.2.1,ByteArray.mk #[],ByteArray.mk #[],false,())else if r.2.2.2.2.1=2 then(if Z2 c.2.2.1 r.2.2.2.2.2.1=true then(c.2.1,c.2.2.1,ByteArray.mk #[],false,())else(ByteArray.mk #[],ByteArray.mk #[],ByteArray.mk #[],true,()))
  else if Z2 r.2.1 (ByteArray.mk #[100,101,102,97,117,108,116])=true then(c.2.1,ByteArray.mk #[],ByteArray.mk #[],false,())else(c.2.1,ByteArray.mk #[],c.2.2.2.1,false,())
theorem ZtW{r:F12}{c:C8}{h:Zf}{K:P4->Zf->Prop}(y:∀h',Ext h h'->K (Zay r c) h'):Zcn r c K h:=by
  unfold Zcn Zil;refine ZF λh1 c1 v D=>ZF λm z p E=>ZF λh3 A q z3=>?_;have g:=Zj (Zj c1 p) q;have f:=Zj z q;have s:=(v.trans p).trans q
  have fin:∀{a b d:ByteArray} {e:Bool},Zay r c=(a,b,d,e,())->sts h3 m.size 0 [.string a,.string b,.string d,.bool e] λi=>ldS i m.size 0 λt9=>ldS i m.size (0+1) λt10=>ldS i m.size (0+2) λt11=>ldB i m.size (0+3) λt12=>K (t9,t10,t11,t12,()) i:=λ{a b d e} hv=>
    ZaN A λB o C z4=>rS (Zb o rfl) (rS (Zb o rfl) (rS (Zb o rfl) (rB (Zb o rfl) (hv▸y B (s.then C λk t=>by subst t;exact(v.trans p).size)))))
  have w:∀{b:Bool},(!b)=true->¬b=true:=λu i=>by rw[i]at u;cases u
  have x:∀{b:Bool},(!b)=false->b=true:=λ{b} u=>by cases b<;>simp_all
  refine rI (Zb g rfl) (Zd (Ym (λl=>rS (Zb g rfl) (fin (if_pos l))) λl=>Zd (Ym (λn=>rS (Zb f rfl) (rS (Zb g rfl) ⟨λj=>?_,λj=>?_⟩)) λn=>rS (Zb g rfl) ⟨λj=>?_,λj=>?_⟩)))
  ·exact fin ((if_neg l).trans ((if_pos n).trans (if_neg (w j))))
  ·exact rS (Zb f rfl) (rS (Zb f rfl) (fin ((if_neg l).trans ((if_pos n).trans (if_pos (x j))))))
  ·exact rS (Zb f rfl) (rS (Zb f rfl) (fin ((if_neg l).trans ((if_neg n).trans (if_neg (w j))))))
  ·exact rS (Zb f rfl) (fin ((if_neg l).trans ((if_neg n).trans (if_pos (x j)))))
def Zmg(r:F12)(passed a count:Int):Bool:=if r.2.2.1=true then decide (a<r.2.2.2.1)else if passed<0/\IntKind.wrap .i64 (r.2.2.2.1-passed)<r.2.2.2.1 then true else if passed>=0/\IntKind.wrap .i64 (r.2.2.2.1-passed)>r.2.2.2.1 then false else decide (count<=IntKind.wrap .i64 (r.2.2.2.1-passed))
theorem ZBH{r:F12}{passed a count:Int}{h:Zf}{K:Bool->Zf->Prop}(f:∀h',Ext h h'->K (Zmg r passed a count) h'):ZeZ r passed a count K h:=by
  unfold Zmg at f;unfold ZeZ ZhA;refine ZF λh1 c1 g j=>rB (Zb c1 rfl) ⟨λq=>rI (Zb c1 rfl) (Zd ?_),λq=>rI (Zb c1 rfl) (Za ?_)⟩
  ·have:=f h1 g;rwa[if_pos (show r.2.2.1=true from q)]at this
  have e:=f h1 g;rw[if_neg (show ¬r.2.2.1=true from λb=>by rw[show r.2.2.1=false from q]at b;cases b)]at e
  have second:¬(passed<0/\IntKind.wrap .i64 (r.2.2.2.1-passed)<r.2.2.2.1)->Zk (decide (passed>=0)) (ldI h1 h.size (0+3) .i64 λt7=>Zq (decide (IntKind.wrap .i64 (r.2.2.2.1-passed)>t7)) λt8=>Zk t8 (K false h1) (Zq (decide (count<=IntKind.wrap .i64 (r.2.2.2.1-passed))) λt9=>K t9 h1)) (Zq (decide (count<=IntKind.wrap .i64 (r.2.2.2.1-passed))) λt10=>K t10 h1):=λi=>by
    rw[if_neg i]at e;refine Zn (λc=>rI (Zb c1 rfl) (Zd (Zn (λd=>?_) λd=>Zd ?_))) λc=>Zd ?_
    ·rwa[if_pos ⟨c,d⟩]at e
    ·rwa[if_neg λb=>d b.2]at e
    ·rwa[if_neg λb=>c b.1]at e
  refine Zn (λc=>rI (Zb c1 rfl) (Zd (Zn (λd=>?_) λd=>second λb=>d b.2))) λc=>second λb=>c b.1;rwa[if_pos ⟨c,d⟩]at e
theorem ZBu(b:ByteArray):∃t:BL,b=Zu t:=⟨b.data.toList,by
  cases b
  simp[Zu]⟩
theorem Zu9(f:Zbi)(origin:ByteArray):∃b:Bool,∀{h:Zf} {x:Sl} {K:Bool->Zf->Prop},(f.res.length<9223372036854775807/\∀n,n∈f.origins->n.length<9223372036854775807)->Row h x 1 (f.origins.map Rw.sV)->(∀h',Ext h h'->K b h')->ZeG (Rw.ZHj x f) origin K h:=by
  obtain⟨t,rfl⟩:=ZBu origin
  by_cases q:f.err=0
  case neg=>
    refine⟨false,λ{h x K} hl d e=>?_⟩;unfold ZeG Zgv;refine ZF λh1 c1 a i=>rS (Zb c1 rfl) (rB (Zb c1 rfl) (rL (Zb c1 rfl) (Rw.ZhW (f:=f) (x:=x) hl (d.ext a) λg c=>Zm (by simpa using q) (e g (a.trans c)))))
  by_cases j:Z2 (Zu t) (ByteArray.mk #[])=true
  ·refine⟨true,λ{h x K} hl d e=>?_⟩;unfold ZeG Zgv;refine ZF λh1 c1 a i=>rS (Zb c1 rfl) (rB (Zb c1 rfl) (rL (Zb c1 rfl) (Rw.ZhW (f:=f) (x:=x) hl (d.ext a) λg c=>Zh (by rw[q];rfl) (Zm j (e g (a.trans c))))))
  ·refine ⟨decide (t∈f.origins)==f.white,λ{h x K} hl d e=>?_⟩
   unfold ZeG Zgv;have k:Z2 (Zu t) (ByteArray.mk #[])=false:=by simpa using j
   refine ZF λh1 c1 a i=>rS (Zb c1 rfl) (rB (Zb c1 rfl) (rL (Zb c1 rfl) (Rw.ZhW (f:=f) (x:=x) hl (d.ext a) λg c=>Zh (by rw[q];rfl) (Zh k (rL (s:=x) (Zb (Zj c1 c) rfl) ?_)))));exact⟨(decide (t∈f.origins),()),Rw.Zop (d.ext (a.trans c)) ⟨rfl,rfl⟩,rB (Zb (Zj c1 c) rfl) (Zd (e g (a.trans c)))⟩
abbrev ZGM:ByteArray:=ByteArray.mk #[100,101,102,97,117,108,116]
abbrev ZPI:ByteArray:=ByteArray.mk #[111,116,104,101,114]
theorem Zgw(f:FlowP):(Rw.ZcR f).length=12:=rfl
def Zue(f:FlowP)(origin:ByteArray)(r:FlowP):Bool:=if Z2 (Zu r.res) (Zu f.res)=true then(if Z2 (Zu r.org) origin=true then(if Z2 origin ZGM=true then false else !(Z2 origin ZPI))else false)else false
theorem ZvD{A:List FlowP}{x:Sl}{h:Zf}{d1 d2 d3 i:Nat}{f:FlowP}{origin:ByteArray}{T1 T2 w:TypeId}(u:Row h x 12 (A.flatMap Rw.ZcR))(y:A[i]?=some f)(c1:obj h d1=some (.cells [slV x].toArray T1 (0,0)))(z:obj h d2=some (.cells [iv i].toArray T2 (0,0)))(B:obj h d3=some (.cells [.string origin].toArray w (0,0))){K:Bool->Zf->Prop}(C:∀h',Ext h h'->K (decide (ixV (Zue f origin) A>=0)) h'):
    ZE x (some ⟨d1,0,none⟩,some ⟨d2,0,none⟩,some ⟨d3,0,none⟩,()) K h:=by
  unfold ZE ZV Z6 Yb;refine ZkE Zgw u (by decide) (p:=Zue f origin) (tst:=λQ b o h3=>ldS h3 b o λt0=>ldS h3 b (o+1) λt1=>ldB h3 b (o+2) λt2=>ldI h3 b (o+3) .i64 λt3=>ldI h3 b (o+4) .u8 λt4=>ldS h3 b (o+5) λt5=>ldI h3 b (o+6) .u8 λt6=>ldI h3 b (o+7) .i64 λt7=>ldI h3 b (o+8) .i64 λt8=>ldB h3 b (o+9) λt9=>ldI h3 b (o+10) .i64 λt10=>ldB h3 b (o+11) λt11=>ZcI (t0,t1,t2,t3,t4,t5,t6,t7,t8,t9,t10,t11,()) (some ⟨d1,0,none⟩) (some ⟨d2,0,none⟩) (some ⟨d3,0,none⟩) Q h3) ?_ λh3 D=>Zd (C h3 D);intro j a b o G Q H he c E;refine rS (c 0 _ rfl) (rS (c 1 _ rfl) (rB (c 2 _ rfl) (rI (c 3 _ rfl) (rI (c 4 _ rfl) (rS (c 5 _ rfl) (rI (c 6 _ rfl) (rI (c 7 _ rfl) (rI (c 8 _ rfl) (rB (c 9 _ rfl) (rI (c 10 _ rfl) (rB (c 11 _ rfl) (?_))))))))))));unfold ZcI Zfs;refine ZF λF v g z4=>rS (Zb v rfl) (Zi (rL (s:=x) (Zb (Zj (Zj c1 he) g) rfl) (Zi (rI (Zb (Zj (Zj z he) g) rfl) ?_))));obtain⟨I,J,_,_,k,r⟩:=Zab Zgw (u.ext (he.trans g)) y (by decide);have t:=Zj (Zj B he) g;have q:=E F (he.trans g);unfold Zue at q;refine k rfl (rS (r 0 _ rfl) ⟨λl=>rS (Zb v rfl) (Zi (rS (Zb t rfl) ⟨λn=>Zi (rS (Zb t rfl) ⟨λm=>Zi (rS (Zb t rfl) (Zd ?_)),λm=>?_⟩),λn=>?_⟩)),λl=>?_⟩)
  ·have e:¬Z2 origin ZGM=true:=λd=>by rw[d]at m;cases m
   rwa[if_pos l,if_pos n,if_neg e]at q
  ·have e:Z2 origin ZGM=true:=by cases d:Z2 origin ZGM with
     |true=>rfl
     |false=>rw[d]at m;cases m
   rwa[if_pos l,if_pos n,if_pos e]at q
  ·rwa[if_pos l,if_neg (λd=>by rw[show Z2 (Zu a.org) origin=false from n]at d;cases d)]at q
  ·rwa[if_neg (λd=>by rw[show Z2 (Zu a.res) (Zu f.res)=false from l]at d;cases d)]at q
def ZBs(A:List FlowP)(f:FlowP)(origin:ByteArray):Bool:=if Z2 (Zu f.org) ZGM=true then true else if Z2 (Zu f.org) origin=true then true else if Z2 (Zu f.org) ZPI=true then !decide (ixV (Zue f origin) A>=0)else false
theorem Zt7{A:List FlowP}{i:Nat}{f:FlowP}(l:A[i]?=some f)(E:A.length<=256)(origin:ByteArray){h:Zf}{x:Sl}{K:Bool->Zf->Prop}(m:Row h x 12 (A.flatMap Rw.ZcR))(n:∀h',Ext h h'->K (ZBs A f origin) h'):X9 x i origin K h:=by
  have w:=ZbP l;unfold ZBs at n;unfold X9 ZgL;have F:=Y2 Zgw m (by decide);refine ZF λh1 c1 y G=>ZF λH z t I=>ZF λh3 u o z3=>?_;have a:=Zj (Zj c1 t) o;have c:=Zj z o;have d:=(y.trans t).trans o;have p:=n h3 d;refine rI (Zb c rfl) (Zh (decide_eq_false (by omega)) (rI (Zb c rfl) (rL (s:=x) (Zb a rfl) (Zh (decide_eq_false (by omega)) (rL (s:=x) (Zb a rfl) (rI (Zb c rfl) ?_))))));obtain⟨J,L,_,_,k,q⟩:=Zab Zgw (m.ext d) l (by decide);have e:∀{b:Bool},b=false->¬b=true:=λB v=>by rw[B]at v;cases v
  refine k rfl (rS (q 1 _ rfl) (Zd ⟨λg=>⟨λ_=>?_,λj=>?_⟩,λg=>rS (Zb u rfl) (Zd ⟨λj=>?_,λj=>Zd ⟨λr=>rL (s:=x) (Zb a rfl) (ZvD (m.ext d) l a c u λC D=>Zd ?_),λr=>?_⟩⟩)⟩))
  ·rwa[if_pos g]at p
  ·exact(e j g).elim
  ·rwa[if_neg (e g),if_pos j]at p
  ·have:=n C (d.trans D);rwa[if_neg (e g),if_neg (e j),if_pos r]at this
  ·rwa[if_neg (e g),if_neg (e j),if_neg (e r)]at p
theorem Zts{n:Nat}{it:Yld->Nat->(Zf->Prop)->Zf->Prop}{body:Nat->Loop->List Value->Zf->(Option Code->Zf->Prop)->Prop}{h:Zf}{K:Option Code->Nat->Zf->Prop}
    (a:∀r h1,obj h1 (sz h)=some (.deferred (some []))->obj h1 (sz h+1)=some (ZdC r .ready none)->Ext h h1->sz h1=sz h+2 ->
      it (Zpb r (sz h+1) n (body (sz h+1) r)) (sz h+1) (λh'=>∃st p,st≠ .busy/\(obj h' (sz h+1)=some (ZdC r st p)/\K p (sz h) (Zns h' (sz h+1) (ZdC r .exhausted p)))) h1):Zpp n it body h K:=by
  rw[ZnF];intro r;refine a r _ ?_ ?_ (X7 (X7 (Ext.refl h))) ?_
  ·rw[Zm2,if_neg (by rw[ZbQ];omega),Zm2,if_pos rfl]
  ·rw[Zm2,if_pos (by rw[ZbQ])]
  ·rw[ZbQ,ZbQ]
theorem Ziv{h:Zf}{l:Nat}{x y:Obj}(a:obj h l=some x){K:Zf->Prop}(b:∀h1,obj h1 l=some y->Upd (· = l) h h1->sz h1=sz h->K h1):K (Zns h l y):=
  b _ (by rw[YX (Zp a),if_pos rfl]) (ZhN (Upd.refl _ _) (.inr rfl)) Y7
theorem Zth{r:Loop}{l n:Nat}{body:List Value->Zf->(Option Code->Zf->Prop)->Prop}{vs:List Value}{k:Bool->Zf->Prop}{h:Zf}(hl:vs.length=n)(a:obj h l=some (ZdC r .ready none))
    (b:body vs h λp h'=>(obj h' l=some (ZdC r .busy none)/\k p.isNone (Zns h' l (ZdC r (if p.isNone then .ready else .done) p)))):Zpb r l n body l vs k h:=⟨rfl,hl,a,b⟩
theorem Zwl{r:Loop}{l:Nat}{h:Zf}{K:Zf->Prop}(a:obj h l=some (ZdC r .ready none))(b:∀h1,obj h1 l=some (ZdC r .busy none)->Upd (· = l) h h1->sz h1=sz h->K h1):ZtQ r l h K:=by rw[Zrf];exact⟨a,Ziv a b⟩
theorem ZvI{D:Nat}{h:Zf}{K:Zf->Prop}(hd:obj h D=some (.deferred (some [])))(a:∀h1,Upd (· = D) h h1->sz h1=sz h->K h1):Zlq D h K:=by rw[Zqz];exact⟨hd,Ziv hd λh1 _ u z=>a h1 u z⟩
def Zgm(cb:Nat->Bool)(c:C8):List FlowP->Nat->List Int
  |[],_=>[]
  |f::l,i=>if Z2 (Zu f.res) c.2.1=true/\cb i=true/\(Zay (Rw.ZaL f) c).2.2.2.1=false then(i:Int)::Zgm cb c l (i+1)else Zgm cb c l (i+1)
def cbK(A:List FlowP)(c:C8)(i:Nat):Bool:=match A[i]? with
  |some f=>ZBs A f c.2.2.2.1
  |none=>false
def ZmZ(A:List FlowP)(c:C8):List Int:=Zgm (cbK A c) c A 0
theorem ZHZ{A:List FlowP}(hA:A.length<=256){c:C8}{h:Zf}{s:Sl}{K:Sl->Zf->Prop}(hs:Row h s 12 (A.flatMap Rw.ZcR))(hk:∀h' t,Ext h h'->Own h' (sz h) t 1 ((ZmZ A c).map iv)->K t h'):ZgZ s c K h:=by
  have ag:∀(i:Nat) f,A[i]?=some f->∀{h:Zf} {x:Sl} {K:Bool->Zf->Prop},Row h x 12 (A.flatMap Rw.ZcR)->(∀h',Ext h h'->K (cbK A c i) h')->X9 x i c.2.2.2.1 K h:=λi f hf {h x K} h1 P=>by
    unfold cbK at P;rw[hf]at P;exact Zt7 hf hA c.2.2.2.1 h1 P
  unfold ZmZ at hk;generalize cbK A c=cb at ag hk;unfold ZgZ Zje;have hl:=Y2 Zgw hs (by decide);refine ZF λh1 c1 e1 z1=>ZF λP c2 e2 z2=>?_;have R:=Zj c1 e2;refine rI (Zb R rfl) (rS (Zb R rfl) (rS (Zb R rfl) (rS (Zb R rfl) (rB (Zb R rfl) (rI (Zb R rfl) (rL (s:=c.2.2.2.2.2.2.1) (Zb R rfl) ?_))))));unfold ZgY Zjd;refine ZF λh3 c3 e3 z3=>ZF λg c4 e4 z4=>Zts λr C d5 r5 e5 z5=>?_;have w1:sz h1=sz h+1:=z1;have w2:sz P=sz h1+1:=z2;have w3:sz h3=sz P+1:=z3;have w4:sz g=sz h3+1:=z4;have w5:sz C=sz g+2:=z5;have x5:=Zj R ((e3.trans e4).trans e5);have s5:=Zj c2 ((e3.trans e4).trans e5);have a5:=Zj c3 (e4.trans e5);have b5:=Zj c4 e5;have aK:Ext h C:=(((e1.trans e2).trans e3).trans e4).trans e5;unfold ZeY Zhz
  refine Zi (rL (s:=s) (Zb a5 rfl) (Zaj (λ(p:Int×Unit) I=>∃(i:Nat) (L:List Int) (t:Sl),p=((i:Int),())/\i<=A.length/\L.length<=i/\Upd (λk=>k=sz h1\/k=sz g+1) C I/\obj I (sz h1)=some (.cells [slV t].toArray 60 (0,0))/\obj I (sz g+1)=some (ZdC r .ready none)/\Own I (sz C) t 1 (L.map iv)/\L++Zgm cb c (A.drop i) i=Zgm cb c A 0) (λp _=>((A.length:Int)- p.1).toNat)
    ⟨0,[],sl0,rfl,Ayg _,Aqo _,Upd.refl _ _,s5,r5,Own.nil _ _ _,rfl⟩ ?_))
  rintro _ I ⟨i,L,t,rfl,bD,hL,u,sh,rh,ho,hm⟩ Q hQ;dsimp only;have keep:∀{j:Nat} {x:Obj},obj C j=some x->j≠sz h1->j≠sz g+1->obj I j=some x:=λ{j x} hj n1 n2=>Y0 hj u λe=>e.elim n1 n2;have wh:sz C<=sz I:=u.size;have dh:=keep d5 (by omega) (by omega)
  have T:Ext h I:=aK.then u λk a=>by rcases a with e|e<;>(rw[e];show sz h<=_;omega)
  refine Zn (λq=>?_) λq=>?_
  case refine_2=>
    have hd:A.drop i=[]:=Ayq (by omega);rw[hd,show Zgm cb c [] i=[]from rfl,Ayt]at hm;rw[hm]at ho;refine⟨.ready,none,by decide,rh,?_⟩;rw[Zn2];refine Ziv rh (K:=λhx=>ldL hx (sz h1) 0 λt46=>Zlq (sz g) hx λaM=>K t46 aM) λh6 c6 u6 z6=>?_;have s6:obj h6 (sz h1)=_:=(u6.old _ (Zp sh) (show ¬sz h1=sz g+1 by omega)).trans sh;have d6:obj h6 (sz g)=_:=(u6.old _ (Zp dh) (show ¬sz g=sz g+1 by omega)).trans dh;refine rL (s:=t) (Zb s6 rfl) (ZvI d6 λh7 u7 z7=>hk h7 t ?_ ?_)
    ·exact(T.then u6 λk a=>by subst a;show sz h<=sz g+1;omega).then u7 λk a=>by subst a;show sz h<=sz g;omega
    ·exact((ho.congr λb U d aP=>u6.old b d (by show ¬b=sz g+1;omega)).congr λb U d aP=>u7.old b d (by show ¬b=sz g;omega)).base (by omega)
  have hi:i<A.length:=by omega
  have ga:A[i]?=some A[i]:=Axy hi;have dr:A.drop i=A[i]::A.drop (i+1):=Ayo hi;rw[dr]at hm;generalize A[i]=f at ga hm;rw[show Zgm cb c (f::A.drop (i+1)) i=if Z2 (Zu f.res) c.2.1=true/\cb i=true/\(Zay (Rw.ZaL f) c).2.2.2.1=false then(i:Int)::Zgm cb c (A.drop (i+1)) (i+1)else Zgm cb c (A.drop (i+1)) (i+1)from rfl]at hm;have V:IntKind.wrap .i64 ((i:Int)+1)=((i+1:Nat):Int):=wrS hi (by omega);have W:((A.length:Int)- ((i+1:Nat):Int)).toNat<((A.length:Int)- ((i:Nat):Int)).toNat:=by omega
  have skip:∀{w:Zf},Ext I w->¬(Z2 (Zu f.res) c.2.1=true/\cb i=true/\(Zay (Rw.ZaL f) c).2.2.2.1=false)->Q (IntKind.wrap .i64 ((i:Int)+1),()) w:=λ{w} e9 X=>by
    rw[if_neg X]at hm;rw[V];exact hQ _ _ ⟨i+1,L,t,rfl,hi,by omega,u.trans (e9.upd _),Zj sh e9,Zj rh e9,ho.congr (λk a d _=>e9.old k d),hm⟩ W
  obtain⟨b,o,hb,bJ,ak,G⟩:=Zab Zgw (hs.ext T) ga (by decide);refine ak rfl (rS (G 0 _ rfl) (rS (G 1 _ rfl) (rB (G 2 _ rfl) (rI (G 3 _ rfl) (rI (G 4 _ rfl) (rS (G 5 _ rfl) (rI (G 6 _ rfl) (rI (G 7 _ rfl) (rI (G 8 _ rfl) (rB (G 9 _ rfl) (rI (G 10 _ rfl) (rB (G 11 _ rfl) (ZF λh6 c6 e6 z6=>Za (ZaN c6 λh7 c7 u7 z7=>?_))))))))))))));have e7:Ext I h7:=e6.then u7 λk a=>by subst a;exact Aqo _
  have bh:=keep b5 (by show sz h3≠sz h1;omega) (by show sz h3≠sz g+1;omega);have ah:=keep a5 (by show sz P≠sz h1;omega) (by show sz P≠sz g+1;omega);have xh:=keep x5 (by show sz h≠sz h1;omega) (by show sz h≠sz g+1;omega);have b7:=Zj bh e7;refine rS (Zb c7 rfl) (Zi (rS (Zb b7 rfl) ⟨λq1=>Zi (rL (s:=s) (Zb (Zj ah e7) rfl) (Zi (rS (Zb b7 rfl) (ag i f ga (hs.ext (T.trans e7)) λh8 e8=>⟨λq2=>?_,λq2=>skip (e7.trans e8) λw=>by rw[w.2.1]at q2;cases q2⟩)))),λq1=>skip e7 λw=>by rw[show Z2 (Zu f.res) c.2.1=false from q1]at w;cases w.1⟩));have H:=Zj c7 e8;have Y:=e7.trans e8;refine rS (Zb H rfl) (rS (Zb H rfl) (rB (Zb H rfl) (rI (Zb H rfl) (rI (Zb H rfl) (rS (Zb H rfl) (rI (Zb H rfl) (rI (Zb H rfl) (rI (Zb H rfl) (rB (Zb H rfl) (rI (Zb H rfl) (rB (Zb H rfl) ?_)))))))))));refine Zth rfl (Zj rh Y) ⟨(i,Rw.ZaL f,()),rfl,Za (ZF λw c9 e9 z9=>ZaN c9 λJ aT aU bP=>?_)⟩;have al:Ext h8 J:=e9.then aU λk a=>by subst a;exact Aqo _
  have v:=Y.trans al;refine Zwl (Zj rh v) λE an Z aV=>?_;have nr:∀{j:Nat} {x:Obj},obj J j=some x->j≠sz g+1->obj E j=some x:=λ{j x} hj X=>(Z.old j (Zp hj) X).trans hj;have w8:sz I<=sz h8:=Y.size;have bQ:sz h8<=sz J:=al.size;have bR:sz E=sz J:=aV;have m:=nr aT (by show sz h8≠sz g+1;omega);have z:=nr (Zj xh v) (by show sz h≠sz g+1;omega);have O:=nr (Zj sh v) (by show sz h1≠sz g+1;omega);have D:Upd (λk=>k=sz h1\/k=sz g+1) C E:=(u.trans (v.upd _)).trans (Z.mono λk _ a=>.inr a);refine rS (Zb m rfl) (rS (Zb m rfl) (rB (Zb m rfl) (rI (Zb m rfl) (rI (Zb m rfl) (rS (Zb m rfl) (rI (Zb m rfl) (rI (Zb m rfl) (rI (Zb m rfl) (rB (Zb m rfl) (rI (Zb m rfl) (rB (Zb m rfl) ?_)))))))))));refine rI (Zb z rfl) (rS (Zb z rfl) (rS (Zb z rfl) (rS (Zb z rfl) (rB (Zb z rfl) (rI (Zb z rfl) (rL (s:=c.2.2.2.2.2.2.1) (Zb z rfl) ?_))))));have S:Own E (sz C) t 1 (L.map iv):=(ho.congr (h':=J) λk a d _=>v.old k d).congr λk a d U=>Z.old k d (by show ¬k=sz g+1;omega);refine ZtW (r:=Rw.ZaL f) (c:=c) λaX B=>⟨λq3=>?_,λq3=>?_⟩
  ·have qw:(Zay (Rw.ZaL f) c).2.2.2.1=false:=by
     cases w:(Zay (Rw.ZaL f) c).2.2.2.1 with
     |false=>rfl
     |true=>rw[w]at q3;cases q3
   rw[if_pos ⟨q1,q2,qw⟩]at hm;refine rL (s:=t) (Zb (Zj O B) rfl) (ZF λF aY aZ bS=>(ZkO aY rfl).rd ?_);have l:=B.trans aZ;have tl:t.len=L.length:=by have:=ho.len;simp at this;omega
   have bT:sz E<=sz F:=l.size;have aq:=S.congr (h':=F) λk a d _=>l.old k d;refine aq.app (n:=1) rfl rfl rfl (by omega) (by omega) (by show sz C<=sz F;omega) λt9 ba ar _ M bU=>?_;have tn:∀{j:Nat},j<sz C->t.blk≠some j:=λ{j} hj e=>by have:=(ho.lt e).1;omega
   have bp:F.size=sz F:=rfl;have au:∀{j:Nat},j<sz C->t9.blk≠some j:=λ{j} hj e=>by have:=(ar.lt e).1;omega
   refine ZcS (Y0 (Zj O l) M (tn (show sz h1<sz C by omega))) (show 0<1 by decide) XC λbc av N bV=>?_;have aw:obj bc (sz g+1)=_:=Y0 (Y0 (Zj an l) M (tn (show sz g+1<sz C by omega))) N (by show ¬sz g+1=sz h1;omega);refine⟨aw,Ziv (y:=ZdC r .ready none) aw (K:=λhx=>Zk (!(none:Option Code).isNone) _ _) λbd aa u16 bf=>Zh rfl ?_⟩;rw[V];refine hQ _ _ ⟨i+1,L++[(i:Int)],t9,rfl,hi,by simp;omega,?_,(u16.old _ (Zp av) (show ¬sz h1=sz g+1 by omega)).trans av,aa,?_,by rw[<-hm,Ayx];rfl⟩ W
   ·refine⟨Aqp (Aqp D.size (Aqp l.size M.size)) (Aqp N.size u16.size),λk a X=>?_⟩;have bg:k<sz C:=a;have ax:k<E.size:=Aqq a D.size;have ay:k<F.size:=Aqq ax l.size;have az:k<ba.size:=Aqq ay M.size;rw[u16.old k (Aqq az N.size) (λe=>X (.inr e)),N.old k az (λe=>X (.inl e)),M.old k ay (tn bg),l.old k ax,D.old k a X]
   ·rw[Ayw];exact(ar.congr λk a d _=>N.old k d λe=>au (j:=sz h1) (by omega) (by rw[<-show k=sz h1 from e];exact a)).congr λk a d _=>u16.old k d λe=>au (j:=sz g+1) (by omega) (by rw[<-show k=sz g+1 from e];exact a)
  ·have qw:(Zay (Rw.ZaL f) c).2.2.2.1=true:=by
     cases w:(Zay (Rw.ZaL f) c).2.2.2.1 with
     |true=>rfl
     |false=>rw[w]at q3;cases q3
   have aA:=Zj an B;refine⟨aA,Ziv (y:=ZdC r .ready none) aA (K:=λhx=>Zk (!(none:Option Code).isNone) _ _) λbd aa u16 bf=>Zh rfl ?_⟩;rw[if_neg λw=>by rw[w.2.2]at qw;cases qw]at hm;rw[V];exact hQ _ _ ⟨i+1,L,t,rfl,hi,by omega,(D.trans (B.upd _)).trans (u16.mono λk _ a=>.inr a),(u16.old _ (Zp (Zj O B)) (show ¬sz h1=sz g+1 by omega)).trans (Zj O B),aa,(S.congr (h':=aX) λk a d _=>B.old k d).congr (λk a d U=>u16.old k d (by show ¬k=sz g+1;omega)),hm⟩ W
end Go.Proofs.YtonbfpnngkemiaaGreat
namespace Go.Proofs.YtonbfpnngkemiaaGreat
open Go Go.Fw
open Nat renaming reduceAdd->Nqa,reduceLT->Nqb,reduceLeDiff->Nqc,reduceEqDiff->Nqd,reduceMul->Nqe
end Go.Proofs.YtonbfpnngkemiaaGreat
namespace Go.Proofs.YtonbfpnngkemiaaGreat
open Go Go.Fw Go.Js
abbrev nl:Sl:=⟨none,0,0⟩
abbrev bkL(a:Nat)(g:Int):List Value:=[.pointer (some ⟨a,0,none⟩),iv g]
def Tree.zero:Tree:=⟨λ_=>none,[],0⟩
inductive Tg
  |ro
  |p (b:Nat)
abbrev TgM:=Nat->Option Tg
def ZdW(T T':TgM):Prop:=∀j,T j≠none->T' j=T j
theorem ZdW.refl(T:TgM):ZdW T T:=λ_ _=>rfl
theorem ZdW.trans{T T' T'':TgM}(a:ZdW T T')(b:ZdW T' T''):ZdW T T'':=λj c=>by
  have e:=a j c;exact(b j (by rw[e];exact c)).trans e
theorem ZdW.to{T T':TgM}(s:ZdW T T'){j:Nat}{t:Tg}(h:T j=some t):T' j=some t:=(s j (by rw[h];exact λe=>by cases e)).trans h
def Zjv(T:TgM)(t:Tg)(lo hi:Nat):TgM:=λj=>if lo<=j/\j<hi then some t else T j
theorem ZiM{T:TgM}{t:Tg}{lo hi j:Nat}(h:lo<=j/\j<hi):Zjv T t lo hi j=some t:=if_pos h
theorem ZhO{T:TgM}{t:Tg}{lo hi:Nat}(hT:∀j,T j≠none->j<lo):ZdW T (Zjv T t lo hi):=λj a=>if_neg λh=>by have:=hT j a;omega
theorem Znn{T:TgM}{t:Tg}{lo hi n:Nat}(hT:∀j,T j≠none->j<n)(b:hi<=n):∀j,Zjv T t lo hi j≠none->j<n:=λj a=>by
  unfold Zjv at a;split at a
  ·omega
  ·exact hT j a
theorem ZeL{T:TgM}{n:Nat}(hT:∀j,T j≠none->j<n){j:Nat}{t:Tg}(h:T j=some t):j<n:=hT j (by rw[h];exact λe=>by cases e)
def Zdw(D:Nat->Prop)(T:TgM)(h h':Zf):Prop:=∀j t,T j=some t->(∀d,D d->t≠ .p d)->obj h' j=obj h j
theorem Zdw.of{D:Nat->Prop}{T:TgM}{h h':Zf}(hT:∀j,T j≠none->j<sz h)(u:Upd (λj=>∃d,D d/\T j=some (.p d)) h h'):Zdw D T h h':=λj t c hd=>
  u.old j (ZeL hT c) λ⟨d,b,a⟩=>hd d b (by rw[c]at a;exact Option.some.inj a)
abbrev hdT(T:TgM):Nat->Prop:=λj=>T j=some (.p j)
abbrev inT(T:TgM)(b:Nat):Nat->Prop:=λj=>T j=some (.p b)
abbrev roT(T:TgM):Nat->Prop:=λj=>T j=some .ro
abbrev ShP:=Option Addr×Option Addr
def ZtS:Option Addr->List Nat
  |none=>[]
  |some a=>[a.block]
def hdP(p:ShP):List Nat:=ZtS p.1++ZtS p.2
def shL(p:ShP):List Value:=[.pointer p.1,.pointer p.2]
abbrev BkW:={B:BkS // WOK B.r} ×Int
def BrP(h:Zf)(T:TgM)(b:Nat)(B:BkW):Prop:=BkR h b (inT T b) B.1.1 B.1.2
def HoP(h:Zf)(T:TgM)(b:Nat)(H:HtS):Prop:=∃a,HtR h b a H/\∀j,a j≠none->T j=some (.p b)
structure Ent where
  c:C8
  ov:Bool
  pr:List Int
def ZHH(c:C8)(ov:Bool)(s:Sl):Value:=.agg #[iv c.1,.string c.2.1,.string c.2.2.1,.string c.2.2.2.1,.bool c.2.2.2.2.1,iv c.2.2.2.2.2.1,slV nl,.bool ov,slV s]
structure EnI(h:Zf)(T:TgM)(fm:Nat)(en:Int->Option Ent)(f:Int->Option Value)(n:Nat):Prop where
  m:ZlX h fm f n
  e:∀k,(en k=none/\f k=none)\/∃e s,en k=some e/\f k=some (ZHH e.c e.ov s)/\Row h s 1 (e.pr.map iv)/\Rw.inS (roT T) s
def EnR(h:Zf)(T:TgM)(fm:Nat)(en:Int->Option Ent):Prop:=∃f n,EnI h T fm en f n
section
variable{D:Nat->Prop}{T T':TgM}{h h':Zf}
theorem Zdw.head{b:Nat}(u:Zdw D T h h')(a:¬D b){j:Nat}(h1:T j=some (.p b)):obj h' j=obj h j:=u j _ h1 λd hd e=>by cases e;exact a hd
theorem Zdw.ro(u:Zdw D T h h'){j:Nat}(h1:T j=some .ro):obj h' j=obj h j:=u j _ h1 λd hd e=>by cases e
theorem Znr(u:Zdw D T h h')(s:ZdW T T'){p:ShP}{x:ShS}(d:ShR h (hdT T) p x)(hd:∀b,b∈hdP p->¬D b):ShR h' (hdT T') p x:=by
  obtain⟨g,i⟩:=p;refine⟨?_,?_⟩
  ·cases a:x.1 with
   |none=>have:=d.1;rw[a]at this;exact this
   | some y=>
     have:=d.1;rw[a]at this;obtain⟨b,e,c,o⟩:=this;have f:g=some ⟨b,0,none⟩:=e;exact⟨b,e,(u.head (hd b (by unfold hdP ZtS;rw[f];simp)) o).trans c,s.to o⟩
  ·cases a:x.2 with
   |none=>have:=d.2;rw[a]at this;exact this
   | some y=>
     have:=d.2;rw[a]at this;obtain⟨b,e,c,o⟩:=this;have f:i=some ⟨b,0,none⟩:=e;exact⟨b,e,(u.head (hd b (by unfold hdP ZtS;rw[f];simp)) o).trans c,s.to o⟩
theorem Zot(u:Zdw D T h h')(s:ZdW T T'){b:Nat}{B:BkW}(c:BrP h T b B)(hd:¬D b):BrP h' T' b B:=
  (BkR.congr c λj a _=>u.head hd a).mono λj a=>s.to a
theorem Zn8(u:Zdw D T h h')(s:ZdW T T')(hz:sz h<=sz h'){b:Nat}{H:HtS}(d:HoP h T b H)(hd:¬D b):HoP h' T' b H:=by obtain⟨e,⟨g,S,i,kb,f,n,wt,sl,lb,hm⟩,c⟩:=d;exact⟨e,⟨g,S,i,kb,f,n,wt,sl,lb,hm.congr (λj a=>u.head hd (c j a)) hz⟩,λj a=>s.to (c j a)⟩
theorem Zk0(u:Zdw D T h h')(s:ZdW T T'){x:Sl}{n:Nat}{vs:List Value}(r:Row h x n vs)(c:Rw.inS (roT T) x):Row h' x n vs/\Rw.inS (roT T') x:=
  ⟨Rw.ZiP r c λb a _=>u.ro a,c.mono λb a=>s.to a⟩
theorem Zlf(u:Zdw D T h h')(s:ZdW T T'){fm:Nat}{en:Int->Option Ent}(c:EnR h T fm en)(d:T fm=some (.p fm))(hd:¬D fm):EnR h' T' fm en:=by
  obtain⟨f,n,hm,he⟩:=c;refine⟨f,n,hm.congr (u.head hd d),λk=>?_⟩
  rcases he k with h1|⟨e,sl,h1,g,h3,i⟩
  ·exact .inl h1
  ·obtain⟨a,b⟩:=Zk0 u s h3 i;exact .inr ⟨e,sl,h1,g,a,b⟩
theorem Zhd(u:Zdw D T h h')(s:ZdW T T'){tb:Nat}{t:Tree}(b:Zbn h tb (inT T tb) t)(hd:¬D tb):Zbn h' tb (inT T' tb) t:=
  (b.congr λj a _=>u.head hd a).mono λj a=>s.to a
theorem XJ(u:Zdw D T h h')(s:ZdW T T'){z:Rw.VTR}{r:RulesP}(c:Rw.Yn h (roT T) z r):Rw.Yn h' (roT T') z r:=
  (c.keep λb a _=>u.ro a).mono λb _ a=>s.to a
end
theorem Zoj{α:Type}{g:α->List Nat}:∀{l:List α},(l.flatMap g).Nodup->∀{i j:Nat} {x y:α},l[i]?=some x->l[j]?=some y->i≠j->∀{a:Nat},a∈g x->a∉g y
  |[],_,i,_,_,_,h,_,_,_,_,_=>by cases h
  | b::l,k,i,j,x,y,hi,d,e,a,f,c=>by
    rw[Aye,List.nodup_append]at k;obtain⟨o,n,m⟩:=k
    cases i with
    | zero=>
      cases j with
      |zero=>exact e rfl
      | succ j=>
        cases hi;exact m a f a (List.mem_flatMap.2 ⟨y,Axo (by simpa using d),c⟩) rfl
    | succ i=>
      cases j with
      | zero=>
        cases d;exact m a c a (List.mem_flatMap.2 ⟨x,Axo (by simpa using hi),f⟩) rfl
      |succ j=>exact Zoj n (by simpa using hi) (by simpa using d) (by omega) f c
theorem ZuK{α:Type}{g:α->List Nat}:∀{l:List α},(l.flatMap g).Nodup->∀{i:Nat} {x:α},l[i]?=some x->(g x).Nodup
  |[],_,i,_,h=>by cases h
  | b::l,a,i,x,hi=>by
    rw[Aye,List.nodup_append]at a
    cases i with
    |zero=>cases hi;exact a.1
    |succ i=>exact ZuK a.2.1 (by simpa using hi)
theorem Zq7{α:Type}{g:α->List Nat}{l:List α}{i:Nat}{x y:α}(hi:l[i]?=some x)(a:g y=g x):(l.set i y).flatMap g=l.flatMap g:=by
  induction l generalizing i with
  |nil=>cases hi
  | cons b l c=>
    cases i with
    |zero=>cases hi;simp[a]
    |succ i=>simp[c (by simpa using hi)]
theorem Zoi{α:Type}{g:α->List Value}{l:List α}{i:Nat}{x y:α}(hi:l[i]?=some x)(a:g y=g x):(l.set i y).flatMap g=l.flatMap g:=by
  induction l generalizing i with
  |nil=>cases hi
  | cons b l c=>
    cases i with
    |zero=>cases hi;simp[a]
    |succ i=>simp[c (by simpa using hi)]
structure GS where
  keys:Int
  seed:Int
  r:RulesP
  fl:List ShS
  br:List BkW
  ho:List HtS
  g:Int
  t:Tree
  ld:Int
  cp:Int
  en:Int->Option Ent
  op:Int
  nx:Int
  la:Int
def ZAS(f:FlowP)(s:ShS):Prop:=(f.shape=2\/f.shape=3->s.1≠none)/\(f.shape=1\/f.shape=3->s.2≠none)
structure GOK(G:GS):Prop where
  we:G.r.whereE.2.2=0
  fit:Rw.RulesP.fit G.r
  lf:G.fl.length=G.r.fl.length
  lb:G.br.length=G.r.br.length
  lh:G.ho.length=G.r.ho.length
  sh:∀(i:Nat) (f:FlowP) (s:ShS),G.r.fl[i]?=some f->G.fl[i]?=some s->ZAS f s
  keys:1<=G.keys/\G.keys<=4096
  en:∀(k:Int) (e:Ent),G.en k=some e->Zkr e.c
theorem GOK.good{G:GS}(ok:GOK G):Good G.r:=Zq5 ok.we
abbrev geL(G:GS)(sb tb fm:Nat)(r:Rw.VTR)(f1 b1 h1:Sl):List Value:=
  [iv G.keys,.int .u64 G.seed,.pointer (some ⟨sb,0,none⟩),slV r.1,slV r.2.1,slV r.2.2.1,slV r.2.2.2.1,slV r.2.2.2.2.1,slV f1,slV b1,slV h1,iv G.g,.pointer (some ⟨tb,0,none⟩),iv G.ld,iv G.cp,.map (some fm),iv G.op,iv G.nx,iv G.la]
abbrev geO(G:GS)(sb tb fm:Nat)(r:Rw.VTR)(f1 b1 h1:Sl):Obj:=.cells (geL G sb tb fm r f1 b1 h1).toArray 95 (0,0)
structure Lay where
  eb:Nat
  sb:Nat
  tb:Nat
  fm:Nat
  z:Rw.VTR
  zs:Rw.VTR
  g:Int
  f1:Sl
  b1:Sl
  h1:Sl
  fs:List (ShP×ShS)
  bs:List (Nat×BkW)
  hs:List (Nat×HtS)
def Lay.hds(L:Lay):List Nat:=L.eb::L.sb::L.tb::L.fm::(L.fs.flatMap (λx=>hdP x.1)++(L.bs.flatMap (λx=>[x.1])++L.hs.flatMap (λx=>[x.1])))
structure FlR(h:Zf)(T:TgM)(f1:Sl)(fs:List (ShP×ShS)):Prop where
  r:Row h f1 2 (fs.flatMap λx=>shL x.1)
  o:Rw.inS (roT T) f1
  e:∀(i:Nat) (x:ShP×ShS),fs[i]?=some x->ShR h (hdT T) x.1 x.2
structure BsR(h:Zf)(T:TgM)(b1:Sl)(bs:List (Nat×BkW)):Prop where
  r:Row h b1 2 (bs.flatMap λx=>bkL x.1 x.2.2)
  o:Rw.inS (roT T) b1
  e:∀(i:Nat) (x:Nat×BkW),bs[i]?=some x->BrP h T x.1 x.2
structure HsR(h:Zf)(T:TgM)(h1:Sl)(hs:List (Nat×HtS)):Prop where
  r:Row h h1 1 (hs.flatMap λx=>[pN x.1])
  o:Rw.inS (roT T) h1
  e:∀(i:Nat) (x:Nat×HtS),hs[i]?=some x->HoP h T x.1 x.2
structure ZcQ(h:Zf)(T:TgM)(L:Lay)(G:GS):Prop where
  cells:obj h L.eb=some (geO G L.sb L.tb L.fm L.z L.f1 L.b1 L.h1)
  eT:T L.eb=some (.p L.eb)
  store:obj h L.sb=some (Znp L.zs L.g)
  sT:T L.sb=some (.p L.sb)
  rz:Rw.Yn h (roT T) L.z G.r
  rs:Rw.Yn h (roT T) L.zs G.r
  tree:Zbn h L.tb (inT T L.tb) G.t
  ent:EnR h T L.fm G.en
  fT:T L.fm=some (.p L.fm)
  lf:L.fs.map (·.2)=G.fl
  lb:L.bs.map (·.2)=G.br
  lh:L.hs.map (·.2)=G.ho
  fl:FlR h T L.f1 L.fs
  br:BsR h T L.b1 L.bs
  ho:HsR h T L.h1 L.hs
  nd:L.hds.Nodup
  hT:∀j,T j≠none->j<sz h
section
variable{D:Nat->Prop}{T T':TgM}{h h':Zf}{L:Lay}{G:GS}
theorem FlR.keep{f1:Sl}{fs:List (ShP×ShS)}(u:Zdw D T h h')(s:ZdW T T')(d:FlR h T f1 fs)(hd:∀b,b∈fs.flatMap (λx=>hdP x.1)->¬D b):FlR h' T' f1 fs:=by obtain⟨a,b⟩:=Zk0 u s d.r d.o;exact⟨a,b,λi x hi=>Znr u s (d.e i x hi) λc f=>hd c (List.mem_flatMap.2 ⟨x,Axo hi,f⟩)⟩
theorem BsR.keep{f1:Sl}{fs:List (Nat×BkW)}(u:Zdw D T h h')(s:ZdW T T')(c:BsR h T f1 fs)(hd:∀b,b∈fs.flatMap (λx=>[x.1])->¬D b):BsR h' T' f1 fs:=by obtain⟨a,b⟩:=Zk0 u s c.r c.o;exact⟨a,b,λi x hi=>Zot u s (c.e i x hi) (hd x.1 (List.mem_flatMap.2 ⟨x,Axo hi,by simp⟩))⟩
theorem HsR.keep{f1:Sl}{fs:List (Nat×HtS)}(u:Zdw D T h h')(s:ZdW T T')(hz:sz h<=sz h')(c:HsR h T f1 fs)(hd:∀b,b∈fs.flatMap (λx=>[x.1])->¬D b):HsR h' T' f1 fs:=by obtain⟨a,b⟩:=Zk0 u s c.r c.o;exact⟨a,b,λi x hi=>Zn8 u s hz (c.e i x hi) (hd x.1 (List.mem_flatMap.2 ⟨x,Axo hi,by simp⟩))⟩
theorem ZcQ.keep(a:ZcQ h T L G)(u:Zdw (λ_=>False) T h h')(s:ZdW T T')(hz:sz h<=sz h')(hT:∀j,T' j≠none->j<sz h'):ZcQ h' T' L G:=
  ⟨(u.head id a.eT).trans a.cells,s.to a.eT,(u.head id a.sT).trans a.store,s.to a.sT,XJ u s a.rz,XJ u s a.rs,Zhd u s a.tree id,Zlf u s a.ent a.fT id,s.to a.fT,
    a.lf,a.lb,a.lh,a.fl.keep u s λ_ _=>id,a.br.keep u s λ_ _=>id,a.ho.keep u s hz λ_ _=>id,a.nd,hT⟩
theorem ZcQ.ext(a:ZcQ h T L G)(e:Ext h h'):ZcQ h' T L G:=a.keep (λj t b _=>ZQ e (ZeL a.hT b)) (ZdW.refl T) e.size λj c=>Aqq (a.hT j c) e.size
theorem ZcQ.frame(a:ZcQ h T L G){S:Nat->Prop}(u:Upd S h h')(c:∀j,S j->T j=none):ZcQ h' T L G:=
  a.keep (λj t b _=>u.old j (ZeL a.hT b) λhs=>by rw[c j hs]at b;cases b) (ZdW.refl T) u.size λj d=>Aqq (a.hT j d) u.size
theorem Zse{L:Lay}(c:L.hds.Nodup):(L.sb≠L.eb/\L.tb≠L.eb/\L.fm≠L.eb/\∀b,b∈L.fs.flatMap (λx=>hdP x.1)++(L.bs.flatMap (λx=>[x.1])++L.hs.flatMap (λx=>[x.1]))->b≠L.eb)/\(L.tb≠L.sb/\L.fm≠L.sb/\∀b,b∈L.fs.flatMap (λx=>hdP x.1)++(L.bs.flatMap (λx=>[x.1])++L.hs.flatMap (λx=>[x.1]))->b≠L.sb)/\(L.fm≠L.tb/\∀b,b∈L.fs.flatMap (λx=>hdP x.1)++(L.bs.flatMap (λx=>[x.1])++L.hs.flatMap (λx=>[x.1]))->b≠L.tb)/\(∀b,b∈L.fs.flatMap (λx=>hdP x.1)++(L.bs.flatMap (λx=>[x.1])++L.hs.flatMap (λx=>[x.1]))->b≠L.fm)/\(L.fs.flatMap (λx=>hdP x.1)++(L.bs.flatMap (λx=>[x.1])++L.hs.flatMap (λx=>[x.1]))).Nodup:=by unfold Lay.hds at c;simp only[Ayp,Awr,not_or]at c;obtain⟨⟨d,f,a3,a4⟩,⟨b1,b2,g⟩,⟨c1,h⟩,d1,d2⟩:=c;exact⟨⟨Ne.symm d,Ne.symm f,Ne.symm a3,λb a e=>a4 (e▸a)⟩,⟨Ne.symm b1,Ne.symm b2,λb a e=>g (e▸a)⟩,⟨Ne.symm c1,λb a e=>h (e▸a)⟩,λb a e=>d1 (e▸a),d2⟩
theorem ZEF{L:Lay}(c:L.hds.Nodup):(L.fs.flatMap (λx=>hdP x.1)).Nodup/\(L.bs.flatMap (λx=>[x.1])).Nodup/\(L.hs.flatMap (λx=>[x.1])).Nodup/\(∀b,b∈L.fs.flatMap (λx=>hdP x.1)->b∉L.bs.flatMap (λx=>[x.1])/\b∉L.hs.flatMap (λx=>[x.1]))/\∀b,b∈L.bs.flatMap (λx=>[x.1])->b∉L.hs.flatMap (λx=>[x.1]):=by obtain⟨_,_,_,_,c⟩:=Zse c;rw[List.nodup_append]at c;obtain⟨g,e,f⟩:=c;rw[List.nodup_append]at e;obtain⟨h,i,j⟩:=e;exact⟨g,h,i,λb d=>⟨λa=>f b d b (Axx.2 (.inl a)) rfl,λa=>f b d b (Axx.2 (.inr a)) rfl⟩,λb d a=>j b d b a rfl⟩
theorem ZtG{b:Nat}(hT:∀j,T j≠none->j<sz h)(c:T b=some (.p b))(u:Upd (· = b) h h'):Zdw (· = b) T h h':=λj t a hd=>u.old j (ZeL hT a) λe=>by
  have d:j=b:=e;subst d;rw[c]at a;cases a;exact hd j rfl rfl
theorem ZcQ.set(a:ZcQ h T L G){ld cp op nx la:Int}(e:obj h' L.eb=some (geO {G with ld:=ld,cp:=cp,op:=op,nx:=nx,la:=la} L.sb L.tb L.fm L.z L.f1 L.b1 L.h1))(u:Upd (· = L.eb) h h'):ZcQ h' T L {G with ld:=ld,cp:=cp,op:=op,nx:=nx,la:=la}:=by
  obtain⟨⟨f,g,i,d⟩,_⟩:=Zse a.nd;have k:=ZtG a.hT a.eT u;have s:=ZdW.refl T;have l:∀b,b∈L.fs.flatMap (λx=>hdP x.1)->¬b=L.eb:=λb c=>d b (Axx.2 (.inl c));have m:∀b,b∈L.bs.flatMap (λx=>[x.1])->¬b=L.eb:=λb c=>d b (Axx.2 (.inr (Axx.2 (.inl c))));have n:∀b,b∈L.hs.flatMap (λx=>[x.1])->¬b=L.eb:=λb c=>d b (Axx.2 (.inr (Axx.2 (.inr c))))
  exact ⟨e,a.eT,(k.head f a.sT).trans a.store,a.sT,XJ k s a.rz,XJ k s a.rs,Zhd k s a.tree g,Zlf k s a.ent a.fT i,a.fT,
    a.lf,a.lb,a.lh,a.fl.keep k s l,a.br.keep k s m,a.ho.keep k s u.size n,a.nd,λj o=>Aqq (a.hT j o) u.size⟩
theorem ZcQ.tree'{O':Nat->Prop}{t':Tree}(a:ZcQ h T L G)(f:Zbn h' L.tb O' t')(u:Upd (inT T L.tb) h h')(gr:Zyo (inT T L.tb) O' h h'):ZcQ h' (Zjv T (.p L.tb) (sz h) (sz h')) L {G with t:=t'}:=by
  obtain⟨⟨_,i,_,_⟩,⟨l,_,_⟩,⟨m,e⟩,_⟩:=Zse a.nd;have k:Zdw (· = L.tb) T h h':=Zdw.of a.hT (u.mono λj _ c=>⟨L.tb,rfl,c⟩);have s:ZdW T (Zjv T (.p L.tb) (sz h) (sz h')):=ZhO a.hT;have n:∀b,b∈L.fs.flatMap (λx=>hdP x.1)->¬b=L.tb:=λb d=>e b (Axx.2 (.inl d));have o:∀b,b∈L.bs.flatMap (λx=>[x.1])->¬b=L.tb:=λb d=>e b (Axx.2 (.inr (Axx.2 (.inl d))));have q:∀b,b∈L.hs.flatMap (λx=>[x.1])->¬b=L.tb:=λb d=>e b (Axx.2 (.inr (Axx.2 (.inr d))))
  refine ⟨(k.head (Ne.symm i) a.eT).trans a.cells,s.to a.eT,(k.head (Ne.symm l) a.sT).trans a.store,s.to a.sT,XJ k s a.rz,XJ k s a.rs,f.mono λj c=>?_,Zlf k s a.ent a.fT m,s.to a.fT,
    a.lf,a.lb,a.lh,a.fl.keep k s n,a.br.keep k s o,a.ho.keep k s u.size q,a.nd,Znn (λj c=>Aqq (a.hT j c) u.size) (Aqo _)⟩
  rcases gr.1 j c with g|g
  ·exact s.to g
  ·exact ZiM g
theorem ZcQ.mapped(a:ZcQ h T L G){en:Int->Option Ent}(hm:EnR h' T L.fm en)(u:Upd (· = L.fm) h h'):ZcQ h' T L {G with en:=en}:=by
  obtain⟨⟨_,_,d,_⟩,⟨_,e,_⟩,⟨t3,_⟩,f4,_⟩:=Zse a.nd;have k:=ZtG a.hT a.fT u;have s:=ZdW.refl T;have f:∀b,b∈L.fs.flatMap (λx=>hdP x.1)->¬b=L.fm:=λb c=>f4 b (Axx.2 (.inl c));have g:∀b,b∈L.bs.flatMap (λx=>[x.1])->¬b=L.fm:=λb c=>f4 b (Axx.2 (.inr (Axx.2 (.inl c))));have i:∀b,b∈L.hs.flatMap (λx=>[x.1])->¬b=L.fm:=λb c=>f4 b (Axx.2 (.inr (Axx.2 (.inr c))))
  exact ⟨(k.head (Ne.symm d) a.eT).trans a.cells,a.eT,(k.head (Ne.symm e) a.sT).trans a.store,a.sT,XJ k s a.rz,XJ k s a.rs,Zhd k s a.tree (Ne.symm t3),hm,a.fT,
    a.lf,a.lb,a.lh,a.fl.keep k s f,a.br.keep k s g,a.ho.keep k s u.size i,a.nd,λj l=>Aqq (a.hT j l) u.size⟩
end
section
variable{T T':TgM}{h h':Zf}{L:Lay}{G:GS}
theorem ZcQ.ge(a:ZcQ h T L G){i:Nat}{x:ShP×ShS}(b:L.fs[i]?=some x):G.fl[i]?=some x.2:=by rw[<-a.lf,Awy,b];rfl
theorem ZcQ.gf(b:ZcQ h T L G){i:Nat}{s:ShS}(a:G.fl[i]?=some s):∃p,L.fs[i]?=some (p,s):=by
  rw[<-b.lf,Awy]at a
  cases q:L.fs[i]? with
  |none=>rw[q]at a;cases a
  |some x=>rw[q]at a;cases a;exact⟨x.1,rfl⟩
theorem ZcQ.gb(b:ZcQ h T L G){i:Nat}{s:BkW}(a:G.br[i]?=some s):∃p,L.bs[i]?=some (p,s):=by
  rw[<-b.lb,Awy]at a
  cases q:L.bs[i]? with
  |none=>rw[q]at a;cases a
  |some x=>rw[q]at a;cases a;exact⟨x.1,rfl⟩
theorem ZcQ.gh(b:ZcQ h T L G){i:Nat}{s:HtS}(a:G.ho[i]?=some s):∃p,L.hs[i]?=some (p,s):=by
  rw[<-b.lh,Awy]at a
  cases q:L.hs[i]? with
  |none=>rw[q]at a;cases a
  |some x=>rw[q]at a;cases a;exact⟨x.1,rfl⟩
theorem ZqA{α:Type}{l:List α}{i j:Nat}{x y:α}(h:(l.set i x)[j]?=some y):(j=i/\y=x)\/(j≠i/\l[j]?=some y):=by
  by_cases e:i=j
  ·subst e;rw[List.getElem?_set_self']at h
   cases q:l[i]? with
   |none=>rw[q]at h;cases h
   |some z=>rw[q]at h;cases h;exact .inl ⟨rfl,rfl⟩
  ·rw[List.getElem?_set_ne e]at h;exact .inr ⟨λa=>e a.symm,h⟩
theorem GOK.setF(ok:GOK G){i:Nat}{s s':ShS}(d:G.fl[i]?=some s)(hs:∀f,ZAS f s->ZAS f s'):GOK {G with fl:=G.fl.set i s'}:=
  ⟨ok.we,ok.fit,(by show(G.fl.set i s').length=_;rw[List.length_set];exact ok.lf),ok.lb,ok.lh,λj f y b e=>by
    rcases ZqA e with⟨c,a⟩ |⟨c,a⟩
    ·subst c;subst a;exact hs f (ok.sh j f s b d)
    ·exact ok.sh j f y b a,ok.keys,ok.en⟩
theorem GOK.setB(ok:GOK G){i:Nat}{s:BkW}:GOK {G with br:=G.br.set i s}:=
  ⟨ok.we,ok.fit,ok.lf,(by show(G.br.set i s).length=_;rw[List.length_set];exact ok.lb),ok.lh,ok.sh,ok.keys,ok.en⟩
theorem GOK.setH(ok:GOK G){i:Nat}{s:HtS}:GOK {G with ho:=G.ho.set i s}:=
  ⟨ok.we,ok.fit,ok.lf,ok.lb,(by show(G.ho.set i s).length=_;rw[List.length_set];exact ok.lh),ok.sh,ok.keys,ok.en⟩
theorem ZcQ.setF(a:ZcQ h T L G){i:Nat}{x:ShP×ShS}(l:L.fs[i]?=some x){s':ShS}(t:ShR h' (hdT T) x.1 s')(u:Upd (λj=>∃d,d∈hdP x.1/\T j=some (.p d)) h h'):ZcQ h' T {L with fs:=L.fs.set i (x.1,s')} {G with fl:=G.fl.set i s'}:=by
  obtain⟨⟨H,I,J,v⟩,⟨_,_,w⟩,⟨_,t4⟩,f4,_⟩:=Zse a.nd;obtain⟨z,_,_,n,_⟩:=ZEF a.nd;have k:Zdw (· ∈ hdP x.1) T h h':=Zdw.of a.hT u;have s:=ZdW.refl T;have hm:∀b,b∈hdP x.1->b∈L.fs.flatMap (λx=>hdP x.1):=λb f=>List.mem_flatMap.2 ⟨x,Axo l,f⟩;have g:∀b,b∈hdP x.1->b∈L.fs.flatMap (λx=>hdP x.1)++(L.bs.flatMap (λx=>[x.1])++L.hs.flatMap (λx=>[x.1])):=λb f=>Axx.2 (.inl (hm b f));have A:(L.fs.set i (x.1,s')).flatMap (λx=>hdP x.1)=L.fs.flatMap (λx=>hdP x.1):=Zq7 l rfl;have B:(L.fs.set i (x.1,s')).flatMap (λx=>shL x.1)=L.fs.flatMap (λx=>shL x.1):=Zoi l rfl;obtain⟨C,D⟩:=Zk0 k s a.fl.r a.fl.o
  refine ⟨(k.head (λc=>v _ (g _ c) rfl) a.eT).trans a.cells,a.eT,(k.head (λc=>w _ (g _ c) rfl) a.sT).trans a.store,a.sT,XJ k s a.rz,XJ k s a.rs,
    Zhd k s a.tree λc=>t4 _ (g _ c) rfl,Zlf k s a.ent a.fT λc=>f4 _ (g _ c) rfl,a.fT,?_,a.lb,a.lh,⟨by rw[B];exact C,D,λj y E=>?_⟩,a.br.keep k s λb f c=>(n b (hm b c)).1 f,a.ho.keep k s u.size λb f c=>(n b (hm b c)).2 f,?_,λj F=>Aqq (a.hT j F) u.size⟩
  ·show(L.fs.set i (x.1,s')).map (·.2)=G.fl.set i s';rw[List.map_set,a.lf]
  ·rcases ZqA E with⟨q,m⟩ |⟨q,m⟩
   ·subst m;exact t
   ·exact Znr k s (a.fl.e j y m) λb f c=>Zoj z m l q f c
  ·show(L.eb::L.sb::L.tb::L.fm::((L.fs.set i (x.1,s')).flatMap (λx=>hdP x.1)++_)).Nodup;rw[A];exact a.nd
theorem ZcQ.setB(c:ZcQ h T L G){i:Nat}{x:Nat×BkW}(m:L.bs[i]?=some x){B':{B:BkS // WOK B.r}}{O':Nat->Prop}(v:BkR h' x.1 O' B'.1 B'.2)(u:Upd (inT T x.1) h h')(gr:Zyo (inT T x.1) O' h h'):ZcQ h' (Zjv T (.p x.1) (sz h) (sz h')) {L with bs:=L.bs.set i (x.1,B',x.2.2)} {G with br:=G.br.set i (B',x.2.2)}:=by
  obtain⟨⟨J,K,M,w⟩,⟨_,_,z⟩,⟨_,t4⟩,f4,_⟩:=Zse c.nd;obtain⟨_,A,_,C,n5⟩:=ZEF c.nd;have k:Zdw (· = x.1) T h h':=Zdw.of c.hT (u.mono λj _ l=>⟨x.1,rfl,l⟩);have s:ZdW T (Zjv T (.p x.1) (sz h) (sz h')):=ZhO c.hT;have hm:x.1∈L.bs.flatMap (λx=>[x.1]):=List.mem_flatMap.2 ⟨x,Axo m,by simp⟩;have f:x.1∈L.fs.flatMap (λx=>hdP x.1)++(L.bs.flatMap (λx=>[x.1])++L.hs.flatMap (λx=>[x.1])):=Axx.2 (.inr (Axx.2 (.inl hm)));have D:(L.bs.set i (x.1,B',x.2.2)).flatMap (λx=>[x.1])=L.bs.flatMap (λx=>[x.1]):=Zq7 m rfl;have E:(L.bs.set i (x.1,B',x.2.2)).flatMap (λx=>bkL x.1 x.2.2)=L.bs.flatMap (λx=>bkL x.1 x.2.2):=Zoi m rfl;obtain⟨F,H⟩:=Zk0 k s c.br.r c.br.o
  refine ⟨(k.head (λd=>w _ f d.symm) c.eT).trans c.cells,s.to c.eT,(k.head (λd=>z _ f d.symm) c.sT).trans c.store,s.to c.sT,XJ k s c.rz,XJ k s c.rs,
    Zhd k s c.tree λd=>t4 _ f d.symm,Zlf k s c.ent c.fT λd=>f4 _ f d.symm,s.to c.fT,c.lf,?_,c.lh,c.fl.keep k s λb q d=>(C b q).1 (d▸hm),⟨by rw[E];exact F,H,λj y I=>?_⟩,c.ho.keep k s u.size λb q d=>n5 x.1 hm (d▸q),?_,Znn (λj l=>Aqq (c.hT j l) u.size) (Aqo _)⟩
  ·show(L.bs.set i (x.1,B',x.2.2)).map (·.2)=G.br.set i (B',x.2.2);rw[List.map_set,c.lb]
  ·rcases ZqA I with⟨t,n⟩ |⟨t,n⟩
   ·subst n;refine BkR.mono v λj l=>?_
    rcases gr.1 j l with g|g
    ·exact s.to g
    ·exact ZiM g
   ·exact Zot k s (c.br.e j y n) λd=>Zoj A n m t (a:=y.1) (by simp) (by rw[d];simp)
  ·show(L.eb::L.sb::L.tb::L.fm::(_++((L.bs.set i (x.1,B',x.2.2)).flatMap (λx=>[x.1])++_))).Nodup;rw[D];exact c.nd
theorem ZcQ.setH(c:ZcQ h T L G){i:Nat}{x:Nat×HtS}(v:L.hs[i]?=some x){m:HtS}{B q:Nat->Option HTag}(C:∀j,B j≠none->T j=some (.p x.1))(D:HtR h' x.1 q m)(gr:GrT B q h h'):ZcQ h' (Zjv T (.p x.1) (sz h) (sz h')) {L with hs:=L.hs.set i (x.1,m)} {G with ho:=G.ho.set i m}:=by
  obtain⟨⟨Q,R,U,F⟩,⟨_,_,H⟩,⟨_,t4⟩,f4,_⟩:=Zse c.nd;obtain⟨_,_,I,J,n5⟩:=ZEF c.nd;have u:=gr.upd;have k:Zdw (· = x.1) T h h':=Zdw.of c.hT (u.mono λj _ t=>⟨x.1,rfl,C j t⟩);have s:ZdW T (Zjv T (.p x.1) (sz h) (sz h')):=ZhO c.hT;have hm:x.1∈L.hs.flatMap (λx=>[x.1]):=List.mem_flatMap.2 ⟨x,Axo v,by simp⟩;have l:x.1∈L.fs.flatMap (λx=>hdP x.1)++(L.bs.flatMap (λx=>[x.1])++L.hs.flatMap (λx=>[x.1])):=Axx.2 (.inr (Axx.2 (.inr hm)));have K:(L.hs.set i (x.1,m)).flatMap (λx=>[x.1])=L.hs.flatMap (λx=>[x.1]):=Zq7 v rfl;have M:(L.hs.set i (x.1,m)).flatMap (λx=>[pN x.1])=L.hs.flatMap (λx=>[pN x.1]):=Zoi v rfl;obtain⟨N,O⟩:=Zk0 k s c.ho.r c.ho.o
  refine ⟨(k.head (λd=>F _ l d.symm) c.eT).trans c.cells,s.to c.eT,(k.head (λd=>H _ l d.symm) c.sT).trans c.store,s.to c.sT,XJ k s c.rz,XJ k s c.rs,
    Zhd k s c.tree λd=>t4 _ l d.symm,Zlf k s c.ent c.fT λd=>f4 _ l d.symm,s.to c.fT,c.lf,c.lb,?_,c.fl.keep k s λb z d=>(J b z).2 (d▸hm),c.br.keep k s λb z d=>n5 b z (d▸hm),⟨by rw[M];exact N,O,λj y P=>?_⟩,?_,Znn (λj t=>Aqq (c.hT j t) u.size) (Aqo _)⟩
  ·show(L.hs.set i (x.1,m)).map (·.2)=G.ho.set i m;rw[List.map_set,c.lh]
  ·rcases ZqA P with⟨E,w⟩ |⟨E,w⟩
   ·subst w;obtain⟨V,S,W,kb,f,n,wt,sl,lb,A⟩:=D.ex;refine⟨q,D,λj t=>?_⟩
    rcases gr.new j t with g|g
    ·exact s.to (C j g)
    ·exact ZiM ⟨g,A.lt j t⟩
   ·exact Zn8 k s u.size (c.ho.e j y w) λd=>Zoj I w v E (a:=y.1) (by simp) (by rw[d];simp)
  ·show(L.eb::L.sb::L.tb::L.fm::(_++(_++(L.hs.set i (x.1,m)).flatMap (λx=>[x.1])))).Nodup;rw[K];exact c.nd
end
section
variable{α β:Type}{same:α->β->Bool}{was:List β}
theorem Zgs:∀{now:List α} {us:List Bool},(ZfN same was now us).length=now.length
  |[],_=>rfl
  | r::rs,us=>by
    show(ZfN same was rs _).length+1=rs.length+1;rw[Zgs]
theorem Zm5:∀{now:List α} {us:List Bool},was.length=us.length->∀{i:Nat} {a:Int},(ZfN same was now us)[i]?=some a->a= -1\/∃k w b,a=((k:Nat):Int)/\was[k]?=some w/\now[i]?=some b/\same b w=true/\us[k]?=some false
  |[],_,_,i,a,h=>by cases h
  | r::rs,us,hl,i,a,h=>by
    have f:=Ztt (eq:=same r) (ws:=was) (us:=us) (i:=0) hl
    cases i with
    | zero=>
      have e:(pick (same r) was us 0).1=a:=Option.some.inj h
      rcases f with⟨h1,_⟩ |⟨k,w,h1,d,h3,l,_⟩
      ·exact .inl (e▸h1)
      ·exact .inr ⟨k,w,r,by rw[<-e,h1,Awb],d,rfl,h3,l⟩
    | succ i=>
      have h':(ZfN same was rs (pick (same r) was us 0).2)[i]?=some a:=by
        have:(ZfN same was (r::rs) us)=(pick (same r) was us 0).1::ZfN same was rs (pick (same r) was us 0).2:=rfl;rw[this]at h;simpa using h
      rcases Zm5 (by rw[Zly];exact hl) h' with g|⟨k,w,b,m,n,o,p,c⟩
      ·exact .inl g
      ·refine .inr ⟨k,w,b,m,n,by simpa using o,p,?_⟩
       rcases f with⟨_,d⟩ |⟨j,t,_,_,_,_,s⟩
       ·rw[d]at c;exact c
       ·rw [s]at c
        by_cases e:j=k
        ·subst e;rw[List.getElem?_set_self']at c
         cases q:us[j]? with
         |none=>rw[q]at c;cases c
         |some u=>rw[q]at c;cases c
        ·rw[List.getElem?_set_ne e]at c;exact c
theorem ZlK:∀{now:List α} {us:List Bool},was.length=us.length->∀{i j k:Nat},(ZfN same was now us)[i]?=some (k:Int)->(ZfN same was now us)[j]?=some (k:Int)->i=j
  |[],_,_,i,_,_,h,_=>by cases h
  | r::rs,us,hl,i,j,k,hi,c=>by
    have l:=Ztt (eq:=same r) (ws:=was) (us:=us) (i:=0) hl;have e:(ZfN same was (r::rs) us)=(pick (same r) was us 0).1::ZfN same was rs (pick (same r) was us 0).2:=rfl
    have no:∀{m:Nat},(pick (same r) was us 0).1=(k:Int)->(ZfN same was rs (pick (same r) was us 0).2)[m]?=some (k:Int)->False:=λ{m} h1 n=>by
      rcases Zm5 (by rw[Zly];exact hl) n with g|⟨d,w,b,p,s,t,v,a⟩
      ·omega
      ·have:d=k:=by omega
       subst this
       rcases l with⟨h3,_⟩ |⟨f,x,h3,_,_,_,o⟩
       ·omega
       ·have:f=d:=by omega
        subst this;rw[o,List.getElem?_set_self']at a
        cases q:us[f]? with
        |none=>rw[q]at a;cases a
        |some u=>rw[q]at a;cases a
    rw[e]at hi c
    cases i with
    | zero=>
      cases j with
      |zero=>rfl
      |succ j=>exact(no (Option.some.inj hi) (by simpa using c)).elim
    | succ i=>
      cases j with
      |zero=>exact(no (Option.some.inj c) (by simpa using hi)).elim
      |succ j=>exact congrArg Nat.succ (ZlK (us:=(pick (same r) was us 0).2) (by rw[Zly];exact hl) (by simpa using hi) (by simpa using c))
end
theorem ZlD{α:Type}{g:α->List Nat}:∀{l:List α},(l.flatMap g).Nodup->∀{x:α},(g x).Nodup->(∀b,b∈g x->b∉l.flatMap g)->((l++[x]).flatMap g).Nodup:=λ{l} h {x} h1 c=>by
  rw[Ayl,List.nodup_append];refine⟨h,by simpa using h1,λa d b f e=>?_⟩;subst e;exact c a (by simpa using f) d
structure Sel{σ:Type}(g:σ->List Nat)(old:List σ)(K:List Int)(base top:Nat)(done:List σ):Prop where
  nd:(done.flatMap g).Nodup
  of:∀(i:Nat) (x:σ),done[i]?=some x->(∃k:Nat,K[i]?=some (k:Int)/\old[k]?=some x)\/∀b,b∈g x->base<=b/\b<top
section
variable{σ:Type}{g:σ->List Nat}{old:List σ}{K:List Int}{base tp tp':Nat}{done:List σ}
theorem Sel.nil:Sel g old K base tp []:=⟨List.nodup_nil,λi x h=>by cases h⟩
theorem Sel.top(s:Sel g old K base tp done)(h:tp<=tp'):Sel g old K base tp' done:=⟨s.nd,λi x a=>(s.of i x a).imp id λc b d=>by have:=c b d;omega⟩
theorem Sel.heads(s:Sel g old K base tp done){b:Nat}(c:b∈done.flatMap g):b∈old.flatMap g\/(base<=b/\b<tp):=by
  obtain⟨x,d,a⟩:=List.mem_flatMap.1 c;obtain⟨i,hi⟩:=Ayi d
  rcases s.of i x hi with⟨k,_,e⟩ |h
  ·exact .inl (List.mem_flatMap.2 ⟨x,Axo e,a⟩)
  ·exact .inr (h b a)
theorem Zrl{α:Type}{l:List α}{x y:α}{i:Nat}(h:(l++[x])[i]?=some y):l[i]?=some y\/(i=l.length/\y=x):=by
  by_cases hi:i<l.length
  ·rw[Awu hi]at h;exact .inl h
  ·rw [Awv (by omega)]at h
   by_cases e:i=l.length
   ·subst e;rw[Nat.sub_self]at h;exact .inr ⟨rfl,(Option.some.inj h).symm⟩
   ·rw[Aqt (by simp;omega)]at h;cases h
theorem Sel.keep(s:Sel g old K base tp done)(ho:(old.flatMap g).Nodup)(o:∀b,b∈old.flatMap g->b<base)(p:∀{i j k:Nat},K[i]?=some (k:Int)->K[j]?=some (k:Int)->i=j){k:Nat}{x:σ}(n:K[done.length]?=some (k:Int))(d:old[k]?=some x):Sel g old K base tp (done++[x]):=by
  refine⟨ZlD s.nd (ZuK ho d) λb a f=>?_,λi y l=>?_⟩
  ·obtain ⟨y,l,c⟩:=List.mem_flatMap.1 f;obtain⟨i,hi⟩:=Ayi l
   have q:i<done.length:=by
     rcases Aqd i done.length with h|h
     ·exact h
     ·rw[Aqt h]at hi;cases hi
   rcases s.of i y hi with⟨r,h1,m⟩ |h
   ·by_cases e:k=r
    ·subst e;have:=p n h1;omega
    ·exact Zoj ho d m e a c
   ·have:=h b c;have:=o b (List.mem_flatMap.2 ⟨x,Axo d,a⟩);omega
  ·rcases Zrl l with h|⟨h1,m⟩
   ·exact s.of i y h
   ·subst h1;subst m;exact .inl ⟨k,n,d⟩
theorem Sel.new(s:Sel g old K base tp done)(f:∀b,b∈old.flatMap g->b<base)(h0:base<=tp)(h1:tp<=tp'){x:σ}(j:(g x).Nodup)(e:∀b,b∈g x->tp<=b/\b<tp'):Sel g old K base tp' (done++[x]):=by
  refine⟨ZlD s.nd j λb a c=>?_,λi y k=>?_⟩
  ·have:=e b a
   rcases s.heads c with h|h
   ·have:=f b h;omega
   ·omega
  ·rcases Zrl k with h|⟨_,l⟩
   ·exact(s.top h1).of i y h
   ·subst l;exact .inr λb d=>by have:=e b d;omega
end
def Zk2{α σ:Type}(new:α->σ)(old:List σ)(k:Int)(a:α):σ:=if 0<=k then(old[k.toNat]?).getD (new a)else new a
def Zun{α σ:Type}(new:α->σ)(old:List σ):List Int->List α->List σ
  |k::K,a::l=>Zk2 new old k a::Zun new old K l
  |_,_=>[]
theorem ZqC{α σ:Type}{new:α->σ}{old:List σ}:∀{K:List Int} {l:List α},K.length=l.length->(Zun new old K l).length=l.length
  |[],[],_=>rfl
  | k::K,a::l,h=>by
    show(Zun new old K l).length+1=l.length+1;rw[ZqC (by simpa using h)]
theorem Zum{α σ:Type}{new:α->σ}{old:List σ}:∀{K:List Int} {l:List α} {i:Nat} {k:Int} {a:α},K[i]?=some k->l[i]?=some a->(Zun new old K l)[i]?=some (Zk2 new old k a)
  |[],_,_,_,_,h,_=>by cases h
  |_::_,[],_,_,_,_,h=>by cases h
  |k::K,a::l,0,_,_,h1,b=>by cases h1;cases b;rfl
  | k::K,a::l,i+1,c,a',h1,b=>by
    show(Zk2 new old k a::Zun new old K l)[i+1]?=_;rw[Axh];exact Zum (by simpa using h1) (by simpa using b)
def zB:BkS:=⟨(em,0,0,0,0,1000000,0,()),1,0,0,0,⟨0,λ_=>z6⟩⟩
def bkZ(f:YK):B7:=Rw.ZCf f
open Classical in
noncomputable def BkW.new(f:YK)(id:Int):BkW:=if h:WOK (bkZ f)then(⟨⟨bkZ f,1,0,0,0,⟨0,λ_=>z6⟩⟩,h⟩,id)else(⟨zB,by unfold WOK zB;decide⟩,id)
noncomputable def ZlY(old:List BkW):List Int->List YK->Int->List BkW×Int
  |k::K,a::l,g=>if 0<=k then((old[k.toNat]?).getD (BkW.new a g)::(ZlY old K l g).1,(ZlY old K l g).2)else(BkW.new a (IntKind.wrap .i64 (g+1))::(ZlY old K l (IntKind.wrap .i64 (g+1))).1,(ZlY old K l (IntKind.wrap .i64 (g+1))).2)
  |_,_,g=>([],g)
theorem Zxs{old:List BkW}{k:Int}{K:List Int}{a:YK}{l:List YK}{g:Int}(h:0<=k):ZlY old (k::K) (a::l) g=((old[k.toNat]?).getD (BkW.new a g)::(ZlY old K l g).1,(ZlY old K l g).2):=if_pos h
theorem ZAT{old:List BkW}{k:Int}{K:List Int}{a:YK}{l:List YK}{g:Int}(h:¬ 0<=k):ZlY old (k::K) (a::l) g=(BkW.new a (IntKind.wrap .i64 (g+1))::(ZlY old K l (IntKind.wrap .i64 (g+1))).1,(ZlY old K l (IntKind.wrap .i64 (g+1))).2):=if_neg h
theorem ZqD{old:List BkW}:∀{K:List Int} {l:List YK} {g:Int},K.length=l.length->(ZlY old K l g).1.length=l.length
  |[],[],_,_=>rfl
  | k::K,a::l,g,h=>by
    unfold ZlY;split
    ·show(ZlY old K l g).1.length+1=l.length+1;rw[ZqD (by simpa using h)]
    ·show(ZlY old K l _).1.length+1=l.length+1;rw[ZqD (by simpa using h)]
def ZmY(o:Option Node)(at_:Int):C6:=match o with
  |some n=>n.sum at_
  |none=>z6
def oE(o:Option Node)(at_:Int):Int:=match o with
  |some n=>YC n.last at_
  |none=>1
def ZiS(o:Option Node)(at_:Int):Int:=match o with
  |some n=>n.past at_
  |none=>0
def ZHa(o:Option Node)(at_:Int):Int:=match o with
  |some n=>n.most at_
  |none=>0
def oFl(o:Option Node):Int:=match o with
  |some n=>n.fl
  |none=>0
section
variable{h:Zf}{p:Option Addr}{o:Option Node}
theorem Zha(f:ZoD h p o){at_:Int}{K:C6->Int->Zf->Prop}(d:∀h',Ext h h'->K (ZmY o at_) (oE o at_) h'):Xg p at_ K h:=by
  rcases f with⟨ho,e⟩ |⟨m,a,q,b,mb,n,ho,e,g⟩<;>subst ho<;>subst e
  ·unfold Xg Zfm;refine ZF λh1 c1 i r=>Za (Zm rfl (ZaN c1 λj c l s=>Za ?_));exact rI (Zb c rfl) (rI (Zb c rfl) (rI (Zb c rfl) (rI (Zb c rfl) (rI (Zb c rfl) (rI (Zb c rfl) (d j (i.then l λk d=>by subst d;exact Aqo _)))))))
  ·exact Zy7 g d
theorem Zt4(f:ZoD h p o){at_:Int}{K:Int->Int->Zf->Prop}(c:∀e h',Ext h h'->K (ZiS o at_) e h'):ZaV p at_ K h:=by
  rcases f with⟨ho,d⟩ |⟨j,a,k,b,mb,n,ho,d,g⟩<;>subst ho<;>subst d
  ·unfold ZaV Zeg;exact Za (Za (Zm rfl (Za (Za (c _ h (Ext.refl _))))))
  ·exact Zy5 g λh' i=>c _ h' i
theorem Zt5(f:ZoD h p o){at_:Int}{K:Int->Int->Zf->Prop}(c:∀e h',Ext h h'->K (ZHa o at_) e h'):ZaW p at_ K h:=by
  rcases f with⟨ho,d⟩ |⟨j,a,k,b,mb,n,ho,d,g⟩<;>subst ho<;>subst d
  ·unfold ZaW Zeh;exact Za (Za (Zm rfl (Za (Za (c _ h (Ext.refl _))))))
  ·exact Zww g λh' i=>c _ h' i
theorem Zku(e:ZoD h p o){K:Int->Zf->Prop}(c:K (oFl o) h):Ys p K h:=by
  rcases e with⟨ho,d⟩ |⟨g,a,i,b,mb,n,ho,d,f⟩<;>subst ho<;>subst d
  ·exact ZmP c
  ·exact ZoC f c
end
theorem Zva(o:Option Node)(at_:Int):∃v:Int,∀{h:Zf} {p:Option Addr} {K:Int->Int->Zf->Prop},ZoD h p o->(∀e h',Ext h h'->K v e h')->ZaX p at_ K h:=by
  by_cases q:oE o at_=0
  ·by_cases n:(ZmY o at_).2.2.1=0
   ·refine ⟨0,λ{h p K} d a=>?_⟩
    unfold ZaX Zcl;refine Za (Za (Zha d λh1 b=>ZF λr f g s=>ZaN f λh3 c i z3=>Za ?_));have j:Ext h h3:=(b.trans g).then i λk a=>by subst a;exact b.size
    rw[q];exact⟨λl=>absurd l (by decide),λ_=>rI (Zb c rfl) (Ym (λ_=>Za (Za (a _ h3 j))) λm=>absurd n m)⟩
   ·refine ⟨IntKind.wrap .i64 (Int.tdiv (ZmY o at_).2.2.2.2.1 (ZmY o at_).2.2.1),λ{h p K} d a=>?_⟩
    unfold ZaX Zcl;refine Za (Za (Zha d λh1 b=>ZF λr f g s=>ZaN f λh3 c i z3=>Za ?_));have j:Ext h h3:=(b.trans g).then i λk a=>by subst a;exact b.size
    rw[q];exact⟨λl=>absurd l (by decide),λ_=>rI (Zb c rfl) (Ym (λm=>absurd m n) λm=>rI (Zb c rfl) (rI (Zb c rfl) ⟨m,Za (Za (a _ h3 j))⟩))⟩
  ·refine ⟨0,λ{h p K} d a=>?_⟩
   unfold ZaX Zcl;refine Za (Za (Zha d λh1 b=>ZF λr f g s=>ZaN f λh3 c i z3=>Za ?_));have j:Ext h h3:=(b.trans g).then i λk a=>by subst a;exact b.size
   exact⟨λ_=>Za (Za (a _ h3 j)),λl=>absurd l (by simpa using q)⟩
theorem ZsJ{h:Zf}{p:Option Addr}{o:Option Node}(c:ZoD h p o){at_:Int}{K:Int->Int->Zf->Prop}(a:∀e h',Ext h h'->K (ZmY o at_).2.2.2.2.2.1 e h'):Zdl p at_ K h:=by
  unfold Zdl ZfQ;refine Za (Za (Zha c λh1 b=>ZF λl d f m=>ZaN d λh3 g i z3=>Za ?_));have j:Ext h h3:=(b.trans f).then i λk a=>by subst a;exact b.size
  exact rI (Zb g rfl) (Za (Za (a _ h3 j)))
end Go.Proofs.YtonbfpnngkemiaaGreat
namespace Go.Proofs.YtonbfpnngkemiaaGreat
open Go Go.Fw Go.Js
open Classical in
noncomputable def ZmU(a b:ZdX):Bool:=decide (a=b)
theorem ZrP(a b:ZdX):ZmU a b=true↔a=b:=by unfold ZmU;exact decide_eq_true_iff
abbrev kpF(G:GS)(r:RulesP):List Int:=ZfN Zxv G.r.fl r.fl (List.replicate G.r.fl.length false)
abbrev kpB(G:GS)(r:RulesP):List Int:=ZfN ZD0 G.r.br r.br (List.replicate G.r.br.length false)
noncomputable abbrev kpH(G:GS)(r:RulesP):List Int:=ZfN ZmU G.r.ho r.ho (List.replicate G.r.ho.length false)
noncomputable def GS.load(G:GS)(r:RulesP):GS:=
  {G with r:=r,fl:=Zun ShS.new G.fl (kpF G r) r.fl,br:=(ZlY G.br (kpB G r) r.br G.g).1,g:=(ZlY G.br (kpB G r) r.br G.g).2,ho:=Zun (λf=>HtS.new f G.keys G.seed) G.ho (kpH G r) r.ho}
theorem ZAR(f:FlowP):ZAS f (ShS.new f):=by
  unfold ShS.new;refine⟨λq=>?_,λq=>?_⟩
  ·show(if _ then _ else _)≠none;rw[if_pos q];exact λe=>by cases e
  ·show(if _ then _ else _)≠none;rw[if_pos q];exact λe=>by cases e
theorem GOK.load{G:GS}{r:RulesP}(ok:GOK G)(p:r.whereE.2.2=0)(q:Rw.RulesP.fit r):GOK (G.load r):=by
  refine⟨p,q,ZqC Zgs,ZqD Zgs,ZqC Zgs,λi f s hi hs=>?_,ok.keys,ok.en⟩;have a:r.fl[i]?=some f:=hi;have c:(Zun ShS.new G.fl (kpF G r) r.fl)[i]?=some s:=hs
  have g:i<r.fl.length:=by
    rcases Aqd i r.fl.length with h|h
    ·exact h
    ·rw[Aqt h]at a;cases a
  have j:i<(kpF G r).length:=by rw[Zgs];exact g
  obtain⟨k,o⟩:∃k,(kpF G r)[i]?=some k:=⟨_,Axy j⟩;rw[Zum o a]at c;have d:=Option.some.inj c
  rcases Zm5 (by simp) o with h|⟨m,w,b,h1,l,h3,t,v⟩
  ·subst h;rw[<-d];unfold Zk2;rw[if_neg (by decide)];exact ZAR f
  ·subst h1
   have e:b=f:=by rw[a]at h3;exact(Option.some.inj h3).symm
   subst e;have u:=(Zxu b w).1 t;subst u
   have n:m<G.fl.length:=by
     rw[ok.lf]
     rcases Aqd m G.r.fl.length with h|h
     ·exact h
     ·rw[Aqt h]at l;cases l
   have hm:G.fl[m]?=some G.fl[m]:=Axy n;have:=ok.sh m b _ l hm;rw[<-d];unfold Zk2;rw[if_pos (by omega),Aqu,hm];exact this
def GS.new(keys seed:Int):GS:=⟨keys,seed,⟨[],[],[],[],[]⟩,[],[],[],0,Tree.zero,0,0,λ_=>none,0,1,0⟩
theorem GOK.new{keys seed:Int}(a:1<=keys/\keys<=4096):GOK (GS.new keys seed):=by
  have no:∀{α:Type} {P:α->Prop} (f:α),f∈([]:List α)->P f:=λf b=>by cases b
  exact⟨rfl,⟨no,no,no,no⟩,rfl,rfl,rfl,λi f s hi _=>(by cases hi),a,λk e he=>(by cases he)⟩
end Go.Proofs.YtonbfpnngkemiaaGreat
namespace Go.Proofs.YtonbfpnngkemiaaGreat
open Go Go.Fw Go.Js
noncomputable section
abbrev PC:=Int×ByteArray×ByteArray×ByteArray×Bool×Int
def cl(c:PC)(s:Sl):C8:=(c.1,c.2.1,c.2.2.1,c.2.2.2.1,c.2.2.2.2.1,c.2.2.2.2.2,s,())
inductive Tk
  |hot (i:Nat) (v:ByteArray)
  |warm (i:Nat) (past sum:Int)
  |pace (i:Nat)
  |wp (i:Nat) (past rate:Int)
  |brk (i:Nat)
structure Lk where
  b:Bool
  tk:List Tk
  wt:Option Int
def wtV(wt:Int):Option Int->Int
  |none=>wt
  |some w=>ZiE wt w
def ZfJ(f:Int->Lk):List Int->List Tk×Int->Option Int×List Tk×Int
  |[],x=>(none,x)
  |i::l,x=>if(f i).b=true then(some i,x.1++(f i).tk,wtV x.2 (f i).wt)else ZfJ f l (x.1++(f i).tk,wtV x.2 (f i).wt)
def glV(f:Zbi)(o:ByteArray):Bool:=Classical.choose (Zu9 f o)
def gsV(r:S5)(n:Int)(w:N7):Bool:=Classical.choose (Zp9 r n w)
def ZOS(o:Option Node)(at_:Int):Int:=Classical.choose (Zva o at_)
def hlV(H:HtS)(at_:Int)(v:ByteArray)(c:Int):Bool:=Classical.choose (Zrq H at_ v c)
def wlV(w:Wm)(at_ past now n:Int):Bool:=Classical.choose (ZuZ w at_ past now n)
def wrV(w:Wm)(at_ past:Int):Int:=Classical.choose (ZuY w at_ past)
def plV(p:Pc)(at_ count:Int):Int×Bool×Int:=Classical.choose (Zu4 p at_ count)
def paV(p:Pc)(at_ count a:Int):Int×Bool×Int:=Classical.choose (Zu5 p at_ count a)
def ZpF(G:GS)(c:PC)(i:Int):Lk:=⟨match G.r.li[i.toNat]? with
  |some f=> !glV f c.2.2.2.1
  |none=>false,[],none⟩
def ZmI:K4:=(1,em,em,em,())
def ZHb(G:GS)(c:PC):N7:=((ZmY (G.t.f ZmI) c.1).1,oFl (G.t.f ZmI),ZOS (G.t.f ZmI) c.1,G.ld,G.cp,ZHa (G.t.f ZmI) c.1,(ZmY (G.t.f ZmI) c.1).2.2.2.2.2.1,())
def ZxY(G:GS)(c:PC)(i:Int):Lk:=⟨match G.r.sy[i.toNat]? with
  |some f=> !gsV (Rw.Zqv f) c.2.2.2.2.2 (ZHb G c)
  |none=>false,[],none⟩
def ZnX(G:GS)(c:PC)(al:List ByteArray)(i:Int):Lk:=match G.r.ho[i.toNat]?,G.ho[i.toNat]? with
  | some f,some H=>(match al[f.index.toNat]? with
    |some v=>⟨!hlV H c.1 v c.2.2.2.2.2,[.hot i.toNat v],none⟩
    |none=>⟨false,[],none⟩)
  |_,_=>⟨false,[],none⟩
def ZtF(l:P4):K4:=if Z2 l.2.2.1 em=false then(5,em,l.1,l.2.2.1,())else if Z2 l.2.1 em=false then(3,l.2.1,l.1,em,())else(4,em,l.1,em,())
def ZkQ(f:FlowP)(s:ShS)(o:Option Node)(c:PC)(i:Nat):Lk:=
  if f.shape=1 then(match s.2 with
    |some w=>⟨!wlV w c.1 (ZiS o c.1) (ZmY o c.1).1 c.2.2.2.2.2,[.warm i (ZiS o c.1) (ZmY o c.1).1],none⟩
    |none=>⟨false,[],none⟩)
  else if f.shape=2 then(match s.1 with
    |some p=>⟨!(plV p c.1 c.2.2.2.2.2).2.1,[.pace i],some (plV p c.1 c.2.2.2.2.2).1⟩
    |none=>⟨false,[],none⟩)
  else if f.shape=3 then(match s.1,s.2 with
    |some p,some w=>⟨!(paV p c.1 c.2.2.2.2.2 (ZiE (wrV w c.1 (ZiS o c.1)) 1)).2.1,[.wp i (ZiS o c.1) (ZiE (wrV w c.1 (ZiS o c.1)) 1)],some (paV p c.1 c.2.2.2.2.2 (ZiE (wrV w c.1 (ZiS o c.1)) 1)).1⟩
    |_,_=>⟨false,[],none⟩)
  else⟨!Zmg (Rw.ZaL f) (ZmY o c.1).1 (oFl o) c.2.2.2.2.2,[],none⟩
def ZfG(G:GS)(c:PC)(gr:Bool)(i:Int):Lk:=match G.r.fl[i.toNat]?,G.fl[i.toNat]? with
  |some f,some s=>if f.clu=true/\(gr=true\/f.fb=false)then⟨false,[],none⟩else ZkQ f s (G.t.f (ZtF (Zay (Rw.ZaL f) (cl c nl)))) c i.toNat
  |_,_=>⟨false,[],none⟩
def ZnY(G:GS)(c:PC)(i:Int):Lk:=match G.br[i.toNat]? with
  |some B=>⟨!ZuG B.1.1 c.1,[.brk i.toNat],none⟩
  |none=>⟨false,[],none⟩
def ZFw(G:GS)(c:PC)(x:List Tk×Int):Option Int×List Tk×Int:=if c.2.2.2.2.1=true then ZfJ (ZxY G c) (ofK G.r 4 c.2.1) x else(none,x)
def stg(G:GS)(c:PC)(al:List ByteArray)(gr:Bool):Nat->List Tk×Int->Option Int×List Tk×Int
  | 0,x=>ZfJ (ZpF G c) (ofK G.r 5 c.2.1) x
  | 1,x=>ZFw G c x
  | 2,x=>ZfJ (ZnX G c al) (ofK G.r 3 c.2.1) x
  | 3,x=>ZfJ (ZfG G c gr) (ZmZ G.r.fl (cl c nl)) x
  |_,x=>ZfJ (ZnY G c) (ofK G.r 2 c.2.1) x
def ZlJ(st:Nat->List Tk×Int->Option Int×List Tk×Int):Nat->Nat->List Tk×Int->Option (Int×Int)×List Tk×Int
  | 0,_,x=>(none,x)
  | n+1,j,x=>match (st j x).1 with
    |some i=>(some (((j+1:Nat):Int),i),(st j x).2)
    |none=>ZlJ st n (j+1) (st j x).2
def ZnV(G:GS)(c:PC)(al:List ByteArray)(gr:Bool):Option (Int×Int)×List Tk×Int:=ZlJ (stg G c al gr) 5 0 ([],0)
def HtS.take(H:HtS)(at_:Int)(v:ByteArray)(c:Int):HtS:=Classical.choose (Classical.choose_spec (Classical.choose_spec (Zu8 H at_ v c)))
def Wm.take(w:Wm)(at_ past now n:Int):Wm:=Classical.choose (Classical.choose_spec (Classical.choose_spec (Zrm w at_ past now n)))
def Wm.fill(w:Wm)(at_ past:Int):Wm:=Classical.choose (Classical.choose_spec (Classical.choose_spec (Zm8 w at_ past)))
def Pc.go(p:Pc)(at_ count:Int):Pc:=Classical.choose (ZCj p at_ count)
def Pc.at'(p:Pc)(at_ count a:Int):Pc:=Classical.choose (Classical.choose_spec (Zu5 p at_ count a))
def ZfL(c:PC)(x:GS×List Int):Tk->GS×List Int
  | .hot i v=>match x.1.ho[i]? with
    |some H=>({x.1 with ho:=x.1.ho.set i (H.take c.1 v c.2.2.2.2.2)},x.2)
    |none=>x
  | .warm i past sum=>match x.1.fl[i]? with
    |some (p,some w)=>({x.1 with fl:=x.1.fl.set i (p,some (w.take c.1 past sum c.2.2.2.2.2))},x.2)
    |_=>x
  | .pace i=>match x.1.fl[i]? with
    |some (some p,w)=>({x.1 with fl:=x.1.fl.set i (some (p.go c.1 c.2.2.2.2.2),w)},x.2)
    |_=>x
  | .wp i past a=>match x.1.fl[i]? with
    |some (some p,some w)=>({x.1 with fl:=x.1.fl.set i (some (p.at' c.1 c.2.2.2.2.2 a),some (w.fill c.1 past))},x.2)
    |_=>x
  | .brk i=>match x.1.br[i]? with
    |some B=>({x.1 with br:=x.1.br.set i (⟨B.1.1.enter c.1,by have:=B.1.2;unfold BkS.enter;split<;>exact this⟩,B.2)},if ZpL B.1.1 c.1=true then x.2++[B.2]else x.2)
    |none=>x
end
def Zlk(al:List ByteArray):Bool:=al.any λs=>decide (64<s.size)
def ZhM(G:GS)(c:PC)(al:List ByteArray):Int:=
  if Zj6 (cl c nl)≠0 then Zj6 (cl c nl)else if ¬(0<=c.1/\c.1<=1152921504606846976)then 2 else if ¬(1<=c.2.2.2.2.2/\c.2.2.2.2.2<=1099511627776)then 2 else if 8<al.length then 5 else if Zlk al=true then 5
  else if c.1<G.la then 7 else if 4096<=G.op then 3 else G.t.touchE (cl c nl)
def GS.mid(G:GS)(c:PC):GS:={G with t:=G.t.touched (cl c nl),la:=c.1}
def GS.blocked(G:GS)(c:PC):GS:={G with t:=G.t.blocked (cl c nl)}
def GS.pass(G:GS)(c:PC)(pr:List Int):GS:={G with t:=G.t.passed (cl c nl),nx:=IntKind.wrap .i64 (G.nx+1),op:=IntKind.wrap .i64 (G.op+1),en:=upd G.en G.nx (some ⟨cl c nl,false,pr⟩)}
abbrev V4:=Int×Int×Int×Unit
noncomputable def ZjV(c:PC)(x:GS×List Int)(l:List Tk):GS×List Int:=l.foldl (ZfL c) x
noncomputable def GS.enter(G:GS)(c:PC)(al:List ByteArray)(gr:Bool):(Int×V4×Int)×GS:=
  if ZhM G c al≠0 then((0,(0,0,0,()),ZhM G c al),G)else
  match (ZnV (G.mid c) c al gr).1 with
  |some (k,i)=>((0,(k,i,0,()),0),(G.mid c).blocked c)
  |none=>(((ZjV c (G.mid c,[]) (ZnV (G.mid c) c al gr).2.1).1.nx,(0,0,(ZnV (G.mid c) c al gr).2.2,()),0),(ZjV c (G.mid c,[]) (ZnV (G.mid c) c al gr).2.1).1.pass c (ZjV c (G.mid c,[]) (ZnV (G.mid c) c al gr).2.1).2)
theorem GOK.mid{G:GS}{c:PC}(ok:GOK G):GOK (G.mid c):=⟨ok.we,ok.fit,ok.lf,ok.lb,ok.lh,ok.sh,ok.keys,ok.en⟩
theorem GOK.en'{G:GS}(ok:GOK G){k:Int}{e:Ent}(he:Zkr e.c):∀j a,upd G.en k (some e) j=some a->Zkr a.c:=λj a h=>by
  by_cases q:j=k
  ·subst q;rw[Zea]at h;cases h;exact he
  ·rw[Zit G.en _ q]at h;exact ok.en j a h
theorem GOK.pass{G:GS}{c:PC}{pr:List Int}(ok:GOK G)(hz:Zkr (cl c nl)):GOK (G.pass c pr):=⟨ok.we,ok.fit,ok.lf,ok.lb,ok.lh,ok.sh,ok.keys,ok.en' hz⟩
theorem GOK.run1{c:PC}{x:GS×List Int}(ok:GOK x.1)(tk:Tk):GOK (ZfL c x tk).1:=by
  unfold ZfL;have f1:∀{p:Option Pc} {w w':Wm} (f:FlowP),ZAS f (p,some w)->ZAS f (p,some w'):=λf h=>⟨h.1,λ_ e=>by cases e⟩;have f2:∀{p d:Pc} {w:Option Wm} (f:FlowP),ZAS f (some p,w)->ZAS f (some d,w):=λf h=>⟨λ_ e=>(by cases e),h.2⟩
  cases tk with
  |hot i v=>dsimp only;split;exact ok.setH;exact ok
  | warm i past sum=>
    dsimp only;split
    ·rename_i a;exact ok.setF a f1
    ·exact ok
  | pace i=>
    dsimp only;split
    ·rename_i a;exact ok.setF a f2
    ·exact ok
  | wp i past b=>
    dsimp only;split
    ·rename_i a;exact ok.setF a λf h=>f1 f (f2 f h)
    ·exact ok
  |brk i=>dsimp only;split;exact ok.setB;exact ok
theorem GOK.runs{c:PC}:∀{l:List Tk} {x:GS×List Int},GOK x.1->GOK (ZjV c x l).1
  |[],_,ok=>ok
  |t::l,x,ok=>GOK.runs (l:=l) (ok.run1 t)
structure GrG(T T':TgM)(h h':Zf):Prop where
  u:Upd (λj=>T j≠none) h h'
  s:ZdW T T'
  n:∀j,T' j≠none->T j≠none\/sz h<=j
section
variable{T T' T'':TgM}{h h' h'':Zf}{L:Lay}{G:GS}
theorem GrG.trans(a:GrG T T' h h')(b:GrG T' T'' h' h'')(hT:∀j,T j≠none->j<sz h):GrG T T'' h h'':=by
  refine⟨⟨Aqp a.u.size b.u.size,λk c d=>?_⟩,a.s.trans b.s,λj e=>?_⟩
  ·refine (b.u.old k (Aqq c a.u.size) λf=>?_).trans (a.u.old k c d)
   rcases a.n k f with g|g
   ·exact d g
   ·have:k<sz h:=c;omega
  ·rcases b.n j e with g|g
   ·exact a.n j g
   ·exact .inr (Aqp a.u.size g)
theorem GrG.ext(e:Ext h h'):GrG T T h h':=⟨e.upd _,ZdW.refl T,λ_ a=>.inl a⟩
theorem GrG.then(a:GrG T T' h h')(e:Ext h' h''):GrG T T' h h'':=⟨a.u.trans (e.upd _),a.s,a.n⟩
theorem GrG.pre(e:Ext h h')(a:GrG T T' h' h''):GrG T T' h h'':=⟨(e.upd _).trans a.u,a.s,λj b=>(a.n j b).imp id λg=>Aqp e.size g⟩
theorem GrG.new{S:Nat->Prop}(a:GrG T T' h h')(u:Upd S h' h'')(c:∀j,S j->sz h<=j):GrG T T' h h'':=⟨⟨Aqp a.u.size u.size,λk b d=>(u.old k (Aqq b a.u.size) λe=>by have:=c k e;have:k<sz h:=b;omega).trans (a.u.old k b d)⟩,a.s,a.n⟩
theorem GrG.one{b:Nat}(c:T b≠none)(u:Upd (· = b) h h'):GrG T T h h':=⟨u.mono λj _ a=>by have:j=b:=a;rw[this];exact c,ZdW.refl T,λ_ a=>.inl a⟩
theorem GrG.tag{t:Tg}{S:Nat->Prop}(hT:∀j,T j≠none->j<sz h)(u:Upd S h h')(b:∀j,S j->T j≠none){lo hi:Nat}(hl:sz h<=lo):GrG T (Zjv T t lo hi) h h':=
  ⟨u.mono λj _ a=>b j a,ZhO λj a=>Aqq (hT j a) hl,λj a=>by
    unfold Zjv at a;split at a
    ·exact .inr (by omega)
    ·exact .inl a⟩
theorem GrG.old(a:GrG T T' h h'){j:Nat}(b:j<sz h)(c:T j=none):obj h' j=obj h j:=a.u.old j b λd=>d c
theorem XI{j:Nat}{t:Tg}(h:T j=some t):T j≠none:=by rw[h];exact λe=>by cases e
end
theorem ZDT{α:Type}{a b:List α}{i:Nat}{x:α}(h:a.take i=b.take i)(c:a[i]?=some x)(d:b[i]?=some x):a.take (i+1)=b.take (i+1):=by rw[Aym,Aym,h,c,d]
theorem Zya{s t:Sl}{l m:List (BL×Int)}{h:Zf}(hs:Row h s 2 (Rw.Zds l))(k:Row h t 2 (Rw.Zds m))(hl:l.length<=1000000){K:Bool->Zf->Prop}(d:(l=m->K true h)/\(l≠m->K false h)):YV s t K h:=by
  unfold YV Xz;have la:=hs.len;have lb:=k.len;rw[Rw.Zh8]at la lb;refine Rw.Zq1 (λn=>d.2 λe=>n (by rw[e]at la;omega)) λq=>?_;have hlen:l.length=m.length:=by omega
  refine Zaj (λ(p:Int×Unit) o=>o=h/\∃i:Nat,p.1=(i:Int)/\i<=l.length/\l.take i=m.take i) (λp _=>((l.length:Int)- p.1).toNat) ⟨rfl,0,rfl,Ayg _,rfl⟩ ?_;rintro⟨D,u⟩ o ⟨f,i,hi,v,g⟩ Q w;subst f;dsimp only at hi⊢;subst hi;refine Zn (λx=>Za ?_) λy=>?_
  ·have a:i<l.length:=by omega
   obtain⟨p,c⟩:∃p,l[i]?=some p:=⟨_,Axy a⟩;obtain⟨q,b⟩:∃q,m[i]?=some q:=⟨_,Axy (by omega)⟩;refine Rw.Zq0 hs c rfl (Rw.Zq0 k b rfl ?_);rw[Rw.Zhf]
   by_cases e:p=q
   ·subst e;refine Zh (by simp) ?_;rw[wrS a (by omega)];exact w _ _ ⟨rfl,i+1,rfl,a,ZDT g c b⟩ (by show((l.length:Int)- ((i+1:Nat):Int)).toNat<((l.length:Int)- ((i:Nat):Int)).toNat;omega)
   ·refine Zm ?_ (d.2 λj=>e (by rw[j,b]at c;exact(Option.some.inj c).symm));obtain⟨z,A⟩:=p;obtain⟨B,C⟩:=q
    by_cases r:z=B
    ·subst r;have j:¬A=C:=λf=>e (by rw[f]);simp[j]
    ·simp[r]
  ·have:i=l.length:=by omega
   subst this;rw[Awd (Aqo _),Awd (by omega)]at g;exact d.1 g
theorem Zut{α β γ:Type}{f:α->β}{eq:β->Bool}:∀{ws:List α} {us:List Bool} {i:Nat},pick (λa=>eq (f a)) ws us i=pick eq (ws.map f) us i
  |[],us,i=>by cases us<;>rfl
  |w::ws,[],i=>rfl
  | w::ws,u::us,i=>by
    show(if u=false/\eq (f w)=true then _ else _)=(if u=false/\eq (f w)=true then _ else _);rw[Zut (γ:=γ) (ws:=ws) (us:=us) (i:=i+1)]
theorem Zsb{α β:Type}{f:α->β}{same:β->β->Bool}{c:List α}:∀{now:List α} {us:List Bool},ZfN (λa b=>same (f a) (f b)) c now us=ZfN same (c.map f) (now.map f) us
  |[],_=>rfl
  | r::rs,us=>by
    show(pick (λb=>same (f r) (f b)) c us 0).1::ZfN (λa b=>same (f a) (f b)) c rs (pick (λb=>same (f r) (f b)) c us 0).2=(pick (same (f r)) (c.map f) us 0).1::ZfN same (c.map f) (rs.map f) (pick (same (f r)) (c.map f) us 0).2;rw[Zut (γ:=β),Zsb]
theorem Zxt{a b:ZdX}{x y:Sl}{h:Zf}(r:Row h x 2 (Rw.Zds a.items))(t:Row h y 2 (Rw.Zds b.items))(hl:a.items.length<=1000000){K:Bool->Zf->Prop}(o:∀h',Ext h h'->K (ZmU a b) h'):ZeU (Rw.ZFy x a) (Rw.ZFy y b) K h:=by
  have tr:a=b->ZmU a b=true:=λe=>(ZrP a b).2 e;unfold ZeU Zhs;refine ZF λh1 c1 u v=>ZF λg f p w=>?_;have c:=Zj c1 p;have d:=u.trans p
  have no:a≠b->K false g:=λe=>by
    have:=o g d
    cases q:ZmU a b with
    |false=>rwa[q]at this
    |true=>exact absurd ((ZrP a b).1 q) e
  have yes:a=b->K true g:=λe=>by
    have:=o g d;rwa[tr e]at this
  refine rS (n:=Zu a.res) (Zb c rfl) (rS (n:=Zu b.res) (Zb f rfl) ?_);rw[Rw.Zhf];refine Zn (λi=>?_) λi=>no λe=>i (by rw[e]);refine rI (n:=a.index) (Zb c rfl) (rI (n:=b.index) (Zb f rfl) (Ym (λj=>?_) λj=>no λe=>j (by rw[e])));refine rI (n:=a.cnt) (Zb c rfl) (rI (n:=b.cnt) (Zb f rfl) (Ym (λk=>?_) λk=>no λe=>k (by rw[e])));refine rI (n:=a.secs) (Zb c rfl) (rI (n:=b.secs) (Zb f rfl) (Ym (λl=>?_) λl=>no λe=>l (by rw[e])));refine rL (s:=x) (Zb c rfl) (rL (s:=y) (Zb f rfl) (Zya (r.ext d) (t.ext d) hl ⟨λm=>Zd (yes ?_),λm=>Zd (no λe=>m (by rw[e]))⟩));obtain⟨z,A,a3,a4,a5⟩:=a;obtain⟨b1,b2,B,b4,C⟩:=b;simp only at i j k l m;rw[i,j,k,l,m]
theorem ZvK{a b:ZdX}{x y:Sl}{h:Zf}(ha:Row h x 2 (Rw.Zds a.items))(hb:Row h y 2 (Rw.Zds b.items))(hl:a.items.length<=1000000){K:Bool->Zf->Prop}(n:∀h',Ext h h'->K (ZmU a b) h'):XG (Rw.ZFy x a) (Rw.ZFy y b) K h:=by
  unfold XG Zcw;refine ZF λh1 c1 e1 z1=>ZF λh2 c2 U z2=>?_;have d:=Zj c1 U;refine rS (Zb d rfl) (rI (Zb d rfl) (rI (Zb d rfl) (rI (Zb d rfl) (rL (s:=x) (Zb d rfl) (ZF λh3 c3 V z3=>?_)))));have f:=Zj c2 V;refine rS (Zb f rfl) (rI (Zb f rfl) (rI (Zb f rfl) (rI (Zb f rfl) (rL (s:=y) (Zb f rfl) (ZF λh4 c4 W z4=>?_)))));have B:=Zj c3 W;unfold Zj3 Zkg;refine ZF λh5 c5 C z5=>ZF λh6 o w z6=>?_;have g:=Zj c5 w;have D:=(V.trans W).trans (C.trans w);have l:=(e1.trans U).trans D;refine rL (s:=nl) (Zb g rfl) (rL (s:=nl) (Zb o rfl) ?_);unfold Xy XA;refine Zh rfl (Zaj (λp F=>p=(0,())/\F=h6) (λ_ _=>0) ⟨rfl,rfl⟩ ?_);rintro _ F ⟨rfl,G⟩ Q _;subst G;refine Zh rfl (Zm rfl (rL (s:=nl) (Zb g rfl) (rL (s:=nl) (Zb o rfl) ?_)));unfold Xl Xm;refine Zh rfl (Zaj (λp H=>p=(0,())/\H=F) (λ_ _=>0) ⟨rfl,rfl⟩ ?_);rintro _ H ⟨rfl,I⟩ Q _;subst I;refine Zh rfl (Zm rfl (rL (s:=nl) (Zb g rfl) (rL (s:=nl) (Zb o rfl) ?_)));unfold Xc Xd;refine Zh rfl (Zaj (λp z=>p=(0,())/\z=H) (λ_ _=>0) ⟨rfl,rfl⟩ ?_);rintro _ z ⟨rfl,J⟩ Q _;subst J;have fin:∀(v:Bool) (r:Zf),v=ZmU a b->Ext h r->K v r:=λv r e L=>by rw[e];exact n r L
  refine Zh rfl (Zm rfl (rL (s:=⟨some ⟨sz h2,0,none⟩,1,1⟩) (Zb g rfl) (rL (s:=⟨some ⟨sz h3,0,none⟩,1,1⟩) (Zb o rfl) ?_)));unfold ZJ ZK;have d3:=Zj B (C.trans w);have d4:=Zj c4 (C.trans w);refine Zh rfl (Zaj (λ(p:Int×Unit) hz=>(p.1=0/\hz=z)\/(p.1=1/\Ext z hz/\ZmU a b=true)) (λp _=>(1-p.1).toNat) (.inl ⟨rfl,rfl⟩) ?_);rintro⟨i,u⟩ hz (⟨m,M⟩ |⟨m,N,hs⟩) Q hQ
  ·dsimp only at m⊢
   subst m;subst M;have ix:∀{A:Nat} {P:Nat->Nat->Prop},P A 0->Yk (some ⟨A,0,none⟩) 1 0 5 P:=λ{A P} m=>⟨A,0,rfl,by decide,by decide,m⟩;refine Zm rfl (ix (rS (Zb d3 rfl) (rI (Zb d3 rfl) (rI (Zb d3 rfl) (rI (Zb d3 rfl) (rL (s:=x) (Zb d3 rfl) (ZF λh7 c7 e7 z7=>Za (ZaN c7 λX c8 u8 z8=>ix ?_))))))));have Y:Ext hz X:=e7.then u8 λk n=>by subst n;exact Aqo _
   have d48:=Zj d4 Y;refine rS (Zb d48 rfl) (rI (Zb d48 rfl) (rI (Zb d48 rfl) (rI (Zb d48 rfl) (rL (s:=y) (Zb d48 rfl) (ZF λr c9 L z9=>ZaN c9 λO j R au=>?_)))));have t:Ext X O:=L.then R λk n=>by subst n;exact Aqo _
   have c:=Zj c8 t;refine rS (Zb c rfl) (rI (Zb c rfl) (rI (Zb c rfl) (rI (Zb c rfl) (rL (s:=x) (Zb c rfl) (rS (Zb j rfl) (rI (Zb j rfl) (rI (Zb j rfl) (rI (Zb j rfl) (rL (s:=y) (Zb j rfl) (?_))))))))));have E:=Y.trans t;refine Zxt (ha.ext (l.trans E)) (hb.ext (l.trans E)) hl λav S=>?_;have Z:=E.trans S
   cases q:ZmU a b with
   |true=>exact Zh rfl (hQ _ _ (.inr ⟨rfl,Z,q⟩) (show(1-IntKind.wrap .i64 (0+1)).toNat<(1-(0:Int)).toNat by decide))
   |false=>exact Zm rfl (Zh rfl (Zd (fin _ _ q.symm (l.trans Z))))
  ·dsimp only at m⊢;subst m;refine Zh rfl (Zm rfl (rL (s:=nl) (Zb (Zj g N) rfl) (rL (s:=nl) (Zb (Zj o N) rfl) ?_)));unfold Zv Zw;refine Zh rfl (Zaj (λp hw=>p=(0,())/\hw=hz) (λ_ _=>0) ⟨rfl,rfl⟩ ?_);rintro _ hw ⟨rfl,T⟩ Q _;subst T;exact Zh rfl (Zd (Zd (fin _ _ hs.symm (l.trans N))))
theorem ZEt{h:Zf}{s w:Sl}{A B:List (Sl×ZdX)}(hs:Row h s 5 (A.flatMap Rw.ZjI))(hw:Row h w 5 (B.flatMap Rw.ZjI))(hi:∀p,p∈A\/p∈B->Row h p.1 2 (Rw.Zds p.2.items)/\p.2.items.length<=1000000)(F:A.length<=256)(G:B.length<=256){K:Sl->Zf->Prop}(q:∀h' t,Ext h h'->Own h' (sz h) t 1 ((ZfN ZmU (B.map (·.2)) (A.map (·.2)) (List.replicate B.length false)).map iv)->K t h'):Yf s w K h:=by
  unfold Yf YM;rw[<-Zsb]at q
  refine Zx8 (g:=Rw.ZjI) (n:=5) (T:=72) (same:=λa b=>ZmU a.2 b.2) (λ_=>rfl) (by decide) hs hw F G
    (ld1:=λb o h3 Q=>ldS h3 b o λt0=>ldI h3 b (o+1) .i64 λt1=>ldI h3 b (o+2) .i64 λt2=>ldI h3 b (o+3) .i64 λt3=>ldL h3 b (o+4) λt4=>newC h3 [Value.string (ByteArray.mk #[]),iv 0,iv 0,iv 0,Value.slice none 0 0] 72 λj l=>sts l j 0 [Value.string t0,iv t1,iv t2,iv t3,Value.slice t4.ptr t4.len t4.cap] λm=>Q j m)
    (ld2:=λb o h3 u Q=>ldS h3 b o λt0=>ldI h3 b (o+1) .i64 λt1=>ldI h3 b (o+2) .i64 λt2=>ldI h3 b (o+3) .i64 λt3=>ldL h3 b (o+4) λt4=>newC h3 [Value.string (ByteArray.mk #[]),iv 0,iv 0,iv 0,Value.slice none 0 0] 72 λj l=>Zc u λi=>sts l j 0 [Value.string t0,iv t1,iv t2,iv t3,Value.slice t4.ptr t4.len t4.cap] λm=>Q j i m)
    (cmp:=λc d f Q=>ldS f c 0 λH=>ldI f c (0+1) .i64 λI=>ldI f c (0+2) .i64 λJ=>ldI f c (0+3) .i64 λL=>ldL f c (0+4) λM=>ldS f d 0 λN=>ldI f d (0+1) .i64 λO=>ldI f d (0+2) .i64 λP=>ldI f d (0+3) .i64 λR=>ldL f d (0+4) λS=>XG (H,I,J,L,M,()) (N,O,P,R,S,()) Q f) ?_ ?_ ?_ q
  ·intro a U o f Q e r;exact rS (e 0 _ rfl) (rI (e 1 _ rfl) (rI (e 2 _ rfl) (rI (e 3 _ rfl) (rL (s:=a.1) (e 4 _ rfl) (ZF λh1 c1 v V=>ZaN c1 λz C D W=>r z _ (v.then D λk q=>by subst q;exact Aqo _) (Aqo _) C)))))
  ·intro a U o f i Q e r;exact rS (e 0 _ rfl) (rI (e 1 _ rfl) (rI (e 2 _ rfl) (rI (e 3 _ rfl) (rL (s:=a.1) (e 4 _ rfl) (ZF λh1 c1 v V=>Za (ZaN c1 λz C D W=>r z _ (v.then D λk q=>by subst q;exact Aqo _) C))))))
  ·intro a b c d f Q E X he e hd r;refine rS (Zb e rfl) (rI (Zb e rfl) (rI (Zb e rfl) (rI (Zb e rfl) (rL (s:=a.1) (Zb e rfl) (rS (Zb hd rfl) (rI (Zb hd rfl) (rI (Zb hd rfl) (rI (Zb hd rfl) (rL (s:=b.1) (Zb hd rfl) (ZvK (x:=a.1) (y:=b.1) ((hi a (.inl E)).1.ext he) ((hi b (.inr X)).1.ext he) (hi a (.inl E)).2 r))))))))))
theorem Zq2{KL:List Int}{kt:Sl}{body:Int->Int->Zf->(Zf->Prop)->Prop}{K:Zf->Prop}{h:Zf}(Inv:Nat->Zf->Prop)(hl:KL.length<=1000000)
    (e:∀m hh,Inv m hh->Row hh kt 1 (KL.map iv)) (h0:Inv 0 h) (hs:∀(m:Nat) k hh (Q:Zf->Prop),KL[m]?=some k->Inv m hh->(∀h',Inv (m+1) h'->Q h')->body m k hh Q) (he:∀hh,Inv KL.length hh->K hh):
    ZP (σ:=Int×Unit) (λJ s hh=>(λ(i:Int)=>Zk (decide (i<(kt.len:Int))) (Yk kt.ptr kt.len i 1 λb o=>ldI hh b o .i64 λt=>body i t hh (λh'=>J (IntKind.wrap .i64 (i+1),()) h')) (K hh)) s.1) (0,()) h:=by
  refine Zaj (λ(p:Int×Unit) hh=>∃m:Nat,p=((m:Int),())/\m<=KL.length/\Inv m hh) (λp _=>((KL.length:Int)- p.1).toNat) ⟨0,rfl,Ayg _,h0⟩ ?_;rintro _ hh ⟨m,rfl,hm,hi⟩ Q f;dsimp only;have r:=e m hh hi;have g:=r.len;simp only[Ayv,Aqv]at g;refine Zn (λq=>?_) λq=>?_
  ·have a:m<KL.length:=by omega
   have c:KL[m]?=some KL[m]:=Axy a;generalize KL[m]=k at c;refine r.idx (i:=(m:Int)) (n:=m) rfl (v:=iv k) (by rw[Awy,c];rfl) λb o _ j=>⟨k,j,?_⟩;refine hs m k hh _ c hi λh' d=>?_;rw[wrS a (by omega)];exact f _ _ ⟨m+1,rfl,a,d⟩ (by show((KL.length:Int)- ((m+1:Nat):Int)).toNat<((KL.length:Int)- ((m:Nat):Int)).toNat;omega)
  ·have:m=KL.length:=by omega
   subst this;exact he hh hi
structure ZsV{σ:Type}(hA:Zf)(b12:Nat)(mk:Sl->Obj)(n:Nat)(gV:σ->List Value)(hd:σ->List Nat)(P:Zf->TgM->σ->Prop)(old:List σ)(T:TgM)(KL:List Int)(m:Nat)(hh:Zf)(s:Sl)(done:List σ)(T':TgM):Prop where
  u:Upd (· = b12) hA hh
  c:obj hh b12=some (mk s)
  o:Own hh (sz hA) s n (done.flatMap gV)
  l:done.length=m
  sel:Sel hd old KL (sz hA) (sz hh) done
  sub:ZdW T T'
  new:∀j,T' j≠none->T j≠none\/(sz hA<=j/\j<sz hh)
  sb:∀b,s.blk=some b->T' b=none
  b:T' b12=none
  e:∀(i:Nat) (x:σ),done[i]?=some x->P hh T' x
def Zqa{σ:Type}(P:Zf->TgM->σ->Prop):Prop:=∀{a b:Zf} {U c:TgM} {x:σ},P a U x->Zdw (λ_=>False) U a b->ZdW U c->sz a<=sz b->P b c x
section
variable{σ:Type}{hA hh:Zf}{b12:Nat}{mk:Sl->Obj}{n:Nat}{gV:σ->List Value}{hd:σ->List Nat}{P:Zf->TgM->σ->Prop}{old:List σ}{T T':TgM}{KL:List Int}{m:Nat}{s:Sl}{done:List σ}
theorem ZsV.add(I:ZsV hA b12 mk n gV hd P old T KL m hh s done T')(G:Zqa P)(hT:∀j,T j≠none->j<sz hA)(K:b12<sz hA){h1 d h3:Zf}{mk':Sl->Obj}{s':Sl}{x:σ}{T'':TgM}(B:Upd (· = b12) hh h1)(L:Own d (sz hA) s' n (done.flatMap gV++gV x))(C:Upd (λk=>s.blk=some k) h1 d)
    (M:obj h3 b12=some (mk' s')) (z:Upd (· = b12) d h3) (D:s'.blk=s.blk\/s'.blk=some (sz h1)) (p:Sel hd old KL (sz hA) (sz h1) (done++[x])) (sub:ZdW T' T'') (new:∀j,T'' j≠none->T' j≠none\/(sz hh<=j/\j<sz h1)) (H:∀b,s.blk=some b->T'' b=none) (r:T'' b12=none) (N:P h1 T'' x):
    ZsV hA b12 mk' n gV hd P old T KL (m+1) h3 s' (done++[x]) T'':=by
  have w0:sz hA<=sz hh:=I.u.size;have w1:sz hh<=sz h1:=B.size;have v:sz h1<=sz d:=C.size;have A:sz d<=sz h3:=z.size
  have w:Zdw (λ_=>False) T'' h1 h3:=λj t a _=>by
    have f:j<sz h1:=by
      rcases new j (XI a)with g|g
      ·rcases I.new j g with g|g
       ·have:=hT j g;omega
       ·omega
      ·exact g.2
    have O:¬s.blk=some j:=λe=>by rw[H j e]at a;cases a
    have Q:¬j=b12:=λe=>by rw[e,r]at a;cases a
    exact(z.old j (Aqq f v) Q).trans (C.old j f O)
  have E:Zdw (λ_=>False) T' hh h3:=λj t a hd=>by
    have f:j<sz hh:=by
      rcases I.new j (XI a)with g|g
      ·have:=hT j g;omega
      ·exact g.2
    exact(w j t (sub.to a) hd).trans (B.old j f λe=>by rw[e,I.b]at a;cases a)
  refine⟨?_,M,?_,by rw[Awe,I.l];rfl,p.top (Aqp v A),I.sub.trans sub,λj f=>?_,λb c=>?_,r,λi y R=>?_⟩
  ·refine⟨Aqp I.u.size (Aqp w1 (Aqp v A)),λk J F=>?_⟩;have S:k<sz hA:=J;refine(z.old k (show k<sz d by omega) F).trans ((C.old k (show k<sz h1 by omega) λe=>?_).trans ((B.old k (show k<sz hh by omega) F).trans (I.u.old k J F)));have:=(I.o.lt e).1;omega
  ·rw[Ayl];have:=ZmG L z K;simpa using this
  ·rcases new j f with g|g
   ·rcases I.new j g with g|g
    ·exact .inl g
    ·exact .inr ⟨g.1,by omega⟩
   ·exact .inr ⟨by omega,by omega⟩
  ·rcases D with e|e
   ·exact H b (e▸c)
   ·rw [e]at c;cases c
    cases q:T'' (sz h1)with
    |none=>rfl
    | some t=>
      rcases new _ (XI q)with g|g
      ·rcases I.new _ g with g|g
       ·have:=hT _ g;omega
       ·omega
      ·omega
  ·rcases Zrl R with h|⟨_,h⟩
   ·exact G (I.e i y h) E sub (Aqp w1 (Aqp v A))
   ·subst h;exact G N w (ZdW.refl _) (Aqp v A)
theorem ZsV.keepOld(I:ZsV hA b12 mk n gV hd P old T KL m hh s done T')(c:Zqa P)(hT:∀j,T j≠none->j<sz hA){k:Nat}{x:σ}(_:old[k]?=some x)(d:P hA T x):P hh T' x:=
  c d (λj t a _=>I.u.old j (ZeL hT a) λe=>by
   have:=I.sub.to a;rw[e,I.b]at this
   cases this) I.sub I.u.size
end
end Go.Proofs.YtonbfpnngkemiaaGreat
