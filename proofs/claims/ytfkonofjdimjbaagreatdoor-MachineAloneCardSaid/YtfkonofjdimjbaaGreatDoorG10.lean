/-
  PROVED HERE: a part of the proof (MM16, MM17, MM18, MM19, ML1, MM20, A26).
-/
import Derived.Test.YtfkonofjdimjbaaGreatDoorG9
import Derived.Test.YtfkonofjdimjbaaGreatDoorG8
import Derived.Test.YtfkonofjdimjbaaGreatDoorG4
import Derived.Test.YtfkonofjdimjbaaGreatDoorRZ
import Derived.Test.YtfkonofjdimjbaaGreatDoorG2
import Derived.Test.YtfkonofjdimjbaaGreatDoorRows
set_option linter.unusedVariables false
set_option linter.unusedSimpArgs false
set_option maxRecDepth 100000
set_option maxHeartbeats 4000000
namespace Go.Proofs
open Go.Vai Go.Clashes
open Tryz (prog)
structure MOk(A:MA)(M:List (Int × Int)):Prop where
 m25:M.length<=25
 most:A.E.z.most=2
 O:∀o∈A.O,Uq o
 i:InM M A.O
section
variable {h h':af}{A:MA}{M:List (Int × Int)}{k pk F:Nat}
theorem qq.Yp(s:qq A M k pk F h)(l:Le h h'):qq A M k pk F h':=by
 obtain⟨v,x,w,u,s,n,I,r⟩:=s;exact⟨v,x,w,u,s.le l I.bp.1,n,I.ic (IC.of_le l),r⟩
theorem tT.Yp(s:tT A M k pk F h)(l:Le h h'):tT A M k pk F h':=by
 obtain⟨v,S,w,u,e,P0,p,C0,c,s,n,Pr,st,r⟩:=s;exact⟨v,S,w,u,e,P0,p,C0,c,s.le l (Pr.bp st).1,n,Pr,Pr.ic _ _ _ _ _ st (IC.of_le l),r⟩
theorem tU.Yp(s:tU A M k pk h)(l:Le h h'):tU A M k pk h':=by
 obtain⟨v,w,u,s,n,I,r⟩:=s;exact⟨v,w,u,s.le l I.bp.1,n,I.ic (IC.of_le l),r⟩
theorem apf(s:qq A M k pk F h\/tT A M k pk F h)(ok:MOk A M)(yu:k<=600)(hF:1<=F)(V:KQ)(hk:∀h',EP A M (k+1) pk (F-1) h'->jY h h'->V (.tuple ⟨[]⟩) h'):aq prog 50 [pt A.tb] h V:=by
 rcases s with⟨v,x,w,u,s,n,I,hu,hl,hc,hf,q⟩|r
 .by_cases e:v.lt=true
  .have hx:=hl e;rw[if_neg YYZ]at hf;exact NM s n I hu yu hx hc ok.m25 ok.most hf (.inl e) V hk
  .have e:v.lt=false:=by cases h:v.lt<;>simp_all
   by_cases ep:v.pos=A.O.length
   .have hx:x≠0:=λh0=>q ⟨ep,e,h0⟩;have hx1:1<=x:=by rcases I.x01 with h|h<;>omega
    rw[if_neg hx]at hf;exact NM s n I hu yu hx1 hc ok.m25 ok.most hf (.inr ep) V hk
   .have:=n.pos;exact ae8 s n I hu yu hc ok.m25 ok.most ok.O ok.i hf e YYZ V hk
 .exact Yn r yu hF V hk
theorem UR(V:KQ)(hk:V (YYX 0) h):aq prog 49 [YYX 0,YYX ((1:Nat):Int)] h V:=
 gN mixed (show bA prog 200 49 [YYX 0,YYX ((1:Nat):Int)] (YYX 0)=true by kernel_rfl) hk
theorem Yq(s:tU A M k pk h)(V:KQ)(hk:V (.bool false) h):aq prog 23 [pt A.mb,YYX 0] h V:=by
 apply YYW;rw[Zh];refine JJ s.E6 _ (λ_=>?_) (λe=>by cases e);simp(disch:=try exact Y)only[Wz,show((0:Nat):Int)=0 from rfl];exact hk
theorem Yr(s:qq A M k pk F h\/tT A M k pk F h)(ok:MOk A M)(yu:k<=600)(hF:1<=F)(V:KQ)(hk:∀h',EP A M (k+1) pk (F-1) h'->jY h h'->V (.bool true) h'):aq prog 23 [pt A.mb,YYX 0] h V:=by
 have E6:B9 h A false:=by
  rcases s with s|s
  .exact s.E6
  .exact s.E6
 apply YYW;rw[Zh];refine JJ E6 _ (λe=>by cases e) (λ_ b c h1 bT hb gb=>?_);have s1:qq A M k pk F h1\/tT A M k pk F h1:=by
  rcases s with s|s
  .exact .inl (s.Yp bT)
  .exact .inr (s.Yp bT)
 have aj6:B9 h1 A false:=by
  rcases s1 with s|s
  .exact s.E6
  .exact s.E6
 obtain⟨v,gm⟩:=aj6.m;have gh:=aj6.gh;unfold j_ at gm;have ix:∀(β:Type)(fl:β)(b n c:Nat)(h:af)(V:YYY β),0<n->aK fl 1 (YYU b n c) (YYX 0) h V=V (YYV b) h:=λβ fl b n c h V hn=>br 1 b 0 n c 0 h V hn;have e1:((1:Nat):Int)=1:=rfl;simp(disch:=try exact Y)only[Wz,e1,ML,aJ,gm];refine UR _ ?_;simp(disch:=try exact Y)only[Wz,aJ,gm,gb,gh,ix];refine apf s1 ok yu hF _ ?_;intro h2 g2 q2;exact hk h2 g2 (jY.trans (KT.le bT) q2)
theorem EP.pick(g:EP A M k pk F h):∃v:MV,h.bl.get A.mb=some (j_ A v)/\v.eV=(pk:Int)/\h.lo<=A.mb/\EP A M k (pk+1) F ⟨h.nx,h.bl.bt A.mb (j_ A { v with eV:=v.eV+1 }),h.lo⟩/\jY h ⟨h.nx,h.bl.bt A.mb (j_ A { v with eV:=v.eV+1 }),h.lo⟩:=by
 rcases g with⟨v,x,w,u,s,n,I,r⟩|⟨v,S,w,u,e,P0,p,C0,c,s,n,Pr,st,r⟩
 .obtain⟨s2,k2⟩:=s.JG I.bp.1 { v with eV:=v.eV+1 } rfl s.se s.pp s.cc s.ne s.len;exact⟨v,s.gm,n.pk,s.iN.2,.inl ⟨_,x,w,u,s2,⟨n.pos,n.tx,by show v.eV+1=_;rw[n.pk];rfl,n.P,n.ev⟩,I.ic k2,r⟩,k2.kq⟩
 .obtain⟨s2,k2⟩:=s.JG (Pr.bp st).1 { v with eV:=v.eV+1 } rfl s.se s.pp s.cc s.ne s.len;exact⟨v,s.gm,n.pk,s.iN.2,.inr ⟨_,S,w,u,e,P0,p,C0,c,s2,⟨n.pos,n.tx,by show v.eV+1=_;rw[n.pk];rfl,n.P,n.ev⟩,Pr,Pr.ic _ _ _ _ _ st k2,r⟩,k2.kq⟩
theorem tU.pick(g:tU A M k pk h):∃v:MV,h.bl.get A.mb=some (j_ A v)/\v.eV=(pk:Int)/\h.lo<=A.mb/\tU A M (k+1) (pk+1) ⟨h.nx,h.bl.bt A.mb (j_ A { v with eV:=v.eV+1 }),h.lo⟩/\jY h ⟨h.nx,h.bl.bt A.mb (j_ A { v with eV:=v.eV+1 }),h.lo⟩:=by
 obtain⟨v,w,u,s,n,I,hu,r⟩:=g;obtain⟨s2,k2⟩:=s.JG I.bp.1 { v with eV:=v.eV+1 } rfl s.se s.pp s.cc s.ne s.len;have nu:=n.up;exact⟨v,s.gm,n.pk,s.iN.2,⟨_,w,u,s2,⟨nu.pos,nu.tx,by show v.eV+1=_;rw[n.pk];rfl,nu.P,nu.ev⟩,I.ic k2,YYZ,r⟩,k2.kq⟩
theorem Ys(s:tU A M k pk h)(hpk:pk<=5000)(V:KQ)(hk:∀h',tU A M (k+1) (pk+1) h'->jY h h'->V (.bool false) h'):aq prog 11 [pt A.mb,.agg ⟨[YYX 1,YYX 0]⟩] h V:=by
 have gp:∃vp,h.bl.get A.pk=some (ah [Value.nilFunc,.func (.func 23) ⟨[pt A.mb]⟩ ⟨[]⟩,.func (.func 24) ⟨[pt A.mb]⟩ ⟨[]⟩,.func (.func 25) ⟨[pt A.mb]⟩ ⟨[]⟩,.func (.func 26) ⟨[pt A.mb]⟩ ⟨[]⟩] 51 false)/\vp=A.pk/\A.pk<h.nx/\A.mb<h.nx:=by
  obtain⟨v,w,u,s,_⟩:=s;exact⟨_,s.gp,rfl,s.xq,s.iN.1⟩
 obtain⟨_,gp,_,lp,lm⟩:=gp;apply YYW;rw[Ze];simp(disch:=try exact Y)only[Wz];obtain⟨hA,bg,aS,gA,dP,dQ⟩:=jH h (ah [YYX 1,YYX 0] 45 false);rw[<-bg]
 try rw[show(h.bl.bt (h.nx) (ah [YYX 1,YYX 0] 45 false))=hA.bl by rw[bg]]
 clear bg;have sA:=s.Yp aS;obtain⟨v,gm,_,_⟩:=sA.pick;unfold j_ at gm;have gpA:=(aS.get _ lp).trans gp;have ix:∀(β:Type)(fl:β)(b:Nat)(h:af)(V:YYY β),aK fl 1 (YYU b 5 5) (YYX 1) h V=V (.pointer (some ⟨b,0+1*1,none⟩)) h:=λβ fl b h V=>br 1 b 0 5 5 1 h V YYQ;simp (maxSteps:=3000000) (disch:=try exact Y)only[Wz,r_,DQ,aJ,gA,gm,ix,gpA,bf (show(1:Int)<=1 by decide),bf (show(1:Int)<=4 by decide)];refine Yq sA _ ?_;obtain⟨v,gm,ep,OJ,s2,q2⟩:=sA.pick;have fin:=hk _ s2 (jY.trans (KT.le aS) q2);unfold j_ at fin gm;rw[ep]at fin gm;simp(disch:=try exact Y)only[Wz,aJ,gm];exact fin
theorem Yt(s:qq A M k pk F h\/tT A M k pk F h)(ok:MOk A M)(yu:k<=600)(hF:1<=F)(hpk:pk<=5000)(V:KQ)(hk:∀h',EP A M (k+1) (pk+1) (F-1) h'->jY h h'->V (.bool true) h'):aq prog 11 [pt A.mb,.agg ⟨[YYX 1,YYX 0]⟩] h V:=by
 have gp:∃vp,h.bl.get A.pk=some (ah [Value.nilFunc,.func (.func 23) ⟨[pt A.mb]⟩ ⟨[]⟩,.func (.func 24) ⟨[pt A.mb]⟩ ⟨[]⟩,.func (.func 25) ⟨[pt A.mb]⟩ ⟨[]⟩,.func (.func 26) ⟨[pt A.mb]⟩ ⟨[]⟩] 51 false)/\vp=A.pk/\A.pk<h.nx/\A.mb<h.nx:=by
  rcases s with⟨v,x,w,u,s,_⟩|⟨v,S,w,u,e,P0,p,C0,c,s,_⟩
  .exact⟨_,s.gp,rfl,s.xq,s.iN.1⟩
  .exact⟨_,s.gp,rfl,s.xq,s.iN.1⟩
 obtain⟨_,gp,_,lp,lm⟩:=gp;apply YYW;rw[Ze];simp(disch:=try exact Y)only[Wz];obtain⟨hA,bg,aS,gA,dP,dQ⟩:=jH h (ah [YYX 1,YYX 0] 45 false);rw[<-bg]
 try rw[show(h.bl.bt (h.nx) (ah [YYX 1,YYX 0] 45 false))=hA.bl by rw[bg]]
 clear bg;have sA:qq A M k pk F hA\/tT A M k pk F hA:=by
  rcases s with s|s
  .exact .inl (s.Yp aS)
  .exact .inr (s.Yp aS)
 obtain⟨v,gm⟩:∃v,hA.bl.get A.mb=some (j_ A v):=by
  rcases sA with s|s
  .exact s.E6.m
  .exact s.E6.m
 unfold j_ at gm;have gpA:=(aS.get _ lp).trans gp;have ix:∀(β:Type)(fl:β)(b:Nat)(h:af)(V:YYY β),aK fl 1 (YYU b 5 5) (YYX 1) h V=V (.pointer (some ⟨b,0+1*1,none⟩)) h:=λβ fl b h V=>br 1 b 0 5 5 1 h V YYQ;simp (maxSteps:=3000000) (disch:=try exact Y)only[Wz,r_,DQ,aJ,gA,gm,ix,gpA,bf (show(1:Int)<=1 by decide),bf (show(1:Int)<=4 by decide)];refine Yr sA ok yu hF _ ?_;intro h1 g1 q1;obtain⟨v,gm,ep,OJ,s2,q2⟩:=g1.pick;have fin:=hk _ s2 (jY.trans (jY.trans (KT.le aS) q1) q2);unfold j_ at fin gm;rw[ep]at fin gm;simp(disch:=try exact Y)only[Wz,aJ,gm];exact fin
end
section
variable {h h':af}{A:MA}{M:List (Int × Int)}{k pk F:Nat}
theorem Yu(s:tU A M k pk h)(yu:k<=600)(V:KQ)(hk:∀h' ve vp vc C,tU A M k pk h'->Sl cQ h' (vc) C->(∀c∈C,NH c)->C.length<=600->(∃x n c,ve=.slice x n c)->(∃x n c,vp=.slice x n c)->jY h h'->V (.agg ⟨[ve,vp,vc,YYX (pk:Int)]⟩) h'):aq prog 12 [pt A.mb] h V:=by
 have s0:=s;obtain⟨v,w,u,s,n,I,hu,q1,q2,hc⟩:=s;obtain⟨bp,hlo⟩:=I.bp;have nP:=n.P;have nE:=n.ev;have lC:=s.len;have gm:=s.gm;unfold j_ at gm;rw[n.pk]at gm;have iN:=s.iN.1;have hvc:lE 8 v.vc v.vc=true:=by
  rcases s.cc.e with⟨_,e,_⟩|⟨b2,_,e,_⟩
  .rw[e];exact pY _ _
  .rw[e];exact iD _ _ _ _
 obtain⟨ex,ec,ee,_⟩:=s.se.sl;obtain⟨px,pc,ep,_⟩:=s.pp.sl;obtain⟨cx,cc,ecc,_⟩:=s.cc.sl;rw[ee,ep,ecc]at gm;rw[ecc]at hvc;have se:=s.se.sl;have sp:=s.pp.sl;have sc:=s.cc.sl;rw[ee]at se;rw[ep]at sp;rw[ecc]at sc;apply YYW;rw[agN];simp(disch:=try exact Y)only[Wz,r_];obtain⟨hA,bg,aS,gA,dP,dQ⟩:=jH h (ah [.slice none 0 0,.slice none 0 0,.slice none 0 0,YYX 0] 49 false);rw[<-bg]
 try rw[show(h.bl.bt (h.nx) (ah [.slice none 0 0,.slice none 0 0,.slice none 0 0,YYX 0] 49 false))=hA.bl by rw[bg]]
 clear bg;have gmA:=(aS.get _ iN).trans gm;simp (maxSteps:=3000000) (disch:=try exact Y)only[Wz,MD,aJ,gmA];obtain⟨hB,ig,ct,gB,BX,BZ⟩:=jH hA (ah [.slice ex v.ev.length ec,.slice px v.P.length pc,.slice cx v.C.length cc,YYX (pk:Int)] 49 false);rw[<-ig]
 try rw[show(hA.bl.bt (hA.nx) (ah [.slice ex v.ev.length ec,.slice px v.P.length pc,.slice cx v.C.length cc,YYX (pk:Int)] 49 false))=hB.bl by rw[ig]]
 clear ig;have CO:=aS.trans ct;refine d_ (enc:=vU) (a:=hB) (L:=[]) (M:=v.ev) JD JE YYQ YYQ (.inl ⟨rfl,.inl rfl⟩) (se.le CO) (Le.refl hB) (by simp;omega) YYZ _ ?_;intro vE h1 oE bT _ _;obtain⟨fx,fc,rfl,_⟩:=oE.sl;have Jb:=bT.nx;have Jc:=bT.lo;have gB:=(bT.get _ YYZ).trans gB;simp(disch:=try exact Y)only[Wz,gB];obtain⟨h2,e2⟩:∃h2:af,h2=⟨h1.nx,h1.bl.bt hA.nx (ah [.slice fx ([]++v.ev).length fc,.slice px v.P.length pc,.slice cx v.C.length cc,YYX (pk:Int)] 49 false),h1.lo⟩:=⟨_,rfl⟩
 have bE:Le hA h2:=by rw[e2];exact(ct.trans bT).set (Nat.le_refl _) _
 have g2:h2.bl.get hA.nx=some (ah [.slice fx ([]++v.ev).length fc,.slice px v.P.length pc,.slice cx v.C.length cc,YYX (pk:Int)] 49 false):=by rw[e2];exact T.az _ _ _
 have n2:h2.nx=h1.nx:=by rw[e2]
 have l2:h2.lo=h1.lo:=by rw[e2]
 rw[<-e2];clear e2;refine d_ (enc:=cQ) (a:=h2) (L:=[]) (M:=v.P) dA kr YYQ YYQ (.inl ⟨rfl,.inl rfl⟩) (sp.le (aS.trans bE)) (Le.refl h2) (by simp;omega) YYZ _ ?_;intro vP h3 oP cL _ _;obtain⟨fx2,fc2,rfl,_⟩:=oP.sl;have Nv:=cL.nx;have Nw:=cL.lo;have g2:=(cL.get _ YYZ).trans g2;simp(disch:=try exact Y)only[Wz,g2,hvc];refine d_ (enc:=cQ) (a:=h3) (L:=[]) (M:=v.C) dA kr YYQ YYQ (.inl ⟨rfl,.inl rfl⟩) (sc.le (aS.trans (bE.trans cL))) (Le.refl h3) (by simp;omega) YYZ _ ?_;intro vC h4 oC jU _ _;obtain⟨fx3,fc3,eC,_⟩:=oC.sl;have oC':=oC;subst eC;have Z5:=jU.nx;have Z6:=jU.lo;have g2:=(jU.get _ YYZ).trans g2;have aj7:Le hA h4:=bE.trans (cL.trans jU);have gA4:=(aj7.get _ YYZ).trans gA;simp(disch:=try exact Y)only[Wz,g2,gA4];have leF:Le h ⟨h4.nx,(h4.bl.bt hA.nx (ah [.slice fx ([]++v.ev).length fc,.slice fx2 ([]++v.P).length fc2,.slice fx3 ([]++v.C).length fc3,YYX (pk:Int)] 49 false)).bt h.nx (ah [.slice fx ([]++v.ev).length fc,.slice fx2 ([]++v.P).length fc2,.slice fx3 ([]++v.C).length fc3,YYX (pk:Int)] 49 false),h4.lo⟩:=((aS.trans aj7).set YYZ _).set (Nat.le_refl _) _;refine hk _ _ _ _ v.C (s0.Yp leF) ?_ hc YYZ ⟨_,_,_,rfl⟩ ⟨_,_,_,rfl⟩ (KT.le leF);rcases oC' with⟨e,_⟩|⟨b,e,b1,b2,_,b4⟩
 .have e':v.C=[]:=e;rw[e'];exact Sl.nil _ _ _
 .rw[e];refine Sl.new (L:=[]++v.C) (e:=3) (op:=true) ?_ ?_ _
  .exact b2
  have b1:h3.nx<=b:=b1;exact(T.aD _ _ YYZ).trans ((T.aD _ _ YYZ).trans b4)
end
def v0M:MV:=⟨0,0,false,.slice none 0 0,.slice none 0 0,.slice none 0 0,[],0,0,[],[],none,none⟩
def PX:iF:=⟨2,8,24,2⟩
theorem Yv:ku PX:=by unfold ku PX;simp
theorem Yw(h:af)(hlo:h.lo<=h.nx)(V:KQ)(hk:∀h' A a,Le h h'->(∀y out,WJ h' A a (λ_ _=>[]) 0 0 y out)->1<=A.n->a.c.P=2->V (.tuple ⟨[YYV A.wb,YYX 0]⟩) h'):aq prog 21 [kcV,YYX ((1:Nat):Int)] h V:=by
 refine adZ PX Yv 1 ⟨YYQ,YYQ⟩ h hlo _ ?_;intro h2 A a d R nw s2 bE fb;have mul:Mul d.Ts (λ_ _=>[]):=⟨λb hb e he=>by{ rw[nw.em b hb]at he;cases he },λt r h=>absurd rfl h⟩
 have W:∀y out,WJ h2 A a (λ_ _=>[]) 0 0 y out:=λy out=>
  ⟨⟨d,R,0,s2,mul,nw.bit YYQ,by rw[nw.begun];decide,by rw[nw.begun];decide,YYQ,⟨λb hb=>by rw[nw.em b hb];exact Nat.le_refl _,by have:=nw.f;have e:PX.R=24:=rfl;omega⟩,.inl ⟨rfl,by rw[nw.cs];rfl,λk hk=>by rw[nw.eE,List.getElem?_replicate,if_pos (show k<(PX.S).toNat from hk)]⟩⟩,by rw[nw.ec];rfl,by have:=nw.hd;have e:PX.H=8:=rfl;omega⟩
 exact hk h2 A a bE W (by rw[nw.en];decide) (by rw[nw.ec];rfl)
def Yx(b:Nat):List Value:=[pt b]
theorem US(b:Nat):(Yx b).length=1:=rfl
theorem UT(b:Nat):(Yx b).all dK=true:=rfl
structure apj(h:af)(A:MA):Prop where
 iN:A.mb<h.nx/\h.lo<=A.mb
 gm:h.bl.get A.mb=some (ah [pt A.E.A.wb,YYU A.hb 1 aX,.slice none 0 0,.slice none 0 0,.slice none 0 0,YYX 0,YYX 0,.slice none 0 0] 69 false)
 sj:A.tb<h.nx/\h.lo<=A.tb
 gt:h.bl.get A.tb=some (lW A v0M)
 xo:A.hb<h.nx
 gh:h.bl.get A.hb=some (ah [pt A.tb] 73 true)
 so:JF iS 29 h A.vo A.O
 ai:AI h A.E (λ_ _=>[]) 0 ⟨0,[],[],[]⟩
theorem ae_{h:af}{x:Value}{O:List vM}(hx:Sl iS h x O)(hO:O.length<=1000)(hlo:h.lo<=h.nx)(V:KQ)(hk:∀v' h',JF iS 29 h' v' O->Le h h'->V v' h'):bD False 29 6 [YYX 0,YYX 0,YYX 0,YYX 0,YYX 0,YYX 0] false (.slice none 0 0) x h V:=by
 by_cases e:O=[]
 .subst e;rw[append_nil hx ⟨_,_,_,rfl⟩ V];exact hk _ h (.inl ⟨rfl,rfl⟩) (Le.refl h)
 .refine d_ (enc:=iS) (a:=h) (L:=[]) (M:=O) encO_len Jq YYQ YYQ (.inl ⟨rfl,.inl rfl⟩) hx (Le.refl h) (by simp;omega) hlo _ ?_;intro v' h' ho le' _ _;rcases ho with⟨e',_⟩|⟨b,e1,_,b2,b3,b4⟩
  .exact absurd e' e
  .exact hk v' h' (.inr ⟨b,e1,b2,b3,b4⟩) le'
theorem afa(h:af)(hlo:h.lo<=h.nx)(vt vp:Value)(O:List vM)(P:List (Int × Int))(s:LG h vt vp O P)(hP:∀p∈P,p=(1,0))(hO:∀o∈O,Uq o)(M:List (Int × Int))(V:KQ)(hk:∀h' A,Z4 A M 0 0 (40*O.length) h'->A.O=O->A.E.z.most=2->Le h h'->V (.tuple ⟨[pt A.mb,YYX 0]⟩) h'):aq prog 9 [scV vt vp] h V:=by
 obtain⟨tb,vo,rfl,htb,gt,so⟩:=s.t;obtain⟨px,pc,rfl,_⟩:=(show Sl fD h vp P from s.p)
 have hlP:=s.l.2;have hlO:=s.l.1;obtain⟨ox,oc,rfl,_⟩:=(show Sl iS h vo O from so)
 apply YYW;rw[al5];simp(disch:=try exact Y)only[Wz];obtain⟨hA,bg,aS,g1,dP,dQ⟩:=jH h (ah [YYU tb 1 1,.slice px P.length pc,YYX 2,YYX 8,YYX 24,YYX 2] 37 false);rw[<-bg]
 try rw[show(h.bl.bt (h.nx) (ah [YYU tb 1 1,.slice px P.length pc,YYX 2,YYX 8,YYX 24,YYX 2] 37 false))=hA.bl by rw[bg]]
 clear bg;refine Uy hA YYZ _ _ O P (s.le aS) hP hO _ ?_;intro h1 bT;have Jb:=bT.nx;have Jc:=bT.lo;have g1:=(bT.get _ YYZ).trans g1;simp(disch:=try exact Y)only[Wz,R8,g1];refine Yw h1 YYZ _ ?_;intro h2 A a bE W hn hP2;have qn:=bE.nx;have qo:=bE.lo;have g1:=(bE.get _ YYZ).trans g1;simp(disch:=try exact Y)only[Wz,g1];obtain⟨hB,ig,ct,gM,BX,BZ⟩:=jH h2 (ah [YYV A.wb,.slice none 0 0,.slice none 0 0,.slice none 0 0,.slice none 0 0,YYX 0,YYX 0,.slice none 0 0] 69 false);rw[<-ig]
 try rw[show(h2.bl.bt (h2.nx) (ah [YYV A.wb,.slice none 0 0,.slice none 0 0,.slice none 0 0,.slice none 0 0,YYX 0,YYX 0,.slice none 0 0] 69 false))=hB.bl by rw[ig]]
 clear ig;have uW:=ct.nx;have uX:=ct.lo;have g1:=(ct.get _ YYZ).trans g1;have gtB:hB.bl.get tb=some (ah [.slice ox O.length oc] 22 false):=((aS.trans (bT.trans (bE.trans ct))).get tb htb).trans gt;have soB:=so.le (aS.trans (bT.trans (bE.trans ct)));have WB:∀y out,WJ hB A a (λ_ _=>[]) 0 0 y out:=λy out=>(W y out).ints (IC.of_le ct);refine⟨λm l h3=>∃i:Nat,an l 31=YYX (i:Int)/\m=1-i/\i<=1/\(i=0->h3=hB)/\(i=1->Le h h3/\∃A':MA,A'.mb=h2.nx/\apj h3 A'/\A'.O=O/\A'.E.z.most=2),⟨1,0,rfl,rfl,YYZ,λ_=>rfl,YYZ⟩,?_⟩;rintro m l h3 ⟨i,s1,rfl,hi,hz,hd⟩;rcases(show i=0\/i=1 by omega)with rfl|rfl
 .obtain rfl:=hz rfl;have e1:((1:Nat):Int)=1:=rfl;simp(disch:=try exact Y)only[Wz,s1,e1,dZ (show((0:Nat):Int)<1 by decide),Kx,R7,br,Nat.mul_one,gtB];refine aeL WB hn (by rw[hP2];decide) _ ?_;intro h4 z a4 em jU;have Z5:=jU.nx;have Z6:=jU.lo;have gM:=(jU.get _ YYZ).trans gM;have gtB:=(jU.get _ YYZ).trans gtB;simp (maxSteps:=3000000) (disch:=try exact Y)only[Wz,s1,aJ,gM];refine ae_ (soB.le jU) YYZ YYZ _ ?_;intro vO h5 oO nj;obtain⟨fx,fc,eO,_⟩:=oO.sl;subst eO;have aq5:=nj.nx;have aq6:=nj.lo;have gM:=(nj.get _ YYZ).trans gM;simp (maxSteps:=3000000) (disch:=try exact Y)only[Wz,s1,aJ,gM,show((0:Nat):Int)=0 from rfl];obtain⟨hC,LL,sS,gT,gS,apk,apl⟩:=Km h5 (ah [pt z.ab,pt h2.nx,YYX 0,.slice fx O.length fc,YYX 0,YYX 0,.bool false] 75 false) (ah [pt h5.nx] 73 false);rw[<-LL]
  try rw[show((h5.bl.bt (h5.nx) (ah [pt z.ab,pt h2.nx,YYX 0,.slice fx O.length fc,YYX 0,YYX 0,.bool false] 75 false)).bt (h5.nx+1) (ah [pt h5.nx] 73 false))=hC.bl by rw[LL]]
  clear LL;have ald:=sS.nx;have ale:=sS.lo;have gM:=(sS.get _ YYZ).trans gM;refine d_ (enc:=Yx) (a:=hC) (L:=[]) (M:=[h5.nx]) US UT YYQ YYQ (.inl ⟨rfl,.inl rfl⟩) (Sl.new (enc:=Yx) (L:=[h5.nx]) (e:=73) (op:=false) YYZ gS 1) (Le.refl hC) (by simp) YYZ _ ?_;intro v40 h6 oP vW _ _;obtain⟨hb,e40,q1,q2,q3,q4⟩:∃b,v40=YYU b 1 aX/\hC.nx<=b/\b<h6.nx/\h6.lo<=b/\h6.bl.get b=some (ah [pt h5.nx] 73 true):=by
   rcases oP with⟨e,_⟩|h
   .cases e
   .exact h
  subst e40;have aq7:=vW.nx;have aq8:=vW.lo;have gM:=(vW.get _ YYZ).trans gM;have gT:=(vW.get _ YYZ).trans gT;simp(disch:=try exact Y)only[Wz,gM];have Jz:Le h4 h6:=nj.trans (sS.trans vW);have bp4:=(a4.w nr 0).bps;have k46:IC a h4 h6:=IC.of_le Jz;have bp6:=(bp4.ic k46).1;have k7:=IC.UE (x:=h2.nx) bp6 gM (.inl rfl) (ah [YYV A.wb,YYU hb 1 aX,.slice none 0 0,.slice none 0 0,.slice none 0 0,YYX 0,YYX 0,.slice none 0 0] 69 false);refine⟨0,YYZ,1,rfl,rfl,YYZ,YYZ,λ_=>⟨(aS.trans (bT.trans (bE.trans (ct.trans (jU.trans Jz))))).set YYZ _,⟨⟨A,a,z⟩,h2.nx,h5.nx,hb,0,.slice fx O.length fc,O⟩,rfl,⟨⟨?_,?_⟩,T.az _ _ _,⟨?_,?_⟩,(T.aD _ _ (cr gM gT YYQ)).trans gT,q2,(T.aD _ _ (cr gM q4 YYQ)).trans q4,?_,?_⟩,rfl,by rw[<-hP2];exact em⟩⟩
  .show h2.nx<h6.nx;omega
  .show h6.lo<=h2.nx;omega
  .show h5.nx<h6.nx;omega
  .show h6.lo<=h5.nx;omega
  .exact(oO.keep (sS.trans vW).nx (sS.trans vW).lo λb hb _=>(sS.trans vW).get b hb).keep (Nat.le_refl _) rfl λb hb hg=>T.aD _ _ (cr gM hg YYQ)
  .exact(a4.ints k46).ints k7
 .obtain⟨leh,A',em,pre,eO,e2⟩:=hd rfl;have e1:((1:Nat):Int)=1:=rfl;have gm:=pre.gm;have iN:=pre.iN;rw[<-em];simp (maxSteps:=3000000) (disch:=try exact Y)only[Wz,s1,e1,Kx,aJ,gm];have fin:=hk ⟨h3.nx+1,(h3.bl.bt h3.nx (ah [Value.nilFunc,.func (.func 23) ⟨[pt A'.mb]⟩ ⟨[]⟩,.func (.func 24) ⟨[pt A'.mb]⟩ ⟨[]⟩,.func (.func 25) ⟨[pt A'.mb]⟩ ⟨[]⟩,.func (.func 26) ⟨[pt A'.mb]⟩ ⟨[]⟩] 51 false)).bt A'.mb (j_ { A' with pk:=h3.nx } v0M),h3.lo⟩ { A' with pk:=h3.nx } ?_ eO e2 ((leh.new _).set (by have:=em;omega) _)
  .have r5:bq [Value.nilFunc] 5=[Value.nilFunc,Value.nilFunc,Value.nilFunc,Value.nilFunc,Value.nilFunc]:=by simp[bq]
   simp (maxSteps:=3000000) (disch:=try exact Y)only[Wz,r5];exact fin
  .have XL:Le h3 ⟨h3.nx+1,h3.bl.bt h3.nx (ah [Value.nilFunc,.func (.func 23) ⟨[pt A'.mb]⟩ ⟨[]⟩,.func (.func 24) ⟨[pt A'.mb]⟩ ⟨[]⟩,.func (.func 25) ⟨[pt A'.mb]⟩ ⟨[]⟩,.func (.func 26) ⟨[pt A'.mb]⟩ ⟨[]⟩] 51 false),h3.lo⟩:=(Le.refl h3).new _;have bp3:=(pre.ai.w nr 0).bps;have kN:IC A'.E.a h3 _:=IC.of_le XL;have bpN:=(bp3.ic kN).1;have gmN:=(XL.get _ iN.1).trans gm;have kM:=IC.UE bpN gmN (.inl rfl) (j_ { A' with pk:=h3.nx } v0M);have aiF:=(pre.ai.ints kN).ints kM;have up:∀{b:Nat}{w:List Value}{t:TypeId}{o:Bool},b<h3.nx->h3.bl.get b=some (ah w t o)->t≠69->((h3.bl.bt h3.nx (ah [Value.nilFunc,.func (.func 23) ⟨[pt A'.mb]⟩ ⟨[]⟩,.func (.func 24) ⟨[pt A'.mb]⟩ ⟨[]⟩,.func (.func 25) ⟨[pt A'.mb]⟩ ⟨[]⟩,.func (.func 26) ⟨[pt A'.mb]⟩ ⟨[]⟩] 51 false)).bt A'.mb (j_ { A' with pk:=h3.nx } v0M)).get b=some (ah w t o):=λhb hg ht=>(T.aD _ _ λe=>by subst e;rw[gm]at hg;exact ht (cW hg).1.symm).trans ((XL.get _ hb).trans hg);have gt:=pre.gt;unfold lW at gt;refine .mk ⟨v0M,0,0,0,⟨⟨?_,iN.2⟩,T.az _ _ _,⟨?_,pre.sj.2⟩,up pre.sj.1 gt YYQ,?_,up pre.xo pre.gh YYQ,?_,(T.aD _ _ (show A'.mb≠h3.nx by have:=iN.1;omega)).trans (T.az _ _ _),?_,by show A'.O.length<=12;rw[eO];exact hlO,.inl ⟨rfl,rfl⟩,⟨.inl ⟨rfl,rfl,rfl⟩,λb hb=>by cases hb⟩,⟨.inl ⟨rfl,rfl,rfl⟩,λb hb=>by cases hb⟩,(λb hb=>by cases hb),rfl⟩,⟨Nat.zero_le _,⟨Int.le_refl _,Int.le_refl _⟩,rfl,Nat.le_refl _,Nat.le_refl _⟩,⟨λ_ _=>[],0,[],[],[],aiF,kK.nil _,by show(0:Int)<=A'.E.z.most;omega,Nat.le_refl _,.inl ⟨rfl,rfl,rfl,⟨kK.nil _,by show(0:Int)<=A'.E.z.most;omega,(λt r p hp=>by cases hp),λt r hp=>absurd rfl hp⟩⟩⟩,Nat.le_refl _,(λe=>by cases e),(λc hc=>by cases hc),?_⟩
   .show A'.mb<h3.nx+1;have:=iN.1;omega
   .show A'.tb<h3.nx+1;have:=pre.sj.1;omega
   .show A'.hb<h3.nx+1;have:=pre.xo;omega
   .show h3.nx<h3.nx+1;omega
   .rcases pre.so with⟨e,e'⟩|⟨b,e,b1,b2,b3⟩
    .exact .inl ⟨e,e'⟩
    .exact .inr ⟨b,e,Nat.lt_succ_of_lt b1,b2,up b1 b3 YYQ⟩
   .show 40*(A'.O.length-0)+0<=40*O.length
    rw[eO];omega
theorem UU:bA prog 60 7 [] kcV=true:=by kernel_rfl
theorem afb{h:af}{v:Value}{O:List vM}(hv:Sl iS h v O)(hl:O.length<=100)(hlo:h.lo<=h.nx)(V:KQ)(hk:∀x c h',Sl iS h' (.slice x O.length c) O->Le h h'->V (.slice x O.length c) h'):aq prog 5 [v] h V:=by
 apply YYW;rw[al0];simp(disch:=try exact Y)only[Wz,bq];refine d_ (enc:=iS) (a:=h) (L:=[]) (M:=O) encO_len Jq YYQ YYQ (.inl ⟨rfl,.inr ⟨_,_,rfl⟩⟩) (hv.le ((Le.refl h).new _)) ((Le.refl h).new _) (by simp;omega) (by show h.lo<=h.nx+1;omega) _ ?_;intro v' h' ho le' _ _;have sl:=ho.sl;obtain⟨x,c,e,_⟩:=ho.sl;subst e;exact hk x c h' sl le'
theorem Yy{h:af}(hlo:h.lo<=h.nx)(V:KQ)(hk:∀b h',b<h'.nx->h'.bl.get b=some (ah ((List.replicate 600 ((1:Int),(0:Int))).flatMap fD) 45 true)->Le h h'->V (YYU b 600 aX) h'):aq prog 6 [YYX 600,YYX 0] h V:=by
 apply YYW;rw[al2];refine⟨λm l h1=>∃i:Nat,an l 11=YYX (i:Int)/\m=600-i/\i<=600/\iJ fD h 45 h1 (an l 8) (List.replicate i ((1:Int),(0:Int)))/\Le h h1,⟨_,0,rfl,rfl,YYZ,.inl ⟨rfl,.inl rfl⟩,Le.refl _⟩,?_⟩;rintro m l h1 ⟨i,s1,rfl,hi,ho,bT⟩;have n1:=bT.nx;have l1:=bT.lo;by_cases hlt:i<600
 .simp(disch:=try exact Y)only[Wz,s1,Kw,dZ (show(i:Int)<600 by omega)];obtain⟨hA,bg,aS,gA,dP,dQ⟩:=jH h1 (ah [YYX 1,YYX 0] 45 false);rw[<-bg]
  try rw[show(h1.bl.bt (h1.nx) (ah [YYX 1,YYX 0] 45 false))=hA.bl by rw[bg]]
  clear bg;refine d_ (enc:=fD) (a:=h) (L:=List.replicate i ((1:Int),(0:Int))) (M:=[(1,0)]) jd Iy YYQ YYQ (ho.le aS) (Sl.new (enc:=fD) (L:=[((1:Int),(0:Int))]) (e:=45) (op:=false) YYZ gA 1) (bT.trans aS) (by simp;omega) YYZ _ ?_;intro v' h' ho' le' _ _;refine⟨_,YYZ,i+1,by rfl,rfl,YYZ,?_,le'⟩;rw[List.replicate_succ'];exact ho'
 .have hi':i=600:=by omega
  subst hi';simp(disch:=try exact Y)only[Wz,s1,Kw];rcases ho with⟨e,_⟩|⟨b,e,_,b2,_,b4⟩
  .exact absurd (congrArg List.length e) (by simp)
  .rw[e];simp only[List.length_replicate];exact hk b h1 b2 b4 bT
end Go.Proofs

namespace Go.Proofs
open Go.Vai Go.Clashes
open Tryz (prog)
theorem PY:bA prog 600 4 [] (.bool true)=true:=by kernel_rfl
theorem PZ{h:af}{V:KQ}(hk:V (.bool true) h):aq prog 4 [] h V:=gN mixed PY hk
def qh(O:List vM):List (Int × Int):=(-1,-1)::O.flatMap λo=>[(o.t,-1),(o.t,o.r)]
theorem LM(O:List vM):(qh O).length=1+2*O.length:=by
 unfold qh;rw[List.length_cons]
 induction O with
 |nil=>rfl
 |cons o O ih=>rw[List.flatMap_cons,List.length_append,List.length_cons];simp at ih ⊢;omega
theorem P3(O:List vM):InM (qh O) O:=by
 intro o ho _;have h1:(o.t,-1)∈qh O:=List.mem_cons_of_mem _ (List.mem_flatMap.2 ⟨o,ho,by simp⟩);have h2:(o.t,o.r)∈qh O:=List.mem_cons_of_mem _ (List.mem_flatMap.2 ⟨o,ho,by simp⟩);have h0:((-1:Int),(-1:Int))∈qh O:=List.mem_cons_self;refine⟨h2,λa ha=>?_⟩;unfold lN at ha;split at ha
 .rw[List.mem_singleton.1 ha];exact h0
 .split at ha
  .rcases List.mem_cons.1 ha with e|e
   .rw[e];exact h0
   .rw[List.mem_singleton.1 e];exact h1
  .cases ha
def StM(A:MA)(M:List (Int × Int))(i:Nat)(h:af):Prop:=tU A M i i h\/∃F,1<=F/\F+i<=480/\(qq A M i i F h\/tT A M i i F h)
theorem StM.of{A:MA}{M:List (Int × Int)}{i F:Nat}{h:af}(g:EP A M i i F h)(hF:F+i<=480):StM A M i h:=by
 rcases g.split with e|⟨h1,h2⟩
 .exact .inl e
 .exact .inr ⟨F,h1,hF,h2⟩
theorem P4(O:List vM)(h:af)(v:Value)(hv:Sl iS h v O)(hlo:h.lo<=h.nx)(V:KQ)(hk:∀h',V (.bool true) h'):aq prog 3 [v] h V:=by
 have Z7:∀(β:Type)(fl:β)(h':af)(V:YYY β),bF fl v h' V=V (YYX (O.length:Int)) h':=λβ fl h' V=>hv.len V h';apply YYW;rw[alZ];refine PZ ?_;by_cases h12:12<O.length
 .simp(disch:=try exact Y)only[Wz,Z7,dZ (show(12:Int)<(O.length:Int)by omega)];exact hk _
 simp(disch:=try exact Y)only[Wz,Z7,cG (show(O.length:Int)<=12 by omega),RT];refine afb hv YYZ hlo _ ?_;intro ox oc h1 so bT;have n1:=bT.nx;have l1:=bT.lo;simp(disch:=try exact Y)only[Wz];obtain⟨hA,bg,aS,gT,dP,dQ⟩:=jH h1 (ah [.slice ox O.length oc] 22 false);rw[<-bg]
 try rw[show(h1.bl.bt (h1.nx) (ah [.slice ox O.length oc] 22 false))=hA.bl by rw[bg]]
 clear bg;refine Yy YYZ _ ?_;intro pb h2 hpb gp bE;have qn:=bE.nx;have qo:=bE.lo;have gT:=(bE.get _ YYZ).trans gT;refine gN mixed UU ?_;simp (maxSteps:=3000000) (disch:=try exact Y)only[Wz];obtain⟨hB,ig,ct,gS,BX,BZ⟩:=jH h2 (ah [YYU h1.nx 1 1,YYU pb 600 aX,YYX 2,YYX 8,YYX 24,YYX 2] 37 false);rw[<-ig]
 try rw[show(h2.bl.bt (h2.nx) (ah [YYU h1.nx 1 1,YYU pb 600 aX,YYX 2,YYX 8,YYX 24,YYX 2] 37 false))=hB.bl by rw[ig]]
 clear ig;have gpB:=(ct.get _ hpb).trans gp;have sc:LG hB (YYU h1.nx 1 1) (YYU pb 600 aX) O (List.replicate 600 ((1:Int),(0:Int))):=⟨⟨h1.nx,.slice ox O.length oc,rfl,YYZ,(ct.get _ YYZ).trans gT,so.le (aS.trans (bE.trans ct))⟩,Sl.new (enc:=fD) (L:=List.replicate 600 ((1:Int),(0:Int))) (e:=45) (op:=true) YYZ gpB _,YYZ,by simp⟩
 have hP:∀p∈List.replicate 600 ((1:Int),(0:Int)),p=(1,0):=λp hp=>List.eq_of_mem_replicate hp;refine Uw hB YYZ _ _ O _ sc hP _ ?_ ?_
 rotate_left
 .intro h3 cL;simp(disch:=try exact Y)only[Wz];exact hk _
 intro hO h3 cL;have Nv:=cL.nx;have Nw:=cL.lo;have gS:=(cL.get _ YYZ).trans gS;have gpB:=(cL.get _ YYZ).trans gpB;simp(disch:=try exact Y)only[Wz,RS,gS];have apm:(List.replicate 600 ((1:Int),(0:Int))).length=600:=by simp
 refine afa h3 YYZ _ _ O (List.replicate 600 ((1:Int),(0:Int))) (sc.le cL) hP hO (qh O) _ ?_;intro h4 A g4 eO em jU;have Z5:=jU.nx;have Z6:=jU.lo;have gS:=(jU.get _ YYZ).trans gS;have gpB:=(jU.get _ YYZ).trans gpB;have hM:=LM O;have ok:MOk A (qh O):=⟨YYZ,em,by rw[eO];exact hO,by rw[eO];exact P3 O⟩
 simp(disch:=try exact Y)only[Wz];refine⟨λm l h5=>∃i:Nat,an l 21=YYX (i:Int)/\m=600-i/\i<=600/\StM A (qh O) i h5/\jY h4 h5,⟨_,0,rfl,rfl,YYZ,StM.of (.inl g4) YYZ,KT.le (Le.refl h4)⟩,?_⟩;rintro m l h5 ⟨i,s1,rfl,hi,st,q5⟩;have n5:=q5.nx;have gS5:=(q5.ty _ _ _ _ YYZ gS (.inl rfl)).trans gS;have gp5:=(q5.ty _ _ _ _ YYZ gpB (.inr rfl)).trans gpB;by_cases hlt:i<600
 .simp(disch:=try exact Y)only[Wz,s1,Kv,gS5,show((600:Nat):Int)=600 from rfl,dZ (show(i:Int)<600 by omega),RR];have aaO:(List.replicate 600 ((1:Int),(0:Int)))[i]? = some (1,0):=by rw[List.getElem?_replicate,if_pos hlt]
  obtain⟨c,o,_,JR,mK,_⟩:=(Sl.new (enc:=fD) (L:=List.replicate 600 ((1:Int),(0:Int))) (e:=45) (op:=true) (show pb<h5.nx by omega) gp5 aX).ld jd i aaO;simp only[apm]at JR;rcases st with g|⟨F,hF1,hF2,g⟩
  .refine ES g.E6 _ ?_;simp(disch:=try exact Y)only[Wz,gS5,JR,mK,fD];refine Ys g YYZ _ ?_;intro h6 g6 q6;exact⟨_,YYZ,i+1,rfl,rfl,YYZ,.inl g6,jY.trans q5 q6⟩
  ·have E6:B9 h5 A false:=by
    rcases g with g|g
    .exact g.E6
    .exact g.E6
   refine ES E6 _ ?_;simp(disch:=try exact Y)only[Wz,gS5,JR,mK,fD];refine Yt g ok YYZ hF1 YYZ _ ?_;intro h6 g6 q6;exact⟨_,YYZ,i+1,rfl,rfl,YYZ,StM.of g6 YYZ,jY.trans q5 q6⟩
 .have hi':i=600:=by omega
  subst hi';rcases st with g|⟨F,h1,h2,_⟩
  rotate_left
  .omega
  simp(disch:=try exact Y)only[Wz,s1,Kv,gS5,show((600:Nat):Int)=600 from rfl];refine Yu g YYZ _ ?_;intro h6 ve vp vc C g6 sC okc lC eve evp q6;obtain⟨ex,en,ec,rfl⟩:=eve;obtain⟨px,pn,pc,rfl⟩:=evp;have sC':=sC;obtain⟨cx,cc,rfl,_⟩:=sC;have lo6:=g6.E6.lo;simp(disch:=try exact Y)only[Wz];obtain⟨hC,LL,sS,gC,apk,apl⟩:=jH h6 (ah [.slice ex en ec,.slice px pn pc,.slice cx C.length cc,YYX ((600:Nat):Int)] 49 false);rw[<-LL]
  try rw[show(h6.bl.bt (h6.nx) (ah [.slice ex en ec,.slice px pn pc,.slice cx C.length cc,YYX ((600:Nat):Int)] 49 false))=hC.bl by rw[LL]]
  clear LL;have gE:=(g6.Yp sS).E6;have sC7:=sC'.le sS;refine⟨λm l h7=>∃j:Nat,an l 30=YYX (j:Int)/\m=C.length-j/\j<=C.length/\h7=hC,⟨_,0,rfl,rfl,YYZ,rfl⟩,?_⟩;rintro m l2 h7 ⟨j,s2,rfl,hj,rfl⟩;by_cases hjl:j<C.length
  .obtain⟨y,hy⟩:∃y,C[j]? = some y:=⟨_,List.getElem?_eq_getElem hjl⟩
   obtain⟨b1,o1,_,om,_,hh⟩:=sC7.ld dA j hy;have hx1:=λ(β:Type)(fl:β) V=>dH (fl:=fl) hh 0 V (by show 0<1;omega);simp only[Nat.add_zero]at hx1;rcases okc y (List.mem_of_getElem? hy)with rfl|rfl|rfl
   all_goals
    simp(disch:=try exact Y)only[Wz,Ku,s2,gC,dZ (show(j:Int)<(C.length:Int)by omega),RP,om,hx1,cQ];exact⟨C.length-(j+1),YYZ,j+1,rfl,rfl,YYZ,trivial⟩
  .have:j=C.length:=by omega
   subst this;simp(disch:=try exact Y)only[Wz,Ku,s2,gC,RQ];refine ES gE _ ?_;simp(disch:=try exact Y)only[Wz];refine Yo gE _ ?_;exact hk _
end Go.Proofs

namespace Go.Proofs
open Go.Vai Go.Clashes Go.ChangeShapes Go.WideShapes
open Tryz (prog)
theorem laidOut:laidOutB prog=true:=by kernel_rfl
theorem decO{H:Type}{enc:TypeId × Value->H}{w:World}(n:Nat)(cs:List Value)(d:DataW H × List MemPlace)(hl:cs.length=6)(h:DataW.trod enc prog w 0 (λ_=>true) true n 29 cs=some d):∃p:vM,cs=iS p:=by
 have k0:=Ru (P:=prog) 10 29 [.i .i64,.i .i64,.i .i64,.i .i64,.i .i64,.i .i64] (by kernel_rfl) _ _ _ h;clear h;obtain⟨_,_,rfl,⟨n0,rfl,_⟩,k1⟩:=k0.wP;obtain⟨_,_,rfl,⟨n1,rfl,_⟩,k2⟩:=k1.wP;obtain⟨_,_,rfl,⟨n2,rfl,_⟩,k3⟩:=k2.wP;obtain⟨_,_,rfl,⟨n3,rfl,_⟩,k4⟩:=k3.wP;obtain⟨_,_,rfl,⟨n4,rfl,_⟩,k5⟩:=k4.wP;obtain⟨_,_,rfl,⟨n5,rfl,_⟩,k6⟩:=k5.wP;cases k6.agw;exact⟨⟨_,_,_,_,_,_⟩,rfl⟩
theorem lawMach_row(L0:List vM)(h:af)(v0:Value)(s0:Sl iS h v0 L0)(c0:Cut 29 6 h v0 L0.length)(hlo:h.lo<=h.nx)(no:∀c vs t,h.bl.get c≠some (ah vs t true)):aq prog 3 [v0] h DE:=P4 L0 h v0 s0 hlo DE λ_=>rfl
end Go.Proofs
