/-
  PROVED HERE: a part of the proof (MM2, BR1, BR2, BR3, BR4, MM3, MM4, MM5, MM6, MM7, MM8, MM9, MM10, MM11, MM12, MM13, MM14, MM15).
-/
import Derived.Test.YtfkonofjdimjbaaGreatDoorG8
import Derived.Test.YtfkonofjdimjbaaGreatDoorRZ
set_option linter.unusedVariables false
set_option linter.unusedSimpArgs false
set_option maxRecDepth 100000
set_option maxHeartbeats 4000000
noncomputable section
namespace Go.Proofs
open Go.Vai Go.Clashes
open Tryz (prog)
def X_(c:CD)(p:N3)(o:Int):Int:=if c.ask.k=3 then(if o=1/\c.cO.length=1/\kG c.fe p.2.2=true then 1 else 0)else if o≠1\/c.cO.length=1 then o else 0
section
variable {h h':af}{E:EN}{G:GT}{N n:Nat}{y:fE}{out:Int}{D:AD}{kb:Nat}{c:CD}
theorem PR(s:AW h E G N n y out D kb c){p:N3}{P:List N3}(hp:c.cO=p::P)(o:Int)(V:KQ)(hk:V (YYX (X_ c p o)) h):aq prog 122 [pt E.z.ab,YYX o] h V:=by
 obtain⟨va,vh,ga,_,_⟩:=s.ag;obtain⟨vn,vg,gk,p1,_⟩:=s.c.g;unfold cE at gk;obtain⟨x,cc,rfl⟩:=p1.cell;rw[hp]at p1;obtain⟨b,ob,hb,hx,_,_⟩:=hdN p1;obtain⟨b',ob',hb',hx',_,hh⟩:=p1.sl.ld rj 0 (p:=p) rfl;have hl:∀(β:Type)(fl:β)(h':af)(V:YYY β),bF fl (.slice x c.cO.length cc) h' V=V (YYX (c.cO.length:Int)) h':=λβ fl h' V=>gr _ _ _ _ _;have hx2:∀(β:Type)(fl:β)(h':af)(V:YYY β),aK fl 3 (.slice x c.cO.length cc) (YYX 0) h' V=V (.pointer (some ⟨b',ob',none⟩)) h':=λβ fl h' V=>by
  have:=hx' β fl h' V;rw[hp];simpa using this
 have hm:=λ(β:Type)(fl:β) V=>dH (fl:=fl) hh 2 V (by show 2<3;omega);have hm:∀(β:Type)(fl:β)(V:Value->β),uy fl (h.bl.get b') (ob'+2) V=V (YYX p.2.2):=λβ fl V=>hm β fl V;apply YYW;rw[abc];unfold X_ at hk;have e1:decide ((c.cO.length:Int)=1)=decide (c.cO.length=1):=by
  by_cases h1:c.cO.length=1
  .rw[bf h1,bf (show(c.cO.length:Int)=1 by omega)]
  .rw[aZ h1,aZ (show ¬(c.cO.length:Int)=1 by omega)]
 by_cases c3:c.ask.k=3
 .rw[if_pos c3]at hk;by_cases o1:o=1
  .by_cases l1:c.cO.length=1
   .simp(disch:=try exact Y)only[Wz,aJ,ga,gk,hl,e1,bf c3,bf l1,uO,bf o1,hx2,hm];refine oW _ _ ?_;cases hc:kG c.fe p.2.2 with
    |true=>
     rw[if_pos ⟨o1,l1,hc⟩]at hk;simp(disch:=try exact Y)only[Wz];rw[o1];exact hk
    |false=>
     rw[if_neg (λe=>by rw[hc]at e;exact absurd e.2.2 YYQ)]at hk;simp(disch:=try exact Y)only[Wz];exact hk
   .rw[if_neg (λe=>l1 e.2.1)]at hk;simp(disch:=try exact Y)only[Wz,aJ,ga,gk,hl,e1,bf c3,aZ l1,uO,bf o1];exact hk
  .rw[if_neg (λe=>o1 e.1)]at hk;simp(disch:=try exact Y)only[Wz,aJ,ga,gk,hl,e1,bf c3,uO,aZ o1];exact hk
 .rw[if_neg c3]at hk;by_cases o1:o=1
  .by_cases l1:c.cO.length=1
   .rw[if_pos (.inr l1)]at hk;simp(disch:=try exact Y)only[Wz,aJ,ga,gk,hl,e1,aZ c3,bf l1,uP,bf o1];exact hk
   .rw[if_neg (λe=>e.elim (λe=>e o1) l1)]at hk;simp(disch:=try exact Y)only[Wz,aJ,ga,gk,hl,e1,aZ c3,aZ l1,uP,bf o1];exact hk
  .rw[if_pos (.inl o1)]at hk;simp(disch:=try exact Y)only[Wz,aJ,ga,gk,hl,e1,aZ c3,uP,aZ o1];exact hk
end
structure aoT(E:EN)(S:Nat->Nat->af->Prop)(Post:Nat->Int->af->Prop):Prop where
 le:∀i n h,S i n h->(n=3\/n=2\/n=1)/\i<=122
 s32:∀i n h (V:KQ),S i (n+1) h->n≠0->(∀h',S (i+1) n h'->V (.tuple ⟨[.bool false,YYX 0,YYX 0]⟩) h')->aq prog 68 [pt E.z.ab] h V
 s1:∀i h (V:KQ),S i 1 h->(∀h',S (i+1) 3 h'->V (.tuple ⟨[.bool false,YYX 0,YYX 0]⟩) h')->(∀code h',Post i code h'->V (.tuple ⟨[.bool true,YYX code,YYX 0]⟩) h')->aq prog 68 [pt E.z.ab] h V
theorem Bp(L:List L4)(p:L4):(de L p).length<=L.length+1:=by
 rcases Bn L p with⟨A,q,B,rfl,_,_,_,e⟩|⟨A,B,rfl,_,e⟩
 .rw[e];simp
 .rw[e];simp;omega
def EK(x:Int)(has:List L4)(p:N3):L4:=⟨x,p.1,p.2.1,bM (aY has p.1 p.2.1) p.2.2⟩
abbrev yE(E:EN):Int:=-1-E.z.th
structure QA where
 x:Int
 M:List (Int × Int)
 P0:List N3
 B:Nat
 most:Int
 asked:List L4
 t:Int
 r:Int
 m:Int
 N0:Nat
 H:Nat
structure JA(q:QA)(i:Nat)(has aL:List L4)(P:List N3):Prop where
 i1:1<=i
 ge:1+3*q.P0.length<=i+3*P.length
 le:i+3*P.length+3*aL.length<=q.B
 ok:kK q.M has
 op:kK q.M aL
 pl:(aL.length:Int)<=q.most
 nd:yX P
 sub:∀p∈P,(p.1,p.2.1)∈q.M
 nn:(P.map λp=>(p.1,p.2.1)).Nodup
 nc:dU has P=P
 cv:∀p∈q.P0,p∈P\/dG has p=true
 su:∀p∈P,p∈q.P0
 n0:(q.P0.map λp=>(p.1,p.2.1)).Nodup
 hl:has.length+P.length+aL.length<=q.H
def Js(b:Bool)(E:EN)(D:AD)(c:CD)(p:N3):fE:=if b then vH E D p else vG D c p
def vN(b:Bool)(aL:List L4)(p:N3):List L4:=if b then bU aL p.1 p.2.1 else aL
abbrev aeQ(E:EN):Value:=.func (.func 122) ⟨[pt E.z.ab]⟩ ⟨[]⟩
def Jt(b:Bool)(out fe m:Int)(P:List N3):Int:=if b=true then(if out=1/\P=[]/\kG fe m=true then 1 else 0)else if out≠1\/P=[]then out else 0
structure vQ(E:EN)(Z:af->Prop)(q:QA)(i n:Nat)(d:Int)(h:af):Prop where
 ex:∃(b:Bool)(i0:Nat)(has aL:List L4)(p:N3)(P:List N3)(N kb:Nat)(G:GT)(out:Int)(c:CD),i+n=i0+3/\JA q i0 has aL (p::P)/\AW h E G N n (Js b E ⟨q.x,q.asked,has,vN b aL p⟩ c p) out ⟨q.x,q.asked,has,vN b aL p⟩ kb c/\c.cO=p::P/\c.ask=Js b E ⟨q.x,q.asked,has,vN b aL p⟩ c p/\
  c.Qb=121/\c.code=0/\c.t=q.t/\c.r=q.r/\c.m=q.m/\0<=c.w/\c.k=1/\c.tQ=aeQ E/\3*N<=3*q.N0+i0+2/\Z h/\
  (b=true->c.fe=aY aL p.1 p.2.1/\aY has p.1 p.2.1=0/\aY aL p.1 p.2.1≠0)/\
  (n≠1->mY q.x (yE E) has aL G)/\
  (n=1->if b then(out=1/\mY q.x (yE E) (de has ⟨q.x,p.1,p.2.1,aY aL p.1 p.2.1⟩) (bU aL p.1 p.2.1) G)\/(out=6/\mY q.x (yE E) has (bU aL p.1 p.2.1) G)
   else(out=1/\mY q.x (yE E) (de has (EK q.x has p)) aL G)\/(out=5/\mY q.x (yE E) has aL G/\8<=2*N))/\
  (n≠1->d=0)/\(n=1->d=Jt b out c.fe p.2.2 P)
 n3:n=3\/n=2\/n=1
def ajJ(E:EN)(Z:af->Prop)(q:QA)(i:Nat)(code:Int)(h:af):Prop:=
 ∃has aL asked' N G,AI h E G N ⟨q.x,asked',has,aL⟩/\mY q.x (yE E) has aL G/\Z h/\3*N<=3*q.N0+i+2/\kK q.M has/\kK q.M aL/\(aL.length:Int)<=q.most/\(i+1+3*aL.length<=q.B\/q.P0.length=0)/\has.length+aL.length<=q.H/\
  ((code=1/\asked'=de q.asked ⟨q.x,q.t,q.r,bM (aY q.asked q.t q.r) q.m⟩/\3*q.P0.length<=i/\∀p∈q.P0,dG has p=true)\/(code=5/\asked'=q.asked/\8<=2*N))
theorem UA{a b:Int}(ha:kn a=true)(hb:kn b=true):kG (bM a b) b=true:=by
 have key:∀i:Nat,i<7->∀j:Nat,j<7->kG (bM (i:Nat) (j:Nat)) (j:Nat)=true:=by decide +kernel
 obtain⟨i,hi,rfl⟩:=lz ha;obtain⟨j,hj,rfl⟩:=lz hb;exact key i hi j hj
section
variable {M:List (Int × Int)}{has:List L4}{x:Int}{p:N3}{P:List N3}
theorem aeR(s:kK M has)(ok:bx p.1 p.2.1≠-1/\kn p.2.2=true/\p.2.2≠0)(hm:(p.1,p.2.1)∈M):kK M (de has (EK x has p)):=by
 obtain⟨q1,q2,_⟩:=jR (s.LC p.1 p.2.1) ok.2.1 ok.2.2;exact s.put ⟨ok.1,q2,q1⟩ hm
theorem Ya(s:kK M has)(ok:bx p.1 p.2.1≠-1/\kn p.2.2=true/\p.2.2≠0):dG (de has (EK x has p)) p=true:=by
 obtain⟨q1,q2,_⟩:=jR (s.LC p.1 p.2.1) ok.2.1 ok.2.2;have e:aY (de has (EK x has p)) p.1 p.2.1=bM (aY has p.1 p.2.1) p.2.2:=by
  rw[g_,if_pos ⟨rfl,rfl⟩];rfl
 unfold dG;rw[e,UA (s.LC _ _) ok.2.1,decide_eq_true q1];rfl
theorem xB{g:L4}{q:N3}(hn:¬(g.t=q.1/\g.r=q.2.1)):dG (de has g) q=dG has q:=by
 unfold dG;rw[g_,if_neg hn]
theorem UB(nn:((p::P).map λp=>(p.1,p.2.1)).Nodup){q:N3}(hq:q∈P):¬(p.1=q.1/\p.2.1=q.2.1):=by
 rintro⟨e1,e2⟩;rw[List.map_cons,List.nodup_cons]at nn;exact nn.1 (List.mem_map.2 ⟨q,hq,Prod.ext e1.symm e2.symm⟩)
theorem C6{g:L4}(hg:g.t=p.1/\g.r=p.2.1)(nn:((p::P).map λp=>(p.1,p.2.1)).Nodup)(nc:dU has (p::P)=p::P):dU (de has g) P=P:=by
 unfold dU at nc ⊢;rw[List.filter_eq_self]at nc ⊢;intro q hq;rw[xB (by rw[hg.1,hg.2];exact UB nn hq)];exact nc q (.tail _ hq)
theorem Ju{g:L4}(hg:g.t=p.1/\g.r=p.2.1)(nn:((p::P).map λp=>(p.1,p.2.1)).Nodup)(nc:dU has (p::P)=p::P):(dG (de has g) p=true/\dU (de has g) (p::P)=P)\/(dU (de has g) (p::P)=p::P):=by
 have h1:=C6 hg nn nc;unfold dU at h1 ⊢;rw[List.filter_cons,h1];cases hc:dG (de has g) p with
 |true=>exact .inl ⟨rfl,rfl⟩
 |false=>exact .inr rfl
end
theorem aeS{α β:Type}{f:α->β}:∀{L:List α},(L.map f).Nodup->∀{a b:α},a∈L->b∈L->f a=f b->a=b:=by
 intro L
 induction L with
 |nil=>intro _ a b ha;cases ha
 |cons c L ih=>
  intro h a b ha hb e;rw[List.map_cons,List.nodup_cons]at h;rcases List.mem_cons.1 ha with e1|h1<;>rcases List.mem_cons.1 hb with e2|h2
  .rw[e1,e2]
  .rw[e1]at e;exact absurd (List.mem_map.2 ⟨b,h2,e.symm⟩) h.1
  .rw[e2]at e;exact absurd (List.mem_map.2 ⟨a,h1,e⟩) h.1
  .exact ih h.2 h1 h2 e
theorem JA.other{q:QA}{i:Nat}{has aL:List L4}{p:N3}{P:List N3}(s:JA q i has aL (p::P)){y:N3}(hy:y∈q.P0)(hc:dG has y=true):¬(p.1=y.1/\p.2.1=y.2.1):=by
 rintro⟨e1,e2⟩;have:=aeS s.n0 (s.su p (.head _)) hy (Prod.ext e1 e2);subst this;have h:=s.nc;unfold dU at h;rw[List.filter_eq_self]at h;have:=h p (.head _);rw[hc]at this;cases this
theorem JA.grow{q:QA}{i:Nat}{has aL x9:List L4}{p:N3}{P:List N3}(s:JA q i has aL (p::P)){g:L4}(hg:g.t=p.1/\g.r=p.2.1)(ok:kK q.M (de has g))(cp:dG (de has g) p=true)(op:kK q.M x9)(pl:x9.length<=aL.length):JA q (i+3) (de has g) x9 P:=by
 have nn:=s.nn;rw[List.map_cons,List.nodup_cons]at nn;have h1:=s.ge;have h2:=s.le;have h3:=s.pl;have h4:=s.hl;have h5:=Bp has g;simp only[List.length_cons]at h1 h2 h4;refine⟨YYZ,YYZ,YYZ,ok,op,YYZ,λy hy=>s.nd y (.tail _ hy),λy hy=>s.sub y (.tail _ hy),nn.2,C6 hg s.nn s.nc,λy hy=>?_,λy hy=>s.su y (.tail _ hy),s.n0,YYZ⟩;rcases s.cv y hy with h|h
 .rcases List.mem_cons.1 h with rfl|h
  .exact .inr cp
  .exact .inl h
 .exact .inr (by rw[xB (by rw[hg.1,hg.2];exact s.other hy h)];exact h)
theorem JA.same{q:QA}{i:Nat}{has aL:List L4}{p:N3}{P:List N3}(s:JA q i has aL (p::P)){vR:List L4}(hh:vR=has\/∃g:L4,(g.t=p.1/\g.r=p.2.1)/\vR=de has g)(ok:kK q.M vR)(nc:dU vR (p::P)=p::P)(hp:aY aL p.1 p.2.1≠0):JA q (i+3) vR (bU aL p.1 p.2.1) (p::P):=by
 have h1:=s.ge;have h2:=s.le;have h3:=s.pl;have h4:=s.op.rC hp;have h5:=s.hl;have h6:vR.length<=has.length+1:=by
  rcases hh with rfl|⟨g,_,rfl⟩
  .omega
  .exact Bp _ _
 refine⟨YYZ,YYZ,YYZ,ok,s.op.drop _ _,YYZ,s.nd,s.sub,s.nn,nc,λy hy=>?_,s.su,s.n0,YYZ⟩;rcases s.cv y hy with h|h
 .exact .inl h
 .rcases hh with rfl|⟨g,hg,rfl⟩
  .exact .inr h
  .exact .inr (by rw[xB (by rw[hg.1,hg.2];exact s.other hy h)];exact h)
theorem NA{E:EN}{Z:af->Prop}(hZ:∀{h h':af},Z h->FK E.a h h'->Z h'){q:QA}(hx:1<=q.x)(hB:q.B<=110)(hM:q.M.length<=25)(la:q.asked.length<=1000)(hm:kn q.m=true)(E3:q.N0<=400){i:Nat}{has aL:List L4}{P1:List N3}{h:af}{G:GT}{N kb:Nat}{y0:fE}{o0:Int}{c:CD}(s:AW h E G N 0 y0 o0 ⟨q.x,q.asked,has,aL⟩ kb c)(z:Z h)(A:mY q.x (yE E) has aL G)(c1:c.cO=P1)(c3:c.Qb=121)(c4:c.code=0)(c5:c.t=q.t)(c6:c.r=q.r)(c7:c.m=q.m)(c8:0<=c.w)(ck:c.k=1)(E4:c.tQ=aeQ E)(l3:P1.length<=100)(okP:yX P1)(J:JA q i has aL (dU has P1))(hN:3*N+1<=3*q.N0+i)(i':Nat)(hi':i<=i'+1)(aec:dU has P1=[]->3*q.P0.length<=i'/\(i'+1+3*aL.length<=q.B\/q.P0.length=0))(V:KQ)(hS:dU has P1≠[]->∀h' G' N' y' o' D' c',AW h' E G' N' 3 y' o' D' kb c'->c'.code=0->FK E.a h h'->vQ E Z q i 3 0 h'->V (.tuple ⟨[]⟩) h')(hE:dU has P1=[]->∀h' G' N' y' o' D' c',AW h' E G' N' 0 y' o' D' kb c'->c'.code=1->c'.ask=c.ask->FK E.a h h'->(∀h4,AI h4 E G' N' D'->FK E.a h' h4->ajJ E Z q i' 1 h4)->V (.tuple ⟨[]⟩) h'):aq prog 126 [pt E.z.ab] h V:=by
 have tX:=s.th;have lh:=J.ok.len;have lp:=J.op.len;have hle:=J.le;refine Nx s YYZ (by show aL.length<=1000;omega) (by show q.x≠-1-E.z.th;omega) (by show has.length<=1000;omega) la (by rw[c1];exact l3) YYZ (by rw[c7];exact hm) (by rw[c1];exact okP) J.ok.LC 0 _ ?_ ?_ ?_
 .intro hL h2 s2 f2;have hL:dU has P1=[]:=by rw[<-c1];exact hL
  obtain⟨q1,q2⟩:=aec hL;refine hE hL h2 G N _ _ _ _ s2 rfl rfl f2 λh4 a4 f4=>?_;refine⟨has,aL,_,N,G,a4,A,hZ (hZ z f2) f4,YYZ,J.ok,J.op,J.pl,q2,(by have:=J.hl;omega),.inl ⟨rfl,?_,q1,λy hy=>?_⟩⟩
  .rw[c5,c6,c7]
  .rcases J.cv y hy with h|h
   .rw[hL]at h;cases h
   .exact h
 .intro p P hL h2 s2 f2;have hL:dU has P1=p::P:=by rw[<-c1];exact hL
  refine hS (by rw[hL];exact λe=>nomatch e) h2 _ _ _ _ _ _ s2 c4 f2 ⟨⟨false,i,has,aL,p,P,N+1,kb,G,0,{ c with cO:=p::P,ask:=vG ⟨q.x,q.asked,has,aL⟩ c p },rfl,by rw[<-hL];exact J,s2,rfl,rfl,c3,c4,c5,c6,c7,c8,ck,E4,YYZ,hZ z f2,(λe=>by cases e),λ_=>A,(λe=>by omega),(λ_=>rfl),λe=>by omega⟩,.inl rfl⟩
 .intro p P hL hH hP h2 s2 f2;have hL:dU has P1=p::P:=by rw[<-c1];exact hL
  refine hS (by rw[hL];exact λe=>nomatch e) h2 _ _ _ _ _ _ s2 c4 f2 ⟨⟨true,i,has,aL,p,P,N+1,kb,G,0,{ c with cO:=p::P,ask:=vH E ⟨q.x,q.asked,has,aL⟩ p,fe:=aY aL p.1 p.2.1 },rfl,by rw[<-hL];exact J,s2,rfl,rfl,c3,c4,c5,c6,c7,c8,ck,E4,YYZ,hZ z f2,(λ_=>⟨rfl,hH,hP⟩),λ_=>A,(λe=>by omega),(λ_=>rfl),λe=>by omega⟩,.inl rfl⟩
theorem JA.i0{q:QA}{i:Nat}{has aL:List L4}{p:N3}{P:List N3}(s:JA q i has aL (p::P)):i+3+3*aL.length<=q.B:=by
 have:=s.le;simp only[List.length_cons]at this;omega
theorem Yb{E:EN}{Z:af->Prop}(hZ:∀{h h':af},Z h->FK E.a h h'->Z h'){q:QA}(hx:1<=q.x)(hB:q.B<=110)(E3:q.N0<=400)(i n:Nat)(d0:Int)(h:af)(V:KQ)(s:vQ E Z q i (n+1) d0 h)(hn:n≠0)(hk:∀h' d,vQ E Z q (i+1) n d h'->V (.tuple ⟨[.bool false,YYX 0,YYX 0]⟩) h'):aq prog 68 [pt E.z.ab] h V:=by
 obtain⟨⟨b,i0,has,aL,p,P,N,kb,G,out,c,e1,J,s,c1,c2,c3,c4,c5,c6,c7,c8,ck,E4,hN,z,hb,hA,_⟩,n3⟩:=s;have A:=hA YYZ;have tX:=s.th;have yl:=J.i0;have hxy:q.x≠yE E:=by show q.x≠-1-E.z.th;omega
 have ok:=J.nd p (.head _);have EH:c.ask.k≠0:=by
  rw[c2];cases b with
  |false=>show(1:Int)≠0;decide
  |true=>show(3:Int)≠0;decide
 refine vK s YYZ EH (λh1=>∃d,vQ E Z q (i+1) n d h1) ?_ V (λh1 q1=>q1.elim λd q1=>hk h1 d q1);intro κ1 cZ;have n2:n=2\/n=1:=by omega
 rcases n2 with rfl|rfl
 .refine r7 s.w κ1 λh' w' k'=>cZ h' ⟨0,⟨b,i0,has,aL,p,P,N,kb,G,out,c,YYZ,J,s.wk w' k',c1,c2,c3,c4,c5,c6,c7,c8,ck,E4,hN,hZ z k'.fk,hb,λ_=>A,(λe=>by omega),(λ_=>rfl),λe=>by omega⟩,.inr (.inl rfl)⟩
 .have D:=s.w.E1 p.1 p.2.1;have gq:=A.get D;cases b with
  |false=>
   refine rz s.w YYZ (y:=yE E) (by show -1-E.z.th<0;omega) (λ_=>by show 0<=q.x;omega) (λ_ p' hp'=>A.only _ _ p' hp') (λe=>absurd e (by show ¬(1:Int)=3;decide)) κ1 ?_;intro h' G' o w' r' ho k';have r':(o=1/\G'=dR G p.1 p.2.1 (ry (G p.1 p.2.1) q.x (yE E) (bM (aY has p.1 p.2.1) p.2.2)))\/(o=5/\dm (G p.1 p.2.1) q.x=0/\G'=dR G p.1 p.2.1 (j9 (G p.1 p.2.1) (yE E) (bM 0 (bM (aY has p.1 p.2.1) p.2.2)))):=by
    unfold lQ at r';rw[if_pos (show(Js false E ⟨q.x,q.asked,has,vN false aL p⟩ c p).k=1 from rfl)]at r';exact r'
   refine cZ h' ⟨_,⟨false,i0,has,aL,p,P,N,kb,G',o,c,YYZ,J,s.wk w' k',c1,c2,c3,c4,c5,c6,c7,c8,ck,E4,hN,hZ z k'.fk,hb,λe=>absurd rfl e,λ_=>?_,λe=>absurd rfl e,λ_=>rfl⟩,.inr (.inr rfl)⟩;rw[if_neg YYQ];obtain⟨m0,m1,m2,_⟩:=jR (J.ok.LC p.1 p.2.1) ok.2.1 ok.2.2;rcases r' with⟨rfl,rfl⟩|⟨rfl,_,rfl⟩
   .exact .inl ⟨rfl,A.lock hxy D q.x m0 (by rw[gq,m2])⟩
   .exact .inr ⟨rfl,A.full hxy,ho rfl⟩
  |true=>
   obtain⟨hp1,hH,hP⟩:=hb rfl;refine rz s.w YYZ (y:=yE E) (by show -1-E.z.th<0;omega) (λe=>absurd e (by show ¬(3:Int)=1;decide)) (λe=>absurd e (by show ¬(3:Int)=1;decide)) (λ_ _ p' hp' _ e=>?_) κ1 ?_
   .have e:p'.1=q.x:=e;have hm:(q.x,p'.2)∈G p.1 p.2.1:=by rw[<-e];exact hp'
    have:=A.hx _ _ _ hm;rw[hH]at this;exact(D.1 _ hm).1 this.symm
   intro h' G' o w' r' ho k';have r':(dm (G p.1 p.2.1) (yE E)=0/\o=6/\G'=G)\/(dm (G p.1 p.2.1) (yE E)≠0/\o=1/\G'=dR G p.1 p.2.1 (vz (G p.1 p.2.1) (yE E) q.x)):=by
    unfold lQ at r';rw[if_neg (show ¬(Js true E ⟨q.x,q.asked,has,vN true aL p⟩ c p).k=1 by show ¬(3:Int)=1;decide)]at r';have r':if dm (G p.1 p.2.1) (yE E)=0 then o=6/\G'=G else o=1/\G'=dR G p.1 p.2.1 (vz (G p.1 p.2.1) (yE E) q.x):=r'
    split at r'
    .exact .inl ⟨by assumption,r'⟩
    .exact .inr ⟨by assumption,r'⟩
   refine cZ h' ⟨_,⟨true,i0,has,aL,p,P,N,kb,G',o,c,YYZ,J,s.wk w' k',c1,c2,c3,c4,c5,c6,c7,c8,ck,E4,hN,hZ z k'.fk,hb,λe=>absurd rfl e,λ_=>?_,λe=>absurd rfl e,λ_=>rfl⟩,.inr (.inr rfl)⟩;rw[if_pos rfl];rcases r' with⟨h0,rfl,rfl⟩|⟨h0,rfl,rfl⟩
   .exact .inr ⟨rfl,A.gone D h0⟩
   .exact .inl ⟨rfl,A.inh hxy D q.x hH h0⟩
theorem aeT{E:EN}{Z:af->Prop}(hZ:∀{h h':af},Z h->FK E.a h h'->Z h'){q:QA}(hx:1<=q.x)(hB:q.B<=110)(hM:q.M.length<=25)(la:q.asked.length<=1000)(hm:kn q.m=true)(E3:q.N0<=400)(i:Nat)(d:Int)(h:af)(V:KQ)(s:vQ E Z q i 1 d h)(cZ:d=0->∀h',vQ E Z q (i+1) 3 0 h'->V (.tuple ⟨[.bool false,YYX 0,YYX 0]⟩) h')(hk2:d≠0->∀h',ajJ E Z q i d h'->V (.tuple ⟨[.bool true,YYX d,YYX 0]⟩) h'):aq prog 68 [pt E.z.ab] h V:=by
 obtain⟨⟨b,i0,has,aL,p,P,N,kb,G,out,c,e1,J,s,c1,c2,c3,c4,c5,c6,c7,c8,ck,E4,hN,z,hb,_,hA,_,hd⟩,n3⟩:=s;have hA:=hA rfl;have hd:=hd rfl;have tX:=s.th;have yl:=J.i0;have ok:=J.nd p (.head _);have lh:=J.ok.len;have lp:=J.op.len;have lP:(p::P).length<=100:=by have:=J.le;omega
 obtain rfl:i=i0+2:=by omega
 have go:∀(vR x9:List L4)(h1 h2:af)(c':CD),AW h2 E G N 0 (Js b E ⟨q.x,q.asked,has,vN b aL p⟩ c p) out ⟨q.x,q.asked,vR,x9⟩ kb c'->FK E.a h1 h2->Z h2->mY q.x (yE E) vR x9 G->c'.cO=p::P->c'.Qb=121->c'.code=0->c'.t=q.t->c'.r=q.r->c'.m=q.m->0<=c'.w->c'.k=1->c'.tQ=aeQ E->(dU vR (p::P)≠[]->d=0)->(dU vR (p::P)=[]->d=1)->JA q (i0+3) vR x9 (dU vR (p::P))->
   aq prog 126 [pt E.z.ab] h2 λ_ h3=>∃G' N' n' y' out' D' c'',AW h3 E G' N' n' y' out' D' kb c''/\FK E.a h1 h3/\
   (c''.code=0->V (.tuple ⟨[.bool false,YYX 0,YYX 0]⟩) h3)/\(c''.code≠0->n'=0/\∀h4,AI h4 E G' N' D'->FK E.a h3 h4->V (.tuple ⟨[.bool true,YYX c''.code,YYX 0]⟩) h4):=by
  intro vR x9 h1 h2 c' s2 f2 z2 A2 d1 d3 d4 d5 d6 d7 d8 dk dst dz d1' J2;refine NA (i:=i0+3) hZ hx hB hM la hm E3 s2 z2 A2 d1 d3 d4 d5 d6 d7 d8 dk dst lP J.nd J2 YYZ (i0+2) YYZ ?_ _ ?_ ?_
  .intro hL;have h1:=J2.ge;have h2:=J2.le;rw[hL]at h1 h2;simp only[List.length_nil]at h1 h2;exact⟨YYZ,.inl YYZ⟩
  .intro hne h3 G' N' y' o' D' c'' s3 hc f3 S3;exact⟨G',N',3,y',o',D',c'',s3,f2.trans f3,λ_=>cZ (dz hne) h3 S3,λe=>absurd hc e⟩
  .intro heq h3 G' N' y' o' D' c'' s3 hc _ f3 hP;have Zv:=d1' heq;refine⟨G',N',0,y',o',D',c'',s3,f2.trans f3,λe=>?_,λ_=>⟨rfl,λh4 a4 f4=>?_⟩⟩
   .rw[hc]at e;exact absurd e YYQ
   .rw[hc];have:=hk2 YYZ h4;rw[Zv]at this;exact this (hP h4 a4 f4)
 have EH:c.ask.k≠0:=by
  rw[c2];cases b with
  |false=>show(1:Int)≠0;decide
  |true=>show(3:Int)≠0;decide
 refine vL s EH V ?_;intro h1 s1 f1;rw[c3];cases b with
 |false=>
  rw[if_neg YYQ]at hA;have aoU:c.ask.k=1:=by rw[c2];rfl
  have ham:c.ask.m=bM (aY has p.1 p.2.1) p.2.2:=by rw[c2];rfl
  refine PG s1 (p:=p) (P:=P) c1 aoU (by show has.length<=1000;omega) out _ ?_ ?_
  ·intro ho h2 s2 f2;obtain⟨e5,A,h8⟩:out=5/\mY q.x (yE E) has aL G/\8<=2*N:=by
    rcases hA with⟨e,_⟩|e
    .exact absurd e ho
    .exact e
   refine⟨G,N,0,_,_,_,_,s2,f2,λe=>?_,λ_=>⟨rfl,λh3 a3 f3=>?_⟩⟩
   .exact absurd (show out=0 from e) YYZ
   .have hdo:d=out:=by rw[hd];unfold Jt;rw[if_neg YYQ,if_pos (.inl ho)]
    have:=hk2 YYZ h3;rw[hdo]at this;exact this ⟨has,aL,q.asked,N,G,a3,A,hZ (hZ (hZ z f1) f2) f3,YYZ,J.ok,J.op,J.pl,.inl YYZ,(by have:=J.hl;omega),.inr ⟨e5,rfl,h8⟩⟩
  ·intro ho h2 s2 f2;have A:mY q.x (yE E) (de has (EK q.x has p)) aL G:=by
    rcases hA with⟨_,e⟩|⟨e,_⟩
    .exact e
    .omega
   rw[ham]at s2;have okg:=aeR (x:=q.x) J.ok ok (J.sub p (.head _));have cp:=Ya (x:=q.x) J.ok ok;have hl:dU (de has (EK q.x has p)) (p::P)=P:=by
    rcases Ju (g:=EK q.x has p) ⟨rfl,rfl⟩ J.nn J.nc with⟨_,e⟩|e
    .exact e
    .have hin:p∈dU (de has (EK q.x has p)) (p::P):=by rw[e];exact .head _
     have:=(List.mem_filter.1 hin).2;rw[cp]at this;cases this
   have hd2:d=if P=[]then 1 else 0:=by
    rw[hd];unfold Jt;rw[if_neg YYQ];by_cases Yc:P=[]
    .rw[if_pos (.inr Yc),if_pos Yc];exact ho
    .rw[if_neg (λe=>e.elim (λe=>e ho) Yc),if_neg Yc]
   refine go (de has (EK q.x has p)) aL h1 h2 _ s2 f2 (hZ (hZ z f1) f2) A c1 c3 c4 c5 c6 c7 c8 ck E4 ?_ ?_ ?_
   .rw[hl];intro e;rw[hd2,if_neg e]
   .rw[hl];intro e;rw[hd2,if_pos e]
   .rw[hl];exact J.grow ⟨rfl,rfl⟩ okg cp J.op (Nat.le_refl _)
 |true=>
  rw[if_pos rfl]at hA;obtain⟨hp1,hH,hP⟩:=hb rfl;have aoV:c.ask.k=3:=by rw[c2];rfl
  refine Lx s1 (p:=p) (P:=P) c1 aoV (by show has.length<=1000;omega) out _ ?_ ?_
  ·intro ho h2 s2 f2;have A:mY q.x (yE E) has (bU aL p.1 p.2.1) G:=by
    rcases hA with⟨e,_⟩|⟨_,e⟩
    .exact absurd e ho
    .exact e
   refine go has (bU aL p.1 p.2.1) h1 h2 _ s2 f2 (hZ (hZ z f1) f2) A c1 c3 c4 c5 c6 c7 c8 ck E4 ?_ ?_ ?_
   .intro _;rw[hd];unfold Jt;rw[if_pos rfl,if_neg (λe=>ho e.1)]
   .rw[J.nc];intro e;cases e
   rw[J.nc];exact J.same (.inl rfl) J.ok J.nc hP
  ·intro ho h2 s2 f2;have A:mY q.x (yE E) (de has ⟨q.x,p.1,p.2.1,aY aL p.1 p.2.1⟩) (bU aL p.1 p.2.1) G:=by
    rcases hA with⟨_,e⟩|⟨e,_⟩
    .exact e
    .omega
   have s2:AW h2 E G N 0 (Js true E ⟨q.x,q.asked,has,vN true aL p⟩ c p) out ⟨q.x,q.asked,de has ⟨q.x,p.1,p.2.1,c.fe⟩,bU aL p.1 p.2.1⟩ kb { c with seen:=true }:=s2;rw[hp1]at s2;have okg:kK q.M (de has ⟨q.x,p.1,p.2.1,aY aL p.1 p.2.1⟩):=J.ok.put ⟨ok.1,J.op.LC _ _,hP⟩ (J.sub p (.head _));have hle:(bU aL p.1 p.2.1).length<=aL.length:=by have:=J.op.rC hP;omega
   have B8:dG (de has ⟨q.x,p.1,p.2.1,aY aL p.1 p.2.1⟩) p=kG (aY aL p.1 p.2.1) p.2.2:=by
    have e:aY (de has ⟨q.x,p.1,p.2.1,aY aL p.1 p.2.1⟩) p.1 p.2.1=aY aL p.1 p.2.1:=by
     rw[g_,if_pos ⟨rfl,rfl⟩]
    unfold dG;rw[e,decide_eq_true hP];rfl
   rcases Ju (g:=⟨q.x,p.1,p.2.1,aY aL p.1 p.2.1⟩) ⟨rfl,rfl⟩ J.nn J.nc with⟨cp,e⟩|e
   ·rw[B8]at cp;have hd2:d=if P=[]then 1 else 0:=by
     rw[hd];unfold Jt;rw[if_pos rfl,hp1];by_cases Yc:P=[]
     .rw[if_pos ⟨ho,Yc,cp⟩,if_pos Yc]
     .rw[if_neg (λe=>Yc e.2.1),if_neg Yc]
    refine go (de has ⟨q.x,p.1,p.2.1,aY aL p.1 p.2.1⟩) (bU aL p.1 p.2.1) h1 h2 _ s2 f2 (hZ (hZ z f1) f2) A c1 c3 c4 c5 c6 c7 c8 ck E4 ?_ ?_ ?_
    .rw[e];intro e';rw[hd2,if_neg e']
    .rw[e];intro e';rw[hd2,if_pos e']
    .rw[e];exact J.grow ⟨rfl,rfl⟩ okg (by rw[B8];exact cp) (J.op.drop _ _) hle
   ·have hnc:kG (aY aL p.1 p.2.1) p.2.2≠true:=by
     have hin:p∈dU (de has ⟨q.x,p.1,p.2.1,aY aL p.1 p.2.1⟩) (p::P):=by rw[e];exact .head _
     have:=(List.mem_filter.1 hin).2;rw[B8]at this;intro e2;rw[e2]at this;cases this
    refine go (de has ⟨q.x,p.1,p.2.1,aY aL p.1 p.2.1⟩) (bU aL p.1 p.2.1) h1 h2 _ s2 f2 (hZ (hZ z f1) f2) A c1 c3 c4 c5 c6 c7 c8 ck E4 ?_ ?_ ?_
    .intro _;rw[hd];unfold Jt;rw[if_pos rfl,hp1,if_neg (λe=>hnc e.2.2)]
    .rw[e];intro e';cases e'
    .rw[e];exact J.same (.inr ⟨_,⟨rfl,rfl⟩,rfl⟩) okg e hP
theorem Yd{E:EN}{Z:af->Prop}{q:QA}(i n:Nat)(d:Int)(h:af)(V:KQ)(s:vQ E Z q i n d h)(hk:V (YYX d) h):aq prog 83 [pt E.z.ab] h V:=by
 obtain⟨⟨b,i0,has,aL,p,P,N,kb,G,out,c,e1,J,s,c1,c2,c3,c4,c5,c6,c7,c8,ck,E4,hN,z,hb,_,hA,hd0,hd⟩,n3⟩:=s;have k3:¬(c.k=3/\c.seen=true):=λe=>by have:=e.1;omega
 refine qg s V (λe=>absurd c4 e) (λ_ e=>absurd e k3) (λ_ _ e=>?_) λ_ _ hn ho=>?_
 .by_cases hn:n=1
  .rw[if_pos hn]at e;have hA:=hA hn;cases b with
   |false=>rw[if_neg YYQ]at hA;rcases hA with⟨e',_⟩|⟨e',_⟩<;>omega
   |true=>rw[if_pos rfl]at hA;rcases hA with⟨e',_⟩|⟨e',_⟩<;>omega
  .rw[hd0 hn]at hk;exact hk
 ·rw[E4];simp(disch:=try exact Y)only[Wz,List.nil_append,List.cons_append];refine PR s c1 out _ ?_;have e:X_ c p out=d:=by
   rw[hd hn];unfold X_ Jt;rw[c1,c2];have lP:(p::P).length=1<->P=[]:=by
    rw[List.length_cons];constructor
    .intro e;exact List.eq_nil_of_length_eq_zero YYZ
    .rintro rfl;rfl
   cases b with
   |false=>
    rw[if_neg (show ¬(Js false E ⟨q.x,q.asked,has,vN false aL p⟩ c p).k=3 by show ¬(1:Int)=3;decide),if_neg (show ¬(false:Bool)=true by decide)];simp only[lP]
   |true=>
    rw[if_pos (show(Js true E ⟨q.x,q.asked,has,vN true aL p⟩ c p).k=3 from rfl),if_pos rfl];simp only[lP]
  rw[e];exact hk
def vS(E:EN)(aL:List L4)(g:L4):List L4:=if xy g.t g.r g.m=true/\0<E.z.most-aL.length then de aL ⟨-1-E.z.th,g.t,g.r,g.m⟩else aL
structure NB(E:EN)(x:Int)(M:List (Int × Int))(has aL:List L4)(G:GT):Prop where
 h:kK M has
 p:kK M aL
 E1:∀t r,aY has t r≠0->aY aL t r=0
 le:(aL.length:Int)<=E.z.most
 A:mY x (yE E) has aL G
 py:∀t r,aY aL t r≠0->(yE E,aY aL t r)∈G t r
section
variable {E:EN}{x:Int}{M:List (Int × Int)}{has aL:List L4}{G:GT}
theorem Jv{t r t' r':Int}(h:aY (bU has t r) t' r'≠0):¬(t=t'/\r=r')/\aY has t' r'≠0:=by
 rw[iM]at h;by_cases e:t=t'/\r=r'
 .rw[if_pos e]at h;exact absurd rfl h
 .rw[if_neg e]at h;exact⟨e,h⟩
theorem NB.nz(s:NB E x M has aL G){g:L4}(hg:g∈has):aY has g.t g.r≠0:=by rw[s.h.mode hg];exact(s.h.ok g hg).2.2
theorem NB.drop(s:NB E x M has aL G)(hxy:x≠yE E){g:L4}(hg:g∈has)(hn:¬(xy g.t g.r g.m=true/\0<E.z.most-aL.length)):NB E x M (bU has g.t g.r) (vS E aL g) (dR G g.t g.r (qe (G g.t g.r) x)):=by
 have e0:vS E aL g=aL:=if_neg hn;rw[e0];refine⟨s.h.drop _ _,s.p,λt r h=>s.E1 t r (Jv h).2,s.le,s.A.drop hxy,λt r h=>?_⟩;refine jf ?_;by_cases e:g.t=t/\g.r=r
 .obtain⟨rfl,rfl⟩:=e;refine .inl ⟨rfl,rfl,List.mem_filter.2 ⟨s.py _ _ h,?_⟩⟩;rw[decide_eq_true_eq];exact λe=>hxy e.symm
 .exact .inr ⟨e,s.py _ _ h⟩
theorem NB.hand(s:NB E x M has aL G)(hxy:x≠yE E){g:L4}(hg:g∈has)(D:vB (G g.t g.r))(hn:xy g.t g.r g.m=true/\0<E.z.most-aL.length):NB E x M (bU has g.t g.r) (vS E aL g) (dR G g.t g.r (vz (G g.t g.r) x (yE E))):=by
 have e0:vS E aL g=de aL ⟨-1-E.z.th,g.t,g.r,g.m⟩:=if_pos hn;rw[e0];have ZZ:=s.nz hg;have hm:=s.h.mode hg;obtain⟨A',hin⟩:=s.A.hand hxy D ZZ (s.E1 _ _ ZZ) (-1-E.z.th);rw[hm]at A' hin;refine⟨s.h.drop _ _,s.p.put (s.h.ok g hg) (s.h.sub g hg),λt r h=>?_,?_,A',λt r h=>?_⟩
 .obtain⟨h1,h2⟩:=Jv h;rw[g_,if_neg h1];exact s.E1 t r h2
 .have:=Bp aL ⟨-1-E.z.th,g.t,g.r,g.m⟩;omega
 .rw[g_]at h ⊢;refine jf ?_;by_cases e:g.t=t/\g.r=r
  .rw[if_pos e];exact .inl ⟨e.1,e.2,hin⟩
  .rw[if_neg e]at h ⊢;exact .inr ⟨e,s.py _ _ h⟩
theorem PS{g:L4}{Q:List L4}(s:kK M has)(hp:(g::Q).Perm has):Q.Perm (bU has g.t g.r):=by
 have h1:bU (g::Q) g.t g.r=Q:=by
  have nd:((g::Q).map ny).Nodup:=((hp.map ny).nodup_iff).2 s.nd;rw[List.map_cons,List.nodup_cons]at nd;unfold bU;rw[List.filter_cons,gQ.2 ⟨rfl,rfl⟩,if_neg YYQ,List.filter_eq_self.2];intro y hy;rw[Bool.not_eq_true',mX];rintro⟨e1,e2⟩;exact nd.1 (List.mem_map.2 ⟨y,hy,by unfold ny;rw[e1,e2]⟩)
 have h2:(bU (g::Q) g.t g.r).Perm (bU has g.t g.r):=hp.filter _
 rwa [h1]at h2
end
theorem Jw{E:EN}{D:AD}{g:L4}:(x7 E D g).k≠0/\(x7 E D g).k≠1:=by
 unfold x7;split
 .exact⟨show(3:Int)≠0 by decide,show(3:Int)≠1 by decide⟩
 .exact⟨show(2:Int)≠0 by decide,show(2:Int)≠1 by decide⟩
abbrev Jx:Value:=.func (.func 128) ⟨[]⟩ ⟨[]⟩
structure QG where
 x:Int
 M:List (Int × Int)
 asked:List L4
 N0:Nat
 L0:Nat
structure E5(E:EN)(Z:af->Prop)(q:QG)(i n:Nat)(h:af):Prop where
 ex:∃(i0:Nat)(g:L4)(Q has aL:List L4)(N kb:Nat)(G:GT)(out:Int)(c:CD),i+n=i0+3/\1<=i0/\i0+3*(Q.length+1)<=1+3*q.L0/\AW h E G N n (x7 E ⟨q.x,q.asked,has,aL⟩ g) out ⟨q.x,q.asked,has,aL⟩ kb c/\c.goes=g::Q/\(g::Q).Perm has/\c.ask=x7 E ⟨q.x,q.asked,has,aL⟩ g/\
  c.Qb=180/\c.code=0/\(c.k=3/\c.tQ=Jx)/\3*N<=3*q.N0+i0+2/\Z h/\(∃G0,NB E q.x q.M has aL G0)/\(n≠1->NB E q.x q.M has aL G)/\(n=1->out=1/\NB E q.x q.M (bU has g.t g.r) (vS E aL g) G)
 n3:n=3\/n=2\/n=1
structure JS(E:EN)(Z:af->Prop)(q:QG)(i n:Nat)(h:af):Prop where
 ex:∃(i0:Nat)(g:L4)(has aL:List L4)(N kb:Nat)(G:GT)(out:Int)(c:CD),i+n=i0+3/\1<=i0/\i0+3*(has.length+aL.length)<=1+3*q.L0/\AW h E G N n (qf E g) out ⟨q.x,q.asked,has,bU aL g.t g.r⟩ kb c/\c.ask=qf E g/\g∈aL/\kK q.M has/\kK q.M aL/\
  c.Qb=130/\c.code=0/\(c.k=3/\c.tQ=Jx)/\3*N<=3*q.N0+i0+2/\Z h/\(n≠1->mY q.x (yE E) has aL G)/\(n=1->mY q.x (yE E) has (bU aL g.t g.r) G)
 n3:n=3\/n=2\/n=1
structure UC(E:EN)(M:List (Int × Int))(aL:List L4)(G:GT):Prop where
 p:kK M aL
 le:(aL.length:Int)<=E.z.most
 all:∀t r p,p∈G t r->p=(yE E,aY aL t r)
 py:∀t r,aY aL t r≠0->(yE E,aY aL t r)∈G t r
def Z0(E:EN)(Z:af->Prop)(q:QG)(i:Nat)(code:Int)(h:af):Prop:=
 code=1/\∃aL G N,AI h E G N ⟨0,[],[],aL⟩/\UC E q.M aL G/\3*N<=3*q.N0+i+2/\Z h
section
variable {E:EN}{Z:af->Prop}(hZ:∀{h h':af},Z h->FK E.a h h'->Z h'){q:QG}(hx:1<=q.x)(hM:q.M.length<=25)(Qe:q.L0<=19)(E3:q.N0<=400)(eG:0<=E.z.most/\E.z.most<=8)
include hZ hx hM Qe E3 eG
theorem NC{i:Nat}(hi1:1<=i){has aL O:List L4}{h:af}{G:GT}{N kb:Nat}{y0:fE}{o0:Int}{c:CD}(s:AW h E G N 0 y0 o0 ⟨q.x,q.asked,has,aL⟩ kb c)(z:Z h)(g:NB E q.x q.M has aL G)(hO:O.Perm has)(c1:c.goes=O)(c3:c.Qb=180)(c4:c.code=0)(cK:c.k=3/\c.tQ=Jx)(hN:3*N+1<=3*q.N0+i)(hi:i+3*has.length<=1+3*q.L0)(i':Nat)(hi':i<=i'+1)(V:KQ)(hS:∀h' G' N' y' o' D' c',AW h' E G' N' 3 y' o' D' kb c'->c'.code=0->FK E.a h h'->E5 E Z q i 3 h'->V (.tuple ⟨[]⟩) h')(hE:∀h' G' N' y' o' D' c',AW h' E G' N' 0 y' o' D' kb c'->c'.code=1->c'.ask=c.ask->FK E.a h h'->(∀h4,AI h4 E G' N' D'->Z h4->Z0 E Z q i' 1 h4)->V (.tuple ⟨[]⟩) h'):aq prog 182 [pt E.z.ab] h V:=by
 have tX:=s.th;have lh:=g.h.len;have lp:=g.p.len;have hOl:=hO.length_eq;refine XX s YYZ eG (by show aL.length<=1000;omega) (by rw[c1];omega) (λu hu=>?_) (by show q.x≠-1-E.z.th;omega) 0 _ ?_ ?_
 .rw[c1]at hu;exact(g.h.ok u (hO.mem_iff.1 hu)).1
 .intro e h2 s2 f2;rw[c1]at e;have eh:has=[]:=by rw[e]at hO;exact List.Perm.eq_nil hO.symm
  subst eh;refine hE h2 G N _ _ _ _ s2 rfl rfl f2 λh4 a4 z4=>⟨rfl,aL,G,N,a4,⟨g.p,g.le,λt r p hp=>?_,g.py⟩,YYZ,z4⟩
  have D:=a4.w ⟨0,0,0,0,0,0,0⟩ 0 |>.E1 t r
  obtain⟨p1,p2⟩:=p;rcases g.A.only t r _ hp with e|e
  .have e:p1=q.x:=e;subst e;have h0:=g.A.hx t r p2 hp;exact absurd h0.symm (D.1 _ hp).1
  .have e:p1=yE E:=e;subst e;rw[g.A.py t r p2 hp]
 .intro u Q e h2 s2 f2;rw[c1]at e;have eQ:O.length=Q.length+1:=by rw[e];rfl
  exact hS h2 _ _ _ _ _ _ s2 c4 f2 ⟨⟨i,u,Q,has,aL,N+1,kb,G,0,_,rfl,hi1,YYZ,s2,by rw[<-e];exact c1,by rw[<-e];exact hO,rfl,c3,c4,cK,YYZ,hZ z f2,⟨G,g⟩,λ_=>g,λe=>by omega⟩,.inl rfl⟩
theorem Jy{i:Nat}(hi1:1<=i){has aL:List L4}{h:af}{G:GT}{N kb:Nat}{y0:fE}{o0:Int}{c:CD}(s:AW h E G N 0 y0 o0 ⟨q.x,q.asked,has,aL⟩ kb c)(z:Z h)(A:mY q.x (yE E) has aL G)(oh:kK q.M has)(op:kK q.M aL)(c3:c.Qb=130)(c4:c.code=0)(cK:c.k=3/\c.tQ=Jx)(hN:3*N+1<=3*q.N0+i)(hi:i+3*(has.length+aL.length)<=1+3*q.L0)(i':Nat)(hi':i<=i'+1)(V:KQ)(hS:∀h' G' N' y' o' D' c',AW h' E G' N' 3 y' o' D' kb c'->c'.code=0->FK E.a h h'->(JS E Z q i 3 h'\/E5 E Z q i 3 h')->V (.tuple ⟨[]⟩) h')(hE:∀h' G' N' y' o' D' c',AW h' E G' N' 0 y' o' D' kb c'->c'.code=1->c'.ask=c.ask->FK E.a h h'->(∀h4,AI h4 E G' N' D'->Z h4->Z0 E Z q i' 1 h4)->V (.tuple ⟨[]⟩) h'):aq prog 131 [pt E.z.ab] h V:=by
 have lh:=oh.len;have lp:=op.len;cases hp:aL with
 |nil=>
  subst hp;refine Uj s rfl (by show has.length<20;omega) (λu hu=>(oh.ok u hu).1) V ?_;intro O h2 hO s2 f2;have g:NB E q.x q.M has [] G:=⟨oh,op,λ_ _ _=>rfl,eG.1,A,λt r h=>absurd rfl h⟩
  refine NC hZ hx hM Qe E3 eG hi1 s2 (hZ z f2) g hO rfl rfl c4 cK hN (by simp only[List.length_nil]at hi;omega) i' hi' _ ?_ ?_
  .intro h' G' N' y' o' D' c' s' e' f' S';exact hS h' G' N' y' o' D' c' s' e' (f2.trans f') (.inr S')
  .intro h' G' N' y' o' D' c' s' e' e2' f' P';exact hE h' G' N' y' o' D' c' s' e' e2' (f2.trans f') P'
 |cons u Q=>
  have hu:u∈aL:=by rw[hp];exact .head _
  have hm:=op.mode hu;refine PK s YYZ (by show aL.length<=1000;omega) hp (by show aY aL u.t u.r≠0;rw[hm];exact(op.ok u hu).2.2) (op.ok u hu).1 0 V ?_;intro h2 s2 f2;exact hS h2 _ _ _ _ _ _ s2 c4 f2 (.inl ⟨⟨i,u,has,aL,N+1,kb,G,0,_,rfl,hi1,hi,s2,rfl,hu,oh,op,c3,c4,cK,YYZ,hZ z f2,λ_=>A,λe=>by omega⟩,.inl rfl⟩)
end
section
variable {E:EN}{Z:af->Prop}(hZ:∀{h h':af},Z h->FK E.a h h'->Z h'){q:QG}(hx:1<=q.x)(hM:q.M.length<=25)(Qe:q.L0<=19)(E3:q.N0<=400)(eG:0<=E.z.most/\E.z.most<=8)
include hZ hx hM Qe E3 eG
set_option linter.unusedSectionVars false in
theorem aeU(i n:Nat)(h:af)(V:KQ)(s:JS E Z q i (n+1) h)(hn:n≠0)(hk:∀h',JS E Z q (i+1) n h'->V (.tuple ⟨[.bool false,YYX 0,YYX 0]⟩) h'):aq prog 68 [pt E.z.ab] h V:=by
 obtain⟨⟨i0,g,has,aL,N,kb,G,out,c,e1,hi1,yl,s,c2,hg,oh,op,c3,c4,cK,hN,z,hA,_⟩,n3⟩:=s;have A:=hA YYZ;have tX:=s.th;have EH:c.ask.k≠0:=by rw[c2];show(2:Int)≠0;decide
 refine vK s YYZ EH (JS E Z q (i+1) n) ?_ V hk;intro κ1 cZ;have n2:n=2\/n=1:=by omega
 rcases n2 with rfl|rfl
 .refine r7 s.w κ1 λh' w' k'=>cZ h' ⟨⟨i0,g,has,aL,N,kb,G,out,c,YYZ,hi1,yl,s.wk w' k',c2,hg,oh,op,c3,c4,cK,hN,hZ z k'.fk,λ_=>A,λe=>by omega⟩,.inr (.inl rfl)⟩
 ·have D:=s.w.E1 g.t g.r;refine rz s.w YYZ (y:=yE E) (by show -1-E.z.th<0;omega) (λe=>absurd e (by show ¬(2:Int)=1;decide)) (λe=>absurd e (by show ¬(2:Int)=1;decide)) (λe=>absurd e (by show ¬(2:Int)=3;decide)) κ1 ?_;intro h' G' o w' r' ho k';have r':(dm (G g.t g.r) (yE E)=0/\G'=G)\/(dm (G g.t g.r) (yE E)≠0/\G'=dR G g.t g.r (qe (G g.t g.r) (yE E))):=by
   unfold lQ at r';rw[if_neg (show ¬(qf E g).k=1 by show ¬(2:Int)=1;decide),if_neg (show ¬(qf E g).k=3 by show ¬(2:Int)=3;decide)]at r';have r':if dm (G g.t g.r) (yE E)=0 then o=6/\G'=G else o=1/\G'=dR G g.t g.r (qe (G g.t g.r) (yE E)):=r'
   split at r'
   .exact .inl ⟨by assumption,r'.2⟩
   .exact .inr ⟨by assumption,r'.2⟩
  refine cZ h' ⟨⟨i0,g,has,aL,N,kb,G',o,c,YYZ,hi1,yl,s.wk w' k',c2,hg,oh,op,c3,c4,cK,hN,hZ z k'.fk,λe=>absurd rfl e,λ_=>?_⟩,.inr (.inr rfl)⟩;rcases r' with⟨h0,rfl⟩|⟨h0,rfl⟩
  .exact A.gone D h0
  .exact A.del (by show q.x≠-1-E.z.th;omega)
theorem ajK(i:Nat)(h:af)(V:KQ)(s:JS E Z q i 1 h)(cZ:∀h',(JS E Z q (i+1) 3 h'\/E5 E Z q (i+1) 3 h')->V (.tuple ⟨[.bool false,YYX 0,YYX 0]⟩) h')(hk2:∀code h',Z0 E Z q i code h'->V (.tuple ⟨[.bool true,YYX code,YYX 0]⟩) h'):aq prog 68 [pt E.z.ab] h V:=by
 obtain⟨⟨i0,g,has,aL,N,kb,G,out,c,e1,hi1,yl,s,c2,hg,oh,op,c3,c4,cK,hN,z,_,hA⟩,n3⟩:=s;have A:=hA rfl;have tX:=s.th;have EH:c.ask.k≠0:=by rw[c2];show(2:Int)≠0;decide
 obtain rfl:i=i0+2:=by omega
 have hm:=op.mode hg;have hl:=op.rC (t:=g.t) (r:=g.r) (by rw[hm];exact(op.ok g hg).2.2);refine vL s EH V ?_;intro h1 s1 f1;rw[c3];refine XY out _ ?_;refine Jy (i:=i0+3) hZ hx hM Qe E3 eG YYZ s1 (hZ z f1) A oh (op.drop _ _) c3 c4 cK YYZ YYZ (i0+2) YYZ _ ?_ ?_
 .intro h3 G' N' y' o' D' c'' s3 hc f3 S3;exact⟨G',N',3,y',o',D',c'',s3,f3,λ_=>cZ h3 S3,λe=>absurd hc e⟩
 .intro h3 G' N' y' o' D' c'' s3 hc _ f3 hP;refine⟨G',N',0,y',o',D',c'',s3,f3,λe=>?_,λ_=>⟨rfl,λh4 a4 f4=>?_⟩⟩
  .rw[hc]at e;exact absurd e YYQ
  .rw[hc];exact hk2 1 h4 (hP h4 a4 (hZ (hZ (hZ z f1) f3) f4))
set_option linter.unusedSectionVars false in
theorem go_s32(i n:Nat)(h:af)(V:KQ)(s:E5 E Z q i (n+1) h)(hn:n≠0)(hk:∀h',E5 E Z q (i+1) n h'->V (.tuple ⟨[.bool false,YYX 0,YYX 0]⟩) h'):aq prog 68 [pt E.z.ab] h V:=by
 obtain⟨⟨i0,g,Q,has,aL,N,kb,G,out,c,e1,hi1,yl,s,c1,hp,c2,c3,c4,cK,hN,z,hG0,hA,_⟩,n3⟩:=s;have A:=hA YYZ;have tX:=s.th;have hg:g∈has:=hp.mem_iff.1 (.head _);have ZZ:=A.nz hg;have EH:c.ask.k≠0:=by rw[c2];exact Jw.1
 have hxy:q.x≠yE E:=by show q.x≠-1-E.z.th;omega
 have hgx:(x7 E ⟨q.x,q.asked,has,aL⟩ g).t=g.t/\(x7 E ⟨q.x,q.asked,has,aL⟩ g).r=g.r/\(x7 E ⟨q.x,q.asked,has,aL⟩ g).x=q.x:=by
  unfold x7;split<;>exact⟨rfl,rfl,rfl⟩
 have uv:(xy g.t g.r g.m=true/\0<E.z.most-aL.length/\(x7 E ⟨q.x,q.asked,has,aL⟩ g).k=3/\(x7 E ⟨q.x,q.asked,has,aL⟩ g).to=yE E)\/(¬(xy g.t g.r g.m=true/\0<E.z.most-aL.length)/\(x7 E ⟨q.x,q.asked,has,aL⟩ g).k=2):=by
  unfold x7;split
  .rename_i hc;exact .inl ⟨hc.1,hc.2,rfl,rfl⟩
  .rename_i hc;exact .inr ⟨hc,rfl⟩
 refine vK s YYZ EH (E5 E Z q (i+1) n) ?_ V hk;intro κ1 cZ;have n2:n=2\/n=1:=by omega
 have hle:=yl;rcases n2 with rfl|rfl
 .refine r7 s.w κ1 λh' w' k'=>cZ h' ⟨⟨i0,g,Q,has,aL,N,kb,G,out,c,YYZ,hi1,yl,s.wk w' k',c1,hp,c2,c3,c4,cK,hN,hZ z k'.fk,hG0,λ_=>A,λe=>by omega⟩,.inr (.inl rfl)⟩
 .have D:=s.w.E1 g.t g.r;have gq:=A.A.get D;refine rz s.w YYZ (y:=yE E) (by show -1-E.z.th<0;omega) (λe=>absurd e Jw.2) (λe=>absurd e Jw.2) (λe _ p' hp' _ e'=>?_) κ1 ?_
  .rcases uv with⟨_,_,_,ht⟩|⟨_,e2⟩
   .rw[ht]at e';rw[hgx.1,hgx.2.1]at hp';have hm:(yE E,p'.2)∈G g.t g.r:=by rw[<-e'];exact hp'
    have:=A.A.py _ _ _ hm;rw[A.E1 _ _ ZZ]at this;exact(D.1 _ hm).1 this.symm
   .omega
  intro h' G' o w' r' ho k';have r':o=1/\NB E q.x q.M (bU has g.t g.r) (vS E aL g) G':=by
   unfold lQ at r';rw[if_neg Jw.2,hgx.1,hgx.2.1,hgx.2.2,gq,if_neg ZZ]at r';obtain⟨ro,rG⟩:=r';refine⟨ro,?_⟩;rcases uv with⟨h1,h2,h3,ht⟩|⟨hn,e2⟩
   .rw[if_pos h3,ht]at rG;rw[rG];exact A.hand hxy hg D ⟨h1,h2⟩
   .rw[if_neg YYZ]at rG;rw[rG];exact A.drop hxy hg hn
  exact cZ h' ⟨⟨i0,g,Q,has,aL,N,kb,G',o,c,YYZ,hi1,yl,s.wk w' k',c1,hp,c2,c3,c4,cK,hN,hZ z k'.fk,hG0,λe=>absurd rfl e,λ_=>r'⟩,.inr (.inr rfl)⟩
theorem go_s1(i:Nat)(h:af)(V:KQ)(s:E5 E Z q i 1 h)(cZ:∀h',E5 E Z q (i+1) 3 h'->V (.tuple ⟨[.bool false,YYX 0,YYX 0]⟩) h')(hk2:∀code h',Z0 E Z q i code h'->V (.tuple ⟨[.bool true,YYX code,YYX 0]⟩) h'):aq prog 68 [pt E.z.ab] h V:=by
 obtain⟨⟨i0,g,Q,has,aL,N,kb,G,out,c,e1,hi1,yl,s,c1,hp,c2,c3,c4,cK,hN,z,⟨G0,g0⟩,_,hA⟩,n3⟩:=s;obtain⟨rfl,A⟩:=hA rfl;have tX:=s.th;have hg:g∈has:=hp.mem_iff.1 (.head _);have ZZ:=g0.nz hg;have EH:c.ask.k≠0:=by rw[c2];exact Jw.1
 obtain rfl:i=i0+2:=by omega
 have lh:=g0.h.len;have lp:=g0.p.len;have hpG:=PS g0.h hp;have hl:=g0.h.rC ZZ;have Qu:=hp.length_eq;rw[List.length_cons]at Qu;have ajM:(if c.ask.k=3/\(1:Int)=1 then EE E.z.most (-1-E.z.th) aL g.t g.r g.m else aL)=vS E aL g:=by
  rw[c2];unfold x7 vS;by_cases hn:xy g.t g.r g.m=true/\0<E.z.most-aL.length
  .rw[if_pos hn,if_pos hn,if_pos ⟨rfl,rfl⟩];unfold EE;rw[if_neg (by rw[hn.1];decide),if_neg (λh=>h (g0.E1 _ _ ZZ)),if_neg YYZ]
  .rw[if_neg hn,if_neg hn,if_neg (λe=>absurd e.1 (by show ¬(2:Int)=3;decide))]
 refine vL s EH V ?_;intro h1 s1 f1;rw[c3];refine PJ s1 eG (by show has.length<=1000;omega) (by show aL.length<=1000;omega) (g:=g) (Q:=Q) c1 1 _ ?_;intro h2 s2 f2;have eD:sR E ⟨q.x,q.asked,has,aL⟩ { c with seen:=true } g 1=⟨q.x,q.asked,bU has g.t g.r,vS E aL g⟩:=by
  unfold sR;rw[ajM]
 rw[eD]at s2;refine NC (i:=i0+3) hZ hx hM Qe E3 eG YYZ s2 (hZ (hZ z f1) f2) A hpG rfl c3 c4 cK YYZ YYZ (i0+2) YYZ _ ?_ ?_
 .intro h3 G' N' y' o' D' c'' s3 hc f3 S3;exact⟨G',N',3,y',o',D',c'',s3,f2.trans f3,λ_=>cZ h3 S3,λe=>absurd hc e⟩
 .intro h3 G' N' y' o' D' c'' s3 hc _ f3 hP;refine⟨G',N',0,y',o',D',c'',s3,f2.trans f3,λe=>?_,λ_=>⟨rfl,λh4 a4 f4=>?_⟩⟩
  .rw[hc]at e;exact absurd e YYQ
  .rw[hc];exact hk2 1 h4 (hP h4 a4 (hZ (hZ (hZ (hZ z f1) f2) f3) f4))
theorem Ye:aoT E (λi n h=>JS E Z q i n h\/E5 E Z q i n h) (Z0 E Z q):=by
 refine⟨λi n h s=>?_,λi n h V s hn hk=>?_,λi h V s cZ hk2=>?_⟩
 .rcases s with s|s
  .obtain⟨⟨i0,g,has,aL,N,kb,G,out,c,e1,hi1,yl,_⟩,n3⟩:=s;exact⟨n3,YYZ⟩
  .obtain⟨⟨i0,g,Q,has,aL,N,kb,G,out,c,e1,hi1,yl,_⟩,n3⟩:=s;exact⟨n3,YYZ⟩
 .rcases s with s|s
  .exact aeU hZ hx hM Qe E3 eG i n h V s hn λh' s'=>hk h' (.inl s')
  .exact go_s32 hZ hx hM Qe E3 eG i n h V s hn λh' s'=>hk h' (.inr s')
 .rcases s with s|s
  .exact ajK hZ hx hM Qe E3 eG i h V s cZ hk2
  .exact go_s1 hZ hx hM Qe E3 eG i h V s (λh' s'=>cZ h' (.inr s')) hk2
end
theorem WJ.onz{h:af}{A:WA}{a:TA}{G:GT}{N:Nat}{x:fE}{out:Int}(s:WJ h A a G N 1 x out):out≠0:=by
 obtain⟨⟨d,R,N0,s1,s2,s3,s4,s5,s6,sc,t⟩,s7,s8⟩:=s;rcases t with⟨e,_⟩|⟨c,k,k2,hi,ha,hw,tX,hst,hs2,hm,ho,t⟩
 .omega
 .rcases t with⟨e,_⟩|⟨e,_⟩|⟨_,_,_,_,hz⟩
  .omega
  .omega
  .exact hz
theorem Yf{E:EN}{Z:af->Prop}{q:QG}(i n:Nat)(h:af)(V:KQ)(s:JS E Z q i n h\/E5 E Z q i n h)(hk:∀d:Int,(d=0\/d=1)->(n=1->d=1)->V (YYX d) h):aq prog 83 [pt E.z.ab] h V:=by
 obtain⟨N,kb,G,y,out,D,c,s,c4,cK⟩:∃N kb G y out D c,AW h E G N n y out D kb c/\c.code=0/\(c.k=3/\c.tQ=Jx):=by
  rcases s with⟨⟨i0,g,has,aL,N,kb,G,out,c,e1,hi1,yl,s,c2,hg,oh,op,c3,c4,cK,_⟩,n3⟩|⟨⟨i0,g,Q,has,aL,N,kb,G,out,c,e1,hi1,yl,s,c1,hp,c2,c3,c4,cK,_⟩,n3⟩
  .exact⟨N,kb,G,_,out,_,c,s,c4,cK⟩
  .exact⟨N,kb,G,_,out,_,c,s,c4,cK⟩
 refine qg s V (λe=>absurd c4 e) (λ_ _=>hk 1 (.inr rfl) λ_=>rfl) (λ_ _ e=>hk 0 (.inl rfl) λhn=>?_) λ_ _ hn ho=>?_
 .subst hn;rw[if_pos rfl]at e;exact absurd e s.w.onz
 .rw[cK.2];simp(disch:=try exact Y)only[Wz,List.nil_append,List.cons_append];refine Jr out ?_;rw[if_neg ho];exact hk 1 (.inr rfl) λ_=>rfl
section
variable {h h':af}{E:EN}{G:GT}{N n:Nat}{y:fE}{out:Int}{D:AD}{kb:Nat}{c:CD}
theorem LH(s:AW h E G N 0 y out D kb c)(hN:N<=440)(l1:D.has.length<=1000)(l2:D.asked.length<=1000)(ok:bx c.t c.r≠-1)(o:Int)(V:KQ)(yu:aY D.asked c.t c.r=0->∀h',AW h' E G N 0 y out D kb { c with code:=6 }->FK E.a h h'->V (.tuple ⟨[]⟩) h')(cZ:aY D.asked c.t c.r≠0->∀h',AW h' E G N 0 y out { D with asked:=bU D.asked c.t c.r } kb { c with code:=1 }->FK E.a h h'->V (.tuple ⟨[]⟩) h')(hkB:aY D.asked c.t c.r≠0->aY D.has c.t c.r≠0->∀h',AW h' E G (N+1) 3 (vI D c.t c.r) o { D with asked:=bU D.asked c.t c.r } kb { c with ask:=vI D c.t c.r }->FK E.a h h'->V (.tuple ⟨[]⟩) h'):aq prog 129 [pt E.z.ab] h V:=by
 have hlo:=s.lo;obtain⟨va,vh,ga,sa,sh⟩:=s.ag;obtain⟨vn,vg,gk,p1,p2⟩:=s.c.g;have hlt:=s.c.lt;have ot:=s.g.yz;unfold cE at gk;apply YYW;rw[abi];simp(disch:=try exact Y)only[Wz,aJ,ga,gk];obtain⟨hA,bg,aS,gA,dP,dQ⟩:=jH h (ah [YYX c.t,YYX c.r] 26 false);rw[<-bg]
 try rw[show(h.bl.bt (h.nx) (ah [YYX c.t,YYX c.r] 26 false))=hA.bl by rw[bg]]
 clear bg;have rB:=(aS.get _ ot.1).trans ga;have vY:=(aS.get _ hlt.1).trans gk;refine jS D.asked c.t c.r hA va _ (sa.1.le aS) YYZ YYZ ?_;intro h2 bE;have qn:=bE.nx;have qo:=bE.lo;have gA:=(bE.get _ YYZ).trans gA;have rB:=(bE.get _ YYZ).trans rB;have vY:=(bE.get _ YYZ).trans vY;have s2:=s.le (aS.trans bE);have f2:=FK.le (a:=E.a) (aS.trans bE);have ajN:∀{h1 h2:af}(l:Le h1 h2),fP pJ 275 h1 vn c.cO->fP pJ 275 h2 vn c.cO:=λl p=>p.keep l.nx l.lo λd _ hd _=>l.get d hd;have ajO:∀{h1 h2:af}(l:Le h1 h2),fO cC 4 278 h1 vg c.goes->fO cC 4 278 h2 vg c.goes:=λl p=>p.keep l.nx l.lo λd _ hd _=>l.get d hd;by_cases hm:aY D.asked c.t c.r=0
 .simp(disch:=try exact Y)only[Wz,bf hm,Gy,aJ,rB,vY];have q:=s2.vF (c':={ c with code:=6 }) (ajN (aS.trans bE) p1) (ajO (aS.trans bE) p2) s.c.tQ;unfold cE at q;exact yu hm _ q.1 (f2.trans q.2)
 .simp(disch:=try exact Y)only[Wz,aZ hm,Gz,aJ,rB,gA];refine Ez D.asked c.t c.r h2 va _ (sa.1.le (aS.trans bE)) YYZ YYZ ?_;intro v' h3 JQ cL;have s3:=s2.le cL;obtain⟨x',c',rfl⟩:=JQ.cell;have Nv:=cL.nx;have Nw:=cL.lo;have gA:=(cL.get _ YYZ).trans gA;have rB:=(cL.get _ YYZ).trans rB;have vY:=(cL.get _ YYZ).trans vY;have yx:=(aS.trans bE).trans cL;have q3:=s3.Lw (D':={ D with asked:=bU D.asked c.t c.r }) JQ (sh.le yx) rfl;have f3:=(FK.le (a:=E.a) yx).trans q3.2;have hne:E.z.ab≠h.nx:=cr rB gA YYQ;have hkb:E.z.ab≠kb:=cr rB vY YYQ;have lo3:=s3.lo;simp(disch:=try exact Y)only[Wz,aJ,rB,gA];obtain⟨h4,e4⟩:∃h4:af,h4=⟨h3.nx,h3.bl.bt E.z.ab (ah [pt E.A.wb,YYX 0,YYX D.je,.slice x' (bU D.asked c.t c.r).length c',vh,pt E.z.pb,pt kb] 107 false),h3.lo⟩:=⟨_,rfl⟩
  have s4:AW h4 E G N 0 y out { D with asked:=bU D.asked c.t c.r } kb c:=by rw[e4];exact q3.1
  have f4:FK E.a h h4:=by rw[e4];exact f3
  have gA4:h4.bl.get h.nx=some (ah [YYX c.t,YYX c.r] 26 false):=by rw[e4];exact(T.aD _ _ hne).trans gA
  have lt4:h.nx<h4.nx:=by rw[e4];show h.nx<h3.nx;omega
  have ZY:h4.bl.get E.z.ab=some (ah [pt E.A.wb,YYX 0,YYX D.je,.slice x' (bU D.asked c.t c.r).length c',vh,pt E.z.pb,pt kb] 107 false):=by rw[e4];exact T.az _ _ _
  have sa4:k_ h4 (.slice x' (bU D.asked c.t c.r).length c') (bU D.asked c.t c.r):=by rw[e4];exact JQ.up rB YYQ _
  have sh4:k_ h4 vh D.has:=by rw[e4];exact(sh.le yx).up rB YYQ _
  rw[<-e4];clear e4;obtain⟨vn4,vg4,gk4,p14,p24⟩:=s4.c.g;have aoZ:=s4.c.lt;have Yg:=s4.g.yz;have lo4:=s4.lo;unfold cE at gk4;have OE:∀h5,Le h4 h5->Ac (pt E.z.ab) h5 V:=by
   intro h5 nj;have n5:=nj.nx;have l5:=nj.lo;have s5:=s4.le nj;have ga5:=(nj.get _ Yg.1).trans ZY;have gk5:=(nj.get _ aoZ.1).trans gk4;simp(disch:=try exact Y)only[Wz,Ac,aJ,ga5,gk5];have q:=s5.vF (c':={ c with code:=1 }) (p14.keep nj.nx nj.lo λd _ hd _=>nj.get d hd) (p24.keep nj.nx nj.lo λd _ hd _=>nj.get d hd) s4.c.tQ;unfold cE at q;exact cZ hm _ q.1 ((f4.trans (FK.le nj)).trans q.2)
  refine jS D.has c.t c.r h4 vh _ sh4.1 YYZ YYZ ?_;intro h5 nj;have n5:=nj.nx;have l5:=nj.lo;have ga5:=(nj.get _ Yg.1).trans ZY;have gA5:=(nj.get _ lt4).trans gA4;by_cases hh:aY D.has c.t c.r=0
  .simp(disch:=try exact Y)only[Wz,bf hh];exact OE h5 nj
  .simp(disch:=try exact Y)only[Wz,aZ hh,aJ,ga5,gA5];refine Nr D.has c.t c.r h5 vh _ (sh4.1.le nj) YYZ YYZ ?_;intro h6 vW;have n6:=vW.nx;have l6:=vW.lo;have Jz:=nj.trans vW;have ga6:=(Jz.get _ Yg.1).trans ZY;have gA6:=(Jz.get _ lt4).trans gA4;cases hb:Bi D.has c.t c.r with
   |true=>
    simp(disch:=try exact Y)only[Wz];exact OE h6 Jz
   |false=>
    simp(disch:=try exact Y)only[Wz,aJ,ga6,gA6];refine Nr (bU D.asked c.t c.r) c.t c.r h6 _ _ (sa4.1.le Jz) (by have:(bU D.asked c.t c.r).length<=D.asked.length:=List.length_filter_le _ _;omega) YYZ ?_;intro h7 le7;have UD:=Jz.trans le7;have ga7:=(UD.get _ Yg.1).trans ZY;have gA7:=(UD.get _ lt4).trans gA4;cases hb2:Bi (bU D.asked c.t c.r) c.t c.r with
    |true=>
     simp(disch:=try exact Y)only[Wz];exact OE h7 UD
    |false=>
     simp(disch:=try exact Y)only[Wz,Gx,aJ,ga7,gA7];refine rA (s4.le UD) hN (vI D c.t c.r) (PI ok) o _ ?_;intro h8 s8 f8;exact hkB hm hh h8 s8 ((f4.trans (FK.le UD)).trans f8)
theorem JB(s:AW h E G N 0 y out D kb c)(l1:D.has.length<=1000)(code:Int)(V:KQ)(hk:∀h',AW h' E G N 0 y out { D with has:=bU D.has c.t c.r } kb { c with code:=1 }->FK E.a h h'->V (.tuple ⟨[]⟩) h'):aq prog 127 [pt E.z.ab,YYX code] h V:=by
 have hlo:=s.lo;obtain⟨va,vh,ga,sa,sh⟩:=s.ag;obtain⟨vn,vg,gk,p1,p2⟩:=s.c.g;have hlt:=s.c.lt;have ot:=s.g.yz;unfold cE at gk;apply YYW;rw[abg];simp(disch:=try exact Y)only[Wz,aJ,ga,gk];refine Ez D.has c.t c.r h vh _ sh.1 YYZ hlo ?_;intro v' h3 JQ cL;have s3:=s.le cL;obtain⟨x',c',rfl⟩:=JQ.cell;have PF:=(cL.get _ ot.1).trans ga;have E2:=(cL.get _ hlt.1).trans gk;have hkb:E.z.ab≠kb:=cr PF E2 YYQ;have lo3:=cL.lo;have n3:=cL.nx;have q3:=s3.Lw (D':={ D with has:=bU D.has c.t c.r }) (sa.le cL) JQ rfl;simp(disch:=try exact Y)only[Wz,aJ,PF,E2];have q:=q3.1.vF (c':={ c with code:=1 }) (upE (p1.le cL) PF YYQ _) (upX (p2.le cL) PF YYQ _) s.c.tQ;unfold cE at q;exact hk _ q.1 (((FK.le cL).trans q3.2).trans q.2)
end
structure QR where
 x:Int
 asked:List L4
 has:List L4
 aL:List L4
 t:Int
 r:Int
 N0:Nat
abbrev QR.D(q:QR):AD:=⟨q.x,q.asked,q.has,q.aL⟩
structure Vg(E:EN)(Z:af->Prop)(q:QR)(n:Nat)(h:af):Prop where
 ex:∃(N kb:Nat)(G:GT)(out:Int)(c:CD),AW h E G N n (vI q.D q.t q.r) out q.D kb c/\c.ask=vI q.D q.t q.r/\c.Qb=127/\c.code=0/\(c.k=2/\c.tQ=Jx)/\c.t=q.t/\c.r=q.r/\N<=q.N0+1/\Z h/\
  (n≠1->mY q.x (yE E) q.has q.aL G)/\(n=1->mY q.x (yE E) (bU q.has q.t q.r) q.aL G)
 n3:n=3\/n=2\/n=1
def PRl(E:EN)(Z:af->Prop)(q:QR)(h:af):Prop:=∃G N,AI h E G N ⟨q.x,q.asked,bU q.has q.t q.r,q.aL⟩/\mY q.x (yE E) (bU q.has q.t q.r) q.aL G/\N<=q.N0+1/\Z h
section
variable {E:EN}{Z:af->Prop}(hZ:∀{h h':af},Z h->FK E.a h h'->Z h'){q:QR}(hx:1<=q.x)(E3:q.N0<=430)(lh:q.has.length<=1000)
include hZ hx E3
theorem aeV(hm:aY q.has q.t q.r≠0)(n:Nat)(h:af)(V:KQ)(s:Vg E Z q (n+1) h)(hn:n≠0)(hk:∀h',Vg E Z q n h'->V (.tuple ⟨[.bool false,YYX 0,YYX 0]⟩) h'):aq prog 68 [pt E.z.ab] h V:=by
 obtain⟨⟨N,kb,G,out,c,s,c2,c3,c4,cK,c5,c6,hN,z,hA,_⟩,n3⟩:=s;have A:=hA YYZ;have tX:=s.th;have EH:c.ask.k≠0:=by rw[c2];show(2:Int)≠0;decide
 have hxy:q.x≠yE E:=by show q.x≠-1-E.z.th;omega
 refine vK s YYZ EH (Vg E Z q n) ?_ V hk;intro κ1 cZ;have n2:n=2\/n=1:=by omega
 rcases n2 with rfl|rfl
 .refine r7 s.w κ1 λh' w' k'=>cZ h' ⟨⟨N,kb,G,out,c,s.wk w' k',c2,c3,c4,cK,c5,c6,hN,hZ z k'.fk,λ_=>A,λe=>by omega⟩,.inr (.inl rfl)⟩
 ·have D:=s.w.E1 q.t q.r;have gq:=A.get D;refine rz s.w YYZ (y:=yE E) (by show -1-E.z.th<0;omega) (λe=>absurd e (by show ¬(2:Int)=1;decide)) (λe=>absurd e (by show ¬(2:Int)=1;decide)) (λe=>absurd e (by show ¬(2:Int)=3;decide)) κ1 ?_;intro h' G' o w' r' ho k';have r':G'=dR G q.t q.r (qe (G q.t q.r) q.x):=by
   unfold lQ at r';rw[if_neg (show ¬(vI q.D q.t q.r).k=1 by show ¬(2:Int)=1;decide),if_neg (show ¬(vI q.D q.t q.r).k=3 by show ¬(2:Int)=3;decide)]at r';have r':if dm (G q.t q.r) q.x=0 then o=6/\G'=G else o=1/\G'=dR G q.t q.r (qe (G q.t q.r) q.x):=r'
   rw[gq,if_neg hm]at r';exact r'.2
  refine cZ h' ⟨⟨N,kb,G',o,c,s.wk w' k',c2,c3,c4,cK,c5,c6,hN,hZ z k'.fk,λe=>absurd rfl e,λ_=>?_⟩,.inr (.inr rfl)⟩;rw[r'];exact A.drop hxy
omit hx E3 in
theorem ajQ(lh:q.has.length<=1000)(h:af)(V:KQ)(s:Vg E Z q 1 h)(hk:∀h',PRl E Z q h'->V (.tuple ⟨[.bool true,YYX 1,YYX 0]⟩) h'):aq prog 68 [pt E.z.ab] h V:=by
 obtain⟨⟨N,kb,G,out,c,s,c2,c3,c4,cK,c5,c6,hN,z,_,hA⟩,n3⟩:=s;have A:=hA rfl;have EH:c.ask.k≠0:=by rw[c2];show(2:Int)≠0;decide
 refine vL s EH V ?_;intro h1 s1 f1;rw[c3];refine JB s1 lh out _ ?_;intro h2 s2 f2;refine⟨G,N,0,_,_,_,_,s2,f2,λe=>absurd (show(1:Int)=0 from e) YYQ,λ_=>⟨rfl,λh3 a3 f3=>?_⟩⟩;refine hk h3 ⟨G,N,?_,A,hN,hZ (hZ (hZ z f1) f2) f3⟩;rw[<-c5,<-c6];exact a3
omit hZ hx E3 in
theorem aeW(n:Nat)(h:af)(V:KQ)(s:Vg E Z q n h)(hk:∀d:Int,(d=0\/d=1)->(n=1->d=1)->V (YYX d) h):aq prog 83 [pt E.z.ab] h V:=by
 obtain⟨⟨N,kb,G,out,c,s,c2,c3,c4,cK,_⟩,n3⟩:=s;refine qg s V (λe=>absurd c4 e) (λ_ e=>by have:=e.1;omega) (λ_ _ e=>hk 0 (.inl rfl) λhn=>?_) λ_ _ hn ho=>?_
 .subst hn;rw[if_pos rfl]at e;exact absurd e s.w.onz
 .rw[cK.2];simp(disch:=try exact Y)only[Wz,List.nil_append,List.cons_append];refine Jr out ?_;rw[if_neg ho];exact hk 1 (.inr rfl) λ_=>rfl
end
structure Vh(E:EN)(Post:af->Prop)(code:Int)(h:af):Prop where
 ex:∃(kb:Nat)(y:fE)(out:Int)(c:CD)(G:GT)(N:Nat)(D:AD),AW h E G N 0 y out D kb c/\c.ask.k=0/\c.code=code/\∀h',AI h' E G N D->Post h'
theorem Yh{E:EN}{Post:af->Prop}{code:Int}{h:af}(s:Vh E Post code h)(V:KQ)(hk:∀h',Post h'->FK E.a h h'->V (.tuple ⟨[.bool true,YYX code,YYX 0]⟩) h'):aq prog 68 [pt E.z.ab] h V:=by
 obtain⟨kb,y,out,c,G,N,D,s,h0,rfl,hp⟩:=s;exact Um s h0 V λh' a f=>hk h' (hp h' a) f
theorem aeX{E:EN}{Post:af->Prop}{code:Int}{h:af}(s:Vh E Post code h)(hc:code≠0)(V:KQ)(hk:V (YYX code) h):aq prog 83 [pt E.z.ab] h V:=by
 obtain⟨kb,y,out,c,G,N,D,s,h0,rfl,hp⟩:=s;exact qg s V (λ_=>hk) (λe=>absurd e hc) (λe=>absurd e hc) (λe=>absurd e hc)
theorem aeY(t r:Int)(lv:bx t r≠-1):(lN t r++[(t,r)]).Nodup:=by
 unfold lN;by_cases h1:bx t r=1
 ·rw[if_pos h1];have:¬(t = -1/\r = -1):=by
   rintro⟨rfl,rfl⟩;revert h1;decide
  simp only[List.singleton_append,List.nodup_cons,List.mem_singleton,Prod.mk.injEq,List.not_mem_nil,not_false_eq_true,List.nodup_nil,and_true];omega
 .rw[if_neg h1];by_cases h2:bx t r=2
  ·rw[if_pos h2];have h3:t≠-1/\r≠-1:=by
    unfold bx E0 at h2;split at h2
    .omega
    .split at h2
     .omega
     .split at h2
      .rename_i h3;simp at h3;omega
      .omega
   simp only[List.cons_append,List.nil_append,List.nodup_cons,List.mem_cons,List.mem_singleton,Prod.mk.injEq,List.not_mem_nil,not_false_eq_true,List.nodup_nil,and_true,or_false];omega
  .rw[if_neg h2];simp
theorem LI(f:Int->Int->Int)(t r m:Int):((dW f t r m).map λp=>(p.1,p.2.1)).Sublist (lN t r++[(t,r)]):=by
 unfold dW;split
 .exact List.nil_sublist _
 .rw[List.map_append];refine List.Sublist.append ?_ (List.Sublist.refl _);unfold Ln;rw[List.map_map];have:((λp:N3=>(p.1,p.2.1)) ∘ λa:N2=>(a.1,a.2,bM (f a.1 a.2) (mV m)))=id:=rfl;rw[this,List.map_id];exact List.filter_sublist
section
variable {M:List (Int × Int)}{has aL:List L4}{t r m:Int}
theorem ND(oh:kK M has)(hm:kn m=true)(h0:m≠0):dU has (dW (aY has) t r m)=dW (aY has) t r m:=by
 obtain⟨pk,p0⟩:=Nz hm h0;unfold dU;rw[List.filter_eq_self];intro p hp;rw[Bool.not_eq_true'];unfold dW at hp;split at hp
 .cases hp
 .rename_i himp;rcases List.mem_append.1 hp with hp|hp
  .unfold Ln at hp;obtain⟨a,ha,rfl⟩:=List.mem_map.1 hp;have hc:=(List.mem_filter.1 ha).2;rw[Bool.not_eq_true']at hc;unfold dG;cases hq:kG (aY has a.1 a.2) (bM (aY has a.1 a.2) (mV m))with
   |false=>rw[Bool.and_false]
   |true=>rw[(DL (oh.LC _ _) pk).1 hq]at hc;cases hc
  .rw[List.mem_singleton]at hp;subst hp;have himp:Jh (aY has) t r m=false:=by simpa using himp
   unfold Jh at himp;simp only[Bool.or_eq_false_iff]at himp;unfold dG;cases hq:kG (aY has t r) (bM (aY has t r) m)with
   |false=>rw[Bool.and_false]
   |true=>rw[(DL (oh.LC _ _) hm).1 hq]at himp;cases himp.1.2
theorem aeZ{most:Int}{asked:List L4}{x m0:Int}{N:Nat}(oh:kK M has)(op:kK M aL)(pl:(aL.length:Int)<=most)(lv:bx t r≠-1)(hm:kn m=true)(h0:m≠0)(hin:(t,r)∈M)(LJ:∀a∈lN t r,a∈M):JA ⟨x,M,dW (aY has) t r m,1+3*(dW (aY has) t r m).length+3*aL.length,most,asked,t,r,m0,N,has.length+(dW (aY has) t r m).length+aL.length⟩ 1 has aL (dW (aY has) t r m):=by
 obtain⟨k1,k2,k3⟩:=Bo (f:=aY has) oh.LC lv hm h0;have nn:((dW (aY has) t r m).map λp=>(p.1,p.2.1)).Nodup:=(aeY t r lv).sublist (LI _ _ _ _);refine⟨Nat.le_refl _,Nat.le_refl _,by show 1+3*_+3*_<=1+3*_+3*_;omega,oh,op,pl,k1,λp hp=>?_,nn,ND oh hm h0,λp hp=>.inl hp,λp hp=>hp,nn,Nat.le_refl _⟩;rcases k3 p hp with e|e
 .rw[e];exact hin
 .exact LJ _ e
end
section
variable {ax:Int}{E:EN}{h:af}{x:Int}{N:Nat}{asked has aL:List L4}{t r m:Int}{G:GT}{M:List (Int × Int)}
theorem PT(s:AI h E G N ⟨x,asked,has,aL⟩)(A:mY x (yE E) has aL G)(hx:1<=x)(hN:N<=380)(hM:M.length<=25)(oh:kK M has)(op:kK M aL)(pl:(aL.length:Int)<=E.z.most)(eG:E.z.most<=8)(la:asked.length<=1000)(hm:kn m=true)(h0:m≠0)(lv:bx t r≠-1)(hin:(t,r)∈M)(LJ:∀a∈lN t r,a∈M)(ka:kn (aY asked t r)=true)(w:Int)(hw:0<=w)(V:KQ)(hκ0:dW (aY has) t r (bM (aY asked t r) m)=[]->∀h',Vh E (λh'=>AI h' E G N ⟨x,de asked ⟨x,t,r,bM (aY asked t r) m⟩,has,aL⟩) 1 h'->FK E.a h h'->V (YYX 0) h')(hκ1:dW (aY has) t r (bM (aY asked t r) m)≠[]->∀h',vQ E (λ_=>True) ⟨x,M,dW (aY has) t r (bM (aY asked t r) m),1+3*(dW (aY has) t r (bM (aY asked t r) m)).length+3*aL.length,E.z.most,asked,t,r,m,N,has.length+(dW (aY has) t r (bM (aY asked t r) m)).length+aL.length⟩ 1 3 0 h'->FK E.a h h'->V (YYX 0) h'):aq prog 101 [pt E.z.ab,.agg ⟨[YYX 1,YYX ax,YYX t,YYX r,YYX m,YYX 0]⟩,YYX w] h V:=by
 have eJ:iV E.z ⟨x,asked,has,aL⟩ 1 t r m w ax=⟨1,t,r,m,w,nr,0,121,.func (.func 122) ⟨[pt E.z.ab]⟩ ⟨[]⟩,false,0,dW (aY has) t r (bM (aY asked t r) m),[],ax⟩:=by unfold iV;rw[if_pos rfl]
 obtain⟨q0,q1,_⟩:=jR ka hm h0;obtain⟨pk1,pk2,_⟩:=Bo (f:=aY has) oh.LC lv q1 q0;have lh:=oh.len;have lp:=op.len;have tX:=s.th;have hmay:Jp 1 t r m w=true:=by
  unfold Jp;rw[if_pos rfl,hm];simp[h0,lv,hw]
 have J:=aeZ (x:=x) (asked:=asked) (m0:=m) (N:=N) (most:=E.z.most) oh op pl lv q1 q0 hin LJ;have nc:=ND (t:=t) (r:=r) oh q1 q0;refine EJ s (by show x≠0;omega) (by show has.length<=1000;omega) la 1 t r m w ax hmay _ ?_;intro h1 kb s1 f1;rw[eJ]at s1
 show aq prog 126 [pt E.z.ab] h1 _
 by_cases hP:dW (aY has) t r (bM (aY asked t r) m)=[]
 .refine Nx s1 YYZ (by show aL.length<=1000;omega) (by show x≠-1-E.z.th;omega) (by show has.length<=1000;omega) la (by show(dW _ _ _ _).length<=100;omega) hw hm pk1 oh.LC 0 _ ?_ ?_ ?_
  .intro hL h2 s2 f2;exact hκ0 hP h2 ⟨kb,_,_,_,G,N,_,s2,rfl,rfl,λh3 a3=>a3⟩ (f1.trans f2)
  .intro p P hL;have hL:dU has (dW (aY has) t r (bM (aY asked t r) m))=p::P:=hL;rw[hP]at hL;cases hL
  .intro p P hL;have hL:dU has (dW (aY has) t r (bM (aY asked t r) m))=p::P:=hL;rw[hP]at hL;cases hL
 .have hB:1+3*(dW (aY has) t r (bM (aY asked t r) m)).length+3*aL.length<=110:=by omega
  refine NA (Z:=λ_=>True) (i:=1) (λz f=>trivial) (q:=⟨x,M,dW (aY has) t r (bM (aY asked t r) m),1+3*(dW (aY has) t r (bM (aY asked t r) m)).length+3*aL.length,E.z.most,asked,t,r,m,N,has.length+(dW (aY has) t r (bM (aY asked t r) m)).length+aL.length⟩) hx hB hM la hm (by show N<=400;omega) s1 trivial A rfl rfl rfl rfl rfl rfl hw rfl rfl (by show(dW _ _ _ _).length<=100;omega) pk1 (by rw[nc];exact J) (by show 3*N+1<=3*N+1;omega) 1 YYZ ?_ _ ?_ ?_
  .intro hL;rw[nc]at hL;exact absurd hL hP
  .intro _ h' G' N' y' o' D' c' _ _ f' S';exact hκ1 hP h' S' (f1.trans f')
  .intro hL;rw[nc]at hL;exact absurd hL hP
theorem PU(s:AI h E G N ⟨x,asked,has,aL⟩)(A:mY x (yE E) has aL G)(hx:1<=x)(hN:N<=380)(lh:has.length<=1000)(la:asked.length<=1000)(lv:bx t r≠-1)(V:KQ)(hκ6:∀h',Vh E (λh'=>AI h' E G N ⟨x,asked,has,aL⟩) 6 h'->FK E.a h h'->V (YYX 0) h')(hκ1:∀h',Vh E (λh'=>AI h' E G N ⟨x,bU asked t r,has,aL⟩) 1 h'->FK E.a h h'->V (YYX 0) h')(hκB:aY has t r≠0->∀h',Vg E (λ_=>True) ⟨x,bU asked t r,has,aL,t,r,N⟩ 3 h'->FK E.a h h'->V (YYX 0) h'):aq prog 101 [pt E.z.ab,.agg ⟨[YYX 2,YYX ax,YYX t,YYX r,YYX 0,YYX 0]⟩,YYX 0] h V:=by
 have eJ:iV E.z ⟨x,asked,has,aL⟩ 2 t r 0 0 ax=⟨2,t,r,0,0,nr,0,127,Jx,false,0,[],[],ax⟩:=by unfold iV;rw[if_neg YYQ,if_pos rfl]
 have hmay:Jp 2 t r 0 0=true:=by
  unfold Jp;rw[if_neg YYQ];simp[lv]
 refine EJ s (by show x≠0;omega) lh la 2 t r 0 0 ax hmay _ ?_;intro h1 kb s1 f1;rw[eJ]at s1
 show aq prog 129 [pt E.z.ab] h1 _
 refine LH s1 YYZ lh la lv 0 _ ?_ ?_ ?_
 .intro _ h2 s2 f2;exact hκ6 h2 ⟨kb,_,_,_,G,N,_,s2,rfl,rfl,λh3 a3=>a3⟩ (f1.trans f2)
 .intro _ h2 s2 f2;exact hκ1 h2 ⟨kb,_,_,_,G,N,_,s2,rfl,rfl,λh3 a3=>a3⟩ (f1.trans f2)
 .intro _ hm h2 s2 f2;exact hκB hm h2 ⟨⟨N+1,kb,G,0,_,s2,rfl,rfl,rfl,⟨rfl,rfl⟩,rfl,rfl,Nat.le_refl _,trivial,λ_=>A,λe=>by omega⟩,.inl rfl⟩ (f1.trans f2)
theorem PV(s:AI h E G N ⟨x,asked,has,aL⟩)(A:mY x (yE E) has aL G)(hx:1<=x)(hN:N<=380)(hM:M.length<=25)(oh:kK M has)(op:kK M aL)(Qe:has.length+aL.length<=19)(eG:0<=E.z.most/\E.z.most<=8)(la:asked.length<=1000)(V:KQ)(hκ1:∀h',Vh E (Z0 E (λ_=>True) ⟨x,M,asked,N,has.length+aL.length⟩ 1 1) 1 h'->FK E.a h h'->V (YYX 0) h')(hκB:∀h',(JS E (λ_=>True) ⟨x,M,asked,N,has.length+aL.length⟩ 1 3 h'\/E5 E (λ_=>True) ⟨x,M,asked,N,has.length+aL.length⟩ 1 3 h')->FK E.a h h'->V (YYX 0) h'):aq prog 101 [pt E.z.ab,.agg ⟨[YYX 3,YYX ax,YYX 0,YYX 0,YYX 0,YYX 0]⟩,YYX 0] h V:=by
 have eJ:iV E.z ⟨x,asked,has,aL⟩ 3 0 0 0 0 ax=⟨3,0,0,0,0,nr,0,130,Jx,false,0,[],[],ax⟩:=by unfold iV;rw[if_neg YYQ,if_neg YYQ]
 have lh:=oh.len;refine EJ s (by show x≠0;omega) (by show has.length<=1000;omega) la 3 0 0 0 0 ax (by unfold Jp;rw[if_neg YYQ];simp) _ ?_;intro h1 kb s1 f1;rw[eJ]at s1
 show aq prog 131 [pt E.z.ab] h1 _
 refine Jy (Z:=λ_=>True) (λz f=>trivial) (q:=⟨x,M,asked,N,has.length+aL.length⟩) hx hM Qe (by show N<=400;omega) eG (i:=1) YYZ s1 trivial A oh op rfl rfl ⟨rfl,rfl⟩ (by show 3*N+1<=3*N+1;omega) (by show 1+3*(has.length+aL.length)<=1+3*(has.length+aL.length);omega) 1 YYZ _ ?_ ?_
 .intro h' G' N' y' o' D' c' _ _ f' S';exact hκB h' S' (f1.trans f')
 .intro h' G' N' y' o' D' c' s' e' e2' f' P';exact hκ1 h' ⟨kb,_,_,c',G',N',D',s',by rw[e2'];rfl,e',λh4 a4=>P' h4 a4 trivial⟩ (f1.trans f')
end
def MTy(t:TypeId):Prop:=t=69\/t=75\/t=59
structure IC(a:TA)(h h':af):Prop where
 nx:h.nx<=h'.nx
 lo:h'.lo=h.lo
 ty:∀c,c<h.nx->(∀vs,h.bl.get c≠some (ah vs 3 true))->(∀vs t o,MTy t->h.bl.get c≠some (ah vs t o))->h'.bl.get c=h.bl.get c
 fb:∀c,c<h.nx->FB h a.bp c->h'.bl.get c=h.bl.get c
theorem IC.of_le{a:TA}{h h':af}(l:Le h h'):IC a h h':=⟨l.nx,l.lo,λc hc _ _=>l.get c hc,λc hc _=>l.get c hc⟩
theorem MTy.nt{t:TypeId}{o:Bool}(h:MTy t):¬mT t o/\¬kI t o/\¬T7 t:=by
 rcases h with rfl|rfl|rfl<;>refine⟨?_,?_,?_⟩<;>(first|unfold mT|unfold kI|unfold T7 EC)<;>cases o<;>decide
theorem IC.kt{a:TA}{h h':af}(k:IC a h h'):KT (λt=>t≠3/\¬MTy t) h h':=⟨k.nx,k.lo,λd vs t o hd hg ht=>k.ty d hd (λvs' e=>by rw[hg]at e;exact bG ht.1 e) λvs' t' o' hm e=>by
 rw[hg]at e;obtain⟨rfl,rfl⟩:=cW e;exact ht.2 hm⟩
theorem T7.ni{t:TypeId}(ht:T7 t):t≠3/\¬MTy t:=by
 refine⟨?_,λh=>(h.nt (o:=true)).2.2 ht⟩;rcases ht with h|rfl|rfl
 .exact h.ni
 .decide
 .decide
theorem WS.beside{h h':af}{A:WA}{a:TA}{N:Nat}{d:TD}{R:RD}(s:WS h A a N d R)(k:IC a h h'):WS h' A a N d R:=by
 have gw:=s.t.is.pG;have gm:=s.r.gm;have hlo:=s.lo;have hn:=k.nx;have hl:=k.lo;have tyM:∀c,c<h.nx->∀es cl,h.bl.get c=some (.map es cl)->h'.bl.get c=h.bl.get c:=λc hc es cl hg=>k.ty c hc (λvs e=>by rw[hg]at e;exact bX e) λvs t o _ e=>by rw[hg]at e;exact bX e
 refine⟨s.t.only hn hl (λc vs ty op hc ht hf hg=>?_) (tyM _ s.t.is.CU _ _ gw) (λb hb=>tyM _ (s.t.is.bk b hb).iN _ _ (s.t.is.bk b hb).gW),s.r.keep hn hl (λc vs ty op hc hr hg=>k.ty c hc (λvs' e=>?_) λvs' t' o' hm e=>?_) (tyM _ s.r.iN.1 _ _ gm),s.mw,s.mm,s.mi,YYZ⟩
 .by_cases e:ty=3
  .exact k.fb c hc (hf e)
  ·exact k.ty c hc (λvs' e'=>by rw[hg]at e';exact bG e e') λvs' t' o' hm e'=>by
    rw[hg]at e';obtain⟨rfl,rfl⟩:=cW e';exact hm.nt.1 ht
 .rw[hg]at e;obtain⟨rfl,rfl⟩:=cW e;revert hr;unfold kI;decide
 .rw[hg]at e;obtain⟨rfl,rfl⟩:=cW e;exact hm.nt.2.1 hr
structure BP(a:TA)(h:af):Prop where
 pb:PB a h
 lt:a.bp<h.nx
 fb:∀c,FB h a.bp c->c<h.nx/\∃vs,h.bl.get c=some (ah vs 3 true)
theorem WJ.bps{h:af}{A:WA}{a:TA}{G:GT}{N n:Nat}{x:fE}{out:Int}(s:WJ h A a G N n x out):BP a h:=by
 refine⟨s.pb,?_,λc hf=>?_⟩
 .obtain⟨⟨d,R,N0,s1,_⟩,_,_⟩:=s;obtain⟨_,_,h1,_⟩:=s1.bp;exact h1
 .obtain⟨⟨d,R,N0,s1,_⟩,_,_⟩:=s;obtain⟨n,cap,ls,hg⟩:=hf;obtain⟨fs,hg',hp⟩:=s1.t.is.aL.fr.cell;rw[hg]at hg';have:=Lg hg';rcases hp with⟨_,e⟩|⟨b,G,e,h1,_,h3,_⟩
  .rw[e]at this;cases this
  .rw[e]at this;cases this;exact⟨h1,_,h3⟩
theorem IC.refl(a:TA)(h:af):IC a h h:=IC.of_le (Le.refl h)
theorem IC.UE{a:TA}{h:af}{x:Nat}{v:List Value}{t:TypeId}{o:Bool}(p:BP a h)(hg:h.bl.get x=some (ah v t o))(ht:MTy t)(ob:bO):IC a h ⟨h.nx,h.bl.bt x ob,h.lo⟩:=by
 refine⟨Nat.le_refl _,rfl,λc _ _ hm=>T.aD _ _ λe=>?_,λc _ hf=>T.aD _ _ λe=>?_⟩
 .subst e;exact hm _ _ _ ht hg
 .subst e;obtain⟨_,vs,e⟩:=p.fb _ hf;rw[hg]at e;obtain⟨rfl,_⟩:=cW e;rcases ht with h|h|h<;>exact absurd h YYQ
theorem IC.ajT{a:TA}{h:af}{x:Nat}{v:List Value}(hg:h.bl.get x=some (ah v 3 true))(hf:¬FB h a.bp x)(ob:bO):IC a h ⟨h.nx,h.bl.bt x ob,h.lo⟩:=
 ⟨Nat.le_refl _,rfl,λc _ hi _=>T.aD _ _ λe=>by subst e;exact hi _ hg,λc _ hf'=>T.aD _ _ λe=>by subst e;exact hf hf'⟩
theorem BP.ic{a:TA}{h h':af}(p:BP a h)(k:IC a h h'):BP a h'/\h'.bl.get a.bp=h.bl.get a.bp:=by
 obtain⟨vs,hg⟩:=p.pb;have e:h'.bl.get a.bp=h.bl.get a.bp:=k.ty _ p.lt (λvs' e=>by rw[hg]at e;exact bG YYQ e) λvs' t o hm e=>by
  rw[hg]at e;obtain⟨rfl,rfl⟩:=cW e;rcases hm with h|h|h<;>exact absurd h YYQ
 refine⟨⟨⟨vs,e.trans hg⟩,Nat.lt_of_lt_of_le p.lt k.nx,λc hf=>?_⟩,e⟩;have hf:=(FB.congr e).1 hf;obtain⟨h1,vs',h2⟩:=p.fb c hf;exact⟨Nat.lt_of_lt_of_le h1 k.nx,vs',(k.fb c h1 hf).trans h2⟩
theorem IC.trans{a:TA}{h h1 h2:af}(p:BP a h)(x:IC a h h1)(y:IC a h1 h2):IC a h h2:=by
 obtain⟨_,e⟩:=p.ic x;refine⟨Nat.le_trans x.nx y.nx,y.lo.trans x.lo,λc hc hi hm=>?_,λc hc hf=>?_⟩
 .have e:=x.ty c hc hi hm;exact(y.ty c (Nat.lt_of_lt_of_le hc x.nx) (λvs=>by rw[e];exact hi vs) λvs t o ht=>by rw[e];exact hm vs t o ht).trans e
 .have e2:=x.fb c hc hf;exact(y.fb c (Nat.lt_of_lt_of_le hc x.nx) ((FB.congr e).2 hf)).trans e2
section
variable {h h':af}{E:EN}{G:GT}{N n:Nat}{y:fE}{out:Int}{D:AD}{kb:Nat}{c:CD}
theorem WJ.ints{A:WA}{a:TA}{x:fE}(s:WJ h A a G N n x out)(k:IC a h h'):WJ h' A a G N n x out:=by
 obtain⟨⟨d,R,N0,s1,s2⟩,s3,s4⟩:=s;exact⟨⟨d,R,N0,s1.beside k,s2⟩,s3,s4⟩
theorem AW.ints(s:AW h E G N n y out D kb c)(k:IC E.a h h'):AW h' E G N n y out D kb c:=
 ⟨s.w.ints k,s.g.kt (k.kt.mono λt ht=>ht.a.ni),s.c.ka (k.kt.mono λt ht=>T7.ni ht),s.wb,s.th⟩
theorem AI.ints(s:AI h E G N D)(k:IC E.a h h'):AI h' E G N D:=
 ⟨λy out=>(s.w y out).ints k,s.g.kt (k.kt.mono λt ht=>ht.a.ni),s.wb,s.th⟩
end
section
variable {h h':af}{E:EN}{Z Z':af->Prop}
theorem vQ.to{q:QA}{i n:Nat}{d:Int}(s:vQ E Z q i n d h)(k:IC E.a h h')(z:Z' h'):vQ E Z' q i n d h':=by
 obtain⟨⟨b,i0,has,aL,p,P,N,kb,G,out,c,e1,J,s,c1,c2,c3,c4,c5,c6,c7,c8,ck,E4,hN,_,r⟩,n3⟩:=s;exact⟨⟨b,i0,has,aL,p,P,N,kb,G,out,c,e1,J,s.ints k,c1,c2,c3,c4,c5,c6,c7,c8,ck,E4,hN,z,r⟩,n3⟩
theorem JS.to{q:QG}{i n:Nat}(s:JS E Z q i n h)(k:IC E.a h h')(z:Z' h'):JS E Z' q i n h':=by
 obtain⟨⟨i0,g,has,aL,N,kb,G,out,c,e1,hi1,yl,s,c2,hg,oh,op,c3,c4,cK,hN,_,r⟩,n3⟩:=s;exact⟨⟨i0,g,has,aL,N,kb,G,out,c,e1,hi1,yl,s.ints k,c2,hg,oh,op,c3,c4,cK,hN,z,r⟩,n3⟩
theorem E5.to{q:QG}{i n:Nat}(s:E5 E Z q i n h)(k:IC E.a h h')(z:Z' h'):E5 E Z' q i n h':=by
 obtain⟨⟨i0,g,Q,has,aL,N,kb,G,out,c,e1,hi1,yl,s,c1,hp,c2,c3,c4,cK,hN,_,r⟩,n3⟩:=s;exact⟨⟨i0,g,Q,has,aL,N,kb,G,out,c,e1,hi1,yl,s.ints k,c1,hp,c2,c3,c4,cK,hN,z,r⟩,n3⟩
theorem Vg.to{q:QR}{n:Nat}(s:Vg E Z q n h)(k:IC E.a h h')(z:Z' h'):Vg E Z' q n h':=by
 obtain⟨⟨N,kb,G,out,c,s,c2,c3,c4,cK,c5,c6,hN,_,r⟩,n3⟩:=s;exact⟨⟨N,kb,G,out,c,s.ints k,c2,c3,c4,cK,c5,c6,hN,z,r⟩,n3⟩
theorem Vh.to{Post:af->Prop}{code:Int}(s:Vh E Post code h)(k:IC E.a h h'):Vh E Post code h':=by
 obtain⟨kb,y,out,c,G,N,D,s,r⟩:=s;exact⟨kb,y,out,c,G,N,D,s.ints k,r⟩
end
structure vZ(a:TA)(h:af)(v:Value)(L:List Int)(o:Option Nat):Prop where
 e:(L=[]/\v=.slice none 0 0/\o=none)\/∃b,o=some b/\v=YYU b L.length aX/\b<h.nx/\h.lo<=b/\h.bl.get b=some (ah (L.flatMap cQ) 3 true)
 f:∀b,o=some b->¬FB h a.bp b
theorem vZ.sl{a:TA}{h:af}{v:Value}{L:List Int}{o:Option Nat}(s:vZ a h v L o):Sl cQ h v L:=by
 rcases s.e with⟨rfl,rfl,_⟩|⟨b,_,rfl,h1,_,h3⟩
 .exact Sl.nil _ _ _
 .exact Sl.new h1 h3 _
theorem vZ.fk{a:TA}{h h':af}{v:Value}{L:List Int}{o:Option Nat}(s:vZ a h v L o)(k:FK a h h')(hb:a.bp<h.nx):vZ a h' v L o:=by
 have n:=k.nx;have l:=k.lo;rcases s.e with⟨h1,h2,h3⟩|⟨b,h1,h2,h3,h4,h5⟩
 .exact⟨.inl ⟨h1,h2,h3⟩,λb hb=>by rw[h3]at hb;cases hb⟩
 .refine⟨.inr ⟨b,h1,h2,YYZ,YYZ,(k.oi hb b _ h3 h5 (s.f b h1)).trans h5⟩,λc hc hf=>?_⟩;rw[h1]at hc;cases hc;exact s.f b h1 (k.mv hb b h3 hf)
theorem vZ.keep{a:TA}{h h':af}{v:Value}{L:List Int}{o:Option Nat}(s:vZ a h v L o)(hn:h.nx<=h'.nx)(hl:h'.lo=h.lo)(hg:∀b,o=some b->h'.bl.get b=h.bl.get b)(hp:h'.bl.get a.bp=h.bl.get a.bp):vZ a h' v L o:=by
 rcases s.e with⟨h1,h2,h3⟩|⟨b,h1,h2,h3,h4,h5⟩
 .exact⟨.inl ⟨h1,h2,h3⟩,λb hb=>by rw[h3]at hb;cases hb⟩
 .refine⟨.inr ⟨b,h1,h2,YYZ,YYZ,(hg b h1).trans h5⟩,λc hc hf=>?_⟩;rw[h1]at hc;cases hc;exact s.f b h1 ((FB.congr hp).1 hf)
theorem NF{a:TA}{h:af}{v x:Value}{L:List Int}{o:Option Nat}{t:Int}(s:vZ a h v L o)(pb:PB a h)(hbp:a.bp<h.nx)(hfb:∀c,FB h a.bp c->c<h.nx)(hx:Sl cQ h x [t])(hL:L.length<=10000)(hlo:h.lo<=h.nx)(V:KQ)(hk:∀v' o' h',vZ a h' v' (L++[t]) o'->IC a h h'->h'.bl.get a.bp=h.bl.get a.bp->(∀b,b<h.nx->o≠some b->h'.bl.get b=h.bl.get b)->(∃b,o'=some b/\h.nx<=b)->V v' h'):bD False 3 1 [YYX 0] false v x h V:=by
 have own:iJ cQ ⟨0,.nil,h.lo⟩ 3 h v L:=by
  rcases s.e with⟨h1,h2,_⟩|⟨b,_,h2,h3,h4,h5⟩
  .exact .inl ⟨h1,.inl h2⟩
  .exact .inr ⟨b,h2,Nat.zero_le _,h3,h4,h5⟩
 refine C5 (a:=⟨0,.nil,h.lo⟩) dA kr YYQ YYQ own hx ⟨Nat.zero_le _,rfl,λb hb=>absurd hb (Nat.not_lt_zero _)⟩ (by simp;omega) hlo V ?_;intro v' h' ho _ _ n1 l1 hf hnew;obtain⟨b',hb',hge⟩:=hnew (by simp);have same:∀b,b<h.nx->o≠some b->h'.bl.get b=h.bl.get b:=λb hb hne=>hf b hb λn c e=>by
  rcases s.e with⟨_,h2,_⟩|⟨b2,h1,h2,_⟩
  .rw[h2]at e;cases e
  .rw[h2]at e;cases e;exact hne h1
 have obp:o≠some a.bp:=λe=>by
  rcases s.e with⟨_,_,h3⟩|⟨b2,h1,_,_,_,h5⟩
  .rw[h3]at e;cases e
  .rw[h1]at e;cases e;exact pb.ne h5 YYQ rfl
 have LW:=same a.bp hbp obp;refine hk v' (some b') h' ⟨.inr ⟨b',rfl,by rw[hb'];simp,?_⟩,λc hc hfc=>?_⟩ ⟨n1,l1,λc hc hty _=>same c hc λe=>?_,λc hc hfc=>same c hc λe=>s.f c e hfc⟩ LW same ⟨b',rfl,hge⟩
 .rcases ho with⟨e,_⟩|⟨b3,e3,_,e4,e5,e6⟩
  .simp at e
  ·have e7:b'=b3:=by
    rw[hb']at e3;have:=Value.slice.inj e3;have e8:=Option.some.inj this.1;exact(Addr.mk.inj e8).1
   subst e7;exact⟨e4,e5,e6⟩
 .cases hc;have:=hfb _ ((FB.congr LW).1 hfc);omega
 .rcases s.e with⟨_,_,h3⟩|⟨b2,h1,_,_,_,h5⟩
  .rw[h3]at e;cases e
  .rw[h1]at e;cases e;exact hty _ h5
structure Idle(E:EN)(M:List (Int × Int))(x:Int)(w u:Nat)(h:af):Prop where
 ex:∃(G:GT)(N:Nat)(has aL asked:List L4),AI h E G N ⟨x,asked,has,aL⟩/\kK M aL/\(aL.length:Int)<=E.z.most/\2*N<=u/\((x=0/\has=[]/\asked=[]/\UC E M aL G)\/(1<=x/\mY x (yE E) has aL G/\kK M has/\kK M asked/\8+3*(has.length+aL.length)<=w))
structure nX(E:EN)(M:List (Int × Int))(S:Nat->Nat->Bool->af->Prop):Prop where
 pos:∀u w e h,S u w e h->1<=w
 run:∀u w e h,S u w e h->∃(G:GT)(N n:Nat)(y:fE)(out:Int)(D:AD)(kb:Nat)(c:CD),AW h E G N n y out D kb c/\(c.ask.k=0\/n≠0)
 ic:∀u w e h h',S u w e h->IC E.a h h'->S u w e h'
 dec:∀u w e h (V:KQ),S u w e h->(∀d:Int,(d=0\/d=1\/d=5\/d=6)->(e=true->d≠0)->V (YYX d) h)->aq prog 83 [pt E.z.ab] h V
 step:∀u w e h (V:KQ),S u w e h->(∀w' e' h',w'+1<=w->S (u+1) w' e' h'->FK E.a h h'->V (.tuple ⟨[.bool false,YYX 0,YYX 0]⟩) h')->
  (e=true->∀(code x':Int) w' h',w'+1<=w->Idle E M x' w' (u+1) h'->(code=1\/code=5\/code=6)->(code=5->1<=x')->FK E.a h h'->V (.tuple ⟨[.bool true,YYX code,YYX 0]⟩) h')->aq prog 68 [pt E.z.ab] h V
theorem Idle.ic{E:EN}{M:List (Int × Int)}{x:Int}{w u:Nat}{h h':af}(s:Idle E M x w u h)(k:IC E.a h h'):Idle E M x w u h':=by
 obtain⟨G,N,has,aL,asked,s,r⟩:=s;exact⟨G,N,has,aL,asked,s.ints k,r⟩
theorem Idle.up{E:EN}{M:List (Int × Int)}{x:Int}{w u w' u':Nat}{h:af}(s:Idle E M x w u h)(hw:w<=w')(hu:u<=u'):Idle E M x w' u' h:=by
 obtain⟨G,N,has,aL,asked,s,h1,h2,h3,h4⟩:=s;refine⟨G,N,has,aL,asked,s,h1,h2,YYZ,?_⟩;rcases h4 with h4|⟨h5,h6,h7,h8,h9⟩
 .exact .inl h4
 .exact .inr ⟨h5,h6,h7,h8,YYZ⟩
section
variable {E:EN}{M:List (Int × Int)}
structure QOk(E:EN)(M:List (Int × Int))(q:QA):Prop where
 eM:q.M=M
 x:1<=q.x
 B:q.B<=110
 la:kK M q.asked
 m:kn q.m=true
 m0:q.m≠0
 N0:q.N0<=380
 most:q.most=E.z.most
 lv:bx q.t q.r≠-1
 inM:(q.t,q.r)∈M
 P0:q.P0.length≠0
def SA(E:EN)(M:List (Int × Int))(u w:Nat)(e:Bool)(h:af):Prop:=∃(q:QA)(i n:Nat)(d:Int),vQ E (λ_=>True) q i n d h/\QOk E M q/\2*q.N0+i<=u/\q.B+8+3*q.H<=w+i/\e=decide (d≠0)
theorem Z1{Z:af->Prop}{q:QA}{i n:Nat}{d:Int}{h:af}(s:vQ E Z q i n d h):i+1<=q.B:=by
 obtain⟨⟨b,i0,has,aL,p,P,N,kb,G,out,c,e1,J,_⟩,n3⟩:=s;have:=J.i0;omega
theorem ajV{Z:af->Prop}{q:QA}{i n:Nat}{d:Int}{h:af}(s:vQ E Z q i n d h):d=0\/d=1\/d=5\/d=6:=by
 obtain⟨⟨b,i0,has,aL,p,P,N,kb,G,out,c,e1,J,s,c1,c2,c3,c4,c5,c6,c7,c8,ck,E4,hN,z,hb,_,hA,hd0,hd⟩,n3⟩:=s;by_cases hn:n=1
 .have hA:=hA hn;rw[hd hn];unfold Jt;cases b with
  |true=>
   rw[if_pos rfl];split
   .exact .inr (.inl rfl)
   .exact .inl rfl
  |false=>
   rw[if_neg YYQ];rw[if_neg YYQ]at hA;split
   .rcases hA with⟨h1,_⟩|⟨h1,_⟩
    .exact .inr (.inl h1)
    .exact .inr (.inr (.inl h1))
   .exact .inl rfl
 .exact .inl (hd0 hn)
theorem UG(hM:M.length<=25):nX E M (SA E M):=by
 refine⟨?_,?_,?_,?_,?_⟩
 .rintro u w e h ⟨q,i,n,d,s,o,h1,h2,_⟩;have:=Z1 s;omega
 .rintro u w e h ⟨q,i,n,d,s,o,h1,h2,_⟩;obtain⟨⟨b,i0,has,aL,p,P,N,kb,G,out,c,e1,J,s,_⟩,n3⟩:=s;exact⟨_,_,_,_,_,_,_,_,s,.inr YYZ⟩
 .rintro u w e h h' ⟨q,i,n,d,s,r⟩ k;exact⟨q,i,n,d,s.to k trivial,r⟩
 .rintro u w e h V ⟨q,i,n,d,s,o,h1,h2,rfl⟩ hk;exact Yd i n d h V s (hk d (ajV s) λe=>of_decide_eq_true e)
 .rintro u w e h V ⟨q,i,n,d,s,o,h1,h2,rfl⟩ cZ hk2;have hi:=Z1 s;have la:=o.la.len;have sz:=s.to (Z':=FK E.a h) (IC.refl _ _) (FK.le (Le.refl h));have n3:=s.n3;by_cases hn:n=1
  .subst hn;refine aeT (Z:=FK E.a h) (λz f=>z.trans f) o.x o.B (by rw[o.eM];exact hM) YYZ o.m (by have:=o.N0;omega) i d h V sz ?_ ?_
   .intro h0 h' s';refine cZ (w-1) _ h' YYZ ⟨q,i+1,3,0,s'.to (IC.refl _ _) trivial,o,YYZ,YYZ,rfl⟩ ?_;obtain⟨⟨b,i0,has,aL,p,P,N,kb,G,out,c,e1,J,s,c1,c2,c3,c4,c5,c6,c7,c8,ck,E4,hN,z,_⟩,_⟩:=s';exact z
   ·intro h0 h' s';obtain⟨has,aL,asked',N,G,a,A,z,hN,oh,op,pl,hb,hH,hc⟩:=s';have q0:=o.P0;rw[o.eM]at oh op;rw[o.most]at pl;have hb:i+1+3*aL.length<=q.B:=hb.resolve_right q0;have ok':kK M asked'/\(d=1\/d=5):=by
     rcases hc with⟨h1,h2,_⟩|⟨h1,h2,_⟩
     .obtain⟨q1,q2,_⟩:=jR (o.la.LC q.t q.r) o.m o.m0;exact⟨by rw[h2];exact o.la.put ⟨o.lv,q2,q1⟩ o.inM,.inl h1⟩
     .exact⟨by rw[h2];exact o.la,.inr h1⟩
    refine hk2 (decide_eq_true h0) d q.x (w-1) h' YYZ ⟨G,N,has,aL,asked',a,op,pl,YYZ,.inr ⟨o.x,A,oh,ok'.1,YYZ⟩⟩ ?_ (λ_=>o.x) z;rcases ok'.2 with h|h
    .exact .inl h
    .exact .inr (.inl h)
  .obtain⟨n',rfl⟩:∃n',n=n'+1:=⟨n-1,YYZ⟩
   refine Yb (Z:=FK E.a h) (λz f=>z.trans f) o.x o.B (by have:=o.N0;omega) i n' d h V sz YYZ ?_;intro h' d' s';refine cZ (w-1) _ h' YYZ ⟨q,i+1,n',d',s'.to (IC.refl _ _) trivial,o,YYZ,YYZ,rfl⟩ ?_;obtain⟨⟨b,i0,has,aL,p,P,N,kb,G,out,c,e1,J,s,c1,c2,c3,c4,c5,c6,c7,c8,ck,E4,hN,z,_⟩,_⟩:=s';exact z
def SR(E:EN)(M:List (Int × Int))(u w:Nat)(e:Bool)(h:af):Prop:=∃(q:QR)(n:Nat),Vg E (λ_=>True) q n h/\(1<=q.x/\kK M q.has/\kK M q.asked/\kK M q.aL/\(q.aL.length:Int)<=E.z.most/\aY q.has q.t q.r≠0/\q.N0<=380)/\2*q.N0+4<=u+n/\n+8+3*(q.has.length+q.aL.length)<=w/\e=decide (n=1)
theorem UH(hM:M.length<=25):nX E M (SR E M):=by
 refine⟨?_,?_,?_,?_,?_⟩
 .rintro u w e h ⟨q,n,s,o,h1,h2,_⟩;have:=s.n3;omega
 .rintro u w e h ⟨q,n,s,o,h1,h2,_⟩;obtain⟨⟨N,kb,G,out,c,s,_⟩,n3⟩:=s;exact⟨_,_,_,_,_,_,_,_,s,.inr YYZ⟩
 .rintro u w e h h' ⟨q,n,s,r⟩ k;exact⟨q,n,s.to k trivial,r⟩
 .rintro u w e h V ⟨q,n,s,o,h1,h2,rfl⟩ hk;refine aeW n h V s λd hd hn=>hk d ?_ λe=>?_
  .omega
  .have:=hn (of_decide_eq_true e);omega
 .rintro u w e h V ⟨q,n,s,⟨o1,o2,o3,o4,o5,o6,o7⟩,h1,h2,rfl⟩ cZ hk2;have sz:=s.to (Z':=FK E.a h) (IC.refl _ _) (FK.le (Le.refl h));have n3:=s.n3;have lh:=o2.len;by_cases hn:n=1
  .subst hn;refine ajQ (Z:=FK E.a h) (λz f=>z.trans f) YYZ h V sz ?_;rintro h' ⟨G,N,a,A,hN,z⟩;have hd:=o2.rC (t:=q.t) (r:=q.r) o6;exact hk2 rfl 1 q.x (w-1) h' YYZ ⟨G,N,_,_,_,a,o4,o5,YYZ,.inr ⟨o1,A,o2.drop _ _,o3,YYZ⟩⟩ (.inl rfl) (λ_=>o1) z
  .obtain⟨n',rfl⟩:∃n',n=n'+1:=⟨n-1,YYZ⟩
   refine aeV (Z:=FK E.a h) (λz f=>z.trans f) o1 YYZ o6 n' h V sz YYZ ?_;intro h' s';refine cZ (w-1) _ h' YYZ ⟨q,n',s'.to (IC.refl _ _) trivial,⟨o1,o2,o3,o4,o5,o6,o7⟩,YYZ,YYZ,rfl⟩ ?_;obtain⟨⟨N,kb,G,out,c,s,c2,c3,c4,cK,c5,c6,hN,z,_⟩,_⟩:=s';exact z
def SL(E:EN)(M:List (Int × Int))(u w:Nat)(e:Bool)(h:af):Prop:=∃(q:QG)(i n:Nat),(JS E (λ_=>True) q i n h\/E5 E (λ_=>True) q i n h)/\(q.M=M/\1<=q.x/\q.L0<=19/\q.N0<=380)/\2*q.N0+i<=u/\1+3*q.L0<=w+i/\e=decide (n=1)
theorem JC{Z:af->Prop}{q:QG}{i n:Nat}{h:af}(s:JS E Z q i n h\/E5 E Z q i n h):i<=3*q.L0/\(n=3\/n=2\/n=1)/\Z h/\∃(G:GT)(N:Nat)(y:fE)(out:Int)(D:AD)(kb:Nat)(c:CD),AW h E G N n y out D kb c:=by
 rcases s with⟨⟨i0,g,has,aL,N,kb,G,out,c,e1,hi1,yl,s,c2,hg,oh,op,c3,c4,cK,hN,z,_⟩,n3⟩|⟨⟨i0,g,Q,has,aL,N,kb,G,out,c,e1,hi1,yl,s,c1,hp,c2,c3,c4,cK,hN,z,_⟩,n3⟩
 .have:=List.length_pos_of_mem hg;exact⟨YYZ,n3,z,_,_,_,_,_,_,_,s⟩
 .exact⟨YYZ,n3,z,_,_,_,_,_,_,_,s⟩
theorem EL{Z Z':af->Prop}{q:QG}{i n:Nat}{h h':af}(s:JS E Z q i n h\/E5 E Z q i n h)(k:IC E.a h h')(z:Z' h'):JS E Z' q i n h'\/E5 E Z' q i n h':=by
 rcases s with s|s
 .exact .inl (s.to k z)
 .exact .inr (s.to k z)
theorem Z0.idle{Z:af->Prop}{q:QG}{i w u:Nat}{code:Int}{h:af}(s:Z0 E Z q i code h)(hM:q.M=M)(hu:2*q.N0+i+1<=u):Idle E M 0 w u h/\code=1/\Z h:=by
 obtain⟨hc,aL,G,N,a,g,hN,z⟩:=s;have g':=g;rw[hM]at g';exact⟨⟨G,N,_,_,_,a,g'.p,g'.le,YYZ,.inl ⟨rfl,rfl,rfl,g'⟩⟩,hc,z⟩
theorem UI(hM:M.length<=25)(eG:0<=E.z.most/\E.z.most<=8):nX E M (SL E M):=by
 refine⟨?_,?_,?_,?_,?_⟩
 .rintro u w e h ⟨q,i,n,s,o,h1,h2,_⟩;have:=(JC s).1;omega
 .rintro u w e h ⟨q,i,n,s,o,h1,h2,_⟩;obtain⟨_,n3,_,G,N,y,out,D,kb,c,s⟩:=JC s;exact⟨_,_,_,_,_,_,_,_,s,.inr YYZ⟩
 .rintro u w e h h' ⟨q,i,n,s,r⟩ k;exact⟨q,i,n,EL s k trivial,r⟩
 .rintro u w e h V ⟨q,i,n,s,o,h1,h2,rfl⟩ hk;refine Yf i n h V s λd hd hn=>hk d ?_ λe=>?_
  .omega
  .have:=hn (of_decide_eq_true e);omega
 .rintro u w e h V ⟨q,i,n,s,⟨o1,o2,o3,o4⟩,h1,h2,rfl⟩ cZ hk2;have sz:=EL (Z':=FK E.a h) s (IC.refl _ _) (FK.le (Le.refl h));obtain⟨hi,n3,_⟩:=JC s;have R:=Ye (E:=E) (Z:=FK E.a h) (λz f=>z.trans f) (q:=q) o2 (by rw[o1];exact hM) o3 YYZ eG;by_cases hn:n=1
  .subst hn;refine R.s1 i h V sz ?_ ?_
   .intro h' s';exact cZ (w-1) _ h' YYZ ⟨q,i+1,3,EL s' (IC.refl _ _) trivial,⟨o1,o2,o3,o4⟩,YYZ,YYZ,rfl⟩ (JC s').2.2.1
   .intro code h' s';obtain⟨I,rfl,z⟩:=s'.idle (w:=w-1) (u:=u+1) o1 YYZ;exact hk2 rfl 1 0 (w-1) h' YYZ I (.inl rfl) (λe=>absurd e YYQ) z
  .obtain⟨n',rfl⟩:∃n',n=n'+1:=⟨n-1,YYZ⟩
   refine R.s32 i n' h V sz YYZ ?_;intro h' s';exact cZ (w-1) _ h' YYZ ⟨q,i+1,n',EL s' (IC.refl _ _) trivial,⟨o1,o2,o3,o4⟩,YYZ,YYZ,rfl⟩ (JC s').2.2.1
def SI(E:EN)(M:List (Int × Int))(u w:Nat)(e:Bool)(h:af):Prop:=∃(Post:af->Prop)(code x':Int)(w' u0:Nat),Vh E Post code h/\(code=1\/code=6)/\w'+1<=w/\e=true/\u0<=u+1/\∀h',Post h'->Idle E M x' w' u0 h'
theorem vT:nX E M (SI E M):=by
 refine⟨?_,?_,?_,?_,?_⟩
 .rintro u w e h ⟨Post,code,x',w',u0,s,hc,h1,h2,h3,h4⟩;omega
 .rintro u w e h ⟨Post,code,x',w',u0,⟨kb,y,out,c,G,N,D,s,hk,_⟩,_⟩;exact⟨_,_,_,_,_,_,_,_,s,.inl hk⟩
 .rintro u w e h h' ⟨Post,code,x',w',u0,s,r⟩ k;exact⟨Post,code,x',w',u0,s.to k,r⟩
 .rintro u w e h V ⟨Post,code,x',w',u0,s,hc,h1,h2,h3,h4⟩ hk;exact aeX s YYZ V (hk code YYZ λ_=>by omega)
 .rintro u w e h V ⟨Post,code,x',w',u0,s,hc,h1,h2,h3,h4⟩ cZ hk2;refine Yh s V λh' p f=>?_;exact hk2 h2 code x' w' h' h1 ((h4 h' p).up (Nat.le_refl _) h3) YYZ (λe=>by omega) f
end
section
variable {ax:Int}{E:EN}{h:af}{x t r m:Int}{w u:Nat}{M:List (Int × Int)}(hM:M.length<=25)(eG:E.z.most=2)(hu:u<=600)
include hM eG hu
theorem Yi(s:Idle E M x w u h)(hx:1<=x)(hm:kn m=true)(h0:m≠0)(lv:bx t r≠-1)(hin:(t,r)∈M)(LJ:∀a∈lN t r,a∈M)(wv:Int)(hw:0<=wv)(V:KQ)(hk:∀S,nX E M S->∀w' e h',w'<=w+38->S (u+1) w' e h'->FK E.a h h'->V (YYX 0) h'):aq prog 101 [pt E.z.ab,.agg ⟨[YYX 1,YYX ax,YYX t,YYX r,YYX m,YYX 0]⟩,YYX wv] h V:=by
 obtain⟨G,N,has,aL,asked,s,op,pl,hN,hc⟩:=s;rcases hc with⟨h1,_⟩|⟨_,A,oh,oa,h9⟩
 .omega
 have la:=oa.len;have q1:=jR (oa.LC t r) hm h0;have pk:=Bo (f:=aY has) oh.LC lv q1.2.1 q1.1;have p2:=pk.2.1;refine PT s A hx YYZ hM oh op pl YYZ YYZ hm h0 lv hin LJ (oa.LC t r) wv hw V ?_ ?_
 .intro _ h' s' f';refine hk _ (vT (E:=E) (M:=M)) (w+1) true h' YYZ ⟨_,1,x,w,u,s',.inl rfl,Nat.le_refl _,rfl,YYZ,λh2 a2=>?_⟩ f';exact⟨G,N,has,aL,_,a2,op,pl,hN,.inr ⟨hx,A,oh,oa.put ⟨lv,q1.2.1,q1.1⟩ hin,h9⟩⟩
 .intro hP h' s' f';refine hk _ (UG hM) (w+38) _ h' (Nat.le_refl _) ⟨_,1,3,0,s',⟨rfl,hx,?_,oa,hm,h0,by show N<=380;omega,rfl,lv,hin,λe=>hP (List.length_eq_zero_iff.1 e)⟩,by show 2*N+1<=u+1;omega,?_,rfl⟩ f'
  .show 1+3*(dW (aY has) t r (bM (aY asked t r) m)).length+3*aL.length<=110
   omega
  .show 1+3*(dW (aY has) t r (bM (aY asked t r) m)).length+3*aL.length+8+3*(has.length+(dW (aY has) t r (bM (aY asked t r) m)).length+aL.length)<=w+38+1
   omega
set_option linter.unusedSectionVars false in
theorem ae1(s:Idle E M x w u h)(hx:1<=x)(lv:bx t r≠-1)(V:KQ)(hk:∀S,nX E M S->∀w' e h',w'<=w+38->S (u+1) w' e h'->FK E.a h h'->V (YYX 0) h'):aq prog 101 [pt E.z.ab,.agg ⟨[YYX 2,YYX ax,YYX t,YYX r,YYX 0,YYX 0]⟩,YYX 0] h V:=by
 obtain⟨G,N,has,aL,asked,s,op,pl,hN,hc⟩:=s;rcases hc with⟨h1,_⟩|⟨_,A,oh,oa,h9⟩
 .omega
 have la:=oa.len;have lh:=oh.len;refine PU s A hx YYZ YYZ YYZ lv V ?_ ?_ ?_
 .intro h' s' f';refine hk _ (vT (E:=E) (M:=M)) (w+1) true h' YYZ ⟨_,6,x,w,u,s',.inr rfl,Nat.le_refl _,rfl,YYZ,λh2 a2=>?_⟩ f';exact⟨G,N,has,aL,_,a2,op,pl,hN,.inr ⟨hx,A,oh,oa,h9⟩⟩
 .intro h' s' f';refine hk _ (vT (E:=E) (M:=M)) (w+1) true h' YYZ ⟨_,1,x,w,u,s',.inl rfl,Nat.le_refl _,rfl,YYZ,λh2 a2=>?_⟩ f';exact⟨G,N,has,aL,_,a2,op,pl,hN,.inr ⟨hx,A,oh,oa.drop _ _,h9⟩⟩
 .intro hm h' s' f';refine hk _ (UH hM) (w+3) _ h' YYZ ⟨_,3,s',⟨hx,oh,oa.drop _ _,op,pl,hm,by show N<=380;omega⟩,by show 2*N+4<=u+1+3;omega,?_,rfl⟩ f'
  show 3+8+3*(has.length+aL.length)<=w+3
  omega
theorem ae2(s:Idle E M x w u h)(hx:1<=x)(V:KQ)(hk:∀S,nX E M S->∀w' e h',w'+7<=w->S (u+1) w' e h'->FK E.a h h'->V (YYX 0) h'):aq prog 101 [pt E.z.ab,.agg ⟨[YYX 3,YYX ax,YYX 0,YYX 0,YYX 0,YYX 0]⟩,YYX 0] h V:=by
 obtain⟨G,N,has,aL,asked,s,op,pl,hN,hc⟩:=s;rcases hc with⟨h1,_⟩|⟨_,A,oh,oa,h9⟩
 .omega
 have la:=oa.len;have hcap:(has.map ny).length<=16:=aeD (s.w nr 0) oh.nd λp hp e=>by
  obtain⟨g,hg,rfl⟩:=List.mem_map.1 hp;have hm:=oh.mode hg;have:=A.hy g.t g.r (by rw[hm];exact(oh.ok g hg).2.2);have e:G g.t g.r=[]:=e;rw[e]at this;cases this
 rw[List.length_map]at hcap;refine PV (M:=M) s A hx YYZ hM oh op YYZ YYZ YYZ V ?_ ?_
 .intro h' s' f';refine hk _ (vT (E:=E) (M:=M)) 1 true h' YYZ ⟨_,1,0,0,u+2,s',.inl rfl,Nat.le_refl _,rfl,YYZ,λh2 a2=>?_⟩ f';exact(a2.idle (q:=⟨x,M,asked,N,has.length+aL.length⟩) rfl (by show 2*N+1+1<=u+2;omega)).1
 .intro h' s' f';refine hk _ (UI hM YYZ) (3*(has.length+aL.length)) _ h' YYZ ⟨_,1,3,s',⟨rfl,hx,by show has.length+aL.length<=19;omega,by show N<=380;omega⟩,by show 2*N+1<=u+1;omega,?_,rfl⟩ f'
  show 1+3*(has.length+aL.length)<=3*(has.length+aL.length)+1
  omega
end
structure EvR where
 c:Int
 th:Int
 inv:Bool
 k:Int
 x:Int
 t:Int
 r:Int
 m:Int
 code:Int
def vU(e:EvR):List Value:=[YYX e.c,YYX e.th,.bool e.inv,YYX e.k,YYX e.x,YYX e.t,YYX e.r,YYX e.m,YYX e.code]
theorem JD(e:EvR):(vU e).length=9:=rfl
theorem JE(e:EvR):(vU e).all dK=true:=rfl
def JF{α:Type}(enc:α->List Value)(ty:TypeId)(h:af)(v:Value)(L:List α):Prop:=
 (L=[]/\v=.slice none 0 0)\/∃b,v=YYU b L.length aX/\b<h.nx/\h.lo<=b/\h.bl.get b=some (ah (L.flatMap enc) ty true)
section
variable {α:Type}{enc:α->List Value}{ty:TypeId}{h h':af}{v:Value}{L:List α}
theorem JF.sl(s:JF enc ty h v L):Sl enc h v L:=by
 rcases s with⟨rfl,rfl⟩|⟨b,rfl,h1,_,h3⟩
 .exact Sl.nil _ _ _
 .exact Sl.new h1 h3 _
theorem JF.fk{a:TA}(s:JF enc ty h v L)(k:FK a h h')(h1:¬mT ty true)(h2:¬kI ty true)(h3:¬EC ty):JF enc ty h' v L:=by
 rcases s with⟨e1,e2⟩|⟨b,e1,e2,e3,e4⟩
 .exact .inl ⟨e1,e2⟩
 .exact .inr ⟨b,e1,Nat.lt_of_lt_of_le e2 k.nx,by rw[k.lo];exact e3,(k.ty _ _ _ _ e2 e4 h1 h2 h3).trans e4⟩
theorem JF.keep(s:JF enc ty h v L)(hn:h.nx<=h'.nx)(hl:h'.lo=h.lo)(hg:∀b,b<h.nx->h.bl.get b=some (ah (L.flatMap enc) ty true)->h'.bl.get b=h.bl.get b):JF enc ty h' v L:=by
 rcases s with⟨e1,e2⟩|⟨b,e1,e2,e3,e4⟩
 .exact .inl ⟨e1,e2⟩
 .exact .inr ⟨b,e1,Nat.lt_of_lt_of_le e2 hn,by rw[hl];exact e3,(hg b e2 e4).trans e4⟩
end
structure MA where
 E:EN
 mb:Nat
 tb:Nat
 hb:Nat
 pk:Nat
 vo:Value
 O:List vM
structure MV where
 pos:Nat
 call:Int
 lt:Bool
 ve:Value
 vp:Value
 vc:Value
 ev:List EvR
 eV:Int
 jG:Int
 P:List Int
 C:List Int
 po:Option Nat
 co:Option Nat
def j_(A:MA)(v:MV):bO:=ah [pt A.E.A.wb,YYU A.hb 1 aX,v.ve,v.vp,v.vc,YYX v.eV,YYX v.jG,YYU A.pk 5 5] 69 false
def lW(A:MA)(v:MV):bO:=ah [pt A.E.z.ab,pt A.mb,YYX 0,A.vo,YYX (v.pos:Int),YYX v.call,.bool v.lt] 75 false
structure ow(h:af)(A:MA)(v:MV):Prop where
 iN:A.mb<h.nx/\h.lo<=A.mb
 gm:h.bl.get A.mb=some (j_ A v)
 sj:A.tb<h.nx/\h.lo<=A.tb
 gt:h.bl.get A.tb=some (lW A v)
 xo:A.hb<h.nx
 gh:h.bl.get A.hb=some (ah [pt A.tb] 73 true)
 xq:A.pk<h.nx
 gp:h.bl.get A.pk=some (ah [Value.nilFunc,.func (.func 23) ⟨[pt A.mb]⟩ ⟨[]⟩,.func (.func 24) ⟨[pt A.mb]⟩ ⟨[]⟩,.func (.func 25) ⟨[pt A.mb]⟩ ⟨[]⟩,.func (.func 26) ⟨[pt A.mb]⟩ ⟨[]⟩] 51 false)
 so:JF iS 29 h A.vo A.O
 lo:A.O.length<=12
 se:JF vU 59 h v.ve v.ev
 pp:vZ A.E.a h v.vp v.P v.po
 cc:vZ A.E.a h v.vc v.C v.co
 ne:∀b,v.po=some b->v.co≠some b
 len:v.C.length=v.P.length
section
variable {h h':af}{A:MA}{v:MV}
theorem ow.fk(s:ow h A v)(k:FK A.E.a h h')(p:BP A.E.a h):ow h' A v:=by
 have n:=k.nx;have ty:∀{d:Nat}{vs:List Value}{t:TypeId}{o:Bool},d<h.nx->h.bl.get d=some (ah vs t o)->¬mT t o->¬kI t o->¬EC t->h'.bl.get d=some (ah vs t o):=λhd hg h1 h2 h3=>(k.ty _ _ _ _ hd hg h1 h2 h3).trans hg;have gm:=s.gm;have gt:=s.gt;unfold j_ at gm;unfold lW at gt;exact⟨⟨by have:=s.iN.1;omega,by rw[k.lo];exact s.iN.2⟩,ty s.iN.1 gm (by unfold mT;decide) (by unfold kI;decide) (by unfold EC;decide),⟨by have:=s.sj.1;omega,by rw[k.lo];exact s.sj.2⟩,ty s.sj.1 gt (by unfold mT;decide) (by unfold kI;decide) (by unfold EC;decide),by have:=s.xo;omega,ty s.xo s.gh (by unfold mT;decide) (by unfold kI;decide) (by unfold EC;decide),by have:=s.xq;omega,ty s.xq s.gp (by unfold mT;decide) (by unfold kI;decide) (by unfold EC;decide),s.so.fk k (by unfold mT;decide) (by unfold kI;decide) (by unfold EC;decide),s.lo,s.se.fk k (by unfold mT;decide) (by unfold kI;decide) (by unfold EC;decide),s.pp.fk k p.lt,s.cc.fk k p.lt,s.ne,s.len⟩
theorem ow.le(s:ow h A v)(l:Le h h')(p:BP A.E.a h):ow h' A v:=s.fk (FK.le l) p
theorem ow.Yj(s:ow h A v)(p:BP A.E.a h)(v':MV)(e:v'={ v with pos:=v'.pos,call:=v'.call,lt:=v'.lt }):ow ⟨h.nx,h.bl.bt A.tb (lW A v'),h.lo⟩ A v'/\IC A.E.a h ⟨h.nx,h.bl.bt A.tb (lW A v'),h.lo⟩:=by
 have gt:=s.gt;have gm:=s.gm;unfold lW at gt;unfold j_ at gm;have k:IC A.E.a h ⟨h.nx,h.bl.bt A.tb (lW A v'),h.lo⟩:=IC.UE p gt (.inr (.inl rfl)) _;have up:∀{b:Nat}{w:List Value}{t:TypeId}{o:Bool},h.bl.get b=some (ah w t o)->75≠t->(h.bl.bt A.tb (lW A v')).get b=h.bl.get b:=λhb hn=>T.aD _ _ (cr gt hb hn);have pp:=s.pp;have cc:=s.cc;have hp:(h.bl.bt A.tb (lW A v')).get A.E.a.bp=h.bl.get A.E.a.bp:=T.aD _ _ (p.pb.ne gt YYQ);have oi:∀{u:Value}{L:List Int}{o:Option Nat},vZ A.E.a h u L o->vZ A.E.a ⟨h.nx,h.bl.bt A.tb (lW A v'),h.lo⟩ u L o:=λq=>q.keep (Nat.le_refl _) rfl (λb hb=>by
  rcases q.e with⟨_,_,e⟩|⟨b2,e1,_,_,_,e5⟩
  .rw[e]at hb;cases hb
  .rw[e1]at hb;cases hb;exact up e5 YYQ) hp
 have em:j_ A v'=j_ A v:=by rw[e];rfl
 refine⟨⟨s.iN,?_,s.sj,T.az _ _ _,s.xo,(up s.gh YYQ).trans s.gh,s.xq,(up s.gp YYQ).trans s.gp,s.so.keep (Nat.le_refl _) rfl λb _ hb=>up hb YYQ,s.lo,?_,?_,?_,?_,?_⟩,k⟩
 .rw[em];exact(up gm YYQ).trans s.gm
 .rw[e];exact s.se.keep (Nat.le_refl _) rfl λb _ hb=>up hb YYQ
 .rw[e];exact oi s.pp
 .rw[e];exact oi s.cc
 .rw[e];exact s.ne
 .rw[e];exact s.len
theorem ow.JG(s:ow h A v)(p:BP A.E.a h)(v':MV)(e:v'={ v with ve:=v'.ve,vp:=v'.vp,vc:=v'.vc,ev:=v'.ev,eV:=v'.eV,jG:=v'.jG,P:=v'.P,C:=v'.C,po:=v'.po,co:=v'.co })(he:JF vU 59 h v'.ve v'.ev)(hp:vZ A.E.a h v'.vp v'.P v'.po)(hc:vZ A.E.a h v'.vc v'.C v'.co)(hne:∀b,v'.po=some b->v'.co≠some b)(hl:v'.C.length=v'.P.length):ow ⟨h.nx,h.bl.bt A.mb (j_ A v'),h.lo⟩ A v'/\IC A.E.a h ⟨h.nx,h.bl.bt A.mb (j_ A v'),h.lo⟩:=by
 have gt:=s.gt;have gm:=s.gm;unfold lW at gt;unfold j_ at gm;have k:IC A.E.a h ⟨h.nx,h.bl.bt A.mb (j_ A v'),h.lo⟩:=IC.UE p gm (.inl rfl) _;have up:∀{b:Nat}{w:List Value}{t:TypeId}{o:Bool},h.bl.get b=some (ah w t o)->69≠t->(h.bl.bt A.mb (j_ A v')).get b=h.bl.get b:=λhb hn=>T.aD _ _ (cr gm hb hn);have LW:(h.bl.bt A.mb (j_ A v')).get A.E.a.bp=h.bl.get A.E.a.bp:=T.aD _ _ (p.pb.ne gm YYQ);have oi:∀{u:Value}{L:List Int}{o:Option Nat},vZ A.E.a h u L o->vZ A.E.a ⟨h.nx,h.bl.bt A.mb (j_ A v'),h.lo⟩ u L o:=λq=>q.keep (Nat.le_refl _) rfl (λb hb=>by
  rcases q.e with⟨_,_,e⟩|⟨b2,e1,_,_,_,e5⟩
  .rw[e]at hb;cases hb
  .rw[e1]at hb;cases hb;exact up e5 YYQ) LW
 have et:lW A v'=lW A v:=by rw[e];rfl
 refine⟨⟨s.iN,T.az _ _ _,s.sj,?_,s.xo,(up s.gh YYQ).trans s.gh,s.xq,(up s.gp YYQ).trans s.gp,s.so.keep (Nat.le_refl _) rfl λb _ hb=>up hb YYQ,s.lo,he.keep (Nat.le_refl _) rfl λb _ hb=>up hb YYQ,oi hp,oi hc,hne,hl⟩,k⟩;rw[et];exact(up gt YYQ).trans s.gt
end
section
variable {h:af}{A:MA}{v:MV}{G:GT}{N n:Nat}{D:AD}{y:fE}{out:Int}{kb:Nat}{c:CD}
theorem UJ(s:ow h A v)(hp:v.pos<=A.O.length)(V:KQ)(hk:V (.bool (decide (v.pos=A.O.length))) h):aq prog 54 [pt A.tb] h V:=by
 have gt:=s.gt;unfold lW at gt;have lo:=s.lo;obtain⟨ox,oc,e,_⟩:=s.so.sl;rw[e]at gt;apply YYW;rw[ahc];by_cases h1:v.pos=A.O.length
 .rw[decide_eq_true h1]at hk;simp(disch:=try exact Y)only[Wz,aJ,gt,bf (show(v.pos:Int)=(A.O.length:Int)by omega)];exact hk
 .rw[decide_eq_false h1]at hk;simp(disch:=try exact Y)only[Wz,aJ,gt,aZ (show ¬(v.pos:Int)=(A.O.length:Int)by omega)];exact hk
theorem yY{E:EN}(s:AI h E G N D)(V:KQ)(hk:V (.bool false) h):aq prog 55 [pt E.z.ab] h V:=by
 obtain⟨va,vh,ga,_,_⟩:=s.ag;have bn:=λ(β:Type)(fl:β)(cn:Bool)(h:af)(V:YYY β)=>Bm (fl:=fl) cn none h V;simp only[dV,Option.isSome]at bn;apply YYW;rw[Zl];simp(disch:=try exact Y)only[Wz,Ny,aJ,ga,bn];exact hk
theorem EM(s:ow h A v)(a:AI h A.E G N D)(hp:v.pos<=A.O.length)(V:KQ)(hk:V (.bool (v.lt || (decide (v.pos=A.O.length) && decide (D.je≠0)))) h):aq prog 56 [pt A.tb] h V:=by
 have gt:=s.gt;unfold lW at gt;apply YYW;rw[ahd];cases hl:v.lt with
 |true=>
  rw[hl]at gt hk;simp(disch:=try exact Y)only[Wz,aJ,gt];exact hk
 |false=>
  rw[hl]at gt hk;simp(disch:=try exact Y)only[Wz,aJ,gt];refine UJ s hp _ ?_;by_cases h1:v.pos=A.O.length
  .rw[decide_eq_true h1]at hk ⊢;simp(disch:=try exact Y)only[Wz,aJ,gt];refine Uo a _ ?_;by_cases h2:D.je=0
   .rw[decide_eq_false (show ¬D.je≠0 from λe=>e h2)]at hk;simp(disch:=try exact Y)only[Wz,bf h2];exact hk
   .rw[decide_eq_true (show D.je≠0 from h2)]at hk;simp(disch:=try exact Y)only[Wz,aZ h2];exact hk
  .rw[decide_eq_false h1]at hk ⊢;simp(disch:=try exact Y)only[Wz];exact hk
def qp(A:MA)(v:MV)(x:Int):Bool:=decide (v.pos=A.O.length) && !(v.lt || decide (x≠0))
theorem EO(s:ow h A v)(a:AI h A.E G N D)(hp:v.pos<=A.O.length)(V:KQ)(hk:V (.bool (qp A v D.je)) h):aq prog 27 [pt A.tb] h V:=by
 have gt:=s.gt;unfold lW at gt;apply YYW;rw[Zi];refine UJ s hp _ ?_;unfold qp at hk;by_cases h1:v.pos=A.O.length
 .rw[decide_eq_true h1]at hk ⊢;simp(disch:=try exact Y)only[Wz,aJ,gt];refine yY a _ ?_;simp(disch:=try exact Y)only[Wz];refine EM s a hp _ ?_;rw[decide_eq_true h1,Bool.true_and];rw[Bool.true_and]at hk;cases e:(v.lt || decide (D.je≠0))with
  |true=>rw[e]at hk;simp(disch:=try exact Y)only[Wz];exact hk
  |false=>rw[e]at hk;simp(disch:=try exact Y)only[Wz];exact hk
 .rw[decide_eq_false h1]at hk ⊢;simp(disch:=try exact Y)only[Wz];exact hk
theorem NG(s:ow h A v)(a:AW h A.E G N n y out D kb c)(hp:v.pos<=A.O.length)(V:KQ)(hk:V (.bool false) h):aq prog 27 [pt A.tb] h V:=by
 have gt:=s.gt;unfold lW at gt;apply YYW;rw[Zi];refine UJ s hp _ ?_;by_cases h1:v.pos=A.O.length
 .rw[decide_eq_true h1];simp(disch:=try exact Y)only[Wz,aJ,gt];refine mW a _ ?_;simp(disch:=try exact Y)only[Wz];exact hk
 .rw[decide_eq_false h1];simp(disch:=try exact Y)only[Wz];exact hk
theorem JH(s:ow h A v)(a:AI h A.E G N D)(hp:v.pos<=A.O.length)(V:KQ)(hk:V (.bool (!qp A v D.je)) h):aq prog 67 [pt A.tb] h V:=by
 have gt:=s.gt;unfold lW at gt;apply YYW;rw[Zp];refine EO s a hp _ ?_;cases e:qp A v D.je with
 |true=>rw[e]at hk;simp(disch:=try exact Y)only[Wz];exact hk
 |false=>
  rw[e]at hk;simp(disch:=try exact Y)only[Wz,aJ,gt];refine yY a _ ?_;simp(disch:=try exact Y)only[Wz];exact hk
theorem UK(s:ow h A v)(a:AW h A.E G N n y out D kb c)(hn:c.ask.k=0\/n≠0)(hp:v.pos<=A.O.length)(V:KQ)(hk:V (.bool true) h):aq prog 67 [pt A.tb] h V:=by
 have gt:=s.gt;unfold lW at gt;apply YYW;rw[Zp];refine NG s a hp _ ?_;simp(disch:=try exact Y)only[Wz,aJ,gt];refine mW a _ ?_;simp(disch:=try exact Y)only[Wz,aJ,gt];refine vJ a hn _ ?_;exact hk
end
def NH(c:Int):Prop:=c=1\/c=5\/c=6
def UL(e:Bool)(p c:Int):Prop:=(p = -1/\c=0/\e=false)\/(0<=p/\NH c)
theorem Bq(L:List Int):L.flatMap cQ=L.map λx=>YYX x:=by
 induction L with
 |nil=>rfl
 |cons x L ih=>rw[List.flatMap_cons,ih];rfl
theorem Yk(L:List Int)(x:Int):((L++[x]).map λx=>YYX x)[L.length]? = some (YYX x):=by simp
theorem C7(L:List Int)(x y:Int):over ((L++[x]).map λx=>YYX x) L.length [YYX y]=(L++[y]).map λx=>YYX x:=by
 rw[O_ (by simp)];simp
section
variable {h:af}{A:MA}{v:MV}{M:List (Int × Int)}{S:Nat->Nat->Bool->af->Prop}{u w:Nat}{e:Bool}
theorem nX.bp{E:EN}(P:nX E M S)(st:S u w e h):BP E.a h/\h.lo<=h.nx:=by
 obtain⟨G,N,n,y,out,D,kb,c,a,_⟩:=P.run u w e h st;exact⟨a.w.bps,a.lo⟩
theorem vZ.blk{a:TA}{h:af}{u:Value}{L:List Int}{x:Int}{o:Option Nat}(s:vZ a h u (L++[x]) o):∃b,o=some b/\u=YYU b (L.length+1) aX/\b<h.nx/\h.lo<=b/\h.bl.get b=some (ah ((L++[x]).map λx=>YYX x) 3 true)/\¬FB h a.bp b:=by
 rcases s.e with⟨h1,_⟩|⟨b,h1,h2,h3,h4,h5⟩
 .simp at h1
 .rw[Bq]at h5;exact⟨b,h1,by rw[h2];simp,h3,h4,h5,s.f b h1⟩
theorem ow.XD(s:ow h A v)(p:BP A.E.a h){P0:List Int}{x y:Int}(hP:v.P=P0++[x]){b:Nat}(hb:v.po=some b):ow ⟨h.nx,h.bl.bt b (ah ((P0++[y]).map λx=>YYX x) 3 true),h.lo⟩ A { v with P:=P0++[y] }/\IC A.E.a h ⟨h.nx,h.bl.bt b (ah ((P0++[y]).map λx=>YYX x) 3 true),h.lo⟩:=by
 have pp:=s.pp;rw[hP]at pp;obtain⟨b2,e1,e2,e3,e4,e5,e6⟩:=pp.blk;rw[hb]at e1;cases e1;have k:IC A.E.a h ⟨h.nx,h.bl.bt b (ah ((P0++[y]).map λx=>YYX x) 3 true),h.lo⟩:=IC.ajT e5 e6 _;have up:∀{c:Nat}{w:List Value}{t:TypeId}{o:Bool},h.bl.get c=some (ah w t o)->3≠t->(h.bl.bt b (ah ((P0++[y]).map λx=>YYX x) 3 true)).get c=h.bl.get c:=λhb hn=>T.aD _ _ (cr e5 hb hn);have LW:(h.bl.bt b (ah ((P0++[y]).map λx=>YYX x) 3 true)).get A.E.a.bp=h.bl.get A.E.a.bp:=T.aD _ _ (p.pb.ne e5 YYQ);have gt:=s.gt;have gm:=s.gm;unfold lW at gt;unfold j_ at gm;refine⟨⟨s.iN,(up gm YYQ).trans s.gm,s.sj,(up gt YYQ).trans s.gt,s.xo,(up s.gh YYQ).trans s.gh,s.xq,(up s.gp YYQ).trans s.gp,s.so.keep (Nat.le_refl _) rfl λb _ hb=>up hb YYQ,s.lo,s.se.keep (Nat.le_refl _) rfl λb _ hb=>up hb YYQ,⟨.inr ⟨b,hb,?_,e3,e4,?_⟩,λc hc hf=>?_⟩,s.cc.keep (Nat.le_refl _) rfl (λc hc=>T.aD _ _ λe=>?_) LW,s.ne,?_⟩,k⟩
 .show v.vp=_
  rw[e2];simp
 .rw[Bq];exact T.az _ _ _
 .rw[hb]at hc;cases hc;exact e6 ((FB.congr LW).1 hf)
 .subst e;exact s.ne b hb hc
 .rw[s.len,hP];simp
theorem ow.vF(s:ow h A v)(p:BP A.E.a h){C0:List Int}{x y:Int}(hC:v.C=C0++[x]){b:Nat}(hb:v.co=some b):ow ⟨h.nx,h.bl.bt b (ah ((C0++[y]).map λx=>YYX x) 3 true),h.lo⟩ A { v with C:=C0++[y] }/\IC A.E.a h ⟨h.nx,h.bl.bt b (ah ((C0++[y]).map λx=>YYX x) 3 true),h.lo⟩:=by
 have cc:=s.cc;rw[hC]at cc;obtain⟨b2,e1,e2,e3,e4,e5,e6⟩:=cc.blk;rw[hb]at e1;cases e1;have k:IC A.E.a h ⟨h.nx,h.bl.bt b (ah ((C0++[y]).map λx=>YYX x) 3 true),h.lo⟩:=IC.ajT e5 e6 _;have up:∀{c:Nat}{w:List Value}{t:TypeId}{o:Bool},h.bl.get c=some (ah w t o)->3≠t->(h.bl.bt b (ah ((C0++[y]).map λx=>YYX x) 3 true)).get c=h.bl.get c:=λhb hn=>T.aD _ _ (cr e5 hb hn);have LW:(h.bl.bt b (ah ((C0++[y]).map λx=>YYX x) 3 true)).get A.E.a.bp=h.bl.get A.E.a.bp:=T.aD _ _ (p.pb.ne e5 YYQ);have gt:=s.gt;have gm:=s.gm;unfold lW at gt;unfold j_ at gm;refine⟨⟨s.iN,(up gm YYQ).trans s.gm,s.sj,(up gt YYQ).trans s.gt,s.xo,(up s.gh YYQ).trans s.gh,s.xq,(up s.gp YYQ).trans s.gp,s.so.keep (Nat.le_refl _) rfl λb _ hb=>up hb YYQ,s.lo,s.se.keep (Nat.le_refl _) rfl λb _ hb=>up hb YYQ,s.pp.keep (Nat.le_refl _) rfl (λc hc=>T.aD _ _ λe=>?_) LW,⟨.inr ⟨b,hb,?_,e3,e4,?_⟩,λc hc hf=>?_⟩,s.ne,?_⟩,k⟩
 .subst e;exact s.ne b hc hb
 .show v.vc=_
  rw[e2];simp
 .rw[Bq];exact T.az _ _ _
 .rw[hb]at hc;cases hc;exact e6 ((FB.congr LW).1 hf)
 .show(C0++[y]).length=v.P.length
  rw[<-s.len,hC];simp
theorem JI(P:nX A.E M S)(s:ow h A v)(st:S u w e h){P0 C0:List Int}{p c:Int}(hP:v.P=P0++[p])(hC:v.C=C0++[c])(jx:v.call=(P0.length:Int))(hl:P0.length<=100000)(hpk:0<=v.eV)(hn:(p = -1/\c=0)\/(0<=p/\NH c))(V:KQ)(hk:∀h' p' c',ow h' A { v with P:=P0++[p'],C:=C0++[c'] }->S u w e h'->IC A.E.a h h'->UL e p' c'->V (.tuple ⟨[]⟩) h'):aq prog 69 [pt A.tb] h V:=by
 obtain⟨bp,hlo⟩:=P.bp st;have gt:=s.gt;have gm:=s.gm;have pp:=s.pp;have cc:=s.cc;rw[hP]at pp;rw[hC]at cc;have hlen:=s.len;rw[hP,hC]at hlen;simp only[List.length_append,List.length_singleton]at hlen;obtain⟨pb,p1,p2,p3,p4,p5,p6⟩:=pp.blk;obtain⟨cb,c1,c2,c3,c4,c5,c6⟩:=cc.blk;unfold lW at gt;unfold j_ at gm;rw[jx]at gt;have hvv:{ v with P:=P0++[p],C:=C0++[c] }=v:=by rw[<-hP,<-hC]
 apply YYW;rw[ahh];simp(disch:=try exact Y)only[Wz,aJ,gt,gm];refine P.dec u w e h _ st ?_;intro d hd he;by_cases h0:d=0
 ·subst h0;have ef:e=false:=by
   cases e with
   |false=>rfl
   |true=>exact absurd rfl (he rfl)
  simp(disch:=try exact Y)only[Wz];refine hk h p c (by rw[hvv];exact s) st (IC.refl _ _) ?_;rcases hn with⟨n1,n2⟩|n1
  .exact .inl ⟨n1,n2,ef⟩
  .exact .inr n1
 .have la:=Yk P0 p;rw[p2,c2]at gm;rcases hn with⟨rfl,rfl⟩|⟨n1,n2⟩
  .simp (maxSteps:=3000000) (disch:=try exact Y)only[Wz,aZ h0,aJ,gt,gm,br,Nat.mul_one,p5,la,dZ (show(-1:Int)<0 by decide)];unfold MZ;have P6:=C7 P0 (-1) v.eV;have mE:=C7 C0 0 d;have hcp:cb≠pb:=λe=>s.ne pb p1 (by rw[c1,e]);obtain⟨s1,k1⟩:=s.XD bp (y:=v.eV) hP p1;have st1:=P.ic _ _ _ _ _ st k1;have bp1:=(P.bp st1).1;obtain⟨s2,k2⟩:=s1.vF bp1 (y:=d) hC c1;have st2:=P.ic _ _ _ _ _ st1 k2;have hcl:(P0.length:Int)=(C0.length:Int):=by omega
   have Z9:P0.length=C0.length:=by omega
   rw[Z9]at P6;have lp:((P0++[-1]).map λx=>YYX x).length=C0.length+1:=by simp[Z9]
   have lc:((C0++[0]).map λx=>YYX x).length=C0.length+1:=by simp
   simp (maxSteps:=3000000) (disch:=try exact Y)only[Wz,aJ,gt,gm,br,Nat.mul_one,p5,c5,P6,hcl,mE,hcp,lp,lc];refine hk _ v.eV d s2 st2 (IC.trans bp k1 k2) (.inr ⟨hpk,?_⟩);unfold NH;omega
  .simp (maxSteps:=3000000) (disch:=try exact Y)only[Wz,aZ h0,aJ,gt,gm,br,Nat.mul_one,p5,la,cG n1];refine hk h p c (by rw[hvv];exact s) st (IC.refl _ _) (.inr ⟨n1,n2⟩)
end
structure Vi(h:af)(A:MA)(v:MV):Prop where
 iN:A.mb<h.nx/\h.lo<=A.mb
 gm:h.bl.get A.mb=some (j_ A v)
 sj:A.tb<h.nx/\h.lo<=A.tb
 gt:h.bl.get A.tb=some (lW A v)
 xo:A.hb<h.nx
 gh:h.bl.get A.hb=some (ah [pt A.tb] 73 true)
 xq:A.pk<h.nx
 gp:h.bl.get A.pk=some (ah [Value.nilFunc,.func (.func 23) ⟨[pt A.mb]⟩ ⟨[]⟩,.func (.func 24) ⟨[pt A.mb]⟩ ⟨[]⟩,.func (.func 25) ⟨[pt A.mb]⟩ ⟨[]⟩,.func (.func 26) ⟨[pt A.mb]⟩ ⟨[]⟩] 51 false)
 so:JF iS 29 h A.vo A.O
 lo:A.O.length<=12
section
variable {h h':af}{A:MA}{v:MV}
theorem ow.bl(s:ow h A v):Vi h A v:=⟨s.iN,s.gm,s.sj,s.gt,s.xo,s.gh,s.xq,s.gp,s.so,s.lo⟩
theorem Vi.keep(s:Vi h A v)(hn:h.nx<=h'.nx)(hl:h'.lo=h.lo)(hg:∀b vs t o,b<h.nx->h.bl.get b=some (ah vs t o)->t≠3->t≠59->h'.bl.get b=h.bl.get b):Vi h' A v:=by
 have gt:=s.gt;have gm:=s.gm;unfold lW at gt;unfold j_ at gm;have q1:=s.iN;have q2:=s.sj;have q3:=s.xo;have q4:=s.xq;exact⟨⟨YYZ,by rw[hl];exact q1.2⟩,(hg _ _ _ _ q1.1 gm YYQ YYQ).trans s.gm,⟨YYZ,by rw[hl];exact q2.2⟩,(hg _ _ _ _ q2.1 gt YYQ YYQ).trans s.gt,YYZ,(hg _ _ _ _ q3 s.gh YYQ YYQ).trans s.gh,YYZ,(hg _ _ _ _ q4 s.gp YYQ YYQ).trans s.gp,s.so.keep hn hl λb hb e=>hg _ _ _ _ hb e YYQ YYQ,s.lo⟩
theorem Vi.JG(s:Vi h A v)(p:BP A.E.a h)(v':MV)(e:v'.pos=v.pos/\v'.call=v.call/\v'.lt=v.lt)(he:JF vU 59 h v'.ve v'.ev)(hp:vZ A.E.a h v'.vp v'.P v'.po)(hc:vZ A.E.a h v'.vc v'.C v'.co)(hne:∀b,v'.po=some b->v'.co≠some b)(hl:v'.C.length=v'.P.length):ow ⟨h.nx,h.bl.bt A.mb (j_ A v'),h.lo⟩ A v'/\IC A.E.a h ⟨h.nx,h.bl.bt A.mb (j_ A v'),h.lo⟩:=by
 have gt:=s.gt;have gm:=s.gm;unfold lW at gt;unfold j_ at gm;have k:IC A.E.a h ⟨h.nx,h.bl.bt A.mb (j_ A v'),h.lo⟩:=IC.UE p gm (.inl rfl) _;have up:∀{b:Nat}{w:List Value}{t:TypeId}{o:Bool},h.bl.get b=some (ah w t o)->69≠t->(h.bl.bt A.mb (j_ A v')).get b=h.bl.get b:=λhb hn=>T.aD _ _ (cr gm hb hn);have LW:(h.bl.bt A.mb (j_ A v')).get A.E.a.bp=h.bl.get A.E.a.bp:=T.aD _ _ (p.pb.ne gm YYQ);have oi:∀{u:Value}{L:List Int}{o:Option Nat},vZ A.E.a h u L o->vZ A.E.a ⟨h.nx,h.bl.bt A.mb (j_ A v'),h.lo⟩ u L o:=λq=>q.keep (Nat.le_refl _) rfl (λb hb=>by
  rcases q.e with⟨_,_,e⟩|⟨b2,e1,_,_,_,e5⟩
  .rw[e]at hb;cases hb
  .rw[e1]at hb;cases hb;exact up e5 YYQ) LW
 have et:lW A v'=lW A v:=by unfold lW;rw[e.1,e.2.1,e.2.2]
 refine⟨⟨s.iN,T.az _ _ _,s.sj,?_,s.xo,(up s.gh YYQ).trans s.gh,s.xq,(up s.gp YYQ).trans s.gp,s.so.keep (Nat.le_refl _) rfl λb _ hb=>up hb YYQ,s.lo,he.keep (Nat.le_refl _) rfl λb _ hb=>up hb YYQ,oi hp,oi hc,hne,hl⟩,k⟩;rw[et];exact(up gt YYQ).trans s.gt
theorem NI{a:TA}{x:Value}{L:List EvR}{e:EvR}{ve:Value}(s:JF vU 59 h ve L)(p:BP a h)(hx:Sl vU h x [e])(hL:L.length<=10000)(hlo:h.lo<=h.nx)(V:KQ)(hk:∀v' h',JF vU 59 h' v' (L++[e])->IC a h h'->(∀b vs t o,b<h.nx->h.bl.get b=some (ah vs t o)->t≠59->h'.bl.get b=h.bl.get b)->V v' h'):bD False 59 9 [YYX 0,YYX 0,.bool false,YYX 0,YYX 0,YYX 0,YYX 0,YYX 0,YYX 0] false ve x h V:=by
 have own:iJ vU ⟨0,.nil,h.lo⟩ 59 h ve L:=by
  rcases s with⟨h1,h2⟩|⟨b,h2,h3,h4,h5⟩
  .exact .inl ⟨h1,.inl h2⟩
  .exact .inr ⟨b,h2,Nat.zero_le _,h3,h4,h5⟩
 refine C5 (a:=⟨0,.nil,h.lo⟩) JD JE YYQ YYQ own hx ⟨Nat.zero_le _,rfl,λb hb=>absurd hb (Nat.not_lt_zero _)⟩ (by simp;omega) hlo V ?_;intro v' h' ho _ _ n1 l1 hf hnew;obtain⟨b',hb',hge⟩:=hnew (by simp);have same:∀b vs t o,b<h.nx->h.bl.get b=some (ah vs t o)->t≠59->h'.bl.get b=h.bl.get b:=λb vs t o hb hg ht=>hf b hb λn c e=>by
  rcases s with⟨_,h2⟩|⟨b2,h2,_,_,h5⟩
  .rw[h2]at e;cases e
  .rw[h2]at e;cases e;rw[h5]at hg;exact ht (cW hg).1.symm
 refine hk v' h' (.inr ?_) ⟨n1,l1,λc hc _ hm=>hf c hc λn cc e=>?_,λc hc hfc=>?_⟩ same
 .rcases ho with⟨e,_⟩|⟨b3,e3,_,e4,e5,e6⟩
  .simp at e
  .exact⟨b3,e3,e4,e5,e6⟩
 .rcases s with⟨_,h2⟩|⟨b2,h2,_,_,h5⟩
  .rw[h2]at e;cases e
  .rw[h2]at e;cases e;exact hm _ _ _ (.inr (.inr rfl)) h5
 .obtain⟨h3,vs,h4⟩:=p.fb c hfc;exact same c vs _ _ hc h4 YYQ
end
def TL(t:TypeId):Prop:=t=37\/t=45
abbrev jY:=KT TL
theorem jY.trans{h h1 h2:af}(x:jY h h1)(y:jY h1 h2):jY h h2:=⟨Nat.le_trans x.nx y.nx,y.lo.trans x.lo,λd vs t o hd hg ht=>by
 have e:=x.ty d vs t o hd hg ht;exact(y.ty d vs t o (Nat.lt_of_lt_of_le hd x.nx) (e.trans hg) ht).trans e⟩
theorem IC.kq{a:TA}{h h':af}(k:IC a h h'):jY h h':=k.kt.mono λt ht=>by rcases ht with rfl|rfl<;>(unfold MTy;decide)
theorem FK.kq{a:TA}{h h':af}(k:FK a h h'):jY h h':=⟨k.nx,k.lo,λd vs t o hd hg ht=>k.ty d vs t o hd hg (by rcases ht with rfl|rfl<;>(unfold mT;cases o<;>decide)) (by rcases ht with rfl|rfl<;>(unfold kI;cases o<;>decide)) (by rcases ht with rfl|rfl<;>(unfold EC;decide))⟩
section
variable {h:af}{A:MA}{v:MV}{M:List (Int × Int)}{x:Int}{w u:Nat}
theorem Idle.bp{E:EN}(s:Idle E M x w u h):BP E.a h/\h.lo<=h.nx:=by
 obtain⟨G,N,has,aL,asked,a,_⟩:=s;exact⟨(a.w nr 0).bps,a.lo⟩
theorem Br{E:EN}(s:Idle E M x w u h)(V:KQ)(hk:V (YYX x) h):aq prog 77 [pt E.z.ab] h V:=by
 obtain⟨G,N,has,aL,asked,a,_⟩:=s;exact Uo a V hk
theorem PW(s:ow h A v)(I:Idle A.E M x w u h)(k t r m wv:Int)(W:Nat->Prop)(hP:v.P.length<=5000)(hE:v.ev.length<=5000)(hpk:0<=v.eV)(jx:∀h1 (κ1:Value->af->Prop),Idle A.E M x w u h1->(∀S,nX A.E M S->∀w' e h',W w'->S (u+1) w' e h'->FK A.E.a h1 h'->κ1 (YYX 0) h')->aq prog 101 [pt A.E.z.ab,.agg ⟨[YYX k,YYX x,YYX t,YYX r,YYX m,YYX 0]⟩,YYX wv] h1 κ1)(V:KQ)(hk:∀S,nX A.E M S->∀w' e h' p' c' v',W w'->S (u+1) w' e h'->ow h' A v'->v'.P=v.P++[p']->v'.C=v.C++[c']->v'.call=(v.P.length:Int)->v'.pos=v.pos->v'.lt=v.lt->v'.eV=v.eV->v'.jG=v.jG->v'.ev.length=v.ev.length+1->UL e p' c'->jY h h'->V (.tuple ⟨[]⟩) h'):aq prog 84 [pt A.tb,.agg ⟨[YYX k,YYX 0,YYX t,YYX r,YYX m,YYX 0]⟩,YYX wv] h V:=by
 obtain⟨bp,hlo⟩:=I.bp;have lC:=s.len;apply YYW;rw[ahs];simp(disch:=try exact Y)only[Wz];obtain⟨hA,bg,aS,gA,dP,dQ⟩:=jH h (ah [YYX k,YYX 0,YYX t,YYX r,YYX m,YYX 0] 57 false);rw[<-bg]
 try rw[show(h.bl.bt (h.nx) (ah [YYX k,YYX 0,YYX t,YYX r,YYX m,YYX 0] 57 false))=hA.bl by rw[bg]]
 clear bg;have IA:=I.ic (IC.of_le aS);have sA:=s.le aS bp;have bpA:=IA.bp.1;have gt:=sA.gt;have gm:=sA.gm;unfold lW at gt;unfold j_ at gm;obtain⟨px,pc,ep,_⟩:=sA.pp.sl;simp(disch:=try exact Y)only[Wz,aJ,gt];refine Br IA _ ?_;have hm0:=gm;rw[ep]at hm0;have e1:h.nx≠A.tb:=cr gA gt YYQ;have e2:h.nx≠A.mb:=cr gA gm YYQ;have l2:=sA.sj.2;have l3:=sA.iN.2;simp(disch:=try exact Y)only[Wz,aJ,gA,gt,hm0,e1,e2];obtain⟨hB,eB⟩:∃hB:af,hB=⟨hA.nx,hA.bl.bt h.nx (ah [YYX k,YYX x,YYX t,YYX r,YYX m,YYX 0] 57 false),hA.lo⟩:=⟨_,rfl⟩
 have CO:Le h hB:=by rw[eB];exact aS.set (Nat.le_refl _) _
 have gB:hB.bl.get h.nx=some (ah [YYX k,YYX x,YYX t,YYX r,YYX m,YYX 0] 57 false):=by rw[eB];exact T.az _ _ _
 have IB:=I.ic (IC.of_le CO);have sB:=s.le CO bp;have bpB:=IB.bp.1;obtain⟨sC,kC⟩:=sB.Yj bpB { v with call:=(v.P.length:Int) } rfl;have gtB:=sB.gt;unfold lW at gtB;have gC:(hB.bl.bt A.tb (lW A { v with call:=(v.P.length:Int) })).get h.nx=some (ah [YYX k,YYX x,YYX t,YYX r,YYX m,YYX 0] 57 false):=(T.aD _ _ (cr gtB gB YYQ)).trans gB;obtain⟨hC,eC⟩:∃hC:af,hC=⟨hB.nx,hB.bl.bt A.tb (lW A { v with call:=(v.P.length:Int) }),hB.lo⟩:=⟨_,rfl⟩
 have eC2:hC.bl=(hA.bl.bt h.nx (ah [YYX k,YYX x,YYX t,YYX r,YYX m,YYX 0] 57 false)).bt A.tb (ah [pt A.E.z.ab,pt A.mb,YYX 0,A.vo,YYX (v.pos:Int),YYX (v.P.length:Int),.bool v.lt] 75 false):=by rw[eC,eB];rfl
 have eC3:hC.nx=hA.nx/\hC.lo=hA.lo:=by rw[eC,eB];exact⟨rfl,rfl⟩
 rw[<-eC]at sC kC;have gC:hC.bl.get h.nx=some (ah [YYX k,YYX x,YYX t,YYX r,YYX m,YYX 0] 57 false):=by rw[eC];exact gC
 have IC0:=IB.ic kC;have hCe:(⟨hA.nx,hC.bl,hA.lo⟩:af)=hC:=by rw[<-eC3.1,<-eC3.2]
 rw[<-eC2,hCe];clear hCe eC eC2 eB gtB gt gm hm0;have nC:hC.nx=h.nx+1:=by omega
 have gt:=sC.gt;have gm:=sC.gm;unfold lW at gt;unfold j_ at gm;simp(disch:=try exact Y)only[Wz,aJ,gC,gt,gm];have bpC:=IC0.bp.1;obtain⟨hD,LK,pM,gD,ao3,ao4⟩:=jH hC (ah [YYX (v.P.length:Int),YYX 0,.bool true,YYX k,YYX x,YYX t,YYX r,YYX m,YYX 0] 59 false);rw[<-LK]
 try rw[show(hC.bl.bt (hC.nx) (ah [YYX (v.P.length:Int),YYX 0,.bool true,YYX k,YYX x,YYX t,YYX r,YYX m,YYX 0] 59 false))=hD.bl by rw[LK]]
 clear LK;have sD:=sC.le pM bpC;have ID:=IC0.ic (IC.of_le pM);have bpD:=ID.bp.1;have Vr:Sl vU hD (YYU hC.nx 1 1) [⟨(v.P.length:Int),0,true,k,x,t,r,m,0⟩]:=Sl.new (enc:=vU) (L:=[⟨(v.P.length:Int),0,true,k,x,t,r,m,0⟩]) (e:=59) (op:=false) YYZ gD 1;have loD:=ID.bp.2;refine NI (a:=A.E.a) sD.se bpD Vr (by show v.ev.length<=10000;omega) loD _ ?_;intro NJ h1 q1 k1 f1;obtain⟨vb,vc1,ev1⟩:∃b c,NJ=YYU b c aX:=by
  rcases q1 with⟨e,_⟩|⟨b,e,_⟩
  .simp at e
  .exact⟨_,_,e⟩
 have gm1:h1.bl.get A.mb=_:=(f1 A.mb _ _ _ sD.iN.1 ((pM.get _ sC.iN.1).trans gm) YYQ).trans ((pM.get _ sC.iN.1).trans gm);have gt1:h1.bl.get A.tb=_:=(f1 A.tb _ _ _ sD.sj.1 ((pM.get _ sC.sj.1).trans gt) YYQ).trans ((pM.get _ sC.sj.1).trans gt);have gC1:h1.bl.get h.nx=_:=(f1 h.nx _ _ _ YYZ ((pM.get _ YYZ).trans gC) YYQ).trans ((pM.get _ YYZ).trans gC);have OJ:h1.lo<=A.mb:=by rw[k1.lo];exact sD.iN.2
 rw[ev1];have lmC:=sC.iN.1;have n1:=k1.nx;have blD:Vi h1 A { v with call:=(v.P.length:Int) }:=sD.bl.keep k1.nx k1.lo λb vs t o hb hg _ ht=>f1 b vs t o hb hg ht;have I1:=ID.ic k1;have bp1:=I1.bp.1;have oiE:∀{u:Value}{L:List Int}{o:Option Nat},vZ A.E.a hD u L o->vZ A.E.a h1 u L o:=λq=>q.keep k1.nx k1.lo (λb hb=>by
  rcases q.e with⟨_,_,e⟩|⟨b2,e1,_,e3,_,e5⟩
  .rw[e]at hb;cases hb
  .rw[e1]at hb;cases hb;exact f1 _ _ _ _ e3 e5 YYQ) (bpD.ic k1).2
 obtain⟨s2,k2⟩:=blD.JG bp1 { v with call:=(v.P.length:Int),ve:=NJ,ev:=v.ev++[⟨(v.P.length:Int),0,true,k,x,t,r,m,0⟩] } ⟨rfl,rfl,rfl⟩ q1 (oiE sD.pp) (oiE sD.cc) s.ne s.len;obtain⟨h2,e2⟩:∃h2:af,h2=⟨h1.nx,h1.bl.bt A.mb (j_ A { v with call:=(v.P.length:Int),ve:=NJ,ev:=v.ev++[⟨(v.P.length:Int),0,true,k,x,t,r,m,0⟩] }),h1.lo⟩:=⟨_,rfl⟩
 rw[<-e2]at s2 k2;have n2:h2.nx=h1.nx:=by rw[e2]
 have l2':h2.lo=h1.lo:=by rw[e2]
 have UM:h1.bl.bt A.mb (ah [pt A.E.A.wb,YYU A.hb 1 aX,NJ,v.vp,v.vc,YYX v.eV,YYX v.jG,YYU A.pk 5 5] 69 false)=h2.bl:=by rw[e2];rfl
 rw[ev1]at UM;have I2:=I1.ic k2;have bp2:=I2.bp.1;have lo2:=I2.bp.2;have gC2:h2.bl.get h.nx=some (ah [YYX k,YYX x,YYX t,YYX r,YYX m,YYX 0] 57 false):=by rw[e2];exact(T.aD _ _ (cr gm1 gC1 YYQ)).trans gC1
 have hpo:∀b,v.po=some b->b<h.nx:=λb hb=>by
  rcases s.pp.e with⟨_,_,e⟩|⟨b2,e1,_,e3,_⟩
  .rw[e]at hb;cases hb
  .rw[e1]at hb;cases hb;exact e3
 have hco:∀b,v.co=some b->b<h.nx:=λb hb=>by
  rcases s.cc.e with⟨_,_,e⟩|⟨b2,e1,_,e3,_⟩
  .rw[e]at hb;cases hb
  .rw[e1]at hb;cases hb;exact e3
 have hvc:lE 8 v.vc v.vc=true:=by
  rcases s.cc.e with⟨_,e,_⟩|⟨b2,_,e,_⟩
  .rw[e];exact pY _ _
  .rw[e];exact iD _ _ _ _
 simp(disch:=try exact Y)only[Wz,aJ,gm1];rw[UM,show h1.nx=h2.nx from n2.symm,show h1.lo=h2.lo from l2'.symm];clear e2 UM;obtain⟨hE,ae4,NK,gE1,gE2,au5,au6⟩:=Km h2 (ah [YYX (-1)] 3 false) (ah [YYX 0] 3 false);rw[<-ae4]
 try rw[show((h2.bl.bt (h2.nx) (ah [YYX (-1)] 3 false)).bt (h2.nx+1) (ah [YYX 0] 3 false))=hE.bl by rw[ae4]]
 clear ae4;have sE:=s2.le NK bp2;have IE:=I2.ic (IC.of_le NK);have bpE:=IE.bp.1;have loE:=IE.bp.2;refine NF (a:=A.E.a) (L:=v.P) (o:=v.po) sE.pp bpE.pb bpE.lt (λc hc=>(bpE.fb c hc).1) (Sl.new (enc:=cQ) (L:=[-1]) (e:=3) (op:=false) YYZ gE1 1) YYZ loE _ ?_;rintro vP o3 h3 q3 k3 p3 f3 ⟨b3,eb3,hb3⟩;have n3:=k3.nx;have I3:=IE.ic k3;have bp3:=I3.bp.1;have lo3:=I3.bp.2;have hf3:∀b,b<hE.nx->h.nx<=b->h3.bl.get b=hE.bl.get b:=λb hb hge=>f3 b hb λe=>by have:=hpo b e;omega
 have ni3:∀b vs t o,b<hE.nx->hE.bl.get b=some (ah vs t o)->t≠3->h3.bl.get b=hE.bl.get b:=λb vs t o hb hg ht=>f3 b hb λe=>by
  rcases sE.pp.e with⟨_,_,e'⟩|⟨b2,e1,_,e3,_,e5⟩
  .have e':v.po=none:=e';rw[e']at e;cases e
  .have e1:v.po=some b2:=e1;rw[e1]at e;cases e;rw[hg]at e5;exact ht (cW e5).1
 have bl3:Vi h3 A _:=sE.bl.keep k3.nx k3.lo λb vs t o hb hg ht _=>ni3 b vs t o hb hg ht;have se3:=sE.se.keep k3.nx k3.lo λb hb hg=>ni3 b _ _ _ hb hg YYQ;have cc3:=sE.cc.keep k3.nx k3.lo (λb hb=>f3 b (by have:=hco b hb;omega) λe=>sE.ne b e hb) p3;have ao7:h3.bl.get (h2.nx+1)=some (ah [YYX 0] 3 false):=(hf3 _ YYZ YYZ).trans gE2;have gC3:h3.bl.get h.nx=some (ah [YYX k,YYX x,YYX t,YYX r,YYX m,YYX 0] 57 false):=(hf3 _ YYZ YYZ).trans ((NK.get _ YYZ).trans gC2);have gm3:=bl3.gm;unfold j_ at gm3;simp(disch:=try exact Y)only[Wz,aJ,gm3,hvc];refine NF (a:=A.E.a) (L:=v.C) (o:=v.co) cc3 bp3.pb bp3.lt (λc hc=>(bp3.fb c hc).1) (Sl.new (enc:=cQ) (L:=[0]) (e:=3) (op:=false) YYZ ao7 1) YYZ lo3 _ ?_;rintro vC o4 h4 q4 k4 p4 f4 ⟨b4,eb4,hb4⟩;have n4:=k4.nx;have I4:=I3.ic k4;have bp4:=I4.bp.1;have ni4:∀b vs t o,b<h3.nx->h3.bl.get b=some (ah vs t o)->t≠3->h4.bl.get b=h3.bl.get b:=λb vs t o hb hg ht=>f4 b hb λe=>by
  rcases cc3.e with⟨_,_,e'⟩|⟨b2,e1,_,e3,_,e5⟩
  .have e':v.co=none:=e';rw[e']at e;cases e
  .have e1:v.co=some b2:=e1;rw[e1]at e;cases e;rw[hg]at e5;exact ht (cW e5).1
 have bl4:Vi h4 A _:=bl3.keep k4.nx k4.lo λb vs t o hb hg ht _=>ni4 b vs t o hb hg ht;have se4:=se3.keep k4.nx k4.lo λb hb hg=>ni4 b _ _ _ hb hg YYQ;have hlt3:b3<h3.nx:=by
  rcases q3.e with⟨_,_,e⟩|⟨b2,e1,_,e3,_⟩
  .rw[e]at eb3;cases eb3
  .rw[e1]at eb3;cases eb3;exact e3
 have q34:=q3.keep k4.nx k4.lo (λb hb=>f4 b (by rw[eb3]at hb;cases hb;exact hlt3) λe=>by
  rw[eb3]at hb;cases hb;have:=hco _ e;omega) p4
 have gC4:h4.bl.get h.nx=some (ah [YYX k,YYX x,YYX t,YYX r,YYX m,YYX 0] 57 false):=(f4 _ YYZ λe=>by have:=hco _ e;omega).trans gC3;obtain⟨vpb,evP⟩:∃b,vP=YYU b (v.P++[-1]).length aX:=by
  rcases q3.e with⟨e,_⟩|⟨b2,_,e,_⟩
  .simp at e
  .exact⟨b2,e⟩
 obtain⟨vcb,evC⟩:∃b,vC=YYU b (v.C++[0]).length aX:=by
  rcases q4.e with⟨e,_⟩|⟨b2,_,e,_⟩
  .simp at e
  .exact⟨b2,e⟩
 have ao_:(v.C++[0]).length=(v.P++[-1]).length:=by
  rw[List.length_append,List.length_append,lC];rfl
 obtain⟨s5,k5⟩:=bl4.JG bp4 { v with call:=(v.P.length:Int),ve:=NJ,ev:=v.ev++[⟨(v.P.length:Int),0,true,k,x,t,r,m,0⟩],vp:=vP,vc:=vC,P:=v.P++[-1],C:=v.C++[0],po:=o3,co:=o4 } ⟨rfl,rfl,rfl⟩ se4 q34 q4 (λb hb e=>by
  have hb:o3=some b:=hb;have e:o4=some b:=e;rw[eb3]at hb;cases hb;rw[eb4]at e;cases e;omega) ao_
 have gm4:=bl4.gm;unfold j_ at gm4;obtain⟨h5,e5⟩:∃h5:af,h5=⟨h4.nx,h4.bl.bt A.mb (j_ A { v with call:=(v.P.length:Int),ve:=NJ,ev:=v.ev++[⟨(v.P.length:Int),0,true,k,x,t,r,m,0⟩],vp:=vP,vc:=vC,P:=v.P++[-1],C:=v.C++[0],po:=o3,co:=o4 }),h4.lo⟩:=⟨_,rfl⟩
 rw[<-e5]at s5 k5;have I5:=I4.ic k5;have bp5:=I5.bp.1;have gC5:h5.bl.get h.nx=some (ah [YYX k,YYX x,YYX t,YYX r,YYX m,YYX 0] 57 false):=by rw[e5];exact(T.aD _ _ (cr gm4 gC4 YYQ)).trans gC4
 have eb5:h4.bl.bt A.mb (ah [pt A.E.A.wb,YYU A.hb 1 aX,NJ,vP,vC,YYX v.eV,YYX v.jG,YYU A.pk 5 5] 69 false)=h5.bl:=by rw[e5];rfl
 have eh5:(⟨h4.nx,h5.bl,h4.lo⟩:af)=h5:=by rw[e5]
 have avf:h4.lo<=A.mb:=bl4.iN.2;rw[evP,evC]at eb5;have gt5:=s5.gt;unfold lW at gt5;clear e5;rw[evP,evC];simp(disch:=try exact Y)only[Wz,aJ,gm4];rw[eb5,eh5];simp(disch:=try exact Y)only[Wz,aJ,gt5,gC5];refine jx h5 _ I5 ?_;intro S Pr w' e h6 hW st6 f6;have s6:=s5.fk f6 bp5;refine JI Pr s6 st6 (P0:=v.P) (p:=-1) (C0:=v.C) (c:=0) rfl rfl rfl YYZ hpk (.inl ⟨rfl,rfl⟩) _ ?_;intro h7 p' c' s7 st7 k7 nt;have kq:jY h h7:=jY.trans (jY.trans (jY.trans (jY.trans (jY.trans (jY.trans (jY.trans (jY.trans (jY.trans (KT.le CO) kC.kq) (KT.le pM)) k1.kq) k2.kq) (KT.le NK)) k3.kq) k4.kq) k5.kq) (jY.trans f6.kq k7.kq);exact hk S Pr w' e h7 p' c' _ hW st7 s7 rfl rfl rfl rfl rfl rfl rfl (by show(v.ev++[_]).length=_;simp) nt kq
end
def UN:bO:=.map [xu 1 85 0,xu 9 86 1,xu 10 87 2,xu 11 70 3] 4
theorem ae6(h:af)(V:KQ)(hlo:h.lo<=h.nx)(hk:∀b h',Le h h'->h'.bl.get b=some UN->V (.map (some b)) h'):aq prog 71 [] h V:=by
 apply YYW;rw[ahk];simp(disch:=try exact Y)only[Wz,gR];have nf:∀(h:af)(k k':Int)(f:FuncId)(n:Nat)(es:List MapEntry)(i:Nat),k≠k'->gH prog h 3 (YYX k) (xu k' f n::es) i=gH prog h 3 (YYX k) es (Nat.succ i):=λh k k' f n es i e=>by rw[findF,if_neg e]
 refine tN (es:=[]) (T.az _ _ _) (by exact hlo) 1 85 (λh=>rfl) _ ?_;refine tN (T.az _ _ _) (by exact hlo) 9 86 (λh=>by simp only[List.nil_append,List.cons_append];rw[nf _ _ _ _ _ _ _ YYQ];rfl) _ ?_;refine tN (T.az _ _ _) (by exact hlo) 10 87 (λh=>by simp only[List.nil_append,List.cons_append];rw[nf _ _ _ _ _ _ _ YYQ,nf _ _ _ _ _ _ _ YYQ];rfl) _ ?_;refine tN (T.az _ _ _) (by exact hlo) 11 70 (λh=>by simp only[List.nil_append,List.cons_append];rw[nf _ _ _ _ _ _ _ YYQ,nf _ _ _ _ _ _ _ YYQ,nf _ _ _ _ _ _ _ YYQ];rfl) _ ?_;exact hk h.nx _ ((((((Le.refl h).new _).set (Nat.le_refl _) _).set (Nat.le_refl _) _).set (Nat.le_refl _) _).set (Nat.le_refl _) _) (T.az _ _ _)
def Qf(k:Int):Value:=if k=1 then .tuple ⟨[.func (.func 85) ⟨[]⟩ ⟨[]⟩,.bool true]⟩else if k=9 then .tuple ⟨[.func (.func 86) ⟨[]⟩ ⟨[]⟩,.bool true]⟩else if k=10 then .tuple ⟨[.func (.func 87) ⟨[]⟩ ⟨[]⟩,.bool true]⟩else if k=11 then .tuple ⟨[.func (.func 70) ⟨[]⟩ ⟨[]⟩,.bool true]⟩else .tuple ⟨[Value.nilFunc,.bool false]⟩
theorem ae7{β:Type}{fl:β}{h:af}{b:Nat}(g:h.bl.get b=some UN)(k:Int)(V:YYY β):dw fl prog 3 Value.nilFunc true (.map (some b)) (YYX k) h V=V (Qf k) h:=by
 unfold dw jJ Qf;rw[O2];simp only[g,UN];by_cases h1:k=1
 .rw[if_pos h1,findF,if_pos h1];rfl
 rw[if_neg h1,findF,if_neg h1,findF];by_cases h2:k=9
 .rw[if_pos h2,if_pos h2];rfl
 rw[if_neg h2,if_neg h2,findF];by_cases h3:k=10
 .rw[if_pos h3,if_pos h3];rfl
 rw[if_neg h3,if_neg h3,findF];by_cases h4:k=11
 .rw[if_pos h4,if_pos h4];rfl
 rw[if_neg h4,if_neg h4];rfl
section
variable {h:af}{A:MA}{v:MV}{M:List (Int × Int)}{x:Int}{w u:Nat}
theorem UO(s:ow h A v)(I:Idle A.E M x w u h)(ht:0<=v.jG/\v.jG<=5000)(eG:A.E.z.most=2)(o:vM)(V:KQ)(hk:∀h' Z2 x' w',ow h' A { v with jG:=Z2 }->Idle A.E M x' w' u h'->1<=x'->(x=0/\w'<=14\/1<=x/\w'<=w)->v.jG<=Z2/\Z2<=v.jG+1->jY h h'->V (.tuple ⟨[]⟩) h'):aq prog 85 [pt A.tb,.agg ⟨iS o⟩] h V:=by
 obtain⟨bp,hlo⟩:=I.bp;apply YYW;rw[aht];simp(disch:=try exact Y)only[Wz,iS];obtain⟨hA,bg,aS,gO,dP,dQ⟩:=jH h (ah [YYX o.k,YYX o.t,YYX o.r,YYX o.m,YYX o.v,YYX o.w] 29 false);rw[<-bg]
 try rw[show(h.bl.bt (h.nx) (ah [YYX o.k,YYX o.t,YYX o.r,YYX o.m,YYX o.v,YYX o.w] 29 false))=hA.bl by rw[bg]]
 clear bg;have IA:=I.ic (IC.of_le aS);have sA:=s.le aS bp;have bpA:=IA.bp.1;have gt:=sA.gt;have gm:=sA.gm;unfold lW at gt;unfold j_ at gm;simp(disch:=try exact Y)only[Wz,aJ,gt];refine Br IA _ ?_;by_cases hx:x=0
 .subst hx;have l3:=sA.iN.2;simp (maxSteps:=3000000) (disch:=try exact Y)only[Wz,bf (show(0:Int)=0 by rfl),M0,aJ,gt,gm,aaB];obtain⟨s2,k2⟩:=sA.JG bpA { v with jG:=v.jG+1 } rfl sA.se sA.pp sA.cc sA.ne sA.len;obtain⟨h2,e2⟩:∃h2:af,h2=⟨hA.nx,hA.bl.bt A.mb (j_ A { v with jG:=v.jG+1 }),hA.lo⟩:=⟨_,rfl⟩
  rw[<-e2]at s2 k2;have UM:hA.bl.bt A.mb (ah [pt A.E.A.wb,YYU A.hb 1 aX,v.ve,v.vp,v.vc,YYX v.eV,YYX (v.jG+1),YYU A.pk 5 5] 69 false)=h2.bl:=by rw[e2];rfl
  have eh2:(⟨hA.nx,h2.bl,hA.lo⟩:af)=h2:=by rw[e2]
  have Z3:=s2.gt;have SY:=s2.gm;unfold lW at Z3;unfold j_ at SY;have I2:=IA.ic k2;rw[UM,eh2];clear e2 UM eh2;simp(disch:=try exact Y)only[Wz,aJ,Z3,SY];obtain⟨G,N,has,aL,asked,a,op,pl,hN,h4⟩:=I2;obtain⟨rfl,rfl,pg⟩:has=[]/\asked=[]/\UC A.E M aL G:=by
   rcases h4 with⟨_,h5⟩|⟨h4,_⟩
   .exact h5
   .omega
  refine PM a rfl (v.jG+1) YYZ _ ?_;intro h3 a3 f3;have tX:=a.th;have A4:mY (v.jG+1) (yE A.E) [] aL G:=by
   refine⟨λt r p hp=>.inr (by rw[pg.all t r p hp]),λt r m' hp=>?_,λt r h=>absurd rfl h,λt r m' hp=>?_⟩
   .have:=congrArg Prod.fst (pg.all t r _ hp);have:v.jG+1 = -1-A.E.z.th:=this;omega
   .exact(congrArg Prod.snd (pg.all t r _ hp)).symm
  refine hk h3 (v.jG+1) (v.jG+1) 14 (s2.fk f3 (a.w nr 0).bps) ⟨G,N,[],aL,[],a3,op,pl,hN,.inr ⟨YYZ,A4,kK.nil _,kK.nil _,?_⟩⟩ YYZ (.inl ⟨rfl,Nat.le_refl _⟩) ⟨YYZ,Int.le_refl _⟩ (jY.trans (jY.trans (KT.le aS) k2.kq) f3.kq)
  show 8+3*(0+aL.length)<=14
  omega
 ·have h1:1<=x:=by
   obtain⟨G,N,has,aL,asked,_,_,_,_,h4⟩:=I;rcases h4 with⟨h4,_⟩|⟨h4,_⟩
   .exact absurd h4 hx
   .exact h4
  simp(disch:=try exact Y)only[Wz,aZ hx];exact hk hA v.jG x w sA IA h1 (.inr ⟨h1,Nat.le_refl _⟩) ⟨Int.le_refl _,YYZ⟩ (KT.le aS)
end
structure MN(A:MA)(k pk:Nat)(v:MV):Prop where
 pos:v.pos<=A.O.length
 tx:0<=v.jG/\v.jG<=(k:Int)
 pk:v.eV=(pk:Int)
 P:v.P.length<=k
 ev:v.ev.length<=2*k
structure Z4(A:MA)(M:List (Int × Int))(k pk F:Nat)(h:af):Prop where
 ex:∃(v:MV)(x:Int)(w u:Nat),ow h A v/\MN A k pk v/\Idle A.E M x w u h/\u<=k/\(v.lt=true->1<=x)/\(∀c∈v.C,NH c)/\40*(A.O.length-v.pos)+(if x=0 then 0 else w)<=F
structure tT(A:MA)(M:List (Int × Int))(k pk F:Nat)(h:af):Prop where
 ex:∃(v:MV)(S:Nat->Nat->Bool->af->Prop)(w u:Nat)(e:Bool)(P0:List Int)(p:Int)(C0:List Int)(c:Int),ow h A v/\MN A k pk v/\nX A.E M S/\S u w e h/\u<=k/\v.P=P0++[p]/\v.C=C0++[c]/\v.call=(P0.length:Int)/\(∀c∈C0,NH c)/\UL e p c/\40*(A.O.length-v.pos)+w<=F
def EP(A:MA)(M:List (Int × Int))(k pk F:Nat)(h:af):Prop:=Z4 A M k pk F h\/tT A M k pk F h
section
variable {h:af}{A:MA}{v:MV}{M:List (Int × Int)}{x:Int}{w u k pk:Nat}
theorem MN.up(n:MN A k pk v):MN A (k+1) pk v:=⟨n.pos,⟨n.tx.1,by have:=n.tx.2;omega⟩,n.pk,by have:=n.P;omega,by have:=n.ev;omega⟩
theorem Idle.x01(I:Idle A.E M x w u h):x=0\/1<=x:=by
 obtain⟨G,N,has,aL,asked,_,_,_,_,h4⟩:=I;rcases h4 with⟨h4,_⟩|⟨h4,_⟩
 .exact .inl h4
 .exact .inr h4
variable (s:ow h A v)(n:MN A k pk v)(I:Idle A.E M x w u h)(hu:u<=k)(yu:k<=600)(hl:v.lt=true->1<=x)(hc:∀c∈v.C,NH c)
include s n I hu yu hc
theorem Bs(k1 t r m wv:Int)(B:Nat)(jx:∀h1 (κ1:Value->af->Prop),Idle A.E M x w u h1->(∀S,nX A.E M S->∀w' e h',w'<=B->S (u+1) w' e h'->FK A.E.a h1 h'->κ1 (YYX 0) h')->aq prog 101 [pt A.E.z.ab,.agg ⟨[YYX k1,YYX x,YYX t,YYX r,YYX m,YYX 0]⟩,YYX wv] h1 κ1)(V:KQ)(hk:∀h',tT A M (k+1) pk (40*(A.O.length-v.pos)+B) h'->jY h h'->V (.tuple ⟨[]⟩) h'):aq prog 84 [pt A.tb,.agg ⟨[YYX k1,YYX 0,YYX t,YYX r,YYX m,YYX 0]⟩,YYX wv] h V:=by
 have q1:=n.P;have q2:=n.ev;have q3:=n.pk;refine PW s I k1 t r m wv (λw'=>w'<=B) YYZ YYZ YYZ jx V ?_;intro S Pr w' e h' p' c' v' hW st s' e1 e2 e3 e4 e5 e6 e7 e8 nt kl;refine hk h' ⟨v',S,w',u+1,e,v.P,p',v.C,c',s',⟨by rw[e4];exact n.pos,?_,by rw[e6];exact n.pk,?_,YYZ⟩,Pr,st,YYZ,e1,e2,e3,hc,nt,?_⟩ kl
 .have:=n.tx;rw[e7];omega
 .rw[e1,List.length_append,List.length_singleton];omega
 .rw[e4];have:w'<=B:=hW;omega
include hl
theorem NL(hM:M.length<=25)(eG:A.E.z.most=2)(o:vM)(V:KQ)(hk:∀h',EP A M (k+1) pk (40*(A.O.length-v.pos)+(if x=0 then 0 else w-7)) h'->jY h h'->V (.tuple ⟨[]⟩) h'):aq prog 70 [pt A.tb,.agg ⟨iS o⟩] h V:=by
 obtain⟨bp,hlo⟩:=I.bp;apply YYW;rw[ahj];simp(disch:=try exact Y)only[Wz,iS];obtain⟨hA,bg,aS,gO,dP,dQ⟩:=jH h (ah [YYX o.k,YYX o.t,YYX o.r,YYX o.m,YYX o.v,YYX o.w] 29 false);rw[<-bg]
 try rw[show(h.bl.bt (h.nx) (ah [YYX o.k,YYX o.t,YYX o.r,YYX o.m,YYX o.v,YYX o.w] 29 false))=hA.bl by rw[bg]]
 clear bg;have IA:=I.ic (IC.of_le aS);have sA:=s.le aS bp;have gt:=sA.gt;unfold lW at gt;simp(disch:=try exact Y)only[Wz,aJ,gt];refine Br IA _ ?_;rcases I.x01 with rfl|hx
 .simp(disch:=try exact Y)only[Wz];exact hk hA (.inl ⟨v,0,w,u,sA,n.up,IA,YYZ,hl,hc,Nat.le_refl _⟩) (KT.le aS)
 .simp(disch:=try exact Y)only[Wz,aZ (show ¬x=0 by omega)];refine Bs (k:=k) sA n IA hu yu hc 3 0 0 0 0 (w-7) (λh1 κ1 I1 K=>ae2 hM eG YYZ I1 hx κ1 λS Pr w' e h' hw=>K S Pr w' e h' YYZ) _ ?_;intro h2 r2 kl2;rw[if_neg (show ¬x=0 by omega)]at hk;exact hk h2 (.inr r2) (jY.trans (KT.le aS) kl2)
theorem UP(hM:M.length<=25)(eG:A.E.z.most=2)(o:vM)(ho:Uq o)(h9:o.k=9)(hin:(o.t,o.r)∈M)(LJ:∀a∈lN o.t o.r,a∈M)(V:KQ)(hk:∀h',EP A M (k+1) pk (40*(A.O.length-v.pos)+(if x=0 then 0 else w+38)) h'->jY h h'->V (.tuple ⟨[]⟩) h'):aq prog 86 [pt A.tb,.agg ⟨iS o⟩] h V:=by
 obtain⟨bp,hlo⟩:=I.bp;apply YYW;rw[ahu];simp(disch:=try exact Y)only[Wz,iS];obtain⟨hA,bg,aS,gO,dP,dQ⟩:=jH h (ah [YYX o.k,YYX o.t,YYX o.r,YYX o.m,YYX o.v,YYX o.w] 29 false);rw[<-bg]
 try rw[show(h.bl.bt (h.nx) (ah [YYX o.k,YYX o.t,YYX o.r,YYX o.m,YYX o.v,YYX o.w] 29 false))=hA.bl by rw[bg]]
 clear bg;have IA:=I.ic (IC.of_le aS);have sA:=s.le aS bp;have gt:=sA.gt;unfold lW at gt;simp(disch:=try exact Y)only[Wz,aJ,gt];refine Br IA _ ?_;rcases I.x01 with rfl|hx
 .simp(disch:=try exact Y)only[Wz];exact hk hA (.inl ⟨v,0,w,u,sA,n.up,IA,YYZ,hl,hc,Nat.le_refl _⟩) (KT.le aS)
 .have m9:=ho.m;have w9:=ho.w;rw[if_pos h9]at m9;have:jC o.k=3:=by rw[h9];rfl
  rw[if_pos (by rw[this];omega)]at w9;simp(disch:=try exact Y)only[Wz,aZ (show ¬x=0 by omega),M1,gO];refine Bs (k:=k) sA n IA hu yu hc 1 o.t o.r o.m o.w (w+38) (λh1 κ1 I1 K=>Yi hM eG YYZ I1 hx (by unfold kn;simp;omega) YYZ ho.l hin LJ o.w w9.1 κ1 λS Pr w' e h' hw=>K S Pr w' e h' hw) _ ?_;intro h2 r2 kl2;rw[if_neg (show ¬x=0 by omega)]at hk;exact hk h2 (.inr r2) (jY.trans (KT.le aS) kl2)
theorem Yl(hM:M.length<=25)(eG:A.E.z.most=2)(o:vM)(ho:Uq o)(V:KQ)(hk:∀h',EP A M (k+1) pk (40*(A.O.length-v.pos)+(if x=0 then 0 else w+38)) h'->jY h h'->V (.tuple ⟨[]⟩) h'):aq prog 87 [pt A.tb,.agg ⟨iS o⟩] h V:=by
 obtain⟨bp,hlo⟩:=I.bp;apply YYW;rw[ahv];simp(disch:=try exact Y)only[Wz,iS];obtain⟨hA,bg,aS,gO,dP,dQ⟩:=jH h (ah [YYX o.k,YYX o.t,YYX o.r,YYX o.m,YYX o.v,YYX o.w] 29 false);rw[<-bg]
 try rw[show(h.bl.bt (h.nx) (ah [YYX o.k,YYX o.t,YYX o.r,YYX o.m,YYX o.v,YYX o.w] 29 false))=hA.bl by rw[bg]]
 clear bg;have IA:=I.ic (IC.of_le aS);have sA:=s.le aS bp;have gt:=sA.gt;unfold lW at gt;simp(disch:=try exact Y)only[Wz,aJ,gt];refine Br IA _ ?_;rcases I.x01 with rfl|hx
 .simp(disch:=try exact Y)only[Wz];exact hk hA (.inl ⟨v,0,w,u,sA,n.up,IA,YYZ,hl,hc,Nat.le_refl _⟩) (KT.le aS)
 .simp(disch:=try exact Y)only[Wz,aZ (show ¬x=0 by omega),gO];refine Bs (k:=k) sA n IA hu yu hc 2 o.t o.r 0 0 (w+38) (λh1 κ1 I1 K=>ae1 hM eG YYZ I1 hx ho.l κ1 λS Pr w' e h' hw=>K S Pr w' e h' hw) _ ?_;intro h2 r2 kl2;rw[if_neg (show ¬x=0 by omega)]at hk;exact hk h2 (.inr r2) (jY.trans (KT.le aS) kl2)
end
section
variable {h:af}{A:MA}{M:List (Int × Int)}{k pk F:Nat}
theorem Ym{v:MV}{x:Int}{w u:Nat}(code:Int)(s:ow h A v)(I:Idle A.E M x w u h)(hE:v.ev.length<=5000)(V:KQ)(hk:∀h' NJ,ow h' A { v with ve:=NJ,ev:=v.ev++[⟨v.call,0,false,0,0,0,0,0,code⟩] }->Idle A.E M x w u h'->jY h h'->V (.tuple ⟨[]⟩) h'):bD False 59 9 [YYX 0,YYX 0,.bool false,YYX 0,YYX 0,YYX 0,YYX 0,YYX 0,YYX 0] false v.ve (YYU h.nx 1 1)
   ⟨h.nx+1,h.bl.bt h.nx (ah [YYX v.call,YYX 0,.bool false,YYX 0,YYX 0,YYX 0,YYX 0,YYX 0,YYX code] 59 false),h.lo⟩
   λv46 h=>bN (bV (uy none (h.bl.get A.tb) 1 λv=>some v) (pt A.mb)) (U0 False (h.bl.get A.mb) 1 A.mb 2 v46.cells.toList h λh=>V (.tuple ⟨[]⟩) h):=by
 obtain⟨bp,hlo⟩:=I.bp;obtain⟨hD,LK,pM,gD,ao3,ao4⟩:=jH h (ah [YYX v.call,YYX 0,.bool false,YYX 0,YYX 0,YYX 0,YYX 0,YYX 0,YYX code] 59 false);rw[<-LK]
 try rw[show(h.bl.bt (h.nx) (ah [YYX v.call,YYX 0,.bool false,YYX 0,YYX 0,YYX 0,YYX 0,YYX 0,YYX code] 59 false))=hD.bl by rw[LK]]
 clear LK;have sD:=s.le pM bp;have ID:=I.ic (IC.of_le pM);have bpD:=ID.bp.1;have loD:=ID.bp.2;have Vr:Sl vU hD (YYU h.nx 1 1) [⟨v.call,0,false,0,0,0,0,0,code⟩]:=Sl.new (enc:=vU) (L:=[⟨v.call,0,false,0,0,0,0,0,code⟩]) (e:=59) (op:=false) YYZ gD 1;refine NI (a:=A.E.a) sD.se bpD Vr YYZ loD _ ?_;intro NJ h1 q1 k1 f1;obtain⟨vb,vc1,ev1⟩:∃b c,NJ=YYU b c aX:=by
  rcases q1 with⟨e,_⟩|⟨b,e,_⟩
  .simp at e
  .exact⟨_,_,e⟩
 have blD:Vi h1 A v:=sD.bl.keep k1.nx k1.lo λb vs t o hb hg _ ht=>f1 b vs t o hb hg ht;have I1:=ID.ic k1;have bp1:=I1.bp.1;have oiE:∀{u:Value}{L:List Int}{o:Option Nat},vZ A.E.a hD u L o->vZ A.E.a h1 u L o:=λq=>q.keep k1.nx k1.lo (λb hb=>by
  rcases q.e with⟨_,_,e⟩|⟨b2,e1,_,e3,_,e5⟩
  .rw[e]at hb;cases hb
  .rw[e1]at hb;cases hb;exact f1 _ _ _ _ e3 e5 YYQ) (bpD.ic k1).2
 obtain⟨s2,k2⟩:=blD.JG bp1 { v with ve:=NJ,ev:=v.ev++[⟨v.call,0,false,0,0,0,0,0,code⟩] } ⟨rfl,rfl,rfl⟩ q1 (oiE sD.pp) (oiE sD.cc) s.ne s.len;have gm1:=blD.gm;have gt1:=blD.gt;unfold j_ at gm1;unfold lW at gt1;have OJ:=blD.iN.2;have I2:=I1.ic k2;have fin:=hk _ NJ s2 I2 (jY.trans (jY.trans (KT.le pM) k1.kq) k2.kq);unfold j_ at fin;rw[ev1]at fin ⊢;simp(disch:=try exact Y)only[Wz,aJ,gm1,gt1];exact fin
theorem Yn(R:tT A M k pk F h)(yu:k<=600)(hF:1<=F)(V:KQ)(hk:∀h',EP A M (k+1) pk (F-1) h'->jY h h'->V (.tuple ⟨[]⟩) h'):aq prog 50 [pt A.tb] h V:=by
 obtain⟨v,S,w,u,e,P0,p,C0,c,s,n,Pr,st,hu,hP,hC,jx,hc,nt,hFw⟩:=R;obtain⟨bp,hlo⟩:=Pr.bp st;have w1:=Pr.pos _ _ _ _ st;have nP:=n.P;have nE:=n.ev;have npk:=n.pk;rw[hP,List.length_append,List.length_singleton]at nP;have gt:=s.gt;unfold lW at gt;obtain⟨G,N,n1,y,out,D,kb,cc,a,hr⟩:=Pr.run _ _ _ _ st;apply YYW;rw[Sf];simp(disch:=try exact Y)only[Wz,aJ,gt];refine mW a _ ?_;simp(disch:=try exact Y)only[Wz,MW,aJ,gt];refine Pr.step u w e h _ st ?_ ?_
 ·intro w' e' h' hw st' f;simp(disch:=try exact Y)only[Wz];have s':=s.fk f bp;have nt0:(p = -1/\c=0)\/(0<=p/\NH c):=by
   rcases nt with⟨a1,a2,_⟩|a1
   .exact .inl ⟨a1,a2⟩
   .exact .inr a1
  refine JI Pr s' st' hP hC jx YYZ YYZ nt0 _ ?_;intro h2 p' c' s2 st2 k2 nt2;refine hk h2 (.inr ⟨_,S,w',u+1,e',P0,p',C0,c',s2,⟨n.pos,by have:=n.tx;exact⟨this.1,by show v.jG<=_;omega⟩,n.pk,?_,by show v.ev.length<=_;omega⟩,Pr,st2,YYZ,rfl,rfl,jx,hc,nt2,?_⟩) (jY.trans f.kq k2.kq)
  .show(P0++[p']).length<=k+1
   rw[List.length_append,List.length_singleton];omega
  .show 40*(A.O.length-v.pos)+w'<=F-1
   omega
 ·intro he code x' w' h' hw I hco hx' f;have okc:NH c:=by
   rcases nt with⟨_,_,a3⟩|⟨_,a4⟩
   .rw[he]at a3;cases a3
   .exact a4
  have s':=s.fk f bp;have bp':=I.bp.1;have loI:=I.bp.2;obtain⟨s2,k2⟩:=s'.Yj bp' { v with lt:=decide (code=5) } rfl;have gt':=s'.gt;unfold lW at gt';have I2:=I.ic k2;have lt':=s'.sj.2;obtain⟨h2,e2⟩:∃h2:af,h2=⟨h'.nx,h'.bl.bt A.tb (lW A { v with lt:=decide (code=5) }),h'.lo⟩:=⟨_,rfl⟩
  rw[<-e2]at s2 k2 I2;have bp2:=I2.bp.1;have lo2:=I2.bp.2;have UM:h2.bl=h'.bl.bt A.tb (ah [pt A.E.z.ab,pt A.mb,YYX 0,A.vo,YYX (v.pos:Int),YYX v.call,.bool (decide (code=5))] 75 false):=by rw[e2];rfl
  have en2:h2.nx=h'.nx/\h2.lo=h'.lo:=by rw[e2];exact⟨rfl,rfl⟩
  have eh2:(⟨h'.nx,h2.bl,h'.lo⟩:af)=h2:=by rw[<-en2.1,<-en2.2]
  clear e2;have Z3:=s2.gt;have SY:=s2.gm;unfold lW at Z3;unfold j_ at SY;have hC2:∀y∈v.C,NH y:=λy hy=>by
   rw[hC]at hy;rcases List.mem_append.1 hy with h1|h1
   .exact hc y h1
   .rw[List.mem_singleton.1 h1];exact okc
  have avm:=s2.iN.2;rcases hco with rfl|rfl|rfl
  all_goals
   first
   |rw[show decide ((1:Int)=5)=false from rfl]at UM Z3
   |rw[show decide ((5:Int)=5)=true from rfl]at UM Z3
   |rw[show decide ((6:Int)=5)=false from rfl]at UM Z3
   simp (maxSteps:=3000000) (disch:=try exact Y)only[Wz,MT,aJ,gt',aZ (show ¬(2:Int)<=1 by decide),bf (show(2:Int)<=5 by decide),bf (show(2:Int)<=6 by decide),bf (show(5:Int)<=5 by decide),aZ (show ¬(6:Int)<=5 by decide)];rw[<-UM,eh2];simp (maxSteps:=3000000) (disch:=try exact Y)only[Wz,aJ,Z3,SY];refine Ym _ s2 I2 (by show v.ev.length<=5000;omega) _ ?_;intro h5 NJ s5 I5 kq5;refine hk h5 (.inl ⟨_,x',w',u+1,s5,⟨n.pos,by have:=n.tx;exact⟨this.1,by show v.jG<=_;omega⟩,n.pk,?_,?_⟩,I5,YYZ,λe=>hx' (of_decide_eq_true e),hC2,?_⟩) (jY.trans (jY.trans f.kq k2.kq) kq5)
   .show v.P.length<=k+1
    rw[hP,List.length_append,List.length_singleton];omega
   .show(v.ev++[_]).length<=2*(k+1)
    rw[List.length_append,List.length_singleton];omega
   .show 40*(A.O.length-v.pos)+(if x'=0 then 0 else w')<=F-1
    have:(if x'=0 then 0 else w')<=w':=by split<;>omega
    omega
end
structure tU(A:MA)(M:List (Int × Int))(k pk:Nat)(h:af):Prop where
 ex:∃(v:MV)(w u:Nat),ow h A v/\MN A k pk v/\Idle A.E M 0 w u h/\u<=k/\v.pos=A.O.length/\v.lt=false/\(∀c∈v.C,NH c)
structure qq(A:MA)(M:List (Int × Int))(k pk F:Nat)(h:af):Prop where
 ex:∃(v:MV)(x:Int)(w u:Nat),ow h A v/\MN A k pk v/\Idle A.E M x w u h/\u<=k/\(v.lt=true->1<=x)/\(∀c∈v.C,NH c)/\40*(A.O.length-v.pos)+(if x=0 then 0 else w)<=F/\¬(v.pos=A.O.length/\v.lt=false/\x=0)
section
variable {h h':af}{A:MA}{M:List (Int × Int)}{k pk F:Nat}
theorem Idle.w8{E:EN}{x:Int}{w u:Nat}(I:Idle E M x w u h)(hx:x≠0):8<=w:=by
 obtain⟨G,N,has,aL,asked,_,_,_,_,h4⟩:=I;rcases h4 with⟨h4,_⟩|⟨_,_,_,_,h4⟩
 .exact absurd h4 hx
 .omega
theorem EP.split(s:EP A M k pk F h):tU A M k pk h\/(1<=F/\(qq A M k pk F h\/tT A M k pk F h)):=by
 rcases s with⟨v,x,w,u,s,n,I,hu,hl,hc,hF⟩|r
 .by_cases q:v.pos=A.O.length/\v.lt=false/\x=0
  .obtain⟨q1,q2,rfl⟩:=q;exact .inl ⟨v,w,u,s,n,I,hu,q1,q2,hc⟩
  .refine .inr ⟨?_,.inl ⟨v,x,w,u,s,n,I,hu,hl,hc,hF,q⟩⟩;have hp:=n.pos;by_cases hx:x=0
   ·subst hx;have hlt:v.lt=false:=by
     cases e:v.lt with
     |false=>rfl
     |true=>have:=hl e;omega
    have:v.pos≠A.O.length:=λe=>q ⟨e,hlt,rfl⟩;omega
   .have:=I.w8 hx;rw[if_neg hx]at hF;omega
 .refine .inr ⟨?_,.inr r⟩;obtain⟨v,S,w,u,e,P0,p,C0,c,s,n,Pr,st,hu,hP,hC,jx,hc,nt,hFw⟩:=r;have:=Pr.pos _ _ _ _ st;omega
theorem EP.le{F':Nat}(s:EP A M k pk F h)(hF:F<=F'):EP A M k pk F' h:=by
 rcases s with⟨v,x,w,u,s,n,I,hu,hl,hc,hf⟩|⟨v,S,w,u,e,P0,p,C0,c,s,n,Pr,st,hu,hP,hC,jx,hc,nt,hf⟩
 .exact .inl ⟨v,x,w,u,s,n,I,hu,hl,hc,Nat.le_trans hf hF⟩
 .exact .inr ⟨v,S,w,u,e,P0,p,C0,c,s,n,Pr,st,hu,hP,hC,jx,hc,nt,Nat.le_trans hf hF⟩
structure B9(h:af)(A:MA)(dn:Bool):Prop where
 lo:h.lo<=h.nx
 m:∃v,h.bl.get A.mb=some (j_ A v)
 mlo:h.lo<=A.mb/\A.mb<h.nx
 gh:h.bl.get A.hb=some (ah [pt A.tb] 73 true)
 xo:A.hb<h.nx
 done:∀V:Value->af->Prop,V (.bool dn) h->aq prog 27 [pt A.tb] h V
 ready:∀V:Value->af->Prop,V (.bool (!dn)) h->aq prog 67 [pt A.tb] h V
theorem tU.E6(s:tU A M k pk h):B9 h A true:=by
 obtain⟨v,w,u,s,n,I,hu,q1,q2,hc⟩:=s;have lo:=I.bp.2;obtain⟨G,N,has,aL,asked,a,_⟩:=I;have hd:qp A v 0=true:=by unfold qp;rw[q1,q2];simp
 refine⟨lo,⟨v,s.gm⟩,⟨s.iN.2,s.iN.1⟩,s.gh,s.xo,λV hk=>EO s a n.pos V (by show V (.bool (qp A v 0)) h;rw[hd];exact hk),λV hk=>JH s a n.pos V (by show V (.bool (!qp A v 0)) h;rw[hd];exact hk)⟩
theorem qq.E6(s:qq A M k pk F h):B9 h A false:=by
 obtain⟨v,x,w,u,s,n,I,hu,hl,hc,hF,q⟩:=s;have lo:=I.bp.2;obtain⟨G,N,has,aL,asked,a,_⟩:=I;have hd:qp A v x=false:=by
  unfold qp;by_cases q1:v.pos=A.O.length
  .cases q2:v.lt with
   |true=>simp
   |false=>
    have:x≠0:=λe=>q ⟨q1,q2,e⟩;simp[this]
  .simp[q1]
 refine⟨lo,⟨v,s.gm⟩,⟨s.iN.2,s.iN.1⟩,s.gh,s.xo,λV hk=>EO s a n.pos V (by show V (.bool (qp A v x)) h;rw[hd];exact hk),λV hk=>JH s a n.pos V (by show V (.bool (!qp A v x)) h;rw[hd];exact hk)⟩
theorem tT.E6(s:tT A M k pk F h):B9 h A false:=by
 obtain⟨v,S,w,u,e,P0,p,C0,c,s,n,Pr,st,hu,hP,hC,jx,hc,nt,hFw⟩:=s;have lo:=(Pr.bp st).2;obtain⟨G,N,n1,y,out,D,kb,cc,a,hr⟩:=Pr.run _ _ _ _ st;refine⟨lo,⟨v,s.gm⟩,⟨s.iN.2,s.iN.1⟩,s.gh,s.xo,λV hk=>NG s a n.pos V hk,λV hk=>UK s a hr n.pos V hk⟩
theorem apb(h:af)(b o:Nat):nk prog h 100 40 (.pointer (some ⟨b,o,none⟩)) (.pointer none)=some false:=by kernel_rfl
theorem r_{β:Type}{fl:β}(cn:Bool)(b o:Nat)(h:af)(V:YYY β):aI fl prog .eql 40 cn false (.pointer (some ⟨b,o,none⟩)) (.pointer none) h V=V (.bool false) h:=by simp only[aI,apb,bZ]
theorem apc(h:af)(b o:Nat):nk prog h 100 73 (.pointer (some ⟨b,o,none⟩)) (.pointer none)=some false:=by kernel_rfl
theorem UQ{β:Type}{fl:β}(cn:Bool)(b o:Nat)(h:af)(V:YYY β):aI fl prog .neq 73 cn false (.pointer (some ⟨b,o,none⟩)) (.pointer none) h V=V (.bool true) h:=by simp only[aI,apc,bZ,Bool.not_false]
theorem ES{dn:Bool}(s:B9 h A dn)(V:KQ)(hk:V (.bool dn) h):aq prog 10 [pt A.mb] h V:=by
 obtain⟨v,gm⟩:=s.m;unfold j_ at gm;have gh:=s.gh;apply YYW;rw[agM];simp(disch:=try exact Y)only[Wz,r_,MC,aJ,gm];have e1:((1:Nat):Int)=1:=rfl;refine⟨λm l h1=>∃i:Nat,an l 9=YYX (i:Int)/\m=1-i/\i<=1/\h1=h/\(i=1->dn=true),⟨1,0,rfl,rfl,YYZ,rfl,YYZ⟩,?_⟩;rintro m l h1 ⟨i,s1,rfl,hi,rfl,hd⟩;rcases(show i=0\/i=1 by omega)with rfl|rfl
 .simp(disch:=try exact Y)only[Wz,s1,e1,dZ (show((0:Nat):Int)<1 by decide),MB,br,Nat.mul_one,gh];refine s.done _ ?_;cases dn with
  |true=>
   simp(disch:=try exact Y)only[Wz];refine⟨0,YYZ,1,?_⟩;simp
  |false=>
   simp(disch:=try exact Y)only[Wz];exact hk
 .rw[hd rfl]at hk;simp(disch:=try exact Y)only[Wz,s1,e1];exact hk
theorem aj2{dn:Bool}(s:B9 h A dn)(V:KQ)(hk:V (pt A.tb) h):aq prog 28 [pt A.mb,YYX 0] h V:=by
 obtain⟨v,gm⟩:=s.m;unfold j_ at gm;have gh:=s.gh;have e1:((1:Nat):Int)=1:=rfl;apply YYW;rw[agX];have ix:∀(V:KQ),aK False 1 (YYU A.hb 1 aX) (YYX 0) h V=V (YYV A.hb) h:=λV=>br 1 A.hb 0 1 aX 0 h V YYQ;simp(disch:=try exact Y)only[Wz,r_,aJ,gm,e1,ix,gh];exact hk
theorem Yo{dn:Bool}(s:B9 h A dn)(V:KQ)(hk:V (.bool dn) h):aq prog 13 [pt A.mb,YYX 0] h V:=by
 apply YYW;rw[agP];refine aj2 s _ ?_;simp(disch:=try exact Y)only[Wz,UQ];exact s.done _ hk
theorem JJ{dn:Bool}(s:B9 h A dn)(V:KQ)(iE:dn=true->V (.slice none 0 0) h)(cZ:dn=false->∀b c h',Le h h'->b<h'.nx->h'.bl.get b=some (ah [YYX 0] 3 true)->V (YYU b 1 c) h'):aq prog 48 [pt A.mb] h V:=by
 obtain⟨v,gm⟩:=s.m;unfold j_ at gm;have gh:=s.gh;have lo:=s.lo;have xo:=s.xo;have e1:((1:Nat):Int)=1:=rfl;apply YYW;rw[ahb];simp(disch:=try exact Y)only[Wz,r_,aJ,gm,e1];refine⟨λm l h1=>∃i:Nat,an l 14=YYX (i:Int)/\m=1-i/\i<=1/\(i=0->h1=h/\an l 12=.slice none 0 0)/\(i=1->V (an l 12) h1),⟨1,0,rfl,rfl,YYZ,λ_=>⟨rfl,rfl⟩,YYZ⟩,?_⟩;rintro m l h1 ⟨i,s1,rfl,hi,hz,hd⟩;rcases(show i=0\/i=1 by omega)with rfl|rfl
 .obtain⟨rfl,s2⟩:=hz rfl;simp(disch:=try exact Y)only[Wz,s1,s2,D1,dZ (show((0:Nat):Int)<1 by decide)];refine⟨λl2 h2=>V (an l2 11) h2,?_,?_⟩
  .simp(disch:=try exact Y)only[Wz,s1,s2,MS,br,Nat.mul_one,gh];refine s.ready _ ?_;cases dn with
   |true=>
    simp(disch:=try exact Y)only[Wz,s2];exact iE rfl
   |false=>
    simp(disch:=try exact Y)only[Wz,s1,s2,show((0:Nat):Int)=0 from rfl];obtain⟨hA,bg,aS,gA,dP,dQ⟩:=jH h1 (ah [YYX 0] 3 false);rw[<-bg]
    try rw[show(h1.bl.bt (h1.nx) (ah [YYX 0] 3 false))=hA.bl by rw[bg]]
    clear bg;refine d_ (enc:=cQ) (a:=h1) (L:=[]) (M:=[0]) dA kr YYQ YYQ (.inl ⟨rfl,.inl rfl⟩) (Sl.new (enc:=cQ) (L:=[0]) (e:=3) (op:=false) YYZ gA 1) aS YYQ YYZ _ ?_;intro v2 h2 ho bE _ _;rcases ho with⟨e,_⟩|⟨b,e,_,q1,_,q2⟩
    .cases e
    .rw[e];exact cZ rfl b aX h2 bE q1 q2
  .intro l2 h2 q;exact⟨0,YYZ,1,rfl,rfl,YYZ,YYZ,λ_=>q⟩
 .simp(disch:=try exact Y)only[Wz,s1,D1];exact hd rfl
end
def InM(M:List (Int × Int))(O:List vM):Prop:=∀o∈O,o.k=9->(o.t,o.r)∈M/\∀a∈lN o.t o.r,a∈M
section
variable {h:af}{A:MA}{M:List (Int × Int)}{k pk F:Nat}
theorem NM{v:MV}{x:Int}{w u:Nat}(s:ow h A v)(n:MN A k pk v)(I:Idle A.E M x w u h)(hu:u<=k)(yu:k<=600)(hx:1<=x)(hc:∀c∈v.C,NH c)(hM:M.length<=25)(eG:A.E.z.most=2)(hF:40*(A.O.length-v.pos)+w<=F)(aj3:v.lt=true\/v.pos=A.O.length)(V:KQ)(hk:∀h',EP A M (k+1) pk (F-1) h'->jY h h'->V (.tuple ⟨[]⟩) h'):aq prog 50 [pt A.tb] h V:=by
 obtain⟨bp,hlo⟩:=I.bp;have w8:=I.w8 YYZ;have gt:=s.gt;unfold lW at gt;have I':=I;obtain⟨G,N,has,aL,asked,a,_⟩:=I';apply YYW;rw[Sf];simp(disch:=try exact Y)only[Wz,aJ,gt];refine yY a _ ?_;simp(disch:=try exact Y)only[Wz,D2];refine EM s a n.pos _ ?_;have hb:(v.lt || (decide (v.pos=A.O.length) && decide (x≠0)))=true:=by
  rcases aj3 with e|e
  .rw[e];rfl
  .have:x≠0:=by omega
   rw[e];simp[this]
 show aM (.bool (v.lt || (decide (v.pos=A.O.length) && decide (x≠0)))) _ _
 rw[hb];obtain⟨s2,k2⟩:=s.Yj bp { v with lt:=false } rfl;have sj:=s.sj.2;have I2:=I.ic k2;simp(disch:=try exact Y)only[Wz,aJ,gt];refine NL (k:=k) s2 ⟨n.pos,n.tx,n.pk,n.P,n.ev⟩ I2 hu yu (λe=>by cases e) hc hM eG ⟨0,0,0,0,0,0⟩ _ ?_;intro h3 g3 q3;refine hk h3 ?_ (jY.trans k2.kq q3);rw[if_neg YYZ]at g3;refine g3.le ?_
 show 40*(A.O.length-v.pos)+(w-7)<=F-1
 omega
theorem ae8{v:MV}{x:Int}{w u:Nat}(s:ow h A v)(n:MN A k pk v)(I:Idle A.E M x w u h)(hu:u<=k)(yu:k<=600)(hc:∀c∈v.C,NH c)(hM:M.length<=25)(eG:A.E.z.most=2)(hOM:∀o∈A.O,Uq o)(hin:InM M A.O)(hF:40*(A.O.length-v.pos)+(if x=0 then 0 else w)<=F)(hlt:v.lt=false)(hpos:v.pos<A.O.length)(V:KQ)(hk:∀h',EP A M (k+1) pk (F-1) h'->jY h h'->V (.tuple ⟨[]⟩) h'):aq prog 50 [pt A.tb] h V:=by
 obtain⟨bp,hlo⟩:=I.bp;have gt:=s.gt;unfold lW at gt;rw[hlt]at gt;have I':=I;obtain⟨G,N,has,aL,asked,a,_⟩:=I';apply YYW;rw[Sf];simp(disch:=try exact Y)only[Wz,aJ,gt];refine yY a _ ?_;simp(disch:=try exact Y)only[Wz,D2];refine EM s a n.pos _ ?_;have hb:(v.lt || (decide (v.pos=A.O.length) && decide (x≠0)))=false:=by
  have:v.pos≠A.O.length:=by omega
  rw[hlt];simp[this]
 show aM (.bool (v.lt || (decide (v.pos=A.O.length) && decide (x≠0)))) _ _
 rw[hb];obtain⟨o,ho⟩:∃o,A.O[v.pos]? = some o:=⟨_,List.getElem?_eq_getElem hpos⟩
 have hoM:=hOM o (List.mem_of_getElem? ho);have hoI:=hin o (List.mem_of_getElem? ho);obtain⟨c,oo,avp,JR,mK⟩:=ajI s.so.sl v.pos ho;have sj:=s.sj.2;have wV:=s.lo;simp (maxSteps:=3000000) (disch:=try exact Y)only[Wz,MU,aJ,gt,JR,mK,iS];obtain⟨hA,bg,aS,gO,dP,dQ⟩:=jH h (ah [YYX o.k,YYX o.t,YYX o.r,YYX o.m,YYX o.v,YYX o.w] 29 false);rw[<-bg]
 try rw[show(h.bl.bt (h.nx) (ah [YYX o.k,YYX o.t,YYX o.r,YYX o.m,YYX o.v,YYX o.w] 29 false))=hA.bl by rw[bg]]
 clear bg;have IA:=I.ic (IC.of_le aS);have sA:=s.le aS bp;have bpA:=IA.bp.1;have Qd:=sA.gt;unfold lW at Qd;rw[hlt]at Qd;have avq:=sA.sj.2;obtain⟨sB,kB⟩:=sA.Yj bpA { v with pos:=v.pos+1 } rfl;obtain⟨hB,eB⟩:∃hB:af,hB=⟨hA.nx,hA.bl.bt A.tb (lW A { v with pos:=v.pos+1 }),hA.lo⟩:=⟨_,rfl⟩
 rw[<-eB]at sB kB;have gOB:hB.bl.get h.nx=some (ah [YYX o.k,YYX o.t,YYX o.r,YYX o.m,YYX o.v,YYX o.w] 29 false):=by rw[eB];exact(T.aD _ _ (cr Qd gO YYQ)).trans gO
 have ebB:hA.bl.bt A.tb (ah [pt A.E.z.ab,pt A.mb,YYX 0,A.vo,YYX ((v.pos:Int)+1),YYX v.call,.bool false] 75 false)=hB.bl:=by
  rw[eB]
  show _=hA.bl.bt A.tb (ah [pt A.E.z.ab,pt A.mb,YYX 0,A.vo,YYX ((v.pos+1:Nat):Int),YYX v.call,.bool v.lt] 75 false)
  rw[hlt];rfl
 have ehB:(⟨hA.nx,hB.bl,hA.lo⟩:af)=hB:=by rw[eB]
 have nB:hB.nx=hA.nx:=by rw[eB]
 have IB:=IA.ic kB;have bpB:=IB.bp.1;have loB:=IB.bp.2;clear eB;simp (maxSteps:=3000000) (disch:=try exact Y)only[Wz,aJ,Qd];rw[ebB,ehB];simp(disch:=try exact Y)only[Wz,gOB];refine ae6 hB _ loB ?_;intro db hC leC gD;have gOC:hC.bl.get h.nx=some (ah [YYX o.k,YYX o.t,YYX o.r,YYX o.m,YYX o.v,YYX o.w] 29 false):=(leC.get _ YYZ).trans gOB;have sC:=sB.le leC bpB;have IC':=IB.ic (IC.of_le leC);have kqC:jY h hC:=jY.trans (jY.trans (KT.le aS) kB.kq) (KT.le leC);have nC:MN A k pk { v with pos:=v.pos+1 }:=⟨by show v.pos+1<=_;omega,n.tx,n.pk,n.P,n.ev⟩
 have look:=λ(β:Type)(fl:β)(V:YYY β)=>ae7 (fl:=fl) gD o.k V;have avu:(if x=0 then 0 else w+38)<=(if x=0 then 0 else w)+38:=by split<;>omega
 have hw7:(if x=0 then 0 else w-7)<=(if x=0 then 0 else w):=by split<;>omega
 have fin:∀(F':Nat) h',F'<=F-1->EP A M (k+1) pk F' h'->jY hC h'->V (.tuple ⟨[]⟩) h':=λF' h' hf g q=>hk h' (g.le hf) (jY.trans kqC q);by_cases h1:o.k=1
 .have ed:Qf o.k=.tuple ⟨[.func (.func 85) ⟨[]⟩ ⟨[]⟩,.bool true]⟩:=by unfold Qf;rw[if_pos h1]
  rw[ed]at look;simp(disch:=try exact Y)only[Wz,gOC,look];refine UO sC IC' ⟨n.tx.1,by have:=n.tx.2;show v.jG<=5000;omega⟩ eG o _ ?_;intro h' Z2 x' w' s' I' hx' hw' ht kq';refine fin _ h' ?_ (.inl ⟨_,x',w',u,s',⟨nC.pos,⟨by have:=ht.1;have:=n.tx.1;show 0<=Z2;have e:v.jG<=Z2:=ht.1;omega,by have e:Z2<=v.jG+1:=ht.2;have:=n.tx.2;show Z2<=_;omega⟩,nC.pk,by show v.P.length<=_;have:=n.P;omega,by show v.ev.length<=_;have:=n.ev;omega⟩,I',YYZ,λ_=>hx',hc,Nat.le_refl _⟩) kq'
  show 40*(A.O.length-(v.pos+1))+(if x'=0 then 0 else w')<=F-1
  rw[if_neg YYZ];rcases hw' with⟨h2,h3⟩|⟨h2,h3⟩
  .rw[if_pos h2]at hF;omega
  .rw[if_neg YYZ]at hF;omega
 by_cases h9:o.k=9
 .have ed:Qf o.k=.tuple ⟨[.func (.func 86) ⟨[]⟩ ⟨[]⟩,.bool true]⟩:=by unfold Qf;rw[if_neg h1,if_pos h9]
  rw[ed]at look;simp(disch:=try exact Y)only[Wz,gOC,look];obtain⟨q1,q2⟩:=hoI h9;refine UP (k:=k) sC nC IC' hu yu (λe=>by rw[hlt]at e;cases e) hc hM eG o hoM h9 q1 q2 _ ?_;intro h' g' kq';refine fin _ h' ?_ g' kq'
  show 40*(A.O.length-(v.pos+1))+_<=F-1
  omega
 by_cases h10:o.k=10
 .have ed:Qf o.k=.tuple ⟨[.func (.func 87) ⟨[]⟩ ⟨[]⟩,.bool true]⟩:=by unfold Qf;rw[if_neg h1,if_neg h9,if_pos h10]
  rw[ed]at look;simp(disch:=try exact Y)only[Wz,gOC,look];refine Yl (k:=k) sC nC IC' hu yu (λe=>by rw[hlt]at e;cases e) hc hM eG o hoM _ ?_;intro h' g' kq';refine fin _ h' ?_ g' kq'
  show 40*(A.O.length-(v.pos+1))+_<=F-1
  omega
 by_cases h11:o.k=11
 .have ed:Qf o.k=.tuple ⟨[.func (.func 70) ⟨[]⟩ ⟨[]⟩,.bool true]⟩:=by unfold Qf;rw[if_neg h1,if_neg h9,if_neg h10,if_pos h11]
  rw[ed]at look;simp(disch:=try exact Y)only[Wz,gOC,look];refine NL (k:=k) sC nC IC' hu yu (λe=>by rw[hlt]at e;cases e) hc hM eG o _ ?_;intro h' g' kq';refine fin _ h' ?_ g' kq'
  show 40*(A.O.length-(v.pos+1))+_<=F-1
  omega
 .have ed:Qf o.k=.tuple ⟨[Value.nilFunc,.bool false]⟩:=by unfold Qf;rw[if_neg h1,if_neg h9,if_neg h10,if_neg h11]
  rw[ed]at look;simp(disch:=try exact Y)only[Wz,gOC,look];refine fin _ hC ?_ (.inl ⟨_,x,w,u,sC,nC.up,IC',YYZ,(λe=>by rw[show(({ v with pos:=v.pos+1 }:MV).lt)=v.lt from rfl,hlt]at e;cases e),hc,Nat.le_refl _⟩) (KT.le (Le.refl hC))
  show 40*(A.O.length-(v.pos+1))+_<=F-1
  omega
end
end Go.Proofs
end
