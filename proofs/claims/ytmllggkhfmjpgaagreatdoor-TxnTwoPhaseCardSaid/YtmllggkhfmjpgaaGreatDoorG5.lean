/-
  PROVED HERE: a part of the proof (K24, K25, K26, VaiY, K27, K28, K29, K30, K31, K42, K43, L1, VaiE, L2, L3, L4, L7).
-/
import Derived.Test.YtmllggkhfmjpgaaGreatDoorG4
import Derived.Test.YtmllggkhfmjpgaaGreatDoorG3
import Derived.Test.YtmllggkhfmjpgaaGreatDoorG2
set_option linter.unusedVariables false
set_option linter.unusedSimpArgs false
set_option maxRecDepth 100000
noncomputable section
namespace Go.Proofs
open Go.Vai Go.Clashes
open Tryz (prog)
structure kK(h h':Heap)(bb bm bp bl most:Nat)(M M':List HE)(clock':Nat)(F':List Int)(B':List Bool)(e:HE)(Q1:List R5)(w1:Int):Prop where
 is:bq h' bb bm bp bl most M' clock' F' B'
 fr:r8 bm bp bl h h'
 vq:VQ Q1 w1
 set:fq M M' e.t e.r w1 (dY (iZ Q1+1) Q1).1
theorem qZ{Q:List R5}{W:Int}(v:VQ Q W){id:Int}{p:R5}(hf:cq Q id=some p):∃i:Nat,Q[i]? = some p/\p.id=id:=by
 obtain⟨h1,h2⟩:=jV hf;obtain⟨i,hi⟩:=List.mem_iff_getElem?.1 h1;exact⟨i,hi,h2⟩
theorem Hw{h:Heap}{bb bm bp bl most:Nat}{M:List HE}{clock:Nat}{F:List Int}{B:List Bool}(s:bq h bb bm bp bl most M clock F B)(hlo:h.lo<=h.nx)(N:Nat)(hN:N<=100000)(hw:∀e∈M,e.w<=N)(id m:Int)(V:KQ)(hk2:∀h',bY m=false->Le h h'->V (.tuple ⟨[.bool false,.int .i64 2]⟩) h')(DQ:∀h',bY m=true->(∀e∈M,cq e.Q id=none)->Le h h'->V (.tuple ⟨[.bool false,.int .i64 5]⟩) h')(RH:∀h' e p,bY m=true->e∈M->cq e.Q id=some p->0<p.s->Le h h'->V (.tuple ⟨[.bool false,.int .i64 7]⟩) h')(nZ:∀h' M' clock' e p i,bY m=true->e∈M->e.Q[i]? = some p->cq e.Q id=some p->¬0<p.s->kK h h' bb bm bp bl most M M' clock' F B e (e.Q.set i (jL e.Q e.w p m).1) (jL e.Q e.w p m).2.1->V (.tuple ⟨[.bool (jL e.Q e.w p m).2.2,.int .i64 0]⟩) h'):CallW prog 354 [.pointer (some ⟨bb,0,none⟩),.int .i64 id,.int .i64 m] h V:=by
 refine av mixed ?_;rw[abR];simp(disch:=try exact Y)only[Wz,iP,GN];refine VD s hlo id _ ?_ ?_
 .intro h1 hno bG;have n1:=bG.nx;have l1:=bG.lo;simp(disch:=try exact Y)only[Wz,qX];obtain⟨hA,aT,aL,g7,dy,dz⟩:=kf h1 (fZ 0 0 (.slice none 0 0) 0);rw[<-aT];clear aT;refine⟨λl h'=>slot l 4=.pointer (some ⟨h1.nx,0,none⟩)/\HQ hA h',⟨rfl,rfl⟩,?_⟩;rintro l h' ⟨hl,hq⟩;cases(show hA=h' from hq);simp(disch:=try exact Y)only[Wz,Ae,hl,aG,g7];refine Ar 0 0 _ 0 id m [] hA _ (Sl.nil _ _ _) (by simp) (by omega) (by omega) ?_ ?_ ?_ ?_
  .intro ha h2 bt;have:=bt.nx;have:=bt.lo;simp(disch:=try exact Y)only[Wz,kg];exact hk2 _ ha (((bG.trans aL).trans bt).new _)
  .intro ha _ h2 bt;have:=bt.nx;have:=bt.lo;simp(disch:=try exact Y)only[Wz,kg];exact DQ _ ha hno (((bG.trans aL).trans bt).new _)
  .intro ha p hf;cases hf
  .intro ha i p hi;simp at hi
 .intro h1 e p0 he hf0 bG;have n1:=bG.nx;have l1:=bG.lo;have s1:=s.le bG;have H:=s1.aW e he;have hlt:=H.lt;have gd:=s1.good e he;have um:=gd.small;obtain⟨qx,qc,eq,_⟩:=(show Sl bH h1 e.q e.Q from H.qv.1)
  have gh:=H.get;rw[eq]at gh;have we:=hw e he;simp(disch:=try exact Y)only[Wz,uM];refine⟨λl h'=>slot l 4=.pointer (some ⟨e.hb,0,none⟩)/\HQ h1 h',⟨rfl,rfl⟩,?_⟩;rintro l h' ⟨hl,hq⟩;cases(show h1=h' from hq);simp(disch:=try exact Y)only[Wz,Ae,hl,aG,gh];refine Ar e.t e.r _ e.w id m e.Q h1 _ (by rw[<-eq];exact H.qv.1) (by omega) (by omega) ⟨gd.vq.w0,by omega⟩ ?_ ?_ ?_ ?_
  .intro ha h2 bt;have:=bt.nx;have:=bt.lo;simp(disch:=try exact Y)only[Wz,kg];exact hk2 _ ha ((bG.trans bt).new _)
  .intro ha hf;rw[hf]at hf0;cases hf0
  .intro ha p hf hs h2 bt;have:=bt.nx;have:=bt.lo;simp(disch:=try exact Y)only[Wz,kg];exact RH _ e p ha he hf hs ((bG.trans bt).new _)
  .intro ha i p hi hf hs q' h2 Ca bt;have n2:=bt.nx;have l2:=bt.lo;obtain⟨xx,xy,rfl,_⟩:=(show Sl bH h2 q' _ from Ca.1)
   have vu:=gd.vq.upg hi hs ha;simp(disch:=try exact Y)only[Wz,kg];have dg:Le h1 ⟨h2.nx+1,h2.bl.aV h2.nx (fZ e.t e.r (.slice xx (e.Q.set i (jL e.Q e.w p m).1).length xy) (jL e.Q e.w p m).2.1),h2.lo⟩:=bt.new _;have lh3:Le h2 ⟨h2.nx+1,h2.bl.aV h2.nx (fZ e.t e.r (.slice xx (e.Q.set i (jL e.Q e.w p m).1).length xy) (jL e.Q e.w p m).2.1),h2.lo⟩:=(Le.refl h2).new _;refine uN (s1.le dg) (by show h2.lo<=h2.nx+1;omega) e.t e.r _ _ _ _ (Ca.1.le lh3) vu (by rw[List.length_set];omega) ?_;intro M' clock' v' h' s5 lK _ NG;exact nZ h' M' clock' e p i ha he hi hf hs ⟨s5,(r8.of_le (bG.trans dg)).trans NG,vu,lK⟩
theorem NH{h:Heap}{bb bm bp bl most:Nat}{M:List HE}{clock:Nat}{F:List Int}{B:List Bool}(s:bq h bb bm bp bl most M clock F B)(hlo:h.lo<=h.nx)(ids:sG M B)(id:Int)(V:KQ)(DQ:∀h',(∀e∈M,cq e.Q id=none)->Le h h'->V (.tuple ⟨[.slice none 0 0,.int .i64 5]⟩) h')(nZ:∀h' M' clock' F' v' e p (n:Nat),e∈M->cq e.Q id=some p->id=(n:Int)->B[n]? = some true->F'.Perm (F++[(n:Int)])->kK h h' bb bm bp bl most M M' clock' F' (B.set n false) e (e.Q.filter λr=>!cC id r) e.w->BP h h' v' (dY (iZ (e.Q.filter λr=>!cC id r)+1) (e.Q.filter λr=>!cC id r)).2->V (.tuple ⟨[v',.int .i64 0]⟩) h'):CallW prog 395 [.pointer (some ⟨bb,0,none⟩),.int .i64 id] h V:=by
 refine av mixed ?_;rw[ab3];refine VD s hlo id _ ?_ ?_
 .intro h1 hno bG;simp(disch:=try exact Y)only[Wz,qX];refine RE bb h1 _ ?_;exact DQ h1 hno bG
 .intro h1 e p he hf bG;have n1:=bG.nx;have l1:=bG.lo;have s1:=s.le bG;have H:=s1.aW e he;have hlt:=H.lt;have gd:=s1.good e he;have um:=gd.small;obtain⟨qx,qc,eq,_⟩:=(show Sl bH h1 e.q e.Q from H.qv.1)
  have gh:=H.get;rw[eq]at gh;obtain⟨n,en,Bx⟩:=ids.find he (jV hf).1;have eid:id=(n:Int):=by rw[<-en];exact(jV hf).2.symm
  have hFl:F.length<=1000:=by have:=uO s.aX.ok;have:=s.aX.small;omega
  simp(disch:=try exact Y)only[Wz,uM,GY,aG,gh];refine Vs e.t e.r _ e.w id e.Q h1 _ (by rw[<-eq];exact H.qv.1) (by omega) (by omega) (by rw[hf];simp) ?_;intro q' h2 Ca bt;have n2:=bt.nx;have l2:=bt.lo;obtain⟨xx,xy,rfl,_⟩:=(show Sl bH h2 q' _ from Ca.1)
  have s2:=s1.le bt;have gb:=s2.iO;have hlb:=s2.tE;simp(disch:=try exact Y)only[Wz,kg];obtain⟨h3,e3⟩:∃h3:Heap,h3=⟨h2.nx+1,h2.bl.aV h2.nx (fZ e.t e.r (.slice xx (e.Q.filter λr=>!cC id r).length xy) e.w),h2.lo⟩:=⟨_,rfl⟩
  have dg:Le h2 h3:=by rw[e3];exact(Le.refl h2).new _
  have g3:h3.bl.get h2.nx=some (fZ e.t e.r (.slice xx (e.Q.filter λr=>!cC id r).length xy) e.w):=by rw[e3];exact T.ah _ _ _
  have n3:h3.nx=h2.nx+1:=by rw[e3]
  have l3:h3.lo=h2.lo:=by rw[e3]
  rw[<-e3];clear e3;have s3:=s2.le dg;have hl:=gd.vq.filter λr=>!cC id r;simp(disch:=try exact Y)only[Wz,gb,eid];refine acG bp bl F B n h3 _ s3.aX hFl (by omega) s3.ne Bx ?_;intro h4 F' p4 T0 fr4;have n4:=fr4.nx;have l4:=fr4.lo;have H4:=n_.qY (e:=⟨e.t,e.r,h2.nx,0,_,e.w,_⟩) ⟨by show h2.nx<h3.nx;omega,g3,Ca.le dg⟩ s3.aX fr4;have g4:=H4.get;simp(disch:=try exact Y)only[Wz,g4];have lf:(e.Q.filter λr=>!cC id r).length<=e.Q.length:=List.length_filter_le _ _;refine uN (s3.qY p4 fr4) (by omega) e.t e.r _ _ _ _ H4.qv.1 hl (by show(e.Q.filter λr=>!cC id r).length<=128;omega) ?_;intro M' clock' v' h' s5 lK tC NG;have Rv:BP h h' v' _:=fC.base tC (by have:=bG.nx;omega);exact nZ h' M' clock' F' v' e p n he hf eid Bx T0 ⟨s5,(r8.of_le ((bG.trans bt).trans dg)).trans ((r8.ah6 fr4).trans NG),hl,lK⟩ Rv
theorem RI{h:Heap}{bb bm bp bl most:Nat}{M:List HE}{clock:Nat}{F:List Int}{B:List Bool}(s:bq h bb bm bp bl most M clock F B)(hlo:h.lo<=h.nx)(id x:Int)(V:KQ)(DQ:∀h',(∀e∈M,cq e.Q id=none)->Le h h'->V (.int .i64 5) h')(vm:∀h' e p,e∈M->cq e.Q id=some p->(∃o∈e.Q,o.id≠id/\o.x=x)->Le h h'->V (.int .i64 4) h')(RH:∀h' e p,e∈M->cq e.Q id=some p->(∀o∈e.Q,o.id≠id->o.x≠x)->0<p.s->Le h h'->V (.int .i64 7) h')(nZ:∀h' M' clock' e p i,e∈M->e.Q[i]? = some p->cq e.Q id=some p->(∀o∈e.Q,o.id≠id->o.x≠x)->¬0<p.s->kK h h' bb bm bp bl most M M' clock' F B e (e.Q.set i (xq p x)) e.w->V (.int .i64 0) h'):CallW prog 357 [.pointer (some ⟨bb,0,none⟩),.int .i64 id,.int .i64 x] h V:=by
 refine av mixed ?_;rw[abS];refine VD s hlo id _ ?_ ?_
 .intro h1 hno bG;simp(disch:=try exact Y)only[Wz,qX];refine RE bb h1 _ ?_;exact DQ h1 hno bG
 .intro h1 e p he hf bG;have n1:=bG.nx;have l1:=bG.lo;have s1:=s.le bG;have H:=s1.aW e he;have hlt:=H.lt;have gd:=s1.good e he;have um:=gd.small;obtain⟨qx,qc,eq,_⟩:=(show Sl bH h1 e.q e.Q from H.qv.1)
  have gh:=H.get;rw[eq]at gh;obtain⟨i,hi,acs⟩:=qZ gd.vq hf;simp(disch:=try exact Y)only[Wz,uM,GO,aG,gh];refine acu e.t e.r _ e.w id x e.Q h1 _ (by rw[<-eq];exact H.qv.1) (by omega) (by omega) gd.vq.pair hi acs ?_ ?_ ?_
  .intro hx h2 bt;have:=bt.nx;have:=bt.lo;simp(disch:=try exact Y)only[Wz,kg];refine⟨λl h'=>Le h h',?_,?_⟩
   .exact(bG.trans bt).new _
   .intro l h' le';exact vm _ e p he hf hx le'
  .intro hx hs h2 bt;have:=bt.nx;have:=bt.lo;simp(disch:=try exact Y)only[Wz,kg];refine⟨λl h'=>Le h h',?_,?_⟩
   .exact(bG.trans bt).new _
   .intro l h' le';exact RH _ e p he hf hx hs le'
  .intro hx hs q' h2 Ca bt;have n2:=bt.nx;have l2:=bt.lo;obtain⟨xx,xy,rfl,_⟩:=(show Sl bH h2 q' _ from Ca.1)
   have s2:=s1.le bt;simp(disch:=try exact Y)only[Wz,kg];have dg:Le h2 ⟨h2.nx+1,h2.bl.aV h2.nx (fZ e.t e.r (.slice xx (e.Q.set i (xq p x)).length xy) e.w),h2.lo⟩:=(Le.refl h2).new _;have hlv:=gd.vq.hand (x:=x) hi (by rw[acs];exact hx);refine⟨λl h'=>∃M' clock',kK h h' bb bm bp bl most M M' clock' F B e (e.Q.set i (xq p x)) e.w,?_,?_⟩
   .refine uN (s2.le dg) (by show h2.lo<=h2.nx+1;omega) e.t e.r _ _ _ _ (Ca.1.le dg) hlv (by rw[List.length_set];omega) ?_;intro M' clock' v' h' s7 lK ho7 fr7;exact⟨M',clock',s7,(r8.of_le ((bG.trans bt).trans dg)).trans fr7,hlv,lK⟩
   .rintro l h' ⟨M',clock',hm⟩;exact nZ h' M' clock' e p i he hi hf hx hs hm
theorem anv(a b c d e:Int):kY 8 (.agg ⟨[.int .i64 a,.int .i64 b,.int .i64 c,.int .i64 d,.int .i64 e]⟩) (.agg ⟨[.int .i64 a,.int .i64 b,.int .i64 c,.int .i64 d,.int .i64 e]⟩)=true:=by unfold kY;exact vX 6 [a,b,c,d,e]
theorem VJ{h:Heap}{bb bm bp bl most:Nat}{M:List HE}{clock:Nat}{F:List Int}{B:List Bool}(s:bq h bb bm bp bl most M clock F B)(hlo:h.lo<=h.nx)(id:Int)(V:KQ)(nZ:∀h',(∀e∈M,cq e.Q id=none)->Le h h'->V (.tuple ⟨[cV 0 0,mK ⟨0,0,0,0,0⟩,.bool false]⟩) h')(dB:∀h' e p,e∈M->cq e.Q id=some p->Le h h'->V (.tuple ⟨[cV e.t e.r,mK p,.bool true]⟩) h'):CallW prog 292 [.pointer (some ⟨bb,0,none⟩),.int .i64 id] h V:=by
 refine av mixed ?_;rw[Rj];simp(disch:=try exact Y)only[Wz];obtain⟨hA,aT,aL,g1,g3,dy,dz⟩:=BF h (aa [.int .i64 0,.int .i64 0] 28 false) (lQ ⟨0,0,0,0,0⟩);rw[<-aT];clear aT;refine VD (s.le aL) (by omega) id _ ?_ ?_
 .intro h1 hno bG;have n1:=bG.nx;have l1:=bG.lo;have g1:=bG.up g1;have g3:=bG.up g3;simp(disch:=try exact Y)only[Wz,qX,g1,g3,bH];exact nZ _ hno ((((aL.trans bG).set (by omega) _)).set (by omega) _)
 .intro h1 e p he hf bG;have n1:=bG.nx;have l1:=bG.lo;have g1:=bG.up g1;have g3:=bG.up g3;have s1:=(s.le aL).le bG;have H:=s1.aW e he;have hlt:=H.lt;have gd:=s1.good e he;have um:=gd.small;obtain⟨qx,qc,eq,_⟩:=(show Sl bH h1 e.q e.Q from H.qv.1)
  have gh:=H.get;rw[eq]at gh;simp(disch:=try exact Y)only[Wz,uM,Gu,aG,gh];refine L6 e.t e.r _ e.w id _ h1 _ (by rw[<-eq];exact H.qv.1) (by omega) (by omega) ?_;intro h2 bt;have n2:=bt.nx;have l2:=bt.lo;have g1:=bt.up g1;have g3:=bt.up g3;have gh2:=(bt.get _ hlt).trans gh;rw[hf];simp(disch:=try exact Y)only[Wz,bH,g1,g3,gh2,aG,anv];exact dB _ e p he hf (((((aL.trans bG).trans bt).new _).set (by omega) _).set (by omega) _)
end Go.Proofs

namespace Go.Vai
open Go
def prK(P:Program)(skip:FuncId->Bool):ko Prop:=⟨λf=>match skip f with|true=>none|false=>some (CallW P f),And⟩
theorem Jz(P:Program)(skip:FuncId->Bool):gQ (λp:Prop=>p) (prK P skip) P:=by
 refine⟨λx y h=>h,λf g hg args args' h φ w V ha hr hgood=>?_⟩;unfold prK at hg;simp only at hg;split at hg
 .cases hg
 .cases hg;exact hgood φ w args' ha hr
theorem wA{P:Program}(hm:P.follows .mixedOrders=true){skip:FuncId->Bool}{f:FuncId}{args:List Value}{h:Heap}{V:KQ}(n:Nat)(hg:iA False (prK P skip) P (run False (prK P skip) P n) f args h V):CallW P f args h V:=by
 intro φ w args' ha hr;exact fW (good:=λp:Prop=>p) (fl:=False) (λh=>h) (Jz P skip) (Ce (λh=>h) (Jz P skip) (s9 (λh=>h) (Jz P skip) hm) n).1 ha hr hg
def wB(P:Program)(f:FuncId):Code:=match yE P f with | .mk c _ _=>c | .none=>.skip
def ja:Code->Code | .seq a _=>a|c=>c
def jr:Code->Code | .seq _ b=>b|c=>c
def JA:Code->Code | .block _ c=>c | .loop c=>c | .scope c=>c|c=>c
def rfA:Code->Code | .rangeFunc _ _ a _=>a|c=>c
def rfB:Code->Code | .rangeFunc _ _ _ b=>b|c=>c
end Go.Vai

namespace Go.Proofs
open Go.Vai Go.Clashes
open Tryz (prog)
abbrev fK:FuncId:=307
abbrev fA:FuncId:=204
def Yj(f:FuncId):Bool:=Nat.beq f fK || Nat.beq f fA
noncomputable abbrev pN:ko Prop:=prK prog Yj
noncomputable abbrev RN(n:Nat):Rec Prop:=run False pN prog n
def cK:Code:=wB prog fK
def cA:Code:=wB prog fA
def kA:Code:=ja cK
def kL:Code:=JA (JA (jr cK))
def kB:Code:=ja kL
def Yk:Code:=JA (jr (jr kL))
def kC:Code:=ja Yk
def kD:Code:=ja (jr Yk)
theorem ah9:cK=.seq kA (.block 0 (.loop (.seq kB (.seq (.cond (.tmp 7) .skip (.exit 0)) (.block 1 (.seq kC (.seq kD (.cond (.tmp 13) .ret .skip)))))))):=by kernel_rfl
def aA:Code:=ja cA
def aB:Code:=ja (ja (jr cA))
def aR:Code:=JA (jr (ja (jr cA)))
def aP:Code:=rfA aR
def aQ:Code:=JA (rfB aR)
def aC:Code:=ja (jr (jr cA))
theorem ah_:cA=.seq aA (.seq (.seq aB (.block 0 (.rangeFunc (.tmp 6) #[7] aP (.block 1 aQ)))) (.seq aC .ret)):=by kernel_rfl
variable (rec:Rec Prop)(tm:T Value)(h:Heap)
theorem rkA(V:Ex->T Value->Heap->Prop):body False pN prog rec kA tm h V =
  ev tm (.tmp 1) λx=>load1 False x h λv h=>T.set tm 4 v λtm=>ev tm (.tmp 4) λx=>nS False x h λv h=>T.set tm 5 v λtm=>V .normal tm h:=by kernel_rfl
theorem rkB(V:Ex->T Value->Heap->Prop):body False pN prog rec kB tm h V =
  ev tm (.tmp 5) λx=>oz False And x h λv h=>T.set tm 6 v λtm=>ev tm (.tmp 6) λx=>aD False 0 x h λv h=>T.set tm 7 v λtm=>V .normal tm h:=by kernel_rfl
theorem rkC(V:Ex->T Value->Heap->Prop):body False pN prog rec kC tm h V =
  ev tm (.tmp 5) λx=>kQ False x h λv h=>T.set tm 8 v λtm=>ev tm (.tmp 8) λx=>aD False 0 x h λv h=>T.set tm 9 v λtm=>
   ax False (aa [.int .i64 0,.int .i64 0] 28 false) h λb h=>T.set tm 3 (ptrTo b) λtm=>ev tm (.tmp 3) λa=>ev tm (.tmp 9) λv=>aI False 2 a v h λv h=>V .normal tm h:=by kernel_rfl
theorem rkD(V:Ex->T Value->Heap->Prop):body False pN prog rec kD tm h V =
  ev tm (.tmp 0) λfv=>T.set tm 10 fv λtm=>ev tm (.tmp 3) λx=>aF False 2 x h λv h=>T.set tm 11 v λtm=>
   ev tm (.tmp 11) λx=>ev tm (.tmp 10) λfv=>sk False pN prog rec fv [x] h λv h=>T.set tm 12 v λtm=>ev tm (.tmp 12) λx=>jf False .not x h λv h=>T.set tm 13 v λtm=>V .normal tm h:=by kernel_rfl
theorem anx(V:Ex->T Value->Heap->Prop):body False pN prog rec aA tm h V =
  ev tm (.tmp 0) λs=>aH False (Value.cells s).toList 156 false λo=>ax False o h λb h=>T.set tm 2 (ptrTo b) λtm=>T.set tm 4 (.slice none 0 0) λtm=>V .normal tm h:=by kernel_rfl
theorem anz(V:Ex->T Value->Heap->Prop):body False pN prog rec aB tm h V=ev tm (.tmp 1) λg=>T.set tm 6 g λtm=>V .normal tm h:=by kernel_rfl
theorem anA(V:Ex->T Value->Heap->Prop):body False pN prog rec aP tm h V =
  ax False (aa [.int .i64 0,.int .i64 0] 28 false) h λb h=>T.set tm 5 (ptrTo b) λtm=>ev tm (.tmp 5) λa=>ev tm (.tmp 7) λv=>aI False 2 a v h λv h=>V .normal tm h:=by kernel_rfl
theorem anB(V:Ex->T Value->Heap->Prop):body False pN prog rec aQ tm h V =
  ev tm (.tmp 2) λx=>load1 False x h λv h=>T.set tm 8 v λtm=>ev tm (.tmp 5) λx=>aF False 2 x h λv h=>T.set tm 9 v λtm=>
   ev tm (.tmp 9) λv=>bg False [(0,2)] [v] [.int .i64 0,.int .i64 0] λcs=>aH False cs 28 false λo=>ax False o h λb h=>T.set tm 10 (sliceTo 1 1 b) λtm=>
   ev tm (.tmp 8) λs=>ev tm (.tmp 10) λx=>bR False 28 2 [.int .i64 0,.int .i64 0] false s x h λv h=>T.set tm 11 v λtm=>ev tm (.tmp 2) λa=>ev tm (.tmp 11) λv=>aI False 1 a v h λv h=>V .normal tm h:=by kernel_rfl
theorem anC(V:Ex->T Value->Heap->Prop):body False pN prog rec aC tm h V =
  ev tm (.tmp 2) λx=>load1 False x h λv h=>T.set tm 12 v λtm=>ev tm (.tmp 12) λv=>T.set tm 4 v λtm=>V .normal tm h:=by kernel_rfl
theorem aia(s g:Value)(V:KQ):iA False pN prog rec fA [s,g] h V=rec cA (lay [s,g] .nil 0) h (r5 False [.tmp 4] V):=by kernel_rfl
theorem aib(y m:Value)(V:KQ):iA False pN prog rec fK [y,m] h V=rec cK (lay [y,m] .nil 0) h (r5 False [] V):=by kernel_rfl
theorem cw(t:T Value)(n:Nat)(v:Value):cL (t.aV n v) n=v:=by unfold cL;rw[T.ah]
theorem dV(t:T Value){n m:Nat}(v:Value)(h:n≠m):cL (t.aV n v) m=cL t m:=by unfold cL;rw[T.aj _ _ h]
theorem fT{β:Type}(tm:T Value)(t:Nat)(V:Value->β):ev tm (.tmp t) V=V (cL tm t):=e_ _ _ _
section
variable (n:Nat)(a b:Code)(tm:T Value)(h:Heap)(V:Ex->T Value->Heap->Prop)
theorem Hy:RN (n+1) (.seq a b) tm h V=RN n a tm h (oC (RN n) b V):=id rfl
theorem RJ(t:Nat):RN (n+1) (.cond (.tmp t) a b) tm h V=oD False (RN n) a b tm h V (cL tm t):=e_ tm (.tmp t) (oD False (RN n) a b tm h V)
theorem ym(i:Nat):RN (n+1) (.block i a) tm h V=RN n a tm h (iW i V):=id rfl
theorem acK:RN (n+1) (.loop a) tm h V=RN n a tm h (oC (RN n) (.loop a) V):=id rfl
theorem RK(i:Nat):RN (n+1) (.exit i) tm h V=V (.exit i) tm h:=id rfl
theorem aic:RN (n+1) .ret tm h V=V .ret tm h:=id rfl
theorem RL:RN (n+1) .skip tm h V=V .normal tm h:=id rfl
theorem anD(t:Nat)(ps:Array Tmp):RN (n+1) (.rangeFunc (.tmp t) ps a b) tm h V=dN False pN prog (RN n) ps.toList a b tm h V (cL tm t):=e_ tm (.tmp t) (dN False pN prog (RN n) ps.toList a b tm h V)
theorem anF:RN (n+1) kA tm h V=body False pN prog (RN n) kA tm h V:=id rfl
theorem anG:RN (n+1) kB tm h V=body False pN prog (RN n) kB tm h V:=id rfl
theorem anH:RN (n+1) kC tm h V=body False pN prog (RN n) kC tm h V:=id rfl
theorem anI:RN (n+1) kD tm h V=body False pN prog (RN n) kD tm h V:=id rfl
theorem anJ:RN (n+1) aA tm h V=body False pN prog (RN n) aA tm h V:=id rfl
theorem anK:RN (n+1) aB tm h V=body False pN prog (RN n) aB tm h V:=id rfl
theorem anL:RN (n+1) aP tm h V=body False pN prog (RN n) aP tm h V:=id rfl
theorem anM:RN (n+1) aQ tm h V=body False pN prog (RN n) aQ tm h V:=id rfl
theorem anN:RN (n+1) aC tm h V=body False pN prog (RN n) aC tm h V:=id rfl
theorem r9(rec:Rec Prop):oC rec b V .normal tm h=rec b tm h V:=id rfl
theorem VK(rec:Rec Prop)(i:Nat):oC rec b V (.exit i) tm h=V (.exit i) tm h:=id rfl
theorem VL(rec:Rec Prop):oC rec b V .ret tm h=V .ret tm h:=id rfl
theorem BS(i:Nat):iW i V .normal tm h=V .normal tm h:=id rfl
theorem anO(i:Nat):iW i V .ret tm h=V .ret tm h:=id rfl
theorem RM:iW 0 V (.exit 0) tm h=V .normal tm h:=id rfl
theorem acL(rec:Rec Prop):oD False rec a b tm h V (.bool true)=rec a tm h V:=id rfl
theorem JB(rec:Rec Prop):oD False rec a b tm h V (.bool false)=rec b tm h V:=id rfl
end
noncomputable abbrev RO:Code:=.seq kB (.seq (.cond (.tmp 7) .skip (.exit 0)) (.block 1 (.seq kC (.seq kD (.cond (.tmp 13) .ret .skip)))))
noncomputable abbrev lD(st:LoopState)(eZ:T Value):bD:=.loop st none eZ [7] aP (.block 1 aQ)
def iI(p:Int × Int):List Value:=[.int .i64 p.1,.int .i64 p.2]
theorem mO(p:Int × Int):(iI p).length=2:=rfl
theorem Hz(p:Int × Int):(iI p).all dJ=true:=rfl
def cT(e:HE):Int × Int:=(e.t,e.r)
abbrev pY(a h:Heap)(v:Value)(L:List (Int × Int)):Prop:=fC iI a 28 h v L
structure acM(a:Heap)(bm:Nat)(clock:Nat)(M:List HE)(eZ:T Value)(seen:List Nat)(tm:T Value)(h1:Heap)(v:Value)(L:List HE):Prop where
 le:Le a h1
 nx:a.nx+3<=h1.nx
 gs:h1.bl.get a.nx=some (aa [v] 156 false)
 gl:h1.bl.get (a.nx+1)=some (lD .ready eZ)
 gi:h1.bl.get (a.nx+2)=some (.dD (some bm) clock seen clock)
 own:pY a h1 v (L.map cT)
 perm:L.Perm (M.filter λe=>seen.any (Nat.beq e.born))
 t0:cL tm 0=.func (.yield (a.nx+1)) #[] #[]
 t5:cL tm 5=ptrTo (a.nx+2)
theorem acN(rec:Rec Prop)(l:Nat)(x:Value)(h:Heap)(V:KQ):sk False pN prog rec (.func (.yield l) #[] #[]) [x] h V=kR False rec l [x] h V:=id rfl
theorem round_eq{rec:Rec Prop}{l:Nat}{x:Value}{h:Heap}{V:KQ}{st:LoopState}{eZ:T Value}(hl:h.bl.get l=some (lD st eZ)):kR False rec l [x] h V=rec aP (eZ.aV 7 x) h (dI False rec l (.block 1 aQ) V):=by
 unfold kR;simp only[hl,List.length_cons,List.length_nil]
 show nj [7] [x] eZ _=_
 unfold nj;rw[T.cg];unfold nj;rfl
theorem RP{rec:Rec Prop}{l:Nat}{bd:Code}{tm:T Value}{h:Heap}{V:KQ}{eZ:T Value}(hl:h.bl.get l=some (lD .ready eZ))(hlo:h.lo<=l):dI False rec l bd V .normal tm h=rec bd tm ⟨h.nx,h.bl.aV l (lD .busy eZ),h.lo⟩ (fO False l V):=by
 unfold dI;simp only[hl,bB _ _ _ _ hlo]
theorem acO{l:Nat}{tm:T Value}{h:Heap}{V:KQ}{st:LoopState}{eZ:T Value}(hl:h.bl.get l=some (lD st eZ))(hlo:h.lo<=l):fO False l V .normal tm h=V (.bool true) ⟨h.nx,h.bl.aV l (lD .ready eZ),h.lo⟩:=by
 unfold fO;simp only[hl,bB _ _ _ _ hlo]
theorem NI{M:List HE}{clock:Nat}(o:dw M clock){e:HE}(he:e∈M){seen:List Nat}(hn:seen.any (Nat.beq e.born)=false):(M.filter λx=>(e.born::seen).any (Nat.beq x.born)).Perm (M.filter (λx=>seen.any (Nat.beq x.born))++[e]):=by
 have hnd:M.Nodup:=o.bn.imp λh e=>h (by rw[e]);refine(List.perm_ext_iff_of_nodup (hnd.filter _) ?_).2 λx=>?_
 .rw[List.nodup_append];refine⟨hnd.filter _,by simp,λx hx y hy=>?_⟩;rw[List.mem_singleton]at hy;subst hy;rintro rfl;rw[List.mem_filter,hn]at hx;exact absurd hx.2 (by simp)
 .rw[List.mem_filter,List.mem_append,List.mem_filter,List.mem_singleton,List.any_cons,Bool.or_eq_true];constructor
  .rintro⟨h1,h2|h2⟩
   .exact .inr (o.xA h1 he (Nat.eq_of_beq_eq_true h2))
   .exact .inl ⟨h1,h2⟩
  .rintro(⟨h1,h2⟩|rfl)
   .exact⟨h1,.inr h2⟩
   .exact⟨he,.inl (Nat.beq_refl _)⟩
theorem NJ(a:Heap)(bm clock:Nat)(M:List HE)(eZ:T Value)(o:dw M clock)(g:a.bl.get bm=some (.map (M.map mN) clock))(xB:bm<a.nx)(hlo:a.lo<=a.nx)(hM:M.length<=1000)(hA:cL eZ 2=ptrTo a.nx)(V:Ex->T Value->Heap->Prop)(hk:∀(tm:T Value)(h1:Heap)(v:Value)(L:List HE),L.Perm M->pY a h1 v (L.map cT)->Le a h1->a.nx+3<=h1.nx->h1.bl.get a.nx=some (aa [v] 156 false)->h1.bl.get (a.nx+1)=some (lD .ready eZ)->V (.exit 0) tm h1):∀(k:Nat)(seen:List Nat)(tm:T Value)(h1:Heap)(v:Value)(L:List HE),Ax M seen<=k->acM a bm clock M eZ seen tm h1 v L->RN (k+12) (.loop RO) tm h1 V:=by
 have step:∀(k:Nat)(seen:List Nat)(tm:T Value)(h1:Heap)(v:Value)(L:List HE),acM a bm clock M eZ seen tm h1 v L->
   (∀e∈M,seen.any (Nat.beq e.born)=false->∀(tm:T Value)(h1:Heap)(v:Value)(L:List HE),acM a bm clock M eZ (e.born::seen) tm h1 v L->RN (k+11) (.loop RO) tm h1 V)->RN (k+12) (.loop RO) tm h1 V:=by
  intro k seen tm h1 v L I hnext;have n1:=I.nx;have l1:=I.le.lo;have gm:=(I.le.get bm xB).trans g;rw[show k+12=k+11+1 from by omega,acK];simp(disch:=try exact Y)only[Wz,Hy,anG,rkB,fT,T.cg,cw,dV,r9,VK,VL,BS,anO,RM,I.t5];refine Rz o I.gi gm (by omega) _ ?_ ?_
  .intro hall;simp(disch:=try exact Y)only[Wz,RJ,cw,JB,RK,VK];have hf:M.filter (λe=>seen.any (Nat.beq e.born))=M:=List.filter_eq_self.2 hall;exact hk _ h1 v L (hf▸I.perm) I.own I.le n1 I.gs I.gl
  .intro e he Bw;obtain⟨h2,e2⟩:∃h2:Heap,h2=⟨h1.nx,h1.bl.aV (a.nx+2) (.dD (some bm) clock (e.born::seen) clock),h1.lo⟩:=⟨_,rfl⟩
   have bt:Le a h2:=by rw[e2];exact I.le.set (by omega) _
   have n2:h2.nx=h1.nx:=by rw[e2]
   have l2:h2.lo=h1.lo:=by rw[e2]
   have gi2:h2.bl.get (a.nx+2)=some (.dD (some bm) clock (e.born::seen) clock):=by rw[e2];exact T.ah _ _ _
   have gs2:h2.bl.get a.nx=some (aa [v] 156 false):=by rw[e2];exact(T.aj _ _ (by omega)).trans I.gs
   have gl2:h2.bl.get (a.nx+1)=some (lD .ready eZ):=by rw[e2];exact(T.aj _ _ (by omega)).trans I.gl
   have ny:pY a h2 v (L.map cT):=by rw[e2];exact fC.put I.own (by rw[I.gi];intro hc;unfold aa at hc;cases hc) _
   rw[<-e2];clear e2;have VE:=(bt.get bm xB).trans g;simp(disch:=try exact Y)only[Wz,RJ,RL,Hy,ym,cw,dV,acL,RK,r9,anH,rkC,fT,T.cg,I.t5,L_ o he gi2 VE,cV,anI,rkD,I.t0];have n3:a.nx+3<=h2.nx:=by omega
   obtain⟨h3,e3⟩:∃h3:Heap,h3=⟨h2.nx+1,h2.bl.aV h2.nx (aa [.int .i64 e.t,.int .i64 e.r] 28 false),h2.lo⟩:=⟨_,rfl⟩
   have AH:Le h2 h3:=by rw[e3];exact(Le.refl h2).new _
   have nx3:h3.nx=h2.nx+1:=by rw[e3]
   have l3:h3.lo=h2.lo:=by rw[e3]
   have T7:=AH.up gl2;rw[<-e3,acN,round_eq T7];clear e3;simp(disch:=try exact Y)only[Wz,anL,anA,T.cg,fT,cw,dV];obtain⟨h4,e4⟩:∃h4:Heap,h4=⟨h3.nx+1,h3.bl.aV h3.nx (aa [.int .i64 e.t,.int .i64 e.r] 28 false),h3.lo⟩:=⟨_,rfl⟩
   have AJ:Le h3 h4:=by rw[e4];exact(Le.refl h3).new _
   have nx4:h4.nx=h3.nx+1:=by rw[e4]
   have l4:h4.lo=h3.lo:=by rw[e4]
   have gn4:h4.bl.get h3.nx=some (aa [.int .i64 e.t,.int .i64 e.r] 28 false):=by rw[e4];exact T.ah _ _ _
   have gl4:=AJ.up T7;have gs4:=((AH.trans AJ).get _ (by omega)).trans gs2;have gi4:=((AH.trans AJ).get _ (by omega)).trans gi2;have DL:pY a h4 v (L.map cT):=ny.le (AH.trans AJ);rw[<-e4,RP gl4 (by omega)];clear e4;have RQ:(h4.bl.aV (a.nx+1) (lD .busy eZ)).get a.nx=_:=(T.aj _ _ (by omega)).trans gs4;have gn5:(h4.bl.aV (a.nx+1) (lD .busy eZ)).get h3.nx=_:=(T.aj _ _ (by omega)).trans gn4;simp(disch:=try exact Y)only[Wz,ym,anM,anB,T.cg,fT,cw,dV,hA,RQ,gn5];obtain⟨h5,e5⟩:∃h5:Heap,h5=⟨h4.nx+1,(h4.bl.aV (a.nx+1) (lD .busy eZ)).aV h4.nx (aa [.int .i64 e.t,.int .i64 e.r] 28 false),h4.lo⟩:=⟨_,rfl⟩
   have acQ:Le a h5:=by rw[e5];exact(((bt.trans AH).trans AJ).set (b:=a.nx+1) (by omega) _).new _
   have nx5:h5.nx=h4.nx+1:=by rw[e5]
   have l5:h5.lo=h4.lo:=by rw[e5]
   have RQ:h5.bl.get a.nx=some (aa [v] 156 false):=by rw[e5];exact(T.aj _ _ (by omega)).trans RQ
   have gl5:h5.bl.get (a.nx+1)=some (lD .busy eZ):=by rw[e5];exact(T.aj _ _ (by omega)).trans (T.ah _ _ _)
   have gi5:h5.bl.get (a.nx+2)=some (.dD (some bm) clock (e.born::seen) clock):=by rw[e5];exact(T.aj _ _ (by omega)).trans ((T.aj _ _ (by omega)).trans gi4)
   have gx5:h5.bl.get h4.nx=some (aa ([cT e].flatMap iI) 28 false):=by rw[e5];exact T.ah _ _ _
   have tC:pY a h5 v (L.map cT):=by
    rw[e5];exact fC.le (fC.put DL (by rw[gl4];intro hc;unfold aa at hc;cases hc) _) ((Le.refl _).new _)
   have hLl:L.length<=1000:=by
    rw[I.perm.length_eq];exact Nat.le_trans (List.length_filter_le _ _) hM
   rw[<-e5];clear e5;refine jk (enc:=iI) (a:=a) (L:=L.map cT) (M:=[cT e]) mO Hz (by decide) (by decide) tC (Sl.new (by omega) gx5 _) acQ (by simp;omega) (by omega) _ ?_;intro v' h6 Rv Mb _ n6 l6 AK;have gs6:=(AK a.nx (by omega) (by rw[RQ];exact bx)).trans RQ;have gl6:=(AK (a.nx+1) (by omega) (by rw[gl5];intro hc;unfold aa at hc;cases hc)).trans gl5;have gi6:=(AK (a.nx+2) (by omega) (by rw[gi5];intro hc;unfold aa at hc;cases hc)).trans gi5;obtain⟨x',c',rfl,_⟩:=(show Sl iI h6 v' _ from Rv.sl)
   simp(disch:=try exact Y)only[Wz,gs6];obtain⟨h7,e7⟩:∃h7:Heap,h7=⟨h6.nx,h6.bl.aV a.nx (aa [.slice x' (L.map cT++[cT e]).length c'] 156 false),h6.lo⟩:=⟨_,rfl⟩
   have gl7:h7.bl.get (a.nx+1)=some (lD .busy eZ):=by rw[e7];exact(T.aj _ _ (by omega)).trans gl6
   have nx7:h7.nx=h6.nx:=by rw[e7]
   have l7:h7.lo=h6.lo:=by rw[e7]
   have gs7:h7.bl.get a.nx=some (aa [.slice x' (L.map cT++[cT e]).length c'] 156 false):=by rw[e7];exact T.ah _ _ _
   have gi7:h7.bl.get (a.nx+2)=some (.dD (some bm) clock (e.born::seen) clock):=by rw[e7];exact(T.aj _ _ (by omega)).trans gi6
   have T8:Le a h7:=by rw[e7];exact Mb.set (by omega) _
   have ho7:pY a h7 (.slice x' (L.map cT++[cT e]).length c') (L.map cT++[cT e]):=by rw[e7];exact fC.put Rv (by rw[gs6];exact bx) _
   rw[<-e7,BS,acO gl7 (by omega)];clear e7;simp(disch:=try exact Y)only[Wz,JB,RL,BS,r9];have fr:∀c,c≠a.nx+1->(h7.bl.aV (a.nx+1) (lD .ready eZ)).get c=h7.bl.get c:=λc hc=>T.aj _ _ (λe=>hc e.symm);refine hnext e he Bw _ _ (.slice x' (L.map cT++[cT e]).length c') (L++[e]) ⟨T8.set (by omega) _,by show a.nx+3<=h7.nx;omega,(fr _ (by omega)).trans gs7,T.ah _ _ _,(fr _ (by omega)).trans gi7,?_,(I.perm.append_right _).trans (NI o he Bw).symm,?_,?_⟩
   .rw[List.map_append];exact fC.put ho7 (by rw[gl7];intro hc;unfold aa at hc;cases hc) _
   .simp (disch:=decide) only [dV];exact I.t0
   .simp (disch:=decide) only [dV];exact I.t5
 intro k
 induction k with
 |zero=>
  intro seen tm h1 v L hu I;refine step 0 seen tm h1 v L I λe he Bw=>?_;have:=oW he Bw;omega
 |succ k ih=>
  intro seen tm h1 v L hu I;refine step (k+1) seen tm h1 v L I λe he Bw cQ h1' v' L' I'=>ih (e.born::seen) cQ h1' v' L' ?_ I';have:=oW he Bw;omega
theorem aik(rec:Rec Prop)(ps:List Nat)(x y:Code)(tm:T Value)(h:Heap)(V:Ex->T Value->Heap->Prop)(c:Value):dN False pN prog rec ps x y tm h V (.func (.func fK) #[] #[c])=iA False pN prog rec fK [.func (.yield h.nx) #[] #[],c] ⟨h.nx+1,h.bl.aV h.nx (.loop .ready none tm ps x y),h.lo⟩ (dG False h.nx tm V):=di (fl:=False) (.loop .ready none tm ps x y) h (λl h=>iA False pN prog rec fK [.func (.yield l) #[] #[],c] h (dG False l tm V))
theorem NA(tm:T Value)(h:Heap)(V:KQ):r5 False [] V .normal tm h=V (.tuple ⟨[]⟩) h:=id rfl
theorem anZ(tm:T Value)(h:Heap)(V:KQ):r5 False [.tmp 4] V .ret tm h=V (cL tm 4) h:=e_ tm (.tmp 4) λv=>V v h
theorem RR{l:Nat}{tm eZ:T Value}{v:Value}{h:Heap}{V:Ex->T Value->Heap->Prop}(hl:h.bl.get l=some (lD .ready eZ))(hlo:h.lo<=l):∃o,dG False l tm V v h=V .normal tm ⟨h.nx,h.bl.aV l o,h.lo⟩:=by
 refine⟨.loop .exhausted none eZ [7] aP (.block 1 aQ),?_⟩;unfold dG;simp only[hl,bB _ _ _ _ hlo]
theorem VM(s g:Value):lay [s,g] .nil 0=((T.nil:T Value).aV 0 s).aV 1 g:=by kernel_rfl
theorem HA(M:List HE)(clock bm mc:Nat)(a:Heap)(o:dw M clock)(g:a.bl.get bm=some (.map (M.map mN) clock))(xB:bm<a.nx)(gc:a.bl.get mc=some (aa [.map (some bm)] 265 false))(hmc:mc<a.nx)(hlo:a.lo<=a.nx)(hM:M.length<=1000)(V:KQ)(hk:∀v h' (L:List HE),L.Perm M->pY a h' v (L.map cT)->Le a h'->V v h'):CallW prog fA [.slice none 0 0,.func (.func fK) #[] #[.pointer (some ⟨mc,0,none⟩)]] a V:=by
 refine wA mixed (skip:=Yj) (M.length+60) ?_;rw[aia,ah_,VM];simp(disch:=try exact Y)only[Wz,Hy,anJ,anx,T.cg,fT,cw,dV,r9,anK,anz,ym,anD,aik];generalize htm:(((((T.nil:T Value).aV 0 (Value.slice none 0 0)).aV 1 (Value.func (Fn.func fK) #[] #[Value.pointer (some ⟨mc,0,none⟩)])).aV 2 (Value.pointer (some ⟨a.nx,0,none⟩))).aV 4 (Value.slice none 0 0)).aV 6 (Value.func (Fn.func fK) #[] #[Value.pointer (some ⟨mc,0,none⟩)])=eZ;have hA:cL eZ 2=ptrTo a.nx:=by rw[<-htm];simp (disch:=decide) only [dV,cw];rfl
 obtain⟨hA2,HB,tG,gs,gl,ail,aim⟩:=BF a (aa [.slice none 0 0] 156 false) (lD .ready eZ);rw[<-HB];clear HB;have uQ:=(tG.get _ hmc).trans gc;have VE:=(tG.get _ xB).trans g;rw[aib,ah9,VM];simp(disch:=try exact Y)only[Wz,Hy,anF,rkA,T.cg,fT,cw,dV,r9,uQ,Az VE,ym];refine NJ a bm clock M eZ o g xB hlo hM hA _ ?_ (M.length+41) [] _ _ (.slice none 0 0) [] ?_ ?_
 .intro tm h1 v L hp ho bG n1 g1 Yl;have l1:=bG.lo;obtain⟨ob,ea⟩:=RR (tm:=eZ) (v:=.tuple ⟨[]⟩) (V:=iW 0 (oC (RN (M.length+58)) (aC.seq Code.ret) (r5 False [sO.tmp 4] V))) Yl (by omega);rw[RM,NA,ea];have gs1:(h1.bl.aV (a.nx+1) ob).get a.nx=some (aa [v] 156 false):=(T.aj _ _ (by omega)).trans g1;simp(disch:=try exact Y)only[Wz,BS,r9,Hy,anN,anC,T.cg,fT,cw,dV,hA,gs1,aic,VL,anZ];exact hk v _ L hp (fC.put ho (by rw[Yl];intro hc;unfold aa at hc;cases hc) _) (bG.set (by omega) _)
 .exact Nat.le_trans (List.countP_le_length) (by omega)
 .have e2:hA2.nx=a.nx+2:=by omega
  refine⟨tG.new _,by show a.nx+3<=hA2.nx+1;omega,(T.aj _ _ (by omega)).trans gs,(T.aj _ _ (by omega)).trans gl,by rw[<-e2];exact T.ah _ _ _,.inl ⟨rfl,.inl rfl⟩,?_,?_,?_⟩
  .rw[List.filter_eq_nil_iff.2 (λx _=>by simp)]
  .simp (disch:=decide) only [dV,cw]
  .rw[cw,e2];rfl
def AL(a b:Int):Int:=if a<b then -1 else if b<a then 1 else 0
def q9(t r t' r':Int):Int:=if AL t t'=0 then AL r r' else AL t t'
theorem Mc(a:Int){h:Heap}{V:KQ}(hk:V (.bool false) h):CallW prog 174 [.int .i64 a] h V:=by
 refine jD (v:=.bool false) rfl rfl (av mixed ?_) hk;rw[aav];simp(disch:=try exact Y)only[Wz]
theorem AM(a b:Int){h:Heap}{V:KQ}(hk:V (.int .i64 (AL a b)) h):CallW prog 119 [.int .i64 a,.int .i64 b] h V:=by
 refine jD (v:=.int .i64 (AL a b)) rfl rfl (av mixed ?_) hk;rw[ZW];refine Mc _ (Mc _ ?_);rcases Int.lt_trichotomy a b with h1|h1|h1
 .simp(disch:=try exact Y)only[Wz,uD];simp[AL,h1]
 .simp(disch:=try exact Y)only[Wz,uD];simp[AL,h1]
 .simp(disch:=try exact Y)only[Wz,uD];simp[AL,h1];omega
theorem an7(a b:Int)(h:Heap)(v:Value)(hv:Sl (λn=>[Value.int .i64 n]) h v [a,b])(V:KQ)(hk:V (.int .i64 (if a=0 then b else a)) h):CallW prog 118 [v] h V:=by
 refine av mixed ?_;rw[ZV];simp only[hv.len];have he:∀n:Int,((λn=>[Value.int .i64 n]) n).length=1:=λ_=>rfl;have f0:=hv.ld he 0 (p:=a) rfl;have f1:=hv.ld he 1 (p:=b) rfl;obtain⟨b0,o0,hb0,ain,_,hh0⟩:=f0;obtain⟨b1,o1,hb1,VN,_,Za⟩:=f1;have hx0:=λ(β:Type)(fl:β) V=>eY (fl:=fl) hh0 0 V (Nat.lt_succ_self _);have hx1:=λ(β:Type)(fl:β) V=>eY (fl:=fl) Za 0 V (Nat.lt_succ_self _);simp only[Nat.add_zero]at hx0 hx1;refine⟨λn l h1=>h1=h/\∃k:Nat,slot l 10=.int .i64 (k:Int)/\k<=2/\n=2-k/\(0<k->a=0)/\(1<k->b=0),⟨2,rfl,0,rfl,by omega,by omega,by omega,by omega⟩,?_⟩;rintro n l h1 ⟨rfl,k,hs,hk2,rfl,ha,hb⟩;have:k=0\/k=1\/k=2:=by omega
 rcases this with rfl|rfl|rfl
 .by_cases h1:a=0
  .simp(disch:=try exact Y)only[Wz,hv.len,hs,qR,ain,hx0,h1,List.length_cons,List.length_nil];exact⟨1,by omega,trivial,1,rfl,by omega,by omega,λ_=>trivial,λh=>by omega⟩
  .simp(disch:=try exact Y)only[Wz,hv.len,hs,qR,ain,hx0,aZ h1,List.length_cons,List.length_nil];simpa[h1]using hk
 .have ha:=ha (by omega);by_cases h1:b=0
  .simp(disch:=try exact Y)only[Wz,hv.len,hs,qR,VN,hx1,h1,List.length_cons,List.length_nil];exact⟨0,by omega,trivial,2,rfl,by omega,by omega,λ_=>ha,λh=>trivial⟩
  .simp(disch:=try exact Y)only[Wz,hv.len,hs,qR,VN,hx1,aZ h1,List.length_cons,List.length_nil];simpa[ha]using hk
 .simp(disch:=try exact Y)only[Wz,hv.len,hs,List.length_cons,List.length_nil];have ha:=ha (by omega);have hb:=hb (by omega);simpa[ha,hb]using hk
theorem nM(t r t' r':Int){h:Heap}{V:KQ}(hk:V (.int .i64 (q9 t r t' r')) h):CallW prog 96 [cV t r,cV t' r'] h V:=by
 refine jD (v:=.int .i64 (q9 t r t' r')) rfl rfl (av mixed ?_) hk;rw[agY];simp(disch:=try exact Y)only[Wz,cV];refine AM _ _ ?_;simp(disch:=try exact Y)only[Wz];refine AM _ _ ?_;simp(disch:=try exact Y)only[Wz];refine an7 _ _ _ _ (Sl.new (L:=[AL t t',AL r r']) (e:=3) (op:=false) (Nat.lt_succ_self _) (T.ah _ _ _) _) _ ?_;rfl
def Bp(p q:Int × Int):Prop:=p.1<q.1\/(p.1=q.1/\p.2<q.2)
theorem NK{a b c:Int × Int}(h1:Bp a b)(h2:Bp b c):Bp a c:=by unfold Bp at *;omega
theorem RT(p q:Int × Int):q9 p.1 p.2 q.1 q.2<0<->Bp p q:=by
 unfold q9 AL Bp;split<;>split<;>(try split)<;>(try split)<;>omega
theorem Md{p q:Int × Int}(h:p≠q)(hn:¬Bp p q):Bp q p:=by
 unfold Bp at *
 have:¬(p.1=q.1/\p.2=q.2):=λ⟨a,b⟩=>h (Prod.ext a b);omega
end Go.Proofs

namespace Go.Vai
open Go
section
variable {α:Type}{s:Nat}{enc:α->List Value}
end
end Go.Vai
namespace Go.Vai
open Go
section
variable {β:Type}{fl:β}{α:Type}{s:Nat}{enc:α->List Value}
theorem fC.same{a h:Heap}{e:TypeId}{v:Value}{L:List α}(ho:fC enc a e h v L):kY 8 v v=true:=by
 rcases ho with⟨rfl,rfl|⟨b,o,rfl⟩⟩|⟨b,rfl,h1,h2,h3,h4⟩
 .rw[uu]
 .rw[iR]
 .rw[iR]
end
end Go.Vai

namespace Go.Proofs
open Go.Vai Go.Clashes
open Tryz (prog)
end Go.Proofs
end
