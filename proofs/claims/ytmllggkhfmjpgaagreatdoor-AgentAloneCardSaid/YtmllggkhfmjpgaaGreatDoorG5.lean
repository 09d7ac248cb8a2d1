/-
  PROVED HERE: a part of the proof (K26, VaiY, K27, K28, K29, K30, K31, K42, K43, L1, VaiE, L2, L3, L4, L7).
-/
import Derived.Test.YtmllggkhfmjpgaaGreatDoorG4
import Derived.Test.YtmllggkhfmjpgaaGreatDoorG3
import Derived.Test.YtmllggkhfmjpgaaGreatDoorG2
set_option linter.unusedVariables false
set_option linter.unusedSimpArgs false
set_option maxRecDepth 100000
noncomputable section
namespace Go.Proofs
open Go.Vai Go.Clashes
open Tryz (prog)
theorem Qv{h:af}{bb bm bp bl most:Nat}{M:List HE}{clock:Nat}{F:List Int}{B:List Bool}(s:bu h bb bm bp bl most M clock F B)(hlo:h.lo<=h.nx)(id x:Int)(V:KQ)(Ah:∀h',(∀e∈M,ct e.Q id=none)->Le h h'->V (YYY 5) h')(Ac:∀h' e p,e∈M->ct e.Q id=some p->(∃o∈e.Q,o.id≠id/\o.x=x)->Le h h'->V (YYY 4) h')(Qu:∀h' e p,e∈M->ct e.Q id=some p->(∀o∈e.Q,o.id≠id->o.x≠x)->0<p.s->Le h h'->V (YYY 7) h')(k_:∀h' M' clock' e p i,e∈M->e.Q[i]? = some p->ct e.Q id=some p->(∀o∈e.Q,o.id≠id->o.x≠x)->¬0<p.s->j_ h h' bb bm bp bl most M M' clock' F B e (e.Q.set i (rA p x)) e.w->V (YYY 0) h'):aj prog 357 [YYQ bb,YYY id,YYY x] h V:=by
 apply YYZ;rw[ZA];refine T8 s hlo id _ ?_ ?_
 .intro h1 hno bN;simp(disch:=try exact Y)only[Wz,qa];refine Qs bb h1 _ ?_;exact Ah h1 hno bN
 .intro h1 e p he hf bN;have n1:=bN.nx;have l1:=bN.lo;have s1:=s.le bN;have H:=s1.aY e he;have hlt:=H.lt;have gd:=s1.good e he;have sY:=gd.small;obtain⟨qx,qc,eq,_⟩:=(show Sl bH h1 e.q e.Q from H.qv.1)
  have gh:=H.get;rw[eq]at gh;obtain⟨i,hi,Z2⟩:=Gy gd.vq hf;simp(disch:=try exact Y)only[Wz,tM,F3,aN,gh];refine Z3 e.t e.r _ e.w id x e.Q h1 _ (by rw[<-eq];exact H.qv.1) XQ XQ gd.vq.pair hi Z2 ?_ ?_ ?_
  .intro hx h2 bF;have:=bF.nx;have:=bF.lo;simp(disch:=try exact Y)only[Wz,jM];refine⟨λl h'=>Le h h',?_,?_⟩
   .exact(bN.trans bF).new _
   .intro l h' le';exact Ac _ e p he hf hx le'
  .intro hx hs h2 bF;have:=bF.nx;have:=bF.lo;simp(disch:=try exact Y)only[Wz,jM];refine⟨λl h'=>Le h h',?_,?_⟩
   .exact(bN.trans bF).new _
   .intro l h' le';exact Qu _ e p he hf hx hs le'
  .intro hx hs q' h2 Dz bF;have n2:=bF.nx;have l2:=bF.lo;obtain⟨vV,vW,rfl,_⟩:=(show Sl bH h2 q' _ from Dz.1)
   have s2:=s1.le bF;simp(disch:=try exact Y)only[Wz,jM];have cT:Le h2 ⟨h2.nx+1,h2.bl.bq h2.nx (fM e.t e.r (.slice vV (e.Q.set i (rA p x)).length vW) e.w),h2.lo⟩:=(Le.refl h2).new _;have hlv:=gd.vq.hand (x:=x) hi (by rw[Z2];exact hx);refine⟨λl h'=>∃M' clock',j_ h h' bb bm bp bl most M M' clock' F B e (e.Q.set i (rA p x)) e.w,?_,?_⟩
   .refine tN (s2.le cT) (by show h2.lo<=h2.nx+1;omega) e.t e.r _ _ _ _ (Dz.1.le cT) hlv (by rw[List.length_set];omega) ?_;intro M' clock' v' h' s7 kR ho7 fr7;exact⟨M',clock',s7,(qW.of_le ((bN.trans bF).trans cT)).trans fr7,hlv,kR⟩
   .rintro l h' ⟨M',clock',hm⟩;exact k_ h' M' clock' e p i he hi hf hx hs hm
theorem ajS(a b c d e:Int):ki 8 (.agg ⟨[YYY a,YYY b,YYY c,YYY d,YYY e]⟩) (.agg ⟨[YYY a,YYY b,YYY c,YYY d,YYY e]⟩)=true:=by unfold ki;exact uT 6 [a,b,c,d,e]
theorem Uc{h:af}{bb bm bp bl most:Nat}{M:List HE}{clock:Nat}{F:List Int}{B:List Bool}(s:bu h bb bm bp bl most M clock F B)(hlo:h.lo<=h.nx)(id:Int)(V:KQ)(k_:∀h',(∀e∈M,ct e.Q id=none)->Le h h'->V (.tuple ⟨[cQ 0 0,lT ⟨0,0,0,0,0⟩,.bool false]⟩) h')(dB:∀h' e p,e∈M->ct e.Q id=some p->Le h h'->V (.tuple ⟨[cQ e.t e.r,lT p,.bool true]⟩) h'):aj prog 292 [YYQ bb,YYY id] h V:=by
 apply YYZ;rw[P9];simp(disch:=try exact Y)only[Wz];obtain⟨hA,bh,aU,g1,g3,eE,eG⟩:=L8 h (ai [YYY 0,YYY 0] 28 false) (j8 ⟨0,0,0,0,0⟩);rw[<-bh];clear bh;refine T8 (s.le aU) XQ id _ ?_ ?_
 .intro h1 hno bN;have n1:=bN.nx;have l1:=bN.lo;have g1:=(bN.get _ XQ).trans g1;have g3:=(bN.get _ XQ).trans g3;simp(disch:=try exact Y)only[Wz,qa,g1,g3,bH];exact k_ _ hno ((((aU.trans bN).set XQ _)).set XQ _)
 .intro h1 e p he hf bN;have n1:=bN.nx;have l1:=bN.lo;have g1:=(bN.get _ XQ).trans g1;have g3:=(bN.get _ XQ).trans g3;have s1:=(s.le aU).le bN;have H:=s1.aY e he;have hlt:=H.lt;have gd:=s1.good e he;have sY:=gd.small;obtain⟨qx,qc,eq,_⟩:=(show Sl bH h1 e.q e.Q from H.qv.1)
  have gh:=H.get;rw[eq]at gh;simp(disch:=try exact Y)only[Wz,tM,FI,aN,gh];refine Lb e.t e.r _ e.w id _ h1 _ (by rw[<-eq];exact H.qv.1) XQ XQ ?_;intro h2 bF;have n2:=bF.nx;have l2:=bF.lo;have g1:=(bF.get _ XQ).trans g1;have g3:=(bF.get _ XQ).trans g3;have gh2:=(bF.get _ hlt).trans gh;rw[hf];simp(disch:=try exact Y)only[Wz,bH,g1,g3,gh2,aN,ajS];exact dB _ e p he hf (((((aU.trans bN).trans bF).new _).set XQ _).set XQ _)
end Go.Proofs

namespace Go.Vai
open Go
def prK(P:Program)(skip:FuncId->Bool):lF Prop:=⟨λf=>match skip f with|true=>none|false=>some (aj P f),And⟩
theorem IS(P:Program)(skip:FuncId->Bool):gL (λp:Prop=>p) (prK P skip) P:=by
 refine⟨λx y h=>h,λf g hg args args' h φ w V ha hr hgood=>?_⟩;unfold prK at hg;simp only at hg;split at hg
 .cases hg
 .cases hg;exact hgood φ w args' ha hr
theorem MB{P:Program}(hm:P.follows .mixedOrders=true){skip:FuncId->Bool}{f:FuncId}{args:List Value}{h:af}{V:KQ}(n:Nat)(hg:mA False (prK P skip) P (run False (prK P skip) P n) f args h V):aj P f args h V:=by
 intro φ w args' ha hr;exact fJ (good:=λp:Prop=>p) (fl:=False) (λh=>h) (IS P skip) (Bf (λh=>h) (IS P skip) (rS (λh=>h) (IS P skip) hm) n).1 ha hr hg
def Qw(P:Program)(f:FuncId):Code:=match xH P f with | .mk c _ _=>c | .none=>.skip
def C8:Code->Code | .seq a _=>a|c=>c
def C9:Code->Code | .seq _ b=>b|c=>c
def inC:Code->Code | .block _ c=>c | .loop c=>c | .scope c=>c|c=>c
def rfA:Code->Code | .rangeFunc _ _ a _=>a|c=>c
def rfB:Code->Code | .rangeFunc _ _ _ b=>b|c=>c
end Go.Vai

namespace Go.Proofs
open Go.Vai Go.Clashes
open Tryz (prog)
abbrev fK:FuncId:=307
abbrev fA:FuncId:=204
def Wp(f:FuncId):Bool:=Nat.beq f fK || Nat.beq f fA
noncomputable abbrev pN:lF Prop:=prK prog Wp
noncomputable abbrev RN(n:Nat):Rec Prop:=run False pN prog n
def cK:Code:=Qw prog fK
def cA:Code:=Qw prog fA
def kA:Code:=C8 cK
def kL:Code:=inC (inC (C9 cK))
def kB:Code:=C8 kL
def Wq:Code:=inC (C9 (C9 kL))
def kC:Code:=C8 Wq
def kD:Code:=C8 (C9 Wq)
theorem ae4:cK=.seq kA (.block 0 (.loop (.seq kB (.seq (.cond (.tmp 7) .skip (.exit 0)) (.block 1 (.seq kC (.seq kD (.cond (.tmp 13) .ret .skip)))))))):=by kernel_rfl
def aA:Code:=C8 cA
def aB:Code:=C8 (C8 (C9 cA))
def aR:Code:=inC (C9 (C8 (C9 cA)))
def aP:Code:=rfA aR
def aQ:Code:=inC (rfB aR)
def aC:Code:=C8 (C9 (C9 cA))
theorem ae5:cA=.seq aA (.seq (.seq aB (.block 0 (.rangeFunc (.tmp 6) #[7] aP (.block 1 aQ)))) (.seq aC .ret)):=by kernel_rfl
variable (rec:Rec Prop)(tm:T Value)(h:af)
theorem rkA(V:Ex->T Value->af->Prop):body False pN prog rec kA tm h V =
  ev tm (.tmp 1) λx=>az False x h λv h=>T.set tm 4 v λtm=>ev tm (.tmp 4) λx=>ow False x h λv h=>T.set tm 5 v λtm=>V .normal tm h:=by kernel_rfl
theorem rkB(V:Ex->T Value->af->Prop):body False pN prog rec kB tm h V =
  ev tm (.tmp 5) λx=>q7 False And x h λv h=>T.set tm 6 v λtm=>ev tm (.tmp 6) λx=>aJ False 0 x h λv h=>T.set tm 7 v λtm=>V .normal tm h:=by kernel_rfl
theorem rkC(V:Ex->T Value->af->Prop):body False pN prog rec kC tm h V =
  ev tm (.tmp 5) λx=>ox False x h λv h=>T.set tm 8 v λtm=>ev tm (.tmp 8) λx=>aJ False 0 x h λv h=>T.set tm 9 v λtm=>
   aD False (ai [YYY 0,YYY 0] 28 false) h λb h=>T.set tm 3 (aq b) λtm=>ev tm (.tmp 3) λa=>ev tm (.tmp 9) λv=>aS False 2 a v h λv h=>V .normal tm h:=by kernel_rfl
theorem rkD(V:Ex->T Value->af->Prop):body False pN prog rec kD tm h V =
  ev tm (.tmp 0) λfv=>T.set tm 10 fv λtm=>ev tm (.tmp 3) λx=>aH False 2 x h λv h=>T.set tm 11 v λtm=>
   ev tm (.tmp 11) λx=>ev tm (.tmp 10) λfv=>A5 False pN prog rec fv [x] h λv h=>T.set tm 12 v λtm=>ev tm (.tmp 12) λx=>jI False .not x h λv h=>T.set tm 13 v λtm=>V .normal tm h:=by kernel_rfl
theorem ajT(V:Ex->T Value->af->Prop):body False pN prog rec aA tm h V =
  ev tm (.tmp 0) λs=>aK False (Value.cells s).toList 156 false λo=>aD False o h λb h=>T.set tm 2 (aq b) λtm=>T.set tm 4 (.slice none 0 0) λtm=>V .normal tm h:=by kernel_rfl
theorem ajU(V:Ex->T Value->af->Prop):body False pN prog rec aB tm h V=ev tm (.tmp 1) λg=>T.set tm 6 g λtm=>V .normal tm h:=by kernel_rfl
theorem ajV(V:Ex->T Value->af->Prop):body False pN prog rec aP tm h V =
  aD False (ai [YYY 0,YYY 0] 28 false) h λb h=>T.set tm 5 (aq b) λtm=>ev tm (.tmp 5) λa=>ev tm (.tmp 7) λv=>aS False 2 a v h λv h=>V .normal tm h:=by kernel_rfl
theorem ajW(V:Ex->T Value->af->Prop):body False pN prog rec aQ tm h V =
  ev tm (.tmp 2) λx=>az False x h λv h=>T.set tm 8 v λtm=>ev tm (.tmp 5) λx=>aH False 2 x h λv h=>T.set tm 9 v λtm=>
   ev tm (.tmp 9) λv=>bB False [(0,2)] [v] [YYY 0,YYY 0] λcs=>aK False cs 28 false λo=>aD False o h λb h=>T.set tm 10 (bU 1 1 b) λtm=>
   ev tm (.tmp 8) λs=>ev tm (.tmp 10) λx=>bO False 28 2 [YYY 0,YYY 0] false s x h λv h=>T.set tm 11 v λtm=>ev tm (.tmp 2) λa=>ev tm (.tmp 11) λv=>aS False 1 a v h λv h=>V .normal tm h:=by kernel_rfl
theorem ajX(V:Ex->T Value->af->Prop):body False pN prog rec aC tm h V =
  ev tm (.tmp 2) λx=>az False x h λv h=>T.set tm 12 v λtm=>ev tm (.tmp 12) λv=>T.set tm 4 v λtm=>V .normal tm h:=by kernel_rfl
theorem ae6(s g:Value)(V:KQ):mA False pN prog rec fA [s,g] h V=rec cA (lay [s,g] .nil 0) h (LI False [.tmp 4] V):=by kernel_rfl
theorem ae7(y m:Value)(V:KQ):mA False pN prog rec fK [y,m] h V=rec cK (lay [y,m] .nil 0) h (LI False [] V):=by kernel_rfl
theorem jk(t:T Value)(n:Nat)(v:Value):dL (t.bq n v) n=v:=by unfold dL;rw[T.au]
theorem qd(t:T Value){n m:Nat}(v:Value)(h:n≠m):dL (t.bq n v) m=dL t m:=by unfold dL;rw[T.ax _ _ h]
theorem sg{β:Type}(tm:T Value)(t:Nat)(V:Value->β):ev tm (.tmp t) V=V (dL tm t):=gI _ _ _
section
variable (n:Nat)(a b:Code)(tm:T Value)(h:af)(V:Ex->T Value->af->Prop)
theorem GC:RN (n+1) (.seq a b) tm h V=RN n a tm h (An (RN n) b V):=id rfl
theorem Qx(t:Nat):RN (n+1) (.cond (.tmp t) a b) tm h V=xJ False (RN n) a b tm h V (dL tm t):=gI tm (.tmp t) (xJ False (RN n) a b tm h V)
theorem xu(i:Nat):RN (n+1) (.block i a) tm h V=RN n a tm h (pK i V):=id rfl
theorem aae:RN (n+1) (.loop a) tm h V=RN n a tm h (An (RN n) (.loop a) V):=id rfl
theorem Qy(i:Nat):RN (n+1) (.exit i) tm h V=V (.exit i) tm h:=id rfl
theorem ae8:RN (n+1) .ret tm h V=V .ret tm h:=id rfl
theorem Qz:RN (n+1) .skip tm h V=V .normal tm h:=id rfl
theorem ajY(t:Nat)(ps:Array Tmp):RN (n+1) (.rangeFunc (.tmp t) ps a b) tm h V=iM False pN prog (RN n) ps.toList a b tm h V (dL tm t):=gI tm (.tmp t) (iM False pN prog (RN n) ps.toList a b tm h V)
theorem ajZ:RN (n+1) kA tm h V=body False pN prog (RN n) kA tm h V:=id rfl
theorem aj0:RN (n+1) kB tm h V=body False pN prog (RN n) kB tm h V:=id rfl
theorem aj1:RN (n+1) kC tm h V=body False pN prog (RN n) kC tm h V:=id rfl
theorem aj2:RN (n+1) kD tm h V=body False pN prog (RN n) kD tm h V:=id rfl
theorem aj3:RN (n+1) aA tm h V=body False pN prog (RN n) aA tm h V:=id rfl
theorem aj4:RN (n+1) aB tm h V=body False pN prog (RN n) aB tm h V:=id rfl
theorem aj5:RN (n+1) aP tm h V=body False pN prog (RN n) aP tm h V:=id rfl
theorem aj6:RN (n+1) aQ tm h V=body False pN prog (RN n) aQ tm h V:=id rfl
theorem aj7:RN (n+1) aC tm h V=body False pN prog (RN n) aC tm h V:=id rfl
theorem MC(rec:Rec Prop):An rec b V .normal tm h=rec b tm h V:=id rfl
theorem ae9(rec:Rec Prop)(i:Nat):An rec b V (.exit i) tm h=V (.exit i) tm h:=id rfl
theorem ae_(rec:Rec Prop):An rec b V .ret tm h=V .ret tm h:=id rfl
theorem Ud(i:Nat):pK i V .normal tm h=V .normal tm h:=id rfl
theorem aj8(i:Nat):pK i V .ret tm h=V .ret tm h:=id rfl
theorem Wr:pK 0 V (.exit 0) tm h=V .normal tm h:=id rfl
theorem aj9(rec:Rec Prop):xJ False rec a b tm h V (.bool true)=rec a tm h V:=id rfl
theorem afa(rec:Rec Prop):xJ False rec a b tm h V (.bool false)=rec b tm h V:=id rfl
end
noncomputable abbrev QB:Code:=.seq kB (.seq (.cond (.tmp 7) .skip (.exit 0)) (.block 1 (.seq kC (.seq kD (.cond (.tmp 13) .ret .skip)))))
noncomputable abbrev kM(st:LoopState)(qO:T Value):bL:=.loop st none qO [7] aP (.block 1 aQ)
def eP(p:Int × Int):List Value:=[YYY p.1,YYY p.2]
theorem encN_len(p:Int × Int):(eP p).length=2:=rfl
theorem QC(p:Int × Int):(eP p).all dI=true:=rfl
def dU(e:HE):Int × Int:=(e.t,e.r)
abbrev zw(a h:af)(v:Value)(L:List (Int × Int)):Prop:=ia eP a 28 h v L
structure aaf(a:af)(bm:Nat)(clock:Nat)(M:List HE)(qO:T Value)(seen:List Nat)(tm:T Value)(h1:af)(v:Value)(L:List HE):Prop where
 le:Le a h1
 nx:a.nx+3<=h1.nx
 gs:h1.bl.get a.nx=some (ai [v] 156 false)
 gl:h1.bl.get (a.nx+1)=some (kM .ready qO)
 gi:h1.bl.get (a.nx+2)=some (.eo (some bm) clock seen clock)
 own:zw a h1 v (L.map dU)
 perm:L.Perm (M.filter λe=>seen.any (Nat.beq e.born))
 t0:dL tm 0=.func (.yield (a.nx+1)) #[] #[]
 t5:dL tm 5=aq (a.nx+2)
theorem aag(rec:Rec Prop)(l:Nat)(x:Value)(h:af)(V:KQ):A5 False pN prog rec (.func (.yield l) #[] #[]) [x] h V=uB False rec l [x] h V:=id rfl
theorem round_eq{rec:Rec Prop}{l:Nat}{x:Value}{h:af}{V:KQ}{st:LoopState}{qO:T Value}(hl:h.bl.get l=some (kM st qO)):uB False rec l [x] h V=rec aP (qO.bq 7 x) h (iS False rec l (.block 1 aQ) V):=by
 unfold uB;simp only[hl,List.length_cons,List.length_nil]
 show xI [7] [x] qO _=_
 unfold xI;rw[T.gf];unfold xI;rfl
theorem QD{rec:Rec Prop}{l:Nat}{bd:Code}{tm:T Value}{h:af}{V:KQ}{qO:T Value}(hl:h.bl.get l=some (kM .ready qO))(hlo:h.lo<=l):iS False rec l bd V .normal tm h=rec bd tm ⟨h.nx,h.bl.bq l (kM .busy qO),h.lo⟩ (nF False l V):=by
 unfold iS;simp only[hl,cg _ _ _ _ hlo]
theorem aah{l:Nat}{tm:T Value}{h:af}{V:KQ}{st:LoopState}{qO:T Value}(hl:h.bl.get l=some (kM st qO))(hlo:h.lo<=l):nF False l V .normal tm h=V (.bool true) ⟨h.nx,h.bl.bq l (kM .ready qO),h.lo⟩:=by
 unfold nF;simp only[hl,cg _ _ _ _ hlo]
theorem MD{M:List HE}{clock:Nat}(o:fU M clock){e:HE}(he:e∈M){seen:List Nat}(hn:seen.any (Nat.beq e.born)=false):(M.filter λx=>(e.born::seen).any (Nat.beq x.born)).Perm (M.filter (λx=>seen.any (Nat.beq x.born))++[e]):=by
 have hnd:M.Nodup:=o.bn.imp λh e=>h (by rw[e]);refine(List.perm_ext_iff_of_nodup (hnd.filter _) ?_).2 λx=>?_
 .rw[List.nodup_append];refine⟨hnd.filter _,by simp,λx hx y hy=>?_⟩;rw[List.mem_singleton]at hy;subst hy;rintro rfl;rw[List.mem_filter,hn]at hx;exact absurd hx.2 (by simp)
 .rw[List.mem_filter,List.mem_append,List.mem_filter,List.mem_singleton,List.any_cons,Bool.or_eq_true];constructor
  .rintro⟨h1,h2|h2⟩
   .exact .inr (o.Lh h1 he (Nat.eq_of_beq_eq_true h2))
   .exact .inl ⟨h1,h2⟩
  .rintro(⟨h1,h2⟩|rfl)
   .exact⟨h1,.inr h2⟩
   .exact⟨he,.inl (Nat.beq_refl _)⟩
theorem ME(a:af)(bm clock:Nat)(M:List HE)(qO:T Value)(o:fU M clock)(g:a.bl.get bm=some (.map (M.map lW) clock))(zx:bm<a.nx)(hlo:a.lo<=a.nx)(hM:M.length<=1000)(hA:dL qO 2=aq a.nx)(V:Ex->T Value->af->Prop)(hk:∀(tm:T Value)(h1:af)(v:Value)(L:List HE),L.Perm M->zw a h1 v (L.map dU)->Le a h1->a.nx+3<=h1.nx->h1.bl.get a.nx=some (ai [v] 156 false)->h1.bl.get (a.nx+1)=some (kM .ready qO)->V (.exit 0) tm h1):∀(k:Nat)(seen:List Nat)(tm:T Value)(h1:af)(v:Value)(L:List HE),C7 M seen<=k->aaf a bm clock M qO seen tm h1 v L->RN (k+12) (.loop QB) tm h1 V:=by
 have step:∀(k:Nat)(seen:List Nat)(tm:T Value)(h1:af)(v:Value)(L:List HE),aaf a bm clock M qO seen tm h1 v L->
   (∀e∈M,seen.any (Nat.beq e.born)=false->∀(tm:T Value)(h1:af)(v:Value)(L:List HE),aaf a bm clock M qO (e.born::seen) tm h1 v L->RN (k+11) (.loop QB) tm h1 V)->RN (k+12) (.loop QB) tm h1 V:=by
  intro k seen tm h1 v L I hnext;have n1:=I.nx;have l1:=I.le.lo;have gm:=(I.le.get bm zx).trans g;rw[show k+12=k+11+1 from by omega,aae];simp(disch:=try exact Y)only[Wz,GC,aj0,rkB,sg,T.gf,jk,qd,MC,ae9,ae_,Ud,aj8,Wr,I.t5];refine Qq o I.gi gm XQ _ ?_ ?_
  .intro hall;simp(disch:=try exact Y)only[Wz,Qx,jk,afa,Qy,ae9];have hf:M.filter (λe=>seen.any (Nat.beq e.born))=M:=List.filter_eq_self.2 hall;exact hk _ h1 v L (hf▸I.perm) I.own I.le n1 I.gs I.gl
  .intro e he JN;obtain⟨h2,e2⟩:∃h2:af,h2=⟨h1.nx,h1.bl.bq (a.nx+2) (.eo (some bm) clock (e.born::seen) clock),h1.lo⟩:=⟨_,rfl⟩
   have bF:Le a h2:=by rw[e2];exact I.le.set XQ _
   have n2:h2.nx=h1.nx:=by rw[e2]
   have l2:h2.lo=h1.lo:=by rw[e2]
   have gi2:h2.bl.get (a.nx+2)=some (.eo (some bm) clock (e.born::seen) clock):=by rw[e2];exact T.au _ _ _
   have gs2:h2.bl.get a.nx=some (ai [v] 156 false):=by rw[e2];exact(T.ax _ _ XQ).trans I.gs
   have gl2:h2.bl.get (a.nx+1)=some (kM .ready qO):=by rw[e2];exact(T.ax _ _ XQ).trans I.gl
   have mj:zw a h2 v (L.map dU):=by rw[e2];exact ia.put I.own (by rw[I.gi];intro hc;unfold ai at hc;cases hc) _
   rw[<-e2];clear e2;have gm2:=(bF.get bm zx).trans g;simp(disch:=try exact Y)only[Wz,Qx,Qz,GC,xu,jk,qd,aj9,Qy,MC,aj1,rkC,sg,T.gf,I.t5,Lg o he gi2 gm2,cQ,aj2,rkD,I.t0];have n3:a.nx+3<=h2.nx:=by omega
   obtain⟨h3,e3⟩:∃h3:af,h3=⟨h2.nx+1,h2.bl.bq h2.nx (ai [YYY e.t,YYY e.r] 28 false),h2.lo⟩:=⟨_,rfl⟩
   have QE:Le h2 h3:=by rw[e3];exact(Le.refl h2).new _
   have nx3:h3.nx=h2.nx+1:=by rw[e3]
   have l3:h3.lo=h2.lo:=by rw[e3]
   have gl3:=(QE.get _ XQ).trans gl2;rw[<-e3,aag,round_eq gl3];clear e3;simp(disch:=try exact Y)only[Wz,aj5,ajV,T.gf,sg,jk,qd];obtain⟨h4,e4⟩:∃h4:af,h4=⟨h3.nx+1,h3.bl.bq h3.nx (ai [YYY e.t,YYY e.r] 28 false),h3.lo⟩:=⟨_,rfl⟩
   have QF:Le h3 h4:=by rw[e4];exact(Le.refl h3).new _
   have nx4:h4.nx=h3.nx+1:=by rw[e4]
   have l4:h4.lo=h3.lo:=by rw[e4]
   have gn4:h4.bl.get h3.nx=some (ai [YYY e.t,YYY e.r] 28 false):=by rw[e4];exact T.au _ _ _
   have gl4:=(QF.get _ XQ).trans gl3;have gs4:=((QE.trans QF).get _ XQ).trans gs2;have gi4:=((QE.trans QF).get _ XQ).trans gi2;have HL:zw a h4 v (L.map dU):=mj.le (QE.trans QF);rw[<-e4,QD gl4 XQ];clear e4;have gs5:(h4.bl.bq (a.nx+1) (kM .busy qO)).get a.nx=_:=(T.ax _ _ XQ).trans gs4;have gn5:(h4.bl.bq (a.nx+1) (kM .busy qO)).get h3.nx=_:=(T.ax _ _ XQ).trans gn4;simp(disch:=try exact Y)only[Wz,xu,aj6,ajW,T.gf,sg,jk,qd,hA,gs5,gn5];obtain⟨h5,e5⟩:∃h5:af,h5=⟨h4.nx+1,(h4.bl.bq (a.nx+1) (kM .busy qO)).bq h4.nx (ai [YYY e.t,YYY e.r] 28 false),h4.lo⟩:=⟨_,rfl⟩
   have aj_:Le a h5:=by rw[e5];exact(((bF.trans QE).trans QF).set (b:=a.nx+1) XQ _).new _
   have nx5:h5.nx=h4.nx+1:=by rw[e5]
   have l5:h5.lo=h4.lo:=by rw[e5]
   have gs5:h5.bl.get a.nx=some (ai [v] 156 false):=by rw[e5];exact(T.ax _ _ XQ).trans gs5
   have gl5:h5.bl.get (a.nx+1)=some (kM .busy qO):=by rw[e5];exact(T.ax _ _ XQ).trans (T.au _ _ _)
   have gi5:h5.bl.get (a.nx+2)=some (.eo (some bm) clock (e.born::seen) clock):=by rw[e5];exact(T.ax _ _ XQ).trans ((T.ax _ _ XQ).trans gi4)
   have gx5:h5.bl.get h4.nx=some (ai ([dU e].flatMap eP) 28 false):=by rw[e5];exact T.au _ _ _
   have oI:zw a h5 v (L.map dU):=by
    rw[e5];exact ia.le (ia.put HL (by rw[gl4];intro hc;unfold ai at hc;cases hc) _) ((Le.refl _).new _)
   have hLl:L.length<=1000:=by
    rw[I.perm.length_eq];exact Nat.le_trans (List.length_filter_le _ _) hM
   rw[<-e5];clear e5;refine jC (enc:=eP) (a:=a) (L:=L.map dU) (M:=[dU e]) encN_len QC J0 J0 oI (Sl.new XQ gx5 _) aj_ (by simp;omega) XQ _ ?_;intro v' h6 Wk zy _ n6 l6 QH;have gs6:=(QH a.nx XQ (by rw[gs5];exact bC)).trans gs5;have gl6:=(QH (a.nx+1) XQ (by rw[gl5];intro hc;unfold ai at hc;cases hc)).trans gl5;have gi6:=(QH (a.nx+2) XQ (by rw[gi5];intro hc;unfold ai at hc;cases hc)).trans gi5;obtain⟨x',c',rfl,_⟩:=(show Sl eP h6 v' _ from Wk.sl)
   simp(disch:=try exact Y)only[Wz,gs6];obtain⟨h7,e7⟩:∃h7:af,h7=⟨h6.nx,h6.bl.bq a.nx (ai [.slice x' (L.map dU++[dU e]).length c'] 156 false),h6.lo⟩:=⟨_,rfl⟩
   have gl7:h7.bl.get (a.nx+1)=some (kM .busy qO):=by rw[e7];exact(T.ax _ _ XQ).trans gl6
   have nx7:h7.nx=h6.nx:=by rw[e7]
   have l7:h7.lo=h6.lo:=by rw[e7]
   have gs7:h7.bl.get a.nx=some (ai [.slice x' (L.map dU++[dU e]).length c'] 156 false):=by rw[e7];exact T.au _ _ _
   have gi7:h7.bl.get (a.nx+2)=some (.eo (some bm) clock (e.born::seen) clock):=by rw[e7];exact(T.ax _ _ XQ).trans gi6
   have SD:Le a h7:=by rw[e7];exact zy.set XQ _
   have ho7:zw a h7 (.slice x' (L.map dU++[dU e]).length c') (L.map dU++[dU e]):=by rw[e7];exact ia.put Wk (by rw[gs6];exact bC) _
   rw[<-e7,Ud,aah gl7 XQ];clear e7;simp(disch:=try exact Y)only[Wz,afa,Qz,Ud,MC];have fr:∀c,c≠a.nx+1->(h7.bl.bq (a.nx+1) (kM .ready qO)).get c=h7.bl.get c:=λc hc=>T.ax _ _ (λe=>hc e.symm);refine hnext e he JN _ _ (.slice x' (L.map dU++[dU e]).length c') (L++[e]) ⟨SD.set XQ _,by show a.nx+3<=h7.nx;omega,(fr _ XQ).trans gs7,T.au _ _ _,(fr _ XQ).trans gi7,?_,(I.perm.append_right _).trans (MD o he JN).symm,?_,?_⟩
   .rw[List.map_append];exact ia.put ho7 (by rw[gl7];intro hc;unfold ai at hc;cases hc) _
   .simp (disch:=decide) only [qd];exact I.t0
   .simp (disch:=decide) only [qd];exact I.t5
 intro k
 induction k with
 |zero=>
  intro seen tm h1 v L hu I;refine step 0 seen tm h1 v L I λe he JN=>?_;have:=ve he JN;omega
 |succ k ih=>
  intro seen tm h1 v L hu I;refine step (k+1) seen tm h1 v L I λe he JN c9 Ql v' L' I'=>ih (e.born::seen) c9 Ql v' L' ?_ I';have:=ve he JN;omega
theorem afc(rec:Rec Prop)(ps:List Nat)(x y:Code)(tm:T Value)(h:af)(V:Ex->T Value->af->Prop)(c:Value):iM False pN prog rec ps x y tm h V (.func (.func fK) #[] #[c])=mA False pN prog rec fK [.func (.yield h.nx) #[] #[],c] ⟨h.nx+1,h.bl.bq h.nx (.loop .ready none tm ps x y),h.lo⟩ (jx False h.nx tm V):=dN (fl:=False) (.loop .ready none tm ps x y) h (λl h=>mA False pN prog rec fK [.func (.yield l) #[] #[],c] h (jx False l tm V))
theorem Qm(tm:T Value)(h:af)(V:KQ):LI False [] V .normal tm h=V (.tuple ⟨[]⟩) h:=id rfl
theorem aka(tm:T Value)(h:af)(V:KQ):LI False [.tmp 4] V .ret tm h=V (dL tm 4) h:=gI tm (.tmp 4) λv=>V v h
theorem QI{l:Nat}{tm qO:T Value}{v:Value}{h:af}{V:Ex->T Value->af->Prop}(hl:h.bl.get l=some (kM .ready qO))(hlo:h.lo<=l):∃o,jx False l tm V v h=V .normal tm ⟨h.nx,h.bl.bq l o,h.lo⟩:=by
 refine⟨.loop .exhausted none qO [7] aP (.block 1 aQ),?_⟩;unfold jx;simp only[hl,cg _ _ _ _ hlo]
theorem afd(s g:Value):lay [s,g] .nil 0=((T.nil:T Value).bq 0 s).bq 1 g:=by kernel_rfl
theorem GD(M:List HE)(clock bm mc:Nat)(a:af)(o:fU M clock)(g:a.bl.get bm=some (.map (M.map lW) clock))(zx:bm<a.nx)(gc:a.bl.get mc=some (ai [.map (some bm)] 265 false))(hmc:mc<a.nx)(hlo:a.lo<=a.nx)(hM:M.length<=1000)(V:KQ)(hk:∀v h' (L:List HE),L.Perm M->zw a h' v (L.map dU)->Le a h'->V v h'):aj prog fA [.slice none 0 0,.func (.func fK) #[] #[YYQ mc]] a V:=by
 refine MB mixed (skip:=Wp) (M.length+60) ?_;rw[ae6,ae5,afd];simp(disch:=try exact Y)only[Wz,GC,aj3,ajT,T.gf,sg,jk,qd,MC,aj4,ajU,xu,ajY,afc];generalize htm:(((((T.nil:T Value).bq 0 (Value.slice none 0 0)).bq 1 (Value.func (Fn.func fK) #[] #[YYQ mc])).bq 2 (YYQ a.nx)).bq 4 (Value.slice none 0 0)).bq 6 (Value.func (Fn.func fK) #[] #[YYQ mc])=qO;have hA:dL qO 2=aq a.nx:=by rw[<-htm];simp (disch:=decide) only [qd,jk];rfl
 obtain⟨hA2,Ws,IT,gs,gl,amf,amg⟩:=L8 a (ai [.slice none 0 0] 156 false) (kM .ready qO);rw[<-Ws];clear Ws;have DC:=(IT.get _ hmc).trans gc;have gm2:=(IT.get _ zx).trans g;rw[ae7,ae4,afd];simp(disch:=try exact Y)only[Wz,GC,ajZ,rkA,T.gf,sg,jk,qd,MC,DC,Gv gm2,xu];refine ME a bm clock M qO o g zx hlo hM hA _ ?_ (M.length+41) [] _ _ (.slice none 0 0) [] ?_ ?_
 .intro tm h1 v L hp ho bN n1 g1 gl1;have l1:=bN.lo;obtain⟨ob,ea⟩:=QI (tm:=qO) (v:=.tuple ⟨[]⟩) (V:=pK 0 (An (RN (M.length+58)) (aC.seq Code.ret) (LI False [Am.tmp 4] V))) gl1 XQ;rw[Wr,Qm,ea];have gs1:(h1.bl.bq (a.nx+1) ob).get a.nx=some (ai [v] 156 false):=(T.ax _ _ XQ).trans g1;simp(disch:=try exact Y)only[Wz,Ud,MC,GC,aj7,ajX,T.gf,sg,jk,qd,hA,gs1,ae8,ae_,aka];exact hk v _ L hp (ia.put ho (by rw[gl1];intro hc;unfold ai at hc;cases hc) _) (bN.set XQ _)
 .exact Nat.le_trans (List.countP_le_length) XQ
 .have e2:hA2.nx=a.nx+2:=by omega
  refine⟨IT.new _,by show a.nx+3<=hA2.nx+1;omega,(T.ax _ _ XQ).trans gs,(T.ax _ _ XQ).trans gl,by rw[<-e2];exact T.au _ _ _,.inl ⟨rfl,.inl rfl⟩,?_,?_,?_⟩
  .rw[List.filter_eq_nil_iff.2 (λx _=>by simp)]
  .simp (disch:=decide) only [qd,jk]
  .rw[jk,e2];rfl
def qX(a b:Int):Int:=if a<b then -1 else if b<a then 1 else 0
def nX(t r t' r':Int):Int:=if qX t t'=0 then qX r r' else qX t t'
theorem Lj(a:Int){h:af}{V:KQ}(hk:V (.bool false) h):aj prog 174 [YYY a] h V:=by
 refine gN (v:=.bool false) rfl rfl (ay mixed ?_) hk;rw[Yu];simp(disch:=try exact Y)only[Wz]
theorem si(a b:Int){h:af}{V:KQ}(hk:V (YYY (qX a b)) h):aj prog 119 [YYY a,YYY b] h V:=by
 refine gN (v:=YYY (qX a b)) rfl rfl (ay mixed ?_) hk;rw[X6];refine Lj _ (Lj _ ?_);rcases Int.lt_trichotomy a b with h1|h1|h1
 .simp(disch:=try exact Y)only[Wz,tw];simp[qX,h1]
 .simp(disch:=try exact Y)only[Wz,tw];simp[qX,h1]
 .simp(disch:=try exact Y)only[Wz,tw];simp[qX,h1];omega
theorem afe(a b:Int)(h:af)(v:Value)(hv:Sl (λn=>[YYY n]) h v [a,b])(V:KQ)(hk:V (YYY (if a=0 then b else a)) h):aj prog 118 [v] h V:=by
 apply YYZ;rw[X5];simp only[hv.len];have he:∀n:Int,((λn=>[YYY n]) n).length=1:=λ_=>rfl;have f0:=hv.ld he 0 (p:=a) rfl;have f1:=hv.ld he 1 (p:=b) rfl;obtain⟨b0,o0,hb0,aff,_,hh0⟩:=f0;obtain⟨b1,o1,hb1,Ue,_,Sp⟩:=f1;have hx0:=λ(β:Type)(fl:β) V=>eO (fl:=fl) hh0 0 V (Nat.lt_succ_self _);have hx1:=λ(β:Type)(fl:β) V=>eO (fl:=fl) Sp 0 V (Nat.lt_succ_self _);simp only[Nat.add_zero]at hx0 hx1;refine⟨λn l h1=>h1=h/\∃k:Nat,ah l 10=YYY (k:Int)/\k<=2/\n=2-k/\(0<k->a=0)/\(1<k->b=0),⟨2,rfl,0,rfl,XQ,XQ,XQ,XQ⟩,?_⟩;rintro n l h1 ⟨rfl,k,hs,hk2,rfl,ha,hb⟩;have:k=0\/k=1\/k=2:=by omega
 rcases this with rfl|rfl|rfl
 .by_cases h1:a=0
  .simp(disch:=try exact Y)only[Wz,hv.len,hs,p5,aff,hx0,h1,List.length_cons,List.length_nil];exact⟨1,XQ,trivial,1,rfl,XQ,XQ,λ_=>trivial,λh=>by omega⟩
  .simp(disch:=try exact Y)only[Wz,hv.len,hs,p5,aff,hx0,aZ h1,List.length_cons,List.length_nil];simpa[h1]using hk
 .have ha:=ha XQ;by_cases h1:b=0
  .simp(disch:=try exact Y)only[Wz,hv.len,hs,p5,Ue,hx1,h1,List.length_cons,List.length_nil];exact⟨0,XQ,trivial,2,rfl,XQ,XQ,λ_=>ha,λh=>trivial⟩
  .simp(disch:=try exact Y)only[Wz,hv.len,hs,p5,Ue,hx1,aZ h1,List.length_cons,List.length_nil];simpa[ha]using hk
 .simp(disch:=try exact Y)only[Wz,hv.len,hs,List.length_cons,List.length_nil];have ha:=ha XQ;have hb:=hb XQ;simpa[ha,hb]using hk
theorem kf(t r t' r':Int){h:af}{V:KQ}(hk:V (YYY (nX t r t' r')) h):aj prog 96 [cQ t r,cQ t' r'] h V:=by
 refine gN (v:=YYY (nX t r t' r')) rfl rfl (ay mixed ?_) hk;rw[ad0];simp(disch:=try exact Y)only[Wz,cQ];refine si _ _ ?_;simp(disch:=try exact Y)only[Wz];refine si _ _ ?_;simp(disch:=try exact Y)only[Wz];refine afe _ _ _ _ (Sl.new (L:=[qX t t',qX r r']) (e:=3) (op:=false) (Nat.lt_succ_self _) (T.au _ _ _) _) _ ?_;rfl
def wM(p q:Int × Int):Prop:=p.1<q.1\/(p.1=q.1/\p.2<q.2)
theorem MF{a b c:Int × Int}(h1:wM a b)(h2:wM b c):wM a c:=by unfold wM at *;omega
theorem GF(p q:Int × Int):nX p.1 p.2 q.1 q.2<0<->wM p q:=by
 unfold nX qX wM;split<;>split<;>(try split)<;>(try split)<;>omega
theorem Ll{p q:Int × Int}(h:p≠q)(hn:¬wM p q):wM q p:=by
 unfold wM at *
 have:¬(p.1=q.1/\p.2=q.2):=λ⟨a,b⟩=>h (Prod.ext a b);omega
end Go.Proofs

namespace Go.Vai
open Go
section
variable {α:Type}{s:Nat}{enc:α->List Value}
end
end Go.Vai
namespace Go.Vai
open Go
section
variable {β:Type}{fl:β}{α:Type}{s:Nat}{enc:α->List Value}
theorem ia.same{a h:af}{e:TypeId}{v:Value}{L:List α}(ho:ia enc a e h v L):ki 8 v v=true:=by
 rcases ho with⟨rfl,rfl|⟨b,o,rfl⟩⟩|⟨b,rfl,h1,h2,h3,h4⟩
 .rw[qI]
 .rw[gO]
 .rw[gO]
end
end Go.Vai

namespace Go.Proofs
open Go.Vai Go.Clashes
open Tryz (prog)
theorem akb:∀i,i<7->∀j,j<7->br prog 200 30 [YYY (.ofNat i),YYY (.ofNat j)] (YYY (bA (.ofNat i) (.ofNat j)))=true:=by decide +kernel
theorem akc(n:Nat)(b:Int):br prog 200 30 [YYY (.negSucc n),YYY b] (YYY 0)=true:=by kernel_rfl
theorem akd(n:Nat)(b:Int):br prog 200 30 [YYY (.ofNat (n+7)),YYY b] (YYY 0)=true:=by kernel_rfl
theorem ake:∀i,i<7->∀n:Nat,br prog 200 30 [YYY (.ofNat i),YYY (.negSucc n)] (YYY 0)=true:=by
 refine seven ?_ ?_ ?_ ?_ ?_ ?_ ?_<;>intro n<;>kernel_rfl
theorem akf:∀i,i<7->∀n:Nat,br prog 200 30 [YYY (.ofNat i),YYY (.ofNat (n+7))] (YYY 0)=true:=by
 refine seven ?_ ?_ ?_ ?_ ?_ ?_ ?_<;>intro n<;>kernel_rfl
theorem IU(a b:Int){h:af}{V:KQ}(hk:V (YYY (bA a b)) h):aj prog 30 [YYY a,YYY b] h V:=
 kZ mixed (F:=λa b=>YYY (bA a b)) akb (λn b=>by rw[CC (mY n)];exact akc n b) (λn b=>by rw[CC (mZ n)];exact akd n b) (λi hi n=>by rw[CE (mY n)];exact ake i hi n) (λi hi n=>by rw[CE (mZ n)];exact akf i hi n) a b hk
end Go.Proofs
end
