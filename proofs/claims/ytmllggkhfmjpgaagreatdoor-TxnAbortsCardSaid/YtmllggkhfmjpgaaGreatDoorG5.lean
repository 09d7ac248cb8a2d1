/-
  PROVED HERE: a part of the proof (K26, VaiY, K27, K28, K29, K30, K31, K42, K43, L1, VaiE, L2, L3, L4, L7).
-/
import Derived.Test.YtmllggkhfmjpgaaGreatDoorG4
import Derived.Test.YtmllggkhfmjpgaaGreatDoorG3
import Derived.Test.YtmllggkhfmjpgaaGreatDoorG2
set_option linter.unusedVariables false
set_option linter.unusedSimpArgs false
set_option maxRecDepth 100000
noncomputable section
namespace Go.Proofs
open Go.Vai Go.Clashes
open Tryz (prog)
theorem Ur{h:af}{bb bm bp bl most:Nat}{M:List HE}{clock:Nat}{F:List Int}{B:List Bool}(s:bC h bb bm bp bl most M clock F B)(hlo:h.lo<=h.nx)(id x:Int)(V:KQ)(Fx:∀h',(∀e∈M,cL e.Q id=none)->Le h h'->V (X8 5) h')(wZ:∀h' e p,e∈M->cL e.Q id=some p->(∃o∈e.Q,o.id≠id/\o.x=x)->Le h h'->V (X8 4) h')(Uq:∀h' e p,e∈M->cL e.Q id=some p->(∀o∈e.Q,o.id≠id->o.x≠x)->0<p.s->Le h h'->V (X8 7) h')(qn:∀h' M' clock' e p i,e∈M->e.Q[i]? = some p->cL e.Q id=some p->(∀o∈e.Q,o.id≠id->o.x≠x)->¬0<p.s->l_ h h' bb bm bp bl most M M' clock' F B e (e.Q.set i (yP p x)) e.w->V (X8 0) h'):av prog 357 [UV bb,X8 id,X8 x] h V:=by
 apply X9;rw[aeu];refine Ys s hlo id _ ?_ ?_
 .intro h1 hno bN;simp(disch:=try exact Y)only[Wz,sC];refine Un bb h1 _ ?_;exact Fx h1 hno bN
 .intro h1 e p he hf bN;have n1:=bN.nx;have l1:=bN.lo;have s1:=s.le bN;have H:=s1.bh e he;have hlt:=H.lt;have gd:=s1.good e he;have uZ:=gd.small;obtain⟨qx,qc,eq,_⟩:=(show Sl bT h1 e.q e.Q from H.qv.1)
  have gh:=H.get;rw[eq]at gh;obtain⟨i,hi,ae1⟩:=sE gd.vq hf;simp(disch:=try exact Y)only[Wz,wq,I4,aN,gh];refine ae2 e.t e.r _ e.w id x e.Q h1 _ (by rw[<-eq];exact H.qv.1) X1 X1 gd.vq.pair hi ae1 ?_ ?_ ?_
  .intro hx h2 bD;have:=bD.nx;have:=bD.lo;simp(disch:=try exact Y)only[Wz,lF];refine⟨λl h'=>Le h h',?_,?_⟩
   .exact(bN.trans bD).new _
   .intro l h' le';exact wZ _ e p he hf hx le'
  .intro hx hs h2 bD;have:=bD.nx;have:=bD.lo;simp(disch:=try exact Y)only[Wz,lF];refine⟨λl h'=>Le h h',?_,?_⟩
   .exact(bN.trans bD).new _
   .intro l h' le';exact Uq _ e p he hf hx hs le'
  .intro hx hs q' h2 DB bD;have n2:=bD.nx;have l2:=bD.lo;obtain⟨yT,yU,rfl,_⟩:=(show Sl bT h2 q' _ from DB.1)
   have s2:=s1.le bD;simp(disch:=try exact Y)only[Wz,lF];have dM:Le h2 ⟨h2.nx+1,h2.bl.a_ h2.nx (gQ e.t e.r (.slice yT (e.Q.set i (yP p x)).length yU) e.w),h2.lo⟩:=(Le.refl h2).new _;have hlv:=gd.vq.hand (x:=x) hi (by rw[ae1];exact hx);refine⟨λl h'=>∃M' clock',l_ h h' bb bm bp bl most M M' clock' F B e (e.Q.set i (yP p x)) e.w,?_,?_⟩
   .refine wu (s2.le dM) (by show h2.lo<=h2.nx+1;omega) e.t e.r _ _ _ _ (DB.1.le dM) hlv (by rw[List.length_set];omega) ?_;intro M' clock' v' h' s7 lV ho7 fr7;exact⟨M',clock',s7,(tP.of_le ((bN.trans bD).trans dM)).trans fr7,hlv,lV⟩
   .rintro l h' ⟨M',clock',hm⟩;exact qn h' M' clock' e p i he hi hf hx hs hm
theorem ar8(a b c d e:Int):k_ 8 (.agg ⟨[X8 a,X8 b,X8 c,X8 d,X8 e]⟩) (.agg ⟨[X8 a,X8 b,X8 c,X8 d,X8 e]⟩)=true:=by unfold k_;exact xL 6 [a,b,c,d,e]
theorem Yy{h:af}{bb bm bp bl most:Nat}{M:List HE}{clock:Nat}{F:List Int}{B:List Bool}(s:bC h bb bm bp bl most M clock F B)(hlo:h.lo<=h.nx)(id:Int)(V:KQ)(qn:∀h',(∀e∈M,cL e.Q id=none)->Le h h'->V (.tuple ⟨[dg 0 0,nP ⟨0,0,0,0,0⟩,.bool false]⟩) h')(dZ:∀h' e p,e∈M->cL e.Q id=some p->Le h h'->V (.tuple ⟨[dg e.t e.r,nP p,.bool true]⟩) h'):av prog 292 [UV bb,X8 id] h V:=by
 apply X9;rw[TZ];simp(disch:=try exact Y)only[Wz];obtain⟨hA,aY,aU,g1,g3,dI,dJ⟩:=AY h (aj [X8 0,X8 0] 28 false) (mV ⟨0,0,0,0,0⟩);rw[<-aY];clear aY;refine Ys (s.le aU) X1 id _ ?_ ?_
 .intro h1 hno bN;have n1:=bN.nx;have l1:=bN.lo;have g1:=(bN.get _ X1).trans g1;have g3:=(bN.get _ X1).trans g3;simp(disch:=try exact Y)only[Wz,sC,g1,g3,bT];exact qn _ hno ((((aU.trans bN).set X1 _)).set X1 _)
 .intro h1 e p he hf bN;have n1:=bN.nx;have l1:=bN.lo;have g1:=(bN.get _ X1).trans g1;have g3:=(bN.get _ X1).trans g3;have s1:=(s.le aU).le bN;have H:=s1.bh e he;have hlt:=H.lt;have gd:=s1.good e he;have uZ:=gd.small;obtain⟨qx,qc,eq,_⟩:=(show Sl bT h1 e.q e.Q from H.qv.1)
  have gh:=H.get;rw[eq]at gh;simp(disch:=try exact Y)only[Wz,wq,IJ,aN,gh];refine OE e.t e.r _ e.w id _ h1 _ (by rw[<-eq];exact H.qv.1) X1 X1 ?_;intro h2 bD;have n2:=bD.nx;have l2:=bD.lo;have g1:=(bD.get _ X1).trans g1;have g3:=(bD.get _ X1).trans g3;have gh2:=(bD.get _ hlt).trans gh;rw[hf];simp(disch:=try exact Y)only[Wz,bT,g1,g3,gh2,aN,ar8];exact dZ _ e p he hf (((((aU.trans bN).trans bD).new _).set X1 _).set X1 _)
end Go.Proofs

namespace Go.Vai
open Go
def prK(P:Program)(skip:FuncId->Bool):lN Prop:=⟨λf=>match skip f with|true=>none|false=>some (av P f),And⟩
theorem L5(P:Program)(skip:FuncId->Bool):iD (λp:Prop=>p) (prK P skip) P:=by
 refine⟨λx y h=>h,λf g hg args args' h φ w V ha hr hgood=>?_⟩;unfold prK at hg;simp only at hg;split at hg
 .cases hg
 .cases hg;exact hgood φ w args' ha hr
theorem x5{P:Program}(hm:P.follows .mixedOrders=true){skip:FuncId->Bool}{f:FuncId}{args:List Value}{h:af}{V:KQ}(n:Nat)(hg:iU False (prK P skip) P (run False (prK P skip) P n) f args h V):av P f args h V:=by
 intro φ w args' ha hr;exact gP (good:=λp:Prop=>p) (fl:=False) (λh=>h) (L5 P skip) (DF (λh=>h) (L5 P skip) (uE (λh=>h) (L5 P skip) hm) n).1 ha hr hg
def x7(P:Program)(f:FuncId):Code:=match An P f with | .mk c _ _=>c | .none=>.skip
def jC:Code->Code | .seq a _=>a|c=>c
def jU:Code->Code | .seq _ b=>b|c=>c
def L6:Code->Code | .block _ c=>c | .loop c=>c | .scope c=>c|c=>c
def rfA:Code->Code | .rangeFunc _ _ a _=>a|c=>c
def rfB:Code->Code | .rangeFunc _ _ _ b=>b|c=>c
end Go.Vai

namespace Go.Proofs
open Go.Vai Go.Clashes
open Tryz (prog)
abbrev fK:FuncId:=307
abbrev fA:FuncId:=204
def aaQ(f:FuncId):Bool:=Nat.beq f fK || Nat.beq f fA
noncomputable abbrev pN:lN Prop:=prK prog aaQ
noncomputable abbrev RN(n:Nat):Rec Prop:=run False pN prog n
def cK:Code:=x7 prog fK
def cA:Code:=x7 prog fA
def kA:Code:=jC cK
def kL:Code:=L6 (L6 (jU cK))
def kB:Code:=jC kL
def aaR:Code:=L6 (jU (jU kL))
def kC:Code:=jC aaR
def kD:Code:=jC (jU aaR)
theorem alr:cK=.seq kA (.block 0 (.loop (.seq kB (.seq (.cond (.tmp 7) .skip (.exit 0)) (.block 1 (.seq kC (.seq kD (.cond (.tmp 13) .ret .skip)))))))):=by kernel_rfl
def aA:Code:=jC cA
def aB:Code:=jC (jC (jU cA))
def aR:Code:=L6 (jU (jC (jU cA)))
def aP:Code:=rfA aR
def aQ:Code:=L6 (rfB aR)
def aC:Code:=jC (jU (jU cA))
theorem als:cA=.seq aA (.seq (.seq aB (.block 0 (.rangeFunc (.tmp 6) #[7] aP (.block 1 aQ)))) (.seq aC .ret)):=by kernel_rfl
variable (rec:Rec Prop)(tm:T Value)(h:af)
theorem rkA(V:Ex->T Value->af->Prop):body False pN prog rec kA tm h V =
  ev tm (.tmp 1) λx=>aF False x h λv h=>T.set tm 4 v λtm=>ev tm (.tmp 4) λx=>oW False x h λv h=>T.set tm 5 v λtm=>V .normal tm h:=by kernel_rfl
theorem rkB(V:Ex->T Value->af->Prop):body False pN prog rec kB tm h V =
  ev tm (.tmp 5) λx=>pP False And x h λv h=>T.set tm 6 v λtm=>ev tm (.tmp 6) λx=>aK False 0 x h λv h=>T.set tm 7 v λtm=>V .normal tm h:=by kernel_rfl
theorem rkC(V:Ex->T Value->af->Prop):body False pN prog rec kC tm h V =
  ev tm (.tmp 5) λx=>mj False x h λv h=>T.set tm 8 v λtm=>ev tm (.tmp 8) λx=>aK False 0 x h λv h=>T.set tm 9 v λtm=>
   aH False (aj [X8 0,X8 0] 28 false) h λb h=>T.set tm 3 (ax b) λtm=>ev tm (.tmp 3) λa=>ev tm (.tmp 9) λv=>aT False 2 a v h λv h=>V .normal tm h:=by kernel_rfl
theorem rkD(V:Ex->T Value->af->Prop):body False pN prog rec kD tm h V =
  ev tm (.tmp 0) λfv=>T.set tm 10 fv λtm=>ev tm (.tmp 3) λx=>aL False 2 x h λv h=>T.set tm 11 v λtm=>
   ev tm (.tmp 11) λx=>ev tm (.tmp 10) λfv=>tW False pN prog rec fv [x] h λv h=>T.set tm 12 v λtm=>ev tm (.tmp 12) λx=>jh False .not x h λv h=>T.set tm 13 v λtm=>V .normal tm h:=by kernel_rfl
theorem ar_(V:Ex->T Value->af->Prop):body False pN prog rec aA tm h V =
  ev tm (.tmp 0) λs=>aM False (Value.cells s).toList 156 false λo=>aH False o h λb h=>T.set tm 2 (ax b) λtm=>T.set tm 4 (.slice none 0 0) λtm=>V .normal tm h:=by kernel_rfl
theorem asa(V:Ex->T Value->af->Prop):body False pN prog rec aB tm h V=ev tm (.tmp 1) λg=>T.set tm 6 g λtm=>V .normal tm h:=by kernel_rfl
theorem asb(V:Ex->T Value->af->Prop):body False pN prog rec aP tm h V =
  aH False (aj [X8 0,X8 0] 28 false) h λb h=>T.set tm 5 (ax b) λtm=>ev tm (.tmp 5) λa=>ev tm (.tmp 7) λv=>aT False 2 a v h λv h=>V .normal tm h:=by kernel_rfl
theorem asc(V:Ex->T Value->af->Prop):body False pN prog rec aQ tm h V =
  ev tm (.tmp 2) λx=>aF False x h λv h=>T.set tm 8 v λtm=>ev tm (.tmp 5) λx=>aL False 2 x h λv h=>T.set tm 9 v λtm=>
   ev tm (.tmp 9) λv=>bA False [(0,2)] [v] [X8 0,X8 0] λcs=>aM False cs 28 false λo=>aH False o h λb h=>T.set tm 10 (cN 1 1 b) λtm=>
   ev tm (.tmp 8) λs=>ev tm (.tmp 10) λx=>cg False 28 2 [X8 0,X8 0] false s x h λv h=>T.set tm 11 v λtm=>ev tm (.tmp 2) λa=>ev tm (.tmp 11) λv=>aT False 1 a v h λv h=>V .normal tm h:=by kernel_rfl
theorem asd(V:Ex->T Value->af->Prop):body False pN prog rec aC tm h V =
  ev tm (.tmp 2) λx=>aF False x h λv h=>T.set tm 12 v λtm=>ev tm (.tmp 12) λv=>T.set tm 4 v λtm=>V .normal tm h:=by kernel_rfl
theorem alu(s g:Value)(V:KQ):iU False pN prog rec fA [s,g] h V=rec cA (lay [s,g] .nil 0) h (tK False [.tmp 4] V):=by kernel_rfl
theorem alv(y m:Value)(V:KQ):iU False pN prog rec fK [y,m] h V=rec cK (lay [y,m] .nil 0) h (tK False [] V):=by kernel_rfl
theorem cQ(t:T Value)(n:Nat)(v:Value):dw (t.a_ n v) n=v:=by unfold dw;rw[T.ay]
theorem eT(t:T Value){n m:Nat}(v:Value)(h:n≠m):dw (t.a_ n v) m=dw t m:=by unfold dw;rw[T.aD _ _ h]
theorem gM{β:Type}(tm:T Value)(t:Nat)(V:Value->β):ev tm (.tmp t) V=V (dw tm t):=fL _ _ _
section
variable (n:Nat)(a b:Code)(tm:T Value)(h:af)(V:Ex->T Value->af->Prop)
theorem Jy:RN (n+1) (.seq a b) tm h V=RN n a tm h (pS (RN n) b V):=id rfl
theorem Us(t:Nat):RN (n+1) (.cond (.tmp t) a b) tm h V=pT False (RN n) a b tm h V (dw tm t):=fL tm (.tmp t) (pT False (RN n) a b tm h V)
theorem Ab(i:Nat):RN (n+1) (.block i a) tm h V=RN n a tm h (jy i V):=id rfl
theorem afi:RN (n+1) (.loop a) tm h V=RN n a tm h (pS (RN n) (.loop a) V):=id rfl
theorem Ut(i:Nat):RN (n+1) (.exit i) tm h V=V (.exit i) tm h:=id rfl
theorem alw:RN (n+1) .ret tm h V=V .ret tm h:=id rfl
theorem Uu:RN (n+1) .skip tm h V=V .normal tm h:=id rfl
theorem ase(t:Nat)(ps:Array Tmp):RN (n+1) (.rangeFunc (.tmp t) ps a b) tm h V=ep False pN prog (RN n) ps.toList a b tm h V (dw tm t):=fL tm (.tmp t) (ep False pN prog (RN n) ps.toList a b tm h V)
theorem asf:RN (n+1) kA tm h V=body False pN prog (RN n) kA tm h V:=id rfl
theorem ash:RN (n+1) kB tm h V=body False pN prog (RN n) kB tm h V:=id rfl
theorem asi:RN (n+1) kC tm h V=body False pN prog (RN n) kC tm h V:=id rfl
theorem asj:RN (n+1) kD tm h V=body False pN prog (RN n) kD tm h V:=id rfl
theorem asl:RN (n+1) aA tm h V=body False pN prog (RN n) aA tm h V:=id rfl
theorem asm:RN (n+1) aB tm h V=body False pN prog (RN n) aB tm h V:=id rfl
theorem asn:RN (n+1) aP tm h V=body False pN prog (RN n) aP tm h V:=id rfl
theorem aso:RN (n+1) aQ tm h V=body False pN prog (RN n) aQ tm h V:=id rfl
theorem asp:RN (n+1) aC tm h V=body False pN prog (RN n) aC tm h V:=id rfl
theorem tQ(rec:Rec Prop):pS rec b V .normal tm h=rec b tm h V:=id rfl
theorem Yz(rec:Rec Prop)(i:Nat):pS rec b V (.exit i) tm h=V (.exit i) tm h:=id rfl
theorem YA(rec:Rec Prop):pS rec b V .ret tm h=V .ret tm h:=id rfl
theorem Dd(i:Nat):jy i V .normal tm h=V .normal tm h:=id rfl
theorem asq(i:Nat):jy i V .ret tm h=V .ret tm h:=id rfl
theorem Uv:jy 0 V (.exit 0) tm h=V .normal tm h:=id rfl
theorem afj(rec:Rec Prop):pT False rec a b tm h V (.bool true)=rec a tm h V:=id rfl
theorem L7(rec:Rec Prop):pT False rec a b tm h V (.bool false)=rec b tm h V:=id rfl
end
noncomputable abbrev Uw:Code:=.seq kB (.seq (.cond (.tmp 7) .skip (.exit 0)) (.block 1 (.seq kC (.seq kD (.cond (.tmp 13) .ret .skip)))))
noncomputable abbrev mL(st:LoopState)(fI:T Value):bP:=.loop st none fI [7] aP (.block 1 aQ)
def jc(p:Int × Int):List Value:=[X8 p.1,X8 p.2]
theorem nT(p:Int × Int):(jc p).length=2:=rfl
theorem Jz(p:Int × Int):(jc p).all ef=true:=rfl
def c_(e:HE):Int × Int:=(e.t,e.r)
abbrev qX(a h:af)(v:Value)(L:List (Int × Int)):Prop:=Own jc a 28 h v L
structure afk(a:af)(bm:Nat)(clock:Nat)(M:List HE)(fI:T Value)(seen:List Nat)(tm:T Value)(h1:af)(v:Value)(L:List HE):Prop where
 le:Le a h1
 nx:a.nx+3<=h1.nx
 gs:h1.bl.get a.nx=some (aj [v] 156 false)
 gl:h1.bl.get (a.nx+1)=some (mL .ready fI)
 gi:h1.bl.get (a.nx+2)=some (.dU (some bm) clock seen clock)
 own:qX a h1 v (L.map c_)
 perm:L.Perm (M.filter λe=>seen.any (Nat.beq e.born))
 t0:dw tm 0=.func (.yield (a.nx+1)) #[] #[]
 t5:dw tm 5=ax (a.nx+2)
theorem afl(rec:Rec Prop)(l:Nat)(x:Value)(h:af)(V:KQ):tW False pN prog rec (.func (.yield l) #[] #[]) [x] h V=mq False rec l [x] h V:=id rfl
theorem round_eq{rec:Rec Prop}{l:Nat}{x:Value}{h:af}{V:KQ}{st:LoopState}{fI:T Value}(hl:h.bl.get l=some (mL st fI)):mq False rec l [x] h V=rec aP (fI.a_ 7 x) h (ee False rec l (.block 1 aQ) V):=by
 unfold mq;simp only[hl,List.length_cons,List.length_nil]
 show oB [7] [x] fI _=_
 unfold oB;rw[T.cI];unfold oB;rfl
theorem Ux{rec:Rec Prop}{l:Nat}{bd:Code}{tm:T Value}{h:af}{V:KQ}{fI:T Value}(hl:h.bl.get l=some (mL .ready fI))(hlo:h.lo<=l):ee False rec l bd V .normal tm h=rec bd tm ⟨h.nx,h.bl.a_ l (mL .busy fI),h.lo⟩ (gG False l V):=by
 unfold ee;simp only[hl,bG _ _ _ _ hlo]
theorem afm{l:Nat}{tm:T Value}{h:af}{V:KQ}{st:LoopState}{fI:T Value}(hl:h.bl.get l=some (mL st fI))(hlo:h.lo<=l):gG False l V .normal tm h=V (.bool true) ⟨h.nx,h.bl.a_ l (mL .ready fI),h.lo⟩:=by
 unfold gG;simp only[hl,bG _ _ _ _ hlo]
theorem Qg{M:List HE}{clock:Nat}(o:cO M clock){e:HE}(he:e∈M){seen:List Nat}(hn:seen.any (Nat.beq e.born)=false):(M.filter λx=>(e.born::seen).any (Nat.beq x.born)).Perm (M.filter (λx=>seen.any (Nat.beq x.born))++[e]):=by
 have hnd:M.Nodup:=o.bn.imp λh e=>h (by rw[e]);refine(List.perm_ext_iff_of_nodup (hnd.filter _) ?_).2 λx=>?_
 .rw[List.nodup_append];refine⟨hnd.filter _,by simp,λx hx y hy=>?_⟩;rw[List.mem_singleton]at hy;subst hy;rintro rfl;rw[List.mem_filter,hn]at hx;exact absurd hx.2 (by simp)
 .rw[List.mem_filter,List.mem_append,List.mem_filter,List.mem_singleton,List.any_cons,Bool.or_eq_true];constructor
  .rintro⟨h1,h2|h2⟩
   .exact .inr (o.yW h1 he (Nat.eq_of_beq_eq_true h2))
   .exact .inl ⟨h1,h2⟩
  .rintro(⟨h1,h2⟩|rfl)
   .exact⟨h1,.inr h2⟩
   .exact⟨he,.inl (Nat.beq_refl _)⟩
theorem Qh(a:af)(bm clock:Nat)(M:List HE)(fI:T Value)(o:cO M clock)(g:a.bl.get bm=some (.map (M.map nS) clock))(yX:bm<a.nx)(hlo:a.lo<=a.nx)(hM:M.length<=1000)(hA:dw fI 2=ax a.nx)(V:Ex->T Value->af->Prop)(hk:∀(tm:T Value)(h1:af)(v:Value)(L:List HE),L.Perm M->qX a h1 v (L.map c_)->Le a h1->a.nx+3<=h1.nx->h1.bl.get a.nx=some (aj [v] 156 false)->h1.bl.get (a.nx+1)=some (mL .ready fI)->V (.exit 0) tm h1):∀(k:Nat)(seen:List Nat)(tm:T Value)(h1:af)(v:Value)(L:List HE),BX M seen<=k->afk a bm clock M fI seen tm h1 v L->RN (k+12) (.loop Uw) tm h1 V:=by
 have step:∀(k:Nat)(seen:List Nat)(tm:T Value)(h1:af)(v:Value)(L:List HE),afk a bm clock M fI seen tm h1 v L->
   (∀e∈M,seen.any (Nat.beq e.born)=false->∀(tm:T Value)(h1:af)(v:Value)(L:List HE),afk a bm clock M fI (e.born::seen) tm h1 v L->RN (k+11) (.loop Uw) tm h1 V)->RN (k+12) (.loop Uw) tm h1 V:=by
  intro k seen tm h1 v L I hnext;have n1:=I.nx;have l1:=I.le.lo;have gm:=(I.le.get bm yX).trans g;rw[show k+12=k+11+1 from by omega,afi];simp(disch:=try exact Y)only[Wz,Jy,ash,rkB,gM,T.cI,cQ,eT,tQ,Yz,YA,Dd,asq,Uv,I.t5];refine Ul o I.gi gm X1 _ ?_ ?_
  .intro hall;simp(disch:=try exact Y)only[Wz,Us,cQ,L7,Ut,Yz];have hf:M.filter (λe=>seen.any (Nat.beq e.born))=M:=List.filter_eq_self.2 hall;exact hk _ h1 v L (hf▸I.perm) I.own I.le n1 I.gs I.gl
  .intro e he CP;obtain⟨h2,e2⟩:∃h2:af,h2=⟨h1.nx,h1.bl.a_ (a.nx+2) (.dU (some bm) clock (e.born::seen) clock),h1.lo⟩:=⟨_,rfl⟩
   have bD:Le a h2:=by rw[e2];exact I.le.set X1 _
   have n2:h2.nx=h1.nx:=by rw[e2]
   have l2:h2.lo=h1.lo:=by rw[e2]
   have gi2:h2.bl.get (a.nx+2)=some (.dU (some bm) clock (e.born::seen) clock):=by rw[e2];exact T.ay _ _ _
   have gs2:h2.bl.get a.nx=some (aj [v] 156 false):=by rw[e2];exact(T.aD _ _ X1).trans I.gs
   have gl2:h2.bl.get (a.nx+1)=some (mL .ready fI):=by rw[e2];exact(T.aD _ _ X1).trans I.gl
   have nJ:qX a h2 v (L.map c_):=by rw[e2];exact Own.put I.own (by rw[I.gi];intro hc;unfold aj at hc;cases hc) _
   rw[<-e2];clear e2;have Yt:=(bD.get bm yX).trans g;simp(disch:=try exact Y)only[Wz,Us,Uu,Jy,Ab,cQ,eT,afj,Ut,tQ,asi,rkC,gM,T.cI,I.t5,wo o he gi2 Yt,dg,asj,rkD,I.t0];have n3:a.nx+3<=h2.nx:=by omega
   obtain⟨h3,e3⟩:∃h3:af,h3=⟨h2.nx+1,h2.bl.a_ h2.nx (aj [X8 e.t,X8 e.r] 28 false),h2.lo⟩:=⟨_,rfl⟩
   have B4:Le h2 h3:=by rw[e3];exact(Le.refl h2).new _
   have nx3:h3.nx=h2.nx+1:=by rw[e3]
   have l3:h3.lo=h2.lo:=by rw[e3]
   have WR:=(B4.get _ X1).trans gl2;rw[<-e3,afl,round_eq WR];clear e3;simp(disch:=try exact Y)only[Wz,asn,asb,T.cI,gM,cQ,eT];obtain⟨h4,e4⟩:∃h4:af,h4=⟨h3.nx+1,h3.bl.a_ h3.nx (aj [X8 e.t,X8 e.r] 28 false),h3.lo⟩:=⟨_,rfl⟩
   have B5:Le h3 h4:=by rw[e4];exact(Le.refl h3).new _
   have nx4:h4.nx=h3.nx+1:=by rw[e4]
   have l4:h4.lo=h3.lo:=by rw[e4]
   have gn4:h4.bl.get h3.nx=some (aj [X8 e.t,X8 e.r] 28 false):=by rw[e4];exact T.ay _ _ _
   have gl4:=(B5.get _ X1).trans WR;have gs4:=((B4.trans B5).get _ X1).trans gs2;have gi4:=((B4.trans B5).get _ X1).trans gi2;have Fq:qX a h4 v (L.map c_):=nJ.le (B4.trans B5);rw[<-e4,Ux gl4 X1];clear e4;have Uy:(h4.bl.a_ (a.nx+1) (mL .busy fI)).get a.nx=_:=(T.aD _ _ X1).trans gs4;have gn5:(h4.bl.a_ (a.nx+1) (mL .busy fI)).get h3.nx=_:=(T.aD _ _ X1).trans gn4;simp(disch:=try exact Y)only[Wz,Ab,aso,asc,T.cI,gM,cQ,eT,hA,Uy,gn5];obtain⟨h5,e5⟩:∃h5:af,h5=⟨h4.nx+1,(h4.bl.a_ (a.nx+1) (mL .busy fI)).a_ h4.nx (aj [X8 e.t,X8 e.r] 28 false),h4.lo⟩:=⟨_,rfl⟩
   have afo:Le a h5:=by rw[e5];exact(((bD.trans B4).trans B5).set (b:=a.nx+1) X1 _).new _
   have nx5:h5.nx=h4.nx+1:=by rw[e5]
   have l5:h5.lo=h4.lo:=by rw[e5]
   have Uy:h5.bl.get a.nx=some (aj [v] 156 false):=by rw[e5];exact(T.aD _ _ X1).trans Uy
   have gl5:h5.bl.get (a.nx+1)=some (mL .busy fI):=by rw[e5];exact(T.aD _ _ X1).trans (T.ay _ _ _)
   have gi5:h5.bl.get (a.nx+2)=some (.dU (some bm) clock (e.born::seen) clock):=by rw[e5];exact(T.aD _ _ X1).trans ((T.aD _ _ X1).trans gi4)
   have gx5:h5.bl.get h4.nx=some (aj ([c_ e].flatMap jc) 28 false):=by rw[e5];exact T.ay _ _ _
   have uQ:qX a h5 v (L.map c_):=by
    rw[e5];exact Own.le (Own.put Fq (by rw[gl4];intro hc;unfold aj at hc;cases hc) _) ((Le.refl _).new _)
   have hLl:L.length<=1000:=by
    rw[I.perm.length_eq];exact Nat.le_trans (List.length_filter_le _ _) hM
   rw[<-e5];clear e5;refine jM (enc:=jc) (a:=a) (L:=L.map c_) (M:=[c_ e]) nT Jz X7 X7 uQ (Sl.new X1 gx5 _) afo (by simp;omega) X1 _ ?_;intro v' h6 Ug OJ _ n6 l6 B6;have gs6:=(B6 a.nx X1 (by rw[Uy];exact bI)).trans Uy;have gl6:=(B6 (a.nx+1) X1 (by rw[gl5];intro hc;unfold aj at hc;cases hc)).trans gl5;have gi6:=(B6 (a.nx+2) X1 (by rw[gi5];intro hc;unfold aj at hc;cases hc)).trans gi5;obtain⟨x',c',rfl,_⟩:=(show Sl jc h6 v' _ from Ug.sl)
   simp(disch:=try exact Y)only[Wz,gs6];obtain⟨h7,e7⟩:∃h7:af,h7=⟨h6.nx,h6.bl.a_ a.nx (aj [.slice x' (L.map c_++[c_ e]).length c'] 156 false),h6.lo⟩:=⟨_,rfl⟩
   have gl7:h7.bl.get (a.nx+1)=some (mL .busy fI):=by rw[e7];exact(T.aD _ _ X1).trans gl6
   have nx7:h7.nx=h6.nx:=by rw[e7]
   have l7:h7.lo=h6.lo:=by rw[e7]
   have gs7:h7.bl.get a.nx=some (aj [.slice x' (L.map c_++[c_ e]).length c'] 156 false):=by rw[e7];exact T.ay _ _ _
   have gi7:h7.bl.get (a.nx+2)=some (.dU (some bm) clock (e.born::seen) clock):=by rw[e7];exact(T.aD _ _ X1).trans gi6
   have WT:Le a h7:=by rw[e7];exact OJ.set X1 _
   have ho7:qX a h7 (.slice x' (L.map c_++[c_ e]).length c') (L.map c_++[c_ e]):=by rw[e7];exact Own.put Ug (by rw[gs6];exact bI) _
   rw[<-e7,Dd,afm gl7 X1];clear e7;simp(disch:=try exact Y)only[Wz,L7,Uu,Dd,tQ];have fr:∀c,c≠a.nx+1->(h7.bl.a_ (a.nx+1) (mL .ready fI)).get c=h7.bl.get c:=λc hc=>T.aD _ _ (λe=>hc e.symm);refine hnext e he CP _ _ (.slice x' (L.map c_++[c_ e]).length c') (L++[e]) ⟨WT.set X1 _,by show a.nx+3<=h7.nx;omega,(fr _ X1).trans gs7,T.ay _ _ _,(fr _ X1).trans gi7,?_,(I.perm.append_right _).trans (Qg o he CP).symm,?_,?_⟩
   .rw[List.map_append];exact Own.put ho7 (by rw[gl7];intro hc;unfold aj at hc;cases hc) _
   .simp (disch:=decide) only [eT];exact I.t0
   .simp (disch:=decide) only [eT];exact I.t5
 intro k
 induction k with
 |zero=>
  intro seen tm h1 v L hu I;refine step 0 seen tm h1 v L I λe he CP=>?_;have:=qq he CP;omega
 |succ k ih=>
  intro seen tm h1 v L hu I;refine step (k+1) seen tm h1 v L I λe he CP dz h1' v' L' I'=>ih (e.born::seen) dz h1' v' L' ?_ I';have:=qq he CP;omega
theorem alD(rec:Rec Prop)(ps:List Nat)(x y:Code)(tm:T Value)(h:af)(V:Ex->T Value->af->Prop)(c:Value):ep False pN prog rec ps x y tm h V (.func (.func fK) #[] #[c])=iU False pN prog rec fK [.func (.yield h.nx) #[] #[],c] ⟨h.nx+1,h.bl.a_ h.nx (.loop .ready none tm ps x y),h.lo⟩ (dW False h.nx tm V):=dO (fl:=False) (.loop .ready none tm ps x y) h (λl h=>iU False pN prog rec fK [.func (.yield l) #[] #[],c] h (dW False l tm V))
theorem Qa(tm:T Value)(h:af)(V:KQ):tK False [] V .normal tm h=V (.tuple ⟨[]⟩) h:=id rfl
theorem asB(tm:T Value)(h:af)(V:KQ):tK False [.tmp 4] V .ret tm h=V (dw tm 4) h:=fL tm (.tmp 4) λv=>V v h
theorem Uz{l:Nat}{tm fI:T Value}{v:Value}{h:af}{V:Ex->T Value->af->Prop}(hl:h.bl.get l=some (mL .ready fI))(hlo:h.lo<=l):∃o,dW False l tm V v h=V .normal tm ⟨h.nx,h.bl.a_ l o,h.lo⟩:=by
 refine⟨.loop .exhausted none fI [7] aP (.block 1 aQ),?_⟩;unfold dW;simp only[hl,bG _ _ _ _ hlo]
theorem YB(s g:Value):lay [s,g] .nil 0=((T.nil:T Value).a_ 0 s).a_ 1 g:=by kernel_rfl
theorem JA(M:List HE)(clock bm mc:Nat)(a:af)(o:cO M clock)(g:a.bl.get bm=some (.map (M.map nS) clock))(yX:bm<a.nx)(gc:a.bl.get mc=some (aj [.map (some bm)] 265 false))(hmc:mc<a.nx)(hlo:a.lo<=a.nx)(hM:M.length<=1000)(V:KQ)(hk:∀v h' (L:List HE),L.Perm M->qX a h' v (L.map c_)->Le a h'->V v h'):av prog fA [.slice none 0 0,.func (.func fK) #[] #[UV mc]] a V:=by
 refine x5 mixed (skip:=aaQ) (M.length+60) ?_;rw[alu,als,YB];simp(disch:=try exact Y)only[Wz,Jy,asl,ar_,T.cI,gM,cQ,eT,tQ,asm,asa,Ab,ase,alD];generalize htm:(((((T.nil:T Value).a_ 0 (Value.slice none 0 0)).a_ 1 (Value.func (Fn.func fK) #[] #[UV mc])).a_ 2 (UV a.nx)).a_ 4 (Value.slice none 0 0)).a_ 6 (Value.func (Fn.func fK) #[] #[UV mc])=fI;have hA:dw fI 2=ax a.nx:=by rw[<-htm];simp (disch:=decide) only [eT,cQ];rfl
 obtain⟨hA2,JB,uT,gs,gl,alE,alF⟩:=AY a (aj [.slice none 0 0] 156 false) (mL .ready fI);rw[<-JB];clear JB;have wB:=(uT.get _ hmc).trans gc;have Yt:=(uT.get _ yX).trans g;rw[alv,alr,YB];simp(disch:=try exact Y)only[Wz,Jy,asf,rkA,T.cI,gM,cQ,eT,tQ,wB,BZ Yt,Ab];refine Qh a bm clock M fI o g yX hlo hM hA _ ?_ (M.length+41) [] _ _ (.slice none 0 0) [] ?_ ?_
 .intro tm h1 v L hp ho bN n1 g1 gl1;have l1:=bN.lo;obtain⟨ob,ea⟩:=Uz (tm:=fI) (v:=.tuple ⟨[]⟩) (V:=jy 0 (pS (RN (M.length+58)) (aC.seq Code.ret) (tK False [uw.tmp 4] V))) gl1 X1;rw[Uv,Qa,ea];have gs1:(h1.bl.a_ (a.nx+1) ob).get a.nx=some (aj [v] 156 false):=(T.aD _ _ X1).trans g1;simp(disch:=try exact Y)only[Wz,Dd,tQ,Jy,asp,asd,T.cI,gM,cQ,eT,hA,gs1,alw,YA,asB];exact hk v _ L hp (Own.put ho (by rw[gl1];intro hc;unfold aj at hc;cases hc) _) (bN.set X1 _)
 .exact Nat.le_trans (List.countP_le_length) X1
 .have e2:hA2.nx=a.nx+2:=by omega
  refine⟨uT.new _,by show a.nx+3<=hA2.nx+1;omega,(T.aD _ _ X1).trans gs,(T.aD _ _ X1).trans gl,by rw[<-e2];exact T.ay _ _ _,.inl ⟨rfl,.inl rfl⟩,?_,?_,?_⟩
  .rw[List.filter_eq_nil_iff.2 (λx _=>by simp)]
  .simp (disch:=decide) only [eT,cQ]
  .rw[cQ,e2];rfl
def B7(a b:Int):Int:=if a<b then -1 else if b<a then 1 else 0
def sF(t r t' r':Int):Int:=if B7 t t'=0 then B7 r r' else B7 t t'
theorem OK(a:Int){h:af}{V:KQ}(hk:V (.bool false) h):av prog 174 [X8 a] h V:=by
 refine jL (v:=.bool false) rfl rfl (aG mixed ?_) hk;rw[ac8];simp(disch:=try exact Y)only[Wz]
theorem B8(a b:Int){h:af}{V:KQ}(hk:V (X8 (B7 a b)) h):av prog 119 [X8 a,X8 b] h V:=by
 refine jL (v:=X8 (B7 a b)) rfl rfl (aG mixed ?_) hk;rw[acC];refine OK _ (OK _ ?_);rcases Int.lt_trichotomy a b with h1|h1|h1
 .simp(disch:=try exact Y)only[Wz,vU];simp[B7,h1]
 .simp(disch:=try exact Y)only[Wz,vU];simp[B7,h1]
 .simp(disch:=try exact Y)only[Wz,vU];simp[B7,h1];omega
theorem asF(a b:Int)(h:af)(v:Value)(hv:Sl (λn=>[X8 n]) h v [a,b])(V:KQ)(hk:V (X8 (if a=0 then b else a)) h):av prog 118 [v] h V:=by
 apply X9;rw[acB];simp only[hv.len];have he:∀n:Int,((λn=>[X8 n]) n).length=1:=λ_=>rfl;have f0:=hv.ld he 0 (p:=a) rfl;have f1:=hv.ld he 1 (p:=b) rfl;obtain⟨b0,o0,hb0,alG,_,hh0⟩:=f0;obtain⟨b1,o1,hb1,YC,_,hh1⟩:=f1;have hx0:=λ(β:Type)(fl:β) V=>eU (fl:=fl) hh0 0 V (Nat.lt_succ_self _);have hx1:=λ(β:Type)(fl:β) V=>eU (fl:=fl) hh1 0 V (Nat.lt_succ_self _);simp only[Nat.add_zero]at hx0 hx1;refine⟨λn l h1=>h1=h/\∃k:Nat,ah l 10=X8 (k:Int)/\k<=2/\n=2-k/\(0<k->a=0)/\(1<k->b=0),⟨2,rfl,0,rfl,X1,X1,X1,X1⟩,?_⟩;rintro n l h1 ⟨rfl,k,hs,hk2,rfl,ha,hb⟩;have:k=0\/k=1\/k=2:=by omega
 rcases this with rfl|rfl|rfl
 .by_cases h1:a=0
  .simp(disch:=try exact Y)only[Wz,hv.len,hs,si,alG,hx0,h1,List.length_cons,List.length_nil];exact⟨1,X1,trivial,1,rfl,X1,X1,λ_=>trivial,λh=>by omega⟩
  .simp(disch:=try exact Y)only[Wz,hv.len,hs,si,alG,hx0,bf h1,List.length_cons,List.length_nil];simpa[h1]using hk
 .have ha:=ha X1;by_cases h1:b=0
  .simp(disch:=try exact Y)only[Wz,hv.len,hs,si,YC,hx1,h1,List.length_cons,List.length_nil];exact⟨0,X1,trivial,2,rfl,X1,X1,λ_=>ha,λh=>trivial⟩
  .simp(disch:=try exact Y)only[Wz,hv.len,hs,si,YC,hx1,bf h1,List.length_cons,List.length_nil];simpa[ha]using hk
 .simp(disch:=try exact Y)only[Wz,hv.len,hs,List.length_cons,List.length_nil];have ha:=ha X1;have hb:=hb X1;simpa[ha,hb]using hk
theorem oR(t r t' r':Int){h:af}{V:KQ}(hk:V (X8 (sF t r t' r')) h):av prog 96 [dg t r,dg t' r'] h V:=by
 refine jL (v:=X8 (sF t r t' r')) rfl rfl (aG mixed ?_) hk;rw[aks];simp(disch:=try exact Y)only[Wz,dg];refine B8 _ _ ?_;simp(disch:=try exact Y)only[Wz];refine B8 _ _ ?_;simp(disch:=try exact Y)only[Wz];refine asF _ _ _ _ (Sl.new (L:=[B7 t t',B7 r r']) (e:=3) (op:=false) (Nat.lt_succ_self _) (T.ay _ _ _) _) _ ?_;rfl
def x8(p q:Int × Int):Prop:=p.1<q.1\/(p.1=q.1/\p.2<q.2)
theorem D9{a b c:Int × Int}(h1:x8 a b)(h2:x8 b c):x8 a c:=by unfold x8 at *;omega
theorem UA(p q:Int × Int):sF p.1 p.2 q.1 q.2<0<->x8 p q:=by
 unfold sF B7 x8;split<;>split<;>(try split)<;>(try split)<;>omega
theorem OL{p q:Int × Int}(h:p≠q)(hn:¬x8 p q):x8 q p:=by
 unfold x8 at *
 have:¬(p.1=q.1/\p.2=q.2):=λ⟨a,b⟩=>h (Prod.ext a b);omega
end Go.Proofs

namespace Go.Vai
open Go
section
variable {α:Type}{s:Nat}{enc:α->List Value}
end
end Go.Vai
namespace Go.Vai
open Go
section
variable {β:Type}{fl:β}{α:Type}{s:Nat}{enc:α->List Value}
theorem Own.same{a h:af}{e:TypeId}{v:Value}{L:List α}(ho:Own enc a e h v L):k_ 8 v v=true:=by
 rcases ho with⟨rfl,rfl|⟨b,o,rfl⟩⟩|⟨b,rfl,h1,h2,h3,h4⟩
 .rw[vJ]
 .rw[iS]
 .rw[iS]
end
end Go.Vai

namespace Go.Proofs
open Go.Vai Go.Clashes
open Tryz (prog)
end Go.Proofs
end
