/-
  PROVED HERE: a part of the proof (Y17, Y18, Y19, YC7, YC8, YC9, YC10, YC11, Y20, Y21, Y22, Y23, Y24, U14, U15, U16, U18, Y25, Y26, Y27, Y28, Y29, YL1, YL2, VaiGb, YV0, VaiTd, YV1, YV2).
-/
import Derived.Test.YtmllggkhfmjpgaaGreatDoorG7
import Derived.Test.YtmllggkhfmjpgaaGreatDoorG5
import Derived.Test.YtmllggkhfmjpgaaGreatDoorG6
import Derived.Test.YtmllggkhfmjpgaaGreatDoorRZ
set_option linter.unusedVariables false
set_option linter.unusedSimpArgs false
set_option maxRecDepth 100000
set_option maxHeartbeats 4000000
noncomputable section
namespace Go.Proofs
open Go.Vai Go.Clashes
open Tryz (prog)
section
variable {h h':ah}{A:WA}{a:TA}{N N' B B':Nat}{d d':TD}{R R':RD}{Z Z':List TM}
theorem R8(g:WG h A a N B d R Z){i:Nat}{o:Option CR}(hi:R.cs[i]? = some o)(hst:∀c,o=some c->∃k:Nat,c.st=(k:Int)/\k<R.cr.length)(Y:KQ)(hk:∀b,(b=true->o.isSome=true)->Y (.bool b) h):aj prog 64 [X3 A.wb,X1 (i:Int)] h Y:=by
 have gw:=g.s.r.gw;have WO:=g.s.r.li;apply X2;rw[adt];refine RG g.s hi _ ?_;cases o with
 |none=>
  simp(disch:=try exact QQ)only[Wz,L_,Option.map_none,Option.isNone_none];exact hk false (λe=>nomatch e)
 |some c=>
  obtain⟨gc,_⟩:=bS g.s hi;obtain⟨k,hsk,MM⟩:=hst c rfl;obtain⟨nb,hb⟩:∃nb,R.bits[i]? = some nb:=⟨_,List.getElem?_eq_getElem (by rw[WO];exact g.lt hi)⟩
  obtain⟨lo,hl⟩:∃lo,R.cr[k]? = some lo:=⟨_,List.getElem?_eq_getElem MM⟩
  simp(disch:=try exact QQ)only[Wz,L_,Option.map_some,Option.isNone_some];simp(disch:=try exact QQ)only[Wz,aL,gw];refine RE (by rw[WO];exact g.s.r.gp) g.s.r.gi hb _ ?_;by_cases hz:JO nb 1=0
  .simp(disch:=try exact QQ)only[Wz,bq hz,LD,aL,gw,dS,gc,bJ,hsk];refine Nq g.s.r.gl g.s.r.gh hl (λp e=>by subst e;exact(g.s.r.ho p (List.mem_of_getElem? hl)).2) _ ?_;intro x;simp(disch:=try exact QQ)only[Wz,aL,gc,bJ];by_cases h1:(c.ph:Int)=1
   .simp(disch:=try exact QQ)only[Wz,bq h1];exact hk _ (λ_=>rfl)
   .simp(disch:=try exact QQ)only[Wz,a_ h1];exact hk _ (λ_=>rfl)
  .simp(disch:=try exact QQ)only[Wz,a_ hz];exact hk _ (λ_=>rfl)
theorem UZ(g:WG h A a N B d R Z)(I:Inv R.cr.length d.Ts R.cs Z){i:Nat}(hi:i<A.n)(hN:N<=80000)(hB:B<=800000000)(hlen:Z.length<=999)(uL:0<=R.now/\R.now<=1000000)(Y:KQ)(hk:∀h' d' R' Z' v,WG h' A a (N+129) (B+25600) d' R' Z'->Inv R'.cr.length d'.Ts R'.cs Z'->R'.cr.length=R.cr.length->R'.now=R.now->R'.begun=R.begun->Z'.length<=Z.length+1->KR h h'->Y v h'):aj prog 15 [X3 A.wb,X1 (i:Int)] h Y:=by
 have gw:=g.s.r.gw;have Og:=g.s.r.gc;have hlc:(R.cs.map λo=>dS (o.map (·.ca))).length=A.n:=by rw[List.length_map];exact g.s.r.lc
 have aj_:=g.s.r.lc;obtain⟨o,ho⟩:∃o,R.cs[i]? = some o:=⟨_,List.getElem?_eq_getElem XV⟩
 have r:(R.cs.map λo=>dS (o.map (·.ca)))[i]? = some (dS (o.map (·.ca))):=lJ g.s ho;have gu:=g.up (N':=N+129) (B':=B+25600) XV XV;apply X2;rw[ade];simp(disch:=try exact QQ)only[Wz,mI,Lv];refine HU g.s hi _ ?_;simp(disch:=try exact QQ)only[Wz];refine R8 g ho (λc e=>by subst e;exact(I.c i c ho).st) _ ?_;intro b hb;cases b with
 |false=>
  simp(disch:=try exact QQ)only[Wz,Bool.not_false];exact hk h d R Z _ gu I rfl rfl rfl (Nat.le_succ _) (KR.refl _)
 |true=>
  obtain⟨c,rfl⟩:∃c,o=some c:=by
   cases o with
   |none=>cases hb rfl
   |some c=>exact⟨c,rfl⟩
  obtain⟨gc,c1,c2⟩:=bS g.s ho;have ok:=I.c i c ho;have gc':=gc;unfold bJ HL at gc'
  have going:∀(h1:ah) d' R' Z' (c':CR),WG h1 A a (N+129) (B+25600) d' R' Z'->R'.cs[i]? = some (some c')->c'.ca=c.ca->Inv R'.cr.length d'.Ts R'.cs Z'->R'.cr.length=R.cr.length->R'.now=R.now->R'.begun=R.begun->Z'.length<=Z.length+1->KR h h1->
    qn False (h1.bl.get c.ca) 17 λv=>jB False .not v h1 λv17 h=>aI v17 (Y (.tuple ⟨[.bool false,X1 0,X1 0]⟩) h) (aJ (qn none (h.bl.get c.ca) 16 λv=>some v) h λv21 h=>cV (dV (qn none (h.bl.get c.ca) 16 λv=>some v) v21) (Y (.tuple ⟨[.bool true,v21,X1 0]⟩) h)):=by
   intro h1 d' R' Z' c' g1 hi1 ec I1 e1 e2 eb e3 k1;obtain⟨w9,_,_⟩:=bS g1.s hi1;rw[ec]at w9;have pQ:=w9;unfold bJ at pQ;simp(disch:=try exact QQ)only[Wz,pQ,Bool.not_false];exact hk h1 d' R' Z' _ g1 I1 e1 e2 eb e3 k1
  have gone:∀(h1:ah) d' R' Z' (c':CR),WG h1 A a (N+129) (B+25600) d' R' Z'->h1.bl.get c.ca=some (wI A.wb c')->Inv R'.cr.length d'.Ts R'.cs Z'->R'.cr.length=R.cr.length->R'.now=R.now->R'.begun=R.begun->Z'.length<=Z.length+1->KR h h1->
    qn False (h1.bl.get c.ca) 17 λv=>jB False .not v h1 λv17 h=>aI v17 (Y (.tuple ⟨[.bool false,X1 0,X1 0]⟩) h) (aJ (qn none (h.bl.get c.ca) 16 λv=>some v) h λv21 h=>cV (dV (qn none (h.bl.get c.ca) 16 λv=>some v) v21) (Y (.tuple ⟨[.bool true,v21,X1 0]⟩) h)):=by
   intro h1 d' R' Z' c' g1 w9 I1 e1 e2 eb e3 k1;unfold wI at w9;have hv:∀n:Int,je 8 (X1 n) (X1 n)=true:=λn=>by
    show(fU .i64 .i64 && nY n n)=true
    rw[fS,bq rfl];rfl
   simp(disch:=try exact QQ)only[Wz,w9,Bool.not_true,hv];exact hk h1 d' R' Z' _ g1 I1 e1 e2 eb e3 k1
  have beh:∀(h1:ah)(Rm R':RD)(c':CR),z_ i c' Rm R' h1 A.wb->Rm.cs=R.cs.set i (some c')->c'.ca=c.ca->c'.a=c.a->c'.th=c.th->c'.st=c.st->c'.no=c.no->c'.id=c.id->c'.wt=c.wt->c'.out=c.out->WG h1 A a N B d R' Z->Rm.cr.length=R.cr.length->Rm.now=R.now->Rm.begun=R.begun->KR h h1->
    qn False (h1.bl.get c.ca) 17 λv=>jB False .not v h1 λv17 h=>aI v17 (Y (.tuple ⟨[.bool false,X1 0,X1 0]⟩) h) (aJ (qn none (h.bl.get c.ca) 16 λv=>some v) h λv21 h=>cV (dV (qn none (h.bl.get c.ca) 16 λv=>some v) v21) (Y (.tuple ⟨[.bool true,v21,X1 0]⟩) h)):=by
   intro h1 Rm R' c' b hm eca ea Nz est UY Jt G2 H8 g1 el en eb k1;obtain⟨I1,l1,n1,b1⟩:=I.behind ho hm ea Nz est UY Jt G2 H8 b;have e1:R'.cr.length=R.cr.length:=by rw[l1];exact el
   have g2:=g1.up (N':=N+129) (B':=B+25600) XV XV;have I2:Inv R'.cr.length d.Ts R'.cs Z:=by rw[e1];exact I1
   have hmi:Rm.cs[i]? = some (some c'):=by rw[hm];exact jq ho _
   rcases b with⟨_,rfl⟩|⟨_,_,rfl,gx⟩|⟨_,_,rfl⟩
   .exact going h1 d _ Z _ g2 (jq hmi _) eca I2 e1 (n1.trans en) (b1.trans eb) (Nat.le_succ _) k1
   .rw[eca]at gx;exact gone h1 d _ Z c' g2 gx I2 e1 (n1.trans en) (b1.trans eb) (Nat.le_succ _) k1
   .exact going h1 d _ Z _ g2 (jq hmi _) eca I2 e1 (n1.trans en) (b1.trans eb) (Nat.le_succ _) k1
  obtain⟨k,hsk,MM⟩:=ok.st;have hn8:=g.s.r.nn;have Ma:=ok.th;have r:(R.cs.map λo=>dS (o.map (·.ca)))[i]? = some (X3 c.ca):=r;simp(disch:=try exact QQ)only[Wz,Bool.not_true,Lu,aL,gw,aX,Og,r,gc',Nat.mul_one,xw]
  show aj prog (uH c.ph) [X3 c.ca] h _
  have hph:=ok.ph;have hps:c.ph=1\/c.ph=2\/c.ph=3\/c.ph=4\/c.ph=5:=by omega
  rcases hps with hp|hp|hp|hp|hp
  .rw[show uH c.ph=58 by rw[hp];rfl];refine RL g ho hsk MM XV _ ?_;intro h1 gN el g1 k1;refine going h1 d _ Z { c with ph:=2 } (g1.up XV XV) (jq ho _) rfl ?_ el rfl rfl (Nat.le_succ _) k1
   show Inv gN.length _ _ _
   rw[el];exact I.set ho (ok.of rfl rfl rfl (by show 1<=2/\2<=5;omega) (λh=>absurd h (show ¬(2:Nat)=4 by decide)) (λ_=>ok.out XV)) rfl rfl rfl rfl rfl rfl
  .rw[show uH c.ph=106 by rw[hp];rfl];refine UX g ho (ok.out XV) ok.kd hN hB I.ko hlen uL ok.w _ ?_;intro h1 d1 c' Z1 rI rF iN ho1 ye lk g1 k1;refine going h1 d1 _ Z1 c' g1 (jq ho _) lk.eq.1 ?_ rfl rfl rfl lk.len k1;exact I.looked ho lk (ok.of lk.eq.2.1 lk.eq.2.2.1 lk.eq.2.2.2.2.1 XV (λh=>absurd (ye.symm.trans h) X0) (λh=>by omega))
  .rw[show uH c.ph=159 by rw[hp];rfl];refine UK g ho hsk MM Ma _ ?_;intro h1 gN R' el b1 g1 k1;exact beh h1 { R with cr:=gN } R' c b1 (rB ho).symm rfl rfl rfl rfl rfl rfl rfl rfl g1 el rfl rfl k1
  .rw[show uH c.ph=305 by rw[hp];rfl];refine RQ g ho Ma (ok.wl hp) _ ?_;intro h1 bits' c' R' eb hc b1 g1 k1;obtain⟨v',rfl⟩:=hc;exact beh h1 _ R' _ b1 rfl rfl rfl rfl rfl rfl rfl rfl rfl g1 rfl rfl rfl k1
  .rw[show uH c.ph=306 by rw[hp];rfl];refine RO g ho Ma _ ?_;intro h1 bits' eb g1 k1;refine going h1 d _ Z { c with ph:=1 } (g1.up XV XV) (jq ho _) rfl ?_ rfl rfl rfl (Nat.le_succ _) k1;exact I.set ho (ok.of rfl rfl rfl (by show 1<=1/\1<=5;omega) (λh=>absurd h (show ¬(1:Nat)=4 by decide)) (λ_=>ok.out XV)) rfl rfl rfl rfl rfl rfl
end
structure KG(h h':ah):Prop where
 r:KR h h'
 ty:∀b vs ty op,b<h.nx->h.bl.get b=some (ai vs ty op)->ty≠128->¬(ty=3/\op=false)->h'.bl.get b=h.bl.get b
theorem KG.refl(h:ah):KG h h:=⟨KR.refl h,λ_ _ _ _ _ _ _ _=>rfl⟩
theorem KG.trans{h h1 h2:ah}(x:KG h h1)(y:KG h1 h2):KG h h2:=
 ⟨x.r.trans y.r,λb vs ty op hb hg n1 n2=>by
  have e:=x.ty b vs ty op hb hg n1 n2;exact(y.ty b vs ty op (Nat.lt_of_lt_of_le hb x.r.nx) (e.trans hg) n1 n2).trans e⟩
theorem KG.of_le{h h':ah}(l:Le h h'):KG h h':=⟨KR.of_le l,λb _ _ _ hb _ _ _=>l.get b hb⟩
theorem KG.put{h:ah}{x:Nat}{v:List Value}{t:TypeId}{o:Bool}(hg:h.bl.get x=some (ai v t o))(ht:t=128\/(t=3/\o=false))(ob:bT):KG h ⟨h.nx,h.bl.bx x ob,h.lo⟩:=
 ⟨KR.put hg ob,λb vs ty op _ hb n1 n2=>T.au _ _ (by
  rintro rfl;rw[hg]at hb;obtain⟨rfl,rfl⟩:=eT hb;rcases ht with e|e
  .exact n1 e
  .exact n2 e)⟩
theorem Sl.kg{α:Type}{enc:α->List Value}{h h':ah}{v:Value}{L:List α}{e:TypeId}(s:Sl enc h v L)(t:mQ e h v)(k:KG h h')(h1:e≠128)(h2:e≠3):Sl enc h' v L/\mQ e h' v:=
 Sl.vK s t k.r.nx λc vs op hc hg=>k.ty c vs e op hc hg h1 λx=>h2 x.1
section
variable {h h':ah}{A:WA}{a:TA}{N N' B B':Nat}{d d':TD}{R R':RD}{Z Z':List TM}
theorem WG.akb(g:WG h A a N B d R Z){bits':List Int}(l:RH A.ib R.bits h h' bits'):KG h h':=by
 obtain⟨hl,hc⟩:=l;rcases hc with⟨rfl,rfl⟩|rfl
 .exact KG.refl _
 .exact KG.put g.s.r.gi (.inr ⟨rfl,rfl⟩) _
theorem H9(s:WS h A a N d R)(x:Int)(Y:KQ)(hk:Y (.bool (decide (0<=x/\x<(A.n:Int)))) h):aj prog 54 [X3 A.wb,X1 x] h Y:=by
 have gw:=s.r.gw;apply X2;rw[Wh];by_cases h0:0<=x
 .simp(disch:=try exact QQ)only[Wz,z6,bq h0,aL,gw];by_cases h1:x<(A.n:Int)
  .rw[bq (show 0<=x/\x<(A.n:Int)from⟨h0,h1⟩)]at hk;simp(disch:=try exact QQ)only[Wz,dw h1];exact hk
  .rw[a_ (show ¬(0<=x/\x<(A.n:Int))from λe=>h1 e.2)]at hk;simp(disch:=try exact QQ)only[Wz,b_ (show(A.n:Int)<=x by omega)];exact hk
 .rw[a_ (show ¬(0<=x/\x<(A.n:Int))from λe=>h0 e.1)]at hk;simp(disch:=try exact QQ)only[Wz,z6,a_ h0,aL,gw];exact hk
theorem afg(g:WG h A a N B d R Z)(x:Int)(Y:KQ)(nj:Y (.pointer none) h)(gP:∀(i:Nat) c,x=(i:Int)->R.cs[i]? = some (some c)->Y (X3 c.ca) h):aj prog 68 [X3 A.wb,X1 x] h Y:=by
 by_cases hx:0<=x/\x<(A.n:Int)
 .obtain⟨i,rfl⟩:∃i:Nat,x=(i:Int):=⟨x.toNat,XV⟩
  obtain⟨o,ho⟩:∃o,R.cs[i]? = some o:=⟨_,List.getElem?_eq_getElem (by have:=g.s.r.lc;omega)⟩
  refine RG g.s ho _ ?_;cases o with
  |none=>exact nj
  |some c=>exact gP i c rfl ho
 .refine ay mixed ?_;rw[Wl];refine H9 g.s x _ ?_;simp(disch:=try exact QQ)only[Wz,a_ hx,Bool.not_false];exact nj
theorem Af(g:WG h A a N B d R Z)(x:Int)(Y:KQ)(hk:∀b,(b=true->∃(i:Nat)(c:CR),x=(i:Int)/\R.cs[i]? = some (some c)/\c.wt=true/\c.out=0)->Y (.bool b) h):aj prog 60 [X3 A.wb,X1 x] h Y:=by
 have aa7:∀(β:Type)(fl:β)(cn:Bool)(h:ah)(Y:XW β),aG fl prog .neq 118 cn false (.pointer none) (.pointer none) h Y=Y (.bool false) h:=λβ fl cn h Y=>sj cn none h Y;have R9:∀(b:Nat)(β:Type)(fl:β)(cn:Bool)(h:ah)(Y:XW β),aG fl prog .neq 118 cn false (X3 b) (.pointer none) h Y=Y (.bool true) h:=λb β fl cn h Y=>sj cn (some b) h Y;apply X2;rw[ado];refine afg g x _ ?_ ?_
 .simp(disch:=try exact QQ)only[Wz,aa7];exact hk false (λe=>nomatch e)
 .rintro i c rfl hi;obtain⟨gc,c1,c2⟩:=bS g.s hi;unfold bJ at gc;simp(disch:=try exact QQ)only[Wz,R9,aL,gc];cases hw:c.wt with
  |false=>
   simp(disch:=try exact QQ)only[Wz];exact hk false (λe=>nomatch e)
  |true=>
   by_cases ho:c.out=0
   .simp(disch:=try exact QQ)only[Wz,aL,gc,bq ho];exact hk true (λ_=>⟨i,c,rfl,hi,hw,ho⟩)
   .simp(disch:=try exact QQ)only[Wz,aL,gc,a_ ho];exact hk false (λe=>nomatch e)
theorem DB(g:WG h A a N B d R Z){i:Nat}{c:CR}(hi:R.cs[i]? = some (some c))(k:Int)(Y:KQ)(hk:∀h' bits' k',bits'.length=R.bits.length->WG h' A a N B d { R with bits:=bits',cs:=R.cs.set i (some { c with cs:=k' }) } Z->KG h h'->(∀b,b<h.nx->b≠c.ca->b≠A.ib->h'.bl.get b=h.bl.get b)->Y (.tuple ⟨[]⟩) h'):aj prog 61 [X3 A.wb,X1 (i:Int),X1 k] h Y:=by
 have gw:=g.s.r.gw;have Og:=g.s.r.gc;have hil:=g.lt hi;have r:(R.cs.map λo=>dS (o.map (·.ca)))[i]? = some (X3 c.ca):=lJ g.s hi;have hlc:(R.cs.map λo=>dS (o.map (·.ca))).length=A.n:=by rw[List.length_map];exact g.s.r.lc
 obtain⟨gc,c1,c2⟩:=bS g.s hi;have gc':=gc;unfold bJ at gc';apply X2;rw[adq];refine⟨λl' h'=>∃k',WG h' A a N B d { R with cs:=R.cs.set i (some { c with cs:=k' }) } Z/\KG h h'/\∀b,b<h.nx->b≠c.ca->b≠A.ib->h'.bl.get b=h.bl.get b,?_,?_⟩
 .simp(disch:=try exact QQ)only[Wz,LC,aL,gw,aX,Og,r,Nat.mul_one,gc'];by_cases h0:c.cs=0
  .have g2:=g.iE hi { c with cs:=k } rfl rfl rfl rfl;have k2:=KG.put gc (.inl rfl) (bJ A.wb { c with cs:=k });unfold bJ at g2 k2;simp(disch:=try exact QQ)only[Wz,bq h0,aL,gc'];exact⟨k,g2,k2,λb _ hn _=>T.au _ _ (λe=>hn e.symm)⟩
  .simp(disch:=try exact QQ)only[Wz,a_ h0];refine⟨c.cs,?_,KG.refl _,λ_ _ _ _=>trivial⟩;rw[show({ R with cs:=R.cs.set i (some { c with cs:=c.cs }) }:RD)=R from RD.same hi];exact g
 .rintro l' h1 ⟨k',g1,k1,f1⟩;have Rn:=g1.s.r.gw;have WO:=g1.s.r.li;simp(disch:=try exact QQ)only[Wz,aL,Rn];refine B4 (by rw[WO];exact g1.s.r.gp) g1.s.r.gi g1.s.r.RB _ _ ?_;intro u h2 bits' l1;obtain⟨g2,_⟩:=g1.bit l1;refine hk h2 bits' k' l1.1 g2 (k1.trans (g1.akb l1)) λb hb n1 n2=>?_;obtain⟨_,hc⟩:=l1;rcases hc with⟨rfl,rfl⟩|rfl
  .exact f1 b hb n1 n2
  .exact(T.au _ _ (λe=>n2 e.symm)).trans (f1 b hb n1 n2)
theorem Inv.Jv{L:Nat}{Ts:List TB}{cs:List (Option CR)}{i:Nat}{c:CR}(I:Inv L Ts cs Z)(hi:cs[i]? = some (some c))(k':Int):Inv L Ts (cs.set i (some { c with cs:=k' })) Z:=by
 have o:=I.c i c hi;exact I.set hi (o.of rfl rfl rfl o.ph o.wl o.out) rfl rfl rfl rfl rfl rfl
theorem NA(g:WG h A a N B d R Z)(I:Inv R.cr.length d.Ts R.cs Z)(x:Int)(Y:KQ)(hk:∀h' R' v,WG h' A a N B d R' Z->Inv R'.cr.length d.Ts R'.cs Z->R'.cr=R.cr->R'.now=R.now->R'.begun=R.begun->KR h h'->Y v h'):aj prog 14 [X3 A.wb,X1 x] h Y:=by
 apply X2;rw[adb];refine Af g x _ ?_;intro b hb;refine⟨λl' h'=>∃R',WG h' A a N B d R' Z/\Inv R'.cr.length d.Ts R'.cs Z/\R'.cr=R.cr/\R'.now=R.now/\R'.begun=R.begun/\KR h h',?_,?_⟩
 .cases b with
  |false=>
   simp(disch:=try exact QQ)only[Wz];exact⟨R,g,I,rfl,rfl,rfl,KR.refl _⟩
  |true=>
   obtain⟨i,c,rfl,hi,_,_⟩:=hb rfl;simp(disch:=try exact QQ)only[Wz];refine DB g hi 3 _ ?_;intro h1 bits' k' eb g1 k1 _;exact⟨_,g1,I.Jv hi k',rfl,rfl,rfl,k1.r⟩
 .rintro l' h1 ⟨R',g1,I1,e1,e2,e3,k1⟩;exact hk h1 R' _ g1 I1 e1 e2 e3 k1
end
theorem aa8(a b c d e f g:Int):je 8 (.agg ⟨[X1 a,X1 b,X1 c,X1 d,X1 e,X1 f,X1 g]⟩) (.agg ⟨[X1 a,X1 b,X1 c,X1 d,X1 e,X1 f,X1 g]⟩)=true:=by
 have v:∀n:Int,je 7 (X1 n) (X1 n)=true:=λn=>by
  show(fU .i64 .i64 && nY n n)=true
  rw[fS,bq rfl];rfl
 show(je 7 (X1 a) (X1 a) && (je 7 (X1 b) (X1 b) && (je 7 (X1 c) (X1 c) && (je 7 (X1 d) (X1 d) && (je 7 (X1 e) (X1 e) && (je 7 (X1 f) (X1 f) && (je 7 (X1 g) (X1 g) && true)))))))=true
 simp only[v,Bool.and_self]
section
variable {h h':ah}{A:WA}{a:TA}{N N' B B':Nat}{d d':TD}{R R':RD}{Z Z':List TM}
theorem Inv.born{L:Nat}{Ts:List TB}{cs:List (Option CR)}{i:Nat}{c:CR}(I:Inv L Ts cs Z)(hi:cs[i]? = some none)(ok:tG L i c):Inv L Ts (cs.set i (some c)) Z:=by
 have ne:∀(j:Nat) y,cs[j]? = some (some y)->(cs.set i (some c))[j]? = some (some y):=λj y hj=>by
  have e:j≠i:=by rintro rfl;rw[hi]at hj;cases hj
  exact(qe e _).trans hj
 refine⟨λj x hj=>?_,λid t r x w=>?_,λt ht=>?_,I.ko⟩
 .by_cases e:j=i
  .subst e;rw[List.getElem?_set,if_pos rfl,if_pos (List.getElem?_eq_some_iff.1 hi).1]at hj;cases hj;exact ok
  .rw[qe e]at hj;exact I.c j x hj
 .obtain⟨j,y,hj,q⟩:=I.wt id t r x w;exact⟨j,y,ne j y hj,q⟩
 .obtain⟨j,y,hj,q⟩:=I.tm t ht;exact⟨j,y,ne j y hj,q⟩
theorem R_(g:WG h A a N B d R Z)(I:Inv R.cr.length d.Ts R.cs Z)(hS:(R.cr.length:Int)=a.c.S)(th:Int)(x:Np)(hbg:0<=R.begun/\R.begun<=1000000)(hxw:x.w<=9223372036854775807)(Y:KQ)(hk:∀h' R' v,WG h' A a N B d R' Z->Inv R'.cr.length d.Ts R'.cs Z->R'.cr=R.cr->R'.now=R.now->(0<=R'.begun/\R'.begun<=R.begun+1)->KR h h'->Y v h'):aj prog 11 [X3 A.wb,X1 th,.agg ⟨Uy x⟩] h Y:=by
 have hlo:=g.s.lo;have hlc:(R.cs.map λo=>dS (o.map (·.ca))).length=A.n:=by rw[List.length_map];exact g.s.r.lc
 have aj_:=g.s.r.lc;apply X2;rw[ac6];simp(disch:=try exact QQ)only[Wz,Uy];obtain⟨hA,bH,aY,g1,ia,ic⟩:=oR h (ai [X1 x.k,X1 x.x,X1 x.t,X1 x.r,X1 x.m,X1 x.w,X1 x.to] 31 false);rw[<-bH];clear bH;have gA:=g.le aY;have same:∀h1 v,Le h h1->Y v h1:=λh1 v l=>hk h1 R v (g.le l) I rfl rfl ⟨hbg.1,XV⟩ (KR.of_le l);simp(disch:=try exact QQ)only[Wz,mI,Ll];refine H9 gA.s th _ ?_;by_cases hx:0<=th/\th<(A.n:Int)
 .obtain⟨i,rfl⟩:∃i:Nat,th=(i:Int):=⟨th.toNat,XV⟩
  obtain⟨o,ho⟩:∃o,R.cs[i]? = some o:=⟨_,List.getElem?_eq_getElem XV⟩
  have hil:i<A.n:=by omega
  simp(disch:=try exact QQ)only[Wz,bq hx,Bool.not_true,g1];refine aaV x hA _ XV ?_;intro h1 bF;have n1:=bF.nx;have l1:=bF.lo;have gg1:=gA.le bF;have s1:=gg1.s;have g11:=(bF.get _ XV).trans g1;have Rn:=s1.r.gw;have w9:=s1.r.gc;cases hm:Uz x with
  |false=>
   simp(disch:=try exact QQ)only[Wz,Bool.not_false];exact same h1 _ (aY.trans bF)
  |true=>
   have r:(R.cs.map λo=>dS (o.map (·.ca)))[i]? = some (dS (o.map (·.ca))):=lJ g.s ho;have aa7:∀(β:Type)(fl:β)(cn:Bool)(h:ah)(Y:XW β),aG fl prog .neq 118 cn false (.pointer none) (.pointer none) h Y=Y (.bool false) h:=λβ fl cn h Y=>sj cn none h Y;cases o with
   |some c=>
    have R9:∀(b:Nat)(β:Type)(fl:β)(cn:Bool)(h:ah)(Y:XW β),aG fl prog .neq 118 cn false (X3 b) (.pointer none) h Y=Y (.bool true) h:=λb β fl cn h Y=>sj cn (some b) h Y;have r:(R.cs.map λo=>dS (o.map (·.ca)))[i]? = some (X3 c.ca):=r;simp(disch:=try exact QQ)only[Wz,Bool.not_true,CX,aL,Rn,aX,w9,r,Nat.mul_one,R9];exact same h1 _ (aY.trans bF)
   |none=>
    have r:(R.cs.map λo=>dS (o.map (·.ca)))[i]? = some (.pointer none):=r;simp(disch:=try exact QQ)only[Wz,Bool.not_true,CX,aL,Rn,aX,w9,r,Nat.mul_one,aa7,Lj,g11];refine vL s1.t.is XV x.t x.r _ ?_;intro h2 bK;have n2:=bK.nx;have l2:=bK.lo;have gg2:=gg1.le bK;have s2:=gg2.s;have g12:=(bK.get _ XV).trans g11;have JV:=s2.r.gw;simp(disch:=try exact QQ)only[Wz,aL,g12,JV];obtain⟨cc,Kr⟩:∃cc:CR,cc=⟨h2.nx,x,(i:Int),R.begun,jT x.t x.r a.c.S,1,false,0,0,0,.slice none 0 0,[],none⟩:=⟨_,rfl⟩
    obtain⟨h3,e3⟩:∃h3:ah,h3=⟨h2.nx+1,h2.bl.bx h2.nx (bJ A.wb cc),h2.lo⟩:=⟨_,rfl⟩
    have d_:Le h2 h3:=by rw[e3];exact(Le.refl h2).new _
    have g3:h3.bl.get h2.nx=some (bJ A.wb cc):=by rw[e3];exact T.an _ _ _
    have n3:h3.nx=h2.nx+1:=by rw[e3]
    have l3:h3.lo=h2.lo:=by rw[e3]
    have gg3:=gg2.le d_;have s3:=gg3.s;have e3':h3=⟨h2.nx+1,h2.bl.bx h2.nx (ai [X1 x.k,X1 x.x,X1 x.t,X1 x.r,X1 x.m,X1 x.w,X1 x.to,X3 A.wb,X1 (i:Int),X1 R.begun,X1 (jT x.t x.r a.c.S),.func (.func 58) ⟨[X3 h2.nx]⟩ ⟨[]⟩,X1 1,.bool false,X1 0,X1 0,X1 0,.bool false,.slice none 0 0] 128 false),h2.lo⟩:=by rw[e3,Kr];rfl
    have gw3:=s3.r.gw;have lw3:=s3.r.Ax;have lc3:=s3.r.SS;have s4:=s3.zY (R.begun+1);have gg4:=gg3.put gw3 (by simp[rE]) _ s4 nE rfl;have k4:=KR.put gw3 (ai [X3 a.tb,X3 A.lb,X3 A.pb,X3 A.kb,X9 A.cb A.n A.n,.map (some A.mb),X1 (R.begun+1)] 126 false);have afh:=s4.r.gc;have ovc:over (R.cs.map λo=>dS (o.map (·.ca))) i [X3 h2.nx]=(R.cs.set i (some cc)).map λo=>dS (o.map (·.ca)):=by
     unfold over;rw[List.map_set,List.set_eq_take_append_cons_drop,if_pos (by rw[List.length_map];omega),Kr];simp[dS]
    have s5:=WS.uJ (R:={ R with begun:=R.begun+1 }) s4 i (some cc) (λc e=>by
     cases e;refine⟨by rw[Kr];show h2.nx<h3.nx;omega,by rw[Kr];show h3.lo<=h2.nx;omega,?_,λj d' hj hd=>?_⟩
     .have e9:cc.ca=h2.nx:=by rw[Kr]
      rw[e9];exact(T.au _ _ (by have:=(s2.r.Ax).1;omega)).trans g3
     .have:=(s2.r.ca d' (List.mem_of_getElem? hd)).1;rw[Kr];show d'.ca≠h2.nx;omega)
    have gg5:=gg4.put afh (by simp[rE]) _ s5 (λj y hj=>by
     rw[show({ R with begun:=R.begun+1,cs:=R.cs.set i (some cc) }:RD).cs=R.cs.set i (some cc)from rfl]at hj;by_cases e:j=i
     .subst e;rw[List.getElem?_set,if_pos rfl,if_pos (List.getElem?_eq_some_iff.1 ho).1]at hj;cases hj;rw[Kr];exact .inr ⟨rfl,rfl,rfl⟩
     .rw[qe e]at hj;exact .inl ⟨y,hj,rfl,rfl,rfl⟩) rfl
    have k5:=KR.put afh (ai ((R.cs.set i (some cc)).map λo=>dS (o.map (·.ca))) 118 false);have hne:A.wb≠A.cb:=qd gw3 s3.r.gc X0;have apV:=s3.r.gc;have akd:=s2.r.gc;have lw2:=s2.r.Ax;have lc2:=s2.r.SS;simp(disch:=try exact QQ)only[Wz,aa8];apply X2;rw[Wi];simp(disch:=try exact QQ)only[Wz,aL,B1,JV,aX,akd,Nat.mul_one,ovc];have I5:Inv R.cr.length d.Ts (R.cs.set i (some cc)) Z:=I.born ho (by
     have hm':=hm;unfold Uz at hm';rw[Bool.and_eq_true,decide_eq_true_eq]at hm';rw[Kr];refine⟨rfl,?_,?_,?_,by show 1<=1/\1<=5;omega,λh=>absurd h (show ¬(1:Nat)=4 by decide),λ_=>rfl⟩
     .show ∃k:Nat,jT x.t x.r a.c.S=(k:Int)/\k<R.cr.length
      have hs1:=g.s.t.is.s1;have hcS:=g.s.t.is.cS;have h9:jT x.t x.r a.c.S≠-1:=by
       unfold jT;rw[if_neg XV];have:=tC (kP x.t x.r);have h8:=Int.tmod_nonneg a.c.S (show 0<=zM (kP x.t x.r)by omega);omega
      have h7:=zN h9;exact⟨(jT x.t x.r a.c.S).toNat,XV,XV⟩
     .show x.k=1\/x.k=2\/x.k=3
      by_cases k1:x.k=1
      .exact .inl k1
      .rw[if_neg k1]at hm';by_cases k3:x.k=3
       .exact .inr (.inr k3)
       .rw[if_neg k3,decide_eq_true_eq]at hm';exact .inr (.inl hm'.2)
     .show 0<=x.w/\x.w<=9223372036854775807\/x.k≠1
      by_cases k1:x.k=1
      .rw[if_pos k1,Bool.and_eq_true,decide_eq_true_eq]at hm';exact .inl ⟨hm'.2.2,hxw⟩
      .exact .inr k1)
    have hk:=hk _ _ (X1 0) gg5 I5 rfl rfl (by show 0<=R.begun+1/\R.begun+1<=R.begun+1;omega) (((KR.of_le ((aY.trans bF).trans (bK.trans d_))).trans k4).trans k5);rw[e3']at hk;exact hk
 .simp(disch:=try exact QQ)only[Wz,a_ hx,Bool.not_false];exact same _ _ aY
end
abbrev fP:FuncId:=59
abbrev fD:FuncId:=160
def WV(f:FuncId):Bool:=Nat.beq f fP || Nat.beq f fD
noncomputable abbrev pP:ku Prop:=prK prog WV
noncomputable abbrev RP(n:Nat):Rec Prop:=run False pP prog n
def cP:Code:=zF prog fP
def cD:Code:=zF prog fD
def p0:Code:=iG cP
def pB:Code:=LQ (iG (iV cP))
def p1:Code:=iG pB
def cdA:Code->Code | .cond _ a _=>a|c=>c
def cdB:Code->Code | .cond _ _ b=>b|c=>c
def p2:Code:=iG (cdA (iV pB))
def pC:Code:=cdB (iV pB)
def p3:Code:=iG pC
def p4:Code:=iG (cdA (iV pC))
def pR:Code:=iV (iV cP)
def p5:Code:=iG pR
def p6:Code:=iG (iV pR)
def pS:Code:=iV (iV pR)
def p7:Code:=iG (iG pS)
def pF:Code:=LQ (iV (iG pS))
def p8:Code:=rfA pF
def p9:Code:=LQ (rfB pF)
def p10:Code:=iG (iV pS)
theorem afi:cP=.seq p0 (.seq (.block 0 (.seq p1 (.cond (.tmp 8) (.seq p2 .ret) (.seq p3 (.cond (.tmp 11) (.seq p4 .ret) .skip))))) (.seq p5 (.seq p6 (.seq (.seq p7 (.block 1 (.rangeFunc (.tmp 33) #[34] p8 (.block 2 p9)))) (.seq p10 .ret))))):=by kernel_rfl
def dL:Code:=LQ (LQ cD)
def d0:Code:=iG (iG dL)
def dB:Code:=LQ (iV dL)
def d1:Code:=iG dB
def d2:Code:=iG (iV dB)
theorem afj:cD=.block 0 (.loop (.seq (.seq d0 (.cond (.tmp 24) .skip (.exit 0))) (.block 1 (.seq d1 (.seq d2 (.cond (.tmp 41) .ret .skip)))))):=by kernel_rfl
def vO(o:Option Value)(Y:Value->Prop):Prop:=match o with|some v=>Y v|none=>False
def gB(b:Bool)(x y:Prop):Prop:=Bool.rec (motive:=λ_=>Prop) x y b
def so(v:Value)(_:ah):Option Value:=some v
variable (rec:Rec Prop)(tm:T Value)(h:ah)
theorem rp0(Y:Ex->T Value->ah->Prop):body False pP prog rec p0 tm h Y=T.set tm 4 (.slice none 0 0) λtm=>T.set tm 5 (X1 0) λtm=>Y .normal tm h:=by kernel_rfl
theorem rp1(Y:Ex->T Value->ah->Prop):body False pP prog rec p1 tm h Y =
  ev tm (.tmp 0) λx=>T.set tm 9 x λtm=>ev tm (.tmp 9) λx=>aG False prog .eql 122 true false x (.pointer none) h λv h=>T.set tm 10 v λtm=>ev tm (.tmp 10) λv=>T.set tm 8 v λtm=>Y .normal tm h:=by kernel_rfl
theorem rp3(Y:Ex->T Value->ah->Prop):body False pP prog rec p3 tm h Y =
  ev tm (.tmp 1) λx=>T.set tm 12 x λtm=>ev tm (.tmp 12) λx=>aG False prog .lss 3 true false x (X1 0) h λv h=>T.set tm 13 v λtm=>ev tm (.tmp 13) λv=>T.set tm 14 v λtm=>
   gB (gE tm (some (14,false))) (T.set tm 15 undef λtm=>gB (gE tm (some (14,false))) (T.set tm 16 undef λtm=>(λtm=>ev tm (.tmp 14) λa=>ev tm (.tmp 16) λb=>bD False a (.bool true) b h λv h=>T.set tm 17 v λtm=>ev tm (.tmp 17) λv=>T.set tm 11 v λtm=>Y .normal tm h) tm) (ev tm (.tmp 15) λx=>aG False prog .gtr 3 true false x (X1 1000) h λv h=>T.set tm 16 v λtm=>ev tm (.tmp 14) λa=>ev tm (.tmp 16) λb=>bD False a (.bool true) b h λv h=>T.set tm 17 v λtm=>ev tm (.tmp 17) λv=>T.set tm 11 v λtm=>Y .normal tm h))
    (ev tm (.tmp 1) λx=>T.set tm 15 x λtm=>gB (gE tm (some (14,false))) (T.set tm 16 undef λtm=>ev tm (.tmp 14) λa=>ev tm (.tmp 16) λb=>bD False a (.bool true) b h λv h=>T.set tm 17 v λtm=>ev tm (.tmp 17) λv=>T.set tm 11 v λtm=>Y .normal tm h) (ev tm (.tmp 15) λx=>aG False prog .gtr 3 true false x (X1 1000) h λv h=>T.set tm 16 v λtm=>ev tm (.tmp 14) λa=>ev tm (.tmp 16) λb=>bD False a (.bool true) b h λv h=>T.set tm 17 v λtm=>ev tm (.tmp 17) λv=>T.set tm 11 v λtm=>Y .normal tm h)):=by kernel_rfl
theorem rp5(Y:Ex->T Value->ah->Prop):body False pP prog rec p5 tm h Y =
  vO (ev tm (.tmp 0) λx=>some x) λv=>T.set tm 18 v λtm=>vO (ev tm (.tmp 18) λx=>aT none x h so) λv=>T.set tm 19 v λtm=>vO (ev tm (.tmp 19) λx=>af none 0 x h so) λv=>T.set tm 20 v λtm=>vO (ev tm (.tmp 20) λx=>ax none x h so) λv=>T.set tm 21 v λtm=>
  vO (ev tm (.tmp 1) λx=>some x) λv=>T.set tm 22 v λtm=>vO (ev tm (.tmp 0) λx=>some x) λv=>T.set tm 23 v λtm=>vO (ev tm (.tmp 23) λx=>aT none x h so) λv=>T.set tm 24 v λtm=>vO (ev tm (.tmp 24) λx=>af none 0 x h so) λv=>T.set tm 25 v λtm=>vO (ev tm (.tmp 25) λx=>ax none x h so) λv=>T.set tm 26 v λtm=>
  vO (ev tm (.tmp 26) λx=>aG none prog .sub 2 true false (X1 9223372036854775807) x h so) λv=>T.set tm 27 v λtm=>vO (ev tm (.tmp 22) λa=>ev tm (.tmp 27) λb=>DP none a b h so) λv=>T.set tm 28 v λtm=>vO (ev tm (.tmp 21) λa=>ev tm (.tmp 28) λb=>aG none prog .add 2 false false a b h so) λv=>T.set tm 29 v λtm=>
  vO (ev tm (.tmp 18) λx=>aT none x h so) λv=>T.set tm 30 v λtm=>vO (ev tm (.tmp 30) λx=>af none 0 x h so) λv=>T.set tm 31 v λtm=>ev tm (.tmp 31) λa=>ev tm (.tmp 29) λv=>aM False 1 a v h λv h=>Y .normal tm h:=by kernel_rfl
theorem rp6(Y:Ex->T Value->ah->Prop):body False pP prog rec p6 tm h Y=aF False (ai [.slice none 0 0] 130 false) h λb h=>T.set tm 6 (av b) λtm=>Y .normal tm h:=by kernel_rfl
theorem rp7(Y:Ex->T Value->ah->Prop):body False pP prog rec p7 tm h Y=ev tm (.tmp 0) λx=>T.set tm 32 x λtm=>ev tm (.tmp 32) λx=>aj prog 107 [x] h λv h=>T.set tm 33 v λtm=>Y .normal tm h:=by kernel_rfl
theorem rp8(Y:Ex->T Value->ah->Prop):body False pP prog rec p8 tm h Y=aF False (ai [X1 0,X1 0,X1 0] 134 false) h λb h=>T.set tm 7 (av b) λtm=>ev tm (.tmp 7) λa=>ev tm (.tmp 34) λv=>aM False 3 a v h λv h=>Y .normal tm h:=by kernel_rfl
theorem rp9(Y:Ex->T Value->ah->Prop):body False pP prog rec p9 tm h Y =
  ev tm (.tmp 6) λx=>ax False x h λv h=>T.set tm 35 v λtm=>ev tm (.tmp 7) λx=>aN False 3 x h λv h=>T.set tm 36 v λtm=>ev tm (.tmp 36) λv=>bM False [(0,3)] [v] [X1 0,X1 0,X1 0] λcs=>aK False cs 134 false λo=>aF False o h λb h=>T.set tm 37 (bB 1 1 b) λtm=>
   ev tm (.tmp 35) λs=>ev tm (.tmp 37) λx=>bt False And 134 3 [X1 0,X1 0,X1 0] false s x h λv h=>T.set tm 38 v λtm=>ev tm (.tmp 6) λa=>ev tm (.tmp 38) λv=>aM False 1 a v h λv h=>Y .normal tm h:=by kernel_rfl
theorem ake(Y:Ex->T Value->ah->Prop):body False pP prog rec p10 tm h Y=ev tm (.tmp 6) λx=>ax False x h λv h=>T.set tm 39 v λtm=>ev tm (.tmp 39) λv=>T.set tm 4 v λtm=>T.set tm 5 (X1 0) λtm=>Y .normal tm h:=by kernel_rfl
def gR(g:Option (Nat × Bool))(d:Nat)(tm:T Value)(o:Option Value)(K:T Value->Prop):Prop:=gB (gE tm g) (T.set tm d undef K) (vO o λv=>T.set tm d v K)
def gO(g:Option (Nat × Bool))(d:Nat)(tm:T Value)(h:ah)(f:(Value->ah->Prop)->Prop)(K:T Value->ah->Prop):Prop:=gB (gE tm g) (T.set tm d undef λtm=>K tm h) (f λv h=>T.set tm d v λtm=>K tm h)
theorem rd0(Y:Ex->T Value->ah->Prop):body False pP prog rec d0 tm h Y =
  vO (ev tm (.tmp 1) λx=>ax none x h so) λv=>T.set tm 5 v λtm=>
  vO (ev tm (.tmp 5) λx=>aT none x h so) λv=>T.set tm 6 v λtm=>
  vO (ev tm (.tmp 6) λx=>af none 1 x h so) λv=>T.set tm 7 v λtm=>
  vO (ev tm (.tmp 7) λx=>ax none x h so) λv=>T.set tm 8 v λtm=>
  vO (ev tm (.tmp 8) λx=>bh none x h so) λv=>T.set tm 9 v λtm=>
  vO (ev tm (.tmp 9) λx=>aG none prog .gtr 3 true false x (X1 0) h so) λv=>T.set tm 10 v λtm=>
  vO (ev tm (.tmp 10) λx=>some x) λv=>T.set tm 11 v λtm=>
  gR (some (11,true)) 12 tm (ev tm (.tmp 1) λx=>ax none x h so) λtm=>
  gR (some (11,true)) 13 tm (ev tm (.tmp 12) λx=>aT none x h so) λtm=>
  gR (some (11,true)) 14 tm (ev tm (.tmp 13) λx=>af none 1 x h so) λtm=>
  gR (some (11,true)) 15 tm (ev tm (.tmp 14) λx=>ax none x h so) λtm=>
  gR (some (11,true)) 16 tm (ev tm (.tmp 15) λx=>az none 3 x (X1 0) h so) λtm=>
  gR (some (11,true)) 17 tm (ev tm (.tmp 16) λx=>af none 0 x h so) λtm=>
  gR (some (11,true)) 18 tm (ev tm (.tmp 17) λx=>ax none x h so) λtm=>
  gR (some (11,true)) 19 tm (ev tm (.tmp 1) λx=>ax none x h so) λtm=>
  gR (some (11,true)) 20 tm (ev tm (.tmp 19) λx=>aT none x h so) λtm=>
  gR (some (11,true)) 21 tm (ev tm (.tmp 20) λx=>af none 0 x h so) λtm=>
  gR (some (11,true)) 22 tm (ev tm (.tmp 21) λx=>ax none x h so) λtm=>
  gR (some (11,true)) 23 tm (ev tm (.tmp 18) λa=>ev tm (.tmp 22) λb=>aG none prog .leq 2 false false a b h so) λtm=>
  vO (ev tm (.tmp 11) λa=>ev tm (.tmp 23) λb=>bD none a b (.bool false) h so) λv=>T.set tm 24 v λtm=>Y .normal tm h:=by kernel_rfl
theorem rd1(Y:Ex->T Value->ah->Prop):body False pP prog rec d1 tm h Y =
  ev tm (.tmp 1) λx=>ax False x h λv h=>T.set tm 26 v λtm=>ev tm (.tmp 26) λx=>aT False x h λv h=>T.set tm 27 v λtm=>ev tm (.tmp 27) λx=>af False 1 x h λv h=>T.set tm 28 v λtm=>ev tm (.tmp 28) λx=>T.set tm 29 (.iface 261 x) λtm=>ev tm (.tmp 29) λx=>aj prog 161 [x] h λv h=>T.set tm 30 v λtm=>
  ev tm (.tmp 30) λx=>dH False 258 (.agg ⟨[X1 0,X1 0,X1 0]⟩) true x h λv h=>T.set tm 31 v λtm=>ev tm (.tmp 31) λx=>T.set tm 25 x λtm=>ev tm (.tmp 25) λx=>aH False 0 x h λv h=>T.set tm 32 v λtm=>ev tm (.tmp 25) λx=>aH False 1 x h λv h=>T.set tm 33 v λtm=>
  aF False (ai [X1 0,X1 0,X1 0] 258 false) h λb h=>T.set tm 3 (av b) λtm=>ev tm (.tmp 3) λa=>ev tm (.tmp 32) λv=>aM False 3 a v h λv h=>ev tm (.tmp 33) λv=>T.set tm 4 v λtm=>Y .normal tm h:=by kernel_rfl
theorem rd2(Y:Ex->T Value->ah->Prop):body False pP prog rec d2 tm h Y =
  ev tm (.tmp 4) λx=>T.set tm 34 x λtm=>ev tm (.tmp 34) λx=>jB False .not x h λv h=>T.set tm 35 v λtm=>ev tm (.tmp 35) λx=>T.set tm 36 x λtm=>
  gO (some (36,false)) 37 tm h (λk=>ev tm (.tmp 0) λx=>k x h) λtm h=>gO (some (36,false)) 38 tm h (λk=>ev tm (.tmp 3) λx=>aN False 3 x h k) λtm h=>gO (some (36,false)) 39 tm h (λk=>ev tm (.tmp 38) λx=>ev tm (.tmp 37) λf=>sJ False pP prog rec f [x] h k) λtm h=>gO (some (36,false)) 40 tm h (λk=>ev tm (.tmp 39) λx=>jB False .not x h k) λtm h=>
  ev tm (.tmp 36) λa=>ev tm (.tmp 40) λb=>bD False a (.bool true) b h λv h=>T.set tm 41 v λtm=>Y .normal tm h:=by kernel_rfl
theorem Ag(v:Value)(Y:Value->Prop):vO (some v) Y=Y v:=id rfl
theorem Sa(v:Value)(h:ah):so v h=some v:=id rfl
theorem aa9(x y:Prop):gB true x y=y:=id rfl
theorem akf(x y:Prop):gB false x y=x:=id rfl
def wBv(v:Value)(w:Bool):Bool:=match v,w with | .bool true,true=>true | .bool false,false=>true|_,_=>false
theorem DC(tm:T Value)(s:Nat)(w:Bool):gE tm (some (s,w))=wBv (cZ tm s) w:=by kernel_rfl
theorem afk:wBv (.bool true) true=true:=id rfl
theorem afl:wBv (.bool false) true=false:=id rfl
theorem WW:wBv (.bool false) false=true:=id rfl
@[congr] theorem afm{b b':Bool}{x y:Prop}(e:b=b'):gB b x y=gB b' x y:=by rw[e]
@[congr] theorem acm{o o':Option Value}{Y:Value→Prop}(e:o=o'):vO o Y=vO o' Y:=by rw[e]
@[congr] theorem afn{g:Option (Nat × Bool)}{d:Nat}{tm:T Value}{o:Option Value}{K:T Value→Prop}:gR g d tm o K=gR g d tm o K:=rfl
@[congr] theorem afo{g:Option (Nat × Bool)}{d:Nat}{tm:T Value}{h:ah}{f:(Value→ah→Prop)→Prop}{K:T Value→ah→Prop}:gO g d tm h f K=gO g d tm h f K:=rfl
theorem WX(s:Nat)(w:Bool)(d:Nat)(tm:T Value)(o:Option Value)(K:T Value->Prop):gR (some (s,w)) d tm o K=gB (wBv (cZ tm s) w) (T.set tm d undef K) (vO o λv=>T.set tm d v K):=by
 unfold gR;rw[DC]
theorem afp(s:Nat)(w:Bool)(d:Nat)(tm:T Value)(h:ah)(f:(Value->ah->Prop)->Prop)(K:T Value->ah->Prop):gO (some (s,w)) d tm h f K=gB (wBv (cZ tm s) w) (T.set tm d undef λtm=>K tm h) (f λv h=>T.set tm d v λtm=>K tm h):=by
 unfold gO;rw[DC]
section
variable (n:Nat)(a b:Code)(tm:T Value)(h:ah)(Y:Ex->T Value->ah->Prop)
theorem sQ:RP (n+1) (.seq a b) tm h Y=RP n a tm h (sq (RP n) b Y):=id rfl
theorem vP(t:Nat):RP (n+1) (.cond (.tmp t) a b) tm h Y=qz False (RP n) a b tm h Y (cZ tm t):=fZ tm (.tmp t) (qz False (RP n) a b tm h Y)
theorem uN(i:Nat):RP (n+1) (.block i a) tm h Y=RP n a tm h (kQ i Y):=id rfl
theorem Sb:RP (n+1) (.loop a) tm h Y=RP n a tm h (sq (RP n) (.loop a) Y):=id rfl
theorem Sc(i:Nat):RP (n+1) (.exit i) tm h Y=Y (.exit i) tm h:=id rfl
theorem afq:RP (n+1) .ret tm h Y=Y .ret tm h:=id rfl
theorem J1:RP (n+1) .skip tm h Y=Y .normal tm h:=id rfl
theorem akg(t:Nat)(ps:Array Tmp):RP (n+1) (.rangeFunc (.tmp t) ps a b) tm h Y=fe False pP prog (RP n) ps.toList a b tm h Y (cZ tm t):=fZ tm (.tmp t) (fe False pP prog (RP n) ps.toList a b tm h Y)
theorem akh:RP (n+1) p0 tm h Y=body False pP prog (RP n) p0 tm h Y:=id rfl
theorem aki:RP (n+1) p1 tm h Y=body False pP prog (RP n) p1 tm h Y:=id rfl
theorem akj:RP (n+1) p3 tm h Y=body False pP prog (RP n) p3 tm h Y:=id rfl
theorem akk:RP (n+1) p5 tm h Y=body False pP prog (RP n) p5 tm h Y:=id rfl
theorem akl:RP (n+1) p6 tm h Y=body False pP prog (RP n) p6 tm h Y:=id rfl
theorem akm:RP (n+1) p7 tm h Y=body False pP prog (RP n) p7 tm h Y:=id rfl
theorem akn:RP (n+1) p8 tm h Y=body False pP prog (RP n) p8 tm h Y:=id rfl
theorem ako:RP (n+1) p9 tm h Y=body False pP prog (RP n) p9 tm h Y:=id rfl
theorem afr:RP (n+1) p10 tm h Y=body False pP prog (RP n) p10 tm h Y:=id rfl
theorem afs:RP (n+1) d0 tm h Y=body False pP prog (RP n) d0 tm h Y:=id rfl
theorem akp:RP (n+1) d1 tm h Y=body False pP prog (RP n) d1 tm h Y:=id rfl
theorem akq:RP (n+1) d2 tm h Y=body False pP prog (RP n) d2 tm h Y:=id rfl
end
theorem aft(rec:Rec Prop)(c x:Value)(h:ah)(Y:KQ):jG False pP prog rec fP [c,x] h Y=rec cP (lay [c,x] .nil 0) h (wN False [.tmp 4,.tmp 5] Y):=by kernel_rfl
theorem afu(rec:Rec Prop)(y m:Value)(h:ah)(Y:KQ):jG False pP prog rec fD [y,m] h Y=rec cD (lay [y,m] .nil 0) h (wN False [] Y):=by kernel_rfl
theorem rfP(rec:Rec Prop)(ps:List Nat)(x y:Code)(tm:T Value)(h:ah)(Y:Ex->T Value->ah->Prop)(c:Value):fe False pP prog rec ps x y tm h Y (.func (.func fD) ⟨[]⟩ ⟨[c]⟩)=jG False pP prog rec fD [.func (.yield h.nx) #[] #[],c] ⟨h.nx+1,h.bl.bx h.nx (.loop .ready none tm ps x y),h.lo⟩ (fH False h.nx tm Y):=dJ (fl:=False) (.loop .ready none tm ps x y) h (λl h=>jG False pP prog rec fD [.func (.yield l) #[] #[],c] h (fH False l tm Y))
theorem afv(tm:T Value)(h:ah)(Y:KQ):wN False [.tmp 4,.tmp 5] Y .ret tm h=Y (.tuple ⟨[cZ tm 4,cZ tm 5]⟩) h:=by
 show NW tm [.tmp 4,.tmp 5] _=_
 unfold NW;rw[dY];unfold NW;rw[dY];rfl
noncomputable abbrev mJ(st:LoopState)(iO:T Value):bT:=.loop st none iO [34] p8 (.block 2 p9)
theorem afw{β:Type}{fl:β}{a b:Int}(hab:a<=b)(h:ah)(Y:XW β):DP fl (X1 a) (X1 b) h Y=Y (X1 a) h:=by
 unfold DP;simp only[iq,a_ (show ¬b<a by omega)]
theorem NB{l:Nat}{tm iO:T Value}{v:Value}{h:ah}{Y:Ex->T Value->ah->Prop}(hl:h.bl.get l=some (mJ .ready iO))(hlo:h.lo<=l):∃o,fH False l tm Y v h=Y .normal tm ⟨h.nx,h.bl.bx l o,h.lo⟩:=by
 refine⟨.loop .exhausted none iO [34] p8 (.block 2 p9),?_⟩;unfold fH;simp only[hl,bI _ _ _ _ hlo]
theorem U0(rec:Rec Prop)(l:Nat)(x:Value)(h:ah)(Y:KQ):sJ False pP prog rec (.func (.yield l) #[] #[]) [x] h Y=oZ False rec l [x] h Y:=id rfl
theorem NC{rec:Rec Prop}{l:Nat}{x:Value}{h:ah}{Y:KQ}{st:LoopState}{iO:T Value}(hl:h.bl.get l=some (mJ st iO)):oZ False rec l [x] h Y=rec p8 (iO.bx 34 x) h (fu False rec l (.block 2 p9) Y):=by
 unfold oZ;simp only[hl,List.length_cons,List.length_nil]
 show sI [34] [x] iO _=_
 unfold sI;rw[T.cQ];unfold sI;rfl
theorem ND{rec:Rec Prop}{l:Nat}{bd:Code}{tm:T Value}{h:ah}{Y:KQ}{iO:T Value}(hl:h.bl.get l=some (mJ .ready iO))(hlo:h.lo<=l):fu False rec l bd Y .normal tm h=rec bd tm ⟨h.nx,h.bl.bx l (mJ .busy iO),h.lo⟩ (jr False l Y):=by
 unfold fu;simp only[hl,bI _ _ _ _ hlo]
theorem U2{l:Nat}{tm:T Value}{h:ah}{Y:KQ}{st:LoopState}{iO:T Value}(hl:h.bl.get l=some (mJ st iO))(hlo:h.lo<=l):jr False l Y .normal tm h=Y (.bool true) ⟨h.nx,h.bl.bx l (mJ .ready iO),h.lo⟩:=by
 unfold jr;simp only[hl,bI _ _ _ _ hlo]
theorem afx(kb:Nat):(Value.iface 261 (.pointer (some ⟨kb,1,none⟩)))=RJ kb:=rfl
section
variable {h:ah}{kb q:Nat}{now:Int}{Z:List TM}{rec:Rec Prop}
theorem WY(tm:T Value)(c:bQ h kb now Z)(h1:cZ tm 1=X3 q)(gq:h.bl.get q=some (ai [X3 kb] 122 false))(Y:Ex->T Value->ah->Prop)(hk:∀cN b,cZ cN 0=cZ tm 0->cZ cN 1=cZ tm 1->cZ cN 24=.bool b->(b=true->Z≠[])->Y .normal cN h):body False pP prog rec d0 tm h Y:=by
 obtain⟨tv,gk,t⟩:=c.cell;obtain⟨y,cc,ev⟩:=t.val;rw[rd0];by_cases hZ:Z=[]
 .have hl0:Z.length=0:=by rw[hZ];rfl
  rw[ev,hl0]at gk;simp(disch:=try exact QQ)only[Wz,dY,h1,bG,cE,Ag,Sa,↓T.cQ,↓WX,afl,akf,gq,aL,gk,b_ (show(0:Int)<=0 by omega)];refine hk _ false ?_ ?_ ?_ (λe=>by cases e)
  .simp (disch:=decide) only [cE]
  .simp (disch:=decide) only [cE]
  .simp (disch:=decide) only [cE,bG]
 ·obtain⟨x,L,hL⟩:∃x L,Z=x::L:=List.exists_cons_of_ne_nil hZ;obtain⟨b,_,_,_,x1,hh,_⟩:=tLd t (i:=0) (x:=x) (by rw[hL];rfl);have x1:∀(β:Type)(fl:β)(h':ah)(Y:XW β),az fl 3 tv (X1 0) h' Y=Y (X3 b) h':=λβ fl h' Y=>by
   have:=x1 β fl h' Y;simpa using this
  have l1:∀(β:Type)(fl:β)(Y:Value->β),qn fl (h.bl.get b) 0 Y=Y (X1 x.at'):=λβ fl Y=>by
   have e:=cO (fl:=fl) hh 0 Y (by show 0<3;omega);rw[Nat.zero_mul,Nat.add_zero]at e;exact e
  have hpos:(0:Int)<(Z.length:Int):=by rw[hL,List.length_cons];omega
  have len:∀(β:Type)(fl:β)(h':ah)(Y:XW β),bh fl tv h' Y=Y (X1 (Z.length:Int)) h':=λβ fl h' Y=>by rw[ev];exact bX _ _ _ _ _
  simp(disch:=try exact QQ)only[Wz,dY,h1,bG,cE,Ag,Sa,↓T.cQ,↓WX,afk,aa9,gq,aL,gk,len,x1,l1,dw hpos,bq hpos];refine hk _ (!decide (now<x.at')) ?_ ?_ ?_ (λ_=>hZ)
  .simp (disch:=decide) only [cE]
  .simp (disch:=decide) only [cE]
  .simp (disch:=decide) only [cE,bG]
theorem afy(tm:T Value)(c:bQ h kb now Z)(hlo:h.lo<=h.nx)(hlen:Z.length<=10000)(hZ:Z≠[])(h1:cZ tm 1=X3 q)(hq:q<h.nx)(gq:h.bl.get q=some (ai [X3 kb] 122 false))(Y:Ex->T Value->ah->Prop)(hk:∀cN h' p x Z',cZ cN 0=cZ tm 0->cZ cN 1=cZ tm 1->cZ cN 4=.bool true->cZ cN 3=X3 p->h.nx<=p->p<h'.nx->h'.bl.get p=some (ai (c9 x) 258 false)->bQ h' kb now Z'->(x::Z').Perm Z->pO kb h h'->Y .normal cN h'):body False pP prog rec d1 tm h Y:=by
 rw[rd1];simp(disch:=try exact QQ)only[Wz,dY,h1,bG,cE,↓T.cQ,gq,aL,afx];refine aa1 c hlo hlen hZ _ ?_;intro h2 x Z' c2 hp2 oI;have n2:=oI.nx;have l2:=oI.lo;simp(disch:=try exact QQ)only[Wz,dY,bG,cE,↓T.cQ,dH,c9];refine hk _ _ h2.nx x Z' ?_ ?_ ?_ ?_ n2 (Nat.lt_succ_self _) (T.an _ _ _) (c2.le ((Le.refl h2).new _)) hp2 (oI.trans (pO.of_le ((Le.refl h2).new _)))
 .simp (disch:=decide) only [cE]
 .simp (disch:=decide) only [cE]
 .simp (disch:=decide) only [cE,bG]
 .simp (disch:=decide) only [cE,bG]
end
abbrev akr(h:ah)(v:Value)(D:List TM):Prop:=eG c9 ⟨0,.nil,h.lo⟩ 134 h v D
structure DI(kb l o q:Nat)(now:Int)(iO:T Value)(h0 h:ah)(Z:List TM)(v:Value)(D:List TM):Prop where
 c:bQ h kb now Z
 lo:h.lo<=h.nx
 hq:q<h.nx
 gq:h.bl.get q=some (ai [X3 kb] 122 false)
 hl:l<h.nx/\h.lo<=l
 gl:h.bl.get l=some (mJ .ready iO)
 ho:o<h.nx/\h.lo<=o
 go:h.bl.get o=some (ai [v] 130 false)
 own:akr h v D
 nx:h0.nx<=h.nx
 l0:h.lo=h0.lo
 fr:∀b,b<h0.nx->b≠kb->(∀vs,h0.bl.get b≠some (ai vs 258 true))->(∀vs,h0.bl.get b≠some (ai vs 134 true))->h.bl.get b=h0.bl.get b
theorem afz{kb l o q p n:Nat}{now:Int}{iO:T Value}{h0 h:ah}{Z D:List TM}{v:Value}{x:TM}(I:DI kb l o q now iO h0 h Z v D)(hl0:h0.nx<=l)(S9:h0.nx<=o)(tm:T Value)(h4:cZ tm 4=.bool true)(h0':cZ tm 0=.func (.yield l) #[] #[])(h3:cZ tm 3=X3 p)(gp:h.bl.get p=some (ai (c9 x) 258 false))(h6:cZ iO 6=av o)(hD:D.length<=20000)(Y:Ex->T Value->ah->Prop)(hk:∀cN h' v',cZ cN 41=.bool false->cZ cN 1=cZ tm 1->cZ cN 0=cZ tm 0->DI kb l o q now iO h0 h' Z v' (D++[x])->Y .normal cN h'):body False pP prog (RP (n+6)) d2 tm h Y:=by
 have hl:=I.hl;have ho:=I.ho;have gl:=I.gl;have go:=I.go;have hlo:=I.lo;have hne:l≠o:=by rintro rfl;rw[gl]at go;unfold ai at go;cases go
 unfold c9 at gp;rw[rd2];simp(disch:=try exact QQ)only[Wz,dY,h4,h0',h3,gp,bG,cE,↓T.cQ,↓afp,WW,aa9,U0,NC gl,akn];rw[rp8];simp(disch:=try exact QQ)only[Wz,dY,bG,cE,↓T.cQ];obtain⟨hA,bH,aY,gA,ia,ic⟩:=oR h (ai [X1 x.at',X1 x.who,X1 x.mark] 134 false);rw[<-bH];clear bH;have glA:=(aY.get l hl.1).trans gl;have goA:=(aY.get o ho.1).trans go;rw[ND glA XV];simp(disch:=try exact QQ)only[Wz,uN,ako];rw[rp9];have go1:(hA.bl.bx l (mJ .busy iO)).get o=_:=(T.au _ _ hne).trans goA;have gA1:(hA.bl.bx l (mJ .busy iO)).get h.nx=_:=(T.au _ _ XV).trans gA;simp(disch:=try exact QQ)only[Wz,dY,bG,cE,↓T.cQ,h6,go1,gA1];obtain⟨h5,e5⟩:∃h5:ah,h5=⟨hA.nx+1,(hA.bl.bx l (mJ .busy iO)).bx hA.nx (ai [X1 x.at',X1 x.who,X1 x.mark] 134 false),hA.lo⟩:=⟨_,rfl⟩
 have n5:h5.nx=hA.nx+1:=by rw[e5]
 have l5:h5.lo=hA.lo:=by rw[e5]
 have go5:h5.bl.get o=some (ai [v] 130 false):=by rw[e5];exact(T.au _ _ XV).trans go1
 have gl5:h5.bl.get l=some (mJ .busy iO):=by rw[e5];exact(T.au _ _ XV).trans (T.an _ _ _)
 have gx5:h5.bl.get hA.nx=some (ai ([x].flatMap c9) 134 false):=by rw[e5];exact T.an _ _ _
 have f5:∀c,c<h.nx->c≠l->h5.bl.get c=h.bl.get c:=λc hc hn=>by rw[e5];exact(T.au _ _ XV).trans ((T.au _ _ (λe=>hn e.symm)).trans (aY.get c hc))
 rw[<-e5];clear e5;have aks:eG c9 ⟨0,.nil,h5.lo⟩ 134 h5 v D:=by
  rcases I.own with a1|⟨b,a1,a2,a3,a4,a5⟩
  .exact .inl a1
  .exact .inr ⟨b,a1,a2,XV,XV,(f5 b a3 (by rintro rfl;rw[gl]at a5;unfold ai at a5;cases a5)).trans a5⟩
 have hone:Sl c9 h5 (X9 hA.nx 1 1) [x]:=Sl.new (L:=[x]) (e:=134) (op:=false) XV gx5 _;refine eN (enc:=c9) (a:=⟨0,.nil,h5.lo⟩) (L:=D) (M:=[x]) eW rG X0 X0 aks hone ⟨Nat.zero_le _,rfl,λb hb=>absurd hb (Nat.not_lt_zero _)⟩ (by simp;omega) XV _ ?_;intro v6 B7 Qz _ _ n6 l6 s6;have go6:=(s6 o XV (by rw[go5];exact br)).trans go5;have gl6:=(s6 l XV (by rw[gl5];intro e;unfold ai at e;cases e)).trans gl5;obtain⟨xv,cv,ev6,_⟩:=(show Sl c9 B7 v6 _ from Qz.sl)
 rw[ev6];simp(disch:=try exact QQ)only[Wz,go6];rw[<-ev6];have gl7:(B7.bl.bx o (ai [v6] 130 false)).get l=some (mJ .busy iO):=(T.au _ _ (λe=>hne e.symm)).trans gl6;rw[A4,U2 gl7 (by show B7.lo<=l;omega)];simp(disch:=try exact QQ)only[Wz];have SO:=eG.put Qz (c:=o) (by rw[go6];exact br) (ai [v6] 130 false);have ho8:=eG.put SO (c:=l) (by rw[gl7];intro hc;unfold ai at hc;cases hc) (mJ .ready iO);have ff:∀c,c<h.nx->c≠o->c≠l->(∀vs,h.bl.get c≠some (ai vs 134 true))->((B7.bl.bx o (ai [v6] 130 false)).bx l (mJ .ready iO)).get c=h.bl.get c:=λc hc h1 h2 h3=>
  (T.au _ _ (λe=>h2 e.symm)).trans ((T.au _ _ (λe=>h1 e.symm)).trans ((s6 c XV (by rw[f5 c hc h2];exact h3 _)).trans (f5 c hc h2)))
 refine hk _ ⟨B7.nx,(B7.bl.bx o (ai [v6] 130 false)).bx l (mJ .ready iO),B7.lo⟩ v6 ?_ ?_ ?_ ⟨?_,by show B7.lo<=B7.nx;omega,by have:=I.hq;show q<B7.nx;omega,?_,⟨by show l<B7.nx;omega,by show B7.lo<=l;omega⟩,T.an _ _ _,⟨by show o<B7.nx;omega,by show B7.lo<=o;omega⟩,(T.au _ _ hne).trans (T.an _ _ _),?_,by have:=I.nx;show h0.nx<=B7.nx;omega,by have:=I.l0;show B7.lo=h0.lo;omega,?_⟩
 .simp (disch:=decide) only [cE,bG]
 .simp (disch:=decide) only [cE,bG]
 .simp (disch:=decide) only [cE,bG]
 .obtain⟨tv,gk,tt⟩:=I.c.cell;have k1:=I.c.lt;have k2:=I.c.lo;refine⟨by show kb<B7.nx;omega,by show B7.lo<=kb;omega,tv,(ff kb k1 (by rintro rfl;rw[gk]at go;exact bz X0 go) (by rintro rfl;rw[gk]at gl;unfold ai at gl;cases gl) (λvs=>by rw[gk];exact br)).trans gk,tt.keep (by show h.nx<=B7.nx;omega) (by show B7.lo=h.lo;omega) λb vs hb j_=>ff b hb (by rintro rfl;rw[j_]at go;exact br go.symm) (by rintro rfl;rw[j_]at gl;unfold ai at gl;cases gl) (λws=>by rw[j_];exact bz X0)⟩
 .exact(ff q I.hq (by rintro rfl;have:=I.gq;rw[this]at go;exact bz X0 go) (by rintro rfl;have:=I.gq;rw[this]at gl;unfold ai at gl;cases gl) (λvs=>by rw[I.gq];exact br)).trans I.gq
 .rcases ho8 with a1|⟨b,a1,a2,a3,a4,a5⟩
  .exact .inl a1
  .exact .inr ⟨b,a1,a2,a3,a4,a5⟩
 .intro b hb hn hv hw;have e1:=I.fr b hb hn hv hw;have:=I.nx;exact(ff b XV XV XV (λvs=>by rw[e1];exact hw vs)).trans e1
theorem DI.aa_{kb l o q:Nat}{now:Int}{iO:T Value}{h0 h h2:ah}{Z Z' D:List TM}{v:Value}(I:DI kb l o q now iO h0 h Z v D)(c2:bQ h2 kb now Z')(f:pO kb h h2):DI kb l o q now iO h0 h2 Z' v D:=by
 obtain⟨tv,gk,_⟩:=I.c.cell;have n:=f.nx;have e:=f.lo;have h1:=I.lo;have SN:=I.hq;have h3:=I.hl;have h4:=I.ho;have h5:=I.nx;have h6:=I.l0;have kl:l≠kb:=by rintro rfl;have:=I.gl;rw[gk]at this;unfold ai at this;cases this
 refine⟨c2,XV,XV,(f.get q SN (by rintro rfl;have:=I.gq;rw[gk]at this;exact bz X0 this) (λvs=>by rw[I.gq];exact br)).trans I.gq,XV,(f.get l h3.1 kl (λvs=>by rw[I.gl];intro e;unfold ai at e;cases e)).trans I.gl,XV,(f.get o h4.1 (by rintro rfl;have:=I.go;rw[gk]at this;exact bz X0 this) (λvs=>by rw[I.go];exact br)).trans I.go,?_,XV,XV,λb hb hn hv hw=>?_⟩
 .rcases I.own with a1|⟨b,a1,a2,a3,a4,a5⟩
  .exact .inl a1
  .exact .inr ⟨b,a1,a2,XV,XV,(f.get b a3 (by rintro rfl;rw[gk]at a5;exact br a5) (λvs=>by rw[a5];exact bz X0)).trans a5⟩
 .have e1:=I.fr b hb hn hv hw;exact(f.get b XV hn (λvs=>by rw[e1];exact hv vs)).trans e1
def dLB:Code:=.seq (.seq d0 (.cond (.tmp 24) .skip (.exit 0))) (.block 1 (.seq d1 (.seq d2 (.cond (.tmp 41) .ret .skip))))
theorem Sd{kb l o q:Nat}{now:Int}{iO:T Value}{h0:ah}(hl0:h0.nx<=l)(S9:h0.nx<=o)(h6:cZ iO 6=av o)(W:List TM)(Y:Ex->T Value->ah->Prop)(n:Nat)(hk:∀cN h' v' Z' D',DI kb l o q now iO h0 h' Z' v' D'->(D'++Z').Perm W->Y (.exit 0) cN h'):∀(d:Nat)(Z:List TM)(h:ah)(v:Value)(D:List TM)(tm:T Value),Z.length=d->D.length+d<=10000->DI kb l o q now iO h0 h Z v D->cZ tm 0=.func (.yield l) #[] #[]->cZ tm 1=X3 q->(D++Z).Perm W->RP (n+d+60) (.loop dLB) tm h Y:=by
 intro d
 induction d with
 |zero=>
  intro Z h v D tm hd hD I t0 t1 hp;have hZ:Z=[]:=List.eq_nil_of_length_eq_zero hd;rw[show n+0+60=n+59+1 from rfl,Sb];unfold dLB;simp(disch:=try exact QQ)only[Wz,sQ,afs];refine WY tm I.c t1 I.gq _ ?_;intro VI b a0 a1 a24 hb;cases b with
  |true=>exact absurd hZ (hb rfl)
  |false=>
   simp(disch:=try exact QQ)only[Wz,nR,sQ,vP,a24,A5,Sc,M6];exact hk _ h v Z D I hp
 |succ d ih=>
  intro Z h v D tm hd hD I t0 t1 hp;rw[show n+(d+1)+60=n+d+60+1 from by omega,Sb];unfold dLB;simp(disch:=try exact QQ)only[Wz,sQ,afs];refine WY tm I.c t1 I.gq _ ?_;intro VI b a0 a1 a24 hb;cases b with
  |false=>
   simp(disch:=try exact QQ)only[Wz,nR,sQ,vP,a24,A5,Sc,M6];exact hk _ h v Z D I hp
  |true=>
   simp(disch:=try exact QQ)only[Wz,nR,sQ,vP,a24,Uh,J1,uN,akp];refine afy VI I.c I.lo XV (hb rfl) (a1.trans t1) I.hq I.gq _ ?_;intro VJ h2 p x Z' b0 b1 b4 b3 p1 p2 gp c2 hp2 f2;have I2:=I.aa_ c2 f2;have AT:=hp2.length_eq;rw[List.length_cons]at AT;simp(disch:=try exact QQ)only[Wz,nR,sQ,akq];refine afz (n:=n+d+49) I2 hl0 S9 VJ b4 (b0.trans (a0.trans t0)) b3 gp h6 XV _ ?_;intro tm3 h3 v3 c41 e1 e0 I3;simp(disch:=try exact QQ)only[Wz,nR,vP,c41,A5,J1,A4];refine ih Z' h3 v3 (D++[x]) tm3 XV (by simp;omega) I3 (e0.trans (b0.trans (a0.trans t0))) (e1.trans (b1.trans (a1.trans t1))) ?_;refine List.Perm.trans ?_ hp;rw[List.append_assoc];exact List.Perm.append_left D hp2
section
variable {h:ah}{kb:Nat}{now:Int}{Z:List TM}
theorem NF{q:Nat}(tm:T Value)(h6:cZ tm 6=av q)(c:bQ h kb now Z)(hlo:h.lo<=h.nx)(hlen:Z.length<=1000)(hq:q+1<h.nx/\h.lo<=q)(gq:h.bl.get q=some (ai [.slice none 0 0] 130 false))(gq1:h.bl.get (q+1)=some (ai [X3 kb] 122 false))(Y:KQ)(hk:∀h' v' Z' D',bQ h' kb now Z'->(D'++Z').Perm Z->Sl c9 h' v' D'/\mQ 134 h' v'->h.nx<=h'.nx->h'.lo=h.lo->(∀b,b<q->b≠kb->(∀vs,h.bl.get b≠some (ai vs 258 true))->(∀vs,h.bl.get b≠some (ai vs 134 true))->h'.bl.get b=h.bl.get b)->Y (.tuple ⟨[v',X1 0]⟩) h'):fe False pP prog (RP 1192) [34] p8 (.block 2 p9) tm h (kQ 1 (sq (RP 1195) (p10.seq .ret) (wN False [.tmp 4,.tmp 5] Y))) (.func (.func fD) ⟨[]⟩ ⟨[.pointer (some ⟨q+1,0,none⟩)]⟩):=by
 rw[rfP,afu,afj,Q0];obtain⟨hL,afB,B8,gl,aqc,aku⟩:=oR h (bT.loop .ready none tm [34] p8 (Code.block 2 p9));rw[<-afB];clear afB;have cl:=c.le B8;have agB:=B8.nx;have agC:=B8.lo;have gq:=(B8.get _ XV).trans gq;have gq1:=(B8.get _ XV).trans gq1;simp(disch:=try exact QQ)only[Wz,uN];have I:DI kb h.nx q (q+1) now tm ⟨q,hL.bl,h.lo⟩ hL Z (.slice none 0 0) []:=
  ⟨cl,XV,XV,gq1,XV,gl,XV,gq,.inl ⟨rfl,.inl rfl⟩,by show q<=_;omega,aku,λ_ _ _ _ _=>rfl⟩
 rw[show(1191:Nat)=(1131-Z.length)+Z.length+60 from by omega];refine Sd (show q<=h.nx by omega) (show q<=q by omega) h6 Z _ _ ?_ Z.length Z hL _ [] _ rfl (by simp;omega) I rfl rfl (.refl _);intro tm3 h3 v3 Z' D' I3 hp;simp(disch:=try exact QQ)only[Wz,M6,LR,MY];obtain⟨ob,ea⟩:=NB (tm:=tm) (v:=.tuple ⟨[]⟩) (Y:=kQ 1 (sq (RP 1195) (p10.seq .ret) (wN False [.tmp 4,.tmp 5] Y))) I3.gl I3.hl.2;rw[ea];have gk:=I3.c.cell;have gq4:(h3.bl.bx h.nx ob).get q=some (ai [v3] 130 false):=(T.au _ _ XV).trans I3.go;simp(disch:=try exact QQ)only[Wz,A4,nR,sQ,afr,ake,↓T.cQ,dY,bG,cE,h6,gq4,afq,Ug,afv];have hl3:=I3.hl;have ln:=I3.nx;have ll:h3.lo=h.lo:=I3.l0;have gl3:=I3.gl;obtain⟨tv3,gk3,ht3⟩:=gk;have nk:kb≠h.nx:=by rintro rfl;rw[gl3]at gk3;unfold ai at gk3;cases gk3
 refine hk _ v3 Z' D' ⟨I3.c.lt,I3.c.lo,tv3,(T.au _ _ (λe=>nk e.symm)).trans gk3,ht3.keep (Nat.le_refl _) rfl λb vs hb j_=>T.au _ _ (by rintro rfl;rw[gl3]at j_;unfold ai at j_;cases j_)⟩ hp ?_ (by show h.nx<=h3.nx;omega) ll ?_
 .have ow:=eG.put I3.own (c:=h.nx) (by rw[gl3];intro hc;unfold ai at hc;cases hc) ob;exact⟨ow.sl,mQ.own ow⟩
 .intro b hb hn hv hw;have e:=B8.get b XV;exact(T.au _ _ XV).trans ((I3.fr b hb hn (λvs=>by show hL.bl.get b≠_;rw[e];exact hv vs) (λvs=>by show hL.bl.get b≠_;rw[e];exact hw vs)).trans e)
theorem Se(c:bQ h kb now Z)(hlo:h.lo<=h.nx)(hlen:Z.length<=1000)(uL:0<=now/\now<=1000000)(x:Int)(hx:0<=x/\x<=1000)(Y:KQ)(hk:∀h' v' Z' D',bQ h' kb (now+x) Z'->(D'++Z').Perm Z->Sl c9 h' v' D'/\mQ 134 h' v'->h.nx<=h'.nx->h'.lo=h.lo->(∀b,b<h.nx->b≠kb->(∀vs,h.bl.get b≠some (ai vs 258 true))->(∀vs,h.bl.get b≠some (ai vs 134 true))->h'.bl.get b=h.bl.get b)->Y (.tuple ⟨[v',X1 0]⟩) h'):aj prog 59 [X3 kb,X1 x] h Y:=by
 obtain⟨tv,gk,ht⟩:=c.cell;have hkb:=c.lt;have hlb:=c.lo;refine vJ mixed (skip:=WV) 1200 ?_;rw[aft,afi,Q0];simp(disch:=try exact QQ)only[Wz,sQ,akh,rp0,↓T.cQ,dY,bG,cE,nR,uN,aki,rp1,uK,vP,A5,akj,rp3,b_ (show(0:Int)<=x by omega)];simp(disch:=try exact QQ)only[Wz,DC,bG,cE,WW,aa9,dY,↓T.cQ,b_ (show(x:Int)<=1000 by omega),a_ (show ¬(1000:Int)<x by omega),nR,A4,vP,A5,J1,sQ,akk];rw[rp5];simp(disch:=try exact QQ)only[Wz,dY,bG,cE,Ag,↓T.cQ,Sa,aL,gk,afw (show x<=9223372036854775807-now by omega),nR,sQ,akl,rp6,akm,rp7];apply X2;rw[Ya];simp(disch:=try exact QQ)only[Wz];simp(disch:=try exact QQ)only[Wz,uN,akg,bG,cE,ox];obtain⟨hB,eB⟩:∃hB:ah,hB=⟨h.nx+1+1,((h.bl.bx kb (ai [X1 (now+x),tv] 200 false)).bx h.nx (ai [.slice none 0 0] 130 false)).bx (h.nx+1) (ai [X3 kb] 122 false),h.lo⟩:=⟨_,rfl⟩
 rw[<-eB];have nB:hB.nx=h.nx+1+1:=by rw[eB]
 have lB:hB.lo=h.lo:=by rw[eB]
 have gq:hB.bl.get h.nx=some (ai [.slice none 0 0] 130 false):=by rw[eB];exact(T.au _ _ XV).trans (T.an _ _ _)
 have gq1:hB.bl.get (h.nx+1)=some (ai [X3 kb] 122 false):=by rw[eB];exact T.an _ _ _
 have gkB:hB.bl.get kb=some (ai [X1 (now+x),tv] 200 false):=by rw[eB];exact(T.au _ _ XV).trans ((T.au _ _ XV).trans (T.an _ _ _))
 have fB:∀c,c<h.nx->c≠kb->hB.bl.get c=h.bl.get c:=λc hc hn=>by rw[eB];exact(T.au _ _ XV).trans ((T.au _ _ XV).trans (T.au _ _ (λe=>hn e.symm)))
 clear eB;have cB:bQ hB kb (now+x) Z:=⟨XV,XV,tv,gkB,ht.keep XV lB λb vs hb j_=>fB b hb (by rintro rfl;rw[gk]at j_;exact br j_)⟩
 refine NF (q:=h.nx) _ ?_ cB XV hlen XV gq gq1 Y ?_
 .simp (disch:=decide) only [cE,bG];rfl
 intro h' v' Z' D' c' hp sl n' l' f';refine hk h' v' Z' D' c' hp sl XV XV λb hb hn hv hw=>?_;have e:=fB b hb hn;exact(f' b hb hn (λvs=>by rw[e];exact hv vs) (λvs=>by rw[e];exact hw vs)).trans e
end
section
variable {h h':ah}{A:WA}{a:TA}{N N' B B':Nat}{d d':TD}{R R':RD}{Z Z':List TM}
structure jO(h:ah)(bp B:Nat)(cs:List (Option CR))(v:Value)(L:List Int)(o:Option Nat):Prop where
 t:Vai.ee aU 1 3 B h v L o
 n:∀b,o=some b->¬FB h bp b/\∀c,some c∈cs->c.wb≠some b
theorem jO.nil{bp:Nat}{cs:List (Option CR)}:jO h bp 0 cs (.slice none 0 0) [] none:=⟨Vai.ee.nil,λb e=>nomatch e⟩
theorem jO.kg(g:WG h A a N B d R Z){cs':List (Option CR)}{v:Value}{L:List Int}{o:Option Nat}{C C':Nat}(t:jO h a.bp C R.cs v L o)(hC:C<=C')(k:KG h h')(hcs:∀c',some c'∈cs'->∃c,some c∈R.cs/\c'.wb=c.wb):jO h' a.bp C' cs' v L o:=by
 obtain⟨fs,hp,_⟩:=g.s.t.is.di.fr.cell;have Ao:=g.s.t.is.di.fr.lt;have ep:=k.ty _ _ _ _ Ao hp X0 X0;refine⟨(t.t.up hC).keep k.r.nx k.r.lo λb hb=>?_,λb hb=>⟨λf=>(t.n b hb).1 ((FB.congr ep).1 f),λc' sk e=>?_⟩⟩
 .have t1:=t.t;rw[hb]at t1;obtain⟨h1,vs,h2⟩:=ee.blk t1;exact k.ty b _ _ _ h1 h2 X0 X0
 .obtain⟨c,hc,e'⟩:=hcs c' sk;exact(t.n b hb).2 c hc (e'.symm.trans e)
theorem WG.afC(g:WG h A a N B d R Z){v x:Value}{L M:List Int}{o:Option Nat}{C:Nat}(t:jO h a.bp C R.cs v L o)(hx:Sl aU h x M)(hC:C+M.length<=1000000000)(Y:KQ)(hk:∀v' L' o' h',jO h' a.bp (C+M.length) R.cs v' L' o'->WG h' A a N B d R Z->KR h h'->(∀b vs ty op,b<h.nx->h.bl.get b=some (ai vs ty op)->ty≠3->h'.bl.get b=h.bl.get b)->(∀b,b<h.nx->o≠some b->h'.bl.get b=h.bl.get b)->(o'=o\/∃b,o'=some b/\h.nx<=b)->Y v' h'):bt False And 3 1 [X1 0] false v x h Y:=by
 obtain⟨fs,hp,_⟩:=g.s.t.is.di.fr.cell;have Ao:=g.s.t.is.di.fr.lt;refine Vai.ee.append aZ dF X0 X0 t.t hx hC g.s.lo _ ?_;intro v' o' h2 t2 n2 l2 f2 o2;have own:∀b,o=some b->b<h.nx/\(∃vs,h.bl.get b=some (ai vs 3 true)):=λb hb=>by
  have t1:=t.t;rw[hb]at t1;exact ee.blk t1
 have keep:∀b vs ty op,b<h.nx->h.bl.get b=some (ai vs ty op)->¬(ty=3/\op=true/\¬FB h a.bp b)->h2.bl.get b=h.bl.get b:=λb vs ty op hb j_ hne=>f2 b hb λe=>by
  obtain⟨_,ws,k1⟩:=own b e;rw[j_]at k1;obtain⟨rfl,rfl⟩:=eT k1;exact hne ⟨rfl,rfl,(t.n b e).1⟩
 have Aa:∀b es cl,b<h.nx->h.bl.get b=some (.map es cl)->h2.bl.get b=h.bl.get b:=λb es cl hb j_=>f2 b hb λe=>by
  obtain⟨_,ws,k1⟩:=own b e;rw[j_]at k1;exact bL k1
 have ep:=keep _ _ _ _ Ao hp (by rintro⟨e,_⟩;revert e;decide);have hfb:∀b,FB h2 a.bp b->FB h a.bp b:=λb f=>(FB.congr ep).1 f;have s2:WS h2 A a N d R:=by
  refine⟨iZ.only g.s.t n2 l2 (λb vs ty op hb _ hf j_=>keep b vs ty op hb j_ λe=>e.2.2 (hf e.1)) (Aa _ _ _ g.s.t.is.Ax g.s.t.is.lz) (λb hb=>Aa _ _ _ (g.s.t.is.bk b hb).r7 (g.s.t.is.bk b hb).gf),g.s.r.keep n2 l2 (λb vs ty op hb hr j_=>keep b vs ty op hb j_ ?_) (Aa _ _ _ g.s.r.r7.1 g.s.r.gm),g.s.mw,g.s.mm,by have:=g.s.lo;omega⟩;rintro⟨rfl,rfl,_⟩;simp[rE]at hr
 have g2:WG h2 A a N B d R Z:=by
  refine⟨s2,λc hc=>(g.k c hc).keep (Nat.le_refl _) rfl rfl rfl n2 l2 (λb vs hb sN _ _=>f2 b sN λe=>(t.n b e).2 c hc hb) (λb _ f=>hfb b f),g.kd,g.t.keep n2 l2 λb vs hb j_=>keep b _ _ _ hb j_ (by rintro⟨e,_⟩;revert e;decide)⟩
 refine hk v' _ o' h2 ⟨t2,λb hb=>?_⟩ g2 ⟨n2,l2,λb hb k1 _=>f2 b hb λe=>by
  obtain⟨_,ws,k⟩:=own b e;exact k1 _ _ _ k⟩ (λb vs ty op hb j_ hne=>keep b vs ty op hb j_ λe=>hne e.1) f2 (o2.imp (λe=>e) λ⟨b,e,k1,_⟩=>⟨b,e,k1⟩)
 rcases o2 with e|⟨b',e,k1,k2⟩
 .have hb':o=some b:=by rw[<-e];exact hb
  exact⟨λf=>(t.n b hb').1 (hfb b f),(t.n b hb').2⟩
 .rw[hb]at e;cases e;refine⟨λf=>?_,λc hc e=>?_⟩
  .have:=FB.lt g.s.t.is.di.fr (hfb b f);omega
  .have tc:=(g.k c hc).t;rw[e]at tc;have:=(ee.blk tc).1;omega
end
theorem ldM{h:ah}{v:Value}{L:List TM}(hs:Sl c9 h v L)(i:Nat){p:TM}(hp:L[i]? = some p):∃c o,c<h.nx/\(∀(β:Type)(fl:β)(h':ah)(Y:XW β),az fl 3 v (X1 (i:Int)) h' Y=Y (.pointer (some ⟨c,o,none⟩)) h')/\
   ∀(β:Type)(fl:β)(Y:List Value->β),Aq fl (h.bl.get c) o 3 Y=Y (c9 p):=by
 obtain⟨c,o,h1,h2,h3,_⟩:=hs.ld eW i hp;exact⟨c,o,h1,h2,h3⟩
section
variable {h h':ah}{A:WA}{a:TA}{N N' B B':Nat}{d d':TD}{R R':RD}{Z Z':List TM}
theorem U3(g:WG h A a N B d R Z)(I:Inv R.cr.length d.Ts R.cs Z)(hlen:Z.length<=1000)(uL:0<=R.now/\R.now<=1000000)(n:Int)(hn:0<=n/\n<=1000)(Y:KQ)(hk:∀h' R' Z' v,WG h' A a N B d R' Z'->Inv R'.cr.length d.Ts R'.cs Z'->R'.cr=R.cr->R'.now=R.now+n->R'.begun=R.begun->Z'.length<=Z.length->KR h h'->Y v h'):aj prog 12 [X3 A.wb,X1 n] h Y:=by
 have gw:=g.s.r.gw;apply X2;rw[ac9];simp(disch:=try exact QQ)only[Wz,mI,Lo,aL,gw];refine Se g.clock g.s.lo hlen uL n hn _ ?_;intro h1 v1 Z1 D c1 hp sl n1 l1 f1;obtain⟨tv1,g1,k1⟩:=g.clk ⟨n1,l1,f1⟩ c1;have hlp:=hp.length_eq;rw[List.length_append]at hlp;have I1:Inv R.cr.length d.Ts R.cs Z1:=⟨I.c,I.wt,λt ht=>I.tm t (hp.mem_iff.1 (List.mem_append.2 (.inr ht))),by
  have:=I.ko.perm hp;exact(List.pairwise_append.1 this).2.1⟩
 obtain⟨vx,vc,ev,_⟩:=sl.1;have jP:∀(β:Type)(fl:β)(h':ah)(Y:XW β),bh fl v1 h' Y=Y (X1 (D.length:Int)) h':=λβ fl h' Y=>by rw[ev];exact bX _ _ _ _ _
 simp(disch:=try exact QQ)only[Wz,jP];refine⟨λm l h2=>∃j:Nat,aa l 35=X1 (j:Int)/\m=D.length-j/\j<=D.length/\∃R2 L o,WG h2 A a N B d R2 Z1/\Inv R2.cr.length d.Ts R2.cs Z1/\R2.cr=R.cr/\R2.now=R.now+n/\R2.begun=R.begun/\jO h2 a.bp j R2.cs (aa l 33) L o/\(Sl c9 h2 v1 D/\mQ 134 h2 v1)/\KR h h2,
  ⟨_,0,rfl,rfl,XV,_,[],none,g1,I1,rfl,rfl,rfl,jO.nil,sl,k1⟩,?_⟩
 rintro m l h2 ⟨j,s1,rfl,hj,R2,L,o,g2,I2,e1,e2,e3,ot,sl2,k2⟩;by_cases hlt:j<D.length
 .obtain⟨p,hp'⟩:∃p,D[j]? = some p:=⟨_,List.getElem?_eq_getElem hlt⟩
  obtain⟨b4,o4,hb4,B0,BS⟩:=ldM sl2.1 j hp';have CA:=g2.s.lo;simp(disch:=try exact QQ)only[Wz,CY,s1,dw (show(j:Int)<(D.length:Int)by omega)];refine⟨λl' h3=>∃R2 L o,WG h3 A a N B d R2 Z1/\Inv R2.cr.length d.Ts R2.cs Z1/\R2.cr=R.cr/\R2.now=R.now+n/\R2.begun=R.begun/\jO h3 a.bp (j+1) R2.cs (aa l' 32) L o/\(Sl c9 h3 v1 D/\mQ 134 h3 v1)/\KR h h3,?_,?_⟩
  .simp(disch:=try exact QQ)only[Wz,Ln,s1,B0,BS,c9];have Ud:Le h2 ⟨h2.nx+1,h2.bl.bx h2.nx (ai [X1 p.at',X1 p.who,X1 p.mark] 134 false),h2.lo⟩:=(Le.refl h2).new _;obtain⟨hB,eB⟩:∃hB:ah,hB=⟨h2.nx+1,h2.bl.bx h2.nx (ai [X1 p.at',X1 p.who,X1 p.mark] 134 false),h2.lo⟩:=⟨_,rfl⟩
   rw[<-eB]at Ud ⊢;have gB:hB.bl.get h2.nx=some (ai [X1 p.at',X1 p.who,X1 p.mark] 134 false):=by rw[eB];exact T.an _ _ _
   have nB:hB.nx=h2.nx+1:=by rw[eB]
   clear eB;have gg:=g2.le Ud;have otB:=jO.kg g2 ot (Nat.le_refl j) (KG.of_le Ud) (λc' sk=>⟨c',sk,rfl⟩);have slB:Sl c9 hB v1 D/\mQ 134 hB v1:=⟨sl2.1.le Ud,sl2.2.le Ud⟩
   have kB:=k2.trans (KR.of_le Ud);have JV:=gg.s.r.gw;refine Af gg p.who _ ?_;intro b hb;cases b with
   |false=>
    simp(disch:=try exact QQ)only[Wz];exact⟨R2,L,o,gg,I2,e1,e2,e3,jO.kg gg otB (Nat.le_succ j) (KG.refl _) (λc' sk=>⟨c',sk,rfl⟩),slB,kB⟩
   |true=>
    obtain⟨i,c,ew,hi,_,_⟩:=hb rfl;have Og:=gg.s.r.gc;have hil:=gg.lt hi;have r:(R2.cs.map λo=>dS (o.map (·.ca)))[i]? = some (X3 c.ca):=lJ gg.s hi;have hlc:(R2.cs.map λo=>dS (o.map (·.ca))).length=A.n:=by rw[List.length_map];exact gg.s.r.lc
    obtain⟨gc,c1,c2⟩:=bS gg.s hi;have gc':=gc;unfold bJ at gc';simp(disch:=try exact QQ)only[Wz,aL,JV,gB,ew,aX,Og,r,Nat.mul_one,gc'];by_cases hno:c.no=p.mark
    ·simp(disch:=try exact QQ)only[Wz,bq hno,Lm,gB,ew];refine DB gg hi 2 _ ?_;intro h5 bits' k' eb g5 k5 _;have gB5:=(k5.ty _ _ _ _ (show h2.nx<hB.nx by omega) gB X0 X0).trans gB;have akx:=g5.s.lo;simp(disch:=try exact QQ)only[Wz,gB5,ew];have mR:Le h5 ⟨h5.nx+1,h5.bl.bx h5.nx (ai [X1 (i:Int)] 3 false),h5.lo⟩:=(Le.refl h5).new _;have g6:=g5.le mR;have I6:Inv R2.cr.length d.Ts (R2.cs.set i (some { c with cs:=k' })) Z1:=I2.Jv hi k';have ot6:=jO.kg (cs':=R2.cs.set i (some { c with cs:=k' })) gg otB (Nat.le_refl j) (k5.trans (KG.of_le mR)) (λc' sk=>by
      rcases mH sk with e|⟨q,_,e⟩
      .cases e;exact⟨c,List.mem_of_getElem? hi,rfl⟩
      .exact⟨c',List.mem_of_getElem? e,rfl⟩)
     have sl6:=Sl.kg slB.1 slB.2 (k5.trans (KG.of_le mR)) X0 X0;have hx6:Sl aU ⟨h5.nx+1,h5.bl.bx h5.nx (ai [X1 (i:Int)] 3 false),h5.lo⟩ (X9 h5.nx 1 1) [(i:Int)]:=by
      refine⟨_,_,rfl,λ_=>⟨h5.nx,0,rfl,Nat.lt_succ_self _,?_⟩⟩;rw[show(h5.bl.bx h5.nx (ai [X1 (i:Int)] 3 false)).get h5.nx=_ from T.an _ _ _];exact Has.all
     refine WG.afC g6 ot6 hx6 (by show j+1<=1000000000;omega) _ ?_;intro v7 L7 o7 h7 ot7 g7 k7 f7 _ _;refine⟨_,L7,o7,g7,I6,e1,e2,e3,ot7,Sl.vK sl6.1 sl6.2 k7.nx (λc vs op hc hg=>f7 c vs _ op hc hg X0),((kB.trans k5.r).trans (KR.of_le mR)).trans k7⟩
    .simp(disch:=try exact QQ)only[Wz,a_ hno];exact⟨R2,L,o,gg,I2,e1,e2,e3,jO.kg gg otB (Nat.le_succ j) (KG.refl _) (λc' sk=>⟨c',sk,rfl⟩),slB,kB⟩
  .rintro l' h3 ⟨R3,L3,o3,g3,I3,e1,e2,e3,ot3,sl3,k3⟩;exact⟨_,XV,j+1,rfl,rfl,XV,R3,L3,o3,g3,I3,e1,e2,e3,ot3,sl3,k3⟩
 .simp(disch:=try exact QQ)only[Wz,CY,s1,b_ (show(D.length:Int)<=(j:Int)by omega)];exact hk h2 R2 Z1 _ g2 I2 e1 e2 e3 XV k2
end
def OfW:Prop:=∀(h:ah)(v va:Value)(K:List HE) (L:List (Int × Int)) (Y:KQ),Sl oM h v K->(∀k∈K,QV h k.q k.Q/\VQ k.Q k.w/\k.Q.length<=128)->K.length<=1024->Sl bV h va L->je 8 va va=true->L.length<=200000->h.lo<=h.nx->
 (∀v' V h',eG aU h 3 h' v' V->V.length<=200000->Le h h'->Y v' h')->aj prog 63 [v,va] h Y
section
variable {h h':ah}{A:WA}{a:TA}{N N' B B':Nat}{d d':TD}{R R':RD}{Z Z':List TM}
theorem U4(g:WG h A a N B d R Z)(Y:KQ)(hk:∀h' v0 K L l,zS h' d.Ts v0 K->K.length<=1024->Sl bV h' (aa l 19) L->je 8 (aa l 19) (aa l 19)=true->L.length<=131072->Le h h'->C0 v0 l (X3 A.wb) h' Y):aj prog 13 [X3 A.wb] h Y:=by
 have gw:=g.s.r.gw;apply X2;rw[ada];simp(disch:=try exact QQ)only[Wz,mI,Lt,aL,gw];refine xI g.s.t g.s.lo _ ?_;intro v0 h0 K t0 Ay;have n0:=Ay.nx;have l0:=Ay.lo;have hlo:=g.s.lo;obtain⟨x0,c0,ev0,_⟩:=(show Sl oM h0 v0 K from t0.sl)
 have zT:∀(β:Type)(fl:β)(h':ah)(Y:XW β),bh fl v0 h' Y=Y (X1 (K.length:Int)) h':=λβ fl h' Y=>by rw[ev0];exact bX _ _ _ _ _
 have G0:K.length<=1024:=by
  have h1:=t0.perm.length_eq;rw[List.length_map]at h1;rw[h1];have h2:=g.s.t.is.s1.2;have h3:=g.s.t.is.hd;have:∀L:List TB,(∀b∈L,b.M.length<=64)->(L.flatMap λb=>b.M.map dR).length<=64*L.length:=by
   intro L
   induction L with
   |nil=>intro _;simp
   |cons b L ih=>
    intro hL;rw[List.flatMap_cons,List.length_append,List.length_map,List.length_cons];have h1:=ih λx hx=>hL x (.tail _ hx);have h2:=hL b (.head _);omega
  have:=this d.Ts λb hb=>by have:=g.s.t.len b hb;omega
  omega
 simp(disch:=try exact QQ)only[Wz,zT];refine⟨λm l h1=>∃(i:Nat) (L:List (Int × Int)),aa l 23=X1 (i:Int)/\m=K.length-i/\i<=K.length/\eG bV h0 138 h1 (aa l 19) L/\L.length<=128*i/\Le h0 h1,
  ⟨_,0,[],rfl,rfl,XV,.inl ⟨rfl,.inl rfl⟩,by simp,Le.refl _⟩,?_⟩
 rintro m l h1 ⟨i,L,s1,rfl,hi,ho,hL,bF⟩;have n1:=bF.nx;have l1:=bF.lo;by_cases hlt:i<K.length
 .obtain⟨e,he⟩:∃e,K[i]? = some e:=⟨_,List.getElem?_eq_getElem hlt⟩
  have SR:=List.mem_of_getElem? he;obtain⟨⟨b',hb',e',he',se⟩,qv⟩:=t0.each e SR;have hQl:e.Q.length<=128:=by rw[se.2.2.2];exact((g.s.t.is.bk b' hb').good e' he').small
  obtain⟨b0,o0,hb0,hx0,Mw⟩:=Rx t0.sl i he (zK qv.1);have R1:=Mw h1 bF;have WI:=qv.le bF;obtain⟨qx,qc,eq,_⟩:=(show Sl bA h1 e.q e.Q from WI.1)
  rw[eq]at R1;have H_:∀(β:Type)(fl:β)(h':ah)(Y:XW β),bh fl (.slice qx e.Q.length qc) h' Y=Y (X1 (e.Q.length:Int)) h':=λβ fl h' Y=>bX _ _ _ _ _;simp(disch:=try exact QQ)only[Wz,s1,dw (show(i:Int)<(K.length:Int)by omega),Ls,hx0,R1];refine⟨λm2 l2 h2=>∃(j:Nat) (L:List (Int × Int)),aa l2 14=X1 (j:Int)/\m2=e.Q.length-j/\j<=e.Q.length/\eG bV h0 138 h2 (aa l2 12) L/\L.length<=128*i+j/\Le h0 h2/\QV h2 e.q e.Q,
   ⟨_,0,L,rfl,rfl,XV,?_,XV,?_,?_⟩,?_⟩
  .exact ho.le ((Le.refl h1).new _)
  .exact bF.new _
  .exact WI.le ((Le.refl h1).new _)
  .rintro m2 l2 h2 ⟨j,L2,s2,rfl,hj,uS,hL2,bK,qv2⟩;have n2:=bK.nx;have l2':=bK.lo;have aqm:h2.lo<=h2.nx:=by omega
   by_cases Ia:j<e.Q.length
   .obtain⟨p,hp⟩:∃p,e.Q[j]? = some p:=⟨_,List.getElem?_eq_getElem Ia⟩
    obtain⟨b4,o4,hb4,B0,BS,_⟩:=Jn qv2.1 j hp;rw[eq]at B0;simp(disch:=try exact QQ)only[Wz,s2,dw (show(j:Int)<(e.Q.length:Int)by omega),Lp,B0,BS,bA];have d_:Le h2 ⟨h2.nx+1+1,(h2.bl.bx h2.nx (ai [X1 p.id,X1 p.x,X1 p.m,X1 p.w,X1 p.s] 57 false)).bx (h2.nx+1) (ai [X1 p.x,X1 p.x] 138 false),h2.lo⟩:=((Le.refl h2).new _).new _;refine eN (enc:=bV) (a:=h0) (L:=L2) (M:=[(p.x,p.x)]) (λ_=>rfl) (λ_=>rfl) X0 X0 (uS.le d_) (Sl.new (L:=[(p.x,p.x)]) (e:=138) (op:=false) (Nat.lt_succ_self _) (T.an _ _ _) _) (bK.trans d_) (by simp;omega) (by show h2.lo<=h2.nx+1+1;omega) _ ?_;intro v5 h5 A0 lI _ n5 l5 uE;refine⟨_,XV,j+1,L2++[(p.x,p.x)],rfl,rfl,XV,A0,by simp;omega,lI,?_⟩;exact(qv2.le d_).frame n5 λd vs op hc hg=>uE d hc (by rw[hg];exact bz X0)
   .simp(disch:=try exact QQ)only[Wz,s2,b_ (show(e.Q.length:Int)<=(j:Int)by omega)];exact⟨_,XV,i+1,L2,rfl,rfl,XV,uS,XV,bK⟩
 .simp(disch:=try exact QQ)only[Wz,s1,b_ (show(K.length:Int)<=(i:Int)by omega)];exact hk h1 v0 K L l (t0.le bF) G0 ho.sl (T2 ho) XV (Ay.trans bF)
end
theorem akA{h:ah}{v:Value}{L:List Int}(hs:Sl aU h v L)(i:Nat){x:Int}(hp:L[i]? = some x):∃c o,c<h.nx/\(∀(β:Type)(fl:β)(h':ah)(Y:XW β),az fl 1 v (X1 (i:Int)) h' Y=Y (.pointer (some ⟨c,o,none⟩)) h')/\
   ∀(β:Type)(fl:β)(Y:Value->β),qn fl (h.bl.get c) o Y=Y (X1 x):=by
 obtain⟨c,o,h1,h2,_,hh⟩:=hs.ld aZ i hp;exact⟨c,o,h1,h2,λβ fl Y=>cO (fl:=fl) hh 0 Y (by show 0<1;omega)⟩
section
variable {h h':ah}{A:WA}{a:TA}{N N' B B':Nat}{d d':TD}{R R':RD}{Z Z':List TM}
theorem eG.at{α:Type}{enc:α->List Value}{x h h':ah}{e:TypeId}{v:Value}{L:List α}(ho:eG enc x e h v L)(hn:h.nx<=h'.nx)(hl:h'.lo=h.lo)(hg:∀b n c,v=X9 b n c->b<h.nx->h'.bl.get b=h.bl.get b):eG enc x e h' v L:=by
 rcases ho with h0|⟨b,rfl,h1,h2,h3,h4⟩
 .exact .inl h0
 .exact .inr ⟨b,rfl,h1,XV,XV,(hg b _ _ rfl h2).trans h4⟩
structure qf(A:WA)(a:TA)(N B:Nat)(d:TD)(R:RD)(Z:List TM)(h h1 hV h2:ah)(v':Value)(V:List Int)(C:Nat)(w:Value)(R2:RD)(L:List Int)(o:Option Nat):Prop where
 g:WG h2 A a N B d R2 Z
 I:Inv R2.cr.length d.Ts R2.cs Z
 e:R2.cr=R.cr/\R2.now=R.now/\R2.begun=R.begun
 ot:jO h2 a.bp C R2.cs w L o
 ob:∀b,o=some b->hV.nx<=b
 ow:eG aU h1 3 h2 v' V
 vb:∀b n c,v'=X9 b n c->V≠[]->b<hV.nx
 ca:∀c,some c∈R2.cs->c.ca<h1.nx
 ib:A.ib<h1.nx
 nx:hV.nx<=h2.nx
 k:KR h h2
theorem qf.le{h h1 hV h2 h3:ah}{v' w:Value}{V L:List Int}{C:Nat}{R2:RD}{o:Option Nat}(x:qf A a N B d R Z h h1 hV h2 v' V C w R2 L o)(l:Le h2 h3):qf A a N B d R Z h h1 hV h3 v' V C w R2 L o:=
 ⟨x.g.le l,x.I,x.e,jO.kg x.g x.ot (Nat.le_refl _) (KG.of_le l) (λc' sk=>⟨c',sk,rfl⟩),x.ob,x.ow.le l,x.vb,x.ca,x.ib,Nat.le_trans x.nx l.nx,x.k.trans (KR.of_le l)⟩
theorem qf.up{h h1 hV h2:ah}{v' w:Value}{V L:List Int}{C C':Nat}{R2:RD}{o:Option Nat}(x:qf A a N B d R Z h h1 hV h2 v' V C w R2 L o)(hC:C<=C'):qf A a N B d R Z h h1 hV h2 v' V C' w R2 L o:=
 ⟨x.g,x.I,x.e,jO.kg x.g x.ot hC (KG.refl _) (λc' sk=>⟨c',sk,rfl⟩),x.ob,x.ow,x.vb,x.ca,x.ib,x.nx,x.k⟩
theorem qf.Jv{h h1 hV h2 h3:ah}{v' w:Value}{V L:List Int}{C:Nat}{R2:RD}{o:Option Nat}(x:qf A a N B d R Z h h1 hV h2 v' V C w R2 L o){i:Nat}{c:CR}(hi:R2.cs[i]? = some (some c)){bits':List Int}{k':Int}(g3:WG h3 A a N B d { R2 with bits:=bits',cs:=R2.cs.set i (some { c with cs:=k' }) } Z)(k3:KG h2 h3)(f3:∀b,b<h2.nx->b≠c.ca->b≠A.ib->h3.bl.get b=h2.bl.get b):qf A a N B d R Z h h1 hV h3 v' V C w { R2 with bits:=bits',cs:=R2.cs.set i (some { c with cs:=k' }) } L o:=by
 refine⟨g3,x.I.Jv hi k',x.e,jO.kg x.g x.ot (Nat.le_refl _) k3 (λc' sk=>?_),x.ob,?_,x.vb,λc' sk=>?_,x.ib,Nat.le_trans x.nx k3.r.nx,x.k.trans k3.r⟩
 .rcases mH sk with e|⟨q,_,e⟩
  .cases e;exact⟨c,List.mem_of_getElem? hi,rfl⟩
  .exact⟨c',List.mem_of_getElem? e,rfl⟩
 .refine eG.same x.ow k3.r.nx k3.r.lo λb hb sv=>f3 b sv ?_ ?_
  .have:=x.ca c (List.mem_of_getElem? hi);omega
  .have:=x.ib;omega
 .rcases mH sk with e|⟨q,_,e⟩
  .cases e;exact x.ca c (List.mem_of_getElem? hi)
  .exact x.ca c' (List.mem_of_getElem? e)
end
section
variable {h h':ah}{A:WA}{a:TA}{N N' B B':Nat}{d d':TD}{R R':RD}{Z Z':List TM}
theorem U5(ofW:OfW)(g:WG h A a N B d R Z)(I:Inv R.cr.length d.Ts R.cs Z)(Y:KQ)(hk:∀h' R' v,WG h' A a N B d R' Z->Inv R'.cr.length d.Ts R'.cs Z->R'.cr=R.cr->R'.now=R.now->R'.begun=R.begun->KR h h'->Y v h'):aj prog 13 [X3 A.wb] h Y:=by
 refine U4 g Y ?_;intro h1 v0 K La l0 t0 G0 sa sav hLa bF;have g1:=g.le bF;have hn8:=g.s.r.nn;unfold C0;refine ofW h1 v0 (aa l0 19) K La _ t0.sl (λk hk'=>?_) G0 sa sav XV g1.s.lo ?_
 .obtain⟨⟨b',hb',e',he',se⟩,qv⟩:=t0.each k hk';have good:=(g.s.t.is.bk b' hb').good e' he';refine⟨qv,?_,?_⟩
  .rw[se.2.2.2,se.2.2.1];exact good.vq
  .rw[se.2.2.2];exact good.small
 intro v' V hV ow hVl leV;have gV:=g1.le leV;obtain⟨vx,vc,ev,_⟩:=ow.sl;have jP:∀(β:Type)(fl:β)(h':ah)(Y:XW β),bh fl v' h' Y=Y (X1 (V.length:Int)) h':=λβ fl h' Y=>by rw[ev];exact bX _ _ _ _ _
 have vb:∀b n c,v'=X9 b n c->V≠[]->b<hV.nx:=λb n c e hne=>by
  rcases ow with⟨h0,_⟩|⟨b',e',q1,q2,q3,q4⟩
  .exact absurd h0 hne
  .rw[e']at e;cases e;exact q2
 simp(disch:=try exact QQ)only[Wz,jP];refine⟨λm l h2=>∃(j:Nat)(R2:RD)(L:List Int)(o:Option Nat),aa l 41=X1 (j:Int)/\m=V.length-j/\j<=V.length/\qf A a N B d R Z h h1 hV h2 v' V (8*j) (aa l 37) R2 L o,
  ⟨_,0,R,[],none,rfl,rfl,XV,?_⟩,?_⟩
 .exact⟨gV,I,⟨rfl,rfl,rfl⟩,jO.nil,(λb e=>nomatch e),ow,vb,λc hc=>(g1.s.r.ca c hc).1,g1.s.r.RB.1,Nat.le_refl _,KR.of_le (bF.trans leV)⟩
 rintro m l h2 ⟨j,R2,L,o,s1,rfl,hj,x⟩;by_cases hlt:j<V.length
 .obtain⟨p,hp'⟩:∃p,V[j]? = some p:=⟨_,List.getElem?_eq_getElem hlt⟩
  obtain⟨b4,o4,hb4,B0,BS⟩:=akA x.ow.sl j hp';have JV:=x.g.s.r.gw;simp(disch:=try exact QQ)only[Wz,s1,dw (show(j:Int)<(V.length:Int)by omega),Lr,B0,BS,aL,JV];refine⟨λm2 l2 h3=>∃(q:Nat)(R2:RD)(L:List Int)(o:Option Nat),aa l2 30=X1 (q:Int)/\m2=A.n-q/\q<=A.n/\qf A a N B d R Z h h1 hV h3 v' V (8*j+q) (aa l2 28) R2 L o,
   ⟨_,0,R2,L,o,rfl,rfl,XV,x⟩,?_⟩
  rintro m2 l2 h3 ⟨q,R3,L3,o3,s3,rfl,hq,x3⟩;by_cases Ia:q<A.n
  .simp(disch:=try exact QQ)only[Wz,CZ,s3,dw (show(q:Int)<(A.n:Int)by omega)];refine⟨λl' h4=>∃(R4:RD)(L4:List Int)(o4:Option Nat),qf A a N B d R Z h h1 hV h4 v' V (8*j+(q+1)) (aa l' 27) R4 L4 o4,?_,?_⟩
   .simp(disch:=try exact QQ)only[Wz,Lq,s3];refine Af x3.g (q:Int) _ ?_;intro b hb;cases b with
    |false=>
     simp(disch:=try exact QQ)only[Wz];exact⟨R3,L3,o3,x3.up XV⟩
    |true=>
     obtain⟨i,c,ew,hi,_,_⟩:=hb rfl;obtain rfl:q=i:=by omega
     have gw3:=x3.g.s.r.gw;have Og:=x3.g.s.r.gc;have r:(R3.cs.map λo=>dS (o.map (·.ca)))[q]? = some (X3 c.ca):=lJ x3.g.s hi;have hlc:(R3.cs.map λo=>dS (o.map (·.ca))).length=A.n:=by rw[List.length_map];exact x3.g.s.r.lc
     obtain⟨gc,c1,c2⟩:=bS x3.g.s hi;have gc':=gc;unfold bJ at gc';simp(disch:=try exact QQ)only[Wz,aL,gw3,s3,aX,Og,r,Nat.mul_one,gc'];by_cases hx:c.a.x=p
     ·simp(disch:=try exact QQ)only[Wz,bq hx,s3];refine DB x3.g hi 4 _ ?_;intro h5 bits' k' eb g5 k5 f5;have x5:=x3.Jv hi g5 k5 f5;have akx:=g5.s.lo;have mR:Le h5 ⟨h5.nx+1,h5.bl.bx h5.nx (ai [X1 (q:Int)] 3 false),h5.lo⟩:=(Le.refl h5).new _;have x6:=x5.le mR;have hx6:Sl aU ⟨h5.nx+1,h5.bl.bx h5.nx (ai [X1 (q:Int)] 3 false),h5.lo⟩ (X9 h5.nx 1 1) [(q:Int)]:=by
       refine⟨_,_,rfl,λ_=>⟨h5.nx,0,rfl,Nat.lt_succ_self _,?_⟩⟩;rw[show(h5.bl.bx h5.nx (ai [X1 (q:Int)] 3 false)).get h5.nx=_ from T.an _ _ _];exact Has.all
      refine WG.afC x6.g x6.ot hx6 (by show 8*j+q+1<=1000000000;omega) _ ?_;intro v7 L7 o7 h7 ot7 g7 k7 _ f7 on7;refine⟨_,L7,o7,g7,x6.I,x6.e,ot7,λb hb=>?_,eG.at x6.ow k7.nx k7.lo λb n c e hb=>f7 b hb λe'=>?_,x6.vb,x6.ca,x6.ib,Nat.le_trans x6.nx k7.nx,x6.k.trans k7⟩
      .rcases on7 with e|⟨b',e,q1⟩
       .exact x6.ob b (e.symm.trans hb)
       .rw[hb]at e;cases e;exact Nat.le_trans x6.nx q1
      .have q1:=x6.ob b e';have q2:=x6.vb b n c e (by rintro rfl;simp at hlt);omega
     .simp(disch:=try exact QQ)only[Wz,a_ hx,s3];exact⟨R3,L3,o3,x3.up XV⟩
   .rintro l' h4 ⟨R4,L4,o4,x4⟩;exact⟨_,XV,q+1,R4,L4,o4,rfl,rfl,XV,x4⟩
  .simp(disch:=try exact QQ)only[Wz,CZ,s3,b_ (show(A.n:Int)<=(q:Int)by omega),s1];exact⟨_,XV,j+1,R3,L3,o3,rfl,rfl,XV,x3.up XV⟩
 .simp(disch:=try exact QQ)only[Wz,s1,b_ (show(V.length:Int)<=(j:Int)by omega)];exact hk h2 R2 _ x.g x.I x.e.1 x.e.2.1 x.e.2.2 x.k
end
theorem lK{e:HE}{a:L4}(h:a∈jA e):∃p∈e.Q,p.m≠0/\a=⟨p.x,e.t,e.r,p.m⟩:=by
 unfold jA qb at h;obtain⟨p,hp,rfl⟩:=List.mem_map.1 h;obtain⟨h1,h2⟩:=List.mem_filter.1 hp;exact⟨p,h1,by simpa using h2,rfl⟩
theorem Sf{K:List HE}(hs:(K.map dR).Pairwise rA)(hv:∀k∈K,k.Q.Pairwise mo){a b:L4}(ha:a∈K.flatMap jA)(hb:b∈K.flatMap jA)(hx:a.x=b.x)(ht:a.t=b.t)(hr:a.r=b.r):a=b:=by
 obtain⟨e,he,ha⟩:=List.mem_flatMap.1 ha;obtain⟨f,hf,hb⟩:=List.mem_flatMap.1 hb;obtain⟨p,hp,_,rfl⟩:=lK ha;obtain⟨q,hq,_,rfl⟩:=lK hb;have hef:e=f:=by
  rw[List.pairwise_map]at hs;obtain⟨i,hi⟩:=List.getElem?_of_mem he;obtain⟨j,hj⟩:=List.getElem?_of_mem hf;have ht:e.t=f.t:=ht;have hr:e.r=f.r:=hr;rcases Nat.lt_trichotomy i j with h|h|h
  .have:=c8.1 hs i j e f h hi hj;unfold rA dR at this;simp only at this;omega
  .subst h;rw[hi]at hj;exact Option.some.inj hj
  .have:=c8.1 hs j i f e h hj hi;unfold rA dR at this;simp only at this;omega
 subst hef;have hpq:p=q:=by
  obtain⟨i,hi⟩:=List.getElem?_of_mem hp;obtain⟨j,hj⟩:=List.getElem?_of_mem hq;have hx:p.x=q.x:=hx;rcases Nat.lt_trichotomy i j with h|h|h
  .exact absurd hx (c8.1 (hv e he) i j p q h hi hj).x
  .subst h;rw[hi]at hj;exact Option.some.inj hj
  .exact absurd hx.symm (c8.1 (hv e he) j i q p h hj hi).x
 rw[hpq]
theorem U6{a b:L4}(h1:¬Iy a b)(h2:¬Iy b a):a.x=b.x/\a.t=b.t/\a.r=b.r:=by
 unfold Iy rA at *;simp only at *;omega
section
variable {h h2:ah}{tb bw bp bl:Nat}{c:jU}{vb:Value}{bf N:Nat}{Ts Ts2:List TB}{W:List IE}{wc:Nat}{F:List Int}{B:List Bool}
structure uO(Ts:List TB)(K:List HE):Prop where
 perm:(K.map dR).Perm (Ts.flatMap λb=>b.M.map dR)
 srt:(K.map dR).Pairwise rA
 each:∀k∈K,∃b∈Ts,∃e∈b.M,BT k e
theorem rD.of{v:Value}{D:List L4}{K:List HE}(t:rD h Ts v D K):uO Ts K:=⟨t.names,t.Ut,t.each⟩
theorem uO.pair(s:iZ h tb bw bp bl c vb bf N Ts W wc F B){K:List HE}(t:uO Ts K):∀k∈K,k.Q.Pairwise mo:=by
 intro k hk;obtain⟨b,hb,e,he,se⟩:=t.each k hk;rw[se.2.2.2];exact((s.is.bk b hb).good e he).vq.pair
end
theorem ldL{h:ah}{v:Value}{L:List L4}(hs:Sl kW h v L)(i:Nat){p:L4}(hp:L[i]? = some p):∃b o,b<h.nx/\(∀(β:Type)(fl:β)(h':ah)(Y:XW β),az fl 4 v (X1 (i:Int)) h' Y=Y (.pointer (some ⟨b,o,none⟩)) h')/\
   ((∀(β:Type)(fl:β)(Y:List Value->β),Aq fl (h.bl.get b) o 4 Y=Y (kW p))/\
   (∀(β:Type)(fl:β)(Y:Value->β),qn fl (h.bl.get b) o Y=Y (X1 p.x))/\
   (∀(β:Type)(fl:β)(Y:List Value->β),Aq fl (h.bl.get b) (o+1) 2 Y=Y [X1 p.t,X1 p.r])/\
   (∀(β:Type)(fl:β)(Y:Value->β),qn fl (h.bl.get b) (o+3) Y=Y (X1 p.m))):=by
 obtain⟨b,o,h1,h2,h3,hh⟩:=hs.ld uG i hp;refine⟨b,o,h1,h2,λβ fl Y=>pG hh 4 Y rfl,λβ fl Y=>cO (fl:=fl) hh 0 Y (by show 0<4;omega),λβ fl Y=>?_,λβ fl Y=>cO (fl:=fl) hh 3 Y (by show 3<4;omega)⟩;have:=hh.sub 1 2 (by show 1+2<=4;omega);exact pG this 2 Y rfl
section
variable {h h':ah}{bb bm bp bl most:Nat}{M M':List HE}{clock clock':Nat}{F F':List Int}{B:List Bool}
end
section
variable {h:ah}{tb bw bp bl:Nat}{c:jU}{vb:Value}{bf N:Nat}{Ts:List TB}{W:List IE}{wc:Nat}{F:List Int}{B:List Bool}
end
section
variable {h:ah}{tb bw bp bl:Nat}{c:jU}{vb:Value}{bf N:Nat}{Ts:List TB}{W:List IE}{wc:Nat}{F:List Int}{B:List Bool}
theorem iZ.Sg(s:iZ h tb bw bp bl c vb bf N Ts W wc F B){K:List HE}(t:uO Ts K):K.length<=1024:=by
 have h1:=t.perm.length_eq;rw[List.length_map]at h1;rw[h1];have h2:=s.is.s1.2;have h3:=s.is.hd;have:∀L:List TB,(∀b∈L,b.M.length<=64)->(L.flatMap λb=>b.M.map dR).length<=64*L.length:=by
  intro L
  induction L with
  |nil=>intro _;simp
  |cons b L ih=>
   intro hL;rw[List.flatMap_cons,List.length_append,List.length_map,List.length_cons];have h1:=ih λx hx=>hL x (.tail _ hx);have h2:=hL b (.head _);omega
 have:=this Ts λb hb=>by have:=s.len b hb;omega
 omega
theorem iZ.Sh(s:iZ h tb bw bp bl c vb bf N Ts W wc F B){K:List HE}(t:uO Ts K):∀k∈K,k.Q.length<=128:=by
 intro k hk;obtain⟨b,hb,e,he,se⟩:=t.each k hk;rw[se.2.2.2];exact((s.is.bk b hb).good e he).small
theorem iZ.U7(s:iZ h tb bw bp bl c vb bf N Ts W wc F B){v:Value}{D:List L4}{K:List HE}{h':ah}(t:rD h' Ts v D K):D.length<=131072:=by
 have h1:=tF (s.Sh t.of);have h2:=s.Sg t.of;rw[t.perm.length_eq];omega
end
section
variable {h:ah}{tb bw bp bl:Nat}{c:jU}{vb:Value}{bf N:Nat}{Ts:List TB}{W:List IE}{wc:Nat}{F:List Int}{B:List Bool}
theorem U8{K:List HE}(hs:(K.map dR).Pairwise rA)(hv:∀k∈K,k.Q.Pairwise mo){a b:L4}(ha:a∈K.flatMap jA)(hb:b∈K.flatMap jA)(hne:a≠b)(ht:a.t=b.t)(hr:a.r=b.r):cmp a.m b.m=true:=by
 obtain⟨e,he,ha⟩:=List.mem_flatMap.1 ha;obtain⟨f,hf,hb⟩:=List.mem_flatMap.1 hb;obtain⟨p,hp,pm,rfl⟩:=lK ha;obtain⟨q,hq,qm,rfl⟩:=lK hb;have hef:e=f:=by
  rw[List.pairwise_map]at hs;obtain⟨i,hi⟩:=List.getElem?_of_mem he;obtain⟨j,hj⟩:=List.getElem?_of_mem hf;have ht:e.t=f.t:=ht;have hr:e.r=f.r:=hr;rcases Nat.lt_trichotomy i j with h|h|h
  .have:=c8.1 hs i j e f h hi hj;unfold rA dR at this;simp only at this;omega
  .subst h;rw[hi]at hj;exact Option.some.inj hj
  .have:=c8.1 hs j i f e h hj hi;unfold rA dR at this;simp only at this;omega
 subst hef
 show cmp p.m q.m=true
 obtain⟨i,hi⟩:=List.getElem?_of_mem hp;obtain⟨j,hj⟩:=List.getElem?_of_mem hq;rcases Nat.lt_trichotomy i j with h|h|h
 .exact(c8.1 (hv e he) i j p q h hi hj).cm pm qm
 .subst h;rw[hi]at hj;cases hj;exact absurd rfl hne
 .rw[qO];exact(c8.1 (hv e he) j i q p h hj hi).cm qm pm
theorem J2{K:List HE}(hs:(K.map dR).Pairwise rA)(hv:∀k∈K,k.Q.Pairwise mo):(K.flatMap jA).Nodup:=by
 rw[List.Nodup,List.pairwise_flatMap];constructor
 .intro e he;unfold jA qb;rw[List.pairwise_map];exact((hv e he).filter _).imp λhb e=>hb.x (congrArg L4.x e)
 .rw[List.pairwise_map]at hs;refine hs.imp λ{e f} hlt x hx y hy hxy=>?_;obtain⟨p,_,_,rfl⟩:=lK hx;obtain⟨q,_,_,rfl⟩:=lK hy;have h1:e.t=f.t:=congrArg L4.t hxy;have h2:e.r=f.r:=congrArg L4.r hxy;unfold rA dR at hlt;simp only at hlt;omega
theorem rD.lt(s:iZ h tb bw bp bl c vb bf N Ts W wc F B){h':ah}{v:Value}{D:List L4}{K:List HE}(t:rD h' Ts v D K){i j:Nat}{a b:L4}(hij:i<j)(ha:D[i]? = some a)(hb:D[j]? = some b):Iy a b/\a≠b:=by
 have hn:=(t.perm.nodup_iff).2 (J2 t.Ut (t.of.pair s));have hne:a≠b:=c8.1 hn i j a b hij ha hb;refine⟨?_,hne⟩;by_cases h1:Iy a b
 .exact h1
 .obtain⟨k1,k2,k3⟩:=U6 h1 (c8.1 t.srt i j a b hij ha hb);exact absurd (Sf t.Ut (t.of.pair s) (t.perm.mem_iff.1 (List.mem_of_getElem? ha)) (t.perm.mem_iff.1 (List.mem_of_getElem? hb)) k1 k2 k3) hne
end
section
variable {h h':ah}{A:WA}{a:TA}{N N' B B':Nat}{d d':TD}{R R':RD}{Z Z':List TM}
theorem U9(g:WG h A a N B d R Z){v:Value}{D:List L4}{K:List HE}(t:rD h' d.Ts v D K){i j:Nat}{p q:L4}(hij:i<j)(hp:D[i]? = some p)(hq:D[j]? = some q)(ht:p.t=q.t)(hr:p.r=q.r):cmp p.m q.m=true:=by
 refine U8 t.Ut (λk hk=>?_) (t.perm.mem_iff.1 (List.mem_of_getElem? hp)) (t.perm.mem_iff.1 (List.mem_of_getElem? hq)) (rD.lt g.s.t t hij hp hq).2 ht hr;obtain⟨b,hb,e,he,se⟩:=t.each k hk;rw[se.2.2.2];exact((g.s.t.is.bk b hb).good e he).vq.pair
theorem U_(I:Inv R.cr.length d.Ts R.cs Z)(hn:∀(i:Nat) o,R.cs[i]? = some o->o=none):(∀id t r x,¬WT d.Ts id t r x)/\Z=[]:=by
 refine⟨λid t r x w=>?_,?_⟩
 .obtain⟨i,c,hi,_⟩:=I.wt id t r x w;cases hn i _ hi
 .cases Z with
  |nil=>rfl
  |cons t Z=>
   obtain⟨i,c,hi,_⟩:=I.tm t (.head _);cases hn i _ hi
theorem NG{v:Value}{K:List HE}(t:zS h' d.Ts v K)(hw:∀id t r x,¬WT d.Ts id t r x){k:HE}(hk:k∈K){p:R5}(hp:p∈k.Q):¬0<p.s:=λhs=>by
 obtain⟨⟨b,hb,e,he,se⟩,_⟩:=t.each k hk;rw[se.2.2.2]at hp;exact hw p.id e.t e.r p.x ⟨b,hb,⟨e,he,rfl,rfl,p,hp,rfl,rfl,hs⟩⟩
end
section
variable {h h':ah}{A:WA}{a:TA}{N N' B B':Nat}{d d':TD}{R R':RD}{Z Z':List TM}
theorem abb(g:WG h A a N B d R Z)(Y:KQ)(hk:∀v h' D K,rD h' d.Ts v D K->Le h h'->Y v h'):aj prog 16 [X3 A.wb] h Y:=by
 have gw:=g.s.r.gw;apply X2;rw[adf];simp(disch:=try exact QQ)only[Wz,mI,aL,gw];refine aaO g.s.t g.s.lo _ ?_;intro v h' D K t le;exact hk v h' D K t le
theorem Si(g:WG h A a N B d R Z)(Y:KQ)(hk:∀v h' K,zS h' d.Ts v K->Le h h'->Y v h'):aj prog 20 [X3 A.wb] h Y:=by
 have gw:=g.s.r.gw;apply X2;rw[adi];simp(disch:=try exact QQ)only[Wz,mI,aL,gw];refine xI g.s.t g.s.lo _ ?_;intro v h' K t le;exact hk v h' K t le
theorem NH(g:WG h A a N B d R Z)(Y:KQ)(hk:∀x y:Int,Y (.tuple ⟨[X1 x,X1 y,X1 (Z.length:Int)]⟩) h):aj prog 19 [X3 A.wb] h Y:=by
 have gw:=g.s.r.gw;apply X2;rw[adh];simp(disch:=try exact QQ)only[Wz,mI,Lw,aL,gw];refine No g.s.t _ ?_;simp(disch:=try exact QQ)only[Wz,aL,gw];refine UQ g.clock _ ?_;exact hk _ _
theorem J3(g:WG h A a N B d R Z){v:Value}{D:List L4}{K:List HE}{h1:ah}(t:rD h1 d.Ts v D K)(l0:List Value)(l8:List Value)(v5 v6:Value)(wX:List Value->ah->Prop)(e_:List Value)(Y:KQ)(h0:aa l0 41=X1 0)(hk:∀cu v49 v50,cz [(aa l8 86),(aa l8 87),(aa l8 88),(aa l8 89),(aa l8 90),(aa l8 91),(aa l8 92),(aa l8 93),(aa l8 94),(aa l8 95),(Value.bool true),(aa l8 97),(aa l8 98),(X1 (0))] h1 λmN h XU=>
   aG False prog .lss 3 false false (aa mN 13) v5 h λuV h=>aI uV (CT mN v6 XU v5 uV h) (CU v6 l8 cu mN wX e_ v v49 v50 v5 uV h Y)):cz l0 h1 λcu h As=>xD v cu As l8 v5 v6 wX e_ h Y:=by
 have Uk:=g.s.t.U7 t;obtain⟨vx,vc,ev,_⟩:=t.sl;have jP:∀(β:Type)(fl:β)(h':ah)(Y:XW β),bh fl v h' Y=Y (X1 (D.length:Int)) h':=λβ fl h' Y=>by rw[ev];exact bX _ _ _ _ _
 refine⟨λm l h2=>∃i:Nat,aa l 41=X1 (i:Int)/\m=D.length-i/\i<=D.length/\h2=h1,⟨_,0,h0,rfl,XV,rfl⟩,?_⟩;rintro m l h2 ⟨i,s1,rfl,hi,rfl⟩;by_cases hlt:i<D.length
 .obtain⟨p,hp⟩:∃p,D[i]? = some p:=⟨_,List.getElem?_eq_getElem hlt⟩
  obtain⟨b1,o1,Ec,hx1,_,_,Ap,S_⟩:=ldL t.sl i hp;simp(disch:=try exact QQ)only[Wz,xD,jP,s1,dw (show(i:Int)<(D.length:Int)by omega),Lh];refine⟨λm2 l2 h3=>∃j:Nat,aa l2 32=X1 (j:Int)/\m2=D.length-j/\i<j/\j<=D.length/\h3=h2,⟨_,i+1,by simp[aa],rfl,XV,XV,rfl⟩,?_⟩;rintro m2 l2 h3 ⟨j,s2,rfl,hij,hj,rfl⟩;by_cases Ia:j<D.length
  .obtain⟨q,hq⟩:∃q,D[j]? = some q:=⟨_,List.getElem?_eq_getElem Ia⟩
   obtain⟨b2,o2,sv,hx2,_,_,hn2,hm2⟩:=ldL t.sl j hq;simp(disch:=try exact QQ)only[Wz,jP,s2,dw (show(j:Int)<(D.length:Int)by omega),PF,s1,hx1,Ap,hx2,hn2,Dm];by_cases hn:p.t=q.t/\p.r=q.r
   .simp(disch:=try exact QQ)only[Wz,bq hn,s1,s2,hx1,hx2,S_,hm2];refine Nl _ _ ?_;rw[U9 g t hij hp hq hn.1 hn.2];simp(disch:=try exact QQ)only[Wz,Bool.not_true,s2];exact⟨_,XV,j+1,rfl,rfl,XV,XV,trivial⟩
   .simp(disch:=try exact QQ)only[Wz,a_ hn,s2];exact⟨_,XV,j+1,rfl,rfl,XV,XV,trivial⟩
  .simp(disch:=try exact QQ)only[Wz,jP,s2,b_ (show(D.length:Int)<=(j:Int)by omega),s1];exact⟨_,XV,i+1,rfl,rfl,XV,trivial⟩
 .simp(disch:=try exact QQ)only[Wz,xD,jP,s1,b_ (show(D.length:Int)<=(i:Int)by omega)];exact hk _ _ _
end
section
variable {h h':ah}{A:WA}{a:TA}{N N' B B':Nat}{d d':TD}{R R':RD}{Z Z':List TM}
theorem J4(g:WG h A a N B d R Z)(I:Inv R.cr.length d.Ts R.cs Z)(l0 l8 cu:List Value)(v46 v49 v50:Value)(wX:List Value->ah->Prop)(e_:List Value)(Y:KQ)(h0:aa l0 13=X1 0)(hb0:aa l0 10=.bool true)(hk:∀l h',Le h h'->wX l h'):cz l0 h λmN h XU=>aG False prog .lss 3 false false (aa mN 13) (X1 (A.n:Int)) h λuV h=>aI uV (CT mN (X3 A.wb) XU (X1 (A.n:Int)) uV h) (CU (X3 A.wb) l8 cu mN wX e_ v46 v49 v50 (X1 (A.n:Int)) uV h Y):=by
 have hlc:=g.s.r.lc;have hn8:=g.s.r.nn;refine⟨λm l h2=>∃(k:Nat)(b:Bool),aa l 13=X1 (k:Int)/\m=A.n-k/\k<=A.n/\aa l 10=.bool b/\(b=true->∀i,i<k->R.cs[i]? = some none)/\h2=h,⟨_,0,true,h0,rfl,XV,hb0,λ_ i hi=>absurd hi (Nat.not_lt_zero _),rfl⟩,?_⟩;rintro m l h2 ⟨k,b,s1,rfl,hk',sb,hb,rfl⟩;by_cases hlt:k<A.n
 .simp(disch:=try exact QQ)only[Wz,s1,dw (show(k:Int)<(A.n:Int)by omega),CT];cases b with
  |false=>
   simp(disch:=try exact QQ)only[Wz,sb,s1];exact⟨_,XV,k+1,false,rfl,rfl,XV,rfl,(λe=>nomatch e),trivial⟩
  |true=>
   obtain⟨o,ho⟩:∃o,R.cs[k]? = some o:=⟨_,List.getElem?_eq_getElem XV⟩
   simp(disch:=try exact QQ)only[Wz,sb,s1];refine UD g.s ho _ ?_;cases o with
   |none=>
    simp(disch:=try exact QQ)only[Wz,aaT,s1,sb];refine⟨_,XV,k+1,true,rfl,rfl,XV,rfl,λ_ i hi=>?_,trivial⟩;by_cases e:i=k
    .subst e;exact ho
    .exact hb rfl i XV
   |some c=>
    have hph:=(I.c k c ho).ph;simp(disch:=try exact QQ)only[Wz,aaT,a_ (show ¬(c.ph:Int)=0 by omega),s1,sb];exact⟨_,XV,k+1,false,rfl,rfl,XV,rfl,(λe=>nomatch e),trivial⟩
 .have hkn:k=A.n:=by omega
  simp(disch:=try exact QQ)only[Wz,s1,b_ (show(A.n:Int)<=(k:Int)by omega),CU];refine NH g _ ?_;intro x y;simp(disch:=try exact QQ)only[Wz];refine Si g _ ?_;intro v h3 K t d_;obtain⟨vx,vc,ev,_⟩:=t.sl;have jP:∀(β:Type)(fl:β)(h':ah)(Y:XW β),bh fl v h' Y=Y (X1 (K.length:Int)) h':=λβ fl h' Y=>by rw[ev];exact bX _ _ _ _ _
  have G0:K.length<=1024:=by
   have h1:=t.perm.length_eq;rw[List.length_map]at h1;rw[h1];have h2:=g.s.t.is.s1.2;have h3:=g.s.t.is.hd;have:∀L:List TB,(∀b∈L,b.M.length<=64)->(L.flatMap λb=>b.M.map dR).length<=64*L.length:=by
    intro L
    induction L with
    |nil=>intro _;simp
    |cons b L ih=>
     intro hL;rw[List.flatMap_cons,List.length_append,List.length_map,List.length_cons];have h1:=ih λx hx=>hL x (.tail _ hx);have h2:=hL b (.head _);omega
   have:=this d.Ts λb hb=>by have:=g.s.t.len b hb;omega
   omega
  refine⟨λm l h4=>∃i:Nat,aa l 31=X1 (i:Int)/\m=K.length-i/\i<=K.length/\h4=h3,⟨_,0,by simp[aa],rfl,XV,rfl⟩,?_⟩;rintro m l4 h4 ⟨i,s4,rfl,hi,rfl⟩;cases b with
  |false=>
   by_cases hlt3:i<K.length
   .simp(disch:=try exact QQ)only[Wz,yN,jP,s4,dw (show(i:Int)<(K.length:Int)by omega),sb,CS];exact hk _ _ d_
   .simp(disch:=try exact QQ)only[Wz,yN,jP,s4,b_ (show(K.length:Int)<=(i:Int)by omega),sb,CS];exact hk _ _ d_
  |true=>
   obtain⟨hw,hZ⟩:=U_ I λi o ho=>by
    have hil:=(List.getElem?_eq_some_iff.1 ho).1;have:=hb rfl i XV;rw[ho]at this;exact Option.some.inj this
   by_cases hlt3:i<K.length
   .obtain⟨e,he⟩:∃e,K[i]? = some e:=⟨_,List.getElem?_eq_getElem hlt3⟩
    have SR:=List.mem_of_getElem? he;have qv:=(t.each e SR).2;have hQl:e.Q.length<=128:=by
     obtain⟨⟨b',hb',e',he',se⟩,_⟩:=t.each e SR;rw[se.2.2.2];exact((g.s.t.is.bk b' hb').good e' he').small
    obtain⟨b0,o0,aqp,hx0,Mw⟩:=Rx t.sl i he (zK qv.1);obtain⟨_,_,_,_,hq0,_⟩:=Mw _ (Le.refl _);obtain⟨qx,qc,eq,_⟩:=(show Sl bA _ e.q e.Q from qv.1)
    have H_:∀(β:Type)(fl:β)(h':ah)(Y:XW β),bh fl (.slice qx e.Q.length qc) h' Y=Y (X1 (e.Q.length:Int)) h':=λβ fl h' Y=>bX _ _ _ _ _;rw[eq]at hq0;simp(disch:=try exact QQ)only[Wz,yN,jP,s4,dw (show(i:Int)<(K.length:Int)by omega),sb];refine⟨λm2 l5 h5=>∃j:Nat,aa l5 21=X1 (j:Int)/\m2=e.Q.length-j/\j<=e.Q.length/\h5=h4,⟨_,0,by simp[aa],rfl,XV,rfl⟩,?_⟩;rintro m2 l5 h5 ⟨j,s5,rfl,hj,rfl⟩;by_cases akC:j<e.Q.length
    .obtain⟨p,hp⟩:∃p,e.Q[j]? = some p:=⟨_,List.getElem?_eq_getElem akC⟩
     obtain⟨b4,o4,hb4,B0,_,_,_,_,_,hs4⟩:=Jn qv.1 j hp;rw[eq]at B0;have hps:=NG t hw SR (List.mem_of_getElem? hp);unfold Jj;rw[s4,hx0];simp(disch:=try exact QQ)only[Wz,s5,hq0,H_,dw (show(j:Int)<(e.Q.length:Int)by omega)];unfold PG;rw[s4,hx0];simp(disch:=try exact QQ)only[Wz,s5,hq0,B0,hs4,a_ hps];exact⟨_,XV,j+1,rfl,rfl,XV,trivial⟩
    .unfold Jj;rw[s4,hx0];simp(disch:=try exact QQ)only[Wz,s5,hq0,H_,b_ (show(e.Q.length:Int)<=(j:Int)by omega)];exact⟨_,XV,i+1,rfl,rfl,XV,trivial⟩
   .simp(disch:=try exact QQ)only[Wz,yN,jP,s4,b_ (show(K.length:Int)<=(i:Int)by omega),sb,CS,hZ,List.length_nil];exact hk _ _ d_
end
structure AC where
 k:Int
 th:Int
 a:Np
 n:Int
def nF(x:AC):List Value:=[X1 x.k,X1 x.th,X1 x.a.k,X1 x.a.x,X1 x.a.t,X1 x.a.r,X1 x.a.m,X1 x.a.w,X1 x.a.to,X1 x.n]
theorem NI(x:AC):(nF x).length=10:=rfl
structure rJ(h0:ah)(A:WA)(a:TA)(n i:Nat)(h:ah):Prop where
 w:∃N B d R Z,WG h A a N B d R Z/\Inv R.cr.length d.Ts R.cs Z/\(R.cr.length:Int)=a.c.S/\Z.length<=i/\(0<=R.begun/\R.begun<=i)/\(0<=R.now/\R.now<=19*(i:Int))/\N<=129*i/\B<=25600*i
 n:A.n=n
 k:KR h0 h
theorem rJ.le{h0 h h':ah}{A:WA}{a:TA}{n i:Nat}(s:rJ h0 A a n i h)(l:Le h h'):rJ h0 A a n i h':=by
 obtain⟨N,B,d,R,Z,g,I,r⟩:=s.w;exact⟨⟨N,B,d,R,Z,g.le l,I,r⟩,s.n,s.k.trans (KR.of_le l)⟩
theorem akD{h:ah}{v:Value}{L:List AC}(hs:Sl nF h v L)(i:Nat){p:AC}(hp:L[i]? = some p):∃c o,c<h.nx/\(∀(β:Type)(fl:β)(h':ah)(Y:XW β),az fl 10 v (X1 (i:Int)) h' Y=Y (.pointer (some ⟨c,o,none⟩)) h')/\
   ∀(β:Type)(fl:β)(Y:List Value->β),Aq fl (h.bl.get c) o 10 Y=Y (nF p):=by
 obtain⟨c,o,h1,h2,h3,_⟩:=hs.ld NI i hp;exact⟨c,o,h1,h2,h3⟩
theorem abc(ofW:OfW){h0 h:ah}{A:WA}{a:TA}{n i:Nat}(s:rJ h0 A a n i h)(hi:i<120)(hn:1<=n){v:Value}{L:List AC}(hs:Sl nF h v L){x:AC}(hx:L[i]? = some x)(hxw:x.a.w<=9223372036854775807)(l8:List Value)(h8:aa l8 151=X1 (i:Int))(BJ:List Value->ah->Prop)(hk:∀l h',rJ h0 A a n (i+1) h'->KR h h'->BJ l h'):CV v l8 (X3 A.wb) BJ (X1 (n:Int)) h:=by
 obtain⟨N,B,d,R,Z,g,I,hS,hZ,hb,uL,hN,hB⟩:=s.w;have hnA:=s.n;have hlo:=g.s.lo;obtain⟨c,o,_,LP,mO⟩:=akD hs i hx;simp(disch:=try exact QQ)only[Wz,CV,h8,LP,mO,nF];have bF:Le h ⟨h.nx+1,h.bl.bx h.nx (ai (nF x) 33 false),h.lo⟩:=(Le.refl h).new _;obtain⟨h1,e1⟩:∃h1:ah,h1=⟨h.nx+1,h.bl.bx h.nx (ai (nF x) 33 false),h.lo⟩:=⟨_,rfl⟩
 rw[<-e1]at bF;have gA:h1.bl.get h.nx=some (ai (nF x) 33 false):=by rw[e1];exact T.an _ _ _
 unfold nF at gA e1;rw[<-e1];clear e1;have g1:=g.le bF;have n1:=bF.nx;have fin:∀(h2:ah) N' B' d' R' Z',WG h2 A a N' B' d' R' Z'->Inv R'.cr.length d'.Ts R'.cs Z'->R'.cr.length=R.cr.length->Z'.length<=i+1->(0<=R'.begun/\R'.begun<=(i:Int)+1)->(0<=R'.now/\R'.now<=19*((i:Int)+1))->N'<=129*(i+1)->B'<=25600*(i+1)->KR h1 h2->∀l,BJ l h2:=λh2 N' B' d' R' Z' g' I' e1 e2 e3 e4 e5 e6 k2 l=>
  hk l h2 ⟨⟨N',B',d',R',Z',g',I',by rw[e1];exact hS,e2,XV,XV,e5,e6⟩,hnA,(s.k.trans (KR.of_le bF)).trans k2⟩ ((KR.of_le bF).trans k2)
 refine Dl x.k 8 X0 ?_;have hp:=nv (n:=x.k) (show(0:Int)<8 by decide);generalize hkk:nu x.k 8=kk at hp;refine⟨λl' h'=>aa l' 2=.bool (decide (kk=0\/kk=1))/\h'=h1,?_,?_⟩
 .by_cases k0:kk=0
  .simp(disch:=try exact QQ)only[Wz,bq k0];simp[aa,k0]
  .by_cases k1:kk=1
   .simp(disch:=try exact QQ)only[Wz,a_ k0,bq k1];simp[aa,k1]
   .simp(disch:=try exact QQ)only[Wz,a_ k0,a_ k1];simp[aa,k0,k1]
 .rintro sx h' ⟨e24,rfl⟩;by_cases k01:kk=0\/kk=1
  .rw[bq k01]at e24;simp(disch:=try exact QQ)only[Wz,Ji,e24,gA];refine R_ g1 I hS x.th x.a XV hxw _ ?_;intro h2 R' v' g2 I2 el en eb k2;exact fin h2 N B d R' Z g2 I2 (by rw[el]) XV XV XV XV XV k2 _
  .rw[a_ k01]at e24;simp(disch:=try exact QQ)only[Wz,Ji,e24,PE];by_cases k6:kk=6
   .simp(disch:=try exact QQ)only[Wz,bq k6,gA];refine Dl x.n 20 X0 ?_;have hp2:=nv (n:=x.n) (show(0:Int)<20 by decide);refine U3 g1 I XV XV (nu x.n 20) XV _ ?_;intro h2 R' Z' v' g2 I2 el en eb ez k2;refine U5 ofW g2 I2 _ ?_;intro h3 R3 v3 g3 I3 el3 en3 eb3 k3;exact fin h3 N B d R3 Z' g3 I3 (by rw[el3,el]) XV XV XV XV XV (k2.trans k3) _
   .simp(disch:=try exact QQ)only[Wz,a_ k6,PD];by_cases k7:kk=7
    .simp(disch:=try exact QQ)only[Wz,bq k7,gA];refine NA g1 I x.th _ ?_;intro h2 R' v' g2 I2 el en eb k2;exact fin h2 N B d R' Z g2 I2 (by rw[el]) XV XV XV XV XV k2 _
    .simp(disch:=try exact QQ)only[Wz,a_ k7,gA];refine Dl x.th (n:Int) (by have:=g.s.r.nn;omega) ?_;have hp2:=nv (n:=x.th) (show(0:Int)<(n:Int)by omega);obtain⟨q,hq⟩:∃q:Nat,nu x.th (n:Int)=(q:Int):=⟨(nu x.th (n:Int)).toNat,XV⟩
     rw[hq]at hp2 ⊢;refine UZ g1 I (i:=q) XV XV XV XV XV _ ?_;intro h2 d' R' Z' v' g2 I2 el en eb ez k2;exact fin h2 _ _ d' R' Z' g2 I2 el XV XV XV XV XV k2 _
theorem Sl.kr{α:Type}{enc:α->List Value}{h h':ah}{v:Value}{L:List α}(hs:Sl enc h v L)(ro:∀b,(∀vs t o,h.bl.get b≠some (ai vs t o))/\∀es c,h.bl.get b≠some (.map es c))(k:KR h h'):Sl enc h' v L:=by
 obtain⟨x,c,rfl,h2⟩:=hs;refine⟨x,c,rfl,λhne=>?_⟩;obtain⟨b,o,rfl,h3,h4⟩:=h2 hne;refine⟨b,o,rfl,Nat.lt_of_lt_of_le h3 k.nx,?_⟩;rw[k.ro b h3 (ro b).1 (ro b).2];exact h4
theorem NJ(ofW:OfW){h0 h:ah}{A:WA}{a:TA}{n:Nat}(s:rJ h0 A a n 0 h)(hn:1<=n){v:Value}{L:List AC}(hs:Sl nF h0 v L)(hL:L.length<=120)(hw:∀x∈L,x.a.w<=9223372036854775807)(ro:∀b,(∀vs t o,h0.bl.get b≠some (ai vs t o))/\∀es c,h0.bl.get b≠some (.map es c))(l0:List Value)(e0:aa l0 151=X1 0)(Y:KQ)(hk:∀h',Y (.bool true) h'):cz l0 h λl8 h N7=>bh False v h λv9 h=>aG False prog .lss 3 false false (aa l8 151) v9 h λv10 h=>aI v10 (CW v l8 (X3 A.wb) (X1 (n:Int)) N7 v9 v10 h Y) (Y (.bool true) h):=by
 obtain rfl:A.n=n:=s.n;have jP:∀(β:Type)(fl:β)(h':ah)(Y:XW β),bh fl v h' Y=Y (X1 (L.length:Int)) h':=λβ fl h' Y=>hs.len Y h';obtain⟨P,hP⟩:∃P:Nat->List Value->ah->Prop,P=λm l h4=>∃i:Nat,aa l 151=X1 (i:Int)/\m=L.length-i/\i<=L.length/\rJ h0 A a A.n i h4:=⟨_,rfl⟩
 refine⟨P,by rw[hP];exact⟨_,0,e0,rfl,XV,s⟩,?_⟩;intro m l8 h2 hp;rw[hP]at hp;obtain⟨i,s1,rfl,hi,s2⟩:=hp;by_cases hlt:i<L.length
 .obtain⟨x,hx⟩:∃x,L[i]? = some x:=⟨_,List.getElem?_eq_getElem hlt⟩
  rw[jP,s1];simp(disch:=try exact QQ)only[Wz,dw (show(i:Int)<(L.length:Int)by omega)];unfold CW;refine⟨λbZ h3=>rJ h0 A a A.n (i+1) h3,?_,?_⟩
  .refine⟨λe_ h3=>rJ h0 A a A.n (i+1) h3,?_,?_⟩
   .exact abc ofW s2 XV hn (Sl.kr hs ro s2.k) hx (hw x (List.mem_of_getElem? hx)) l8 s1 (λ_ h3=>rJ h0 A a A.n (i+1) h3) (λ_ _ s' _=>s')
   .intro e_ h3 s3;obtain⟨N,B,d,R,Z,g,I,hr⟩:=s3.w;refine abb g _ ?_;intro va h4 D K ta mE;have s4:=s3.le mE;refine J3 (g.le mE) ta _ l8 _ _ _ e_ Y (by simp[aa]) ?_;intro cu v49 v50;refine J4 (g.le mE) I _ l8 cu va v49 v50 _ e_ Y (by simp[aa]) (by simp[aa]) ?_;intro l h5 lI;exact s4.le lI
  .intro bZ h3 s3;simp(disch:=try exact QQ)only[Wz,s1];rw[hP];exact⟨_,XV,i+1,rfl,rfl,XV,s3⟩
 .rw[jP,s1];simp(disch:=try exact QQ)only[Wz,b_ (show(L.length:Int)<=(i:Int)by omega)];exact hk _
theorem Ib(n:Nat):aV [X1 0] n=kX (List.replicate n 0):=by
 unfold kX
 induction n with
 |zero=>rfl
 |succ n ih=>rw[List.replicate_succ,List.map_cons,<-ih];rfl
theorem Ah(n:Nat):aV [Value.pointer none] n=List.replicate n (.pointer none):=by
 induction n with
 |zero=>rfl
 |succ n ih=>rw[List.replicate_succ,<-ih];rfl
theorem tH(v:Value)(n:Nat):(aV [v] n).length=n:=by
 induction n with
 |zero=>rfl
 |succ n ih=>show(v::aV [v] n).length=_;rw[List.length_cons,ih]
theorem Ic(n:Nat)(hn:1<=n/\n<=8)(h:ah)(Y:KQ)(hk:∀h' pb ib,Le h h'->h.nx<=ib->ib<h'.nx->pb<h'.nx->h'.bl.get pb=some (ai [X9 ib n n] 244 false)->h'.bl.get ib=some (ai (kX (List.replicate n 0)) 3 false)->Y (.tuple ⟨[X3 pb,X1 0]⟩) h'):aj prog 99 [X1 (n:Int)] h Y:=by
 apply X2;rw[adC];have hrl:=tH (I 0) n;simp(disch:=try exact QQ)only[Wz,b_ (show(1:Int)<=(n:Int)by omega),b_ (show(n:Int)<=8 by omega)];rw[CQ _ _ _ _ _ XV XV,Ib];simp(disch:=try exact QQ)only[Wz];exact hk _ _ _ (((Le.refl h).new _).new _) (Nat.le_refl _) (by show h.nx<h.nx+1+1;omega) (by show h.nx+1<h.nx+1+1;omega) (T.an _ _ _) ((T.au _ _ XV).trans (T.an _ _ _))
theorem J5(n:Nat)(hn:1<=n/\n<=16)(h:ah)(Y:KQ)(hk:∀h' lb hb,Le h h'->h.nx<=hb->hb<h'.nx->lb<h'.nx->h'.bl.get lb=some (ai [X9 hb n n] 247 false)->h'.bl.get hb=some (ai (List.replicate n (.pointer none)) 251 false)->Y (.tuple ⟨[X3 lb,X1 0]⟩) h'):aj prog 100 [X1 (n:Int)] h Y:=by
 apply X2;rw[X4];have hrl:=tH (.pointer none) n;simp(disch:=try exact QQ)only[Wz,b_ (show(1:Int)<=(n:Int)by omega),b_ (show(n:Int)<=16 by omega)];rw[CQ _ _ _ _ _ XV XV,Ah];simp(disch:=try exact QQ)only[Wz];exact hk _ _ _ (((Le.refl h).new _).new _) (Nat.le_refl _) (by show h.nx<h.nx+1+1;omega) (by show h.nx+1<h.nx+1+1;omega) (T.an _ _ _) ((T.au _ _ XV).trans (T.an _ _ _))
theorem J6(h:ah)(Y:KQ)(hk:Y (X3 h.nx) ⟨h.nx+1,h.bl.bx h.nx (ai [X1 0,.slice none 0 0] 200 false),h.lo⟩):aj prog 101 [] h Y:=by
 apply X2;rw[X5];simp(disch:=try exact QQ)only[Wz];exact hk
theorem Sj{h:ah}{a:TA}{N:Nat}{d:TD}(s:Ns h a N d)(hB:lg d.B=[]):(∀b∈d.Ts,b.M=[])/\d.F.length=d.B.length:=by
 constructor
 .intro b hb;cases hM:b.M with
  |nil=>rfl
  |cons e M=>
   exfalso;have he:e∈b.M:=by rw[hM];exact .head _
   have ids:=s.ids;rw[hB]at ids;have A3:=ids.eq_nil;have g:=((s.is.bk b hb).good e he)
   cases hQ:e.Q with
   |nil=>exact g.ne hQ
   |cons p Q=>
    have:p.id∈d.Ts.flatMap λb=>ig b.M:=List.mem_flatMap.2 ⟨b,hb,by
     unfold ig;exact List.mem_flatMap.2 ⟨e,he,List.mem_map.2 ⟨p,by rw[hQ];exact .head _,rfl⟩⟩⟩
    rw[A3]at this;cases this
 .have:=oL s.is.di.ok;rw[hB]at this;simpa using this
structure Va(A:WA)(a:TA)(d:TD)(R:RD)(c:jU)(n:Nat):Prop where
 ec:a.c=c
 en:A.n=n
 hd:(a.bf:Int)=c.H
 em:∀b∈d.Ts,b.M=[]
 f:(d.F.length:Int)=c.R
 cs:R.cs=List.replicate n none
 cr:R.cr=List.replicate c.S.toNat none
 bits:R.bits=List.replicate n 0
 begun:R.begun=0
 now:R.now=0
 tv:R.tv=.slice none 0 0
theorem Ai(a:Option Nat):(Value.cells (.map a)).toList=[.map a]:=id rfl
theorem akE(n:Nat)(hn:n<=8)(h:ah)(Y:KQ)(hk:Y (X9 h.nx n n) ⟨h.nx+1,h.bl.bx h.nx (ai (List.replicate n (.pointer none)) 118 false),h.lo⟩):Br (match Value.int .i64 (n:Int),Value.int .i64 (n:Int)with | .int _ (.ofNat l),.int _ (.ofNat c)=>(match Nat.ble l c,Nat.ble c 1000000 with|true,true=>(aK none (aV [(Value.pointer none)] c) 118 false λo=>some (o,bB l c))|_,_=>none)|_,_=>none) h Y:=by
 have e1:Nat.ble n n=true:=by rw[Nat.ble_eq];exact Nat.le_refl _
 have e2:Nat.ble n 1000000=true:=by rw[Nat.ble_eq];omega
 have hl:=tH (.pointer none) n
 show Br (match Nat.ble n n,Nat.ble n 1000000 with|true,true=>(aK none (aV [(Value.pointer none)] n) 118 false λo=>some (o,bB n n))|_,_=>none) h Y
 rw[e1,e2];simp only;rw[iS,yz,Ah]
 .exact hk
 .omega
theorem abd(c:jU)(hc:j7 c)(n:Nat)(hn:1<=n/\n<=8)(h:ah)(hlo:h.lo<=h.nx)(Y:KQ)(hk:∀h' A a d R,Va A a d R c n->WS h' A a 0 d R->Le h h'->(∀x,FB h' a.bp x->h.nx<=x)->Y (.tuple ⟨[X3 A.wb,X1 0]⟩) h'):aj prog 52 [HH c,X1 (n:Int)] h Y:=by
 obtain⟨S,hS⟩:∃S:Nat,c.S=(S:Int):=⟨c.S.toNat,by have:=hc.1;omega⟩
 apply X2;rw[adj];simp(disch:=try exact QQ)only[Wz,HH];obtain⟨hA,bH,aY,g1,ia,ic⟩:=oR h (ai [X1 c.S,X1 c.H,X1 c.R,X1 c.P] 115 false);rw[<-bH];clear bH;refine Uq c hA _ XV ?_ ?_
 .intro h1 e _ hno _;exact absurd hc hno
 intro h1 tb bw bp bl vb bf Ts F _ t1 gbm gbw gbp gbl bF fb1;have n1:=bF.nx;have l1:=bF.lo;have hcS:1<=S/\S<=16:=by have:=hc.1;have:=hc.2.1;omega
 have Me:=bF.nx;have Mf:=bF.lo;have g1:=(bF.get _ XV).trans g1;simp(disch:=try exact QQ)only[Wz,Ly];refine Ic n hn h1 _ ?_;intro h2 pb ib bK i1 i2 p2 gp gi;have n2:=bK.nx;have l2:=bK.lo;have Hv:=bK.nx;have Hw:=bK.lo;have g1:=(bK.get _ XV).trans g1;simp(disch:=try exact QQ)only[Wz,Lx,aL,g1,hS];refine J5 S hcS h2 _ ?_;intro h3 lb hb d_ j1 j2 q2 gl gh;have n3:=d_.nx;have l3:=d_.lo;simp(disch:=try exact QQ)only[Wz];refine akE n hn.2 h3 _ ?_;simp(disch:=try exact QQ)only[Wz,av,bB,eY];obtain⟨h4,e4⟩:∃h4:ah,h4=⟨h3.nx+1+1,(h3.bl.bx h3.nx (ai (List.replicate n (Value.pointer none)) 118 false)).bx (h3.nx+1) (bT.map [] 0),h3.lo⟩:=⟨_,rfl⟩
 have mE:Le h3 h4:=by rw[e4];exact((Le.refl h3).new _).new _
 have Oh:h4.bl.get h3.nx=some (ai (List.replicate n (Value.pointer none)) 118 false):=by rw[e4];exact(T.au _ _ XV).trans (T.an _ _ _)
 have gm4:h4.bl.get (h3.nx+1)=some (bT.map [] 0):=by rw[e4];exact T.an _ _ _
 have n4:h4.nx=h3.nx+1+1:=by rw[e4]
 have l4:=mE.lo;rw[<-e4];clear e4;refine J6 h4 _ ?_;obtain⟨h5,e5⟩:∃h5:ah,h5=⟨h4.nx+1,h4.bl.bx h4.nx (ai [X1 0,.slice none 0 0] 200 false),h4.lo⟩:=⟨_,rfl⟩
 have lI:Le h4 h5:=by rw[e5];exact(Le.refl h4).new _
 have gk5:h5.bl.get h4.nx=some (ai [X1 0,.slice none 0 0] 200 false):=by rw[e5];exact T.an _ _ _
 have n5:h5.nx=h4.nx+1:=by rw[e5]
 have l5:=lI.lo;rw[<-e5];clear e5;simp(disch:=try exact QQ)only[Wz];rw[rZ _ _ _ _ _ _ _ (by rw[Ai];rfl) (Nat.le_of_ble_eq_true rfl),ud];simp(disch:=try exact QQ)only[Wz,Ai];obtain⟨h6,e6⟩:∃h6:ah,h6=⟨h5.nx+1,h5.bl.bx h5.nx (ai [X3 tb,X3 lb,X3 pb,X3 h4.nx,X9 h3.nx n n,.map (some (h3.nx+1)),X1 0] 126 false),h5.lo⟩:=⟨_,rfl⟩
 have mR:Le h5 h6:=by rw[e6];exact(Le.refl h5).new _
 have gw6:h6.bl.get h5.nx=some (ai [X3 tb,X3 lb,X3 pb,X3 h4.nx,X9 h3.nx n n,.map (some (h3.nx+1)),X1 0] 126 false):=by rw[e6];exact T.an _ _ _
 have n6:h6.nx=h5.nx+1:=by rw[e6]
 have l6:=mR.lo;have hk:=hk h6 ⟨h5.nx,lb,hb,pb,ib,h4.nx,h3.nx,h3.nx+1,n⟩ ⟨tb,bw,bp,bl,c,vb,bf⟩ ⟨Ts,[],0,F,List.replicate c.R.toNat false⟩ ⟨List.replicate S none,List.replicate n 0,0,.slice none 0 0,List.replicate n none,[],0,0⟩;have t6:=t1.le (bK.trans (d_.trans (mE.trans (lI.trans mR))));have zD:=mE.trans (lI.trans mR);have Vb:=d_.trans zD;have nl:=Sj (a:=⟨tb,bw,bp,bl,c,vb,bf⟩) (d:=⟨Ts,[],0,F,List.replicate c.R.toNat false⟩) t6 (HG _);have hR:=hc.2.2.2.2.1;have aqv:=t1.is.Ax;rw[e6]at hk;refine hk ⟨rfl,rfl,t1.cH,nl.1,?_,rfl,?_,rfl,rfl,rfl,rfl⟩ ?_ (aY.trans (bF.trans (bK.trans (Vb.trans (by rw[e6];exact Le.refl _))))) ?_
 .have:=nl.2;simp only[List.length_replicate]at this
  show(F.length:Int)=c.R
  omega
 .show List.replicate S none=List.replicate c.S.toNat none
  rw[hS];rfl
 .rw[<-e6];have S_:∀(m:Nat)(f:Option CR->Value),f none=.pointer none->(List.replicate m (none:Option CR)).map f=List.replicate m (.pointer none):=λm f hf=>by rw[List.map_replicate,hf]
  have hm2:∀(m:Nat) (f:Option (Nat × Int)->Value),f none=.pointer none->(List.replicate m (none:Option (Nat × Int))).map f=List.replicate m (.pointer none):=λm f hf=>by rw[List.map_replicate,hf]
  refine⟨t6,⟨⟨by show h5.nx<h6.nx;omega,by show h6.lo<=h5.nx;omega⟩,gw6,by show lb<h6.nx;omega,?_,⟨by show hb<h6.nx;omega,by show h6.lo<=hb;omega⟩,?_,?_,by show pb<h6.nx;omega,?_,⟨by show ib<h6.nx;omega,by show h6.lo<=ib;omega⟩,?_,List.length_replicate ..,⟨by show h4.nx<h6.nx;omega,by show h6.lo<=h4.nx;omega⟩,?_,⟨by show h3.nx<h6.nx;omega,by show h6.lo<=h3.nx;omega⟩,?_,List.length_replicate ..,?_,⟨by show h3.nx+1<h6.nx;omega,by show h6.lo<=h3.nx+1;omega⟩,?_,hn,?_⟩,?_,?_,XV⟩
  .simp only[List.length_replicate];exact(zD.get _ q2).trans gl
  .rw[hm2 S _ rfl];exact(zD.get _ j2).trans gh
  .intro p hp;rw[List.mem_replicate]at hp;nomatch hp.2
  .exact(Vb.get _ p2).trans gp
  .exact(Vb.get _ i2).trans gi
  .exact(mR.get h4.nx XV).trans gk5
  .show h6.bl.get h3.nx=_
   rw[S_ n _ rfl];exact((lI.trans mR).get h3.nx XV).trans Oh
  .intro p hp;rw[List.mem_replicate]at hp;nomatch hp.2
  .exact((lI.trans mR).get (h3.nx+1) XV).trans gm4
  .rw[List.pairwise_replicate];exact .inr λc c' e=>nomatch e
  .show h3.nx+1≠bw;omega
  .intro b hb';have:=(t1.is.bk b hb').r7
   show h3.nx+1≠b.bm;omega
 ·intro x hx;rw[<-e6]at hx;obtain⟨_,_,Ec,_⟩:∃fs ls,bp<h1.nx/\h1.bl.get bp=some (ai [fs,ls] 286 false):=by
   obtain⟨fs,hg,_⟩:=t1.is.di.fr.cell;exact⟨fs,_,t1.is.di.fr.lt,hg⟩
  have:=fb1 x ((FB.congr ((bK.trans Vb).get bp Ec)).1 hx);omega
end Go.Proofs

namespace Go.Vai
open Go Go.RowKit
section
variable {α:Type}{s:Nat}{enc:α->List Value}
set_option maxRecDepth 20000 in
theorem sn{a h:ah}{e:TypeId}{z:List Value}{v x:Value}{L M:List α}(he:∀a:α,(enc a).length=s)(hone:∀a:α,(enc a).all eO=true)(hs0:0<s)(hs1:s<=100)(ho:eG enc a e h v L)(hx:Sl enc h x M)(hle:Le a h)(hb:L.length+M.length<=100000000)(hal:h.lo<=h.nx)(Y:KQ)(hk:∀v' h',eG enc a e h' v' (L++M)->Le a h'->h'.nx<=h.nx+1->h.nx<=h'.nx->h'.lo=h.lo->(∀b,b<h.nx->h.bl.get b≠some (ai (L.flatMap enc) e true)->h'.bl.get b=h.bl.get b)->Y v' h'):bt False And e s z false v x h Y:=by
 by_cases hM:M=[]
 .subst hM;rw[append_nil hx (by rcases ho with⟨rfl,rfl|⟨b,o,rfl⟩⟩|⟨b,rfl,_⟩<;>exact⟨_,_,_,rfl⟩)];exact hk v h (by simpa using ho) hle (Nat.le_succ _) (Nat.le_refl _) rfl (λ_ _ _=>rfl)
 .obtain⟨m,hm⟩:∃m,M.length=m+1:=⟨M.length-1,by have:=List.length_pos_iff.2 hM;omega⟩
  have hfl:=bg (enc:=enc) he;have fh:=hx.first (β:=Prop) (fl:=False) he;obtain⟨y,cap,rfl,h2⟩:=hx;have hml:∀K:List α,K.length<=100000000->(K.flatMap enc).length<=1000000000000:=λK hK=>by
   rw[hfl];have:=Nat.mul_le_mul hK hs1;omega
  have fresh:∀(hh:ah)(ws:List Value),ws=(L++M).flatMap enc->Le a hh->hh.nx=h.nx->hh.lo=h.lo->(∀b,b<h.nx->h.bl.get b≠some (ai (L.flatMap enc) e true)->hh.bl.get b=h.bl.get b)->cG False ws e true hh λb h'=>Y (.slice (some ⟨b,0,none⟩) (L.length+M.length) aS) h':=by
   intro hh ws hw O7 hnx hlo hgt;subst hw;unfold cG;rw[iS _ _ _ _ (hml _ (by simp;omega)),dJ];refine hk _ _ (.inr ⟨hh.nx,by simp,O7.nx,Nat.lt_succ_self _,by show hh.lo<=_;omega,T.an _ _ _⟩) (O7.new _) (by show hh.nx+1<=_;omega) (by show h.nx<=hh.nx+1;omega) hlo (λb hb hn=>(T.au _ _ XV).trans (hgt b hb hn))
  rcases ho with⟨rfl,hv⟩|⟨b,rfl,h3,h4,h5,h6⟩
  .have hF:=fresh h (M.flatMap enc) (by simp) hle rfl rfl (λ_ _ _=>rfl);simp only[List.length_nil,Nat.zero_add]at hF;rcases hv with rfl|⟨b,o,rfl⟩
   .unfold bt jf;simp only;rw[fh];simp only[hm,bR];rw[show Nat.ble (Nat.add 0 (m+1)) 1000000000=true from Nat.ble_eq_true_of_le (by show 0+(m+1)<=_;omega)];rw[hm]at hF;have e1:Nat.add 0 (m+1)=m+1:=by show 0+(m+1)=_;omega
    rw[e1];exact hF
   .unfold bt jf;simp only;rw[fh];simp only[hm,bR];have e1:Nat.add 0 (m+1)=m+1:=by show 0+(m+1)=_;omega
    rw[e1,show Nat.ble (m+1) 1000000000=true from Nat.ble_eq_true_of_le XV];rw[hm]at hF
    show fo False h s 0 _ _
    rw[jy _ _ _ _ _ (by simp)];exact hF
  .unfold bt jf;simp only;rw[fh];simp only[hm,bR];have e1:Nat.add L.length (m+1)=L.length+(m+1):=rfl;rw[e1,show Nat.ble (L.length+(m+1)) 1000000000=true from Nat.ble_eq_true_of_le XV];have e2:Nat.beq aS fT=false:=by decide
   have e3:Nat.beq aS aS=true:=Nat.beq_refl _;simp only[e2,e3,h6];have e4:Nat.ble (Nat.add 0 (Nat.mul (L.length+(m+1)) s)) (L.flatMap enc).length=false:=by
    rw[hfl];cases Iu:Nat.ble (Nat.add 0 (Nat.mul (L.length+(m+1)) s)) (L.length*s)with
    |false=>rfl
    |true=>
     have h7:0+(L.length+(m+1))*s<=L.length*s:=Nat.le_of_ble_eq_true Iu;rw[Nat.add_mul,Nat.succ_mul]at h7;omega
   have e5:(M.flatMap enc).all eO=true:=by
    rw[List.all_flatMap];simp only[List.all_eq_true];intro x _;exact List.all_eq_true.1 (hone x)
   simp only[ai,Nat.beq_refl,e4,e5,Bool.and_self];have hh:Has (h.bl.get b) 0 (L.flatMap enc):=by rw[h6];exact Has.all
   rw[jX hh s L.length _ _ _ (hfl L).symm,bI _ _ _ _ h5];have hF:=fresh ⟨h.nx,h.bl.bx b (.dead (L.flatMap enc).length e),h.lo⟩ (L.flatMap enc++M.flatMap enc) (by simp) (hle.set h3 _) rfl rfl (λb' _ hn=>T.au _ _ (λe=>hn (by rw[<-e];exact h6)));rw[hm]at hF;exact hF
end
section
variable {P:Program}{α:Type}{enc:α->List Value}{s:Nat}{ti:TypeId}{f g:FuncId}
theorem NK(mix:P.follows .mixedOrders=true)(he:∀a:α,(enc a).length=s)(hb:∀a0 a1 h Y,aO P f [a0,a1] h Y=eu P ti s a0 a1 h Y)(L:List α)(F:α->Bool)(h:ah)(v fv:Value)(Y:KQ)(hv:Sl enc h v L)(hlen:L.length<=100000000)(hF:∀p,p∈L->∀(h1:ah)(κ1:Value->ah->Prop),Le h h1->(∀h2,Le h1 h2->κ1 (.bool (F p)) h2)->jL P fv [wV enc p] h1 κ1)(hk:∀h',Le h h'->Y (.int .i64 (gQ (L.findIdx? F))) h'):aj P f [v,fv] h Y:=by
 refine ay mix ?_;rw[hb];unfold eu;simp only[hv.len];refine⟨λn l h1=>Le h h1/\∃k:Nat,aa l 12=.int .i64 (k:Int)/\k<=L.length/\n=L.length-k/\∀(j:Nat) p,j<k->L[j]? = some p->F p=false,⟨_,Le.refl _,0,rfl,Nat.zero_le _,rfl,XV⟩,?_⟩;rintro n l h1 ⟨hle,k,hs,MM,rfl,hno⟩;by_cases hlt:k<L.length
 .obtain⟨p,hp⟩:∃p,L[k]? = some p:=⟨_,List.getElem?_eq_getElem hlt⟩
  obtain⟨b,o,hb,oQ,mO,_⟩:=(hv.le hle).ld he k hp;simp(disch:=try exact QQ)only[Wz,hs,oQ,mO];refine hF p (List.mem_of_getElem? hp) h1 _ hle ?_;intro h2 hle2;cases hc:F p with
  |true=>
   simp(disch:=try exact QQ)only[Wz,hs];have hk2:=hk h2 (hle.trans hle2);rw[EN hp hc hno]at hk2;exact hk2
  |false=>
   simp(disch:=try exact QQ)only[Wz,hs];refine⟨_,XV,hle.trans hle2,k+1,rfl,XV,rfl,λj q hj hq=>?_⟩;rcases Nat.lt_or_ge j k with h4|h4
   .exact hno j q h4 hq
   .obtain rfl:j=k:=by omega
    rw[hp]at hq;cases hq;exact hc
 .simp(disch:=try exact QQ)only[Wz,hs];have hk2:=hk h1 hle;rw[EO λj q hq=>hno j q (by have:=(List.getElem?_eq_some_iff.1 hq).1;omega) hq]at hk2;exact hk2
theorem NL(mix:P.follows .mixedOrders=true)(he:∀a:α,(enc a).length=s)(hone:∀a:α,(enc a).all eO=true)(hs0:0<s)(hs1:s<=100){tS e:TypeId}{z:List Value}(hq:BG P tS)(hb:∀a0 h Y,aO P f [a0] h Y=r5 P tS e s z a0 h Y)(L:List α)(h:ah)(v:Value)(Y:KQ)(hv:Sl enc h v L)(hlen:L.length<=100000000)(hlo:h.lo<=h.nx)(hk:∀v' h',eG enc h e h' v' L->Le h h'->Y v' h'):aj P f [v] h Y:=by
 refine ay mix ?_;rw[hb];unfold r5;have hv0:=hv;obtain⟨x,cap,rfl,hx⟩:=hv;cases x with
 |none=>
  simp(disch:=try exact QQ)only[Wz,EP hq];by_cases hL:L=[]
  .exact hk _ _ (.inl ⟨hL,.inl rfl⟩) (Le.refl _)
  .obtain⟨b,o,e,_⟩:=hx hL;cases e
 |some a=>
  simp(disch:=try exact QQ)only[Wz,ES hq];have hle:=(Le.refl h).new (ai [] e false);refine sn (enc:=enc) (a:=h) (L:=[]) (M:=L) he hone hs0 hs1 (.inl ⟨rfl,.inr ⟨_,_,rfl⟩⟩) (hv0.le hle) hle (by simpa using hlen) (by show h.lo<=h.nx+1;omega) _ ?_;intro v' h' ho hl _ _ _ _;exact hk v' h' (by simpa using ho) hl
theorem J7(mix:P.follows .mixedOrders=true)(he:∀a:α,(enc a).length=s)(hone:∀a:α,(enc a).all eO=true)(hs0:0<s){e:TypeId}{z:List Value}(hz:z.length=s)(Iq:z.all eO=true)(hs1:s<=1000)(hg:∀a0 a1 h Y,aO P g [a0,a1] h Y=eu P ti s a0 a1 h Y)(hb:∀a0 a1 h Y,aO P f [a0,a1] h Y=iT P ti g e s z a0 a1 h Y)(a h:ah)(L:List α)(F:α->Bool)(v fv:Value)(Y:KQ)(hle:Le a h)(ho:eG enc a e h v L)(hlen:L.length<=100000000)(hlo:a.lo<=a.nx)(hF:∀p,∀(h1:ah)(κ1:Value->ah->Prop),Le a h1->(h.nx<=h1.nx/\∀c,c<h.nx->h.bl.get c≠some (ai (L.flatMap enc) e true)->h1.bl.get c=h.bl.get c)->(∀h2,Le h1 h2->κ1 (.bool (F p)) h2)->jL P fv [wV enc p] h1 κ1)(hk:∀v' h',Sl enc h' v' (L.filter λp=>!F p)->Cut e s h' v' (L.filter λp=>!F p).length->Le a h'->(h.nx<=h'.nx/\∀c,c<h.nx->h.bl.get c≠some (ai (L.flatMap enc) e true)->h'.bl.get c=h.bl.get c)->mQ e h' v'->Y v' h'):aj P f [v,fv] h Y:=by
 refine ay mix ?_;rw[hb];unfold iT;refine NK mix he hg L F h v fv _ ho.sl XV (λp _ h1 κ1 hl gP=>hF p h1 κ1 (hle.trans hl) ⟨hl.nx,λc hc _=>hl.get c hc⟩ gP) ?_;intro h1 hle1;have ue:=hle.trans hle1;have n1:=ue.nx;have l1:=ue.lo;rcases jZ L F with⟨e1,e2⟩|⟨i0,p0,e1,e2,e3,e4⟩
 .simp only[e1,gQ];simp(disch:=try exact QQ)only[Wz];have:(L.filter λp=>!F p)=L:=List.filter_eq_self.2 λp hp=>by simp[e2 p hp]
  rw[this]at hk;exact hk v h1 (ho.sl.le hle1) ((Cut.own he ho).le hle1) ue ⟨hle1.nx,λc hc _=>hle1.get c hc⟩ (mQ.own (ho.le hle1))
 ·simp only[e1,gQ];have XJ:i0<L.length:=(List.getElem?_eq_some_iff.1 e2).1;have CO:(L.take i0).filter (λp=>!F p)=L.take i0:=List.filter_eq_self.2 λp hp=>by
   obtain⟨j,hj⟩:=List.getElem?_of_mem hp;have hj':j<i0:=by have:=(List.getElem?_eq_some_iff.1 hj).1;simp at this;omega
   rw[List.getElem?_take_of_lt hj']at hj;simp[e4 j p hj' hj]
  rcases ho with⟨rfl,_⟩|⟨b,rfl,b1,b20,b30,Od⟩
  .simp at XJ
  have m1:=hle1.nx;have b2:b<h1.nx:=by omega
  have b3:h1.lo<=b:=by rw[hle1.lo];exact b30
  have b4:h1.bl.get b=some (ai (L.flatMap enc) e true):=(hle1.get b b20).trans Od;simp(disch:=try exact QQ)only[Wz]
  refine ⟨λn l h2=>Le a h2/\b<h2.nx/\(h.nx<=h2.nx/\∀c,c<h.nx->c≠b->h2.bl.get c=h.bl.get c)/\∃(j i:Nat)(K:List α),aa l 22=.int .i64 (j:Int)/\aa l 19=.int .i64 (i:Int)/\j<=L.length/\i<j/\n=L.length-j/\K.length=L.length/\
    K.take i=(L.take j).filter (λp=>!F p)/\K.drop j=L.drop j/\h2.bl.get b=some (ai (K.flatMap enc) e true),
   ⟨_,ue,b2,⟨m1,λc hc _=>hle1.get c hc⟩,i0+1,i0,L,rfl,rfl,XV,XV,rfl,rfl,?_,rfl,b4⟩,?_⟩
  .rw[gY e2,CO,e3];simp
  rintro n l h2 ⟨hle2,sv,hfr,j,i,K,s1,s2,hj,hij,rfl,hK,Pu,Wb,hg2⟩;have n2:=hle2.nx;have l2:=hle2.lo;have hfl:=bg (enc:=enc) he K;by_cases hlt:j<L.length
  .obtain⟨p,hp⟩:∃p,L[j]? = some p:=⟨_,List.getElem?_eq_getElem hlt⟩
   have hpK:K[j]? = some p:=by
    have:(K.drop j)[0]? = (L.drop j)[0]?:=by rw[Wb]
    simpa[hp]using this
   have ET:Sl enc h2 (.slice (some ⟨b,0,none⟩) L.length aS) K:=⟨_,aS,by rw[hK],λ_=>⟨b,0,rfl,sv,by rw[hg2];exact Has.all⟩⟩
   obtain⟨b',o',hb',oQ,mO,_⟩:=ET.ld he j hpK;have bat:=oQ Nat 0 h2 λv _=>match v with | .pointer (some a)=>a.block|_=>0
   rw[aX _ _ _ _ _ _ _ _ hlt]at bat;have Iu:b=b':=bat;subst Iu;have hep:=he p;have hop:=hone p;have XK:(enc p).take s=enc p:=by rw[<-hep,List.take_length]
   have Xh:=qN z (enc p) XV;simp(disch:=try exact QQ)only[Wz,s1,s2,oQ,mO];refine⟨λl h'=>Le a h'/\b<h'.nx/\(h.nx<=h'.nx/\∀c,c<h.nx->c≠b->h'.bl.get c=h.bl.get c)/\∃(i':Nat)(K':List α),aa l 15=.int .i64 (i':Int)/\i'<j+1/\K'.length=L.length/\
    K'.take i'=(L.take (j+1)).filter (λp=>!F p)/\K'.drop (j+1)=L.drop (j+1)/\h'.bl.get b=some (ai (K'.flatMap enc) e true),?_,?_⟩
   ·simp(disch:=try exact QQ)only[Wz,s1,s2,oQ,mO,XH he hone p,XK,Xh];have Pv:=hle2.new (ai (enc p) e false);refine hF p _ _ Pv ⟨by have:=hfr.1;show h.nx<=h2.nx+1;omega,λc hc hne=>(T.au _ _ (by have:=hfr.1;omega)).trans (hfr.2 c hc (λe=>hne (by rw[e];exact Od)))⟩ ?_;intro h3 dn;have n3:=dn.nx;have l3:=dn.lo;dsimp only at n3 l3;have g3:h3.bl.get h2.nx=some (ai (enc p) e false):=(dn.get h2.nx (Nat.lt_succ_self _)).trans (T.an _ _ _);have XL:h3.bl.get b=some (ai (K.flatMap enc) e true):=by
     rw[dn.get b (by show b<h2.nx+1;omega)]
     show(h2.bl.bx h2.nx _).get b=_
     rw[T.au _ _ XV];exact hg2
    have m_:=Pv.trans dn;have vr:h.nx<=h3.nx/\∀c,c<h.nx->c≠b->h3.bl.get c=h.bl.get c:=by
     have q0:=hfr.1;refine⟨XV,λc hc hne=>?_⟩;have e1:(h2.bl.bx h2.nx (ai (enc p) e false)).get c=h2.bl.get c:=T.au _ _ XV;exact(dn.get c (by show c<h2.nx+1;omega)).trans (e1.trans (hfr.2 c hc hne))
    cases hc:F p with
    |true=>
     simp(disch:=try exact QQ)only[Wz,s2];exact⟨m_,XV,vr,i,K,rfl,XV,hK,by rw[gY hp,hc];simpa using Pu,by rw[<-List.drop_drop,Wb,List.drop_drop],XL⟩
    |false=>
     have Ar:=gJ he K i p XV;have hbd:i*s+s<=(K.flatMap enc).length:=by rw[hfl,<-Nat.succ_mul];exact Nat.mul_le_mul_right _ XV
     simp(disch:=try exact QQ)only[Wz,s2,g3,XL,aX,XH he hone p,XK,Ar];refine⟨m_.set b1 _,XV,⟨vr.1,λc hc hne=>(T.au _ _ (λe=>hne e.symm)).trans (vr.2 c hc hne)⟩,i+1,K.set i p,rfl,XV,by simpa using hK,?_,?_,rfl⟩
     .rw[gY hp,hc,<-Pu];have hiK:i<K.length:=by omega
      rw[List.take_succ_eq_append_getElem (by simpa using hiK)];simp[List.take_set_of_le]
     .rw[List.drop_set_of_lt XV,<-List.drop_drop,Wb,List.drop_drop]
   .rintro l8 h3 ⟨dn,Ed,vr,i',K',s3,hi',XM,XN,XP,hg3⟩;simp(disch:=try exact QQ)only[Wz,s1,s3];exact⟨_,XV,dn,Ed,vr,j+1,i',K',rfl,rfl,XV,hi',rfl,XM,XN,XP,hg3⟩
  .have hjL:j=L.length:=by omega
   subst hjL;rw[List.take_length]at Pu;have r1:=xz hz (L.length-i);have r2:=xA Iq (L.length-i);have hbd:i*s+(L.length-i)*s=L.length*s:=by rw[<-Nat.add_mul];congr 1;omega
   simp(disch:=try exact QQ)only[Wz,s1,s2,jY (n:=L.length) (i:=i) hs0 hg2 (by rw[hfl,hK]) XV];rw[mZ hg2 XV (by rw[r1,hfl,hK];omega) r2 XV];have vt:(over (K.flatMap enc) (i*s) (aV z (L.length-i))).length=L.length*s:=by
    rw[jx (by rw[r1,hfl,hK];omega),hfl,hK]
   rw[oA (n:=L.length) (i:=i) (vs:=over (K.flatMap enc) (i*s) (aV z (L.length-i))) hs0 (T.an _ _ _) vt XV XV];have EU:(L.filter λp=>!F p).length=i:=by rw[<-Pu];simp;omega
   refine hk _ _ ⟨_,aS,by rw[EU],λ_=>⟨b,0,rfl,sv,?_⟩⟩ (.inr (.inr (.inr ⟨b,_,L.length,by rw[EU],sv,T.an _ _ _,vt,XV⟩))) (hle2.set b1 _) ⟨hfr.1,λc hc hne=>(T.au _ _ (λe=>hne (by rw[<-e];exact Od))).trans (hfr.2 c hc (λe=>hne (by rw[e];exact Od)))⟩ ?_
   rotate_left
   .intro b' o' n' c' vT _;cases vT;exact⟨sv,_,_,T.an _ _ _⟩
   have hh:Has (some (ai (over (K.flatMap enc) (i*s) (aV z (L.length-i))) e true)) 0 (((over (K.flatMap enc) (i*s) (aV z (L.length-i))).drop 0).take (i*s)):=Has.cells (by rw[vt];exact Nat.le_trans XV (Nat.le_refl _));have e9:((over (K.flatMap enc) (i*s) (aV z (L.length-i))).drop 0).take (i*s)=(L.filter λp=>!F p).flatMap enc:=by
    have aho:i*s<=K.length*s:=Nat.mul_le_mul_right _ XV;rw[<-Pu,List.drop_zero,over,List.append_assoc,List.take_append_of_le_length (by rw[List.length_take,hfl];omega),List.take_take,Nat.min_self,mg he]
   rw[e9]at hh
   show Has ((h2.bl.bx b _).get b) 0 _
   rw[T.an];exact hh
end
end Go.Vai

namespace Go.Vai
structure nG (E:List (Int × Int)) (f:Int) (O:List Int) (bk:Int→Option Int):Prop where
 mem:∀k,(bk k).isSome=true↔k∈O
 nd:O.Nodup
 sub:∀k∈O,k∈E.map (·.2)
 bak:∀(i:Nat) (k:Int),O[i]? = some k→∃a,bk k=some a∧(∃t,(a,t)∈E)∧(a=f∨∃j,j<i∧O[j]? = some a)
theorem nG.nil {E:List (Int × Int)} {f:Int}:nG E f [] fun _=>none:=
 ⟨fun k=>by simp,List.nodup_nil,by simp,by simp⟩
theorem nG.add {E:List (Int × Int)} {f:Int} {O:List Int} {bk bk':Int→Option Int} (w:nG E f O bk) {k a:Int} (hk:bk k=none) (he:(a,k)∈E) (ha:a=f∨a∈O) (hb:∀j,bk' j=if j=k then some a else bk j):nG E f (O++[k]) bk':=by
 have QJ:k∉O:=fun h=>by have:=(w.mem k).2 h; rw[hk] at this; cases this
 refine ⟨fun j=>?_,?_,?_,?_⟩
 ·rw[hb]
  by_cases hj:j=k
  ·subst hj; simp
  ·rw[if_neg hj,w.mem j]; simp[hj]
 ·rw[List.nodup_append]
  refine ⟨w.nd,by simp,?_⟩
  intro x hx y hy
  simp at hy
  subst hy
  rintro rfl
  exact QJ hx
 ·intro j hj
  rcases List.mem_append.1 hj with h | h
  ·exact w.sub j h
  ·simp at h; subst h; exact List.mem_map.2 ⟨_,he,rfl⟩
 ·intro i j hj
  rcases Nat.lt_or_ge i O.length with hi | hi
  ·rw[List.getElem?_append_left hi] at hj
   obtain ⟨b,h1,h2,h3⟩:=w.bak i j hj
   have hjO:j∈O:=List.mem_of_getElem? hj
   refine ⟨b,?_,h2,?_⟩
   ·rw[hb,if_neg (fun e:j=k=>QJ (e▸hjO))]; exact h1
   ·rcases h3 with h3 | ⟨q,h3,h4⟩
    ·exact .inl h3
    ·exact .inr ⟨q,h3,by rw[List.getElem?_append_left (by omega)]; exact h4⟩
  ·rw[List.getElem?_append_right hi] at hj
   have h0:i-O.length=0:=by
    rcases Nat.eq_zero_or_pos (i-O.length) with h | h
    ·exact h
    ·rw[List.getElem?_eq_none (by simp; omega)] at hj; cases hj
   rw[h0] at hj
   simp at hj
   subst hj
   refine ⟨a,by rw[hb,if_pos rfl],⟨_,he⟩,?_⟩
   rcases ha with ha | ha
   ·exact .inl ha
   ·obtain ⟨q,hq⟩:=List.getElem?_of_mem ha
    have:=(List.getElem?_eq_some_iff.1 hq).1
    exact .inr ⟨q,by omega,by rw[List.getElem?_append_left this]; exact hq⟩
theorem NM:∀(O U:List Int),O.Nodup→(∀x∈O,x∈U)→O.length≤U.length:=by
 intro O
 induction O with
 | nil=>intro _ _ _; exact Nat.zero_le _
 | cons x O ih=>
  intro U hn hs
  rw[List.nodup_cons] at hn
  have h1:=ih (U.erase x) hn.2 fun y hy=>(List.mem_erase_of_ne (fun e:y=x=>hn.1 (e▸hy))).2 (hs y (.tail _ hy))
  have h2:=hs x (.head _)
  rw[List.length_erase_of_mem h2] at h1
  have:=List.length_pos_of_mem h2
  rw[List.length_cons]; omega
theorem nG.len {E:List (Int × Int)} {f:Int} {O:List Int} {bk:Int→Option Int} (w:nG E f O bk):O.length≤E.length:=by
 have:=NM O _ w.nd w.sub
 simpa using this
def left (U O:List Int):Nat:=(U.filter fun u=>decide (u∉O)).length
theorem Sk {U O:List Int} {k:Int} (hU:k∈U) (hk:k∉O):left U (O++[k])+1≤left U O:=by
 have hle:∀U:List Int,left U (O++[k])≤left U O:=by
  intro U
  induction U with
  | nil=>exact Nat.le_refl _
  | cons u U ih=>
   unfold left at ih ⊢
   simp only[List.filter_cons]
   by_cases h1:u∈O
   ·rw[if_neg (by simp[h1]),if_neg (by simp[h1])]; exact ih
   ·by_cases h2:u=k
    ·subst h2; rw[if_neg (by simp),if_pos (by simp[h1])]; simp only[List.length_cons]; omega
    ·rw[if_pos (by simp[h1,h2]),if_pos (by simp[h1])]; simp only[List.length_cons]; omega
 induction U with
 | nil=>cases hU
 | cons u U ih=>
  have hs:∀O:List Int,left (u::U) O=left U O+if u∈O then 0 else 1:=by
   intro O
   unfold left
   simp only[List.filter_cons]
   by_cases h:u∈O<;>simp[h]
  rw[hs,hs]
  rcases List.mem_cons.1 hU with rfl | h
  ·have:=hle U
   rw[if_pos (by simp),if_neg hk]; omega
  ·have:=ih h
   by_cases h1:u∈O
   ·rw[if_pos (by simp[h1]),if_pos h1]; omega
   ·by_cases h2:u=k
    ·subst h2; rw[if_pos (by simp),if_neg h1]; omega
    ·rw[if_neg (by simp[h1,h2]),if_neg h1]; omega
def At (f:Int) (O:List Int) (n:Nat) (a:Int):Prop:=a=f∨∃j,j<n∧O[j]? = some a
theorem nG.start {E:List (Int × Int)} {f a:Int} {O:List Int} {bk:Int→Option Int} (w:nG E f O bk) (h:bk f=some a):At f O O.length a∧∃t,(a,t)∈E:=by
 have hm:=(w.mem f).1 (by rw[h]; rfl)
 obtain ⟨i,hi⟩:=List.getElem?_of_mem hm
 obtain ⟨b,h1,h2,h3⟩:=w.bak i f hi
 rw[h] at h1
 cases h1
 have:=(List.getElem?_eq_some_iff.1 hi).1
 refine ⟨?_,h2⟩
 rcases h3 with h3 | ⟨j,h3,h4⟩
 ·exact .inl h3
 ·exact .inr ⟨j,by omega,h4⟩
theorem nG.next {E:List (Int × Int)} {f a:Int} {O:List Int} {bk:Int→Option Int} (w:nG E f O bk) {n:Nat} (h:At f O n a) (hn:a≠f):∃b m,bk a=some b∧n=m+1∧At f O m b∧∃t,(b,t)∈E:=by
 rcases h with h | ⟨j,h1,h2⟩
 ·exact absurd h hn
 ·obtain ⟨b,h3,h4,h5⟩:=w.bak j a h2
  refine ⟨b,n-1,h3,by omega,?_,h4⟩
  rcases h5 with h5 | ⟨q,h5,h6⟩
  ·exact .inl h5
  ·exact .inr ⟨q,by omega,h6⟩
def qg (T:List Int) (E:List (Int × Int)):Nat:=(T.filter fun t=>E.any fun e=>decide (e.1=t)).length
theorem DD {T:List Int} {E:List (Int × Int)} {v:Int} (hT:v∈T) (hv:∃t,(v,t)∈E) (E':List (Int × Int)) (hE:∀e∈E',e∈E∧e.1≠v):qg T E'+1≤qg T E:=by
 have h1:∀t,(E'.any fun e=>decide (e.1=t))=true→(E.any fun e=>decide (e.1=t))=true:=by
  intro t h
  obtain ⟨e,he,h⟩:=List.any_eq_true.1 h
  exact List.any_eq_true.2 ⟨e,(hE e he).1,h⟩
 have h2:(E'.any fun e=>decide (e.1=v))=false:=by
  cases hh:E'.any fun e=>decide (e.1=v) with
  | false=>rfl
  | true=>
   obtain ⟨e,he,h⟩:=List.any_eq_true.1 hh
   exact absurd (of_decide_eq_true h) (hE e he).2
 have h3:(E.any fun e=>decide (e.1=v))=true:=by
  obtain ⟨t,h⟩:=hv
  exact List.any_eq_true.2 ⟨_,h,decide_eq_true rfl⟩
 have hle:∀T:List Int,qg T E'≤qg T E:=by
  intro T
  induction T with
  | nil=>exact Nat.le_refl _
  | cons t T ih=>
   unfold qg at ih ⊢
   simp only[List.filter_cons]
   by_cases a1:(E'.any fun e=>decide (e.1=t))=true
   ·rw[if_pos a1,if_pos (h1 t a1)]; simp only[List.length_cons]; omega
   ·rw[if_neg a1]
    split
    ·simp only[List.length_cons]; omega
    ·exact ih
 induction T with
 | nil=>cases hT
 | cons t T ih=>
  have hle:=hle T
  unfold qg at ih hle ⊢
  simp only[List.filter_cons]
  rcases List.mem_cons.1 hT with rfl | h
  ·rw[if_neg (by rw[h2]; decide),if_pos h3]; simp only[List.length_cons]; omega
  ·have:=ih h
   by_cases a1:(E'.any fun e=>decide (e.1=t))=true
   ·rw[if_pos a1,if_pos (h1 t a1)]; simp only[List.length_cons]; omega
   ·rw[if_neg a1]
    split
    ·simp only[List.length_cons]; omega
    ·exact this
theorem Sm (T:List Int) (E:List (Int × Int)):qg T E≤T.length:=List.length_filter_le _ _
end Go.Vai

namespace Go.Vai
open Go
section
variable {α:Type}{s:Nat}{enc:α->List Value}
def mK(enc:α->List Value)(s:Nat)(e:TypeId)(B:Nat)(h:ah)(v:Value)(L:List α)(o:Option Nat):Prop:=
 ee enc s e B h v L o\/(L=[]/\o=none/\∃b q,v=.slice (some ⟨b,q,none⟩) 0 0)
def J8(enc:α->List Value)(s:Nat)(e:TypeId)(B:Nat)(h:ah)(v:Value)(L:List α)(o:Option Nat):Prop:=
 mK enc s e B h v L o\/(o=none/\∃b x,L=[x]/\v=.slice (some ⟨b,0,none⟩) 1 1/\b<h.nx/\h.bl.get b=some (ai (enc x) e false))
theorem mK.sl(he:∀a:α,(enc a).length=s){e:TypeId}{B:Nat}{h:ah}{v:Value}{L:List α}{o:Option Nat}(t:mK enc s e B h v L o):Sl enc h v L:=by
 rcases t with t|⟨rfl,_,b,q,rfl⟩
 .exact t.sl he
 .exact Sl.nil _ _ _
theorem J8.sl(he:∀a:α,(enc a).length=s){e:TypeId}{B:Nat}{h:ah}{v:Value}{L:List α}{o:Option Nat}(t:J8 enc s e B h v L o):Sl enc h v L:=by
 rcases t with t|⟨_,b,x,rfl,rfl,h2,h3⟩
 .exact t.sl he
 .have:=Sl.new (enc:=enc) (L:=[x]) (e:=e) (op:=false) h2 (by rw[h3];simp) 1;exact this
theorem mK.keep{e:TypeId}{B:Nat}{h h':ah}{v:Value}{L:List α}{o:Option Nat}(t:mK enc s e B h v L o)(hn:h.nx<=h'.nx)(hl:h'.lo=h.lo)(hg:∀b,o=some b->h'.bl.get b=h.bl.get b):mK enc s e B h' v L o:=by
 rcases t with t|t
 .exact .inl (t.keep hn hl hg)
 .exact .inr t
theorem mK.some{e:TypeId}{B:Nat}{h:ah}{v:Value}{L:List α}{o:Option Nat}(t:mK enc s e B h v L o){b:Nat}(hb:o=.some b):b<h.nx/\∃vs,h.bl.get b=.some (ai vs e true):=by
 subst hb;rcases t with(⟨_,_,h⟩|⟨b',G,h1,h2,h3,h4,_⟩)|⟨_,h,_⟩
 .cases h
 .cases h1;exact⟨h2,_,h4⟩
 .cases h
theorem mK.append{h:ah}{e:TypeId}{z:List Value}{v x:Value}{o:Option Nat}{L M:List α}{B:Nat}(he:∀a:α,(enc a).length=s)(hone:∀a:α,(enc a).all eO=true)(hs0:0<s)(hs1:s<=100)(t:mK enc s e B h v L o)(hx:Sl enc h x M)(hB:B+M.length<=1000000000)(hM:M≠[])(hM1:M.length<=1000)(hlo:h.lo<=h.nx)(Y:KQ)(hk:∀v' o' h',mK enc s e (B+M.length) h' v' (L++M) o'->h.nx<=h'.nx->h'.lo=h.lo->(∀b,b<h.nx->o≠.some b->h'.bl.get b=h.bl.get b)->(o'=o\/∃b,o'=.some b/\h.nx<=b/\b<h'.nx)->Y v' h'):bt False And e s z false v x h Y:=by
 rcases t with t|⟨rfl,rfl,b,q,rfl⟩
 .exact ee.append he hone hs0 hs1 t hx hB hlo Y λv' o' h' t' h1 h2 h3 h4=>hk v' o' h' (.inl t') h1 h2 h3 h4
 .refine eN (a:=h) (L:=[]) he hone hs0 hs1 (.inl ⟨rfl,.inr ⟨b,q,rfl⟩⟩) hx (Le.refl h) (by simp;omega) hlo Y ?_;intro v' h' ho hle n1 n2 l1 hf;rcases ho with⟨h1,_⟩|⟨b',rfl,h1,h2,h3,h4⟩
  .exact absurd (by simpa using h1) hM
  .refine hk _ (.some b') h' (.inl (.inr ⟨b',[],rfl,h2,h3,by simpa using h4,by simp,?_⟩)) n2 l1 (λc hc _=>hle.get c hc) (.inr ⟨b',rfl,h1,h2⟩);rw[if_neg (by simpa using hM)];simp
theorem J8.cut(he:∀a:α,(enc a).length=s)(hs0:0<s){h:ah}{e:TypeId}{v:Value}{o:Option Nat}{x:α}{L:List α}{B:Nat}(t:J8 enc s e B h v (x::L) o):∃v',mK enc s e B h v' L o/\∀(β:Type)(fl:β)(Y:XW β),sliceB fl e s v (.some (.int .i64 1)) none none h Y=Y v' h:=by
 rcases t with(t|⟨h0,_⟩)|⟨rfl,b,x',h1,rfl,h2,h3⟩
 .obtain⟨v',t',h'⟩:=t.cut he hs0;exact⟨v',.inl t',h'⟩
 .cases h0
 .cases h1;refine⟨.slice (.some ⟨b,0,none⟩) 0 0,.inr ⟨rfl,rfl,b,0,rfl⟩,λβ fl Y=>?_⟩;have e1:Nat.beq 1 fT=false:=by decide
  have e2:Nat.beq 1 aS=false:=by decide
  have e3:Nat.ble 1 9223372036854775807=true:=by decide
  unfold sliceB;simp only[e1,e2,e3];rfl
theorem J8.val{h:ah}{e:TypeId}{v:Value}{o:Option Nat}{L:List α}{B:Nat}(t:J8 enc s e B h v L o):∃x cc,v=.slice x L.length cc:=by
 rcases t with(t|⟨rfl,_,b,q,rfl⟩)|⟨_,b,x,rfl,rfl,_⟩
 .exact t.val
 .exact⟨_,_,rfl⟩
 .exact⟨_,_,rfl⟩
end
end Go.Vai

namespace Go.Proofs
open Go.Vai Go.Clashes
open Tryz (prog)
structure NX where
 k:Int
 v:Value
 L:List Int
 o:Option Nat
 born:Nat
def Mh(e:NX):MapEntry:={ key:=X1 e.k,val:=e.v,born:=e.born }
def NN(W:List NX)(k:Int):Option NX:=W.find? λe=>decide (k=e.k)
theorem WZ(h:ah)(k:Int):∀(M:List NX)(i:Nat),(fN prog h 3 (X1 k) (M.map Mh) i=some none/\NN M k=none)\/
  ∃(j:Nat)(e:NX),fN prog h 3 (X1 k) (M.map Mh) i=some (some (i+j,Mh e))/\M[j]? = some e/\k=e.k/\NN M k=some e:=by
 intro M
 induction M with
 |nil=>intro i;exact .inl ⟨rfl,rfl⟩
 |cons e M ih=>
  intro i;have hf:fN prog h 3 (.int .i64 k) ((e::M).map Mh) i=(match(some (decide (k=e.k)):Option Bool)with|some true=>some (some (i,Mh e))|some false=>fN prog h 3 (.int .i64 k) (M.map Mh) (Nat.succ i)|none=>none):=by
   rw[<-eqI h];rfl
  rw[hf];unfold NN;by_cases h1:k=e.k
  .rw[bq h1];exact .inr ⟨0,e,rfl,rfl,h1,by rw[List.find?_cons,bq h1]⟩
  .rw[a_ h1];rcases ih (Nat.succ i)with⟨g1,g2⟩|⟨j,e',g1,g2,g3,g4⟩
   .exact .inl ⟨g1,by rw[List.find?_cons,a_ h1];exact g2⟩
   .exact .inr ⟨j+1,e',by rw[show i+(j+1)=Nat.succ i+j by omega];exact g1,g2,g3,by rw[List.find?_cons,a_ h1];exact g4⟩
theorem uP{W:List NX}{k:Int}{e:NX}(h:NN W k=some e):e∈W/\k=e.k:=by
 refine⟨List.mem_of_find?_eq_some h,?_⟩;have:=List.find?_some h;exact of_decide_eq_true this
def w_(W:List NX)(k:Int):Value:=match NN W k with|some e=>e.v|none=>.slice none 0 0
def tI(W:List NX)(k:Int):List Int:=match NN W k with|some e=>e.L|none=>[]
theorem W0{β:Type}{fl:β}{W:List NX}{clock:Nat}{h:ah}{bw:Nat}(g:h.bl.get bw=some (.map (W.map Mh) clock))(k:Int)(Y:XW β):ct fl prog 3 (.slice none 0 0) false (.map (some bw)) (X1 k) h Y=Y (w_ W k) h:=by
 unfold ct jF w_;rw[JJ];simp only[g];rcases WZ h k W 0 with⟨g1,g2⟩|⟨j,e',g1,g2,g3,g4⟩
 .rw[g1,g2]
 .rw[g1,g4];rfl
theorem abe{W:List NX}{clock:Nat}{h:ah}{bw:Nat}(g:h.bl.get bw=some (.map (W.map Mh) clock))(hlo:h.lo<=bw)(k:Int)(v:Value)(L:List Int)(o:Option Nat)(Y:KQ)(hk:∀W' clock',((NN W k=none/\∃b,W'=W++[⟨k,v,L,o,b⟩])\/∃(j:Nat)(e:NX),W[j]? = some e/\NN W k=some e/\k=e.k/\W'=W.set j ⟨k,v,L,o,e.born⟩)->Y undef ⟨h.nx,h.bl.bx bw (.map (W'.map Mh) clock'),h.lo⟩):bY False prog 3 (.map (some bw)) (X1 k) v h Y:=by
 unfold bY;rw[JJ];simp only[g];rcases WZ h k W 0 with⟨g1,g2⟩|⟨j,e,g1,g2,g3,g4⟩
 .rw[g1];simp only;rw[lW];simp only[bR];rw[bI _ _ _ _ hlo];have:=hk (W++[⟨k,v,L,o,clock⟩]) (clock+1) (.inl ⟨g2,clock,rfl⟩);rw[List.map_append]at this;exact this
 .rw[g1];subst g3;simp only[Mh,Pn];rw[Nat.zero_add,lY _ _ j (Mh e) _ (by rw[List.getElem?_map,g2];rfl),bI _ _ _ _ hlo];have:=hk (W.set j ⟨e.k,v,L,o,e.born⟩) clock (.inr ⟨j,e,g2,g4,rfl,rfl⟩);rw[List.map_set]at this;exact this
structure ql(a h:ah)(mb:Nat)(W:List NX)(E:List (Int × Int))(B:Nat):Prop where
 lt:mb<h.nx/\h.lo<=mb
 nx:a.nx<=h.nx/\h.lo=a.lo
 gm:∃ck,h.bl.get mb=some (.map (W.map Mh) ck)
 each:∀(i:Nat) e,W[i]? = some e->ee aU 1 3 B h e.v e.L e.o/\∃b,e.o=some b/\a.nx<=b
 dis:∀(i j:Nat) e e',W[i]? = some e->W[j]? = some e'->e.o=e'.o->i=j
 snd:∀e∈W,∀t∈e.L,(e.k,t)∈E
 fr:∀b,b<a.nx->b≠mb->h.bl.get b=a.bl.get b
theorem tail_at{B:Nat}{h:ah}{v:Value}{L:List Int}{o:Option Nat}(t:ee aU 1 3 B h v L o){b:Nat}(hb:o=some b):b<h.nx/\∃vs,h.bl.get b=some (ai vs 3 true):=by
 subst hb;rcases t with⟨_,_,h⟩|⟨b',G,h1,h2,h3,h4,_⟩
 .cases h
 .cases h1;exact⟨h2,_,h4⟩
theorem Sl.fmap{α:Type}{enc:α->List Value}{a h:ah}{v:Value}{L:List α}{mb c:Nat}{es:List MapEntry}(hs:Sl enc a v L)(hm:a.bl.get mb=some (.map es c))(hn:a.nx<=h.nx)(hg:∀b,b<a.nx->b≠mb->h.bl.get b=a.bl.get b):Sl enc h v L:=by
 obtain⟨x,cap,rfl,h2⟩:=hs;refine⟨x,cap,rfl,λhne=>?_⟩;obtain⟨b,o,rfl,h3,h4⟩:=h2 hne;refine⟨b,o,rfl,XV,?_⟩;rw[hg b h3 ?_]
 .exact h4
 .rintro rfl;obtain⟨n,c',e,h5,_⟩:=h4;rw[hm]at h5;rcases h5 with h5|⟨op,h5⟩<;>cases h5
section
variable {a h h':ah}{mb:Nat}{W:List NX}{E:List (Int × Int)}{B:Nat}
theorem ql.nil{a:ah}{mb:Nat}(hn:mb<a.nx/\a.lo<=mb)(hg:a.bl.get mb=some (.map [] 0)):ql a a mb [] E B:=
 ⟨hn,⟨Nat.le_refl _,rfl⟩,⟨0,hg⟩,by simp,by simp,by simp,λ_ _ _=>rfl⟩
theorem ql.val(n:ql a h mb W E B)(k:Int):Sl aU h (w_ W k) (tI W k)/\∀t∈tI W k,(k,t)∈E:=by
 unfold w_ tI;cases hk:NN W k with
 |none=>exact⟨Sl.nil _ _ _,by simp⟩
 |some e=>
  obtain⟨hm,rfl⟩:=uP hk;obtain⟨i,hi⟩:=List.getElem?_of_mem hm;exact⟨(n.each i e hi).1.sl aZ,n.snd e hm⟩
theorem ql.le(n:ql a h mb W E B)(l:Le h h'):ql a h' mb W E B:=by
 obtain⟨ck,gm⟩:=n.gm;have h1:=n.lt;have h2:=n.nx;have h3:=l.nx;have h4:=l.lo;refine⟨XV,XV,⟨ck,(l.get mb h1.1).trans gm⟩,λi e he=>?_,n.dis,n.snd,λb hb hne=>(l.get b XV).trans (n.fr b hb hne)⟩;obtain⟨t,b,hb,hab⟩:=n.each i e he;exact⟨t.keep h3 h4 λc hc=>by rw[hb]at hc;cases hc;exact l.get b (tail_at t hb).1,b,hb,hab⟩
theorem ql.up(n:ql a h mb W E B){B':Nat}(hB:B<=B'):ql a h mb W E B':=
 ⟨n.lt,n.nx,n.gm,λi e he=>⟨(n.each i e he).1.up hB,(n.each i e he).2⟩,n.dis,n.snd,n.fr⟩
theorem Vc(n:ql a h mb W E B)(hmb:mb<a.nx)(hlo:h.lo<=h.nx)(hB:B+1<=1000000000)(k t:Int)(he:(k,t)∈E){x:Value}(hx:Sl aU h x [t])(Y:KQ)(hk:∀v' h1,h.nx<=h1.nx->h1.lo=h.lo->(∀b,b<h.nx->(∀vs,h.bl.get b≠some (ai vs 3 true))->h1.bl.get b=h.bl.get b)->
   (∀κ2:Value->ah->Prop,(∀h2 W',ql a h2 mb W' E (B+1)->κ2 undef h2)->bY False prog 3 (.map (some mb)) (X1 k) v' h1 κ2)->Y v' h1):bt False And 3 1 [X1 0] false (w_ W k) x h Y:=by
 obtain⟨ck,gm⟩:=n.gm;have nlt:=n.lt;have nnx:=n.nx;have main:∀(L:List Int)(v:Value)(o:Option Nat),ee aU 1 3 B h v L o->((NN W k=none/\L=[]/\o=none)\/∃e,NN W k=some e/\e.L=L/\e.o=o)->bt False And 3 1 [X1 0] false v x h Y:=by
  intro L v o ht hc;refine ee.append aZ dF X0 X0 ht hx (by simpa using hB) hlo Y ?_;intro v' o' h1 t1 n1 l1 f1 ho;have hnm:∀b,o=some b->b≠mb:=by
   rintro b hb rfl;obtain⟨_,vs,hg⟩:=tail_at ht hb;rw[gm]at hg;exact bL hg
  have gm1:h1.bl.get mb=some (.map (W.map Mh) ck):=(f1 mb nlt.1 λe=>hnm mb e rfl).trans gm;obtain⟨b1,Ec,Vd⟩:∃b,o'=some b/\a.nx<=b:=by
   have hne:∃b,o'=some b:=by
    rcases t1 with⟨h0,_⟩|⟨b,G,h0,_⟩
    .simp at h0
    .exact⟨b,h0⟩
   obtain⟨b,hb⟩:=hne;refine⟨b,hb,?_⟩;rcases ho with rfl|⟨b',hb',h2,h3⟩
   .rcases hc with⟨_,_,h0⟩|⟨e,hl,_,h0⟩
    .rw[h0]at hb;cases hb
    .obtain⟨hm,_⟩:=uP hl;obtain⟨i,hi⟩:=List.getElem?_of_mem hm;obtain⟨_,b2,h4,h5⟩:=n.each i e hi;rw[h0,hb]at h4;cases h4;exact h5
   .rw[hb']at hb;cases hb;omega
  have akG:b1≠mb:=by omega
  have old:∀(i:Nat) e,W[i]? = some e->e.o≠o->ee aU 1 3 (B+1) ⟨h1.nx,h1.bl.bx mb (.map [] 0),h1.lo⟩ e.v e.L e.o/\(∃b,e.o=some b/\a.nx<=b)/\e.o≠o':=by
   intro i e hi hne;obtain⟨t,b,hb,hab⟩:=n.each i e hi;have SP:b≠mb:=by omega
   refine⟨(t.up (Nat.le_succ B)).keep n1 l1 λc hc=>?_,⟨b,hb,hab⟩,?_⟩
   .rw[hb]at hc;cases hc;exact(T.au _ _ λe=>SP e.symm).trans (f1 b (tail_at t hb).1 λe=>hne (hb.trans e.symm))
   .rcases ho with rfl|⟨b',hb',h2,h3⟩
    .exact hne
    .rw[hb,hb'];intro e;cases e;have:=(tail_at t hb).1;omega
  have tl:∀(e:NX)(m:bT),ee aU 1 3 (B+1) ⟨h1.nx,h1.bl.bx mb (.map [] 0),h1.lo⟩ e.v e.L e.o->(∃b,e.o=some b/\a.nx<=b)->ee aU 1 3 (B+1) ⟨h1.nx,h1.bl.bx mb m,h1.lo⟩ e.v e.L e.o:=by
   rintro e m ht ⟨b,hb,hab⟩;refine ht.keep (Nat.le_refl _) rfl λc hc=>?_;rw[hb]at hc;cases hc;have SP:b≠mb:=by omega
   exact(T.au _ _ λe=>SP e.symm).trans (T.au _ _ λe=>SP e.symm).symm
  have new:ee aU 1 3 (B+1) ⟨h1.nx,h1.bl.bx mb (.map [] 0),h1.lo⟩ v' (L++[t]) o':=by
   refine ee.keep t1 (Nat.le_refl _) rfl λc hc=>?_;rw[Ec]at hc;cases hc;exact T.au _ _ λe=>akG e.symm
  have frm:∀m b,b<a.nx->b≠mb->(h1.bl.bx mb m).get b=a.bl.get b:=by
   intro m b hb hne;refine(T.au _ _ λe=>hne e.symm).trans ((f1 b XV ?_).trans (n.fr b hb hne));intro hob;rcases hc with⟨_,_,h0⟩|⟨e,hl,_,h0⟩
   .rw[h0]at hob;cases hob
   .obtain⟨hm,_⟩:=uP hl;obtain⟨i,hi⟩:=List.getElem?_of_mem hm;obtain⟨_,b2,h4,h5⟩:=n.each i e hi;rw[h0,hob]at h4;cases h4;omega
  refine hk v' h1 n1 l1 (λb hb hne=>f1 b hb λe=>?_) ?_
  .obtain⟨_,vs,hg⟩:=tail_at ht e;exact hne vs hg
  intro κ2 hk2;refine abe gm1 XV k v' (L++[t]) o' κ2 ?_;rintro W' W1 (⟨hl,b,rfl⟩|⟨j,e,hj,hl,rfl,rfl⟩)
  ·obtain ⟨hL,D8⟩:L=[]/\o=none:=by
    rcases hc with⟨_,h1,h2⟩|⟨e,h0,_⟩
    .exact⟨h1,h2⟩
    .rw[hl]at h0;cases h0
   have olds:∀(i:Nat) e,W[i]? = some e->e.o≠o:=by
    intro i e hi;obtain⟨_,b2,h4,_⟩:=n.each i e hi;rw[h4,D8];exact λe=>nomatch e
   have app:∀(i:Nat) e,(W++[(⟨k,v',L++[t],o',b⟩:NX)])[i]? = some e->(W[i]? = some e/\i<W.length)\/(i=W.length/\e=⟨k,v',L++[t],o',b⟩):=by
    intro i e hi;rcases Nat.lt_or_ge i W.length with h5|h5
    .rw[List.getElem?_append_left h5]at hi;exact .inl ⟨hi,h5⟩
    .rw[List.getElem?_append_right h5]at hi;obtain⟨XJ,hi1⟩:=List.getElem?_eq_some_iff.1 hi;simp at XJ;have:i=W.length:=by omega
     subst this;simp at hi1;exact .inr ⟨rfl,hi1.symm⟩
   refine hk2 _ _ ⟨⟨by show mb<h1.nx;omega,by show h1.lo<=mb;omega⟩,⟨by show a.nx<=h1.nx;omega,by show h1.lo=a.lo;omega⟩,⟨W1,T.an _ _ _⟩,?_,?_,?_,λb hb hne=>frm _ b hb hne⟩
   .intro i e hi;rcases app i e hi with⟨hi,_⟩|⟨_,rfl⟩
    .obtain⟨t2,sv,_⟩:=old i e hi (olds i e hi);exact⟨tl e _ t2 sv,sv⟩
    .exact⟨tl ⟨k,v',L++[t],o',b⟩ _ new ⟨b1,Ec,Vd⟩,b1,Ec,Vd⟩
   .intro i j e e' hi hj hee;rcases app i e hi with⟨hi,hil⟩|⟨rfl,rfl⟩<;>rcases app j e' hj with⟨hj,hjl⟩|⟨rfl,rfl⟩
    .exact n.dis i j e e' hi hj hee
    .exact absurd hee (old i e hi (olds i e hi)).2.2
    .exact absurd hee.symm (old j e' hj (olds j e' hj)).2.2
    .rfl
   .intro e hm;rcases List.mem_append.1 hm with hm|hm
    .exact n.snd e hm
    .simp at hm;subst hm;intro t' ht';rw[hL]at ht';simp at ht';subst ht';exact he
  ·obtain ⟨hL,D8⟩:e.L=L/\e.o=o:=by
    rcases hc with⟨h0,_⟩|⟨e',h0,h1,h2⟩
    .rw[hl]at h0;cases h0
    .rw[hl]at h0;cases h0;exact⟨h1,h2⟩
   have hjl:j<W.length:=(List.getElem?_eq_some_iff.1 hj).1;have app:∀(i:Nat) e2,(W.set j (⟨e.k,v',L++[t],o',e.born⟩:NX))[i]? = some e2->(W[i]? = some e2/\i≠j)\/(i=j/\e2=⟨e.k,v',L++[t],o',e.born⟩):=by
    intro i e2 hi;by_cases hij:j=i
    .subst hij;rw[List.getElem?_set_self hjl]at hi;cases hi;exact .inr ⟨rfl,rfl⟩
    .rw[List.getElem?_set_ne hij]at hi;exact .inl ⟨hi,λe=>hij e.symm⟩
   have olds:∀(i:Nat) e2,W[i]? = some e2->i≠j->e2.o≠o:=by
    intro i e2 hi hij h0;exact hij (n.dis i j e2 e hi hj (h0.trans D8.symm))
   refine hk2 _ _ ⟨⟨by show mb<h1.nx;omega,by show h1.lo<=mb;omega⟩,⟨by show a.nx<=h1.nx;omega,by show h1.lo=a.lo;omega⟩,⟨W1,T.an _ _ _⟩,?_,?_,?_,λb hb hne=>frm _ b hb hne⟩
   .intro i e2 hi;rcases app i e2 hi with⟨hi,hij⟩|⟨_,rfl⟩
    .obtain⟨t2,sv,_⟩:=old i e2 hi (olds i e2 hi hij);exact⟨tl e2 _ t2 sv,sv⟩
    .exact⟨tl ⟨e.k,v',L++[t],o',e.born⟩ _ new ⟨b1,Ec,Vd⟩,b1,Ec,Vd⟩
   .intro i q e2 e' hi hq hee;rcases app i e2 hi with⟨hi2,hil⟩|⟨hij,rfl⟩<;>rcases app q e' hq with⟨rQ,hql⟩|⟨hqj,rfl⟩
    .exact n.dis i q e2 e' hi2 rQ hee
    .exact absurd hee (old i e2 hi2 (olds i e2 hi2 hil)).2.2
    .exact absurd hee.symm (old q e' rQ (olds q e' rQ hql)).2.2
    .rw[hij,hqj]
   .intro e2 hm;obtain⟨i,hi⟩:=List.getElem?_of_mem hm;rcases app i e2 hi with⟨hi,_⟩|⟨_,rfl⟩
    .exact n.snd e2 (List.mem_of_getElem? hi)
    .intro t' ht';rcases List.mem_append.1 ht' with h0|h0
     .exact n.snd e (List.mem_of_getElem? hj) t' (by rw[hL];exact h0)
     .simp at h0;subst h0;exact he
 unfold w_;cases hl:NN W k with
 |none=>exact main [] _ none ee.nil (.inl ⟨hl,rfl,rfl⟩)
 |some e=>
  obtain⟨hm,_⟩:=uP hl;obtain⟨i,hi⟩:=List.getElem?_of_mem hm;exact main e.L e.v e.o (n.each i e hi).1 (.inr ⟨e,hl,rfl,rfl⟩)
end
theorem akI(h:ah)(a b c d:Int):nH prog h 100 278 (.agg ⟨[X1 a,X1 b]⟩) (.agg ⟨[X1 c,X1 d]⟩) =
  (match(some (nY a c))with|some true=>(match some (nY b d)with|some true=>some true|r=>r)|r=>r):=by kernel_rfl
theorem eqE(h:ah)(p q:Int × Int):∃r,nH prog h 100 278 (.agg ⟨bV p⟩) (.agg ⟨bV q⟩)=some r:=by
 unfold bV;rw[akI];cases nY p.1 q.1<;>cases nY p.2 q.2<;>exact⟨_,rfl⟩
theorem Ve{β:Type}{fl:β}(cn:Bool){p q:Int × Int}{h:ah}{r:Bool}(e:nH prog h 100 278 (.agg ⟨bV p⟩) (.agg ⟨bV q⟩)=some r)(Y:XW β):aG fl prog .eql 278 cn false (.agg ⟨bV p⟩) (.agg ⟨bV q⟩) h Y=Y (.bool r) h:=by
 simp only[aG,e,cF]
theorem Vf{β:Type}{fl:β}(cn:Bool){p q:Int × Int}{h:ah}{r:Bool}(e:nH prog h 100 278 (.agg ⟨bV p⟩) (.agg ⟨bV q⟩)=some r)(Y:XW β):aG fl prog .neq 278 cn false (.agg ⟨bV p⟩) (.agg ⟨bV q⟩) h Y=Y (.bool !r) h:=by
 simp only[aG,e,cF]
theorem uQ{α:Type}{K L:List α}{i:Nat}{p:α}(hK:∀x∈K,x∈L)(hp:p∈L):∀x∈K.set i p,x∈L:=λx hx=>by
 rcases List.mem_or_eq_of_mem_set hx with h|rfl
 .exact hK x h
 .exact hp
theorem J9{a h:ah}{v:Value}{L:List (Int × Int)}(ho:eG bV a 278 h v L)(hle:Le a h)(hlen:L.length<=100000000)(hlo:a.lo<=a.nx)(Y:KQ)(hk:∀v' h' L',Sl bV h' v' L'->(∀e∈L',e∈L)->L'.length<=L.length->Le a h'->Y v' h'):aj prog 244 [v] h Y:=by
 have IN:=ho.sl;apply X2;rw[Y2];have hsame:=hk v h L IN (λ_ h=>h) (Nat.le_refl _) hle;by_cases h2:L.length<2
 .simp(disch:=try exact QQ)only[Wz,IN.len,dw (show(L.length:Int)<2 by omega)];exact hsame
 .rcases ho with⟨rfl,_⟩|⟨b,rfl,b1,b2,b3,b4⟩
  .simp at h2
  have hl:∀(β:Type)(fl:β)(n c:Nat)(x:Option Addr)(h':ah)(Y:XW β),bh fl (.slice x n c) h' Y=Y (X1 (n:Int)) h':=λβ fl n c x h' Y=>bX _ _ _ _ _;simp(disch:=try exact QQ)only[Wz,hl,b_ (show(2:Int)<=(L.length:Int)by omega)];refine⟨λn l h1=>h1=h/\∃k:Nat,aa l 53=X1 (k:Int)/\1<=k/\k<=L.length/\n=L.length-k,⟨_,rfl,1,rfl,XV,XV,rfl⟩,?_⟩;rintro n l h1 ⟨rfl,k,s1,gP,MM,rfl⟩;by_cases hlt:k<L.length
  .obtain⟨p,hp⟩:∃p,L[k]? = some p:=⟨_,List.getElem?_eq_getElem hlt⟩
   obtain⟨q,hq⟩:∃q,L[k-1]? = some q:=⟨_,List.getElem?_eq_getElem XV⟩
   obtain⟨b5,o5,hb5,J_,Vg,_⟩:=IN.ld dA k hp;obtain⟨b6,o6,hb6,NO,Vh,_⟩:=IN.ld dA (k-1) hq;obtain⟨r,er⟩:=eqE h1 p q;have e1:((k:Int)-1)=((k-1:Nat):Int):=by omega
   simp(disch:=try exact QQ)only[Wz,hl,s1,dw (show(k:Int)<(L.length:Int)by omega),FY,J_,Vg,e1,NO,Vh,Ve _ er];cases r with
   |false=>
    simp(disch:=try exact QQ)only[Wz];exact⟨_,XV,trivial,k+1,rfl,XV,XV,rfl⟩
   |true=>
    have hfl:=bg (enc:=bV) dA;simp(disch:=try exact QQ)only[Wz,jY (s:=2) (n:=L.length) (i:=k) X0 b4 (by rw[hfl]) XV];refine⟨λm l2 h2=>Le a h2/\b<h2.nx/\∃(j i:Nat) (K:List (Int × Int)),aa l2 26=X1 (j:Int)/\aa l2 23=X1 (i:Int)/\1<=j/\j<=L.length-k/\i+1<=k+j/\m=L.length-k-j/\K.length=L.length/\(∀x∈K,x∈L)/\h2.bl.get b=some (ai (K.flatMap bV) 278 true),
     ⟨_,hle,b2,1,k,L,rfl,rfl,XV,XV,XV,rfl,rfl,λ_ h=>h,b4⟩,?_⟩
    rintro m l2 h2 ⟨hle2,sv,j,i,K,t1,t2,hj1,hj2,hij,rfl,hK,Vi,g2⟩;have n2:=hle2.nx;have lo2:=hle2.lo;have ET:Sl bV h2 (X9 b K.length aS) K:=⟨_,aS,rfl,λ_=>⟨b,0,rfl,sv,by rw[g2];exact Has.all⟩⟩
    by_cases Ia:j<L.length-k
    .have hsT:Sl bV h2 (.slice (some ⟨b,0+k*2,none⟩) (K.length-k) aS) (K.drop k):=Sl.tail dA ET XV;rw[Nat.zero_add,hK]at hsT;obtain⟨p2,hp2⟩:∃p,(K.drop k)[j]? = some p:=⟨_,List.getElem?_eq_getElem (by simp;omega)⟩
     obtain⟨q2,rQ⟩:∃p,(K.drop k)[j-1]? = some p:=⟨_,List.getElem?_eq_getElem (by simp;omega)⟩
     have abg:p2∈L:=Vi _ (List.mem_of_mem_drop (List.mem_of_getElem? hp2));obtain⟨b7,o7,hb7,Sn,NP,_⟩:=hsT.ld dA j hp2;obtain⟨b8,o8,hb8,abh,Vj,_⟩:=hsT.ld dA (j-1) rQ;obtain⟨r2,er2⟩:=eqE h2 p2 q2;have e2:((j:Int)-1)=((j-1:Nat):Int):=by omega
     simp(disch:=try exact QQ)only[Wz,y8,hl,t1,dw (show(j:Int)<((L.length-k:Nat):Int)by omega)];refine⟨λl3 h3=>Le a h3/\b<h3.nx/\∃(i':Nat) (K':List (Int × Int)),aa l3 19=X1 (i':Int)/\i'<=k+j/\K'.length=L.length/\(∀x∈K',x∈L)/\h3.bl.get b=some (ai (K'.flatMap bV) 278 true),?_,?_⟩
     .simp(disch:=try exact QQ)only[Wz,FX,t1,t2,Sn,NP,e2,abh,Vj,Vf _ er2];cases r2 with
      |true=>
       simp(disch:=try exact QQ)only[Wz,t2];exact⟨hle2,sv,i,K,rfl,XV,hK,Vi,g2⟩
      |false=>
       have Ar:=gJ dA K i p2 XV;have hbd:i*2+2<=(K.flatMap bV).length:=by rw[hfl];omega
       simp(disch:=try exact QQ)only[Wz,t1,t2,Sn,NP,g2,aX,XH dA ru p2,Ar];exact⟨hle2.set b1 _,sv,i+1,K.set i p2,rfl,XV,by simpa using hK,uQ Vi abg,rfl⟩
     .rintro l3 h3 ⟨dn,Ed,i',K',t3,hi',XM,abi,g3⟩;simp(disch:=try exact QQ)only[Wz,t1,t3];exact⟨_,XV,dn,Ed,j+1,i',K',rfl,rfl,XV,XV,XV,rfl,XM,abi,g3⟩
    .have r1:=xz (s:=2) (z:=[X1 0,X1 0]) rfl (L.length-i);have r2:=xA (z:=[X1 0,X1 0]) rfl (L.length-i);have hbd:i*2+(L.length-i)*2=L.length*2:=by omega
     simp(disch:=try exact QQ)only[Wz,y8,hl,t1,t2,b_ (show((L.length-k:Nat):Int)<=(j:Int)by omega),jY (s:=2) (n:=L.length) (i:=i) X0 g2 (by rw[hfl,hK]) XV];rw[mZ g2 XV (by rw[r1,hfl,hK];omega) r2 XV];have vt:(over (K.flatMap bV) (i*2) (aV [X1 0,X1 0] (L.length-i))).length=L.length*2:=by
      rw[jx (by rw[r1,hfl,hK];omega),hfl,hK]
     rw[oA (n:=L.length) (i:=i) (vs:=over (K.flatMap bV) (i*2) (aV [X1 0,X1 0] (L.length-i))) (s:=2) X0 (T.an _ _ _) vt XV XV];have hti:(K.take i).length=i:=by rw[List.length_take];omega
     refine hk _ _ (K.take i) ⟨_,aS,by rw[hti],λ_=>⟨b,0,rfl,sv,?_⟩⟩ (λe he=>Vi e (List.mem_of_mem_take he)) XV (hle2.set b1 _);have hh:Has (some (ai (over (K.flatMap bV) (i*2) (aV [X1 0,X1 0] (L.length-i))) 278 true)) 0 (((over (K.flatMap bV) (i*2) (aV [X1 0,X1 0] (L.length-i))).drop 0).take (i*2)):=Has.cells (by rw[vt];omega);have e9:((over (K.flatMap bV) (i*2) (aV [X1 0,X1 0] (L.length-i))).drop 0).take (i*2)=(K.take i).flatMap bV:=by
      rw[List.drop_zero,over,List.append_assoc,List.take_append_of_le_length (by rw[List.length_take,hfl];omega),List.take_take,Nat.min_self,mg dA]
     rw[e9]at hh
     show Has ((h2.bl.bx b _).get b) 0 _
     rw[T.an];exact hh
  .simp(disch:=try exact QQ)only[Wz,hl,s1,b_ (show(L.length:Int)<=(k:Int)by omega)];exact hsame
end Go.Proofs
end
