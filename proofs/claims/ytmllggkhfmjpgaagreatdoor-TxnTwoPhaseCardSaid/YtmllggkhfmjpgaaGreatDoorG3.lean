/-
  PROVED HERE: a part of the proof (VaiA, VaiF, Srt, AA0, Plain, PM, Q1, Q2, VaiH).
-/
import Derived.Test.YtmllggkhfmjpgaaGreatDoorG2
set_option linter.unusedVariables false
set_option linter.unusedSimpArgs false
set_option maxRecDepth 100000
namespace Go.Vai
open Go
section
variable {α:Type}{s:Nat}{enc:α->List Value}
set_option maxRecDepth 20000 in
theorem jk{a h:Heap}{e:TypeId}{z:List Value}{v x:Value}{L M:List α}(he:∀a:α,(enc a).length=s)(hone:∀a:α,(enc a).all dJ=true)(hs0:0<s)(hs1:s<=100)(ho:fC enc a e h v L)(hx:Sl enc h x M)(hle:Le a h)(hb:L.length+M.length<=1000000)(hal:h.lo<=h.nx)(V:KQ)(hk:∀v' h',fC enc a e h' v' (L++M)->Le a h'->h'.nx<=h.nx+1->h.nx<=h'.nx->h'.lo=h.lo->(∀b,b<h.nx->h.bl.get b≠some (aa (L.flatMap enc) e true)->h'.bl.get b=h.bl.get b)->V v' h'):bR False e s z false v x h V:=by
 by_cases hM:M=[]
 .subst hM;rw[append_nil hx (by rcases ho with⟨rfl,rfl|⟨b,o,rfl⟩⟩|⟨b,rfl,_⟩<;>exact⟨_,_,_,rfl⟩)];exact hk v h (by simpa using ho) hle (Nat.le_succ _) (Nat.le_refl _) rfl (λ_ _ _=>rfl)
 .obtain⟨m,hm⟩:∃m,M.length=m+1:=⟨M.length-1,by have:=List.length_pos_iff.2 hM;omega⟩
  have hfl:=bu (enc:=enc) he;have jS:=hx.first (β:=Prop) (fl:=False) he;obtain⟨y,cap,rfl,h2⟩:=hx;have hml:∀K:List α,K.length<=1000000->(K.flatMap enc).length<=1000000000000:=λK hK=>by
   rw[hfl];have:=Nat.mul_le_mul hK hs1;omega
  have fresh:∀(hh:Heap)(ws:List Value),ws=(L++M).flatMap enc->Le a hh->hh.nx=h.nx->hh.lo=h.lo->(∀b,b<h.nx->h.bl.get b≠some (aa (L.flatMap enc) e true)->hh.bl.get b=h.bl.get b)->dF False ws e true hh λb h'=>V (.slice (some ⟨b,0,none⟩) (L.length+M.length) aS) h':=by
   intro hh ws hw XC sZ hlo hgt;subst hw;unfold dF;rw[jj _ _ _ _ (hml _ (by simp;omega)),di];refine hk _ _ (.inr ⟨hh.nx,by simp,XC.nx,Nat.lt_succ_self _,by show hh.lo<=_;omega,T.ah _ _ _⟩) (XC.new _) (by show hh.nx+1<=_;omega) (by show h.nx<=hh.nx+1;omega) hlo (λb hb hn=>(T.aj _ _ (by omega)).trans (hgt b hb hn))
  rcases ho with⟨rfl,hv⟩|⟨b,rfl,h3,h4,h5,h6⟩
  .have hF:=fresh h (M.flatMap enc) (by simp) hle rfl rfl (λ_ _ _=>rfl);simp only[List.length_nil,Nat.zero_add]at hF;rcases hv with rfl|⟨b,o,rfl⟩
   .unfold bR nh;simp only;rw[jS];simp only[hm,b6];rw[show Nat.ble (Nat.add 0 (m+1)) 1000000000=true from Nat.ble_eq_true_of_le (by show 0+(m+1)<=_;omega)];rw[hm]at hF;have e1:Nat.add 0 (m+1)=m+1:=by show 0+(m+1)=_;omega
    rw[e1];exact hF
   .unfold bR nh;simp only;rw[jS];simp only[hm,b6];have e1:Nat.add 0 (m+1)=m+1:=by show 0+(m+1)=_;omega
    rw[e1,show Nat.ble (m+1) 1000000000=true from Nat.ble_eq_true_of_le (by omega)];rw[hm]at hF
    show d_ False h s 0 _ _
    rw[kH _ _ _ _ _ (by simp)];exact hF
  .unfold bR nh;simp only;rw[jS];simp only[hm,b6];have e1:Nat.add L.length (m+1)=L.length+(m+1):=rfl;rw[e1,show Nat.ble (L.length+(m+1)) 1000000000=true from Nat.ble_eq_true_of_le (by omega)];have e2:Nat.beq aS gG=false:=by decide
   have e3:Nat.beq aS aS=true:=Nat.beq_refl _;simp only[e2,e3,h6];have e4:Nat.ble (Nat.add 0 (Nat.mul (L.length+(m+1)) s)) (L.flatMap enc).length=false:=by
    rw[hfl];cases UK:Nat.ble (Nat.add 0 (Nat.mul (L.length+(m+1)) s)) (L.length*s)with
    |false=>rfl
    |true=>
     have h7:0+(L.length+(m+1))*s<=L.length*s:=Nat.le_of_ble_eq_true UK;rw[Nat.add_mul,Nat.succ_mul]at h7;omega
   have e5:(M.flatMap enc).all dJ=true:=by
    rw[List.all_flatMap];simp only[List.all_eq_true];intro x _;exact List.all_eq_true.1 (hone x)
   simp only[aa,Nat.beq_refl,e4,e5,Bool.and_self];have hh:Has (h.bl.get b) 0 (L.flatMap enc):=by rw[h6];exact Has.all
   rw[jQ hh s L.length _ _ _ (hfl L).symm,bB _ _ _ _ h5];have hF:=fresh ⟨h.nx,h.bl.aV b (.dead (L.flatMap enc).length e),h.lo⟩ (L.flatMap enc++M.flatMap enc) (by simp) (hle.set h3 _) rfl rfl (λb' _ hn=>T.aj _ _ (λe=>hn (by rw[<-e];exact h6)));rw[hm]at hF;exact hF
end
theorem bx{vs ws:List Value}{e e':TypeId}:(some (aa vs e false):Option bD)≠some (aa ws e' true):=by
 intro h;unfold aa at h;simp only[Option.some.injEq,bD.cells.injEq]at h;exact absurd h.2.2.2 (by decide)
theorem bz{vs ws:List Value}{e e':TypeId}{p p':Bool}(hn:e≠e'):(some (aa vs e p):Option bD)≠some (aa ws e' p'):=by
 intro h;unfold aa at h;simp only[Option.some.injEq,bD.cells.injEq]at h;exact hn h.2.2.1
theorem bQ{es:List MapEntry}{c:Nat}{ws:List Value}{e:TypeId}{p:Bool}:(some (.map es c):Option bD)≠some (aa ws e p):=by
 intro h;unfold aa at h;cases h
end Go.Vai

namespace Go.Vai
open Go
section
variable {α:Type}{s:Nat}{enc:α->List Value}
theorem Qo(A E C ws:List Value)(j:Nat)(h:j+ws.length<=E.length):over (A++E++C) (A.length+j) ws=A++over E j ws++C:=by
 unfold over;have e1:(A++E++C).take (A.length+j)=A++E.take j:=by
  rw[List.append_assoc,List.take_append,List.take_of_length_le (by omega),show A.length+j-A.length=j by omega,List.take_append_of_le_length (by omega)]
 have e2:(A++E++C).drop (A.length+j+ws.length)=E.drop (j+ws.length)++C:=by
  rw[List.append_assoc,List.drop_append,List.drop_of_length_le (by omega),List.nil_append,show A.length+j+ws.length-A.length=j+ws.length by omega,List.drop_append_of_le_length h]
 rw[e1,e2];simp only[List.append_assoc]
theorem gZ(he:∀a:α,(enc a).length=s){K:List α}{i j:Nat}{p p':α}{ws:List Value}(hp:K[i]? = some p)(hj:j+ws.length<=s)(hw:over (enc p) j ws=enc p'):over (K.flatMap enc) (i*s+j) ws=(K.set i p').flatMap enc:=by
 obtain⟨hi,rfl⟩:=List.getElem?_eq_some_iff.1 hp;have e1:K.flatMap enc=(K.take i).flatMap enc++enc K[i]++(K.drop (i+1)).flatMap enc:=by
  have e0:K=K.take i++(K[i]::K.drop (i+1)):=by rw[List.getElem_cons_drop,List.take_append_drop]
  have:=congrArg (List.flatMap enc) e0;rw[List.flatMap_append,List.flatMap_cons]at this;rw[List.append_assoc];exact this
 have e2:(K.set i p').flatMap enc=(K.take i).flatMap enc++enc p'++(K.drop (i+1)).flatMap enc:=by
  rw[List.set_eq_take_append_cons_drop,if_pos hi];simp[List.flatMap_append]
 have hl:((K.take i).flatMap enc).length=i*s:=by rw[bu he,List.length_take,Nat.min_eq_left (by omega)]
 rw[e1,e2,<-hl,Qo _ _ _ _ _ (by rw[he];exact hj),hw]
theorem jT(he:∀a:α,(enc a).length=s){K:List α}{i j:Nat}{p:α}(hp:K[i]? = some p)(hj:j<s):(K.flatMap enc)[i*s+j]? = (enc p)[j]?:=by
 obtain⟨hi,rfl⟩:=List.getElem?_eq_some_iff.1 hp;have:=x_ he K i hi;have e:((((K.flatMap enc).drop (i*s)).take s)[j]?)=(enc K[i])[j]?:=by rw[this]
 rw[List.getElem?_take_of_lt hj,List.getElem?_drop]at e;exact e
end
end Go.Vai

namespace Go.Vai
open Go
structure Jk(bl:Nat)(h h':Heap):Prop where
 nx:h.nx<=h'.nx
 lo:h'.lo=h.lo
 get:∀b,b<h.nx->b≠bl->h'.bl.get b=h.bl.get b
theorem Jk.of_le{bl:Nat}{h h':Heap}(l:Le h h'):Jk bl h h':=⟨l.nx,l.lo,λb hb _=>l.get b hb⟩
theorem Jk.set{bl:Nat}{h h':Heap}(l:Le h h')(o:bD):Jk bl h ⟨h'.nx,h'.bl.aV bl o,h'.lo⟩:=
 ⟨l.nx,l.lo,λb hb hn=>(T.aj _ _ (Ne.symm hn)).trans (l.get b hb)⟩
theorem Jk.trans{b:Nat}{h1 h2 h3:Heap}(l:Jk b h1 h2)(k:Jk b h2 h3):Jk b h1 h3:=
 ⟨Nat.le_trans l.nx k.nx,k.lo.trans l.lo,λc hc hn=>(k.get c (Nat.lt_of_lt_of_le hc l.nx) hn).trans (l.get c hc hn)⟩
section
variable {α:Type}{s:Nat}{enc:α->List Value}
theorem rdE(he:∀a:α,(enc a).length=s){h:Heap}{b:Nat}{D:List α}{e:TypeId}{op:Bool}(hg:h.bl.get b=some (aa (D.flatMap enc) e op)){i:Nat}{p:α}(hp:D[i]? = some p)(β:Type)(fl:β)(V:List Value->β):x9 fl (h.bl.get b) (i*s) s V=V (enc p):=by
 obtain⟨hi,rfl⟩:=List.getElem?_eq_some_iff.1 hp;rw[hg];have h1:Has (some (aa (D.flatMap enc) e op)) 0 (D.flatMap enc):=Has.all;have hl:=bu (enc:=enc) he D;have h3:i*s+s<=D.length*s:=by rw[<-Nat.succ_mul];exact Nat.mul_le_mul_right s hi
 have h2:=h1.sub (i*s) s (by omega);rw[Nat.zero_add,x_ he D i hi]at h2;exact pQ h2 s V (he _).symm
theorem Fh(he:∀a:α,(enc a).length=s){D:List α}{i:Nat}{p p':α}(hp:D[i]? = some p):over (D.flatMap enc) (i*s) (enc p')=(D.set i p').flatMap enc:=by
 have h1:=he p;have h2:=he p';have:=gZ (j:=0) (ws:=enc p') he hp (by omega) (show over (enc p) 0 (enc p')=enc p' by unfold over;simp[h1,h2]);simpa using this
variable (lt:α->α->Prop)
variable {lt}
end
end Go.Vai

namespace Go.Vai
open Go Go.RowKit
section
variable {α:Type}{enc:α->List Value}{s:Nat}{e:TypeId}
def fR(enc:α->List Value)(s:Nat)(e:TypeId)(h:Heap)(u:Value)(L:List α):Prop:=(L=[]/\∃x c,u=.slice x 0 c)\/∃(b j:Nat)(W:List α),L≠[]/\u=.slice (some ⟨b,j*s,none⟩) L.length aS/\b<h.nx/\h.lo<=b/\h.bl.get b=some (aa (W.flatMap enc) e true)/\W.length=j+L.length/\W.drop j=L
theorem fR.len{h:Heap}{u:Value}{L:List α}(p:fR enc s e h u L){β:Type}{fl:β}(h':Heap)(V:Z7 β):bJ fl u h' V=V (.int .i64 (L.length:Int)) h':=by
 rcases p with⟨rfl,x,c,rfl⟩|⟨b,j,W,_,rfl,_⟩
 .exact iu _ _ _ _ _
 .exact iu _ _ _ _ _
theorem fR.cell{h:Heap}{u:Value}{L:List α}(p:fR enc s e h u L):∃x c,u=.slice x L.length c:=by
 rcases p with⟨rfl,x,c,rfl⟩|⟨b,j,W,_,rfl,_⟩<;>exact⟨_,_,rfl⟩
theorem fR.own{a h:Heap}{u:Value}{L:List α}(o:fC enc a e h u L):fR enc s e h u L:=by
 rcases o with⟨rfl,rfl|⟨b,o,rfl⟩⟩|⟨b,rfl,h1,h2,h3,h4⟩
 .exact .inl ⟨rfl,_,_,rfl⟩
 .exact .inl ⟨rfl,_,_,rfl⟩
 .by_cases hL:L=[]
  .subst hL;exact .inl ⟨rfl,_,_,rfl⟩
  .exact .inr ⟨b,0,L,hL,by rw[Nat.zero_mul],h2,h3,h4,by omega,rfl⟩
theorem fR.keep{h h':Heap}{u:Value}{L:List α}(p:fR enc s e h u L)(hn:h.nx<=h'.nx)(hl:h'.lo=h.lo)(hg:∀c vs,c<h.nx->h.bl.get c=some (aa vs e true)->h'.bl.get c=h.bl.get c):fR enc s e h' u L:=by
 rcases p with p|⟨b,j,W,h1,h2,h3,h4,h5,h6⟩
 .exact .inl p
 .exact .inr ⟨b,j,W,h1,h2,by omega,by omega,(hg b _ h3 h5).trans h5,h6⟩
theorem fR.head(he:∀a:α,(enc a).length=s){h:Heap}{u:Value}{x:α}{L:List α}(p:fR enc s e h u (x::L)):Sl enc h u (x::L):=by
 rcases p with⟨e,_⟩|⟨b,j,W,h1,h2,h3,h4,h5,h6,h7⟩
 .cases e
 .refine⟨_,aS,h2,λ_=>⟨b,j*s,rfl,h3,?_⟩⟩;have hh:Has (h.bl.get b) 0 (W.flatMap enc):=by rw[h5];exact Has.all
  have hl:=bu (enc:=enc) he W;have hle:j*s<=W.length*s:=Nat.mul_le_mul_right _ (by omega);have:=hh.sub (j*s) (W.length*s-j*s) (by rw[hl];omega);rw[Nat.zero_add]at this;have e1:((W.flatMap enc).drop (j*s)).take (W.length*s-j*s)=(x::L).flatMap enc:=by
   rw[pU he,h7,List.take_of_length_le];rw[bu (enc:=enc) he,<-h7,List.length_drop,Nat.sub_mul];exact Nat.le_refl _
  rwa [e1]at this
theorem fR.tail(he:∀a:α,(enc a).length=s)(hs0:0<s){h:Heap}{u:Value}{x:α}{L:List α}(p:fR enc s e h u (x::L)):∃u',fR enc s e h u' L/\∀(β:Type)(fl:β)(V:Z7 β),sliceB fl e s u (some (.int .i64 1)) none none h V=V u' h:=by
 rcases p with⟨e,_⟩|⟨b,j,W,h1,h2,h3,h4,h5,h6,h7⟩
 .cases e
 .obtain⟨s,rfl⟩:∃k,s=k+1:=⟨s-1,by omega⟩
  have hl:=bu (enc:=enc) he W;have hk:gM h e b=some (W.length*(s+1)):=by unfold gM;rw[h5];simp only[aa,gY,hl]
  have hlen:(x::L).length=L.length+1:=rfl;rw[hlen]at h2 h6;have hd:Nat.div (Nat.sub (W.length*(s+1)) (j*(s+1))) (s+1)=L.length+1:=by
   show(W.length*(s+1)-j*(s+1)) / (s+1)=_
   rw[<-Nat.sub_mul,Nat.mul_div_cancel _ (by omega)];omega
  have e1:Nat.beq aS gG=false:=by decide
  have e2:Nat.beq aS aS=true:=Nat.beq_refl _;have e3:Nat.ble (j*(s+1)) (W.length*(s+1))=true:=Nat.ble_eq_true_of_le (Nat.mul_le_mul_right _ (by omega));have e5:Nat.ble (L.length+1) (L.length+1)=true:=Nat.ble_eq_true_of_le (Nat.le_refl _);have e6:Nat.ble 1 (L.length+1)=true:=Nat.ble_eq_true_of_le (by omega);have hb:∀(β:Type)(fl:β)(V:Nat->Nat->Nat->β)(c:Nat),iQ fl (L.length+1) (L.length+1) c (some (.int .i64 1)) none none V=V 1 (L.length+1) c:=λβ fl V c=>by
   have:=zm (fl:=fl) (len:=L.length+1) (lim:=L.length+1) (cap:=c) (i:=1) (by omega) (Nat.le_refl _) V;exact this
  by_cases h0:L.length=0
  .have hL:L=[]:=List.eq_nil_of_length_eq_zero h0;subst hL;refine⟨.slice (some ⟨b,j*(s+1),none⟩) 0 gG,.inl ⟨rfl,_,_,rfl⟩,λβ fl V=>?_⟩;rw[h2];unfold sliceB;simp only[e1,e2,hk,e3,hd];rw[hb];rfl
  ·have e4:Nat.beq 1 (L.length+1)=false:=by
    cases hq:Nat.beq 1 (L.length+1)with
    |false=>rfl
    |true=>have:=cz hq;omega
   refine⟨.slice (some ⟨b,(j+1)*(s+1),none⟩) L.length aS,.inr ⟨b,j+1,W,by rintro rfl;exact h0 rfl,rfl,h3,h4,h5,by omega,by rw[<-List.drop_drop,h7];rfl⟩,λβ fl V=>?_⟩;rw[h2];unfold sliceB;simp only[e1,e2,hk,e3,hd];rw[hb];simp only[e2,e4,b6]
   show V (.slice (some ⟨b,j*(s+1)+1*(s+1),none⟩) (L.length+1-1) aS) h=_
   rw[<-Nat.add_mul];rfl
def fS(enc:α->List Value)(e:TypeId)(h:Heap)(v:Value)(L:List α):Prop:=(L=[]/\v=.slice none 0 0)\/∃(b:Nat)(G:List α),v=.slice (some ⟨b,0,none⟩) L.length aS/\b<h.nx/\h.lo<=b/\h.bl.get b=some (aa ((L++G).flatMap enc) e true)/\0<(L++G).length
theorem fS.sl{h:Heap}{v:Value}{L:List α}(p:fS enc e h v L):Sl enc h v L:=by
 rcases p with⟨rfl,rfl⟩|⟨b,G,rfl,h1,h2,h3,h4⟩
 .exact Sl.nil _ _ _
 .refine⟨_,_,rfl,λ_=>⟨b,0,rfl,h1,?_⟩⟩;have hh:Has (h.bl.get b) 0 ((L++G).flatMap enc):=by rw[h3];exact Has.all
  rw[List.flatMap_append]at hh;have:=hh.sub 0 (L.flatMap enc).length (by rw[List.length_append];omega);simpa using this
theorem fS.cell{h:Heap}{v:Value}{L:List α}(p:fS enc e h v L):∃x c,v=.slice x L.length c:=by
 rcases p with⟨rfl,rfl⟩|⟨b,G,rfl,_⟩<;>exact⟨_,_,rfl⟩
theorem fS.keep{h h':Heap}{v:Value}{L:List α}(p:fS enc e h v L)(hn:h.nx<=h'.nx)(hl:h'.lo=h.lo)(hg:∀c vs,c<h.nx->h.bl.get c=some (aa vs e true)->h'.bl.get c=h.bl.get c):fS enc e h' v L:=by
 rcases p with p|⟨b,G,h2,h3,h4,h5,h6⟩
 .exact .inl p
 .exact .inr ⟨b,G,h2,by omega,by omega,(hg b _ h3 h5).trans h5,h6⟩
theorem fS.own{a h:Heap}{v:Value}{L:List α}(o:fC enc a e h v L)(hn:L≠[]):fS enc e h v L:=by
 rcases o with⟨rfl,_⟩|⟨b,rfl,h1,h2,h3,h4⟩
 .exact absurd rfl hn
 .exact .inr ⟨b,[],rfl,h2,h3,by rw[List.append_nil];exact h4,by rw[List.append_nil];exact List.length_pos_iff.2 hn⟩
theorem fS.blk{h:Heap}{v:Value}{L:List α}(p:fS enc e h v L){d:Nat}(hb:∃o n c,v=.slice (some ⟨d,o,none⟩) n c):d<h.nx/\∃vs,h.bl.get d=some (aa vs e true):=by
 obtain⟨o,n,c,rfl⟩:=hb;rcases p with⟨_,e⟩|⟨b,G,e,h1,h2,h3,h4⟩
 .cases e
 .simp at e;obtain⟨⟨rfl,_⟩,_⟩:=e;exact⟨h1,_,h3⟩
theorem fS.le{h h':Heap}{v:Value}{L:List α}(p:fS enc e h v L)(l:Le h h'):fS enc e h' v L:=p.keep l.nx l.lo λd _ hd _=>l.get d hd
theorem fR.le{h h':Heap}{v:Value}{L:List α}(p:fR enc s e h v L)(l:Le h h'):fR enc s e h' v L:=p.keep l.nx l.lo λd _ hd _=>l.get d hd
def xm(v:Value)(d:Nat):Prop:=∃o n c,v=.slice (some ⟨d,o,none⟩) n c
structure U7(v:Value)(h h':Heap):Prop where
 nx:h.nx<=h'.nx
 lo:h'.lo=h.lo
 get:∀d,d<h.nx->¬xm v d->h'.bl.get d=h.bl.get d
theorem U7.of_le{v:Value}{h h':Heap}(l:Le h h'):U7 v h h':=⟨l.nx,l.lo,λb hb _=>l.get b hb⟩
variable {P:Program}{ti:TypeId}{f g:FuncId}
theorem Fi(mix:P.follows .mixedOrders=true)(he:∀a:α,(enc a).length=s)(hone:∀a:α,(enc a).all dJ=true)(hs0:0<s){z:List Value}{za:α}(hz:z=enc za)(hs1:s<=1000)(hg:∀a0 a1 h V,aM P g [a0,a1] h V=ew P ti s a0 a1 h V)(hb:∀a0 a1 h V,aM P f [a0,a1] h V=ej P ti g e s z a0 a1 h V)(h:Heap)(L:List α)(F:α->Bool)(v fv:Value)(V:KQ)(ho:fS enc e h v L)(hlen:L.length<=100000)(hlo:h.lo<=h.nx)(hF:∀p,∀(h1:Heap)(κ1:Value->Heap->Prop),U7 v h h1->(∀h2,Le h1 h2->κ1 (.bool (F p)) h2)->fJ P fv [Dt enc p] h1 κ1)(hk:∀v' h',fS enc e h' v' (L.filter λp=>!F p)->U7 v h h'->(v'=v\/∃b n m,v=.slice (some ⟨b,0,none⟩) n aS/\v'=.slice (some ⟨b,0,none⟩) m aS)->V v' h'):CallW P f [v,fv] h V:=by
 have hz0:z.length=s:=by rw[hz];exact he za
 have hz1:z.all dJ=true:=by rw[hz];exact hone za
 refine av mix ?_;rw[hb];unfold ej;refine mI mix he hg L F h v fv _ ho.sl (by omega) (λp _ h1 κ1 hl dB=>hF p h1 κ1 (U7.of_le hl) dB) ?_;intro h1 hle1;have n1:=hle1.nx;have l1:=hle1.lo;rcases mH L F with⟨e1,e2⟩|⟨i0,p0,e1,e2,e3,e4⟩
 .simp only[e1,gj];simp(disch:=try exact Y)only[Wz];have:(L.filter λp=>!F p)=L:=List.filter_eq_self.2 λp hp=>by simp[e2 p hp]
  rw[this]at hk;exact hk v h1 (ho.keep hle1.nx hle1.lo λc _ hc _=>hle1.get c hc) (U7.of_le hle1) (.inl rfl)
 ·simp only[e1,gj];have hi0:i0<L.length:=(List.getElem?_eq_some_iff.1 e2).1;have Du:(L.take i0).filter (λp=>!F p)=L.take i0:=List.filter_eq_self.2 λp hp=>by
   obtain⟨j,hj⟩:=List.getElem?_of_mem hp;have hj':j<i0:=by have:=(List.getElem?_eq_some_iff.1 hj).1;simp at this;omega
   rw[List.getElem?_take_of_lt hj']at hj;simp[e4 j p hj' hj]
  rcases ho with⟨rfl,_⟩|⟨b,G,rfl,Zv,b30,U6,b50⟩
  .simp at hi0
  have bk:∀d,d≠b->¬xm (.slice (some ⟨b,0,none⟩) L.length aS) d:=by
   rintro d hd ⟨o,n,c,e⟩;cases e;exact hd rfl
  have b2:b<h1.nx:=by omega
  have b3:h1.lo<=b:=by rw[hle1.lo];exact b30
  have b4:h1.bl.get b=some (aa ((L++G).flatMap enc) e true):=(hle1.get b Zv).trans U6;simp(disch:=try exact Y)only[Wz]
  refine ⟨λn l h2=>b<h2.nx/\h2.lo=h.lo/\(h.nx<=h2.nx/\∀c,c<h.nx->c≠b->h2.bl.get c=h.bl.get c)/\∃(j i:Nat)(K:List α),slot l 22=.int .i64 (j:Int)/\slot l 19=.int .i64 (i:Int)/\j<=L.length/\i<j/\n=L.length-j/\K.length=L.length/\
    K.take i=(L.take j).filter (λp=>!F p)/\K.drop j=L.drop j/\h2.bl.get b=some (aa ((K++G).flatMap enc) e true),
   ⟨_,b2,l1,⟨n1,λc hc _=>hle1.get c hc⟩,i0+1,i0,L,rfl,rfl,by omega,by omega,rfl,rfl,?_,rfl,b4⟩,?_⟩
  .rw[gE e2,Du,e3];simp
  rintro n l h2 ⟨hb2,PA,hfr,j,i,K,s1,s2,hj,hij,rfl,hK,Qm,X2,hg2⟩;have hKG:(K++G).length=(L++G).length:=by rw[List.length_append,List.length_append,hK]
  have hfl:=bu (enc:=enc) he (K++G);rw[hKG]at hfl;have hLG:(L++G).length=L.length+G.length:=List.length_append;by_cases hlt:j<L.length
  .obtain⟨p,hp⟩:∃p,L[j]? = some p:=⟨_,List.getElem?_eq_getElem hlt⟩
   have hpK:K[j]? = some p:=by
    have:(K.drop j)[0]? = (L.drop j)[0]?:=by rw[X2]
    simpa[hp]using this
   have Zw:Sl enc h2 (.slice (some ⟨b,0,none⟩) L.length aS) K:=by
    have:fS enc e h2 (.slice (some ⟨b,0,none⟩) L.length aS) K:=.inr ⟨b,G,by rw[hK],hb2,by rw[PA];exact b30,hg2,by rw[hKG];exact b50⟩;exact this.sl
   obtain⟨b',o',hb',qm,oP,_⟩:=Zw.ld he j hpK;have bat:=qm Nat 0 h2 λv _=>match v with | .pointer (some a)=>a.block|_=>0
   rw[bh _ _ _ _ _ _ _ _ hlt]at bat;have UK:b=b':=bat;subst UK;have hep:=he p;have hop:=hone p;have htk:(enc p).take s=enc p:=by rw[<-hep,List.take_length]
   have Ur:=qO z (enc p) (by omega);simp(disch:=try exact Y)only[Wz,s1,s2,qm,oP];refine⟨λl h'=>b<h'.nx/\h'.lo=h.lo/\(h.nx<=h'.nx/\∀c,c<h.nx->c≠b->h'.bl.get c=h.bl.get c)/\∃(i':Nat)(K':List α),slot l 15=.int .i64 (i':Int)/\i'<j+1/\K'.length=L.length/\
    K'.take i'=(L.take (j+1)).filter (λp=>!F p)/\K'.drop (j+1)=L.drop (j+1)/\h'.bl.get b=some (aa ((K'++G).flatMap enc) e true),?_,?_⟩
   ·simp(disch:=try exact Y)only[Wz,s1,s2,qm,oP,stG he hone p,htk,Ur];have Zx:=(Le.refl h2).new (aa (enc p) e false);refine hF p _ _ ⟨by have:=hfr.1;show h.nx<=h2.nx+1;omega,PA,λc hc hne=>(T.aj _ _ (by have:=hfr.1;omega)).trans (hfr.2 c hc (by rintro rfl;exact hne ⟨_,_,_,rfl⟩))⟩ ?_;intro h3 bX;have n3:=bX.nx;have l3:=bX.lo;dsimp only at n3 l3;have g3:h3.bl.get h2.nx=some (aa (enc p) e false):=(bX.get h2.nx (Nat.lt_succ_self _)).trans (T.ah _ _ _);have Zy:h3.bl.get b=some (aa ((K++G).flatMap enc) e true):=by
     rw[bX.get b (by show b<h2.nx+1;omega)]
     show(h2.bl.aV h2.nx _).get b=_
     rw[T.aj _ _ (by omega)];exact hg2
    have zn:h.nx<=h3.nx/\∀c,c<h.nx->c≠b->h3.bl.get c=h.bl.get c:=by
     have q0:=hfr.1;refine⟨by omega,λc hc hne=>?_⟩;have e1:(h2.bl.aV h2.nx (aa (enc p) e false)).get c=h2.bl.get c:=T.aj _ _ (by omega);exact(bX.get c (by show c<h2.nx+1;omega)).trans (e1.trans (hfr.2 c hc hne))
    cases hc:F p with
    |true=>
     simp(disch:=try exact Y)only[Wz,s2];exact⟨by omega,by omega,zn,i,K,rfl,by omega,hK,by rw[gE hp,hc];simpa using Qm,by rw[<-List.drop_drop,X2,List.drop_drop],Zy⟩
    |false=>
     have Dv:=td he (K++G) i p (by omega);rw[List.set_append_left _ _ (by omega)]at Dv;have hbd:i*s+s<=((K++G).flatMap enc).length:=by rw[hfl,<-Nat.succ_mul];exact Nat.mul_le_mul_right _ (by omega)
     simp(disch:=try exact Y)only[Wz,s2,g3,Zy,bh,stG he hone p,htk,Dv];refine⟨by omega,by omega,⟨zn.1,λc hc hne=>(T.aj _ _ (λe=>hne e.symm)).trans (zn.2 c hc hne)⟩,i+1,K.set i p,rfl,by omega,by simpa using hK,?_,?_,rfl⟩
     .rw[gE hp,hc,<-Qm];have hiK:i<K.length:=by omega
      rw[List.take_succ_eq_append_getElem (by simpa using hiK)];simp[List.take_set_of_le]
     .rw[List.drop_set_of_lt (by omega),<-List.drop_drop,X2,List.drop_drop]
   .rintro l8 h3 ⟨hb3,IX,zn,i',K',s3,hi',hK',Zz,ZA,hg3⟩;simp(disch:=try exact Y)only[Wz,s1,s3];exact⟨_,by omega,hb3,IX,zn,j+1,i',K',rfl,rfl,by omega,hi',rfl,hK',Zz,ZA,hg3⟩
  .have hjL:j=L.length:=by omega
   subst hjL;rw[List.take_length]at Qm;have r1:=Lb hz0 (L.length-i);have r2:=Lc hz1 (L.length-i);have hbd:i*s+(L.length-i)*s=L.length*s:=by rw[<-Nat.add_mul];congr 1;omega
   have asa:L.length*s<=(L++G).length*s:=Nat.mul_le_mul_right _ (by omega);have alY:∀n,a_ z n=(List.replicate n za).flatMap enc:=by
    intro n
    induction n with
    |zero=>rfl
    |succ n ih=>rw[List.replicate_succ,List.flatMap_cons,<-ih,hz];rfl
   have Qp:∃u,(∀V:Value->Heap->Prop,sliceB False e s (.slice (some ⟨b,0,none⟩) L.length aS) (some (.int .i64 (i:Int))) none none h2 V=V (.slice (some ⟨b,i*s,none⟩) (L.length-i) u) h2):=by
    obtain⟨s,rfl⟩:∃k,s=k+1:=⟨s-1,by omega⟩
    have hk:gM h2 e b=some ((L++G).length*(s+1)):=by unfold gM;rw[hg2];simp only[aa,gY,hfl]
    have hd:Nat.div (Nat.sub ((L++G).length*(s+1)) 0) (s+1)=(L++G).length:=by show((L++G).length*(s+1)-0) / (s+1)=_;rw[Nat.sub_zero,Nat.mul_div_cancel _ (by omega)]
    have e1:Nat.beq aS gG=false:=by decide
    have e2:Nat.beq aS aS=true:=Nat.beq_refl _;have e3:Nat.ble 0 ((L++G).length*(s+1))=true:=Nat.ble_eq_true_of_le (Nat.zero_le _);have e4:Nat.beq i (L++G).length=false:=by
     cases hq:Nat.beq i (L++G).length with
     |false=>rfl
     |true=>have:=cz hq;omega
    refine⟨aS,λV=>?_⟩;unfold sliceB;simp only[e1,e2,hk,e3,hd];rw[zm (by omega) (by omega)];simp only[e2,e4,b6]
    show V (.slice (some ⟨b,0+i*(s+1),none⟩) (L.length-i) aS) h2=_
    rw[Nat.zero_add]
   obtain⟨uc,Qp⟩:=Qp;simp(disch:=try exact Y)only[Wz,s1,s2,Qp];rw[xk hg2 (by omega) (by rw[r1,hfl];omega) r2 (by omega)];have Qn:(over ((K++G).flatMap enc) (i*s) (a_ z (L.length-i))).length=(L++G).length*s:=by
    rw[nF (by rw[r1,hfl];omega),hfl]
   rw[zl (n:=(L++G).length) (i:=i) (vs:=over ((K++G).flatMap enc) (i*s) (a_ z (L.length-i))) hs0 (T.ah _ _ _) Qn b50 (by omega)];have Fg:(L.filter λp=>!F p).length=i:=by rw[<-Qm];simp;omega
   have BK:over ((K++G).flatMap enc) (i*s) (a_ z (L.length-i))=((L.filter λp=>!F p)++(List.replicate (L.length-i) za++G)).flatMap enc:=by
    have h1:((K++G).flatMap enc).take (i*s)=(L.filter λp=>!F p).flatMap enc:=by
     rw[pT he,List.take_append_of_le_length (by omega),Qm]
    have h2:((K++G).flatMap enc).drop (i*s+(L.length-i)*s)=G.flatMap enc:=by
     rw[hbd,pU he,<-hK,List.drop_left]
    rw[over,r1,h1,h2,alY,List.flatMap_append,List.flatMap_append,List.append_assoc]
   rw[BK];refine hk _ _ (.inr ⟨b,List.replicate (L.length-i) za++G,by rw[Fg],hb2,by show h2.lo<=b;omega,T.ah _ _ _,by rw[List.length_append,List.length_append,List.length_replicate,Fg];omega⟩) ⟨hfr.1,PA,λc hc hne=>(T.aj _ _ (by rintro rfl;exact hne ⟨_,_,_,rfl⟩)).trans (hfr.2 c hc (by rintro rfl;exact hne ⟨_,_,_,rfl⟩))⟩ (.inr ⟨b,_,_,rfl,rfl⟩)
end
end Go.Vai

namespace Go.Clashes
structure H4 where
 x:Int
 t:Int
 r:Int
 m:Int
def tab:List (List Bool):=[
 [true,true,true,true,true,true,true],
 [true,true,true,true,true,true,false],
 [true,true,true,false,false,false,false],
 [true,true,false,true,false,true,false],
 [true,true,false,false,false,false,false],
 [true,true,false,true,false,false,false],
 [true,false,false,false,false,false,false]]
def cmp(a b:Int):Bool:=decide (0<=a) && decide (a<=6) && decide (0<=b) && decide (b<=6) && ((tab.getD a.toNat []).getD b.toNat false)
theorem uw(a b:Int):cmp a b=cmp b a:=by
 by_cases h:(0<=a/\a<=6)/\(0<=b/\b<=6)
 .have key:∀i,i<7->∀j,j<7->cmp (i:Nat) (j:Nat)=cmp (j:Nat) (i:Nat):=by decide
  have:=key a.toNat (by omega) b.toNat (by omega)
  rwa [show((a.toNat:Nat):Int)=a by omega,show((b.toNat:Nat):Int)=b by omega]at this
 ·have h1:cmp a b=false:=by
   cases hq:cmp a b with
   |false=>rfl
   |true=>simp[cmp]at hq;omega
  have h2:cmp b a=false:=by
   cases hq:cmp b a with
   |false=>rfl
   |true=>simp[cmp]at hq;omega
  rw[h1,h2]
def bad(p q:H4):Bool:=(p.t == q.t && p.r == q.r) && !(p.x == q.x) && !cmp p.m q.m
end Go.Clashes

namespace Go.Vai
open Go Go.Clashes
def kn(m:Int):Bool:=decide (0<=m) && decide (m<=6)
def alZ:List (List Bool):=[
 [true,false,false,false,false,false,false],
 [true,true,false,false,false,false,false],
 [true,true,true,false,false,false,false],
 [true,true,false,true,false,false,false],
 [true,true,true,true,true,false,false],
 [true,true,false,true,false,true,false],
 [true,true,true,true,true,true,true]]
def lN(a b:Int):Bool:=kn a && kn b && ((alZ.getD a.toNat []).getD b.toNat false)
def bN(a b:Int):Int:=if(kn a && kn b)=true then(if lN a b then a else if lN b a then b else if lN 4 a && lN 4 b then 4 else 6)else 0
theorem v_(n:Nat):kn (.negSucc n)=false:=by
 have h:¬(0:Int)<=.negSucc n:=by omega
 unfold kn;rw[aZ h];rfl
theorem wg(n:Nat):kn (.ofNat (n+7))=false:=by
 have h:¬(Int.ofNat (n+7))<=6:=by show ¬((n+7:Nat):Int)<=6;omega
 unfold kn;rw[aZ h,Bool.and_false]
theorem Dw{a b:Int}(h:lN a b=true):kn a=true/\kn b=true:=by
 simp only[lN,Bool.and_eq_true]at h;exact h.1
theorem X3{a b:Int}(h:kn a=false):lN a b=false:=by simp[lN,h]
theorem X4{a b:Int}(h:kn b=false):lN a b=false:=by simp[lN,h]
theorem Qq{a b:Int}(h:kn a=false):bN a b=0:=by simp[bN,h]
theorem Qr{a b:Int}(h:kn b=false):bN a b=0:=by simp[bN,h]
theorem Qs{a b:Int}(h:kn a=false):cmp a b=false:=by
 unfold cmp;unfold kn at h;rw[h];rfl
theorem X5{a b:Int}(h:kn b=false):cmp a b=false:=by rw[uw];exact Qs h
theorem wj(a:Int):(∃i:Nat,i<7/\a=Int.ofNat i)\/(∃n:Nat,a=Int.negSucc n)\/∃n:Nat,a=Int.ofNat (n+7):=by
 cases a with
 |negSucc n=>exact .inr (.inl ⟨n,rfl⟩)
 |ofNat i=>
  rcases Nat.lt_or_ge i 7 with h|h
  .exact .inl ⟨i,h,rfl⟩
  .exact .inr (.inr ⟨i-7,by congr 1;omega⟩)
theorem seven{p:Nat->Prop}(h0:p 0)(h1:p 1)(h2:p 2)(h3:p 3)(h4:p 4)(h5:p 5)(h6:p 6):∀i,i<7->p i:=by
 intro i hi;have:i=0\/i=1\/i=2\/i=3\/i=4\/i=5\/i=6:=by omega
 rcases this with rfl|rfl|rfl|rfl|rfl|rfl|rfl<;>assumption
theorem rN{P:Program}(mix:P.follows .mixedOrders=true){f:FuncId}{F:Int->Int->Value}(h1:∀i,i<7->∀j,j<7->bE P 200 f [.int .i64 (.ofNat i),.int .i64 (.ofNat j)] (F (.ofNat i) (.ofNat j))=true)(h2:∀(n:Nat)(b:Int),bE P 200 f [.int .i64 (.negSucc n),.int .i64 b] (F (.negSucc n) b)=true)(h3:∀(n:Nat)(b:Int),bE P 200 f [.int .i64 (.ofNat (n+7)),.int .i64 b] (F (.ofNat (n+7)) b)=true)(h4:∀i,i<7->∀n:Nat,bE P 200 f [.int .i64 (.ofNat i),.int .i64 (.negSucc n)] (F (.ofNat i) (.negSucc n))=true)(h5:∀i,i<7->∀n:Nat,bE P 200 f [.int .i64 (.ofNat i),.int .i64 (.ofNat (n+7))] (F (.ofNat i) (.ofNat (n+7)))=true)(a b:Int){h:Heap}{V:KQ}(hk:V (F a b) h):CallW P f [.int .i64 a,.int .i64 b] h V:=by
 refine rH mix (n:=200) ?_ hk;rcases wj a with⟨i,hi,rfl⟩|⟨n,rfl⟩|⟨n,rfl⟩
 .rcases wj b with⟨j,hj,rfl⟩|⟨m,rfl⟩|⟨m,rfl⟩
  .exact h1 i hi j hj
  .exact h4 i hi m
  .exact h5 i hi m
 .exact h2 n b
 .exact h3 n b
theorem iY{a:Int}(h:kn a=true):∃i:Nat,i<7/\a=(i:Int):=by
 unfold kn at h;simp only[Bool.and_eq_true,decide_eq_true_eq]at h;exact⟨a.toNat,by omega,by omega⟩
theorem U8:∀i,i<7->∀j,j<7->lN (i:Nat) (j:Nat)=true->lN (j:Nat) (i:Nat)=true->i=j:=by decide +kernel
theorem Qt{a b:Int}(h1:lN a b=true)(h2:lN b a=true):a=b:=by
 obtain⟨i,hi,rfl⟩:=iY (Dw h1).1;obtain⟨j,hj,rfl⟩:=iY (Dw h1).2;rw[U8 i hi j hj h1 h2]
theorem U9:∀i,i<7->lN (i:Nat) 0=true:=by decide +kernel
theorem Qu{a:Int}(h:kn a=true):lN a 0=true:=by
 obtain⟨i,hi,rfl⟩:=iY h;exact U9 i hi
theorem ZB:∀i,i<7->∀j,j<7->(lN (i:Nat) (bN (i:Nat) (j:Nat))=true->lN (i:Nat) (j:Nat)=true)/\lN (bN (i:Nat) (j:Nat)) (i:Nat)=true/\lN (bN (i:Nat) (j:Nat)) (j:Nat)=true/\(j≠0->bN (i:Nat) (j:Nat)≠0)/\(lN (i:Nat) (j:Nat)=true->bN (i:Nat) (j:Nat)=(i:Nat)):=by decide +kernel
theorem Qv{a b:Int}(ha:kn a=true)(hb:kn b=true):(lN a (bN a b)=true->lN a b=true)/\lN (bN a b) a=true/\lN (bN a b) b=true/\(b≠0->bN a b≠0)/\(lN a b=true->bN a b=a):=by
 obtain⟨i,hi,rfl⟩:=iY ha;obtain⟨j,hj,rfl⟩:=iY hb;obtain⟨h1,h2,h3,h4,h5⟩:=ZB i hi j hj;exact⟨h1,h2,h3,λhb=>h4 (by omega),h5⟩
theorem ZC{a b:Int}(ha:kn a=true)(hb:kn b=true):kn (bN a b)=true:=(Dw (Qv ha hb).2.1).1
end Go.Vai

namespace Go.Vai
open Go Go.Clashes
structure R5 where
 id:Int
 x:Int
 m:Int
 w:Int
 s:Int
def bH(r:R5):List Value:=[.int .i64 r.id,.int .i64 r.x,.int .i64 r.m,.int .i64 r.w,.int .i64 r.s]
theorem cG(r:R5):(bH r).length=5:=rfl
theorem zo(r:R5):(bH r).all dJ=true:=rfl
theorem ZD{p q:R5}:p=q<->(p.id=q.id/\p.x=q.x/\p.m=q.m/\p.w=q.w/\p.s=q.s):=by
 cases p;cases q;simp
instance :DecidableEq R5:=λp q=>decidable_of_iff _ ZD.symm
def xo(r:R5):Bool:=decide (r.m≠0) && decide (0<r.s)
theorem yd(r:R5):xo r=true<->r.m≠0/\0<r.s:=by simp[xo]
def Cx(Q:List R5)(r:R5)(o:Option Nat):Bool:=match o with
 |none=>true
 |some b=>match Q[b]? with
  |some q=>decide (r.s<q.s)
  |none=>false
def best(Q:List R5):Nat->Option Nat
 |0=>none
 |i+1=>match Q[i]? with
  |some r=>if(xo r && Cx Q r (best Q i))=true then some i else best Q i
  |none=>best Q i
def eP(Q:List R5):Option Nat:=match best Q Q.length with|some b=>some b|none=>Q.findIdx? (λr=>decide (r.m=0))
def iE(Q:List R5)(r:R5):Bool:=!Q.any λo=>decide (o.id≠r.id) && decide (o.m≠0) && !cmp o.m r.w
theorem Lf(Q:List R5):∀i b,best Q i=some b->b<i/\∃r,Q[b]? = some r/\xo r=true:=by
 intro i
 induction i with
 |zero=>intro b h;cases h
 |succ i ih=>
  intro b h;unfold best at h;split at h
  .rename_i r hr;split at h
   .rename_i hc;cases h;rw[Bool.and_eq_true]at hc;exact⟨Nat.lt_succ_self _,r,hr,hc.1⟩
   .obtain⟨h1,h2⟩:=ih b h;exact⟨by omega,h2⟩
  .obtain⟨h1,h2⟩:=ih b h;exact⟨by omega,h2⟩
theorem Cy(Q:List R5):∀i,best Q i=none->∀(j:Nat)(r:R5),j<i->Q[j]? = some r->xo r=false:=by
 intro i
 induction i with
 |zero=>intro _ j r h;omega
 |succ i ih=>
  intro h j r hj hr;unfold best at h;split at h
  .rename_i q hq;split at h
   .cases h
   .rename_i hc;by_cases hji:j=i
    .subst hji;rw[hq]at hr;cases hr;rw[h]at hc;simpa[Cx]using hc
    .exact ih h j r (by omega) hr
  .rename_i hq;by_cases hji:j=i
   .subst hji;rw[hq]at hr;cases hr
   .exact ih h j r (by omega) hr
theorem Jl{Q:List R5}(h:eP Q=none):∀r∈Q,r.m≠0/\¬0<r.s:=by
 unfold eP at h;split at h
 .cases h
 .rename_i hb;rw[List.findIdx?_eq_none_iff]at h;intro r hr;obtain⟨j,hj⟩:=List.getElem?_of_mem hr;have h1:=Cy Q _ hb j r (List.getElem?_eq_some_iff.1 hj).1 hj;have h2:r.m≠0:=by simpa using h r hr
  refine⟨h2,λh3=>?_⟩;rw[(yd r).2 ⟨h2,h3⟩]at h1;cases h1
theorem tg{Q:List R5}{i:Nat}(h:eP Q=some i):∃r,Q[i]? = some r/\(xo r=true\/(r.m=0/\(∀q∈Q,xo q=false)/\∀(j:Nat)(q:R5),j<i->Q[j]? = some q->q.m≠0)):=by
 unfold eP at h;split at h
 .rename_i b hb;cases h;obtain⟨_,r,h1,h2⟩:=Lf Q _ _ hb;exact⟨r,h1,.inl h2⟩
 ·rename_i hb;have hno:∀q∈Q,xo q=false:=λq hq=>by
   obtain⟨j,hj⟩:=List.getElem?_of_mem hq;exact Cy Q _ hb j q (List.getElem?_eq_some_iff.1 hj).1 hj
  rcases mH Q (λr=>decide (r.m=0))with⟨e,_⟩|⟨k,p,e,hp,h1,h2⟩
  .rw[e]at h;cases h
  .rw[e]at h;cases h;exact⟨p,hp,.inr ⟨by simpa using h1,hno,λj q hj hq=>by simpa using h2 j q hj hq⟩⟩
theorem oQ(Q:List R5)(r:R5):iE Q r=true<->∀o∈Q,o.id≠r.id->o.m≠0->cmp o.m r.w=true:=by
 unfold iE;rw[Bool.not_eq_true',List.any_eq_false];constructor
 .intro h o ho h1 h2;have:=h o ho;simpa[h1,h2]using this
 .intro h o ho hc;simp only[Bool.and_eq_true,decide_eq_true_eq,Bool.not_eq_true']at hc;rw[h o ho hc.1.1 hc.1.2]at hc;cases hc.2
structure Qw(W:Int)(r:R5):Prop where
 id:0<=r.id
 km:kn r.m=true
 kw:kn r.w=true
 s0:0<=r.s
 sW:r.s<=W
 wait:0<r.s->lN r.m r.w=false
 hold:r.s=0->r.m≠0/\r.w=r.m
structure zp(a b:R5):Prop where
 id:a.id≠b.id
 x:a.x≠b.x
 s:0<a.s->a.s≠b.s
 cm:a.m≠0->b.m≠0->cmp a.m b.m=true
 ord:a.m=0->b.m=0/\a.s<b.s
structure VQ(Q:List R5)(W:Int):Prop where
 w0:0<=W
 right:∀r∈Q,Qw W r
 pair:Q.Pairwise zp
theorem fe{α:Type}{R:α->α->Prop}{L:List α}:L.Pairwise R<->∀(i j:Nat)(p q:α),i<j->L[i]? = some p->L[j]? = some q->R p q:=by
 rw[List.pairwise_iff_getElem];constructor
 .intro h i j p q hij hp hq;obtain⟨hi,rfl⟩:=List.getElem?_eq_some_iff.1 hp;obtain⟨hj,rfl⟩:=List.getElem?_eq_some_iff.1 hq;exact h i j hi hj hij
 .intro h i j hi hj hij;exact h i j _ _ hij (List.getElem?_eq_getElem hi) (List.getElem?_eq_getElem hj)
theorem tj{α:Type}{R:α->α->Prop}{L:List α}{i:Nat}{p:α}(h:L.Pairwise R)(h1:∀(j:Nat)(q:α),j<i->L[j]? = some q->R q p)(h2:∀(j:Nat)(q:α),i<j->L[j]? = some q->R p q):(L.set i p).Pairwise R:=by
 rw[fe]at *
 intro a b u v hab hu hv;rw[List.getElem?_set]at hu hv;by_cases ha:i=a
 .subst ha;rw[if_pos rfl]at hu;rw[if_neg (by omega)]at hv;split at hu
  .cases hu;exact h2 b v hab hv
  .cases hu
 .rw[if_neg ha]at hu;by_cases hb:i=b
  .subst hb;rw[if_pos rfl]at hv;split at hv
   .cases hv;exact h1 a u hab hu
   .cases hv
  .rw[if_neg hb]at hv;exact h a b u v hab hu hv
theorem mem_set{α:Type}{L:List α}{i:Nat}{p q:α}(h:q∈L.set i p):q=p\/q∈L:=by
 rcases List.mem_or_eq_of_mem_set h with h|h
 .exact .inr h
 .exact .inl h
theorem Qx{Q:List R5}(h:Q.Pairwise zp){i j:Nat}{p q:R5}(hp:Q[i]? = some p)(hq:Q[j]? = some q)(he:p.id=q.id):i=j:=by
 rcases Nat.lt_trichotomy i j with h1|h1|h1
 .exact absurd he (fe.1 h i j p q h1 hp hq).id
 .exact h1
 .exact absurd he.symm (fe.1 h j i q p h1 hq hp).id
theorem ZE{Q:List R5}(h:Q.Pairwise zp){p q:R5}(hp:p∈Q)(hq:q∈Q)(he:p.id=q.id):p=q:=by
 obtain⟨i,hi⟩:=List.getElem?_of_mem hp;obtain⟨j,hj⟩:=List.getElem?_of_mem hq;have:=Qx h hi hj he;subst this;rw[hi]at hj;cases hj;rfl
theorem VQ.mono{Q:List R5}{W W':Int}(v:VQ Q W)(h:W<=W'):VQ Q W':=
 ⟨Int.le_trans v.w0 h,λr hr=>let a:=v.right r hr;⟨a.id,a.km,a.kw,a.s0,Int.le_trans a.sW h,a.wait,a.hold⟩,v.pair⟩
theorem VQ.nil:VQ [] 0:=⟨Int.le_refl _,λr hr=>(by cases hr),List.Pairwise.nil⟩
theorem VQ.filter{Q:List R5}{W:Int}(v:VQ Q W)(F:R5->Bool):VQ (Q.filter F) W:=
 ⟨v.w0,λr hr=>v.right r (List.mem_filter.1 hr).1,v.pair.sublist List.filter_sublist⟩
theorem zq{W:Int}{r:R5}(h:Qw W r)(hs:0<r.s):r.w≠0:=by
 intro e;have:=h.wait hs;rw[e,Qu h.km]at this;cases this
def dW(r:R5):R5:=⟨r.id,r.x,r.w,r.w,0⟩
theorem VQ.Qy{Q:List R5}{W:Int}(v:VQ Q W){i:Nat}{r:R5}(hf:eP Q=some i)(hr:Q[i]? = some r)(hfit:iE Q r=true):VQ (Q.set i (dW r)) W:=by
 obtain⟨r',hr',Lg⟩:=tg hf;rw[hr]at hr';cases hr';have R:=v.right r (List.mem_of_getElem? hr);have hs:0<r.s:=by
  rcases Lg with h|⟨h,_⟩
  .exact((yd r).1 h).2
  .rcases Int.lt_or_eq_of_le R.s0 with h0|h0
   .exact h0
   .exact absurd h (R.hold h0.symm).1
 have hw:=zq R hs;rw[oQ]at hfit;refine⟨v.w0,?_,?_⟩
 .intro q hq;rcases mem_set hq with rfl|hq
  .exact⟨R.id,R.kw,R.kw,Int.le_refl _,v.w0,λh=>absurd h (Int.lt_irrefl _),λ_=>⟨hw,rfl⟩⟩
  .exact v.right q hq
 .refine tj v.pair ?_ ?_
  ·intro j q hj hq;have P:=fe.1 v.pair j i q r hj hq hr;have hm:q.m≠0:=by
    rcases Lg with h|⟨_,_,h⟩
    .intro e;exact((yd r).1 h).1 (P.ord e).1
    .exact h j q hj hq
   exact⟨P.id,P.x,λh=>(λe:q.s=0=>by omega),λh1 _=>hfit q (List.mem_of_getElem? hq) P.id h1,λe=>absurd e hm⟩
  .intro j q hj hq;have P:=fe.1 v.pair i j r q hj hr hq;refine⟨P.id,P.x,λh=>absurd h (Int.lt_irrefl _),λ_ h2=>?_,λe=>absurd e hw⟩;rw[uw];exact hfit q (List.mem_of_getElem? hq) (λe=>P.id e.symm) h2
def iZ(Q:List R5):Nat:=(Q.filter λr=>decide (0<r.s)).length
theorem tq{Q:List R5}{i:Nat}{r:R5}(hr:Q[i]? = some r)(hs:0<r.s):iZ (Q.set i (dW r))+1=iZ Q:=by
 obtain⟨hi,rfl⟩:=List.getElem?_eq_some_iff.1 hr;have e1:Q=Q.take i++Q[i]::Q.drop (i+1):=by
  rw[List.getElem_cons_drop,List.take_append_drop]
 have e2:Q.set i (dW Q[i])=Q.take i++dW Q[i]::Q.drop (i+1):=by
  rw[List.set_eq_take_append_cons_drop,if_pos hi]
 have hg:decide (0<(dW Q[i]).s)=false:=by simp[dW]
 have h1:iZ Q=((Q.take i).filter λr=>decide (0<r.s)).length+(((Q.drop (i+1)).filter λr=>decide (0<r.s)).length+1):=by
  conv=>lhs;rw[e1]
  unfold iZ;rw[List.filter_append,List.filter_cons,if_pos (by simpa using hs)];simp
 rw[e2,h1];unfold iZ;rw[List.filter_append,List.filter_cons,if_neg (by rw[hg];simp)];simp;omega
def dY:Nat->List R5->List R5 × List Int
 |0,Q=>(Q,[])
 |n+1,Q=>match eP Q with
  |none=>(Q,[])
  |some i=>match Q[i]? with
   |none=>(Q,[])
   |some r=>if iE Q r=true then((dY n (Q.set i (dW r))).1,r.id::(dY n (Q.set i (dW r))).2)else(Q,[])
def tu(Q:List R5):Prop:=∀i r,eP Q=some i->Q[i]? = some r->iE Q r=false
def Jm(r:R5):Int × Int:=(r.id,r.x)
theorem kI{Q:List R5}{W:Int}(v:VQ Q W){i:Nat}{r:R5}(hf:eP Q=some i)(hr:Q[i]? = some r):0<r.s:=by
 obtain⟨r',hr',Lg⟩:=tg hf;rw[hr]at hr';cases hr';have R:=v.right r (List.mem_of_getElem? hr);rcases Lg with h|⟨h,_⟩
 .exact((yd r).1 h).2
 .rcases Int.lt_or_eq_of_le R.s0 with h0|h0
  .exact h0
  .exact absurd h (R.hold h0.symm).1
theorem Nj{W:Int}:∀(n:Nat){Q:List R5},VQ Q W->∀q∈Q,q.s=0->q∈(dY n Q).1:=by
 intro n
 induction n with
 |zero=>intro Q v q hq _;exact hq
 |succ n ih=>
  intro Q v q hq h0;unfold dY;split
  .exact hq
  .rename_i i hf;split
   .exact hq
   .rename_i r hr;by_cases hfit:iE Q r=true
    ·rw[if_pos hfit];refine ih (v.Qy hf hr hfit) q ?_ h0;obtain⟨k,hk⟩:=List.getElem?_of_mem hq;have hne:i≠k:=by
      rintro rfl;rw[hr]at hk;cases hk;have:=kI v hf hr;omega
     exact List.mem_of_getElem? (i:=k) (by rw[List.getElem?_set,if_neg hne];exact hk)
    .rw[if_neg hfit];exact hq
theorem Dx{W:Int}:∀(n:Nat){Q:List R5},VQ Q W->VQ (dY n Q).1 W/\(dY n Q).1.map Jm=Q.map Jm/\(iZ Q<n->tu (dY n Q).1)/\(∀i∈(dY n Q).2,∃r∈(dY n Q).1,r.id=i/\r.m≠0/\r.s=0):=by
 intro n
 induction n with
 |zero=>intro Q v;exact⟨v,rfl,λh=>(by omega),λi h=>(by cases h)⟩
 |succ n ih=>
  intro Q v;unfold dY;split
  .rename_i hf;refine⟨v,rfl,λ_=>?_,λi h=>(by cases h)⟩;intro i r h _;rw[hf]at h;cases h
  .rename_i i hf;split
   .rename_i hr;refine⟨v,rfl,λ_=>?_,λi h=>(by cases h)⟩;intro j r h h2;rw[hf]at h;cases h;rw[hr]at h2;cases h2
   .rename_i r hr;by_cases hfit:iE Q r=true
    ·rw[if_pos hfit];have v2:=v.Qy hf hr hfit;obtain⟨h1,h2,h3,h4⟩:=ih v2;have hc:=tq hr (kI v hf hr);have hkey:(Q.set i (dW r)).map Jm=Q.map Jm:=by
      rw[List.map_set];have:Jm (dW r)=Jm r:=rfl;rw[this];apply List.ext_getElem?;intro k;rw[List.getElem?_set];by_cases hik:i=k
      .subst hik;have hil:=(List.getElem?_eq_some_iff.1 hr).1;rw[if_pos rfl,if_pos (by simpa using hil),List.getElem?_map,hr];rfl
      .rw[if_neg hik]
     refine⟨h1,h2.trans hkey,λh=>h3 (by omega),λj hj=>?_⟩;rcases List.mem_cons.1 hj with rfl|hj
     .refine⟨dW r,Nj n v2 (dW r) ?_ rfl,rfl,?_,rfl⟩
      .have hil:=(List.getElem?_eq_some_iff.1 hr).1;exact List.mem_of_getElem? (i:=i) (by rw[List.getElem?_set,if_pos rfl,if_pos hil])
      .exact zq (v.right r (List.mem_of_getElem? hr)) (kI v hf hr)
     .exact h4 j hj
    .rw[if_neg hfit];refine⟨v,rfl,λ_=>?_,λi h=>(by cases h)⟩;intro j q h h2;rw[hf]at h;cases h;rw[hr]at h2;cases h2;simpa using hfit
theorem zu{Q:List R5}(h:tu Q)(n:Nat):dY n Q=(Q,[]):=by
 cases n with
 |zero=>rfl
 |succ n=>
  unfold dY;split
  .rfl
  .rename_i i hf;split
   .rfl
   .rename_i r hr;rw[if_neg (by rw[h i r hf hr];simp)]
end Go.Vai

namespace Go.Vai
open Go Go.Clashes
def bY(m:Int):Bool:=decide (m≠0) && kn m
theorem jU(m:Int):bY m=true<->m≠0/\kn m=true:=by simp[bY]
def cC(id:Int)(r:R5):Bool:=decide (r.id=id)
def cq(Q:List R5)(id:Int):Option R5:=Q.find? (cC id)
theorem jV{Q:List R5}{id:Int}{r:R5}(h:cq Q id=some r):r∈Q/\r.id=id:=by
 unfold cq at h;have:=List.find?_some h;exact⟨List.mem_of_find?_eq_some h,by simpa[cC]using this⟩
theorem zw{Q:List R5}{id:Int}(h:cq Q id=none):∀r∈Q,r.id≠id:=by
 unfold cq at h;rw[List.find?_eq_none]at h;intro r hr e;exact h r hr (by simp[cC,e])
theorem Nk{Q:List R5}(hp:Q.Pairwise zp){r:R5}(hr:r∈Q):cq Q r.id=some r:=by
 cases h:cq Q r.id with
 |none=>exact absurd rfl (zw h r hr)
 |some q=>
  obtain⟨h1,h2⟩:=jV h;rw[ZE hp h1 hr h2]
def kT(Q:List R5)(W id x m:Int):R5 × Int × Bool:=
 if(decide (eP Q=none) && iE Q ⟨id,x,0,m,0⟩)=true then(⟨id,x,m,m,0⟩,W,true)else(⟨id,x,0,m,W+1⟩,W+1,false)
theorem ZF{m:Int}(h:lN 0 m=true):m=0:=by
 have key:∀j,j<7->lN 0 (j:Nat)=true->j=0:=by decide +kernel
 obtain⟨j,hj,rfl⟩:=iY (Dw h).2;rw[key j hj h];rfl
theorem uy{α:Type}{R:α->α->Prop}{L:List α}{p:α}(h:L.Pairwise R)(h1:∀q∈L,R q p):(L++[p]).Pairwise R:=by
 rw[List.pairwise_append];exact⟨h,List.pairwise_singleton _ _,λq hq r hr=>by rw[List.mem_singleton]at hr;subst hr;exact h1 q hq⟩
theorem VQ.ask{Q:List R5}{W:Int}(v:VQ Q W){id x m:Int}(hid:0<=id)(hm:bY m=true)(hn:∀q∈Q,q.id≠id/\q.x≠x):VQ (Q++[(kT Q W id x m).1]) (kT Q W id x m).2.1:=by
 obtain⟨m0,km⟩:=(jU m).1 hm;unfold kT;by_cases hc:(decide (eP Q=none) && iE Q ⟨id,x,0,m,0⟩)=true
 .rw[if_pos hc];rw[Bool.and_eq_true,decide_eq_true_eq,oQ]at hc;have hall:=Jl hc.1;refine⟨v.w0,?_,uy v.pair ?_⟩
  .intro r hr;rcases List.mem_append.1 hr with hr|hr
   .exact v.right r hr
   .rw[List.mem_singleton]at hr;subst hr;exact⟨hid,km,km,Int.le_refl _,v.w0,λh=>absurd h (Int.lt_irrefl _),λ_=>⟨m0,rfl⟩⟩
  .intro q hq;exact⟨(hn q hq).1,(hn q hq).2,λh=>absurd h (hall q hq).2,λh1 _=>hc.2 q hq (hn q hq).1 h1,λe=>absurd e (hall q hq).1⟩
 .rw[if_neg hc];have v2:=v.mono (W':=W+1) (by omega);refine⟨v2.w0,?_,uy v.pair ?_⟩
  .intro r hr;rcases List.mem_append.1 hr with hr|hr
   .exact v2.right r hr
   .rw[List.mem_singleton]at hr;subst hr;refine⟨hid,rfl,km,v2.w0,Int.le_refl _,λ_=>?_,λh=>?_⟩
    .cases hcv:lN 0 m with
     |false=>rfl
     |true=>exact absurd (ZF hcv) m0
    .have:=v.w0;have h:W+1=0:=h;omega
  .intro q hq;have:=(v.right q hq).sW;exact⟨(hn q hq).1,(hn q hq).2,λ_=>(λe:q.s=W+1=>by omega),λ_ h=>absurd rfl h,λ_=>⟨rfl,by show q.s<W+1;omega⟩⟩
def jL(Q:List R5)(W:Int)(r:R5)(m:Int):R5 × Int × Bool:=
 if(decide (bN r.m m=r.m) || (iE Q ⟨r.id,r.x,r.m,bN r.m m,r.s⟩ && !Q.any xo))=true then(⟨r.id,r.x,bN r.m m,bN r.m m,r.s⟩,W,true)else(⟨r.id,r.x,r.m,bN r.m m,W+1⟩,W+1,false)
theorem VQ.upg{Q:List R5}{W:Int}(v:VQ Q W){i:Nat}{r:R5}{m:Int}(hr:Q[i]? = some r)(hs:¬0<r.s)(hm:bY m=true):VQ (Q.set i (jL Q W r m).1) (jL Q W r m).2.1:=by
 obtain⟨m0,km⟩:=(jU m).1 hm;have R:=v.right r (List.mem_of_getElem? hr);have hs0:r.s=0:=by have:=R.s0;omega
 obtain⟨rm0,rw⟩:=R.hold hs0;obtain⟨_,c1,c2,c3,_⟩:=Qv R.km km;have ks:=ZC R.km km;have before:∀(j:Nat)(q:R5),j<i->Q[j]? = some q->q.m≠0:=λj q hj hq e=>rm0 ((fe.1 v.pair j i q r hj hq hr).ord e).1;unfold jL;by_cases hc:(decide (bN r.m m=r.m) || (iE Q ⟨r.id,r.x,r.m,bN r.m m,r.s⟩ && !Q.any xo))=true
 ·rw[if_pos hc];have hfit:∀o∈Q,o.id≠r.id->o.m≠0->cmp o.m (bN r.m m)=true:=by
   intro o ho h1 h2;rw[Bool.or_eq_true,decide_eq_true_eq,Bool.and_eq_true,oQ]at hc;rcases hc with e|⟨h,_⟩
   .rw[e];obtain⟨k,hk⟩:=List.getElem?_of_mem ho;rcases Nat.lt_trichotomy k i with dB|dB|dB
    .exact(fe.1 v.pair k i o r dB hk hr).cm h2 rm0
    .subst dB;rw[hr]at hk;cases hk;exact absurd rfl h1
    .rw[uw];exact(fe.1 v.pair i k r o dB hr hk).cm rm0 h2
   .exact h o ho h1 h2
  refine⟨v.w0,?_,tj v.pair ?_ ?_⟩
  .intro q hq;rcases mem_set hq with rfl|hq
   .exact⟨R.id,ks,ks,R.s0,R.sW,λh=>absurd h hs,λ_=>⟨c3 m0,rfl⟩⟩
   .exact v.right q hq
  .intro j q hj hq;have P:=fe.1 v.pair j i q r hj hq hr;exact⟨P.id,P.x,P.s,λh1 _=>hfit q (List.mem_of_getElem? hq) P.id h1,λe=>absurd e (before j q hj hq)⟩
  .intro j q hj hq;have P:=fe.1 v.pair i j r q hj hr hq;exact⟨P.id,P.x,P.s,λ_ h2=>by rw[uw];exact hfit q (List.mem_of_getElem? hq) (λe=>P.id e.symm) h2,λe=>absurd e (c3 m0)⟩
 .rw[if_neg hc];have v2:=v.mono (W':=W+1) (by omega);rw[Bool.or_eq_true,decide_eq_true_eq]at hc;refine⟨v2.w0,?_,tj v.pair ?_ ?_⟩
  .intro q hq;rcases mem_set hq with rfl|hq
   .refine⟨R.id,R.km,ks,v2.w0,Int.le_refl _,λ_=>?_,λh=>?_⟩
    .cases hcv:lN r.m (bN r.m m)with
     |false=>rfl
     |true=>exact absurd (.inl (Qt c1 hcv)) hc
    .have:=v.w0;have h:W+1=0:=h;omega
   .exact v2.right q hq
  .intro j q hj hq;have P:=fe.1 v.pair j i q r hj hq hr;have:=(v.right q (List.mem_of_getElem? hq)).sW;exact⟨P.id,P.x,λ_=>(λe:q.s=W+1=>by omega),P.cm,λe=>absurd e (before j q hj hq)⟩
  .intro j q hj hq;have P:=fe.1 v.pair i j r q hj hr hq;have:=(v.right q (List.mem_of_getElem? hq)).sW;exact⟨P.id,P.x,λ_=>(λe:W+1=q.s=>by omega),P.cm,λe=>absurd e rm0⟩
def xq(r:R5)(x:Int):R5:=⟨r.id,x,r.m,r.w,r.s⟩
theorem VQ.hand{Q:List R5}{W:Int}(v:VQ Q W){i:Nat}{r:R5}{x:Int}(hr:Q[i]? = some r)(hx:∀q∈Q,q.id≠r.id->q.x≠x):VQ (Q.set i (xq r x)) W:=by
 have R:=v.right r (List.mem_of_getElem? hr);refine⟨v.w0,?_,tj v.pair ?_ ?_⟩
 .intro q hq;rcases mem_set hq with rfl|hq
  .exact⟨R.id,R.km,R.kw,R.s0,R.sW,R.wait,R.hold⟩
  .exact v.right q hq
 .intro j q hj hq;have P:=fe.1 v.pair j i q r hj hq hr;exact⟨P.id,hx q (List.mem_of_getElem? hq) P.id,P.s,P.cm,P.ord⟩
 .intro j q hj hq;have P:=fe.1 v.pair i j r q hj hr hq;exact⟨P.id,λe=>hx q (List.mem_of_getElem? hq) (λe=>P.id e.symm) e.symm,P.s,P.cm,P.ord⟩
end Go.Vai

namespace Go.Vai
open Go
variable {β:Type}{fl:β}
noncomputable def U_(fl:β)(l c:Value)(z:List Value)(e:TypeId)(h:Heap)(V:Z7 β):β:=
 match l,c with
 | .int _ (.ofNat l),.int _ (.ofNat c)=>match Nat.ble l c,Nat.ble c 1000000 with
  |true,true=>aH fl (a_ z c) e false λo=>ax fl o h λb h=>V (sliceTo l c b) h
  |_,_=>fl
 |_,_=>fl
theorem Dy(n:Nat)(z:List Value)(e:TypeId)(h:Heap)(V:Z7 β)(hn:n<=1000000)(hl:(a_ z n).length<=1000000000000):U_ fl (.int .i64 (n:Int)) (.int .i64 (n:Int)) z e h V=V (.slice (some ⟨h.nx,0,none⟩) n n) ⟨h.nx+1,h.bl.aV h.nx (aa (a_ z n) e false),h.lo⟩:=by
 have e1:Nat.ble n n=true:=Nat.ble_eq_true_of_le (Nat.le_refl _);have e2:Nat.ble n 1000000=true:=Nat.ble_eq_true_of_le hn
 show(match Nat.ble n n,Nat.ble n 1000000 with|true,true=>_|_,_=>fl)=_
 rw[e1,e2];simp only;rw[jj _ _ _ _ hl,di];rfl
end Go.Vai
