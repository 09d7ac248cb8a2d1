/-
  PROVED HERE: a part of the proof (VaiG, VaiA, VaiF, Srt, AA0, Plain, PM, Q1, Q2, VaiH).
-/
import Derived.Test.YtfkonofjdimjbaaGreatDoorG2
set_option linter.unusedVariables false
set_option linter.unusedSimpArgs false
set_option maxRecDepth 100000
noncomputable section
namespace Go.Vai
open Go Go.RowKit
def gG:Option Nat->Int|some i=>i|none=>-1
def HQ(a b:af):Prop:=a=b
theorem F9{α:Type}(L:List α)(F:α->Bool):(decide (0<=gG (L.findIdx? F)))=L.any F:=by
 cases hf:L.findIdx? F with
 |none=>
  rw[List.findIdx?_eq_none_iff]at hf;have:L.any F=false:=by rw[List.any_eq_false];intro x hx;simp[hf x hx]
  rw[this];rfl
 |some i=>
  rw[List.findIdx?_eq_some_iff_getElem]at hf;obtain⟨hi,h1,_⟩:=hf;have:L.any F=true:=List.any_eq_true.2 ⟨_,List.getElem_mem hi,h1⟩;rw[this];exact decide_eq_true (by show(0:Int)<=(i:Int);omega)
theorem mI{α:Type}(L:List α)(F:α->Bool):(L.findIdx? F=none/\∀x∈L,F x=false)\/∃(i:Nat)(p:α),L.findIdx? F=some i/\L[i]? = some p/\F p=true/\∀(j:Nat)(q:α),j<i->L[j]? = some q->F q=false:=by
 cases hf:L.findIdx? F with
 |none=>
  rw[List.findIdx?_eq_none_iff]at hf;exact .inl ⟨rfl,hf⟩
 |some i=>
  rw[List.findIdx?_eq_some_iff_getElem]at hf;obtain⟨hi,h1,h2⟩:=hf;refine .inr ⟨i,L[i],rfl,List.getElem?_eq_getElem hi,h1,λj q hj hq=>?_⟩;have:=h2 j hj;rw[(List.getElem?_eq_some_iff.1 hq).2]at this;simpa using this
theorem Rv{α:Type}{L:List α}{F:α->Bool}{i:Nat}{p:α}(hp:L[i]? = some p)(h1:F p=true)(h2:∀(j:Nat)(q:α),j<i->L[j]? = some q->F q=false):L.findIdx? F=some i:=by
 rw[List.findIdx?_eq_some_iff_getElem];obtain⟨cZ,hk2⟩:=List.getElem?_eq_some_iff.1 hp;refine⟨cZ,by rw[hk2];exact h1,λj hj=>?_⟩;simpa using h2 j _ hj (List.getElem?_eq_getElem YYZ)
theorem Rw{α:Type}{L:List α}{F:α->Bool}(h2:∀(j:Nat)(q:α),L[j]? = some q->F q=false):L.findIdx? F=none:=by
 rw[List.findIdx?_eq_none_iff];intro p hp;obtain⟨j,hj⟩:=List.getElem?_of_mem hp;exact h2 j p hj
theorem gY{α:Type}{F:α->Bool}{L:List α}{j:Nat}{p:α}(hp:L[j]? = some p):(L.take (j+1)).filter F=(L.take j).filter F++if F p then[p]else[]:=by
 obtain⟨hj,rfl⟩:=List.getElem?_eq_some_iff.1 hp;rw[List.take_succ_eq_append_getElem hj,List.filter_append];cases h:F L[j]<;>simp[h]
def ez(P:Program)(ti:TypeId)(s:Nat)(a0 a1:Value)(h:af)(V:KQ):Prop:=
 bF False a0 h λv0 h=>
 dD [undef,undef,undef,undef,undef,undef,undef,undef,undef,undef,(Value.int .i64 (0)),undef,(Value.int .i64 (0))] h λl2 h N1=>
 aI False P .lss ti false false (an l2 12) v0 h λv3 h=>
 aM v3 (
 aK False s a0 (an l2 12) h λv4 h=>
 aO False s v4 h λv5 h=>
 fq P a1 [v5] h λv6 h=>
 aM v6 (
 V (an l2 12) h) (
 aI False P .add ti true false (an l2 12) (Value.int .i64 (1)) h λv7 h=>
 N1 [v3,(an l2 12),(an l2 12),a1,a0,(an l2 12),v4,v5,v6,(an l2 9),(an l2 10),v7,v7] h)) (
 V (Value.int .i64 (-1)) h)
def fu(P:Program)(ti:TypeId)(g:FuncId)(a0 a1:Value)(h:af)(V:KQ):Prop:=
 aq P g [a0,a1] h λv0 h=>
 aI False P .geq ti true false v0 (Value.int .i64 (0)) h λv1 h=>
 V v1 h
def yK(P:Program)(tS e s:Nat)(z:List Value)(a0:Value)(h:af)(V:KQ):Prop:=
 aI False P .eql tS true false a0 (Value.slice none 0 0) h λv0 h=>
 aM v0 (
 V (Value.slice none 0 0) h) (
 bC False [] [] (bq z 0) λU5=>aN False U5 e false λo1=>aG False o1 h λb2 h=>
 bD False e s z false (bR 0 0 b2) a0 h λv4 h=>
 V v4 h)
def fN(P:Program)(ti:TypeId)(g:FuncId)(e s:Nat)(z:List Value)(a0 a1:Value)(h:af)(V:KQ):Prop:=
 aq P g [a0,a1] h λv0 h=>
 aI False P .eql ti true false v0 (Value.int .i64 (-1)) h λv1 h=>
 aM v1 (
 V a0 h) (
 aI False P .add ti true false v0 (Value.int .i64 (1)) h λv2 h=>
 dD [undef,undef,undef,undef,undef,undef,undef,undef,undef,undef,undef,undef,undef,undef,undef,undef,undef,undef,undef,v0,undef,undef,v2] h λl4 h N3=>
 bF False a0 h λv5 h=>
 aI False P .lss ti false false (an l4 22) v5 h λv6 h=>
 aM v6 (
 dO (λN7=>
 aK False s a0 (an l4 22) h λv9 h=>
 aO False s v9 h λv10 h=>
 aN False z e false λo11=>aG False o11 h λqz h=>
 aV False s (av qz) v10 h λbJ h=>
 aO False s (av qz) h λbK h=>
 fq P a1 [bK] h λbQ h=>
 iG False .not bQ h λb_ h=>
 aM b_ (
 aO False s (av qz) h λv17 h=>
 aK False s a0 (an l4 19) h λcg h=>
 aV False s cg v17 h λbS h=>
 aI False P .add ti true false (an l4 19) (Value.int .i64 (1)) h λv20 h=>
 N7 [a0,(an l4 22),v9,v10,(av qz),a1,bK,bQ,b_,a0,(an l4 19),v17,cg,(an l4 19),v20,v20] h) (
 N7 [a0,(an l4 22),v9,v10,(av qz),a1,bK,bQ,b_,(an l4 13),(an l4 14),(an l4 15),(an l4 16),(an l4 17),(an l4 18),(an l4 19)] h)) λl8 h=>
 aI False P .add ti true false (an l4 22) (Value.int .i64 (1)) h λv21 h=>
 N3 [(an l4 22),a0,v5,v6,(an l8 0),(an l8 1),(an l8 2),(an l8 3),(an l8 4),(an l8 5),(an l8 6),(an l8 7),(an l8 8),(an l8 9),(an l8 10),(an l8 11),(an l8 12),(an l8 13),(an l8 14),(an l8 15),(an l4 22),v21,v21] h) (
 sliceB False e s a0 (some (an l4 19)) none none h λv22 h=>
 lq False z v22 h λv23 h=>
 sliceB False e s a0 none (some (an l4 19)) none h λv24 h=>
 V v24 h))
section
variable {P:Program}{α:Type}{enc:α->List Value}{s:Nat}{ti:TypeId}{f g:FuncId}
def yj(enc:α->List Value)(p:α):Value:=.agg ⟨enc p⟩
theorem mJ(mix:P.follows .mixedOrders=true)(he:∀a:α,(enc a).length=s)(hb:∀a0 a1 h V,aW P f [a0,a1] h V=ez P ti s a0 a1 h V)(L:List α)(F:α->Bool)(h:af)(v fv:Value)(V:KQ)(hv:Sl enc h v L)(hlen:L.length<=1000000)(hF:∀p,p∈L->∀(h1:af)(κ1:Value->af->Prop),Le h h1->(∀h2,Le h1 h2->κ1 (.bool (F p)) h2)->fq P fv [yj enc p] h1 κ1)(hk:∀h',Le h h'->V (.int .i64 (gG (L.findIdx? F))) h'):aq P f [v,fv] h V:=by
 refine aF mix ?_;rw[hb];unfold ez;simp only[hv.len];refine⟨λn l h1=>Le h h1/\∃k:Nat,an l 12=.int .i64 (k:Int)/\k<=L.length/\n=L.length-k/\∀(j:Nat) p,j<k->L[j]? = some p->F p=false,⟨_,Le.refl _,0,rfl,Nat.zero_le _,rfl,YYZ⟩,?_⟩;rintro n l h1 ⟨hle,k,hs,hkl,rfl,hno⟩;by_cases hlt:k<L.length
 .obtain⟨p,hp⟩:∃p,L[k]? = some p:=⟨_,List.getElem?_eq_getElem hlt⟩
  obtain⟨b,o,hb,om,mK,_⟩:=(hv.le hle).ld he k hp;simp(disch:=try exact Y)only[Wz,hs,om,mK];refine hF p (List.mem_of_getElem? hp) h1 _ hle ?_;intro h2 hle2;cases hc:F p with
  |true=>
   simp(disch:=try exact Y)only[Wz,hs];have hk2:=hk h2 (hle.trans hle2);rw[Rv hp hc hno]at hk2;exact hk2
  |false=>
   simp(disch:=try exact Y)only[Wz,hs];refine⟨_,YYZ,hle.trans hle2,k+1,rfl,YYZ,rfl,λj q hj hq=>?_⟩;rcases Nat.lt_or_ge j k with h4|h4
   .exact hno j q h4 hq
   .obtain rfl:j=k:=by omega
    rw[hp]at hq;cases hq;exact hc
 .simp(disch:=try exact Y)only[Wz,hs];have hk2:=hk h1 hle;rw[Rw λj q hq=>hno j q (by have:=(List.getElem?_eq_some_iff.1 hq).1;omega) hq]at hk2;exact hk2
theorem i_(mix:P.follows .mixedOrders=true)(he:∀a:α,(enc a).length=s)(hg:∀a0 a1 h V,aW P g [a0,a1] h V=ez P ti s a0 a1 h V)(hb:∀a0 a1 h V,aW P f [a0,a1] h V=fu P ti g a0 a1 h V)(L:List α)(F:α->Bool)(h:af)(v fv:Value)(V:KQ)(hv:Sl enc h v L)(hlen:L.length<=1000000)(hF:∀p,p∈L->∀(h1:af)(κ1:Value->af->Prop),Le h h1->(∀h2,Le h1 h2->κ1 (.bool (F p)) h2)->fq P fv [yj enc p] h1 κ1)(hk:∀h',Le h h'->V (.bool (L.any F)) h'):aq P f [v,fv] h V:=by
 refine aF mix ?_;rw[hb];unfold fu;refine mJ mix he hg L F h v fv _ hv hlen hF ?_;intro h' hl;have:=hk h' hl;rw[<-F9]at this;by_cases h0:gG (L.findIdx? F)<0
 .simp(disch:=try exact Y)only[Wz]
  rwa [aZ YYZ]at this
 .simp(disch:=try exact Y)only[Wz]
  rwa [bf YYZ]at this
def F_(P:Program)(tS:TypeId):Prop:=(∀(h:af)(n c n' c':Nat),nk P h 100 tS (.slice none n c) (.slice none n' c')=some true)/\∀(h:af)(a:Addr)(n c n' c':Nat),nk P h 100 tS (.slice (some a) n c) (.slice none n' c')=some false
theorem Rx{β:Type}{fl:β}{tS:TypeId}(he:F_ P tS)(cn:Bool)(n c n' c':Nat)(h:af)(V:YYY β):aI fl P .eql tS cn false (.slice none n c) (.slice none n' c') h V=V (.bool true) h:=by
 simp only[aI,he.1,bZ]
theorem Ry{β:Type}{fl:β}{tS:TypeId}(he:F_ P tS)(cn:Bool)(a:Addr)(n c n' c':Nat)(h:af)(V:YYY β):aI fl P .eql tS cn false (.slice (some a) n c) (.slice none n' c') h V=V (.bool false) h:=by
 simp only[aI,he.2,bZ]
theorem Rz(mix:P.follows .mixedOrders=true)(he:∀a:α,(enc a).length=s)(hone:∀a:α,(enc a).all dK=true)(hs0:0<s)(hs1:s<=100){tS e:TypeId}{z:List Value}(hq:F_ P tS)(hb:∀a0 h V,aW P f [a0] h V=yK P tS e s z a0 h V)(L:List α)(h:af)(v:Value)(V:KQ)(hv:Sl enc h v L)(hlen:L.length<=1000000)(hlo:h.lo<=h.nx)(hk:∀v' h',iJ enc h e h' v' L->Le h h'->V v' h'):aq P f [v] h V:=by
 refine aF mix ?_;rw[hb];unfold yK;have hv0:=hv;obtain⟨x,cap,rfl,hx⟩:=hv;cases x with
 |none=>
  simp(disch:=try exact Y)only[Wz,Rx hq];by_cases hL:L=[]
  .exact hk _ _ (.inl ⟨hL,.inl rfl⟩) (Le.refl _)
  .obtain⟨b,o,e,_⟩:=hx hL;cases e
 |some a=>
  simp(disch:=try exact Y)only[Wz,Ry hq];have hle:=(Le.refl h).new (ah [] e false);refine d_ (enc:=enc) (a:=h) (L:=[]) (M:=L) he hone hs0 hs1 (.inl ⟨rfl,.inr ⟨_,_,rfl⟩⟩) (hv0.le hle) hle (by simpa using hlen) (by show h.lo<=h.nx+1;omega) _ ?_;intro v' h' ho hl _ _;exact hk v' h' (by simpa using ho) hl
theorem tr(he:∀a:α,(enc a).length=s)(L:List α)(i:Nat)(p:α)(hi:i<L.length):over (L.flatMap enc) (i*s) (enc p)=(L.set i p).flatMap enc:=by
 have e:L.set i p=L.take i++[p]++L.drop (i+1):=by
  rw[List.set_eq_take_append_cons_drop,if_pos hi];simp
 rw[e];simp only[over,he,List.flatMap_append,List.flatMap_cons,List.flatMap_nil,List.append_nil];rw[pZ he,show i*s+s=(i+1)*s by rw[Nat.succ_mul],p7 he]
theorem Mv{z:List Value}(hz:z.length=s)(n:Nat):(bq z n).length=n*s:=by
 induction n with
 |zero=>simp[bq]
 |succ n ih=>simp only[bq,List.length_append,ih,hz];rw[Nat.succ_mul];omega
theorem Mw{z:List Value}(hz:z.all dK=true)(n:Nat):(bq z n).all dK=true:=by
 induction n with
 |zero=>rfl
 |succ n ih=>simp only[bq,List.all_append,ih,hz];rfl
theorem stG(he:∀a:α,(enc a).length=s)(hone:∀a:α,(enc a).all dK=true)(p:α){vs:List Value}{e:TypeId}{op:Bool}{b o:Nat}{h:af}{V:af->Prop}(h3:o+s<=vs.length)(hlo:h.lo<=b):U0 False (some (ah vs e op)) s b o (enc p) h V=V ⟨h.nx,h.bl.bt b (ah (over vs o (enc p)) e op),h.lo⟩:=wL _ _ _ _ _ _ _ _ _ (he p) (hone p) h3 hlo
def yL(e:TypeId)(h:af)(v:Value):Prop:=∀b o n c,v=.slice (some ⟨b,o,none⟩) n c->n≠0->b<h.nx/\∃vs op,h.bl.get b=some (ah vs e op)
theorem yL.le{e:TypeId}{h h':af}{v:Value}(t:yL e h v)(l:Le h h'):yL e h' v:=λb o n c hv hn=>by
 obtain⟨h1,vs,op,h2⟩:=t b o n c hv hn;exact⟨Nat.lt_of_lt_of_le h1 l.nx,vs,op,(l.get b h1).trans h2⟩
theorem yL.own{a h:af}{e:TypeId}{v:Value}{L:List α}(ho:iJ enc a e h v L):yL e h v:=by
 intro b o n c hv hn;rcases ho with⟨_,rfl|⟨b',o',rfl⟩⟩|⟨b',rfl,h1,h2,h3,h4⟩
 .cases hv
 .cases hv;exact absurd rfl hn
 .cases hv;exact⟨h2,_,_,h4⟩
theorem yL.put{e:TypeId}{h:af}{v:Value}(t:yL e h v){d:Nat}(hd:∀vs op,h.bl.get d≠some (ah vs e op))(o':bO):yL e ⟨h.nx,h.bl.bt d o',h.lo⟩ v:=by
 intro b o n c hv hn;obtain⟨h1,vs,op,h2⟩:=t b o n c hv hn;refine⟨h1,vs,op,(T.aD _ _ ?_).trans h2⟩;rintro rfl;exact hd vs op h2
theorem Sl.put{e:TypeId}{h:af}{v:Value}{L:List α}(hs:Sl enc h v L)(t:yL e h v){d:Nat}(hd:∀vs op,h.bl.get d≠some (ah vs e op))(o':bO):Sl enc ⟨h.nx,h.bl.bt d o',h.lo⟩ v L:=by
 obtain⟨x,cap,rfl,h2⟩:=hs;refine⟨x,cap,rfl,λhn=>?_⟩;obtain⟨b,o,rfl,h3,h4⟩:=h2 hn;obtain⟨h1,vs,op,h5⟩:=t b o _ cap rfl (by intro h0;exact hn (List.eq_nil_of_length_eq_zero h0));refine⟨b,o,rfl,h3,?_⟩;have:(h.bl.bt d o').get b=h.bl.get b:=T.aD _ _ (by rintro rfl;exact hd vs op h5)
 show Has ((h.bl.bt d o').get b) _ _
 rw[this];exact h4
theorem zQ(mix:P.follows .mixedOrders=true)(he:∀a:α,(enc a).length=s)(hone:∀a:α,(enc a).all dK=true)(hs0:0<s){e:TypeId}{z:List Value}(hz:z.length=s)(hz1:z.all dK=true)(hs1:s<=1000)(hg:∀a0 a1 h V,aW P g [a0,a1] h V=ez P ti s a0 a1 h V)(hb:∀a0 a1 h V,aW P f [a0,a1] h V=fN P ti g e s z a0 a1 h V)(a h:af)(L:List α)(F:α->Bool)(v fv:Value)(V:KQ)(hle:Le a h)(ho:iJ enc a e h v L)(hlen:L.length<=100000)(hlo:a.lo<=a.nx)(hF:∀p,∀(h1:af)(κ1:Value->af->Prop),Le a h1->(h.nx<=h1.nx/\∀c,c<h.nx->h.bl.get c≠some (ah (L.flatMap enc) e true)->h1.bl.get c=h.bl.get c)->(∀h2,Le h1 h2->κ1 (.bool (F p)) h2)->fq P fv [yj enc p] h1 κ1)(hk:∀v' h',Sl enc h' v' (L.filter λp=>!F p)->Cut e s h' v' (L.filter λp=>!F p).length->Le a h'->(h.nx<=h'.nx/\∀c,c<h.nx->h.bl.get c≠some (ah (L.flatMap enc) e true)->h'.bl.get c=h.bl.get c)->yL e h' v'->V v' h'):aq P f [v,fv] h V:=by
 refine aF mix ?_;rw[hb];unfold fN;refine mJ mix he hg L F h v fv _ ho.sl YYZ (λp _ h1 κ1 hl cZ=>hF p h1 κ1 (hle.trans hl) ⟨hl.nx,λc hc _=>hl.get c hc⟩ cZ) ?_;intro h1 hle1;have Mx:=hle.trans hle1;have n1:=Mx.nx;have l1:=Mx.lo;rcases mI L F with⟨e1,e2⟩|⟨i0,p0,e1,e2,e3,e4⟩
 .simp only[e1,gG];simp(disch:=try exact Y)only[Wz];have:(L.filter λp=>!F p)=L:=List.filter_eq_self.2 λp hp=>by simp[e2 p hp]
  rw[this]at hk;exact hk v h1 (ho.sl.le hle1) ((Cut.own he ho).le hle1) Mx ⟨hle1.nx,λc hc _=>hle1.get c hc⟩ (yL.own (ho.le hle1))
 ·simp only[e1,gG];have yl:i0<L.length:=(List.getElem?_eq_some_iff.1 e2).1;have DI:(L.take i0).filter (λp=>!F p)=L.take i0:=List.filter_eq_self.2 λp hp=>by
   obtain⟨j,hj⟩:=List.getElem?_of_mem hp;have hj':j<i0:=by have:=(List.getElem?_eq_some_iff.1 hj).1;simp at this;omega
   rw[List.getElem?_take_of_lt hj']at hj;simp[e4 j p hj' hj]
  rcases ho with⟨rfl,_⟩|⟨b,rfl,b1,b20,b30,V7⟩
  .simp at yl
  have m1:=hle1.nx;have b2:b<h1.nx:=by omega
  have b3:h1.lo<=b:=by rw[hle1.lo];exact b30
  have b4:h1.bl.get b=some (ah (L.flatMap enc) e true):=(hle1.get b b20).trans V7;simp(disch:=try exact Y)only[Wz]
  refine ⟨λn l h2=>Le a h2/\b<h2.nx/\(h.nx<=h2.nx/\∀c,c<h.nx->c≠b->h2.bl.get c=h.bl.get c)/\∃(j i:Nat)(K:List α),an l 22=.int .i64 (j:Int)/\an l 19=.int .i64 (i:Int)/\j<=L.length/\i<j/\n=L.length-j/\K.length=L.length/\
    K.take i=(L.take j).filter (λp=>!F p)/\K.drop j=L.drop j/\h2.bl.get b=some (ah (K.flatMap enc) e true),
   ⟨_,Mx,b2,⟨m1,λc hc _=>hle1.get c hc⟩,i0+1,i0,L,rfl,rfl,YYZ,YYZ,rfl,rfl,?_,rfl,b4⟩,?_⟩
  .rw[gY e2,DI,e3];simp
  rintro n l h2 ⟨hle2,hb2,hfr,j,i,K,s1,s2,hj,hij,rfl,hK,RA,Za,hg2⟩;have n2:=hle2.nx;have l2:=hle2.lo;have hfl:=bB (enc:=enc) he K;by_cases hlt:j<L.length
  .obtain⟨p,hp⟩:∃p,L[j]? = some p:=⟨_,List.getElem?_eq_getElem hlt⟩
   have hpK:K[j]? = some p:=by
    have:(K.drop j)[0]? = (L.drop j)[0]?:=by rw[Za]
    simpa[hp]using this
   have aaJ:Sl enc h2 (.slice (some ⟨b,0,none⟩) L.length aX) K:=⟨_,aX,by rw[hK],λ_=>⟨b,0,rfl,hb2,by rw[hg2];exact Has.all⟩⟩
   obtain⟨b',o',hb',om,mK,_⟩:=aaJ.ld he j hpK;have bat:=om Nat 0 h2 λv _=>match v with | .pointer (some a)=>a.block|_=>0
   rw[br _ _ _ _ _ _ _ _ hlt]at bat;have Rc:b=b':=bat;subst Rc;have hep:=he p;have hop:=hone p;have htk:(enc p).take s=enc p:=by rw[<-hep,List.take_length]
   have hxx:=qS z (enc p) YYZ;simp(disch:=try exact Y)only[Wz,s1,s2,om,mK];refine⟨λl h'=>Le a h'/\b<h'.nx/\(h.nx<=h'.nx/\∀c,c<h.nx->c≠b->h'.bl.get c=h.bl.get c)/\∃(i':Nat)(K':List α),an l 15=.int .i64 (i':Int)/\i'<j+1/\K'.length=L.length/\
    K'.take i'=(L.take (j+1)).filter (λp=>!F p)/\K'.drop (j+1)=L.drop (j+1)/\h'.bl.get b=some (ah (K'.flatMap enc) e true),?_,?_⟩
   ·simp(disch:=try exact Y)only[Wz,s1,s2,om,mK,stG he hone p,htk,hxx];have aaK:=hle2.new (ah (enc p) e false);refine hF p _ _ aaK ⟨by have:=hfr.1;show h.nx<=h2.nx+1;omega,λc hc hne=>(T.aD _ _ (by have:=hfr.1;omega)).trans (hfr.2 c hc (λe=>hne (by rw[e];exact V7)))⟩ ?_;intro h3 bP;have n3:=bP.nx;have l3:=bP.lo;dsimp only at n3 l3;have g3:h3.bl.get h2.nx=some (ah (enc p) e false):=(bP.get h2.nx (Nat.lt_succ_self _)).trans (T.az _ _ _);have gb3:h3.bl.get b=some (ah (K.flatMap enc) e true):=by
     rw[bP.get b (by show b<h2.nx+1;omega)]
     show(h2.bl.bt h2.nx _).get b=_
     rw[T.aD _ _ YYZ];exact hg2
    have nN:=aaK.trans bP;have zS:h.nx<=h3.nx/\∀c,c<h.nx->c≠b->h3.bl.get c=h.bl.get c:=by
     have q0:=hfr.1;refine⟨YYZ,λc hc hne=>?_⟩;have e1:(h2.bl.bt h2.nx (ah (enc p) e false)).get c=h2.bl.get c:=T.aD _ _ YYZ;exact(bP.get c (by show c<h2.nx+1;omega)).trans (e1.trans (hfr.2 c hc hne))
    cases hc:F p with
    |true=>
     simp(disch:=try exact Y)only[Wz,s2];exact⟨nN,YYZ,zS,i,K,rfl,YYZ,hK,by rw[gY hp,hc];simpa using RA,by rw[<-List.drop_drop,Za,List.drop_drop],gb3⟩
    |false=>
     have DJ:=tr he K i p YYZ;have hbd:i*s+s<=(K.flatMap enc).length:=by rw[hfl,<-Nat.succ_mul];exact Nat.mul_le_mul_right _ YYZ
     simp(disch:=try exact Y)only[Wz,s2,g3,gb3,br,stG he hone p,htk,DJ];refine⟨nN.set b1 _,YYZ,⟨zS.1,λc hc hne=>(T.aD _ _ (λe=>hne e.symm)).trans (zS.2 c hc hne)⟩,i+1,K.set i p,rfl,YYZ,by simpa using hK,?_,?_,rfl⟩
     .rw[gY hp,hc,<-RA];have hiK:i<K.length:=by omega
      rw[List.take_succ_eq_append_getElem (by simpa using hiK)];simp[List.take_set_of_le]
     .rw[List.drop_set_of_lt YYZ,<-List.drop_drop,Za,List.drop_drop]
   .rintro l8 h3 ⟨bP,hb3,zS,i',K',s3,hi',hK',aaM,aaN,hg3⟩;simp(disch:=try exact Y)only[Wz,s1,s3];exact⟨_,YYZ,bP,hb3,zS,j+1,i',K',rfl,rfl,YYZ,hi',rfl,hK',aaM,aaN,hg3⟩
  .have hjL:j=L.length:=by omega
   subst hjL;rw[List.take_length]at RA;have r1:=Mv hz (L.length-i);have r2:=Mw hz1 (L.length-i);have hbd:i*s+(L.length-i)*s=L.length*s:=by rw[<-Nat.add_mul];congr 1;omega
   simp(disch:=try exact Y)only[Wz,s1,s2,Ko (n:=L.length) (i:=i) hs0 hg2 (by rw[hfl,hK]) YYZ];rw[xR hg2 YYZ (by rw[r1,hfl,hK];omega) r2 YYZ];have RC:(over (K.flatMap enc) (i*s) (bq z (L.length-i))).length=L.length*s:=by
    rw[nL (by rw[r1,hfl,hK];omega),hfl,hK]
   rw[zO (n:=L.length) (i:=i) (vs:=over (K.flatMap enc) (i*s) (bq z (L.length-i))) hs0 (T.az _ _ _) RC YYZ YYZ];have Ga:(L.filter λp=>!F p).length=i:=by rw[<-RA];simp;omega
   refine hk _ _ ⟨_,aX,by rw[Ga],λ_=>⟨b,0,rfl,hb2,?_⟩⟩ (.inr (.inr (.inr ⟨b,_,L.length,by rw[Ga],hb2,T.az _ _ _,RC,YYZ⟩))) (hle2.set b1 _) ⟨hfr.1,λc hc hne=>(T.aD _ _ (λe=>hne (by rw[<-e];exact V7))).trans (hfr.2 c hc (λe=>hne (by rw[e];exact V7)))⟩ ?_
   rotate_left
   .intro b' o' n' c' xE _;cases xE;exact⟨hb2,_,_,T.az _ _ _⟩
   have hh:Has (some (ah (over (K.flatMap enc) (i*s) (bq z (L.length-i))) e true)) 0 (((over (K.flatMap enc) (i*s) (bq z (L.length-i))).drop 0).take (i*s)):=Has.cells (by rw[RC];exact Nat.le_trans YYZ (Nat.le_refl _));have e9:((over (K.flatMap enc) (i*s) (bq z (L.length-i))).drop 0).take (i*s)=(L.filter λp=>!F p).flatMap enc:=by
    have arA:i*s<=K.length*s:=Nat.mul_le_mul_right _ YYZ;rw[<-RA,List.drop_zero,over,List.append_assoc,List.take_append_of_le_length (by rw[List.length_take,hfl];omega),List.take_take,Nat.min_self,pZ he]
   rw[e9]at hh
   show Has ((h2.bl.bt b _).get b) 0 _
   rw[T.az];exact hh
end
end Go.Vai

namespace Go.Vai
open Go
section
variable {α:Type}{s:Nat}{enc:α->List Value}
set_option maxRecDepth 20000 in
theorem l_{a h:af}{e:TypeId}{z:List Value}{v x:Value}{L M:List α}(he:∀a:α,(enc a).length=s)(hone:∀a:α,(enc a).all dK=true)(hs0:0<s)(hs1:s<=100)(ho:iJ enc a e h v L)(hx:Sl enc h x M)(hle:Le a h)(hb:L.length+M.length<=1000000)(hal:h.lo<=h.nx)(V:KQ)(hk:∀v' h',iJ enc a e h' v' (L++M)->Le a h'->h'.nx<=h.nx+1->h.nx<=h'.nx->h'.lo=h.lo->(∀b,b<h.nx->h.bl.get b≠some (ah (L.flatMap enc) e true)->h'.bl.get b=h.bl.get b)->V v' h'):bD False e s z false v x h V:=by
 by_cases hM:M=[]
 .subst hM;rw[append_nil hx (by rcases ho with⟨rfl,rfl|⟨b,o,rfl⟩⟩|⟨b,rfl,_⟩<;>exact⟨_,_,_,rfl⟩)];exact hk v h (by simpa using ho) hle (Nat.le_succ _) (Nat.le_refl _) rfl (λ_ _ _=>rfl)
 .obtain⟨m,hm⟩:∃m,M.length=m+1:=⟨M.length-1,by have:=List.length_pos_iff.2 hM;omega⟩
  have hfl:=bB (enc:=enc) he;have iK:=hx.first (β:=Prop) (fl:=False) he;obtain⟨y,cap,rfl,h2⟩:=hx;have hml:∀K:List α,K.length<=1000000->(K.flatMap enc).length<=1000000000000:=λK hK=>by
   rw[hfl];have:=Nat.mul_le_mul hK hs1;omega
  have fresh:∀(hh:af)(ws:List Value),ws=(L++M).flatMap enc->Le a hh->hh.nx=h.nx->hh.lo=h.lo->(∀b,b<h.nx->h.bl.get b≠some (ah (L.flatMap enc) e true)->hh.bl.get b=h.bl.get b)->dh False ws e true hh λb h'=>V (.slice (some ⟨b,0,none⟩) (L.length+M.length) aX) h':=by
   intro hh ws hw Rb hnx hlo hgt;subst hw;unfold dh;rw[iQ _ _ _ _ (hml _ (by simp;omega)),dS];refine hk _ _ (.inr ⟨hh.nx,by simp,Rb.nx,Nat.lt_succ_self _,by show hh.lo<=_;omega,T.az _ _ _⟩) (Rb.new _) (by show hh.nx+1<=_;omega) (by show h.nx<=hh.nx+1;omega) hlo (λb hb hn=>(T.aD _ _ YYZ).trans (hgt b hb hn))
  rcases ho with⟨rfl,hv⟩|⟨b,rfl,h3,h4,h5,h6⟩
  .have hF:=fresh h (M.flatMap enc) (by simp) hle rfl rfl (λ_ _ _=>rfl);simp only[List.length_nil,Nat.zero_add]at hF;rcases hv with rfl|⟨b,o,rfl⟩
   .unfold bD kP;simp only;rw[iK];simp only[hm,bY];rw[show Nat.ble (Nat.add 0 (m+1)) 1000000000=true from Nat.ble_eq_true_of_le (by show 0+(m+1)<=_;omega)];rw[hm]at hF;have e1:Nat.add 0 (m+1)=m+1:=by show 0+(m+1)=_;omega
    rw[e1];exact hF
   .unfold bD kP;simp only;rw[iK];simp only[hm,bY];have e1:Nat.add 0 (m+1)=m+1:=by show 0+(m+1)=_;omega
    rw[e1,show Nat.ble (m+1) 1000000000=true from Nat.ble_eq_true_of_le YYZ];rw[hm]at hF
    show eN False h s 0 _ _
    rw[jA _ _ _ _ _ (by simp)];exact hF
  .unfold bD kP;simp only;rw[iK];simp only[hm,bY];have e1:Nat.add L.length (m+1)=L.length+(m+1):=rfl;rw[e1,show Nat.ble (L.length+(m+1)) 1000000000=true from Nat.ble_eq_true_of_le YYZ];have e2:Nat.beq aX gK=false:=by decide
   have e3:Nat.beq aX aX=true:=Nat.beq_refl _;simp only[e2,e3,h6];have e4:Nat.ble (Nat.add 0 (Nat.mul (L.length+(m+1)) s)) (L.flatMap enc).length=false:=by
    rw[hfl];cases Rc:Nat.ble (Nat.add 0 (Nat.mul (L.length+(m+1)) s)) (L.length*s)with
    |false=>rfl
    |true=>
     have h7:0+(L.length+(m+1))*s<=L.length*s:=Nat.le_of_ble_eq_true Rc;rw[Nat.add_mul,Nat.succ_mul]at h7;omega
   have e5:(M.flatMap enc).all dK=true:=by
    rw[List.all_flatMap];simp only[List.all_eq_true];intro x _;exact List.all_eq_true.1 (hone x)
   simp only[ah,Nat.beq_refl,e4,e5,Bool.and_self];have hh:Has (h.bl.get b) 0 (L.flatMap enc):=by rw[h6];exact Has.all
   rw[jl hh s L.length _ _ _ (hfl L).symm,cq _ _ _ _ h5];have hF:=fresh ⟨h.nx,h.bl.bt b (.dead (L.flatMap enc).length e),h.lo⟩ (L.flatMap enc++M.flatMap enc) (by simp) (hle.set h3 _) rfl rfl (λb' _ hn=>T.aD _ _ (λe=>hn (by rw[<-e];exact h6)));rw[hm]at hF;exact hF
end
theorem bI{vs ws:List Value}{e e':TypeId}:(some (ah vs e false):Option bO)≠some (ah ws e' true):=by
 intro h;unfold ah at h;simp only[Option.some.injEq,bO.cells.injEq]at h;exact absurd h.2.2.2 YYQ
theorem bG{vs ws:List Value}{e e':TypeId}{p p':Bool}(hn:e≠e'):(some (ah vs e p):Option bO)≠some (ah ws e' p'):=by
 intro h;unfold ah at h;simp only[Option.some.injEq,bO.cells.injEq]at h;exact hn h.2.2.1
theorem bX{es:List MapEntry}{c:Nat}{ws:List Value}{e:TypeId}{p:Bool}:(some (.map es c):Option bO)≠some (ah ws e p):=by
 intro h;unfold ah at h;cases h
end Go.Vai

namespace Go.Vai
open Go
section
variable {α:Type}{s:Nat}{enc:α->List Value}
theorem RE(A E C ws:List Value)(j:Nat)(h:j+ws.length<=E.length):over (A++E++C) (A.length+j) ws=A++over E j ws++C:=by
 unfold over;have e1:(A++E++C).take (A.length+j)=A++E.take j:=by
  rw[List.append_assoc,List.take_append,List.take_of_length_le YYZ,show A.length+j-A.length=j by omega,List.take_append_of_le_length YYZ]
 have e2:(A++E++C).drop (A.length+j+ws.length)=E.drop (j+ws.length)++C:=by
  rw[List.append_assoc,List.drop_append,List.drop_of_length_le YYZ,List.nil_append,show A.length+j+ws.length-A.length=j+ws.length by omega,List.drop_append_of_le_length h]
 rw[e1,e2];simp only[List.append_assoc]
theorem iL(he:∀a:α,(enc a).length=s){K:List α}{i j:Nat}{p p':α}{ws:List Value}(hp:K[i]? = some p)(hj:j+ws.length<=s)(hw:over (enc p) j ws=enc p'):over (K.flatMap enc) (i*s+j) ws=(K.set i p').flatMap enc:=by
 obtain⟨hi,rfl⟩:=List.getElem?_eq_some_iff.1 hp;have e1:K.flatMap enc=(K.take i).flatMap enc++enc K[i]++(K.drop (i+1)).flatMap enc:=by
  have e0:K=K.take i++(K[i]::K.drop (i+1)):=by rw[List.getElem_cons_drop,List.take_append_drop]
  have:=congrArg (List.flatMap enc) e0;rw[List.flatMap_append,List.flatMap_cons]at this;rw[List.append_assoc];exact this
 have e2:(K.set i p').flatMap enc=(K.take i).flatMap enc++enc p'++(K.drop (i+1)).flatMap enc:=by
  rw[List.set_eq_take_append_cons_drop,if_pos hi];simp[List.flatMap_append]
 have hl:((K.take i).flatMap enc).length=i*s:=by rw[bB he,List.length_take,Nat.min_eq_left YYZ]
 rw[e1,e2,<-hl,RE _ _ _ _ _ (by rw[he];exact hj),hw]
theorem ki(he:∀a:α,(enc a).length=s){K:List α}{i j:Nat}{p:α}(hp:K[i]? = some p)(hj:j<s):(K.flatMap enc)[i*s+j]? = (enc p)[j]?:=by
 obtain⟨hi,rfl⟩:=List.getElem?_eq_some_iff.1 hp;have:=yJ he K i hi;have e:((((K.flatMap enc).drop (i*s)).take s)[j]?)=(enc K[i])[j]?:=by rw[this]
 rw[List.getElem?_take_of_lt hj,List.getElem?_drop]at e;exact e
end
end Go.Vai

namespace Go.Vai
open Go
structure Kr(bl:Nat)(h h':af):Prop where
 nx:h.nx<=h'.nx
 lo:h'.lo=h.lo
 get:∀b,b<h.nx->b≠bl->h'.bl.get b=h.bl.get b
theorem Kr.of_le{bl:Nat}{h h':af}(l:Le h h'):Kr bl h h':=⟨l.nx,l.lo,λb hb _=>l.get b hb⟩
theorem Kr.set{bl:Nat}{h h':af}(l:Le h h')(o:bO):Kr bl h ⟨h'.nx,h'.bl.bt bl o,h'.lo⟩:=
 ⟨l.nx,l.lo,λb hb hn=>(T.aD _ _ (Ne.symm hn)).trans (l.get b hb)⟩
theorem Kr.trans{b:Nat}{h1 h2 h3:af}(l:Kr b h1 h2)(k:Kr b h2 h3):Kr b h1 h3:=
 ⟨Nat.le_trans l.nx k.nx,k.lo.trans l.lo,λc hc hn=>(k.get c (Nat.lt_of_lt_of_le hc l.nx) hn).trans (l.get c hc hn)⟩
section
variable {α:Type}{s:Nat}{enc:α->List Value}
theorem rdE(he:∀a:α,(enc a).length=s){h:af}{b:Nat}{D:List α}{e:TypeId}{op:Bool}(hg:h.bl.get b=some (ah (D.flatMap enc) e op)){i:Nat}{p:α}(hp:D[i]? = some p)(β:Type)(fl:β)(V:List Value->β):yh fl (h.bl.get b) (i*s) s V=V (enc p):=by
 obtain⟨hi,rfl⟩:=List.getElem?_eq_some_iff.1 hp;rw[hg];have h1:Has (some (ah (D.flatMap enc) e op)) 0 (D.flatMap enc):=Has.all;have hl:=bB (enc:=enc) he D;have h3:i*s+s<=D.length*s:=by rw[<-Nat.succ_mul];exact Nat.mul_le_mul_right s hi
 have h2:=h1.sub (i*s) s YYZ;rw[Nat.zero_add,yJ he D i hi]at h2;exact pV h2 s V (he _).symm
theorem Gb(he:∀a:α,(enc a).length=s){D:List α}{i:Nat}{p p':α}(hp:D[i]? = some p):over (D.flatMap enc) (i*s) (enc p')=(D.set i p').flatMap enc:=by
 have h1:=he p;have h2:=he p';have:=iL (j:=0) (ws:=enc p') he hp YYZ (show over (enc p) 0 (enc p')=enc p' by unfold over;simp[h1,h2]);simpa using this
variable (lt:α->α->Prop)
variable {lt}
end
end Go.Vai

namespace Go.Vai
open Go Go.RowKit
section
variable {α:Type}{enc:α->List Value}{s:Nat}{e:TypeId}
def fO(enc:α->List Value)(s:Nat)(e:TypeId)(h:af)(u:Value)(L:List α):Prop:=(L=[]/\∃x c,u=.slice x 0 c)\/∃(b j:Nat)(W:List α),L≠[]/\u=.slice (some ⟨b,j*s,none⟩) L.length aX/\b<h.nx/\h.lo<=b/\h.bl.get b=some (ah (W.flatMap enc) e true)/\W.length=j+L.length/\W.drop j=L
theorem fO.len{h:af}{u:Value}{L:List α}(p:fO enc s e h u L){β:Type}{fl:β}(h':af)(V:YYY β):bF fl u h' V=V (.int .i64 (L.length:Int)) h':=by
 rcases p with⟨rfl,x,c,rfl⟩|⟨b,j,W,_,rfl,_⟩
 .exact gr _ _ _ _ _
 .exact gr _ _ _ _ _
theorem fO.cell{h:af}{u:Value}{L:List α}(p:fO enc s e h u L):∃x c,u=.slice x L.length c:=by
 rcases p with⟨rfl,x,c,rfl⟩|⟨b,j,W,_,rfl,_⟩<;>exact⟨_,_,rfl⟩
theorem fO.own{a h:af}{u:Value}{L:List α}(o:iJ enc a e h u L):fO enc s e h u L:=by
 rcases o with⟨rfl,rfl|⟨b,o,rfl⟩⟩|⟨b,rfl,h1,h2,h3,h4⟩
 .exact .inl ⟨rfl,_,_,rfl⟩
 .exact .inl ⟨rfl,_,_,rfl⟩
 .by_cases hL:L=[]
  .subst hL;exact .inl ⟨rfl,_,_,rfl⟩
  .exact .inr ⟨b,0,L,hL,by rw[Nat.zero_mul],h2,h3,h4,YYZ,rfl⟩
theorem fO.keep{h h':af}{u:Value}{L:List α}(p:fO enc s e h u L)(hn:h.nx<=h'.nx)(hl:h'.lo=h.lo)(hg:∀c vs,c<h.nx->h.bl.get c=some (ah vs e true)->h'.bl.get c=h.bl.get c):fO enc s e h' u L:=by
 rcases p with p|⟨b,j,W,h1,h2,h3,h4,h5,h6⟩
 .exact .inl p
 .exact .inr ⟨b,j,W,h1,h2,YYZ,YYZ,(hg b _ h3 h5).trans h5,h6⟩
theorem fO.head(he:∀a:α,(enc a).length=s){h:af}{u:Value}{x:α}{L:List α}(p:fO enc s e h u (x::L)):Sl enc h u (x::L):=by
 rcases p with⟨e,_⟩|⟨b,j,W,h1,h2,h3,h4,h5,h6,h7⟩
 .cases e
 .refine⟨_,aX,h2,λ_=>⟨b,j*s,rfl,h3,?_⟩⟩;have hh:Has (h.bl.get b) 0 (W.flatMap enc):=by rw[h5];exact Has.all
  have hl:=bB (enc:=enc) he W;have hle:j*s<=W.length*s:=Nat.mul_le_mul_right _ YYZ;have:=hh.sub (j*s) (W.length*s-j*s) (by rw[hl];omega);rw[Nat.zero_add]at this;have e1:((W.flatMap enc).drop (j*s)).take (W.length*s-j*s)=(x::L).flatMap enc:=by
   rw[p7 he,h7,List.take_of_length_le];rw[bB (enc:=enc) he,<-h7,List.length_drop,Nat.sub_mul];exact Nat.le_refl _
  rwa [e1]at this
theorem fO.tail(he:∀a:α,(enc a).length=s)(hs0:0<s){h:af}{u:Value}{x:α}{L:List α}(p:fO enc s e h u (x::L)):∃u',fO enc s e h u' L/\∀(β:Type)(fl:β)(V:YYY β),sliceB fl e s u (some (.int .i64 1)) none none h V=V u' h:=by
 rcases p with⟨e,_⟩|⟨b,j,W,h1,h2,h3,h4,h5,h6,h7⟩
 .cases e
 .obtain⟨s,rfl⟩:∃k,s=k+1:=⟨s-1,YYZ⟩
  have hl:=bB (enc:=enc) he W;have hk:iu h e b=some (W.length*(s+1)):=by unfold iu;rw[h5];simp only[ah,jm,hl]
  have hlen:(x::L).length=L.length+1:=rfl;rw[hlen]at h2 h6;have hd:Nat.div (Nat.sub (W.length*(s+1)) (j*(s+1))) (s+1)=L.length+1:=by
   show(W.length*(s+1)-j*(s+1)) / (s+1)=_
   rw[<-Nat.sub_mul,Nat.mul_div_cancel _ YYZ];omega
  have e1:Nat.beq aX gK=false:=by decide
  have e2:Nat.beq aX aX=true:=Nat.beq_refl _;have e3:Nat.ble (j*(s+1)) (W.length*(s+1))=true:=Nat.ble_eq_true_of_le (Nat.mul_le_mul_right _ YYZ);have e5:Nat.ble (L.length+1) (L.length+1)=true:=Nat.ble_eq_true_of_le (Nat.le_refl _);have e6:Nat.ble 1 (L.length+1)=true:=Nat.ble_eq_true_of_le YYZ;have hb:∀(β:Type)(fl:β)(V:Nat->Nat->Nat->β)(c:Nat),jg fl (L.length+1) (L.length+1) c (some (.int .i64 1)) none none V=V 1 (L.length+1) c:=λβ fl V c=>by
   have:=zP (fl:=fl) (len:=L.length+1) (lim:=L.length+1) (cap:=c) (i:=1) YYZ (Nat.le_refl _) V;exact this
  by_cases h0:L.length=0
  .have hL:L=[]:=List.eq_nil_of_length_eq_zero h0;subst hL;refine⟨.slice (some ⟨b,j*(s+1),none⟩) 0 gK,.inl ⟨rfl,_,_,rfl⟩,λβ fl V=>?_⟩;rw[h2];unfold sliceB;simp only[e1,e2,hk,e3,hd];rw[hb];rfl
  ·have e4:Nat.beq 1 (L.length+1)=false:=by
    cases hq:Nat.beq 1 (L.length+1)with
    |false=>rfl
    |true=>have:=cD hq;omega
   refine⟨.slice (some ⟨b,(j+1)*(s+1),none⟩) L.length aX,.inr ⟨b,j+1,W,by rintro rfl;exact h0 rfl,rfl,h3,h4,h5,YYZ,by rw[<-List.drop_drop,h7];rfl⟩,λβ fl V=>?_⟩;rw[h2];unfold sliceB;simp only[e1,e2,hk,e3,hd];rw[hb];simp only[e2,e4,bY]
   show V (.slice (some ⟨b,j*(s+1)+1*(s+1),none⟩) (L.length+1-1) aX) h=_
   rw[<-Nat.add_mul];rfl
def fP(enc:α->List Value)(e:TypeId)(h:af)(v:Value)(L:List α):Prop:=(L=[]/\v=.slice none 0 0)\/∃(b:Nat)(G:List α),v=.slice (some ⟨b,0,none⟩) L.length aX/\b<h.nx/\h.lo<=b/\h.bl.get b=some (ah ((L++G).flatMap enc) e true)/\0<(L++G).length
theorem fP.sl{h:af}{v:Value}{L:List α}(p:fP enc e h v L):Sl enc h v L:=by
 rcases p with⟨rfl,rfl⟩|⟨b,G,rfl,h1,h2,h3,h4⟩
 .exact Sl.nil _ _ _
 .refine⟨_,_,rfl,λ_=>⟨b,0,rfl,h1,?_⟩⟩;have hh:Has (h.bl.get b) 0 ((L++G).flatMap enc):=by rw[h3];exact Has.all
  rw[List.flatMap_append]at hh;have:=hh.sub 0 (L.flatMap enc).length (by rw[List.length_append];omega);simpa using this
theorem fP.cell{h:af}{v:Value}{L:List α}(p:fP enc e h v L):∃x c,v=.slice x L.length c:=by
 rcases p with⟨rfl,rfl⟩|⟨b,G,rfl,_⟩<;>exact⟨_,_,rfl⟩
theorem fP.keep{h h':af}{v:Value}{L:List α}(p:fP enc e h v L)(hn:h.nx<=h'.nx)(hl:h'.lo=h.lo)(hg:∀c vs,c<h.nx->h.bl.get c=some (ah vs e true)->h'.bl.get c=h.bl.get c):fP enc e h' v L:=by
 rcases p with p|⟨b,G,h2,h3,h4,h5,h6⟩
 .exact .inl p
 .exact .inr ⟨b,G,h2,YYZ,YYZ,(hg b _ h3 h5).trans h5,h6⟩
theorem fP.own{a h:af}{v:Value}{L:List α}(o:iJ enc a e h v L)(hn:L≠[]):fP enc e h v L:=by
 rcases o with⟨rfl,_⟩|⟨b,rfl,h1,h2,h3,h4⟩
 .exact absurd rfl hn
 .exact .inr ⟨b,[],rfl,h2,h3,by rw[List.append_nil];exact h4,by rw[List.append_nil];exact List.length_pos_iff.2 hn⟩
theorem fP.blk{h:af}{v:Value}{L:List α}(p:fP enc e h v L){d:Nat}(hb:∃o n c,v=.slice (some ⟨d,o,none⟩) n c):d<h.nx/\∃vs,h.bl.get d=some (ah vs e true):=by
 obtain⟨o,n,c,rfl⟩:=hb;rcases p with⟨_,e⟩|⟨b,G,e,h1,h2,h3,h4⟩
 .cases e
 .simp at e;obtain⟨⟨rfl,_⟩,_⟩:=e;exact⟨h1,_,h3⟩
theorem fP.le{h h':af}{v:Value}{L:List α}(p:fP enc e h v L)(l:Le h h'):fP enc e h' v L:=p.keep l.nx l.lo λd _ hd _=>l.get d hd
theorem fO.le{h h':af}{v:Value}{L:List α}(p:fO enc s e h v L)(l:Le h h'):fO enc s e h' v L:=p.keep l.nx l.lo λd _ hd _=>l.get d hd
def xS(v:Value)(d:Nat):Prop:=∃o n c,v=.slice (some ⟨d,o,none⟩) n c
structure V8(v:Value)(h h':af):Prop where
 nx:h.nx<=h'.nx
 lo:h'.lo=h.lo
 get:∀d,d<h.nx->¬xS v d->h'.bl.get d=h.bl.get d
theorem V8.of_le{v:Value}{h h':af}(l:Le h h'):V8 v h h':=⟨l.nx,l.lo,λb hb _=>l.get b hb⟩
variable {P:Program}{ti:TypeId}{f g:FuncId}
theorem Gc(mix:P.follows .mixedOrders=true)(he:∀a:α,(enc a).length=s)(hone:∀a:α,(enc a).all dK=true)(hs0:0<s){z:List Value}{za:α}(hz:z=enc za)(hs1:s<=1000)(hg:∀a0 a1 h V,aW P g [a0,a1] h V=ez P ti s a0 a1 h V)(hb:∀a0 a1 h V,aW P f [a0,a1] h V=fN P ti g e s z a0 a1 h V)(h:af)(L:List α)(F:α->Bool)(v fv:Value)(V:KQ)(ho:fP enc e h v L)(hlen:L.length<=100000)(hlo:h.lo<=h.nx)(hF:∀p,∀(h1:af)(κ1:Value->af->Prop),V8 v h h1->(∀h2,Le h1 h2->κ1 (.bool (F p)) h2)->fq P fv [yj enc p] h1 κ1)(hk:∀v' h',fP enc e h' v' (L.filter λp=>!F p)->V8 v h h'->(v'=v\/∃b n m,v=.slice (some ⟨b,0,none⟩) n aX/\v'=.slice (some ⟨b,0,none⟩) m aX)->V v' h'):aq P f [v,fv] h V:=by
 have hz0:z.length=s:=by rw[hz];exact he za
 have hz1:z.all dK=true:=by rw[hz];exact hone za
 refine aF mix ?_;rw[hb];unfold fN;refine mJ mix he hg L F h v fv _ ho.sl YYZ (λp _ h1 κ1 hl cZ=>hF p h1 κ1 (V8.of_le hl) cZ) ?_;intro h1 hle1;have n1:=hle1.nx;have l1:=hle1.lo;rcases mI L F with⟨e1,e2⟩|⟨i0,p0,e1,e2,e3,e4⟩
 .simp only[e1,gG];simp(disch:=try exact Y)only[Wz];have:(L.filter λp=>!F p)=L:=List.filter_eq_self.2 λp hp=>by simp[e2 p hp]
  rw[this]at hk;exact hk v h1 (ho.keep hle1.nx hle1.lo λc _ hc _=>hle1.get c hc) (V8.of_le hle1) (.inl rfl)
 ·simp only[e1,gG];have yl:i0<L.length:=(List.getElem?_eq_some_iff.1 e2).1;have DI:(L.take i0).filter (λp=>!F p)=L.take i0:=List.filter_eq_self.2 λp hp=>by
   obtain⟨j,hj⟩:=List.getElem?_of_mem hp;have hj':j<i0:=by have:=(List.getElem?_eq_some_iff.1 hj).1;simp at this;omega
   rw[List.getElem?_take_of_lt hj']at hj;simp[e4 j p hj' hj]
  rcases ho with⟨rfl,_⟩|⟨b,G,rfl,b20,b30,V7,b50⟩
  .simp at yl
  have bk:∀d,d≠b->¬xS (.slice (some ⟨b,0,none⟩) L.length aX) d:=by
   rintro d hd ⟨o,n,c,e⟩;cases e;exact hd rfl
  have b2:b<h1.nx:=by omega
  have b3:h1.lo<=b:=by rw[hle1.lo];exact b30
  have b4:h1.bl.get b=some (ah ((L++G).flatMap enc) e true):=(hle1.get b b20).trans V7;simp(disch:=try exact Y)only[Wz]
  refine ⟨λn l h2=>b<h2.nx/\h2.lo=h.lo/\(h.nx<=h2.nx/\∀c,c<h.nx->c≠b->h2.bl.get c=h.bl.get c)/\∃(j i:Nat)(K:List α),an l 22=.int .i64 (j:Int)/\an l 19=.int .i64 (i:Int)/\j<=L.length/\i<j/\n=L.length-j/\K.length=L.length/\
    K.take i=(L.take j).filter (λp=>!F p)/\K.drop j=L.drop j/\h2.bl.get b=some (ah ((K++G).flatMap enc) e true),
   ⟨_,b2,l1,⟨n1,λc hc _=>hle1.get c hc⟩,i0+1,i0,L,rfl,rfl,YYZ,YYZ,rfl,rfl,?_,rfl,b4⟩,?_⟩
  .rw[gY e2,DI,e3];simp
  rintro n l h2 ⟨hb2,QL,hfr,j,i,K,s1,s2,hj,hij,rfl,hK,RA,Za,hg2⟩;have hKG:(K++G).length=(L++G).length:=by rw[List.length_append,List.length_append,hK]
  have hfl:=bB (enc:=enc) he (K++G);rw[hKG]at hfl;have hLG:(L++G).length=L.length+G.length:=List.length_append;by_cases hlt:j<L.length
  .obtain⟨p,hp⟩:∃p,L[j]? = some p:=⟨_,List.getElem?_eq_getElem hlt⟩
   have hpK:K[j]? = some p:=by
    have:(K.drop j)[0]? = (L.drop j)[0]?:=by rw[Za]
    simpa[hp]using this
   have aaJ:Sl enc h2 (.slice (some ⟨b,0,none⟩) L.length aX) K:=by
    have:fP enc e h2 (.slice (some ⟨b,0,none⟩) L.length aX) K:=.inr ⟨b,G,by rw[hK],hb2,by rw[QL];exact b30,hg2,by rw[hKG];exact b50⟩;exact this.sl
   obtain⟨b',o',hb',om,mK,_⟩:=aaJ.ld he j hpK;have bat:=om Nat 0 h2 λv _=>match v with | .pointer (some a)=>a.block|_=>0
   rw[br _ _ _ _ _ _ _ _ hlt]at bat;have Rc:b=b':=bat;subst Rc;have hep:=he p;have hop:=hone p;have htk:(enc p).take s=enc p:=by rw[<-hep,List.take_length]
   have hxx:=qS z (enc p) YYZ;simp(disch:=try exact Y)only[Wz,s1,s2,om,mK];refine⟨λl h'=>b<h'.nx/\h'.lo=h.lo/\(h.nx<=h'.nx/\∀c,c<h.nx->c≠b->h'.bl.get c=h.bl.get c)/\∃(i':Nat)(K':List α),an l 15=.int .i64 (i':Int)/\i'<j+1/\K'.length=L.length/\
    K'.take i'=(L.take (j+1)).filter (λp=>!F p)/\K'.drop (j+1)=L.drop (j+1)/\h'.bl.get b=some (ah ((K'++G).flatMap enc) e true),?_,?_⟩
   ·simp(disch:=try exact Y)only[Wz,s1,s2,om,mK,stG he hone p,htk,hxx];have aaK:=(Le.refl h2).new (ah (enc p) e false);refine hF p _ _ ⟨by have:=hfr.1;show h.nx<=h2.nx+1;omega,QL,λc hc hne=>(T.aD _ _ (by have:=hfr.1;omega)).trans (hfr.2 c hc (by rintro rfl;exact hne ⟨_,_,_,rfl⟩))⟩ ?_;intro h3 bP;have n3:=bP.nx;have l3:=bP.lo;dsimp only at n3 l3;have g3:h3.bl.get h2.nx=some (ah (enc p) e false):=(bP.get h2.nx (Nat.lt_succ_self _)).trans (T.az _ _ _);have gb3:h3.bl.get b=some (ah ((K++G).flatMap enc) e true):=by
     rw[bP.get b (by show b<h2.nx+1;omega)]
     show(h2.bl.bt h2.nx _).get b=_
     rw[T.aD _ _ YYZ];exact hg2
    have zS:h.nx<=h3.nx/\∀c,c<h.nx->c≠b->h3.bl.get c=h.bl.get c:=by
     have q0:=hfr.1;refine⟨YYZ,λc hc hne=>?_⟩;have e1:(h2.bl.bt h2.nx (ah (enc p) e false)).get c=h2.bl.get c:=T.aD _ _ YYZ;exact(bP.get c (by show c<h2.nx+1;omega)).trans (e1.trans (hfr.2 c hc hne))
    cases hc:F p with
    |true=>
     simp(disch:=try exact Y)only[Wz,s2];exact⟨YYZ,YYZ,zS,i,K,rfl,YYZ,hK,by rw[gY hp,hc];simpa using RA,by rw[<-List.drop_drop,Za,List.drop_drop],gb3⟩
    |false=>
     have DJ:=tr he (K++G) i p YYZ;rw[List.set_append_left _ _ YYZ]at DJ;have hbd:i*s+s<=((K++G).flatMap enc).length:=by rw[hfl,<-Nat.succ_mul];exact Nat.mul_le_mul_right _ YYZ
     simp(disch:=try exact Y)only[Wz,s2,g3,gb3,br,stG he hone p,htk,DJ];refine⟨YYZ,YYZ,⟨zS.1,λc hc hne=>(T.aD _ _ (λe=>hne e.symm)).trans (zS.2 c hc hne)⟩,i+1,K.set i p,rfl,YYZ,by simpa using hK,?_,?_,rfl⟩
     .rw[gY hp,hc,<-RA];have hiK:i<K.length:=by omega
      rw[List.take_succ_eq_append_getElem (by simpa using hiK)];simp[List.take_set_of_le]
     .rw[List.drop_set_of_lt YYZ,<-List.drop_drop,Za,List.drop_drop]
   .rintro l8 h3 ⟨hb3,J8,zS,i',K',s3,hi',hK',aaM,aaN,hg3⟩;simp(disch:=try exact Y)only[Wz,s1,s3];exact⟨_,YYZ,hb3,J8,zS,j+1,i',K',rfl,rfl,YYZ,hi',rfl,hK',aaM,aaN,hg3⟩
  .have hjL:j=L.length:=by omega
   subst hjL;rw[List.take_length]at RA;have r1:=Mv hz0 (L.length-i);have r2:=Mw hz1 (L.length-i);have hbd:i*s+(L.length-i)*s=L.length*s:=by rw[<-Nat.add_mul];congr 1;omega
   have arC:L.length*s<=(L++G).length*s:=Nat.mul_le_mul_right _ YYZ;have aaO:∀n,bq z n=(List.replicate n za).flatMap enc:=by
    intro n
    induction n with
    |zero=>rfl
    |succ n ih=>rw[List.replicate_succ,List.flatMap_cons,<-ih,hz];rfl
   have RF:∃u,(∀V:Value->af->Prop,sliceB False e s (.slice (some ⟨b,0,none⟩) L.length aX) (some (.int .i64 (i:Int))) none none h2 V=V (.slice (some ⟨b,i*s,none⟩) (L.length-i) u) h2):=by
    obtain⟨s,rfl⟩:∃k,s=k+1:=⟨s-1,YYZ⟩
    have hk:iu h2 e b=some ((L++G).length*(s+1)):=by unfold iu;rw[hg2];simp only[ah,jm,hfl]
    have hd:Nat.div (Nat.sub ((L++G).length*(s+1)) 0) (s+1)=(L++G).length:=by show((L++G).length*(s+1)-0) / (s+1)=_;rw[Nat.sub_zero,Nat.mul_div_cancel _ YYZ]
    have e1:Nat.beq aX gK=false:=by decide
    have e2:Nat.beq aX aX=true:=Nat.beq_refl _;have e3:Nat.ble 0 ((L++G).length*(s+1))=true:=Nat.ble_eq_true_of_le (Nat.zero_le _);have e4:Nat.beq i (L++G).length=false:=by
     cases hq:Nat.beq i (L++G).length with
     |false=>rfl
     |true=>have:=cD hq;omega
    refine⟨aX,λV=>?_⟩;unfold sliceB;simp only[e1,e2,hk,e3,hd];rw[zP YYZ YYZ];simp only[e2,e4,bY]
    show V (.slice (some ⟨b,0+i*(s+1),none⟩) (L.length-i) aX) h2=_
    rw[Nat.zero_add]
   obtain⟨uc,RF⟩:=RF;simp(disch:=try exact Y)only[Wz,s1,s2,RF];rw[xR hg2 YYZ (by rw[r1,hfl];omega) r2 YYZ];have RC:(over ((K++G).flatMap enc) (i*s) (bq z (L.length-i))).length=(L++G).length*s:=by
    rw[nL (by rw[r1,hfl];omega),hfl]
   rw[zO (n:=(L++G).length) (i:=i) (vs:=over ((K++G).flatMap enc) (i*s) (bq z (L.length-i))) hs0 (T.az _ _ _) RC b50 YYZ];have Ga:(L.filter λp=>!F p).length=i:=by rw[<-RA];simp;omega
   have BS:over ((K++G).flatMap enc) (i*s) (bq z (L.length-i))=((L.filter λp=>!F p)++(List.replicate (L.length-i) za++G)).flatMap enc:=by
    have h1:((K++G).flatMap enc).take (i*s)=(L.filter λp=>!F p).flatMap enc:=by
     rw[pZ he,List.take_append_of_le_length YYZ,RA]
    have h2:((K++G).flatMap enc).drop (i*s+(L.length-i)*s)=G.flatMap enc:=by
     rw[hbd,p7 he,<-hK,List.drop_left]
    rw[over,r1,h1,h2,aaO,List.flatMap_append,List.flatMap_append,List.append_assoc]
   rw[BS];refine hk _ _ (.inr ⟨b,List.replicate (L.length-i) za++G,by rw[Ga],hb2,by show h2.lo<=b;omega,T.az _ _ _,by rw[List.length_append,List.length_append,List.length_replicate,Ga];omega⟩) ⟨hfr.1,QL,λc hc hne=>(T.aD _ _ (by rintro rfl;exact hne ⟨_,_,_,rfl⟩)).trans (hfr.2 c hc (by rintro rfl;exact hne ⟨_,_,_,rfl⟩))⟩ (.inr ⟨b,_,_,rfl,rfl⟩)
end
end Go.Vai

namespace Go.Clashes
structure H4 where
 x:Int
 t:Int
 r:Int
 m:Int
def tab:List (List Bool):=[
 [true,true,true,true,true,true,true],
 [true,true,true,true,true,true,false],
 [true,true,true,false,false,false,false],
 [true,true,false,true,false,true,false],
 [true,true,false,false,false,false,false],
 [true,true,false,true,false,false,false],
 [true,false,false,false,false,false,false]]
def cmp(a b:Int):Bool:=decide (0<=a) && decide (a<=6) && decide (0<=b) && decide (b<=6) && ((tab.getD a.toNat []).getD b.toNat false)
theorem uD(a b:Int):cmp a b=cmp b a:=by
 by_cases h:(0<=a/\a<=6)/\(0<=b/\b<=6)
 .have key:∀i,i<7->∀j,j<7->cmp (i:Nat) (j:Nat)=cmp (j:Nat) (i:Nat):=by decide
  have:=key a.toNat (by omega) b.toNat (by omega)
  rwa [show((a.toNat:Nat):Int)=a by omega,show((b.toNat:Nat):Int)=b by omega]at this
 ·have h1:cmp a b=false:=by
   cases hq:cmp a b with
   |false=>rfl
   |true=>simp[cmp]at hq;omega
  have h2:cmp b a=false:=by
   cases hq:cmp b a with
   |false=>rfl
   |true=>simp[cmp]at hq;omega
  rw[h1,h2]
def bad(p q:H4):Bool:=(p.t == q.t && p.r == q.r) && !(p.x == q.x) && !cmp p.m q.m
end Go.Clashes

namespace Go.Vai
open Go Go.Clashes
def kn(m:Int):Bool:=decide (0<=m) && decide (m<=6)
def alS:List (List Bool):=[
 [true,false,false,false,false,false,false],
 [true,true,false,false,false,false,false],
 [true,true,true,false,false,false,false],
 [true,true,false,true,false,false,false],
 [true,true,true,true,true,false,false],
 [true,true,false,true,false,true,false],
 [true,true,true,true,true,true,true]]
def kG(a b:Int):Bool:=kn a && kn b && ((alS.getD a.toNat []).getD b.toNat false)
def bM(a b:Int):Int:=if(kn a && kn b)=true then(if kG a b then a else if kG b a then b else if kG 4 a && kG 4 b then 4 else 6)else 0
theorem wQ(n:Nat):kn (.negSucc n)=false:=by
 have h:¬(0:Int)<=.negSucc n:=by omega
 unfold kn;rw[aZ h];rfl
theorem wR(n:Nat):kn (.ofNat (n+7))=false:=by
 have h:¬(Int.ofNat (n+7))<=6:=by show ¬((n+7:Nat):Int)<=6;omega
 unfold kn;rw[aZ h,Bool.and_false]
theorem DK{a b:Int}(h:kG a b=true):kn a=true/\kn b=true:=by
 simp only[kG,Bool.and_eq_true]at h;exact h.1
theorem Zb{a b:Int}(h:kn a=false):kG a b=false:=by simp[kG,h]
theorem Zc{a b:Int}(h:kn b=false):kG a b=false:=by simp[kG,h]
theorem RG{a b:Int}(h:kn a=false):bM a b=0:=by simp[bM,h]
theorem RH{a b:Int}(h:kn b=false):bM a b=0:=by simp[bM,h]
theorem RI{a b:Int}(h:kn a=false):cmp a b=false:=by
 unfold cmp;unfold kn at h;rw[h];rfl
theorem Zd{a b:Int}(h:kn b=false):cmp a b=false:=by rw[uD];exact RI h
theorem wS(a:Int):(∃i:Nat,i<7/\a=Int.ofNat i)\/(∃n:Nat,a=Int.negSucc n)\/∃n:Nat,a=Int.ofNat (n+7):=by
 cases a with
 |negSucc n=>exact .inr (.inl ⟨n,rfl⟩)
 |ofNat i=>
  rcases Nat.lt_or_ge i 7 with h|h
  .exact .inl ⟨i,h,rfl⟩
  .exact .inr (.inr ⟨i-7,by congr 1;omega⟩)
theorem seven{p:Nat->Prop}(h0:p 0)(h1:p 1)(h2:p 2)(h3:p 3)(h4:p 4)(h5:p 5)(h6:p 6):∀i,i<7->p i:=by
 intro i hi;have:i=0\/i=1\/i=2\/i=3\/i=4\/i=5\/i=6:=by omega
 rcases this with rfl|rfl|rfl|rfl|rfl|rfl|rfl<;>assumption
theorem rR{P:Program}(mix:P.follows .mixedOrders=true){f:FuncId}{F:Int->Int->Value}(h1:∀i,i<7->∀j,j<7->bA P 200 f [.int .i64 (.ofNat i),.int .i64 (.ofNat j)] (F (.ofNat i) (.ofNat j))=true)(h2:∀(n:Nat)(b:Int),bA P 200 f [.int .i64 (.negSucc n),.int .i64 b] (F (.negSucc n) b)=true)(h3:∀(n:Nat)(b:Int),bA P 200 f [.int .i64 (.ofNat (n+7)),.int .i64 b] (F (.ofNat (n+7)) b)=true)(h4:∀i,i<7->∀n:Nat,bA P 200 f [.int .i64 (.ofNat i),.int .i64 (.negSucc n)] (F (.ofNat i) (.negSucc n))=true)(h5:∀i,i<7->∀n:Nat,bA P 200 f [.int .i64 (.ofNat i),.int .i64 (.ofNat (n+7))] (F (.ofNat i) (.ofNat (n+7)))=true)(a b:Int){h:af}{V:KQ}(hk:V (F a b) h):aq P f [.int .i64 a,.int .i64 b] h V:=by
 refine gN mix (n:=200) ?_ hk;rcases wS a with⟨i,hi,rfl⟩|⟨n,rfl⟩|⟨n,rfl⟩
 .rcases wS b with⟨j,hj,rfl⟩|⟨m,rfl⟩|⟨m,rfl⟩
  .exact h1 i hi j hj
  .exact h4 i hi m
  .exact h5 i hi m
 .exact h2 n b
 .exact h3 n b
theorem lz{a:Int}(h:kn a=true):∃i:Nat,i<7/\a=(i:Int):=by
 unfold kn at h;simp only[Bool.and_eq_true,decide_eq_true_eq]at h;exact⟨a.toNat,YYZ,YYZ⟩
theorem V9:∀i,i<7->∀j,j<7->kG (i:Nat) (j:Nat)=true->kG (j:Nat) (i:Nat)=true->i=j:=by decide +kernel
theorem RJ{a b:Int}(h1:kG a b=true)(h2:kG b a=true):a=b:=by
 obtain⟨i,hi,rfl⟩:=lz (DK h1).1;obtain⟨j,hj,rfl⟩:=lz (DK h1).2;rw[V9 i hi j hj h1 h2]
theorem V_:∀i,i<7->kG (i:Nat) 0=true:=by decide +kernel
theorem RK{a:Int}(h:kn a=true):kG a 0=true:=by
 obtain⟨i,hi,rfl⟩:=lz h;exact V_ i hi
theorem aaP:∀i,i<7->∀j,j<7->(kG (i:Nat) (bM (i:Nat) (j:Nat))=true->kG (i:Nat) (j:Nat)=true)/\kG (bM (i:Nat) (j:Nat)) (i:Nat)=true/\kG (bM (i:Nat) (j:Nat)) (j:Nat)=true/\(j≠0->bM (i:Nat) (j:Nat)≠0)/\(kG (i:Nat) (j:Nat)=true->bM (i:Nat) (j:Nat)=(i:Nat)):=by decide +kernel
theorem DL{a b:Int}(ha:kn a=true)(hb:kn b=true):(kG a (bM a b)=true->kG a b=true)/\kG (bM a b) a=true/\kG (bM a b) b=true/\(b≠0->bM a b≠0)/\(kG a b=true->bM a b=a):=by
 obtain⟨i,hi,rfl⟩:=lz ha;obtain⟨j,hj,rfl⟩:=lz hb;obtain⟨h1,h2,h3,h4,h5⟩:=aaP i hi j hj;exact⟨h1,h2,h3,λhb=>h4 YYZ,h5⟩
theorem aaQ{a b:Int}(ha:kn a=true)(hb:kn b=true):kn (bM a b)=true:=(DK (DL ha hb).2.1).1
end Go.Vai

namespace Go.Vai
open Go Go.Clashes
structure R5 where
 id:Int
 x:Int
 m:Int
 w:Int
 s:Int
def bL(r:R5):List Value:=[.int .i64 r.id,.int .i64 r.x,.int .i64 r.m,.int .i64 r.w,.int .i64 r.s]
theorem cV(r:R5):(bL r).length=5:=rfl
theorem zT(r:R5):(bL r).all dK=true:=rfl
theorem aaR{p q:R5}:p=q<->(p.id=q.id/\p.x=q.x/\p.m=q.m/\p.w=q.w/\p.s=q.s):=by
 cases p;cases q;simp
instance :DecidableEq R5:=λp q=>decidable_of_iff _ aaR.symm
def yM(r:R5):Bool:=decide (r.m≠0) && decide (0<r.s)
theorem rS(r:R5):yM r=true<->r.m≠0/\0<r.s:=by simp[yM]
def Gd(Q:List R5)(r:R5)(o:Option Nat):Bool:=match o with
 |none=>true
 |some b=>match Q[b]? with
  |some q=>decide (r.s<q.s)
  |none=>false
def best(Q:List R5):Nat->Option Nat
 |0=>none
 |i+1=>match Q[i]? with
  |some r=>if(yM r && Gd Q r (best Q i))=true then some i else best Q i
  |none=>best Q i
def fC(Q:List R5):Option Nat:=match best Q Q.length with|some b=>some b|none=>Q.findIdx? (λr=>decide (r.m=0))
def ja(Q:List R5)(r:R5):Bool:=!Q.any λo=>decide (o.id≠r.id) && decide (o.m≠0) && !cmp o.m r.w
theorem DM(Q:List R5):∀i b,best Q i=some b->b<i/\∃r,Q[b]? = some r/\yM r=true:=by
 intro i
 induction i with
 |zero=>intro b h;cases h
 |succ i ih=>
  intro b h;unfold best at h;split at h
  .rename_i r hr;split at h
   .rename_i hc;cases h;rw[Bool.and_eq_true]at hc;exact⟨Nat.lt_succ_self _,r,hr,hc.1⟩
   .obtain⟨h1,h2⟩:=ih b h;exact⟨YYZ,h2⟩
  .obtain⟨h1,h2⟩:=ih b h;exact⟨YYZ,h2⟩
theorem CG(Q:List R5):∀i,best Q i=none->∀(j:Nat)(r:R5),j<i->Q[j]? = some r->yM r=false:=by
 intro i
 induction i with
 |zero=>intro _ j r h;omega
 |succ i ih=>
  intro h j r hj hr;unfold best at h;split at h
  .rename_i q hq;split at h
   .cases h
   .rename_i hc;by_cases hji:j=i
    .subst hji;rw[hq]at hr;cases hr;rw[h]at hc;simpa[Gd]using hc
    .exact ih h j r YYZ hr
  .rename_i hq;by_cases hji:j=i
   .subst hji;rw[hq]at hr;cases hr
   .exact ih h j r YYZ hr
theorem Ks{Q:List R5}(h:fC Q=none):∀r∈Q,r.m≠0/\¬0<r.s:=by
 unfold fC at h;split at h
 .cases h
 .rename_i hb;rw[List.findIdx?_eq_none_iff]at h;intro r hr;obtain⟨j,hj⟩:=List.getElem?_of_mem hr;have h1:=CG Q _ hb j r (List.getElem?_eq_some_iff.1 hj).1 hj;have h2:r.m≠0:=by simpa using h r hr
  refine⟨h2,λh3=>?_⟩;rw[(rS r).2 ⟨h2,h3⟩]at h1;cases h1
theorem tu{Q:List R5}{i:Nat}(h:fC Q=some i):∃r,Q[i]? = some r/\(yM r=true\/(r.m=0/\(∀q∈Q,yM q=false)/\∀(j:Nat)(q:R5),j<i->Q[j]? = some q->q.m≠0)):=by
 unfold fC at h;split at h
 .rename_i b hb;cases h;obtain⟨_,r,h1,h2⟩:=DM Q _ _ hb;exact⟨r,h1,.inl h2⟩
 ·rename_i hb;have hno:∀q∈Q,yM q=false:=λq hq=>by
   obtain⟨j,hj⟩:=List.getElem?_of_mem hq;exact CG Q _ hb j q (List.getElem?_eq_some_iff.1 hj).1 hj
  rcases mI Q (λr=>decide (r.m=0))with⟨e,_⟩|⟨k,p,e,hp,h1,h2⟩
  .rw[e]at h;cases h
  .rw[e]at h;cases h;exact⟨p,hp,.inr ⟨by simpa using h1,hno,λj q hj hq=>by simpa using h2 j q hj hq⟩⟩
theorem kj(Q:List R5)(r:R5):ja Q r=true<->∀o∈Q,o.id≠r.id->o.m≠0->cmp o.m r.w=true:=by
 unfold ja;rw[Bool.not_eq_true',List.any_eq_false];constructor
 .intro h o ho h1 h2;have:=h o ho;simpa[h1,h2]using this
 .intro h o ho hc;simp only[Bool.and_eq_true,decide_eq_true_eq,Bool.not_eq_true']at hc;rw[h o ho hc.1.1 hc.1.2]at hc;cases hc.2
structure RL(W:Int)(r:R5):Prop where
 id:0<=r.id
 km:kn r.m=true
 kw:kn r.w=true
 s0:0<=r.s
 sW:r.s<=W
 wait:0<r.s->kG r.m r.w=false
 hold:r.s=0->r.m≠0/\r.w=r.m
structure zU(a b:R5):Prop where
 id:a.id≠b.id
 x:a.x≠b.x
 s:0<a.s->a.s≠b.s
 cm:a.m≠0->b.m≠0->cmp a.m b.m=true
 ord:a.m=0->b.m=0/\a.s<b.s
structure VQ(Q:List R5)(W:Int):Prop where
 w0:0<=W
 right:∀r∈Q,RL W r
 pair:Q.Pairwise zU
theorem eY{α:Type}{R:α->α->Prop}{L:List α}:L.Pairwise R<->∀(i j:Nat)(p q:α),i<j->L[i]? = some p->L[j]? = some q->R p q:=by
 rw[List.pairwise_iff_getElem];constructor
 .intro h i j p q hij hp hq;obtain⟨hi,rfl⟩:=List.getElem?_eq_some_iff.1 hp;obtain⟨hj,rfl⟩:=List.getElem?_eq_some_iff.1 hq;exact h i j hi hj hij
 .intro h i j hi hj hij;exact h i j _ _ hij (List.getElem?_eq_getElem hi) (List.getElem?_eq_getElem hj)
theorem tw{α:Type}{R:α->α->Prop}{L:List α}{i:Nat}{p:α}(h:L.Pairwise R)(h1:∀(j:Nat)(q:α),j<i->L[j]? = some q->R q p)(h2:∀(j:Nat)(q:α),i<j->L[j]? = some q->R p q):(L.set i p).Pairwise R:=by
 rw[eY]at *
 intro a b u v hab hu hv;rw[List.getElem?_set]at hu hv;by_cases ha:i=a
 .subst ha;rw[if_pos rfl]at hu;rw[if_neg YYZ]at hv;split at hu
  .cases hu;exact h2 b v hab hv
  .cases hu
 .rw[if_neg ha]at hu;by_cases hb:i=b
  .subst hb;rw[if_pos rfl]at hv;split at hv
   .cases hv;exact h1 a u hab hu
   .cases hv
  .rw[if_neg hb]at hv;exact h a b u v hab hu hv
theorem mem_set{α:Type}{L:List α}{i:Nat}{p q:α}(h:q∈L.set i p):q=p\/q∈L:=by
 rcases List.mem_or_eq_of_mem_set h with h|h
 .exact .inr h
 .exact .inl h
theorem RM{Q:List R5}(h:Q.Pairwise zU){i j:Nat}{p q:R5}(hp:Q[i]? = some p)(hq:Q[j]? = some q)(he:p.id=q.id):i=j:=by
 rcases Nat.lt_trichotomy i j with h1|h1|h1
 .exact absurd he (eY.1 h i j p q h1 hp hq).id
 .exact h1
 .exact absurd he.symm (eY.1 h j i q p h1 hq hp).id
theorem aaS{Q:List R5}(h:Q.Pairwise zU){p q:R5}(hp:p∈Q)(hq:q∈Q)(he:p.id=q.id):p=q:=by
 obtain⟨i,hi⟩:=List.getElem?_of_mem hp;obtain⟨j,hj⟩:=List.getElem?_of_mem hq;have:=RM h hi hj he;subst this;rw[hi]at hj;cases hj;rfl
theorem VQ.mono{Q:List R5}{W W':Int}(v:VQ Q W)(h:W<=W'):VQ Q W':=
 ⟨Int.le_trans v.w0 h,λr hr=>let a:=v.right r hr;⟨a.id,a.km,a.kw,a.s0,Int.le_trans a.sW h,a.wait,a.hold⟩,v.pair⟩
theorem VQ.nil:VQ [] 0:=⟨Int.le_refl _,λr hr=>(by cases hr),List.Pairwise.nil⟩
theorem VQ.filter{Q:List R5}{W:Int}(v:VQ Q W)(F:R5->Bool):VQ (Q.filter F) W:=
 ⟨v.w0,λr hr=>v.right r (List.mem_filter.1 hr).1,v.pair.sublist List.filter_sublist⟩
theorem zV{W:Int}{r:R5}(h:RL W r)(hs:0<r.s):r.w≠0:=by
 intro e;have:=h.wait hs;rw[e,RK h.km]at this;cases this
def eP(r:R5):R5:=⟨r.id,r.x,r.w,r.w,0⟩
theorem VQ.RO{Q:List R5}{W:Int}(v:VQ Q W){i:Nat}{r:R5}(hf:fC Q=some i)(hr:Q[i]? = some r)(hfit:ja Q r=true):VQ (Q.set i (eP r)) W:=by
 obtain⟨r',hr',My⟩:=tu hf;rw[hr]at hr';cases hr';have R:=v.right r (List.mem_of_getElem? hr);have hs:0<r.s:=by
  rcases My with h|⟨h,_⟩
  .exact((rS r).1 h).2
  .rcases Int.lt_or_eq_of_le R.s0 with h0|h0
   .exact h0
   .exact absurd h (R.hold h0.symm).1
 have hw:=zV R hs;rw[kj]at hfit;refine⟨v.w0,?_,?_⟩
 .intro q hq;rcases mem_set hq with rfl|hq
  .exact⟨R.id,R.kw,R.kw,Int.le_refl _,v.w0,λh=>absurd h (Int.lt_irrefl _),λ_=>⟨hw,rfl⟩⟩
  .exact v.right q hq
 .refine tw v.pair ?_ ?_
  ·intro j q hj hq;have P:=eY.1 v.pair j i q r hj hq hr;have hm:q.m≠0:=by
    rcases My with h|⟨_,_,h⟩
    .intro e;exact((rS r).1 h).1 (P.ord e).1
    .exact h j q hj hq
   exact⟨P.id,P.x,λh=>(λe:q.s=0=>by omega),λh1 _=>hfit q (List.mem_of_getElem? hq) P.id h1,λe=>absurd e hm⟩
  .intro j q hj hq;have P:=eY.1 v.pair i j r q hj hr hq;refine⟨P.id,P.x,λh=>absurd h (Int.lt_irrefl _),λ_ h2=>?_,λe=>absurd e hw⟩;rw[uD];exact hfit q (List.mem_of_getElem? hq) (λe=>P.id e.symm) h2
def jD(Q:List R5):Nat:=(Q.filter λr=>decide (0<r.s)).length
theorem tC{Q:List R5}{i:Nat}{r:R5}(hr:Q[i]? = some r)(hs:0<r.s):jD (Q.set i (eP r))+1=jD Q:=by
 obtain⟨hi,rfl⟩:=List.getElem?_eq_some_iff.1 hr;have e1:Q=Q.take i++Q[i]::Q.drop (i+1):=by
  rw[List.getElem_cons_drop,List.take_append_drop]
 have e2:Q.set i (eP Q[i])=Q.take i++eP Q[i]::Q.drop (i+1):=by
  rw[List.set_eq_take_append_cons_drop,if_pos hi]
 have hg:decide (0<(eP Q[i]).s)=false:=by simp[eP]
 have h1:jD Q=((Q.take i).filter λr=>decide (0<r.s)).length+(((Q.drop (i+1)).filter λr=>decide (0<r.s)).length+1):=by
  conv=>lhs;rw[e1]
  unfold jD;rw[List.filter_append,List.filter_cons,if_pos (by simpa using hs)];simp
 rw[e2,h1];unfold jD;rw[List.filter_append,List.filter_cons,if_neg (by rw[hg];simp)];simp;omega
def eU:Nat->List R5->List R5 × List Int
 |0,Q=>(Q,[])
 |n+1,Q=>match fC Q with
  |none=>(Q,[])
  |some i=>match Q[i]? with
   |none=>(Q,[])
   |some r=>if ja Q r=true then((eU n (Q.set i (eP r))).1,r.id::(eU n (Q.set i (eP r))).2)else(Q,[])
def tD(Q:List R5):Prop:=∀i r,fC Q=some i->Q[i]? = some r->ja Q r=false
def Kt(r:R5):Int × Int:=(r.id,r.x)
theorem kX{Q:List R5}{W:Int}(v:VQ Q W){i:Nat}{r:R5}(hf:fC Q=some i)(hr:Q[i]? = some r):0<r.s:=by
 obtain⟨r',hr',My⟩:=tu hf;rw[hr]at hr';cases hr';have R:=v.right r (List.mem_of_getElem? hr);rcases My with h|⟨h,_⟩
 .exact((rS r).1 h).2
 .rcases Int.lt_or_eq_of_le R.s0 with h0|h0
  .exact h0
  .exact absurd h (R.hold h0.symm).1
theorem On{W:Int}:∀(n:Nat){Q:List R5},VQ Q W->∀q∈Q,q.s=0->q∈(eU n Q).1:=by
 intro n
 induction n with
 |zero=>intro Q v q hq _;exact hq
 |succ n ih=>
  intro Q v q hq h0;unfold eU;split
  .exact hq
  .rename_i i hf;split
   .exact hq
   .rename_i r hr;by_cases hfit:ja Q r=true
    ·rw[if_pos hfit];refine ih (v.RO hf hr hfit) q ?_ h0;obtain⟨k,hk⟩:=List.getElem?_of_mem hq;have hne:i≠k:=by
      rintro rfl;rw[hr]at hk;cases hk;have:=kX v hf hr;omega
     exact List.mem_of_getElem? (i:=k) (by rw[List.getElem?_set,if_neg hne];exact hk)
    .rw[if_neg hfit];exact hq
theorem DN{W:Int}:∀(n:Nat){Q:List R5},VQ Q W->VQ (eU n Q).1 W/\(eU n Q).1.map Kt=Q.map Kt/\(jD Q<n->tD (eU n Q).1)/\(∀i∈(eU n Q).2,∃r∈(eU n Q).1,r.id=i/\r.m≠0/\r.s=0):=by
 intro n
 induction n with
 |zero=>intro Q v;exact⟨v,rfl,λh=>YYZ,λi h=>(by cases h)⟩
 |succ n ih=>
  intro Q v;unfold eU;split
  .rename_i hf;refine⟨v,rfl,λ_=>?_,λi h=>(by cases h)⟩;intro i r h _;rw[hf]at h;cases h
  .rename_i i hf;split
   .rename_i hr;refine⟨v,rfl,λ_=>?_,λi h=>(by cases h)⟩;intro j r h h2;rw[hf]at h;cases h;rw[hr]at h2;cases h2
   .rename_i r hr;by_cases hfit:ja Q r=true
    ·rw[if_pos hfit];have v2:=v.RO hf hr hfit;obtain⟨h1,h2,h3,h4⟩:=ih v2;have hc:=tC hr (kX v hf hr);have hkey:(Q.set i (eP r)).map Kt=Q.map Kt:=by
      rw[List.map_set];have:Kt (eP r)=Kt r:=rfl;rw[this];apply List.ext_getElem?;intro k;rw[List.getElem?_set];by_cases hik:i=k
      .subst hik;have hil:=(List.getElem?_eq_some_iff.1 hr).1;rw[if_pos rfl,if_pos (by simpa using hil),List.getElem?_map,hr];rfl
      .rw[if_neg hik]
     refine⟨h1,h2.trans hkey,λh=>h3 YYZ,λj hj=>?_⟩;rcases List.mem_cons.1 hj with rfl|hj
     .refine⟨eP r,On n v2 (eP r) ?_ rfl,rfl,?_,rfl⟩
      .have hil:=(List.getElem?_eq_some_iff.1 hr).1;exact List.mem_of_getElem? (i:=i) (by rw[List.getElem?_set,if_pos rfl,if_pos hil])
      .exact zV (v.right r (List.mem_of_getElem? hr)) (kX v hf hr)
     .exact h4 j hj
    .rw[if_neg hfit];refine⟨v,rfl,λ_=>?_,λi h=>(by cases h)⟩;intro j q h h2;rw[hf]at h;cases h;rw[hr]at h2;cases h2;simpa using hfit
theorem zW{Q:List R5}(h:tD Q)(n:Nat):eU n Q=(Q,[]):=by
 cases n with
 |zero=>rfl
 |succ n=>
  unfold eU;split
  .rfl
  .rename_i i hf;split
   .rfl
   .rename_i r hr;rw[if_neg (by rw[h i r hf hr];simp)]
end Go.Vai

namespace Go.Vai
open Go Go.Clashes
def cu(m:Int):Bool:=decide (m≠0) && kn m
theorem mL(m:Int):cu m=true<->m≠0/\kn m=true:=by simp[cu]
def cw(id:Int)(r:R5):Bool:=decide (r.id=id)
def cB(Q:List R5)(id:Int):Option R5:=Q.find? (cw id)
theorem jo{Q:List R5}{id:Int}{r:R5}(h:cB Q id=some r):r∈Q/\r.id=id:=by
 unfold cB at h;have:=List.find?_some h;exact⟨List.mem_of_find?_eq_some h,by simpa[cw]using this⟩
theorem tE{Q:List R5}{id:Int}(h:cB Q id=none):∀r∈Q,r.id≠id:=by
 unfold cB at h;rw[List.find?_eq_none]at h;intro r hr e;exact h r hr (by simp[cw,e])
theorem Oo{Q:List R5}(hp:Q.Pairwise zU){r:R5}(hr:r∈Q):cB Q r.id=some r:=by
 cases h:cB Q r.id with
 |none=>exact absurd rfl (tE h r hr)
 |some q=>
  obtain⟨h1,h2⟩:=jo h;rw[aaS hp h1 hr h2]
def kY(Q:List R5)(W id x m:Int):R5 × Int × Bool:=
 if(decide (fC Q=none) && ja Q ⟨id,x,0,m,0⟩)=true then(⟨id,x,m,m,0⟩,W,true)else(⟨id,x,0,m,W+1⟩,W+1,false)
theorem agB{m:Int}(h:kG 0 m=true):m=0:=by
 have key:∀j,j<7->kG 0 (j:Nat)=true->j=0:=by decide +kernel
 obtain⟨j,hj,rfl⟩:=lz (DK h).2;rw[key j hj h];rfl
theorem uE{α:Type}{R:α->α->Prop}{L:List α}{p:α}(h:L.Pairwise R)(h1:∀q∈L,R q p):(L++[p]).Pairwise R:=by
 rw[List.pairwise_append];exact⟨h,List.pairwise_singleton _ _,λq hq r hr=>by rw[List.mem_singleton]at hr;subst hr;exact h1 q hq⟩
theorem VQ.ask{Q:List R5}{W:Int}(v:VQ Q W){id x m:Int}(hid:0<=id)(hm:cu m=true)(hn:∀q∈Q,q.id≠id/\q.x≠x):VQ (Q++[(kY Q W id x m).1]) (kY Q W id x m).2.1:=by
 obtain⟨m0,km⟩:=(mL m).1 hm;unfold kY;by_cases hc:(decide (fC Q=none) && ja Q ⟨id,x,0,m,0⟩)=true
 .rw[if_pos hc];rw[Bool.and_eq_true,decide_eq_true_eq,kj]at hc;have hall:=Ks hc.1;refine⟨v.w0,?_,uE v.pair ?_⟩
  .intro r hr;rcases List.mem_append.1 hr with hr|hr
   .exact v.right r hr
   .rw[List.mem_singleton]at hr;subst hr;exact⟨hid,km,km,Int.le_refl _,v.w0,λh=>absurd h (Int.lt_irrefl _),λ_=>⟨m0,rfl⟩⟩
  .intro q hq;exact⟨(hn q hq).1,(hn q hq).2,λh=>absurd h (hall q hq).2,λh1 _=>hc.2 q hq (hn q hq).1 h1,λe=>absurd e (hall q hq).1⟩
 .rw[if_neg hc];have v2:=v.mono (W':=W+1) YYZ;refine⟨v2.w0,?_,uE v.pair ?_⟩
  .intro r hr;rcases List.mem_append.1 hr with hr|hr
   .exact v2.right r hr
   .rw[List.mem_singleton]at hr;subst hr;refine⟨hid,rfl,km,v2.w0,Int.le_refl _,λ_=>?_,λh=>?_⟩
    .cases hcv:kG 0 m with
     |false=>rfl
     |true=>exact absurd (agB hcv) m0
    .have:=v.w0;have h:W+1=0:=h;omega
  .intro q hq;have:=(v.right q hq).sW;exact⟨(hn q hq).1,(hn q hq).2,λ_=>(λe:q.s=W+1=>by omega),λ_ h=>absurd rfl h,λ_=>⟨rfl,by show q.s<W+1;omega⟩⟩
def jW(Q:List R5)(W:Int)(r:R5)(m:Int):R5 × Int × Bool:=
 if(decide (bM r.m m=r.m) || (ja Q ⟨r.id,r.x,r.m,bM r.m m,r.s⟩ && !Q.any yM))=true then(⟨r.id,r.x,bM r.m m,bM r.m m,r.s⟩,W,true)else(⟨r.id,r.x,r.m,bM r.m m,W+1⟩,W+1,false)
theorem VQ.upg{Q:List R5}{W:Int}(v:VQ Q W){i:Nat}{r:R5}{m:Int}(hr:Q[i]? = some r)(hs:¬0<r.s)(hm:cu m=true):VQ (Q.set i (jW Q W r m).1) (jW Q W r m).2.1:=by
 obtain⟨m0,km⟩:=(mL m).1 hm;have R:=v.right r (List.mem_of_getElem? hr);have hs0:r.s=0:=by have:=R.s0;omega
 obtain⟨rm0,rw⟩:=R.hold hs0;obtain⟨_,c1,c2,c3,_⟩:=DL R.km km;have ks:=aaQ R.km km;have before:∀(j:Nat)(q:R5),j<i->Q[j]? = some q->q.m≠0:=λj q hj hq e=>rm0 ((eY.1 v.pair j i q r hj hq hr).ord e).1;unfold jW;by_cases hc:(decide (bM r.m m=r.m) || (ja Q ⟨r.id,r.x,r.m,bM r.m m,r.s⟩ && !Q.any yM))=true
 ·rw[if_pos hc];have hfit:∀o∈Q,o.id≠r.id->o.m≠0->cmp o.m (bM r.m m)=true:=by
   intro o ho h1 h2;rw[Bool.or_eq_true,decide_eq_true_eq,Bool.and_eq_true,kj]at hc;rcases hc with e|⟨h,_⟩
   .rw[e];obtain⟨k,hk⟩:=List.getElem?_of_mem ho;rcases Nat.lt_trichotomy k i with cZ|cZ|cZ
    .exact(eY.1 v.pair k i o r cZ hk hr).cm h2 rm0
    .subst cZ;rw[hr]at hk;cases hk;exact absurd rfl h1
    .rw[uD];exact(eY.1 v.pair i k r o cZ hr hk).cm rm0 h2
   .exact h o ho h1 h2
  refine⟨v.w0,?_,tw v.pair ?_ ?_⟩
  .intro q hq;rcases mem_set hq with rfl|hq
   .exact⟨R.id,ks,ks,R.s0,R.sW,λh=>absurd h hs,λ_=>⟨c3 m0,rfl⟩⟩
   .exact v.right q hq
  .intro j q hj hq;have P:=eY.1 v.pair j i q r hj hq hr;exact⟨P.id,P.x,P.s,λh1 _=>hfit q (List.mem_of_getElem? hq) P.id h1,λe=>absurd e (before j q hj hq)⟩
  .intro j q hj hq;have P:=eY.1 v.pair i j r q hj hr hq;exact⟨P.id,P.x,P.s,λ_ h2=>by rw[uD];exact hfit q (List.mem_of_getElem? hq) (λe=>P.id e.symm) h2,λe=>absurd e (c3 m0)⟩
 .rw[if_neg hc];have v2:=v.mono (W':=W+1) YYZ;rw[Bool.or_eq_true,decide_eq_true_eq]at hc;refine⟨v2.w0,?_,tw v.pair ?_ ?_⟩
  .intro q hq;rcases mem_set hq with rfl|hq
   .refine⟨R.id,R.km,ks,v2.w0,Int.le_refl _,λ_=>?_,λh=>?_⟩
    .cases hcv:kG r.m (bM r.m m)with
     |false=>rfl
     |true=>exact absurd (.inl (RJ c1 hcv)) hc
    .have:=v.w0;have h:W+1=0:=h;omega
   .exact v2.right q hq
  .intro j q hj hq;have P:=eY.1 v.pair j i q r hj hq hr;have:=(v.right q (List.mem_of_getElem? hq)).sW;exact⟨P.id,P.x,λ_=>(λe:q.s=W+1=>by omega),P.cm,λe=>absurd e (before j q hj hq)⟩
  .intro j q hj hq;have P:=eY.1 v.pair i j r q hj hr hq;have:=(v.right q (List.mem_of_getElem? hq)).sW;exact⟨P.id,P.x,λ_=>(λe:W+1=q.s=>by omega),P.cm,λe=>absurd e rm0⟩
def sJ(r:R5)(x:Int):R5:=⟨r.id,x,r.m,r.w,r.s⟩
theorem VQ.hand{Q:List R5}{W:Int}(v:VQ Q W){i:Nat}{r:R5}{x:Int}(hr:Q[i]? = some r)(hx:∀q∈Q,q.id≠r.id->q.x≠x):VQ (Q.set i (sJ r x)) W:=by
 have R:=v.right r (List.mem_of_getElem? hr);refine⟨v.w0,?_,tw v.pair ?_ ?_⟩
 .intro q hq;rcases mem_set hq with rfl|hq
  .exact⟨R.id,R.km,R.kw,R.s0,R.sW,R.wait,R.hold⟩
  .exact v.right q hq
 .intro j q hj hq;have P:=eY.1 v.pair j i q r hj hq hr;exact⟨P.id,hx q (List.mem_of_getElem? hq) P.id,P.s,P.cm,P.ord⟩
 .intro j q hj hq;have P:=eY.1 v.pair i j r q hj hr hq;exact⟨P.id,λe=>hx q (List.mem_of_getElem? hq) (λe=>P.id e.symm) e.symm,P.s,P.cm,P.ord⟩
end Go.Vai

namespace Go.Vai
open Go
variable {β:Type}{fl:β}
def Wa(fl:β)(l c:Value)(z:List Value)(e:TypeId)(h:af)(V:YYY β):β:=
 match l,c with
 | .int _ (.ofNat l),.int _ (.ofNat c)=>match Nat.ble l c,Nat.ble c 1000000 with
  |true,true=>aN fl (bq z c) e false λo=>aG fl o h λb h=>V (bR l c b) h
  |_,_=>fl
 |_,_=>fl
theorem DO(n:Nat)(z:List Value)(e:TypeId)(h:af)(V:YYY β)(hn:n<=1000000)(hl:(bq z n).length<=1000000000000):Wa fl (.int .i64 (n:Int)) (.int .i64 (n:Int)) z e h V=V (.slice (some ⟨h.nx,0,none⟩) n n) ⟨h.nx+1,h.bl.bt h.nx (ah (bq z n) e false),h.lo⟩:=by
 have e1:Nat.ble n n=true:=Nat.ble_eq_true_of_le (Nat.le_refl _);have e2:Nat.ble n 1000000=true:=Nat.ble_eq_true_of_le hn
 show(match Nat.ble n n,Nat.ble n 1000000 with|true,true=>_|_,_=>fl)=_
 rw[e1,e2];simp only;rw[iQ _ _ _ _ hl,dS];rfl
end Go.Vai
end
