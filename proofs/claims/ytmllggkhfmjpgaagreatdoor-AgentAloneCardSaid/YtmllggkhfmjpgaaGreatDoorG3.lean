/-
  PROVED HERE: a part of the proof (VaiG, VaiA, VaiF, Srt, AA0, Plain, PM, Q1, Q2, VaiH).
-/
import Derived.Test.YtmllggkhfmjpgaaGreatDoorG2
set_option linter.unusedVariables false
set_option linter.unusedSimpArgs false
set_option maxRecDepth 100000
noncomputable section
namespace Go.Vai
open Go Go.RowKit
def fS:Option Nat->Int|some i=>i|none=>-1
def HQ(a b:af):Prop:=a=b
theorem O6{α:Type}(L:List α)(F:α->Bool):(decide (0<=fS (L.findIdx? F)))=L.any F:=by
 cases hf:L.findIdx? F with
 |none=>
  rw[List.findIdx?_eq_none_iff]at hf;have:L.any F=false:=by rw[List.any_eq_false];intro x hx;simp[hf x hx]
  rw[this];rfl
 |some i=>
  rw[List.findIdx?_eq_some_iff_getElem]at hf;obtain⟨hi,h1,_⟩:=hf;have:L.any F=true:=List.any_eq_true.2 ⟨_,List.getElem_mem hi,h1⟩;rw[this];exact decide_eq_true (by show(0:Int)<=(i:Int);omega)
theorem lQ{α:Type}(L:List α)(F:α->Bool):(L.findIdx? F=none/\∀x∈L,F x=false)\/∃(i:Nat)(p:α),L.findIdx? F=some i/\L[i]? = some p/\F p=true/\∀(j:Nat)(q:α),j<i->L[j]? = some q->F q=false:=by
 cases hf:L.findIdx? F with
 |none=>
  rw[List.findIdx?_eq_none_iff]at hf;exact .inl ⟨rfl,hf⟩
 |some i=>
  rw[List.findIdx?_eq_some_iff_getElem]at hf;obtain⟨hi,h1,h2⟩:=hf;refine .inr ⟨i,L[i],rfl,List.getElem?_eq_getElem hi,h1,λj q hj hq=>?_⟩;have:=h2 j hj;rw[(List.getElem?_eq_some_iff.1 hq).2]at this;simpa using this
theorem O7{α:Type}{L:List α}{F:α->Bool}{i:Nat}{p:α}(hp:L[i]? = some p)(h1:F p=true)(h2:∀(j:Nat)(q:α),j<i->L[j]? = some q->F q=false):L.findIdx? F=some i:=by
 rw[List.findIdx?_eq_some_iff_getElem];obtain⟨dB,hk2⟩:=List.getElem?_eq_some_iff.1 hp;refine⟨dB,by rw[hk2];exact h1,λj hj=>?_⟩;simpa using h2 j _ hj (List.getElem?_eq_getElem XQ)
theorem O8{α:Type}{L:List α}{F:α->Bool}(h2:∀(j:Nat)(q:α),L[j]? = some q->F q=false):L.findIdx? F=none:=by
 rw[List.findIdx?_eq_none_iff];intro p hp;obtain⟨j,hj⟩:=List.getElem?_of_mem hp;exact h2 j p hj
theorem fW{α:Type}{F:α->Bool}{L:List α}{j:Nat}{p:α}(hp:L[j]? = some p):(L.take (j+1)).filter F=(L.take j).filter F++if F p then[p]else[]:=by
 obtain⟨hj,rfl⟩:=List.getElem?_eq_some_iff.1 hp;rw[List.take_succ_eq_append_getElem hj,List.filter_append];cases h:F L[j]<;>simp[h]
def eW(P:Program)(ti:TypeId)(s:Nat)(a0 a1:Value)(h:af)(V:KQ):Prop:=
 bG False a0 h λv0 h=>
 dD [undef,undef,undef,undef,undef,undef,undef,undef,undef,undef,(Value.int .i64 (0)),undef,(Value.int .i64 (0))] h λl2 h N1=>
 aF False P .lss ti false false (ah l2 12) v0 h λv3 h=>
 aM v3 (
 aI False s a0 (ah l2 12) h λv4 h=>
 aH False s v4 h λv5 h=>
 fL P a1 [v5] h λv6 h=>
 aM v6 (
 V (ah l2 12) h) (
 aF False P .add ti true false (ah l2 12) (Value.int .i64 (1)) h λv7 h=>
 N1 [v3,(ah l2 12),(ah l2 12),a1,a0,(ah l2 12),v4,v5,v6,(ah l2 9),(ah l2 10),v7,v7] h)) (
 V (Value.int .i64 (-1)) h)
def jj(P:Program)(ti:TypeId)(g:FuncId)(a0 a1:Value)(h:af)(V:KQ):Prop:=
 aj P g [a0,a1] h λv0 h=>
 aF False P .geq ti true false v0 (Value.int .i64 (0)) h λv1 h=>
 V v1 h
def wY(P:Program)(tS e s:Nat)(z:List Value)(a0:Value)(h:af)(V:KQ):Prop:=
 aF False P .eql tS true false a0 (Value.slice none 0 0) h λv0 h=>
 aM v0 (
 V (Value.slice none 0 0) h) (
 bB False [] [] (a_ z 0) λcs3=>aK False cs3 e false λo1=>aD False o1 h λb2 h=>
 bO False e s z false (bU 0 0 b2) a0 h λv4 h=>
 V v4 h)
def eX(P:Program)(ti:TypeId)(g:FuncId)(e s:Nat)(z:List Value)(a0 a1:Value)(h:af)(V:KQ):Prop:=
 aj P g [a0,a1] h λv0 h=>
 aF False P .eql ti true false v0 (Value.int .i64 (-1)) h λv1 h=>
 aM v1 (
 V a0 h) (
 aF False P .add ti true false v0 (Value.int .i64 (1)) h λv2 h=>
 dD [undef,undef,undef,undef,undef,undef,undef,undef,undef,undef,undef,undef,undef,undef,undef,undef,undef,undef,undef,v0,undef,undef,v2] h λl4 h N3=>
 bG False a0 h λv5 h=>
 aF False P .lss ti false false (ah l4 22) v5 h λv6 h=>
 aM v6 (
 dz (λN7=>
 aI False s a0 (ah l4 22) h λv9 h=>
 aH False s v9 h λv10 h=>
 aK False z e false λo11=>aD False o11 h λwZ h=>
 aS False s (aq wZ) v10 h λbI h=>
 aH False s (aq wZ) h λbK h=>
 fL P a1 [bK] h λbM h=>
 jI False .not bM h λcq h=>
 aM cq (
 aH False s (aq wZ) h λv17 h=>
 aI False s a0 (ah l4 19) h λcu h=>
 aS False s cu v17 h λbR h=>
 aF False P .add ti true false (ah l4 19) (Value.int .i64 (1)) h λv20 h=>
 N7 [a0,(ah l4 22),v9,v10,(aq wZ),a1,bK,bM,cq,a0,(ah l4 19),v17,cu,(ah l4 19),v20,v20] h) (
 N7 [a0,(ah l4 22),v9,v10,(aq wZ),a1,bK,bM,cq,(ah l4 13),(ah l4 14),(ah l4 15),(ah l4 16),(ah l4 17),(ah l4 18),(ah l4 19)] h)) λl8 h=>
 aF False P .add ti true false (ah l4 22) (Value.int .i64 (1)) h λv21 h=>
 N3 [(ah l4 22),a0,v5,v6,(ah l8 0),(ah l8 1),(ah l8 2),(ah l8 3),(ah l8 4),(ah l8 5),(ah l8 6),(ah l8 7),(ah l8 8),(ah l8 9),(ah l8 10),(ah l8 11),(ah l8 12),(ah l8 13),(ah l8 14),(ah l8 15),(ah l4 22),v21,v21] h) (
 sliceB False e s a0 (some (ah l4 19)) none none h λv22 h=>
 kj False z v22 h λv23 h=>
 sliceB False e s a0 none (some (ah l4 19)) none h λv24 h=>
 V v24 h))
section
variable {P:Program}{α:Type}{enc:α->List Value}{s:Nat}{ti:TypeId}{f g:FuncId}
def Cz(enc:α->List Value)(p:α):Value:=.agg ⟨enc p⟩
theorem lR(mix:P.follows .mixedOrders=true)(he:∀a:α,(enc a).length=s)(hb:∀a0 a1 h V,aT P f [a0,a1] h V=eW P ti s a0 a1 h V)(L:List α)(F:α->Bool)(h:af)(v fv:Value)(V:KQ)(hv:Sl enc h v L)(hlen:L.length<=1000000)(hF:∀p,p∈L->∀(h1:af)(κ1:Value->af->Prop),Le h h1->(∀h2,Le h1 h2->κ1 (.bool (F p)) h2)->fL P fv [Cz enc p] h1 κ1)(hk:∀h',Le h h'->V (.int .i64 (fS (L.findIdx? F))) h'):aj P f [v,fv] h V:=by
 refine ay mix ?_;rw[hb];unfold eW;simp only[hv.len];refine⟨λn l h1=>Le h h1/\∃k:Nat,ah l 12=.int .i64 (k:Int)/\k<=L.length/\n=L.length-k/\∀(j:Nat) p,j<k->L[j]? = some p->F p=false,⟨_,Le.refl _,0,rfl,Nat.zero_le _,rfl,XQ⟩,?_⟩;rintro n l h1 ⟨hle,k,hs,hkl,rfl,hno⟩;by_cases hlt:k<L.length
 .obtain⟨p,hp⟩:∃p,L[k]? = some p:=⟨_,List.getElem?_eq_getElem hlt⟩
  obtain⟨b,o,hb,mD,mh,_⟩:=(hv.le hle).ld he k hp;simp(disch:=try exact Y)only[Wz,hs,mD,mh];refine hF p (List.mem_of_getElem? hp) h1 _ hle ?_;intro h2 hle2;cases hc:F p with
  |true=>
   simp(disch:=try exact Y)only[Wz,hs];have hk2:=hk h2 (hle.trans hle2);rw[O7 hp hc hno]at hk2;exact hk2
  |false=>
   simp(disch:=try exact Y)only[Wz,hs];refine⟨_,XQ,hle.trans hle2,k+1,rfl,XQ,rfl,λj q hj hq=>?_⟩;rcases Nat.lt_or_ge j k with h4|h4
   .exact hno j q h4 hq
   .obtain rfl:j=k:=by omega
    rw[hp]at hq;cases hq;exact hc
 .simp(disch:=try exact Y)only[Wz,hs];have hk2:=hk h1 hle;rw[O8 λj q hq=>hno j q (by have:=(List.getElem?_eq_some_iff.1 hq).1;omega) hq]at hk2;exact hk2
theorem rz(mix:P.follows .mixedOrders=true)(he:∀a:α,(enc a).length=s)(hg:∀a0 a1 h V,aT P g [a0,a1] h V=eW P ti s a0 a1 h V)(hb:∀a0 a1 h V,aT P f [a0,a1] h V=jj P ti g a0 a1 h V)(L:List α)(F:α->Bool)(h:af)(v fv:Value)(V:KQ)(hv:Sl enc h v L)(hlen:L.length<=1000000)(hF:∀p,p∈L->∀(h1:af)(κ1:Value->af->Prop),Le h h1->(∀h2,Le h1 h2->κ1 (.bool (F p)) h2)->fL P fv [Cz enc p] h1 κ1)(hk:∀h',Le h h'->V (.bool (L.any F)) h'):aj P f [v,fv] h V:=by
 refine ay mix ?_;rw[hb];unfold jj;refine lR mix he hg L F h v fv _ hv hlen hF ?_;intro h' hl;have:=hk h' hl;rw[<-O6]at this;by_cases h0:fS (L.findIdx? F)<0
 .simp(disch:=try exact Y)only[Wz]
  rwa [aZ XQ]at this
 .simp(disch:=try exact Y)only[Wz]
  rwa [bx XQ]at this
def ED(P:Program)(tS:TypeId):Prop:=(∀(h:af)(n c n' c':Nat),mQ P h 100 tS (.slice none n c) (.slice none n' c')=some true)/\∀(h:af)(a:Addr)(n c n' c':Nat),mQ P h 100 tS (.slice (some a) n c) (.slice none n' c')=some false
theorem O9{β:Type}{fl:β}{tS:TypeId}(he:ED P tS)(cn:Bool)(n c n' c':Nat)(h:af)(V:UV β):aF fl P .eql tS cn false (.slice none n c) (.slice none n' c') h V=V (.bool true) h:=by
 simp only[aF,he.1,bX]
theorem O_{β:Type}{fl:β}{tS:TypeId}(he:ED P tS)(cn:Bool)(a:Addr)(n c n' c':Nat)(h:af)(V:UV β):aF fl P .eql tS cn false (.slice (some a) n c) (.slice none n' c') h V=V (.bool false) h:=by
 simp only[aF,he.2,bX]
theorem Pb(mix:P.follows .mixedOrders=true)(he:∀a:α,(enc a).length=s)(hone:∀a:α,(enc a).all dI=true)(hs0:0<s)(hs1:s<=100){tS e:TypeId}{z:List Value}(hq:ED P tS)(hb:∀a0 h V,aT P f [a0] h V=wY P tS e s z a0 h V)(L:List α)(h:af)(v:Value)(V:KQ)(hv:Sl enc h v L)(hlen:L.length<=1000000)(hlo:h.lo<=h.nx)(hk:∀v' h',ia enc h e h' v' L->Le h h'->V v' h'):aj P f [v] h V:=by
 refine ay mix ?_;rw[hb];unfold wY;have hv0:=hv;obtain⟨x,cap,rfl,hx⟩:=hv;cases x with
 |none=>
  simp(disch:=try exact Y)only[Wz,O9 hq];by_cases hL:L=[]
  .exact hk _ _ (.inl ⟨hL,.inl rfl⟩) (Le.refl _)
  .obtain⟨b,o,e,_⟩:=hx hL;cases e
 |some a=>
  simp(disch:=try exact Y)only[Wz,O_ hq];have hle:=(Le.refl h).new (ai [] e false);refine iO (enc:=enc) (a:=h) (L:=[]) (M:=L) he hone hs0 hs1 (.inl ⟨rfl,.inr ⟨_,_,rfl⟩⟩) (hv0.le hle) hle (by simpa using hlen) (by show h.lo<=h.nx+1;omega) _ ?_;intro v' h' ho hl _ _;exact hk v' h' (by simpa using ho) hl
theorem rV(he:∀a:α,(enc a).length=s)(L:List α)(i:Nat)(p:α)(hi:i<L.length):over (L.flatMap enc) (i*s) (enc p)=(L.set i p).flatMap enc:=by
 have e:L.set i p=L.take i++[p]++L.drop (i+1):=by
  rw[List.set_eq_take_append_cons_drop,if_pos hi];simp
 rw[e];simp only[over,he,List.flatMap_append,List.flatMap_cons,List.flatMap_nil,List.append_nil];rw[oF he,show i*s+s=(i+1)*s by rw[Nat.succ_mul],oG he]
theorem Kl{z:List Value}(hz:z.length=s)(n:Nat):(a_ z n).length=n*s:=by
 induction n with
 |zero=>simp[a_]
 |succ n ih=>simp only[a_,List.length_append,ih,hz];rw[Nat.succ_mul];omega
theorem Km{z:List Value}(hz:z.all dI=true)(n:Nat):(a_ z n).all dI=true:=by
 induction n with
 |zero=>rfl
 |succ n ih=>simp only[a_,List.all_append,ih,hz];rfl
theorem stG(he:∀a:α,(enc a).length=s)(hone:∀a:α,(enc a).all dI=true)(p:α){vs:List Value}{e:TypeId}{op:Bool}{b o:Nat}{h:af}{V:af->Prop}(h3:o+s<=vs.length)(hlo:h.lo<=b):S_ False (some (ai vs e op)) s b o (enc p) h V=V ⟨h.nx,h.bl.bq b (ai (over vs o (enc p)) e op),h.lo⟩:=uS _ _ _ _ _ _ _ _ _ (he p) (hone p) h3 hlo
def vS(e:TypeId)(h:af)(v:Value):Prop:=∀b o n c,v=.slice (some ⟨b,o,none⟩) n c->n≠0->b<h.nx/\∃vs op,h.bl.get b=some (ai vs e op)
theorem vS.le{e:TypeId}{h h':af}{v:Value}(t:vS e h v)(l:Le h h'):vS e h' v:=λb o n c hv hn=>by
 obtain⟨h1,vs,op,h2⟩:=t b o n c hv hn;exact⟨Nat.lt_of_lt_of_le h1 l.nx,vs,op,(l.get b h1).trans h2⟩
theorem vS.own{a h:af}{e:TypeId}{v:Value}{L:List α}(ho:ia enc a e h v L):vS e h v:=by
 intro b o n c hv hn;rcases ho with⟨_,rfl|⟨b',o',rfl⟩⟩|⟨b',rfl,h1,h2,h3,h4⟩
 .cases hv
 .cases hv;exact absurd rfl hn
 .cases hv;exact⟨h2,_,_,h4⟩
theorem vS.put{e:TypeId}{h:af}{v:Value}(t:vS e h v){d:Nat}(hd:∀vs op,h.bl.get d≠some (ai vs e op))(o':bL):vS e ⟨h.nx,h.bl.bq d o',h.lo⟩ v:=by
 intro b o n c hv hn;obtain⟨h1,vs,op,h2⟩:=t b o n c hv hn;refine⟨h1,vs,op,(T.ax _ _ ?_).trans h2⟩;rintro rfl;exact hd vs op h2
theorem Sl.put{e:TypeId}{h:af}{v:Value}{L:List α}(hs:Sl enc h v L)(t:vS e h v){d:Nat}(hd:∀vs op,h.bl.get d≠some (ai vs e op))(o':bL):Sl enc ⟨h.nx,h.bl.bq d o',h.lo⟩ v L:=by
 obtain⟨x,cap,rfl,h2⟩:=hs;refine⟨x,cap,rfl,λhn=>?_⟩;obtain⟨b,o,rfl,h3,h4⟩:=h2 hn;obtain⟨h1,vs,op,h5⟩:=t b o _ cap rfl (by intro h0;exact hn (List.eq_nil_of_length_eq_zero h0));refine⟨b,o,rfl,h3,?_⟩;have:(h.bl.bq d o').get b=h.bl.get b:=T.ax _ _ (by rintro rfl;exact hd vs op h5)
 show Has ((h.bl.bq d o').get b) _ _
 rw[this];exact h4
theorem yo(mix:P.follows .mixedOrders=true)(he:∀a:α,(enc a).length=s)(hone:∀a:α,(enc a).all dI=true)(hs0:0<s){e:TypeId}{z:List Value}(hz:z.length=s)(hz1:z.all dI=true)(hs1:s<=1000)(hg:∀a0 a1 h V,aT P g [a0,a1] h V=eW P ti s a0 a1 h V)(hb:∀a0 a1 h V,aT P f [a0,a1] h V=eX P ti g e s z a0 a1 h V)(a h:af)(L:List α)(F:α->Bool)(v fv:Value)(V:KQ)(hle:Le a h)(ho:ia enc a e h v L)(hlen:L.length<=100000)(hlo:a.lo<=a.nx)(hF:∀p,∀(h1:af)(κ1:Value->af->Prop),Le a h1->(h.nx<=h1.nx/\∀c,c<h.nx->h.bl.get c≠some (ai (L.flatMap enc) e true)->h1.bl.get c=h.bl.get c)->(∀h2,Le h1 h2->κ1 (.bool (F p)) h2)->fL P fv [Cz enc p] h1 κ1)(hk:∀v' h',Sl enc h' v' (L.filter λp=>!F p)->Cut e s h' v' (L.filter λp=>!F p).length->Le a h'->(h.nx<=h'.nx/\∀c,c<h.nx->h.bl.get c≠some (ai (L.flatMap enc) e true)->h'.bl.get c=h.bl.get c)->vS e h' v'->V v' h'):aj P f [v,fv] h V:=by
 refine ay mix ?_;rw[hb];unfold eX;refine lR mix he hg L F h v fv _ ho.sl XQ (λp _ h1 κ1 hl dB=>hF p h1 κ1 (hle.trans hl) ⟨hl.nx,λc hc _=>hl.get c hc⟩ dB) ?_;intro h1 hle1;have Kn:=hle.trans hle1;have n1:=Kn.nx;have l1:=Kn.lo;rcases lQ L F with⟨e1,e2⟩|⟨i0,p0,e1,e2,e3,e4⟩
 .simp only[e1,fS];simp(disch:=try exact Y)only[Wz];have:(L.filter λp=>!F p)=L:=List.filter_eq_self.2 λp hp=>by simp[e2 p hp]
  rw[this]at hk;exact hk v h1 (ho.sl.le hle1) ((Cut.own he ho).le hle1) Kn ⟨hle1.nx,λc hc _=>hle1.get c hc⟩ (vS.own (ho.le hle1))
 ·simp only[e1,fS];have yp:i0<L.length:=(List.getElem?_eq_some_iff.1 e2).1;have CA:(L.take i0).filter (λp=>!F p)=L.take i0:=List.filter_eq_self.2 λp hp=>by
   obtain⟨j,hj⟩:=List.getElem?_of_mem hp;have hj':j<i0:=by have:=(List.getElem?_eq_some_iff.1 hj).1;simp at this;omega
   rw[List.getElem?_take_of_lt hj']at hj;simp[e4 j p hj' hj]
  rcases ho with⟨rfl,_⟩|⟨b,rfl,b1,XB,b30,Tv⟩
  .simp at yp
  have m1:=hle1.nx;have b2:b<h1.nx:=by omega
  have b3:h1.lo<=b:=by rw[hle1.lo];exact b30
  have b4:h1.bl.get b=some (ai (L.flatMap enc) e true):=(hle1.get b XB).trans Tv;simp(disch:=try exact Y)only[Wz]
  refine ⟨λn l h2=>Le a h2/\b<h2.nx/\(h.nx<=h2.nx/\∀c,c<h.nx->c≠b->h2.bl.get c=h.bl.get c)/\∃(j i:Nat)(K:List α),ah l 22=.int .i64 (j:Int)/\ah l 19=.int .i64 (i:Int)/\j<=L.length/\i<j/\n=L.length-j/\K.length=L.length/\
    K.take i=(L.take j).filter (λp=>!F p)/\K.drop j=L.drop j/\h2.bl.get b=some (ai (K.flatMap enc) e true),
   ⟨_,Kn,b2,⟨m1,λc hc _=>hle1.get c hc⟩,i0+1,i0,L,rfl,rfl,XQ,XQ,rfl,rfl,?_,rfl,b4⟩,?_⟩
  .rw[fW e2,CA,e3];simp
  rintro n l h2 ⟨hle2,hb2,hfr,j,i,K,s1,s2,hj,hij,rfl,hK,Pc,V6,hg2⟩;have n2:=hle2.nx;have l2:=hle2.lo;have hfl:=bz (enc:=enc) he K;by_cases hlt:j<L.length
  .obtain⟨p,hp⟩:∃p,L[j]? = some p:=⟨_,List.getElem?_eq_getElem hlt⟩
   have hpK:K[j]? = some p:=by
    have:(K.drop j)[0]? = (L.drop j)[0]?:=by rw[V6]
    simpa[hp]using this
   have XC:Sl enc h2 (.slice (some ⟨b,0,none⟩) L.length aW) K:=⟨_,aW,by rw[hK],λ_=>⟨b,0,rfl,hb2,by rw[hg2];exact Has.all⟩⟩
   obtain⟨b',o',hb',mD,mh,_⟩:=XC.ld he j hpK;have bat:=mD Nat 0 h2 λv _=>match v with | .pointer (some a)=>a.block|_=>0
   rw[bt _ _ _ _ _ _ _ _ hlt]at bat;have Ta:b=b':=bat;subst Ta;have hep:=he p;have hop:=hone p;have Su:(enc p).take s=enc p:=by rw[<-hep,List.take_length]
   have Xe:=pY z (enc p) XQ;simp(disch:=try exact Y)only[Wz,s1,s2,mD,mh];refine⟨λl h'=>Le a h'/\b<h'.nx/\(h.nx<=h'.nx/\∀c,c<h.nx->c≠b->h'.bl.get c=h.bl.get c)/\∃(i':Nat)(K':List α),ah l 15=.int .i64 (i':Int)/\i'<j+1/\K'.length=L.length/\
    K'.take i'=(L.take (j+1)).filter (λp=>!F p)/\K'.drop (j+1)=L.drop (j+1)/\h'.bl.get b=some (ai (K'.flatMap enc) e true),?_,?_⟩
   ·simp(disch:=try exact Y)only[Wz,s1,s2,mD,mh,stG he hone p,Su,Xe];have XD:=hle2.new (ai (enc p) e false);refine hF p _ _ XD ⟨by have:=hfr.1;show h.nx<=h2.nx+1;omega,λc hc hne=>(T.ax _ _ (by have:=hfr.1;omega)).trans (hfr.2 c hc (λe=>hne (by rw[e];exact Tv)))⟩ ?_;intro h3 bJ;have n3:=bJ.nx;have l3:=bJ.lo;dsimp only at n3 l3;have g3:h3.bl.get h2.nx=some (ai (enc p) e false):=(bJ.get h2.nx (Nat.lt_succ_self _)).trans (T.au _ _ _);have XE:h3.bl.get b=some (ai (K.flatMap enc) e true):=by
     rw[bJ.get b (by show b<h2.nx+1;omega)]
     show(h2.bl.bq h2.nx _).get b=_
     rw[T.ax _ _ XQ];exact hg2
    have jY:=XD.trans bJ;have yq:h.nx<=h3.nx/\∀c,c<h.nx->c≠b->h3.bl.get c=h.bl.get c:=by
     have q0:=hfr.1;refine⟨XQ,λc hc hne=>?_⟩;have e1:(h2.bl.bq h2.nx (ai (enc p) e false)).get c=h2.bl.get c:=T.ax _ _ XQ;exact(bJ.get c (by show c<h2.nx+1;omega)).trans (e1.trans (hfr.2 c hc hne))
    cases hc:F p with
    |true=>
     simp(disch:=try exact Y)only[Wz,s2];exact⟨jY,XQ,yq,i,K,rfl,XQ,hK,by rw[fW hp,hc];simpa using Pc,by rw[<-List.drop_drop,V6,List.drop_drop],XE⟩
    |false=>
     have CB:=rV he K i p XQ;have hbd:i*s+s<=(K.flatMap enc).length:=by rw[hfl,<-Nat.succ_mul];exact Nat.mul_le_mul_right _ XQ
     simp(disch:=try exact Y)only[Wz,s2,g3,XE,bt,stG he hone p,Su,CB];refine⟨jY.set b1 _,XQ,⟨yq.1,λc hc hne=>(T.ax _ _ (λe=>hne e.symm)).trans (yq.2 c hc hne)⟩,i+1,K.set i p,rfl,XQ,by simpa using hK,?_,?_,rfl⟩
     .rw[fW hp,hc,<-Pc];have hiK:i<K.length:=by omega
      rw[List.take_succ_eq_append_getElem (by simpa using hiK)];simp[List.take_set_of_le]
     .rw[List.drop_set_of_lt XQ,<-List.drop_drop,V6,List.drop_drop]
   .rintro l8 h3 ⟨bJ,hb3,yq,i',K',s3,hi',hK',XG,XH,hg3⟩;simp(disch:=try exact Y)only[Wz,s1,s3];exact⟨_,XQ,bJ,hb3,yq,j+1,i',K',rfl,rfl,XQ,hi',rfl,hK',XG,XH,hg3⟩
  .have hjL:j=L.length:=by omega
   subst hjL;rw[List.take_length]at Pc;have r1:=Kl hz (L.length-i);have r2:=Km hz1 (L.length-i);have hbd:i*s+(L.length-i)*s=L.length*s:=by rw[<-Nat.add_mul];congr 1;omega
   simp(disch:=try exact Y)only[Wz,s1,s2,Iq (n:=L.length) (i:=i) hs0 hg2 (by rw[hfl,hK]) XQ];rw[vR hg2 XQ (by rw[r1,hfl,hK];omega) r2 XQ];have Pd:(over (K.flatMap enc) (i*s) (a_ z (L.length-i))).length=L.length*s:=by
    rw[mG (by rw[r1,hfl,hK];omega),hfl,hK]
   rw[yl (n:=L.length) (i:=i) (vs:=over (K.flatMap enc) (i*s) (a_ z (L.length-i))) hs0 (T.au _ _ _) Pd XQ XQ];have EE:(L.filter λp=>!F p).length=i:=by rw[<-Pc];simp;omega
   refine hk _ _ ⟨_,aW,by rw[EE],λ_=>⟨b,0,rfl,hb2,?_⟩⟩ (.inr (.inr (.inr ⟨b,_,L.length,by rw[EE],hb2,T.au _ _ _,Pd,XQ⟩))) (hle2.set b1 _) ⟨hfr.1,λc hc hne=>(T.ax _ _ (λe=>hne (by rw[<-e];exact Tv))).trans (hfr.2 c hc (λe=>hne (by rw[e];exact Tv)))⟩ ?_
   rotate_left
   .intro b' o' n' c' vD _;cases vD;exact⟨hb2,_,_,T.au _ _ _⟩
   have hh:Has (some (ai (over (K.flatMap enc) (i*s) (a_ z (L.length-i))) e true)) 0 (((over (K.flatMap enc) (i*s) (a_ z (L.length-i))).drop 0).take (i*s)):=Has.cells (by rw[Pd];exact Nat.le_trans XQ (Nat.le_refl _));have e9:((over (K.flatMap enc) (i*s) (a_ z (L.length-i))).drop 0).take (i*s)=(L.filter λp=>!F p).flatMap enc:=by
    have anx:i*s<=K.length*s:=Nat.mul_le_mul_right _ XQ;rw[<-Pc,List.drop_zero,over,List.append_assoc,List.take_append_of_le_length (by rw[List.length_take,hfl];omega),List.take_take,Nat.min_self,oF he]
   rw[e9]at hh
   show Has ((h2.bl.bq b _).get b) 0 _
   rw[T.au];exact hh
end
end Go.Vai

namespace Go.Vai
open Go
section
variable {α:Type}{s:Nat}{enc:α->List Value}
set_option maxRecDepth 20000 in
theorem jC{a h:af}{e:TypeId}{z:List Value}{v x:Value}{L M:List α}(he:∀a:α,(enc a).length=s)(hone:∀a:α,(enc a).all dI=true)(hs0:0<s)(hs1:s<=100)(ho:ia enc a e h v L)(hx:Sl enc h x M)(hle:Le a h)(hb:L.length+M.length<=1000000)(hal:h.lo<=h.nx)(V:KQ)(hk:∀v' h',ia enc a e h' v' (L++M)->Le a h'->h'.nx<=h.nx+1->h.nx<=h'.nx->h'.lo=h.lo->(∀b,b<h.nx->h.bl.get b≠some (ai (L.flatMap enc) e true)->h'.bl.get b=h.bl.get b)->V v' h'):bO False e s z false v x h V:=by
 by_cases hM:M=[]
 .subst hM;rw[append_nil hx (by rcases ho with⟨rfl,rfl|⟨b,o,rfl⟩⟩|⟨b,rfl,_⟩<;>exact⟨_,_,_,rfl⟩)];exact hk v h (by simpa using ho) hle (Nat.le_succ _) (Nat.le_refl _) rfl (λ_ _ _=>rfl)
 .obtain⟨m,hm⟩:∃m,M.length=m+1:=⟨M.length-1,by have:=List.length_pos_iff.2 hM;omega⟩
  have hfl:=bz (enc:=enc) he;have jB:=hx.first (β:=Prop) (fl:=False) he;obtain⟨y,cap,rfl,h2⟩:=hx;have hml:∀K:List α,K.length<=1000000->(K.flatMap enc).length<=1000000000000:=λK hK=>by
   rw[hfl];have:=Nat.mul_le_mul hK hs1;omega
  have fresh:∀(hh:af)(ws:List Value),ws=(L++M).flatMap enc->Le a hh->hh.nx=h.nx->hh.lo=h.lo->(∀b,b<h.nx->h.bl.get b≠some (ai (L.flatMap enc) e true)->hh.bl.get b=h.bl.get b)->dw False ws e true hh λb h'=>V (.slice (some ⟨b,0,none⟩) (L.length+M.length) aW) h':=by
   intro hh ws hw VH hnx hlo hgt;subst hw;unfold dw;rw[iX _ _ _ _ (hml _ (by simp;omega)),dN];refine hk _ _ (.inr ⟨hh.nx,by simp,VH.nx,Nat.lt_succ_self _,by show hh.lo<=_;omega,T.au _ _ _⟩) (VH.new _) (by show hh.nx+1<=_;omega) (by show h.nx<=hh.nx+1;omega) hlo (λb hb hn=>(T.ax _ _ XQ).trans (hgt b hb hn))
  rcases ho with⟨rfl,hv⟩|⟨b,rfl,h3,h4,h5,h6⟩
  .have hF:=fresh h (M.flatMap enc) (by simp) hle rfl rfl (λ_ _ _=>rfl);simp only[List.length_nil,Nat.zero_add]at hF;rcases hv with rfl|⟨b,o,rfl⟩
   .unfold bO mq;simp only;rw[jB];simp only[hm,bY];rw[show Nat.ble (Nat.add 0 (m+1)) 1000000000=true from Nat.ble_eq_true_of_le (by show 0+(m+1)<=_;omega)];rw[hm]at hF;have e1:Nat.add 0 (m+1)=m+1:=by show 0+(m+1)=_;omega
    rw[e1];exact hF
   .unfold bO mq;simp only;rw[jB];simp only[hm,bY];have e1:Nat.add 0 (m+1)=m+1:=by show 0+(m+1)=_;omega
    rw[e1,show Nat.ble (m+1) 1000000000=true from Nat.ble_eq_true_of_le XQ];rw[hm]at hF
    show dW False h s 0 _ _
    rw[jX _ _ _ _ _ (by simp)];exact hF
  .unfold bO mq;simp only;rw[jB];simp only[hm,bY];have e1:Nat.add L.length (m+1)=L.length+(m+1):=rfl;rw[e1,show Nat.ble (L.length+(m+1)) 1000000000=true from Nat.ble_eq_true_of_le XQ];have e2:Nat.beq aW fZ=false:=by decide
   have e3:Nat.beq aW aW=true:=Nat.beq_refl _;simp only[e2,e3,h6];have e4:Nat.ble (Nat.add 0 (Nat.mul (L.length+(m+1)) s)) (L.flatMap enc).length=false:=by
    rw[hfl];cases Ta:Nat.ble (Nat.add 0 (Nat.mul (L.length+(m+1)) s)) (L.length*s)with
    |false=>rfl
    |true=>
     have h7:0+(L.length+(m+1))*s<=L.length*s:=Nat.le_of_ble_eq_true Ta;rw[Nat.add_mul,Nat.succ_mul]at h7;omega
   have e5:(M.flatMap enc).all dI=true:=by
    rw[List.all_flatMap];simp only[List.all_eq_true];intro x _;exact List.all_eq_true.1 (hone x)
   simp only[ai,Nat.beq_refl,e4,e5,Bool.and_self];have hh:Has (h.bl.get b) 0 (L.flatMap enc):=by rw[h6];exact Has.all
   rw[jA hh s L.length _ _ _ (hfl L).symm,cg _ _ _ _ h5];have hF:=fresh ⟨h.nx,h.bl.bq b (.dead (L.flatMap enc).length e),h.lo⟩ (L.flatMap enc++M.flatMap enc) (by simp) (hle.set h3 _) rfl rfl (λb' _ hn=>T.ax _ _ (λe=>hn (by rw[<-e];exact h6)));rw[hm]at hF;exact hF
end
theorem bC{vs ws:List Value}{e e':TypeId}:(some (ai vs e false):Option bL)≠some (ai ws e' true):=by
 intro h;unfold ai at h;simp only[Option.some.injEq,bL.cells.injEq]at h;exact absurd h.2.2.2 J0
theorem bE{vs ws:List Value}{e e':TypeId}{p p':Bool}(hn:e≠e'):(some (ai vs e p):Option bL)≠some (ai ws e' p'):=by
 intro h;unfold ai at h;simp only[Option.some.injEq,bL.cells.injEq]at h;exact hn h.2.2.1
theorem bV{es:List MapEntry}{c:Nat}{ws:List Value}{e:TypeId}{p:Bool}:(some (.map es c):Option bL)≠some (ai ws e p):=by
 intro h;unfold ai at h;cases h
end Go.Vai

namespace Go.Vai
open Go
section
variable {α:Type}{s:Nat}{enc:α->List Value}
theorem Pe(A E C ws:List Value)(j:Nat)(h:j+ws.length<=E.length):over (A++E++C) (A.length+j) ws=A++over E j ws++C:=by
 unfold over;have e1:(A++E++C).take (A.length+j)=A++E.take j:=by
  rw[List.append_assoc,List.take_append,List.take_of_length_le XQ,show A.length+j-A.length=j by omega,List.take_append_of_le_length XQ]
 have e2:(A++E++C).drop (A.length+j+ws.length)=E.drop (j+ws.length)++C:=by
  rw[List.append_assoc,List.drop_append,List.drop_of_length_le XQ,List.nil_append,show A.length+j+ws.length-A.length=j+ws.length by omega,List.drop_append_of_le_length h]
 rw[e1,e2];simp only[List.append_assoc]
theorem gX(he:∀a:α,(enc a).length=s){K:List α}{i j:Nat}{p p':α}{ws:List Value}(hp:K[i]? = some p)(hj:j+ws.length<=s)(hw:over (enc p) j ws=enc p'):over (K.flatMap enc) (i*s+j) ws=(K.set i p').flatMap enc:=by
 obtain⟨hi,rfl⟩:=List.getElem?_eq_some_iff.1 hp;have e1:K.flatMap enc=(K.take i).flatMap enc++enc K[i]++(K.drop (i+1)).flatMap enc:=by
  have e0:K=K.take i++(K[i]::K.drop (i+1)):=by rw[List.getElem_cons_drop,List.take_append_drop]
  have:=congrArg (List.flatMap enc) e0;rw[List.flatMap_append,List.flatMap_cons]at this;rw[List.append_assoc];exact this
 have e2:(K.set i p').flatMap enc=(K.take i).flatMap enc++enc p'++(K.drop (i+1)).flatMap enc:=by
  rw[List.set_eq_take_append_cons_drop,if_pos hi];simp[List.flatMap_append]
 have hl:((K.take i).flatMap enc).length=i*s:=by rw[bz he,List.length_take,Nat.min_eq_left XQ]
 rw[e1,e2,<-hl,Pe _ _ _ _ _ (by rw[he];exact hj),hw]
theorem jD(he:∀a:α,(enc a).length=s){K:List α}{i j:Nat}{p:α}(hp:K[i]? = some p)(hj:j<s):(K.flatMap enc)[i*s+j]? = (enc p)[j]?:=by
 obtain⟨hi,rfl⟩:=List.getElem?_eq_some_iff.1 hp;have:=wX he K i hi;have e:((((K.flatMap enc).drop (i*s)).take s)[j]?)=(enc K[i])[j]?:=by rw[this]
 rw[List.getElem?_take_of_lt hj,List.getElem?_drop]at e;exact e
end
end Go.Vai

namespace Go.Vai
open Go
structure Iu(bl:Nat)(h h':af):Prop where
 nx:h.nx<=h'.nx
 lo:h'.lo=h.lo
 get:∀b,b<h.nx->b≠bl->h'.bl.get b=h.bl.get b
theorem Iu.of_le{bl:Nat}{h h':af}(l:Le h h'):Iu bl h h':=⟨l.nx,l.lo,λb hb _=>l.get b hb⟩
theorem Iu.set{bl:Nat}{h h':af}(l:Le h h')(o:bL):Iu bl h ⟨h'.nx,h'.bl.bq bl o,h'.lo⟩:=
 ⟨l.nx,l.lo,λb hb hn=>(T.ax _ _ (Ne.symm hn)).trans (l.get b hb)⟩
theorem Iu.trans{b:Nat}{h1 h2 h3:af}(l:Iu b h1 h2)(k:Iu b h2 h3):Iu b h1 h3:=
 ⟨Nat.le_trans l.nx k.nx,k.lo.trans l.lo,λc hc hn=>(k.get c (Nat.lt_of_lt_of_le hc l.nx) hn).trans (l.get c hc hn)⟩
section
variable {α:Type}{s:Nat}{enc:α->List Value}
theorem rdE(he:∀a:α,(enc a).length=s){h:af}{b:Nat}{D:List α}{e:TypeId}{op:Bool}(hg:h.bl.get b=some (ai (D.flatMap enc) e op)){i:Nat}{p:α}(hp:D[i]? = some p)(β:Type)(fl:β)(V:List Value->β):wW fl (h.bl.get b) (i*s) s V=V (enc p):=by
 obtain⟨hi,rfl⟩:=List.getElem?_eq_some_iff.1 hp;rw[hg];have h1:Has (some (ai (D.flatMap enc) e op)) 0 (D.flatMap enc):=Has.all;have hl:=bz (enc:=enc) he D;have h3:i*s+s<=D.length*s:=by rw[<-Nat.succ_mul];exact Nat.mul_le_mul_right s hi
 have h2:=h1.sub (i*s) s XQ;rw[Nat.zero_add,wX he D i hi]at h2;exact oD h2 s V (he _).symm
theorem EF(he:∀a:α,(enc a).length=s){D:List α}{i:Nat}{p p':α}(hp:D[i]? = some p):over (D.flatMap enc) (i*s) (enc p')=(D.set i p').flatMap enc:=by
 have h1:=he p;have h2:=he p';have:=gX (j:=0) (ws:=enc p') he hp XQ (show over (enc p) 0 (enc p')=enc p' by unfold over;simp[h1,h2]);simpa using this
variable (lt:α->α->Prop)
variable {lt}
end
end Go.Vai

namespace Go.Vai
open Go Go.RowKit
section
variable {α:Type}{enc:α->List Value}{s:Nat}{e:TypeId}
def fE(enc:α->List Value)(s:Nat)(e:TypeId)(h:af)(u:Value)(L:List α):Prop:=(L=[]/\∃x c,u=.slice x 0 c)\/∃(b j:Nat)(W:List α),L≠[]/\u=.slice (some ⟨b,j*s,none⟩) L.length aW/\b<h.nx/\h.lo<=b/\h.bl.get b=some (ai (W.flatMap enc) e true)/\W.length=j+L.length/\W.drop j=L
theorem fE.len{h:af}{u:Value}{L:List α}(p:fE enc s e h u L){β:Type}{fl:β}(h':af)(V:UV β):bG fl u h' V=V (.int .i64 (L.length:Int)) h':=by
 rcases p with⟨rfl,x,c,rfl⟩|⟨b,j,W,_,rfl,_⟩
 .exact h_ _ _ _ _ _
 .exact h_ _ _ _ _ _
theorem fE.cell{h:af}{u:Value}{L:List α}(p:fE enc s e h u L):∃x c,u=.slice x L.length c:=by
 rcases p with⟨rfl,x,c,rfl⟩|⟨b,j,W,_,rfl,_⟩<;>exact⟨_,_,rfl⟩
theorem fE.own{a h:af}{u:Value}{L:List α}(o:ia enc a e h u L):fE enc s e h u L:=by
 rcases o with⟨rfl,rfl|⟨b,o,rfl⟩⟩|⟨b,rfl,h1,h2,h3,h4⟩
 .exact .inl ⟨rfl,_,_,rfl⟩
 .exact .inl ⟨rfl,_,_,rfl⟩
 .by_cases hL:L=[]
  .subst hL;exact .inl ⟨rfl,_,_,rfl⟩
  .exact .inr ⟨b,0,L,hL,by rw[Nat.zero_mul],h2,h3,h4,XQ,rfl⟩
theorem fE.keep{h h':af}{u:Value}{L:List α}(p:fE enc s e h u L)(hn:h.nx<=h'.nx)(hl:h'.lo=h.lo)(hg:∀c vs,c<h.nx->h.bl.get c=some (ai vs e true)->h'.bl.get c=h.bl.get c):fE enc s e h' u L:=by
 rcases p with p|⟨b,j,W,h1,h2,h3,h4,h5,h6⟩
 .exact .inl p
 .exact .inr ⟨b,j,W,h1,h2,XQ,XQ,(hg b _ h3 h5).trans h5,h6⟩
theorem fE.head(he:∀a:α,(enc a).length=s){h:af}{u:Value}{x:α}{L:List α}(p:fE enc s e h u (x::L)):Sl enc h u (x::L):=by
 rcases p with⟨e,_⟩|⟨b,j,W,h1,h2,h3,h4,h5,h6,h7⟩
 .cases e
 .refine⟨_,aW,h2,λ_=>⟨b,j*s,rfl,h3,?_⟩⟩;have hh:Has (h.bl.get b) 0 (W.flatMap enc):=by rw[h5];exact Has.all
  have hl:=bz (enc:=enc) he W;have hle:j*s<=W.length*s:=Nat.mul_le_mul_right _ XQ;have:=hh.sub (j*s) (W.length*s-j*s) (by rw[hl];omega);rw[Nat.zero_add]at this;have e1:((W.flatMap enc).drop (j*s)).take (W.length*s-j*s)=(x::L).flatMap enc:=by
   rw[oG he,h7,List.take_of_length_le];rw[bz (enc:=enc) he,<-h7,List.length_drop,Nat.sub_mul];exact Nat.le_refl _
  rwa [e1]at this
theorem fE.tail(he:∀a:α,(enc a).length=s)(hs0:0<s){h:af}{u:Value}{x:α}{L:List α}(p:fE enc s e h u (x::L)):∃u',fE enc s e h u' L/\∀(β:Type)(fl:β)(V:UV β),sliceB fl e s u (some (.int .i64 1)) none none h V=V u' h:=by
 rcases p with⟨e,_⟩|⟨b,j,W,h1,h2,h3,h4,h5,h6,h7⟩
 .cases e
 .obtain⟨s,rfl⟩:∃k,s=k+1:=⟨s-1,XQ⟩
  have hl:=bz (enc:=enc) he W;have hk:gE h e b=some (W.length*(s+1)):=by unfold gE;rw[h5];simp only[ai,iP,hl]
  have hlen:(x::L).length=L.length+1:=rfl;rw[hlen]at h2 h6;have hd:Nat.div (Nat.sub (W.length*(s+1)) (j*(s+1))) (s+1)=L.length+1:=by
   show(W.length*(s+1)-j*(s+1)) / (s+1)=_
   rw[<-Nat.sub_mul,Nat.mul_div_cancel _ XQ];omega
  have e1:Nat.beq aW fZ=false:=by decide
  have e2:Nat.beq aW aW=true:=Nat.beq_refl _;have e3:Nat.ble (j*(s+1)) (W.length*(s+1))=true:=Nat.ble_eq_true_of_le (Nat.mul_le_mul_right _ XQ);have e5:Nat.ble (L.length+1) (L.length+1)=true:=Nat.ble_eq_true_of_le (Nat.le_refl _);have e6:Nat.ble 1 (L.length+1)=true:=Nat.ble_eq_true_of_le XQ;have hb:∀(β:Type)(fl:β)(V:Nat->Nat->Nat->β)(c:Nat),iJ fl (L.length+1) (L.length+1) c (some (.int .i64 1)) none none V=V 1 (L.length+1) c:=λβ fl V c=>by
   have:=ym (fl:=fl) (len:=L.length+1) (lim:=L.length+1) (cap:=c) (i:=1) XQ (Nat.le_refl _) V;exact this
  by_cases h0:L.length=0
  .have hL:L=[]:=List.eq_nil_of_length_eq_zero h0;subst hL;refine⟨.slice (some ⟨b,j*(s+1),none⟩) 0 fZ,.inl ⟨rfl,_,_,rfl⟩,λβ fl V=>?_⟩;rw[h2];unfold sliceB;simp only[e1,e2,hk,e3,hd];rw[hb];rfl
  ·have e4:Nat.beq 1 (L.length+1)=false:=by
    cases hq:Nat.beq 1 (L.length+1)with
    |false=>rfl
    |true=>have:=cw hq;omega
   refine⟨.slice (some ⟨b,(j+1)*(s+1),none⟩) L.length aW,.inr ⟨b,j+1,W,by rintro rfl;exact h0 rfl,rfl,h3,h4,h5,XQ,by rw[<-List.drop_drop,h7];rfl⟩,λβ fl V=>?_⟩;rw[h2];unfold sliceB;simp only[e1,e2,hk,e3,hd];rw[hb];simp only[e2,e4,bY]
   show V (.slice (some ⟨b,j*(s+1)+1*(s+1),none⟩) (L.length+1-1) aW) h=_
   rw[<-Nat.add_mul];rfl
def fF(enc:α->List Value)(e:TypeId)(h:af)(v:Value)(L:List α):Prop:=(L=[]/\v=.slice none 0 0)\/∃(b:Nat)(G:List α),v=.slice (some ⟨b,0,none⟩) L.length aW/\b<h.nx/\h.lo<=b/\h.bl.get b=some (ai ((L++G).flatMap enc) e true)/\0<(L++G).length
theorem fF.sl{h:af}{v:Value}{L:List α}(p:fF enc e h v L):Sl enc h v L:=by
 rcases p with⟨rfl,rfl⟩|⟨b,G,rfl,h1,h2,h3,h4⟩
 .exact Sl.nil _ _ _
 .refine⟨_,_,rfl,λ_=>⟨b,0,rfl,h1,?_⟩⟩;have hh:Has (h.bl.get b) 0 ((L++G).flatMap enc):=by rw[h3];exact Has.all
  rw[List.flatMap_append]at hh;have:=hh.sub 0 (L.flatMap enc).length (by rw[List.length_append];omega);simpa using this
theorem fF.cell{h:af}{v:Value}{L:List α}(p:fF enc e h v L):∃x c,v=.slice x L.length c:=by
 rcases p with⟨rfl,rfl⟩|⟨b,G,rfl,_⟩<;>exact⟨_,_,rfl⟩
theorem fF.keep{h h':af}{v:Value}{L:List α}(p:fF enc e h v L)(hn:h.nx<=h'.nx)(hl:h'.lo=h.lo)(hg:∀c vs,c<h.nx->h.bl.get c=some (ai vs e true)->h'.bl.get c=h.bl.get c):fF enc e h' v L:=by
 rcases p with p|⟨b,G,h2,h3,h4,h5,h6⟩
 .exact .inl p
 .exact .inr ⟨b,G,h2,XQ,XQ,(hg b _ h3 h5).trans h5,h6⟩
theorem fF.own{a h:af}{v:Value}{L:List α}(o:ia enc a e h v L)(hn:L≠[]):fF enc e h v L:=by
 rcases o with⟨rfl,_⟩|⟨b,rfl,h1,h2,h3,h4⟩
 .exact absurd rfl hn
 .exact .inr ⟨b,[],rfl,h2,h3,by rw[List.append_nil];exact h4,by rw[List.append_nil];exact List.length_pos_iff.2 hn⟩
theorem fF.blk{h:af}{v:Value}{L:List α}(p:fF enc e h v L){d:Nat}(hb:∃o n c,v=.slice (some ⟨d,o,none⟩) n c):d<h.nx/\∃vs,h.bl.get d=some (ai vs e true):=by
 obtain⟨o,n,c,rfl⟩:=hb;rcases p with⟨_,e⟩|⟨b,G,e,h1,h2,h3,h4⟩
 .cases e
 .simp at e;obtain⟨⟨rfl,_⟩,_⟩:=e;exact⟨h1,_,h3⟩
theorem fF.le{h h':af}{v:Value}{L:List α}(p:fF enc e h v L)(l:Le h h'):fF enc e h' v L:=p.keep l.nx l.lo λd _ hd _=>l.get d hd
theorem fE.le{h h':af}{v:Value}{L:List α}(p:fE enc s e h v L)(l:Le h h'):fE enc s e h' v L:=p.keep l.nx l.lo λd _ hd _=>l.get d hd
def vT(v:Value)(d:Nat):Prop:=∃o n c,v=.slice (some ⟨d,o,none⟩) n c
structure Tw(v:Value)(h h':af):Prop where
 nx:h.nx<=h'.nx
 lo:h'.lo=h.lo
 get:∀d,d<h.nx->¬vT v d->h'.bl.get d=h.bl.get d
theorem Tw.of_le{v:Value}{h h':af}(l:Le h h'):Tw v h h':=⟨l.nx,l.lo,λb hb _=>l.get b hb⟩
variable {P:Program}{ti:TypeId}{f g:FuncId}
theorem EG(mix:P.follows .mixedOrders=true)(he:∀a:α,(enc a).length=s)(hone:∀a:α,(enc a).all dI=true)(hs0:0<s){z:List Value}{za:α}(hz:z=enc za)(hs1:s<=1000)(hg:∀a0 a1 h V,aT P g [a0,a1] h V=eW P ti s a0 a1 h V)(hb:∀a0 a1 h V,aT P f [a0,a1] h V=eX P ti g e s z a0 a1 h V)(h:af)(L:List α)(F:α->Bool)(v fv:Value)(V:KQ)(ho:fF enc e h v L)(hlen:L.length<=100000)(hlo:h.lo<=h.nx)(hF:∀p,∀(h1:af)(κ1:Value->af->Prop),Tw v h h1->(∀h2,Le h1 h2->κ1 (.bool (F p)) h2)->fL P fv [Cz enc p] h1 κ1)(hk:∀v' h',fF enc e h' v' (L.filter λp=>!F p)->Tw v h h'->(v'=v\/∃b n m,v=.slice (some ⟨b,0,none⟩) n aW/\v'=.slice (some ⟨b,0,none⟩) m aW)->V v' h'):aj P f [v,fv] h V:=by
 have hz0:z.length=s:=by rw[hz];exact he za
 have hz1:z.all dI=true:=by rw[hz];exact hone za
 refine ay mix ?_;rw[hb];unfold eX;refine lR mix he hg L F h v fv _ ho.sl XQ (λp _ h1 κ1 hl dB=>hF p h1 κ1 (Tw.of_le hl) dB) ?_;intro h1 hle1;have n1:=hle1.nx;have l1:=hle1.lo;rcases lQ L F with⟨e1,e2⟩|⟨i0,p0,e1,e2,e3,e4⟩
 .simp only[e1,fS];simp(disch:=try exact Y)only[Wz];have:(L.filter λp=>!F p)=L:=List.filter_eq_self.2 λp hp=>by simp[e2 p hp]
  rw[this]at hk;exact hk v h1 (ho.keep hle1.nx hle1.lo λc _ hc _=>hle1.get c hc) (Tw.of_le hle1) (.inl rfl)
 ·simp only[e1,fS];have yp:i0<L.length:=(List.getElem?_eq_some_iff.1 e2).1;have CA:(L.take i0).filter (λp=>!F p)=L.take i0:=List.filter_eq_self.2 λp hp=>by
   obtain⟨j,hj⟩:=List.getElem?_of_mem hp;have hj':j<i0:=by have:=(List.getElem?_eq_some_iff.1 hj).1;simp at this;omega
   rw[List.getElem?_take_of_lt hj']at hj;simp[e4 j p hj' hj]
  rcases ho with⟨rfl,_⟩|⟨b,G,rfl,XB,b30,Tv,b50⟩
  .simp at yp
  have bk:∀d,d≠b->¬vT (.slice (some ⟨b,0,none⟩) L.length aW) d:=by
   rintro d hd ⟨o,n,c,e⟩;cases e;exact hd rfl
  have b2:b<h1.nx:=by omega
  have b3:h1.lo<=b:=by rw[hle1.lo];exact b30
  have b4:h1.bl.get b=some (ai ((L++G).flatMap enc) e true):=(hle1.get b XB).trans Tv;simp(disch:=try exact Y)only[Wz]
  refine ⟨λn l h2=>b<h2.nx/\h2.lo=h.lo/\(h.nx<=h2.nx/\∀c,c<h.nx->c≠b->h2.bl.get c=h.bl.get c)/\∃(j i:Nat)(K:List α),ah l 22=.int .i64 (j:Int)/\ah l 19=.int .i64 (i:Int)/\j<=L.length/\i<j/\n=L.length-j/\K.length=L.length/\
    K.take i=(L.take j).filter (λp=>!F p)/\K.drop j=L.drop j/\h2.bl.get b=some (ai ((K++G).flatMap enc) e true),
   ⟨_,b2,l1,⟨n1,λc hc _=>hle1.get c hc⟩,i0+1,i0,L,rfl,rfl,XQ,XQ,rfl,rfl,?_,rfl,b4⟩,?_⟩
  .rw[fW e2,CA,e3];simp
  rintro n l h2 ⟨hb2,Oq,hfr,j,i,K,s1,s2,hj,hij,rfl,hK,Pc,V6,hg2⟩;have hKG:(K++G).length=(L++G).length:=by rw[List.length_append,List.length_append,hK]
  have hfl:=bz (enc:=enc) he (K++G);rw[hKG]at hfl;have hLG:(L++G).length=L.length+G.length:=List.length_append;by_cases hlt:j<L.length
  .obtain⟨p,hp⟩:∃p,L[j]? = some p:=⟨_,List.getElem?_eq_getElem hlt⟩
   have hpK:K[j]? = some p:=by
    have:(K.drop j)[0]? = (L.drop j)[0]?:=by rw[V6]
    simpa[hp]using this
   have XC:Sl enc h2 (.slice (some ⟨b,0,none⟩) L.length aW) K:=by
    have:fF enc e h2 (.slice (some ⟨b,0,none⟩) L.length aW) K:=.inr ⟨b,G,by rw[hK],hb2,by rw[Oq];exact b30,hg2,by rw[hKG];exact b50⟩;exact this.sl
   obtain⟨b',o',hb',mD,mh,_⟩:=XC.ld he j hpK;have bat:=mD Nat 0 h2 λv _=>match v with | .pointer (some a)=>a.block|_=>0
   rw[bt _ _ _ _ _ _ _ _ hlt]at bat;have Ta:b=b':=bat;subst Ta;have hep:=he p;have hop:=hone p;have Su:(enc p).take s=enc p:=by rw[<-hep,List.take_length]
   have Xe:=pY z (enc p) XQ;simp(disch:=try exact Y)only[Wz,s1,s2,mD,mh];refine⟨λl h'=>b<h'.nx/\h'.lo=h.lo/\(h.nx<=h'.nx/\∀c,c<h.nx->c≠b->h'.bl.get c=h.bl.get c)/\∃(i':Nat)(K':List α),ah l 15=.int .i64 (i':Int)/\i'<j+1/\K'.length=L.length/\
    K'.take i'=(L.take (j+1)).filter (λp=>!F p)/\K'.drop (j+1)=L.drop (j+1)/\h'.bl.get b=some (ai ((K'++G).flatMap enc) e true),?_,?_⟩
   ·simp(disch:=try exact Y)only[Wz,s1,s2,mD,mh,stG he hone p,Su,Xe];have XD:=(Le.refl h2).new (ai (enc p) e false);refine hF p _ _ ⟨by have:=hfr.1;show h.nx<=h2.nx+1;omega,Oq,λc hc hne=>(T.ax _ _ (by have:=hfr.1;omega)).trans (hfr.2 c hc (by rintro rfl;exact hne ⟨_,_,_,rfl⟩))⟩ ?_;intro h3 bJ;have n3:=bJ.nx;have l3:=bJ.lo;dsimp only at n3 l3;have g3:h3.bl.get h2.nx=some (ai (enc p) e false):=(bJ.get h2.nx (Nat.lt_succ_self _)).trans (T.au _ _ _);have XE:h3.bl.get b=some (ai ((K++G).flatMap enc) e true):=by
     rw[bJ.get b (by show b<h2.nx+1;omega)]
     show(h2.bl.bq h2.nx _).get b=_
     rw[T.ax _ _ XQ];exact hg2
    have yq:h.nx<=h3.nx/\∀c,c<h.nx->c≠b->h3.bl.get c=h.bl.get c:=by
     have q0:=hfr.1;refine⟨XQ,λc hc hne=>?_⟩;have e1:(h2.bl.bq h2.nx (ai (enc p) e false)).get c=h2.bl.get c:=T.ax _ _ XQ;exact(bJ.get c (by show c<h2.nx+1;omega)).trans (e1.trans (hfr.2 c hc hne))
    cases hc:F p with
    |true=>
     simp(disch:=try exact Y)only[Wz,s2];exact⟨XQ,XQ,yq,i,K,rfl,XQ,hK,by rw[fW hp,hc];simpa using Pc,by rw[<-List.drop_drop,V6,List.drop_drop],XE⟩
    |false=>
     have CB:=rV he (K++G) i p XQ;rw[List.set_append_left _ _ XQ]at CB;have hbd:i*s+s<=((K++G).flatMap enc).length:=by rw[hfl,<-Nat.succ_mul];exact Nat.mul_le_mul_right _ XQ
     simp(disch:=try exact Y)only[Wz,s2,g3,XE,bt,stG he hone p,Su,CB];refine⟨XQ,XQ,⟨yq.1,λc hc hne=>(T.ax _ _ (λe=>hne e.symm)).trans (yq.2 c hc hne)⟩,i+1,K.set i p,rfl,XQ,by simpa using hK,?_,?_,rfl⟩
     .rw[fW hp,hc,<-Pc];have hiK:i<K.length:=by omega
      rw[List.take_succ_eq_append_getElem (by simpa using hiK)];simp[List.take_set_of_le]
     .rw[List.drop_set_of_lt XQ,<-List.drop_drop,V6,List.drop_drop]
   .rintro l8 h3 ⟨hb3,H9,yq,i',K',s3,hi',hK',XG,XH,hg3⟩;simp(disch:=try exact Y)only[Wz,s1,s3];exact⟨_,XQ,hb3,H9,yq,j+1,i',K',rfl,rfl,XQ,hi',rfl,hK',XG,XH,hg3⟩
  .have hjL:j=L.length:=by omega
   subst hjL;rw[List.take_length]at Pc;have r1:=Kl hz0 (L.length-i);have r2:=Km hz1 (L.length-i);have hbd:i*s+(L.length-i)*s=L.length*s:=by rw[<-Nat.add_mul];congr 1;omega
   have anA:L.length*s<=(L++G).length*s:=Nat.mul_le_mul_right _ XQ;have ah4:∀n,a_ z n=(List.replicate n za).flatMap enc:=by
    intro n
    induction n with
    |zero=>rfl
    |succ n ih=>rw[List.replicate_succ,List.flatMap_cons,<-ih,hz];rfl
   have Pf:∃u,(∀V:Value->af->Prop,sliceB False e s (.slice (some ⟨b,0,none⟩) L.length aW) (some (.int .i64 (i:Int))) none none h2 V=V (.slice (some ⟨b,i*s,none⟩) (L.length-i) u) h2):=by
    obtain⟨s,rfl⟩:∃k,s=k+1:=⟨s-1,XQ⟩
    have hk:gE h2 e b=some ((L++G).length*(s+1)):=by unfold gE;rw[hg2];simp only[ai,iP,hfl]
    have hd:Nat.div (Nat.sub ((L++G).length*(s+1)) 0) (s+1)=(L++G).length:=by show((L++G).length*(s+1)-0) / (s+1)=_;rw[Nat.sub_zero,Nat.mul_div_cancel _ XQ]
    have e1:Nat.beq aW fZ=false:=by decide
    have e2:Nat.beq aW aW=true:=Nat.beq_refl _;have e3:Nat.ble 0 ((L++G).length*(s+1))=true:=Nat.ble_eq_true_of_le (Nat.zero_le _);have e4:Nat.beq i (L++G).length=false:=by
     cases hq:Nat.beq i (L++G).length with
     |false=>rfl
     |true=>have:=cw hq;omega
    refine⟨aW,λV=>?_⟩;unfold sliceB;simp only[e1,e2,hk,e3,hd];rw[ym XQ XQ];simp only[e2,e4,bY]
    show V (.slice (some ⟨b,0+i*(s+1),none⟩) (L.length-i) aW) h2=_
    rw[Nat.zero_add]
   obtain⟨uc,Pf⟩:=Pf;simp(disch:=try exact Y)only[Wz,s1,s2,Pf];rw[vR hg2 XQ (by rw[r1,hfl];omega) r2 XQ];have Pd:(over ((K++G).flatMap enc) (i*s) (a_ z (L.length-i))).length=(L++G).length*s:=by
    rw[mG (by rw[r1,hfl];omega),hfl]
   rw[yl (n:=(L++G).length) (i:=i) (vs:=over ((K++G).flatMap enc) (i*s) (a_ z (L.length-i))) hs0 (T.au _ _ _) Pd b50 XQ];have EE:(L.filter λp=>!F p).length=i:=by rw[<-Pc];simp;omega
   have AH:over ((K++G).flatMap enc) (i*s) (a_ z (L.length-i))=((L.filter λp=>!F p)++(List.replicate (L.length-i) za++G)).flatMap enc:=by
    have h1:((K++G).flatMap enc).take (i*s)=(L.filter λp=>!F p).flatMap enc:=by
     rw[oF he,List.take_append_of_le_length XQ,Pc]
    have h2:((K++G).flatMap enc).drop (i*s+(L.length-i)*s)=G.flatMap enc:=by
     rw[hbd,oG he,<-hK,List.drop_left]
    rw[over,r1,h1,h2,ah4,List.flatMap_append,List.flatMap_append,List.append_assoc]
   rw[AH];refine hk _ _ (.inr ⟨b,List.replicate (L.length-i) za++G,by rw[EE],hb2,by show h2.lo<=b;omega,T.au _ _ _,by rw[List.length_append,List.length_append,List.length_replicate,EE];omega⟩) ⟨hfr.1,Oq,λc hc hne=>(T.ax _ _ (by rintro rfl;exact hne ⟨_,_,_,rfl⟩)).trans (hfr.2 c hc (by rintro rfl;exact hne ⟨_,_,_,rfl⟩))⟩ (.inr ⟨b,_,_,rfl,rfl⟩)
end
end Go.Vai

namespace Go.Clashes
structure H4 where
 x:Int
 t:Int
 r:Int
 m:Int
def tab:List (List Bool):=[
 [true,true,true,true,true,true,true],
 [true,true,true,true,true,true,false],
 [true,true,true,false,false,false,false],
 [true,true,false,true,false,true,false],
 [true,true,false,false,false,false,false],
 [true,true,false,true,false,false,false],
 [true,false,false,false,false,false,false]]
def cmp(a b:Int):Bool:=decide (0<=a) && decide (a<=6) && decide (0<=b) && decide (b<=6) && ((tab.getD a.toNat []).getD b.toNat false)
theorem tg(a b:Int):cmp a b=cmp b a:=by
 by_cases h:(0<=a/\a<=6)/\(0<=b/\b<=6)
 .have key:∀i,i<7->∀j,j<7->cmp (i:Nat) (j:Nat)=cmp (j:Nat) (i:Nat):=by decide
  have:=key a.toNat (by omega) b.toNat (by omega)
  rwa [show((a.toNat:Nat):Int)=a by omega,show((b.toNat:Nat):Int)=b by omega]at this
 ·have h1:cmp a b=false:=by
   cases hq:cmp a b with
   |false=>rfl
   |true=>simp[cmp]at hq;omega
  have h2:cmp b a=false:=by
   cases hq:cmp b a with
   |false=>rfl
   |true=>simp[cmp]at hq;omega
  rw[h1,h2]
def bad(p q:H4):Bool:=(p.t == q.t && p.r == q.r) && !(p.x == q.x) && !cmp p.m q.m
end Go.Clashes

namespace Go.Vai
open Go Go.Clashes
def kn(m:Int):Bool:=decide (0<=m) && decide (m<=6)
def ah5:List (List Bool):=[
 [true,false,false,false,false,false,false],
 [true,true,false,false,false,false,false],
 [true,true,true,false,false,false,false],
 [true,true,false,true,false,false,false],
 [true,true,true,true,true,false,false],
 [true,true,false,true,false,true,false],
 [true,true,true,true,true,true,true]]
def iK(a b:Int):Bool:=kn a && kn b && ((ah5.getD a.toNat []).getD b.toNat false)
def bA(a b:Int):Int:=if(kn a && kn b)=true then(if iK a b then a else if iK b a then b else if iK 4 a && iK 4 b then 4 else 6)else 0
theorem mY(n:Nat):kn (.negSucc n)=false:=by
 have h:¬(0:Int)<=.negSucc n:=by omega
 unfold kn;rw[aZ h];rfl
theorem mZ(n:Nat):kn (.ofNat (n+7))=false:=by
 have h:¬(Int.ofNat (n+7))<=6:=by show ¬((n+7:Nat):Int)<=6;omega
 unfold kn;rw[aZ h,Bool.and_false]
theorem rW{a b:Int}(h:iK a b=true):kn a=true/\kn b=true:=by
 simp only[iK,Bool.and_eq_true]at h;exact h.1
theorem Ko{a b:Int}(h:kn a=false):iK a b=false:=by simp[iK,h]
theorem EH{a b:Int}(h:kn b=false):iK a b=false:=by simp[iK,h]
theorem CC{a b:Int}(h:kn a=false):bA a b=0:=by simp[bA,h]
theorem CE{a b:Int}(h:kn b=false):bA a b=0:=by simp[bA,h]
theorem Pg{a b:Int}(h:kn a=false):cmp a b=false:=by
 unfold cmp;unfold kn at h;rw[h];rfl
theorem V7{a b:Int}(h:kn b=false):cmp a b=false:=by rw[tg];exact Pg h
theorem uV(a:Int):(∃i:Nat,i<7/\a=Int.ofNat i)\/(∃n:Nat,a=Int.negSucc n)\/∃n:Nat,a=Int.ofNat (n+7):=by
 cases a with
 |negSucc n=>exact .inr (.inl ⟨n,rfl⟩)
 |ofNat i=>
  rcases Nat.lt_or_ge i 7 with h|h
  .exact .inl ⟨i,h,rfl⟩
  .exact .inr (.inr ⟨i-7,by congr 1;omega⟩)
theorem seven{p:Nat->Prop}(h0:p 0)(h1:p 1)(h2:p 2)(h3:p 3)(h4:p 4)(h5:p 5)(h6:p 6):∀i,i<7->p i:=by
 intro i hi;have:i=0\/i=1\/i=2\/i=3\/i=4\/i=5\/i=6:=by omega
 rcases this with rfl|rfl|rfl|rfl|rfl|rfl|rfl<;>assumption
theorem kZ{P:Program}(mix:P.follows .mixedOrders=true){f:FuncId}{F:Int->Int->Value}(h1:∀i,i<7->∀j,j<7->br P 200 f [.int .i64 (.ofNat i),.int .i64 (.ofNat j)] (F (.ofNat i) (.ofNat j))=true)(h2:∀(n:Nat)(b:Int),br P 200 f [.int .i64 (.negSucc n),.int .i64 b] (F (.negSucc n) b)=true)(h3:∀(n:Nat)(b:Int),br P 200 f [.int .i64 (.ofNat (n+7)),.int .i64 b] (F (.ofNat (n+7)) b)=true)(h4:∀i,i<7->∀n:Nat,br P 200 f [.int .i64 (.ofNat i),.int .i64 (.negSucc n)] (F (.ofNat i) (.negSucc n))=true)(h5:∀i,i<7->∀n:Nat,br P 200 f [.int .i64 (.ofNat i),.int .i64 (.ofNat (n+7))] (F (.ofNat i) (.ofNat (n+7)))=true)(a b:Int){h:af}{V:KQ}(hk:V (F a b) h):aj P f [.int .i64 a,.int .i64 b] h V:=by
 refine td mix (n:=200) ?_ hk;rcases uV a with⟨i,hi,rfl⟩|⟨n,rfl⟩|⟨n,rfl⟩
 .rcases uV b with⟨j,hj,rfl⟩|⟨m,rfl⟩|⟨m,rfl⟩
  .exact h1 i hi j hj
  .exact h4 i hi m
  .exact h5 i hi m
 .exact h2 n b
 .exact h3 n b
theorem iy{a:Int}(h:kn a=true):∃i:Nat,i<7/\a=(i:Int):=by
 unfold kn at h;simp only[Bool.and_eq_true,decide_eq_true_eq]at h;exact⟨a.toNat,XQ,XQ⟩
theorem Ph:∀i,i<7->∀j,j<7->∀k,k<7->iK (i:Nat) (j:Nat)=true->iK (j:Nat) (k:Nat)=true->iK (i:Nat) (k:Nat)=true:=by decide +kernel
theorem Md{a b c:Int}(h1:iK a b=true)(h2:iK b c=true):iK a c=true:=by
 obtain⟨i,hi,rfl⟩:=iy (rW h1).1;obtain⟨j,hj,rfl⟩:=iy (rW h1).2;obtain⟨k,hk,rfl⟩:=iy (rW h2).2;exact Ph i hi j hj k hk h1 h2
theorem Tx:∀i,i<7->∀j,j<7->iK (i:Nat) (j:Nat)=true->iK (j:Nat) (i:Nat)=true->i=j:=by decide +kernel
theorem Pj{a b:Int}(h1:iK a b=true)(h2:iK b a=true):a=b:=by
 obtain⟨i,hi,rfl⟩:=iy (rW h1).1;obtain⟨j,hj,rfl⟩:=iy (rW h1).2;rw[Tx i hi j hj h1 h2]
theorem Ty:∀i,i<7->iK (i:Nat) 0=true:=by decide +kernel
theorem Pk{a:Int}(h:kn a=true):iK a 0=true:=by
 obtain⟨i,hi,rfl⟩:=iy h;exact Ty i hi
theorem XJ:∀i,i<7->∀j,j<7->(iK (i:Nat) (bA (i:Nat) (j:Nat))=true->iK (i:Nat) (j:Nat)=true)/\iK (bA (i:Nat) (j:Nat)) (i:Nat)=true/\iK (bA (i:Nat) (j:Nat)) (j:Nat)=true/\(j≠0->bA (i:Nat) (j:Nat)≠0)/\(iK (i:Nat) (j:Nat)=true->bA (i:Nat) (j:Nat)=(i:Nat)):=by decide +kernel
theorem yu{a b:Int}(ha:kn a=true)(hb:kn b=true):(iK a (bA a b)=true->iK a b=true)/\iK (bA a b) a=true/\iK (bA a b) b=true/\(b≠0->bA a b≠0)/\(iK a b=true->bA a b=a):=by
 obtain⟨i,hi,rfl⟩:=iy ha;obtain⟨j,hj,rfl⟩:=iy hb;obtain⟨h1,h2,h3,h4,h5⟩:=XJ i hi j hj;exact⟨h1,h2,h3,λhb=>h4 XQ,h5⟩
theorem XK{a b:Int}(ha:kn a=true)(hb:kn b=true):kn (bA a b)=true:=(rW (yu ha hb).2.1).1
end Go.Vai

namespace Go.Vai
open Go Go.Clashes
structure R5 where
 id:Int
 x:Int
 m:Int
 w:Int
 s:Int
def bH(r:R5):List Value:=[.int .i64 r.id,.int .i64 r.x,.int .i64 r.m,.int .i64 r.w,.int .i64 r.s]
theorem cI(r:R5):(bH r).length=5:=rfl
theorem yw(r:R5):(bH r).all dI=true:=rfl
theorem XL{p q:R5}:p=q<->(p.id=q.id/\p.x=q.x/\p.m=q.m/\p.w=q.w/\p.s=q.s):=by
 cases p;cases q;simp
instance :DecidableEq R5:=λp q=>decidable_of_iff _ XL.symm
def w8(r:R5):Bool:=decide (r.m≠0) && decide (0<r.s)
theorem qK(r:R5):w8 r=true<->r.m≠0/\0<r.s:=by simp[w8]
def EI(Q:List R5)(r:R5)(o:Option Nat):Bool:=match o with
 |none=>true
 |some b=>match Q[b]? with
  |some q=>decide (r.s<q.s)
  |none=>false
def best(Q:List R5):Nat->Option Nat
 |0=>none
 |i+1=>match Q[i]? with
  |some r=>if(w8 r && EI Q r (best Q i))=true then some i else best Q i
  |none=>best Q i
def ew(Q:List R5):Option Nat:=match best Q Q.length with|some b=>some b|none=>Q.findIdx? (λr=>decide (r.m=0))
def iC(Q:List R5)(r:R5):Bool:=!Q.any λo=>decide (o.id≠r.id) && decide (o.m≠0) && !cmp o.m r.w
theorem CF(Q:List R5):∀i b,best Q i=some b->b<i/\∃r,Q[b]? = some r/\w8 r=true:=by
 intro i
 induction i with
 |zero=>intro b h;cases h
 |succ i ih=>
  intro b h;unfold best at h;split at h
  .rename_i r hr;split at h
   .rename_i hc;cases h;rw[Bool.and_eq_true]at hc;exact⟨Nat.lt_succ_self _,r,hr,hc.1⟩
   .obtain⟨h1,h2⟩:=ih b h;exact⟨XQ,h2⟩
  .obtain⟨h1,h2⟩:=ih b h;exact⟨XQ,h2⟩
theorem Bw(Q:List R5):∀i,best Q i=none->∀(j:Nat)(r:R5),j<i->Q[j]? = some r->w8 r=false:=by
 intro i
 induction i with
 |zero=>intro _ j r h;omega
 |succ i ih=>
  intro h j r hj hr;unfold best at h;split at h
  .rename_i q hq;split at h
   .cases h
   .rename_i hc;by_cases hji:j=i
    .subst hji;rw[hq]at hr;cases hr;rw[h]at hc;simpa[EI]using hc
    .exact ih h j r XQ hr
  .rename_i hq;by_cases hji:j=i
   .subst hji;rw[hq]at hr;cases hr
   .exact ih h j r XQ hr
theorem Iv{Q:List R5}(h:ew Q=none):∀r∈Q,r.m≠0/\¬0<r.s:=by
 unfold ew at h;split at h
 .cases h
 .rename_i hb;rw[List.findIdx?_eq_none_iff]at h;intro r hr;obtain⟨j,hj⟩:=List.getElem?_of_mem hr;have h1:=Bw Q _ hb j r (List.getElem?_eq_some_iff.1 hj).1 hj;have h2:r.m≠0:=by simpa using h r hr
  refine⟨h2,λh3=>?_⟩;rw[(qK r).2 ⟨h2,h3⟩]at h1;cases h1
theorem rX{Q:List R5}{i:Nat}(h:ew Q=some i):∃r,Q[i]? = some r/\(w8 r=true\/(r.m=0/\(∀q∈Q,w8 q=false)/\∀(j:Nat)(q:R5),j<i->Q[j]? = some q->q.m≠0)):=by
 unfold ew at h;split at h
 .rename_i b hb;cases h;obtain⟨_,r,h1,h2⟩:=CF Q _ _ hb;exact⟨r,h1,.inl h2⟩
 ·rename_i hb;have hno:∀q∈Q,w8 q=false:=λq hq=>by
   obtain⟨j,hj⟩:=List.getElem?_of_mem hq;exact Bw Q _ hb j q (List.getElem?_eq_some_iff.1 hj).1 hj
  rcases lQ Q (λr=>decide (r.m=0))with⟨e,_⟩|⟨k,p,e,hp,h1,h2⟩
  .rw[e]at h;cases h
  .rw[e]at h;cases h;exact⟨p,hp,.inr ⟨by simpa using h1,hno,λj q hj hq=>by simpa using h2 j q hj hq⟩⟩
theorem jE(Q:List R5)(r:R5):iC Q r=true<->∀o∈Q,o.id≠r.id->o.m≠0->cmp o.m r.w=true:=by
 unfold iC;rw[Bool.not_eq_true',List.any_eq_false];constructor
 .intro h o ho h1 h2;have:=h o ho;simpa[h1,h2]using this
 .intro h o ho hc;simp only[Bool.and_eq_true,decide_eq_true_eq,Bool.not_eq_true']at hc;rw[h o ho hc.1.1 hc.1.2]at hc;cases hc.2
structure Pm(W:Int)(r:R5):Prop where
 id:0<=r.id
 km:kn r.m=true
 kw:kn r.w=true
 s0:0<=r.s
 sW:r.s<=W
 wait:0<r.s->iK r.m r.w=false
 hold:r.s=0->r.m≠0/\r.w=r.m
structure yx(a b:R5):Prop where
 id:a.id≠b.id
 x:a.x≠b.x
 s:0<a.s->a.s≠b.s
 cm:a.m≠0->b.m≠0->cmp a.m b.m=true
 ord:a.m=0->b.m=0/\a.s<b.s
structure VQ(Q:List R5)(W:Int):Prop where
 w0:0<=W
 right:∀r∈Q,Pm W r
 pair:Q.Pairwise yx
theorem dY{α:Type}{R:α->α->Prop}{L:List α}:L.Pairwise R<->∀(i j:Nat)(p q:α),i<j->L[i]? = some p->L[j]? = some q->R p q:=by
 rw[List.pairwise_iff_getElem];constructor
 .intro h i j p q hij hp hq;obtain⟨hi,rfl⟩:=List.getElem?_eq_some_iff.1 hp;obtain⟨hj,rfl⟩:=List.getElem?_eq_some_iff.1 hq;exact h i j hi hj hij
 .intro h i j hi hj hij;exact h i j _ _ hij (List.getElem?_eq_getElem hi) (List.getElem?_eq_getElem hj)
theorem rY{α:Type}{R:α->α->Prop}{L:List α}{i:Nat}{p:α}(h:L.Pairwise R)(h1:∀(j:Nat)(q:α),j<i->L[j]? = some q->R q p)(h2:∀(j:Nat)(q:α),i<j->L[j]? = some q->R p q):(L.set i p).Pairwise R:=by
 rw[dY]at *
 intro a b u v hab hu hv;rw[List.getElem?_set]at hu hv;by_cases ha:i=a
 .subst ha;rw[if_pos rfl]at hu;rw[if_neg XQ]at hv;split at hu
  .cases hu;exact h2 b v hab hv
  .cases hu
 .rw[if_neg ha]at hu;by_cases hb:i=b
  .subst hb;rw[if_pos rfl]at hv;split at hv
   .cases hv;exact h1 a u hab hu
   .cases hv
  .rw[if_neg hb]at hv;exact h a b u v hab hu hv
theorem mem_set{α:Type}{L:List α}{i:Nat}{p q:α}(h:q∈L.set i p):q=p\/q∈L:=by
 rcases List.mem_or_eq_of_mem_set h with h|h
 .exact .inr h
 .exact .inl h
theorem Pn{Q:List R5}(h:Q.Pairwise yx){i j:Nat}{p q:R5}(hp:Q[i]? = some p)(hq:Q[j]? = some q)(he:p.id=q.id):i=j:=by
 rcases Nat.lt_trichotomy i j with h1|h1|h1
 .exact absurd he (dY.1 h i j p q h1 hp hq).id
 .exact h1
 .exact absurd he.symm (dY.1 h j i q p h1 hq hp).id
theorem XM{Q:List R5}(h:Q.Pairwise yx){p q:R5}(hp:p∈Q)(hq:q∈Q)(he:p.id=q.id):p=q:=by
 obtain⟨i,hi⟩:=List.getElem?_of_mem hp;obtain⟨j,hj⟩:=List.getElem?_of_mem hq;have:=Pn h hi hj he;subst this;rw[hi]at hj;cases hj;rfl
theorem VQ.mono{Q:List R5}{W W':Int}(v:VQ Q W)(h:W<=W'):VQ Q W':=
 ⟨Int.le_trans v.w0 h,λr hr=>let a:=v.right r hr;⟨a.id,a.km,a.kw,a.s0,Int.le_trans a.sW h,a.wait,a.hold⟩,v.pair⟩
theorem VQ.nil:VQ [] 0:=⟨Int.le_refl _,λr hr=>(by cases hr),List.Pairwise.nil⟩
theorem VQ.filter{Q:List R5}{W:Int}(v:VQ Q W)(F:R5->Bool):VQ (Q.filter F) W:=
 ⟨v.w0,λr hr=>v.right r (List.mem_filter.1 hr).1,v.pair.sublist List.filter_sublist⟩
theorem yy{W:Int}{r:R5}(h:Pm W r)(hs:0<r.s):r.w≠0:=by
 intro e;have:=h.wait hs;rw[e,Pk h.km]at this;cases this
def dQ(r:R5):R5:=⟨r.id,r.x,r.w,r.w,0⟩
theorem VQ.Po{Q:List R5}{W:Int}(v:VQ Q W){i:Nat}{r:R5}(hf:ew Q=some i)(hr:Q[i]? = some r)(hfit:iC Q r=true):VQ (Q.set i (dQ r)) W:=by
 obtain⟨r',hr',Kp⟩:=rX hf;rw[hr]at hr';cases hr';have R:=v.right r (List.mem_of_getElem? hr);have hs:0<r.s:=by
  rcases Kp with h|⟨h,_⟩
  .exact((qK r).1 h).2
  .rcases Int.lt_or_eq_of_le R.s0 with h0|h0
   .exact h0
   .exact absurd h (R.hold h0.symm).1
 have hw:=yy R hs;rw[jE]at hfit;refine⟨v.w0,?_,?_⟩
 .intro q hq;rcases mem_set hq with rfl|hq
  .exact⟨R.id,R.kw,R.kw,Int.le_refl _,v.w0,λh=>absurd h (Int.lt_irrefl _),λ_=>⟨hw,rfl⟩⟩
  .exact v.right q hq
 .refine rY v.pair ?_ ?_
  ·intro j q hj hq;have P:=dY.1 v.pair j i q r hj hq hr;have hm:q.m≠0:=by
    rcases Kp with h|⟨_,_,h⟩
    .intro e;exact((qK r).1 h).1 (P.ord e).1
    .exact h j q hj hq
   exact⟨P.id,P.x,λh=>(λe:q.s=0=>by omega),λh1 _=>hfit q (List.mem_of_getElem? hq) P.id h1,λe=>absurd e hm⟩
  .intro j q hj hq;have P:=dY.1 v.pair i j r q hj hr hq;refine⟨P.id,P.x,λh=>absurd h (Int.lt_irrefl _),λ_ h2=>?_,λe=>absurd e hw⟩;rw[tg];exact hfit q (List.mem_of_getElem? hq) (λe=>P.id e.symm) h2
def i_(Q:List R5):Nat:=(Q.filter λr=>decide (0<r.s)).length
theorem rZ{Q:List R5}{i:Nat}{r:R5}(hr:Q[i]? = some r)(hs:0<r.s):i_ (Q.set i (dQ r))+1=i_ Q:=by
 obtain⟨hi,rfl⟩:=List.getElem?_eq_some_iff.1 hr;have e1:Q=Q.take i++Q[i]::Q.drop (i+1):=by
  rw[List.getElem_cons_drop,List.take_append_drop]
 have e2:Q.set i (dQ Q[i])=Q.take i++dQ Q[i]::Q.drop (i+1):=by
  rw[List.set_eq_take_append_cons_drop,if_pos hi]
 have hg:decide (0<(dQ Q[i]).s)=false:=by simp[dQ]
 have h1:i_ Q=((Q.take i).filter λr=>decide (0<r.s)).length+(((Q.drop (i+1)).filter λr=>decide (0<r.s)).length+1):=by
  conv=>lhs;rw[e1]
  unfold i_;rw[List.filter_append,List.filter_cons,if_pos (by simpa using hs)];simp
 rw[e2,h1];unfold i_;rw[List.filter_append,List.filter_cons,if_neg (by rw[hg];simp)];simp;omega
def dS:Nat->List R5->List R5 × List Int
 |0,Q=>(Q,[])
 |n+1,Q=>match ew Q with
  |none=>(Q,[])
  |some i=>match Q[i]? with
   |none=>(Q,[])
   |some r=>if iC Q r=true then((dS n (Q.set i (dQ r))).1,r.id::(dS n (Q.set i (dQ r))).2)else(Q,[])
def r5(Q:List R5):Prop:=∀i r,ew Q=some i->Q[i]? = some r->iC Q r=false
def Iw(r:R5):Int × Int:=(r.id,r.x)
theorem jZ{Q:List R5}{W:Int}(v:VQ Q W){i:Nat}{r:R5}(hf:ew Q=some i)(hr:Q[i]? = some r):0<r.s:=by
 obtain⟨r',hr',Kp⟩:=rX hf;rw[hr]at hr';cases hr';have R:=v.right r (List.mem_of_getElem? hr);rcases Kp with h|⟨h,_⟩
 .exact((qK r).1 h).2
 .rcases Int.lt_or_eq_of_le R.s0 with h0|h0
  .exact h0
  .exact absurd h (R.hold h0.symm).1
theorem Me{W:Int}:∀(n:Nat){Q:List R5},VQ Q W->∀q∈Q,q.s=0->q∈(dS n Q).1:=by
 intro n
 induction n with
 |zero=>intro Q v q hq _;exact hq
 |succ n ih=>
  intro Q v q hq h0;unfold dS;split
  .exact hq
  .rename_i i hf;split
   .exact hq
   .rename_i r hr;by_cases hfit:iC Q r=true
    ·rw[if_pos hfit];refine ih (v.Po hf hr hfit) q ?_ h0;obtain⟨k,hk⟩:=List.getElem?_of_mem hq;have hne:i≠k:=by
      rintro rfl;rw[hr]at hk;cases hk;have:=jZ v hf hr;omega
     exact List.mem_of_getElem? (i:=k) (by rw[List.getElem?_set,if_neg hne];exact hk)
    .rw[if_neg hfit];exact hq
theorem CG{W:Int}:∀(n:Nat){Q:List R5},VQ Q W->VQ (dS n Q).1 W/\(dS n Q).1.map Iw=Q.map Iw/\(i_ Q<n->r5 (dS n Q).1)/\(∀i∈(dS n Q).2,∃r∈(dS n Q).1,r.id=i/\r.m≠0/\r.s=0):=by
 intro n
 induction n with
 |zero=>intro Q v;exact⟨v,rfl,λh=>XQ,λi h=>(by cases h)⟩
 |succ n ih=>
  intro Q v;unfold dS;split
  .rename_i hf;refine⟨v,rfl,λ_=>?_,λi h=>(by cases h)⟩;intro i r h _;rw[hf]at h;cases h
  .rename_i i hf;split
   .rename_i hr;refine⟨v,rfl,λ_=>?_,λi h=>(by cases h)⟩;intro j r h h2;rw[hf]at h;cases h;rw[hr]at h2;cases h2
   .rename_i r hr;by_cases hfit:iC Q r=true
    ·rw[if_pos hfit];have v2:=v.Po hf hr hfit;obtain⟨h1,h2,h3,h4⟩:=ih v2;have hc:=rZ hr (jZ v hf hr);have hkey:(Q.set i (dQ r)).map Iw=Q.map Iw:=by
      rw[List.map_set];have:Iw (dQ r)=Iw r:=rfl;rw[this];apply List.ext_getElem?;intro k;rw[List.getElem?_set];by_cases hik:i=k
      .subst hik;have hil:=(List.getElem?_eq_some_iff.1 hr).1;rw[if_pos rfl,if_pos (by simpa using hil),List.getElem?_map,hr];rfl
      .rw[if_neg hik]
     refine⟨h1,h2.trans hkey,λh=>h3 XQ,λj hj=>?_⟩;rcases List.mem_cons.1 hj with rfl|hj
     .refine⟨dQ r,Me n v2 (dQ r) ?_ rfl,rfl,?_,rfl⟩
      .have hil:=(List.getElem?_eq_some_iff.1 hr).1;exact List.mem_of_getElem? (i:=i) (by rw[List.getElem?_set,if_pos rfl,if_pos hil])
      .exact yy (v.right r (List.mem_of_getElem? hr)) (jZ v hf hr)
     .exact h4 j hj
    .rw[if_neg hfit];refine⟨v,rfl,λ_=>?_,λi h=>(by cases h)⟩;intro j q h h2;rw[hf]at h;cases h;rw[hr]at h2;cases h2;simpa using hfit
theorem yz{Q:List R5}(h:r5 Q)(n:Nat):dS n Q=(Q,[]):=by
 cases n with
 |zero=>rfl
 |succ n=>
  unfold dS;split
  .rfl
  .rename_i i hf;split
   .rfl
   .rename_i r hr;rw[if_neg (by rw[h i r hf hr];simp)]
end Go.Vai

namespace Go.Vai
open Go Go.Clashes
def bZ(m:Int):Bool:=decide (m≠0) && kn m
theorem lS(m:Int):bZ m=true<->m≠0/\kn m=true:=by simp[bZ]
def b_(id:Int)(r:R5):Bool:=decide (r.id=id)
def ct(Q:List R5)(id:Int):Option R5:=Q.find? (b_ id)
theorem iQ{Q:List R5}{id:Int}{r:R5}(h:ct Q id=some r):r∈Q/\r.id=id:=by
 unfold ct at h;have:=List.find?_some h;exact⟨List.mem_of_find?_eq_some h,by simpa[b_]using this⟩
theorem r6{Q:List R5}{id:Int}(h:ct Q id=none):∀r∈Q,r.id≠id:=by
 unfold ct at h;rw[List.find?_eq_none]at h;intro r hr e;exact h r hr (by simp[b_,e])
theorem Mf{Q:List R5}(hp:Q.Pairwise yx){r:R5}(hr:r∈Q):ct Q r.id=some r:=by
 cases h:ct Q r.id with
 |none=>exact absurd rfl (r6 h r hr)
 |some q=>
  obtain⟨h1,h2⟩:=iQ h;rw[XM hp h1 hr h2]
def j0(Q:List R5)(W id x m:Int):R5 × Int × Bool:=
 if(decide (ew Q=none) && iC Q ⟨id,x,0,m,0⟩)=true then(⟨id,x,m,m,0⟩,W,true)else(⟨id,x,0,m,W+1⟩,W+1,false)
theorem adh{m:Int}(h:iK 0 m=true):m=0:=by
 have key:∀j,j<7->iK 0 (j:Nat)=true->j=0:=by decide +kernel
 obtain⟨j,hj,rfl⟩:=iy (rW h).2;rw[key j hj h];rfl
theorem tj{α:Type}{R:α->α->Prop}{L:List α}{p:α}(h:L.Pairwise R)(h1:∀q∈L,R q p):(L++[p]).Pairwise R:=by
 rw[List.pairwise_append];exact⟨h,List.pairwise_singleton _ _,λq hq r hr=>by rw[List.mem_singleton]at hr;subst hr;exact h1 q hq⟩
theorem VQ.ask{Q:List R5}{W:Int}(v:VQ Q W){id x m:Int}(hid:0<=id)(hm:bZ m=true)(hn:∀q∈Q,q.id≠id/\q.x≠x):VQ (Q++[(j0 Q W id x m).1]) (j0 Q W id x m).2.1:=by
 obtain⟨m0,km⟩:=(lS m).1 hm;unfold j0;by_cases hc:(decide (ew Q=none) && iC Q ⟨id,x,0,m,0⟩)=true
 .rw[if_pos hc];rw[Bool.and_eq_true,decide_eq_true_eq,jE]at hc;have hall:=Iv hc.1;refine⟨v.w0,?_,tj v.pair ?_⟩
  .intro r hr;rcases List.mem_append.1 hr with hr|hr
   .exact v.right r hr
   .rw[List.mem_singleton]at hr;subst hr;exact⟨hid,km,km,Int.le_refl _,v.w0,λh=>absurd h (Int.lt_irrefl _),λ_=>⟨m0,rfl⟩⟩
  .intro q hq;exact⟨(hn q hq).1,(hn q hq).2,λh=>absurd h (hall q hq).2,λh1 _=>hc.2 q hq (hn q hq).1 h1,λe=>absurd e (hall q hq).1⟩
 .rw[if_neg hc];have v2:=v.mono (W':=W+1) XQ;refine⟨v2.w0,?_,tj v.pair ?_⟩
  .intro r hr;rcases List.mem_append.1 hr with hr|hr
   .exact v2.right r hr
   .rw[List.mem_singleton]at hr;subst hr;refine⟨hid,rfl,km,v2.w0,Int.le_refl _,λ_=>?_,λh=>?_⟩
    .cases hcv:iK 0 m with
     |false=>rfl
     |true=>exact absurd (adh hcv) m0
    .have:=v.w0;have h:W+1=0:=h;omega
  .intro q hq;have:=(v.right q hq).sW;exact⟨(hn q hq).1,(hn q hq).2,λ_=>(λe:q.s=W+1=>by omega),λ_ h=>absurd rfl h,λ_=>⟨rfl,by show q.s<W+1;omega⟩⟩
def jq(Q:List R5)(W:Int)(r:R5)(m:Int):R5 × Int × Bool:=
 if(decide (bA r.m m=r.m) || (iC Q ⟨r.id,r.x,r.m,bA r.m m,r.s⟩ && !Q.any w8))=true then(⟨r.id,r.x,bA r.m m,bA r.m m,r.s⟩,W,true)else(⟨r.id,r.x,r.m,bA r.m m,W+1⟩,W+1,false)
theorem VQ.upg{Q:List R5}{W:Int}(v:VQ Q W){i:Nat}{r:R5}{m:Int}(hr:Q[i]? = some r)(hs:¬0<r.s)(hm:bZ m=true):VQ (Q.set i (jq Q W r m).1) (jq Q W r m).2.1:=by
 obtain⟨m0,km⟩:=(lS m).1 hm;have R:=v.right r (List.mem_of_getElem? hr);have hs0:r.s=0:=by have:=R.s0;omega
 obtain⟨rm0,rw⟩:=R.hold hs0;obtain⟨_,c1,c2,c3,_⟩:=yu R.km km;have ks:=XK R.km km;have before:∀(j:Nat)(q:R5),j<i->Q[j]? = some q->q.m≠0:=λj q hj hq e=>rm0 ((dY.1 v.pair j i q r hj hq hr).ord e).1;unfold jq;by_cases hc:(decide (bA r.m m=r.m) || (iC Q ⟨r.id,r.x,r.m,bA r.m m,r.s⟩ && !Q.any w8))=true
 ·rw[if_pos hc];have hfit:∀o∈Q,o.id≠r.id->o.m≠0->cmp o.m (bA r.m m)=true:=by
   intro o ho h1 h2;rw[Bool.or_eq_true,decide_eq_true_eq,Bool.and_eq_true,jE]at hc;rcases hc with e|⟨h,_⟩
   .rw[e];obtain⟨k,hk⟩:=List.getElem?_of_mem ho;rcases Nat.lt_trichotomy k i with dB|dB|dB
    .exact(dY.1 v.pair k i o r dB hk hr).cm h2 rm0
    .subst dB;rw[hr]at hk;cases hk;exact absurd rfl h1
    .rw[tg];exact(dY.1 v.pair i k r o dB hr hk).cm rm0 h2
   .exact h o ho h1 h2
  refine⟨v.w0,?_,rY v.pair ?_ ?_⟩
  .intro q hq;rcases mem_set hq with rfl|hq
   .exact⟨R.id,ks,ks,R.s0,R.sW,λh=>absurd h hs,λ_=>⟨c3 m0,rfl⟩⟩
   .exact v.right q hq
  .intro j q hj hq;have P:=dY.1 v.pair j i q r hj hq hr;exact⟨P.id,P.x,P.s,λh1 _=>hfit q (List.mem_of_getElem? hq) P.id h1,λe=>absurd e (before j q hj hq)⟩
  .intro j q hj hq;have P:=dY.1 v.pair i j r q hj hr hq;exact⟨P.id,P.x,P.s,λ_ h2=>by rw[tg];exact hfit q (List.mem_of_getElem? hq) (λe=>P.id e.symm) h2,λe=>absurd e (c3 m0)⟩
 .rw[if_neg hc];have v2:=v.mono (W':=W+1) XQ;rw[Bool.or_eq_true,decide_eq_true_eq]at hc;refine⟨v2.w0,?_,rY v.pair ?_ ?_⟩
  .intro q hq;rcases mem_set hq with rfl|hq
   .refine⟨R.id,R.km,ks,v2.w0,Int.le_refl _,λ_=>?_,λh=>?_⟩
    .cases hcv:iK r.m (bA r.m m)with
     |false=>rfl
     |true=>exact absurd (.inl (Pj c1 hcv)) hc
    .have:=v.w0;have h:W+1=0:=h;omega
   .exact v2.right q hq
  .intro j q hj hq;have P:=dY.1 v.pair j i q r hj hq hr;have:=(v.right q (List.mem_of_getElem? hq)).sW;exact⟨P.id,P.x,λ_=>(λe:q.s=W+1=>by omega),P.cm,λe=>absurd e (before j q hj hq)⟩
  .intro j q hj hq;have P:=dY.1 v.pair i j r q hj hr hq;have:=(v.right q (List.mem_of_getElem? hq)).sW;exact⟨P.id,P.x,λ_=>(λe:W+1=q.s=>by omega),P.cm,λe=>absurd e rm0⟩
def rA(r:R5)(x:Int):R5:=⟨r.id,x,r.m,r.w,r.s⟩
theorem VQ.hand{Q:List R5}{W:Int}(v:VQ Q W){i:Nat}{r:R5}{x:Int}(hr:Q[i]? = some r)(hx:∀q∈Q,q.id≠r.id->q.x≠x):VQ (Q.set i (rA r x)) W:=by
 have R:=v.right r (List.mem_of_getElem? hr);refine⟨v.w0,?_,rY v.pair ?_ ?_⟩
 .intro q hq;rcases mem_set hq with rfl|hq
  .exact⟨R.id,R.km,R.kw,R.s0,R.sW,R.wait,R.hold⟩
  .exact v.right q hq
 .intro j q hj hq;have P:=dY.1 v.pair j i q r hj hq hr;exact⟨P.id,hx q (List.mem_of_getElem? hq) P.id,P.s,P.cm,P.ord⟩
 .intro j q hj hq;have P:=dY.1 v.pair i j r q hj hr hq;exact⟨P.id,λe=>hx q (List.mem_of_getElem? hq) (λe=>P.id e.symm) e.symm,P.s,P.cm,P.ord⟩
end Go.Vai

namespace Go.Vai
open Go
variable {β:Type}{fl:β}
def Tz(fl:β)(l c:Value)(z:List Value)(e:TypeId)(h:af)(V:UV β):β:=
 match l,c with
 | .int _ (.ofNat l),.int _ (.ofNat c)=>match Nat.ble l c,Nat.ble c 1000000 with
  |true,true=>aK fl (a_ z c) e false λo=>aD fl o h λb h=>V (bU l c b) h
  |_,_=>fl
 |_,_=>fl
theorem CH(n:Nat)(z:List Value)(e:TypeId)(h:af)(V:UV β)(hn:n<=1000000)(hl:(a_ z n).length<=1000000000000):Tz fl (.int .i64 (n:Int)) (.int .i64 (n:Int)) z e h V=V (.slice (some ⟨h.nx,0,none⟩) n n) ⟨h.nx+1,h.bl.bq h.nx (ai (a_ z n) e false),h.lo⟩:=by
 have e1:Nat.ble n n=true:=Nat.ble_eq_true_of_le (Nat.le_refl _);have e2:Nat.ble n 1000000=true:=Nat.ble_eq_true_of_le hn
 show(match Nat.ble n n,Nat.ble n 1000000 with|true,true=>_|_,_=>fl)=_
 rw[e1,e2];simp only;rw[iX _ _ _ _ hl,dN];rfl
end Go.Vai
end
