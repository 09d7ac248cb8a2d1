/-
  PROVED HERE: a part of the proof (VaiG, Plain, PM, Q1, Q2, VaiH).
-/
import Derived.Test.YtmllggkhfmjpgaaGreatDoorG2
set_option linter.unusedVariables false
set_option linter.unusedSimpArgs false
set_option maxRecDepth 100000
noncomputable section
namespace Go.Vai
open Go Go.RowKit
def gQ:Option Nat->Int|some i=>i|none=>-1
def HQ(a b:ah):Prop:=a=b
theorem Pt{α:Type}(L:List α)(F:α->Bool):(decide (0<=gQ (L.findIdx? F)))=L.any F:=by
 cases hf:L.findIdx? F with
 |none=>
  rw[List.findIdx?_eq_none_iff]at hf;have:L.any F=false:=by rw[List.any_eq_false];intro x hx;simp[hf x hx]
  rw[this];rfl
 |some i=>
  rw[List.findIdx?_eq_some_iff_getElem]at hf;obtain⟨hi,h1,_⟩:=hf;have:L.any F=true:=List.any_eq_true.2 ⟨_,List.getElem_mem hi,h1⟩;rw[this];exact decide_eq_true (by show(0:Int)<=(i:Int);omega)
theorem jZ{α:Type}(L:List α)(F:α->Bool):(L.findIdx? F=none/\∀x∈L,F x=false)\/∃(i:Nat)(p:α),L.findIdx? F=some i/\L[i]? = some p/\F p=true/\∀(j:Nat)(q:α),j<i->L[j]? = some q->F q=false:=by
 cases hf:L.findIdx? F with
 |none=>
  rw[List.findIdx?_eq_none_iff]at hf;exact .inl ⟨rfl,hf⟩
 |some i=>
  rw[List.findIdx?_eq_some_iff_getElem]at hf;obtain⟨hi,h1,h2⟩:=hf;refine .inr ⟨i,L[i],rfl,List.getElem?_eq_getElem hi,h1,λj q hj hq=>?_⟩;have:=h2 j hj;rw[(List.getElem?_eq_some_iff.1 hq).2]at this;simpa using this
theorem EN{α:Type}{L:List α}{F:α->Bool}{i:Nat}{p:α}(hp:L[i]? = some p)(h1:F p=true)(h2:∀(j:Nat)(q:α),j<i->L[j]? = some q->F q=false):L.findIdx? F=some i:=by
 rw[List.findIdx?_eq_some_iff_getElem];obtain⟨gP,hk2⟩:=List.getElem?_eq_some_iff.1 hp;refine⟨gP,by rw[hk2];exact h1,λj hj=>?_⟩;simpa using h2 j _ hj (List.getElem?_eq_getElem XV)
theorem EO{α:Type}{L:List α}{F:α->Bool}(h2:∀(j:Nat)(q:α),L[j]? = some q->F q=false):L.findIdx? F=none:=by
 rw[List.findIdx?_eq_none_iff];intro p hp;obtain⟨j,hj⟩:=List.getElem?_of_mem hp;exact h2 j p hj
theorem gY{α:Type}{F:α->Bool}{L:List α}{j:Nat}{p:α}(hp:L[j]? = some p):(L.take (j+1)).filter F=(L.take j).filter F++if F p then[p]else[]:=by
 obtain⟨hj,rfl⟩:=List.getElem?_eq_some_iff.1 hp;rw[List.take_succ_eq_append_getElem hj,List.filter_append];cases h:F L[j]<;>simp[h]
def eu(P:Program)(ti:TypeId)(s:Nat)(a0 a1:Value)(h:ah)(Y:KQ):Prop:=
 bh False a0 h λv0 h=>
 cz [undef,undef,undef,undef,undef,undef,undef,undef,undef,undef,(Value.int .i64 (0)),undef,(Value.int .i64 (0))] h λl2 h N1=>
 aG False P .lss ti false false (aa l2 12) v0 h λv3 h=>
 aI v3 (
 az False s a0 (aa l2 12) h λv4 h=>
 aN False s v4 h λv5 h=>
 jL P a1 [v5] h λv6 h=>
 aI v6 (
 Y (aa l2 12) h) (
 aG False P .add ti true false (aa l2 12) (Value.int .i64 (1)) h λv7 h=>
 N1 [v3,(aa l2 12),(aa l2 12),a1,a0,(aa l2 12),v4,v5,v6,(aa l2 9),(aa l2 10),v7,v7] h)) (
 Y (Value.int .i64 (-1)) h)
def mh(P:Program)(ti:TypeId)(g:FuncId)(a0 a1:Value)(h:ah)(Y:KQ):Prop:=
 aj P g [a0,a1] h λv0 h=>
 aG False P .geq ti true false v0 (Value.int .i64 (0)) h λv1 h=>
 Y v1 h
def r5(P:Program)(tS e s:Nat)(z:List Value)(a0:Value)(h:ah)(Y:KQ):Prop:=
 aG False P .eql tS true false a0 (Value.slice none 0 0) h λv0 h=>
 aI v0 (
 Y (Value.slice none 0 0) h) (
 bM False [] [] (aV z 0) λcs3=>aK False cs3 e false λo1=>aF False o1 h λb2 h=>
 bt False And e s z false (bB 0 0 b2) a0 h λv4 h=>
 Y v4 h)
def iT(P:Program)(ti:TypeId)(g:FuncId)(e s:Nat)(z:List Value)(a0 a1:Value)(h:ah)(Y:KQ):Prop:=
 aj P g [a0,a1] h λv0 h=>
 aG False P .eql ti true false v0 (Value.int .i64 (-1)) h λv1 h=>
 aI v1 (
 Y a0 h) (
 aG False P .add ti true false v0 (Value.int .i64 (1)) h λv2 h=>
 cz [undef,undef,undef,undef,undef,undef,undef,undef,undef,undef,undef,undef,undef,undef,undef,undef,undef,undef,undef,v0,undef,undef,v2] h λl4 h N3=>
 bh False a0 h λv5 h=>
 aG False P .lss ti false false (aa l4 22) v5 h λv6 h=>
 aI v6 (
 dz (λN7=>
 az False s a0 (aa l4 22) h λv9 h=>
 aN False s v9 h λv10 h=>
 aK False z e false λo11=>aF False o11 h λuT h=>
 aM False s (av uT) v10 h λbP h=>
 aN False s (av uT) h λbO h=>
 jL P a1 [bO] h λbN h=>
 jB False .not bN h λcg h=>
 aI cg (
 aN False s (av uT) h λv17 h=>
 az False s a0 (aa l4 19) h λdg h=>
 aM False s dg v17 h λcI h=>
 aG False P .add ti true false (aa l4 19) (Value.int .i64 (1)) h λv20 h=>
 N7 [a0,(aa l4 22),v9,v10,(av uT),a1,bO,bN,cg,a0,(aa l4 19),v17,dg,(aa l4 19),v20,v20] h) (
 N7 [a0,(aa l4 22),v9,v10,(av uT),a1,bO,bN,cg,(aa l4 13),(aa l4 14),(aa l4 15),(aa l4 16),(aa l4 17),(aa l4 18),(aa l4 19)] h)) λl8 h=>
 aG False P .add ti true false (aa l4 22) (Value.int .i64 (1)) h λv21 h=>
 N3 [(aa l4 22),a0,v5,v6,(aa l8 0),(aa l8 1),(aa l8 2),(aa l8 3),(aa l8 4),(aa l8 5),(aa l8 6),(aa l8 7),(aa l8 8),(aa l8 9),(aa l8 10),(aa l8 11),(aa l8 12),(aa l8 13),(aa l8 14),(aa l8 15),(aa l4 22),v21,v21] h) (
 sliceB False e s a0 (some (aa l4 19)) none none h λv22 h=>
 jE False z v22 h λv23 h=>
 sliceB False e s a0 none (some (aa l4 19)) none h λv24 h=>
 Y v24 h))
section
variable {P:Program}{α:Type}{enc:α->List Value}{s:Nat}{ti:TypeId}{f g:FuncId}
def wV(enc:α->List Value)(p:α):Value:=.agg ⟨enc p⟩
theorem mj(mix:P.follows .mixedOrders=true)(he:∀a:α,(enc a).length=s)(hb:∀a0 a1 h Y,aO P f [a0,a1] h Y=eu P ti s a0 a1 h Y)(L:List α)(F:α->Bool)(h:ah)(v fv:Value)(Y:KQ)(hv:Sl enc h v L)(hlen:L.length<=1000000)(hF:∀p,p∈L->∀(h1:ah)(κ1:Value->ah->Prop),Le h h1->(∀h2,Le h1 h2->κ1 (.bool (F p)) h2)->jL P fv [wV enc p] h1 κ1)(hk:∀h',Le h h'->Y (.int .i64 (gQ (L.findIdx? F))) h'):aj P f [v,fv] h Y:=by
 refine ay mix ?_;rw[hb];unfold eu;simp only[hv.len];refine⟨λn l h1=>Le h h1/\∃k:Nat,aa l 12=.int .i64 (k:Int)/\k<=L.length/\n=L.length-k/\∀(j:Nat) p,j<k->L[j]? = some p->F p=false,⟨_,Le.refl _,0,rfl,Nat.zero_le _,rfl,XV⟩,?_⟩;rintro n l h1 ⟨hle,k,hs,MM,rfl,hno⟩;by_cases hlt:k<L.length
 .obtain⟨p,hp⟩:∃p,L[k]? = some p:=⟨_,List.getElem?_eq_getElem hlt⟩
  obtain⟨b,o,hb,oQ,mO,_⟩:=(hv.le hle).ld he k hp;simp(disch:=try exact QQ)only[Wz,hs,oQ,mO];refine hF p (List.mem_of_getElem? hp) h1 _ hle ?_;intro h2 hle2;cases hc:F p with
  |true=>
   simp(disch:=try exact QQ)only[Wz,hs];have hk2:=hk h2 (hle.trans hle2);rw[EN hp hc hno]at hk2;exact hk2
  |false=>
   simp(disch:=try exact QQ)only[Wz,hs];refine⟨_,XV,hle.trans hle2,k+1,rfl,XV,rfl,λj q hj hq=>?_⟩;rcases Nat.lt_or_ge j k with h4|h4
   .exact hno j q h4 hq
   .obtain rfl:j=k:=by omega
    rw[hp]at hq;cases hq;exact hc
 .simp(disch:=try exact QQ)only[Wz,hs];have hk2:=hk h1 hle;rw[EO λj q hq=>hno j q (by have:=(List.getElem?_eq_some_iff.1 hq).1;omega) hq]at hk2;exact hk2
theorem AU(mix:P.follows .mixedOrders=true)(he:∀a:α,(enc a).length=s)(hg:∀a0 a1 h Y,aO P g [a0,a1] h Y=eu P ti s a0 a1 h Y)(hb:∀a0 a1 h Y,aO P f [a0,a1] h Y=mh P ti g a0 a1 h Y)(L:List α)(F:α->Bool)(h:ah)(v fv:Value)(Y:KQ)(hv:Sl enc h v L)(hlen:L.length<=1000000)(hF:∀p,p∈L->∀(h1:ah)(κ1:Value->ah->Prop),Le h h1->(∀h2,Le h1 h2->κ1 (.bool (F p)) h2)->jL P fv [wV enc p] h1 κ1)(hk:∀h',Le h h'->Y (.bool (L.any F)) h'):aj P f [v,fv] h Y:=by
 refine ay mix ?_;rw[hb];unfold mh;refine mj mix he hg L F h v fv _ hv hlen hF ?_;intro h' hl;have:=hk h' hl;rw[<-Pt]at this;by_cases h0:gQ (L.findIdx? F)<0
 .simp(disch:=try exact QQ)only[Wz]
  rwa [a_ XV]at this
 .simp(disch:=try exact QQ)only[Wz]
  rwa [bq XV]at this
def BG(P:Program)(tS:TypeId):Prop:=(∀(h:ah)(n c n' c':Nat),nH P h 100 tS (.slice none n c) (.slice none n' c')=some true)/\∀(h:ah)(a:Addr)(n c n' c':Nat),nH P h 100 tS (.slice (some a) n c) (.slice none n' c')=some false
theorem EP{β:Type}{fl:β}{tS:TypeId}(he:BG P tS)(cn:Bool)(n c n' c':Nat)(h:ah)(Y:XW β):aG fl P .eql tS cn false (.slice none n c) (.slice none n' c') h Y=Y (.bool true) h:=by
 simp only[aG,he.1,cF]
theorem ES{β:Type}{fl:β}{tS:TypeId}(he:BG P tS)(cn:Bool)(a:Addr)(n c n' c':Nat)(h:ah)(Y:XW β):aG fl P .eql tS cn false (.slice (some a) n c) (.slice none n' c') h Y=Y (.bool false) h:=by
 simp only[aG,he.2,cF]
theorem XG(mix:P.follows .mixedOrders=true)(he:∀a:α,(enc a).length=s)(hone:∀a:α,(enc a).all eO=true)(hs0:0<s)(hs1:s<=100){tS e:TypeId}{z:List Value}(hq:BG P tS)(hb:∀a0 h Y,aO P f [a0] h Y=r5 P tS e s z a0 h Y)(L:List α)(h:ah)(v:Value)(Y:KQ)(hv:Sl enc h v L)(hlen:L.length<=1000000)(hlo:h.lo<=h.nx)(hk:∀v' h',eG enc h e h' v' L->Le h h'->Y v' h'):aj P f [v] h Y:=by
 refine ay mix ?_;rw[hb];unfold r5;have hv0:=hv;obtain⟨x,cap,rfl,hx⟩:=hv;cases x with
 |none=>
  simp(disch:=try exact QQ)only[Wz,EP hq];by_cases hL:L=[]
  .exact hk _ _ (.inl ⟨hL,.inl rfl⟩) (Le.refl _)
  .obtain⟨b,o,e,_⟩:=hx hL;cases e
 |some a=>
  simp(disch:=try exact QQ)only[Wz,ES hq];have hle:=(Le.refl h).new (ai [] e false);refine I_ (enc:=enc) (a:=h) (L:=[]) (M:=L) he hone hs0 hs1 (.inl ⟨rfl,.inr ⟨_,_,rfl⟩⟩) (hv0.le hle) hle (by simpa using hlen) (by show h.lo<=h.nx+1;omega) _ ?_;intro v' h' ho hl _ _;exact hk v' h' (by simpa using ho) hl
theorem gJ(he:∀a:α,(enc a).length=s)(L:List α)(i:Nat)(p:α)(hi:i<L.length):over (L.flatMap enc) (i*s) (enc p)=(L.set i p).flatMap enc:=by
 have e:L.set i p=L.take i++[p]++L.drop (i+1):=by
  rw[List.set_eq_take_append_cons_drop,if_pos hi];simp
 rw[e];simp only[over,he,List.flatMap_append,List.flatMap_cons,List.flatMap_nil,List.append_nil];rw[mg he,show i*s+s=(i+1)*s by rw[Nat.succ_mul],yH he]
theorem xz{z:List Value}(hz:z.length=s)(n:Nat):(aV z n).length=n*s:=by
 induction n with
 |zero=>simp[aV]
 |succ n ih=>simp only[aV,List.length_append,ih,hz];rw[Nat.succ_mul];omega
theorem xA{z:List Value}(hz:z.all eO=true)(n:Nat):(aV z n).all eO=true:=by
 induction n with
 |zero=>rfl
 |succ n ih=>simp only[aV,List.all_append,ih,hz];rfl
theorem XH(he:∀a:α,(enc a).length=s)(hone:∀a:α,(enc a).all eO=true)(p:α){vs:List Value}{e:TypeId}{op:Bool}{b o:Nat}{h:ah}{Y:ah->Prop}(h3:o+s<=vs.length)(hlo:h.lo<=b):DJ False (some (ai vs e op)) s b o (enc p) h Y=Y ⟨h.nx,h.bl.bx b (ai (over vs o (enc p)) e op),h.lo⟩:=ou _ _ _ _ _ _ _ _ _ (he p) (hone p) h3 hlo
def mQ(e:TypeId)(h:ah)(v:Value):Prop:=∀b o n c,v=.slice (some ⟨b,o,none⟩) n c->n≠0->b<h.nx/\∃vs op,h.bl.get b=some (ai vs e op)
theorem mQ.le{e:TypeId}{h h':ah}{v:Value}(t:mQ e h v)(l:Le h h'):mQ e h' v:=λb o n c hv hn=>by
 obtain⟨h1,vs,op,h2⟩:=t b o n c hv hn;exact⟨Nat.lt_of_lt_of_le h1 l.nx,vs,op,(l.get b h1).trans h2⟩
theorem mQ.own{a h:ah}{e:TypeId}{v:Value}{L:List α}(ho:eG enc a e h v L):mQ e h v:=by
 intro b o n c hv hn;rcases ho with⟨_,rfl|⟨b',o',rfl⟩⟩|⟨b',rfl,h1,h2,h3,h4⟩
 .cases hv
 .cases hv;exact absurd rfl hn
 .cases hv;exact⟨h2,_,_,h4⟩
theorem mQ.put{e:TypeId}{h:ah}{v:Value}(t:mQ e h v){d:Nat}(hd:∀vs op,h.bl.get d≠some (ai vs e op))(o':bT):mQ e ⟨h.nx,h.bl.bx d o',h.lo⟩ v:=by
 intro b o n c hv hn;obtain⟨h1,vs,op,h2⟩:=t b o n c hv hn;refine⟨h1,vs,op,(T.au _ _ ?_).trans h2⟩;rintro rfl;exact hd vs op h2
theorem Sl.put{e:TypeId}{h:ah}{v:Value}{L:List α}(hs:Sl enc h v L)(t:mQ e h v){d:Nat}(hd:∀vs op,h.bl.get d≠some (ai vs e op))(o':bT):Sl enc ⟨h.nx,h.bl.bx d o',h.lo⟩ v L:=by
 obtain⟨x,cap,rfl,h2⟩:=hs;refine⟨x,cap,rfl,λhn=>?_⟩;obtain⟨b,o,rfl,h3,h4⟩:=h2 hn;obtain⟨h1,vs,op,h5⟩:=t b o _ cap rfl (by intro h0;exact hn (List.eq_nil_of_length_eq_zero h0));refine⟨b,o,rfl,h3,?_⟩;have:(h.bl.bx d o').get b=h.bl.get b:=T.au _ _ (by rintro rfl;exact hd vs op h5)
 show Has ((h.bl.bx d o').get b) _ _
 rw[this];exact h4
theorem Jd(mix:P.follows .mixedOrders=true)(he:∀a:α,(enc a).length=s)(hone:∀a:α,(enc a).all eO=true)(hs0:0<s){e:TypeId}{z:List Value}(hz:z.length=s)(Iq:z.all eO=true)(hs1:s<=1000)(hg:∀a0 a1 h Y,aO P g [a0,a1] h Y=eu P ti s a0 a1 h Y)(hb:∀a0 a1 h Y,aO P f [a0,a1] h Y=iT P ti g e s z a0 a1 h Y)(a h:ah)(L:List α)(F:α->Bool)(v fv:Value)(Y:KQ)(hle:Le a h)(ho:eG enc a e h v L)(hlen:L.length<=100000)(hlo:a.lo<=a.nx)(hF:∀p,∀(h1:ah)(κ1:Value->ah->Prop),Le a h1->(h.nx<=h1.nx/\∀c,c<h.nx->h.bl.get c≠some (ai (L.flatMap enc) e true)->h1.bl.get c=h.bl.get c)->(∀h2,Le h1 h2->κ1 (.bool (F p)) h2)->jL P fv [wV enc p] h1 κ1)(hk:∀v' h',Sl enc h' v' (L.filter λp=>!F p)->Cut e s h' v' (L.filter λp=>!F p).length->Le a h'->(h.nx<=h'.nx/\∀c,c<h.nx->h.bl.get c≠some (ai (L.flatMap enc) e true)->h'.bl.get c=h.bl.get c)->mQ e h' v'->Y v' h'):aj P f [v,fv] h Y:=by
 refine ay mix ?_;rw[hb];unfold iT;refine mj mix he hg L F h v fv _ ho.sl XV (λp _ h1 κ1 hl gP=>hF p h1 κ1 (hle.trans hl) ⟨hl.nx,λc hc _=>hl.get c hc⟩ gP) ?_;intro h1 hle1;have ue:=hle.trans hle1;have n1:=ue.nx;have l1:=ue.lo;rcases jZ L F with⟨e1,e2⟩|⟨i0,p0,e1,e2,e3,e4⟩
 .simp only[e1,gQ];simp(disch:=try exact QQ)only[Wz];have:(L.filter λp=>!F p)=L:=List.filter_eq_self.2 λp hp=>by simp[e2 p hp]
  rw[this]at hk;exact hk v h1 (ho.sl.le hle1) ((Cut.own he ho).le hle1) ue ⟨hle1.nx,λc hc _=>hle1.get c hc⟩ (mQ.own (ho.le hle1))
 ·simp only[e1,gQ];have XJ:i0<L.length:=(List.getElem?_eq_some_iff.1 e2).1;have CO:(L.take i0).filter (λp=>!F p)=L.take i0:=List.filter_eq_self.2 λp hp=>by
   obtain⟨j,hj⟩:=List.getElem?_of_mem hp;have hj':j<i0:=by have:=(List.getElem?_eq_some_iff.1 hj).1;simp at this;omega
   rw[List.getElem?_take_of_lt hj']at hj;simp[e4 j p hj' hj]
  rcases ho with⟨rfl,_⟩|⟨b,rfl,b1,b20,b30,Od⟩
  .simp at XJ
  have m1:=hle1.nx;have b2:b<h1.nx:=by omega
  have b3:h1.lo<=b:=by rw[hle1.lo];exact b30
  have b4:h1.bl.get b=some (ai (L.flatMap enc) e true):=(hle1.get b b20).trans Od;simp(disch:=try exact QQ)only[Wz]
  refine ⟨λn l h2=>Le a h2/\b<h2.nx/\(h.nx<=h2.nx/\∀c,c<h.nx->c≠b->h2.bl.get c=h.bl.get c)/\∃(j i:Nat)(K:List α),aa l 22=.int .i64 (j:Int)/\aa l 19=.int .i64 (i:Int)/\j<=L.length/\i<j/\n=L.length-j/\K.length=L.length/\
    K.take i=(L.take j).filter (λp=>!F p)/\K.drop j=L.drop j/\h2.bl.get b=some (ai (K.flatMap enc) e true),
   ⟨_,ue,b2,⟨m1,λc hc _=>hle1.get c hc⟩,i0+1,i0,L,rfl,rfl,XV,XV,rfl,rfl,?_,rfl,b4⟩,?_⟩
  .rw[gY e2,CO,e3];simp
  rintro n l h2 ⟨hle2,sv,hfr,j,i,K,s1,s2,hj,hij,rfl,hK,Pu,Wb,hg2⟩;have n2:=hle2.nx;have l2:=hle2.lo;have hfl:=bg (enc:=enc) he K;by_cases hlt:j<L.length
  .obtain⟨p,hp⟩:∃p,L[j]? = some p:=⟨_,List.getElem?_eq_getElem hlt⟩
   have hpK:K[j]? = some p:=by
    have:(K.drop j)[0]? = (L.drop j)[0]?:=by rw[Wb]
    simpa[hp]using this
   have ET:Sl enc h2 (.slice (some ⟨b,0,none⟩) L.length aS) K:=⟨_,aS,by rw[hK],λ_=>⟨b,0,rfl,sv,by rw[hg2];exact Has.all⟩⟩
   obtain⟨b',o',hb',oQ,mO,_⟩:=ET.ld he j hpK;have bat:=oQ Nat 0 h2 λv _=>match v with | .pointer (some a)=>a.block|_=>0
   rw[aX _ _ _ _ _ _ _ _ hlt]at bat;have Iu:b=b':=bat;subst Iu;have hep:=he p;have hop:=hone p;have XK:(enc p).take s=enc p:=by rw[<-hep,List.take_length]
   have Xh:=qN z (enc p) XV;simp(disch:=try exact QQ)only[Wz,s1,s2,oQ,mO];refine⟨λl h'=>Le a h'/\b<h'.nx/\(h.nx<=h'.nx/\∀c,c<h.nx->c≠b->h'.bl.get c=h.bl.get c)/\∃(i':Nat)(K':List α),aa l 15=.int .i64 (i':Int)/\i'<j+1/\K'.length=L.length/\
    K'.take i'=(L.take (j+1)).filter (λp=>!F p)/\K'.drop (j+1)=L.drop (j+1)/\h'.bl.get b=some (ai (K'.flatMap enc) e true),?_,?_⟩
   ·simp(disch:=try exact QQ)only[Wz,s1,s2,oQ,mO,XH he hone p,XK,Xh];have Pv:=hle2.new (ai (enc p) e false);refine hF p _ _ Pv ⟨by have:=hfr.1;show h.nx<=h2.nx+1;omega,λc hc hne=>(T.au _ _ (by have:=hfr.1;omega)).trans (hfr.2 c hc (λe=>hne (by rw[e];exact Od)))⟩ ?_;intro h3 dn;have n3:=dn.nx;have l3:=dn.lo;dsimp only at n3 l3;have g3:h3.bl.get h2.nx=some (ai (enc p) e false):=(dn.get h2.nx (Nat.lt_succ_self _)).trans (T.an _ _ _);have XL:h3.bl.get b=some (ai (K.flatMap enc) e true):=by
     rw[dn.get b (by show b<h2.nx+1;omega)]
     show(h2.bl.bx h2.nx _).get b=_
     rw[T.au _ _ XV];exact hg2
    have m_:=Pv.trans dn;have vr:h.nx<=h3.nx/\∀c,c<h.nx->c≠b->h3.bl.get c=h.bl.get c:=by
     have q0:=hfr.1;refine⟨XV,λc hc hne=>?_⟩;have e1:(h2.bl.bx h2.nx (ai (enc p) e false)).get c=h2.bl.get c:=T.au _ _ XV;exact(dn.get c (by show c<h2.nx+1;omega)).trans (e1.trans (hfr.2 c hc hne))
    cases hc:F p with
    |true=>
     simp(disch:=try exact QQ)only[Wz,s2];exact⟨m_,XV,vr,i,K,rfl,XV,hK,by rw[gY hp,hc];simpa using Pu,by rw[<-List.drop_drop,Wb,List.drop_drop],XL⟩
    |false=>
     have Ar:=gJ he K i p XV;have hbd:i*s+s<=(K.flatMap enc).length:=by rw[hfl,<-Nat.succ_mul];exact Nat.mul_le_mul_right _ XV
     simp(disch:=try exact QQ)only[Wz,s2,g3,XL,aX,XH he hone p,XK,Ar];refine⟨m_.set b1 _,XV,⟨vr.1,λc hc hne=>(T.au _ _ (λe=>hne e.symm)).trans (vr.2 c hc hne)⟩,i+1,K.set i p,rfl,XV,by simpa using hK,?_,?_,rfl⟩
     .rw[gY hp,hc,<-Pu];have hiK:i<K.length:=by omega
      rw[List.take_succ_eq_append_getElem (by simpa using hiK)];simp[List.take_set_of_le]
     .rw[List.drop_set_of_lt XV,<-List.drop_drop,Wb,List.drop_drop]
   .rintro l8 h3 ⟨dn,Ed,vr,i',K',s3,hi',XM,XN,XP,hg3⟩;simp(disch:=try exact QQ)only[Wz,s1,s3];exact⟨_,XV,dn,Ed,vr,j+1,i',K',rfl,rfl,XV,hi',rfl,XM,XN,XP,hg3⟩
  .have hjL:j=L.length:=by omega
   subst hjL;rw[List.take_length]at Pu;have r1:=xz hz (L.length-i);have r2:=xA Iq (L.length-i);have hbd:i*s+(L.length-i)*s=L.length*s:=by rw[<-Nat.add_mul];congr 1;omega
   simp(disch:=try exact QQ)only[Wz,s1,s2,jY (n:=L.length) (i:=i) hs0 hg2 (by rw[hfl,hK]) XV];rw[mZ hg2 XV (by rw[r1,hfl,hK];omega) r2 XV];have vt:(over (K.flatMap enc) (i*s) (aV z (L.length-i))).length=L.length*s:=by
    rw[jx (by rw[r1,hfl,hK];omega),hfl,hK]
   rw[oA (n:=L.length) (i:=i) (vs:=over (K.flatMap enc) (i*s) (aV z (L.length-i))) hs0 (T.an _ _ _) vt XV XV];have EU:(L.filter λp=>!F p).length=i:=by rw[<-Pu];simp;omega
   refine hk _ _ ⟨_,aS,by rw[EU],λ_=>⟨b,0,rfl,sv,?_⟩⟩ (.inr (.inr (.inr ⟨b,_,L.length,by rw[EU],sv,T.an _ _ _,vt,XV⟩))) (hle2.set b1 _) ⟨hfr.1,λc hc hne=>(T.au _ _ (λe=>hne (by rw[<-e];exact Od))).trans (hfr.2 c hc (λe=>hne (by rw[e];exact Od)))⟩ ?_
   rotate_left
   .intro b' o' n' c' vT _;cases vT;exact⟨sv,_,_,T.an _ _ _⟩
   have hh:Has (some (ai (over (K.flatMap enc) (i*s) (aV z (L.length-i))) e true)) 0 (((over (K.flatMap enc) (i*s) (aV z (L.length-i))).drop 0).take (i*s)):=Has.cells (by rw[vt];exact Nat.le_trans XV (Nat.le_refl _));have e9:((over (K.flatMap enc) (i*s) (aV z (L.length-i))).drop 0).take (i*s)=(L.filter λp=>!F p).flatMap enc:=by
    have aho:i*s<=K.length*s:=Nat.mul_le_mul_right _ XV;rw[<-Pu,List.drop_zero,over,List.append_assoc,List.take_append_of_le_length (by rw[List.length_take,hfl];omega),List.take_take,Nat.min_self,mg he]
   rw[e9]at hh
   show Has ((h2.bl.bx b _).get b) 0 _
   rw[T.an];exact hh
end
end Go.Vai

namespace Go.Clashes
structure H4 where
 x:Int
 t:Int
 r:Int
 m:Int
def tab:List (List Bool):=[
 [true,true,true,true,true,true,true],
 [true,true,true,true,true,true,false],
 [true,true,true,false,false,false,false],
 [true,true,false,true,false,true,false],
 [true,true,false,false,false,false,false],
 [true,true,false,true,false,false,false],
 [true,false,false,false,false,false,false]]
def cmp(a b:Int):Bool:=decide (0<=a) && decide (a<=6) && decide (0<=b) && decide (b<=6) && ((tab.getD a.toNat []).getD b.toNat false)
theorem qO(a b:Int):cmp a b=cmp b a:=by
 by_cases h:(0<=a/\a<=6)/\(0<=b/\b<=6)
 .have key:∀i,i<7->∀j,j<7->cmp (i:Nat) (j:Nat)=cmp (j:Nat) (i:Nat):=by decide
  have:=key a.toNat (by omega) b.toNat (by omega)
  rwa [show((a.toNat:Nat):Int)=a by omega,show((b.toNat:Nat):Int)=b by omega]at this
 ·have h1:cmp a b=false:=by
   cases hq:cmp a b with
   |false=>rfl
   |true=>simp[cmp]at hq;omega
  have h2:cmp b a=false:=by
   cases hq:cmp b a with
   |false=>rfl
   |true=>simp[cmp]at hq;omega
  rw[h1,h2]
def bad(p q:H4):Bool:=(p.t == q.t && p.r == q.r) && !(p.x == q.x) && !cmp p.m q.m
end Go.Clashes

namespace Go.Vai
open Go Go.Clashes
def kn(m:Int):Bool:=decide (0<=m) && decide (m<=6)
def ahp:List (List Bool):=[
 [true,false,false,false,false,false,false],
 [true,true,false,false,false,false,false],
 [true,true,true,false,false,false,false],
 [true,true,false,true,false,false,false],
 [true,true,true,true,true,false,false],
 [true,true,false,true,false,true,false],
 [true,true,true,true,true,true,true]]
def qP(a b:Int):Bool:=kn a && kn b && ((ahp.getD a.toNat []).getD b.toNat false)
def jC(a b:Int):Int:=if(kn a && kn b)=true then(if qP a b then a else if qP b a then b else if qP 4 a && qP 4 b then 4 else 6)else 0
theorem qQ(n:Nat):kn (.negSucc n)=false:=by
 have h:¬(0:Int)<=.negSucc n:=by omega
 unfold kn;rw[a_ h];rfl
theorem qR(n:Nat):kn (.ofNat (n+7))=false:=by
 have h:¬(Int.ofNat (n+7))<=6:=by show ¬((n+7:Nat):Int)<=6;omega
 unfold kn;rw[a_ h,Bool.and_false]
theorem CP{a b:Int}(h:qP a b=true):kn a=true/\kn b=true:=by
 simp only[qP,Bool.and_eq_true]at h;exact h.1
theorem Wc{a b:Int}(h:kn a=false):qP a b=false:=by simp[qP,h]
theorem We{a b:Int}(h:kn b=false):qP a b=false:=by simp[qP,h]
theorem Pw{a b:Int}(h:kn a=false):jC a b=0:=by simp[jC,h]
theorem Px{a b:Int}(h:kn b=false):jC a b=0:=by simp[jC,h]
theorem EV{a b:Int}(h:kn a=false):cmp a b=false:=by
 unfold cmp;unfold kn at h;rw[h];rfl
theorem Lc{a b:Int}(h:kn b=false):cmp a b=false:=by rw[qO];exact EV h
theorem BH(a:Int):(∃i:Nat,i<7/\a=Int.ofNat i)\/(∃n:Nat,a=Int.negSucc n)\/∃n:Nat,a=Int.ofNat (n+7):=by
 cases a with
 |negSucc n=>exact .inr (.inl ⟨n,rfl⟩)
 |ofNat i=>
  rcases Nat.lt_or_ge i 7 with h|h
  .exact .inl ⟨i,h,rfl⟩
  .exact .inr (.inr ⟨i-7,by congr 1;omega⟩)
theorem seven{p:Nat->Prop}(h0:p 0)(h1:p 1)(h2:p 2)(h3:p 3)(h4:p 4)(h5:p 5)(h6:p 6):∀i,i<7->p i:=by
 intro i hi;have:i=0\/i=1\/i=2\/i=3\/i=4\/i=5\/i=6:=by omega
 rcases this with rfl|rfl|rfl|rfl|rfl|rfl|rfl<;>assumption
theorem r6{P:Program}(mix:P.follows .mixedOrders=true){f:FuncId}{F:Int->Int->Value}(h1:∀i,i<7->∀j,j<7->bW P 200 f [.int .i64 (.ofNat i),.int .i64 (.ofNat j)] (F (.ofNat i) (.ofNat j))=true)(h2:∀(n:Nat)(b:Int),bW P 200 f [.int .i64 (.negSucc n),.int .i64 b] (F (.negSucc n) b)=true)(h3:∀(n:Nat)(b:Int),bW P 200 f [.int .i64 (.ofNat (n+7)),.int .i64 b] (F (.ofNat (n+7)) b)=true)(h4:∀i,i<7->∀n:Nat,bW P 200 f [.int .i64 (.ofNat i),.int .i64 (.negSucc n)] (F (.ofNat i) (.negSucc n))=true)(h5:∀i,i<7->∀n:Nat,bW P 200 f [.int .i64 (.ofNat i),.int .i64 (.ofNat (n+7))] (F (.ofNat i) (.ofNat (n+7)))=true)(a b:Int){h:ah}{Y:KQ}(hk:Y (F a b) h):aj P f [.int .i64 a,.int .i64 b] h Y:=by
 refine xx mix (n:=200) ?_ hk;rcases BH a with⟨i,hi,rfl⟩|⟨n,rfl⟩|⟨n,rfl⟩
 .rcases BH b with⟨j,hj,rfl⟩|⟨m,rfl⟩|⟨m,rfl⟩
  .exact h1 i hi j hj
  .exact h4 i hi m
  .exact h5 i hi m
 .exact h2 n b
 .exact h3 n b
theorem vv{a:Int}(h:kn a=true):∃i:Nat,i<7/\a=(i:Int):=by
 unfold kn at h;simp only[Bool.and_eq_true,decide_eq_true_eq]at h;exact⟨a.toNat,XV,XV⟩
theorem TJ:∀i,i<7->∀j,j<7->qP (i:Nat) (j:Nat)=true->qP (j:Nat) (i:Nat)=true->i=j:=by decide +kernel
theorem Py{a b:Int}(h1:qP a b=true)(h2:qP b a=true):a=b:=by
 obtain⟨i,hi,rfl⟩:=vv (CP h1).1;obtain⟨j,hj,rfl⟩:=vv (CP h1).2;rw[TJ i hi j hj h1 h2]
theorem TK:∀i,i<7->qP (i:Nat) 0=true:=by decide +kernel
theorem Pz{a:Int}(h:kn a=true):qP a 0=true:=by
 obtain⟨i,hi,rfl⟩:=vv h;exact TK i hi
theorem XQ:∀i,i<7->∀j,j<7->(qP (i:Nat) (jC (i:Nat) (j:Nat))=true->qP (i:Nat) (j:Nat)=true)/\qP (jC (i:Nat) (j:Nat)) (i:Nat)=true/\qP (jC (i:Nat) (j:Nat)) (j:Nat)=true/\(j≠0->jC (i:Nat) (j:Nat)≠0)/\(qP (i:Nat) (j:Nat)=true->jC (i:Nat) (j:Nat)=(i:Nat)):=by decide +kernel
theorem PA{a b:Int}(ha:kn a=true)(hb:kn b=true):(qP a (jC a b)=true->qP a b=true)/\qP (jC a b) a=true/\qP (jC a b) b=true/\(b≠0->jC a b≠0)/\(qP a b=true->jC a b=a):=by
 obtain⟨i,hi,rfl⟩:=vv ha;obtain⟨j,hj,rfl⟩:=vv hb;obtain⟨h1,h2,h3,h4,h5⟩:=XQ i hi j hj;exact⟨h1,h2,h3,λhb=>h4 XV,h5⟩
theorem XR{a b:Int}(ha:kn a=true)(hb:kn b=true):kn (jC a b)=true:=(CP (PA ha hb).2.1).1
end Go.Vai

namespace Go.Vai
open Go Go.Clashes
structure R5 where
 id:Int
 x:Int
 m:Int
 w:Int
 s:Int
def bA(r:R5):List Value:=[.int .i64 r.id,.int .i64 r.x,.int .i64 r.m,.int .i64 r.w,.int .i64 r.s]
theorem cq(r:R5):(bA r).length=5:=rfl
theorem yI(r:R5):(bA r).all eO=true:=rfl
theorem XS{p q:R5}:p=q<->(p.id=q.id/\p.x=q.x/\p.m=q.m/\p.w=q.w/\p.s=q.s):=by
 cases p;cases q;simp
instance :DecidableEq R5:=λp q=>decidable_of_iff _ XS.symm
def wA(r:R5):Bool:=decide (r.m≠0) && decide (0<r.s)
theorem xB(r:R5):wA r=true<->r.m≠0/\0<r.s:=by simp[wA]
def EW(Q:List R5)(r:R5)(o:Option Nat):Bool:=match o with
 |none=>true
 |some b=>match Q[b]? with
  |some q=>decide (r.s<q.s)
  |none=>false
def best(Q:List R5):Nat->Option Nat
 |0=>none
 |i+1=>match Q[i]? with
  |some r=>if(wA r && EW Q r (best Q i))=true then some i else best Q i
  |none=>best Q i
def fq(Q:List R5):Option Nat:=match best Q Q.length with|some b=>some b|none=>Q.findIdx? (λr=>decide (r.m=0))
def iY(Q:List R5)(r:R5):Bool:=!Q.any λo=>decide (o.id≠r.id) && decide (o.m≠0) && !cmp o.m r.w
theorem Ld(Q:List R5):∀i b,best Q i=some b->b<i/\∃r,Q[b]? = some r/\wA r=true:=by
 intro i
 induction i with
 |zero=>intro b h;cases h
 |succ i ih=>
  intro b h;unfold best at h;split at h
  .rename_i r hr;split at h
   .rename_i hc;cases h;rw[Bool.and_eq_true]at hc;exact⟨Nat.lt_succ_self _,r,hr,hc.1⟩
   .obtain⟨h1,h2⟩:=ih b h;exact⟨XV,h2⟩
  .obtain⟨h1,h2⟩:=ih b h;exact⟨XV,h2⟩
theorem BI(Q:List R5):∀i,best Q i=none->∀(j:Nat)(r:R5),j<i->Q[j]? = some r->wA r=false:=by
 intro i
 induction i with
 |zero=>intro _ j r h;omega
 |succ i ih=>
  intro h j r hj hr;unfold best at h;split at h
  .rename_i q hq;split at h
   .cases h
   .rename_i hc;by_cases hji:j=i
    .subst hji;rw[hq]at hr;cases hr;rw[h]at hc;simpa[EW]using hc
    .exact ih h j r XV hr
  .rename_i hq;by_cases hji:j=i
   .subst hji;rw[hq]at hr;cases hr
   .exact ih h j r XV hr
theorem Je{Q:List R5}(h:fq Q=none):∀r∈Q,r.m≠0/\¬0<r.s:=by
 unfold fq at h;split at h
 .cases h
 .rename_i hb;rw[List.findIdx?_eq_none_iff]at h;intro r hr;obtain⟨j,hj⟩:=List.getElem?_of_mem hr;have h1:=BI Q _ hb j r (List.getElem?_eq_some_iff.1 hj).1 hj;have h2:r.m≠0:=by simpa using h r hr
  refine⟨h2,λh3=>?_⟩;rw[(xB r).2 ⟨h2,h3⟩]at h1;cases h1
theorem tj{Q:List R5}{i:Nat}(h:fq Q=some i):∃r,Q[i]? = some r/\(wA r=true\/(r.m=0/\(∀q∈Q,wA q=false)/\∀(j:Nat)(q:R5),j<i->Q[j]? = some q->q.m≠0)):=by
 unfold fq at h;split at h
 .rename_i b hb;cases h;obtain⟨_,r,h1,h2⟩:=Ld Q _ _ hb;exact⟨r,h1,.inl h2⟩
 ·rename_i hb;have hno:∀q∈Q,wA q=false:=λq hq=>by
   obtain⟨j,hj⟩:=List.getElem?_of_mem hq;exact BI Q _ hb j q (List.getElem?_eq_some_iff.1 hj).1 hj
  rcases jZ Q (λr=>decide (r.m=0))with⟨e,_⟩|⟨k,p,e,hp,h1,h2⟩
  .rw[e]at h;cases h
  .rw[e]at h;cases h;exact⟨p,hp,.inr ⟨by simpa using h1,hno,λj q hj hq=>by simpa using h2 j q hj hq⟩⟩
theorem oF(Q:List R5)(r:R5):iY Q r=true<->∀o∈Q,o.id≠r.id->o.m≠0->cmp o.m r.w=true:=by
 unfold iY;rw[Bool.not_eq_true',List.any_eq_false];constructor
 .intro h o ho h1 h2;have:=h o ho;simpa[h1,h2]using this
 .intro h o ho hc;simp only[Bool.and_eq_true,decide_eq_true_eq,Bool.not_eq_true']at hc;rw[h o ho hc.1.1 hc.1.2]at hc;cases hc.2
structure PB(W:Int)(r:R5):Prop where
 id:0<=r.id
 km:kn r.m=true
 kw:kn r.w=true
 s0:0<=r.s
 sW:r.s<=W
 wait:0<r.s->qP r.m r.w=false
 hold:r.s=0->r.m≠0/\r.w=r.m
structure mo(a b:R5):Prop where
 id:a.id≠b.id
 x:a.x≠b.x
 s:0<a.s->a.s≠b.s
 cm:a.m≠0->b.m≠0->cmp a.m b.m=true
 ord:a.m=0->b.m=0/\a.s<b.s
structure VQ(Q:List R5)(W:Int):Prop where
 w0:0<=W
 right:∀r∈Q,PB W r
 pair:Q.Pairwise mo
theorem c8{α:Type}{R:α->α->Prop}{L:List α}:L.Pairwise R<->∀(i j:Nat)(p q:α),i<j->L[i]? = some p->L[j]? = some q->R p q:=by
 rw[List.pairwise_iff_getElem];constructor
 .intro h i j p q hij hp hq;obtain⟨hi,rfl⟩:=List.getElem?_eq_some_iff.1 hp;obtain⟨hj,rfl⟩:=List.getElem?_eq_some_iff.1 hq;exact h i j hi hj hij
 .intro h i j hi hj hij;exact h i j _ _ hij (List.getElem?_eq_getElem hi) (List.getElem?_eq_getElem hj)
theorem qS{α:Type}{R:α->α->Prop}{L:List α}{i:Nat}{p:α}(h:L.Pairwise R)(h1:∀(j:Nat)(q:α),j<i->L[j]? = some q->R q p)(h2:∀(j:Nat)(q:α),i<j->L[j]? = some q->R p q):(L.set i p).Pairwise R:=by
 rw[c8]at *
 intro a b u v hab hu hv;rw[List.getElem?_set]at hu hv;by_cases ha:i=a
 .subst ha;rw[if_pos rfl]at hu;rw[if_neg XV]at hv;split at hu
  .cases hu;exact h2 b v hab hv
  .cases hu
 .rw[if_neg ha]at hu;by_cases hb:i=b
  .subst hb;rw[if_pos rfl]at hv;split at hv
   .cases hv;exact h1 a u hab hu
   .cases hv
  .rw[if_neg hb]at hv;exact h a b u v hab hu hv
theorem mem_set{α:Type}{L:List α}{i:Nat}{p q:α}(h:q∈L.set i p):q=p\/q∈L:=by
 rcases List.mem_or_eq_of_mem_set h with h|h
 .exact .inr h
 .exact .inl h
theorem Jf{Q:List R5}(h:Q.Pairwise mo){i j:Nat}{p q:R5}(hp:Q[i]? = some p)(hq:Q[j]? = some q)(he:p.id=q.id):i=j:=by
 rcases Nat.lt_trichotomy i j with h1|h1|h1
 .exact absurd he (c8.1 h i j p q h1 hp hq).id
 .exact h1
 .exact absurd he.symm (c8.1 h j i q p h1 hq hp).id
theorem XT{Q:List R5}(h:Q.Pairwise mo){p q:R5}(hp:p∈Q)(hq:q∈Q)(he:p.id=q.id):p=q:=by
 obtain⟨i,hi⟩:=List.getElem?_of_mem hp;obtain⟨j,hj⟩:=List.getElem?_of_mem hq;have:=Jf h hi hj he;subst this;rw[hi]at hj;cases hj;rfl
theorem VQ.mono{Q:List R5}{W W':Int}(v:VQ Q W)(h:W<=W'):VQ Q W':=
 ⟨Int.le_trans v.w0 h,λr hr=>let a:=v.right r hr;⟨a.id,a.km,a.kw,a.s0,Int.le_trans a.sW h,a.wait,a.hold⟩,v.pair⟩
theorem VQ.nil:VQ [] 0:=⟨Int.le_refl _,λr hr=>(by cases hr),List.Pairwise.nil⟩
theorem VQ.filter{Q:List R5}{W:Int}(v:VQ Q W)(F:R5->Bool):VQ (Q.filter F) W:=
 ⟨v.w0,λr hr=>v.right r (List.mem_filter.1 hr).1,v.pair.sublist List.filter_sublist⟩
theorem yJ{W:Int}{r:R5}(h:PB W r)(hs:0<r.s):r.w≠0:=by
 intro e;have:=h.wait hs;rw[e,Pz h.km]at this;cases this
def eD(r:R5):R5:=⟨r.id,r.x,r.w,r.w,0⟩
theorem VQ.PC{Q:List R5}{W:Int}(v:VQ Q W){i:Nat}{r:R5}(hf:fq Q=some i)(hr:Q[i]? = some r)(hfit:iY Q r=true):VQ (Q.set i (eD r)) W:=by
 obtain⟨r',hr',Lf⟩:=tj hf;rw[hr]at hr';cases hr';have R:=v.right r (List.mem_of_getElem? hr);have hs:0<r.s:=by
  rcases Lf with h|⟨h,_⟩
  .exact((xB r).1 h).2
  .rcases Int.lt_or_eq_of_le R.s0 with h0|h0
   .exact h0
   .exact absurd h (R.hold h0.symm).1
 have hw:=yJ R hs;rw[oF]at hfit;refine⟨v.w0,?_,?_⟩
 .intro q hq;rcases mem_set hq with rfl|hq
  .exact⟨R.id,R.kw,R.kw,Int.le_refl _,v.w0,λh=>absurd h (Int.lt_irrefl _),λ_=>⟨hw,rfl⟩⟩
  .exact v.right q hq
 .refine qS v.pair ?_ ?_
  ·intro j q hj hq;have P:=c8.1 v.pair j i q r hj hq hr;have hm:q.m≠0:=by
    rcases Lf with h|⟨_,_,h⟩
    .intro e;exact((xB r).1 h).1 (P.ord e).1
    .exact h j q hj hq
   exact⟨P.id,P.x,λh=>(λe:q.s=0=>by omega),λh1 _=>hfit q (List.mem_of_getElem? hq) P.id h1,λe=>absurd e hm⟩
  .intro j q hj hq;have P:=c8.1 v.pair i j r q hj hr hq;refine⟨P.id,P.x,λh=>absurd h (Int.lt_irrefl _),λ_ h2=>?_,λe=>absurd e hw⟩;rw[qO];exact hfit q (List.mem_of_getElem? hq) (λe=>P.id e.symm) h2
def fO(Q:List R5):Nat:=(Q.filter λr=>decide (0<r.s)).length
theorem tq{Q:List R5}{i:Nat}{r:R5}(hr:Q[i]? = some r)(hs:0<r.s):fO (Q.set i (eD r))+1=fO Q:=by
 obtain⟨hi,rfl⟩:=List.getElem?_eq_some_iff.1 hr;have e1:Q=Q.take i++Q[i]::Q.drop (i+1):=by
  rw[List.getElem_cons_drop,List.take_append_drop]
 have e2:Q.set i (eD Q[i])=Q.take i++eD Q[i]::Q.drop (i+1):=by
  rw[List.set_eq_take_append_cons_drop,if_pos hi]
 have hg:decide (0<(eD Q[i]).s)=false:=by simp[eD]
 have h1:fO Q=((Q.take i).filter λr=>decide (0<r.s)).length+(((Q.drop (i+1)).filter λr=>decide (0<r.s)).length+1):=by
  conv=>lhs;rw[e1]
  unfold fO;rw[List.filter_append,List.filter_cons,if_pos (by simpa using hs)];simp
 rw[e2,h1];unfold fO;rw[List.filter_append,List.filter_cons,if_neg (by rw[hg];simp)];simp;omega
def dx:Nat->List R5->List R5 × List Int
 |0,Q=>(Q,[])
 |n+1,Q=>match fq Q with
  |none=>(Q,[])
  |some i=>match Q[i]? with
   |none=>(Q,[])
   |some r=>if iY Q r=true then((dx n (Q.set i (eD r))).1,r.id::(dx n (Q.set i (eD r))).2)else(Q,[])
def tr(Q:List R5):Prop:=∀i r,fq Q=some i->Q[i]? = some r->iY Q r=false
def Jg(r:R5):Int × Int:=(r.id,r.x)
theorem kI{Q:List R5}{W:Int}(v:VQ Q W){i:Nat}{r:R5}(hf:fq Q=some i)(hr:Q[i]? = some r):0<r.s:=by
 obtain⟨r',hr',Lf⟩:=tj hf;rw[hr]at hr';cases hr';have R:=v.right r (List.mem_of_getElem? hr);rcases Lf with h|⟨h,_⟩
 .exact((xB r).1 h).2
 .rcases Int.lt_or_eq_of_le R.s0 with h0|h0
  .exact h0
  .exact absurd h (R.hold h0.symm).1
theorem MN{W:Int}:∀(n:Nat){Q:List R5},VQ Q W->∀q∈Q,q.s=0->q∈(dx n Q).1:=by
 intro n
 induction n with
 |zero=>intro Q v q hq _;exact hq
 |succ n ih=>
  intro Q v q hq h0;unfold dx;split
  .exact hq
  .rename_i i hf;split
   .exact hq
   .rename_i r hr;by_cases hfit:iY Q r=true
    ·rw[if_pos hfit];refine ih (v.PC hf hr hfit) q ?_ h0;obtain⟨k,hk⟩:=List.getElem?_of_mem hq;have hne:i≠k:=by
      rintro rfl;rw[hr]at hk;cases hk;have:=kI v hf hr;omega
     exact List.mem_of_getElem? (i:=k) (by rw[List.getElem?_set,if_neg hne];exact hk)
    .rw[if_neg hfit];exact hq
theorem xC{W:Int}:∀(n:Nat){Q:List R5},VQ Q W->VQ (dx n Q).1 W/\(dx n Q).1.map Jg=Q.map Jg/\(fO Q<n->tr (dx n Q).1)/\(∀i∈(dx n Q).2,∃r∈(dx n Q).1,r.id=i/\r.m≠0/\r.s=0):=by
 intro n
 induction n with
 |zero=>intro Q v;exact⟨v,rfl,λh=>XV,λi h=>(by cases h)⟩
 |succ n ih=>
  intro Q v;unfold dx;split
  .rename_i hf;refine⟨v,rfl,λ_=>?_,λi h=>(by cases h)⟩;intro i r h _;rw[hf]at h;cases h
  .rename_i i hf;split
   .rename_i hr;refine⟨v,rfl,λ_=>?_,λi h=>(by cases h)⟩;intro j r h h2;rw[hf]at h;cases h;rw[hr]at h2;cases h2
   .rename_i r hr;by_cases hfit:iY Q r=true
    ·rw[if_pos hfit];have v2:=v.PC hf hr hfit;obtain⟨h1,h2,h3,h4⟩:=ih v2;have hc:=tq hr (kI v hf hr);have hkey:(Q.set i (eD r)).map Jg=Q.map Jg:=by
      rw[List.map_set];have:Jg (eD r)=Jg r:=rfl;rw[this];apply List.ext_getElem?;intro k;rw[List.getElem?_set];by_cases hik:i=k
      .subst hik;have hil:=(List.getElem?_eq_some_iff.1 hr).1;rw[if_pos rfl,if_pos (by simpa using hil),List.getElem?_map,hr];rfl
      .rw[if_neg hik]
     refine⟨h1,h2.trans hkey,λh=>h3 XV,λj hj=>?_⟩;rcases List.mem_cons.1 hj with rfl|hj
     .refine⟨eD r,MN n v2 (eD r) ?_ rfl,rfl,?_,rfl⟩
      .have hil:=(List.getElem?_eq_some_iff.1 hr).1;exact List.mem_of_getElem? (i:=i) (by rw[List.getElem?_set,if_pos rfl,if_pos hil])
      .exact yJ (v.right r (List.mem_of_getElem? hr)) (kI v hf hr)
     .exact h4 j hj
    .rw[if_neg hfit];refine⟨v,rfl,λ_=>?_,λi h=>(by cases h)⟩;intro j q h h2;rw[hf]at h;cases h;rw[hr]at h2;cases h2;simpa using hfit
theorem Jh{Q:List R5}(h:tr Q)(n:Nat):dx n Q=(Q,[]):=by
 cases n with
 |zero=>rfl
 |succ n=>
  unfold dx;split
  .rfl
  .rename_i i hf;split
   .rfl
   .rename_i r hr;rw[if_neg (by rw[h i r hf hr];simp)]
end Go.Vai

namespace Go.Vai
open Go Go.Clashes
def cL(m:Int):Bool:=decide (m≠0) && kn m
theorem yK(m:Int):cL m=true<->m≠0/\kn m=true:=by simp[cL]
def bE(id:Int)(r:R5):Bool:=decide (r.id=id)
def bU(Q:List R5)(id:Int):Option R5:=Q.find? (bE id)
theorem dQ{Q:List R5}{id:Int}{r:R5}(h:bU Q id=some r):r∈Q/\r.id=id:=by
 unfold bU at h;have:=List.find?_some h;exact⟨List.mem_of_find?_eq_some h,by simpa[bE]using this⟩
theorem mq{Q:List R5}{id:Int}(h:bU Q id=none):∀r∈Q,r.id≠id:=by
 unfold bU at h;rw[List.find?_eq_none]at h;intro r hr e;exact h r hr (by simp[bE,e])
theorem MO{Q:List R5}(hp:Q.Pairwise mo){r:R5}(hr:r∈Q):bU Q r.id=some r:=by
 cases h:bU Q r.id with
 |none=>exact absurd rfl (mq h r hr)
 |some q=>
  obtain⟨h1,h2⟩:=dQ h;rw[XT hp h1 hr h2]
def kS(Q:List R5)(W id x m:Int):R5 × Int × Bool:=
 if(decide (fq Q=none) && iY Q ⟨id,x,0,m,0⟩)=true then(⟨id,x,m,m,0⟩,W,true)else(⟨id,x,0,m,W+1⟩,W+1,false)
theorem ahq{m:Int}(h:qP 0 m=true):m=0:=by
 have key:∀j,j<7->qP 0 (j:Nat)=true->j=0:=by decide +kernel
 obtain⟨j,hj,rfl⟩:=vv (CP h).2;rw[key j hj h];rfl
theorem uf{α:Type}{R:α->α->Prop}{L:List α}{p:α}(h:L.Pairwise R)(h1:∀q∈L,R q p):(L++[p]).Pairwise R:=by
 rw[List.pairwise_append];exact⟨h,List.pairwise_singleton _ _,λq hq r hr=>by rw[List.mem_singleton]at hr;subst hr;exact h1 q hq⟩
theorem VQ.ask{Q:List R5}{W:Int}(v:VQ Q W){id x m:Int}(hid:0<=id)(hm:cL m=true)(hn:∀q∈Q,q.id≠id/\q.x≠x):VQ (Q++[(kS Q W id x m).1]) (kS Q W id x m).2.1:=by
 obtain⟨m0,km⟩:=(yK m).1 hm;unfold kS;by_cases hc:(decide (fq Q=none) && iY Q ⟨id,x,0,m,0⟩)=true
 .rw[if_pos hc];rw[Bool.and_eq_true,decide_eq_true_eq,oF]at hc;have hall:=Je hc.1;refine⟨v.w0,?_,uf v.pair ?_⟩
  .intro r hr;rcases List.mem_append.1 hr with hr|hr
   .exact v.right r hr
   .rw[List.mem_singleton]at hr;subst hr;exact⟨hid,km,km,Int.le_refl _,v.w0,λh=>absurd h (Int.lt_irrefl _),λ_=>⟨m0,rfl⟩⟩
  .intro q hq;exact⟨(hn q hq).1,(hn q hq).2,λh=>absurd h (hall q hq).2,λh1 _=>hc.2 q hq (hn q hq).1 h1,λe=>absurd e (hall q hq).1⟩
 .rw[if_neg hc];have v2:=v.mono (W':=W+1) XV;refine⟨v2.w0,?_,uf v.pair ?_⟩
  .intro r hr;rcases List.mem_append.1 hr with hr|hr
   .exact v2.right r hr
   .rw[List.mem_singleton]at hr;subst hr;refine⟨hid,rfl,km,v2.w0,Int.le_refl _,λ_=>?_,λh=>?_⟩
    .cases hcv:qP 0 m with
     |false=>rfl
     |true=>exact absurd (ahq hcv) m0
    .have:=v.w0;have h:W+1=0:=h;omega
  .intro q hq;have:=(v.right q hq).sW;exact⟨(hn q hq).1,(hn q hq).2,λ_=>(λe:q.s=W+1=>by omega),λ_ h=>absurd rfl h,λ_=>⟨rfl,by show q.s<W+1;omega⟩⟩
def jg(Q:List R5)(W:Int)(r:R5)(m:Int):R5 × Int × Bool:=
 if(decide (jC r.m m=r.m) || (iY Q ⟨r.id,r.x,r.m,jC r.m m,r.s⟩ && !Q.any wA))=true then(⟨r.id,r.x,jC r.m m,jC r.m m,r.s⟩,W,true)else(⟨r.id,r.x,r.m,jC r.m m,W+1⟩,W+1,false)
theorem VQ.upg{Q:List R5}{W:Int}(v:VQ Q W){i:Nat}{r:R5}{m:Int}(hr:Q[i]? = some r)(hs:¬0<r.s)(hm:cL m=true):VQ (Q.set i (jg Q W r m).1) (jg Q W r m).2.1:=by
 obtain⟨m0,km⟩:=(yK m).1 hm;have R:=v.right r (List.mem_of_getElem? hr);have hs0:r.s=0:=by have:=R.s0;omega
 obtain⟨rm0,rw⟩:=R.hold hs0;obtain⟨_,c1,c2,c3,_⟩:=PA R.km km;have ks:=XR R.km km;have before:∀(j:Nat)(q:R5),j<i->Q[j]? = some q->q.m≠0:=λj q hj hq e=>rm0 ((c8.1 v.pair j i q r hj hq hr).ord e).1;unfold jg;by_cases hc:(decide (jC r.m m=r.m) || (iY Q ⟨r.id,r.x,r.m,jC r.m m,r.s⟩ && !Q.any wA))=true
 ·rw[if_pos hc];have hfit:∀o∈Q,o.id≠r.id->o.m≠0->cmp o.m (jC r.m m)=true:=by
   intro o ho h1 h2;rw[Bool.or_eq_true,decide_eq_true_eq,Bool.and_eq_true,oF]at hc;rcases hc with e|⟨h,_⟩
   .rw[e];obtain⟨k,hk⟩:=List.getElem?_of_mem ho;rcases Nat.lt_trichotomy k i with gP|gP|gP
    .exact(c8.1 v.pair k i o r gP hk hr).cm h2 rm0
    .subst gP;rw[hr]at hk;cases hk;exact absurd rfl h1
    .rw[qO];exact(c8.1 v.pair i k r o gP hr hk).cm rm0 h2
   .exact h o ho h1 h2
  refine⟨v.w0,?_,qS v.pair ?_ ?_⟩
  .intro q hq;rcases mem_set hq with rfl|hq
   .exact⟨R.id,ks,ks,R.s0,R.sW,λh=>absurd h hs,λ_=>⟨c3 m0,rfl⟩⟩
   .exact v.right q hq
  .intro j q hj hq;have P:=c8.1 v.pair j i q r hj hq hr;exact⟨P.id,P.x,P.s,λh1 _=>hfit q (List.mem_of_getElem? hq) P.id h1,λe=>absurd e (before j q hj hq)⟩
  .intro j q hj hq;have P:=c8.1 v.pair i j r q hj hr hq;exact⟨P.id,P.x,P.s,λ_ h2=>by rw[qO];exact hfit q (List.mem_of_getElem? hq) (λe=>P.id e.symm) h2,λe=>absurd e (c3 m0)⟩
 .rw[if_neg hc];have v2:=v.mono (W':=W+1) XV;rw[Bool.or_eq_true,decide_eq_true_eq]at hc;refine⟨v2.w0,?_,qS v.pair ?_ ?_⟩
  .intro q hq;rcases mem_set hq with rfl|hq
   .refine⟨R.id,R.km,ks,v2.w0,Int.le_refl _,λ_=>?_,λh=>?_⟩
    .cases hcv:qP r.m (jC r.m m)with
     |false=>rfl
     |true=>exact absurd (.inl (Py c1 hcv)) hc
    .have:=v.w0;have h:W+1=0:=h;omega
   .exact v2.right q hq
  .intro j q hj hq;have P:=c8.1 v.pair j i q r hj hq hr;have:=(v.right q (List.mem_of_getElem? hq)).sW;exact⟨P.id,P.x,λ_=>(λe:q.s=W+1=>by omega),P.cm,λe=>absurd e (before j q hj hq)⟩
  .intro j q hj hq;have P:=c8.1 v.pair i j r q hj hr hq;have:=(v.right q (List.mem_of_getElem? hq)).sW;exact⟨P.id,P.x,λ_=>(λe:W+1=q.s=>by omega),P.cm,λe=>absurd e rm0⟩
def kJ(r:R5):R5:=⟨r.id,r.x,r.m,r.m,0⟩
theorem VQ.back{Q:List R5}{W:Int}(v:VQ Q W){i:Nat}{r:R5}(hr:Q[i]? = some r)(hm:r.m≠0):VQ (Q.set i (kJ r)) W:=by
 have R:=v.right r (List.mem_of_getElem? hr);refine⟨v.w0,?_,qS v.pair ?_ ?_⟩
 .intro q hq;rcases mem_set hq with rfl|hq
  .exact⟨R.id,R.km,R.km,Int.le_refl _,v.w0,λh=>absurd h (Int.lt_irrefl _),λ_=>⟨hm,rfl⟩⟩
  .exact v.right q hq
 .intro j q hj hq;have P:=c8.1 v.pair j i q r hj hq hr;exact⟨P.id,P.x,λh=>(λe:q.s=0=>by omega),P.cm,λe=>absurd (P.ord e).1 hm⟩
 .intro j q hj hq;have P:=c8.1 v.pair i j r q hj hr hq;exact⟨P.id,P.x,λh=>absurd h (Int.lt_irrefl _),P.cm,λe=>absurd e hm⟩
def yL(r:R5)(x:Int):R5:=⟨r.id,x,r.m,r.w,r.s⟩
theorem VQ.hand{Q:List R5}{W:Int}(v:VQ Q W){i:Nat}{r:R5}{x:Int}(hr:Q[i]? = some r)(hx:∀q∈Q,q.id≠r.id->q.x≠x):VQ (Q.set i (yL r x)) W:=by
 have R:=v.right r (List.mem_of_getElem? hr);refine⟨v.w0,?_,qS v.pair ?_ ?_⟩
 .intro q hq;rcases mem_set hq with rfl|hq
  .exact⟨R.id,R.km,R.kw,R.s0,R.sW,R.wait,R.hold⟩
  .exact v.right q hq
 .intro j q hj hq;have P:=c8.1 v.pair j i q r hj hq hr;exact⟨P.id,hx q (List.mem_of_getElem? hq) P.id,P.s,P.cm,P.ord⟩
 .intro j q hj hq;have P:=c8.1 v.pair i j r q hj hr hq;exact⟨P.id,λe=>hx q (List.mem_of_getElem? hq) (λe=>P.id e.symm) e.symm,P.s,P.cm,P.ord⟩
end Go.Vai

namespace Go.Vai
open Go
variable {β:Type}{fl:β}
def TL(fl:β)(l c:Value)(z:List Value)(e:TypeId)(h:ah)(Y:XW β):β:=
 match l,c with
 | .int _ (.ofNat l),.int _ (.ofNat c)=>match Nat.ble l c,Nat.ble c 1000000 with
  |true,true=>aK fl (aV z c) e false λo=>aF fl o h λb h=>Y (bB l c b) h
  |_,_=>fl
 |_,_=>fl
theorem CQ(n:Nat)(z:List Value)(e:TypeId)(h:ah)(Y:XW β)(hn:n<=1000000)(hl:(aV z n).length<=1000000000000):TL fl (.int .i64 (n:Int)) (.int .i64 (n:Int)) z e h Y=Y (.slice (some ⟨h.nx,0,none⟩) n n) ⟨h.nx+1,h.bl.bx h.nx (ai (aV z n) e false),h.lo⟩:=by
 have e1:Nat.ble n n=true:=Nat.ble_eq_true_of_le (Nat.le_refl _);have e2:Nat.ble n 1000000=true:=Nat.ble_eq_true_of_le hn
 show(match Nat.ble n n,Nat.ble n 1000000 with|true,true=>_|_,_=>fl)=_
 rw[e1,e2];simp only;rw[iS _ _ _ _ hl,dJ];rfl
end Go.Vai
end
