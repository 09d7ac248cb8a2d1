/-
  PROVED HERE: a part of the proof (SO, K32, K33, K34, K35, K36, K37, K38, K39, K40, L5, L6, L8, K44, L9, L10, L11, L12, L13, L14, L15, L16, L17, L18, VaiB, U1, U2, U3, U4, U5, U6, U7, U8, U9, U10, U11, U12, U13, N1, N2, N3, S1, S2, S3, S4, S5, S7, S8).
-/
import Derived.Test.YtmllggkhfmjpgaaGreatDoorG3
import Derived.Shelf.SlSortCmp.WholeK
import Derived.Shelf.SlSortCmp.NoneTotal
import Derived.Test.YtmllggkhfmjpgaaGreatDoorG5
import Derived.Test.YtmllggkhfmjpgaaGreatDoorSRT
import Derived.Test.YtmllggkhfmjpgaaGreatDoorG2
import Derived.Deep.DeepFit
import Derived.Test.YtmllggkhfmjpgaaGreatDoorRZ
set_option linter.unusedVariables false
set_option linter.unusedSimpArgs false
set_option maxRecDepth 100000
set_option maxHeartbeats 4000000
namespace Go.Vai
open Go Go.Sort
section
variable {α β κt:Type}[Inhabited α]{P:Program}{φ:dV}
theorem F2.Uf{γ δ:Type}{R:γ->δ->Prop}{m m':List δ}(p:m'.Perm m):∀{l:List γ},F2 R l m->∃l',l'.Perm l/\F2 R l' m':=by
 induction p with
 |nil=>intro l h;cases h;exact⟨[],.nil,.nil⟩
 |cons x p ih=>
  intro l h;cases h with
  |cons h t=>obtain⟨l',p',h'⟩:=ih t;exact⟨_,p'.cons _,.cons h h'⟩
 |swap x y l0=>
  intro l h;cases h with
  |cons h1 t=>cases t with|cons h2 t=>exact⟨_,List.Perm.swap ..,.cons h2 (.cons h1 t)⟩
 |trans p q ihp ihq=>
  intro l h;obtain⟨l1,p1,h1⟩:=ihq h;obtain⟨l2,p2,h2⟩:=ihp h1;exact⟨l2,p2.trans p1,h2⟩
theorem F2.flat{γ δ:Type}{R:Value->Value->Prop}{f:γ->List Value}{g:δ->List Value}{l:List γ}{m:List δ}(h:F2 (λx y=>F2 R (f x) (g y)) l m):F2 R (l.flatMap f) (m.flatMap g):=by
 induction h with
 |nil=>exact .nil
 |cons hr _ ih=>simp only[List.flatMap_cons];exact hr.append ih
omit [Inhabited α] in
theorem aak{k:Nat}{enc:α->List Value}{de:β->List Value}(hA:∀x,(de x).length=k){kA:β->κt}{kC:α->κt}(Ip:∀(x:β)(cs:List Value),F2 (VR φ) (de x) cs->∃y:α,cs=enc y/\kA x=kC y):∀(L:List β)(C:List Value),F2 (VR φ) (L.flatMap de) C->∃ys:List α,C=ys.flatMap enc/\F2 (λx y=>F2 (VR φ) (de x) (enc y)/\kA x=kC y) L ys:=by
 intro L
 induction L with
 |nil=>intro C h;cases h;exact⟨[],rfl,.nil⟩
 |cons x L ih=>
  intro C h;rw[List.flatMap_cons]at h;have h1:=h.take k;have h2:=h.drop k;have e1:(de x++L.flatMap de).take k=de x:=by rw[<-hA x,List.take_left]
  have e2:(de x++L.flatMap de).drop k=L.flatMap de:=by rw[<-hA x,List.drop_left]
  rw[e1]at h1;rw[e2]at h2;obtain⟨y,hy,hk⟩:=Ip x _ h1;obtain⟨ys,hys,hr⟩:=ih _ h2;refine⟨y::ys,?_,.cons ⟨hy▸h1,hk⟩ hr⟩;rw[List.flatMap_cons,<-hy,<-hys,List.take_append_drop]
theorem zz{k:Nat}(k0:0<k){enc:α->List Value}(hk:∀x,(enc x).length=k)(ys:List α):(Sort.flatK enc k ys.toArray).toList=ys.flatMap enc:=by
 refine List.ext_getElem? λt=>?_;have hl:=bz hk ys;by_cases ht:t<ys.length*k
 .have hd:t / k<ys.length:=(Nat.div_lt_iff_lt_mul k0).2 ht;have hm:t % k<k:=Nat.mod_lt _ k0;have e:=jD hk (K:=ys) (i:=t / k) (j:=t % k) (List.getElem?_eq_getElem hd) hm;rw[Nat.div_add_mod' t k]at e;rw[e,Array.getElem?_toList];have hs:t<(Sort.flatK enc k ys.toArray).size:=by simpa using ht
  rw[Array.getElem?_eq_getElem hs];have:=Sort.get_flatK enc k ys.toArray t (by simpa using ht);rw[getElem!_pos _ t hs]at this;rw[this];have hd':t / k<ys.toArray.size:=by simpa using hd
  have a1:ys.toArray[t / k]! = ys[t / k]:=by rw[getElem!_pos ys.toArray (t / k) hd'];simp
  have hm':t % k<(enc ys[t / k]).length:=by rw[hk];exact hm
  rw[a1,getElem!_pos (enc ys[t / k]) (t % k) hm',List.getElem?_eq_getElem hm']
 .have oS:(Sort.flatK enc k ys.toArray).toList.length=ys.length*k:=by simp
  rw[List.getElem?_eq_none (by rw[oS];omega),List.getElem?_eq_none (by rw[hl];omega)]
theorem HR.grown{h:af}{w:World}(hr:HR P φ h w)(os:Array Obj):HR P φ h (grow w os):=by
 refine⟨λb o pl h1 h2=>?_,λb pl h=>?_,hr.keys,hr.NU,hr.inj,hr.lo⟩
 .have:=hr.dom b pl h2
  show OR P φ o pl (w.heap++os)[pl.B]?
  rw[Array.getElem?_append_left this.2];exact hr.obj b o pl h1 h2
 .have:=hr.dom b pl h;refine⟨this.1,?_⟩
  show pl.B<(w.heap++os).size
  rw[Array.size_append];omega
theorem Ext.grown{φ':dV}{h h':af}{w w':World}(hx:Ext φ φ' h h' w w')(os:Array Obj):Ext φ φ' h h' w (grow w' os):=by
 have hs:=hx.size;have key:∀B,B<w.heap.size->(grow w' os).heap[B]? = w'.heap[B]?:=λB hB=>by
  show(w'.heap++os)[B]? = _
  rw[Array.getElem?_append_left XQ]
 refine⟨hx.sub,hx.new,hx.nx,?_,λB hB hn=>(key B hB).trans (hx.Ao B hB hn),hx.Dw,hx.tape,hx.os,hx.output,λ_ _=>trivial,hx.lo,hx.HH,λb o pl h1 h2 h3 h4 h5=>(key _ h5).trans (hx.HI b o pl h1 h2 h3 h4 h5),hx.dr⟩
 show _<=(w'.heap++os).size
 rw[Array.size_append];omega
theorem VR.MG{b n:Nat}{v':Value}(h:VR φ (.slice (some ⟨b,0,none⟩) n aW) v'):∃pl c,φ b=some pl/\v'=.slice (some ⟨pl.B,0,none⟩) n c:=by
 generalize HJ:aW=cc at h;cases h with
 |slice hp hn hc=>subst HJ;exact absurd hc (Nat.lt_irrefl _)
 |bQ hp hn hc=>exact⟨_,_,hp,rfl⟩
 |cU=>exact absurd HJ J0
theorem VR.akg{g:Nat}{v':Value}(h:VR φ (.func (.func g) #[] #[]) v'):v'=.func (.func g) #[] #[]:=by
 cases h with
 |func fn a a' b b' hal hbl _ _=>
  have ea:a'=#[]:=by
   have:a'.toList.length=0:=hal.symm;exact Array.eq_empty_of_size_eq_zero (by simpa using this)
  have eb:b'=#[]:=by
   have:b'.toList.length=0:=hbl.symm;exact Array.eq_empty_of_size_eq_zero (by simpa using this)
  rw[ea,eb]
theorem Db{f g:FuncId}{k:Nat}(k0:0<k){enc:α->List Value}{de:β->List Value}(hk:∀x,(enc x).length=k)(hA:∀x,(de x).length=k){kA:β->κt}{kC:α->κt}{lt:κt->κt->Bool}(Ip:∀(φ:dV)(x:β)(cs:List Value),F2 (VR φ) (de x) cs->∃y:α,cs=enc y/\kA x=kC y)(enters:∀args w,(callFunc f args).run P w=.ok (.enter f args) w)(law:∀(blk cap:Nat)(d:Array α)(w:World),HoldsK enc k w blk 0 d->blk<w.heap.size->d.size<4611686018427387904->
   Calls P f #[.slice (some ⟨blk,0,none⟩) d.size cap,.func (.func g) #[] #[]] w λe w'=>e=.returned (.tuple #[])/\∃d' n os,PermIn 0 d.size d d'/\SortedIn (λx y=>lt (kC x) (kC y)) 0 d.size d'/\w'=Go.Proofs.sortWorldK enc k w blk 0 n d' os){h:af}{b:Nat}{L:List β}{ty:TypeId}{op:Bool}(hb:h.bl.get b=some (ai (L.flatMap de) ty op))(hlo:h.lo<=b)(sY:L.length<=1000000){V:KQ}(hκ:∀D:List β,D.Perm L->D.Pairwise (λx y=>lt (kA y) (kA x)=false)->V (.tuple #[]) ⟨h.nx,h.bl.bq b (ai (D.flatMap de) ty op),h.lo⟩):aj P f [.slice (some ⟨b,0,none⟩) L.length aW,.func (.func g) #[] #[]] h V:=by
 intro φ w args' ha hr;cases ha with|cons hs ha=>
 cases ha with|cons hf ha=>
 cases ha;obtain⟨pl,c,hp,rfl⟩:=hs.MG;obtain rfl:=hf.akg;have hb':=hb;unfold ai at hb';obtain⟨C,hC,wC,hn2,hop,hcell⟩:=hr.rowAt hb' hp;have hlen:=bz hA L;rw[hlen]at wC hn2 hcell;have hF:F2 (VR φ) (L.flatMap de) (C.toList.take (L.length*k)):=by
  have hCl:C.toList.length=C.size:=by simp
  refine F2.lH (by rw[hlen,List.length_take];omega) λj v v' e1 e2=>?_;have hj:j<L.length*k:=by rw[<-hlen];exact(List.getElem?_eq_some_iff.mp e1).1
  obtain⟨v2,h2,h3⟩:=hcell j v (by rw[nO];exact e1) hj;rw[List.getElem?_take_of_lt hj,Array.getElem?_toList,h2]at e2;cases e2;exact h3
 obtain⟨ys,hys,hR⟩:=aak hA (Ip φ) L _ hF;have hyl:ys.length=L.length:=hR.length.symm;have hH:HoldsK enc k w pl.B 0 ys.toArray:=by
  intro j hj;have hfl:=zz k0 hk ys;rw[<-hys]at hfl;have hj':j<L.length*k:=by simpa[hyl]using hj
  have hjs:j<(Sort.flatK enc k ys.toArray).size:=hj;have e1:(Sort.flatK enc k ys.toArray)[j]? = C[j]?:=by
   rw[<-Array.getElem?_toList,hfl,List.getElem?_take_of_lt hj',Array.getElem?_toList]
  rw[getElem!_pos _ j hjs];rw[Array.getElem?_eq_getElem hjs,Array.getElem?_eq_getElem XQ]at e1;have e2:=Option.some.inj e1;constructor
  .show w.cell? ⟨pl.B,0+j,none⟩=some (Sort.flatK enc k ys.toArray)[j]
   rw[e2,Nat.zero_add];simp[World.cell?,hC,show j<C.size by omega]
  .simp[World.frozen?,hC]
 have hdom:=hr.dom b pl hp;have hd:=law pl.B c ys.toArray w hH hdom.2 (by rw[show ys.toArray.size=L.length by simpa using hyl];omega);rw[show ys.toArray.size=L.length by simpa using hyl]at hd;refine⟨enters _ _,hd.mono ?_⟩;rintro e w' ⟨rfl,d',n,os,afh,hsort,rfl⟩;obtain⟨hsz,_,Dx⟩:=afh;have hdl:d'.size=L.length:=by rw[hsz];simpa using hyl
 have Dx:d'.toList.Perm ys:=by
  have e1:d'.extract 0 L.length=d':=by rw[<-hdl];simp
  have e2:ys.toArray.extract 0 L.length=ys.toArray:=by rw[<-hyl];simp
  rw[e1,e2]at Dx;simpa using Dx
 obtain⟨D,hD,hRD⟩:=F2.Uf Dx hR;have hDl:=hD.length_eq;have hpw:D.Pairwise (λx y=>lt (kA y) (kA x)=false):=by
  rw[List.pairwise_iff_getElem];intro i j hi hj hij;obtain⟨y1,q1,r1⟩:=hRD.get i _ (List.getElem?_eq_getElem hi);obtain⟨y2,q2,r2⟩:=hRD.get j _ (List.getElem?_eq_getElem hj);have:=hsort i j (Nat.zero_le _) hij XQ;rw[Array.getElem?_toList]at q1 q2;obtain⟨s1,rfl⟩:=Array.getElem?_eq_some_iff.1 q1;obtain⟨s2,rfl⟩:=Array.getElem?_eq_some_iff.1 q2;rw[getElem!_pos _ i s1,getElem!_pos _ j s2]at this;rw[r1.2,r2.2];exact this
 obtain⟨w1,hw1⟩:∃w1,w1=putRowK enc k (Sort.ahead w n) pl.B 0 d':=⟨_,rfl⟩
 have hfd:(Sort.flatK enc k d').toList=d'.toList.flatMap enc:=by
  have:=zz k0 hk d'.toList;simpa using this
 have hheap:w1.heap=w.heap.modify pl.B (onCells (putCells id 0 (Sort.flatK enc k d'))):=by rw[hw1];rfl
 have hB:w1.heap[pl.B]? = some (.cells (putCells id 0 (Sort.flatK enc k d') C) ty (0,0)):=by
  rw[hheap,Array.getElem?_modify,if_pos rfl,hC];rfl
 have DR:∀q,q≠pl.B->w1.heap[q]? = w.heap[q]?:=by
  intro q hq;rw[hheap,Array.getElem?_modify,if_neg (λe=>hq e.symm)]
 have QJ:=bz hA D;have ho:OR P φ (ai (D.flatMap de) ty op) pl w1.heap[pl.B]?:=by
  rw[hB];refine⟨rfl,rfl,?_,?_,?_,?_⟩
  .rw[QJ,hDl];simpa[putCells]using wC
  .rw[QJ,hDl];exact hn2
  .intro ho;obtain⟨a1,a2,a3⟩:=hop ho;exact⟨by simpa[putCells]using a1,a2,a3⟩
  .intro i v hv hi;rw[nO]at hv;rw[QJ,hDl]at hi;have hFD:F2 (VR φ) (D.flatMap de) (d'.toList.flatMap enc):=F2.flat (hRD.imp λa b r=>r.1);obtain⟨v',e1,e2⟩:=hFD.get i v hv;refine⟨v',?_,e2⟩;rw[<-hfd,Array.getElem?_toList]at e1;obtain⟨hs,e3⟩:=Array.getElem?_eq_some_iff.1 e1;have hiC:i<C.size:=by omega
   have hs':i<d'.size*k:=by simpa using hs
   unfold putCells;rw[Array.getElem?_mapIdx,Array.getElem?_eq_getElem hiC];simp only[Option.map_some,Nat.zero_le,true_and,Nat.zero_add,Nat.sub_zero];rw[if_pos hs,getElem!_pos _ i hs,e3];rfl
 have hts:=hr.Cf (w':=w1) hlo hp ⟨_,hb,trivial⟩ (by rw[hheap];simp) DR ho (by rw[hw1];rfl) (by rw[hw1];rfl) (by rw[hw1];rfl) (.inl trivial) (by rw[hw1];exact Nat.le_add_right _ _);refine⟨φ,.tuple #[],.tuple #[],_,rfl,hκ D hD hpw,VR.tuple' .nil,?_,?_⟩
 .show HR P φ _ (grow (putRowK enc k (Sort.ahead w n) pl.B 0 d') os)
  rw[<-hw1];exact hts.1.grown os
 .show Ext φ φ h _ w (grow (putRowK enc k (Sort.ahead w n) pl.B 0 d') os)
  rw[<-hw1];exact hts.2.grown os
theorem BC{f g:FuncId}(enters:∀args w,(callFunc f args).run P w=.ok (.enter f args) w)(law:∀(p:Option Addr)(cap:Nat)(fv:Value)(w:World),Calls P f #[.slice p 0 cap,fv] w λe w'=>e=.returned (.tuple #[])/\w'=w){h:af}{v:Value}(hv:v=.slice none 0 0\/∃b o,v=.slice (some ⟨b,o,none⟩) 0 0){V:KQ}(hκ:V (.tuple #[]) h):aj P f [v,.func (.func g) #[] #[]] h V:=by
 intro φ w args' ha hr;cases ha with|@cons _ v1 _ m1 hs ha=>
 cases ha with|@cons _ v2 _ m2 hf ha=>
 cases ha;obtain⟨p,cap,e1⟩:∃p cap,v1=.slice p 0 cap:=by
  rcases hv with rfl|⟨b,o,rfl⟩
  .cases hs with
   |fD h=>exact⟨_,_,rfl⟩
  .cases hs with
   |slice h1 h2 h3=>exact⟨_,_,rfl⟩
 subst e1;refine⟨enters _ _,(law p cap v2 w).mono ?_⟩;rintro e w' ⟨rfl,rfl⟩;exact⟨φ,.tuple #[],.tuple #[],h,rfl,hκ,VR.tuple' .nil,hr,Ext.refl _ _ _⟩
theorem sj{f:FuncId}{args args':List Value}{v:Value}(hc:aj P f args ⟨0,.nil,0⟩ λu _=>u=v)(ha:F2 (VR λ_=>none) args args')(hv:nu v=true)(W:World):Calls P f args'.toArray W λe w'=>e=.returned v/\∃q os',w'=grow (W.drewN q) os':=by
 refine Calls.mono (hc _ W args' ha (HR.start W)).2 ?_;rintro e w' ⟨φ',v1,v',h',rfl,g1,g2,g3,g4⟩;have e1:v1=v:=g1;subst e1;refine⟨by rw[oC hv g2],w'.drawn-W.drawn,w'.heap.extract W.heap.size w'.heap.size,?_⟩;have hd:=g4.dr;have hs:=g4.size;have hfr:∀B,B<W.heap.size->w'.heap[B]? = W.heap[B]?:=λB hB=>g4.Ao B hB λb pl e=>by cases e
 have hheap:w'.heap=W.heap++w'.heap.extract W.heap.size w'.heap.size:=by
  refine Array.ext_getElem? λi=>?_;by_cases hi:i<W.heap.size
  .rw[Array.getElem?_append_left hi,hfr i hi]
  .rw[Array.getElem?_append_right XQ,Array.getElem?_extract];by_cases hi2:i<w'.heap.size
   .rw[if_pos XQ];congr 1;omega
   .rw[if_neg XQ,Array.getElem?_eq_none XQ]
 have ht:=g4.tape;have ho:=g4.os;have hu:=g4.output;obtain⟨a1,a2,a3,a4,a5⟩:=w';obtain⟨b1,b2,b3,b4,b5⟩:=W;simp only[grow,World.drewN]at *
 rw[World.mk.injEq];exact⟨hheap,ht,XQ,ho,hu⟩
end
end Go.Vai

namespace Go.Proofs
open Go.Vai Go.Clashes
open Tryz (prog)
def afj:Nat->Int|0=>0|1=>1|2=>2|3=>2|4=>3|5=>3|6=>3|7=>3|_=>4
theorem aal:∀n,n<13->br prog 40 167 [.int .u64 (n:Nat)] (YYY (afj n))=true:=by
 intro n hn;have:(List.range 13).all (λn=>br prog 40 167 [.int .u64 ((n:Nat):Int)] (YYY (afj n)))=true:=by kernel_rfl
 exact List.all_eq_true.1 this n (List.mem_range.2 hn)
theorem afk(v fv:Value)(n:Nat)(hn:n<=12)(lim:Int)(h:af)(V:KQ)(hk:aj prog 281 [v,YYY 0,YYY (n:Int),fv] h λ_ h'=>V (.tuple ⟨[]⟩) h'):aj prog 205 [v,YYY 0,YYY (n:Int),YYY lim,fv] h V:=by
 apply YYZ;rw[YN];refine⟨λm l h1=>ah l 127=YYY 0/\ah l 140=YYY (n:Int)/\HQ h h1,⟨0,rfl,rfl,rfl⟩,?_⟩;rintro m l h1 ⟨s1,s2,hq⟩;cases(show h=h1 from hq);simp(disch:=try exact Y)only[Wz,Fk,s1,s2];exact hk
theorem QK(v fv:Value)(h:af)(V:KQ)(hk:V (.tuple ⟨[]⟩) h):aj prog 281 [v,YYY 0,YYY 0,fv] h V:=by
 apply YYZ;rw[Zd];simp(disch:=try exact Y)only[Wz];refine⟨λn l h1=>ah l 42=YYY 1/\HQ h h1,⟨0,rfl,rfl⟩,?_⟩;rintro n l h1 ⟨s1,hq⟩;cases(show h=h1 from hq);simp(disch:=try exact Y)only[Wz,s1];exact hk
section
variable {β:Type}{fl:β}
theorem QL(n:Int)(h:af)(V:UV β)(hn:0<=n/\n<=18446744073709551615):lE fl .u64 (YYY n) h V=V (.int .u64 n) h:=by
 unfold lE;simp only[gV,ep];rw[IntWalk.u64_in _ hn]
end
theorem QM(b:Nat):(Value.cells (.map (some b))).toList=[.map (some b)]:=id rfl
def SE(x y:Int × Int):Int:=nX x.1 x.2 y.1 y.2
theorem Dc(x y:Int × Int):ltOf SE x y=true<->wM x y:=by
 show decide (nX x.1 x.2 y.1 y.2<0)=true<->_
 rw[decide_eq_true_eq,GF]
theorem Lm{x y:Int × Int}:ltOf SE x y=false<->¬wM x y:=by
 rw[<-Dc,Bool.not_eq_true]
theorem Ug:Sort.SWO (ltOf SE) where
 irrefl x:=Lm.2 (by unfold wM;omega)
 trans x y z h1 h2:=(Dc _ _).2 (MF ((Dc _ _).1 h1) ((Dc _ _).1 h2))
 ntrans x y z h1 h2:=by
  rw[Lm]at *
  unfold wM at *
  omega
theorem QN(blk size:Nat)(w:World):Go.Proofs.CmpLays prog 96 #[] eP 2 SE blk 0 size w:=by
 intro m os dk _ x y;exact sj (args:=[cQ x.1 x.2,cQ y.1 y.2]) (args':=[cQ x.1 x.2,cQ y.1 y.2]) (kf x.1 x.2 y.1 y.2 rfl)
  (.cons (VR.rM (.cons (.int _ _) (.cons (.int _ _) .nil))) (.cons (VR.rM (.cons (.int _ _) (.cons (.int _ _) .nil))) .nil)) rfl _
theorem IW(blk cap:Nat)(d:Array (Int × Int))(w:World)(hH:Sort.HoldsK eP 2 w blk 0 d)(hblk:blk<w.heap.size)(hsz:d.size<4611686018427387904):Calls prog 150 #[YYX blk d.size cap,.func (.func 96) #[] #[]] w λe w'=>e=.returned (.tuple #[])/\∃d' n os,Sort.PermIn 0 d.size d d'/\Sort.SortedIn (λx y=>ltOf SE x y) 0 d.size d'/\w'=Go.Proofs.sortWorldK eP 2 w blk 0 n d' os:=by
 have eg:∀args w,(callFunc 96 args).run prog w=.ok (.enter 96 args) w:=enters_of Tryz.func96 (by kernel_rfl) rfl;exact Go.Proofs.AnyQ.slices_SortFunc Tryz.aaj 2 Tryz.isAgg28 Tryz.sizeOf28 eP (λ_=>rfl) (λx v hv=>by simp[eP]at hv;rcases hv with rfl|rfl<;>rfl) SE Ug 96 #[] blk 0 cap d w eg (QN blk d.size w) hH hblk hsz
theorem IX:∀args w,(callFunc 150 args).run prog w=.ok (.enter 150 args) w:=enters_of Tryz.func150 (by kernel_rfl) rfl
theorem akj(φ:dV)(x:Int × Int)(cs:List Value)(h:F2 (VR φ) (eP x) cs):∃y:Int × Int,cs=eP y/\x=y:=by
 unfold eP at h;cases h with|cons h1 h=>
 cases h with|cons h2 h=>
 cases h;cases h1;cases h2;exact⟨x,rfl,rfl⟩
theorem Uh(a h:af)(L:List (Int × Int))(v:Value)(V:KQ)(ho:zw a h v L)(hle:Le a h)(hlo:h.lo<=h.nx)(hl:L.length<=1000000)(hd:L.Nodup)(hk:∀(D:List (Int × Int)) h',D.Perm L->D.Pairwise wM->zw a h' v D->Le a h'->V (.tuple ⟨[]⟩) h'):aj prog 150 [v,.func (.func 96) #[] #[]] h V:=by
 rcases ho with⟨rfl,hv⟩|⟨b,hv,h1,h2,h3,h4⟩
 .obtain⟨x,c,rfl,_⟩:=(show Sl eP h v []from(show zw a h v []from .inl ⟨rfl,hv⟩).sl)
  apply YYZ;rw[Yk];simp(disch:=try exact Y)only[Wz,QL];refine td mixed (aal 0 XQ) ?_;refine afk _ _ 0 XQ _ h _ ?_;refine QK _ _ h _ ?_;exact hk [] h (List.Perm.refl _) List.Pairwise.nil (.inl ⟨rfl,hv⟩) hle
 ·cases hv;refine Db J0 (enc:=eP) (de:=eP) encN_len encN_len (kA:=id) (kC:=id) (lt:=λx y=>ltOf SE x y) akj IX IW h4 h3 hl ?_;intro D hp hs;have hs2:D.Pairwise wM:=by
   have hnd:D.Nodup:=(hp.nodup_iff).2 hd;refine(hnd.and hs).imp ?_;rintro x y ⟨hne,hlt⟩;exact Ll (λe=>hne e.symm) (Lm.1 hlt)
  refine hk D _ hp hs2 (.inr ⟨b,by rw[hp.length_eq],h1,h2,h3,T.au _ _ _⟩) ⟨hle.nx,hle.lo,λc hc=>?_⟩;exact(T.ax _ _ XQ).trans (hle.get c hc)
theorem Ui{h:af}{bb bm bp bl most:Nat}{M:List HE}{clock:Nat}{F:List Int}{B:List Bool}(s:bu h bb bm bp bl most M clock F B)(hlo:h.lo<=h.nx)(hM:M.length<=1000)(V:KQ)(hk:∀v h' (D:List (Int × Int)),D.Perm (M.map dU)->D.Pairwise wM->zw h h' v D->Le h h'->V v h'):aj prog 164 [YYQ bb] h V:=by
 apply YYZ;rw[Yt];have gb:=s.iE;simp(disch:=try exact Y)only[Wz,aN,gb];apply YYZ;rw[YY];simp(disch:=try exact Y)only[Wz,QM];obtain⟨hA,bh,aU,gc,eE,eG⟩:=nP h (ai [.map (some bm)] 265 false);rw[<-bh];clear bh;have sA:=s.le aU;apply YYZ;rw[adZ];apply YYZ;rw[Yj];have hlm:=s.xq;refine GD M clock bm h.nx hA s.ok sA.gP XQ gc XQ XQ XQ _ ?_;intro v h2 L hp ho bF;have n2:=bF.nx;have l2:=bF.lo;have hnd:(L.map dU).Nodup:=by
  refine((hp.map dU).nodup_iff).2 ?_;rw[List.Nodup,List.pairwise_map];exact s.ok.nm.imp λhn e=>hn ⟨congrArg Prod.fst e,congrArg Prod.snd e⟩
 have hll:=hp.length_eq;refine Uh hA h2 (L.map dU) v _ ho bF XQ (by rw[List.length_map];omega) hnd ?_;intro D h3 hpD hs pz cT;exact hk v h3 D (hpD.trans (hp.map dU)) hs (ia.base pz XQ) (aU.trans cT)
theorem MH{β:Type}{fl:β}{M:List HE}{clock:Nat}{h:af}{bm:Nat}(o:fU M clock)(g:h.bl.get bm=some (.map (M.map lW) clock)){e:HE}(he:e∈M)(V:UV β):dG fl prog 28 (.pointer none) false (.map (some bm)) (cQ e.t e.r) h V=V (YYQ e.hb) h:=by
 unfold dG jJ;rw[Qp];simp only[g];rcases Gt h e.t e.r M 0 with⟨g1,g2⟩|⟨j,e',g1,g2,g3,g4⟩
 .exact absurd ⟨rfl,rfl⟩ (g2 e he)
 .rw[g1];rw[o.uniq he (List.mem_of_getElem? g2) g3 g4];rfl
def slV(v:Value):Value:=match v with | .slice a n c=>.slice a n c|_=>.slice none 0 0
def qY(e:HE):List Value:=[YYY e.t,YYY e.r,slV e.q,YYY e.w]
theorem tQ(e:HE):(qY e).length=4:=rfl
theorem GI(e:HE):(qY e).all dI=true:=by
 unfold qY slV;split<;>rfl
theorem QO{h:af}{q:Value}{Q:List R5}(hq:Sl bH h q Q):slV q=q:=by
 obtain⟨x,c,rfl,_⟩:=hq;rfl
abbrev QS(a h:af)(v:Value)(K:List HE):Prop:=ia qY a 55 h v K
def GJ(a b:HE):Prop:=a.t=b.t/\a.r=b.r/\a.w=b.w/\a.Q=b.Q
theorem MI{h:af}{bb bm bp bl most:Nat}{M:List HE}{clock:Nat}{F:List Int}{B:List Bool}(s:bu h bb bm bp bl most M clock F B)(hlo:h.lo<=h.nx)(hM:M.length<=1000)(V:KQ)(hk:∀v h' (K:List HE),K.length=M.length->(K.map dU).Perm (M.map dU)->(K.map dU).Pairwise wM->(∀k∈K,(∃e∈M,GJ k e)/\QV h' k.q k.Q)->QS h h' v K->Le h h'->V v h'):aj prog 109 [YYQ bb] h V:=by
 apply YYZ;rw[X1];simp(disch:=try exact Y)only[Wz,iF,EW];refine Ui s hlo hM _ ?_;intro v1 h1 D hp hs SS bN;have hlD:D.length=M.length:=by rw[hp.length_eq,List.length_map]
 obtain⟨x1,c1,rfl,_⟩:=(show Sl eP h1 v1 D from SS.sl)
 have n1:=bN.nx;have l1:=bN.lo;simp(disch:=try exact Y)only[Wz];refine⟨λm l h2=>∃(i:Nat)(K:List HE),ah l 23=YYY (i:Int)/\m=D.length-i/\i<=D.length/\K.map dU=D.take i/\(∀k∈K,(∃e∈M,GJ k e)/\QV h2 k.q k.Q)/\QS h1 h2 (ah l 21) K/\Le h1 h2,
  ⟨_,0,[],rfl,rfl,XQ,by simp,λk hk=>(nomatch hk),.inl ⟨rfl,.inl rfl⟩,Le.refl _⟩,?_⟩
 rintro m l h2 ⟨i,K,s1,rfl,hi,hK,hQ,hoK,bF⟩;have n2:=bF.nx;have l2:=bF.lo;have Wj:K.length=i:=by have:=congrArg List.length hK;simp at this;omega
 by_cases hst:i<D.length
 .obtain⟨p,hpi⟩:∃p,D[i]? = some p:=⟨_,List.getElem?_eq_getElem hst⟩
  have hpD:p∈M.map dU:=hp.mem_iff.1 (List.mem_of_getElem? hpi);obtain⟨e,he,rfl⟩:=List.mem_map.1 hpD;have s2:=s.le (bN.trans bF);have gb:=s2.iE;have gm:=s2.gP;have ao_:=s2.SC;have H:=s2.aY e he;have hlt:=H.lt;have hgd:=s2.good e he;obtain⟨qx,qc,eq,_⟩:=(show Sl bH h2 e.q e.Q from H.qv.1)
  have gh:=H.get;rw[eq]at gh;obtain⟨b1,o1,hb1,Ue,_,Sp⟩:=(SS.sl.le bF).ld encN_len i hpi;have r1:=λ(β:Type)(fl:β) V=>oD (fl:=fl) Sp 2 V rfl;have akl:=s2.xq;have gmB:=(((Le.refl h2).new (ai [YYY e.t,YYY e.r] 28 false)).get _ akl).trans gm;have eL:=MH (β:=Option Value) (fl:=none) s2.ok gmB he;unfold cQ at eL;simp(disch:=try exact Y)only[Wz,s1,fm (show(i:Int)<(D.length:Int)by omega),EV,Ue,r1,eP,dU,aN,gb,gh,eL];obtain⟨hB,ng,dm,gn,gd,Ms,Mt⟩:=L8 h2 (ai [YYY e.t,YYY e.r] 28 false) (fM e.t e.r (.slice qx e.Q.length qc) e.w);rw[<-ng];clear ng;have hqB:Sl bH hB (.slice qx e.Q.length qc) e.Q:=by rw[<-eq];exact H.qv.1.le dm
  have sY:=hgd.small;refine Gj e.Q hB _ _ hqB XQ XQ ?_;intro q3 h3 pz cT;have n3:=cT.nx;have l3:=cT.lo;have gd:=(cT.get _ XQ).trans gd;obtain⟨Gp,Gq,rfl,_⟩:=(show Sl bH h3 q3 e.Q from pz.sl)
  simp(disch:=try exact Y)only[Wz,gd];obtain⟨h4,e4⟩:∃h4:af,h4=⟨h3.nx+1,(h3.bl.bq (h2.nx+1) (fM e.t e.r (.slice Gp e.Q.length Gq) e.w)).bq h3.nx (fM e.t e.r (.slice Gp e.Q.length Gq) e.w),h3.lo⟩:=⟨_,rfl⟩
  have kU:Le h2 h4:=by rw[e4];exact((dm.trans cT).set (b:=h2.nx+1) XQ _).new _
  have g4:h4.bl.get h3.nx=some (ai ([(⟨e.t,e.r,0,0,.slice Gp e.Q.length Gq,e.w,e.Q⟩:HE)].flatMap qY) 55 false):=by rw[e4];exact T.au _ _ _
  have n4:h4.nx=h3.nx+1:=by rw[e4]
  have l4:h4.lo=h3.lo:=by rw[e4]
  have hq4:QV h4 (.slice Gp e.Q.length Gq) e.Q:=by
   rw[e4];exact((QV.own pz).put (λvs op=>by rw[gd];exact bE J0) _).le ((Le.refl _).new _)
  try rw[<-e4]
  clear e4;refine jC (enc:=qY) (a:=h1) (L:=K) (M:=[(⟨e.t,e.r,0,0,.slice Gp e.Q.length Gq,e.w,e.Q⟩:HE)]) tQ GI J0 J0 (hoK.le kU) (Sl.new XQ g4 _) (bF.trans kU) (by simp;omega) XQ _ ?_;intro v5 h5 oI qe _ n5 l5 zA;have Mz:∀c vs op,c<h4.nx->h4.bl.get c=some (ai vs 57 op)->h5.bl.get c=h4.bl.get c:=λc vs op hc hg=>zA c hc (by rw[hg];exact bE J0);refine⟨_,XQ,i+1,K++[⟨e.t,e.r,0,0,.slice Gp e.Q.length Gq,e.w,e.Q⟩],by simp,rfl,XQ,?_,?_,oI,?_⟩
  .rw[List.map_append,hK,List.take_add_one,hpi];rfl
  .intro k hk';rcases List.mem_append.1 hk' with hk'|hk'
   .exact⟨(hQ k hk').1,((hQ k hk').2.le kU).frame n5 Mz⟩
   .rw[List.mem_singleton]at hk';subst hk';exact⟨⟨e,he,rfl,rfl,rfl,rfl⟩,hq4.frame n5 Mz⟩
  .exact qe
 .simp(disch:=try exact Y)only[Wz,s1,dF (show(D.length:Int)<=(i:Int)by omega)];have hiD:i=D.length:=by omega
  subst hiD;rw[List.take_length]at hK;exact hk _ h2 K XQ (hK▸hp) (hK▸hs) hQ (ia.base hoK XQ) (bN.trans bF)
theorem fP.sub{M M':List HE}{t r w:Int}{Q:List R5}(s:fP M M' t r w Q):∀x∈M',x∈M\/(x.t=t/\x.r=r/\x.w=w/\x.Q=Q):=by
 intro x hx;by_cases h0:Q=[]
 .rw[s.gone h0]at hx;exact .inl (List.mem_filter.1 hx).1
 .obtain⟨e,h1,h2,h3,h4,hp⟩:=s.put h0;rcases List.mem_append.1 (hp.mem_iff.1 hx)with hx|hx
  .exact .inl (List.mem_filter.1 hx).1
  .rw[List.mem_singleton]at hx;subst hx;exact .inr ⟨h1,h2,h3,h4⟩
theorem fP.len{M M':List HE}{t r w:Int}{Q:List R5}(s:fP M M' t r w Q):M'.length<=(M.filter λx=>!u_ t r x).length+1:=by
 by_cases h0:Q=[]
 .rw[s.gone h0];omega
 .obtain⟨e,_,_,_,_,hp⟩:=s.put h0;rw[hp.length_eq];simp
theorem fP.wb{M M':List HE}{t r w:Int}{Q:List R5}{N:Nat}(s:fP M M' t r w Q)(hw:∀e∈M,e.w<=N)(h:w<=N+1):∀e∈M',e.w<=(N+1:Nat):=by
 intro e he;rcases s.sub e he with h1|⟨_,_,h1,_⟩
 .have:=hw e h1;omega
 .omega
theorem Ln{M:List HE}{clock:Nat}(o:fU M clock){e:HE}(he:e∈M):(M.filter λx=>!u_ e.t e.r x).length+1=M.length:=by
 have:=(qN o he).length_eq;rw[this];simp
theorem aan(Q:List R5)(W id x m:Int):(j0 Q W id x m).2.1<=W+1:=by unfold j0;split<;>simp<;>omega
theorem aao(Q:List R5)(W:Int)(r:R5)(m:Int):(jq Q W r m).2.1<=W+1:=by unfold jq;split<;>simp<;>omega
theorem Uj(Q:List R5)(W:Int)(r:R5)(m:Int):(jq Q W r m).1.id=r.id:=by unfold jq;split<;>rfl
theorem tT{Q:List R5}{i:Nat}{p p':R5}(hi:Q[i]? = some p)(h:p'.id=p.id):(Q.set i p').map (·.id)=Q.map (·.id):=by
 obtain⟨hl,rfl⟩:=List.getElem?_eq_some_iff.1 hi;rw[List.map_set,h];refine List.ext_getElem? λk=>?_;rw[List.getElem?_set];split
 .rename_i e;subst e;simp[hl]
 .rfl
section
variable {h h':af}{bb bm bp bl most cap N:Nat}{M M':List HE}{clock clock':Nat}{F F':List Int}{B B':List Bool}
theorem IY{Q:List R5}{W:Int}(v:VQ Q W){p:R5}{id:Int}(hf:ct Q id=some p):(Q.map (·.id)).Perm ((Q.filter λr=>!b_ id r).map (·.id)++[id]):=by
 obtain⟨hp,rfl⟩:=iQ hf;have hnd:(Q.map (·.id)).Nodup:=by
  rw[List.Nodup,List.pairwise_map];exact v.pair.imp λhb=>hb.id
 have akm:((Q.filter λr=>!b_ p.id r).map (·.id)).Nodup:=hnd.sublist (List.filter_sublist.map _);refine(List.perm_ext_iff_of_nodup hnd (zq akm λhm=>?_)).2 λx=>?_
 .obtain⟨q,hq,e⟩:=List.mem_map.1 hm;have:=(List.mem_filter.1 hq).2;simp[b_,e]at this
 .rw[List.mem_append,List.mem_singleton,List.mem_map,List.mem_map];constructor
  .rintro⟨q,hq,rfl⟩;by_cases hqp:q.id=p.id
   .exact .inr hqp
   .exact .inl ⟨q,List.mem_filter.2 ⟨hq,by simp[b_,hqp]⟩,rfl⟩
  .rintro(⟨q,hq,rfl⟩|rfl)
   .exact⟨q,(List.mem_filter.1 hq).1,rfl⟩
   .exact⟨p,hp,rfl⟩
end
theorem QT(b:Nat)(n:Int)(p:Addr)(V:List Value->Prop):bB False [(2,1)] [.map (some b)] [YYY n,.pointer (some p),.map none] V=V [YYY n,.pointer (some p),.map (some b)]:=by kernel_rfl
theorem GK(aY:Nat)(bp:Nat)(h:af)(V:KQ)(hh:1<=aY/\aY<=64)(hlo:h.lo<=h.nx)(hk:∀h',Le h h'->h'.nx=h.nx+2->h'.bl.get h.nx=some (.map [] 0)->h'.bl.get (h.nx+1)=some (ai [YYY (aY:Int),YYQ bp,.map (some h.nx)] 267 false)->V (.tuple ⟨[.pointer (some ⟨h.nx+1,0,none⟩),YYY 0]⟩) h'):aj prog 153 [YYY (aY:Int),YYQ bp] h V:=by
 apply YYZ;rw[PU];simp(disch:=try exact Y)only[Wz,dF (show(1:Int)<=(aY:Int)by omega),dF (show(aY:Int)<=64 by omega),C5,jc,QT];exact hk _ (((Le.refl h).new _).new _) rfl ((T.ax _ _ XQ).trans (T.au _ _ _)) (T.au _ _ _)
def jt(n m:Int):Int:=if m<1 then 0 else if Int.tmod n m<0 then Int.tmod n m+m else Int.tmod n m
theorem IZ(n m:Int)(hm:m<=9223372036854775807){h:af}{V:KQ}(hk:V (YYY (jt n m)) h):aj prog 9 [YYY n,YYY m] h V:=by
 refine gN (v:=YYY (jt n m)) rfl rfl (ay mixed ?_) hk;rw[aiF];by_cases h1:m<1
 .simp(disch:=try exact Y)only[Wz];simp[jt,h1]
 .have h2:=Int.tmod_lt_of_pos n (show 0<m by omega);have h3:=Int.lt_tmod_of_pos n (show 0<m by omega);simp(disch:=try exact Y)only[Wz,PB,J1 _ _ _ _ _ m _ _ XQ];refine⟨λl h'=>ah l 5=YYY (jt n m),?_,λl h' hs=>hs⟩;by_cases h4:Int.tmod n m<0
  .simp(disch:=try exact Y)only[Wz];simp[jt,h1,h4]
  .simp(disch:=try exact Y)only[Wz];simp[jt,h1,h4]
structure Act where
 k:Int
 t:Int
 r:Int
 id:Int
 x:Int
 m:Int
def de(a:Act):List Value:=[YYY a.k,YYY a.t,YYY a.r,YYY a.id,YYY a.x,YYY a.m]
theorem oJ{β:Type}{fl:β}(cn:Bool)(a b c d:Int)(h:af)(V:UV β):aF fl prog .eql 28 cn false (.agg ⟨[YYY a,YYY b]⟩) (.agg ⟨[YYY c,YYY d]⟩) h V=V (.bool (decide (a=c/\b=d))) h:=by
 have:=eqN h a b c d;unfold cQ at this;simp only[aF,this,bX]
section
variable {M M' K:List HE}{clock:Nat}
end
end Go.Proofs

namespace Go.Vai
end Go.Vai
namespace Go.Proofs
open Go.Vai Go.Clashes
open Tryz (prog)
section
variable {a h:af}{bb bm bp bl most cap N:Nat}{M:List HE}{clock:Nat}{F:List Int}{B:List Bool}{rb rp rl:Nat}{v:Value}{K:List HE}
end
theorem afl{h:af}{v:Value}{K:List HE}(hs:Sl qY h v K)(i:Nat){e:HE}(hp:K[i]? = some e)(hq:slV e.q=e.q):∃b o,b<h.nx/\(∀(β:Type)(fl:β)(h':af)(V:UV β),aI fl 4 v (YYY (i:Int)) h' V=V (.pointer (some ⟨b,o,none⟩)) h')/\
   ∀h',Le h h'->((∀(β:Type)(fl:β)(V:List Value->β),wW fl (h'.bl.get b) o 2 V=V [YYY e.t,YYY e.r])/\
   (∀(β:Type)(fl:β)(V:List Value->β),wW fl (h'.bl.get b) o 4 V=V [YYY e.t,YYY e.r,e.q,YYY e.w])/\
   (∀(β:Type)(fl:β)(V:Value->β),uv fl (h'.bl.get b) o V=V (YYY e.t))/\
   (∀(β:Type)(fl:β)(V:Value->β),uv fl (h'.bl.get b) (o+1) V=V (YYY e.r))/\
   (∀(β:Type)(fl:β)(V:Value->β),uv fl (h'.bl.get b) (o+2) V=V e.q)/\
   (∀(β:Type)(fl:β)(V:Value->β),uv fl (h'.bl.get b) (o+3) V=V (YYY e.w))):=by
 obtain⟨b,o,h1,h2,h3,hh⟩:=hs.ld tQ i hp;refine⟨b,o,h1,h2,λh' l=>?_⟩;rw[l.get b h1];refine⟨λβ fl V=>?_,λβ fl V=>?_,λβ fl V=>?_,λβ fl V=>?_,λβ fl V=>?_,λβ fl V=>?_⟩
 .have:=hh.sub 0 2 (by show 0+2<=4;omega);rw[Nat.add_zero]at this;exact oD this 2 V rfl
 .rw[oD hh 4 V rfl];unfold qY;rw[hq]
 .exact eO (fl:=fl) hh 0 V (by show 0<4;omega)
 .exact eO (fl:=fl) hh 1 V (by show 1<4;omega)
 .rw[eO (fl:=fl) hh 2 V (by show 2<4;omega)];show V (slV e.q)=_;rw[hq]
 .exact eO (fl:=fl) hh 3 V (by show 3<4;omega)
section
variable {a h:af}{rb rp most:Nat}{v:Value}{K:List HE}
end
section
variable {a h:af}{rb rp rl most:Nat}{v:Value}{K:List HE}
end
section
variable {a h:af}{rb rp rl most:Nat}{v:Value}{K:List HE}{B:List Bool}
end
section
variable {a h:af}{rb rp rl most:Nat}{v:Value}{K:List HE}{B:List Bool}
end
section
variable {a h:af}{rb rp rl most:Nat}{v:Value}{K:List HE}{B:List Bool}
end
theorem rD.uniq{M:List HE}{B:List Bool}(i:rD M B){e e':HE}(he:e∈M)(he':e'∈M){p p':R5}(hp:p∈e.Q)(hp':p'∈e'.Q)(h:p.id=p'.id):e=e':=by
 obtain⟨X,hX⟩:=i;have hnd:=(List.nodup_append.1 ((hX.nodup_iff).2 (r_ B))).1;unfold gq at hnd;rw[List.Nodup,List.pairwise_flatMap]at hnd;obtain⟨i,hi⟩:=List.getElem?_of_mem he;obtain⟨j,hj⟩:=List.getElem?_of_mem he';have G:=dY.1 hnd.2;rcases Nat.lt_trichotomy i j with hl|hl|hl
 .exact absurd h (G i j e e' hl hi hj _ (List.mem_map.2 ⟨p,hp,rfl⟩) _ (List.mem_map.2 ⟨p',hp',rfl⟩))
 .subst hl;rw[hi]at hj;exact Option.some.inj hj
 .exact absurd h.symm (G j i e' e hl hj hi _ (List.mem_map.2 ⟨p',hp',rfl⟩) _ (List.mem_map.2 ⟨p,hp,rfl⟩))
section
variable {h h':af}{bb bm bp bl most cap N:Nat}{M M' K:List HE}{clock clock':Nat}{F F':List Int}{B B':List Bool}
end
section
variable {a h:af}{rb rp rl most:Nat}{v:Value}{K:List HE}{B:List Bool}
end
section
variable {a h:af}{rb rp rl most:Nat}{v:Value}{K:List HE}{B:List Bool}
end
section
variable {a0 h:af}{bb bm bp bl most cap N:Nat}{M:List HE}{clock:Nat}{F:List Int}{B:List Bool}{rb rp rl:Nat}{v:Value}{K:List HE}
end
def QU(M:List HE)(t r x id:Int)(b:Bool):Prop:=(b=true/\∃e∈M,t=e.t/\r=e.r/\∃p∈e.Q,p.x=x/\p.id=id)\/(b=false/\id=0/\∀e∈M,t=e.t->r=e.r->∀p∈e.Q,p.x≠x)
theorem Uk{h:af}{bb bm bp bl most:Nat}{M:List HE}{clock:Nat}{F:List Int}{B:List Bool}(s:bu h bb bm bp bl most M clock F B)(hlo:h.lo<=h.nx)(t r x:Int)(V:KQ)(hk:∀h' id b,QU M t r x id b->Le h h'->V (.tuple ⟨[YYY id,.bool b]⟩) h'):aj prog 350 [YYQ bb,cQ t r,YYY x] h V:=by
 refine Gx s hlo t r x _ ?_ ?_
 .intro h' hn l;exact hk h' 0 false (.inr ⟨rfl,rfl,hn⟩) l
 .intro h' e p he ht hr hp hx l;exact hk h' _ true (.inl ⟨rfl,e,he,ht,hr,p,hp,hx,rfl⟩) l
section
variable {a0 h:af}{bb bm bp bl most cap N:Nat}{M:List HE}{clock:Nat}{F:List Int}{B:List Bool}{rb rp rl:Nat}{v:Value}{K:List HE}
end
end Go.Proofs

namespace Go.Vai
open Go
section
variable {β:Type}{fl:β}
theorem xw(P:Program)(t:TypeId)(cn gd:Bool)(a b:ByteArray)(h:af)(V:UV β)(hs:a.size+b.size<=9223372036854775807):aF fl P .add t cn gd (.string a) (.string b) h V=V (.string (a++b)) h:=by
 have e:Nat.ble (Nat.add a.size b.size) 9223372036854775807=true:=Nat.ble_eq_true_of_le hs;simp only[aF];rw[e]
theorem MJ(P:Program)(t:TypeId)(cn gd:Bool)(a b:Int)(h:af)(V:UV β):aF fl P .xor t cn gd (.int .u32 a) (.int .u32 b) h V=V (.int .u32 (IntKind.u32.wrap ((BitVec.ofInt IntKind.u32.bits a ^^^ BitVec.ofInt IntKind.u32.bits b).toNat))) h:=by
 simp only[aF,ir,mT,gV,ep]
theorem MK(P:Program)(t:TypeId)(cn gd:Bool)(a b:Int)(h:af)(V:UV β):aF fl P .mul t cn gd (.int .u32 a) (.int .u32 b) h V=V (.int .u32 (IntKind.u32.wrap (a*b))) h:=by
 simp only[aF,ir,mT,gV,ep];rfl
theorem ML(P:Program)(t:TypeId)(cn gd:Bool)(a b:Int)(h:af)(V:UV β)(hb:b≠0):aF fl P .rem t cn gd (.int .u32 a) (.int .u32 b) h V=V (.int .u32 (Int.tmod a b)) h:=by
 simp only[aF,ir,mT,gV,gH,hb,decide_false]
theorem GL(k:IntKind)(a:Int)(h:af)(V:UV β):lE fl .u32 (.int k a) h V=V (.int .u32 (IntKind.u32.wrap a)) h:=by simp only[lE,gV,ep]
theorem Dd(a:Int):0<=IntKind.u32.wrap a/\IntKind.u32.wrap a<4294967296:=by
 unfold IntKind.wrap;simp only[IntKind.bits,IntKind.signed];have h1:=Int.emod_nonneg a (show(2:Int) ^ 32≠0 by decide);have h2:=Int.emod_lt_of_pos a (show(0:Int)<2 ^ 32 by decide);simp at *
 omega
theorem MM{a:Int}(h:0<=a/\a<4294967296):IntKind.u32.wrap a=a:=by
 unfold IntKind.wrap;simp only[IntKind.bits,IntKind.signed];have:=Int.emod_eq_of_lt h.1 (show a<2 ^ 32 by omega);simp at *
 omega
theorem Ul(s:ByteArray):ki 8 (.string s) (.string s)=true:=by
 show lu s s=true
 rw[jT];simp
def zB(s:ByteArray):List Value:=s.data.toList.map λb:UInt8=>Value.int .u8 (Int.ofNat b.toNat)
theorem I1{s:ByteArray}{i:Nat}(h:i<s.data.toList.length):(zB s)[i]? = some (.int .u8 (Int.ofNat (s.data.toList[i]).toNat)):=by
 unfold zB;rw[List.getElem?_map,List.getElem?_eq_getElem h];rfl
theorem GM(e:TypeId)(s:ByteArray)(h:af)(V:UV β)(hs:s.data.toList.length<=1000000000000):pH fl e (.string s) h V=V (.slice (some ⟨h.nx,0,none⟩) s.data.toList.length aW) ⟨h.nx+1,h.bl.bq h.nx (roO (zB s) e),h.lo⟩:=by
 unfold pH;simp only[Bc,wS,Nat.zero_add,List.length_map];rw[Nat.ble_eq_true_of_le hs];simp only[dN];unfold roO zB;simp only[List.length_map]
end
end Go.Vai

namespace Go.Proofs
open Go.Vai Go.Clashes
open Tryz (prog)
def DD(n:Int):Bool:=decide (0<=n) && decide (n<100)
theorem tU(n:Int){h:af}{V:KQ}(hk:V (.bool (DD n)) h):aj prog 203 [YYY n] h V:=by
 refine gN (v:=.bool (DD n)) rfl rfl (ay mixed ?_) hk;rw[YM];by_cases h1:n<0
 .simp(disch:=try exact Y)only[Wz,fm h1];simp[DD];omega
 .by_cases h2:n<100
  .simp(disch:=try exact Y)only[Wz,dF (show 0<=n by omega),fm h2];simp[DD];omega
  .simp(disch:=try exact Y)only[Wz,dF (show 0<=n by omega),dF (show 100<=n by omega)];simp[DD];omega
theorem I3(h:af)(V:KQ)(hlo:h.lo<=h.nx)(hk:∀h',Le h h'->V (cQ (-1) (-1)) h'):aj prog 202 [] h V:=by
 apply YYZ;rw[YL];simp(disch:=try exact Y)only[Wz];exact hk _ ((Le.refl h).new _)
def bf(t r:Int):Int:=if t = -1/\r = -1 then 0 else if DD t=true/\r = -1 then 1 else if DD t=true/\DD r=true then 2 else -1
theorem QW(t r:Int)(h:af)(V:KQ)(hlo:h.lo<=h.nx)(hk:∀h',Le h h'->V (YYY (bf t r)) h'):aj prog 147 [cQ t r] h V:=by
 apply YYZ;rw[Yi];simp(disch:=try exact Y)only[Wz,cQ];obtain⟨hA,bh,aU,g1,eE,eG⟩:=nP h (ai [YYY t,YYY r] 28 false);rw[<-bh];clear bh;refine I3 hA _ XQ ?_;intro h2 bF;have tV:=bF.nx;have tW:=bF.lo;have g1:=(bF.get _ XQ).trans g1;have hk:=hk h2 (aU.trans bF);simp(disch:=try exact Y)only[Wz,cQ,g1,kS,oJ];by_cases h0:t = -1/\r = -1
 .simp(disch:=try exact Y)only[Wz,bx h0];have e:bf t r=0:=by simp[bf,h0]
  rw[e]at hk;exact hk
 .simp(disch:=try exact Y)only[Wz,aZ h0,E7,g1];refine tU t ?_;cases ht:DD t with
  |false=>
   simp(disch:=try exact Y)only[Wz,yN,g1];refine tU t ?_;rw[ht];have e:bf t r = -1:=by unfold bf;rw[if_neg h0,ht];simp
   rw[e]at hk;simp(disch:=try exact Y)only[Wz];exact hk
  |true=>
   by_cases hr:r = -1
   .simp(disch:=try exact Y)only[Wz,bx hr,g1];have e:bf t r=1:=by unfold bf;rw[if_neg h0,ht,hr];simp
    rw[e]at hk;exact hk
   .simp(disch:=try exact Y)only[Wz,aZ hr,yN,g1];refine tU t ?_;rw[ht];simp(disch:=try exact Y)only[Wz,g1];refine tU r ?_;cases HK:DD r with
    |false=>
     have e:bf t r = -1:=by unfold bf;rw[if_neg h0,ht,HK];simp[hr]
     rw[e]at hk;simp(disch:=try exact Y)only[Wz];exact hk
    |true=>
     have e:bf t r=2:=by unfold bf;rw[if_neg h0,ht,HK];simp[hr]
     rw[e]at hk;simp(disch:=try exact Y)only[Wz];exact hk
theorem qP(t r:Int){h:af}{V:KQ}(hk:V (YYY (bf t r)) h):aj prog 147 [cQ t r] h V:=
 gN (v:=YYY (bf t r)) rfl rfl (QW t r vQ _ (Nat.le_refl _) λ_ _=>rfl) hk
theorem nY(t r:Int){h:af}{V:KQ}(hk:V (YYY (if bf t r = -1 then 2 else 0)) h):aj prog 102 [cQ t r] h V:=by
 refine gN (v:=YYY (if bf t r = -1 then 2 else 0)) rfl rfl (ay mixed ?_) hk;rw[XV];simp(disch:=try exact Y)only[Wz,cQ];refine qP t r ?_;by_cases h:bf t r = -1
 .simp(disch:=try exact Y)only[Wz,bx h];simp[h]
 .simp(disch:=try exact Y)only[Wz,aZ h];simp[h]
def kN(n:Nat):ByteArray:=if n<10 then⟨#[UInt8.ofNat (48+n)]⟩else⟨#[UInt8.ofNat (48+n / 10),UInt8.ofNat (48+n % 10)]⟩
theorem aap:∀n,n<100->br prog 60 290 [YYY (n:Nat)] (.string (kN n))=true:=by
 intro n hn;have:(List.range 100).all (λn=>br prog 60 290 [YYY ((n:Nat):Int)] (.string (kN n)))=true:=by kernel_rfl
 exact List.all_eq_true.1 this n (List.mem_range.2 hn)
theorem I4(n:Int)(hn:DD n=true){h:af}{V:KQ}(hk:V (.string (kN n.toNat)) h):aj prog 290 [YYY n] h V:=by
 have h1:0<=n/\n<100:=by simpa[DD]using hn
 obtain⟨k,rfl⟩:∃k:Nat,n=(k:Int):=⟨n.toNat,XQ⟩
 rw[Int.toNat_natCast]at hk;exact td mixed (aap k XQ) hk
def jv(t r:Int):ByteArray:=if bf t r=0 then⟨#[100,98]⟩else if bf t r=1 then(⟨#[116]⟩:ByteArray)++kN t.toNat else(⟨#[116]⟩:ByteArray)++kN t.toNat++(⟨#[46,114]⟩:ByteArray)++kN r.toNat
theorem qQ(n:Nat):(kN n).size<=2:=by
 unfold kN;split<;>simp[ByteArray.size]
theorem GN{t r:Int}(h:bf t r≠-1):bf t r=0\/(bf t r=1/\DD t=true)\/(bf t r=2/\DD t=true/\DD r=true):=by
 unfold bf at *
 split
 .exact .inl rfl
 .split
  .rename_i h1;exact .inr (.inl ⟨rfl,h1.1⟩)
  .split
   .rename_i h1;exact .inr (.inr ⟨rfl,h1⟩)
   .rename_i h1 h2 h3;rw[if_neg h1,if_neg h2,if_neg h3]at h;exact absurd rfl h
theorem aaq(t r:Int)(hl:bf t r≠-1){h:af}{V:KQ}(hk:V (.string (jv t r)) h):aj prog 208 [cQ t r] h V:=by
 refine gN (v:=.string (jv t r)) rfl rfl (ay mixed ?_) hk;rw[YQ];simp(disch:=try exact Y)only[Wz,cQ];refine qP t r ?_;have st:=qQ t.toNat;have sr:=qQ r.toNat;rcases GN hl with e|⟨e,ht⟩|⟨e,ht,hr⟩
 .rw[e];simp(disch:=try exact Y)only[Wz];simp[jv,e]
 .rw[e];simp(disch:=try exact Y)only[Wz,yP];refine I4 t ht ?_;rw[xw _ _ _ _ _ _ _ _ (by show 1+_<=_;omega)];simp[jv,e]
 .rw[e];simp(disch:=try exact Y)only[Wz,yP,Fm];have e1:∀(β:Type)(fl:β)(cn gd:Bool)(h:af)(V:UV β),aF fl prog .add 9 cn gd (.string ⟨#[116]⟩) (.string (kN t.toNat)) h V=V (.string ((⟨#[116]⟩:ByteArray)++kN t.toNat)) h:=λβ fl cn gd h V=>xw _ _ _ _ _ _ _ _ (by show 1+_<=_;omega);have e2:∀(β:Type)(fl:β)(cn gd:Bool)(h:af)(V:UV β),aF fl prog .add 9 cn gd (.string ((⟨#[116]⟩:ByteArray)++kN t.toNat)) (.string ⟨#[46,114]⟩) h V=V (.string ((⟨#[116]⟩:ByteArray)++kN t.toNat++(⟨#[46,114]⟩:ByteArray))) h:=λβ fl cn gd h V=>xw _ _ _ _ _ _ _ _ (by rw[ByteArray.size_append];show 1+_+2<=_;omega);have e3:∀(β:Type)(fl:β)(cn gd:Bool)(h:af)(V:UV β),aF fl prog .add 9 cn gd (.string ((⟨#[116]⟩:ByteArray)++kN t.toNat++(⟨#[46,114]⟩:ByteArray))) (.string (kN r.toNat)) h V=V (.string ((⟨#[116]⟩:ByteArray)++kN t.toNat++(⟨#[46,114]⟩:ByteArray)++kN r.toNat)) h:=λβ fl cn gd h V=>xw _ _ _ _ _ _ _ _ (by rw[ByteArray.size_append,ByteArray.size_append];show 1+_+2+_<=_;omega);refine I4 t ht ?_;simp(disch:=try exact Y)only[Wz,e1,e2];refine I4 r hr ?_;simp(disch:=try exact Y)only[Wz,e1,e2,e3,Ul];simp[jv,e]
def BD(a:Int)(b:UInt8):Int:=IntKind.u32.wrap (IntKind.u32.wrap ((BitVec.ofInt IntKind.u32.bits a ^^^ BitVec.ofInt IntKind.u32.bits (IntKind.u32.wrap (Int.ofNat b.toNat))).toNat)*16777619)
def vf(s:ByteArray):Int:=s.data.toList.foldl BD 2166136261
theorem GO(a:Int)(b:UInt8):0<=BD a b/\BD a b<4294967296:=Dd _
theorem sk(s:ByteArray):0<=vf s/\vf s<4294967296:=by
 unfold vf;have:∀(l:List UInt8)(a:Int),(0<=a/\a<4294967296)->0<=l.foldl BD a/\l.foldl BD a<4294967296:=by
  intro l
  induction l with
  |nil=>exact λa h=>h
  |cons b l ih=>exact λa _=>ih _ (GO a b)
 exact this _ _ J0
theorem afm(s:ByteArray)(hs:s.data.toList.length<=1000){h:af}{V:KQ}(hk:V (.int .u32 (vf s)) h):aj prog 207 [.string s] h V:=by
 refine gN (v:=.int .u32 (vf s)) rfl rfl (ay mixed ?_) hk;rw[YP];rw[GM _ _ _ _ XQ];simp(disch:=try exact Y)only[Wz];refine⟨λn l h1=>∃i:Nat,ah l 12=YYY (i:Int)/\ah l 10=.int .u32 ((s.data.toList.take i).foldl BD 2166136261)/\i<=s.data.toList.length/\n=s.data.toList.length-i/\HQ ⟨vQ.nx+1,vQ.bl.bq vQ.nx (roO (zB s) 5),vQ.lo⟩ h1,⟨_,0,rfl,rfl,Nat.zero_le _,rfl,rfl⟩,?_⟩;rintro n l h1 ⟨i,s1,s2,hi,rfl,hq⟩;cases(show _=h1 from hq);by_cases hlt:i<s.data.toList.length
 .have hg:=I1 hlt;simp(disch:=try exact Y)only[Wz,s1,fm (show(i:Int)<(s.data.toList.length:Int)by omega),Fl,bt,Nat.mul_one,hg,s2,GL,MJ,MK];refine⟨_,XQ,i+1,rfl,?_,XQ,rfl,rfl⟩;rw[List.take_add_one,List.getElem?_eq_getElem hlt];simp only[Option.toList_some,List.foldl_append,List.foldl_cons,List.foldl_nil];rfl
 .have hil:i=s.data.toList.length:=by omega
  simp(disch:=try exact Y)only[Wz,s1,dF (show(s.data.toList.length:Int)<=(i:Int)by omega),s2];rw[hil,List.take_length];rfl
theorem QX(t r:Int):(jv t r).data.toList.length<=1000:=by
 have st:=qQ t.toNat;have sr:=qQ r.toNat;have:(jv t r).size<=1000:=by
  unfold jv;split
  .decide
  .split
   .rw[ByteArray.size_append];show 1+_<=_;omega
   .rw[ByteArray.size_append,ByteArray.size_append,ByteArray.size_append];show 1+_+2+_<=_;omega
 exact this
theorem aar(t r:Int)(hl:bf t r≠-1){h:af}{V:KQ}(hk:V (.int .u32 (vf (jv t r))) h):aj prog 155 [cQ t r] h V:=by
 refine gN (v:=.int .u32 (vf (jv t r))) rfl rfl (ay mixed ?_) hk;rw[Ym];simp(disch:=try exact Y)only[Wz,cQ];refine aaq t r hl ?_;refine afm _ (QX t r) ?_;rfl
def ef(t r s:Int):Int:=if s<1\/16<s\/bf t r = -1 then -1 else Int.tmod (vf (jv t r)) s
theorem sn{t r s:Int}(h:ef t r s≠-1):0<=ef t r s/\ef t r s<s/\bf t r≠-1:=by
 unfold ef at *
 by_cases hc:s<1\/16<s\/bf t r = -1
 .rw[if_pos hc]at h;exact absurd rfl h
 .rw[if_neg hc];have h1:=sk (jv t r);have h2:=Int.tmod_lt_of_pos (vf (jv t r)) (show 0<s by omega);have h3:=Int.tmod_nonneg s h1.1;exact⟨h3,h2,λe=>hc (.inr (.inr e))⟩
theorem afn(s:Int){h:af}{V:KQ}(hk:V (.bool (decide (1<=s) && decide (s<=16))) h):aj prog 154 [YYY s] h V:=by
 refine gN (v:=.bool (decide (1<=s) && decide (s<=16))) rfl rfl (ay mixed ?_) hk;rw[Yl];by_cases h1:s<1
 .simp(disch:=try exact Y)only[Wz,fm h1];simp;omega
 .by_cases h2:16<s
  .simp(disch:=try exact Y)only[Wz,dF (show 1<=s by omega),fm h2];simp;omega
  .simp(disch:=try exact Y)only[Wz,dF (show 1<=s by omega),dF (show s<=16 by omega)];simp;omega
theorem QY(t r s:Int){h:af}{V:KQ}(hk:V (YYY (ef t r s)) h):aj prog 104 [cQ t r,YYY s] h V:=by
 refine gN (v:=YYY (ef t r s)) rfl rfl (ay mixed ?_) hk;rw[XX];simp(disch:=try exact Y)only[Wz,cQ];refine afn s ?_;by_cases h1:1<=s/\s<=16
 .simp(disch:=try exact Y)only[Wz,bx h1.1,bx h1.2];refine nY t r ?_;by_cases hl:bf t r = -1
  .rw[if_pos hl];simp(disch:=try exact Y)only[Wz];simp[ef,hl]
  .rw[if_neg hl];simp(disch:=try exact Y)only[Wz];refine aar t r hl ?_;have hr:=sk (jv t r);have h2:=Int.tmod_lt_of_pos (vf (jv t r)) (show 0<s by omega);have h3:=Int.tmod_nonneg s hr.1;simp(disch:=try exact Y)only[Wz,GL,MM,ML];unfold ef;rw[if_neg XQ]
 .have e:(decide (1<=s) && decide (s<=16))=false:=by simp;omega
  rw[e];simp(disch:=try exact Y)only[Wz];unfold ef;rw[if_pos XQ]
abbrev IE:=Int × Int × Nat
def BE(e:IE):MapEntry:={ key:=YYY e.1,val:=YYY e.2.1,born:=e.2.2 }
def MN(W:List IE)(k:Int):Option Int:=(W.find? λe=>decide (k=e.1)).map λe=>e.2.1
theorem eqI(h:af)(a b:Int):mQ prog h 100 3 (YYY a) (YYY b)=some (decide (a=b)):=by
 have:mQ prog h 100 3 (YYY a) (YYY b)=some (sE a b):=by kernel_rfl
 rw[this,gH]
theorem QZ(t:Int):jQ prog 20 3 (YYY t)=true:=by kernel_rfl
theorem Tr(t:Int):ki 3 (YYY t) (YYY t)=true:=by
 show(ir .i64 .i64 && sE t t)=true
 rw[gH,bx rfl];rfl
theorem Wt(h:af)(k:Int):∀(M:List IE)(i:Nat),(gF prog h 3 (YYY k) (M.map BE) i=some none/\M.find? (λe=>decide (k=e.1))=none)\/
  ∃(j:Nat)(e:IE),gF prog h 3 (YYY k) (M.map BE) i=some (some (i+j,BE e))/\M[j]? = some e/\k=e.1/\M.find? (λe=>decide (k=e.1))=some e/\∀(v:Int)(k':Int),(M.set j (e.1,v,e.2.2)).find? (λe=>decide (k'=e.1))=if k'=k then some (e.1,v,e.2.2)else M.find? (λe=>decide (k'=e.1)):=by
 intro M
 induction M with
 |nil=>intro i;exact .inl ⟨rfl,rfl⟩
 |cons e M ih=>
  intro i;have hf:gF prog h 3 (.int .i64 k) ((e::M).map BE) i=(match(some (decide (k=e.1)):Option Bool)with|some true=>some (some (i,BE e))|some false=>gF prog h 3 (.int .i64 k) (M.map BE) (Nat.succ i)|none=>none):=by
   rw[<-eqI h];rfl
  rw[hf];by_cases h1:k=e.1
  .rw[bx h1];refine .inr ⟨0,e,rfl,rfl,h1,by rw[List.find?_cons,bx h1],λv k'=>?_⟩;rw[List.set_cons_zero,List.find?_cons,List.find?_cons];by_cases h2:k'=k
   .rw[if_pos h2,bx (h2.trans h1)]
   .rw[if_neg h2,aZ (λe'=>h2 (e'.trans h1.symm))]
  .rw[aZ h1];rcases ih (Nat.succ i)with⟨g1,g2⟩|⟨j,e',g1,g2,g3,g4,g5⟩
   .exact .inl ⟨g1,by rw[List.find?_cons,aZ h1];exact g2⟩
   .refine .inr ⟨j+1,e',by rw[show i+(j+1)=Nat.succ i+j by omega];exact g1,g2,g3,by rw[List.find?_cons,aZ h1];exact g4,λv k'=>?_⟩;rw[List.set_cons_succ,List.find?_cons,List.find?_cons];by_cases h2:k'=e.1
    .rw[bx h2];simp only;rw[if_neg (λe'=>h1 (e'.symm.trans h2))]
    .rw[aZ h2];exact g5 v k'
theorem afo{β:Type}{fl:β}{W:List IE}{clock:Nat}{h:af}{bw:Nat}(g:h.bl.get bw=some (.map (W.map BE) clock))(k:Int)(V:UV β):dG fl prog 3 (YYY 0) true (.map (some bw)) (YYY k) h V=V (.tuple ⟨[YYY ((MN W k).getD 0),.bool (MN W k).isSome]⟩) h:=by
 unfold dG jJ MN;rw[QZ];simp only[g];rcases Wt h k W 0 with⟨g1,g2⟩|⟨j,e',g1,g2,g3,g4,_⟩
 .rw[g1,g2];rfl
 .rw[g1,g4];rfl
theorem aas{W:List IE}{clock:Nat}{h:af}{bw:Nat}(g:h.bl.get bw=some (.map (W.map BE) clock))(hlo:h.lo<=bw)(k v:Int)(V:KQ)(hk:∀W' clock',(∀j,MN W' j=if j=k then some v else MN W j)->V undef ⟨h.nx,h.bl.bq bw (.map (W'.map BE) clock'),h.lo⟩):cM False prog 3 (.map (some bw)) (YYY k) (YYY v) h V:=by
 unfold cM;rw[QZ];simp only[g];rcases Wt h k W 0 with⟨g1,g2⟩|⟨j,e,g1,g2,g3,g4,g5⟩
 ·rw[g1];simp only;rw[nJ];simp only[bY];rw[cg _ _ _ _ hlo];have:=hk (W++[(k,v,clock)]) (clock+1) λj=>by
   unfold MN;rw[List.find?_append];by_cases hj:j=k
   .rw[if_pos hj,hj,g2];simp
   .rw[if_neg hj];simp[List.find?_cons,hj]
  rw[List.map_append]at this;exact this
 ·rw[g1];subst g3;simp only[BE,Tr];rw[Nat.zero_add,nK _ _ j (BE e) _ (by rw[List.getElem?_map,g2];rfl),cg _ _ _ _ hlo];have:=hk (W.set j (e.1,v,e.2.2)) clock λi=>by
   unfold MN;rw[g5 v i];split<;>rfl
  rw[List.map_set]at this;exact this
theorem qW.keep{h h':af}{bb bm bp bl most clock:Nat}{M:List HE}{F:List Int}{B:List Bool}(s:bu h bb bm bp bl most M clock F B)(f:qW bm bp bl h h'){c:Nat}{vs:List Value}{ty:TypeId}{op:Bool}(hc:c<h.nx)(hg:h.bl.get c=some (ai vs ty op))(h1:ty≠286)(h2:ty≠4)(h3:ty≠3):h'.bl.get c=h.bl.get c:=by
 obtain⟨fs,zo,hpt⟩:=s.aL.fr.cell;have gl:=s.aL.cell;have gm:=s.gP;exact f.get c hc (by rintro rfl;rw[hg]at gm;exact bV gm.symm) (by rintro rfl;rw[hg]at zo;exact bE h1 zo) (by rintro rfl;rw[hg]at gl;exact bE h2 gl) λws=>by rw[hg];exact bE h3
theorem qW.Lo{h h':af}{bb bm bp bl most clock:Nat}{M:List HE}{F:List Int}{B:List Bool}(s:bu h bb bm bp bl most M clock F B)(f:qW bm bp bl h h'){c:Nat}{es:List MapEntry}{cl:Nat}(hc:c<h.nx)(hg:h.bl.get c=some (.map es cl))(hne:c≠bm):h'.bl.get c=h.bl.get c:=by
 obtain⟨fs,zo,hpt⟩:=s.aL.fr.cell;have gl:=s.aL.cell;exact f.get c hc hne (by rintro rfl;rw[zo]at hg;exact bV hg.symm) (by rintro rfl;rw[gl]at hg;exact bV hg.symm) λws=>by rw[hg];exact bV
theorem bu.aside{h h':af}{bb bm bb2 bm2 bp bl most Wu clock Q0:Nat}{M M2:List HE}{F F':List Int}{B B':List Bool}(s:bu h bb bm bp bl most M clock F B)(f:qW bm bp bl h h')(s2:bu h bb2 bm2 bp bl Wu M2 Q0 F B)(hne:bm2≠bm)(p:dZ h' bp bl F' B'):bu h' bb2 bm2 bp bl Wu M2 Q0 F' B':=by
 have fn:=f.nx;have fl:=f.lo;have sb:=s2.SC;have sm:=s2.xq;refine⟨XQ,XQ,by rw[fl];exact s2.T7,(f.keep s sb s2.iE J0 J0 J0).trans s2.iE,(f.Lo s sm s2.gP hne).trans s2.gP,s2.ok,λe he=>?_,s2.good,p,s2.ne⟩;have a:=s2.aY e he;have al:=a.lt;exact⟨XQ,(f.keep s al a.get J0 J0 J0).trans a.get,a.qv.frame fn λc vs op hc hg=>f.keep s hc hg J0 J0 J0⟩
structure TB where
 bb:Nat
 bm:Nat
 M:List HE
 clock:Nat
def nZ(b:TB):List Value:=[YYQ b.bb]
theorem BF(b:TB):(nZ b).length=1:=rfl
theorem MO(b:TB):(nZ b).all dI=true:=rfl
structure gr where
 S:Int
 H:Int
 R:Int
 P:Int
structure eZ(h:af)(tb bw bp bl:Nat)(c:gr)(vb:Value)(aY:Nat)(T:List TB)(W:List IE)(wc:Nat)(F:List Int)(B:List Bool):Prop where
 ltt:tb<h.nx
 mN:h.bl.get tb=some (ai [YYY c.S,YYY c.H,YYY c.R,YYY c.P,YYQ bp,vb,.map (some bw)] 194 false)
 sl:Sl nZ h vb T
 ty:vS 205 h vb
 De:bw<h.nx
 low:h.lo<=bw
 oV:h.bl.get bw=some (.map (W.map BE) wc)
 bk:∀b∈T,bu h b.bb b.bm bp bl aY b.M b.clock F B
 GQ:T.Pairwise λa b=>a.bm≠b.bm
 wne:∀b∈T,bw≠b.bm
 aL:dZ h bp bl F B
 cS:c.S=T.length
 s1:1<=T.length/\T.length<=16
 hd:aY<=64
theorem Sl.I5{α:Type}{enc:α->List Value}{h h':af}{v:Value}{L:List α}{e:TypeId}(s:Sl enc h v L)(t:vS e h v)(hn:h.nx<=h'.nx)(hg:∀c vs op,c<h.nx->h.bl.get c=some (ai vs e op)->h'.bl.get c=h.bl.get c):Sl enc h' v L/\vS e h' v:=by
 constructor
 .obtain⟨x,cap,rfl,h2⟩:=s;refine⟨x,cap,rfl,λhne=>?_⟩;obtain⟨b,o,rfl,h3,h4⟩:=h2 hne;obtain⟨h1,vs,op,h5⟩:=t b o _ cap rfl (by intro h0;exact hne (List.eq_nil_of_length_eq_zero h0));refine⟨b,o,rfl,Nat.lt_of_lt_of_le h3 hn,?_⟩;rw[hg b vs op h1 h5];exact h4
 .intro b o n c hv hn0;obtain⟨h1,vs,op,h2⟩:=t b o n c hv hn0;exact⟨Nat.lt_of_lt_of_le h1 hn,vs,op,(hg b vs op h1 h2).trans h2⟩
theorem eZ.le{h h':af}{tb bw bp bl:Nat}{c:gr}{vb:Value}{aY:Nat}{T:List TB}{W:List IE}{wc:Nat}{F:List Int}{B:List Bool}(s:eZ h tb bw bp bl c vb aY T W wc F B)(l:Le h h'):eZ h' tb bw bp bl c vb aY T W wc F B:=
 ⟨Nat.lt_of_lt_of_le s.ltt l.nx,(l.get _ s.ltt).trans s.mN,s.sl.le l,s.ty.le l,Nat.lt_of_lt_of_le s.De l.nx,by rw[l.lo];exact s.low,(l.get _ s.De).trans s.oV,λb hb=>(s.bk b hb).le l,s.GQ,s.wne,s.aL.le l,s.cS,s.s1,s.hd⟩
theorem Q3{T:List TB}{k:Nat}{b:TB}(hk:T[k]? = some b)(M':List HE)(clock':Nat):(T.set k ⟨b.bb,b.bm,M',clock'⟩).flatMap nZ=T.flatMap nZ:=by
 obtain⟨hl,rfl⟩:=List.getElem?_eq_some_iff.1 hk;rw[List.flatMap_def,List.flatMap_def,List.map_set]
 congr 1
 refine List.ext_getElem? λi=>?_;rw[List.getElem?_set];split
 .rename_i e;subst e;rw[if_pos (by simpa using hl),List.getElem?_map,List.getElem?_eq_getElem hl];rfl
 .rfl
theorem Sl.congr{α:Type}{enc:α->List Value}{h:af}{v:Value}{L L':List α}(s:Sl enc h v L)(hl:L'.length=L.length)(hf:L'.flatMap enc=L.flatMap enc):Sl enc h v L':=by
 obtain⟨x,cap,rfl,h2⟩:=s;refine⟨x,cap,by rw[hl],λhne=>?_⟩;rw[hf];exact h2 (λe=>hne (List.eq_nil_of_length_eq_zero (by rw[hl,e];rfl)))
theorem eZ.change{h h':af}{tb bw bp bl:Nat}{c:gr}{vb:Value}{aY:Nat}{T:List TB}{W:List IE}{wc:Nat}{F F':List Int}{B B':List Bool}(s:eZ h tb bw bp bl c vb aY T W wc F B){k:Nat}{b:TB}(hk:T[k]? = some b){M':List HE}{clock':Nat}(is':bu h' b.bb b.bm bp bl aY M' clock' F' B')(f:qW b.bm bp bl h h'):eZ h' tb bw bp bl c vb aY (T.set k ⟨b.bb,b.bm,M',clock'⟩) W wc F' B':=by
 have hb:=s.bk b (List.mem_of_getElem? hk);have fn:=f.nx;have fl:=f.lo;have h1:=s.ltt;have h2:=s.De;have k1:=Sl.I5 s.sl s.ty fn λc vs op hc hg=>f.keep hb hc hg J0 J0 J0;have afq:=s.wne b (List.mem_of_getElem? hk);have kR:∀x∈T.set k ⟨b.bb,b.bm,M',clock'⟩,(x=⟨b.bb,b.bm,M',clock'⟩)\/(x∈T/\x.bm≠b.bm):=by
  intro x hx;obtain⟨i,hi⟩:=List.getElem?_of_mem hx;rw[List.getElem?_set]at hi;split at hi
  .split at hi
   .exact .inl (Option.some.inj hi).symm
   .cases hi
  .rename_i hne;refine .inr ⟨List.mem_of_getElem? hi,?_⟩;rcases Nat.lt_trichotomy i k with h3|h3|h3
   .exact dY.1 s.GQ i k x b h3 hi hk
   .exact absurd h3.symm hne
   .exact λe=>dY.1 s.GQ k i b x h3 hk hi e.symm
 refine⟨XQ,(f.keep hb h1 s.mN J0 J0 J0).trans s.mN,Sl.congr k1.1 (List.length_set ..) (Q3 hk _ _),k1.2,XQ,by rw[fl];exact s.low,(f.Lo hb h2 s.oV afq).trans s.oV,?_,?_,?_,is'.aL,by rw[List.length_set];exact s.cS,by rw[List.length_set];exact s.s1,s.hd⟩
 .intro x hx;rcases kR x hx with rfl|⟨hx,hne⟩
  .exact is'
  .exact hb.aside f (s.bk x hx) hne is'.aL
 .refine rY s.GQ (λj q hj hq=>dY.1 s.GQ j k q b hj hq hk) (λj q hj hq=>dY.1 s.GQ k j b q hj hk hq)
 .intro x hx;rcases kR x hx with rfl|⟨hx,_⟩
  .exact afq
  .exact s.wne x hx
theorem sq{α β:Type}(f:α->List β){T:List α}{k:Nat}{b:α}(hk:T[k]? = some b):∃X,∀b',((T.set k b').flatMap f).Perm (f b'++X):=by
 obtain⟨hl,_⟩:=List.getElem?_eq_some_iff.1 hk;refine⟨(T.take k).flatMap f++(T.drop (k+1)).flatMap f,λb'=>?_⟩;rw[List.set_eq_take_append_cons_drop,if_pos hl,List.flatMap_append,List.flatMap_cons];exact List.perm_append_comm_assoc _ _ _
theorem zC{α:Type}{T:List α}{k:Nat}{b:α}(hk:T[k]? = some b):T.set k b=T:=by
 refine List.ext_getElem? λi=>?_;rw[List.getElem?_set];split
 .rename_i e;subst e;rw[hk,if_pos (List.getElem?_eq_some_iff.1 hk).1]
 .rfl
section
variable {h h':af}{bb bm bp bl most:Nat}{M M':List HE}{clock clock':Nat}{F F':List Int}{B B':List Bool}
theorem nW.ids(s:bu h bb bm bp bl most M clock F B){t r x m:Int}{n:Nat}{g:Bool}(a:nW h h' bb bm bp bl most M M' clock' F F' B t r x m n g):(gq M').Perm (gq M++[(n:Int)]):=by
 obtain⟨Q,w,hold,vq,vq',_,kR⟩:=a.set;have oQ:(gq M).Perm (gq (M.filter λx=>!u_ t r x)++Q.map (·.id)):=by
  rcases hold with⟨e,he,rfl,rfl,rfl,rfl⟩|⟨hn,hl,rfl,rfl⟩
  .have:=qM (qN s.ok he);rw[mM,tP]at this;exact this
  .rw[BA hn];simp
 refine kR.ids.trans ?_;rw[zu vq',List.map_append,List.map_cons,List.map_nil,T_,<-List.append_assoc];exact(oQ.symm).append_right _
theorem nW.len(s:bu h bb bm bp bl most M clock F B)(hl:M.length<=most){t r x m:Int}{n:Nat}{g:Bool}(a:nW h h' bb bm bp bl most M M' clock' F F' B t r x m n g):M'.length<=most:=by
 obtain⟨Q,w,hold,vq,vq',_,kR⟩:=a.set;have:=kR.len;rcases hold with⟨e,he,rfl,rfl,rfl,rfl⟩|⟨hn,hl,rfl,rfl⟩
 .have:=Ln s.ok he;omega
 .rw[BA hn]at this;omega
theorem nW.wb{N:Nat}(hw:∀e∈M,e.w<=N){t r x m:Int}{n:Nat}{g:Bool}(a:nW h h' bb bm bp bl most M M' clock' F F' B t r x m n g):∀e∈M',e.w<=(N+1:Nat):=by
 obtain⟨Q,w,hold,vq,vq',_,kR⟩:=a.set;refine kR.wb hw ?_;have:=aan Q w n x m;rcases hold with⟨e,he,_,_,_,rfl⟩|⟨_,_,_,rfl⟩
 .have:=hw e he;omega
 .omega
theorem nW.sub{t r x m:Int}{n:Nat}{g:Bool}(a:nW h h' bb bm bp bl most M M' clock' F F' B t r x m n g):∀y∈M',(∃e∈M,e.t=y.t/\e.r=y.r)\/(y.t=t/\y.r=r):=by
 obtain⟨Q,w,_,_,_,_,kR⟩:=a.set;intro y hy;rcases kR.sub y hy with h|⟨h1,h2,_⟩
 .exact .inl ⟨y,h,rfl,rfl⟩
 .exact .inr ⟨h1,h2⟩
variable {e:HE}{Q1:List R5}{w1:Int}
theorem j_.Q4(s:bu h bb bm bp bl most M clock F B)(he:e∈M)(m:j_ h h' bb bm bp bl most M M' clock' F' B' e Q1 w1)(hid:Q1.map (·.id)=e.Q.map (·.id)):(gq M').Perm (gq M):=by
 refine m.set.ids.trans ?_;rw[zu m.vq,hid];have:=qM (qN s.ok he);rw[mM,tP]at this;exact this.symm
theorem j_.Q5(s:bu h bb bm bp bl most M clock F B)(he:e∈M){p:R5}{n:Nat}(hf:ct e.Q (n:Int)=some p)(m:j_ h h' bb bm bp bl most M M' clock' F' B' e (e.Q.filter λr=>!b_ (n:Int) r) w1):(gq M).Perm (gq M'++[(n:Int)]):=by
 have h1:=qM (qN s.ok he);rw[mM,tP]at h1;have h2:=h1.trans (List.Perm.append_left (gq (M.filter λx=>!u_ e.t e.r x)) (IY (s.good e he).vq hf));rw[<-List.append_assoc]at h2;have h3:=m.set.ids;rw[zu m.vq]at h3;exact h2.trans (h3.symm.append_right _)
theorem j_.len(s:bu h bb bm bp bl most M clock F B)(hl:M.length<=most)(he:e∈M)(m:j_ h h' bb bm bp bl most M M' clock' F' B' e Q1 w1):M'.length<=most:=by
 have:=m.set.len;have:=Ln s.ok he;omega
theorem j_.sub(he:e∈M)(m:j_ h h' bb bm bp bl most M M' clock' F' B' e Q1 w1):∀y∈M',∃e∈M,e.t=y.t/\e.r=y.r:=by
 intro y hy;rcases m.set.sub y hy with h|⟨h1,h2,_⟩
 .exact⟨y,h,rfl,rfl⟩
 .exact⟨e,he,h1.symm,h2.symm⟩
end
structure kg(h:af)(tb bw bp bl:Nat)(c:gr)(vb:Value)(aY N:Nat)(T:List TB)(W:List IE)(wc:Nat)(F:List Int)(B:List Bool):Prop where
 is:eZ h tb bw bp bl c vb aY T W wc F B
 ids:(T.flatMap λb=>gq b.M).Perm (kK B)
 wh:∀(k:Nat)(b:TB),T[k]? = some b->∀e∈b.M,∀p∈e.Q,MN W p.id=some (k:Int)
 nm:∀(k:Nat)(b:TB),T[k]? = some b->∀e∈b.M,ef e.t e.r c.S=(k:Int)
 wb:∀b∈T,∀e∈b.M,e.w<=N
 len:∀b∈T,b.M.length<=aY
 cR:(B.length:Int)=c.R
 cH:(aY:Int)=c.H
section
variable {h h':af}{tb bw bp bl:Nat}{c:gr}{vb:Value}{aY N:Nat}{T:List TB}{W:List IE}{wc:Nat}{F F':List Int}{B B':List Bool}
theorem kg.Q6(s:kg h tb bw bp bl c vb aY N T W wc F B){k:Nat}{b:TB}(hk:T[k]? = some b):rD b.M B:=by
 obtain⟨X,hX⟩:=sq (λb:TB=>gq b.M) hk;have:=hX b;rw[zC hk]at this;exact⟨X,this.symm.trans s.ids⟩
theorem kg.le(s:kg h tb bw bp bl c vb aY N T W wc F B)(l:Le h h'):kg h' tb bw bp bl c vb aY N T W wc F B:=⟨s.is.le l,s.ids,s.wh,s.nm,s.wb,s.len,s.cR,s.cH⟩
theorem kg.up{N':Nat}(s:kg h tb bw bp bl c vb aY N T W wc F B)(hN:N<=N'):kg h tb bw bp bl c vb aY N' T W wc F B:=⟨s.is,s.ids,s.wh,s.nm,λb hb e he=>by have:=s.wb b hb e he;omega,s.len,s.cR,s.cH⟩
theorem fG{α:Type}{T:List α}{k j:Nat}{b' x:α}(h:(T.set k b')[j]? = some x):(j=k/\x=b')\/(j≠k/\T[j]? = some x):=by
 rw[List.getElem?_set]at h;split at h
 .rename_i e;split at h
  .exact .inl ⟨e.symm,(Option.some.inj h).symm⟩
  .cases h
 .rename_i e;exact .inr ⟨λe'=>e e'.symm,h⟩
theorem lX{M:List HE}{i:Int}:i∈gq M<->∃e∈M,∃p∈e.Q,p.id=i:=by
 unfold gq;rw[List.mem_flatMap];constructor
 .rintro⟨e,he,hi⟩;obtain⟨p,hp,rfl⟩:=List.mem_map.1 hi;exact⟨e,he,p,hp,rfl⟩
 .rintro⟨e,he,p,hp,rfl⟩;exact⟨e,he,List.mem_map.2 ⟨p,hp,rfl⟩⟩
theorem kg.step(s:kg h tb bw bp bl c vb aY N T W wc F B){k:Nat}{b:TB}(hk:T[k]? = some b){M':List HE}{clock':Nat}(is':bu h' b.bb b.bm bp bl aY M' clock' F' B')(f:qW b.bm bp bl h h')(AO:∀X,(gq b.M++X).Perm (kK B)->(gq M'++X).Perm (kK B'))(hsub:∀i∈gq M',i∈gq b.M)(hnm:∀y∈M',∃e∈b.M,e.t=y.t/\e.r=y.r)(hw:∀e∈M',e.w<=(N+1:Nat))(hl:M'.length<=aY)(hB:B'.length=B.length):kg h' tb bw bp bl c vb aY (N+1) (T.set k ⟨b.bb,b.bm,M',clock'⟩) W wc F' B':=by
 obtain⟨X,hX⟩:=sq (λb:TB=>gq b.M) hk;have h0:=hX b;rw[zC hk]at h0;refine⟨s.is.change hk is' f,(hX _).trans (AO X (h0.symm.trans s.ids)),?_,?_,?_,?_,by rw[hB];exact s.cR,s.cH⟩
 .intro j x hj e he p hp;rcases fG hj with⟨rfl,rfl⟩|⟨_,hj⟩
  .obtain⟨e0,Um,p0,T3,hpe⟩:=lX.1 (hsub p.id (lX.2 ⟨e,he,p,hp,rfl⟩));rw[<-hpe];exact s.wh j b hk e0 Um p0 T3
  .exact s.wh j x hj e he p hp
 .intro j x hj e he;rcases fG hj with⟨rfl,rfl⟩|⟨_,hj⟩
  .obtain⟨e0,Um,h1,h2⟩:=hnm e he;rw[<-h1,<-h2];exact s.nm j b hk e0 Um
  .exact s.nm j x hj e he
 .intro x hx e he;obtain⟨j,hj⟩:=List.getElem?_of_mem hx;rcases fG hj with⟨rfl,rfl⟩|⟨_,hj⟩
  .exact hw e he
  .have:=s.wb x (List.mem_of_getElem? hj) e he;omega
 .intro x hx;obtain⟨j,hj⟩:=List.getElem?_of_mem hx;rcases fG hj with⟨rfl,rfl⟩|⟨_,hj⟩
  .exact hl
  .exact s.len x (List.mem_of_getElem? hj)
end
theorem Ww(h:af)(b o:Nat):mQ prog h 100 119 (.pointer (some ⟨b,o,none⟩)) (.pointer none)=some false:=by kernel_rfl
theorem n_{β:Type}{fl:β}(cn:Bool)(b o:Nat)(h:af)(V:UV β):aF fl prog .eql 119 cn false (.pointer (some ⟨b,o,none⟩)) (.pointer none) h V=V (.bool false) h:=by simp only[aF,Ww,bX]
theorem afr(h:af):mQ prog h 100 205 (.pointer none) (.pointer none)=some true:=by kernel_rfl
theorem tX{β:Type}{fl:β}(cn:Bool)(h:af)(V:UV β):aF fl prog .eql 205 cn false (.pointer none) (.pointer none) h V=V (.bool true) h:=by simp only[aF,afr,bX]
structure uy(Ts:List TB)(bw bp bl:Nat)(h h':af):Prop where
 nx:h.nx<=h'.nx
 lo:h'.lo=h.lo
 get:∀c,c<h.nx->(∀b∈Ts,c≠b.bm)->c≠bw->c≠bp->c≠bl->(∀vs,h.bl.get c≠some (ai vs 3 true))->h'.bl.get c=h.bl.get c
 g2:bp<h.nx->∀c,c<h.nx->(∀b∈Ts,c≠b.bm)->c≠bw->c≠bp->c≠bl->¬FB h bp c->h'.bl.get c=h.bl.get c
 mv:bp<h.nx->∀c,c<h.nx->FB h' bp c->FB h bp c
theorem uy.of_le{Ts:List TB}{bw bp bl:Nat}{h h':af}(l:Le h h'):uy Ts bw bp bl h h':=⟨l.nx,l.lo,λc hc _ _ _ _ _=>l.get c hc,λ_ c hc _ _ _ _ _=>l.get c hc,λhb c _ x=>(FB.congr (l.get bp hb)).1 x⟩
theorem uy.trans{Ts:List TB}{bw bp bl:Nat}{h h' h'':af}(a:uy Ts bw bp bl h h')(b:uy Ts bw bp bl h' h''):uy Ts bw bp bl h h'':=
 ⟨Nat.le_trans a.nx b.nx,b.lo.trans a.lo,λc hc h1 h2 h3 h4 h5=>(b.get c (Nat.lt_of_lt_of_le hc a.nx) h1 h2 h3 h4 (λvs=>by rw[a.get c hc h1 h2 h3 h4 h5];exact h5 vs)).trans (a.get c hc h1 h2 h3 h4 h5),
  λhb c hc h1 h2 h3 h4 h5=>(b.g2 (Nat.lt_of_lt_of_le hb a.nx) c (Nat.lt_of_lt_of_le hc a.nx) h1 h2 h3 h4 λx=>h5 (a.mv hb c hc x)).trans (a.g2 hb c hc h1 h2 h3 h4 h5),
  λhb c hc x=>a.mv hb c hc (b.mv (Nat.lt_of_lt_of_le hb a.nx) c (Nat.lt_of_lt_of_le hc a.nx) x)⟩
theorem uy.Un{Ts:List TB}{b:TB}(hb:b∈Ts){bw bp bl:Nat}{h h':af}(f:qW b.bm bp bl h h'):uy Ts bw bp bl h h':=⟨f.nx,f.lo,λc hc h1 _ h3 h4 h5=>f.get c hc (h1 b hb) h3 h4 h5,λhp c hc h1 _ h3 h4 h5=>f.g2 hp c hc (h1 b hb) h3 h4 h5,f.mv⟩
section
variable {h:af}{tb bw bp bl:Nat}{c:gr}{vb:Value}{aY N:Nat}{Ts:List TB}{W:List IE}{wc:Nat}{F:List Int}{B:List Bool}
theorem vj(s:eZ h tb bw bp bl c vb aY Ts W wc F B)(hlo:h.lo<=h.nx)(t r:Int)(V:KQ)(hk:∀h',Le h h'->V (YYY (ef t r c.S)) h'):aj prog 56 [YYQ tb,cQ t r] h V:=by
 apply YYZ;rw[adH];simp(disch:=try exact Y)only[Wz,cQ];obtain⟨hA,bh,aU,g1,eE,eG⟩:=nP h (ai [YYY t,YYY r] 28 false);rw[<-bh];clear bh;have sA:=s.le aU;have gt:=sA.mN;simp(disch:=try exact Y)only[Wz,n_,KK,g1,aN,gt];refine QY t r c.S ?_;exact hk hA aU
theorem Uo{h:af}{v:Value}{Ts:List TB}(hs:Sl nZ h v Ts)(i:Nat){b:TB}(hp:Ts[i]? = some b):∃c o,c<h.nx/\(∀(β:Type)(fl:β)(h':af)(V:UV β),aI fl 1 v (YYY (i:Int)) h' V=V (.pointer (some ⟨c,o,none⟩)) h')/\
   ∀h',Le h h'->(∀(β:Type)(fl:β)(V:Value->β),uv fl (h'.bl.get c) o V=V (YYQ b.bb)):=by
 obtain⟨c,o,h1,h2,h3,hh⟩:=hs.ld BF i hp;refine⟨c,o,h1,h2,λh' l β fl V=>?_⟩;rw[l.get c h1];exact eO (fl:=fl) hh 0 V (by show 0<1;omega)
theorem Df(tb:Nat)(h:af)(V:KQ)(hk:V (YYY 5) h):aj prog 293 [YYQ tb] h V:=by
 apply YYZ;rw[Zg];simp(disch:=try exact Y)only[Wz,n_];exact hk
theorem Lp(s:kg h tb bw bp bl c vb aY N Ts W wc F B)(hlo:h.lo<=h.nx)(id:Int)(V:KQ)(k_:(∀b∈Ts,∀e∈b.M,ct e.Q id=none)->V (.pointer none) h)(dB:∀(k:Nat) b e p,Ts[k]? = some b->e∈b.M->ct e.Q id=some p->V (YYQ b.bb) h):aj prog 291 [YYQ tb,YYY id] h V:=by
 apply YYZ;rw[Zf];have gt:=s.is.mN;simp(disch:=try exact Y)only[Wz,n_,FH,aN,gt,afo s.is.oV];have akp:∀(k:Nat) b e p,Ts[k]? = some b->e∈b.M->ct e.Q id=some p->MN W id=some (k:Int)/\∃n:Nat,id=(n:Int)/\B[n]? = some true:=by
  intro k b e p hb he hf;obtain⟨hp,hpi⟩:=iQ hf;refine⟨by rw[<-hpi];exact s.wh k b hb e he p hp,j9.1 (s.ids.mem_iff.1 (List.mem_flatMap.2 ⟨b,List.mem_of_getElem? hb,lX.2 ⟨e,he,p,hp,hpi⟩⟩))⟩
 have none:MN W id=none\/¬(∃n:Nat,id=(n:Int)/\B[n]? = some true)->∀b∈Ts,∀e∈b.M,ct e.Q id=none:=by
  intro hc b hb e he;obtain⟨k,hk⟩:=List.getElem?_of_mem hb;cases hf:ct e.Q id with
  |none=>rfl
  |some p=>
   obtain⟨h1,h2⟩:=akp k b e p hk he hf;rcases hc with hc|hc
   .rw[h1]at hc;cases hc
   .exact absurd h2 hc
 cases hl:MN W id with
 |none=>
  simp(disch:=try exact Y)only[Wz,Option.isSome_none,Option.getD_none];exact k_ (none (.inl hl))
 |some v=>
  simp(disch:=try exact Y)only[Wz,Option.isSome_some,Option.getD_some,aN,gt];refine Wn bp bl F B id h _ s.is.aL ?_;by_cases hb:∃n:Nat,id=(n:Int)/\B[n]? = some true
  ·obtain⟨n,rfl,hn⟩:=hb;have eh:(decide ((0:Int)<=(n:Int)) && (B[((n:Int)).toNat]?).getD false)=true:=by
    rw[bx XQ,Int.toNat_natCast,hn];rfl
   rw[eh];obtain⟨b,hbT,hbi⟩:=List.mem_flatMap.1 (s.ids.mem_iff.2 (j9.2 ⟨n,rfl,hn⟩));obtain⟨e,he,p,hp,hpi⟩:=lX.1 hbi;obtain⟨k,hk⟩:=List.getElem?_of_mem hbT;have hv:v=(k:Int):=by
    have:=s.wh k b hk e he p hp;rw[hpi,hl]at this;exact Option.some.inj this
   subst hv;have hf:=Mf ((s.is.bk b hbT).good e he).vq.pair hp;rw[hpi]at hf;obtain⟨cc,oo,_,Mx,mh⟩:=Uo s.is.sl k hk;have mh:=mh h (Le.refl _);simp(disch:=try exact Y)only[Wz,aN,gt,Mx,mh];exact dB k b e p hk he hf
  ·have eh:(decide ((0:Int)<=id) && (B[id.toNat]?).getD false)=false:=by
    by_cases h0:0<=id
    .have hne:B[id.toNat]?≠some true:=λe=>hb ⟨id.toNat,XQ,e⟩;rw[bx h0,Bool.true_and];cases hB:B[id.toNat]? with
     |none=>rfl
     |some x=>cases x with
      |false=>rfl
      |true=>exact absurd hB hne
    .rw[aZ h0];rfl
   rw[eh];simp(disch:=try exact Y)only[Wz];exact k_ (none (.inr hb))
end
theorem dZ.frame{h h':af}{bp bl:Nat}{F:List Int}{B:List Bool}(p:dZ h bp bl F B)(hn:h.nx<=h'.nx)(hl:h'.lo=h.lo)(hc:∀c vs ty op,c<h.nx->h.bl.get c=some (ai vs ty op)->h'.bl.get c=h.bl.get c):dZ h' bp bl F B:=by
 have pl:=p.lt;have fl:=p.fr.lt;obtain⟨fs,hg,hpt⟩:=p.fr.cell;refine⟨⟨XQ,by rw[hl];exact p.fr.lo,fs,(hc _ _ _ _ fl hg).trans hg,?_⟩,XQ,by rw[hl];exact p.lo,(hc _ _ _ _ pl p.cell).trans p.cell,p.ok,p.small⟩;rcases hpt with e|⟨b,G,e,k1,k2,k3,k4⟩
 .exact .inl e
 .exact .inr ⟨b,G,e,XQ,XQ,(hc _ _ _ _ k1 k3).trans k3,k4⟩
theorem bu.frame{h h':af}{bb bm bp bl most clock:Nat}{M:List HE}{F:List Int}{B:List Bool}(s:bu h bb bm bp bl most M clock F B)(hn:h.nx<=h'.nx)(hl:h'.lo=h.lo)(hc:∀c vs ty op,c<h.nx->h.bl.get c=some (ai vs ty op)->h'.bl.get c=h.bl.get c)(hm:h'.bl.get bm=h.bl.get bm):bu h' bb bm bp bl most M clock F B:=by
 have sb:=s.SC;have sm:=s.xq;refine⟨XQ,XQ,by rw[hl];exact s.T7,(hc _ _ _ _ sb s.iE).trans s.iE,hm.trans s.gP,s.ok,λe he=>?_,s.good,s.aL.frame hn hl hc,s.ne⟩;have a:=s.aY e he;have al:=a.lt;exact⟨XQ,(hc _ _ _ _ al a.get).trans a.get,a.qv.frame hn λc vs op h1 hg=>hc c vs _ op h1 hg⟩
section
variable {h:af}{tb bw bp bl:Nat}{c:gr}{vb:Value}{aY N:Nat}{Ts:List TB}{W:List IE}{wc:Nat}{F:List Int}{B:List Bool}
theorem eZ.aau(s:eZ h tb bw bp bl c vb aY Ts W wc F B)(W':List IE)(Ai:Nat):eZ ⟨h.nx,h.bl.bq bw (.map (W'.map BE) Ai),h.lo⟩ tb bw bp bl c vb aY Ts W' Ai F B:=by
 have gw:=s.oV;have hc:∀c vs ty op,c<h.nx->h.bl.get c=some (ai vs ty op)->(h.bl.bq bw (.map (W'.map BE) Ai)).get c=h.bl.get c:=by
  intro c vs ty op _ hg;refine T.ax _ _ ?_;rintro rfl;rw[hg]at gw;exact bV gw.symm
 have hm:∀b∈Ts,(h.bl.bq bw (.map (W'.map BE) Ai)).get b.bm=h.bl.get b.bm:=λb hb=>T.ax _ _ (s.wne b hb);have k1:=Sl.I5 (h':=⟨h.nx,h.bl.bq bw (.map (W'.map BE) Ai),h.lo⟩) s.sl s.ty (Nat.le_refl _) λc vs op h1 hg=>hc c vs _ op h1 hg;exact⟨s.ltt,(hc _ _ _ _ s.ltt s.mN).trans s.mN,k1.1,k1.2,s.De,s.low,T.au _ _ _,λb hb=>(s.bk b hb).frame (Nat.le_refl _) rfl hc (hm b hb),s.GQ,s.wne,s.aL.frame (Nat.le_refl _) rfl hc,s.cS,s.s1,s.hd⟩
theorem uy.aau{W':List IE}{Ai:Nat}:uy Ts bw bp bl h ⟨h.nx,h.bl.bq bw (.map (W'.map BE) Ai),h.lo⟩:=
 by
 refine⟨Nat.le_refl _,rfl,λc _ _ h2 _ _ _=>T.ax _ _ (λe=>h2 e.symm),λ_ c _ _ h2 _ _ _=>T.ax _ _ (λe=>h2 e.symm),λ_ c _ hx=>?_⟩;by_cases e:bw=bp
 .subst e;obtain⟨n,cap,ls,hx⟩:=hx;exact absurd ((T.au _ _ _).symm.trans hx) bV
 .exact(FB.congr (T.ax _ _ e)).1 hx
theorem afs(s:eZ h tb bw bp bl c vb aY Ts W wc F B){t r:Int}(hn:¬ef t r c.S<0):∃(k:Nat)(b:TB),ef t r c.S=(k:Int)/\Ts[k]? = some b:=by
 have hr:=sn (t:=t) (r:=r) (s:=c.S) XQ;have hS:=s.cS;refine⟨(ef t r c.S).toNat,Ts[(ef t r c.S).toNat]'XQ,XQ,List.getElem?_eq_getElem _⟩
end
theorem Dg{Ts:List TB}{k:Nat}{b:TB}(hk:Ts[k]? = some b)(M':List HE)(clock':Nat):(Ts.set k ⟨b.bb,b.bm,M',clock'⟩).map (·.bm)=Ts.map (·.bm):=by
 obtain⟨hl,rfl⟩:=List.getElem?_eq_some_iff.1 hk;rw[List.map_set];refine List.ext_getElem? λi=>?_;rw[List.getElem?_set];split
 .rename_i e;subst e;rw[if_pos (by simpa using hl),List.getElem?_map,List.getElem?_eq_getElem hl];rfl
 .rfl
section
variable {h h':af}{tb bw bp bl:Nat}{c:gr}{vb:Value}{aY N:Nat}{Ts:List TB}{W:List IE}{wc:Nat}{F F':List Int}{B:List Bool}
theorem kg.WB(s:kg h tb bw bp bl c vb aY N Ts W wc F B){k:Nat}{b:TB}(hk:Ts[k]? = some b){M':List HE}{clock':Nat}{e:HE}(he:e∈b.M){Q1:List R5}{w1:Int}(m:j_ h h' b.bb b.bm bp bl aY b.M M' clock' F' B e Q1 w1)(hid:Q1.map (·.id)=e.Q.map (·.id))(hw:w1<=e.w+1):kg h' tb bw bp bl c vb aY (N+1) (Ts.set k ⟨b.bb,b.bm,M',clock'⟩) W wc F' B:=by
 have hb:=List.mem_of_getElem? hk;have is:=s.is.bk b hb;have hp:=m.Q4 is he hid;have hwe:=s.wb b hb e he;exact s.step hk m.is m.fr (λX hX=>(hp.append_right X).trans hX) (λi hi=>hp.mem_iff.1 hi) (m.sub he) (m.set.wb (s.wb b hb) XQ) (m.len is (s.len b hb) he) rfl
theorem kg.left(s:kg h tb bw bp bl c vb aY N Ts W wc F B){k:Nat}{b:TB}(hk:Ts[k]? = some b){M':List HE}{clock':Nat}{e:HE}(he:e∈b.M){p:R5}{n:Nat}(hf:ct e.Q (n:Int)=some p)(Dy:B[n]? = some true)(m:j_ h h' b.bb b.bm bp bl aY b.M M' clock' F' (B.set n false) e (e.Q.filter λr=>!b_ (n:Int) r) e.w):kg h' tb bw bp bl c vb aY (N+1) (Ts.set k ⟨b.bb,b.bm,M',clock'⟩) W wc F' (B.set n false):=by
 have hb:=List.mem_of_getElem? hk;have is:=s.is.bk b hb;have hp:=m.Q5 is he hf;have hwe:=s.wb b hb e he;refine s.step hk m.is m.fr (λX hX=>?_) (λi hi=>hp.mem_iff.2 (List.mem_append.2 (.inl hi))) (m.sub he) (m.set.wb (s.wb b hb) XQ) (m.len is (s.len b hb) he) (List.length_set ..);have h1:=(hp.append_right X).symm.trans (hX.trans (My Dy));rw[List.append_assoc]at h1;have h2:=(List.Perm.append_left (gq M') (List.perm_append_comm (l₁:=X) (l₂:=[(n:Int)]))).trans h1;rw[<-List.append_assoc]at h2;exact(List.perm_append_right_iff _).1 h2
theorem Q7(s:kg h tb bw bp bl c vb aY N Ts W wc F B)(hlo:h.lo<=h.nx)(id:Int)(V:KQ)(Ah:(∀b∈Ts,∀e∈b.M,ct e.Q id=none)->V (.tuple ⟨[.slice none 0 0,YYY 5]⟩) h)(k_:∀(k:Nat)(b:TB) h' M' clock' F' v' e p (n:Nat),Ts[k]? = some b->e∈b.M->ct e.Q id=some p->id=(n:Int)->B[n]? = some true->F'.Perm (F++[(n:Int)])->
   j_ h h' b.bb b.bm bp bl aY b.M M' clock' F' (B.set n false) e (e.Q.filter λr=>!b_ id r) e.w->AM h h' v' (dS (i_ (e.Q.filter λr=>!b_ id r)+1) (e.Q.filter λr=>!b_ id r)).2->kg h' tb bw bp bl c vb aY (N+1) (Ts.set k ⟨b.bb,b.bm,M',clock'⟩) W wc F' (B.set n false)->V (.tuple ⟨[v',YYY 0]⟩) h'):aj prog 352 [YYQ tb,YYY id] h V:=by
 apply YYZ;rw[Zx];refine Lp s hlo id _ ?_ ?_
 .intro hno;simp(disch:=try exact Y)only[Wz,tX];refine Df tb h _ ?_;exact Ah hno
 .intro k b e p hk he hf;have hb:=List.mem_of_getElem? hk;simp(disch:=try exact Y)only[Wz,iF];refine MA (s.is.bk b hb) hlo (s.Q6 hk) id _ ?_ ?_
  .intro h1 hno _;rw[hno e he]at hf;cases hf
  .intro h1 M' clock' F' v' e1 p1 n pq MP hid Dy hpF mv ho;simp(disch:=try exact Y)only[Wz];have mv':=mv;have hf':=MP;rw[hid]at hf' mv';exact k_ k b h1 M' clock' F' v' e1 p1 n hk pq MP hid Dy hpF mv ho (s.left hk pq hf' Dy mv')
theorem GR{β:Type}{fl:β}(cn:Bool)(b o:Nat)(h:af)(V:UV β):aF fl prog .neq 119 cn false (.pointer (some ⟨b,o,none⟩)) (.pointer none) h V=V (.bool true) h:=by simp only[aF,Ww,bX,Bool.not_false]
end
theorem dZ.zD{h h':af}{bp bl:Nat}{F:List Int}{B:List Bool}(p:dZ h bp bl F B)(hn:h.nx<=h'.nx)(hl:h'.lo=h.lo)(hc:∀c vs ty op,c<h.nx->ty≠205->ty≠194->h.bl.get c=some (ai vs ty op)->h'.bl.get c=h.bl.get c):dZ h' bp bl F B:=by
 have pl:=p.lt;have fl:=p.fr.lt;obtain⟨fs,hg,hpt⟩:=p.fr.cell;refine⟨⟨XQ,by rw[hl];exact p.fr.lo,fs,(hc _ _ _ _ fl J0 J0 hg).trans hg,?_⟩,XQ,by rw[hl];exact p.lo,(hc _ _ _ _ pl J0 J0 p.cell).trans p.cell,p.ok,p.small⟩;rcases hpt with e|⟨b,G,e,k1,k2,k3,k4⟩
 .exact .inl e
 .exact .inr ⟨b,G,e,XQ,XQ,(hc _ _ _ _ k1 J0 J0 k3).trans k3,k4⟩
theorem bu.zD{h h':af}{bb bm bp bl most clock:Nat}{M:List HE}{F:List Int}{B:List Bool}(s:bu h bb bm bp bl most M clock F B)(hn:h.nx<=h'.nx)(hl:h'.lo=h.lo)(hc:∀c vs ty op,c<h.nx->ty≠205->ty≠194->h.bl.get c=some (ai vs ty op)->h'.bl.get c=h.bl.get c)(hm:h'.bl.get bm=h.bl.get bm):bu h' bb bm bp bl most M clock F B:=by
 have sb:=s.SC;have sm:=s.xq;refine⟨XQ,XQ,by rw[hl];exact s.T7,(hc _ _ _ _ sb J0 J0 s.iE).trans s.iE,hm.trans s.gP,s.ok,λe he=>?_,s.good,s.aL.zD hn hl hc,s.ne⟩;have a:=s.aY e he;have al:=a.lt;exact⟨XQ,(hc _ _ _ _ al J0 J0 a.get).trans a.get,a.qv.frame hn λc vs op h1 hg=>hc c vs _ op h1 J0 J0 hg⟩
theorem GU(H:Int)(bp:Nat)(h:af)(V:KQ)(hh:¬(1<=H/\H<=64))(hk:V (.tuple ⟨[.pointer none,YYY 2]⟩) h):aj prog 153 [YYY H,YYQ bp] h V:=by
 apply YYZ;rw[PU];by_cases h1:H<1
 .simp(disch:=try exact Y)only[Wz,bx h1];exact hk
 .simp(disch:=try exact Y)only[Wz,aZ h1,fm (show(64:Int)<H by omega)];exact hk
theorem MQ(R:Int)(h:af)(V:KQ)(hh:128<R)(hk:V (.tuple ⟨[.pointer none,YYY 2]⟩) h):aj prog 152 [YYY R] h V:=by
 apply YYZ;rw[PT];simp(disch:=try exact Y)only[Wz,dF (show(0:Int)<=R by omega),fm hh];exact hk
theorem Up(S H R P:Int)(bp:Addr)(b:Nat)(V:List Value->Prop):bB False [(6,1)] [.map (some b)] [YYY S,YYY H,YYY R,YYY P,.pointer (some bp),.slice none 0 0,.map none] V=V [YYY S,YYY H,YYY R,YYY P,.pointer (some bp),.slice none 0 0,.map (some b)]:=by kernel_rfl
theorem GV(n:Nat):kK (List.replicate n false)=[]:=by
 rw[List.eq_nil_iff_forall_not_mem];intro x hx;obtain⟨k,_,hn⟩:=j9.1 hx;rw[List.getElem?_replicate]at hn;split at hn<;>simp at hn
def rE(c:gr):Value:=.agg ⟨[YYY c.S,YYY c.H,YYY c.R,YYY c.P]⟩
def jF(c:gr):Prop:=1<=c.S/\c.S<=16/\0<=c.P/\c.P<=8/\1<=c.R/\c.R<=128/\1<=c.H/\c.H<=64
theorem Uq(c:gr)(h:af)(V:KQ)(hlo:h.lo<=h.nx)(Ur:∀h' (e:Int),e=2->¬jF c->Le h h'->V (.tuple ⟨[.pointer none,YYY e]⟩) h')(Wo:∀h' tb bw bp bl vb aY Ts F,jF c->kg h' tb bw bp bl c vb aY 0 Ts [] 0 F (List.replicate c.R.toNat false)->(∀b∈Ts,h.nx<=b.bm)->h.nx<=bw->h.nx<=bp->h.nx<=bl->Le h h'->(∀x,FB h' bp x->h.nx<=x)->V (.tuple ⟨[YYQ tb,YYY 0]⟩) h'):aj prog 98 [rE c] h V:=by
 apply YYZ;rw[ad2];simp(disch:=try exact Y)only[Wz,rE];obtain⟨hA,bh,aU,g1,eE,eG⟩:=nP h (ai [YYY c.S,YYY c.H,YYY c.R,YYY c.P] 115 false);rw[<-bh];clear bh;by_cases hS1:c.S<1
 .simp(disch:=try exact Y)only[Wz,bx hS1];exact Ur _ 2 rfl (by unfold jF;omega) aU
 by_cases hS2:16<c.S
 .simp(disch:=try exact Y)only[Wz,aZ hS1,g1,bx hS2];exact Ur _ 2 rfl (by unfold jF;omega) aU
 by_cases hP1:c.P<0
 .simp(disch:=try exact Y)only[Wz,aZ hS1,g1,aZ hS2,bx hP1];exact Ur _ 2 rfl (by unfold jF;omega) aU
 by_cases hP2:8<c.P
 .simp(disch:=try exact Y)only[Wz,aZ hS1,g1,aZ hS2,aZ hP1,bx hP2];exact Ur _ 2 rfl (by unfold jF;omega) aU
 by_cases SF:c.R<1
 .simp(disch:=try exact Y)only[Wz,aZ hS1,g1,aZ hS2,aZ hP1,aZ hP2,bx SF];exact Ur _ 2 rfl (by unfold jF;omega) aU
 simp(disch:=try exact Y)only[Wz,aZ hS1,g1,aZ hS2,aZ hP1,aZ hP2,aZ SF,K_];by_cases WC:128<c.R
 .refine MQ c.R hA _ WC ?_;simp(disch:=try exact Y)only[Wz];exact Ur _ 2 rfl (by unfold jF;omega) aU
 obtain⟨R,eR⟩:∃R:Nat,c.R=(R:Int):=⟨c.R.toNat,XQ⟩
 rw[eR];refine Mu R hA _ XQ XQ ?_;intro bp bl h2 F p hne h2p h2l hF AN akt;have n2:=AN.nx;have l2:=AN.lo;have apf:=p.fr.lt;have apg:=p.lt;have g12:=(AN.get h.nx XQ).trans g1;rw[eR]at g12;simp(disch:=try exact Y)only[Wz,K0,g12,Up,jc];obtain⟨hB,ng,dm,gw,gt,Ms,Mt⟩:=L8 h2 (.map [] 0) (ai [YYY c.S,YYY c.H,YYY (R:Int),YYY c.P,YYQ bp,.slice none 0 0,.map (some h2.nx)] 194 false);rw[<-ng];clear ng;have xm:=dm.nx;have xo:=dm.lo;have g12:=(dm.get _ XQ).trans g12;by_cases hH:1<=c.H/\c.H<=64
 case neg=>
  refine⟨λn l h1=>ah l 26=YYY 0/\HQ hB h1,⟨0,rfl,rfl⟩,?_⟩;rintro n l h1 ⟨s1,hq⟩;cases(show hB=h1 from hq);simp(disch:=try exact Y)only[Wz,s1,fm (show(0:Int)<c.S by omega),CX,g12];refine GU c.H bp hB _ hH ?_;simp(disch:=try exact Y)only[Wz];exact Ur _ 2 rfl (by unfold jF;omega) ((aU.trans AN).trans dm)
 obtain⟨aY,eH⟩:∃n:Nat,c.H=(n:Int):=⟨c.H.toNat,XQ⟩
 obtain⟨S,eS⟩:∃n:Nat,c.S=(n:Int):=⟨c.S.toNat,XQ⟩
 refine ⟨λn l h1=>∃(i:Nat)(Ts:List TB)(v:Value),ah l 26=YYY (i:Int)/\n=S-i/\i<=S/\Ts.length=i/\h1.bl.get (h2.nx+1)=some (ai [YYY c.S,YYY c.H,YYY (R:Int),YYY c.P,YYQ bp,v,.map (some h2.nx)] 194 false)/\
   h1.bl.get h2.nx=some (.map [] 0)/\ia nZ h2 205 h1 v Ts/\dZ h1 bp bl F (List.replicate R false)/\(∀b∈Ts,bu h1 b.bb b.bm bp bl aY [] 0 F (List.replicate R false)/\b.M=[]/\b.clock=0/\hB.nx<=b.bm)/\Ts.Pairwise (λa b=>a.bm≠b.bm)/\Le h2 h1/\hB.nx<=h1.nx,
  ⟨_,0,[],_,rfl,rfl,XQ,rfl,gt,gw,.inl ⟨rfl,.inl rfl⟩,p.le dm,λb hb=>(nomatch hb),List.Pairwise.nil,dm,Nat.le_refl _⟩,?_⟩
 rintro n l h1 ⟨i,Ts,v,s1,rfl,hi,hTl,gt1,WD,ho,p1,hbk,hds,bN,nB⟩;have n1:=bN.nx;have l1:=bN.lo;by_cases hlt:i<S
 .have aku:=(bN.get h.nx XQ).trans ((AN.get h.nx XQ).trans g1);simp(disch:=try exact Y)only[Wz,s1,fm (show(i:Int)<c.S by omega),CX,aku,eH];refine GK aY bp h1 _ XQ XQ ?_;intro h3 cT nx3 gm3 XE;have n3:=cT.nx;have l3:=cT.lo;have gt3:=(cT.get _ XQ).trans gt1;obtain⟨vx,vc,ev,_⟩:=(show Sl nZ h1 v Ts from ho.sl)
  simp(disch:=try exact Y)only[Wz,KZ,aN,gt3];obtain⟨h4,e4⟩:∃h4:af,h4=⟨h3.nx+1,h3.bl.bq h3.nx (ai [.pointer (some ⟨h1.nx+1,0,none⟩)] 205 false),h3.lo⟩:=⟨_,rfl⟩
  have kU:Le h3 h4:=by rw[e4];exact(Le.refl h3).new _
  have g4:h4.bl.get h3.nx=some (ai ([(⟨h1.nx+1,h1.nx,[],0⟩:TB)].flatMap nZ) 205 false):=by rw[e4];exact T.au _ _ _
  have nx4:h4.nx=h3.nx+1:=by rw[e4]
  have l4:h4.lo=h3.lo:=by rw[e4]
  try rw[<-e4]
  clear e4;have Q8:=cT.trans kU;have gt4:=(kU.get _ XQ).trans gt3;refine jC (enc:=nZ) (a:=h2) (L:=Ts) (M:=[(⟨h1.nx+1,h1.nx,[],0⟩:TB)]) BF MO J0 J0 (ho.le Q8) (Sl.new XQ g4 _) (bN.trans Q8) (by simp;omega) XQ _ ?_;intro v5 h5 oI qe nx5 api l5 zA;have gt5:=(zA (h2.nx+1) XQ (by rw[gt4];exact bC)).trans gt4;obtain⟨vx5,vc5,ev5,_⟩:=(show Sl nZ h5 v5 _ from oI.sl)
  subst ev5;simp(disch:=try exact Y)only[Wz,aN,gt5];have Mz:∀c vs ty op,c<h4.nx->ty≠205->h4.bl.get c=some (ai vs ty op)->h5.bl.get c=h4.bl.get c:=λc vs ty op hc hty hg=>zA c hc (by rw[hg];exact bE hty);have fm5:∀c es cl,c<h4.nx->h4.bl.get c=some (.map es cl)->h5.bl.get c=h4.bl.get c:=λc es cl hc hg=>zA c hc (by rw[hg];exact bV);obtain⟨h6,e6⟩:∃h6:af,h6=⟨h5.nx,h5.bl.bq (h2.nx+1) (ai [YYY c.S,YYY c.H,YYY (R:Int),YYY c.P,YYQ bp,.slice vx5 (Ts++[(⟨h1.nx+1,h1.nx,[],0⟩:TB)]).length vc5,.map (some h2.nx)] 194 false),h5.lo⟩:=⟨_,rfl⟩
  have gt6:h6.bl.get (h2.nx+1)=some (ai [YYY c.S,YYY c.H,YYY (R:Int),YYY c.P,YYQ bp,.slice vx5 (Ts++[(⟨h1.nx+1,h1.nx,[],0⟩:TB)]).length vc5,.map (some h2.nx)] 194 false):=by rw[e6];exact T.au _ _ _
  have afu:∀d,d≠h2.nx+1->h6.bl.get d=h5.bl.get d:=λd hd=>by rw[e6];exact T.ax _ _ (λe=>hd e.symm)
  have Wk:ia nZ h2 205 h6 (.slice vx5 (Ts++[(⟨h1.nx+1,h1.nx,[],0⟩:TB)]).length vc5) (Ts++[(⟨h1.nx+1,h1.nx,[],0⟩:TB)]):=by rw[e6];exact ia.put oI (by rw[gt5];exact bC) _
  have zy:Le h2 h6:=by rw[e6];exact qe.set (b:=h2.nx+1) XQ _
  have nx6:h6.nx=h5.nx:=by rw[e6]
  have l6:h6.lo=h5.lo:=by rw[e6]
  rw[<-e6];clear e6;have hc6:∀d vs ty op,d<h4.nx->ty≠205->ty≠194->h4.bl.get d=some (ai vs ty op)->h6.bl.get d=h4.bl.get d:=by
   intro d vs ty op hd h1 h2' hg;refine(afu d ?_).trans (Mz d vs ty op hd h1 hg);rintro rfl;rw[hg]at gt4;exact bE h2' gt4
  have hm6:∀d es cl,d<h4.nx->h4.bl.get d=some (.map es cl)->h6.bl.get d=h4.bl.get d:=by
   intro d es cl hd hg;refine(afu d ?_).trans (fm5 d es cl hd hg);rintro rfl;rw[hg]at gt4;exact bV gt4
  have gw4:=(Q8.get h2.nx XQ).trans WD;have p4:=p1.le Q8;have p6:=p4.zD XQ XQ hc6;have u_:bu h4 (h1.nx+1) h1.nx bp bl aY [] 0 F (List.replicate R false):=⟨XQ,XQ,XQ,(kU.get _ XQ).trans XE,(kU.get _ XQ).trans gm3,⟨List.Pairwise.nil,List.Pairwise.nil,λe he=>(nomatch he)⟩,λe he=>(nomatch he),λe he=>(nomatch he),p4,hne⟩
  have Eu:∀b∈Ts,b.bm<h1.nx:=λb hb=>(hbk b hb).1.xq;simp(disch:=try exact Y)only[Wz,s1];refine⟨_,XQ,i+1,Ts++[⟨h1.nx+1,h1.nx,[],0⟩],.slice vx5 (Ts++[(⟨h1.nx+1,h1.nx,[],0⟩:TB)]).length vc5,rfl,rfl,XQ,by simp;omega,by rw[<-eH];exact gt6,(hm6 _ _ _ XQ gw4).trans gw4,Wk,p6,?_,?_,zy,XQ⟩
  .intro b hb;rcases List.mem_append.1 hb with hb|hb
   .obtain⟨k1,k2,k3,k4⟩:=hbk b hb;have k5:=k1.le Q8;exact⟨k5.zD XQ XQ hc6 (hm6 _ _ _ k5.xq k5.gP),k2,k3,k4⟩
   .rw[List.mem_singleton]at hb;subst hb;exact⟨u_.zD XQ XQ hc6 (hm6 _ _ _ u_.xq u_.gP),rfl,rfl,nB⟩
  .exact tj hds λq hq=>Nat.ne_of_lt (Eu q hq)
 .have hiS:i=S:=by omega
  simp(disch:=try exact Y)only[Wz,s1,dF (show c.S<=(i:Int)by omega)];have hnil:∀b∈Ts,b.M=[]:=λb hb=>(hbk b hb).2.1;have hM:∀(k:Nat)(b:TB),Ts[k]? = some b->b.M=[]:=λk b hb=>hnil b (List.mem_of_getElem? hb);have AO:(Ts.flatMap λb=>gq b.M)=[]:=by
   rw[List.flatMap_eq_nil_iff];intro b hb;rw[hnil b hb];rfl
  have eRn:c.R.toNat=R:=by omega
  refine Wo h1 (h2.nx+1) h2.nx bp bl v aY Ts F (by unfold jF;omega) ⟨⟨XQ,by rw[eR];exact gt1,ho.sl,vS.own ho,XQ,XQ,WD,λb hb=>?_,hds,λb hb=>?_,by rw[eRn];exact p1,XQ,XQ,XQ⟩,?_,?_,?_,?_,?_,?_,XQ⟩ (λb hb=>?_) XQ XQ XQ ?_ ?_
  .obtain⟨k1,k2,k3,k4⟩:=hbk b hb;rw[k2,k3,eRn];exact k1
  .have:=(hbk b hb).2.2.2;omega
  .rw[AO,GV]
  .intro k b hk e he;rw[hM k b hk]at he;nomatch he
  .intro k b hk e he;rw[hM k b hk]at he;nomatch he
  .intro b hb e he;rw[hnil b hb]at he;nomatch he
  .intro b hb;rw[hnil b hb];exact Nat.zero_le _
  .rw[List.length_replicate];omega
  .have:=(hbk b hb).2.2.2;omega
  .exact aU.trans (AN.trans bN)
  .intro x hx;have:=akt x ((FB.congr (bN.get bp p.fr.lt)).1 hx);omega
structure HC where
 t:Int
 r:Int
 a:Option Addr
 n:Nat
 c:Nat
 w:Int
instance :Inhabited HC:=⟨⟨0,0,none,0,0,0⟩⟩
def zF(x:HC):List Value:=[YYY x.t,YYY x.r,.slice x.a x.n x.c,YYY x.w]
def cfH(x y:HC):Int:=SE (x.t,x.r) (y.t,y.r)
theorem akx:Go.Sort.SWO (ltOf cfH) where
 irrefl x:=Ug.irrefl (x.t,x.r)
 trans x y z h1 h2:=Ug.trans (x.t,x.r) (y.t,y.r) (z.t,z.r) h1 h2
 ntrans x y z h1 h2:=Ug.ntrans (x.t,x.r) (y.t,y.r) (z.t,z.r) h1 h2
theorem I6(t r t' r':Int)(W:World):Calls prog 96 #[.agg #[YYY t,YYY r],.agg #[YYY t',YYY r']] W λe w'=>e=.returned (YYY (nX t r t' r'))/\∃q os',w'=Go.Sort.grow (W.drewN q) os':=
 sj (args:=[cQ t r,cQ t' r']) (args':=[cQ t r,cQ t' r']) (kf t r t' r' rfl) (.cons (VR.rM (.cons (.int _ _) (.cons (.int _ _) .nil))) (.cons (VR.rM (.cons (.int _ _) (.cons (.int _ _) .nil))) .nil)) rfl W
theorem Q9(x y:HC)(W:World):Calls prog 111 #[.agg #[YYY x.t,YYY x.r,.slice x.a x.n x.c,YYY x.w],.agg #[YYY y.t,YYY y.r,.slice y.a y.n y.c,YYY y.w]] W λe w'=>e=.returned (YYY (cfH x y))/\∃q os',w'=Go.Sort.grow (W.drewN q) os':=by
 have afv:=λW'=>I6 x.t x.r y.t y.r W'
 show Calls _ _ _ _ λe w'=>e=.returned (YYY (nX x.t x.r y.t y.r))/\_
 generalize nX x.t x.r y.t y.r=v at afv ⊢;generalize x.t=xt,x.r=xr,y.t=yt,y.r=yr at *
 go_enter Tryz.func111,Tryz.ntmps111
 go_wp2_with (go_at_call 96;refine(afv _).mono ?_;rintro e w' ⟨rfl,q,os',rfl⟩)
 go_ret
 refine⟨rfl,?_⟩;rw[Go.Sort.alloc_eq_grow,Go.Sort.alloc_eq_grow,Go.Sort.grow_grow];exact⟨q,_,(show Go.Sort.grow (Go.Sort.grow (W.drewN q) _) os'=_ from Go.Sort.grow_grow _ _ _)⟩
theorem Q_(blk size:Nat)(w:World):Go.Proofs.CmpLays prog 111 #[] zF 4 cfH blk 0 size w:=by
 intro m os dk _ x y;exact Q9 x y _
theorem vY:∀args w,(callFunc 110 args).run prog w=.ok (.enter 110 args) w:=enters_of Tryz.func110 (by kernel_rfl) rfl
theorem Dh(blk cap:Nat)(d:Array HC)(w:World)(hH:Go.Sort.HoldsK zF 4 w blk 0 d)(hblk:blk<w.heap.size)(hsz:d.size<4611686018427387904):Calls prog 110 #[YYX blk d.size cap,.func (.func 111) #[] #[]] w λe w'=>e=.returned (.tuple #[])/\∃d' n os,Go.Sort.PermIn 0 d.size d d'/\Go.Sort.SortedIn (λx y=>ltOf SE (x.t,x.r) (y.t,y.r)) 0 d.size d'/\w'=Go.Proofs.sortWorldK zF 4 w blk 0 n d' os:=by
 have eg:∀args w,(callFunc 111 args).run prog w=.ok (.enter 111 args) w:=enters_of Tryz.func111 (by kernel_rfl) rfl;exact Go.Proofs.AnyQ.slices_SortFunc Tryz.GG 4 Tryz.isAgg55 Tryz.sizeOf55 zF (λ_=>rfl) (λx v hv=>by simp[zF]at hv;rcases hv with rfl|rfl|rfl|rfl<;>rfl) cfH akx 111 #[] blk 0 cap d w eg (Q_ blk d.size w) hH hblk hsz
theorem AP(p:Option Addr)(cap:Nat)(fv:Value)(w:World):Calls prog 110 #[.slice p 0 cap,fv] w λe w'=>e=.returned (.tuple #[])/\w'=w:=Go.Proofs.AnyF.slices_SortFunc_none Tryz.GG p cap fv w
theorem Ra(q:Value):∃a n c,slV q=.slice a n c:=by
 unfold slV;split
 .exact⟨_,_,_,rfl⟩
 .exact⟨_,_,_,rfl⟩
theorem VR.toSlice{φ:dV}{a:Option Addr}{n c:Nat}{v:Value}(h:VR φ (.slice a n c) v):∃a' n' c',v=.slice a' n' c':=by
 cases h<;>exact⟨_,_,_,rfl⟩
theorem aky(φ:dV)(x:HE)(cs:List Value)(h:F2 (VR φ) (qY x) cs):∃y:HC,cs=zF y/\(x.t,x.r)=(y.t,y.r):=by
 obtain⟨a,n,c,e⟩:=Ra x.q;unfold qY at h;rw[e]at h;cases h with|cons h1 h=>
 cases h with|cons h2 h=>
 cases h with|cons h3 h=>
 cases h with|cons h4 h=>
 cases h;cases h1;cases h2;cases h4;obtain⟨a',n',c',rfl⟩:=VR.toSlice h3;exact⟨⟨x.t,x.r,a',n',c',x.w⟩,rfl,rfl⟩
theorem Us(a h:af)(K:List HE)(v:Value)(V:KQ)(ho:QS a h v K)(hle:Le a h)(hl:K.length<=1000000)(hk:∀(D:List HE) h',D.Perm K->D.Pairwise (λx y=>¬wM (y.t,y.r) (x.t,x.r))->QS a h' v D->Le a h'->(h'.nx=h.nx/\∀c,c<h.nx->h.bl.get c≠some (ai (K.flatMap qY) 55 true)->h'.bl.get c=h.bl.get c)->V (.tuple ⟨[]⟩) h'):aj prog 110 [v,.func (.func 111) #[] #[]] h V:=by
 rcases ho with⟨rfl,hv⟩|⟨b,hv,h1,h2,h3,h4⟩
 .exact BC vY AP hv (hk [] h (List.Perm.refl _) List.Pairwise.nil (.inl ⟨rfl,hv⟩) hle ⟨rfl,λ_ _ _=>rfl⟩)
 .cases hv;refine Db J0 (enc:=zF) (de:=qY) (λ_=>rfl) tQ (kA:=λx=>(x.t,x.r)) (kC:=λx=>(x.t,x.r)) (lt:=λx y=>ltOf SE x y) aky vY Dh h4 h3 hl ?_;intro D hp hs;refine hk D _ hp (hs.imp λ{x y} h=>Lm.1 h) (.inr ⟨b,by rw[hp.length_eq],h1,h2,h3,T.au _ _ _⟩) ⟨hle.nx,hle.lo,λc hc=>?_⟩ ⟨rfl,λc hc hne=>?_⟩
  .exact(T.ax _ _ XQ).trans (hle.get c hc)
  .refine T.ax _ _ ?_;rintro rfl;exact hne h4
structure afw(h:af)(Ts:List TB)(v:Value)(K:List HE):Prop where
 perm:(K.map dU).Perm (Ts.flatMap λb=>b.M.map dU)
 srt:(K.map dU).Pairwise wM
 each:∀k∈K,(∃b∈Ts,∃e∈b.M,GJ k e)/\QV h k.q k.Q
 sl:Sl qY h v K
 ty:vS 55 h v
theorem uy.keep{h h':af}{tb bw bp bl:Nat}{c:gr}{vb:Value}{aY:Nat}{Ts:List TB}{W:List IE}{wc:Nat}{F:List Int}{B:List Bool}(s:eZ h tb bw bp bl c vb aY Ts W wc F B)(f:uy Ts bw bp bl h h'){d:Nat}{vs:List Value}{ty:TypeId}{op:Bool}(hd:d<h.nx)(hg:h.bl.get d=some (ai vs ty op))(h1:ty≠286)(h2:ty≠4)(h3:ty≠3):h'.bl.get d=h.bl.get d:=by
 obtain⟨fs,zo,hpt⟩:=s.aL.fr.cell;have gl:=s.aL.cell;have gw:=s.oV;refine f.get d hd (λb hb=>?_) (by rintro rfl;rw[hg]at gw;exact bV gw.symm) (by rintro rfl;rw[hg]at zo;exact bE h1 zo) (by rintro rfl;rw[hg]at gl;exact bE h2 gl) λws=>by rw[hg];exact bE h3
 rintro rfl;have gm:=(s.bk b hb).gP;rw[hg]at gm;exact bV gm.symm
section
variable {h:af}{tb bw bp bl:Nat}{c:gr}{vb:Value}{aY N:Nat}{Ts:List TB}{W:List IE}{wc:Nat}{F:List Int}{B:List Bool}
theorem kg.nodup(s:kg h tb bw bp bl c vb aY N Ts W wc F B):(Ts.flatMap λb=>b.M.map dU).Nodup:=by
 rw[List.Nodup,List.pairwise_flatMap];constructor
 .intro b hb;rw[List.pairwise_map];exact(s.is.bk b hb).ok.nm.imp λhn e=>hn ⟨congrArg Prod.fst e,congrArg Prod.snd e⟩
 .rw[dY];intro i j p q hij hp hq x hx y hy hxy;obtain⟨e,he,rfl⟩:=List.mem_map.1 hx;obtain⟨f,hf,rfl⟩:=List.mem_map.1 hy;have h1:=s.nm i p hp e he;have h2:=s.nm j q hq f hf;have e1:e.t=f.t:=congrArg Prod.fst hxy;have e2:e.r=f.r:=congrArg Prod.snd hxy;rw[e1,e2,h2]at h1;omega
theorem BG{α β:Type}(f:α->List β){L:List α}{i:Nat}{b:α}(h:L[i]? = some b):(L.take (i+1)).flatMap f=(L.take i).flatMap f++f b:=by
 rw[List.take_add_one,h,List.flatMap_append];simp
theorem Lq(s:kg h tb bw bp bl c vb aY N Ts W wc F B)(hlo:h.lo<=h.nx)(V:KQ)(hk:∀v h' K,afw h' Ts v K->Le h h'->V v h'):aj prog 62 [YYQ tb] h V:=by
 apply YYZ;rw[adJ];have gt:=s.is.mN;have hs1:=s.is.s1;obtain⟨vx,vc,ev,_⟩:=(show Sl nZ h vb Ts from s.is.sl)
 have afx:∀(β:Type)(fl:β)(h':af)(V:UV β),bG fl vb h' V=V (YYY (Ts.length:Int)) h':=λβ fl h' V=>by rw[ev];exact h_ _ _ _ _ _
 simp(disch:=try exact Y)only[Wz,n_,aN,gt,afx];have apo:=s.is.hd;refine⟨λn l h1=>∃(i:Nat)(K:List HE),ah l 10=YYY (i:Int)/\n=Ts.length-i/\i<=Ts.length/\(K.map dU).Perm ((Ts.take i).flatMap λb=>b.M.map dU)/\(∀k∈K,(∃b∈Ts,∃e∈b.M,GJ k e)/\QV h1 k.q k.Q)/\K.length<=64*i/\QS h h1 (ah l 8) K/\Le h h1,
  ⟨_,0,[],rfl,rfl,XQ,by simp,λk hk=>(nomatch hk),by simp,.inl ⟨rfl,.inl rfl⟩,Le.refl _⟩,?_⟩
 rintro n l h1 ⟨i,K,s1,rfl,hi,hp,hE,Wj,ho,bN⟩;have n1:=bN.nx;have l1:=bN.lo;by_cases hlt:i<Ts.length
 .obtain⟨b,hb⟩:∃b,Ts[i]? = some b:=⟨_,List.getElem?_eq_getElem hlt⟩
  have hbT:=List.mem_of_getElem? hb;obtain⟨cc,oo,_,Mx,mh⟩:=Uo s.is.sl i hb;have mh:=mh h1 bN;have sb:=(s.is.bk b hbT).le bN;have hbl:=s.len b hbT;simp(disch:=try exact Y)only[Wz,CT,s1,fm (show(i:Int)<(Ts.length:Int)by omega),Mx,mh];refine MI sb XQ XQ _ ?_;intro v2 h2 K2 V6 hp2 hs2 hE2 mj bF;have n2:=bF.nx;have l2:=bF.lo;refine jC (enc:=qY) (a:=h) (L:=K) (M:=K2) tQ GI J0 J0 (ho.le bF) mj.sl (bN.trans bF) XQ XQ _ ?_;intro v5 h5 oI qe _ n5 l5 zA;have Mz:∀d vs op,d<h2.nx->h2.bl.get d=some (ai vs 57 op)->h5.bl.get d=h2.bl.get d:=λd vs op hc hg=>zA d hc (by rw[hg];exact bE J0);refine⟨_,XQ,i+1,K++K2,rfl,rfl,XQ,?_,?_,by rw[List.length_append];omega,oI,qe⟩
  .rw[BG _ hb,List.map_append];exact hp.append hp2
  .intro k hk';rcases List.mem_append.1 hk' with hk'|hk'
   .exact⟨(hE k hk').1,((hE k hk').2.le bF).frame n5 Mz⟩
   .obtain⟨e,he,se⟩:=(hE2 k hk').1;exact⟨⟨b,hbT,e,he,se⟩,(hE2 k hk').2.frame n5 Mz⟩
 .have hil:i=Ts.length:=by omega
  subst hil;rw[List.take_length]at hp;simp(disch:=try exact Y)only[Wz,CT,s1,dF (show(Ts.length:Int)<=(Ts.length:Int)by omega)];refine Us h h1 K _ _ ho bN XQ ?_;intro D h' hD hpw ho' le' hfr;have hnd:(D.map dU).Nodup:=(((hD.map dU).trans hp).nodup_iff).2 s.nodup;refine hk _ h' D ⟨(hD.map dU).trans hp,?_,λk hk'=>?_,ho'.sl,vS.own ho'⟩ le'
  ·have h1:(D.map dU).Pairwise λx y=>¬wM y x:=by
    rw[List.pairwise_map];exact hpw.imp λ{x y} h=>h
   exact(hnd.and h1).imp λ{x y} ⟨hne,hn⟩=>Ll (λe=>hne e.symm) hn
  .have:=hE k (hD.mem_iff.1 hk');exact⟨this.1,this.2.frame XQ λd vs op hc hg=>hfr.2 d hc (by rw[hg];exact bE J0)⟩
end
structure L4 where
 x:Int
 t:Int
 r:Int
 m:Int
theorem aav{p q:L4}:p=q<->(p.x=q.x/\p.t=q.t/\p.r=q.r/\p.m=q.m):=by cases p;cases q;simp
instance :DecidableEq L4:=λp q=>decidable_of_iff _ aav.symm
instance :Inhabited L4:=⟨⟨0,0,0,0⟩⟩
def bS(a:L4):List Value:=[YYY a.x,YYY a.t,YYY a.r,YYY a.m]
theorem cC(a:L4):(bS a).length=4:=rfl
theorem oc(a:L4):(bS a).all dI=true:=rfl
def Rb(a b:L4):Int:=if qX a.x b.x=0 then nX a.t a.r b.t b.r else qX a.x b.x
def Rc(a b:L4):Prop:=a.x<b.x\/(a.x=b.x/\wM (a.t,a.r) (b.t,b.r))
theorem Di(a b:L4):ltOf Rb a b=true<->Rc a b:=by
 show decide (Rb a b<0)=true<->_
 rw[decide_eq_true_eq];have:=GF (a.t,a.r) (b.t,b.r);unfold Rb Rc;split
 .rename_i h;have hx:a.x=b.x:=by unfold qX at h;split at h<;>(try split at h)<;>omega
  rw[this];constructor
  .exact λh=>.inr ⟨hx,h⟩
  .rintro(h|h)
   .omega
   .exact h.2
 .rename_i h;unfold qX at *
  split
  .exact⟨λ_=>.inl (by assumption),λ_=>by decide⟩
  .rename_i h1;rw[if_neg h1]at h;split
   .exact⟨λh=>by omega,λh=>by rcases h with h|h<;>omega⟩
   .rename_i h2;rw[if_neg h2]at h;exact absurd rfl h
theorem Re{a b:L4}:ltOf Rb a b=false<->¬Rc a b:=by rw[<-Di,Bool.not_eq_true]
theorem MR{a b c:L4}(h1:Rc a b)(h2:Rc b c):Rc a c:=by unfold Rc wM at *;simp only at *;omega
theorem akz:Go.Sort.SWO (ltOf Rb) where
 irrefl x:=Re.2 (by unfold Rc wM;simp only;omega)
 trans x y z h1 h2:=(Di _ _).2 (MR ((Di _ _).1 h1) ((Di _ _).1 h2))
 ntrans x y z h1 h2:=by
  rw[Re]at *
  unfold Rc wM at *
  simp only at *
  omega
theorem aaw(a b:L4){h:af}{V:KQ}(hk:V (YYY (Rb a b)) h):aj prog 117 [.agg ⟨bS a⟩,.agg ⟨bS b⟩] h V:=by
 refine gN (v:=YYY (Rb a b)) rfl rfl (ay mixed ?_) hk;rw[X4];simp(disch:=try exact Y)only[Wz,bS];refine si _ _ ?_;simp(disch:=try exact Y)only[Wz];refine kf _ _ _ _ ?_;simp(disch:=try exact Y)only[Wz];refine afe _ _ _ _ (Sl.new (L:=[qX a.x b.x,nX a.t a.r b.t b.r]) (e:=3) (op:=false) (Nat.lt_succ_self _) (T.au _ _ _) _) _ ?_;rfl
theorem Rf(blk size:Nat)(w:World):Go.Proofs.CmpLays prog 117 #[] bS 4 Rb blk 0 size w:=by
 intro m os dk _ x y;exact sj (args:=[.agg ⟨bS x⟩,.agg ⟨bS y⟩]) (args':=[.agg ⟨bS x⟩,.agg ⟨bS y⟩]) (aaw x y rfl)
  (.cons (VR.rM (.cons (.int _ _) (.cons (.int _ _) (.cons (.int _ _) (.cons (.int _ _) .nil))))) (.cons (VR.rM (.cons (.int _ _) (.cons (.int _ _) (.cons (.int _ _) (.cons (.int _ _) .nil))))) .nil)) rfl _
theorem vZ:∀args w,(callFunc 116 args).run prog w=.ok (.enter 116 args) w:=enters_of Tryz.func116 (by kernel_rfl) rfl
theorem Dj(blk cap:Nat)(d:Array L4)(w:World)(hH:Go.Sort.HoldsK bS 4 w blk 0 d)(hblk:blk<w.heap.size)(hsz:d.size<4611686018427387904):Calls prog 116 #[YYX blk d.size cap,.func (.func 117) #[] #[]] w λe w'=>e=.returned (.tuple #[])/\∃d' n os,Go.Sort.PermIn 0 d.size d d'/\Go.Sort.SortedIn (λx y=>ltOf Rb x y) 0 d.size d'/\w'=Go.Proofs.sortWorldK bS 4 w blk 0 n d' os:=by
 have eg:∀args w,(callFunc 117 args).run prog w=.ok (.enter 117 args) w:=enters_of Tryz.func117 (by kernel_rfl) rfl;exact Go.Proofs.AnyQ.slices_SortFunc Tryz.GH 4 Tryz.isAgg46 Tryz.sizeOf46 bS (λ_=>rfl) (λx v hv=>by simp[bS]at hv;rcases hv with rfl|rfl|rfl|rfl<;>rfl) Rb akz 117 #[] blk 0 cap d w eg (Rf blk d.size w) hH hblk hsz
theorem AQ(p:Option Addr)(cap:Nat)(fv:Value)(w:World):Calls prog 116 #[.slice p 0 cap,fv] w λe w'=>e=.returned (.tuple #[])/\w'=w:=Go.Proofs.AnyF.slices_SortFunc_none Tryz.GH p cap fv w
theorem akA(φ:dV)(x:L4)(cs:List Value)(h:F2 (VR φ) (bS x) cs):∃y:L4,cs=bS y/\x=y:=by
 unfold bS at h;cases h with|cons h1 h=>
 cases h with|cons h2 h=>
 cases h with|cons h3 h=>
 cases h with|cons h4 h=>
 cases h;cases h1;cases h2;cases h3;cases h4;exact⟨x,rfl,rfl⟩
abbrev qZ(a h:af)(v:Value)(L:List L4):Prop:=ia bS a 46 h v L
theorem Ut(a h:af)(L:List L4)(v:Value)(V:KQ)(ho:qZ a h v L)(hle:Le a h)(hl:L.length<=1000000)(hk:∀(D:List L4) h',D.Perm L->D.Pairwise (λx y=>¬Rc y x)->qZ a h' v D->Le a h'->V (.tuple ⟨[]⟩) h'):aj prog 116 [v,.func (.func 117) #[] #[]] h V:=by
 rcases ho with⟨rfl,hv⟩|⟨b,hv,h1,h2,h3,h4⟩
 .exact BC vZ AQ hv (hk [] h (List.Perm.refl _) List.Pairwise.nil (.inl ⟨rfl,hv⟩) hle)
 .cases hv;refine Db J0 (enc:=bS) (de:=bS) cC cC (kA:=id) (kC:=id) (lt:=λx y=>ltOf Rb x y) akA vZ Dj h4 h3 hl ?_;intro D hp hs;refine hk D _ hp (hs.imp λ{x y} h=>Re.1 h) (.inr ⟨b,by rw[hp.length_eq],h1,h2,h3,T.au _ _ _⟩) ⟨hle.nx,hle.lo,λc hc=>?_⟩;exact(T.ax _ _ XQ).trans (hle.get c hc)
def qf(t r:Int)(Q:List R5):List L4:=(Q.filter λp=>decide (p.m≠0)).map λp=>⟨p.x,t,r,p.m⟩
def kO(e:HE):List L4:=qf e.t e.r e.Q
theorem I7{t r:Int}{Q:List R5}{j:Nat}{p:R5}(h:Q[j]? = some p):qf t r (Q.take (j+1))=qf t r (Q.take j)++(if p.m≠0 then[⟨p.x,t,r,p.m⟩]else[]):=by
 unfold qf;rw[List.take_add_one,h];simp only[Option.toList_some,List.filter_append,List.map_append]
 congr 1
 by_cases hm:p.m≠0
 .rw[if_pos hm,List.filter_cons_of_pos (by simpa using hm)];rfl
 .rw[if_neg hm,List.filter_cons_of_neg (by simpa using hm)];rfl
theorem BH{t r:Int}(Q:List R5):(qf t r Q).length<=Q.length:=by
 unfold qf;rw[List.length_map];exact List.length_filter_le _ _
structure Rg(h:af)(Ts:List TB)(v:Value)(D:List L4)(K:List HE):Prop where
 names:(K.map dU).Perm (Ts.flatMap λb=>b.M.map dU)
 apq:(K.map dU).Pairwise wM
 each:∀k∈K,∃b∈Ts,∃e∈b.M,GJ k e
 perm:D.Perm (K.flatMap kO)
 srt:D.Pairwise λx y=>¬Rc y x
 sl:Sl bS h v D
 ty:vS 46 h v
section
variable {h:af}{tb bw bp bl:Nat}{c:gr}{vb:Value}{aY N:Nat}{Ts:List TB}{W:List IE}{wc:Nat}{F:List Int}{B:List Bool}
theorem I8{K:List HE}{i:Nat}{e:HE}(h:K[i]? = some e):(K.take (i+1)).flatMap kO=(K.take i).flatMap kO++kO e:=BG kO h
theorem zG{K:List HE}(hs:∀k∈K,k.Q.length<=128):(K.flatMap kO).length<=128*K.length:=by
 induction K with
 |nil=>simp
 |cons k K ih=>
  rw[List.flatMap_cons,List.length_append,List.length_cons];have h1:=ih λx hx=>hs x (.tail _ hx);have h2:=BH (t:=k.t) (r:=k.r) k.Q;have h3:=hs k (.head _);have h4:(kO k).length<=128:=Nat.le_trans h2 h3;omega
theorem Uu(s:kg h tb bw bp bl c vb aY N Ts W wc F B)(hlo:h.lo<=h.nx)(V:KQ)(hk:∀v h' D K,Rg h' Ts v D K->qZ h h' v D->Le h h'->V v h'):aj prog 65 [YYQ tb] h V:=by
 apply YYZ;rw[adN];refine Lq s hlo _ ?_;intro v0 h0 K t0 Uv;have n0:=Uv.nx;have l0:=Uv.lo;obtain⟨x0,c0,ev0,_⟩:=(show Sl qY h0 v0 K from t0.sl)
 have Rh:∀(β:Type)(fl:β)(h':af)(V:UV β),bG fl v0 h' V=V (YYY (K.length:Int)) h':=λβ fl h' V=>by rw[ev0];exact h_ _ _ _ _ _
 have hKs:∀k∈K,k.Q.length<=128:=by
  intro k hk';obtain⟨⟨b,hb,e,he,se⟩,_⟩:=t0.each k hk';have:=((s.is.bk b hb).good e he).small;rw[se.2.2.2];exact this
 have Wj:K.length<=1024:=by
  have h1:=t0.perm.length_eq;rw[List.length_map]at h1;rw[h1];have h2:=s.is.s1.2;have h3:=s.is.hd;have:∀L:List TB,(∀b∈L,b.M.length<=64)->(L.flatMap λb=>b.M.map dU).length<=64*L.length:=by
   intro L
   induction L with
   |nil=>intro _;simp
   |cons b L ih=>
    intro hL;rw[List.flatMap_cons,List.length_append,List.length_map,List.length_cons];have h1:=ih λx hx=>hL x (.tail _ hx);have h2:=hL b (.head _);omega
  have:=this Ts λb hb=>by have:=s.len b hb;omega
  omega
 have apr:=zG hKs;have Su:∀i,((K.take i).flatMap kO).length<=131072:=by
  intro i;have h1:=zG (K:=K.take i) λk hk'=>hKs k (List.mem_of_mem_take hk');have h2:(K.take i).length<=K.length:=by rw[List.length_take];omega
  omega
 simp(disch:=try exact Y)only[Wz,Rh];refine⟨λn l h1=>∃i:Nat,ah l 28=YYY (i:Int)/\n=K.length-i/\i<=K.length/\qZ h0 h1 (ah l 24) ((K.take i).flatMap kO)/\Le h0 h1,
  ⟨_,0,rfl,rfl,XQ,.inl ⟨by simp,.inl rfl⟩,Le.refl _⟩,?_⟩
 rintro n l h1 ⟨i,s1,rfl,hi,ho,bN⟩;have n1:=bN.nx;have l1:=bN.lo;by_cases hlt:i<K.length
 .obtain⟨e,he⟩:∃e,K[i]? = some e:=⟨_,List.getElem?_eq_getElem hlt⟩
  have heK:=List.mem_of_getElem? he;have qv:=(t0.each e heK).2;obtain⟨b0,o0,hb0,hx0,D6⟩:=afl t0.sl i he (QO qv.1);have R1:=D6 h1 bN;have qv1:=qv.le bN;obtain⟨qx,qc,eq,_⟩:=(show Sl bH h1 e.q e.Q from qv1.1)
  have sY:=hKs e heK;rw[eq]at R1;simp(disch:=try exact Y)only[Wz,s1,fm (show(i:Int)<(K.length:Int)by omega),KO,hx0,R1];rw[<-eq]at R1;obtain⟨h2,e2⟩:∃h2:af,h2=⟨h1.nx+1,h1.bl.bq h1.nx (ai [YYY e.t,YYY e.r,.slice qx e.Q.length qc,YYY e.w] 55 false),h1.lo⟩:=⟨_,rfl⟩
  have bF:Le h1 h2:=by rw[e2];exact(Le.refl h1).new _
  have g2:h2.bl.get h1.nx=some (ai [YYY e.t,YYY e.r,.slice qx e.Q.length qc,YYY e.w] 55 false):=by rw[e2];exact T.au _ _ _
  have nx2:h2.nx=h1.nx+1:=by rw[e2]
  try rw[<-e2]
  clear e2;have n2:=bF.nx;have l2:=bF.lo;have qv2:=qv1.le bF;refine⟨λm l3 h3=>∃j:Nat,ah l3 19=YYY (j:Int)/\m=e.Q.length-j/\j<=e.Q.length/\qZ h0 h3 (ah l3 17) ((K.take i).flatMap kO++qf e.t e.r (e.Q.take j))/\Le h0 h3/\h1.nx<h3.nx/\h3.bl.get h1.nx=some (ai [YYY e.t,YYY e.r,.slice qx e.Q.length qc,YYY e.w] 55 false)/\QV h3 e.q e.Q,
   ⟨_,0,rfl,rfl,XQ,?_,bN.trans bF,XQ,g2,qv2⟩,?_⟩
  .rw[List.take_zero];have:qf e.t e.r []=[]:=rfl;rw[this,List.append_nil];exact ho.le bF
  rintro m l3 h3 ⟨j,s3,rfl,hj,pz,cT,n3,g3,q3⟩;have n3':=cT.nx;have l3':=cT.lo;by_cases hjl:j<e.Q.length
  .obtain⟨p,hp⟩:∃p,e.Q[j]? = some p:=⟨_,List.getElem?_eq_getElem hjl⟩
   obtain⟨b4,o4,_,hx4,Ub,_⟩:=SA q3.1 j hp;rw[eq]at hx4;have hmono:=BH (t:=e.t) (r:=e.r) (e.Q.take j);have apt:=Su i;have htl:(e.Q.take j).length<=e.Q.length:=by rw[List.length_take];omega
   simp(disch:=try exact Y)only[Wz,s3,fm (show(j:Int)<(e.Q.length:Int)by omega),CU];refine⟨λl' h'=>∃L',L'=(K.take i).flatMap kO++qf e.t e.r (e.Q.take (j+1))/\qZ h0 h' (ah l' 16) L'/\Le h0 h'/\h1.nx<h'.nx/\h'.bl.get h1.nx=some (ai [YYY e.t,YYY e.r,.slice qx e.Q.length qc,YYY e.w] 55 false)/\QV h' e.q e.Q,?_,?_⟩
   rotate_left
   .rintro l' h' ⟨L',rfl,hL,hle,hn,hg,hq⟩;exact⟨_,XQ,j+1,rfl,rfl,XQ,hL,hle,hn,hg,hq⟩
   simp(disch:=try exact Y)only[Wz,KN,s3,hx4,Ub,bH];obtain⟨h5,e5⟩:∃h5:af,h5=⟨h3.nx+1,h3.bl.bq h3.nx (j8 p),h3.lo⟩:=⟨_,rfl⟩
   have qe:Le h3 h5:=by rw[e5];exact(Le.refl h3).new _
   have g5:h5.bl.get h3.nx=some (j8 p):=by rw[e5];exact T.au _ _ _
   have nx5:h5.nx=h3.nx+1:=by rw[e5]
   try rw[<-e5]
   clear e5;have l5:=qe.lo;have Z0:=(qe.get _ n3).trans g3;have hstep:=I7 (t:=e.t) (r:=e.r) hp;by_cases hm:p.m=0
   .simp(disch:=try exact Y)only[Wz,bx hm];refine⟨_,rfl,?_,cT.trans qe,XQ,?_,q3.le qe⟩
    .rw[hstep,if_neg XQ,List.append_nil];exact pz.le qe
    .first|exact Z0|exact g3
   .simp(disch:=try exact Y)only[Wz,aZ hm,KM,g5,Z0];obtain⟨h6,e6⟩:∃h6:af,h6=⟨h5.nx+1,h5.bl.bq h5.nx (ai [YYY p.x,YYY e.t,YYY e.r,YYY p.m] 46 false),h5.lo⟩:=⟨_,rfl⟩
    have zy:Le h5 h6:=by rw[e6];exact(Le.refl h5).new _
    have g6:h6.bl.get h5.nx=some (ai ([(⟨p.x,e.t,e.r,p.m⟩:L4)].flatMap bS) 46 false):=by rw[e6];exact T.au _ _ _
    have nx6:h6.nx=h5.nx+1:=by rw[e6]
    have l6:h6.lo=h5.lo:=by rw[e6]
    try rw[<-e6]
    clear e6;have I9:=qe.trans zy;have g36:=(zy.get _ XQ).trans Z0;refine jC (enc:=bS) (a:=h0) (L:=(K.take i).flatMap kO++qf e.t e.r (e.Q.take j)) (M:=[(⟨p.x,e.t,e.r,p.m⟩:L4)]) cC oc J0 J0 (pz.le I9) (Sl.new XQ g6 _) (cT.trans I9) (by rw[List.length_append];simp only[List.length_cons,List.length_nil];omega) XQ _ ?_;intro v7 h7 ho7 SD _ n7 l7 WE;refine⟨_,rfl,?_,SD,XQ,(WE _ XQ (by rw[g36];exact bC)).trans g36,(q3.le I9).frame n7 λd vs op hc hg=>WE d hc (by rw[hg];exact bE J0)⟩;rw[hstep,if_pos hm,<-List.append_assoc];exact ho7
  .have hjQ:j=e.Q.length:=by omega
   subst hjQ;simp(disch:=try exact Y)only[Wz,s3,dF (show(e.Q.length:Int)<=(e.Q.length:Int)by omega),CU,s1];refine⟨_,XQ,i+1,rfl,rfl,XQ,?_,cT⟩;rw[I8 he];rw[List.take_length]at pz;exact pz
 .have hil:i=K.length:=by omega
  subst hil;rw[List.take_length]at ho;simp(disch:=try exact Y)only[Wz,s1,dF (show(K.length:Int)<=(K.length:Int)by omega)];refine Ut h0 h1 _ _ _ ho bN XQ ?_;intro D h' hD hpw ho' le';exact hk _ h' D K ⟨t0.perm,t0.srt,λk hk'=>(t0.each k hk').1,hD,hpw,ho'.sl,vS.own ho'⟩ (ia.base ho' XQ) (Uv.trans le')
theorem aay(s:kg h tb bw bp bl c vb aY N Ts W wc F B)(hlo:h.lo<=h.nx)(V:KQ)(hk:∀v h' D K,Rg h' Ts v D K->Le h h'->V v h'):aj prog 65 [YYQ tb] h V:=Uu s hlo V λv h' D K t _ l=>hk v h' D K t l
end
theorem Uw(id:Int)(h:af)(V:KQ)(hk:V (.pointer none) h):aj prog 343 [.pointer none,YYY id] h V:=by
 apply YYZ;rw[Qb];simp(disch:=try exact Y)only[Wz,tX];exact hk
theorem Ri(id:Int)(h:af)(V:KQ)(hlo:h.lo<=h.nx)(hk:∀h',Le h h'->V (.tuple ⟨[cQ 0 0,lT ⟨0,0,0,0,0⟩,.bool false]⟩) h'):aj prog 292 [.pointer none,YYY id] h V:=by
 apply YYZ;rw[P9];simp(disch:=try exact Y)only[Wz];obtain⟨hA,bh,aU,g1,g3,eE,eG⟩:=L8 h (ai [YYY 0,YYY 0] 28 false) (j8 ⟨0,0,0,0,0⟩);rw[<-bh];clear bh;refine Uw id hA _ ?_;simp(disch:=try exact Y)only[Wz,qa,g1,g3,bH];exact hk _ ((aU.set XQ _).set XQ _)
section
variable {h:af}{tb bw bp bl:Nat}{c:gr}{vb:Value}{aY N:Nat}{Ts:List TB}{W:List IE}{wc:Nat}{F:List Int}{B:List Bool}
theorem aaz(s:kg h tb bw bp bl c vb aY N Ts W wc F B)(hlo:h.lo<=h.nx)(id:Int)(V:KQ)(k_:∀h',(∀b∈Ts,∀e∈b.M,ct e.Q id=none)->Le h h'->V (.tuple ⟨[cQ 0 0,lT ⟨0,0,0,0,0⟩,.bool false]⟩) h')(dB:∀h' b e p,b∈Ts->e∈b.M->ct e.Q id=some p->Le h h'->V (.tuple ⟨[cQ e.t e.r,lT p,.bool true]⟩) h'):aj prog 209 [YYQ tb,YYY id] h V:=by
 apply YYZ;rw[YR];simp(disch:=try exact Y)only[Wz];obtain⟨hA,bh,aU,g1,g3,eE,eG⟩:=L8 h (ai [YYY 0,YYY 0] 28 false) (j8 ⟨0,0,0,0,0⟩);rw[<-bh];clear bh;refine Lp (s.le aU) XQ id _ ?_ ?_
 .intro hno;refine Ri id hA _ XQ ?_;intro h2 bF;have tV:=bF.nx;have tW:=bF.lo;have g1:=(bF.get _ XQ).trans g1;have g3:=(bF.get _ XQ).trans g3;simp(disch:=try exact Y)only[Wz,cQ,bH,g1,g3];exact k_ _ hno (((aU.trans bF).set XQ _).set XQ _)
 .intro k b e p hk he hf;have hb:=List.mem_of_getElem? hk;refine Uc ((s.le aU).is.bk b hb) XQ id _ ?_ ?_
  .intro h2 hno _;rw[hno e he]at hf;cases hf
  .intro h2 e2 p2 SP hf2 bF;have tV:=bF.nx;have tW:=bF.lo;have g1:=(bF.get _ XQ).trans g1;have g3:=(bF.get _ XQ).trans g3;simp(disch:=try exact Y)only[Wz,cQ,bH,g1,g3];exact dB _ b e2 p2 hb SP hf2 (((aU.trans bF).set XQ _).set XQ _)
end
structure RB where
 rb:Nat
 v:Value
 K:List HE
end Go.Proofs
namespace Go.Vai
open Go.Proofs Go.Clashes
end Go.Vai
namespace Go.Proofs
open Go.Vai Go.Clashes
open Tryz (prog)
section
variable {a h h':af}{rt rp rl:Nat}{c:gr}{vr:Value}{aY:Nat}{R:List RB}{B B':List Bool}
end
section
variable {a h:af}{tb bw bp bl:Nat}{c:gr}{vb:Value}{aY N:Nat}{Ts:List TB}{W:List IE}{wc:Nat}{F:List Int}{B:List Bool}{rt rp rl:Nat}{vr:Value}{R:List RB}
end
theorem qg(h:af)(V:KQ)(hlo:h.lo<=h.nx)(hk:∀h',Le h h'->V (cQ (-1) (-1)) h'):aj prog 97 [] h V:=by
 apply YYZ;rw[ad1];simp(disch:=try exact Y)only[Wz];exact hk _ ((Le.refl h).new _)
theorem MS(t r:Int)(h:af)(V:KQ)(hlo:h.lo<=h.nx)(hk:∀h',Le h h'->V (YYY (bf t r)) h'):aj prog 48 [cQ t r] h V:=by
 apply YYZ;rw[adB];simp(disch:=try exact Y)only[Wz,cQ];obtain⟨hA,bh,aU,g1,eE,eG⟩:=nP h (ai [YYY t,YYY r] 28 false);rw[<-bh];clear bh;refine qg hA _ XQ ?_;intro h2 bF;have tV:=bF.nx;have tW:=bF.lo;have g1:=(bF.get _ XQ).trans g1;have hk:=hk h2 (aU.trans bF);simp(disch:=try exact Y)only[Wz,cQ,g1,kS,oJ];by_cases h0:t = -1/\r = -1
 .simp(disch:=try exact Y)only[Wz,bx h0];have e:bf t r=0:=by simp[bf,h0]
  rw[e]at hk;exact hk
 have hl:bf t r=if t<0\/100<=t\/r < -1\/100<=r then -1 else if r = -1 then 1 else 2:=by
  unfold bf DD;rw[if_neg h0];by_cases h1:t<0\/100<=t\/r < -1\/100<=r
  .rw[if_pos h1,if_neg (by simp;omega),if_neg (by simp;omega)]
  .rw[if_neg h1];by_cases h2:r = -1
   .rw[if_pos h2,if_pos (by simp;omega)]
   .rw[if_neg h2,if_neg (by simp;omega),if_pos (by simp;omega)]
 simp(disch:=try exact Y)only[Wz,aZ h0,KF,g1];by_cases a1:t<0
 .simp(disch:=try exact Y)only[Wz,bx a1];rw[hl,if_pos XQ]at hk;exact hk
 by_cases a2:100<=t
 .simp(disch:=try exact Y)only[Wz,aZ a1,g1,bx a2];rw[hl,if_pos XQ]at hk;exact hk
 by_cases a3:r < -1
 .simp(disch:=try exact Y)only[Wz,aZ a1,aZ a2,bx a3,g1];rw[hl,if_pos XQ]at hk;exact hk
 by_cases a4:100<=r
 .simp(disch:=try exact Y)only[Wz,aZ a1,aZ a2,aZ a3,bx a4,g1];rw[hl,if_pos XQ]at hk;exact hk
 by_cases a5:r = -1
 .simp(disch:=try exact Y)only[Wz,aZ a1,aZ a2,aZ a3,aZ a4,bx a5,g1];rw[hl,if_neg XQ,if_pos a5]at hk;exact hk
 .simp(disch:=try exact Y)only[Wz,aZ a1,aZ a2,aZ a3,aZ a4,aZ a5,g1];rw[hl,if_neg XQ,if_neg a5]at hk;exact hk
theorem BI(t r:Int){h:af}{V:KQ}(hk:V (YYY (bf t r)) h):aj prog 48 [cQ t r] h V:=
 gN (v:=YYY (bf t r)) rfl rfl (MS t r vQ _ (Nat.le_refl _) λ_ _=>rfl) hk
theorem MT(t r:Int):bf t r<0<->bf t r = -1:=by
 unfold bf;split
 .omega
 .split
  .omega
  .split<;>omega
theorem MU(t r:Int){h:af}{V:KQ}(hk:V (YYY (if bf t r = -1 then 2 else 0)) h):aj prog 82 [cQ t r] h V:=by
 refine gN (v:=YYY (if bf t r = -1 then 2 else 0)) rfl rfl (ay mixed ?_) hk;rw[adY];simp(disch:=try exact Y)only[Wz,cQ];refine BI t r ?_;have:=MT t r;by_cases h:bf t r = -1
 .simp(disch:=try exact Y)only[Wz,bx (this.2 h)];simp[h]
 .simp(disch:=try exact Y)only[Wz,aZ (λx=>h (this.1 x))];simp[h]
section
variable {h h':af}{tb bw bp bl:Nat}{c:gr}{vb:Value}{aY N:Nat}{Ts:List TB}{W:List IE}{wc:Nat}{F F':List Int}{B:List Bool}
theorem Ux(s:kg h tb bw bp bl c vb aY N Ts W wc F B)(hlo:h.lo<=h.nx)(hN:N<=1000)(t r x m:Int)(V:KQ)(vL:∀h',ef t r c.S<0->Le h h'->V (.tuple ⟨[YYY 0,.bool false,YYY 2]⟩) h')(hk2:∀(k:Nat)(b:TB) h',Ts[k]? = some b->ef t r c.S=(k:Int)->bZ m=false->Le h h'->V (.tuple ⟨[YYY 0,.bool false,YYY 2]⟩) h')(Ac:∀(k:Nat)(b:TB) h' e p,Ts[k]? = some b->ef t r c.S=(k:Int)->bZ m=true->e∈b.M->t=e.t->r=e.r->p∈e.Q->p.x=x->Le h h'->V (.tuple ⟨[YYY 0,.bool false,YYY 4]⟩) h')(hk8:∀(k:Nat)(b:TB) h',Ts[k]? = some b->ef t r c.S=(k:Int)->bZ m=true->(∀e∈b.M,t=e.t->r=e.r->∀p∈e.Q,p.x≠x)->(F=[]\/((∀e∈b.M,¬(t=e.t/\r=e.r))/\aY<=b.M.length))->Le h h'->V (.tuple ⟨[YYY 0,.bool false,YYY 8]⟩) h')(Wo:∀(k:Nat)(b:TB) M' clock' F' W' Ai h0 h1 h' n g,Ts[k]? = some b->ef t r c.S=(k:Int)->bZ m=true->(∀e∈b.M,t=e.t->r=e.r->∀p∈e.Q,p.x≠x)->bu h0 b.bb b.bm bp bl aY b.M b.clock F B->nW h0 h1 b.bb b.bm bp bl aY b.M M' clock' F F' B t r x m n g->
   kg h' tb bw bp bl c vb aY (N+1) (Ts.set k ⟨b.bb,b.bm,M',clock'⟩) W' Ai F' (B.set n true)->uy Ts bw bp bl h h'->V (.tuple ⟨[YYY (n:Int),.bool g,YYY 0]⟩) h'):aj prog 301 [YYQ tb,cQ t r,YYY x,YYY m] h V:=by
 apply YYZ;rw[Zk];simp(disch:=try exact Y)only[Wz,cQ,n_];obtain⟨hA,bh,aU,g1,eE,eG⟩:=nP h (ai [YYY t,YYY r] 28 false);rw[<-bh];clear bh;refine vj (s.le aU).is XQ t r _ ?_;intro h2 bF;have tV:=bF.nx;have tW:=bF.lo;have g1:=(bF.get _ XQ).trans g1;have qb:=aU.trans bF;have s2:=s.le qb;by_cases hneg:ef t r c.S<0
 .simp(disch:=try exact Y)only[Wz,bx hneg];exact vL h2 hneg qb
 obtain⟨k,b,hst,hk⟩:=afs s.is hneg;have hb:=List.mem_of_getElem? hk;have gt:=s2.is.mN;obtain⟨cc,oo,_,Mx,mh⟩:=Uo s2.is.sl k hk;have mh:=mh h2 (Le.refl _);rw[hst];simp(disch:=try exact Y)only[Wz,dF (show(0:Int)<=(k:Int)by omega),FM,aN,gt,Mx,mh,g1];refine Ua (s2.is.bk b hb) XQ (s2.Q6 hk) N XQ (s2.wb b hb) t r x m _ ?_ ?_ ?_ ?_
 .intro h3 am0 cT;simp(disch:=try exact Y)only[Wz,kS,nQ];refine⟨λl h'=>HQ h3 h',?_,?_⟩
  .simp(disch:=try exact Y)only[Wz,p7];rfl
  .rintro l h' hq;cases(show h3=h' from hq);exact hk2 k b h3 hk hst am0 (qb.trans cT)
 .intro h3 e p am1 he ht hr hp hx cT;simp(disch:=try exact Y)only[Wz,kS,nQ];refine⟨λl h'=>HQ h3 h',?_,?_⟩
  .simp(disch:=try exact Y)only[Wz,p7];rfl
  .rintro l h' hq;cases(show h3=h' from hq);exact Ac k b h3 e p hk hst am1 he ht hr hp hx (qb.trans cT)
 .intro h3 am1 akE hfull cT;simp(disch:=try exact Y)only[Wz,kS,nQ];refine⟨λl h'=>HQ h3 h',?_,?_⟩
  .simp(disch:=try exact Y)only[Wz,p7];rfl
  .rintro l h' hq;cases(show h3=h' from hq);exact hk8 k b h3 hk hst am1 akE hfull (qb.trans cT)
 .intro M' clock' F' h3 n g am hno ak;have is3:=s2.is.change hk ak.is ak.fr;have n3:=ak.fr.nx;have l3:=ak.fr.lo;have gt3:=is3.mN;have akF:=is3.low;simp(disch:=try exact Y)only[Wz,kS,nQ];refine⟨λl h'=>∃W' Ai,(∀j,MN W' j=if j=(n:Int)then some (k:Int)else MN W j)/\h'=⟨h3.nx,h3.bl.bq bw (.map (W'.map BE) Ai),h3.lo⟩,?_,?_⟩
  .simp(disch:=try exact Y)only[Wz,p7,aN,gt3];refine aas is3.oV akF _ _ _ ?_;intro W' Ai hW;exact⟨W',Ai,hW,rfl⟩
  ·rintro l h' ⟨W',Ai,hW,rfl⟩;have fr:uy Ts bw bp bl h ⟨h3.nx,h3.bl.bq bw (.map (W'.map BE) Ai),h3.lo⟩:=((uy.of_le qb).trans (uy.Un hb ak.fr)).trans uy.aau;have AO:=nW.ids (s2.is.bk b hb) ak;have afz:∀i,i∈kK B->i≠(n:Int):=by
    rintro i hi rfl;obtain⟨k',e,hk'⟩:=j9.1 hi;have:k'=n:=(Int.ofNat.inj e).symm;subst this;rw[ak.old]at hk';cases hk'
   have hin:∀i b',b'∈Ts->i∈gq b'.M->i≠(n:Int):=λi b' hb' hi=>afz i (s.ids.mem_iff.1 (List.mem_flatMap.2 ⟨b',hb',hi⟩));refine Wo k b M' clock' F' W' Ai h2 h3 _ n g hk hst am hno (s2.is.bk b hb) ak ⟨is3.aau W' Ai,?_,?_,?_,?_,?_,by rw[List.length_set];exact s.cR,s.cH⟩ fr
   .obtain⟨X,hX⟩:=sq (λb:TB=>gq b.M) hk;have h0:=hX b;rw[zC hk]at h0;refine(hX _).trans ?_;refine(AO.append_right X).trans ?_;rw[List.append_assoc];refine((List.Perm.append_left _ List.perm_append_comm).trans ?_).trans (Bz ak.old).symm;rw[<-List.append_assoc];exact(h0.symm.trans s.ids).append_right _
   .intro j y hj e he p hp;rw[hW];rcases fG hj with⟨rfl,rfl⟩|⟨hne,hj⟩
    .have hpi:=AO.mem_iff.1 (lX.2 ⟨e,he,p,hp,rfl⟩);rcases List.mem_append.1 hpi with h1|h1
     .obtain⟨e0,Um,p0,T3,hpe⟩:=lX.1 h1;rw[if_neg (hin _ b hb h1),<-hpe];exact s.wh j b hk e0 Um p0 T3
     .rw[List.mem_singleton]at h1;rw[if_pos h1]
    .rw[if_neg (hin _ y (List.mem_of_getElem? hj) (lX.2 ⟨e,he,p,hp,rfl⟩))];exact s.wh j y hj e he p hp
   .intro j y hj e he;rcases fG hj with⟨rfl,rfl⟩|⟨_,hj⟩
    .rcases ak.sub e he with⟨e0,Um,h1,h2⟩|⟨h1,h2⟩
     .rw[<-h1,<-h2];exact s.nm j b hk e0 Um
     .rw[h1,h2];exact hst
    .exact s.nm j y hj e he
   .intro y hy e he;obtain⟨j,hj⟩:=List.getElem?_of_mem hy;rcases fG hj with⟨rfl,rfl⟩|⟨_,hj⟩
    .exact ak.wb (s.wb b hb) e he
    .have:=s.wb y (List.mem_of_getElem? hj) e he;omega
   .intro y hy;obtain⟨j,hj⟩:=List.getElem?_of_mem hy;rcases fG hj with⟨rfl,rfl⟩|⟨_,hj⟩
    .exact nW.len (s2.is.bk b hb) (s.len b hb) ak
    .exact s.len y (List.mem_of_getElem? hj)
theorem Rj(s:kg h tb bw bp bl c vb aY N Ts W wc F B)(hlo:h.lo<=h.nx)(id x:Int)(V:KQ)(Ah:(∀b∈Ts,∀e∈b.M,ct e.Q id=none)->V (YYY 5) h)(Ac:∀(k:Nat)(b:TB) h' e p,Ts[k]? = some b->e∈b.M->ct e.Q id=some p->(∃o∈e.Q,o.id≠id/\o.x=x)->Le h h'->V (YYY 4) h')(Qu:∀(k:Nat)(b:TB) h' e p,Ts[k]? = some b->e∈b.M->ct e.Q id=some p->(∀o∈e.Q,o.id≠id->o.x≠x)->0<p.s->Le h h'->V (YYY 7) h')(k_:∀(k:Nat)(b:TB) h' M' clock' e p i,Ts[k]? = some b->e∈b.M->e.Q[i]? = some p->ct e.Q id=some p->(∀o∈e.Q,o.id≠id->o.x≠x)->¬0<p.s->j_ h h' b.bb b.bm bp bl aY b.M M' clock' F B e (e.Q.set i (rA p x)) e.w->
   kg h' tb bw bp bl c vb aY (N+1) (Ts.set k ⟨b.bb,b.bm,M',clock'⟩) W wc F B->V (YYY 0) h'):aj prog 304 [YYQ tb,YYY id,YYY x] h V:=by
 apply YYZ;rw[Zm];refine Lp s hlo id _ ?_ ?_
 .intro hno;simp(disch:=try exact Y)only[Wz,tX];refine Df tb h _ ?_;exact Ah hno
 .intro k b e p hkb he hf;have hb:=List.mem_of_getElem? hkb;simp(disch:=try exact Y)only[Wz,iF];refine Qv (s.is.bk b hb) hlo id x _ ?_ ?_ ?_ ?_
  .intro h1 hno _;rw[hno e he]at hf;cases hf
  .intro h1 e1 p1 pq MP hx bN;exact Ac k b h1 e1 p1 hkb pq MP hx bN
  .intro h1 e1 p1 pq MP hx hs1 bN;exact Qu k b h1 e1 p1 hkb pq MP hx hs1 bN
  .intro h1 M' clock' e1 p1 i pq hi MP hx hs1 mv;exact k_ k b h1 M' clock' e1 p1 i hkb pq hi MP hx hs1 mv (s.WB hkb pq mv (tT hi rfl) XQ)
theorem GX(s:kg h tb bw bp bl c vb aY N Ts W wc F B)(hlo:h.lo<=h.nx)(hN:N<=1000)(id m:Int)(V:KQ)(hk2:∀h',bZ m=false->Le h h'->V (.tuple ⟨[.bool false,YYY 2]⟩) h')(Ah:bZ m=true->(∀b∈Ts,∀e∈b.M,ct e.Q id=none)->V (.tuple ⟨[.bool false,YYY 5]⟩) h)(Qu:∀(k:Nat)(b:TB) h' e p,bZ m=true->Ts[k]? = some b->e∈b.M->ct e.Q id=some p->0<p.s->Le h h'->V (.tuple ⟨[.bool false,YYY 7]⟩) h')(k_:∀(k:Nat)(b:TB) h' M' clock' e p i,bZ m=true->Ts[k]? = some b->e∈b.M->e.Q[i]? = some p->ct e.Q id=some p->¬0<p.s->j_ h h' b.bb b.bm bp bl aY b.M M' clock' F B e (e.Q.set i (jq e.Q e.w p m).1) (jq e.Q e.w p m).2.1->
   kg h' tb bw bp bl c vb aY (N+1) (Ts.set k ⟨b.bb,b.bm,M',clock'⟩) W wc F B->V (.tuple ⟨[.bool (jq e.Q e.w p m).2.2,YYY 0]⟩) h'):aj prog 302 [YYQ tb,YYY id,YYY m] h V:=by
 have am0:m=0->bZ m=false:=by intro h0;unfold bZ;simp[h0]
 have am1:m≠0->bZ m=kn m:=by intro h0;unfold bZ;simp[h0]
 apply YYZ;rw[Zl];refine Lp s hlo id _ ?_ ?_
 .intro hno;simp(disch:=try exact Y)only[Wz,GR];by_cases hm0:m=0
  .simp(disch:=try exact Y)only[Wz,bx hm0];exact hk2 h (am0 hm0) (Le.refl _)
  .simp(disch:=try exact Y)only[Wz,aZ hm0];have am:=am1 hm0;refine oH m ?_;cases hkn:kn m with
   |false=>simp(disch:=try exact Y)only[Wz];exact hk2 h (am.trans hkn) (Le.refl _)
   |true=>
    simp(disch:=try exact Y)only[Wz,yX,tX];refine Df tb h _ ?_;exact Ah (am.trans hkn) hno
 .intro k b e p hkb he hf;have hb:=List.mem_of_getElem? hkb;simp(disch:=try exact Y)only[Wz,GR];by_cases hm0:m=0
  .simp(disch:=try exact Y)only[Wz,bx hm0];exact hk2 h (am0 hm0) (Le.refl _)
  .simp(disch:=try exact Y)only[Wz,aZ hm0];have am:=am1 hm0;refine oH m ?_;cases hkn:kn m with
   |false=>simp(disch:=try exact Y)only[Wz];exact hk2 h (am.trans hkn) (Le.refl _)
   |true=>
    simp(disch:=try exact Y)only[Wz,yX,iF];refine Gz (s.is.bk b hb) hlo N XQ (s.wb b hb) id m _ ?_ ?_ ?_ ?_
    .intro h1 am2 bN;simp(disch:=try exact Y)only[Wz];exact hk2 h1 am2 bN
    .intro h1 _ hn _;rw[hn e he]at hf;cases hf
    .intro h1 e1 p1 am2 pq MP hs1 bN;simp(disch:=try exact Y)only[Wz];exact Qu k b h1 e1 p1 am2 hkb pq MP hs1 bN
    .intro h1 M' clock' e1 p1 i am2 pq hi MP hs1 mv;simp(disch:=try exact Y)only[Wz];exact k_ k b h1 M' clock' e1 p1 i am2 hkb pq hi MP hs1 mv (s.WB hkb pq mv (tT hi (Uj _ _ _ _)) (aao _ _ _ _))
end
section
variable {h:af}{tb bw bp bl:Nat}{c:gr}{vb:Value}{aY N:Nat}{Ts:List TB}{W:List IE}{wc:Nat}{F:List Int}{B:List Bool}{H X:Int->Int->Int}
theorem kg.Lh(s:kg h tb bw bp bl c vb aY N Ts W wc F B){b b':TB}(hb:b∈Ts)(hb':b'∈Ts){e e':HE}(he:e∈b.M)(he':e'∈b'.M){p p':R5}(hp:p∈e.Q)(hp':p'∈e'.Q)(hid:p.id=p'.id):b=b'/\e=e':=by
 obtain⟨k,hk⟩:=List.getElem?_of_mem hb;obtain⟨j,hj⟩:=List.getElem?_of_mem hb';have h1:=s.wh k b hk e he p hp;have h2:=s.wh j b' hj e' he' p' hp';rw[hid,h2]at h1;have:j=k:=by have:=Option.some.inj h1;omega
 subst this;rw[hk]at hj;cases hj;exact⟨rfl,(s.Q6 hk).uniq he he' hp hp' hid⟩
end
theorem fP.cnt{M M':List HE}{clock:Nat}(o:fU M clock){t r w:Int}{Q:List R5}(st:fP M M' t r w Q):M'.length<=M.length+1:=by
 have:=st.len;have h2:=List.length_filter_le (λx=>!u_ t r x) M;omega
structure iz where
 k:Int
 x:Int
 t:Int
 r:Int
 m:Int
 w:Int
 to:Int
def Dk(a:iz):List Value:=[YYY a.k,YYY a.x,YYY a.t,YYY a.r,YYY a.m,YYY a.w,YYY a.to]
def ni(a:iz):Bool:=decide (bf a.t a.r≠-1) && (if a.k=1 then kn a.m && decide (a.m≠0) && decide (0<=a.w)else if a.k=3 then decide (a.to≠a.x)else decide (a.k=2))
def o_(ty:TypeId)(op:Bool):Prop:=ty=194\/ty=205\/ty=267\/ty=55\/ty=57\/ty=286\/ty=4\/(ty=3/\op=true)
theorem dZ.only{h h':af}{bp bl:Nat}{F:List Int}{B:List Bool}(p:dZ h bp bl F B)(hn:h.nx<=h'.nx)(hl:h'.lo=h.lo)(hc:∀c vs ty op,c<h.nx->o_ ty op->(ty=3->FB h bp c)->h.bl.get c=some (ai vs ty op)->h'.bl.get c=h.bl.get c):dZ h' bp bl F B:=by
 have pl:=p.lt;have fl:=p.fr.lt;obtain⟨fs,hg,hpt⟩:=p.fr.cell;refine⟨⟨XQ,by rw[hl];exact p.fr.lo,fs,(hc _ _ _ _ fl (by simp[o_]) (λe=>absurd e J0) hg).trans hg,?_⟩,XQ,by rw[hl];exact p.lo,(hc _ _ _ _ pl (by simp[o_]) (λe=>absurd e J0) p.cell).trans p.cell,p.ok,p.small⟩;rcases hpt with e|⟨b,G,e,k1,k2,k3,k4⟩
 .exact .inl e
 .exact .inr ⟨b,G,e,XQ,XQ,(hc _ _ _ _ k1 (by simp[o_]) (λ_=>⟨_,_,_,by rw[hg,e]⟩) k3).trans k3,k4⟩
theorem bu.only{h h':af}{bb bm bp bl most clock:Nat}{M:List HE}{F:List Int}{B:List Bool}(s:bu h bb bm bp bl most M clock F B)(hn:h.nx<=h'.nx)(hl:h'.lo=h.lo)(hc:∀c vs ty op,c<h.nx->o_ ty op->(ty=3->FB h bp c)->h.bl.get c=some (ai vs ty op)->h'.bl.get c=h.bl.get c)(hm:h'.bl.get bm=h.bl.get bm):bu h' bb bm bp bl most M clock F B:=by
 have sb:=s.SC;have sm:=s.xq;refine⟨XQ,XQ,by rw[hl];exact s.T7,(hc _ _ _ _ sb (by simp[o_]) (λe=>absurd e J0) s.iE).trans s.iE,hm.trans s.gP,s.ok,λe he=>?_,s.good,s.aL.only hn hl hc,s.ne⟩;have a:=s.aY e he;have al:=a.lt;exact⟨XQ,(hc _ _ _ _ al (by simp[o_]) (λe=>absurd e J0) a.get).trans a.get,a.qv.frame hn λc vs op h1 hg=>hc c vs _ op h1 (by simp[o_]) (λe=>absurd e J0) hg⟩
section
variable {h h':af}{tb bw bp bl:Nat}{c:gr}{vb:Value}{aY N:Nat}{Ts:List TB}{W:List IE}{wc:Nat}{F:List Int}{B:List Bool}
theorem eZ.only(s:eZ h tb bw bp bl c vb aY Ts W wc F B)(hn:h.nx<=h'.nx)(hl:h'.lo=h.lo)(hc:∀c vs ty op,c<h.nx->o_ ty op->(ty=3->FB h bp c)->h.bl.get c=some (ai vs ty op)->h'.bl.get c=h.bl.get c)(hw:h'.bl.get bw=h.bl.get bw)(hm:∀b∈Ts,h'.bl.get b.bm=h.bl.get b.bm):eZ h' tb bw bp bl c vb aY Ts W wc F B:=by
 have h1:=s.ltt;have h2:=s.De;have k1:=Sl.I5 (h':=h') s.sl s.ty hn λc vs op h1 hg=>hc c vs _ op h1 (by simp[o_]) (λe=>absurd e J0) hg;exact⟨XQ,(hc _ _ _ _ h1 (by simp[o_]) (λe=>absurd e J0) s.mN).trans s.mN,k1.1,k1.2,XQ,by rw[hl];exact s.low,hw.trans s.oV,λb hb=>(s.bk b hb).only hn hl hc (hm b hb),s.GQ,s.wne,s.aL.only hn hl hc,s.cS,s.s1,s.hd⟩
theorem kg.only(s:kg h tb bw bp bl c vb aY N Ts W wc F B)(hn:h.nx<=h'.nx)(hl:h'.lo=h.lo)(hc:∀c vs ty op,c<h.nx->o_ ty op->(ty=3->FB h bp c)->h.bl.get c=some (ai vs ty op)->h'.bl.get c=h.bl.get c)(hw:h'.bl.get bw=h.bl.get bw)(hm:∀b∈Ts,h'.bl.get b.bm=h.bl.get b.bm):kg h' tb bw bp bl c vb aY N Ts W wc F B:=
 ⟨s.is.only hn hl hc hw hm,s.ids,s.wh,s.nm,s.wb,s.len,s.cR,s.cH⟩
theorem kg.put(s:kg h tb bw bp bl c vb aY N Ts W wc F B){d:Nat}(o:bL)(hd:∀vs ty op,o_ ty op->h.bl.get d≠some (ai vs ty op))(hw:d≠bw)(hm:∀b∈Ts,d≠b.bm):kg ⟨h.nx,h.bl.bq d o,h.lo⟩ tb bw bp bl c vb aY N Ts W wc F B:=
 s.only (Nat.le_refl _) rfl (λc vs ty op _ ht _ hg=>T.ax _ _ (by rintro rfl;exact hd vs ty op ht hg)) (T.ax _ _ hw) λb hb=>T.ax _ _ (hm b hb)
end
def dM(o:Option Nat):Value:=match o with|some a=>.pointer (some ⟨a,0,none⟩)|none=>.pointer none
structure CR where
 ca:Nat
 a:iz
 th:Int
 no:Int
 st:Int
 ph:Nat
 wt:Bool
 id:Int
 cs:Int
 out:Int
def WG(ph:Nat):FuncId:=if ph=1 then 58 else if ph=2 then 106 else if ph=3 then 159 else if ph=4 then 305 else 306
def BJ(ph ca:Nat):Value:=.func (.func (WG ph)) ⟨[YYQ ca]⟩ ⟨[]⟩
noncomputable def cO(wb:Nat)(c:CR):bL:=ai [YYY c.a.k,YYY c.a.x,YYY c.a.t,YYY c.a.r,YYY c.a.m,YYY c.a.w,YYY c.a.to,YYQ wb,YYY c.th,YYY c.no,YYY c.st,BJ c.ph c.ca,YYY (c.ph:Int),.bool c.wt,YYY c.id,YYY c.cs,YYY c.out,.bool false,.slice none 0 0] 128 false
structure WA where
 wb:Nat
 lb:Nat
 hb:Nat
 pb:Nat
 ib:Nat
 kb:Nat
 cb:Nat
 mb:Nat
 n:Nat
structure RW(h:af)(A:WA)(tb:Nat)(dO:List (Option (Nat × Int)))(bits:List Int)(now:Int)(tv:Value)(cs:List (Option CR))(wm:List IE)(zH:Nat)(begun:Int):Prop where
 De:A.wb<h.nx/\h.lo<=A.wb
 gw:h.bl.get A.wb=some (ai [YYQ tb,YYQ A.lb,YYQ A.pb,YYQ A.kb,YYX A.cb A.n A.n,.map (some A.mb),YYY begun] 126 false)
 GY:A.lb<h.nx
 gl:h.bl.get A.lb=some (ai [YYX A.hb dO.length dO.length] 247 false)
 lth:A.hb<h.nx/\h.lo<=A.hb
 gh:h.bl.get A.hb=some (ai (dO.map λo=>dM (o.map (·.1))) 251 false)
 ho:∀p,some p∈dO->p.1<h.nx/\h.bl.get p.1=some (ai [YYY p.2] 253 false)
 MV:A.pb<h.nx
 gp:h.bl.get A.pb=some (ai [YYX A.ib A.n A.n] 244 false)
 lti:A.ib<h.nx/\h.lo<=A.ib
 gi:h.bl.get A.ib=some (ai (bits.map λn=>YYY n) 3 false)
 li:bits.length=A.n
 ltk:A.kb<h.nx/\h.lo<=A.kb
 gk:h.bl.get A.kb=some (ai [YYY now,tv] 200 false)
 WH:A.cb<h.nx/\h.lo<=A.cb
 gc:h.bl.get A.cb=some (ai (cs.map λo=>dM (o.map (·.ca))) 118 false)
 lc:cs.length=A.n
 ca:∀c,some c∈cs->c.ca<h.nx/\h.lo<=c.ca/\h.bl.get c.ca=some (cO A.wb c)
 xq:A.mb<h.nx/\h.lo<=A.mb
 gm:h.bl.get A.mb=some (.map (wm.map BE) zH)
 nn:1<=A.n/\A.n<=8
 dc:cs.Pairwise λo o'=>∀c c',o=some c->o'=some c'->c.ca≠c'.ca
def nj(ty:TypeId)(op:Bool):Prop:=ty=126\/ty=247\/ty=251\/ty=253\/ty=244\/ty=200\/ty=118\/ty=128\/(ty=3/\op=false)
section
variable {h h':af}{A:WA}{tb:Nat}{dO:List (Option (Nat × Int))}{bits:List Int}{now:Int}{tv:Value}{cs:List (Option CR)}{wm:List IE}{zH:Nat}{begun:Int}
theorem RW.keep(s:RW h A tb dO bits now tv cs wm zH begun)(hn:h.nx<=h'.nx)(hl:h'.lo=h.lo)(hg:∀d vs ty op,d<h.nx->nj ty op->h.bl.get d=some (ai vs ty op)->h'.bl.get d=h.bl.get d)(hm:h'.bl.get A.mb=h.bl.get A.mb):RW h' A tb dO bits now tv cs wm zH begun:=by
 obtain⟨⟨a1,a2⟩,a3,b1,b2,⟨c1,c2⟩,c3,c4,d1,d2,⟨e1,e2⟩,e3,e4,⟨f1,f2⟩,f3,⟨g1,g2⟩,g3,g4,g5,⟨i1,i2⟩,i3,i4,i5⟩:=s;refine⟨⟨XQ,XQ⟩,(hg _ _ _ _ a1 (by simp[nj]) a3).trans a3,XQ,(hg _ _ _ _ b1 (by simp[nj]) b2).trans b2,⟨XQ,XQ⟩,(hg _ _ _ _ c1 (by simp[nj]) c3).trans c3,λp hp=>?_,XQ,(hg _ _ _ _ d1 (by simp[nj]) d2).trans d2,⟨XQ,XQ⟩,(hg _ _ _ _ e1 (by simp[nj]) e3).trans e3,e4,⟨XQ,XQ⟩,(hg _ _ _ _ f1 (by simp[nj]) f3).trans f3,⟨XQ,XQ⟩,(hg _ _ _ _ g1 (by simp[nj]) g3).trans g3,g4,λc hc=>?_,⟨XQ,XQ⟩,hm.trans i3,i4,i5⟩
 .obtain⟨k1,k2⟩:=c4 p hp;exact⟨XQ,(hg _ _ _ _ k1 (by simp[nj]) k2).trans k2⟩
 .obtain⟨k1,k2,k3⟩:=g5 c hc;exact⟨XQ,XQ,(hg _ _ _ _ k1 (by simp[nj]) k3).trans k3⟩
theorem RW.le(s:RW h A tb dO bits now tv cs wm zH begun)(l:Le h h'):RW h' A tb dO bits now tv cs wm zH begun:=s.keep l.nx l.lo (λd _ _ _ hd _ _=>l.get d hd) (l.get _ s.xq.1)
theorem RW.afD(s:RW h A tb dO bits now tv cs wm zH begun){bw bp bl:Nat}{c:gr}{vb:Value}{aY:Nat}{Ts:List TB}{W:List IE}{wc:Nat}{F:List Int}{B:List Bool}(t:eZ h tb bw bp bl c vb aY Ts W wc F B)(f:uy Ts bw bp bl h h')(hw:A.mb≠bw)(hm:∀b∈Ts,A.mb≠b.bm):RW h' A tb dO bits now tv cs wm zH begun:=by
 have gm:=s.gm;obtain⟨fs,zo,hpt⟩:=t.aL.fr.cell;have gl:=t.aL.cell;refine s.keep f.nx f.lo (λd vs ty op hd hr hg=>?_) (f.get _ s.xq.1 hm hw (by rintro e;rw[e,zo]at gm;exact bV gm.symm) (by rintro e;rw[e,gl]at gm;exact bV gm.symm) λvs=>by rw[gm];exact bV);rcases hr with e|e|e|e|e|e|e|e|⟨e,e'⟩<;>subst e
 .exact f.keep t hd hg J0 J0 J0
 .exact f.keep t hd hg J0 J0 J0
 .exact f.keep t hd hg J0 J0 J0
 .exact f.keep t hd hg J0 J0 J0
 .exact f.keep t hd hg J0 J0 J0
 .exact f.keep t hd hg J0 J0 J0
 .exact f.keep t hd hg J0 J0 J0
 .exact f.keep t hd hg J0 J0 J0
 .subst e';refine f.get d hd (λb hb=>?_) (by rintro rfl;have:=t.oV;rw[hg]at this;exact bV this.symm) (by rintro rfl;rw[hg]at zo;exact bE J0 zo) (by rintro rfl;rw[hg]at gl;exact bE J0 gl) λws=>by rw[hg];exact bC
  rintro rfl;have:=(t.bk b hb).gP;rw[hg]at this;exact bV this.symm
end
theorem afE(h:af)(b o:Nat):mQ prog h 100 120 (.pointer (some ⟨b,o,none⟩)) (.pointer none)=some false:=by kernel_rfl
theorem Rk{β:Type}{fl:β}(cn:Bool)(b o:Nat)(h:af)(V:UV β):aF fl prog .eql 120 cn false (.pointer (some ⟨b,o,none⟩)) (.pointer none) h V=V (.bool false) h:=by simp only[aF,afE,bX]
theorem afF(h:af)(b o:Nat):mQ prog h 100 251 (.pointer (some ⟨b,o,none⟩)) (.pointer none)=some false:=by kernel_rfl
theorem afG(h:af):mQ prog h 100 251 (.pointer none) (.pointer none)=some true:=by kernel_rfl
theorem GZ{β:Type}{fl:β}(cn:Bool)(b o:Nat)(h:af)(V:UV β):aF fl prog .eql 251 cn false (.pointer (some ⟨b,o,none⟩)) (.pointer none) h V=V (.bool false) h:=by simp only[aF,afF,bX]
theorem G2{β:Type}{fl:β}(cn:Bool)(h:af)(V:UV β):aF fl prog .eql 251 cn false (.pointer none) (.pointer none) h V=V (.bool true) h:=by simp only[aF,afG,bX]
abbrev pn(dO:List (Option (Nat × Int))):List Value:=dO.map λo=>dM (o.map (·.1))
section
variable {h:af}{lb hb:Nat}{dO:List (Option (Nat × Int))}
theorem zI(gl:h.bl.get lb=some (ai [YYX hb dO.length dO.length] 247 false)){i:Nat}{th:Int}(hi:i<dO.length)(ht:0<=th/\th<8)(V:KQ)(hk:V (YYY 0) h):aj prog 156 [YYQ lb,YYY (i:Int),YYY th] h V:=by
 apply YYZ;rw[Yn];simp(disch:=try exact Y)only[Wz,Rk,E8,dF (show(0:Int)<=(i:Int)by omega),aN,gl,dF (show 0<=th by omega),aZ (show ¬(dO.length:Int)<=(i:Int)by omega),aZ (show ¬(8:Int)<=th by omega)];exact hk
theorem I_{i:Nat}{o:Option (Nat × Int)}(hi:dO[i]? = some o):(pn dO)[i]? = some (dM (o.map (·.1))):=by rw[List.getElem?_map,hi];rfl
theorem G3{i:Nat}{o:Option (Nat × Int)}(hi:i<dO.length):over (pn dO) i [dM (o.map (·.1))]=pn (dO.set i o):=by
 unfold over pn;rw[List.map_set,List.set_eq_take_append_cons_drop,if_pos (by simpa using hi)];simp
theorem aaB(gl:h.bl.get lb=some (ai [YYX hb dO.length dO.length] 247 false))(gh:h.bl.get hb=some (ai (pn dO) 251 false))(hhb:hb<h.nx/\h.lo<=hb)(hlb:lb<h.nx){i:Nat}{th:Int}(hi:dO[i]? = some none)(ht:0<=th/\th<8)(V:KQ)(hk:V (.tuple ⟨[.bool true,YYY 0]⟩) ⟨h.nx+1,(h.bl.bq h.nx (ai [YYY th] 253 false)).bq hb (ai (pn (dO.set i (some (h.nx,th)))) 251 false),h.lo⟩):aj prog 105 [YYQ lb,YYY (i:Int),YYY th] h V:=by
 have hil:=(List.getElem?_eq_some_iff.1 hi).1;have r:=I_ hi;have ov:=G3 (dO:=dO) (o:=some (h.nx,th)) hil;have hln:(pn dO).length=dO.length:=List.length_map _;apply YYZ;rw[XZ];refine zI gl hil ht _ ?_;simp only[dM,Option.map_none]at r;simp only[dM,Option.map_some]at ov;simp(disch:=try exact Y)only[Wz,ES,aN,gl,bt,gh,r,Nat.mul_one,G2,EP,ov];exact hk
theorem Uy(gl:h.bl.get lb=some (ai [YYX hb dO.length dO.length] 247 false))(gh:h.bl.get hb=some (ai (pn dO) 251 false))(hhb:hb<h.nx/\h.lo<=hb){i p:Nat}{th:Int}(hi:dO[i]? = some (some (p,th)))(gp:h.bl.get p=some (ai [YYY th] 253 false))(ht:0<=th/\th<8)(V:KQ)(hk:V (YYY 0) ⟨h.nx,h.bl.bq hb (ai (pn (dO.set i none)) 251 false),h.lo⟩):aj prog 215 [YYQ lb,YYY (i:Int),YYY th] h V:=by
 have hil:=(List.getElem?_eq_some_iff.1 hi).1;have r:=I_ hi;have ov:=G3 (dO:=dO) (o:=none) hil;have hln:(pn dO).length=dO.length:=List.length_map _;apply YYZ;rw[YV];refine zI gl hil ht _ ?_;simp only[dM,Option.map_some]at r;simp only[dM,Option.map_none]at ov;simp(disch:=try exact Y)only[Wz,Fy,aN,gl,bt,gh,r,gp,Nat.mul_one,GZ,ov];exact hk
theorem MW(gl:h.bl.get lb=some (ai [YYX hb dO.length dO.length] 247 false))(gh:h.bl.get hb=some (ai (pn dO) 251 false)){i:Nat}{o:Option (Nat × Int)}(hi:dO[i]? = some o)(gp:∀p,o=some p->h.bl.get p.1=some (ai [YYY p.2] 253 false))(V:KQ)(hk:∀x,V (.tuple ⟨[YYY x,.bool o.isSome]⟩) h):aj prog 115 [YYQ lb,YYY (i:Int)] h V:=by
 have hil:=(List.getElem?_eq_some_iff.1 hi).1;have r:=I_ hi;have hln:(pn dO).length=dO.length:=List.length_map _;apply YYZ;rw[X3];refine zI gl hil XQ _ ?_;cases o with
 |none=>
  simp only[dM,Option.map_none]at r;simp(disch:=try exact Y)only[Wz,aN,gl,bt,gh,r,Nat.mul_one,G2];exact hk 0
 |some p=>
  have gp:=gp p rfl;simp only[dM,Option.map_some]at r;simp(disch:=try exact Y)only[Wz,aN,gl,bt,gh,r,Nat.mul_one,GZ,EX,gp];exact hk p.2
end
theorem afH(h:af)(b o:Nat):mQ prog h 100 121 (.pointer (some ⟨b,o,none⟩)) (.pointer none)=some false:=by kernel_rfl
theorem Rl{β:Type}{fl:β}(cn:Bool)(b o:Nat)(h:af)(V:UV β):aF fl prog .eql 121 cn false (.pointer (some ⟨b,o,none⟩)) (.pointer none) h V=V (.bool false) h:=by simp only[aF,afH,bX]
abbrev Ja(bits:List Int):List Value:=bits.map λn=>YYY n
def MX(a b:Int):Int:=IntKind.i64.wrap (BitVec.ofInt IntKind.i64.bits a &&& BitVec.ofInt IntKind.i64.bits b).toNat
theorem MY{β:Type}{fl:β}(P:Program)(t:TypeId)(cn gd:Bool)(a b:Int)(h:af)(V:UV β):aF fl P .and t cn gd (YYY a) (YYY b) h V=V (YYY (MX a b)) h:=by
 simp only[aF,ir,mT,gV,ep];rfl
section
variable {h:af}{pb ib:Nat}{bits:List Int}
theorem Rm(gp:h.bl.get pb=some (ai [YYX ib bits.length bits.length] 244 false)){i:Nat}(hi:i<bits.length)(V:KQ)(hk:V (YYY 0) h):aj prog 162 [YYQ pb,YYY (i:Int)] h V:=by
 apply YYZ;rw[Yr];simp(disch:=try exact Y)only[Wz,Rl,E9,dF (show(0:Int)<=(i:Int)by omega),aN,gp,aZ (show ¬(bits.length:Int)<=(i:Int)by omega)];exact hk
theorem aaC{i:Nat}{n:Int}(hi:bits[i]? = some n):(Ja bits)[i]? = some (YYY n):=by rw[List.getElem?_map,hi];rfl
theorem afI(gp:h.bl.get pb=some (ai [YYX ib bits.length bits.length] 244 false))(gi:h.bl.get ib=some (ai (Ja bits) 3 false)){i:Nat}{n:Int}(hi:bits[i]? = some n)(b:Int)(V:KQ)(hk:V (.bool (!decide (MX n b=0))) h):aj prog 163 [YYQ pb,YYY (i:Int),YYY b] h V:=by
 have hil:=(List.getElem?_eq_some_iff.1 hi).1;have r:=aaC hi;have hln:(Ja bits).length=bits.length:=List.length_map _;apply YYZ;rw[Ys];refine Rm gp hil _ ?_;simp(disch:=try exact Y)only[Wz,aN,gp,bt,gi,r,Nat.mul_one,MY];exact hk
theorem Rn(gp:h.bl.get pb=some (ai [YYX ib bits.length bits.length] 244 false))(gi:h.bl.get ib=some (ai (Ja bits) 3 false)){i:Nat}{n:Int}(hi:bits[i]? = some n)(V:KQ)(hk:V (.bool (!decide (MX n 1=0))) h):aj prog 114 [YYQ pb,YYY (i:Int)] h V:=by
 apply YYZ;rw[X2];exact afI gp gi hi 1 _ hk
end
theorem dh{h:af}{a b:Nat}{v v':List Value}{t t':TypeId}{o o':Bool}(ha:h.bl.get a=some (ai v t o))(hb:h.bl.get b=some (ai v' t' o'))(hn:t≠t'):a≠b:=by
 rintro rfl;rw[ha]at hb;exact bE hn hb
theorem fH{h:af}{a b:Nat}{v:List Value}{t:TypeId}{o:Bool}{es:List MapEntry}{cl:Nat}(ha:h.bl.get a=some (ai v t o))(hb:h.bl.get b=some (.map es cl)):a≠b:=by
 rintro rfl;rw[ha]at hb;exact bV hb.symm
section
variable {h h':af}{A:WA}{tb:Nat}{dO:List (Option (Nat × Int))}{bits:List Int}{now:Int}{tv:Value}{cs:List (Option CR)}{wm:List IE}{zH:Nat}{begun:Int}
theorem aaD{i:Nat}{c c':CR}(hi:cs[i]? = some (some c))(hc:c'.ca=c.ca):((cs.set i (some c')).map λo=>dM (o.map (·.ca)))=cs.map λo=>dM (o.map (·.ca)):=by
 have hil:=(List.getElem?_eq_some_iff.1 hi).1;refine List.ext_getElem? λj=>?_;rw[List.getElem?_map,List.getElem?_map,List.getElem?_set];split
 .rename_i e;subst e;rw[hi];simp[hc,hil]
 .rfl
theorem zJ{i:Nat}{c:CR}{o:Option CR}(h:some c∈cs.set i o):o=some c\/∃j,j≠i/\cs[j]? = some (some c):=by
 obtain⟨j,hj⟩:=List.getElem?_of_mem h;rw[List.getElem?_set]at hj;split at hj
 .split at hj
  .exact .inl (Option.some.inj hj)
  .cases hj
 .rename_i hne;exact .inr ⟨j,λe=>hne e.symm,hj⟩
theorem RW.apart(s:RW h A tb dO bits now tv cs wm zH begun){i j:Nat}{c c':CR}(hi:cs[i]? = some (some c))(hj:cs[j]? = some (some c'))(hne:i≠j):c.ca≠c'.ca:=by
 rcases Nat.lt_or_gt_of_ne hne with h1|h1
 .exact dY.1 s.dc i j _ _ h1 hi hj c c' rfl rfl
 .exact λe=>dY.1 s.dc j i _ _ h1 hj hi c' c rfl rfl e.symm
theorem RW.jN(s:RW h A tb dO bits now tv cs wm zH begun){i:Nat}{c c':CR}(hi:cs[i]? = some (some c))(hc:c'.ca=c.ca):RW ⟨h.nx,h.bl.bq c.ca (cO A.wb c'),h.lo⟩ A tb dO bits now tv (cs.set i (some c')) wm zH begun:=by
 obtain⟨k1,k2,k3⟩:=s.ca c (List.mem_of_getElem? hi);have up:∀{b:Nat}{v:List Value}{t:TypeId}{o:Bool},h.bl.get b=some (ai v t o)->128≠t->(h.bl.bq c.ca (cO A.wb c')).get b=some (ai v t o):=λhb hn=>(T.ax _ _ (dh k3 hb hn)).trans hb;refine⟨s.De,up s.gw J0,s.GY,up s.gl J0,s.lth,up s.gh J0,λp hp=>⟨(s.ho p hp).1,up (s.ho p hp).2 J0⟩,s.MV,up s.gp J0,s.lti,up s.gi J0,s.li,s.ltk,up s.gk J0,s.WH,?_,?_,?_,s.xq,(T.ax _ _ (fH k3 s.gm)).trans s.gm,s.nn,?_⟩
 .rw[aaD hi hc];exact up s.gc J0
 .rw[List.length_set];exact s.lc
 .intro d hd;rcases zJ hd with e|⟨j,hne,hj⟩
  .cases e;rw[hc];exact⟨k1,k2,T.au _ _ _⟩
  .obtain⟨g1,g2,g3⟩:=s.ca d (List.mem_of_getElem? hj);exact⟨g1,g2,(T.ax _ _ (s.apart hi hj (λe=>hne e.symm))).trans g3⟩
 .refine rY s.dc (λj q hj hq a b ha hb=>?_) (λj q hj hq a b ha hb=>?_)
  .subst ha;cases hb;rw[hc];exact s.apart hq hi XQ
  .subst hb;cases ha;rw[hc];exact s.apart hi hq XQ
theorem RW.tY(s:RW h A tb dO bits now tv cs wm zH begun)(i:Nat)(o:Option CR)(ho:∀c,o=some c->c.ca<h.nx/\h.lo<=c.ca/\h.bl.get c.ca=some (cO A.wb c)/\∀(j:Nat)(d:CR),j≠i->cs[j]? = some (some d)->d.ca≠c.ca):RW ⟨h.nx,h.bl.bq A.cb (ai ((cs.set i o).map λo=>dM (o.map (·.ca))) 118 false),h.lo⟩ A tb dO bits now tv (cs.set i o) wm zH begun:=by
 have k3:=s.gc;have up:∀{b:Nat}{v:List Value}{t:TypeId}{op:Bool},h.bl.get b=some (ai v t op)->118≠t->(h.bl.bq A.cb (ai ((cs.set i o).map λo=>dM (o.map (·.ca))) 118 false)).get b=some (ai v t op):=λhb hn=>(T.ax _ _ (dh k3 hb hn)).trans hb;refine⟨s.De,up s.gw J0,s.GY,up s.gl J0,s.lth,up s.gh J0,λp hp=>⟨(s.ho p hp).1,up (s.ho p hp).2 J0⟩,s.MV,up s.gp J0,s.lti,up s.gi J0,s.li,s.ltk,up s.gk J0,s.WH,T.au _ _ _,?_,?_,s.xq,(T.ax _ _ (fH k3 s.gm)).trans s.gm,s.nn,?_⟩
 .rw[List.length_set];exact s.lc
 .intro d hd;rcases zJ hd with e|⟨j,hne,hj⟩
  .obtain⟨g1,g2,g3,_⟩:=ho d e;exact⟨g1,g2,up g3 J0⟩
  .obtain⟨g1,g2,g3⟩:=s.ca d (List.mem_of_getElem? hj);exact⟨g1,g2,up g3 J0⟩
 .refine rY s.dc (λj q hj hq a b ha hb=>?_) (λj q hj hq a b ha hb=>?_)
  .subst ha;exact(ho b hb).2.2.2 j a XQ hq
  .subst hb;exact λe=>(ho a ha).2.2.2 j b XQ hq e.symm
theorem RW.Dl(s:RW h A tb dO bits now tv cs wm zH begun)(zK:List (Option (Nat × Int)))(hl:zK.length=dO.length)(ho:∀p,some p∈zK->p.1<h.nx/\h.bl.get p.1=some (ai [YYY p.2] 253 false)):RW ⟨h.nx,h.bl.bq A.hb (ai (pn zK) 251 false),h.lo⟩ A tb zK bits now tv cs wm zH begun:=by
 have k3:=s.gh;have up:∀{b:Nat}{v:List Value}{t:TypeId}{op:Bool},h.bl.get b=some (ai v t op)->251≠t->(h.bl.bq A.hb (ai (pn zK) 251 false)).get b=some (ai v t op):=λhb hn=>(T.ax _ _ (dh k3 hb hn)).trans hb;exact⟨s.De,up s.gw J0,s.GY,by rw[hl];exact up s.gl J0,s.lth,T.au _ _ _,λp hp=>⟨(ho p hp).1,up (ho p hp).2 J0⟩,s.MV,up s.gp J0,s.lti,up s.gi J0,s.li,s.ltk,up s.gk J0,s.WH,up s.gc J0,s.lc,λc hc=>⟨(s.ca c hc).1,(s.ca c hc).2.1,up (s.ca c hc).2.2 J0⟩,s.xq,(T.ax _ _ (fH k3 s.gm)).trans s.gm,s.nn,s.dc⟩
theorem RW.zM(s:RW h A tb dO bits now tv cs wm zH begun)(b':Int):RW ⟨h.nx,h.bl.bq A.wb (ai [YYQ tb,YYQ A.lb,YYQ A.pb,YYQ A.kb,YYX A.cb A.n A.n,.map (some A.mb),YYY b'] 126 false),h.lo⟩ A tb dO bits now tv cs wm zH b':=by
 have k3:=s.gw;have up:∀(o':bL){b:Nat}{v:List Value}{t:TypeId}{op:Bool},h.bl.get b=some (ai v t op)->126≠t->(h.bl.bq A.wb o').get b=some (ai v t op):=λo' _ _ _ _ hb hn=>(T.ax _ _ (dh k3 hb hn)).trans hb;exact⟨s.De,T.au _ _ _,s.GY,up _ s.gl J0,s.lth,up _ s.gh J0,λp hp=>⟨(s.ho p hp).1,up _ (s.ho p hp).2 J0⟩,s.MV,up _ s.gp J0,s.lti,up _ s.gi J0,s.li,s.ltk,up _ s.gk J0,s.WH,up _ s.gc J0,s.lc,λc hc=>⟨(s.ca c hc).1,(s.ca c hc).2.1,up _ (s.ca c hc).2.2 J0⟩,s.xq,(T.ax _ _ (fH k3 s.gm)).trans s.gm,s.nn,s.dc⟩
end
end Go.Proofs
