/-
  PROVED HERE: a part of the proof (SO, K32, K33, K34, K35, K36, K37, VaiB, U1, U2, K38, U3, U4, U5, U6, U7, U8, K39, K40, U9, U10, U11, K42, K43, K44, U12, U13, N3, S2, S3, S4, S5, S7, S8).
-/
import Derived.Test.YtmllggkhfmjpgaaGreatDoorG4
import Derived.Shelf.SlSortCmp.WholeK
import Derived.Shelf.SlSortCmp.NoneTotal
import Derived.Test.YtmllggkhfmjpgaaGreatDoorG5
import Derived.Test.YtmllggkhfmjpgaaGreatDoorSRT
import Derived.Test.YtmllggkhfmjpgaaGreatDoorG2
import Derived.Deep.DeepFit
import Derived.Test.YtmllggkhfmjpgaaGreatDoorRZ
set_option linter.unusedVariables false
set_option linter.unusedSimpArgs false
set_option maxRecDepth 100000
set_option maxHeartbeats 4000000
namespace Go.Vai
open Go Go.Sort
section
variable {α β κt:Type}[Inhabited α]{P:Program}{φ:ej}
theorem F2.Uj{γ δ:Type}{R:γ->δ->Prop}{m m':List δ}(p:m'.Perm m):∀{l:List γ},F2 R l m->∃l',l'.Perm l/\F2 R l' m':=by
 induction p with
 |nil=>intro l h;cases h;exact⟨[],.nil,.nil⟩
 |cons x p ih=>
  intro l h;cases h with
  |cons h t=>obtain⟨l',p',h'⟩:=ih t;exact⟨_,p'.cons _,.cons h h'⟩
 |swap x y l0=>
  intro l h;cases h with
  |cons h1 t=>cases t with|cons h2 t=>exact⟨_,List.Perm.swap ..,.cons h2 (.cons h1 t)⟩
 |trans p q ihp ihq=>
  intro l h;obtain⟨l1,p1,h1⟩:=ihq h;obtain⟨l2,p2,h2⟩:=ihp h1;exact⟨l2,p2.trans p1,h2⟩
theorem F2.flat{γ δ:Type}{R:Value->Value->Prop}{f:γ->List Value}{g:δ->List Value}{l:List γ}{m:List δ}(h:F2 (λx y=>F2 R (f x) (g y)) l m):F2 R (l.flatMap f) (m.flatMap g):=by
 induction h with
 |nil=>exact .nil
 |cons hr _ ih=>simp only[List.flatMap_cons];exact hr.append ih
omit [Inhabited α] in
theorem aaB{k:Nat}{enc:α->List Value}{dh:β->List Value}(hA:∀x,(dh x).length=k){kA:β->κt}{kC:α->κt}(CJ:∀(x:β)(cs:List Value),F2 (VR φ) (dh x) cs->∃y:α,cs=enc y/\kA x=kC y):∀(L:List β)(C:List Value),F2 (VR φ) (L.flatMap dh) C->∃ys:List α,C=ys.flatMap enc/\F2 (λx y=>F2 (VR φ) (dh x) (enc y)/\kA x=kC y) L ys:=by
 intro L
 induction L with
 |nil=>intro C h;cases h;exact⟨[],rfl,.nil⟩
 |cons x L ih=>
  intro C h;rw[List.flatMap_cons]at h;have h1:=h.take k;have h2:=h.drop k;have e1:(dh x++L.flatMap dh).take k=dh x:=by rw[<-hA x,List.take_left]
  have e2:(dh x++L.flatMap dh).drop k=L.flatMap dh:=by rw[<-hA x,List.drop_left]
  rw[e1]at h1;rw[e2]at h2;obtain⟨y,hy,hk⟩:=CJ x _ h1;obtain⟨ys,hys,hr⟩:=ih _ h2;refine⟨y::ys,?_,.cons ⟨hy▸h1,hk⟩ hr⟩;rw[List.flatMap_cons,<-hy,<-hys,List.take_append_drop]
theorem zI{k:Nat}(k0:0<k){enc:α->List Value}(hk:∀x,(enc x).length=k)(ys:List α):(Sort.flatK enc k ys.toArray).toList=ys.flatMap enc:=by
 refine List.ext_getElem? λt=>?_;have hl:=bg hk ys;by_cases ht:t<ys.length*k
 .have hd:t / k<ys.length:=(Nat.div_lt_iff_lt_mul k0).2 ht;have hm:t % k<k:=Nat.mod_lt _ k0;have e:=gZ hk (K:=ys) (i:=t / k) (j:=t % k) (List.getElem?_eq_getElem hd) hm;rw[Nat.div_add_mod' t k]at e;rw[e,Array.getElem?_toList];have hs:t<(Sort.flatK enc k ys.toArray).size:=by simpa using ht
  rw[Array.getElem?_eq_getElem hs];have:=Sort.get_flatK enc k ys.toArray t (by simpa using ht);rw[getElem!_pos _ t hs]at this;rw[this];have hd':t / k<ys.toArray.size:=by simpa using hd
  have a1:ys.toArray[t / k]! = ys[t / k]:=by rw[getElem!_pos ys.toArray (t / k) hd'];simp
  have hm':t % k<(enc ys[t / k]).length:=by rw[hk];exact hm
  rw[a1,getElem!_pos (enc ys[t / k]) (t % k) hm',List.getElem?_eq_getElem hm']
 .have AT:(Sort.flatK enc k ys.toArray).toList.length=ys.length*k:=by simp
  rw[List.getElem?_eq_none (by rw[AT];omega),List.getElem?_eq_none (by rw[hl];omega)]
theorem HR.grown{h:ah}{w:World}(hr:HR P φ h w)(os:Array Obj):HR P φ h (grow w os):=by
 refine⟨λb o pl h1 h2=>?_,λb pl h=>?_,hr.keys,hr.S0,hr.inj,hr.lo,hr.side.heap λB hB _=>?_⟩
 .have:=hr.dom b pl h2
  show OR P φ o pl (w.heap++os)[pl.B]?
  rw[Array.getElem?_append_left this.2];exact hr.obj b o pl h1 h2
 .have:=hr.dom b pl h;refine⟨this.1,?_⟩
  show pl.B<(w.heap++os).size
  rw[Array.size_append];omega
 .show(w.heap++os)[B]? = _
  rw[Array.getElem?_append_left hB]
theorem Ext.grown{φ':ej}{h h':ah}{w w':World}(hx:Ext φ φ' h h' w w')(os:Array Obj):Ext φ φ' h h' w (grow w' os):=by
 have hs:=hx.size;have key:∀B,B<w.heap.size->(grow w' os).heap[B]? = w'.heap[B]?:=λB hB=>by
  show(w'.heap++os)[B]? = _
  rw[Array.getElem?_append_left XV]
 refine⟨hx.sub,hx.new,hx.nx,?_,λB hB hn=>(key B hB).trans (hx.Cg B hB hn),hx.Io,hx.tape,hx.os,hx.output,λ_ _=>trivial,hx.lo,hx.Kl,λb o pl h1 h2 h3 h4 h5=>(key _ h5).trans (hx.Km b o pl h1 h2 h3 h4 h5),hx.dr⟩
 show _<=(w'.heap++os).size
 rw[Array.size_append];omega
theorem VR.M_{b n:Nat}{v':Value}(h:VR φ (.slice (some ⟨b,0,none⟩) n aS) v'):∃pl c,φ b=some pl/\v'=.slice (some ⟨pl.B,0,none⟩) n c:=by
 generalize Kr:aS=cc at h;cases h with
 |slice hp hn hc=>subst Kr;exact absurd hc (Nat.lt_irrefl _)
 |cw hp hn hc=>exact⟨_,_,hp,rfl⟩
 |dU=>exact absurd Kr X0
 |dO=>exact absurd Kr X0
theorem VR.aju{g:Nat}{v':Value}(h:VR φ (.func (.func g) #[] #[]) v'):v'=.func (.func g) #[] #[]:=by
 cases h with
 |func fn a a' b b' hal hbl _ _=>
  have ea:a'=#[]:=by
   have:a'.toList.length=0:=hal.symm;exact Array.eq_empty_of_size_eq_zero (by simpa using this)
  have eb:b'=#[]:=by
   have:b'.toList.length=0:=hbl.symm;exact Array.eq_empty_of_size_eq_zero (by simpa using this)
  rw[ea,eb]
theorem zJ{f g:FuncId}{k:Nat}(k0:0<k){enc:α->List Value}{dh:β->List Value}(hk:∀x,(enc x).length=k)(hA:∀x,(dh x).length=k){kA:β->κt}{kC:α->κt}{lt:κt->κt->Bool}(CJ:∀(φ:ej)(x:β)(cs:List Value),F2 (VR φ) (dh x) cs->∃y:α,cs=enc y/\kA x=kC y)(enters:∀args w,(callFunc f args).run P w=.ok (.enter f args) w)(law:∀(blk cap:Nat)(d:Array α)(w:World),HoldsK enc k w blk 0 d->blk<w.heap.size->d.size<4611686018427387904->
   Calls P f #[.slice (some ⟨blk,0,none⟩) d.size cap,.func (.func g) #[] #[]] w λe w'=>e=.returned (.tuple #[])/\∃d' n os,PermIn 0 d.size d d'/\SortedIn (λx y=>lt (kC x) (kC y)) 0 d.size d'/\w'=Go.Proofs.sortWorldK enc k w blk 0 n d' os){h:ah}{b:Nat}{L:List β}{ty:TypeId}{op:Bool}(hb:h.bl.get b=some (ai (L.flatMap dh) ty op))(hlo:h.lo<=b)(Is:L.length<=1000000000){Y:KQ}(hκ:∀D:List β,D.Perm L->D.Pairwise (λx y=>lt (kA y) (kA x)=false)->Y (.tuple #[]) ⟨h.nx,h.bl.bx b (ai (D.flatMap dh) ty op),h.lo⟩):aj P f [.slice (some ⟨b,0,none⟩) L.length aS,.func (.func g) #[] #[]] h Y:=by
 intro φ w args' ha hr;cases ha with|cons hs ha=>
 cases ha with|cons hf ha=>
 cases ha;obtain⟨pl,c,hp,rfl⟩:=hs.M_;obtain rfl:=hf.aju;have hb':=hb;unfold ai at hb';obtain⟨C,hC,Ap,hn2,hop,hcell⟩:=hr.rowAt hb' hp;have hlen:=bg hA L;rw[hlen]at Ap hn2 hcell;have hF:F2 (VR φ) (L.flatMap dh) (C.toList.take (L.length*k)):=by
  have hCl:C.toList.length=C.size:=by simp
  refine F2.pg (by rw[hlen,List.length_take];omega) λj v v' e1 e2=>?_;have hj:j<L.length*k:=by rw[<-hlen];exact(List.getElem?_eq_some_iff.mp e1).1
  obtain⟨v2,h2,h3⟩:=hcell j v (by rw[oq];exact e1) hj;rw[List.getElem?_take_of_lt hj,Array.getElem?_toList,h2]at e2;cases e2;exact h3
 obtain⟨ys,hys,hR⟩:=aaB hA (CJ φ) L _ hF;have hyl:ys.length=L.length:=hR.length.symm;have hH:HoldsK enc k w pl.B 0 ys.toArray:=by
  intro j hj;have hfl:=zI k0 hk ys;rw[<-hys]at hfl;have hj':j<L.length*k:=by simpa[hyl]using hj
  have hjs:j<(Sort.flatK enc k ys.toArray).size:=hj;have e1:(Sort.flatK enc k ys.toArray)[j]? = C[j]?:=by
   rw[<-Array.getElem?_toList,hfl,List.getElem?_take_of_lt hj',Array.getElem?_toList]
  rw[getElem!_pos _ j hjs];rw[Array.getElem?_eq_getElem hjs,Array.getElem?_eq_getElem XV]at e1;have e2:=Option.some.inj e1;constructor
  .show w.cell? ⟨pl.B,0+j,none⟩=some (Sort.flatK enc k ys.toArray)[j]
   rw[e2,Nat.zero_add];simp[World.cell?,hC,show j<C.size by omega]
  .simp[World.frozen?,hC]
 have hdom:=hr.dom b pl hp;have hd:=law pl.B c ys.toArray w hH hdom.2 (by rw[show ys.toArray.size=L.length by simpa using hyl];omega);rw[show ys.toArray.size=L.length by simpa using hyl]at hd;refine⟨enters _ _,hd.mono ?_⟩;rintro e w' ⟨rfl,d',n,os,aeG,hsort,rfl⟩;obtain⟨hsz,_,wR⟩:=aeG;have hdl:d'.size=L.length:=by rw[hsz];simpa using hyl
 have wR:d'.toList.Perm ys:=by
  have e1:d'.extract 0 L.length=d':=by rw[<-hdl];simp
  have e2:ys.toArray.extract 0 L.length=ys.toArray:=by rw[<-hyl];simp
  rw[e1,e2]at wR;simpa using wR
 obtain⟨D,hD,hRD⟩:=F2.Uj wR hR;have Uk:=hD.length_eq;have hpw:D.Pairwise (λx y=>lt (kA y) (kA x)=false):=by
  rw[List.pairwise_iff_getElem];intro i j hi hj hij;obtain⟨y1,q1,r1⟩:=hRD.get i _ (List.getElem?_eq_getElem hi);obtain⟨y2,q2,r2⟩:=hRD.get j _ (List.getElem?_eq_getElem hj);have:=hsort i j (Nat.zero_le _) hij XV;rw[Array.getElem?_toList]at q1 q2;obtain⟨s1,rfl⟩:=Array.getElem?_eq_some_iff.1 q1;obtain⟨s2,rfl⟩:=Array.getElem?_eq_some_iff.1 q2;rw[getElem!_pos _ i s1,getElem!_pos _ j s2]at this;rw[r1.2,r2.2];exact this
 obtain⟨w1,hw1⟩:∃w1,w1=putRowK enc k (Sort.ahead w n) pl.B 0 d':=⟨_,rfl⟩
 have hfd:(Sort.flatK enc k d').toList=d'.toList.flatMap enc:=by
  have:=zI k0 hk d'.toList;simpa using this
 have hheap:w1.heap=w.heap.modify pl.B (onCells (putCells id 0 (Sort.flatK enc k d'))):=by rw[hw1];rfl
 have hB:w1.heap[pl.B]? = some (.cells (putCells id 0 (Sort.flatK enc k d') C) ty (0,0)):=by
  rw[hheap,Array.getElem?_modify,if_pos rfl,hC];rfl
 have Cq:∀q,q≠pl.B->w1.heap[q]? = w.heap[q]?:=by
  intro q hq;rw[hheap,Array.getElem?_modify,if_neg (λe=>hq e.symm)]
 have Q3:=bg hA D;have ho:OR P φ (ai (D.flatMap dh) ty op) pl w1.heap[pl.B]?:=by
  rw[hB];refine⟨rfl,rfl,?_,?_,?_,?_⟩
  .rw[Q3,Uk];simpa[putCells]using Ap
  .rw[Q3,Uk];exact hn2
  .intro ho;obtain⟨a1,a2,a3⟩:=hop ho;exact⟨by simpa[putCells]using a1,a2,a3⟩
  .intro i v hv hi;rw[oq]at hv;rw[Q3,Uk]at hi;have hFD:F2 (VR φ) (D.flatMap dh) (d'.toList.flatMap enc):=F2.flat (hRD.imp λa b r=>r.1);obtain⟨v',e1,e2⟩:=hFD.get i v hv;refine⟨v',?_,e2⟩;rw[<-hfd,Array.getElem?_toList]at e1;obtain⟨hs,e3⟩:=Array.getElem?_eq_some_iff.1 e1;have hiC:i<C.size:=by omega
   have hs':i<d'.size*k:=by simpa using hs
   unfold putCells;rw[Array.getElem?_mapIdx,Array.getElem?_eq_getElem hiC];simp only[Option.map_some,Nat.zero_le,true_and,Nat.zero_add,Nat.sub_zero];rw[if_pos hs,getElem!_pos _ i hs,e3];rfl
 have hts:=hr.wS (w':=w1) hlo hp ⟨_,hb,trivial⟩ (by rw[hheap];simp) Cq ho (by rw[hw1];rfl) (by rw[hw1];rfl) (by rw[hw1];rfl) (.inl trivial) (by rw[hw1];exact Nat.le_add_right _ _);refine⟨φ,.tuple #[],.tuple #[],_,rfl,hκ D hD hpw,VR.tuple' .nil,?_,?_⟩
 .show HR P φ _ (grow (putRowK enc k (Sort.ahead w n) pl.B 0 d') os)
  rw[<-hw1];exact hts.1.grown os
 .show Ext φ φ h _ w (grow (putRowK enc k (Sort.ahead w n) pl.B 0 d') os)
  rw[<-hw1];exact hts.2.grown os
theorem Dj{f g:FuncId}{k:Nat}(k0:0<k){enc:α->List Value}{dh:β->List Value}(hk:∀x,(enc x).length=k)(hA:∀x,(dh x).length=k){kA:β->κt}{kC:α->κt}{lt:κt->κt->Bool}(CJ:∀(φ:ej)(x:β)(cs:List Value),F2 (VR φ) (dh x) cs->∃y:α,cs=enc y/\kA x=kC y)(enters:∀args w,(callFunc f args).run P w=.ok (.enter f args) w)(law:∀(blk cap:Nat)(d:Array α)(w:World),HoldsK enc k w blk 0 d->blk<w.heap.size->d.size<4611686018427387904->
   Calls P f #[.slice (some ⟨blk,0,none⟩) d.size cap,.func (.func g) #[] #[]] w λe w'=>e=.returned (.tuple #[])/\∃d' n os,PermIn 0 d.size d d'/\SortedIn (λx y=>lt (kC x) (kC y)) 0 d.size d'/\w'=Go.Proofs.sortWorldK enc k w blk 0 n d' os){h:ah}{b:Nat}{L:List β}{ty:TypeId}{op:Bool}(hb:h.bl.get b=some (ai (L.flatMap dh) ty op))(hlo:h.lo<=b)(Is:L.length<=1000000){Y:KQ}(hκ:∀D:List β,D.Perm L->D.Pairwise (λx y=>lt (kA y) (kA x)=false)->Y (.tuple #[]) ⟨h.nx,h.bl.bx b (ai (D.flatMap dh) ty op),h.lo⟩):aj P f [.slice (some ⟨b,0,none⟩) L.length aS,.func (.func g) #[] #[]] h Y:=
 zJ k0 hk hA CJ enters law hb hlo (Nat.le_trans Is X0) hκ
theorem r_{f g:FuncId}(enters:∀args w,(callFunc f args).run P w=.ok (.enter f args) w)(law:∀(p:Option Addr)(cap:Nat)(fv:Value)(w:World),Calls P f #[.slice p 0 cap,fv] w λe w'=>e=.returned (.tuple #[])/\w'=w){h:ah}{v:Value}(hv:v=.slice none 0 0\/∃b o,v=.slice (some ⟨b,o,none⟩) 0 0){Y:KQ}(hκ:Y (.tuple #[]) h):aj P f [v,.func (.func g) #[] #[]] h Y:=by
 intro φ w args' ha hr;cases ha with|@cons _ v1 _ m1 hs ha=>
 cases ha with|@cons _ v2 _ m2 hf ha=>
 cases ha;obtain⟨p,cap,e1⟩:∃p cap,v1=.slice p 0 cap:=by
  rcases hv with rfl|⟨b,o,rfl⟩
  .cases hs with
   |f_ h=>exact⟨_,_,rfl⟩
  .cases hs with
   |slice h1 h2 h3=>exact⟨_,_,rfl⟩
 subst e1;refine⟨enters _ _,(law p cap v2 w).mono ?_⟩;rintro e w' ⟨rfl,rfl⟩;exact⟨φ,.tuple #[],.tuple #[],h,rfl,hκ,VR.tuple' .nil,hr,Ext.refl _ _ _⟩
theorem mF(Ip:x7 P=true){f:FuncId}{args args':List Value}{v:Value}(hc:aj P f args ⟨0,.nil,0⟩ λu _=>u=v)(ha:F2 (VR λ_=>none) args args')(hv:n_ v=true)(W:World):Calls P f args'.toArray W λe w'=>e=.returned v/\∃q os',w'=grow (W.drewN q) os':=by
 refine Calls.mono (hc _ W args' ha (HR.start (pn.Kk Ip))).2 ?_;rintro e w' ⟨φ',v1,v',h',rfl,g1,g2,g3,g4⟩;have e1:v1=v:=g1;subst e1;refine⟨by rw[pE hv g2],w'.drawn-W.drawn,w'.heap.extract W.heap.size w'.heap.size,?_⟩;have hd:=g4.dr;have hs:=g4.size;have hfr:∀B,B<W.heap.size->w'.heap[B]? = W.heap[B]?:=λB hB=>g4.Cg B hB λb pl e=>by cases e
 have hheap:w'.heap=W.heap++w'.heap.extract W.heap.size w'.heap.size:=by
  refine Array.ext_getElem? λi=>?_;by_cases hi:i<W.heap.size
  .rw[Array.getElem?_append_left hi,hfr i hi]
  .rw[Array.getElem?_append_right XV,Array.getElem?_extract];by_cases hi2:i<w'.heap.size
   .rw[if_pos XV];congr 1;omega
   .rw[if_neg XV,Array.getElem?_eq_none XV]
 have ht:=g4.tape;have ho:=g4.os;have hu:=g4.output;obtain⟨a1,a2,a3,a4,a5⟩:=w';obtain⟨b1,b2,b3,b4,b5⟩:=W;simp only[grow,World.drewN]at *
 rw[World.mk.injEq];exact⟨hheap,ht,XV,ho,hu⟩
end
end Go.Vai

namespace Go.Proofs
open Go.Vai Go.Clashes
open Tryz (prog)
def aeI:Nat->Int|0=>0|1=>1|2=>2|3=>2|4=>3|5=>3|6=>3|7=>3|_=>4
theorem aaC:∀n,n<13->bW prog 40 167 [.int .u64 (n:Nat)] (X1 (aeI n))=true:=by
 intro n hn;have:(List.range 13).all (λn=>bW prog 40 167 [.int .u64 ((n:Nat):Int)] (X1 (aeI n)))=true:=by kernel_rfl
 exact List.all_eq_true.1 this n (List.mem_range.2 hn)
theorem aeJ(v fv:Value)(n:Nat)(hn:n<=12)(lim:Int)(h:ah)(Y:KQ)(hk:aj prog 281 [v,X1 0,X1 (n:Int),fv] h λ_ h'=>Y (.tuple ⟨[]⟩) h'):aj prog 205 [v,X1 0,X1 (n:Int),X1 lim,fv] h Y:=by
 apply X2;rw[YG];refine⟨λm l h1=>aa l 127=X1 0/\aa l 140=X1 (n:Int)/\HQ h h1,⟨0,rfl,rfl,rfl⟩,?_⟩;rintro m l h1 ⟨s1,s2,hq⟩;cases(show h=h1 from hq);simp(disch:=try exact QQ)only[Wz,Fx,s1,s2];exact hk
theorem Q4(v fv:Value)(h:ah)(Y:KQ)(hk:Y (.tuple ⟨[]⟩) h):aj prog 281 [v,X1 0,X1 0,fv] h Y:=by
 apply X2;rw[Y3];simp(disch:=try exact QQ)only[Wz];refine⟨λn l h1=>aa l 42=X1 1/\HQ h h1,⟨0,rfl,rfl⟩,?_⟩;rintro n l h1 ⟨s1,hq⟩;cases(show h=h1 from hq);simp(disch:=try exact QQ)only[Wz,s1];exact hk
section
variable {β:Type}{fl:β}
theorem Q5(n:Int)(h:ah)(Y:XW β)(hn:0<=n/\n<=18446744073709551615):lU fl .u64 (X1 n) h Y=Y (.int .u64 n) h:=by
 unfold lU;simp only[gI,ef];rw[IntWalk.u64_in _ hn]
end
theorem Q7(b:Nat):(Value.cells (.map (some b))).toList=[.map (some b)]:=id rfl
def Ix(x y:Int × Int):Int:=ry x.1 x.2 y.1 y.2
theorem Dk(x y:Int × Int):ltOf Ix x y=true<->rA x y:=by
 show decide (ry x.1 x.2 y.1 y.2<0)=true<->_
 rw[decide_eq_true_eq,Hj]
theorem LV{x y:Int × Int}:ltOf Ix x y=false<->¬rA x y:=by
 rw[<-Dk,Bool.not_eq_true]
theorem Q8:Sort.SWO (ltOf Ix) where
 irrefl x:=LV.2 (by unfold rA;omega)
 trans x y z h1 h2:=(Dk _ _).2 (M9 ((Dk _ _).1 h1) ((Dk _ _).1 h2))
 ntrans x y z h1 h2:=by
  rw[LV]at *
  unfold rA at *
  omega
theorem Q9(blk size:Nat)(w:World):Go.Proofs.CmpLays prog 96 #[] bV 2 Ix blk 0 size w:=by
 intro m os dk _ x y;exact mF noSideHere (args:=[iF x.1 x.2,iF y.1 y.2]) (args':=[iF x.1 x.2,iF y.1 y.2]) (rz x.1 x.2 y.1 y.2 rfl)
  (.cons (VR.qC (.cons (.int _ _) (.cons (.int _ _) .nil))) (.cons (VR.qC (.cons (.int _ _) (.cons (.int _ _) .nil))) .nil)) rfl _
theorem JC(blk cap:Nat)(d:Array (Int × Int))(w:World)(hH:Sort.HoldsK bV 2 w blk 0 d)(hblk:blk<w.heap.size)(hsz:d.size<4611686018427387904):Calls prog 150 #[X9 blk d.size cap,.func (.func 96) #[] #[]] w λe w'=>e=.returned (.tuple #[])/\∃d' n os,Sort.PermIn 0 d.size d d'/\Sort.SortedIn (λx y=>ltOf Ix x y) 0 d.size d'/\w'=Go.Proofs.sortWorldK bV 2 w blk 0 n d' os:=by
 have eg:∀args w,(callFunc 96 args).run prog w=.ok (.enter 96 args) w:=enters_of Tryz.func96 (by kernel_rfl) rfl;exact Go.Proofs.AnyQ.slices_SortFunc Tryz.aaA 2 Tryz.isAgg28 Tryz.sizeOf28 bV (λ_=>rfl) (λx v hv=>by simp[bV]at hv;rcases hv with rfl|rfl<;>rfl) Ix Q8 96 #[] blk 0 cap d w eg (Q9 blk d.size w) hH hblk hsz
theorem JD:∀args w,(callFunc 150 args).run prog w=.ok (.enter 150 args) w:=enters_of Tryz.func150 (by kernel_rfl) rfl
theorem aeK(φ:ej)(x:Int × Int)(cs:List Value)(h:F2 (VR φ) (bV x) cs):∃y:Int × Int,cs=bV y/\x=y:=by
 unfold bV at h;cases h with|cons h1 h=>
 cases h with|cons h2 h=>
 cases h;cases h1;cases h2;exact⟨x,rfl,rfl⟩
theorem Ul(a h:ah)(L:List (Int × Int))(v:Value)(Y:KQ)(ho:zG a h v L)(hle:Le a h)(hlo:h.lo<=h.nx)(hl:L.length<=1000000)(hd:L.Nodup)(hk:∀(D:List (Int × Int)) h',D.Perm L->D.Pairwise rA->zG a h' v D->Le a h'->Y (.tuple ⟨[]⟩) h'):aj prog 150 [v,.func (.func 96) #[] #[]] h Y:=by
 rcases ho with⟨rfl,hv⟩|⟨b,hv,h1,h2,h3,h4⟩
 .obtain⟨x,c,rfl,_⟩:=(show Sl bV h v []from(show zG a h v []from .inl ⟨rfl,hv⟩).sl)
  apply X2;rw[Ym];simp(disch:=try exact QQ)only[Wz,Q5];refine xx mixed (aaC 0 XV) ?_;refine aeJ _ _ 0 XV _ h _ ?_;refine Q4 _ _ h _ ?_;exact hk [] h (List.Perm.refl _) List.Pairwise.nil (.inl ⟨rfl,hv⟩) hle
 ·cases hv;refine Dj X0 (enc:=bV) (dh:=bV) dA dA (kA:=id) (kC:=id) (lt:=λx y=>ltOf Ix x y) aeK JD JC h4 h3 hl ?_;intro D hp hs;have hs2:D.Pairwise rA:=by
   have hnd:D.Nodup:=(hp.nodup_iff).2 hd;refine(hnd.and hs).imp ?_;rintro x y ⟨hne,hlt⟩;exact LU (λe=>hne e.symm) (LV.1 hlt)
  refine hk D _ hp hs2 (.inr ⟨b,by rw[hp.length_eq],h1,h2,h3,T.an _ _ _⟩) ⟨hle.nx,hle.lo,λc hc=>?_⟩;exact(T.au _ _ XV).trans (hle.get c hc)
theorem Um{h:ah}{bb bm bp bl most:Nat}{M:List HE}{clock:Nat}{F:List Int}{B:List Bool}(s:bu h bb bm bp bl most M clock F B)(hlo:h.lo<=h.nx)(hM:M.length<=1000)(Y:KQ)(hk:∀v h' (D:List (Int × Int)),D.Perm (M.map dR)->D.Pairwise rA->zG h h' v D->Le h h'->Y v h'):aj prog 164 [X3 bb] h Y:=by
 apply X2;rw[Yw];have gb:=s.iC;simp(disch:=try exact QQ)only[Wz,aL,gb];apply X2;rw[YQ];simp(disch:=try exact QQ)only[Wz,Q7];obtain⟨hA,bH,aY,gc,ia,ic⟩:=oR h (ai [.map (some bm)] 265 false);rw[<-bH];clear bH;have sA:=s.le aY;apply X2;rw[ady];apply X2;rw[Yl];have hlm:=s.r7;refine Hi M clock bm h.nx hA s.ok sA.gf XV gc XV XV XV _ ?_;intro v h2 L hp ho bK;have n2:=bK.nx;have l2:=bK.lo;have hnd:(L.map dR).Nodup:=by
  refine((hp.map dR).nodup_iff).2 ?_;rw[List.Nodup,List.pairwise_map];exact s.ok.nm.imp λhn e=>hn ⟨congrArg Prod.fst e,congrArg Prod.snd e⟩
 have hll:=hp.length_eq;refine Ul hA h2 (L.map dR) v _ ho bK XV (by rw[List.length_map];omega) hnd ?_;intro D h3 hpD hs rR d_;exact hk v h3 D (hpD.trans (hp.map dR)) hs (eG.base rR XV) (aY.trans d_)
theorem Na{β:Type}{fl:β}{M:List HE}{clock:Nat}{h:ah}{bm:Nat}(o:iB M clock)(g:h.bl.get bm=some (.map (M.map mz) clock)){e:HE}(he:e∈M)(Y:XW β):ct fl prog 28 (.pointer none) false (.map (some bm)) (iF e.t e.r) h Y=Y (X3 e.hb) h:=by
 unfold ct jF;rw[QE];simp only[g];rcases G5 h e.t e.r M 0 with⟨g1,g2⟩|⟨j,e',g1,g2,g3,g4⟩
 .exact absurd ⟨rfl,rfl⟩ (g2 e he)
 .rw[g1];rw[o.uniq he (List.mem_of_getElem? g2) g3 g4];rfl
def slV(v:Value):Value:=match v with | .slice a n c=>.slice a n c|_=>.slice none 0 0
def oM(e:HE):List Value:=[X1 e.t,X1 e.r,slV e.q,X1 e.w]
theorem uD(e:HE):(oM e).length=4:=rfl
theorem Hr(e:HE):(oM e).all eO=true:=by
 unfold oM slV;split<;>rfl
theorem zK{h:ah}{q:Value}{Q:List R5}(hq:Sl bA h q Q):slV q=q:=by
 obtain⟨x,c,rfl,_⟩:=hq;rfl
abbrev Q_(a h:ah)(v:Value)(K:List HE):Prop:=eG oM a 55 h v K
def BT(a b:HE):Prop:=a.t=b.t/\a.r=b.r/\a.w=b.w/\a.Q=b.Q
theorem Nb{h:ah}{bb bm bp bl most:Nat}{M:List HE}{clock:Nat}{F:List Int}{B:List Bool}(s:bu h bb bm bp bl most M clock F B)(hlo:h.lo<=h.nx)(hM:M.length<=1000)(Y:KQ)(hk:∀v h' (K:List HE),K.length=M.length->(K.map dR).Perm (M.map dR)->(K.map dR).Pairwise rA->(∀k∈K,(∃e∈M,BT k e)/\QV h' k.q k.Q)->Q_ h h' v K->Le h h'->Y v h'):aj prog 109 [X3 bb] h Y:=by
 apply X2;rw[Yb];simp(disch:=try exact QQ)only[Wz,gT,Fc];refine Um s hlo hM _ ?_;intro v1 h1 D hp hs ho1 bF;have hlD:D.length=M.length:=by rw[hp.length_eq,List.length_map]
 obtain⟨x1,c1,rfl,_⟩:=(show Sl bV h1 v1 D from ho1.sl)
 have n1:=bF.nx;have l1:=bF.lo;simp(disch:=try exact QQ)only[Wz];refine⟨λm l h2=>∃(i:Nat)(K:List HE),aa l 23=X1 (i:Int)/\m=D.length-i/\i<=D.length/\K.map dR=D.take i/\(∀k∈K,(∃e∈M,BT k e)/\QV h2 k.q k.Q)/\Q_ h1 h2 (aa l 21) K/\Le h1 h2,
  ⟨_,0,[],rfl,rfl,XV,by simp,λk hk=>(nomatch hk),.inl ⟨rfl,.inl rfl⟩,Le.refl _⟩,?_⟩
 rintro m l h2 ⟨i,K,s1,rfl,hi,hK,hQ,hoK,bK⟩;have n2:=bK.nx;have l2:=bK.lo;have G0:K.length=i:=by have:=congrArg List.length hK;simp at this;omega
 by_cases hst:i<D.length
 .obtain⟨p,hpi⟩:∃p,D[i]? = some p:=⟨_,List.getElem?_eq_getElem hst⟩
  have hpD:p∈M.map dR:=hp.mem_iff.1 (List.mem_of_getElem? hpi);obtain⟨e,he,rfl⟩:=List.mem_map.1 hpD;have s2:=s.le (bF.trans bK);have gb:=s2.iC;have gm:=s2.gf;have apd:=s2.Of;have H:=s2.bf e he;have hlt:=H.lt;have hgd:=s2.good e he;obtain⟨qx,qc,eq,_⟩:=(show Sl bA h2 e.q e.Q from H.qv.1)
  have gh:=H.get;rw[eq]at gh;obtain⟨b1,o1,Ec,zH,_,S6⟩:=(ho1.sl.le bK).ld dA i hpi;have r1:=λ(β:Type)(fl:β) Y=>pG (fl:=fl) S6 2 Y rfl;have ajy:=s2.r7;have gmB:=(((Le.refl h2).new (ai [X1 e.t,X1 e.r] 28 false)).get _ ajy).trans gm;have eL:=Na (β:=Option Value) (fl:=none) s2.ok gmB he;unfold iF at eL;simp(disch:=try exact QQ)only[Wz,s1,dw (show(i:Int)<(D.length:Int)by omega),Fb,zH,r1,bV,dR,aL,gb,gh,eL];obtain⟨hB,ji,cC,gn,gd,A1,A2⟩:=DK h2 (ai [X1 e.t,X1 e.r] 28 false) (eV e.t e.r (.slice qx e.Q.length qc) e.w);rw[<-ji];clear ji;have hqB:Sl bA hB (.slice qx e.Q.length qc) e.Q:=by rw[<-eq];exact H.qv.1.le cC
  have Is:=hgd.small;refine GQ e.Q hB _ _ hqB XV XV ?_;intro q3 h3 rR d_;have n3:=d_.nx;have l3:=d_.lo;have gd:=(d_.get _ XV).trans gd;obtain⟨GV,GX,rfl,_⟩:=(show Sl bA h3 q3 e.Q from rR.sl)
  simp(disch:=try exact QQ)only[Wz,gd];obtain⟨h4,e4⟩:∃h4:ah,h4=⟨h3.nx+1,(h3.bl.bx (h2.nx+1) (eV e.t e.r (.slice GV e.Q.length GX) e.w)).bx h3.nx (eV e.t e.r (.slice GV e.Q.length GX) e.w),h3.lo⟩:=⟨_,rfl⟩
  have mE:Le h2 h4:=by rw[e4];exact((cC.trans d_).set (b:=h2.nx+1) XV _).new _
  have g4:h4.bl.get h3.nx=some (ai ([(⟨e.t,e.r,0,0,.slice GV e.Q.length GX,e.w,e.Q⟩:HE)].flatMap oM) 55 false):=by rw[e4];exact T.an _ _ _
  have n4:h4.nx=h3.nx+1:=by rw[e4]
  have l4:h4.lo=h3.lo:=by rw[e4]
  have hq4:QV h4 (.slice GV e.Q.length GX) e.Q:=by
   rw[e4];exact((QV.own rR).put (λvs op=>by rw[gd];exact bz X0) _).le ((Le.refl _).new _)
  try rw[<-e4]
  clear e4;refine eN (enc:=oM) (a:=h1) (L:=K) (M:=[(⟨e.t,e.r,0,0,.slice GV e.Q.length GX,e.w,e.Q⟩:HE)]) uD Hr X0 X0 (hoK.le mE) (Sl.new XV g4 _) (bK.trans mE) (by simp;omega) XV _ ?_;intro v5 h5 A0 lI _ n5 l5 uE;have M4:∀c vs op,c<h4.nx->h4.bl.get c=some (ai vs 57 op)->h5.bl.get c=h4.bl.get c:=λc vs op hc hg=>uE c hc (by rw[hg];exact bz X0);refine⟨_,XV,i+1,K++[⟨e.t,e.r,0,0,.slice GV e.Q.length GX,e.w,e.Q⟩],by simp,rfl,XV,?_,?_,A0,?_⟩
  .rw[List.map_append,hK,List.take_add_one,hpi];rfl
  .intro k hk';rcases List.mem_append.1 hk' with hk'|hk'
   .exact⟨(hQ k hk').1,((hQ k hk').2.le mE).frame n5 M4⟩
   .rw[List.mem_singleton]at hk';subst hk';exact⟨⟨e,he,rfl,rfl,rfl,rfl⟩,hq4.frame n5 M4⟩
  .exact lI
 .simp(disch:=try exact QQ)only[Wz,s1,b_ (show(D.length:Int)<=(i:Int)by omega)];have hiD:i=D.length:=by omega
  subst hiD;rw[List.take_length]at hK;exact hk _ h2 K XV (hK▸hp) (hK▸hs) hQ (eG.base hoK XV) (bF.trans bK)
theorem iD.sub{M M':List HE}{t r w:Int}{Q:List R5}(s:iD M M' t r w Q):∀x∈M',x∈M\/(x.t=t/\x.r=r/\x.w=w/\x.Q=Q):=by
 intro x hx;by_cases h0:Q=[]
 .rw[s.gone h0]at hx;exact .inl (List.mem_filter.1 hx).1
 .obtain⟨e,h1,h2,h3,h4,hp⟩:=s.put h0;rcases List.mem_append.1 (hp.mem_iff.1 hx)with hx|hx
  .exact .inl (List.mem_filter.1 hx).1
  .rw[List.mem_singleton]at hx;subst hx;exact .inr ⟨h1,h2,h3,h4⟩
theorem iD.len{M M':List HE}{t r w:Int}{Q:List R5}(s:iD M M' t r w Q):M'.length<=(M.filter λx=>!uB t r x).length+1:=by
 by_cases h0:Q=[]
 .rw[s.gone h0];omega
 .obtain⟨e,_,_,_,_,hp⟩:=s.put h0;rw[hp.length_eq];simp
theorem iD.wb{M M':List HE}{t r w:Int}{Q:List R5}{N:Nat}(s:iD M M' t r w Q)(hw:∀e∈M,e.w<=N)(h:w<=N+1):∀e∈M',e.w<=(N+1:Nat):=by
 intro e he;rcases s.sub e he with h1|⟨_,_,h1,_⟩
 .have:=hw e h1;omega
 .omega
theorem LW{M:List HE}{clock:Nat}(o:iB M clock){e:HE}(he:e∈M):(M.filter λx=>!uB e.t e.r x).length+1=M.length:=by
 have:=(r9 o he).length_eq;rw[this];simp
theorem aaE(Q:List R5)(W id x m:Int):(kS Q W id x m).2.1<=W+1:=by unfold kS;split<;>simp<;>omega
theorem aaF(Q:List R5)(W:Int)(r:R5)(m:Int):(jg Q W r m).2.1<=W+1:=by unfold jg;split<;>simp<;>omega
theorem Un(Q:List R5)(W:Int)(r:R5)(m:Int):(jg Q W r m).1.id=r.id:=by unfold jg;split<;>rfl
theorem pL{Q:List R5}{i:Nat}{p p':R5}(hi:Q[i]? = some p)(h:p'.id=p.id):(Q.set i p').map (·.id)=Q.map (·.id):=by
 obtain⟨hl,rfl⟩:=List.getElem?_eq_some_iff.1 hi;rw[List.map_set,h];refine List.ext_getElem? λk=>?_;rw[List.getElem?_set];split
 .rename_i e;subst e;simp[hl]
 .rfl
section
variable {h h':ah}{bb bm bp bl most cap N:Nat}{M M':List HE}{clock clock':Nat}{F F':List Int}{B B':List Bool}
theorem JE{Q:List R5}{W:Int}(v:VQ Q W){p:R5}{id:Int}(hf:bU Q id=some p):(Q.map (·.id)).Perm ((Q.filter λr=>!bE id r).map (·.id)++[id]):=by
 obtain⟨hp,rfl⟩:=dQ hf;have hnd:(Q.map (·.id)).Nodup:=by
  rw[List.Nodup,List.pairwise_map];exact v.pair.imp λhb=>hb.id
 have ajA:((Q.filter λr=>!bE p.id r).map (·.id)).Nodup:=hnd.sublist (List.filter_sublist.map _);refine(List.perm_ext_iff_of_nodup hnd (zB ajA λhm=>?_)).2 λx=>?_
 .obtain⟨q,hq,e⟩:=List.mem_map.1 hm;have:=(List.mem_filter.1 hq).2;simp[bE,e]at this
 .rw[List.mem_append,List.mem_singleton,List.mem_map,List.mem_map];constructor
  .rintro⟨q,hq,rfl⟩;by_cases hqp:q.id=p.id
   .exact .inr hqp
   .exact .inl ⟨q,List.mem_filter.2 ⟨hq,by simp[bE,hqp]⟩,rfl⟩
  .rintro(⟨q,hq,rfl⟩|rfl)
   .exact⟨q,(List.mem_filter.1 hq).1,rfl⟩
   .exact⟨p,hp,rfl⟩
end
theorem Ra(b:Nat)(n:Int)(p:Addr)(Y:List Value->Prop):bM False [(2,1)] [.map (some b)] [X1 n,.pointer (some p),.map none] Y=Y [X1 n,.pointer (some p),.map (some b)]:=by kernel_rfl
theorem Hs(bf:Nat)(bp:Nat)(h:ah)(Y:KQ)(hh:1<=bf/\bf<=64)(hlo:h.lo<=h.nx)(hk:∀h',Le h h'->h'.nx=h.nx+2->h'.bl.get h.nx=some (.map [] 0)->h'.bl.get (h.nx+1)=some (ai [X1 (bf:Int),X3 bp,.map (some h.nx)] 267 false)->Y (.tuple ⟨[.pointer (some ⟨h.nx+1,0,none⟩),X1 0]⟩) h'):aj prog 153 [X1 (bf:Int),X3 bp] h Y:=by
 apply X2;rw[P5];simp(disch:=try exact QQ)only[Wz,b_ (show(1:Int)<=(bf:Int)by omega),b_ (show(bf:Int)<=64 by omega),xE,eY,Ra];exact hk _ (((Le.refl h).new _).new _) rfl ((T.au _ _ XV).trans (T.an _ _ _)) (T.an _ _ _)
def nu(n m:Int):Int:=if m<1 then 0 else if Int.tmod n m<0 then Int.tmod n m+m else Int.tmod n m
theorem nv{n m:Int}(h:0<m):0<=nu n m/\nu n m<m:=by
 unfold nu;rw[if_neg XV];have h2:=Int.tmod_lt_of_pos n h;have h3:=Int.lt_tmod_of_pos n h;split<;>omega
theorem Dl(n m:Int)(hm:m<=9223372036854775807){h:ah}{Y:KQ}(hk:Y (X1 (nu n m)) h):aj prog 9 [X1 n,X1 m] h Y:=by
 refine iX (v:=X1 (nu n m)) rfl rfl (ay mixed ?_) hk;rw[ahL];by_cases h1:m<1
 .simp(disch:=try exact QQ)only[Wz];simp[nu,h1]
 .have h2:=Int.tmod_lt_of_pos n (show 0<m by omega);have h3:=Int.lt_tmod_of_pos n (show 0<m by omega);simp(disch:=try exact QQ)only[Wz,PR,Tm _ _ _ _ _ m _ _ XV];refine⟨λl h'=>aa l 5=X1 (nu n m),?_,λl h' hs=>hs⟩;by_cases h4:Int.tmod n m<0
  .simp(disch:=try exact QQ)only[Wz];simp[nu,h1,h4]
  .simp(disch:=try exact QQ)only[Wz];simp[nu,h1,h4]
structure Act where
 k:Int
 t:Int
 r:Int
 id:Int
 x:Int
 m:Int
def dh(a:Act):List Value:=[X1 a.k,X1 a.t,X1 a.r,X1 a.id,X1 a.x,X1 a.m]
theorem LX{β:Type}{fl:β}(cn:Bool)(a b c d:Int)(h:ah)(Y:XW β):aG fl prog .neq 28 cn false (.agg ⟨[X1 a,X1 b]⟩) (.agg ⟨[X1 c,X1 d]⟩) h Y=Y (.bool (!decide (a=c/\b=d))) h:=by
 have:=eqN h a b c d;unfold iF at this;simp only[aG,this,cF]
theorem Dm{β:Type}{fl:β}(cn:Bool)(a b c d:Int)(h:ah)(Y:XW β):aG fl prog .eql 28 cn false (.agg ⟨[X1 a,X1 b]⟩) (.agg ⟨[X1 c,X1 d]⟩) h Y=Y (.bool (decide (a=c/\b=d))) h:=by
 have:=eqN h a b c d;unfold iF at this;simp only[aG,this,cF]
end Go.Proofs

namespace Go.Vai
open Go
section
variable {β:Type}{fl:β}
theorem xG(P:Program)(t:TypeId)(cn gd:Bool)(a b:ByteArray)(h:ah)(Y:XW β)(hs:a.size+b.size<=9223372036854775807):aG fl P .add t cn gd (.string a) (.string b) h Y=Y (.string (a++b)) h:=by
 have e:Nat.ble (Nat.add a.size b.size) 9223372036854775807=true:=Nat.ble_eq_true_of_le hs;simp only[aG];rw[e]
theorem Nc(P:Program)(t:TypeId)(cn gd:Bool)(a b:Int)(h:ah)(Y:XW β):aG fl P .xor t cn gd (.int .u32 a) (.int .u32 b) h Y=Y (.int .u32 (IntKind.u32.wrap ((BitVec.ofInt IntKind.u32.bits a ^^^ BitVec.ofInt IntKind.u32.bits b).toNat))) h:=by
 simp only[aG,fU,lQ,gI,ef]
theorem Nd(P:Program)(t:TypeId)(cn gd:Bool)(a b:Int)(h:ah)(Y:XW β):aG fl P .mul t cn gd (.int .u32 a) (.int .u32 b) h Y=Y (.int .u32 (IntKind.u32.wrap (a*b))) h:=by
 simp only[aG,fU,lQ,gI,ef];rfl
theorem Nf(P:Program)(t:TypeId)(cn gd:Bool)(a b:Int)(h:ah)(Y:XW β)(hb:b≠0):aG fl P .rem t cn gd (.int .u32 a) (.int .u32 b) h Y=Y (.int .u32 (Int.tmod a b)) h:=by
 simp only[aG,fU,lQ,gI,fS,hb,decide_false]
theorem Ht(k:IntKind)(a:Int)(h:ah)(Y:XW β):lU fl .u32 (.int k a) h Y=Y (.int .u32 (IntKind.u32.wrap a)) h:=by simp only[lU,gI,ef]
theorem Dn(a:Int):0<=IntKind.u32.wrap a/\IntKind.u32.wrap a<4294967296:=by
 unfold IntKind.wrap;simp only[IntKind.bits,IntKind.signed];have h1:=Int.emod_nonneg a (show(2:Int) ^ 32≠0 by decide);have h2:=Int.emod_lt_of_pos a (show(0:Int)<2 ^ 32 by decide);simp at *
 omega
theorem Ng{a:Int}(h:0<=a/\a<4294967296):IntKind.u32.wrap a=a:=by
 unfold IntKind.wrap;simp only[IntKind.bits,IntKind.signed];have:=Int.emod_eq_of_lt h.1 (show a<2 ^ 32 by omega);simp at *
 omega
theorem Uo(s:ByteArray):je 8 (.string s) (.string s)=true:=by
 show lP s s=true
 rw[kE];simp
def zL(s:ByteArray):List Value:=s.data.toList.map λb:UInt8=>Value.int .u8 (Int.ofNat b.toNat)
theorem JF{s:ByteArray}{i:Nat}(h:i<s.data.toList.length):(zL s)[i]? = some (.int .u8 (Int.ofNat (s.data.toList[i]).toNat)):=by
 unfold zL;rw[List.getElem?_map,List.getElem?_eq_getElem h];rfl
theorem Hu(e:TypeId)(s:ByteArray)(h:ah)(Y:XW β)(hs:s.data.toList.length<=1000000000000):qu fl e (.string s) h Y=Y (.slice (some ⟨h.nx,0,none⟩) s.data.toList.length aS) ⟨h.nx+1,h.bl.bx h.nx (roO (zL s) e),h.lo⟩:=by
 unfold qu;simp only[Bj,xh,Nat.zero_add,List.length_map];rw[Nat.ble_eq_true_of_le hs];simp only[dJ];unfold roO zL;simp only[List.length_map]
end
end Go.Vai

namespace Go.Proofs
open Go.Vai Go.Clashes
open Tryz (prog)
def JG(n:Int):Bool:=decide (0<=n) && decide (n<100)
theorem uF(n:Int){h:ah}{Y:KQ}(hk:Y (.bool (JG n)) h):aj prog 203 [X1 n] h Y:=by
 refine iX (v:=.bool (JG n)) rfl rfl (ay mixed ?_) hk;rw[YF];by_cases h1:n<0
 .simp(disch:=try exact QQ)only[Wz,dw h1];simp[JG];omega
 .by_cases h2:n<100
  .simp(disch:=try exact QQ)only[Wz,b_ (show 0<=n by omega),dw h2];simp[JG];omega
  .simp(disch:=try exact QQ)only[Wz,b_ (show 0<=n by omega),b_ (show 100<=n by omega)];simp[JG];omega
theorem JH(h:ah)(Y:KQ)(hlo:h.lo<=h.nx)(hk:∀h',Le h h'->Y (iF (-1) (-1)) h'):aj prog 202 [] h Y:=by
 apply X2;rw[YE];simp(disch:=try exact QQ)only[Wz];exact hk _ ((Le.refl h).new _)
def dG(t r:Int):Int:=if t = -1/\r = -1 then 0 else if JG t=true/\r = -1 then 1 else if JG t=true/\JG r=true then 2 else -1
theorem Rb(t r:Int)(h:ah)(Y:KQ)(hlo:h.lo<=h.nx)(hk:∀h',Le h h'->Y (X1 (dG t r)) h'):aj prog 147 [iF t r] h Y:=by
 apply X2;rw[Yk];simp(disch:=try exact QQ)only[Wz,iF];obtain⟨hA,bH,aY,g1,ia,ic⟩:=oR h (ai [X1 t,X1 r] 28 false);rw[<-bH];clear bH;refine JH hA _ XV ?_;intro h2 bK;have Hv:=bK.nx;have Hw:=bK.lo;have g1:=(bK.get _ XV).trans g1;have hk:=hk h2 (aY.trans bK);simp(disch:=try exact QQ)only[Wz,iF,g1,pI,Dm];by_cases h0:t = -1/\r = -1
 .simp(disch:=try exact QQ)only[Wz,bq h0];have e:dG t r=0:=by simp[dG,h0]
  rw[e]at hk;exact hk
 .simp(disch:=try exact QQ)only[Wz,a_ h0,Fm,g1];refine uF t ?_;cases ht:JG t with
  |false=>
   simp(disch:=try exact QQ)only[Wz,yQ,g1];refine uF t ?_;rw[ht];have e:dG t r = -1:=by unfold dG;rw[if_neg h0,ht];simp
   rw[e]at hk;simp(disch:=try exact QQ)only[Wz];exact hk
  |true=>
   by_cases hr:r = -1
   .simp(disch:=try exact QQ)only[Wz,bq hr,g1];have e:dG t r=1:=by unfold dG;rw[if_neg h0,ht,hr];simp
    rw[e]at hk;exact hk
   .simp(disch:=try exact QQ)only[Wz,a_ hr,yQ,g1];refine uF t ?_;rw[ht];simp(disch:=try exact QQ)only[Wz,g1];refine uF r ?_;cases N_:JG r with
    |false=>
     have e:dG t r = -1:=by unfold dG;rw[if_neg h0,ht,N_];simp[hr]
     rw[e]at hk;simp(disch:=try exact QQ)only[Wz];exact hk
    |true=>
     have e:dG t r=2:=by unfold dG;rw[if_neg h0,ht,N_];simp[hr]
     rw[e]at hk;simp(disch:=try exact QQ)only[Wz];exact hk
theorem LY(t r:Int){h:ah}{Y:KQ}(hk:Y (X1 (dG t r)) h):aj prog 147 [iF t r] h Y:=
 iX (v:=X1 (dG t r)) rfl rfl (Rb t r yF _ (Nat.le_refl _) λ_ _=>rfl) hk
theorem Hx(t r:Int){h:ah}{Y:KQ}(hk:Y (X1 (if dG t r = -1 then 2 else 0)) h):aj prog 102 [iF t r] h Y:=by
 refine iX (v:=X1 (if dG t r = -1 then 2 else 0)) rfl rfl (ay mixed ?_) hk;rw[X6];simp(disch:=try exact QQ)only[Wz,iF];refine LY t r ?_;by_cases h:dG t r = -1
 .simp(disch:=try exact QQ)only[Wz,bq h];simp[h]
 .simp(disch:=try exact QQ)only[Wz,a_ h];simp[h]
def lu(n:Nat):ByteArray:=if n<10 then⟨#[UInt8.ofNat (48+n)]⟩else⟨#[UInt8.ofNat (48+n / 10),UInt8.ofNat (48+n % 10)]⟩
theorem aaG:∀n,n<100->bW prog 60 290 [X1 (n:Nat)] (.string (lu n))=true:=by
 intro n hn;have:(List.range 100).all (λn=>bW prog 60 290 [X1 ((n:Nat):Int)] (.string (lu n)))=true:=by kernel_rfl
 exact List.all_eq_true.1 this n (List.mem_range.2 hn)
theorem JI(n:Int)(hn:JG n=true){h:ah}{Y:KQ}(hk:Y (.string (lu n.toNat)) h):aj prog 290 [X1 n] h Y:=by
 have h1:0<=n/\n<100:=by simpa[JG]using hn
 obtain⟨k,rfl⟩:∃k:Nat,n=(k:Int):=⟨n.toNat,XV⟩
 rw[Int.toNat_natCast]at hk;exact xx mixed (aaG k XV) hk
def kP(t r:Int):ByteArray:=if dG t r=0 then⟨#[100,98]⟩else if dG t r=1 then(⟨#[116]⟩:ByteArray)++lu t.toNat else(⟨#[116]⟩:ByteArray)++lu t.toNat++(⟨#[46,114]⟩:ByteArray)++lu r.toNat
theorem sg(n:Nat):(lu n).size<=2:=by
 unfold lu;split<;>simp[ByteArray.size]
theorem Hy{t r:Int}(h:dG t r≠-1):dG t r=0\/(dG t r=1/\JG t=true)\/(dG t r=2/\JG t=true/\JG r=true):=by
 unfold dG at *
 split
 .exact .inl rfl
 .split
  .rename_i h1;exact .inr (.inl ⟨rfl,h1.1⟩)
  .split
   .rename_i h1;exact .inr (.inr ⟨rfl,h1⟩)
   .rename_i h1 h2 h3;rw[if_neg h1,if_neg h2,if_neg h3]at h;exact absurd rfl h
theorem aaH(t r:Int)(hl:dG t r≠-1){h:ah}{Y:KQ}(hk:Y (.string (kP t r)) h):aj prog 208 [iF t r] h Y:=by
 refine iX (v:=.string (kP t r)) rfl rfl (ay mixed ?_) hk;rw[YI];simp(disch:=try exact QQ)only[Wz,iF];refine LY t r ?_;have st:=sg t.toNat;have sr:=sg r.toNat;rcases Hy hl with e|⟨e,ht⟩|⟨e,ht,hr⟩
 .rw[e];simp(disch:=try exact QQ)only[Wz];simp[kP,e]
 .rw[e];simp(disch:=try exact QQ)only[Wz,yU];refine JI t ht ?_;rw[xG _ _ _ _ _ _ _ _ (by show 1+_<=_;omega)];simp[kP,e]
 .rw[e];simp(disch:=try exact QQ)only[Wz,yU,Fz];have e1:∀(β:Type)(fl:β)(cn gd:Bool)(h:ah)(Y:XW β),aG fl prog .add 9 cn gd (.string ⟨#[116]⟩) (.string (lu t.toNat)) h Y=Y (.string ((⟨#[116]⟩:ByteArray)++lu t.toNat)) h:=λβ fl cn gd h Y=>xG _ _ _ _ _ _ _ _ (by show 1+_<=_;omega);have e2:∀(β:Type)(fl:β)(cn gd:Bool)(h:ah)(Y:XW β),aG fl prog .add 9 cn gd (.string ((⟨#[116]⟩:ByteArray)++lu t.toNat)) (.string ⟨#[46,114]⟩) h Y=Y (.string ((⟨#[116]⟩:ByteArray)++lu t.toNat++(⟨#[46,114]⟩:ByteArray))) h:=λβ fl cn gd h Y=>xG _ _ _ _ _ _ _ _ (by rw[ByteArray.size_append];show 1+_+2<=_;omega);have e3:∀(β:Type)(fl:β)(cn gd:Bool)(h:ah)(Y:XW β),aG fl prog .add 9 cn gd (.string ((⟨#[116]⟩:ByteArray)++lu t.toNat++(⟨#[46,114]⟩:ByteArray))) (.string (lu r.toNat)) h Y=Y (.string ((⟨#[116]⟩:ByteArray)++lu t.toNat++(⟨#[46,114]⟩:ByteArray)++lu r.toNat)) h:=λβ fl cn gd h Y=>xG _ _ _ _ _ _ _ _ (by rw[ByteArray.size_append,ByteArray.size_append];show 1+_+2+_<=_;omega);refine JI t ht ?_;simp(disch:=try exact QQ)only[Wz,e1,e2];refine JI r hr ?_;simp(disch:=try exact QQ)only[Wz,e1,e2,e3,Uo];simp[kP,e]
def BU(a:Int)(b:UInt8):Int:=IntKind.u32.wrap (IntKind.u32.wrap ((BitVec.ofInt IntKind.u32.bits a ^^^ BitVec.ofInt IntKind.u32.bits (IntKind.u32.wrap (Int.ofNat b.toNat))).toNat)*16777619)
def zM(s:ByteArray):Int:=s.data.toList.foldl BU 2166136261
theorem Hz(a:Int)(b:UInt8):0<=BU a b/\BU a b<4294967296:=Dn _
theorem tC(s:ByteArray):0<=zM s/\zM s<4294967296:=by
 unfold zM;have:∀(l:List UInt8)(a:Int),(0<=a/\a<4294967296)->0<=l.foldl BU a/\l.foldl BU a<4294967296:=by
  intro l
  induction l with
  |nil=>exact λa h=>h
  |cons b l ih=>exact λa _=>ih _ (Hz a b)
 exact this _ _ X0
theorem aeL(s:ByteArray)(hs:s.data.toList.length<=1000){h:ah}{Y:KQ}(hk:Y (.int .u32 (zM s)) h):aj prog 207 [.string s] h Y:=by
 refine iX (v:=.int .u32 (zM s)) rfl rfl (ay mixed ?_) hk;rw[YH];rw[Hu _ _ _ _ XV];simp(disch:=try exact QQ)only[Wz];refine⟨λn l h1=>∃i:Nat,aa l 12=X1 (i:Int)/\aa l 10=.int .u32 ((s.data.toList.take i).foldl BU 2166136261)/\i<=s.data.toList.length/\n=s.data.toList.length-i/\HQ ⟨yF.nx+1,yF.bl.bx yF.nx (roO (zL s) 5),yF.lo⟩ h1,⟨_,0,rfl,rfl,Nat.zero_le _,rfl,rfl⟩,?_⟩;rintro n l h1 ⟨i,s1,s2,hi,rfl,hq⟩;cases(show _=h1 from hq);by_cases hlt:i<s.data.toList.length
 .have hg:=JF hlt;simp(disch:=try exact QQ)only[Wz,s1,dw (show(i:Int)<(s.data.toList.length:Int)by omega),Fy,aX,Nat.mul_one,hg,s2,Ht,Nc,Nd];refine⟨_,XV,i+1,rfl,?_,XV,rfl,rfl⟩;rw[List.take_add_one,List.getElem?_eq_getElem hlt];simp only[Option.toList_some,List.foldl_append,List.foldl_cons,List.foldl_nil];rfl
 .have hil:i=s.data.toList.length:=by omega
  simp(disch:=try exact QQ)only[Wz,s1,b_ (show(s.data.toList.length:Int)<=(i:Int)by omega),s2];rw[hil,List.take_length];rfl
theorem Rc(t r:Int):(kP t r).data.toList.length<=1000:=by
 have st:=sg t.toNat;have sr:=sg r.toNat;have:(kP t r).size<=1000:=by
  unfold kP;split
  .decide
  .split
   .rw[ByteArray.size_append];show 1+_<=_;omega
   .rw[ByteArray.size_append,ByteArray.size_append,ByteArray.size_append];show 1+_+2+_<=_;omega
 exact this
theorem aaI(t r:Int)(hl:dG t r≠-1){h:ah}{Y:KQ}(hk:Y (.int .u32 (zM (kP t r))) h):aj prog 155 [iF t r] h Y:=by
 refine iX (v:=.int .u32 (zM (kP t r))) rfl rfl (ay mixed ?_) hk;rw[Yo];simp(disch:=try exact QQ)only[Wz,iF];refine aaH t r hl ?_;refine aeL _ (Rc t r) ?_;rfl
def jT(t r s:Int):Int:=if s<1\/16<s\/dG t r = -1 then -1 else Int.tmod (zM (kP t r)) s
theorem zN{t r s:Int}(h:jT t r s≠-1):0<=jT t r s/\jT t r s<s/\dG t r≠-1:=by
 unfold jT at *
 by_cases hc:s<1\/16<s\/dG t r = -1
 .rw[if_pos hc]at h;exact absurd rfl h
 .rw[if_neg hc];have h1:=tC (kP t r);have h2:=Int.tmod_lt_of_pos (zM (kP t r)) (show 0<s by omega);have h3:=Int.tmod_nonneg s h1.1;exact⟨h3,h2,λe=>hc (.inr (.inr e))⟩
theorem aeM(s:Int){h:ah}{Y:KQ}(hk:Y (.bool (decide (1<=s) && decide (s<=16))) h):aj prog 154 [X1 s] h Y:=by
 refine iX (v:=.bool (decide (1<=s) && decide (s<=16))) rfl rfl (ay mixed ?_) hk;rw[Yn];by_cases h1:s<1
 .simp(disch:=try exact QQ)only[Wz,dw h1];simp;omega
 .by_cases h2:16<s
  .simp(disch:=try exact QQ)only[Wz,b_ (show 1<=s by omega),dw h2];simp;omega
  .simp(disch:=try exact QQ)only[Wz,b_ (show 1<=s by omega),b_ (show s<=16 by omega)];simp;omega
theorem Re(t r s:Int){h:ah}{Y:KQ}(hk:Y (X1 (jT t r s)) h):aj prog 104 [iF t r,X1 s] h Y:=by
 refine iX (v:=X1 (jT t r s)) rfl rfl (ay mixed ?_) hk;rw[X8];simp(disch:=try exact QQ)only[Wz,iF];refine aeM s ?_;by_cases h1:1<=s/\s<=16
 .simp(disch:=try exact QQ)only[Wz,bq h1.1,bq h1.2];refine Hx t r ?_;by_cases hl:dG t r = -1
  .rw[if_pos hl];simp(disch:=try exact QQ)only[Wz];simp[jT,hl]
  .rw[if_neg hl];simp(disch:=try exact QQ)only[Wz];refine aaI t r hl ?_;have hr:=tC (kP t r);have h2:=Int.tmod_lt_of_pos (zM (kP t r)) (show 0<s by omega);have h3:=Int.tmod_nonneg s hr.1;simp(disch:=try exact QQ)only[Wz,Ht,Ng,Nf];unfold jT;rw[if_neg XV]
 .have e:(decide (1<=s) && decide (s<=16))=false:=by simp;omega
  rw[e];simp(disch:=try exact QQ)only[Wz];unfold jT;rw[if_pos XV]
abbrev IE:=Int × Int × Nat
def si(e:IE):MapEntry:={ key:=X1 e.1,val:=X1 e.2.1,born:=e.2.2 }
def BV(W:List IE)(k:Int):Option Int:=(W.find? λe=>decide (k=e.1)).map λe=>e.2.1
theorem eqI(h:ah)(a b:Int):nH prog h 100 3 (X1 a) (X1 b)=some (decide (a=b)):=by
 have:nH prog h 100 3 (X1 a) (X1 b)=some (nY a b):=by kernel_rfl
 rw[this,fS]
theorem JJ(t:Int):kj prog 20 3 (X1 t)=true:=by kernel_rfl
theorem Pn(t:Int):je 3 (X1 t) (X1 t)=true:=by
 show(fU .i64 .i64 && nY t t)=true
 rw[fS,bq rfl];rfl
theorem Rf(h:ah)(k:Int):∀(M:List IE)(i:Nat),(fN prog h 3 (X1 k) (M.map si) i=some none/\M.find? (λe=>decide (k=e.1))=none)\/
  ∃(j:Nat)(e:IE),fN prog h 3 (X1 k) (M.map si) i=some (some (i+j,si e))/\M[j]? = some e/\k=e.1/\M.find? (λe=>decide (k=e.1))=some e/\∀(v:Int)(k':Int),(M.set j (e.1,v,e.2.2)).find? (λe=>decide (k'=e.1))=if k'=k then some (e.1,v,e.2.2)else M.find? (λe=>decide (k'=e.1)):=by
 intro M
 induction M with
 |nil=>intro i;exact .inl ⟨rfl,rfl⟩
 |cons e M ih=>
  intro i;have hf:fN prog h 3 (.int .i64 k) ((e::M).map si) i=(match(some (decide (k=e.1)):Option Bool)with|some true=>some (some (i,si e))|some false=>fN prog h 3 (.int .i64 k) (M.map si) (Nat.succ i)|none=>none):=by
   rw[<-eqI h];rfl
  rw[hf];by_cases h1:k=e.1
  .rw[bq h1];refine .inr ⟨0,e,rfl,rfl,h1,by rw[List.find?_cons,bq h1],λv k'=>?_⟩;rw[List.set_cons_zero,List.find?_cons,List.find?_cons];by_cases h2:k'=k
   .rw[if_pos h2,bq (h2.trans h1)]
   .rw[if_neg h2,a_ (λe'=>h2 (e'.trans h1.symm))]
  .rw[a_ h1];rcases ih (Nat.succ i)with⟨g1,g2⟩|⟨j,e',g1,g2,g3,g4,g5⟩
   .exact .inl ⟨g1,by rw[List.find?_cons,a_ h1];exact g2⟩
   .refine .inr ⟨j+1,e',by rw[show i+(j+1)=Nat.succ i+j by omega];exact g1,g2,g3,by rw[List.find?_cons,a_ h1];exact g4,λv k'=>?_⟩;rw[List.set_cons_succ,List.find?_cons,List.find?_cons];by_cases h2:k'=e.1
    .rw[bq h2];simp only;rw[if_neg (λe'=>h1 (e'.symm.trans h2))]
    .rw[a_ h2];exact g5 v k'
theorem LZ{β:Type}{fl:β}{W:List IE}{clock:Nat}{h:ah}{bw:Nat}(g:h.bl.get bw=some (.map (W.map si) clock))(k:Int)(Y:XW β):ct fl prog 3 (X1 0) true (.map (some bw)) (X1 k) h Y=Y (.tuple ⟨[X1 ((BV W k).getD 0),.bool (BV W k).isSome]⟩) h:=by
 unfold ct jF BV;rw[JJ];simp only[g];rcases Rf h k W 0 with⟨g1,g2⟩|⟨j,e',g1,g2,g3,g4,_⟩
 .rw[g1,g2];rfl
 .rw[g1,g4];rfl
theorem JK{W:List IE}{clock:Nat}{h:ah}{bw:Nat}(g:h.bl.get bw=some (.map (W.map si) clock))(hlo:h.lo<=bw)(k v:Int)(Y:KQ)(hk:∀W' clock',(∀j,BV W' j=if j=k then some v else BV W j)->Y undef ⟨h.nx,h.bl.bx bw (.map (W'.map si) clock'),h.lo⟩):bY False prog 3 (.map (some bw)) (X1 k) (X1 v) h Y:=by
 unfold bY;rw[JJ];simp only[g];rcases Rf h k W 0 with⟨g1,g2⟩|⟨j,e,g1,g2,g3,g4,g5⟩
 ·rw[g1];simp only;rw[lW];simp only[bR];rw[bI _ _ _ _ hlo];have:=hk (W++[(k,v,clock)]) (clock+1) λj=>by
   unfold BV;rw[List.find?_append];by_cases hj:j=k
   .rw[if_pos hj,hj,g2];simp
   .rw[if_neg hj];simp[List.find?_cons,hj]
  rw[List.map_append]at this;exact this
 ·rw[g1];subst g3;simp only[si,Pn];rw[Nat.zero_add,lY _ _ j (si e) _ (by rw[List.getElem?_map,g2];rfl),bI _ _ _ _ hlo];have:=hk (W.set j (e.1,v,e.2.2)) clock λi=>by
   unfold BV;rw[g5 v i];split<;>rfl
  rw[List.map_set]at this;exact this
theorem qj.keep{h h':ah}{bb bm bp bl most clock:Nat}{M:List HE}{F:List Int}{B:List Bool}(s:bu h bb bm bp bl most M clock F B)(f:qj bm bp bl h h'){c:Nat}{vs:List Value}{ty:TypeId}{op:Bool}(hc:c<h.nx)(hg:h.bl.get c=some (ai vs ty op))(h1:ty≠286)(h2:ty≠4)(h3:ty≠3):h'.bl.get c=h.bl.get c:=by
 obtain⟨fs,zz,hpt⟩:=s.di.fr.cell;have gl:=s.di.cell;have gm:=s.gf;exact f.get c hc (by rintro rfl;rw[hg]at gm;exact bL gm.symm) (by rintro rfl;rw[hg]at zz;exact bz h1 zz) (by rintro rfl;rw[hg]at gl;exact bz h2 gl) λws=>by rw[hg];exact bz h3
theorem qj.L0{h h':ah}{bb bm bp bl most clock:Nat}{M:List HE}{F:List Int}{B:List Bool}(s:bu h bb bm bp bl most M clock F B)(f:qj bm bp bl h h'){c:Nat}{es:List MapEntry}{cl:Nat}(hc:c<h.nx)(hg:h.bl.get c=some (.map es cl))(hne:c≠bm):h'.bl.get c=h.bl.get c:=by
 obtain⟨fs,zz,hpt⟩:=s.di.fr.cell;have gl:=s.di.cell;exact f.get c hc hne (by rintro rfl;rw[zz]at hg;exact bL hg.symm) (by rintro rfl;rw[gl]at hg;exact bL hg.symm) λws=>by rw[hg];exact bL
theorem bu.aside{h h':ah}{bb bm bb2 bm2 bp bl most WE clock Rg:Nat}{M M2:List HE}{F F':List Int}{B B':List Bool}(s:bu h bb bm bp bl most M clock F B)(f:qj bm bp bl h h')(s2:bu h bb2 bm2 bp bl WE M2 Rg F B)(hne:bm2≠bm)(p:eP h' bp bl F' B'):bu h' bb2 bm2 bp bl WE M2 Rg F' B':=by
 have fn:=f.nx;have fl:=f.lo;have sb:=s2.Of;have sm:=s2.r7;refine⟨XV,XV,by rw[fl];exact s2.T9,(f.keep s sb s2.iC X0 X0 X0).trans s2.iC,(f.L0 s sm s2.gf hne).trans s2.gf,s2.ok,λe he=>?_,s2.good,p,s2.ne⟩;have a:=s2.bf e he;have al:=a.lt;exact⟨XV,(f.keep s al a.get X0 X0 X0).trans a.get,a.qv.frame fn λc vs op hc hg=>f.keep s hc hg X0 X0 X0⟩
structure TB where
 bb:Nat
 bm:Nat
 M:List HE
 clock:Nat
def ny(b:TB):List Value:=[X3 b.bb]
theorem BW(b:TB):(ny b).length=1:=rfl
theorem Nh(b:TB):(ny b).all eO=true:=rfl
structure jU where
 S:Int
 H:Int
 R:Int
 P:Int
structure fF(h:ah)(tb bw bp bl:Nat)(c:jU)(vb:Value)(bf:Nat)(T:List TB)(W:List IE)(wc:Nat)(F:List Int)(B:List Bool):Prop where
 ltt:tb<h.nx
 nD:h.bl.get tb=some (ai [X1 c.S,X1 c.H,X1 c.R,X1 c.P,X3 bp,vb,.map (some bw)] 194 false)
 sl:Sl ny h vb T
 ty:mQ 205 h vb
 Ax:bw<h.nx
 low:h.lo<=bw
 lz:h.bl.get bw=some (.map (W.map si) wc)
 bk:∀b∈T,bu h b.bb b.bm bp bl bf b.M b.clock F B
 HA:T.Pairwise λa b=>a.bm≠b.bm
 wne:∀b∈T,bw≠b.bm
 di:eP h bp bl F B
 cS:c.S=T.length
 s1:1<=T.length/\T.length<=16
 hd:bf<=64
theorem Sl.vK{α:Type}{enc:α->List Value}{h h':ah}{v:Value}{L:List α}{e:TypeId}(s:Sl enc h v L)(t:mQ e h v)(hn:h.nx<=h'.nx)(hg:∀c vs op,c<h.nx->h.bl.get c=some (ai vs e op)->h'.bl.get c=h.bl.get c):Sl enc h' v L/\mQ e h' v:=by
 constructor
 .obtain⟨x,cap,rfl,h2⟩:=s;refine⟨x,cap,rfl,λhne=>?_⟩;obtain⟨b,o,rfl,h3,h4⟩:=h2 hne;obtain⟨h1,vs,op,h5⟩:=t b o _ cap rfl (by intro h0;exact hne (List.eq_nil_of_length_eq_zero h0));refine⟨b,o,rfl,Nat.lt_of_lt_of_le h3 hn,?_⟩;rw[hg b vs op h1 h5];exact h4
 .intro b o n c hv hn0;obtain⟨h1,vs,op,h2⟩:=t b o n c hv hn0;exact⟨Nat.lt_of_lt_of_le h1 hn,vs,op,(hg b vs op h1 h2).trans h2⟩
theorem fF.le{h h':ah}{tb bw bp bl:Nat}{c:jU}{vb:Value}{bf:Nat}{T:List TB}{W:List IE}{wc:Nat}{F:List Int}{B:List Bool}(s:fF h tb bw bp bl c vb bf T W wc F B)(l:Le h h'):fF h' tb bw bp bl c vb bf T W wc F B:=
 ⟨Nat.lt_of_lt_of_le s.ltt l.nx,(l.get _ s.ltt).trans s.nD,s.sl.le l,s.ty.le l,Nat.lt_of_lt_of_le s.Ax l.nx,by rw[l.lo];exact s.low,(l.get _ s.Ax).trans s.lz,λb hb=>(s.bk b hb).le l,s.HA,s.wne,s.di.le l,s.cS,s.s1,s.hd⟩
theorem Rh{T:List TB}{k:Nat}{b:TB}(hk:T[k]? = some b)(M':List HE)(clock':Nat):(T.set k ⟨b.bb,b.bm,M',clock'⟩).flatMap ny=T.flatMap ny:=by
 obtain⟨hl,rfl⟩:=List.getElem?_eq_some_iff.1 hk;rw[List.flatMap_def,List.flatMap_def,List.map_set]
 congr 1
 refine List.ext_getElem? λi=>?_;rw[List.getElem?_set];split
 .rename_i e;subst e;rw[if_pos (by simpa using hl),List.getElem?_map,List.getElem?_eq_getElem hl];rfl
 .rfl
theorem Sl.congr{α:Type}{enc:α->List Value}{h:ah}{v:Value}{L L':List α}(s:Sl enc h v L)(hl:L'.length=L.length)(hf:L'.flatMap enc=L.flatMap enc):Sl enc h v L':=by
 obtain⟨x,cap,rfl,h2⟩:=s;refine⟨x,cap,by rw[hl],λhne=>?_⟩;rw[hf];exact h2 (λe=>hne (List.eq_nil_of_length_eq_zero (by rw[hl,e];rfl)))
theorem fF.change{h h':ah}{tb bw bp bl:Nat}{c:jU}{vb:Value}{bf:Nat}{T:List TB}{W:List IE}{wc:Nat}{F F':List Int}{B B':List Bool}(s:fF h tb bw bp bl c vb bf T W wc F B){k:Nat}{b:TB}(hk:T[k]? = some b){M':List HE}{clock':Nat}(is':bu h' b.bb b.bm bp bl bf M' clock' F' B')(f:qj b.bm bp bl h h'):fF h' tb bw bp bl c vb bf (T.set k ⟨b.bb,b.bm,M',clock'⟩) W wc F' B':=by
 have hb:=s.bk b (List.mem_of_getElem? hk);have fn:=f.nx;have fl:=f.lo;have h1:=s.ltt;have h2:=s.Ax;have k1:=Sl.vK s.sl s.ty fn λc vs op hc hg=>f.keep hb hc hg X0 X0 X0;have aeO:=s.wne b (List.mem_of_getElem? hk);have jR:∀x∈T.set k ⟨b.bb,b.bm,M',clock'⟩,(x=⟨b.bb,b.bm,M',clock'⟩)\/(x∈T/\x.bm≠b.bm):=by
  intro x hx;obtain⟨i,hi⟩:=List.getElem?_of_mem hx;rw[List.getElem?_set]at hi;split at hi
  .split at hi
   .exact .inl (Option.some.inj hi).symm
   .cases hi
  .rename_i hne;refine .inr ⟨List.mem_of_getElem? hi,?_⟩;rcases Nat.lt_trichotomy i k with h3|h3|h3
   .exact c8.1 s.HA i k x b h3 hi hk
   .exact absurd h3.symm hne
   .exact λe=>c8.1 s.HA k i b x h3 hk hi e.symm
 refine⟨XV,(f.keep hb h1 s.nD X0 X0 X0).trans s.nD,Sl.congr k1.1 (List.length_set ..) (Rh hk _ _),k1.2,XV,by rw[fl];exact s.low,(f.L0 hb h2 s.lz aeO).trans s.lz,?_,?_,?_,is'.di,by rw[List.length_set];exact s.cS,by rw[List.length_set];exact s.s1,s.hd⟩
 .intro x hx;rcases jR x hx with rfl|⟨hx,hne⟩
  .exact is'
  .exact hb.aside f (s.bk x hx) hne is'.di
 .refine qS s.HA (λj q hj hq=>c8.1 s.HA j k q b hj hq hk) (λj q hj hq=>c8.1 s.HA k j b q hj hk hq)
 .intro x hx;rcases jR x hx with rfl|⟨hx,_⟩
  .exact aeO
  .exact s.wne x hx
theorem tD{α β:Type}(f:α->List β){T:List α}{k:Nat}{b:α}(hk:T[k]? = some b):∃X,∀b',((T.set k b').flatMap f).Perm (f b'++X):=by
 obtain⟨hl,_⟩:=List.getElem?_eq_some_iff.1 hk;refine⟨(T.take k).flatMap f++(T.drop (k+1)).flatMap f,λb'=>?_⟩;rw[List.set_eq_take_append_cons_drop,if_pos hl,List.flatMap_append,List.flatMap_cons];exact List.perm_append_comm_assoc _ _ _
theorem rB{α:Type}{T:List α}{k:Nat}{b:α}(hk:T[k]? = some b):T.set k b=T:=by
 refine List.ext_getElem? λi=>?_;rw[List.getElem?_set];split
 .rename_i e;subst e;rw[hk,if_pos (List.getElem?_eq_some_iff.1 hk).1]
 .rfl
section
variable {h h':ah}{bb bm bp bl most:Nat}{M M':List HE}{clock clock':Nat}{F F':List Int}{B B':List Bool}
theorem lp.ids(s:bu h bb bm bp bl most M clock F B){t r x m:Int}{n:Nat}{g:Bool}(a:lp h h' bb bm bp bl most M M' clock' F F' B t r x m n g):(ig M').Perm (ig M++[(n:Int)]):=by
 obtain⟨Q,w,hold,vq,vq',_,jR⟩:=a.set;have pX:(ig M).Perm (ig (M.filter λx=>!uB t r x)++Q.map (·.id)):=by
  rcases hold with⟨e,he,rfl,rfl,rfl,rfl⟩|⟨hn,hl,rfl,rfl⟩
  .have:=r8 (r9 s.ok he);rw[nr,uC]at this;exact this
  .rw[BQ hn];simp
 refine jR.ids.trans ?_;rw[zC vq',List.map_append,List.map_cons,List.map_nil,Ub,<-List.append_assoc];exact(pX.symm).append_right _
theorem lp.len(s:bu h bb bm bp bl most M clock F B)(hl:M.length<=most){t r x m:Int}{n:Nat}{g:Bool}(a:lp h h' bb bm bp bl most M M' clock' F F' B t r x m n g):M'.length<=most:=by
 obtain⟨Q,w,hold,vq,vq',_,jR⟩:=a.set;have:=jR.len;rcases hold with⟨e,he,rfl,rfl,rfl,rfl⟩|⟨hn,hl,rfl,rfl⟩
 .have:=LW s.ok he;omega
 .rw[BQ hn]at this;omega
theorem lp.wb{N:Nat}(hw:∀e∈M,e.w<=N){t r x m:Int}{n:Nat}{g:Bool}(a:lp h h' bb bm bp bl most M M' clock' F F' B t r x m n g):∀e∈M',e.w<=(N+1:Nat):=by
 obtain⟨Q,w,hold,vq,vq',_,jR⟩:=a.set;refine jR.wb hw ?_;have:=aaE Q w n x m;rcases hold with⟨e,he,_,_,_,rfl⟩|⟨_,_,_,rfl⟩
 .have:=hw e he;omega
 .omega
theorem lp.sub{t r x m:Int}{n:Nat}{g:Bool}(a:lp h h' bb bm bp bl most M M' clock' F F' B t r x m n g):∀y∈M',(∃e∈M,e.t=y.t/\e.r=y.r)\/(y.t=t/\y.r=r):=by
 obtain⟨Q,w,_,_,_,_,jR⟩:=a.set;intro y hy;rcases jR.sub y hy with h|⟨h1,h2,_⟩
 .exact .inl ⟨y,h,rfl,rfl⟩
 .exact .inr ⟨h1,h2⟩
variable {e:HE}{Q1:List R5}{w1:Int}
theorem eE.Ri(s:bu h bb bm bp bl most M clock F B)(he:e∈M)(m:eE h h' bb bm bp bl most M M' clock' F' B' e Q1 w1)(hid:Q1.map (·.id)=e.Q.map (·.id)):(ig M').Perm (ig M):=by
 refine m.set.ids.trans ?_;rw[zC m.vq,hid];have:=r8 (r9 s.ok he);rw[nr,uC]at this;exact this.symm
theorem eE.Rj(s:bu h bb bm bp bl most M clock F B)(he:e∈M){p:R5}{n:Nat}(hf:bU e.Q (n:Int)=some p)(m:eE h h' bb bm bp bl most M M' clock' F' B' e (e.Q.filter λr=>!bE (n:Int) r) w1):(ig M).Perm (ig M'++[(n:Int)]):=by
 have h1:=r8 (r9 s.ok he);rw[nr,uC]at h1;have h2:=h1.trans (List.Perm.append_left (ig (M.filter λx=>!uB e.t e.r x)) (JE (s.good e he).vq hf));rw[<-List.append_assoc]at h2;have h3:=m.set.ids;rw[zC m.vq]at h3;exact h2.trans (h3.symm.append_right _)
theorem eE.len(s:bu h bb bm bp bl most M clock F B)(hl:M.length<=most)(he:e∈M)(m:eE h h' bb bm bp bl most M M' clock' F' B' e Q1 w1):M'.length<=most:=by
 have:=m.set.len;have:=LW s.ok he;omega
theorem eE.sub(he:e∈M)(m:eE h h' bb bm bp bl most M M' clock' F' B' e Q1 w1):∀y∈M',∃e∈M,e.t=y.t/\e.r=y.r:=by
 intro y hy;rcases m.set.sub y hy with h|⟨h1,h2,_⟩
 .exact⟨y,h,rfl,rfl⟩
 .exact⟨e,he,h1.symm,h2.symm⟩
end
structure iZ(h:ah)(tb bw bp bl:Nat)(c:jU)(vb:Value)(bf N:Nat)(T:List TB)(W:List IE)(wc:Nat)(F:List Int)(B:List Bool):Prop where
 is:fF h tb bw bp bl c vb bf T W wc F B
 ids:(T.flatMap λb=>ig b.M).Perm (lg B)
 wh:∀(k:Nat)(b:TB),T[k]? = some b->∀e∈b.M,∀p∈e.Q,BV W p.id=some (k:Int)
 nm:∀(k:Nat)(b:TB),T[k]? = some b->∀e∈b.M,jT e.t e.r c.S=(k:Int)
 wb:∀b∈T,∀e∈b.M,e.w<=N
 len:∀b∈T,b.M.length<=bf
 cR:(B.length:Int)=c.R
 cH:(bf:Int)=c.H
section
variable {h h':ah}{tb bw bp bl:Nat}{c:jU}{vb:Value}{bf N:Nat}{T:List TB}{W:List IE}{wc:Nat}{F F':List Int}{B B':List Bool}
theorem iZ.L8(s:iZ h tb bw bp bl c vb bf N T W wc F B){k:Nat}{b:TB}(hk:T[k]? = some b):rj b.M B:=by
 obtain⟨X,hX⟩:=tD (λb:TB=>ig b.M) hk;have:=hX b;rw[rB hk]at this;exact⟨X,this.symm.trans s.ids⟩
theorem iZ.le(s:iZ h tb bw bp bl c vb bf N T W wc F B)(l:Le h h'):iZ h' tb bw bp bl c vb bf N T W wc F B:=⟨s.is.le l,s.ids,s.wh,s.nm,s.wb,s.len,s.cR,s.cH⟩
theorem iZ.up{N':Nat}(s:iZ h tb bw bp bl c vb bf N T W wc F B)(hN:N<=N'):iZ h tb bw bp bl c vb bf N' T W wc F B:=⟨s.is,s.ids,s.wh,s.nm,λb hb e he=>by have:=s.wb b hb e he;omega,s.len,s.cR,s.cH⟩
theorem gj{α:Type}{T:List α}{k j:Nat}{b' x:α}(h:(T.set k b')[j]? = some x):(j=k/\x=b')\/(j≠k/\T[j]? = some x):=by
 rw[List.getElem?_set]at h;split at h
 .rename_i e;split at h
  .exact .inl ⟨e.symm,(Option.some.inj h).symm⟩
  .cases h
 .rename_i e;exact .inr ⟨λe'=>e e'.symm,h⟩
theorem mG{M:List HE}{i:Int}:i∈ig M<->∃e∈M,∃p∈e.Q,p.id=i:=by
 unfold ig;rw[List.mem_flatMap];constructor
 .rintro⟨e,he,hi⟩;obtain⟨p,hp,rfl⟩:=List.mem_map.1 hi;exact⟨e,he,p,hp,rfl⟩
 .rintro⟨e,he,p,hp,rfl⟩;exact⟨e,he,List.mem_map.2 ⟨p,hp,rfl⟩⟩
theorem iZ.step(s:iZ h tb bw bp bl c vb bf N T W wc F B){k:Nat}{b:TB}(hk:T[k]? = some b){M':List HE}{clock':Nat}(is':bu h' b.bb b.bm bp bl bf M' clock' F' B')(f:qj b.bm bp bl h h')(A3:∀X,(ig b.M++X).Perm (lg B)->(ig M'++X).Perm (lg B'))(hsub:∀i∈ig M',i∈ig b.M)(hnm:∀y∈M',∃e∈b.M,e.t=y.t/\e.r=y.r)(hw:∀e∈M',e.w<=(N+1:Nat))(hl:M'.length<=bf)(hB:B'.length=B.length):iZ h' tb bw bp bl c vb bf (N+1) (T.set k ⟨b.bb,b.bm,M',clock'⟩) W wc F' B':=by
 obtain⟨X,hX⟩:=tD (λb:TB=>ig b.M) hk;have h0:=hX b;rw[rB hk]at h0;refine⟨s.is.change hk is' f,(hX _).trans (A3 X (h0.symm.trans s.ids)),?_,?_,?_,?_,by rw[hB];exact s.cR,s.cH⟩
 .intro j x hj e he p hp;rcases gj hj with⟨rfl,rfl⟩|⟨_,hj⟩
  .obtain⟨e0,he0,p0,hp0,hpe⟩:=mG.1 (hsub p.id (mG.2 ⟨e,he,p,hp,rfl⟩));rw[<-hpe];exact s.wh j b hk e0 he0 p0 hp0
  .exact s.wh j x hj e he p hp
 .intro j x hj e he;rcases gj hj with⟨rfl,rfl⟩|⟨_,hj⟩
  .obtain⟨e0,he0,h1,h2⟩:=hnm e he;rw[<-h1,<-h2];exact s.nm j b hk e0 he0
  .exact s.nm j x hj e he
 .intro x hx e he;obtain⟨j,hj⟩:=List.getElem?_of_mem hx;rcases gj hj with⟨rfl,rfl⟩|⟨_,hj⟩
  .exact hw e he
  .have:=s.wb x (List.mem_of_getElem? hj) e he;omega
 .intro x hx;obtain⟨j,hj⟩:=List.getElem?_of_mem hx;rcases gj hj with⟨rfl,rfl⟩|⟨_,hj⟩
  .exact hl
  .exact s.len x (List.mem_of_getElem? hj)
end
theorem WH(h:ah)(b o:Nat):nH prog h 100 119 (.pointer (some ⟨b,o,none⟩)) (.pointer none)=some false:=by kernel_rfl
theorem oN{β:Type}{fl:β}(cn:Bool)(b o:Nat)(h:ah)(Y:XW β):aG fl prog .eql 119 cn false (.pointer (some ⟨b,o,none⟩)) (.pointer none) h Y=Y (.bool false) h:=by simp only[aG,WH,cF]
theorem aeP(h:ah):nH prog h 100 205 (.pointer none) (.pointer none)=some true:=by kernel_rfl
theorem rC{β:Type}{fl:β}(cn:Bool)(h:ah)(Y:XW β):aG fl prog .eql 205 cn false (.pointer none) (.pointer none) h Y=Y (.bool true) h:=by simp only[aG,aeP,cF]
structure tE(Ts:List TB)(bw bp bl:Nat)(h h':ah):Prop where
 nx:h.nx<=h'.nx
 lo:h'.lo=h.lo
 get:∀c,c<h.nx->(∀b∈Ts,c≠b.bm)->c≠bw->c≠bp->c≠bl->(∀vs,h.bl.get c≠some (ai vs 3 true))->h'.bl.get c=h.bl.get c
 g2:bp<h.nx->∀c,c<h.nx->(∀b∈Ts,c≠b.bm)->c≠bw->c≠bp->c≠bl->¬FB h bp c->h'.bl.get c=h.bl.get c
 mv:bp<h.nx->∀c,c<h.nx->FB h' bp c->FB h bp c
theorem tE.of_le{Ts:List TB}{bw bp bl:Nat}{h h':ah}(l:Le h h'):tE Ts bw bp bl h h':=⟨l.nx,l.lo,λc hc _ _ _ _ _=>l.get c hc,λ_ c hc _ _ _ _ _=>l.get c hc,λhb c _ x=>(FB.congr (l.get bp hb)).1 x⟩
theorem tE.trans{Ts:List TB}{bw bp bl:Nat}{h h' h'':ah}(a:tE Ts bw bp bl h h')(b:tE Ts bw bp bl h' h''):tE Ts bw bp bl h h'':=
 ⟨Nat.le_trans a.nx b.nx,b.lo.trans a.lo,λc hc h1 h2 h3 h4 h5=>(b.get c (Nat.lt_of_lt_of_le hc a.nx) h1 h2 h3 h4 (λvs=>by rw[a.get c hc h1 h2 h3 h4 h5];exact h5 vs)).trans (a.get c hc h1 h2 h3 h4 h5),
  λhb c hc h1 h2 h3 h4 h5=>(b.g2 (Nat.lt_of_lt_of_le hb a.nx) c (Nat.lt_of_lt_of_le hc a.nx) h1 h2 h3 h4 λx=>h5 (a.mv hb c hc x)).trans (a.g2 hb c hc h1 h2 h3 h4 h5),
  λhb c hc x=>a.mv hb c hc (b.mv (Nat.lt_of_lt_of_le hb a.nx) c (Nat.lt_of_lt_of_le hc a.nx) x)⟩
theorem tE.zO{Ts:List TB}{b:TB}(hb:b∈Ts){bw bp bl:Nat}{h h':ah}(f:qj b.bm bp bl h h'):tE Ts bw bp bl h h':=⟨f.nx,f.lo,λc hc h1 _ h3 h4 h5=>f.get c hc (h1 b hb) h3 h4 h5,λhp c hc h1 _ h3 h4 h5=>f.g2 hp c hc (h1 b hb) h3 h4 h5,f.mv⟩
section
variable {h:ah}{tb bw bp bl:Nat}{c:jU}{vb:Value}{bf N:Nat}{Ts:List TB}{W:List IE}{wc:Nat}{F:List Int}{B:List Bool}
theorem vL(s:fF h tb bw bp bl c vb bf Ts W wc F B)(hlo:h.lo<=h.nx)(t r:Int)(Y:KQ)(hk:∀h',Le h h'->Y (X1 (jT t r c.S)) h'):aj prog 56 [X3 tb,iF t r] h Y:=by
 apply X2;rw[adm];simp(disch:=try exact QQ)only[Wz,iF];obtain⟨hA,bH,aY,g1,ia,ic⟩:=oR h (ai [X1 t,X1 r] 28 false);rw[<-bH];clear bH;have sA:=s.le aY;have gt:=sA.nD;simp(disch:=try exact QQ)only[Wz,oN,LB,g1,aL,gt];refine Re t r c.S ?_;exact hk hA aY
theorem Rk{h:ah}{v:Value}{Ts:List TB}(hs:Sl ny h v Ts)(i:Nat){b:TB}(hp:Ts[i]? = some b):∃c o,c<h.nx/\(∀(β:Type)(fl:β)(h':ah)(Y:XW β),az fl 1 v (X1 (i:Int)) h' Y=Y (.pointer (some ⟨c,o,none⟩)) h')/\
   ∀h',Le h h'->(∀(β:Type)(fl:β)(Y:Value->β),qn fl (h'.bl.get c) o Y=Y (X3 b.bb)):=by
 obtain⟨c,o,h1,h2,h3,hh⟩:=hs.ld BW i hp;refine⟨c,o,h1,h2,λh' l β fl Y=>?_⟩;rw[l.get c h1];exact cO (fl:=fl) hh 0 Y (by show 0<1;omega)
theorem xH(tb:Nat)(h:ah)(Y:KQ)(hk:Y (X1 5) h):aj prog 293 [X3 tb] h Y:=by
 apply X2;rw[Y5];simp(disch:=try exact QQ)only[Wz,oN];exact hk
theorem HB(s:iZ h tb bw bp bl c vb bf N Ts W wc F B)(hlo:h.lo<=h.nx)(id:Int)(Y:KQ)(nj:(∀b∈Ts,∀e∈b.M,bU e.Q id=none)->Y (.pointer none) h)(gP:∀(k:Nat) b e p,Ts[k]? = some b->e∈b.M->bU e.Q id=some p->Y (X3 b.bb) h):aj prog 291 [X3 tb,X1 id] h Y:=by
 apply X2;rw[Y4];have gt:=s.is.nD;simp(disch:=try exact QQ)only[Wz,oN,FZ,aL,gt,LZ s.is.lz];have ajF:∀(k:Nat) b e p,Ts[k]? = some b->e∈b.M->bU e.Q id=some p->BV W id=some (k:Int)/\∃n:Nat,id=(n:Int)/\B[n]? = some true:=by
  intro k b e p hb he hf;obtain⟨hp,hpi⟩:=dQ hf;refine⟨by rw[<-hpi];exact s.wh k b hb e he p hp,kN.1 (s.ids.mem_iff.1 (List.mem_flatMap.2 ⟨b,List.mem_of_getElem? hb,mG.2 ⟨e,he,p,hp,hpi⟩⟩))⟩
 have none:BV W id=none\/¬(∃n:Nat,id=(n:Int)/\B[n]? = some true)->∀b∈Ts,∀e∈b.M,bU e.Q id=none:=by
  intro hc b hb e he;obtain⟨k,hk⟩:=List.getElem?_of_mem hb;cases hf:bU e.Q id with
  |none=>rfl
  |some p=>
   obtain⟨h1,h2⟩:=ajF k b e p hk he hf;rcases hc with hc|hc
   .rw[h1]at hc;cases hc
   .exact absurd h2 hc
 cases hl:BV W id with
 |none=>
  simp(disch:=try exact QQ)only[Wz,Option.isSome_none,Option.getD_none];exact nj (none (.inl hl))
 |some v=>
  simp(disch:=try exact QQ)only[Wz,Option.isSome_some,Option.getD_some,aL,gt];refine Wt bp bl F B id h _ s.is.di ?_;by_cases hb:∃n:Nat,id=(n:Int)/\B[n]? = some true
  ·obtain⟨n,rfl,hn⟩:=hb;have eh:(decide ((0:Int)<=(n:Int)) && (B[((n:Int)).toNat]?).getD false)=true:=by
    rw[bq XV,Int.toNat_natCast,hn];rfl
   rw[eh];obtain⟨b,hbT,hbi⟩:=List.mem_flatMap.1 (s.ids.mem_iff.2 (kN.2 ⟨n,rfl,hn⟩));obtain⟨e,he,p,hp,hpi⟩:=mG.1 hbi;obtain⟨k,hk⟩:=List.getElem?_of_mem hbT;have hv:v=(k:Int):=by
    have:=s.wh k b hk e he p hp;rw[hpi,hl]at this;exact Option.some.inj this
   subst hv;have hf:=MO ((s.is.bk b hbT).good e he).vq.pair hp;rw[hpi]at hf;obtain⟨cc,oo,_,LP,mO⟩:=Rk s.is.sl k hk;have mO:=mO h (Le.refl _);simp(disch:=try exact QQ)only[Wz,aL,gt,LP,mO];exact gP k b e p hk he hf
  ·have eh:(decide ((0:Int)<=id) && (B[id.toNat]?).getD false)=false:=by
    by_cases h0:0<=id
    .have hne:B[id.toNat]?≠some true:=λe=>hb ⟨id.toNat,XV,e⟩;rw[bq h0,Bool.true_and];cases hB:B[id.toNat]? with
     |none=>rfl
     |some x=>cases x with
      |false=>rfl
      |true=>exact absurd hB hne
    .rw[a_ h0];rfl
   rw[eh];simp(disch:=try exact QQ)only[Wz];exact nj (none (.inr hb))
end
theorem eP.frame{h h':ah}{bp bl:Nat}{F:List Int}{B:List Bool}(p:eP h bp bl F B)(hn:h.nx<=h'.nx)(hl:h'.lo=h.lo)(hc:∀c vs ty op,c<h.nx->h.bl.get c=some (ai vs ty op)->h'.bl.get c=h.bl.get c):eP h' bp bl F B:=by
 have pl:=p.lt;have fl:=p.fr.lt;obtain⟨fs,hg,hpt⟩:=p.fr.cell;refine⟨⟨XV,by rw[hl];exact p.fr.lo,fs,(hc _ _ _ _ fl hg).trans hg,?_⟩,XV,by rw[hl];exact p.lo,(hc _ _ _ _ pl p.cell).trans p.cell,p.ok,p.small⟩;rcases hpt with e|⟨b,G,e,k1,k2,k3,k4⟩
 .exact .inl e
 .exact .inr ⟨b,G,e,XV,XV,(hc _ _ _ _ k1 k3).trans k3,k4⟩
theorem bu.frame{h h':ah}{bb bm bp bl most clock:Nat}{M:List HE}{F:List Int}{B:List Bool}(s:bu h bb bm bp bl most M clock F B)(hn:h.nx<=h'.nx)(hl:h'.lo=h.lo)(hc:∀c vs ty op,c<h.nx->h.bl.get c=some (ai vs ty op)->h'.bl.get c=h.bl.get c)(hm:h'.bl.get bm=h.bl.get bm):bu h' bb bm bp bl most M clock F B:=by
 have sb:=s.Of;have sm:=s.r7;refine⟨XV,XV,by rw[hl];exact s.T9,(hc _ _ _ _ sb s.iC).trans s.iC,hm.trans s.gf,s.ok,λe he=>?_,s.good,s.di.frame hn hl hc,s.ne⟩;have a:=s.bf e he;have al:=a.lt;exact⟨XV,(hc _ _ _ _ al a.get).trans a.get,a.qv.frame hn λc vs op h1 hg=>hc c vs _ op h1 hg⟩
section
variable {h:ah}{tb bw bp bl:Nat}{c:jU}{vb:Value}{bf N:Nat}{Ts:List TB}{W:List IE}{wc:Nat}{F:List Int}{B:List Bool}
theorem fF.aaK(s:fF h tb bw bp bl c vb bf Ts W wc F B)(W':List IE)(Dp:Nat):fF ⟨h.nx,h.bl.bx bw (.map (W'.map si) Dp),h.lo⟩ tb bw bp bl c vb bf Ts W' Dp F B:=by
 have gw:=s.lz;have hc:∀c vs ty op,c<h.nx->h.bl.get c=some (ai vs ty op)->(h.bl.bx bw (.map (W'.map si) Dp)).get c=h.bl.get c:=by
  intro c vs ty op _ hg;refine T.au _ _ ?_;rintro rfl;rw[hg]at gw;exact bL gw.symm
 have hm:∀b∈Ts,(h.bl.bx bw (.map (W'.map si) Dp)).get b.bm=h.bl.get b.bm:=λb hb=>T.au _ _ (s.wne b hb);have k1:=Sl.vK (h':=⟨h.nx,h.bl.bx bw (.map (W'.map si) Dp),h.lo⟩) s.sl s.ty (Nat.le_refl _) λc vs op h1 hg=>hc c vs _ op h1 hg;exact⟨s.ltt,(hc _ _ _ _ s.ltt s.nD).trans s.nD,k1.1,k1.2,s.Ax,s.low,T.an _ _ _,λb hb=>(s.bk b hb).frame (Nat.le_refl _) rfl hc (hm b hb),s.HA,s.wne,s.di.frame (Nat.le_refl _) rfl hc,s.cS,s.s1,s.hd⟩
theorem tE.aaK{W':List IE}{Dp:Nat}:tE Ts bw bp bl h ⟨h.nx,h.bl.bx bw (.map (W'.map si) Dp),h.lo⟩:=
 by
 refine⟨Nat.le_refl _,rfl,λc _ _ h2 _ _ _=>T.au _ _ (λe=>h2 e.symm),λ_ c _ _ h2 _ _ _=>T.au _ _ (λe=>h2 e.symm),λ_ c _ hx=>?_⟩;by_cases e:bw=bp
 .subst e;obtain⟨n,cap,ls,hx⟩:=hx;exact absurd ((T.an _ _ _).symm.trans hx) bL
 .exact(FB.congr (T.au _ _ e)).1 hx
theorem aeQ(s:fF h tb bw bp bl c vb bf Ts W wc F B){t r:Int}(hn:¬jT t r c.S<0):∃(k:Nat)(b:TB),jT t r c.S=(k:Int)/\Ts[k]? = some b:=by
 have hr:=zN (t:=t) (r:=r) (s:=c.S) XV;have hS:=s.cS;refine⟨(jT t r c.S).toNat,Ts[(jT t r c.S).toNat]'XV,XV,List.getElem?_eq_getElem _⟩
end
theorem vM{Ts:List TB}{k:Nat}{b:TB}(hk:Ts[k]? = some b)(M':List HE)(clock':Nat):(Ts.set k ⟨b.bb,b.bm,M',clock'⟩).map (·.bm)=Ts.map (·.bm):=by
 obtain⟨hl,rfl⟩:=List.getElem?_eq_some_iff.1 hk;rw[List.map_set];refine List.ext_getElem? λi=>?_;rw[List.getElem?_set];split
 .rename_i e;subst e;rw[if_pos (by simpa using hl),List.getElem?_map,List.getElem?_eq_getElem hl];rfl
 .rfl
section
variable {h h':ah}{tb bw bp bl:Nat}{c:jU}{vb:Value}{bf N:Nat}{Ts:List TB}{W:List IE}{wc:Nat}{F F':List Int}{B:List Bool}
theorem iZ.BX(s:iZ h tb bw bp bl c vb bf N Ts W wc F B){k:Nat}{b:TB}(hk:Ts[k]? = some b){M':List HE}{clock':Nat}{e:HE}(he:e∈b.M){Q1:List R5}{w1:Int}(m:eE h h' b.bb b.bm bp bl bf b.M M' clock' F' B e Q1 w1)(hid:Q1.map (·.id)=e.Q.map (·.id))(hw:w1<=e.w+1):iZ h' tb bw bp bl c vb bf (N+1) (Ts.set k ⟨b.bb,b.bm,M',clock'⟩) W wc F' B:=by
 have hb:=List.mem_of_getElem? hk;have is:=s.is.bk b hb;have hp:=m.Ri is he hid;have hwe:=s.wb b hb e he;exact s.step hk m.is m.fr (λX hX=>(hp.append_right X).trans hX) (λi hi=>hp.mem_iff.1 hi) (m.sub he) (m.set.wb (s.wb b hb) XV) (m.len is (s.len b hb) he) rfl
theorem iZ.left(s:iZ h tb bw bp bl c vb bf N Ts W wc F B){k:Nat}{b:TB}(hk:Ts[k]? = some b){M':List HE}{clock':Nat}{e:HE}(he:e∈b.M){p:R5}{n:Nat}(hf:bU e.Q (n:Int)=some p)(sN:B[n]? = some true)(m:eE h h' b.bb b.bm bp bl bf b.M M' clock' F' (B.set n false) e (e.Q.filter λr=>!bE (n:Int) r) e.w):iZ h' tb bw bp bl c vb bf (N+1) (Ts.set k ⟨b.bb,b.bm,M',clock'⟩) W wc F' (B.set n false):=by
 have hb:=List.mem_of_getElem? hk;have is:=s.is.bk b hb;have hp:=m.Rj is he hf;have hwe:=s.wb b hb e he;refine s.step hk m.is m.fr (λX hX=>?_) (λi hi=>hp.mem_iff.2 (List.mem_append.2 (.inl hi))) (m.sub he) (m.set.wb (s.wb b hb) XV) (m.len is (s.len b hb) he) (List.length_set ..);have h1:=(hp.append_right X).symm.trans (hX.trans (M3 sN));rw[List.append_assoc]at h1;have h2:=(List.Perm.append_left (ig M') (List.perm_append_comm (l₁:=X) (l₂:=[(n:Int)]))).trans h1;rw[<-List.append_assoc]at h2;exact(List.perm_append_right_iff _).1 h2
theorem Rl(s:iZ h tb bw bp bl c vb bf N Ts W wc F B)(hlo:h.lo<=h.nx)(id:Int)(Y:KQ)(Jy:(∀b∈Ts,∀e∈b.M,bU e.Q id=none)->Y (.tuple ⟨[.slice none 0 0,X1 5]⟩) h)(nj:∀(k:Nat)(b:TB) h' M' clock' F' v' e p (n:Nat),Ts[k]? = some b->e∈b.M->bU e.Q id=some p->id=(n:Int)->B[n]? = some true->F'.Perm (F++[(n:Int)])->
   eE h h' b.bb b.bm bp bl bf b.M M' clock' F' (B.set n false) e (e.Q.filter λr=>!bE id r) e.w->vD h h' v' (dx (fO (e.Q.filter λr=>!bE id r)+1) (e.Q.filter λr=>!bE id r)).2->iZ h' tb bw bp bl c vb bf (N+1) (Ts.set k ⟨b.bb,b.bm,M',clock'⟩) W wc F' (B.set n false)->Y (.tuple ⟨[v',X1 0]⟩) h'):aj prog 352 [X3 tb,X1 id] h Y:=by
 apply X2;rw[Zv];refine HB s hlo id _ ?_ ?_
 .intro hno;simp(disch:=try exact QQ)only[Wz,rC];refine xH tb h _ ?_;exact Jy hno
 .intro k b e p hk he hf;have hb:=List.mem_of_getElem? hk;simp(disch:=try exact QQ)only[Wz,gT];refine M5 (s.is.bk b hb) hlo (s.L8 hk) id _ ?_ ?_
  .intro h1 hno _;rw[hno e he]at hf;cases hf
  .intro h1 M' clock' F' v' e1 p1 n tR Dq hid sN hpF mv ho;simp(disch:=try exact QQ)only[Wz];have mv':=mv;have hf':=Dq;rw[hid]at hf' mv';exact nj k b h1 M' clock' F' v' e1 p1 n hk tR Dq hid sN hpF mv ho (s.left hk tR hf' sN mv')
theorem HD{β:Type}{fl:β}(cn:Bool)(b o:Nat)(h:ah)(Y:XW β):aG fl prog .neq 119 cn false (.pointer (some ⟨b,o,none⟩)) (.pointer none) h Y=Y (.bool true) h:=by simp only[aG,WH,cF,Bool.not_false]
end
theorem eP.zP{h h':ah}{bp bl:Nat}{F:List Int}{B:List Bool}(p:eP h bp bl F B)(hn:h.nx<=h'.nx)(hl:h'.lo=h.lo)(hc:∀c vs ty op,c<h.nx->ty≠205->ty≠194->h.bl.get c=some (ai vs ty op)->h'.bl.get c=h.bl.get c):eP h' bp bl F B:=by
 have pl:=p.lt;have fl:=p.fr.lt;obtain⟨fs,hg,hpt⟩:=p.fr.cell;refine⟨⟨XV,by rw[hl];exact p.fr.lo,fs,(hc _ _ _ _ fl X0 X0 hg).trans hg,?_⟩,XV,by rw[hl];exact p.lo,(hc _ _ _ _ pl X0 X0 p.cell).trans p.cell,p.ok,p.small⟩;rcases hpt with e|⟨b,G,e,k1,k2,k3,k4⟩
 .exact .inl e
 .exact .inr ⟨b,G,e,XV,XV,(hc _ _ _ _ k1 X0 X0 k3).trans k3,k4⟩
theorem bu.zP{h h':ah}{bb bm bp bl most clock:Nat}{M:List HE}{F:List Int}{B:List Bool}(s:bu h bb bm bp bl most M clock F B)(hn:h.nx<=h'.nx)(hl:h'.lo=h.lo)(hc:∀c vs ty op,c<h.nx->ty≠205->ty≠194->h.bl.get c=some (ai vs ty op)->h'.bl.get c=h.bl.get c)(hm:h'.bl.get bm=h.bl.get bm):bu h' bb bm bp bl most M clock F B:=by
 have sb:=s.Of;have sm:=s.r7;refine⟨XV,XV,by rw[hl];exact s.T9,(hc _ _ _ _ sb X0 X0 s.iC).trans s.iC,hm.trans s.gf,s.ok,λe he=>?_,s.good,s.di.zP hn hl hc,s.ne⟩;have a:=s.bf e he;have al:=a.lt;exact⟨XV,(hc _ _ _ _ al X0 X0 a.get).trans a.get,a.qv.frame hn λc vs op h1 hg=>hc c vs _ op h1 X0 X0 hg⟩
theorem HF(H:Int)(bp:Nat)(h:ah)(Y:KQ)(hh:¬(1<=H/\H<=64))(hk:Y (.tuple ⟨[.pointer none,X1 2]⟩) h):aj prog 153 [X1 H,X3 bp] h Y:=by
 apply X2;rw[P5];by_cases h1:H<1
 .simp(disch:=try exact QQ)only[Wz,bq h1];exact hk
 .simp(disch:=try exact QQ)only[Wz,a_ h1,dw (show(64:Int)<H by omega)];exact hk
theorem Ni(R:Int)(h:ah)(Y:KQ)(hh:128<R)(hk:Y (.tuple ⟨[.pointer none,X1 2]⟩) h):aj prog 152 [X1 R] h Y:=by
 apply X2;rw[P4];simp(disch:=try exact QQ)only[Wz,b_ (show(0:Int)<=R by omega),dw hh];exact hk
theorem Up(S H R P:Int)(bp:Addr)(b:Nat)(Y:List Value->Prop):bM False [(6,1)] [.map (some b)] [X1 S,X1 H,X1 R,X1 P,.pointer (some bp),.slice none 0 0,.map none] Y=Y [X1 S,X1 H,X1 R,X1 P,.pointer (some bp),.slice none 0 0,.map (some b)]:=by kernel_rfl
theorem HG(n:Nat):lg (List.replicate n false)=[]:=by
 rw[List.eq_nil_iff_forall_not_mem];intro x hx;obtain⟨k,_,hn⟩:=kN.1 hx;rw[List.getElem?_replicate]at hn;split at hn<;>simp at hn
def HH(c:jU):Value:=.agg ⟨[X1 c.S,X1 c.H,X1 c.R,X1 c.P]⟩
def j7(c:jU):Prop:=1<=c.S/\c.S<=16/\0<=c.P/\c.P<=8/\1<=c.R/\c.R<=128/\1<=c.H/\c.H<=64
theorem Uq(c:jU)(h:ah)(Y:KQ)(hlo:h.lo<=h.nx)(hkE:∀h' (e:Int),e=2->¬j7 c->Le h h'->Y (.tuple ⟨[.pointer none,X1 e]⟩) h')(QJ:∀h' tb bw bp bl vb bf Ts F,j7 c->iZ h' tb bw bp bl c vb bf 0 Ts [] 0 F (List.replicate c.R.toNat false)->(∀b∈Ts,h.nx<=b.bm)->h.nx<=bw->h.nx<=bp->h.nx<=bl->Le h h'->(∀x,FB h' bp x->h.nx<=x)->Y (.tuple ⟨[X3 tb,X1 0]⟩) h'):aj prog 98 [HH c] h Y:=by
 apply X2;rw[adA];simp(disch:=try exact QQ)only[Wz,HH];obtain⟨hA,bH,aY,g1,ia,ic⟩:=oR h (ai [X1 c.S,X1 c.H,X1 c.R,X1 c.P] 115 false);rw[<-bH];clear bH;by_cases hS1:c.S<1
 .simp(disch:=try exact QQ)only[Wz,bq hS1];exact hkE _ 2 rfl (by unfold j7;omega) aY
 by_cases hS2:16<c.S
 .simp(disch:=try exact QQ)only[Wz,a_ hS1,g1,bq hS2];exact hkE _ 2 rfl (by unfold j7;omega) aY
 by_cases hP1:c.P<0
 .simp(disch:=try exact QQ)only[Wz,a_ hS1,g1,a_ hS2,bq hP1];exact hkE _ 2 rfl (by unfold j7;omega) aY
 by_cases hP2:8<c.P
 .simp(disch:=try exact QQ)only[Wz,a_ hS1,g1,a_ hS2,a_ hP1,bq hP2];exact hkE _ 2 rfl (by unfold j7;omega) aY
 by_cases hR1:c.R<1
 .simp(disch:=try exact QQ)only[Wz,a_ hS1,g1,a_ hS2,a_ hP1,a_ hP2,bq hR1];exact hkE _ 2 rfl (by unfold j7;omega) aY
 simp(disch:=try exact QQ)only[Wz,a_ hS1,g1,a_ hS2,a_ hP1,a_ hP2,a_ hR1,LK];by_cases hR2:128<c.R
 .refine Ni c.R hA _ hR2 ?_;simp(disch:=try exact QQ)only[Wz];exact hkE _ 2 rfl (by unfold j7;omega) aY
 obtain⟨R,eR⟩:∃R:Nat,c.R=(R:Int):=⟨c.R.toNat,XV⟩
 rw[eR];refine MZ R hA _ XV XV ?_;intro bp bl h2 F p hne h2p h2l hF oI ajI;have n2:=oI.nx;have l2:=oI.lo;have apj:=p.fr.lt;have apk:=p.lt;have g12:=(oI.get h.nx XV).trans g1;rw[eR]at g12;simp(disch:=try exact QQ)only[Wz,LJ,g12,Up,eY];obtain⟨hB,ji,cC,gw,gt,A1,A2⟩:=DK h2 (.map [] 0) (ai [X1 c.S,X1 c.H,X1 (R:Int),X1 c.P,X3 bp,.slice none 0 0,.map (some h2.nx)] 194 false);rw[<-ji];clear ji;have uw:=cC.nx;have ux:=cC.lo;have g12:=(cC.get _ XV).trans g12;by_cases hH:1<=c.H/\c.H<=64
 case neg=>
  refine⟨λn l h1=>aa l 26=X1 0/\HQ hB h1,⟨0,rfl,rfl⟩,?_⟩;rintro n l h1 ⟨s1,hq⟩;cases(show hB=h1 from hq);simp(disch:=try exact QQ)only[Wz,s1,dw (show(0:Int)<c.S by omega),C5,g12];refine HF c.H bp hB _ hH ?_;simp(disch:=try exact QQ)only[Wz];exact hkE _ 2 rfl (by unfold j7;omega) ((aY.trans oI).trans cC)
 obtain⟨bf,eH⟩:∃n:Nat,c.H=(n:Int):=⟨c.H.toNat,XV⟩
 obtain⟨S,eS⟩:∃n:Nat,c.S=(n:Int):=⟨c.S.toNat,XV⟩
 refine ⟨λn l h1=>∃(i:Nat)(Ts:List TB)(v:Value),aa l 26=X1 (i:Int)/\n=S-i/\i<=S/\Ts.length=i/\h1.bl.get (h2.nx+1)=some (ai [X1 c.S,X1 c.H,X1 (R:Int),X1 c.P,X3 bp,v,.map (some h2.nx)] 194 false)/\
   h1.bl.get h2.nx=some (.map [] 0)/\eG ny h2 205 h1 v Ts/\eP h1 bp bl F (List.replicate R false)/\(∀b∈Ts,bu h1 b.bb b.bm bp bl bf [] 0 F (List.replicate R false)/\b.M=[]/\b.clock=0/\hB.nx<=b.bm)/\Ts.Pairwise (λa b=>a.bm≠b.bm)/\Le h2 h1/\hB.nx<=h1.nx,
  ⟨_,0,[],_,rfl,rfl,XV,rfl,gt,gw,.inl ⟨rfl,.inl rfl⟩,p.le cC,λb hb=>(nomatch hb),List.Pairwise.nil,cC,Nat.le_refl _⟩,?_⟩
 rintro n l h1 ⟨i,Ts,v,s1,rfl,hi,hTl,gt1,Rn,ho,p1,hbk,hds,bF,nB⟩;have n1:=bF.nx;have l1:=bF.lo;by_cases hlt:i<S
 .have ajJ:=(bF.get h.nx XV).trans ((oI.get h.nx XV).trans g1);simp(disch:=try exact QQ)only[Wz,s1,dw (show(i:Int)<c.S by omega),C5,ajJ,eH];refine Hs bf bp h1 _ XV XV ?_;intro h3 d_ nx3 gm3 XL;have n3:=d_.nx;have l3:=d_.lo;have gt3:=(d_.get _ XV).trans gt1;obtain⟨vx,vc,ev,_⟩:=(show Sl ny h1 v Ts from ho.sl)
  simp(disch:=try exact QQ)only[Wz,LI,aL,gt3];obtain⟨h4,e4⟩:∃h4:ah,h4=⟨h3.nx+1,h3.bl.bx h3.nx (ai [.pointer (some ⟨h1.nx+1,0,none⟩)] 205 false),h3.lo⟩:=⟨_,rfl⟩
  have mE:Le h3 h4:=by rw[e4];exact(Le.refl h3).new _
  have g4:h4.bl.get h3.nx=some (ai ([(⟨h1.nx+1,h1.nx,[],0⟩:TB)].flatMap ny) 205 false):=by rw[e4];exact T.an _ _ _
  have nx4:h4.nx=h3.nx+1:=by rw[e4]
  have l4:h4.lo=h3.lo:=by rw[e4]
  try rw[<-e4]
  clear e4;have Ro:=d_.trans mE;have gt4:=(mE.get _ XV).trans gt3;refine eN (enc:=ny) (a:=h2) (L:=Ts) (M:=[(⟨h1.nx+1,h1.nx,[],0⟩:TB)]) BW Nh X0 X0 (ho.le Ro) (Sl.new XV g4 _) (bF.trans Ro) (by simp;omega) XV _ ?_;intro v5 h5 A0 lI nx5 apn l5 uE;have gt5:=(uE (h2.nx+1) XV (by rw[gt4];exact br)).trans gt4;obtain⟨vx5,vc5,ev5,_⟩:=(show Sl ny h5 v5 _ from A0.sl)
  subst ev5;simp(disch:=try exact QQ)only[Wz,aL,gt5];have M4:∀c vs ty op,c<h4.nx->ty≠205->h4.bl.get c=some (ai vs ty op)->h5.bl.get c=h4.bl.get c:=λc vs ty op hc hty hg=>uE c hc (by rw[hg];exact bz hty);have fm5:∀c es cl,c<h4.nx->h4.bl.get c=some (.map es cl)->h5.bl.get c=h4.bl.get c:=λc es cl hc hg=>uE c hc (by rw[hg];exact bL);obtain⟨h6,e6⟩:∃h6:ah,h6=⟨h5.nx,h5.bl.bx (h2.nx+1) (ai [X1 c.S,X1 c.H,X1 (R:Int),X1 c.P,X3 bp,.slice vx5 (Ts++[(⟨h1.nx+1,h1.nx,[],0⟩:TB)]).length vc5,.map (some h2.nx)] 194 false),h5.lo⟩:=⟨_,rfl⟩
  have gt6:h6.bl.get (h2.nx+1)=some (ai [X1 c.S,X1 c.H,X1 (R:Int),X1 c.P,X3 bp,.slice vx5 (Ts++[(⟨h1.nx+1,h1.nx,[],0⟩:TB)]).length vc5,.map (some h2.nx)] 194 false):=by rw[e6];exact T.an _ _ _
  have aeT:∀d,d≠h2.nx+1->h6.bl.get d=h5.bl.get d:=λd hd=>by rw[e6];exact T.au _ _ (λe=>hd e.symm)
  have Qz:eG ny h2 205 h6 (.slice vx5 (Ts++[(⟨h1.nx+1,h1.nx,[],0⟩:TB)]).length vc5) (Ts++[(⟨h1.nx+1,h1.nx,[],0⟩:TB)]):=by rw[e6];exact eG.put A0 (by rw[gt5];exact br) _
  have mR:Le h2 h6:=by rw[e6];exact lI.set (b:=h2.nx+1) XV _
  have nx6:h6.nx=h5.nx:=by rw[e6]
  have l6:h6.lo=h5.lo:=by rw[e6]
  rw[<-e6];clear e6;have hc6:∀d vs ty op,d<h4.nx->ty≠205->ty≠194->h4.bl.get d=some (ai vs ty op)->h6.bl.get d=h4.bl.get d:=by
   intro d vs ty op hd h1 SN hg;refine(aeT d ?_).trans (M4 d vs ty op hd h1 hg);rintro rfl;rw[hg]at gt4;exact bz SN gt4
  have hm6:∀d es cl,d<h4.nx->h4.bl.get d=some (.map es cl)->h6.bl.get d=h4.bl.get d:=by
   intro d es cl hd hg;refine(aeT d ?_).trans (fm5 d es cl hd hg);rintro rfl;rw[hg]at gt4;exact bL gt4
  have gw4:=(Ro.get h2.nx XV).trans Rn;have p4:=p1.le Ro;have p6:=p4.zP XV XV hc6;have uB:bu h4 (h1.nx+1) h1.nx bp bl bf [] 0 F (List.replicate R false):=⟨XV,XV,XV,(mE.get _ XV).trans XL,(mE.get _ XV).trans gm3,⟨List.Pairwise.nil,List.Pairwise.nil,λe he=>(nomatch he)⟩,λe he=>(nomatch he),λe he=>(nomatch he),p4,hne⟩
  have yE:∀b∈Ts,b.bm<h1.nx:=λb hb=>(hbk b hb).1.r7;simp(disch:=try exact QQ)only[Wz,s1];refine⟨_,XV,i+1,Ts++[⟨h1.nx+1,h1.nx,[],0⟩],.slice vx5 (Ts++[(⟨h1.nx+1,h1.nx,[],0⟩:TB)]).length vc5,rfl,rfl,XV,by simp;omega,by rw[<-eH];exact gt6,(hm6 _ _ _ XV gw4).trans gw4,Qz,p6,?_,?_,mR,XV⟩
  .intro b hb;rcases List.mem_append.1 hb with hb|hb
   .obtain⟨k1,k2,k3,k4⟩:=hbk b hb;have k5:=k1.le Ro;exact⟨k5.zP XV XV hc6 (hm6 _ _ _ k5.r7 k5.gf),k2,k3,k4⟩
   .rw[List.mem_singleton]at hb;subst hb;exact⟨uB.zP XV XV hc6 (hm6 _ _ _ uB.r7 uB.gf),rfl,rfl,nB⟩
  .exact uf hds λq hq=>Nat.ne_of_lt (yE q hq)
 .have hiS:i=S:=by omega
  simp(disch:=try exact QQ)only[Wz,s1,b_ (show c.S<=(i:Int)by omega)];have AI:∀b∈Ts,b.M=[]:=λb hb=>(hbk b hb).2.1;have hM:∀(k:Nat)(b:TB),Ts[k]? = some b->b.M=[]:=λk b hb=>AI b (List.mem_of_getElem? hb);have A3:(Ts.flatMap λb=>ig b.M)=[]:=by
   rw[List.flatMap_eq_nil_iff];intro b hb;rw[AI b hb];rfl
  have eRn:c.R.toNat=R:=by omega
  refine QJ h1 (h2.nx+1) h2.nx bp bl v bf Ts F (by unfold j7;omega) ⟨⟨XV,by rw[eR];exact gt1,ho.sl,mQ.own ho,XV,XV,Rn,λb hb=>?_,hds,λb hb=>?_,by rw[eRn];exact p1,XV,XV,XV⟩,?_,?_,?_,?_,?_,?_,XV⟩ (λb hb=>?_) XV XV XV ?_ ?_
  .obtain⟨k1,k2,k3,k4⟩:=hbk b hb;rw[k2,k3,eRn];exact k1
  .have:=(hbk b hb).2.2.2;omega
  .rw[A3,HG]
  .intro k b hk e he;rw[hM k b hk]at he;nomatch he
  .intro k b hk e he;rw[hM k b hk]at he;nomatch he
  .intro b hb e he;rw[AI b hb]at he;nomatch he
  .intro b hb;rw[AI b hb];exact Nat.zero_le _
  .rw[List.length_replicate];omega
  .have:=(hbk b hb).2.2.2;omega
  .exact aY.trans (oI.trans bF)
  .intro x hx;have:=ajI x ((FB.congr (bF.get bp p.fr.lt)).1 hx);omega
structure HC where
 t:Int
 r:Int
 a:Option Addr
 n:Nat
 c:Nat
 w:Int
instance :Inhabited HC:=⟨⟨0,0,none,0,0,0⟩⟩
def zQ(x:HC):List Value:=[X1 x.t,X1 x.r,.slice x.a x.n x.c,X1 x.w]
def cfH(x y:HC):Int:=Ix (x.t,x.r) (y.t,y.r)
theorem ajM:Go.Sort.SWO (ltOf cfH) where
 irrefl x:=Q8.irrefl (x.t,x.r)
 trans x y z h1 h2:=Q8.trans (x.t,x.r) (y.t,y.r) (z.t,z.r) h1 h2
 ntrans x y z h1 h2:=Q8.ntrans (x.t,x.r) (y.t,y.r) (z.t,z.r) h1 h2
theorem JL(t r t' r':Int)(W:World):Calls prog 96 #[.agg #[X1 t,X1 r],.agg #[X1 t',X1 r']] W λe w'=>e=.returned (X1 (ry t r t' r'))/\∃q os',w'=Go.Sort.grow (W.drewN q) os':=
 mF noSideHere (args:=[iF t r,iF t' r']) (args':=[iF t r,iF t' r']) (rz t r t' r' rfl) (.cons (VR.qC (.cons (.int _ _) (.cons (.int _ _) .nil))) (.cons (VR.qC (.cons (.int _ _) (.cons (.int _ _) .nil))) .nil)) rfl W
theorem Rp(x y:HC)(W:World):Calls prog 111 #[.agg #[X1 x.t,X1 x.r,.slice x.a x.n x.c,X1 x.w],.agg #[X1 y.t,X1 y.r,.slice y.a y.n y.c,X1 y.w]] W λe w'=>e=.returned (X1 (cfH x y))/\∃q os',w'=Go.Sort.grow (W.drewN q) os':=by
 have aeU:=λW'=>JL x.t x.r y.t y.r W'
 show Calls _ _ _ _ λe w'=>e=.returned (X1 (ry x.t x.r y.t y.r))/\_
 generalize ry x.t x.r y.t y.r=v at aeU ⊢;generalize x.t=xt,x.r=xr,y.t=yt,y.r=yr at *
 go_enter Tryz.func111,Tryz.ntmps111
 go_wp2_with (go_at_call 96;refine(aeU _).mono ?_;rintro e w' ⟨rfl,q,os',rfl⟩)
 go_ret
 refine⟨rfl,?_⟩;rw[Go.Sort.alloc_eq_grow,Go.Sort.alloc_eq_grow,Go.Sort.grow_grow];exact⟨q,_,(show Go.Sort.grow (Go.Sort.grow (W.drewN q) _) os'=_ from Go.Sort.grow_grow _ _ _)⟩
theorem Rq(blk size:Nat)(w:World):Go.Proofs.CmpLays prog 111 #[] zQ 4 cfH blk 0 size w:=by
 intro m os dk _ x y;exact Rp x y _
theorem wG:∀args w,(callFunc 110 args).run prog w=.ok (.enter 110 args) w:=enters_of Tryz.func110 (by kernel_rfl) rfl
theorem Dr(blk cap:Nat)(d:Array HC)(w:World)(hH:Go.Sort.HoldsK zQ 4 w blk 0 d)(hblk:blk<w.heap.size)(hsz:d.size<4611686018427387904):Calls prog 110 #[X9 blk d.size cap,.func (.func 111) #[] #[]] w λe w'=>e=.returned (.tuple #[])/\∃d' n os,Go.Sort.PermIn 0 d.size d d'/\Go.Sort.SortedIn (λx y=>ltOf Ix (x.t,x.r) (y.t,y.r)) 0 d.size d'/\w'=Go.Proofs.sortWorldK zQ 4 w blk 0 n d' os:=by
 have eg:∀args w,(callFunc 111 args).run prog w=.ok (.enter 111 args) w:=enters_of Tryz.func111 (by kernel_rfl) rfl;exact Go.Proofs.AnyQ.slices_SortFunc Tryz.Hl 4 Tryz.isAgg55 Tryz.sizeOf55 zQ (λ_=>rfl) (λx v hv=>by simp[zQ]at hv;rcases hv with rfl|rfl|rfl|rfl<;>rfl) cfH ajM 111 #[] blk 0 cap d w eg (Rq blk d.size w) hH hblk hsz
theorem A6(p:Option Addr)(cap:Nat)(fv:Value)(w:World):Calls prog 110 #[.slice p 0 cap,fv] w λe w'=>e=.returned (.tuple #[])/\w'=w:=Go.Proofs.AnyF.slices_SortFunc_none Tryz.Hl p cap fv w
theorem Rr(q:Value):∃a n c,slV q=.slice a n c:=by
 unfold slV;split
 .exact⟨_,_,_,rfl⟩
 .exact⟨_,_,_,rfl⟩
theorem VR.toSlice{φ:ej}{a:Option Addr}{n c:Nat}{v:Value}(h:VR φ (.slice a n c) v):∃a' n' c',v=.slice a' n' c':=by
 cases h<;>exact⟨_,_,_,rfl⟩
theorem ajN(φ:ej)(x:HE)(cs:List Value)(h:F2 (VR φ) (oM x) cs):∃y:HC,cs=zQ y/\(x.t,x.r)=(y.t,y.r):=by
 obtain⟨a,n,c,e⟩:=Rr x.q;unfold oM at h;rw[e]at h;cases h with|cons h1 h=>
 cases h with|cons h2 h=>
 cases h with|cons h3 h=>
 cases h with|cons h4 h=>
 cases h;cases h1;cases h2;cases h4;obtain⟨a',n',c',rfl⟩:=VR.toSlice h3;exact⟨⟨x.t,x.r,a',n',c',x.w⟩,rfl,rfl⟩
theorem Ur(a h:ah)(K:List HE)(v:Value)(Y:KQ)(ho:Q_ a h v K)(hle:Le a h)(hl:K.length<=1000000)(hk:∀(D:List HE) h',D.Perm K->D.Pairwise (λx y=>¬rA (y.t,y.r) (x.t,x.r))->Q_ a h' v D->Le a h'->(h'.nx=h.nx/\∀c,c<h.nx->h.bl.get c≠some (ai (K.flatMap oM) 55 true)->h'.bl.get c=h.bl.get c)->Y (.tuple ⟨[]⟩) h'):aj prog 110 [v,.func (.func 111) #[] #[]] h Y:=by
 rcases ho with⟨rfl,hv⟩|⟨b,hv,h1,h2,h3,h4⟩
 .exact r_ wG A6 hv (hk [] h (List.Perm.refl _) List.Pairwise.nil (.inl ⟨rfl,hv⟩) hle ⟨rfl,λ_ _ _=>rfl⟩)
 .cases hv;refine Dj X0 (enc:=zQ) (dh:=oM) (λ_=>rfl) uD (kA:=λx=>(x.t,x.r)) (kC:=λx=>(x.t,x.r)) (lt:=λx y=>ltOf Ix x y) ajN wG Dr h4 h3 hl ?_;intro D hp hs;refine hk D _ hp (hs.imp λ{x y} h=>LV.1 h) (.inr ⟨b,by rw[hp.length_eq],h1,h2,h3,T.an _ _ _⟩) ⟨hle.nx,hle.lo,λc hc=>?_⟩ ⟨rfl,λc hc hne=>?_⟩
  .exact(T.au _ _ XV).trans (hle.get c hc)
  .refine T.au _ _ ?_;rintro rfl;exact hne h4
structure zS(h:ah)(Ts:List TB)(v:Value)(K:List HE):Prop where
 perm:(K.map dR).Perm (Ts.flatMap λb=>b.M.map dR)
 srt:(K.map dR).Pairwise rA
 each:∀k∈K,(∃b∈Ts,∃e∈b.M,BT k e)/\QV h k.q k.Q
 sl:Sl oM h v K
 ty:mQ 55 h v
theorem zS.le{h h':ah}{Ts:List TB}{v:Value}{K:List HE}(t:zS h Ts v K)(l:Le h h'):zS h' Ts v K:=
 ⟨t.perm,t.srt,λk hk=>⟨(t.each k hk).1,(t.each k hk).2.le l⟩,t.sl.le l,t.ty.le l⟩
theorem tE.keep{h h':ah}{tb bw bp bl:Nat}{c:jU}{vb:Value}{bf:Nat}{Ts:List TB}{W:List IE}{wc:Nat}{F:List Int}{B:List Bool}(s:fF h tb bw bp bl c vb bf Ts W wc F B)(f:tE Ts bw bp bl h h'){d:Nat}{vs:List Value}{ty:TypeId}{op:Bool}(hd:d<h.nx)(hg:h.bl.get d=some (ai vs ty op))(h1:ty≠286)(h2:ty≠4)(h3:ty≠3):h'.bl.get d=h.bl.get d:=by
 obtain⟨fs,zz,hpt⟩:=s.di.fr.cell;have gl:=s.di.cell;have gw:=s.lz;refine f.get d hd (λb hb=>?_) (by rintro rfl;rw[hg]at gw;exact bL gw.symm) (by rintro rfl;rw[hg]at zz;exact bz h1 zz) (by rintro rfl;rw[hg]at gl;exact bz h2 gl) λws=>by rw[hg];exact bz h3
 rintro rfl;have gm:=(s.bk b hb).gf;rw[hg]at gm;exact bL gm.symm
section
variable {h:ah}{tb bw bp bl:Nat}{c:jU}{vb:Value}{bf N:Nat}{Ts:List TB}{W:List IE}{wc:Nat}{F:List Int}{B:List Bool}
theorem iZ.nodup(s:iZ h tb bw bp bl c vb bf N Ts W wc F B):(Ts.flatMap λb=>b.M.map dR).Nodup:=by
 rw[List.Nodup,List.pairwise_flatMap];constructor
 .intro b hb;rw[List.pairwise_map];exact(s.is.bk b hb).ok.nm.imp λhn e=>hn ⟨congrArg Prod.fst e,congrArg Prod.snd e⟩
 .rw[c8];intro i j p q hij hp hq x hx y hy hxy;obtain⟨e,he,rfl⟩:=List.mem_map.1 hx;obtain⟨f,hf,rfl⟩:=List.mem_map.1 hy;have h1:=s.nm i p hp e he;have h2:=s.nm j q hq f hf;have e1:e.t=f.t:=congrArg Prod.fst hxy;have e2:e.r=f.r:=congrArg Prod.snd hxy;rw[e1,e2,h2]at h1;omega
theorem BY{α β:Type}(f:α->List β){L:List α}{i:Nat}{b:α}(h:L[i]? = some b):(L.take (i+1)).flatMap f=(L.take i).flatMap f++f b:=by
 rw[List.take_add_one,h,List.flatMap_append];simp
theorem xI(s:iZ h tb bw bp bl c vb bf N Ts W wc F B)(hlo:h.lo<=h.nx)(Y:KQ)(hk:∀v h' K,zS h' Ts v K->Le h h'->Y v h'):aj prog 62 [X3 tb] h Y:=by
 apply X2;rw[adr];have gt:=s.is.nD;have hs1:=s.is.s1;obtain⟨vx,vc,ev,_⟩:=(show Sl ny h vb Ts from s.is.sl)
 have Rs:∀(β:Type)(fl:β)(h':ah)(Y:XW β),bh fl vb h' Y=Y (X1 (Ts.length:Int)) h':=λβ fl h' Y=>by rw[ev];exact bX _ _ _ _ _
 simp(disch:=try exact QQ)only[Wz,oN,aL,gt,Rs];have ajO:=s.is.hd;refine⟨λn l h1=>∃(i:Nat)(K:List HE),aa l 10=X1 (i:Int)/\n=Ts.length-i/\i<=Ts.length/\(K.map dR).Perm ((Ts.take i).flatMap λb=>b.M.map dR)/\(∀k∈K,(∃b∈Ts,∃e∈b.M,BT k e)/\QV h1 k.q k.Q)/\K.length<=64*i/\Q_ h h1 (aa l 8) K/\Le h h1,
  ⟨_,0,[],rfl,rfl,XV,by simp,λk hk=>(nomatch hk),by simp,.inl ⟨rfl,.inl rfl⟩,Le.refl _⟩,?_⟩
 rintro n l h1 ⟨i,K,s1,rfl,hi,hp,hE,G0,ho,bF⟩;have n1:=bF.nx;have l1:=bF.lo;by_cases hlt:i<Ts.length
 .obtain⟨b,hb⟩:∃b,Ts[i]? = some b:=⟨_,List.getElem?_eq_getElem hlt⟩
  have hbT:=List.mem_of_getElem? hb;obtain⟨cc,oo,_,LP,mO⟩:=Rk s.is.sl i hb;have mO:=mO h1 bF;have sb:=(s.is.bk b hbT).le bF;have hbl:=s.len b hbT;simp(disch:=try exact QQ)only[Wz,C2,s1,dw (show(i:Int)<(Ts.length:Int)by omega),LP,mO];refine Nb sb XV XV _ ?_;intro v2 h2 K2 Wb hp2 hs2 hE2 uS bK;have n2:=bK.nx;have l2:=bK.lo;refine eN (enc:=oM) (a:=h) (L:=K) (M:=K2) uD Hr X0 X0 (ho.le bK) uS.sl (bF.trans bK) XV XV _ ?_;intro v5 h5 A0 lI _ n5 l5 uE;have M4:∀d vs op,d<h2.nx->h2.bl.get d=some (ai vs 57 op)->h5.bl.get d=h2.bl.get d:=λd vs op hc hg=>uE d hc (by rw[hg];exact bz X0);refine⟨_,XV,i+1,K++K2,rfl,rfl,XV,?_,?_,by rw[List.length_append];omega,A0,lI⟩
  .rw[BY _ hb,List.map_append];exact hp.append hp2
  .intro k hk';rcases List.mem_append.1 hk' with hk'|hk'
   .exact⟨(hE k hk').1,((hE k hk').2.le bK).frame n5 M4⟩
   .obtain⟨e,he,se⟩:=(hE2 k hk').1;exact⟨⟨b,hbT,e,he,se⟩,(hE2 k hk').2.frame n5 M4⟩
 .have hil:i=Ts.length:=by omega
  subst hil;rw[List.take_length]at hp;simp(disch:=try exact QQ)only[Wz,C2,s1,b_ (show(Ts.length:Int)<=(Ts.length:Int)by omega)];refine Ur h h1 K _ _ ho bF XV ?_;intro D h' hD hpw ho' le' hfr;have hnd:(D.map dR).Nodup:=(((hD.map dR).trans hp).nodup_iff).2 s.nodup;refine hk _ h' D ⟨(hD.map dR).trans hp,?_,λk hk'=>?_,ho'.sl,mQ.own ho'⟩ le'
  ·have h1:(D.map dR).Pairwise λx y=>¬rA y x:=by
    rw[List.pairwise_map];exact hpw.imp λ{x y} h=>h
   exact(hnd.and h1).imp λ{x y} ⟨hne,hn⟩=>LU (λe=>hne e.symm) hn
  .have:=hE k (hD.mem_iff.1 hk');exact⟨this.1,this.2.frame XV λd vs op hc hg=>hfr.2 d hc (by rw[hg];exact bz X0)⟩
end
structure L4 where
 x:Int
 t:Int
 r:Int
 m:Int
theorem aaM{p q:L4}:p=q<->(p.x=q.x/\p.t=q.t/\p.r=q.r/\p.m=q.m):=by cases p;cases q;simp
instance :DecidableEq L4:=λp q=>decidable_of_iff _ aaM.symm
instance :Inhabited L4:=⟨⟨0,0,0,0⟩⟩
def kW(a:L4):List Value:=[X1 a.x,X1 a.t,X1 a.r,X1 a.m]
theorem uG(a:L4):(kW a).length=4:=rfl
theorem Rt(a:L4):(kW a).all eO=true:=rfl
def Ru(a b:L4):Int:=if eX a.x b.x=0 then ry a.t a.r b.t b.r else eX a.x b.x
def Iy(a b:L4):Prop:=a.x<b.x\/(a.x=b.x/\rA (a.t,a.r) (b.t,b.r))
theorem Ds(a b:L4):ltOf Ru a b=true<->Iy a b:=by
 show decide (Ru a b<0)=true<->_
 rw[decide_eq_true_eq];have:=Hj (a.t,a.r) (b.t,b.r);unfold Ru Iy;split
 .rename_i h;have hx:a.x=b.x:=by unfold eX at h;split at h<;>(try split at h)<;>omega
  rw[this];constructor
  .exact λh=>.inr ⟨hx,h⟩
  .rintro(h|h)
   .omega
   .exact h.2
 .rename_i h;unfold eX at *
  split
  .exact⟨λ_=>.inl (by assumption),λ_=>by decide⟩
  .rename_i h1;rw[if_neg h1]at h;split
   .exact⟨λh=>by omega,λh=>by rcases h with h|h<;>omega⟩
   .rename_i h2;rw[if_neg h2]at h;exact absurd rfl h
theorem Rv{a b:L4}:ltOf Ru a b=false<->¬Iy a b:=by rw[<-Ds,Bool.not_eq_true]
theorem Nj{a b c:L4}(h1:Iy a b)(h2:Iy b c):Iy a c:=by unfold Iy rA at *;simp only at *;omega
theorem ajQ:Go.Sort.SWO (ltOf Ru) where
 irrefl x:=Rv.2 (by unfold Iy rA;simp only;omega)
 trans x y z h1 h2:=(Ds _ _).2 (Nj ((Ds _ _).1 h1) ((Ds _ _).1 h2))
 ntrans x y z h1 h2:=by
  rw[Rv]at *
  unfold Iy rA at *
  simp only at *
  omega
theorem aaN(a b:L4){h:ah}{Y:KQ}(hk:Y (X1 (Ru a b)) h):aj prog 117 [.agg ⟨kW a⟩,.agg ⟨kW b⟩] h Y:=by
 refine iX (v:=X1 (Ru a b)) rfl rfl (ay mixed ?_) hk;rw[Yg];simp(disch:=try exact QQ)only[Wz,kW];refine gM _ _ ?_;simp(disch:=try exact QQ)only[Wz];refine rz _ _ _ _ ?_;simp(disch:=try exact QQ)only[Wz];refine Ui _ _ _ _ (Sl.new (L:=[eX a.x b.x,ry a.t a.r b.t b.r]) (e:=3) (op:=false) (Nat.lt_succ_self _) (T.an _ _ _) _) _ ?_;rfl
theorem Rw(blk size:Nat)(w:World):Go.Proofs.CmpLays prog 117 #[] kW 4 Ru blk 0 size w:=by
 intro m os dk _ x y;exact mF noSideHere (args:=[.agg ⟨kW x⟩,.agg ⟨kW y⟩]) (args':=[.agg ⟨kW x⟩,.agg ⟨kW y⟩]) (aaN x y rfl)
  (.cons (VR.qC (.cons (.int _ _) (.cons (.int _ _) (.cons (.int _ _) (.cons (.int _ _) .nil))))) (.cons (VR.qC (.cons (.int _ _) (.cons (.int _ _) (.cons (.int _ _) (.cons (.int _ _) .nil))))) .nil)) rfl _
theorem wH:∀args w,(callFunc 116 args).run prog w=.ok (.enter 116 args) w:=enters_of Tryz.func116 (by kernel_rfl) rfl
theorem Dt(blk cap:Nat)(d:Array L4)(w:World)(hH:Go.Sort.HoldsK kW 4 w blk 0 d)(hblk:blk<w.heap.size)(hsz:d.size<4611686018427387904):Calls prog 116 #[X9 blk d.size cap,.func (.func 117) #[] #[]] w λe w'=>e=.returned (.tuple #[])/\∃d' n os,Go.Sort.PermIn 0 d.size d d'/\Go.Sort.SortedIn (λx y=>ltOf Ru x y) 0 d.size d'/\w'=Go.Proofs.sortWorldK kW 4 w blk 0 n d' os:=by
 have eg:∀args w,(callFunc 117 args).run prog w=.ok (.enter 117 args) w:=enters_of Tryz.func117 (by kernel_rfl) rfl;exact Go.Proofs.AnyQ.slices_SortFunc Tryz.Ho 4 Tryz.isAgg46 Tryz.sizeOf46 kW (λ_=>rfl) (λx v hv=>by simp[kW]at hv;rcases hv with rfl|rfl|rfl|rfl<;>rfl) Ru ajQ 117 #[] blk 0 cap d w eg (Rw blk d.size w) hH hblk hsz
theorem A7(p:Option Addr)(cap:Nat)(fv:Value)(w:World):Calls prog 116 #[.slice p 0 cap,fv] w λe w'=>e=.returned (.tuple #[])/\w'=w:=Go.Proofs.AnyF.slices_SortFunc_none Tryz.Ho p cap fv w
theorem ajR(φ:ej)(x:L4)(cs:List Value)(h:F2 (VR φ) (kW x) cs):∃y:L4,cs=kW y/\x=y:=by
 unfold kW at h;cases h with|cons h1 h=>
 cases h with|cons h2 h=>
 cases h with|cons h3 h=>
 cases h with|cons h4 h=>
 cases h;cases h1;cases h2;cases h3;cases h4;exact⟨x,rfl,rfl⟩
abbrev Nk(a h:ah)(v:Value)(L:List L4):Prop:=eG kW a 46 h v L
theorem Us(a h:ah)(L:List L4)(v:Value)(Y:KQ)(ho:Nk a h v L)(hle:Le a h)(hl:L.length<=1000000)(hk:∀(D:List L4) h',D.Perm L->D.Pairwise (λx y=>¬Iy y x)->Nk a h' v D->Le a h'->Y (.tuple ⟨[]⟩) h'):aj prog 116 [v,.func (.func 117) #[] #[]] h Y:=by
 rcases ho with⟨rfl,hv⟩|⟨b,hv,h1,h2,h3,h4⟩
 .exact r_ wH A7 hv (hk [] h (List.Perm.refl _) List.Pairwise.nil (.inl ⟨rfl,hv⟩) hle)
 .cases hv;refine Dj X0 (enc:=kW) (dh:=kW) uG uG (kA:=id) (kC:=id) (lt:=λx y=>ltOf Ru x y) ajR wH Dt h4 h3 hl ?_;intro D hp hs;refine hk D _ hp (hs.imp λ{x y} h=>Rv.1 h) (.inr ⟨b,by rw[hp.length_eq],h1,h2,h3,T.an _ _ _⟩) ⟨hle.nx,hle.lo,λc hc=>?_⟩;exact(T.au _ _ XV).trans (hle.get c hc)
def qb(t r:Int)(Q:List R5):List L4:=(Q.filter λp=>decide (p.m≠0)).map λp=>⟨p.x,t,r,p.m⟩
def jA(e:HE):List L4:=qb e.t e.r e.Q
theorem JM{t r:Int}{Q:List R5}{j:Nat}{p:R5}(h:Q[j]? = some p):qb t r (Q.take (j+1))=qb t r (Q.take j)++(if p.m≠0 then[⟨p.x,t,r,p.m⟩]else[]):=by
 unfold qb;rw[List.take_add_one,h];simp only[Option.toList_some,List.filter_append,List.map_append]
 congr 1
 by_cases hm:p.m≠0
 .rw[if_pos hm,List.filter_cons_of_pos (by simpa using hm)];rfl
 .rw[if_neg hm,List.filter_cons_of_neg (by simpa using hm)];rfl
theorem BZ{t r:Int}(Q:List R5):(qb t r Q).length<=Q.length:=by
 unfold qb;rw[List.length_map];exact List.length_filter_le _ _
theorem ajS:∀i,i<7->∀j,j<7->bW prog 200 17 [X1 (.ofNat i),X1 (.ofNat j)] (.bool (cmp (.ofNat i) (.ofNat j)))=true:=by decide +kernel
theorem ajT(n:Nat)(b:Int):bW prog 200 17 [X1 (.negSucc n),X1 b] (.bool false)=true:=by kernel_rfl
theorem ajU(n:Nat)(b:Int):bW prog 200 17 [X1 (.ofNat (n+7)),X1 b] (.bool false)=true:=by kernel_rfl
theorem ajV:∀i,i<7->∀n:Nat,bW prog 200 17 [X1 (.ofNat i),X1 (.negSucc n)] (.bool false)=true:=by
 refine seven ?_ ?_ ?_ ?_ ?_ ?_ ?_<;>intro n<;>kernel_rfl
theorem ajW:∀i,i<7->∀n:Nat,bW prog 200 17 [X1 (.ofNat i),X1 (.ofNat (n+7))] (.bool false)=true:=by
 refine seven ?_ ?_ ?_ ?_ ?_ ?_ ?_<;>intro n<;>kernel_rfl
theorem Nl(a b:Int){h:ah}{Y:KQ}(hk:Y (.bool (cmp a b)) h):aj prog 17 [X1 a,X1 b] h Y:=
 r6 mixed (F:=λa b=>.bool (cmp a b)) ajS (λn b=>by rw[EV (qQ n)];exact ajT n b) (λn b=>by rw[EV (qR n)];exact ajU n b) (λi hi n=>by rw[Lc (qQ n)];exact ajV i hi n) (λi hi n=>by rw[Lc (qR n)];exact ajW i hi n) a b hk
theorem Rx{h:ah}{v:Value}{K:List HE}(hs:Sl oM h v K)(i:Nat){e:HE}(hp:K[i]? = some e)(hq:slV e.q=e.q):∃b o,b<h.nx/\(∀(β:Type)(fl:β)(h':ah)(Y:XW β),az fl 4 v (X1 (i:Int)) h' Y=Y (.pointer (some ⟨b,o,none⟩)) h')/\
   ∀h',Le h h'->((∀(β:Type)(fl:β)(Y:List Value->β),Aq fl (h'.bl.get b) o 2 Y=Y [X1 e.t,X1 e.r])/\
   (∀(β:Type)(fl:β)(Y:List Value->β),Aq fl (h'.bl.get b) o 4 Y=Y [X1 e.t,X1 e.r,e.q,X1 e.w])/\
   (∀(β:Type)(fl:β)(Y:Value->β),qn fl (h'.bl.get b) o Y=Y (X1 e.t))/\
   (∀(β:Type)(fl:β)(Y:Value->β),qn fl (h'.bl.get b) (o+1) Y=Y (X1 e.r))/\
   (∀(β:Type)(fl:β)(Y:Value->β),qn fl (h'.bl.get b) (o+2) Y=Y e.q)/\
   (∀(β:Type)(fl:β)(Y:Value->β),qn fl (h'.bl.get b) (o+3) Y=Y (X1 e.w))):=by
 obtain⟨b,o,h1,h2,h3,hh⟩:=hs.ld uD i hp;refine⟨b,o,h1,h2,λh' l=>?_⟩;rw[l.get b h1];refine⟨λβ fl Y=>?_,λβ fl Y=>?_,λβ fl Y=>?_,λβ fl Y=>?_,λβ fl Y=>?_,λβ fl Y=>?_⟩
 .have:=hh.sub 0 2 (by show 0+2<=4;omega);rw[Nat.add_zero]at this;exact pG this 2 Y rfl
 .rw[pG hh 4 Y rfl];unfold oM;rw[hq]
 .exact cO (fl:=fl) hh 0 Y (by show 0<4;omega)
 .exact cO (fl:=fl) hh 1 Y (by show 1<4;omega)
 .rw[cO (fl:=fl) hh 2 Y (by show 2<4;omega)];show Y (slV e.q)=_;rw[hq]
 .exact cO (fl:=fl) hh 3 Y (by show 3<4;omega)
structure rD(h:ah)(Ts:List TB)(v:Value)(D:List L4)(K:List HE):Prop where
 names:(K.map dR).Perm (Ts.flatMap λb=>b.M.map dR)
 Ut:(K.map dR).Pairwise rA
 each:∀k∈K,∃b∈Ts,∃e∈b.M,BT k e
 perm:D.Perm (K.flatMap jA)
 srt:D.Pairwise λx y=>¬Iy y x
 sl:Sl kW h v D
 ty:mQ 46 h v
section
variable {h:ah}{tb bw bp bl:Nat}{c:jU}{vb:Value}{bf N:Nat}{Ts:List TB}{W:List IE}{wc:Nat}{F:List Int}{B:List Bool}
theorem JN{K:List HE}{i:Nat}{e:HE}(h:K[i]? = some e):(K.take (i+1)).flatMap jA=(K.take i).flatMap jA++jA e:=BY jA h
theorem tF{K:List HE}(hs:∀k∈K,k.Q.length<=128):(K.flatMap jA).length<=128*K.length:=by
 induction K with
 |nil=>simp
 |cons k K ih=>
  rw[List.flatMap_cons,List.length_append,List.length_cons];have h1:=ih λx hx=>hs x (.tail _ hx);have h2:=BZ (t:=k.t) (r:=k.r) k.Q;have h3:=hs k (.head _);have h4:(jA k).length<=128:=Nat.le_trans h2 h3;omega
theorem Uu(s:iZ h tb bw bp bl c vb bf N Ts W wc F B)(hlo:h.lo<=h.nx)(Y:KQ)(hk:∀v h' D K,rD h' Ts v D K->Nk h h' v D->Le h h'->Y v h'):aj prog 65 [X3 tb] h Y:=by
 apply X2;rw[adv];refine xI s hlo _ ?_;intro v0 h0 K t0 Ay;have n0:=Ay.nx;have l0:=Ay.lo;obtain⟨x0,c0,ev0,_⟩:=(show Sl oM h0 v0 K from t0.sl)
 have zT:∀(β:Type)(fl:β)(h':ah)(Y:XW β),bh fl v0 h' Y=Y (X1 (K.length:Int)) h':=λβ fl h' Y=>by rw[ev0];exact bX _ _ _ _ _
 have hKs:∀k∈K,k.Q.length<=128:=by
  intro k hk';obtain⟨⟨b,hb,e,he,se⟩,_⟩:=t0.each k hk';have:=((s.is.bk b hb).good e he).small;rw[se.2.2.2];exact this
 have G0:K.length<=1024:=by
  have h1:=t0.perm.length_eq;rw[List.length_map]at h1;rw[h1];have h2:=s.is.s1.2;have h3:=s.is.hd;have:∀L:List TB,(∀b∈L,b.M.length<=64)->(L.flatMap λb=>b.M.map dR).length<=64*L.length:=by
   intro L
   induction L with
   |nil=>intro _;simp
   |cons b L ih=>
    intro hL;rw[List.flatMap_cons,List.length_append,List.length_map,List.length_cons];have h1:=ih λx hx=>hL x (.tail _ hx);have h2:=hL b (.head _);omega
  have:=this Ts λb hb=>by have:=s.len b hb;omega
  omega
 have apu:=tF hKs;have XK:∀i,((K.take i).flatMap jA).length<=131072:=by
  intro i;have h1:=tF (K:=K.take i) λk hk'=>hKs k (List.mem_of_mem_take hk');have h2:(K.take i).length<=K.length:=by rw[List.length_take];omega
  omega
 simp(disch:=try exact QQ)only[Wz,zT];refine⟨λn l h1=>∃i:Nat,aa l 28=X1 (i:Int)/\n=K.length-i/\i<=K.length/\Nk h0 h1 (aa l 24) ((K.take i).flatMap jA)/\Le h0 h1,
  ⟨_,0,rfl,rfl,XV,.inl ⟨by simp,.inl rfl⟩,Le.refl _⟩,?_⟩
 rintro n l h1 ⟨i,s1,rfl,hi,ho,bF⟩;have n1:=bF.nx;have l1:=bF.lo;by_cases hlt:i<K.length
 .obtain⟨e,he⟩:∃e,K[i]? = some e:=⟨_,List.getElem?_eq_getElem hlt⟩
  have SR:=List.mem_of_getElem? he;have qv:=(t0.each e SR).2;obtain⟨b0,o0,hb0,hx0,Mw⟩:=Rx t0.sl i he (zK qv.1);have R1:=Mw h1 bF;have WI:=qv.le bF;obtain⟨qx,qc,eq,_⟩:=(show Sl bA h1 e.q e.Q from WI.1)
  have Is:=hKs e SR;rw[eq]at R1;simp(disch:=try exact QQ)only[Wz,s1,dw (show(i:Int)<(K.length:Int)by omega),LH,hx0,R1];rw[<-eq]at R1;obtain⟨h2,e2⟩:∃h2:ah,h2=⟨h1.nx+1,h1.bl.bx h1.nx (ai [X1 e.t,X1 e.r,.slice qx e.Q.length qc,X1 e.w] 55 false),h1.lo⟩:=⟨_,rfl⟩
  have bK:Le h1 h2:=by rw[e2];exact(Le.refl h1).new _
  have g2:h2.bl.get h1.nx=some (ai [X1 e.t,X1 e.r,.slice qx e.Q.length qc,X1 e.w] 55 false):=by rw[e2];exact T.an _ _ _
  have nx2:h2.nx=h1.nx+1:=by rw[e2]
  try rw[<-e2]
  clear e2;have n2:=bK.nx;have l2:=bK.lo;have qv2:=WI.le bK;refine⟨λm l3 h3=>∃j:Nat,aa l3 19=X1 (j:Int)/\m=e.Q.length-j/\j<=e.Q.length/\Nk h0 h3 (aa l3 17) ((K.take i).flatMap jA++qb e.t e.r (e.Q.take j))/\Le h0 h3/\h1.nx<h3.nx/\h3.bl.get h1.nx=some (ai [X1 e.t,X1 e.r,.slice qx e.Q.length qc,X1 e.w] 55 false)/\QV h3 e.q e.Q,
   ⟨_,0,rfl,rfl,XV,?_,bF.trans bK,XV,g2,qv2⟩,?_⟩
  .rw[List.take_zero];have:qb e.t e.r []=[]:=rfl;rw[this,List.append_nil];exact ho.le bK
  rintro m l3 h3 ⟨j,s3,rfl,hj,rR,d_,n3,g3,q3⟩;have n3':=d_.nx;have l3':=d_.lo;by_cases hjl:j<e.Q.length
  .obtain⟨p,hp⟩:∃p,e.Q[j]? = some p:=⟨_,List.getElem?_eq_getElem hjl⟩
   obtain⟨b4,o4,_,B0,BS,_⟩:=Jn q3.1 j hp;rw[eq]at B0;have hmono:=BZ (t:=e.t) (r:=e.r) (e.Q.take j);have apv:=XK i;have NZ:(e.Q.take j).length<=e.Q.length:=by rw[List.length_take];omega
   simp(disch:=try exact QQ)only[Wz,s3,dw (show(j:Int)<(e.Q.length:Int)by omega),C3];refine⟨λl' h'=>∃L',L'=(K.take i).flatMap jA++qb e.t e.r (e.Q.take (j+1))/\Nk h0 h' (aa l' 16) L'/\Le h0 h'/\h1.nx<h'.nx/\h'.bl.get h1.nx=some (ai [X1 e.t,X1 e.r,.slice qx e.Q.length qc,X1 e.w] 55 false)/\QV h' e.q e.Q,?_,?_⟩
   rotate_left
   .rintro l' h' ⟨L',rfl,hL,hle,hn,hg,hq⟩;exact⟨_,XV,j+1,rfl,rfl,XV,hL,hle,hn,hg,hq⟩
   simp(disch:=try exact QQ)only[Wz,LG,s3,B0,BS,bA];obtain⟨h5,e5⟩:∃h5:ah,h5=⟨h3.nx+1,h3.bl.bx h3.nx (jM p),h3.lo⟩:=⟨_,rfl⟩
   have lI:Le h3 h5:=by rw[e5];exact(Le.refl h3).new _
   have g5:h5.bl.get h3.nx=some (jM p):=by rw[e5];exact T.an _ _ _
   have nx5:h5.nx=h3.nx+1:=by rw[e5]
   try rw[<-e5]
   clear e5;have l5:=lI.lo;have g35:=(lI.get _ n3).trans g3;have hstep:=JM (t:=e.t) (r:=e.r) hp;by_cases hm:p.m=0
   .simp(disch:=try exact QQ)only[Wz,bq hm];refine⟨_,rfl,?_,d_.trans lI,XV,?_,q3.le lI⟩
    .rw[hstep,if_neg XV,List.append_nil];exact rR.le lI
    .first|exact g35|exact g3
   .simp(disch:=try exact QQ)only[Wz,a_ hm,LF,g5,g35];obtain⟨h6,e6⟩:∃h6:ah,h6=⟨h5.nx+1,h5.bl.bx h5.nx (ai [X1 p.x,X1 e.t,X1 e.r,X1 p.m] 46 false),h5.lo⟩:=⟨_,rfl⟩
    have mR:Le h5 h6:=by rw[e6];exact(Le.refl h5).new _
    have g6:h6.bl.get h5.nx=some (ai ([(⟨p.x,e.t,e.r,p.m⟩:L4)].flatMap kW) 46 false):=by rw[e6];exact T.an _ _ _
    have nx6:h6.nx=h5.nx+1:=by rw[e6]
    have l6:h6.lo=h5.lo:=by rw[e6]
    try rw[<-e6]
    clear e6;have zD:=lI.trans mR;have g36:=(mR.get _ XV).trans g35;refine eN (enc:=kW) (a:=h0) (L:=(K.take i).flatMap jA++qb e.t e.r (e.Q.take j)) (M:=[(⟨p.x,e.t,e.r,p.m⟩:L4)]) uG Rt X0 X0 (rR.le zD) (Sl.new XV g6 _) (d_.trans zD) (by rw[List.length_append];simp only[List.length_cons,List.length_nil];omega) XV _ ?_;intro v7 h7 SO SQ _ n7 l7 WJ;refine⟨_,rfl,?_,SQ,XV,(WJ _ XV (by rw[g36];exact br)).trans g36,(q3.le zD).frame n7 λd vs op hc hg=>WJ d hc (by rw[hg];exact bz X0)⟩;rw[hstep,if_pos hm,<-List.append_assoc];exact SO
  .have hjQ:j=e.Q.length:=by omega
   subst hjQ;simp(disch:=try exact QQ)only[Wz,s3,b_ (show(e.Q.length:Int)<=(e.Q.length:Int)by omega),C3,s1];refine⟨_,XV,i+1,rfl,rfl,XV,?_,d_⟩;rw[JN he];rw[List.take_length]at rR;exact rR
 .have hil:i=K.length:=by omega
  subst hil;rw[List.take_length]at ho;simp(disch:=try exact QQ)only[Wz,s1,b_ (show(K.length:Int)<=(K.length:Int)by omega)];refine Us h0 h1 _ _ _ ho bF XV ?_;intro D h' hD hpw ho' le';exact hk _ h' D K ⟨t0.perm,t0.srt,λk hk'=>(t0.each k hk').1,hD,hpw,ho'.sl,mQ.own ho'⟩ (eG.base ho' XV) (Ay.trans le')
theorem aaO(s:iZ h tb bw bp bl c vb bf N Ts W wc F B)(hlo:h.lo<=h.nx)(Y:KQ)(hk:∀v h' D K,rD h' Ts v D K->Le h h'->Y v h'):aj prog 65 [X3 tb] h Y:=Uu s hlo Y λv h' D K t _ l=>hk v h' D K t l
end
theorem Uv(id:Int)(h:ah)(Y:KQ)(hk:Y (.pointer none) h):aj prog 343 [.pointer none,X1 id] h Y:=by
 apply X2;rw[Qn];simp(disch:=try exact QQ)only[Wz,rC];exact hk
theorem Ry(id:Int)(h:ah)(Y:KQ)(hlo:h.lo<=h.nx)(hk:∀h',Le h h'->Y (.tuple ⟨[iF 0 0,j0 ⟨0,0,0,0,0⟩,.bool false]⟩) h'):aj prog 292 [.pointer none,X1 id] h Y:=by
 apply X2;rw[Qm];simp(disch:=try exact QQ)only[Wz];obtain⟨hA,bH,aY,g1,g3,ia,ic⟩:=DK h (ai [X1 0,X1 0] 28 false) (jM ⟨0,0,0,0,0⟩);rw[<-bH];clear bH;refine Uv id hA _ ?_;simp(disch:=try exact QQ)only[Wz,oJ,g1,g3,bA];exact hk _ ((aY.set XV _).set XV _)
section
variable {h:ah}{tb bw bp bl:Nat}{c:jU}{vb:Value}{bf N:Nat}{Ts:List TB}{W:List IE}{wc:Nat}{F:List Int}{B:List Bool}
theorem Rz(s:iZ h tb bw bp bl c vb bf N Ts W wc F B)(hlo:h.lo<=h.nx)(id:Int)(Y:KQ)(nj:∀h',(∀b∈Ts,∀e∈b.M,bU e.Q id=none)->Le h h'->Y (.tuple ⟨[iF 0 0,j0 ⟨0,0,0,0,0⟩,.bool false]⟩) h')(gP:∀h' b e p,b∈Ts->e∈b.M->bU e.Q id=some p->Le h h'->Y (.tuple ⟨[iF e.t e.r,j0 p,.bool true]⟩) h'):aj prog 209 [X3 tb,X1 id] h Y:=by
 apply X2;rw[YJ];simp(disch:=try exact QQ)only[Wz];obtain⟨hA,bH,aY,g1,g3,ia,ic⟩:=DK h (ai [X1 0,X1 0] 28 false) (jM ⟨0,0,0,0,0⟩);rw[<-bH];clear bH;refine HB (s.le aY) XV id _ ?_ ?_
 .intro hno;refine Ry id hA _ XV ?_;intro h2 bK;have Hv:=bK.nx;have Hw:=bK.lo;have g1:=(bK.get _ XV).trans g1;have g3:=(bK.get _ XV).trans g3;simp(disch:=try exact QQ)only[Wz,iF,bA,g1,g3];exact nj _ hno (((aY.trans bK).set XV _).set XV _)
 .intro k b e p hk he hf;have hb:=List.mem_of_getElem? hk;refine Uf ((s.le aY).is.bk b hb) XV id _ ?_ ?_
  .intro h2 hno _;rw[hno e he]at hf;cases hf
  .intro h2 e2 p2 he2 hf2 bK;have Hv:=bK.nx;have Hw:=bK.lo;have g1:=(bK.get _ XV).trans g1;have g3:=(bK.get _ XV).trans g3;simp(disch:=try exact QQ)only[Wz,iF,bA,g1,g3];exact gP _ b e2 p2 hb he2 hf2 (((aY.trans bK).set XV _).set XV _)
def HI(Ts:List TB):Nat:=(Ts.map λb=>b.M.length).sum
theorem Nn{Ts:List TB}{i:Nat}{b:TB}(h:Ts[i]? = some b):HI (Ts.take (i+1))=HI (Ts.take i)+b.M.length:=by
 unfold HI;rw[List.take_add_one,h];simp
theorem Uw(Ts:List TB)(hl:∀b∈Ts,b.M.length<=64):HI Ts<=64*Ts.length:=by
 unfold HI
 induction Ts with
 |nil=>simp
 |cons b Ts ih=>
  have h1:=ih λx hx=>hl x (.tail _ hx);have h2:=hl b (.head _);simp only[List.map_cons,List.sum_cons,List.length_cons];omega
theorem No(s:iZ h tb bw bp bl c vb bf N Ts W wc F B)(Y:KQ)(hk:Y (.tuple ⟨[X1 (HI Ts:Nat),X1 ((B.length:Int)-F.length)]⟩) h):aj prog 69 [X3 tb] h Y:=by
 apply X2;rw[adw];have gt:=s.is.nD;have hs1:=s.is.s1;have ajO:=s.is.hd;have hll:=oL s.is.di.ok;have Is:=s.is.di.small;obtain⟨vx,vc,ev,_⟩:=(show Sl ny h vb Ts from s.is.sl)
 have Rs:∀(β:Type)(fl:β)(h':ah)(Y:XW β),bh fl vb h' Y=Y (X1 (Ts.length:Int)) h':=λβ fl h' Y=>by rw[ev];exact bX _ _ _ _ _
 have hbd:∀i,HI (Ts.take i)<=1024:=by
  intro i;have:=Uw (Ts.take i) λb hb=>by have:=s.len b (List.mem_of_mem_take hb);omega
  have h2:(Ts.take i).length<=Ts.length:=by rw[List.length_take];omega
  omega
 simp(disch:=try exact QQ)only[Wz,oN,aL,gt,Rs];refine⟨λn l h1=>∃i:Nat,aa l 10=X1 (i:Int)/\aa l 8=X1 (HI (Ts.take i):Nat)/\n=Ts.length-i/\i<=Ts.length/\HQ h h1,⟨_,0,rfl,rfl,rfl,XV,rfl⟩,?_⟩;rintro n l h1 ⟨i,s1,s2,rfl,hi,hq⟩;cases(show h=h1 from hq);by_cases hlt:i<Ts.length
 .obtain⟨b,hb⟩:∃b,Ts[i]? = some b:=⟨_,List.getElem?_eq_getElem hlt⟩
  obtain⟨cc,oo,_,LP,mO⟩:=Rk s.is.sl i hb;have mO:=mO h (Le.refl _);have hbl:=s.len b (List.mem_of_getElem? hb);have hst:=Nn hb;have hbi:=hbd i;simp(disch:=try exact QQ)only[Wz,C4,s1,s2,dw (show(i:Int)<(Ts.length:Int)by omega),LP,mO];refine T_ (s.is.bk b (List.mem_of_getElem? hb)) _ ?_;simp(disch:=try exact QQ)only[Wz,s1];refine⟨_,XV,i+1,rfl,?_,rfl,XV,rfl⟩;rw[hst];rfl
 .have hil:i=Ts.length:=by omega
  subst hil;rw[List.take_length]at s2;simp(disch:=try exact QQ)only[Wz,C4,s1,s2,b_ (show(Ts.length:Int)<=(Ts.length:Int)by omega),aL,gt];refine aao bp bl F B h _ s.is.di XV ?_;exact hk
end
section
variable {h h':ah}{tb bw bp bl:Nat}{c:jU}{vb:Value}{bf N:Nat}{Ts:List TB}{W:List IE}{wc:Nat}{F F':List Int}{B:List Bool}
theorem Ux(s:iZ h tb bw bp bl c vb bf N Ts W wc F B)(hlo:h.lo<=h.nx)(hN:N<=90000)(t r x m:Int)(Y:KQ)(wj:∀h',jT t r c.S<0->Le h h'->Y (.tuple ⟨[X1 0,.bool false,X1 2]⟩) h')(hk2:∀(k:Nat)(b:TB) h',Ts[k]? = some b->jT t r c.S=(k:Int)->cL m=false->Le h h'->Y (.tuple ⟨[X1 0,.bool false,X1 2]⟩) h')(Mz:∀(k:Nat)(b:TB) h' e p,Ts[k]? = some b->jT t r c.S=(k:Int)->cL m=true->e∈b.M->t=e.t->r=e.r->p∈e.Q->p.x=x->Le h h'->Y (.tuple ⟨[X1 0,.bool false,X1 4]⟩) h')(hk8:∀(k:Nat)(b:TB) h',Ts[k]? = some b->jT t r c.S=(k:Int)->cL m=true->(∀e∈b.M,t=e.t->r=e.r->∀p∈e.Q,p.x≠x)->(F=[]\/((∀e∈b.M,¬(t=e.t/\r=e.r))/\bf<=b.M.length))->Le h h'->Y (.tuple ⟨[X1 0,.bool false,X1 8]⟩) h')(QJ:∀(k:Nat)(b:TB) M' clock' F' W' Dp h0 h1 h' n g,Ts[k]? = some b->jT t r c.S=(k:Int)->cL m=true->(∀e∈b.M,t=e.t->r=e.r->∀p∈e.Q,p.x≠x)->bu h0 b.bb b.bm bp bl bf b.M b.clock F B->lp h0 h1 b.bb b.bm bp bl bf b.M M' clock' F F' B t r x m n g->
   iZ h' tb bw bp bl c vb bf (N+1) (Ts.set k ⟨b.bb,b.bm,M',clock'⟩) W' Dp F' (B.set n true)->tE Ts bw bp bl h h'->Y (.tuple ⟨[X1 (n:Int),.bool g,X1 0]⟩) h'):aj prog 301 [X3 tb,iF t r,X1 x,X1 m] h Y:=by
 apply X2;rw[Zb];simp(disch:=try exact QQ)only[Wz,iF,oN];obtain⟨hA,bH,aY,g1,ia,ic⟩:=oR h (ai [X1 t,X1 r] 28 false);rw[<-bH];clear bH;refine vL (s.le aY).is XV t r _ ?_;intro h2 bK;have Hv:=bK.nx;have Hw:=bK.lo;have g1:=(bK.get _ XV).trans g1;have qk:=aY.trans bK;have s2:=s.le qk;by_cases hneg:jT t r c.S<0
 .simp(disch:=try exact QQ)only[Wz,bq hneg];exact wj h2 hneg qk
 obtain⟨k,b,hst,hk⟩:=aeQ s.is hneg;have hb:=List.mem_of_getElem? hk;have gt:=s2.is.nD;obtain⟨cc,oo,_,LP,mO⟩:=Rk s2.is.sl k hk;have mO:=mO h2 (Le.refl _);rw[hst];simp(disch:=try exact QQ)only[Wz,b_ (show(0:Int)<=(k:Int)by omega),F7,aL,gt,LP,mO,g1];refine Uc (s2.is.bk b hb) XV (s2.L8 hk) N XV (s2.wb b hb) t r x m _ ?_ ?_ ?_ ?_
 .intro h3 am0 d_;simp(disch:=try exact QQ)only[Wz,pI,oz];refine⟨λl h'=>HQ h3 h',?_,?_⟩
  .simp(disch:=try exact QQ)only[Wz,qZ];rfl
  .rintro l h' hq;cases(show h3=h' from hq);exact hk2 k b h3 hk hst am0 (qk.trans d_)
 .intro h3 e p am1 he ht hr hp hx d_;simp(disch:=try exact QQ)only[Wz,pI,oz];refine⟨λl h'=>HQ h3 h',?_,?_⟩
  .simp(disch:=try exact QQ)only[Wz,qZ];rfl
  .rintro l h' hq;cases(show h3=h' from hq);exact Mz k b h3 e p hk hst am1 he ht hr hp hx (qk.trans d_)
 .intro h3 am1 ajY hfull d_;simp(disch:=try exact QQ)only[Wz,pI,oz];refine⟨λl h'=>HQ h3 h',?_,?_⟩
  .simp(disch:=try exact QQ)only[Wz,qZ];rfl
  .rintro l h' hq;cases(show h3=h' from hq);exact hk8 k b h3 hk hst am1 ajY hfull (qk.trans d_)
 .intro M' clock' F' h3 n g am hno ak;have is3:=s2.is.change hk ak.is ak.fr;have n3:=ak.fr.nx;have l3:=ak.fr.lo;have gt3:=is3.nD;have ajZ:=is3.low;simp(disch:=try exact QQ)only[Wz,pI,oz];refine⟨λl h'=>∃W' Dp,(∀j,BV W' j=if j=(n:Int)then some (k:Int)else BV W j)/\h'=⟨h3.nx,h3.bl.bx bw (.map (W'.map si) Dp),h3.lo⟩,?_,?_⟩
  .simp(disch:=try exact QQ)only[Wz,qZ,aL,gt3];refine JK is3.lz ajZ _ _ _ ?_;intro W' Dp hW;exact⟨W',Dp,hW,rfl⟩
  ·rintro l h' ⟨W',Dp,hW,rfl⟩;have fr:tE Ts bw bp bl h ⟨h3.nx,h3.bl.bx bw (.map (W'.map si) Dp),h3.lo⟩:=((tE.of_le qk).trans (tE.zO hb ak.fr)).trans tE.aaK;have A3:=lp.ids (s2.is.bk b hb) ak;have aeX:∀i,i∈lg B->i≠(n:Int):=by
    rintro i hi rfl;obtain⟨k',e,hk'⟩:=kN.1 hi;have:k'=n:=(Int.ofNat.inj e).symm;subst this;rw[ak.old]at hk';cases hk'
   have hin:∀i b',b'∈Ts->i∈ig b'.M->i≠(n:Int):=λi b' hb' hi=>aeX i (s.ids.mem_iff.1 (List.mem_flatMap.2 ⟨b',hb',hi⟩));refine QJ k b M' clock' F' W' Dp h2 h3 _ n g hk hst am hno (s2.is.bk b hb) ak ⟨is3.aaK W' Dp,?_,?_,?_,?_,?_,by rw[List.length_set];exact s.cR,s.cH⟩ fr
   .obtain⟨X,hX⟩:=tD (λb:TB=>ig b.M) hk;have h0:=hX b;rw[rB hk]at h0;refine(hX _).trans ?_;refine(A3.append_right X).trans ?_;rw[List.append_assoc];refine((List.Perm.append_left _ List.perm_append_comm).trans ?_).trans (BP ak.old).symm;rw[<-List.append_assoc];exact(h0.symm.trans s.ids).append_right _
   .intro j y hj e he p hp;rw[hW];rcases gj hj with⟨rfl,rfl⟩|⟨hne,hj⟩
    .have hpi:=A3.mem_iff.1 (mG.2 ⟨e,he,p,hp,rfl⟩);rcases List.mem_append.1 hpi with h1|h1
     .obtain⟨e0,he0,p0,hp0,hpe⟩:=mG.1 h1;rw[if_neg (hin _ b hb h1),<-hpe];exact s.wh j b hk e0 he0 p0 hp0
     .rw[List.mem_singleton]at h1;rw[if_pos h1]
    .rw[if_neg (hin _ y (List.mem_of_getElem? hj) (mG.2 ⟨e,he,p,hp,rfl⟩))];exact s.wh j y hj e he p hp
   .intro j y hj e he;rcases gj hj with⟨rfl,rfl⟩|⟨_,hj⟩
    .rcases ak.sub e he with⟨e0,he0,h1,h2⟩|⟨h1,h2⟩
     .rw[<-h1,<-h2];exact s.nm j b hk e0 he0
     .rw[h1,h2];exact hst
    .exact s.nm j y hj e he
   .intro y hy e he;obtain⟨j,hj⟩:=List.getElem?_of_mem hy;rcases gj hj with⟨rfl,rfl⟩|⟨_,hj⟩
    .exact ak.wb (s.wb b hb) e he
    .have:=s.wb y (List.mem_of_getElem? hj) e he;omega
   .intro y hy;obtain⟨j,hj⟩:=List.getElem?_of_mem hy;rcases gj hj with⟨rfl,rfl⟩|⟨_,hj⟩
    .exact lp.len (s2.is.bk b hb) (s.len b hb) ak
    .exact s.len y (List.mem_of_getElem? hj)
theorem HJ(s:iZ h tb bw bp bl c vb bf N Ts W wc F B)(hlo:h.lo<=h.nx)(id:Int)(Y:KQ)(Jy:(∀b∈Ts,∀e∈b.M,bU e.Q id=none)->Y (.tuple ⟨[.slice none 0 0,X1 5]⟩) h)(QK:∀(k:Nat)(b:TB) h' e p,Ts[k]? = some b->e∈b.M->bU e.Q id=some p->¬0<p.s->Le h h'->Y (.tuple ⟨[.slice none 0 0,X1 7]⟩) h')(nj:∀(k:Nat)(b:TB) h' M' clock' F' v' e p (n:Nat),Ts[k]? = some b->e∈b.M->bU e.Q id=some p->0<p.s->p.m=0->id=(n:Int)->B[n]? = some true->
   eE h h' b.bb b.bm bp bl bf b.M M' clock' F' (B.set n false) e (e.Q.filter λr=>!bE id r) e.w->vD h h' v' (dx (fO (e.Q.filter λr=>!bE id r)+1) (e.Q.filter λr=>!bE id r)).2->iZ h' tb bw bp bl c vb bf (N+1) (Ts.set k ⟨b.bb,b.bm,M',clock'⟩) W wc F' (B.set n false)->Y (.tuple ⟨[v',X1 0]⟩) h')(gP:∀(k:Nat)(b:TB) h' M' clock' v' e p i,Ts[k]? = some b->e∈b.M->e.Q[i]? = some p->bU e.Q id=some p->0<p.s->p.m≠0->eE h h' b.bb b.bm bp bl bf b.M M' clock' F B e (e.Q.set i (kJ p)) e.w->
   vD h h' v' (dx (fO (e.Q.set i (kJ p))+1) (e.Q.set i (kJ p))).2->iZ h' tb bw bp bl c vb bf (N+1) (Ts.set k ⟨b.bb,b.bm,M',clock'⟩) W wc F B->Y (.tuple ⟨[v',X1 0]⟩) h'):aj prog 210 [X3 tb,X1 id] h Y:=by
 apply X2;rw[YK];refine HB s hlo id _ ?_ ?_
 .intro hno;simp(disch:=try exact QQ)only[Wz,rC];refine xH tb h _ ?_;exact Jy hno
 .intro k b e p hkb he hf;have hb:=List.mem_of_getElem? hkb;simp(disch:=try exact QQ)only[Wz,gT];refine Hg (s.is.bk b hb) hlo (s.L8 hkb) id _ ?_ ?_ ?_ ?_
  .intro h1 hno _;rw[hno e he]at hf;cases hf
  .intro h1 e1 p1 tR Dq hs1 bF;simp(disch:=try exact QQ)only[Wz];exact QK k b h1 e1 p1 hkb tR Dq hs1 bF
  .intro h1 M' clock' F' v' e1 p1 n tR Dq hs1 S_ hid sN hpF mv ho;simp(disch:=try exact QQ)only[Wz];have mv':=mv;have hf':=Dq;rw[hid]at hf' mv';exact nj k b h1 M' clock' F' v' e1 p1 n hkb tR Dq hs1 S_ hid sN mv ho (s.left hkb tR hf' sN mv')
  .intro h1 M' clock' v' e1 p1 i tR hi Dq hs1 S_ mv ho;simp(disch:=try exact QQ)only[Wz];exact gP k b h1 M' clock' v' e1 p1 i hkb tR hi Dq hs1 S_ mv ho (s.BX hkb tR mv (pL hi rfl) XV)
theorem RA(s:iZ h tb bw bp bl c vb bf N Ts W wc F B)(hlo:h.lo<=h.nx)(id x:Int)(Y:KQ)(Jy:(∀b∈Ts,∀e∈b.M,bU e.Q id=none)->Y (X1 5) h)(Mz:∀(k:Nat)(b:TB) h' e p,Ts[k]? = some b->e∈b.M->bU e.Q id=some p->(∃o∈e.Q,o.id≠id/\o.x=x)->Le h h'->Y (X1 4) h')(QK:∀(k:Nat)(b:TB) h' e p,Ts[k]? = some b->e∈b.M->bU e.Q id=some p->(∀o∈e.Q,o.id≠id->o.x≠x)->0<p.s->Le h h'->Y (X1 7) h')(nj:∀(k:Nat)(b:TB) h' M' clock' e p i,Ts[k]? = some b->e∈b.M->e.Q[i]? = some p->bU e.Q id=some p->(∀o∈e.Q,o.id≠id->o.x≠x)->¬0<p.s->eE h h' b.bb b.bm bp bl bf b.M M' clock' F B e (e.Q.set i (yL p x)) e.w->
   iZ h' tb bw bp bl c vb bf (N+1) (Ts.set k ⟨b.bb,b.bm,M',clock'⟩) W wc F B->Y (X1 0) h'):aj prog 304 [X3 tb,X1 id,X1 x] h Y:=by
 apply X2;rw[Ze];refine HB s hlo id _ ?_ ?_
 .intro hno;simp(disch:=try exact QQ)only[Wz,rC];refine xH tb h _ ?_;exact Jy hno
 .intro k b e p hkb he hf;have hb:=List.mem_of_getElem? hkb;simp(disch:=try exact QQ)only[Wz,gT];refine QM (s.is.bk b hb) hlo id x _ ?_ ?_ ?_ ?_
  .intro h1 hno _;rw[hno e he]at hf;cases hf
  .intro h1 e1 p1 tR Dq hx bF;exact Mz k b h1 e1 p1 hkb tR Dq hx bF
  .intro h1 e1 p1 tR Dq hx hs1 bF;exact QK k b h1 e1 p1 hkb tR Dq hx hs1 bF
  .intro h1 M' clock' e1 p1 i tR hi Dq hx hs1 mv;exact nj k b h1 M' clock' e1 p1 i hkb tR hi Dq hx hs1 mv (s.BX hkb tR mv (pL hi rfl) XV)
theorem HK(s:iZ h tb bw bp bl c vb bf N Ts W wc F B)(hlo:h.lo<=h.nx)(hN:N<=90000)(id m:Int)(Y:KQ)(hk2:∀h',cL m=false->Le h h'->Y (.tuple ⟨[.bool false,X1 2]⟩) h')(Jy:cL m=true->(∀b∈Ts,∀e∈b.M,bU e.Q id=none)->Y (.tuple ⟨[.bool false,X1 5]⟩) h)(QK:∀(k:Nat)(b:TB) h' e p,cL m=true->Ts[k]? = some b->e∈b.M->bU e.Q id=some p->0<p.s->Le h h'->Y (.tuple ⟨[.bool false,X1 7]⟩) h')(nj:∀(k:Nat)(b:TB) h' M' clock' e p i,cL m=true->Ts[k]? = some b->e∈b.M->e.Q[i]? = some p->bU e.Q id=some p->¬0<p.s->eE h h' b.bb b.bm bp bl bf b.M M' clock' F B e (e.Q.set i (jg e.Q e.w p m).1) (jg e.Q e.w p m).2.1->
   iZ h' tb bw bp bl c vb bf (N+1) (Ts.set k ⟨b.bb,b.bm,M',clock'⟩) W wc F B->Y (.tuple ⟨[.bool (jg e.Q e.w p m).2.2,X1 0]⟩) h'):aj prog 302 [X3 tb,X1 id,X1 m] h Y:=by
 have am0:m=0->cL m=false:=by intro h0;unfold cL;simp[h0]
 have am1:m≠0->cL m=kn m:=by intro h0;unfold cL;simp[h0]
 apply X2;rw[Zc];refine HB s hlo id _ ?_ ?_
 .intro hno;simp(disch:=try exact QQ)only[Wz,HD];by_cases hm0:m=0
  .simp(disch:=try exact QQ)only[Wz,bq hm0];exact hk2 h (am0 hm0) (Le.refl _)
  .simp(disch:=try exact QQ)only[Wz,a_ hm0];have am:=am1 hm0;refine uu m ?_;cases hkn:kn m with
   |false=>simp(disch:=try exact QQ)only[Wz];exact hk2 h (am.trans hkn) (Le.refl _)
   |true=>
    simp(disch:=try exact QQ)only[Wz,y_,rC];refine xH tb h _ ?_;exact Jy (am.trans hkn) hno
 .intro k b e p hkb he hf;have hb:=List.mem_of_getElem? hkb;simp(disch:=try exact QQ)only[Wz,HD];by_cases hm0:m=0
  .simp(disch:=try exact QQ)only[Wz,bq hm0];exact hk2 h (am0 hm0) (Le.refl _)
  .simp(disch:=try exact QQ)only[Wz,a_ hm0];have am:=am1 hm0;refine uu m ?_;cases hkn:kn m with
   |false=>simp(disch:=try exact QQ)only[Wz];exact hk2 h (am.trans hkn) (Le.refl _)
   |true=>
    simp(disch:=try exact QQ)only[Wz,y_,gT];refine He (s.is.bk b hb) hlo N XV (s.wb b hb) id m _ ?_ ?_ ?_ ?_
    .intro h1 am2 bF;simp(disch:=try exact QQ)only[Wz];exact hk2 h1 am2 bF
    .intro h1 _ hn _;rw[hn e he]at hf;cases hf
    .intro h1 e1 p1 am2 tR Dq hs1 bF;simp(disch:=try exact QQ)only[Wz];exact QK k b h1 e1 p1 am2 hkb tR Dq hs1 bF
    .intro h1 M' clock' e1 p1 i am2 tR hi Dq hs1 mv;simp(disch:=try exact QQ)only[Wz];exact nj k b h1 M' clock' e1 p1 i am2 hkb tR hi Dq hs1 mv (s.BX hkb tR mv (pL hi (Un _ _ _ _)) (aaF _ _ _ _))
end
structure Np where
 k:Int
 x:Int
 t:Int
 r:Int
 m:Int
 w:Int
 to:Int
def Uy(a:Np):List Value:=[X1 a.k,X1 a.x,X1 a.t,X1 a.r,X1 a.m,X1 a.w,X1 a.to]
def Uz(a:Np):Bool:=decide (dG a.t a.r≠-1) && (if a.k=1 then kn a.m && decide (a.m≠0) && decide (0<=a.w)else if a.k=3 then decide (a.to≠a.x)else decide (a.k=2))
def DM(ty:TypeId)(op:Bool):Prop:=ty=194\/ty=205\/ty=267\/ty=55\/ty=57\/ty=286\/ty=4\/(ty=3/\op=true)
theorem eP.only{h h':ah}{bp bl:Nat}{F:List Int}{B:List Bool}(p:eP h bp bl F B)(hn:h.nx<=h'.nx)(hl:h'.lo=h.lo)(hc:∀c vs ty op,c<h.nx->DM ty op->(ty=3->FB h bp c)->h.bl.get c=some (ai vs ty op)->h'.bl.get c=h.bl.get c):eP h' bp bl F B:=by
 have pl:=p.lt;have fl:=p.fr.lt;obtain⟨fs,hg,hpt⟩:=p.fr.cell;refine⟨⟨XV,by rw[hl];exact p.fr.lo,fs,(hc _ _ _ _ fl (by simp[DM]) (λe=>absurd e X0) hg).trans hg,?_⟩,XV,by rw[hl];exact p.lo,(hc _ _ _ _ pl (by simp[DM]) (λe=>absurd e X0) p.cell).trans p.cell,p.ok,p.small⟩;rcases hpt with e|⟨b,G,e,k1,k2,k3,k4⟩
 .exact .inl e
 .exact .inr ⟨b,G,e,XV,XV,(hc _ _ _ _ k1 (by simp[DM]) (λ_=>⟨_,_,_,by rw[hg,e]⟩) k3).trans k3,k4⟩
theorem bu.only{h h':ah}{bb bm bp bl most clock:Nat}{M:List HE}{F:List Int}{B:List Bool}(s:bu h bb bm bp bl most M clock F B)(hn:h.nx<=h'.nx)(hl:h'.lo=h.lo)(hc:∀c vs ty op,c<h.nx->DM ty op->(ty=3->FB h bp c)->h.bl.get c=some (ai vs ty op)->h'.bl.get c=h.bl.get c)(hm:h'.bl.get bm=h.bl.get bm):bu h' bb bm bp bl most M clock F B:=by
 have sb:=s.Of;have sm:=s.r7;refine⟨XV,XV,by rw[hl];exact s.T9,(hc _ _ _ _ sb (by simp[DM]) (λe=>absurd e X0) s.iC).trans s.iC,hm.trans s.gf,s.ok,λe he=>?_,s.good,s.di.only hn hl hc,s.ne⟩;have a:=s.bf e he;have al:=a.lt;exact⟨XV,(hc _ _ _ _ al (by simp[DM]) (λe=>absurd e X0) a.get).trans a.get,a.qv.frame hn λc vs op h1 hg=>hc c vs _ op h1 (by simp[DM]) (λe=>absurd e X0) hg⟩
section
variable {h h':ah}{tb bw bp bl:Nat}{c:jU}{vb:Value}{bf N:Nat}{Ts:List TB}{W:List IE}{wc:Nat}{F:List Int}{B:List Bool}
theorem fF.only(s:fF h tb bw bp bl c vb bf Ts W wc F B)(hn:h.nx<=h'.nx)(hl:h'.lo=h.lo)(hc:∀c vs ty op,c<h.nx->DM ty op->(ty=3->FB h bp c)->h.bl.get c=some (ai vs ty op)->h'.bl.get c=h.bl.get c)(hw:h'.bl.get bw=h.bl.get bw)(hm:∀b∈Ts,h'.bl.get b.bm=h.bl.get b.bm):fF h' tb bw bp bl c vb bf Ts W wc F B:=by
 have h1:=s.ltt;have h2:=s.Ax;have k1:=Sl.vK (h':=h') s.sl s.ty hn λc vs op h1 hg=>hc c vs _ op h1 (by simp[DM]) (λe=>absurd e X0) hg;exact⟨XV,(hc _ _ _ _ h1 (by simp[DM]) (λe=>absurd e X0) s.nD).trans s.nD,k1.1,k1.2,XV,by rw[hl];exact s.low,hw.trans s.lz,λb hb=>(s.bk b hb).only hn hl hc (hm b hb),s.HA,s.wne,s.di.only hn hl hc,s.cS,s.s1,s.hd⟩
theorem iZ.only(s:iZ h tb bw bp bl c vb bf N Ts W wc F B)(hn:h.nx<=h'.nx)(hl:h'.lo=h.lo)(hc:∀c vs ty op,c<h.nx->DM ty op->(ty=3->FB h bp c)->h.bl.get c=some (ai vs ty op)->h'.bl.get c=h.bl.get c)(hw:h'.bl.get bw=h.bl.get bw)(hm:∀b∈Ts,h'.bl.get b.bm=h.bl.get b.bm):iZ h' tb bw bp bl c vb bf N Ts W wc F B:=
 ⟨s.is.only hn hl hc hw hm,s.ids,s.wh,s.nm,s.wb,s.len,s.cR,s.cH⟩
theorem iZ.put(s:iZ h tb bw bp bl c vb bf N Ts W wc F B){d:Nat}(o:bT)(hd:∀vs ty op,DM ty op->h.bl.get d≠some (ai vs ty op))(hw:d≠bw)(hm:∀b∈Ts,d≠b.bm):iZ ⟨h.nx,h.bl.bx d o,h.lo⟩ tb bw bp bl c vb bf N Ts W wc F B:=
 s.only (Nat.le_refl _) rfl (λc vs ty op _ ht _ hg=>T.au _ _ (by rintro rfl;exact hd vs ty op ht hg)) (T.au _ _ hw) λb hb=>T.au _ _ (hm b hb)
end
def dS(o:Option Nat):Value:=match o with|some a=>.pointer (some ⟨a,0,none⟩)|none=>.pointer none
structure CR where
 ca:Nat
 a:Np
 th:Int
 no:Int
 st:Int
 ph:Nat
 wt:Bool
 id:Int
 cs:Int
 out:Int
 wv:Value
 wl:List Int
 wb:Option Nat
def uH(ph:Nat):FuncId:=if ph=1 then 58 else if ph=2 then 106 else if ph=3 then 159 else if ph=4 then 305 else 306
def HL(ph ca:Nat):Value:=.func (.func (uH ph)) ⟨[X3 ca]⟩ ⟨[]⟩
noncomputable def bJ(wb:Nat)(c:CR):bT:=ai [X1 c.a.k,X1 c.a.x,X1 c.a.t,X1 c.a.r,X1 c.a.m,X1 c.a.w,X1 c.a.to,X3 wb,X1 c.th,X1 c.no,X1 c.st,HL c.ph c.ca,X1 (c.ph:Int),.bool c.wt,X1 c.id,X1 c.cs,X1 c.out,.bool false,c.wv] 128 false
structure WA where
 wb:Nat
 lb:Nat
 hb:Nat
 pb:Nat
 ib:Nat
 kb:Nat
 cb:Nat
 mb:Nat
 n:Nat
structure RW(h:ah)(A:WA)(tb:Nat)(cr:List (Option (Nat × Int)))(bits:List Int)(now:Int)(tv:Value)(cs:List (Option CR))(wm:List IE)(nT:Nat)(begun:Int):Prop where
 Ax:A.wb<h.nx/\h.lo<=A.wb
 gw:h.bl.get A.wb=some (ai [X3 tb,X3 A.lb,X3 A.pb,X3 A.kb,X9 A.cb A.n A.n,.map (some A.mb),X1 begun] 126 false)
 WK:A.lb<h.nx
 gl:h.bl.get A.lb=some (ai [X9 A.hb cr.length cr.length] 247 false)
 UA:A.hb<h.nx/\h.lo<=A.hb
 gh:h.bl.get A.hb=some (ai (cr.map λo=>dS (o.map (·.1))) 251 false)
 ho:∀p,some p∈cr->p.1<h.nx/\h.bl.get p.1=some (ai [X1 p.2] 253 false)
 ltp:A.pb<h.nx
 gp:h.bl.get A.pb=some (ai [X9 A.ib A.n A.n] 244 false)
 RB:A.ib<h.nx/\h.lo<=A.ib
 gi:h.bl.get A.ib=some (ai (bits.map λn=>X1 n) 3 false)
 li:bits.length=A.n
 UB:A.kb<h.nx/\h.lo<=A.kb
 gk:h.bl.get A.kb=some (ai [X1 now,tv] 200 false)
 SS:A.cb<h.nx/\h.lo<=A.cb
 gc:h.bl.get A.cb=some (ai (cs.map λo=>dS (o.map (·.ca))) 118 false)
 lc:cs.length=A.n
 ca:∀c,some c∈cs->c.ca<h.nx/\h.lo<=c.ca/\h.bl.get c.ca=some (bJ A.wb c)
 r7:A.mb<h.nx/\h.lo<=A.mb
 gm:h.bl.get A.mb=some (.map (wm.map si) nT)
 nn:1<=A.n/\A.n<=8
 dc:cs.Pairwise λo o'=>∀c c',o=some c->o'=some c'->c.ca≠c'.ca
def rE(ty:TypeId)(op:Bool):Prop:=ty=126\/ty=247\/ty=251\/ty=253\/ty=244\/ty=200\/ty=118\/ty=128\/(ty=3/\op=false)
section
variable {h h':ah}{A:WA}{tb:Nat}{cr:List (Option (Nat × Int))}{bits:List Int}{now:Int}{tv:Value}{cs:List (Option CR)}{wm:List IE}{nT:Nat}{begun:Int}
theorem RW.keep(s:RW h A tb cr bits now tv cs wm nT begun)(hn:h.nx<=h'.nx)(hl:h'.lo=h.lo)(hg:∀d vs ty op,d<h.nx->rE ty op->h.bl.get d=some (ai vs ty op)->h'.bl.get d=h.bl.get d)(hm:h'.bl.get A.mb=h.bl.get A.mb):RW h' A tb cr bits now tv cs wm nT begun:=by
 obtain⟨⟨a1,a2⟩,a3,b1,b2,⟨c1,c2⟩,c3,c4,d1,d2,⟨e1,e2⟩,e3,e4,⟨f1,f2⟩,f3,⟨g1,g2⟩,g3,g4,g5,⟨i1,i2⟩,i3,i4,i5⟩:=s;refine⟨⟨XV,XV⟩,(hg _ _ _ _ a1 (by simp[rE]) a3).trans a3,XV,(hg _ _ _ _ b1 (by simp[rE]) b2).trans b2,⟨XV,XV⟩,(hg _ _ _ _ c1 (by simp[rE]) c3).trans c3,λp hp=>?_,XV,(hg _ _ _ _ d1 (by simp[rE]) d2).trans d2,⟨XV,XV⟩,(hg _ _ _ _ e1 (by simp[rE]) e3).trans e3,e4,⟨XV,XV⟩,(hg _ _ _ _ f1 (by simp[rE]) f3).trans f3,⟨XV,XV⟩,(hg _ _ _ _ g1 (by simp[rE]) g3).trans g3,g4,λc hc=>?_,⟨XV,XV⟩,hm.trans i3,i4,i5⟩
 .obtain⟨k1,k2⟩:=c4 p hp;exact⟨XV,(hg _ _ _ _ k1 (by simp[rE]) k2).trans k2⟩
 .obtain⟨k1,k2,k3⟩:=g5 c hc;exact⟨XV,XV,(hg _ _ _ _ k1 (by simp[rE]) k3).trans k3⟩
theorem RW.le(s:RW h A tb cr bits now tv cs wm nT begun)(l:Le h h'):RW h' A tb cr bits now tv cs wm nT begun:=s.keep l.nx l.lo (λd _ _ _ hd _ _=>l.get d hd) (l.get _ s.r7.1)
theorem RW.aeZ(s:RW h A tb cr bits now tv cs wm nT begun){bw bp bl:Nat}{c:jU}{vb:Value}{bf:Nat}{Ts:List TB}{W:List IE}{wc:Nat}{F:List Int}{B:List Bool}(t:fF h tb bw bp bl c vb bf Ts W wc F B)(f:tE Ts bw bp bl h h')(hw:A.mb≠bw)(hm:∀b∈Ts,A.mb≠b.bm):RW h' A tb cr bits now tv cs wm nT begun:=by
 have gm:=s.gm;obtain⟨fs,zz,hpt⟩:=t.di.fr.cell;have gl:=t.di.cell;refine s.keep f.nx f.lo (λd vs ty op hd hr hg=>?_) (f.get _ s.r7.1 hm hw (by rintro e;rw[e,zz]at gm;exact bL gm.symm) (by rintro e;rw[e,gl]at gm;exact bL gm.symm) λvs=>by rw[gm];exact bL);rcases hr with e|e|e|e|e|e|e|e|⟨e,e'⟩<;>subst e
 .exact f.keep t hd hg X0 X0 X0
 .exact f.keep t hd hg X0 X0 X0
 .exact f.keep t hd hg X0 X0 X0
 .exact f.keep t hd hg X0 X0 X0
 .exact f.keep t hd hg X0 X0 X0
 .exact f.keep t hd hg X0 X0 X0
 .exact f.keep t hd hg X0 X0 X0
 .exact f.keep t hd hg X0 X0 X0
 .subst e';refine f.get d hd (λb hb=>?_) (by rintro rfl;have:=t.lz;rw[hg]at this;exact bL this.symm) (by rintro rfl;rw[hg]at zz;exact bz X0 zz) (by rintro rfl;rw[hg]at gl;exact bz X0 gl) λws=>by rw[hg];exact br
  rintro rfl;have:=(t.bk b hb).gf;rw[hg]at this;exact bL this.symm
end
theorem ae0(h:ah)(b o:Nat):nH prog h 100 120 (.pointer (some ⟨b,o,none⟩)) (.pointer none)=some false:=by kernel_rfl
theorem RC{β:Type}{fl:β}(cn:Bool)(b o:Nat)(h:ah)(Y:XW β):aG fl prog .eql 120 cn false (.pointer (some ⟨b,o,none⟩)) (.pointer none) h Y=Y (.bool false) h:=by simp only[aG,ae0,cF]
theorem ae1(h:ah)(b o:Nat):nH prog h 100 251 (.pointer (some ⟨b,o,none⟩)) (.pointer none)=some false:=by kernel_rfl
theorem ae2(h:ah):nH prog h 100 251 (.pointer none) (.pointer none)=some true:=by kernel_rfl
theorem uI{β:Type}{fl:β}(cn:Bool)(b o:Nat)(h:ah)(Y:XW β):aG fl prog .eql 251 cn false (.pointer (some ⟨b,o,none⟩)) (.pointer none) h Y=Y (.bool false) h:=by simp only[aG,ae1,cF]
theorem zU{β:Type}{fl:β}(cn:Bool)(h:ah)(Y:XW β):aG fl prog .eql 251 cn false (.pointer none) (.pointer none) h Y=Y (.bool true) h:=by simp only[aG,ae2,cF]
abbrev nU(cr:List (Option (Nat × Int))):List Value:=cr.map λo=>dS (o.map (·.1))
section
variable {h:ah}{lb hb:Nat}{cr:List (Option (Nat × Int))}
theorem oO(gl:h.bl.get lb=some (ai [X9 hb cr.length cr.length] 247 false)){i:Nat}{th:Int}(hi:i<cr.length)(ht:0<=th/\th<8)(Y:KQ)(hk:Y (X1 0) h):aj prog 156 [X3 lb,X1 (i:Int),X1 th] h Y:=by
 apply X2;rw[Yq];simp(disch:=try exact QQ)only[Wz,RC,Fo,b_ (show(0:Int)<=(i:Int)by omega),aL,gl,b_ (show 0<=th by omega),a_ (show ¬(cr.length:Int)<=(i:Int)by omega),a_ (show ¬(8:Int)<=th by omega)];exact hk
theorem zV{i:Nat}{o:Option (Nat × Int)}(hi:cr[i]? = some o):(nU cr)[i]? = some (dS (o.map (·.1))):=by rw[List.getElem?_map,hi];rfl
theorem HM{i:Nat}{o:Option (Nat × Int)}(hi:i<cr.length):over (nU cr) i [dS (o.map (·.1))]=nU (cr.set i o):=by
 unfold over nU;rw[List.map_set,List.set_eq_take_append_cons_drop,if_pos (by simpa using hi)];simp
theorem aaQ(gl:h.bl.get lb=some (ai [X9 hb cr.length cr.length] 247 false))(gh:h.bl.get hb=some (ai (nU cr) 251 false))(hhb:hb<h.nx/\h.lo<=hb)(hlb:lb<h.nx){i:Nat}{th:Int}(hi:cr[i]? = some none)(ht:0<=th/\th<8)(Y:KQ)(hk:Y (.tuple ⟨[.bool true,X1 0]⟩) ⟨h.nx+1,(h.bl.bx h.nx (ai [X1 th] 253 false)).bx hb (ai (nU (cr.set i (some (h.nx,th)))) 251 false),h.lo⟩):aj prog 105 [X3 lb,X1 (i:Int),X1 th] h Y:=by
 have hil:=(List.getElem?_eq_some_iff.1 hi).1;have r:=zV hi;have ov:=HM (cr:=cr) (o:=some (h.nx,th)) hil;have hln:(nU cr).length=cr.length:=List.length_map _;apply X2;rw[PX];refine oO gl hil ht _ ?_;simp only[dS,Option.map_none]at r;simp only[dS,Option.map_some]at ov;simp(disch:=try exact QQ)only[Wz,yP,aL,gl,aX,gh,r,Nat.mul_one,zU,E6,ov];exact hk
theorem UC(gl:h.bl.get lb=some (ai [X9 hb cr.length cr.length] 247 false))(gh:h.bl.get hb=some (ai (nU cr) 251 false))(hhb:hb<h.nx/\h.lo<=hb){i p:Nat}{th:Int}(hi:cr[i]? = some (some (p,th)))(gp:h.bl.get p=some (ai [X1 th] 253 false))(ht:0<=th/\th<8)(Y:KQ)(hk:Y (X1 0) ⟨h.nx,h.bl.bx hb (ai (nU (cr.set i none)) 251 false),h.lo⟩):aj prog 215 [X3 lb,X1 (i:Int),X1 th] h Y:=by
 have hil:=(List.getElem?_eq_some_iff.1 hi).1;have r:=zV hi;have ov:=HM (cr:=cr) (o:=none) hil;have hln:(nU cr).length=cr.length:=List.length_map _;apply X2;rw[Jm];refine oO gl hil ht _ ?_;simp only[dS,Option.map_some]at r;simp only[dS,Option.map_none]at ov;simp(disch:=try exact QQ)only[Wz,uo,aL,gl,aX,gh,r,gp,Nat.mul_one,uI,ov];exact hk
theorem Nq(gl:h.bl.get lb=some (ai [X9 hb cr.length cr.length] 247 false))(gh:h.bl.get hb=some (ai (nU cr) 251 false)){i:Nat}{o:Option (Nat × Int)}(hi:cr[i]? = some o)(gp:∀p,o=some p->h.bl.get p.1=some (ai [X1 p.2] 253 false))(Y:KQ)(hk:∀x,Y (.tuple ⟨[X1 x,.bool o.isSome]⟩) h):aj prog 115 [X3 lb,X1 (i:Int)] h Y:=by
 have hil:=(List.getElem?_eq_some_iff.1 hi).1;have r:=zV hi;have hln:(nU cr).length=cr.length:=List.length_map _;apply X2;rw[Yf];refine oO gl hil XV _ ?_;cases o with
 |none=>
  simp only[dS,Option.map_none]at r;simp(disch:=try exact QQ)only[Wz,aL,gl,aX,gh,r,Nat.mul_one,zU];exact hk 0
 |some p=>
  have gp:=gp p rfl;simp only[dS,Option.map_some]at r;simp(disch:=try exact QQ)only[Wz,aL,gl,aX,gh,r,Nat.mul_one,uI,Fk,gp];exact hk p.2
end
theorem ae4(h:ah)(b o:Nat):nH prog h 100 121 (.pointer (some ⟨b,o,none⟩)) (.pointer none)=some false:=by kernel_rfl
theorem zW{β:Type}{fl:β}(cn:Bool)(b o:Nat)(h:ah)(Y:XW β):aG fl prog .eql 121 cn false (.pointer (some ⟨b,o,none⟩)) (.pointer none) h Y=Y (.bool false) h:=by simp only[aG,ae4,cF]
abbrev kX(bits:List Int):List Value:=bits.map λn=>X1 n
def JO(a b:Int):Int:=IntKind.i64.wrap (BitVec.ofInt IntKind.i64.bits a &&& BitVec.ofInt IntKind.i64.bits b).toNat
theorem Nr{β:Type}{fl:β}(P:Program)(t:TypeId)(cn gd:Bool)(a b:Int)(h:ah)(Y:XW β):aG fl P .and t cn gd (X1 a) (X1 b) h Y=Y (X1 (JO a b)) h:=by
 simp only[aG,fU,lQ,gI,ef];rfl
def orI(a b:Int):Int:=IntKind.i64.wrap (BitVec.ofInt IntKind.i64.bits a ||| BitVec.ofInt IntKind.i64.bits b).toNat
theorem HO{β:Type}{fl:β}(P:Program)(t:TypeId)(cn gd:Bool)(a b:Int)(h:ah)(Y:XW β):aG fl P .or t cn gd (X1 a) (X1 b) h Y=Y (X1 (orI a b)) h:=by
 simp only[aG,fU,lQ,gI,ef];rfl
def anI(a b:Int):Int:=IntKind.i64.wrap (BitVec.ofInt IntKind.i64.bits a &&& ~~~ (BitVec.ofInt IntKind.i64.bits b)).toNat
theorem HS{β:Type}{fl:β}(P:Program)(t:TypeId)(cn gd:Bool)(a b:Int)(h:ah)(Y:XW β):aG fl P .andNot t cn gd (X1 a) (X1 b) h Y=Y (X1 (anI a b)) h:=by
 simp only[aG,fU,lQ,gI,ef];rfl
section
variable {h:ah}{pb ib:Nat}{bits:List Int}
theorem zX(gp:h.bl.get pb=some (ai [X9 ib bits.length bits.length] 244 false)){i:Nat}(hi:i<bits.length)(Y:KQ)(hk:Y (X1 0) h):aj prog 162 [X3 pb,X1 (i:Int)] h Y:=by
 apply X2;rw[P8];simp(disch:=try exact QQ)only[Wz,zW,uk,b_ (show(0:Int)<=(i:Int)by omega),aL,gp,a_ (show ¬(bits.length:Int)<=(i:Int)by omega)];exact hk
theorem JP{i:Nat}{n:Int}(hi:bits[i]? = some n):(kX bits)[i]? = some (X1 n):=by rw[List.getElem?_map,hi];rfl
theorem HT{i:Nat}{n:Int}(hi:i<bits.length):over (kX bits) i [X1 n]=kX (bits.set i n):=by
 unfold over kX;rw[List.map_set,List.set_eq_take_append_cons_drop,if_pos (by simpa using hi)];simp
theorem L9(gp:h.bl.get pb=some (ai [X9 ib bits.length bits.length] 244 false))(gi:h.bl.get ib=some (ai (kX bits) 3 false)){i:Nat}{n:Int}(hi:bits[i]? = some n)(b:Int)(Y:KQ)(hk:Y (.bool (!decide (JO n b=0))) h):aj prog 163 [X3 pb,X1 (i:Int),X1 b] h Y:=by
 have hil:=(List.getElem?_eq_some_iff.1 hi).1;have r:=JP hi;have hln:(kX bits).length=bits.length:=List.length_map _;apply X2;rw[Yv];refine zX gp hil _ ?_;simp(disch:=try exact QQ)only[Wz,aL,gp,aX,gi,r,Nat.mul_one,Nr];exact hk
theorem RE(gp:h.bl.get pb=some (ai [X9 ib bits.length bits.length] 244 false))(gi:h.bl.get ib=some (ai (kX bits) 3 false)){i:Nat}{n:Int}(hi:bits[i]? = some n)(Y:KQ)(hk:Y (.bool (!decide (JO n 1=0))) h):aj prog 114 [X3 pb,X1 (i:Int)] h Y:=by
 apply X2;rw[Ye];exact L9 gp gi hi 1 _ hk
end
theorem qd{h:ah}{a b:Nat}{v v':List Value}{t t':TypeId}{o o':Bool}(ha:h.bl.get a=some (ai v t o))(hb:h.bl.get b=some (ai v' t' o'))(hn:t≠t'):a≠b:=by
 rintro rfl;rw[ha]at hb;exact bz hn hb
theorem j8{h:ah}{a b:Nat}{v:List Value}{t:TypeId}{o:Bool}{es:List MapEntry}{cl:Nat}(ha:h.bl.get a=some (ai v t o))(hb:h.bl.get b=some (.map es cl)):a≠b:=by
 rintro rfl;rw[ha]at hb;exact bL hb.symm
section
variable {h h':ah}{A:WA}{tb:Nat}{cr:List (Option (Nat × Int))}{bits:List Int}{now:Int}{tv:Value}{cs:List (Option CR)}{wm:List IE}{nT:Nat}{begun:Int}
theorem aaS{i:Nat}{c c':CR}(hi:cs[i]? = some (some c))(hc:c'.ca=c.ca):((cs.set i (some c')).map λo=>dS (o.map (·.ca)))=cs.map λo=>dS (o.map (·.ca)):=by
 have hil:=(List.getElem?_eq_some_iff.1 hi).1;refine List.ext_getElem? λj=>?_;rw[List.getElem?_map,List.getElem?_map,List.getElem?_set];split
 .rename_i e;subst e;rw[hi];simp[hc,hil]
 .rfl
theorem mH{i:Nat}{c:CR}{o:Option CR}(h:some c∈cs.set i o):o=some c\/∃j,j≠i/\cs[j]? = some (some c):=by
 obtain⟨j,hj⟩:=List.getElem?_of_mem h;rw[List.getElem?_set]at hj;split at hj
 .split at hj
  .exact .inl (Option.some.inj hj)
  .cases hj
 .rename_i hne;exact .inr ⟨j,λe=>hne e.symm,hj⟩
theorem RW.apart(s:RW h A tb cr bits now tv cs wm nT begun){i j:Nat}{c c':CR}(hi:cs[i]? = some (some c))(hj:cs[j]? = some (some c'))(hne:i≠j):c.ca≠c'.ca:=by
 rcases Nat.lt_or_gt_of_ne hne with h1|h1
 .exact c8.1 s.dc i j _ _ h1 hi hj c c' rfl rfl
 .exact λe=>c8.1 s.dc j i _ _ h1 hj hi c' c rfl rfl e.symm
theorem RW.iE(s:RW h A tb cr bits now tv cs wm nT begun){i:Nat}{c c':CR}(hi:cs[i]? = some (some c))(hc:c'.ca=c.ca):RW ⟨h.nx,h.bl.bx c.ca (bJ A.wb c'),h.lo⟩ A tb cr bits now tv (cs.set i (some c')) wm nT begun:=by
 obtain⟨k1,k2,k3⟩:=s.ca c (List.mem_of_getElem? hi);have up:∀{b:Nat}{v:List Value}{t:TypeId}{o:Bool},h.bl.get b=some (ai v t o)->128≠t->(h.bl.bx c.ca (bJ A.wb c')).get b=some (ai v t o):=λhb hn=>(T.au _ _ (qd k3 hb hn)).trans hb;refine⟨s.Ax,up s.gw X0,s.WK,up s.gl X0,s.UA,up s.gh X0,λp hp=>⟨(s.ho p hp).1,up (s.ho p hp).2 X0⟩,s.ltp,up s.gp X0,s.RB,up s.gi X0,s.li,s.UB,up s.gk X0,s.SS,?_,?_,?_,s.r7,(T.au _ _ (j8 k3 s.gm)).trans s.gm,s.nn,?_⟩
 .rw[aaS hi hc];exact up s.gc X0
 .rw[List.length_set];exact s.lc
 .intro d hd;rcases mH hd with e|⟨j,hne,hj⟩
  .cases e;rw[hc];exact⟨k1,k2,T.an _ _ _⟩
  .obtain⟨g1,g2,g3⟩:=s.ca d (List.mem_of_getElem? hj);exact⟨g1,g2,(T.au _ _ (s.apart hi hj (λe=>hne e.symm))).trans g3⟩
 .refine qS s.dc (λj q hj hq a b ha hb=>?_) (λj q hj hq a b ha hb=>?_)
  .subst ha;cases hb;rw[hc];exact s.apart hq hi XV
  .subst hb;cases ha;rw[hc];exact s.apart hi hq XV
theorem RW.uJ(s:RW h A tb cr bits now tv cs wm nT begun)(i:Nat)(o:Option CR)(ho:∀c,o=some c->c.ca<h.nx/\h.lo<=c.ca/\h.bl.get c.ca=some (bJ A.wb c)/\∀(j:Nat)(d:CR),j≠i->cs[j]? = some (some d)->d.ca≠c.ca):RW ⟨h.nx,h.bl.bx A.cb (ai ((cs.set i o).map λo=>dS (o.map (·.ca))) 118 false),h.lo⟩ A tb cr bits now tv (cs.set i o) wm nT begun:=by
 have k3:=s.gc;have up:∀{b:Nat}{v:List Value}{t:TypeId}{op:Bool},h.bl.get b=some (ai v t op)->118≠t->(h.bl.bx A.cb (ai ((cs.set i o).map λo=>dS (o.map (·.ca))) 118 false)).get b=some (ai v t op):=λhb hn=>(T.au _ _ (qd k3 hb hn)).trans hb;refine⟨s.Ax,up s.gw X0,s.WK,up s.gl X0,s.UA,up s.gh X0,λp hp=>⟨(s.ho p hp).1,up (s.ho p hp).2 X0⟩,s.ltp,up s.gp X0,s.RB,up s.gi X0,s.li,s.UB,up s.gk X0,s.SS,T.an _ _ _,?_,?_,s.r7,(T.au _ _ (j8 k3 s.gm)).trans s.gm,s.nn,?_⟩
 .rw[List.length_set];exact s.lc
 .intro d hd;rcases mH hd with e|⟨j,hne,hj⟩
  .obtain⟨g1,g2,g3,_⟩:=ho d e;exact⟨g1,g2,up g3 X0⟩
  .obtain⟨g1,g2,g3⟩:=s.ca d (List.mem_of_getElem? hj);exact⟨g1,g2,up g3 X0⟩
 .refine qS s.dc (λj q hj hq a b ha hb=>?_) (λj q hj hq a b ha hb=>?_)
  .subst ha;exact(ho b hb).2.2.2 j a XV hq
  .subst hb;exact λe=>(ho a ha).2.2.2 j b XV hq e.symm
theorem RW.Du(s:RW h A tb cr bits now tv cs wm nT begun)(gN:List (Option (Nat × Int)))(hl:gN.length=cr.length)(ho:∀p,some p∈gN->p.1<h.nx/\h.bl.get p.1=some (ai [X1 p.2] 253 false)):RW ⟨h.nx,h.bl.bx A.hb (ai (nU gN) 251 false),h.lo⟩ A tb gN bits now tv cs wm nT begun:=by
 have k3:=s.gh;have up:∀{b:Nat}{v:List Value}{t:TypeId}{op:Bool},h.bl.get b=some (ai v t op)->251≠t->(h.bl.bx A.hb (ai (nU gN) 251 false)).get b=some (ai v t op):=λhb hn=>(T.au _ _ (qd k3 hb hn)).trans hb;exact⟨s.Ax,up s.gw X0,s.WK,by rw[hl];exact up s.gl X0,s.UA,T.an _ _ _,λp hp=>⟨(ho p hp).1,up (ho p hp).2 X0⟩,s.ltp,up s.gp X0,s.RB,up s.gi X0,s.li,s.UB,up s.gk X0,s.SS,up s.gc X0,s.lc,λc hc=>⟨(s.ca c hc).1,(s.ca c hc).2.1,up (s.ca c hc).2.2 X0⟩,s.r7,(T.au _ _ (j8 k3 s.gm)).trans s.gm,s.nn,s.dc⟩
theorem RW.Dv(s:RW h A tb cr bits now tv cs wm nT begun)(bits':List Int)(hl:bits'.length=bits.length):RW ⟨h.nx,h.bl.bx A.ib (ai (kX bits') 3 false),h.lo⟩ A tb cr bits' now tv cs wm nT begun:=by
 have k3:=s.gi;have up:∀{b:Nat}{v:List Value}{t:TypeId}{op:Bool},h.bl.get b=some (ai v t op)->3≠t->(h.bl.bx A.ib (ai (kX bits') 3 false)).get b=some (ai v t op):=λhb hn=>(T.au _ _ (qd k3 hb hn)).trans hb;exact⟨s.Ax,up s.gw X0,s.WK,up s.gl X0,s.UA,up s.gh X0,λp hp=>⟨(s.ho p hp).1,up (s.ho p hp).2 X0⟩,s.ltp,up s.gp X0,s.RB,T.an _ _ _,hl.trans s.li,s.UB,up s.gk X0,s.SS,up s.gc X0,s.lc,λc hc=>⟨(s.ca c hc).1,(s.ca c hc).2.1,up (s.ca c hc).2.2 X0⟩,s.r7,(T.au _ _ (j8 k3 s.gm)).trans s.gm,s.nn,s.dc⟩
theorem RW.zY(s:RW h A tb cr bits now tv cs wm nT begun)(b':Int):RW ⟨h.nx,h.bl.bx A.wb (ai [X3 tb,X3 A.lb,X3 A.pb,X3 A.kb,X9 A.cb A.n A.n,.map (some A.mb),X1 b'] 126 false),h.lo⟩ A tb cr bits now tv cs wm nT b':=by
 have k3:=s.gw;have up:∀(o':bT){b:Nat}{v:List Value}{t:TypeId}{op:Bool},h.bl.get b=some (ai v t op)->126≠t->(h.bl.bx A.wb o').get b=some (ai v t op):=λo' _ _ _ _ hb hn=>(T.au _ _ (qd k3 hb hn)).trans hb;exact⟨s.Ax,T.an _ _ _,s.WK,up _ s.gl X0,s.UA,up _ s.gh X0,λp hp=>⟨(s.ho p hp).1,up _ (s.ho p hp).2 X0⟩,s.ltp,up _ s.gp X0,s.RB,up _ s.gi X0,s.li,s.UB,up _ s.gk X0,s.SS,up _ s.gc X0,s.lc,λc hc=>⟨(s.ca c hc).1,(s.ca c hc).2.1,up _ (s.ca c hc).2.2 X0⟩,s.r7,(T.au _ _ (j8 k3 s.gm)).trans s.gm,s.nn,s.dc⟩
theorem RW.zZ(s:RW h A tb cr bits now tv cs wm nT begun)(rF:List IE)(iN:Nat):RW ⟨h.nx,h.bl.bx A.mb (.map (rF.map si) iN),h.lo⟩ A tb cr bits now tv cs rF iN begun:=by
 have k3:=s.gm;have up:∀{b:Nat}{v:List Value}{t:TypeId}{op:Bool},h.bl.get b=some (ai v t op)->(h.bl.bx A.mb (.map (rF.map si) iN)).get b=some (ai v t op):=λhb=>(T.au _ _ (λe=>j8 hb k3 e.symm)).trans hb;exact⟨s.Ax,up s.gw,s.WK,up s.gl,s.UA,up s.gh,λp hp=>⟨(s.ho p hp).1,up (s.ho p hp).2⟩,s.ltp,up s.gp,s.RB,up s.gi,s.li,s.UB,up s.gk,s.SS,up s.gc,s.lc,λc hc=>⟨(s.ca c hc).1,(s.ca c hc).2.1,up (s.ca c hc).2.2⟩,s.r7,T.an _ _ _,s.nn,s.dc⟩
end
end Go.Proofs
