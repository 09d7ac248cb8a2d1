/-
  PROVED HERE: a part of the proof (SO, K32, K33, K34, K35, K36, K37, K38, K39, K40, L5, L6, L8, K44, L9, L10, L11, L12, L13, L14, L15, L16, L17, L18, VaiB, U1, U2, U3, U4, U5, U6, U7, U8, U9, U10, U11, U12, U13, N1, N2, N3, S1, S2, S3, S4, S5, S7, S8, S9, S10).
-/
import Derived.Test.YtmllggkhfmjpgaaGreatDoorG3
import Derived.Shelf.SlSortCmp.WholeK
import Derived.Shelf.SlSortCmp.NoneTotal
import Derived.Test.YtmllggkhfmjpgaaGreatDoorG5
import Derived.Test.YtmllggkhfmjpgaaGreatDoorSRT
import Derived.Test.YtmllggkhfmjpgaaGreatDoorG2
import Derived.Deep.DeepFit
import Derived.Test.YtmllggkhfmjpgaaGreatDoorRZ
set_option linter.unusedVariables false
set_option linter.unusedSimpArgs false
set_option maxRecDepth 100000
set_option maxHeartbeats 4000000
namespace Go.Vai
open Go Go.Sort
section
variable {α β κt:Type}[Inhabited α]{P:Program}{φ:ff}
theorem F2.YD{γ δ:Type}{R:γ->δ->Prop}{m m':List δ}(p:m'.Perm m):∀{l:List γ},F2 R l m->∃l',l'.Perm l/\F2 R l' m':=by
 induction p with
 |nil=>intro l h;cases h;exact⟨[],.nil,.nil⟩
 |cons x p ih=>
  intro l h;cases h with
  |cons h t=>obtain⟨l',p',h'⟩:=ih t;exact⟨_,p'.cons _,.cons h h'⟩
 |swap x y l0=>
  intro l h;cases h with
  |cons h1 t=>cases t with|cons h2 t=>exact⟨_,List.Perm.swap ..,.cons h2 (.cons h1 t)⟩
 |trans p q ihp ihq=>
  intro l h;obtain⟨l1,p1,h1⟩:=ihq h;obtain⟨l2,p2,h2⟩:=ihp h1;exact⟨l2,p2.trans p1,h2⟩
theorem F2.flat{γ δ:Type}{R:Value->Value->Prop}{f:γ->List Value}{g:δ->List Value}{l:List γ}{m:List δ}(h:F2 (λx y=>F2 R (f x) (g y)) l m):F2 R (l.flatMap f) (m.flatMap g):=by
 induction h with
 |nil=>exact .nil
 |cons hr _ ih=>simp only[List.flatMap_cons];exact hr.append ih
omit [Inhabited α] in
theorem afr{k:Nat}{enc:α->List Value}{dP:β->List Value}(hA:∀x,(dP x).length=k){kA:β->κt}{kC:α->κt}(Lu:∀(x:β)(cs:List Value),F2 (VR φ) (dP x) cs->∃y:α,cs=enc y/\kA x=kC y):∀(L:List β)(C:List Value),F2 (VR φ) (L.flatMap dP) C->∃ys:List α,C=ys.flatMap enc/\F2 (λx y=>F2 (VR φ) (dP x) (enc y)/\kA x=kC y) L ys:=by
 intro L
 induction L with
 |nil=>intro C h;cases h;exact⟨[],rfl,.nil⟩
 |cons x L ih=>
  intro C h;rw[List.flatMap_cons]at h;have h1:=h.take k;have h2:=h.drop k;have e1:(dP x++L.flatMap dP).take k=dP x:=by rw[<-hA x,List.take_left]
  have e2:(dP x++L.flatMap dP).drop k=L.flatMap dP:=by rw[<-hA x,List.drop_left]
  rw[e1]at h1;rw[e2]at h2;obtain⟨y,hy,hk⟩:=Lu x _ h1;obtain⟨ys,hys,hr⟩:=ih _ h2;refine⟨y::ys,?_,.cons ⟨hy▸h1,hk⟩ hr⟩;rw[List.flatMap_cons,<-hy,<-hys,List.take_append_drop]
theorem B9{k:Nat}(k0:0<k){enc:α->List Value}(hk:∀x,(enc x).length=k)(ys:List α):(Sort.flatK enc k ys.toArray).toList=ys.flatMap enc:=by
 refine List.ext_getElem? λt=>?_;have hl:=bH hk ys;by_cases ht:t<ys.length*k
 .have hd:t / k<ys.length:=(Nat.div_lt_iff_lt_mul k0).2 ht;have hm:t % k<k:=Nat.mod_lt _ k0;have e:=kQ hk (K:=ys) (i:=t / k) (j:=t % k) (List.getElem?_eq_getElem hd) hm;rw[Nat.div_add_mod' t k]at e;rw[e,Array.getElem?_toList];have hs:t<(Sort.flatK enc k ys.toArray).size:=by simpa using ht
  rw[Array.getElem?_eq_getElem hs];have:=Sort.get_flatK enc k ys.toArray t (by simpa using ht);rw[getElem!_pos _ t hs]at this;rw[this];have hd':t / k<ys.toArray.size:=by simpa using hd
  have a1:ys.toArray[t / k]! = ys[t / k]:=by rw[getElem!_pos ys.toArray (t / k) hd'];simp
  have hm':t % k<(enc ys[t / k]).length:=by rw[hk];exact hm
  rw[a1,getElem!_pos (enc ys[t / k]) (t % k) hm',List.getElem?_eq_getElem hm']
 .have tg:(Sort.flatK enc k ys.toArray).toList.length=ys.length*k:=by simp
  rw[List.getElem?_eq_none (by rw[tg];omega),List.getElem?_eq_none (by rw[hl];omega)]
theorem HR.grown{h:af}{w:World}(hr:HR P φ h w)(os:Array Obj):HR P φ h (grow w os):=by
 refine⟨λb o pl h1 h2=>?_,λb pl h=>?_,hr.keys,hr.RO,hr.inj,hr.lo⟩
 .have:=hr.dom b pl h2
  show OR P φ o pl (w.heap++os)[pl.B]?
  rw[Array.getElem?_append_left this.2];exact hr.obj b o pl h1 h2
 .have:=hr.dom b pl h;refine⟨this.1,?_⟩
  show pl.B<(w.heap++os).size
  rw[Array.size_append];omega
theorem Ext.grown{φ':ff}{h h':af}{w w':World}(hx:Ext φ φ' h h' w w')(os:Array Obj):Ext φ φ' h h' w (grow w' os):=by
 have hs:=hx.size;have key:∀B,B<w.heap.size->(grow w' os).heap[B]? = w'.heap[B]?:=λB hB=>by
  show(w'.heap++os)[B]? = _
  rw[Array.getElem?_append_left X1]
 refine⟨hx.sub,hx.new,hx.nx,?_,λB hB hn=>(key B hB).trans (hx.CJ B hB hn),hx.Dz,hx.tape,hx.os,hx.output,λ_ _=>trivial,hx.lo,hx.KE,λb o pl h1 h2 h3 h4 h5=>(key _ h5).trans (hx.KF b o pl h1 h2 h3 h4 h5),hx.dr⟩
 show _<=(w'.heap++os).size
 rw[Array.size_append];omega
theorem VR.Qi{b n:Nat}{v':Value}(h:VR φ (.slice (some ⟨b,0,none⟩) n aZ) v'):∃pl c,φ b=some pl/\v'=.slice (some ⟨pl.B,0,none⟩) n c:=by
 generalize KG:aZ=cc at h;cases h with
 |slice hp hn hc=>subst KG;exact absurd hc (Nat.lt_irrefl _)
 |cw hp hn hc=>exact⟨_,_,hp,rfl⟩
 |dB=>exact absurd KG X7
theorem VR.asG{g:Nat}{v':Value}(h:VR φ (.func (.func g) #[] #[]) v'):v'=.func (.func g) #[] #[]:=by
 cases h with
 |func fn a a' b b' hal hbl _ _=>
  have ea:a'=#[]:=by
   have:a'.toList.length=0:=hal.symm;exact Array.eq_empty_of_size_eq_zero (by simpa using this)
  have eb:b'=#[]:=by
   have:b'.toList.length=0:=hbl.symm;exact Array.eq_empty_of_size_eq_zero (by simpa using this)
  rw[ea,eb]
theorem OM{f g:FuncId}{k:Nat}(k0:0<k){enc:α->List Value}{dP:β->List Value}(hk:∀x,(enc x).length=k)(hA:∀x,(dP x).length=k){kA:β->κt}{kC:α->κt}{lt:κt->κt->Bool}(Lu:∀(φ:ff)(x:β)(cs:List Value),F2 (VR φ) (dP x) cs->∃y:α,cs=enc y/\kA x=kC y)(enters:∀args w,(callFunc f args).run P w=.ok (.enter f args) w)(law:∀(blk cap:Nat)(d:Array α)(w:World),HoldsK enc k w blk 0 d->blk<w.heap.size->d.size<4611686018427387904->
   Calls P f #[.slice (some ⟨blk,0,none⟩) d.size cap,.func (.func g) #[] #[]] w λe w'=>e=.returned (.tuple #[])/\∃d' n os,PermIn 0 d.size d d'/\SortedIn (λx y=>lt (kC x) (kC y)) 0 d.size d'/\w'=Go.Proofs.sortWorldK enc k w blk 0 n d' os){h:af}{b:Nat}{L:List β}{ty:TypeId}{op:Bool}(hb:h.bl.get b=some (aj (L.flatMap dP) ty op))(hlo:h.lo<=b)(uZ:L.length<=1000000){V:KQ}(hκ:∀D:List β,D.Perm L->D.Pairwise (λx y=>lt (kA y) (kA x)=false)->V (.tuple #[]) ⟨h.nx,h.bl.a_ b (aj (D.flatMap dP) ty op),h.lo⟩):av P f [.slice (some ⟨b,0,none⟩) L.length aZ,.func (.func g) #[] #[]] h V:=by
 intro φ w args' ha hr;cases ha with|cons hs ha=>
 cases ha with|cons hf ha=>
 cases ha;obtain⟨pl,c,hp,rfl⟩:=hs.Qi;obtain rfl:=hf.asG;have hb':=hb;unfold aj at hb';obtain⟨C,hC,zi,hn2,hop,hcell⟩:=hr.rowAt hb' hp;have hlen:=bH hA L;rw[hlen]at zi hn2 hcell;have hF:F2 (VR φ) (L.flatMap dP) (C.toList.take (L.length*k)):=by
  have hCl:C.toList.length=C.size:=by simp
  refine F2.nF (by rw[hlen,List.length_take];omega) λj v v' e1 e2=>?_;have hj:j<L.length*k:=by rw[<-hlen];exact(List.getElem?_eq_some_iff.mp e1).1
  obtain⟨v2,h2,h3⟩:=hcell j v (by rw[p_];exact e1) hj;rw[List.getElem?_take_of_lt hj,Array.getElem?_toList,h2]at e2;cases e2;exact h3
 obtain⟨ys,hys,hR⟩:=afr hA (Lu φ) L _ hF;have hyl:ys.length=L.length:=hR.length.symm;have hH:HoldsK enc k w pl.B 0 ys.toArray:=by
  intro j hj;have hfl:=B9 k0 hk ys;rw[<-hys]at hfl;have hj':j<L.length*k:=by simpa[hyl]using hj
  have hjs:j<(Sort.flatK enc k ys.toArray).size:=hj;have e1:(Sort.flatK enc k ys.toArray)[j]? = C[j]?:=by
   rw[<-Array.getElem?_toList,hfl,List.getElem?_take_of_lt hj',Array.getElem?_toList]
  rw[getElem!_pos _ j hjs];rw[Array.getElem?_eq_getElem hjs,Array.getElem?_eq_getElem X1]at e1;have e2:=Option.some.inj e1;constructor
  .show w.cell? ⟨pl.B,0+j,none⟩=some (Sort.flatK enc k ys.toArray)[j]
   rw[e2,Nat.zero_add];simp[World.cell?,hC,show j<C.size by omega]
  .simp[World.frozen?,hC]
 have hdom:=hr.dom b pl hp;have hd:=law pl.B c ys.toArray w hH hdom.2 (by rw[show ys.toArray.size=L.length by simpa using hyl];omega);rw[show ys.toArray.size=L.length by simpa using hyl]at hd;refine⟨enters _ _,hd.mono ?_⟩;rintro e w' ⟨rfl,d',n,os,alI,hsort,rfl⟩;obtain⟨hsz,_,vf⟩:=alI;have hdl:d'.size=L.length:=by rw[hsz];simpa using hyl
 have vf:d'.toList.Perm ys:=by
  have e1:d'.extract 0 L.length=d':=by rw[<-hdl];simp
  have e2:ys.toArray.extract 0 L.length=ys.toArray:=by rw[<-hyl];simp
  rw[e1,e2]at vf;simpa using vf
 obtain⟨D,hD,hRD⟩:=F2.YD vf hR;have hDl:=hD.length_eq;have hpw:D.Pairwise (λx y=>lt (kA y) (kA x)=false):=by
  rw[List.pairwise_iff_getElem];intro i j hi hj hij;obtain⟨y1,q1,r1⟩:=hRD.get i _ (List.getElem?_eq_getElem hi);obtain⟨y2,q2,r2⟩:=hRD.get j _ (List.getElem?_eq_getElem hj);have:=hsort i j (Nat.zero_le _) hij X1;rw[Array.getElem?_toList]at q1 q2;obtain⟨s1,rfl⟩:=Array.getElem?_eq_some_iff.1 q1;obtain⟨s2,rfl⟩:=Array.getElem?_eq_some_iff.1 q2;rw[getElem!_pos _ i s1,getElem!_pos _ j s2]at this;rw[r1.2,r2.2];exact this
 obtain⟨w1,hw1⟩:∃w1,w1=putRowK enc k (Sort.ahead w n) pl.B 0 d':=⟨_,rfl⟩
 have hfd:(Sort.flatK enc k d').toList=d'.toList.flatMap enc:=by
  have:=B9 k0 hk d'.toList;simpa using this
 have hheap:w1.heap=w.heap.modify pl.B (onCells (putCells id 0 (Sort.flatK enc k d'))):=by rw[hw1];rfl
 have hB:w1.heap[pl.B]? = some (.cells (putCells id 0 (Sort.flatK enc k d') C) ty (0,0)):=by
  rw[hheap,Array.getElem?_modify,if_pos rfl,hC];rfl
 have Gl:∀q,q≠pl.B->w1.heap[q]? = w.heap[q]?:=by
  intro q hq;rw[hheap,Array.getElem?_modify,if_neg (λe=>hq e.symm)]
 have UB:=bH hA D;have ho:OR P φ (aj (D.flatMap dP) ty op) pl w1.heap[pl.B]?:=by
  rw[hB];refine⟨rfl,rfl,?_,?_,?_,?_⟩
  .rw[UB,hDl];simpa[putCells]using zi
  .rw[UB,hDl];exact hn2
  .intro ho;obtain⟨a1,a2,a3⟩:=hop ho;exact⟨by simpa[putCells]using a1,a2,a3⟩
  .intro i v hv hi;rw[p_]at hv;rw[UB,hDl]at hi;have hFD:F2 (VR φ) (D.flatMap dP) (d'.toList.flatMap enc):=F2.flat (hRD.imp λa b r=>r.1);obtain⟨v',e1,e2⟩:=hFD.get i v hv;refine⟨v',?_,e2⟩;rw[<-hfd,Array.getElem?_toList]at e1;obtain⟨hs,e3⟩:=Array.getElem?_eq_some_iff.1 e1;have hiC:i<C.size:=by omega
   have hs':i<d'.size*k:=by simpa using hs
   unfold putCells;rw[Array.getElem?_mapIdx,Array.getElem?_eq_getElem hiC];simp only[Option.map_some,Nat.zero_le,true_and,Nat.zero_add,Nat.sub_zero];rw[if_pos hs,getElem!_pos _ i hs,e3];rfl
 have hts:=hr.EF (w':=w1) hlo hp ⟨_,hb,trivial⟩ (by rw[hheap];simp) Gl ho (by rw[hw1];rfl) (by rw[hw1];rfl) (by rw[hw1];rfl) (.inl trivial) (by rw[hw1];exact Nat.le_add_right _ _);refine⟨φ,.tuple #[],.tuple #[],_,rfl,hκ D hD hpw,VR.tuple' .nil,?_,?_⟩
 .show HR P φ _ (grow (putRowK enc k (Sort.ahead w n) pl.B 0 d') os)
  rw[<-hw1];exact hts.1.grown os
 .show Ext φ φ h _ w (grow (putRowK enc k (Sort.ahead w n) pl.B 0 d') os)
  rw[<-hw1];exact hts.2.grown os
theorem Qj{f g:FuncId}(enters:∀args w,(callFunc f args).run P w=.ok (.enter f args) w)(law:∀(p:Option Addr)(cap:Nat)(fv:Value)(w:World),Calls P f #[.slice p 0 cap,fv] w λe w'=>e=.returned (.tuple #[])/\w'=w){h:af}{v:Value}(hv:v=.slice none 0 0\/∃b o,v=.slice (some ⟨b,o,none⟩) 0 0){V:KQ}(hκ:V (.tuple #[]) h):av P f [v,.func (.func g) #[] #[]] h V:=by
 intro φ w args' ha hr;cases ha with|@cons _ v1 _ m1 hs ha=>
 cases ha with|@cons _ v2 _ m2 hf ha=>
 cases ha;obtain⟨p,cap,e1⟩:∃p cap,v1=.slice p 0 cap:=by
  rcases hv with rfl|⟨b,o,rfl⟩
  .cases hs with
   |gI h=>exact⟨_,_,rfl⟩
  .cases hs with
   |slice h1 h2 h3=>exact⟨_,_,rfl⟩
 subst e1;refine⟨enters _ _,(law p cap v2 w).mono ?_⟩;rintro e w' ⟨rfl,rfl⟩;exact⟨φ,.tuple #[],.tuple #[],h,rfl,hκ,VR.tuple' .nil,hr,Ext.refl _ _ _⟩
theorem B_{f:FuncId}{args args':List Value}{v:Value}(hc:av P f args ⟨0,.nil,0⟩ λu _=>u=v)(ha:F2 (VR λ_=>none) args args')(hv:pL v=true)(W:World):Calls P f args'.toArray W λe w'=>e=.returned v/\∃q os',w'=grow (W.drewN q) os':=by
 refine Calls.mono (hc _ W args' ha (HR.start W)).2 ?_;rintro e w' ⟨φ',v1,v',h',rfl,g1,g2,g3,g4⟩;have e1:v1=v:=g1;subst e1;refine⟨by rw[qR hv g2],w'.drawn-W.drawn,w'.heap.extract W.heap.size w'.heap.size,?_⟩;have hd:=g4.dr;have hs:=g4.size;have hfr:∀B,B<W.heap.size->w'.heap[B]? = W.heap[B]?:=λB hB=>g4.CJ B hB λb pl e=>by cases e
 have hheap:w'.heap=W.heap++w'.heap.extract W.heap.size w'.heap.size:=by
  refine Array.ext_getElem? λi=>?_;by_cases hi:i<W.heap.size
  .rw[Array.getElem?_append_left hi,hfr i hi]
  .rw[Array.getElem?_append_right X1,Array.getElem?_extract];by_cases hi2:i<w'.heap.size
   .rw[if_pos X1];congr 1;omega
   .rw[if_neg X1,Array.getElem?_eq_none X1]
 have ht:=g4.tape;have ho:=g4.os;have hu:=g4.output;obtain⟨a1,a2,a3,a4,a5⟩:=w';obtain⟨b1,b2,b3,b4,b5⟩:=W;simp only[grow,World.drewN]at *
 rw[World.mk.injEq];exact⟨hheap,ht,X1,ho,hu⟩
end
end Go.Vai

namespace Go.Proofs
open Go.Vai Go.Clashes
open Tryz (prog)
def alJ:Nat->Int|0=>0|1=>1|2=>2|3=>2|4=>3|5=>3|6=>3|7=>3|_=>4
theorem afs:∀n,n<13->bR prog 40 167 [.int .u64 (n:Nat)] (X8 (alJ n))=true:=by
 intro n hn;have:(List.range 13).all (λn=>bR prog 40 167 [.int .u64 ((n:Nat):Int)] (X8 (alJ n)))=true:=by kernel_rfl
 exact List.all_eq_true.1 this n (List.mem_range.2 hn)
theorem alK(v fv:Value)(n:Nat)(hn:n<=12)(lim:Int)(h:af)(V:KQ)(hk:av prog 281 [v,X8 0,X8 (n:Int),fv] h λ_ h'=>V (.tuple ⟨[]⟩) h'):av prog 205 [v,X8 0,X8 (n:Int),X8 lim,fv] h V:=by
 apply X9;rw[adz];refine⟨λm l h1=>ah l 127=X8 0/\ah l 140=X8 (n:Int)/\HQ h h1,⟨0,rfl,rfl,rfl⟩,?_⟩;rintro m l h1 ⟨s1,s2,hq⟩;cases(show h=h1 from hq);simp(disch:=try exact Y)only[Wz,Ik,s1,s2];exact hk
theorem UC(v fv:Value)(h:af)(V:KQ)(hk:V (.tuple ⟨[]⟩) h):av prog 281 [v,X8 0,X8 0,fv] h V:=by
 apply X9;rw[ad3];simp(disch:=try exact Y)only[Wz];refine⟨λn l h1=>ah l 42=X8 1/\HQ h h1,⟨0,rfl,rfl⟩,?_⟩;rintro n l h1 ⟨s1,hq⟩;cases(show h=h1 from hq);simp(disch:=try exact Y)only[Wz,s1];exact hk
section
variable {β:Type}{fl:β}
theorem UD(n:Int)(h:af)(V:X3 β)(hn:0<=n/\n<=18446744073709551615):ny fl .u64 (X8 n) h V=V (.int .u64 n) h:=by
 unfold ny;simp only[iZ,fD];rw[IntWalk.u64_in _ hn]
end
theorem JD(b:Nat):(Value.cells (.map (some b))).toList=[.map (some b)]:=id rfl
def WU(x y:Int × Int):Int:=sF x.1 x.2 y.1 y.2
theorem Fz(x y:Int × Int):ltOf WU x y=true<->x8 x y:=by
 show decide (sF x.1 x.2 y.1 y.2<0)=true<->_
 rw[decide_eq_true_eq,UA]
theorem ON{x y:Int × Int}:ltOf WU x y=false<->¬x8 x y:=by
 rw[<-Fz,Bool.not_eq_true]
theorem YE:Sort.SWO (ltOf WU) where
 irrefl x:=ON.2 (by unfold x8;omega)
 trans x y z h1 h2:=(Fz _ _).2 (D9 ((Fz _ _).1 h1) ((Fz _ _).1 h2))
 ntrans x y z h1 h2:=by
  rw[ON]at *
  unfold x8 at *
  omega
theorem UE(blk size:Nat)(w:World):Go.Proofs.CmpLays prog 96 #[] jc 2 WU blk 0 size w:=by
 intro m os dk _ x y;exact B_ (args:=[dg x.1 x.2,dg y.1 y.2]) (args':=[dg x.1 x.2,dg y.1 y.2]) (oR x.1 x.2 y.1 y.2 rfl)
  (.cons (VR.xk (.cons (.int _ _) (.cons (.int _ _) .nil))) (.cons (VR.xk (.cons (.int _ _) (.cons (.int _ _) .nil))) .nil)) rfl _
theorem L9(blk cap:Nat)(d:Array (Int × Int))(w:World)(hH:Sort.HoldsK jc 2 w blk 0 d)(hblk:blk<w.heap.size)(hsz:d.size<4611686018427387904):Calls prog 150 #[YYY blk d.size cap,.func (.func 96) #[] #[]] w λe w'=>e=.returned (.tuple #[])/\∃d' n os,Sort.PermIn 0 d.size d d'/\Sort.SortedIn (λx y=>ltOf WU x y) 0 d.size d'/\w'=Go.Proofs.sortWorldK jc 2 w blk 0 n d' os:=by
 have eg:∀args w,(callFunc 96 args).run prog w=.ok (.enter 96 args) w:=enters_of Tryz.func96 (by kernel_rfl) rfl;exact Go.Proofs.AnyQ.slices_SortFunc Tryz.afq 2 Tryz.isAgg28 Tryz.sizeOf28 jc (λ_=>rfl) (λx v hv=>by simp[jc]at hv;rcases hv with rfl|rfl<;>rfl) WU YE 96 #[] blk 0 cap d w eg (UE blk d.size w) hH hblk hsz
theorem L_:∀args w,(callFunc 150 args).run prog w=.ok (.enter 150 args) w:=enters_of Tryz.func150 (by kernel_rfl) rfl
theorem asJ(φ:ff)(x:Int × Int)(cs:List Value)(h:F2 (VR φ) (jc x) cs):∃y:Int × Int,cs=jc y/\x=y:=by
 unfold jc at h;cases h with|cons h1 h=>
 cases h with|cons h2 h=>
 cases h;cases h1;cases h2;exact⟨x,rfl,rfl⟩
theorem OO(a h:af)(L:List (Int × Int))(v:Value)(V:KQ)(ho:qX a h v L)(hle:Le a h)(hlo:h.lo<=h.nx)(hl:L.length<=1000000)(hd:L.Nodup)(hk:∀(D:List (Int × Int)) h',D.Perm L->D.Pairwise x8->qX a h' v D->Le a h'->V (.tuple ⟨[]⟩) h'):av prog 150 [v,.func (.func 96) #[] #[]] h V:=by
 rcases ho with⟨rfl,hv⟩|⟨b,hv,h1,h2,h3,h4⟩
 .obtain⟨x,c,rfl,_⟩:=(show Sl jc h v []from(show qX a h v []from .inl ⟨rfl,hv⟩).sl)
  apply X9;rw[acY];simp(disch:=try exact Y)only[Wz,UD];refine s9 mixed (afs 0 X1) ?_;refine alK _ _ 0 X1 _ h _ ?_;refine UC _ _ h _ ?_;exact hk [] h (List.Perm.refl _) List.Pairwise.nil (.inl ⟨rfl,hv⟩) hle
 ·cases hv;refine OM X7 (enc:=jc) (dP:=jc) nT nT (kA:=id) (kC:=id) (lt:=λx y=>ltOf WU x y) asJ L_ L9 h4 h3 hl ?_;intro D hp hs;have hs2:D.Pairwise x8:=by
   have hnd:D.Nodup:=(hp.nodup_iff).2 hd;refine(hnd.and hs).imp ?_;rintro x y ⟨hne,hlt⟩;exact OL (λe=>hne e.symm) (ON.1 hlt)
  refine hk D _ hp hs2 (.inr ⟨b,by rw[hp.length_eq],h1,h2,h3,T.ay _ _ _⟩) ⟨hle.nx,hle.lo,λc hc=>?_⟩;exact(T.aD _ _ X1).trans (hle.get c hc)
theorem YF{h:af}{bb bm bp bl most:Nat}{M:List HE}{clock:Nat}{F:List Int}{B:List Bool}(s:bC h bb bm bp bl most M clock F B)(hlo:h.lo<=h.nx)(hM:M.length<=1000)(V:KQ)(hk:∀v h' (D:List (Int × Int)),D.Perm (M.map c_)->D.Pairwise x8->qX h h' v D->Le h h'->V v h'):av prog 164 [UV bb] h V:=by
 apply X9;rw[ac7];have gb:=s.jj;simp(disch:=try exact Y)only[Wz,aN,gb];apply X9;rw[adJ];simp(disch:=try exact Y)only[Wz,JD];obtain⟨hA,aY,aU,gc,dI,dJ⟩:=kG h (aj [.map (some bm)] 265 false);rw[<-aY];clear aY;have sA:=s.le aU;apply X9;rw[aaG];apply X9;rw[TJ];have hlm:=s.jV;refine JA M clock bm h.nx hA s.ok sA.g_ X1 gc X1 X1 X1 _ ?_;intro v h2 L hp ho bD;have n2:=bD.nx;have l2:=bD.lo;have hnd:(L.map c_).Nodup:=by
  refine((hp.map c_).nodup_iff).2 ?_;rw[List.Nodup,List.pairwise_map];exact s.ok.nm.imp λhn e=>hn ⟨congrArg Prod.fst e,congrArg Prod.snd e⟩
 have hll:=hp.length_eq;refine OO hA h2 (L.map c_) v _ ho bD X1 (by rw[List.length_map];omega) hnd ?_;intro D h3 Ma hs tM dM;exact hk v h3 D (Ma.trans (hp.map c_)) hs (Own.base tM X1) (aU.trans dM)
theorem Qk{β:Type}{fl:β}{M:List HE}{clock:Nat}{h:af}{bm:Nat}(o:cO M clock)(g:h.bl.get bm=some (.map (M.map nS) clock)){e:HE}(he:e∈M)(V:X3 β):cq fl prog 28 (.pointer none) false (.map (some bm)) (dg e.t e.r) h V=V (UV e.hb) h:=by
 unfold cq iP;rw[Db];simp only[g];rcases Ju h e.t e.r M 0 with⟨g1,g2⟩|⟨j,e',g1,g2,g3,g4⟩
 .exact absurd ⟨rfl,rfl⟩ (g2 e he)
 .rw[g1];rw[o.uniq he (List.mem_of_getElem? g2) g3 g4];rfl
def slV(v:Value):Value:=match v with | .slice a n c=>.slice a n c|_=>.slice none 0 0
def uU(e:HE):List Value:=[X8 e.t,X8 e.r,slV e.q,X8 e.w]
theorem wC(e:HE):(uU e).length=4:=rfl
theorem JE(e:HE):(uU e).all ef=true:=by
 unfold uU slV;split<;>rfl
theorem afu{h:af}{q:Value}{Q:List R5}(hq:Sl bT h q Q):slV q=q:=by
 obtain⟨x,c,rfl,_⟩:=hq;rfl
abbrev UG(a h:af)(v:Value)(K:List HE):Prop:=Own uU a 55 h v K
def OP(a b:HE):Prop:=a.t=b.t/\a.r=b.r/\a.w=b.w/\a.Q=b.Q
theorem Ql{h:af}{bb bm bp bl most:Nat}{M:List HE}{clock:Nat}{F:List Int}{B:List Bool}(s:bC h bb bm bp bl most M clock F B)(hlo:h.lo<=h.nx)(hM:M.length<=1000)(V:KQ)(hk:∀v h' (K:List HE),K.length=M.length->(K.map c_).Perm (M.map c_)->(K.map c_).Pairwise x8->(∀k∈K,(∃e∈M,OP k e)/\QV h' k.q k.Q)->UG h h' v K->Le h h'->V v h'):av prog 109 [UV bb] h V:=by
 apply X9;rw[acy];simp(disch:=try exact Y)only[Wz,jk,HD];refine YF s hlo hM _ ?_;intro v1 h1 D hp hs Xf bN;have hlD:D.length=M.length:=by rw[hp.length_eq,List.length_map]
 obtain⟨x1,c1,rfl,_⟩:=(show Sl jc h1 v1 D from Xf.sl)
 have n1:=bN.nx;have l1:=bN.lo;simp(disch:=try exact Y)only[Wz];refine⟨λm l h2=>∃(i:Nat)(K:List HE),ah l 23=X8 (i:Int)/\m=D.length-i/\i<=D.length/\K.map c_=D.take i/\(∀k∈K,(∃e∈M,OP k e)/\QV h2 k.q k.Q)/\UG h1 h2 (ah l 21) K/\Le h1 h2,
  ⟨_,0,[],rfl,rfl,X1,by simp,λk hk=>(nomatch hk),.inl ⟨rfl,.inl rfl⟩,Le.refl _⟩,?_⟩
 rintro m l h2 ⟨i,K,s1,rfl,hi,hK,hQ,hoK,bD⟩;have n2:=bD.nx;have l2:=bD.lo;have hKl:K.length=i:=by have:=congrArg List.length hK;simp at this;omega
 by_cases hst:i<D.length
 .obtain⟨p,hpi⟩:∃p,D[i]? = some p:=⟨_,List.getElem?_eq_getElem hst⟩
  have Ma:p∈M.map c_:=hp.mem_iff.1 (List.mem_of_getElem? hpi);obtain⟨e,he,rfl⟩:=List.mem_map.1 Ma;have s2:=s.le (bN.trans bD);have gb:=s2.jj;have gm:=s2.g_;have ayh:=s2.rH;have H:=s2.bh e he;have hlt:=H.lt;have hgd:=s2.good e he;obtain⟨qx,qc,eq,_⟩:=(show Sl bT h2 e.q e.Q from H.qv.1)
  have gh:=H.get;rw[eq]at gh;obtain⟨b1,o1,hb1,YC,_,hh1⟩:=(Xf.sl.le bD).ld nT i hpi;have r1:=λ(β:Type)(fl:β) V=>lD (fl:=fl) hh1 2 V rfl;have asK:=s2.jV;have gmB:=(((Le.refl h2).new (aj [X8 e.t,X8 e.r] 28 false)).get _ asK).trans gm;have eL:=Qk (β:=Option Value) (fl:=none) s2.ok gmB he;unfold dg at eL;simp(disch:=try exact Y)only[Wz,s1,f_ (show(i:Int)<(D.length:Int)by omega),HB,YC,r1,jc,c_,aN,gb,gh,eL];obtain⟨hB,gL,bW,gn,gd,BO,BP⟩:=AY h2 (aj [X8 e.t,X8 e.r] 28 false) (gQ e.t e.r (.slice qx e.Q.length qc) e.w);rw[<-gL];clear gL;have hqB:Sl bT hB (.slice qx e.Q.length qc) e.Q:=by rw[<-eq];exact H.qv.1.le bW
  have uZ:=hgd.small;refine Jm e.Q hB _ _ hqB X1 X1 ?_;intro q3 h3 tM dM;have n3:=dM.nx;have l3:=dM.lo;have gd:=(dM.get _ X1).trans gd;obtain⟨Jq,Jr,rfl,_⟩:=(show Sl bT h3 q3 e.Q from tM.sl)
  simp(disch:=try exact Y)only[Wz,gd];obtain⟨h4,e4⟩:∃h4:af,h4=⟨h3.nx+1,(h3.bl.a_ (h2.nx+1) (gQ e.t e.r (.slice Jq e.Q.length Jr) e.w)).a_ h3.nx (gQ e.t e.r (.slice Jq e.Q.length Jr) e.w),h3.lo⟩:=⟨_,rfl⟩
  have jP:Le h2 h4:=by rw[e4];exact((bW.trans dM).set (b:=h2.nx+1) X1 _).new _
  have g4:h4.bl.get h3.nx=some (aj ([(⟨e.t,e.r,0,0,.slice Jq e.Q.length Jr,e.w,e.Q⟩:HE)].flatMap uU) 55 false):=by rw[e4];exact T.ay _ _ _
  have n4:h4.nx=h3.nx+1:=by rw[e4]
  have l4:h4.lo=h3.lo:=by rw[e4]
  have hq4:QV h4 (.slice Jq e.Q.length Jr) e.Q:=by
   rw[e4];exact((QV.own tM).put (λvs op=>by rw[gd];exact bJ X7) _).le ((Le.refl _).new _)
  try rw[<-e4]
  clear e4;refine jM (enc:=uU) (a:=h1) (L:=K) (M:=[(⟨e.t,e.r,0,0,.slice Jq e.Q.length Jr,e.w,e.Q⟩:HE)]) wC JE X7 X7 (hoK.le jP) (Sl.new X1 g4 _) (bD.trans jP) (by simp;omega) X1 _ ?_;intro v5 h5 uQ uk _ n5 l5 Ca;have Qe:∀c vs op,c<h4.nx->h4.bl.get c=some (aj vs 57 op)->h5.bl.get c=h4.bl.get c:=λc vs op hc hg=>Ca c hc (by rw[hg];exact bJ X7);refine⟨_,X1,i+1,K++[⟨e.t,e.r,0,0,.slice Jq e.Q.length Jr,e.w,e.Q⟩],by simp,rfl,X1,?_,?_,uQ,?_⟩
  .rw[List.map_append,hK,List.take_add_one,hpi];rfl
  .intro k hk';rcases List.mem_append.1 hk' with hk'|hk'
   .exact⟨(hQ k hk').1,((hQ k hk').2.le jP).frame n5 Qe⟩
   .rw[List.mem_singleton]at hk';subst hk';exact⟨⟨e,he,rfl,rfl,rfl,rfl⟩,hq4.frame n5 Qe⟩
  .exact uk
 .simp(disch:=try exact Y)only[Wz,s1,d_ (show(D.length:Int)<=(i:Int)by omega)];have hiD:i=D.length:=by omega
  subst hiD;rw[List.take_length]at hK;exact hk _ h2 K X1 (hK▸hp) (hK▸hs) hQ (Own.base hoK X1) (bN.trans bD)
theorem fS.sub{M M':List HE}{t r w:Int}{Q:List R5}(s:fS M M' t r w Q):∀x∈M',x∈M\/(x.t=t/\x.r=r/\x.w=w/\x.Q=Q):=by
 intro x hx;by_cases h0:Q=[]
 .rw[s.gone h0]at hx;exact .inl (List.mem_filter.1 hx).1
 .obtain⟨e,h1,h2,h3,h4,hp⟩:=s.put h0;rcases List.mem_append.1 (hp.mem_iff.1 hx)with hx|hx
  .exact .inl (List.mem_filter.1 hx).1
  .rw[List.mem_singleton]at hx;subst hx;exact .inr ⟨h1,h2,h3,h4⟩
theorem fS.len{M M':List HE}{t r w:Int}{Q:List R5}(s:fS M M' t r w Q):M'.length<=(M.filter λx=>!jO t r x).length+1:=by
 by_cases h0:Q=[]
 .rw[s.gone h0];omega
 .obtain⟨e,_,_,_,_,hp⟩:=s.put h0;rw[hp.length_eq];simp
theorem fS.wb{M M':List HE}{t r w:Int}{Q:List R5}{N:Nat}(s:fS M M' t r w Q)(hw:∀e∈M,e.w<=N)(h:w<=N+1):∀e∈M',e.w<=(N+1:Nat):=by
 intro e he;rcases s.sub e he with h1|⟨_,_,h1,_⟩
 .have:=hw e h1;omega
 .omega
theorem OQ{M:List HE}{clock:Nat}(o:cO M clock){e:HE}(he:e∈M):(M.filter λx=>!jO e.t e.r x).length+1=M.length:=by
 have:=(tD o he).length_eq;rw[this];simp
theorem afv(Q:List R5)(W id x m:Int):(mz Q W id x m).2.1<=W+1:=by unfold mz;split<;>simp<;>omega
theorem afw(Q:List R5)(W:Int)(r:R5)(m:Int):(kH Q W r m).2.1<=W+1:=by unfold kH;split<;>simp<;>omega
theorem YG(Q:List R5)(W:Int)(r:R5)(m:Int):(kH Q W r m).1.id=r.id:=by unfold kH;split<;>rfl
theorem wD{Q:List R5}{i:Nat}{p p':R5}(hi:Q[i]? = some p)(h:p'.id=p.id):(Q.set i p').map (·.id)=Q.map (·.id):=by
 obtain⟨hl,rfl⟩:=List.getElem?_eq_some_iff.1 hi;rw[List.map_set,h];refine List.ext_getElem? λk=>?_;rw[List.getElem?_set];split
 .rename_i e;subst e;simp[hl]
 .rfl
section
variable {h h':af}{bb bm bp bl most cap N:Nat}{M M':List HE}{clock clock':Nat}{F F':List Int}{B B':List Bool}
theorem Mb{Q:List R5}{W:Int}(v:VQ Q W){p:R5}{id:Int}(hf:cL Q id=some p):(Q.map (·.id)).Perm ((Q.filter λr=>!cZ id r).map (·.id)++[id]):=by
 obtain⟨hp,rfl⟩:=kS hf;have hnd:(Q.map (·.id)).Nodup:=by
  rw[List.Nodup,List.pairwise_map];exact v.pair.imp λhb=>hb.id
 have asL:((Q.filter λr=>!cZ p.id r).map (·.id)).Nodup:=hnd.sublist (List.filter_sublist.map _);refine(List.perm_ext_iff_of_nodup hnd (B2 asL λhm=>?_)).2 λx=>?_
 .obtain⟨q,hq,e⟩:=List.mem_map.1 hm;have:=(List.mem_filter.1 hq).2;simp[cZ,e]at this
 .rw[List.mem_append,List.mem_singleton,List.mem_map,List.mem_map];constructor
  .rintro⟨q,hq,rfl⟩;by_cases hqp:q.id=p.id
   .exact .inr hqp
   .exact .inl ⟨q,List.mem_filter.2 ⟨hq,by simp[cZ,hqp]⟩,rfl⟩
  .rintro(⟨q,hq,rfl⟩|rfl)
   .exact⟨q,(List.mem_filter.1 hq).1,rfl⟩
   .exact⟨p,hp,rfl⟩
end
theorem UH(b:Nat)(n:Int)(p:Addr)(V:List Value->Prop):bA False [(2,1)] [.map (some b)] [X8 n,.pointer (some p),.map none] V=V [X8 n,.pointer (some p),.map (some b)]:=by kernel_rfl
theorem JF(bh:Nat)(bp:Nat)(h:af)(V:KQ)(hh:1<=bh/\bh<=64)(hlo:h.lo<=h.nx)(hk:∀h',Le h h'->h'.nx=h.nx+2->h'.bl.get h.nx=some (.map [] 0)->h'.bl.get (h.nx+1)=some (aj [X8 (bh:Int),UV bp,.map (some h.nx)] 267 false)->V (.tuple ⟨[.pointer (some ⟨h.nx+1,0,none⟩),X8 0]⟩) h'):av prog 153 [X8 (bh:Int),UV bp] h V:=by
 apply X9;rw[TL];simp(disch:=try exact Y)only[Wz,d_ (show(1:Int)<=(bh:Int)by omega),d_ (show(bh:Int)<=64 by omega),Fv,cT,UH];exact hk _ (((Le.refl h).new _).new _) rfl ((T.aD _ _ X1).trans (T.ay _ _ _)) (T.ay _ _ _)
structure Act where
 k:Int
 t:Int
 r:Int
 id:Int
 x:Int
 m:Int
def dP(a:Act):List Value:=[X8 a.k,X8 a.t,X8 a.r,X8 a.id,X8 a.x,X8 a.m]
theorem wE{β:Type}{fl:β}(cn:Bool)(a b c d:Int)(h:af)(V:X3 β):aI fl prog .eql 28 cn false (.agg ⟨[X8 a,X8 b]⟩) (.agg ⟨[X8 c,X8 d]⟩) h V=V (.bool (decide (a=c/\b=d))) h:=by
 have:=eqN h a b c d;unfold dg at this;simp only[aI,this,bX]
theorem Qm:∀{L1 L2:List (Int × Int)},L1.Perm L2->L1.Pairwise x8->L2.Pairwise x8->L1=L2:=by
 intro L1
 induction L1 with
 |nil=>intro L2 h _ _;exact(List.nil_perm.1 h).symm
 |cons a L1 ih=>
  intro L2 h h1 h2;cases L2 with
  |nil=>exact absurd h.length_eq (by simp)
  |cons b L2=>
   rw[List.pairwise_cons]at h1 h2;by_cases hab:a=b
   .subst hab;rw[ih (List.Perm.cons_inv h) h1.2 h2.2]
   ·exfalso;have ha:a∈L2:=by
     rcases List.mem_cons.1 (h.mem_iff.1 (.head _))with e|e
     .exact absurd e hab
     .exact e
    have hb:b∈L1:=by
     rcases List.mem_cons.1 (h.mem_iff.2 (.head _))with e|e
     .exact absurd e.symm hab
     .exact e
    have:=D9 (h2.1 a ha) (h1.1 b hb);unfold x8 at this;omega
section
variable {M M' K:List HE}{clock:Nat}
end
end Go.Proofs

namespace Go.Vai
theorem Own.keep{α:Type}{enc:α->List Value}{a h h':af}{e:TypeId}{v:Value}{L:List α}(ho:Own enc a e h v L)(hn:h.nx<=h'.nx)(hl:h'.lo=h.lo)(hg:∀b vs,b<h.nx->h.bl.get b=some (aj vs e true)->h'.bl.get b=h.bl.get b):Own enc a e h' v L:=by
 rcases ho with h0|⟨b,h1,h2,h3,h4,h5⟩
 .exact .inl h0
 .exact .inr ⟨b,h1,h2,Nat.lt_of_lt_of_le h3 hn,by rw[hl];exact h4,(hg b _ h3 h5).trans h5⟩
end Go.Vai
namespace Go.Proofs
open Go.Vai Go.Clashes
open Tryz (prog)
section
variable {a h:af}{bb bm bp bl most cap N:Nat}{M:List HE}{clock:Nat}{F:List Int}{B:List Bool}{rb rp rl:Nat}{v:Value}{K:List HE}
end
theorem asM{h:af}{v:Value}{K:List HE}(hs:Sl uU h v K)(i:Nat){e:HE}(hp:K[i]? = some e)(hq:slV e.q=e.q):∃b o,b<h.nx/\(∀(β:Type)(fl:β)(h':af)(V:X3 β),aO fl 4 v (X8 (i:Int)) h' V=V (.pointer (some ⟨b,o,none⟩)) h')/\
   ∀h',Le h h'->((∀(β:Type)(fl:β)(V:List Value->β),xI fl (h'.bl.get b) o 2 V=V [X8 e.t,X8 e.r])/\
   (∀(β:Type)(fl:β)(V:List Value->β),xI fl (h'.bl.get b) o 4 V=V [X8 e.t,X8 e.r,e.q,X8 e.w])/\
   (∀(β:Type)(fl:β)(V:Value->β),w8 fl (h'.bl.get b) o V=V (X8 e.t))/\
   (∀(β:Type)(fl:β)(V:Value->β),w8 fl (h'.bl.get b) (o+1) V=V (X8 e.r))/\
   (∀(β:Type)(fl:β)(V:Value->β),w8 fl (h'.bl.get b) (o+2) V=V e.q)/\
   (∀(β:Type)(fl:β)(V:Value->β),w8 fl (h'.bl.get b) (o+3) V=V (X8 e.w))):=by
 obtain⟨b,o,h1,h2,h3,hh⟩:=hs.ld wC i hp;refine⟨b,o,h1,h2,λh' l=>?_⟩;rw[l.get b h1];refine⟨λβ fl V=>?_,λβ fl V=>?_,λβ fl V=>?_,λβ fl V=>?_,λβ fl V=>?_,λβ fl V=>?_⟩
 .have:=hh.sub 0 2 (by show 0+2<=4;omega);rw[Nat.add_zero]at this;exact lD this 2 V rfl
 .rw[lD hh 4 V rfl];unfold uU;rw[hq]
 .exact eU (fl:=fl) hh 0 V (by show 0<4;omega)
 .exact eU (fl:=fl) hh 1 V (by show 1<4;omega)
 .rw[eU (fl:=fl) hh 2 V (by show 2<4;omega)];show V (slV e.q)=_;rw[hq]
 .exact eU (fl:=fl) hh 3 V (by show 3<4;omega)
section
variable {a h:af}{rb rp most:Nat}{v:Value}{K:List HE}
end
section
variable {a h:af}{rb rp rl most:Nat}{v:Value}{K:List HE}
end
section
variable {a h:af}{rb rp rl most:Nat}{v:Value}{K:List HE}{B:List Bool}
end
section
variable {a h:af}{rb rp rl most:Nat}{v:Value}{K:List HE}{B:List Bool}
end
section
variable {a h:af}{rb rp rl most:Nat}{v:Value}{K:List HE}{B:List Bool}
end
theorem uj.uniq{M:List HE}{B:List Bool}(i:uj M B){e e':HE}(he:e∈M)(he':e'∈M){p p':R5}(hp:p∈e.Q)(hp':p'∈e'.Q)(h:p.id=p'.id):e=e':=by
 obtain⟨X,hX⟩:=i;have hnd:=(List.nodup_append.1 ((hX.nodup_iff).2 (uS B))).1;unfold iu at hnd;rw[List.Nodup,List.pairwise_flatMap]at hnd;obtain⟨i,hi⟩:=List.getElem?_of_mem he;obtain⟨j,hj⟩:=List.getElem?_of_mem he';have G:=fN.1 hnd.2;rcases Nat.lt_trichotomy i j with hl|hl|hl
 .exact absurd h (G i j e e' hl hi hj _ (List.mem_map.2 ⟨p,hp,rfl⟩) _ (List.mem_map.2 ⟨p',hp',rfl⟩))
 .subst hl;rw[hi]at hj;exact Option.some.inj hj
 .exact absurd h.symm (G j i e' e hl hj hi _ (List.mem_map.2 ⟨p',hp',rfl⟩) _ (List.mem_map.2 ⟨p,hp,rfl⟩))
section
variable {h h':af}{bb bm bp bl most cap N:Nat}{M M' K:List HE}{clock clock':Nat}{F F':List Int}{B B':List Bool}
end
section
variable {a h:af}{rb rp rl most:Nat}{v:Value}{K:List HE}{B:List Bool}
end
section
variable {a h:af}{rb rp rl most:Nat}{v:Value}{K:List HE}{B:List Bool}
end
section
variable {a0 h:af}{bb bm bp bl most cap N:Nat}{M:List HE}{clock:Nat}{F:List Int}{B:List Bool}{rb rp rl:Nat}{v:Value}{K:List HE}
end
def Mc(M:List HE)(t r x id:Int)(b:Bool):Prop:=(b=true/\∃e∈M,t=e.t/\r=e.r/\∃p∈e.Q,p.x=x/\p.id=id)\/(b=false/\id=0/\∀e∈M,t=e.t->r=e.r->∀p∈e.Q,p.x≠x)
theorem YH{h:af}{bb bm bp bl most:Nat}{M:List HE}{clock:Nat}{F:List Int}{B:List Bool}(s:bC h bb bm bp bl most M clock F B)(hlo:h.lo<=h.nx)(t r x:Int)(V:KQ)(hk:∀h' id b,Mc M t r x id b->Le h h'->V (.tuple ⟨[X8 id,.bool b]⟩) h'):av prog 350 [UV bb,dg t r,X8 x] h V:=by
 refine Jw s hlo t r x _ ?_ ?_
 .intro h' hn l;exact hk h' 0 false (.inr ⟨rfl,rfl,hn⟩) l
 .intro h' e p he ht hr hp hx l;exact hk h' _ true (.inl ⟨rfl,e,he,ht,hr,p,hp,hx,rfl⟩) l
section
variable {a0 h:af}{bb bm bp bl most cap N:Nat}{M:List HE}{clock:Nat}{F:List Int}{B:List Bool}{rb rp rl:Nat}{v:Value}{K:List HE}
end
end Go.Proofs

namespace Go.Vai
open Go
section
variable {β:Type}{fl:β}
theorem Ac(P:Program)(t:TypeId)(cn gd:Bool)(a b:ByteArray)(h:af)(V:X3 β)(hs:a.size+b.size<=9223372036854775807):aI fl P .add t cn gd (.string a) (.string b) h V=V (.string (a++b)) h:=by
 have e:Nat.ble (Nat.add a.size b.size) 9223372036854775807=true:=Nat.ble_eq_true_of_le hs;simp only[aI];rw[e]
theorem Qn(P:Program)(t:TypeId)(cn gd:Bool)(a b:Int)(h:af)(V:X3 β):aI fl P .xor t cn gd (.int .u32 a) (.int .u32 b) h V=V (.int .u32 (IntKind.u32.wrap ((BitVec.ofInt IntKind.u32.bits a ^^^ BitVec.ofInt IntKind.u32.bits b).toNat))) h:=by
 simp only[aI,jx,pO,iZ,fD]
theorem Qo(P:Program)(t:TypeId)(cn gd:Bool)(a b:Int)(h:af)(V:X3 β):aI fl P .mul t cn gd (.int .u32 a) (.int .u32 b) h V=V (.int .u32 (IntKind.u32.wrap (a*b))) h:=by
 simp only[aI,jx,pO,iZ,fD];rfl
theorem Qp(P:Program)(t:TypeId)(cn gd:Bool)(a b:Int)(h:af)(V:X3 β)(hb:b≠0):aI fl P .rem t cn gd (.int .u32 a) (.int .u32 b) h V=V (.int .u32 (Int.tmod a b)) h:=by
 simp only[aI,jx,pO,iZ,iA,hb,decide_false]
theorem JG(k:IntKind)(a:Int)(h:af)(V:X3 β):ny fl .u32 (.int k a) h V=V (.int .u32 (IntKind.u32.wrap a)) h:=by simp only[ny,iZ,fD]
theorem FA(a:Int):0<=IntKind.u32.wrap a/\IntKind.u32.wrap a<4294967296:=by
 unfold IntKind.wrap;simp only[IntKind.bits,IntKind.signed];have h1:=Int.emod_nonneg a (show(2:Int) ^ 32≠0 by decide);have h2:=Int.emod_lt_of_pos a (show(0:Int)<2 ^ 32 by decide);simp at *
 omega
theorem Qq{a:Int}(h:0<=a/\a<4294967296):IntKind.u32.wrap a=a:=by
 unfold IntKind.wrap;simp only[IntKind.bits,IntKind.signed];have:=Int.emod_eq_of_lt h.1 (show a<2 ^ 32 by omega);simp at *
 omega
theorem YI(s:ByteArray):k_ 8 (.string s) (.string s)=true:=by
 show nq s s=true
 rw[lQ];simp
def Cb(s:ByteArray):List Value:=s.data.toList.map λb:UInt8=>Value.int .u8 (Int.ofNat b.toNat)
theorem Md{s:ByteArray}{i:Nat}(h:i<s.data.toList.length):(Cb s)[i]? = some (.int .u8 (Int.ofNat (s.data.toList[i]).toNat)):=by
 unfold Cb;rw[List.getElem?_map,List.getElem?_eq_getElem h];rfl
theorem JH(e:TypeId)(s:ByteArray)(h:af)(V:X3 β)(hs:s.data.toList.length<=1000000000000):rN fl e (.string s) h V=V (.slice (some ⟨h.nx,0,none⟩) s.data.toList.length aZ) ⟨h.nx+1,h.bl.a_ h.nx (roO (Cb s) e),h.lo⟩:=by
 unfold rN;simp only[DC,zH,Nat.zero_add,List.length_map];rw[Nat.ble_eq_true_of_le hs];simp only[dO];unfold roO Cb;simp only[List.length_map]
end
end Go.Vai

namespace Go.Proofs
open Go.Vai Go.Clashes
open Tryz (prog)
def JI(n:Int):Bool:=decide (0<=n) && decide (n<100)
theorem wF(n:Int){h:af}{V:KQ}(hk:V (.bool (JI n)) h):av prog 203 [X8 n] h V:=by
 refine jL (v:=.bool (JI n)) rfl rfl (aG mixed ?_) hk;rw[ady];by_cases h1:n<0
 .simp(disch:=try exact Y)only[Wz,f_ h1];simp[JI];omega
 .by_cases h2:n<100
  .simp(disch:=try exact Y)only[Wz,d_ (show 0<=n by omega),f_ h2];simp[JI];omega
  .simp(disch:=try exact Y)only[Wz,d_ (show 0<=n by omega),d_ (show 100<=n by omega)];simp[JI];omega
theorem Me(h:af)(V:KQ)(hlo:h.lo<=h.nx)(hk:∀h',Le h h'->V (dg (-1) (-1)) h'):av prog 202 [] h V:=by
 apply X9;rw[adx];simp(disch:=try exact Y)only[Wz];exact hk _ ((Le.refl h).new _)
def br(t r:Int):Int:=if t = -1/\r = -1 then 0 else if JI t=true/\r = -1 then 1 else if JI t=true/\JI r=true then 2 else -1
theorem UI(t r:Int)(h:af)(V:KQ)(hlo:h.lo<=h.nx)(hk:∀h',Le h h'->V (X8 (br t r)) h'):av prog 147 [dg t r] h V:=by
 apply X9;rw[acX];simp(disch:=try exact Y)only[Wz,dg];obtain⟨hA,aY,aU,g1,dI,dJ⟩:=kG h (aj [X8 t,X8 r] 28 false);rw[<-aY];clear aY;refine Me hA _ X1 ?_;intro h2 bD;have mM:=bD.nx;have mN:=bD.lo;have g1:=(bD.get _ X1).trans g1;have hk:=hk h2 (aU.trans bD);simp(disch:=try exact Y)only[Wz,dg,g1,oJ,wE];by_cases h0:t = -1/\r = -1
 .simp(disch:=try exact Y)only[Wz,bz h0];have e:br t r=0:=by simp[br,h0]
  rw[e]at hk;exact hk
 .simp(disch:=try exact Y)only[Wz,bf h0,HZ,g1];refine wF t ?_;cases ht:JI t with
  |false=>
   simp(disch:=try exact Y)only[Wz,Bk,g1];refine wF t ?_;rw[ht];have e:br t r = -1:=by unfold br;rw[if_neg h0,ht];simp
   rw[e]at hk;simp(disch:=try exact Y)only[Wz];exact hk
  |true=>
   by_cases hr:r = -1
   .simp(disch:=try exact Y)only[Wz,bz hr,g1];have e:br t r=1:=by unfold br;rw[if_neg h0,ht,hr];simp
    rw[e]at hk;exact hk
   .simp(disch:=try exact Y)only[Wz,bf hr,Bk,g1];refine wF t ?_;rw[ht];simp(disch:=try exact Y)only[Wz,g1];refine wF r ?_;cases Gy:JI r with
    |false=>
     have e:br t r = -1:=by unfold br;rw[if_neg h0,ht,Gy];simp[hr]
     rw[e]at hk;simp(disch:=try exact Y)only[Wz];exact hk
    |true=>
     have e:br t r=2:=by unfold br;rw[if_neg h0,ht,Gy];simp[hr]
     rw[e]at hk;simp(disch:=try exact Y)only[Wz];exact hk
theorem lH(t r:Int){h:af}{V:KQ}(hk:V (X8 (br t r)) h):av prog 147 [dg t r] h V:=
 jL (v:=X8 (br t r)) rfl rfl (UI t r yK _ (Nat.le_refl _) λ_ _=>rfl) hk
theorem qt(t r:Int){h:af}{V:KQ}(hk:V (X8 (if br t r = -1 then 2 else 0)) h):av prog 102 [dg t r] h V:=by
 refine jL (v:=X8 (if br t r = -1 then 2 else 0)) rfl rfl (aG mixed ?_) hk;rw[acs];simp(disch:=try exact Y)only[Wz,dg];refine lH t r ?_;by_cases h:br t r = -1
 .simp(disch:=try exact Y)only[Wz,bz h];simp[h]
 .simp(disch:=try exact Y)only[Wz,bf h];simp[h]
def mO(n:Nat):ByteArray:=if n<10 then⟨#[UInt8.ofNat (48+n)]⟩else⟨#[UInt8.ofNat (48+n / 10),UInt8.ofNat (48+n % 10)]⟩
theorem afx:∀n,n<100->bR prog 60 290 [X8 (n:Nat)] (.string (mO n))=true:=by
 intro n hn;have:(List.range 100).all (λn=>bR prog 60 290 [X8 ((n:Nat):Int)] (.string (mO n)))=true:=by kernel_rfl
 exact List.all_eq_true.1 this n (List.mem_range.2 hn)
theorem Mf(n:Int)(hn:JI n=true){h:af}{V:KQ}(hk:V (.string (mO n.toNat)) h):av prog 290 [X8 n] h V:=by
 have h1:0<=n/\n<100:=by simpa[JI]using hn
 obtain⟨k,rfl⟩:∃k:Nat,n=(k:Int):=⟨n.toNat,X1⟩
 rw[Int.toNat_natCast]at hk;exact s9 mixed (afx k X1) hk
def kJ(t r:Int):ByteArray:=if br t r=0 then⟨#[100,98]⟩else if br t r=1 then(⟨#[116]⟩:ByteArray)++mO t.toNat else(⟨#[116]⟩:ByteArray)++mO t.toNat++(⟨#[46,114]⟩:ByteArray)++mO r.toNat
theorem tE(n:Nat):(mO n).size<=2:=by
 unfold mO;split<;>simp[ByteArray.size]
theorem JJ{t r:Int}(h:br t r≠-1):br t r=0\/(br t r=1/\JI t=true)\/(br t r=2/\JI t=true/\JI r=true):=by
 unfold br at *
 split
 .exact .inl rfl
 .split
  .rename_i h1;exact .inr (.inl ⟨rfl,h1.1⟩)
  .split
   .rename_i h1;exact .inr (.inr ⟨rfl,h1⟩)
   .rename_i h1 h2 h3;rw[if_neg h1,if_neg h2,if_neg h3]at h;exact absurd rfl h
theorem afy(t r:Int)(hl:br t r≠-1){h:af}{V:KQ}(hk:V (.string (kJ t r)) h):av prog 208 [dg t r] h V:=by
 refine jL (v:=.string (kJ t r)) rfl rfl (aG mixed ?_) hk;rw[adC];simp(disch:=try exact Y)only[Wz,dg];refine lH t r ?_;have st:=tE t.toNat;have sr:=tE r.toNat;rcases JJ hl with e|⟨e,ht⟩|⟨e,ht,hr⟩
 .rw[e];simp(disch:=try exact Y)only[Wz];simp[kJ,e]
 .rw[e];simp(disch:=try exact Y)only[Wz,Bn];refine Mf t ht ?_;rw[Ac _ _ _ _ _ _ _ _ (by show 1+_<=_;omega)];simp[kJ,e]
 .rw[e];simp(disch:=try exact Y)only[Wz,Bn,Im];have e1:∀(β:Type)(fl:β)(cn gd:Bool)(h:af)(V:X3 β),aI fl prog .add 9 cn gd (.string ⟨#[116]⟩) (.string (mO t.toNat)) h V=V (.string ((⟨#[116]⟩:ByteArray)++mO t.toNat)) h:=λβ fl cn gd h V=>Ac _ _ _ _ _ _ _ _ (by show 1+_<=_;omega);have e2:∀(β:Type)(fl:β)(cn gd:Bool)(h:af)(V:X3 β),aI fl prog .add 9 cn gd (.string ((⟨#[116]⟩:ByteArray)++mO t.toNat)) (.string ⟨#[46,114]⟩) h V=V (.string ((⟨#[116]⟩:ByteArray)++mO t.toNat++(⟨#[46,114]⟩:ByteArray))) h:=λβ fl cn gd h V=>Ac _ _ _ _ _ _ _ _ (by rw[ByteArray.size_append];show 1+_+2<=_;omega);have e3:∀(β:Type)(fl:β)(cn gd:Bool)(h:af)(V:X3 β),aI fl prog .add 9 cn gd (.string ((⟨#[116]⟩:ByteArray)++mO t.toNat++(⟨#[46,114]⟩:ByteArray))) (.string (mO r.toNat)) h V=V (.string ((⟨#[116]⟩:ByteArray)++mO t.toNat++(⟨#[46,114]⟩:ByteArray)++mO r.toNat)) h:=λβ fl cn gd h V=>Ac _ _ _ _ _ _ _ _ (by rw[ByteArray.size_append,ByteArray.size_append];show 1+_+2+_<=_;omega);refine Mf t ht ?_;simp(disch:=try exact Y)only[Wz,e1,e2];refine Mf r hr ?_;simp(disch:=try exact Y)only[Wz,e1,e2,e3,YI];simp[kJ,e]
def D_(a:Int)(b:UInt8):Int:=IntKind.u32.wrap (IntKind.u32.wrap ((BitVec.ofInt IntKind.u32.bits a ^^^ BitVec.ofInt IntKind.u32.bits (IntKind.u32.wrap (Int.ofNat b.toNat))).toNat)*16777619)
def x9(s:ByteArray):Int:=s.data.toList.foldl D_ 2166136261
theorem JK(a:Int)(b:UInt8):0<=D_ a b/\D_ a b<4294967296:=FA _
theorem uV(s:ByteArray):0<=x9 s/\x9 s<4294967296:=by
 unfold x9;have:∀(l:List UInt8)(a:Int),(0<=a/\a<4294967296)->0<=l.foldl D_ a/\l.foldl D_ a<4294967296:=by
  intro l
  induction l with
  |nil=>exact λa h=>h
  |cons b l ih=>exact λa _=>ih _ (JK a b)
 exact this _ _ X7
theorem alM(s:ByteArray)(hs:s.data.toList.length<=1000){h:af}{V:KQ}(hk:V (.int .u32 (x9 s)) h):av prog 207 [.string s] h V:=by
 refine jL (v:=.int .u32 (x9 s)) rfl rfl (aG mixed ?_) hk;rw[adB];rw[JH _ _ _ _ X1];simp(disch:=try exact Y)only[Wz];refine⟨λn l h1=>∃i:Nat,ah l 12=X8 (i:Int)/\ah l 10=.int .u32 ((s.data.toList.take i).foldl D_ 2166136261)/\i<=s.data.toList.length/\n=s.data.toList.length-i/\HQ ⟨yK.nx+1,yK.bl.a_ yK.nx (roO (Cb s) 5),yK.lo⟩ h1,⟨_,0,rfl,rfl,Nat.zero_le _,rfl,rfl⟩,?_⟩;rintro n l h1 ⟨i,s1,s2,hi,rfl,hq⟩;cases(show _=h1 from hq);by_cases hlt:i<s.data.toList.length
 .have hg:=Md hlt;simp(disch:=try exact Y)only[Wz,s1,f_ (show(i:Int)<(s.data.toList.length:Int)by omega),Il,bB,Nat.mul_one,hg,s2,JG,Qn,Qo];refine⟨_,X1,i+1,rfl,?_,X1,rfl,rfl⟩;rw[List.take_add_one,List.getElem?_eq_getElem hlt];simp only[Option.toList_some,List.foldl_append,List.foldl_cons,List.foldl_nil];rfl
 .have hil:i=s.data.toList.length:=by omega
  simp(disch:=try exact Y)only[Wz,s1,d_ (show(s.data.toList.length:Int)<=(i:Int)by omega),s2];rw[hil,List.take_length];rfl
theorem UJ(t r:Int):(kJ t r).data.toList.length<=1000:=by
 have st:=tE t.toNat;have sr:=tE r.toNat;have:(kJ t r).size<=1000:=by
  unfold kJ;split
  .decide
  .split
   .rw[ByteArray.size_append];show 1+_<=_;omega
   .rw[ByteArray.size_append,ByteArray.size_append,ByteArray.size_append];show 1+_+2+_<=_;omega
 exact this
theorem afz(t r:Int)(hl:br t r≠-1){h:af}{V:KQ}(hk:V (.int .u32 (x9 (kJ t r))) h):av prog 155 [dg t r] h V:=by
 refine jL (v:=.int .u32 (x9 (kJ t r))) rfl rfl (aG mixed ?_) hk;rw[ac0];simp(disch:=try exact Y)only[Wz,dg];refine afy t r hl ?_;refine alM _ (UJ t r) ?_;rfl
def eN(t r s:Int):Int:=if s<1\/16<s\/br t r = -1 then -1 else Int.tmod (x9 (kJ t r)) s
theorem Mg{t r s:Int}(h:eN t r s≠-1):0<=eN t r s/\eN t r s<s/\br t r≠-1:=by
 unfold eN at *
 by_cases hc:s<1\/16<s\/br t r = -1
 .rw[if_pos hc]at h;exact absurd rfl h
 .rw[if_neg hc];have h1:=uV (kJ t r);have h2:=Int.tmod_lt_of_pos (x9 (kJ t r)) (show 0<s by omega);have h3:=Int.tmod_nonneg s h1.1;exact⟨h3,h2,λe=>hc (.inr (.inr e))⟩
theorem alN(s:Int){h:af}{V:KQ}(hk:V (.bool (decide (1<=s) && decide (s<=16))) h):av prog 154 [X8 s] h V:=by
 refine jL (v:=.bool (decide (1<=s) && decide (s<=16))) rfl rfl (aG mixed ?_) hk;rw[acZ];by_cases h1:s<1
 .simp(disch:=try exact Y)only[Wz,f_ h1];simp;omega
 .by_cases h2:16<s
  .simp(disch:=try exact Y)only[Wz,d_ (show 1<=s by omega),f_ h2];simp;omega
  .simp(disch:=try exact Y)only[Wz,d_ (show 1<=s by omega),d_ (show s<=16 by omega)];simp;omega
theorem UK(t r s:Int){h:af}{V:KQ}(hk:V (X8 (eN t r s)) h):av prog 104 [dg t r,X8 s] h V:=by
 refine jL (v:=X8 (eN t r s)) rfl rfl (aG mixed ?_) hk;rw[acv];simp(disch:=try exact Y)only[Wz,dg];refine alN s ?_;by_cases h1:1<=s/\s<=16
 .simp(disch:=try exact Y)only[Wz,bz h1.1,bz h1.2];refine qt t r ?_;by_cases hl:br t r = -1
  .rw[if_pos hl];simp(disch:=try exact Y)only[Wz];simp[eN,hl]
  .rw[if_neg hl];simp(disch:=try exact Y)only[Wz];refine afz t r hl ?_;have hr:=uV (kJ t r);have h2:=Int.tmod_lt_of_pos (x9 (kJ t r)) (show 0<s by omega);have h3:=Int.tmod_nonneg s hr.1;simp(disch:=try exact Y)only[Wz,JG,Qq,Qp];unfold eN;rw[if_neg X1]
 .have e:(decide (1<=s) && decide (s<=16))=false:=by simp;omega
  rw[e];simp(disch:=try exact Y)only[Wz];unfold eN;rw[if_pos X1]
abbrev IE:=Int × Int × Nat
def Ea(e:IE):MapEntry:={ key:=X8 e.1,val:=X8 e.2.1,born:=e.2.2 }
def Qr(W:List IE)(k:Int):Option Int:=(W.find? λe=>decide (k=e.1)).map λe=>e.2.1
theorem eqI(h:af)(a b:Int):mR prog h 100 3 (X8 a) (X8 b)=some (decide (a=b)):=by
 have:mR prog h 100 3 (X8 a) (X8 b)=some (rK a b):=by kernel_rfl
 rw[this,iA]
theorem Qs(t:Int):lK prog 20 3 (X8 t)=true:=by kernel_rfl
theorem XQ(t:Int):k_ 3 (X8 t) (X8 t)=true:=by
 show(jx .i64 .i64 && rK t t)=true
 rw[iA,bz rfl];rfl
theorem aaU(h:af)(k:Int):∀(M:List IE)(i:Nat),(fJ prog h 3 (X8 k) (M.map Ea) i=some none/\M.find? (λe=>decide (k=e.1))=none)\/
  ∃(j:Nat)(e:IE),fJ prog h 3 (X8 k) (M.map Ea) i=some (some (i+j,Ea e))/\M[j]? = some e/\k=e.1/\M.find? (λe=>decide (k=e.1))=some e/\∀(v:Int)(k':Int),(M.set j (e.1,v,e.2.2)).find? (λe=>decide (k'=e.1))=if k'=k then some (e.1,v,e.2.2)else M.find? (λe=>decide (k'=e.1)):=by
 intro M
 induction M with
 |nil=>intro i;exact .inl ⟨rfl,rfl⟩
 |cons e M ih=>
  intro i;have hf:fJ prog h 3 (.int .i64 k) ((e::M).map Ea) i=(match(some (decide (k=e.1)):Option Bool)with|some true=>some (some (i,Ea e))|some false=>fJ prog h 3 (.int .i64 k) (M.map Ea) (Nat.succ i)|none=>none):=by
   rw[<-eqI h];rfl
  rw[hf];by_cases h1:k=e.1
  .rw[bz h1];refine .inr ⟨0,e,rfl,rfl,h1,by rw[List.find?_cons,bz h1],λv k'=>?_⟩;rw[List.set_cons_zero,List.find?_cons,List.find?_cons];by_cases h2:k'=k
   .rw[if_pos h2,bz (h2.trans h1)]
   .rw[if_neg h2,bf (λe'=>h2 (e'.trans h1.symm))]
  .rw[bf h1];rcases ih (Nat.succ i)with⟨g1,g2⟩|⟨j,e',g1,g2,g3,g4,g5⟩
   .exact .inl ⟨g1,by rw[List.find?_cons,bf h1];exact g2⟩
   .refine .inr ⟨j+1,e',by rw[show i+(j+1)=Nat.succ i+j by omega];exact g1,g2,g3,by rw[List.find?_cons,bf h1];exact g4,λv k'=>?_⟩;rw[List.set_cons_succ,List.find?_cons,List.find?_cons];by_cases h2:k'=e.1
    .rw[bz h2];simp only;rw[if_neg (λe'=>h1 (e'.symm.trans h2))]
    .rw[bf h2];exact g5 v k'
theorem alO{β:Type}{fl:β}{W:List IE}{clock:Nat}{h:af}{bw:Nat}(g:h.bl.get bw=some (.map (W.map Ea) clock))(k:Int)(V:X3 β):cq fl prog 3 (X8 0) true (.map (some bw)) (X8 k) h V=V (.tuple ⟨[X8 ((Qr W k).getD 0),.bool (Qr W k).isSome]⟩) h:=by
 unfold cq iP Qr;rw[Qs];simp only[g];rcases aaU h k W 0 with⟨g1,g2⟩|⟨j,e',g1,g2,g3,g4,_⟩
 .rw[g1,g2];rfl
 .rw[g1,g4];rfl
theorem afA{W:List IE}{clock:Nat}{h:af}{bw:Nat}(g:h.bl.get bw=some (.map (W.map Ea) clock))(hlo:h.lo<=bw)(k v:Int)(V:KQ)(hk:∀W' clock',(∀j,Qr W' j=if j=k then some v else Qr W j)->V undef ⟨h.nx,h.bl.a_ bw (.map (W'.map Ea) clock'),h.lo⟩):bQ False prog 3 (.map (some bw)) (X8 k) (X8 v) h V:=by
 unfold bQ;rw[Qs];simp only[g];rcases aaU h k W 0 with⟨g1,g2⟩|⟨j,e,g1,g2,g3,g4,g5⟩
 ·rw[g1];simp only;rw[lU];simp only[cC];rw[bG _ _ _ _ hlo];have:=hk (W++[(k,v,clock)]) (clock+1) λj=>by
   unfold Qr;rw[List.find?_append];by_cases hj:j=k
   .rw[if_pos hj,hj,g2];simp
   .rw[if_neg hj];simp[List.find?_cons,hj]
  rw[List.map_append]at this;exact this
 ·rw[g1];subst g3;simp only[Ea,XQ];rw[Nat.zero_add,j0 _ _ j (Ea e) _ (by rw[List.getElem?_map,g2];rfl),bG _ _ _ _ hlo];have:=hk (W.set j (e.1,v,e.2.2)) clock λi=>by
   unfold Qr;rw[g5 v i];split<;>rfl
  rw[List.map_set]at this;exact this
theorem tP.keep{h h':af}{bb bm bp bl most clock:Nat}{M:List HE}{F:List Int}{B:List Bool}(s:bC h bb bm bp bl most M clock F B)(f:tP bm bp bl h h'){c:Nat}{vs:List Value}{ty:TypeId}{op:Bool}(hc:c<h.nx)(hg:h.bl.get c=some (aj vs ty op))(h1:ty≠286)(h2:ty≠4)(h3:ty≠3):h'.bl.get c=h.bl.get c:=by
 obtain⟨fs,B0,hpt⟩:=s.bu.fr.cell;have gl:=s.bu.cell;have gm:=s.g_;exact f.get c hc (by rintro rfl;rw[hg]at gm;exact bY gm.symm) (by rintro rfl;rw[hg]at B0;exact bJ h1 B0) (by rintro rfl;rw[hg]at gl;exact bJ h2 gl) λws=>by rw[hg];exact bJ h3
theorem tP.OS{h h':af}{bb bm bp bl most clock:Nat}{M:List HE}{F:List Int}{B:List Bool}(s:bC h bb bm bp bl most M clock F B)(f:tP bm bp bl h h'){c:Nat}{es:List MapEntry}{cl:Nat}(hc:c<h.nx)(hg:h.bl.get c=some (.map es cl))(hne:c≠bm):h'.bl.get c=h.bl.get c:=by
 obtain⟨fs,B0,hpt⟩:=s.bu.fr.cell;have gl:=s.bu.cell;exact f.get c hc hne (by rintro rfl;rw[B0]at hg;exact bY hg.symm) (by rintro rfl;rw[gl]at hg;exact bY hg.symm) λws=>by rw[hg];exact bY
theorem bC.aside{h h':af}{bb bm bb2 bm2 bp bl most aaV clock UL:Nat}{M M2:List HE}{F F':List Int}{B B':List Bool}(s:bC h bb bm bp bl most M clock F B)(f:tP bm bp bl h h')(s2:bC h bb2 bm2 bp bl aaV M2 UL F B)(hne:bm2≠bm)(p:fo h' bp bl F' B'):bC h' bb2 bm2 bp bl aaV M2 UL F' B':=by
 have fn:=f.nx;have fl:=f.lo;have sb:=s2.rH;have sm:=s2.jV;refine⟨X1,X1,by rw[fl];exact s2.Yr,(f.keep s sb s2.jj X7 X7 X7).trans s2.jj,(f.OS s sm s2.g_ hne).trans s2.g_,s2.ok,λe he=>?_,s2.good,p,s2.ne⟩;have a:=s2.bh e he;have al:=a.lt;exact⟨X1,(f.keep s al a.get X7 X7 X7).trans a.get,a.qv.frame fn λc vs op hc hg=>f.keep s hc hg X7 X7 X7⟩
structure TB where
 bb:Nat
 bm:Nat
 M:List HE
 clock:Nat
def qu(b:TB):List Value:=[UV b.bb]
theorem Eb(b:TB):(qu b).length=1:=rfl
theorem Qt(b:TB):(qu b).all ef=true:=rfl
structure iL where
 S:Int
 H:Int
 R:Int
 P:Int
structure fT(h:af)(tb bw bp bl:Nat)(c:iL)(vb:Value)(bh:Nat)(T:List TB)(W:List IE)(wc:Nat)(F:List Int)(B:List Bool):Prop where
 ltt:tb<h.nx
 oS:h.bl.get tb=some (aj [X8 c.S,X8 c.H,X8 c.R,X8 c.P,UV bp,vb,.map (some bw)] 194 false)
 sl:Sl qu h vb T
 ty:zQ 205 h vb
 De:bw<h.nx
 low:h.lo<=bw
 qw:h.bl.get bw=some (.map (W.map Ea) wc)
 bk:∀b∈T,bC h b.bb b.bm bp bl bh b.M b.clock F B
 JM:T.Pairwise λa b=>a.bm≠b.bm
 wne:∀b∈T,bw≠b.bm
 bu:fo h bp bl F B
 cS:c.S=T.length
 s1:1<=T.length/\T.length<=16
 hd:bh<=64
theorem Sl.Mh{α:Type}{enc:α->List Value}{h h':af}{v:Value}{L:List α}{e:TypeId}(s:Sl enc h v L)(t:zQ e h v)(hn:h.nx<=h'.nx)(hg:∀c vs op,c<h.nx->h.bl.get c=some (aj vs e op)->h'.bl.get c=h.bl.get c):Sl enc h' v L/\zQ e h' v:=by
 constructor
 .obtain⟨x,cap,rfl,h2⟩:=s;refine⟨x,cap,rfl,λhne=>?_⟩;obtain⟨b,o,rfl,h3,h4⟩:=h2 hne;obtain⟨h1,vs,op,h5⟩:=t b o _ cap rfl (by intro h0;exact hne (List.eq_nil_of_length_eq_zero h0));refine⟨b,o,rfl,Nat.lt_of_lt_of_le h3 hn,?_⟩;rw[hg b vs op h1 h5];exact h4
 .intro b o n c hv hn0;obtain⟨h1,vs,op,h2⟩:=t b o n c hv hn0;exact⟨Nat.lt_of_lt_of_le h1 hn,vs,op,(hg b vs op h1 h2).trans h2⟩
theorem fT.le{h h':af}{tb bw bp bl:Nat}{c:iL}{vb:Value}{bh:Nat}{T:List TB}{W:List IE}{wc:Nat}{F:List Int}{B:List Bool}(s:fT h tb bw bp bl c vb bh T W wc F B)(l:Le h h'):fT h' tb bw bp bl c vb bh T W wc F B:=
 ⟨Nat.lt_of_lt_of_le s.ltt l.nx,(l.get _ s.ltt).trans s.oS,s.sl.le l,s.ty.le l,Nat.lt_of_lt_of_le s.De l.nx,by rw[l.lo];exact s.low,(l.get _ s.De).trans s.qw,λb hb=>(s.bk b hb).le l,s.JM,s.wne,s.bu.le l,s.cS,s.s1,s.hd⟩
theorem UM{T:List TB}{k:Nat}{b:TB}(hk:T[k]? = some b)(M':List HE)(clock':Nat):(T.set k ⟨b.bb,b.bm,M',clock'⟩).flatMap qu=T.flatMap qu:=by
 obtain⟨hl,rfl⟩:=List.getElem?_eq_some_iff.1 hk;rw[List.flatMap_def,List.flatMap_def,List.map_set]
 congr 1
 refine List.ext_getElem? λi=>?_;rw[List.getElem?_set];split
 .rename_i e;subst e;rw[if_pos (by simpa using hl),List.getElem?_map,List.getElem?_eq_getElem hl];rfl
 .rfl
theorem Sl.congr{α:Type}{enc:α->List Value}{h:af}{v:Value}{L L':List α}(s:Sl enc h v L)(hl:L'.length=L.length)(hf:L'.flatMap enc=L.flatMap enc):Sl enc h v L':=by
 obtain⟨x,cap,rfl,h2⟩:=s;refine⟨x,cap,by rw[hl],λhne=>?_⟩;rw[hf];exact h2 (λe=>hne (List.eq_nil_of_length_eq_zero (by rw[hl,e];rfl)))
theorem fT.change{h h':af}{tb bw bp bl:Nat}{c:iL}{vb:Value}{bh:Nat}{T:List TB}{W:List IE}{wc:Nat}{F F':List Int}{B B':List Bool}(s:fT h tb bw bp bl c vb bh T W wc F B){k:Nat}{b:TB}(hk:T[k]? = some b){M':List HE}{clock':Nat}(is':bC h' b.bb b.bm bp bl bh M' clock' F' B')(f:tP b.bm bp bl h h'):fT h' tb bw bp bl c vb bh (T.set k ⟨b.bb,b.bm,M',clock'⟩) W wc F' B':=by
 have hb:=s.bk b (List.mem_of_getElem? hk);have fn:=f.nx;have fl:=f.lo;have h1:=s.ltt;have h2:=s.De;have k1:=Sl.Mh s.sl s.ty fn λc vs op hc hg=>f.keep hb hc hg X7 X7 X7;have alQ:=s.wne b (List.mem_of_getElem? hk);have lV:∀x∈T.set k ⟨b.bb,b.bm,M',clock'⟩,(x=⟨b.bb,b.bm,M',clock'⟩)\/(x∈T/\x.bm≠b.bm):=by
  intro x hx;obtain⟨i,hi⟩:=List.getElem?_of_mem hx;rw[List.getElem?_set]at hi;split at hi
  .split at hi
   .exact .inl (Option.some.inj hi).symm
   .cases hi
  .rename_i hne;refine .inr ⟨List.mem_of_getElem? hi,?_⟩;rcases Nat.lt_trichotomy i k with h3|h3|h3
   .exact fN.1 s.JM i k x b h3 hi hk
   .exact absurd h3.symm hne
   .exact λe=>fN.1 s.JM k i b x h3 hk hi e.symm
 refine⟨X1,(f.keep hb h1 s.oS X7 X7 X7).trans s.oS,Sl.congr k1.1 (List.length_set ..) (UM hk _ _),k1.2,X1,by rw[fl];exact s.low,(f.OS hb h2 s.qw alQ).trans s.qw,?_,?_,?_,is'.bu,by rw[List.length_set];exact s.cS,by rw[List.length_set];exact s.s1,s.hd⟩
 .intro x hx;rcases lV x hx with rfl|⟨hx,hne⟩
  .exact is'
  .exact hb.aside f (s.bk x hx) hne is'.bu
 .refine uK s.JM (λj q hj hq=>fN.1 s.JM j k q b hj hq hk) (λj q hj hq=>fN.1 s.JM k j b q hj hk hq)
 .intro x hx;rcases lV x hx with rfl|⟨hx,_⟩
  .exact alQ
  .exact s.wne x hx
theorem uW{α β:Type}(f:α->List β){T:List α}{k:Nat}{b:α}(hk:T[k]? = some b):∃X,∀b',((T.set k b').flatMap f).Perm (f b'++X):=by
 obtain⟨hl,_⟩:=List.getElem?_eq_some_iff.1 hk;refine⟨(T.take k).flatMap f++(T.drop (k+1)).flatMap f,λb'=>?_⟩;rw[List.set_eq_take_append_cons_drop,if_pos hl,List.flatMap_append,List.flatMap_cons];exact List.perm_append_comm_assoc _ _ _
theorem Cc{α:Type}{T:List α}{k:Nat}{b:α}(hk:T[k]? = some b):T.set k b=T:=by
 refine List.ext_getElem? λi=>?_;rw[List.getElem?_set];split
 .rename_i e;subst e;rw[hk,if_pos (List.getElem?_eq_some_iff.1 hk).1]
 .rfl
section
variable {h h':af}{bb bm bp bl most:Nat}{M M':List HE}{clock clock':Nat}{F F':List Int}{B B':List Bool}
theorem qs.ids(s:bC h bb bm bp bl most M clock F B){t r x m:Int}{n:Nat}{g:Bool}(a:qs h h' bb bm bp bl most M M' clock' F F' B t r x m n g):(iu M').Perm (iu M++[(n:Int)]):=by
 obtain⟨Q,w,hold,vq,vq',_,lV⟩:=a.set;have ru:(iu M).Perm (iu (M.filter λx=>!jO t r x)++Q.map (·.id)):=by
  rcases hold with⟨e,he,rfl,rfl,rfl,rfl⟩|⟨hn,hl,rfl,rfl⟩
  .have:=tC (tD s.ok he);rw[oQ,wA]at this;exact this
  .rw[D7 hn];simp
 refine lV.ids.trans ?_;rw[B3 vq',List.map_append,List.map_cons,List.map_nil,Yv,<-List.append_assoc];exact(ru.symm).append_right _
theorem qs.len(s:bC h bb bm bp bl most M clock F B)(hl:M.length<=most){t r x m:Int}{n:Nat}{g:Bool}(a:qs h h' bb bm bp bl most M M' clock' F F' B t r x m n g):M'.length<=most:=by
 obtain⟨Q,w,hold,vq,vq',_,lV⟩:=a.set;have:=lV.len;rcases hold with⟨e,he,rfl,rfl,rfl,rfl⟩|⟨hn,hl,rfl,rfl⟩
 .have:=OQ s.ok he;omega
 .rw[D7 hn]at this;omega
theorem qs.wb{N:Nat}(hw:∀e∈M,e.w<=N){t r x m:Int}{n:Nat}{g:Bool}(a:qs h h' bb bm bp bl most M M' clock' F F' B t r x m n g):∀e∈M',e.w<=(N+1:Nat):=by
 obtain⟨Q,w,hold,vq,vq',_,lV⟩:=a.set;refine lV.wb hw ?_;have:=afv Q w n x m;rcases hold with⟨e,he,_,_,_,rfl⟩|⟨_,_,_,rfl⟩
 .have:=hw e he;omega
 .omega
theorem qs.sub{t r x m:Int}{n:Nat}{g:Bool}(a:qs h h' bb bm bp bl most M M' clock' F F' B t r x m n g):∀y∈M',(∃e∈M,e.t=y.t/\e.r=y.r)\/(y.t=t/\y.r=r):=by
 obtain⟨Q,w,_,_,_,_,lV⟩:=a.set;intro y hy;rcases lV.sub y hy with h|⟨h1,h2,_⟩
 .exact .inl ⟨y,h,rfl,rfl⟩
 .exact .inr ⟨h1,h2⟩
variable {e:HE}{Q1:List R5}{w1:Int}
theorem l_.UN(s:bC h bb bm bp bl most M clock F B)(he:e∈M)(m:l_ h h' bb bm bp bl most M M' clock' F' B' e Q1 w1)(hid:Q1.map (·.id)=e.Q.map (·.id)):(iu M').Perm (iu M):=by
 refine m.set.ids.trans ?_;rw[B3 m.vq,hid];have:=tC (tD s.ok he);rw[oQ,wA]at this;exact this.symm
theorem l_.UO(s:bC h bb bm bp bl most M clock F B)(he:e∈M){p:R5}{n:Nat}(hf:cL e.Q (n:Int)=some p)(m:l_ h h' bb bm bp bl most M M' clock' F' B' e (e.Q.filter λr=>!cZ (n:Int) r) w1):(iu M).Perm (iu M'++[(n:Int)]):=by
 have h1:=tC (tD s.ok he);rw[oQ,wA]at h1;have h2:=h1.trans (List.Perm.append_left (iu (M.filter λx=>!jO e.t e.r x)) (Mb (s.good e he).vq hf));rw[<-List.append_assoc]at h2;have h3:=m.set.ids;rw[B3 m.vq]at h3;exact h2.trans (h3.symm.append_right _)
theorem l_.len(s:bC h bb bm bp bl most M clock F B)(hl:M.length<=most)(he:e∈M)(m:l_ h h' bb bm bp bl most M M' clock' F' B' e Q1 w1):M'.length<=most:=by
 have:=m.set.len;have:=OQ s.ok he;omega
theorem l_.sub(he:e∈M)(m:l_ h h' bb bm bp bl most M M' clock' F' B' e Q1 w1):∀y∈M',∃e∈M,e.t=y.t/\e.r=y.r:=by
 intro y hy;rcases m.set.sub y hy with h|⟨h1,h2,_⟩
 .exact⟨y,h,rfl,rfl⟩
 .exact⟨e,he,h1.symm,h2.symm⟩
end
structure mP(h:af)(tb bw bp bl:Nat)(c:iL)(vb:Value)(bh N:Nat)(T:List TB)(W:List IE)(wc:Nat)(F:List Int)(B:List Bool):Prop where
 is:fT h tb bw bp bl c vb bh T W wc F B
 ids:(T.flatMap λb=>iu b.M).Perm (mK B)
 wh:∀(k:Nat)(b:TB),T[k]? = some b->∀e∈b.M,∀p∈e.Q,Qr W p.id=some (k:Int)
 nm:∀(k:Nat)(b:TB),T[k]? = some b->∀e∈b.M,eN e.t e.r c.S=(k:Int)
 wb:∀b∈T,∀e∈b.M,e.w<=N
 len:∀b∈T,b.M.length<=bh
 cR:(B.length:Int)=c.R
 cH:(bh:Int)=c.H
section
variable {h h':af}{tb bw bp bl:Nat}{c:iL}{vb:Value}{bh N:Nat}{T:List TB}{W:List IE}{wc:Nat}{F F':List Int}{B B':List Bool}
theorem mP.UP(s:mP h tb bw bp bl c vb bh N T W wc F B){k:Nat}{b:TB}(hk:T[k]? = some b):uj b.M B:=by
 obtain⟨X,hX⟩:=uW (λb:TB=>iu b.M) hk;have:=hX b;rw[Cc hk]at this;exact⟨X,this.symm.trans s.ids⟩
theorem mP.le(s:mP h tb bw bp bl c vb bh N T W wc F B)(l:Le h h'):mP h' tb bw bp bl c vb bh N T W wc F B:=⟨s.is.le l,s.ids,s.wh,s.nm,s.wb,s.len,s.cR,s.cH⟩
theorem mP.up{N':Nat}(s:mP h tb bw bp bl c vb bh N T W wc F B)(hN:N<=N'):mP h tb bw bp bl c vb bh N' T W wc F B:=⟨s.is,s.ids,s.wh,s.nm,λb hb e he=>by have:=s.wb b hb e he;omega,s.len,s.cR,s.cH⟩
theorem gN{α:Type}{T:List α}{k j:Nat}{b' x:α}(h:(T.set k b')[j]? = some x):(j=k/\x=b')\/(j≠k/\T[j]? = some x):=by
 rw[List.getElem?_set]at h;split at h
 .rename_i e;split at h
  .exact .inl ⟨e.symm,(Option.some.inj h).symm⟩
  .cases h
 .rename_i e;exact .inr ⟨λe'=>e e'.symm,h⟩
theorem nU{M:List HE}{i:Int}:i∈iu M<->∃e∈M,∃p∈e.Q,p.id=i:=by
 unfold iu;rw[List.mem_flatMap];constructor
 .rintro⟨e,he,hi⟩;obtain⟨p,hp,rfl⟩:=List.mem_map.1 hi;exact⟨e,he,p,hp,rfl⟩
 .rintro⟨e,he,p,hp,rfl⟩;exact⟨e,he,List.mem_map.2 ⟨p,hp,rfl⟩⟩
theorem mP.step(s:mP h tb bw bp bl c vb bh N T W wc F B){k:Nat}{b:TB}(hk:T[k]? = some b){M':List HE}{clock':Nat}(is':bC h' b.bb b.bm bp bl bh M' clock' F' B')(f:tP b.bm bp bl h h')(Dc:∀X,(iu b.M++X).Perm (mK B)->(iu M'++X).Perm (mK B'))(hsub:∀i∈iu M',i∈iu b.M)(hnm:∀y∈M',∃e∈b.M,e.t=y.t/\e.r=y.r)(hw:∀e∈M',e.w<=(N+1:Nat))(hl:M'.length<=bh)(hB:B'.length=B.length):mP h' tb bw bp bl c vb bh (N+1) (T.set k ⟨b.bb,b.bm,M',clock'⟩) W wc F' B':=by
 obtain⟨X,hX⟩:=uW (λb:TB=>iu b.M) hk;have h0:=hX b;rw[Cc hk]at h0;refine⟨s.is.change hk is' f,(hX _).trans (Dc X (h0.symm.trans s.ids)),?_,?_,?_,?_,by rw[hB];exact s.cR,s.cH⟩
 .intro j x hj e he p hp;rcases gN hj with⟨rfl,rfl⟩|⟨_,hj⟩
  .obtain⟨e0,UQ,p0,hp0,hpe⟩:=nU.1 (hsub p.id (nU.2 ⟨e,he,p,hp,rfl⟩));rw[<-hpe];exact s.wh j b hk e0 UQ p0 hp0
  .exact s.wh j x hj e he p hp
 .intro j x hj e he;rcases gN hj with⟨rfl,rfl⟩|⟨_,hj⟩
  .obtain⟨e0,UQ,h1,h2⟩:=hnm e he;rw[<-h1,<-h2];exact s.nm j b hk e0 UQ
  .exact s.nm j x hj e he
 .intro x hx e he;obtain⟨j,hj⟩:=List.getElem?_of_mem hx;rcases gN hj with⟨rfl,rfl⟩|⟨_,hj⟩
  .exact hw e he
  .have:=s.wb x (List.mem_of_getElem? hj) e he;omega
 .intro x hx;obtain⟨j,hj⟩:=List.getElem?_of_mem hx;rcases gN hj with⟨rfl,rfl⟩|⟨_,hj⟩
  .exact hl
  .exact s.len x (List.mem_of_getElem? hj)
end
theorem aaW(h:af)(b o:Nat):mR prog h 100 119 (.pointer (some ⟨b,o,none⟩)) (.pointer none)=some false:=by kernel_rfl
theorem qy{β:Type}{fl:β}(cn:Bool)(b o:Nat)(h:af)(V:X3 β):aI fl prog .eql 119 cn false (.pointer (some ⟨b,o,none⟩)) (.pointer none) h V=V (.bool false) h:=by simp only[aI,aaW,bX]
theorem alR(h:af):mR prog h 100 205 (.pointer none) (.pointer none)=some true:=by kernel_rfl
theorem wG{β:Type}{fl:β}(cn:Bool)(h:af)(V:X3 β):aI fl prog .eql 205 cn false (.pointer none) (.pointer none) h V=V (.bool true) h:=by simp only[aI,alR,bX]
structure x_(Ts:List TB)(bw bp bl:Nat)(h h':af):Prop where
 nx:h.nx<=h'.nx
 lo:h'.lo=h.lo
 get:∀c,c<h.nx->(∀b∈Ts,c≠b.bm)->c≠bw->c≠bp->c≠bl->(∀vs,h.bl.get c≠some (aj vs 3 true))->h'.bl.get c=h.bl.get c
 g2:bp<h.nx->∀c,c<h.nx->(∀b∈Ts,c≠b.bm)->c≠bw->c≠bp->c≠bl->¬FB h bp c->h'.bl.get c=h.bl.get c
 mv:bp<h.nx->∀c,c<h.nx->FB h' bp c->FB h bp c
theorem x_.of_le{Ts:List TB}{bw bp bl:Nat}{h h':af}(l:Le h h'):x_ Ts bw bp bl h h':=⟨l.nx,l.lo,λc hc _ _ _ _ _=>l.get c hc,λ_ c hc _ _ _ _ _=>l.get c hc,λhb c _ x=>(FB.congr (l.get bp hb)).1 x⟩
theorem x_.trans{Ts:List TB}{bw bp bl:Nat}{h h' h'':af}(a:x_ Ts bw bp bl h h')(b:x_ Ts bw bp bl h' h''):x_ Ts bw bp bl h h'':=
 ⟨Nat.le_trans a.nx b.nx,b.lo.trans a.lo,λc hc h1 h2 h3 h4 h5=>(b.get c (Nat.lt_of_lt_of_le hc a.nx) h1 h2 h3 h4 (λvs=>by rw[a.get c hc h1 h2 h3 h4 h5];exact h5 vs)).trans (a.get c hc h1 h2 h3 h4 h5),
  λhb c hc h1 h2 h3 h4 h5=>(b.g2 (Nat.lt_of_lt_of_le hb a.nx) c (Nat.lt_of_lt_of_le hc a.nx) h1 h2 h3 h4 λx=>h5 (a.mv hb c hc x)).trans (a.g2 hb c hc h1 h2 h3 h4 h5),
  λhb c hc x=>a.mv hb c hc (b.mv (Nat.lt_of_lt_of_le hb a.nx) c (Nat.lt_of_lt_of_le hc a.nx) x)⟩
theorem x_.YJ{Ts:List TB}{b:TB}(hb:b∈Ts){bw bp bl:Nat}{h h':af}(f:tP b.bm bp bl h h'):x_ Ts bw bp bl h h':=⟨f.nx,f.lo,λc hc h1 _ h3 h4 h5=>f.get c hc (h1 b hb) h3 h4 h5,λhp c hc h1 _ h3 h4 h5=>f.g2 hp c hc (h1 b hb) h3 h4 h5,f.mv⟩
section
variable {h:af}{tb bw bp bl:Nat}{c:iL}{vb:Value}{bh N:Nat}{Ts:List TB}{W:List IE}{wc:Nat}{F:List Int}{B:List Bool}
theorem ya(s:fT h tb bw bp bl c vb bh Ts W wc F B)(hlo:h.lo<=h.nx)(t r:Int)(V:KQ)(hk:∀h',Le h h'->V (X8 (eN t r c.S)) h'):av prog 56 [UV tb,dg t r] h V:=by
 apply X9;rw[aj7];simp(disch:=try exact Y)only[Wz,dg];obtain⟨hA,aY,aU,g1,dI,dJ⟩:=kG h (aj [X8 t,X8 r] 28 false);rw[<-aY];clear aY;have sA:=s.le aU;have gt:=sA.oS;simp(disch:=try exact Y)only[Wz,qy,Oc,g1,aN,gt];refine UK t r c.S ?_;exact hk hA aU
theorem YK{h:af}{v:Value}{Ts:List TB}(hs:Sl qu h v Ts)(i:Nat){b:TB}(hp:Ts[i]? = some b):∃c o,c<h.nx/\(∀(β:Type)(fl:β)(h':af)(V:X3 β),aO fl 1 v (X8 (i:Int)) h' V=V (.pointer (some ⟨c,o,none⟩)) h')/\
   ∀h',Le h h'->(∀(β:Type)(fl:β)(V:Value->β),w8 fl (h'.bl.get c) o V=V (UV b.bb)):=by
 obtain⟨c,o,h1,h2,h3,hh⟩:=hs.ld Eb i hp;refine⟨c,o,h1,h2,λh' l β fl V=>?_⟩;rw[l.get c h1];exact eU (fl:=fl) hh 0 V (by show 0<1;omega)
theorem FC(tb:Nat)(h:af)(V:KQ)(hk:V (X8 5) h):av prog 293 [UV tb] h V:=by
 apply X9;rw[ad6];simp(disch:=try exact Y)only[Wz,qy];exact hk
theorem OT(s:mP h tb bw bp bl c vb bh N Ts W wc F B)(hlo:h.lo<=h.nx)(id:Int)(V:KQ)(qn:(∀b∈Ts,∀e∈b.M,cL e.Q id=none)->V (.pointer none) h)(dZ:∀(k:Nat) b e p,Ts[k]? = some b->e∈b.M->cL e.Q id=some p->V (UV b.bb) h):av prog 291 [UV tb,X8 id] h V:=by
 apply X9;rw[ad5];have gt:=s.is.oS;simp(disch:=try exact Y)only[Wz,qy,II,aN,gt,alO s.is.qw];have asP:∀(k:Nat) b e p,Ts[k]? = some b->e∈b.M->cL e.Q id=some p->Qr W id=some (k:Int)/\∃n:Nat,id=(n:Int)/\B[n]? = some true:=by
  intro k b e p hb he hf;obtain⟨hp,hpi⟩:=kS hf;refine⟨by rw[<-hpi];exact s.wh k b hb e he p hp,lZ.1 (s.ids.mem_iff.1 (List.mem_flatMap.2 ⟨b,List.mem_of_getElem? hb,nU.2 ⟨e,he,p,hp,hpi⟩⟩))⟩
 have none:Qr W id=none\/¬(∃n:Nat,id=(n:Int)/\B[n]? = some true)->∀b∈Ts,∀e∈b.M,cL e.Q id=none:=by
  intro hc b hb e he;obtain⟨k,hk⟩:=List.getElem?_of_mem hb;cases hf:cL e.Q id with
  |none=>rfl
  |some p=>
   obtain⟨h1,h2⟩:=asP k b e p hk he hf;rcases hc with hc|hc
   .rw[h1]at hc;cases hc
   .exact absurd h2 hc
 cases hl:Qr W id with
 |none=>
  simp(disch:=try exact Y)only[Wz,Option.isSome_none,Option.getD_none];exact qn (none (.inl hl))
 |some v=>
  simp(disch:=try exact Y)only[Wz,Option.isSome_some,Option.getD_some,aN,gt];refine aaP bp bl F B id h _ s.is.bu ?_;by_cases hb:∃n:Nat,id=(n:Int)/\B[n]? = some true
  ·obtain⟨n,rfl,hn⟩:=hb;have eh:(decide ((0:Int)<=(n:Int)) && (B[((n:Int)).toNat]?).getD false)=true:=by
    rw[bz X1,Int.toNat_natCast,hn];rfl
   rw[eh];obtain⟨b,hbT,hbi⟩:=List.mem_flatMap.1 (s.ids.mem_iff.2 (lZ.2 ⟨n,rfl,hn⟩));obtain⟨e,he,p,hp,hpi⟩:=nU.1 hbi;obtain⟨k,hk⟩:=List.getElem?_of_mem hbT;have hv:v=(k:Int):=by
    have:=s.wh k b hk e he p hp;rw[hpi,hl]at this;exact Option.some.inj this
   subst hv;have hf:=PM ((s.is.bk b hbT).good e he).vq.pair hp;rw[hpi]at hf;obtain⟨cc,oo,_,WN,qg⟩:=YK s.is.sl k hk;have qg:=qg h (Le.refl _);simp(disch:=try exact Y)only[Wz,aN,gt,WN,qg];exact dZ k b e p hk he hf
  ·have eh:(decide ((0:Int)<=id) && (B[id.toNat]?).getD false)=false:=by
    by_cases h0:0<=id
    .have hne:B[id.toNat]?≠some true:=λe=>hb ⟨id.toNat,X1,e⟩;rw[bz h0,Bool.true_and];cases hB:B[id.toNat]? with
     |none=>rfl
     |some x=>cases x with
      |false=>rfl
      |true=>exact absurd hB hne
    .rw[bf h0];rfl
   rw[eh];simp(disch:=try exact Y)only[Wz];exact qn (none (.inr hb))
end
theorem fo.frame{h h':af}{bp bl:Nat}{F:List Int}{B:List Bool}(p:fo h bp bl F B)(hn:h.nx<=h'.nx)(hl:h'.lo=h.lo)(hc:∀c vs ty op,c<h.nx->h.bl.get c=some (aj vs ty op)->h'.bl.get c=h.bl.get c):fo h' bp bl F B:=by
 have pl:=p.lt;have fl:=p.fr.lt;obtain⟨fs,hg,hpt⟩:=p.fr.cell;refine⟨⟨X1,by rw[hl];exact p.fr.lo,fs,(hc _ _ _ _ fl hg).trans hg,?_⟩,X1,by rw[hl];exact p.lo,(hc _ _ _ _ pl p.cell).trans p.cell,p.ok,p.small⟩;rcases hpt with e|⟨b,G,e,k1,k2,k3,k4⟩
 .exact .inl e
 .exact .inr ⟨b,G,e,X1,X1,(hc _ _ _ _ k1 k3).trans k3,k4⟩
theorem bC.frame{h h':af}{bb bm bp bl most clock:Nat}{M:List HE}{F:List Int}{B:List Bool}(s:bC h bb bm bp bl most M clock F B)(hn:h.nx<=h'.nx)(hl:h'.lo=h.lo)(hc:∀c vs ty op,c<h.nx->h.bl.get c=some (aj vs ty op)->h'.bl.get c=h.bl.get c)(hm:h'.bl.get bm=h.bl.get bm):bC h' bb bm bp bl most M clock F B:=by
 have sb:=s.rH;have sm:=s.jV;refine⟨X1,X1,by rw[hl];exact s.Yr,(hc _ _ _ _ sb s.jj).trans s.jj,hm.trans s.g_,s.ok,λe he=>?_,s.good,s.bu.frame hn hl hc,s.ne⟩;have a:=s.bh e he;have al:=a.lt;exact⟨X1,(hc _ _ _ _ al a.get).trans a.get,a.qv.frame hn λc vs op h1 hg=>hc c vs _ op h1 hg⟩
section
variable {h:af}{tb bw bp bl:Nat}{c:iL}{vb:Value}{bh N:Nat}{Ts:List TB}{W:List IE}{wc:Nat}{F:List Int}{B:List Bool}
theorem fT.afD(s:fT h tb bw bp bl c vb bh Ts W wc F B)(W':List IE)(Cd:Nat):fT ⟨h.nx,h.bl.a_ bw (.map (W'.map Ea) Cd),h.lo⟩ tb bw bp bl c vb bh Ts W' Cd F B:=by
 have gw:=s.qw;have hc:∀c vs ty op,c<h.nx->h.bl.get c=some (aj vs ty op)->(h.bl.a_ bw (.map (W'.map Ea) Cd)).get c=h.bl.get c:=by
  intro c vs ty op _ hg;refine T.aD _ _ ?_;rintro rfl;rw[hg]at gw;exact bY gw.symm
 have hm:∀b∈Ts,(h.bl.a_ bw (.map (W'.map Ea) Cd)).get b.bm=h.bl.get b.bm:=λb hb=>T.aD _ _ (s.wne b hb);have k1:=Sl.Mh (h':=⟨h.nx,h.bl.a_ bw (.map (W'.map Ea) Cd),h.lo⟩) s.sl s.ty (Nat.le_refl _) λc vs op h1 hg=>hc c vs _ op h1 hg;exact⟨s.ltt,(hc _ _ _ _ s.ltt s.oS).trans s.oS,k1.1,k1.2,s.De,s.low,T.ay _ _ _,λb hb=>(s.bk b hb).frame (Nat.le_refl _) rfl hc (hm b hb),s.JM,s.wne,s.bu.frame (Nat.le_refl _) rfl hc,s.cS,s.s1,s.hd⟩
theorem x_.afD{W':List IE}{Cd:Nat}:x_ Ts bw bp bl h ⟨h.nx,h.bl.a_ bw (.map (W'.map Ea) Cd),h.lo⟩:=
 by
 refine⟨Nat.le_refl _,rfl,λc _ _ h2 _ _ _=>T.aD _ _ (λe=>h2 e.symm),λ_ c _ _ h2 _ _ _=>T.aD _ _ (λe=>h2 e.symm),λ_ c _ hx=>?_⟩;by_cases e:bw=bp
 .subst e;obtain⟨n,cap,ls,hx⟩:=hx;exact absurd ((T.ay _ _ _).symm.trans hx) bY
 .exact(FB.congr (T.aD _ _ e)).1 hx
theorem alS(s:fT h tb bw bp bl c vb bh Ts W wc F B){t r:Int}(hn:¬eN t r c.S<0):∃(k:Nat)(b:TB),eN t r c.S=(k:Int)/\Ts[k]? = some b:=by
 have hr:=Mg (t:=t) (r:=r) (s:=c.S) X1;have hS:=s.cS;refine⟨(eN t r c.S).toNat,Ts[(eN t r c.S).toNat]'X1,X1,List.getElem?_eq_getElem _⟩
end
theorem FD{Ts:List TB}{k:Nat}{b:TB}(hk:Ts[k]? = some b)(M':List HE)(clock':Nat):(Ts.set k ⟨b.bb,b.bm,M',clock'⟩).map (·.bm)=Ts.map (·.bm):=by
 obtain⟨hl,rfl⟩:=List.getElem?_eq_some_iff.1 hk;rw[List.map_set];refine List.ext_getElem? λi=>?_;rw[List.getElem?_set];split
 .rename_i e;subst e;rw[if_pos (by simpa using hl),List.getElem?_map,List.getElem?_eq_getElem hl];rfl
 .rfl
section
variable {h h':af}{tb bw bp bl:Nat}{c:iL}{vb:Value}{bh N:Nat}{Ts:List TB}{W:List IE}{wc:Nat}{F F':List Int}{B:List Bool}
theorem mP.aaX(s:mP h tb bw bp bl c vb bh N Ts W wc F B){k:Nat}{b:TB}(hk:Ts[k]? = some b){M':List HE}{clock':Nat}{e:HE}(he:e∈b.M){Q1:List R5}{w1:Int}(m:l_ h h' b.bb b.bm bp bl bh b.M M' clock' F' B e Q1 w1)(hid:Q1.map (·.id)=e.Q.map (·.id))(hw:w1<=e.w+1):mP h' tb bw bp bl c vb bh (N+1) (Ts.set k ⟨b.bb,b.bm,M',clock'⟩) W wc F' B:=by
 have hb:=List.mem_of_getElem? hk;have is:=s.is.bk b hb;have hp:=m.UN is he hid;have hwe:=s.wb b hb e he;exact s.step hk m.is m.fr (λX hX=>(hp.append_right X).trans hX) (λi hi=>hp.mem_iff.1 hi) (m.sub he) (m.set.wb (s.wb b hb) X1) (m.len is (s.len b hb) he) rfl
theorem mP.left(s:mP h tb bw bp bl c vb bh N Ts W wc F B){k:Nat}{b:TB}(hk:Ts[k]? = some b){M':List HE}{clock':Nat}{e:HE}(he:e∈b.M){p:R5}{n:Nat}(hf:cL e.Q (n:Int)=some p)(zI:B[n]? = some true)(m:l_ h h' b.bb b.bm bp bl bh b.M M' clock' F' (B.set n false) e (e.Q.filter λr=>!cZ (n:Int) r) e.w):mP h' tb bw bp bl c vb bh (N+1) (Ts.set k ⟨b.bb,b.bm,M',clock'⟩) W wc F' (B.set n false):=by
 have hb:=List.mem_of_getElem? hk;have is:=s.is.bk b hb;have hp:=m.UO is he hf;have hwe:=s.wb b hb e he;refine s.step hk m.is m.fr (λX hX=>?_) (λi hi=>hp.mem_iff.2 (List.mem_append.2 (.inl hi))) (m.sub he) (m.set.wb (s.wb b hb) X1) (m.len is (s.len b hb) he) (List.length_set ..);have h1:=(hp.append_right X).symm.trans (hX.trans (Qd zI));rw[List.append_assoc]at h1;have h2:=(List.Perm.append_left (iu M') (List.perm_append_comm (l₁:=X) (l₂:=[(n:Int)]))).trans h1;rw[<-List.append_assoc]at h2;exact(List.perm_append_right_iff _).1 h2
theorem UR(s:mP h tb bw bp bl c vb bh N Ts W wc F B)(hlo:h.lo<=h.nx)(id:Int)(V:KQ)(Fx:(∀b∈Ts,∀e∈b.M,cL e.Q id=none)->V (.tuple ⟨[.slice none 0 0,X8 5]⟩) h)(qn:∀(k:Nat)(b:TB) h' M' clock' F' v' e p (n:Nat),Ts[k]? = some b->e∈b.M->cL e.Q id=some p->id=(n:Int)->B[n]? = some true->F'.Perm (F++[(n:Int)])->
   l_ h h' b.bb b.bm bp bl bh b.M M' clock' F' (B.set n false) e (e.Q.filter λr=>!cZ id r) e.w->C_ h h' v' (e_ (jB (e.Q.filter λr=>!cZ id r)+1) (e.Q.filter λr=>!cZ id r)).2->mP h' tb bw bp bl c vb bh (N+1) (Ts.set k ⟨b.bb,b.bm,M',clock'⟩) W wc F' (B.set n false)->V (.tuple ⟨[v',X8 0]⟩) h'):av prog 352 [UV tb,X8 id] h V:=by
 apply X9;rw[aer];refine OT s hlo id _ ?_ ?_
 .intro hno;simp(disch:=try exact Y)only[Wz,wG];refine FC tb h _ ?_;exact Fx hno
 .intro k b e p hk he hf;have hb:=List.mem_of_getElem? hk;simp(disch:=try exact Y)only[Wz,jk];refine Qf (s.is.bk b hb) hlo (s.UP hk) id _ ?_ ?_
  .intro h1 hno _;rw[hno e he]at hf;cases hf
  .intro h1 M' clock' F' v' e1 p1 n xy Qu hid zI hpF mv ho;simp(disch:=try exact Y)only[Wz];have mv':=mv;have hf':=Qu;rw[hid]at hf' mv';exact qn k b h1 M' clock' F' v' e1 p1 n hk xy Qu hid zI hpF mv ho (s.left hk xy hf' zI mv')
theorem JN{β:Type}{fl:β}(cn:Bool)(b o:Nat)(h:af)(V:X3 β):aI fl prog .neq 119 cn false (.pointer (some ⟨b,o,none⟩)) (.pointer none) h V=V (.bool true) h:=by simp only[aI,aaW,bX,Bool.not_false]
end
theorem fo.Ce{h h':af}{bp bl:Nat}{F:List Int}{B:List Bool}(p:fo h bp bl F B)(hn:h.nx<=h'.nx)(hl:h'.lo=h.lo)(hc:∀c vs ty op,c<h.nx->ty≠205->ty≠194->h.bl.get c=some (aj vs ty op)->h'.bl.get c=h.bl.get c):fo h' bp bl F B:=by
 have pl:=p.lt;have fl:=p.fr.lt;obtain⟨fs,hg,hpt⟩:=p.fr.cell;refine⟨⟨X1,by rw[hl];exact p.fr.lo,fs,(hc _ _ _ _ fl X7 X7 hg).trans hg,?_⟩,X1,by rw[hl];exact p.lo,(hc _ _ _ _ pl X7 X7 p.cell).trans p.cell,p.ok,p.small⟩;rcases hpt with e|⟨b,G,e,k1,k2,k3,k4⟩
 .exact .inl e
 .exact .inr ⟨b,G,e,X1,X1,(hc _ _ _ _ k1 X7 X7 k3).trans k3,k4⟩
theorem bC.Ce{h h':af}{bb bm bp bl most clock:Nat}{M:List HE}{F:List Int}{B:List Bool}(s:bC h bb bm bp bl most M clock F B)(hn:h.nx<=h'.nx)(hl:h'.lo=h.lo)(hc:∀c vs ty op,c<h.nx->ty≠205->ty≠194->h.bl.get c=some (aj vs ty op)->h'.bl.get c=h.bl.get c)(hm:h'.bl.get bm=h.bl.get bm):bC h' bb bm bp bl most M clock F B:=by
 have sb:=s.rH;have sm:=s.jV;refine⟨X1,X1,by rw[hl];exact s.Yr,(hc _ _ _ _ sb X7 X7 s.jj).trans s.jj,hm.trans s.g_,s.ok,λe he=>?_,s.good,s.bu.Ce hn hl hc,s.ne⟩;have a:=s.bh e he;have al:=a.lt;exact⟨X1,(hc _ _ _ _ al X7 X7 a.get).trans a.get,a.qv.frame hn λc vs op h1 hg=>hc c vs _ op h1 X7 X7 hg⟩
theorem JO(H:Int)(bp:Nat)(h:af)(V:KQ)(hh:¬(1<=H/\H<=64))(hk:V (.tuple ⟨[.pointer none,X8 2]⟩) h):av prog 153 [X8 H,UV bp] h V:=by
 apply X9;rw[TL];by_cases h1:H<1
 .simp(disch:=try exact Y)only[Wz,bz h1];exact hk
 .simp(disch:=try exact Y)only[Wz,bf h1,f_ (show(64:Int)<H by omega)];exact hk
theorem Qv(R:Int)(h:af)(V:KQ)(hh:128<R)(hk:V (.tuple ⟨[.pointer none,X8 2]⟩) h):av prog 152 [X8 R] h V:=by
 apply X9;rw[TK];simp(disch:=try exact Y)only[Wz,d_ (show(0:Int)<=R by omega),f_ hh];exact hk
theorem YL(S H R P:Int)(bp:Addr)(b:Nat)(V:List Value->Prop):bA False [(6,1)] [.map (some b)] [X8 S,X8 H,X8 R,X8 P,.pointer (some bp),.slice none 0 0,.map none] V=V [X8 S,X8 H,X8 R,X8 P,.pointer (some bp),.slice none 0 0,.map (some b)]:=by kernel_rfl
theorem JP(n:Nat):mK (List.replicate n false)=[]:=by
 rw[List.eq_nil_iff_forall_not_mem];intro x hx;obtain⟨k,_,hn⟩:=lZ.1 hx;rw[List.getElem?_replicate]at hn;split at hn<;>simp at hn
def wH(c:iL):Value:=.agg ⟨[X8 c.S,X8 c.H,X8 c.R,X8 c.P]⟩
def kU(c:iL):Prop:=1<=c.S/\c.S<=16/\0<=c.P/\c.P<=8/\1<=c.R/\c.R<=128/\1<=c.H/\c.H<=64
theorem YM(c:iL)(h:af)(V:KQ)(hlo:h.lo<=h.nx)(JQ:∀h' (e:Int),e=2->¬kU c->Le h h'->V (.tuple ⟨[.pointer none,X8 e]⟩) h')(WO:∀h' tb bw bp bl vb bh Ts F,kU c->mP h' tb bw bp bl c vb bh 0 Ts [] 0 F (List.replicate c.R.toNat false)->(∀b∈Ts,h.nx<=b.bm)->h.nx<=bw->h.nx<=bp->h.nx<=bl->Le h h'->(∀x,FB h' bp x->h.nx<=x)->V (.tuple ⟨[UV tb,X8 0]⟩) h'):av prog 98 [wH c] h V:=by
 apply X9;rw[aku];simp(disch:=try exact Y)only[Wz,wH];obtain⟨hA,aY,aU,g1,dI,dJ⟩:=kG h (aj [X8 c.S,X8 c.H,X8 c.R,X8 c.P] 115 false);rw[<-aY];clear aY;by_cases hS1:c.S<1
 .simp(disch:=try exact Y)only[Wz,bz hS1];exact JQ _ 2 rfl (by unfold kU;omega) aU
 by_cases hS2:16<c.S
 .simp(disch:=try exact Y)only[Wz,bf hS1,g1,bz hS2];exact JQ _ 2 rfl (by unfold kU;omega) aU
 by_cases hP1:c.P<0
 .simp(disch:=try exact Y)only[Wz,bf hS1,g1,bf hS2,bz hP1];exact JQ _ 2 rfl (by unfold kU;omega) aU
 by_cases hP2:8<c.P
 .simp(disch:=try exact Y)only[Wz,bf hS1,g1,bf hS2,bf hP1,bz hP2];exact JQ _ 2 rfl (by unfold kU;omega) aU
 by_cases WV:c.R<1
 .simp(disch:=try exact Y)only[Wz,bf hS1,g1,bf hS2,bf hP1,bf hP2,bz WV];exact JQ _ 2 rfl (by unfold kU;omega) aU
 simp(disch:=try exact Y)only[Wz,bf hS1,g1,bf hS2,bf hP1,bf hP2,bf WV,OC];by_cases hR2:128<c.R
 .refine Qv c.R hA _ hR2 ?_;simp(disch:=try exact Y)only[Wz];exact JQ _ 2 rfl (by unfold kU;omega) aU
 obtain⟨R,eR⟩:∃R:Nat,c.R=(R:Int):=⟨c.R.toNat,X1⟩
 rw[eR];refine Qb R hA _ X1 X1 ?_;intro bp bl h2 F p hne h2p h2l hF Da asS;have n2:=Da.nx;have l2:=Da.lo;have aym:=p.fr.lt;have ayn:=p.lt;have g12:=(Da.get h.nx X1).trans g1;rw[eR]at g12;simp(disch:=try exact Y)only[Wz,OB,g12,YL,cT];obtain⟨hB,gL,bW,gw,gt,BO,BP⟩:=AY h2 (.map [] 0) (aj [X8 c.S,X8 c.H,X8 (R:Int),X8 c.P,UV bp,.slice none 0 0,.map (some h2.nx)] 194 false);rw[<-gL];clear gL;have oN:=bW.nx;have oO:=bW.lo;have g12:=(bW.get _ X1).trans g12;by_cases hH:1<=c.H/\c.H<=64
 case neg=>
  refine⟨λn l h1=>ah l 26=X8 0/\HQ hB h1,⟨0,rfl,rfl⟩,?_⟩;rintro n l h1 ⟨s1,hq⟩;cases(show hB=h1 from hq);simp(disch:=try exact Y)only[Wz,s1,f_ (show(0:Int)<c.S by omega),Fk,g12];refine JO c.H bp hB _ hH ?_;simp(disch:=try exact Y)only[Wz];exact JQ _ 2 rfl (by unfold kU;omega) ((aU.trans Da).trans bW)
 obtain⟨bh,eH⟩:∃n:Nat,c.H=(n:Int):=⟨c.H.toNat,X1⟩
 obtain⟨S,eS⟩:∃n:Nat,c.S=(n:Int):=⟨c.S.toNat,X1⟩
 refine ⟨λn l h1=>∃(i:Nat)(Ts:List TB)(v:Value),ah l 26=X8 (i:Int)/\n=S-i/\i<=S/\Ts.length=i/\h1.bl.get (h2.nx+1)=some (aj [X8 c.S,X8 c.H,X8 (R:Int),X8 c.P,UV bp,v,.map (some h2.nx)] 194 false)/\
   h1.bl.get h2.nx=some (.map [] 0)/\Own qu h2 205 h1 v Ts/\fo h1 bp bl F (List.replicate R false)/\(∀b∈Ts,bC h1 b.bb b.bm bp bl bh [] 0 F (List.replicate R false)/\b.M=[]/\b.clock=0/\hB.nx<=b.bm)/\Ts.Pairwise (λa b=>a.bm≠b.bm)/\Le h2 h1/\hB.nx<=h1.nx,
  ⟨_,0,[],_,rfl,rfl,X1,rfl,gt,gw,.inl ⟨rfl,.inl rfl⟩,p.le bW,λb hb=>(nomatch hb),List.Pairwise.nil,bW,Nat.le_refl _⟩,?_⟩
 rintro n l h1 ⟨i,Ts,v,s1,rfl,hi,hTl,gt1,gw1,ho,p1,hbk,hds,bN,nB⟩;have n1:=bN.nx;have l1:=bN.lo;by_cases hlt:i<S
 .have asT:=(bN.get h.nx X1).trans ((Da.get h.nx X1).trans g1);simp(disch:=try exact Y)only[Wz,s1,f_ (show(i:Int)<c.S by omega),Fk,asT,eH];refine JF bh bp h1 _ X1 X1 ?_;intro h3 dM nx3 gm3 gb3;have n3:=dM.nx;have l3:=dM.lo;have gt3:=(dM.get _ X1).trans gt1;obtain⟨vx,vc,ev,_⟩:=(show Sl qu h1 v Ts from ho.sl)
  simp(disch:=try exact Y)only[Wz,OA,aN,gt3];obtain⟨h4,e4⟩:∃h4:af,h4=⟨h3.nx+1,h3.bl.a_ h3.nx (aj [.pointer (some ⟨h1.nx+1,0,none⟩)] 205 false),h3.lo⟩:=⟨_,rfl⟩
  have jP:Le h3 h4:=by rw[e4];exact(Le.refl h3).new _
  have g4:h4.bl.get h3.nx=some (aj ([(⟨h1.nx+1,h1.nx,[],0⟩:TB)].flatMap qu) 205 false):=by rw[e4];exact T.ay _ _ _
  have nx4:h4.nx=h3.nx+1:=by rw[e4]
  have l4:h4.lo=h3.lo:=by rw[e4]
  try rw[<-e4]
  clear e4;have Df:=dM.trans jP;have gt4:=(jP.get _ X1).trans gt3;refine jM (enc:=qu) (a:=h2) (L:=Ts) (M:=[(⟨h1.nx+1,h1.nx,[],0⟩:TB)]) Eb Qt X7 X7 (ho.le Df) (Sl.new X1 g4 _) (bN.trans Df) (by simp;omega) X1 _ ?_;intro v5 h5 uQ uk nx5 ayp l5 Ca;have gt5:=(Ca (h2.nx+1) X1 (by rw[gt4];exact bI)).trans gt4;obtain⟨vx5,vc5,ev5,_⟩:=(show Sl qu h5 v5 _ from uQ.sl)
  subst ev5;simp(disch:=try exact Y)only[Wz,aN,gt5];have Qe:∀c vs ty op,c<h4.nx->ty≠205->h4.bl.get c=some (aj vs ty op)->h5.bl.get c=h4.bl.get c:=λc vs ty op hc hty hg=>Ca c hc (by rw[hg];exact bJ hty);have fm5:∀c es cl,c<h4.nx->h4.bl.get c=some (.map es cl)->h5.bl.get c=h4.bl.get c:=λc es cl hc hg=>Ca c hc (by rw[hg];exact bY);obtain⟨h6,e6⟩:∃h6:af,h6=⟨h5.nx,h5.bl.a_ (h2.nx+1) (aj [X8 c.S,X8 c.H,X8 (R:Int),X8 c.P,UV bp,.slice vx5 (Ts++[(⟨h1.nx+1,h1.nx,[],0⟩:TB)]).length vc5,.map (some h2.nx)] 194 false),h5.lo⟩:=⟨_,rfl⟩
  have gt6:h6.bl.get (h2.nx+1)=some (aj [X8 c.S,X8 c.H,X8 (R:Int),X8 c.P,UV bp,.slice vx5 (Ts++[(⟨h1.nx+1,h1.nx,[],0⟩:TB)]).length vc5,.map (some h2.nx)] 194 false):=by rw[e6];exact T.ay _ _ _
  have alU:∀d,d≠h2.nx+1->h6.bl.get d=h5.bl.get d:=λd hd=>by rw[e6];exact T.aD _ _ (λe=>hd e.symm)
  have Ug:Own qu h2 205 h6 (.slice vx5 (Ts++[(⟨h1.nx+1,h1.nx,[],0⟩:TB)]).length vc5) (Ts++[(⟨h1.nx+1,h1.nx,[],0⟩:TB)]):=by rw[e6];exact Own.put uQ (by rw[gt5];exact bI) _
  have OJ:Le h2 h6:=by rw[e6];exact uk.set (b:=h2.nx+1) X1 _
  have nx6:h6.nx=h5.nx:=by rw[e6]
  have l6:h6.lo=h5.lo:=by rw[e6]
  rw[<-e6];clear e6;have hc6:∀d vs ty op,d<h4.nx->ty≠205->ty≠194->h4.bl.get d=some (aj vs ty op)->h6.bl.get d=h4.bl.get d:=by
   intro d vs ty op hd h1 h2' hg;refine(alU d ?_).trans (Qe d vs ty op hd h1 hg);rintro rfl;rw[hg]at gt4;exact bJ h2' gt4
  have hm6:∀d es cl,d<h4.nx->h4.bl.get d=some (.map es cl)->h6.bl.get d=h4.bl.get d:=by
   intro d es cl hd hg;refine(alU d ?_).trans (fm5 d es cl hd hg);rintro rfl;rw[hg]at gt4;exact bY gt4
  have gw4:=(Df.get h2.nx X1).trans gw1;have p4:=p1.le Df;have p6:=p4.Ce X1 X1 hc6;have jO:bC h4 (h1.nx+1) h1.nx bp bl bh [] 0 F (List.replicate R false):=⟨X1,X1,X1,(jP.get _ X1).trans gb3,(jP.get _ X1).trans gm3,⟨List.Pairwise.nil,List.Pairwise.nil,λe he=>(nomatch he)⟩,λe he=>(nomatch he),λe he=>(nomatch he),p4,hne⟩
  have G9:∀b∈Ts,b.bm<h1.nx:=λb hb=>(hbk b hb).1.jV;simp(disch:=try exact Y)only[Wz,s1];refine⟨_,X1,i+1,Ts++[⟨h1.nx+1,h1.nx,[],0⟩],.slice vx5 (Ts++[(⟨h1.nx+1,h1.nx,[],0⟩:TB)]).length vc5,rfl,rfl,X1,by simp;omega,by rw[<-eH];exact gt6,(hm6 _ _ _ X1 gw4).trans gw4,Ug,p6,?_,?_,OJ,X1⟩
  .intro b hb;rcases List.mem_append.1 hb with hb|hb
   .obtain⟨k1,k2,k3,k4⟩:=hbk b hb;have k5:=k1.le Df;exact⟨k5.Ce X1 X1 hc6 (hm6 _ _ _ k5.jV k5.g_),k2,k3,k4⟩
   .rw[List.mem_singleton]at hb;subst hb;exact⟨jO.Ce X1 X1 hc6 (hm6 _ _ _ jO.jV jO.g_),rfl,rfl,nB⟩
  .exact vM hds λq hq=>Nat.ne_of_lt (G9 q hq)
 .have hiS:i=S:=by omega
  simp(disch:=try exact Y)only[Wz,s1,d_ (show c.S<=(i:Int)by omega)];have hnil:∀b∈Ts,b.M=[]:=λb hb=>(hbk b hb).2.1;have hM:∀(k:Nat)(b:TB),Ts[k]? = some b->b.M=[]:=λk b hb=>hnil b (List.mem_of_getElem? hb);have Dc:(Ts.flatMap λb=>iu b.M)=[]:=by
   rw[List.flatMap_eq_nil_iff];intro b hb;rw[hnil b hb];rfl
  have eRn:c.R.toNat=R:=by omega
  refine WO h1 (h2.nx+1) h2.nx bp bl v bh Ts F (by unfold kU;omega) ⟨⟨X1,by rw[eR];exact gt1,ho.sl,zQ.own ho,X1,X1,gw1,λb hb=>?_,hds,λb hb=>?_,by rw[eRn];exact p1,X1,X1,X1⟩,?_,?_,?_,?_,?_,?_,X1⟩ (λb hb=>?_) X1 X1 X1 ?_ ?_
  .obtain⟨k1,k2,k3,k4⟩:=hbk b hb;rw[k2,k3,eRn];exact k1
  .have:=(hbk b hb).2.2.2;omega
  .rw[Dc,JP]
  .intro k b hk e he;rw[hM k b hk]at he;nomatch he
  .intro k b hk e he;rw[hM k b hk]at he;nomatch he
  .intro b hb e he;rw[hnil b hb]at he;nomatch he
  .intro b hb;rw[hnil b hb];exact Nat.zero_le _
  .rw[List.length_replicate];omega
  .have:=(hbk b hb).2.2.2;omega
  .exact aU.trans (Da.trans bN)
  .intro x hx;have:=asS x ((FB.congr (bN.get bp p.fr.lt)).1 hx);omega
structure HC where
 t:Int
 r:Int
 a:Option Addr
 n:Nat
 c:Nat
 w:Int
instance :Inhabited HC:=⟨⟨0,0,none,0,0,0⟩⟩
def Cf(x:HC):List Value:=[X8 x.t,X8 x.r,.slice x.a x.n x.c,X8 x.w]
def cfH(x y:HC):Int:=WU (x.t,x.r) (y.t,y.r)
theorem asW:Go.Sort.SWO (ltOf cfH) where
 irrefl x:=YE.irrefl (x.t,x.r)
 trans x y z h1 h2:=YE.trans (x.t,x.r) (y.t,y.r) (z.t,z.r) h1 h2
 ntrans x y z h1 h2:=YE.ntrans (x.t,x.r) (y.t,y.r) (z.t,z.r) h1 h2
theorem Mi(t r t' r':Int)(W:World):Calls prog 96 #[.agg #[X8 t,X8 r],.agg #[X8 t',X8 r']] W λe w'=>e=.returned (X8 (sF t r t' r'))/\∃q os',w'=Go.Sort.grow (W.drewN q) os':=
 B_ (args:=[dg t r,dg t' r']) (args':=[dg t r,dg t' r']) (oR t r t' r' rfl) (.cons (VR.xk (.cons (.int _ _) (.cons (.int _ _) .nil))) (.cons (VR.xk (.cons (.int _ _) (.cons (.int _ _) .nil))) .nil)) rfl W
theorem US(x y:HC)(W:World):Calls prog 111 #[.agg #[X8 x.t,X8 x.r,.slice x.a x.n x.c,X8 x.w],.agg #[X8 y.t,X8 y.r,.slice y.a y.n y.c,X8 y.w]] W λe w'=>e=.returned (X8 (cfH x y))/\∃q os',w'=Go.Sort.grow (W.drewN q) os':=by
 have alV:=λW'=>Mi x.t x.r y.t y.r W'
 show Calls _ _ _ _ λe w'=>e=.returned (X8 (sF x.t x.r y.t y.r))/\_
 generalize sF x.t x.r y.t y.r=v at alV ⊢;generalize x.t=xt,x.r=xr,y.t=yt,y.r=yr at *
 go_enter Tryz.func111,Tryz.ntmps111
 go_wp2_with (go_at_call 96;refine(alV _).mono ?_;rintro e w' ⟨rfl,q,os',rfl⟩)
 go_ret
 refine⟨rfl,?_⟩;rw[Go.Sort.alloc_eq_grow,Go.Sort.alloc_eq_grow,Go.Sort.grow_grow];exact⟨q,_,(show Go.Sort.grow (Go.Sort.grow (W.drewN q) _) os'=_ from Go.Sort.grow_grow _ _ _)⟩
theorem UT(blk size:Nat)(w:World):Go.Proofs.CmpLays prog 111 #[] Cf 4 cfH blk 0 size w:=by
 intro m os dk _ x y;exact US x y _
theorem yY:∀args w,(callFunc 110 args).run prog w=.ok (.enter 110 args) w:=enters_of Tryz.func110 (by kernel_rfl) rfl
theorem FE(blk cap:Nat)(d:Array HC)(w:World)(hH:Go.Sort.HoldsK Cf 4 w blk 0 d)(hblk:blk<w.heap.size)(hsz:d.size<4611686018427387904):Calls prog 110 #[YYY blk d.size cap,.func (.func 111) #[] #[]] w λe w'=>e=.returned (.tuple #[])/\∃d' n os,Go.Sort.PermIn 0 d.size d d'/\Go.Sort.SortedIn (λx y=>ltOf WU (x.t,x.r) (y.t,y.r)) 0 d.size d'/\w'=Go.Proofs.sortWorldK Cf 4 w blk 0 n d' os:=by
 have eg:∀args w,(callFunc 111 args).run prog w=.ok (.enter 111 args) w:=enters_of Tryz.func111 (by kernel_rfl) rfl;exact Go.Proofs.AnyQ.slices_SortFunc Tryz.JC 4 Tryz.isAgg55 Tryz.sizeOf55 Cf (λ_=>rfl) (λx v hv=>by simp[Cf]at hv;rcases hv with rfl|rfl|rfl|rfl<;>rfl) cfH asW 111 #[] blk 0 cap d w eg (UT blk d.size w) hH hblk hsz
theorem Dg(p:Option Addr)(cap:Nat)(fv:Value)(w:World):Calls prog 110 #[.slice p 0 cap,fv] w λe w'=>e=.returned (.tuple #[])/\w'=w:=Go.Proofs.AnyF.slices_SortFunc_none Tryz.JC p cap fv w
theorem UU(q:Value):∃a n c,slV q=.slice a n c:=by
 unfold slV;split
 .exact⟨_,_,_,rfl⟩
 .exact⟨_,_,_,rfl⟩
theorem VR.toSlice{φ:ff}{a:Option Addr}{n c:Nat}{v:Value}(h:VR φ (.slice a n c) v):∃a' n' c',v=.slice a' n' c':=by
 cases h<;>exact⟨_,_,_,rfl⟩
theorem asX(φ:ff)(x:HE)(cs:List Value)(h:F2 (VR φ) (uU x) cs):∃y:HC,cs=Cf y/\(x.t,x.r)=(y.t,y.r):=by
 obtain⟨a,n,c,e⟩:=UU x.q;unfold uU at h;rw[e]at h;cases h with|cons h1 h=>
 cases h with|cons h2 h=>
 cases h with|cons h3 h=>
 cases h with|cons h4 h=>
 cases h;cases h1;cases h2;cases h4;obtain⟨a',n',c',rfl⟩:=VR.toSlice h3;exact⟨⟨x.t,x.r,a',n',c',x.w⟩,rfl,rfl⟩
theorem YN(a h:af)(K:List HE)(v:Value)(V:KQ)(ho:UG a h v K)(hle:Le a h)(hl:K.length<=1000000)(hk:∀(D:List HE) h',D.Perm K->D.Pairwise (λx y=>¬x8 (y.t,y.r) (x.t,x.r))->UG a h' v D->Le a h'->(h'.nx=h.nx/\∀c,c<h.nx->h.bl.get c≠some (aj (K.flatMap uU) 55 true)->h'.bl.get c=h.bl.get c)->V (.tuple ⟨[]⟩) h'):av prog 110 [v,.func (.func 111) #[] #[]] h V:=by
 rcases ho with⟨rfl,hv⟩|⟨b,hv,h1,h2,h3,h4⟩
 .exact Qj yY Dg hv (hk [] h (List.Perm.refl _) List.Pairwise.nil (.inl ⟨rfl,hv⟩) hle ⟨rfl,λ_ _ _=>rfl⟩)
 .cases hv;refine OM X7 (enc:=Cf) (dP:=uU) (λ_=>rfl) wC (kA:=λx=>(x.t,x.r)) (kC:=λx=>(x.t,x.r)) (lt:=λx y=>ltOf WU x y) asX yY FE h4 h3 hl ?_;intro D hp hs;refine hk D _ hp (hs.imp λ{x y} h=>ON.1 h) (.inr ⟨b,by rw[hp.length_eq],h1,h2,h3,T.ay _ _ _⟩) ⟨hle.nx,hle.lo,λc hc=>?_⟩ ⟨rfl,λc hc hne=>?_⟩
  .exact(T.aD _ _ X1).trans (hle.get c hc)
  .refine T.aD _ _ ?_;rintro rfl;exact hne h4
structure alW(h:af)(Ts:List TB)(v:Value)(K:List HE):Prop where
 perm:(K.map c_).Perm (Ts.flatMap λb=>b.M.map c_)
 srt:(K.map c_).Pairwise x8
 each:∀k∈K,(∃b∈Ts,∃e∈b.M,OP k e)/\QV h k.q k.Q
 sl:Sl uU h v K
 ty:zQ 55 h v
theorem x_.keep{h h':af}{tb bw bp bl:Nat}{c:iL}{vb:Value}{bh:Nat}{Ts:List TB}{W:List IE}{wc:Nat}{F:List Int}{B:List Bool}(s:fT h tb bw bp bl c vb bh Ts W wc F B)(f:x_ Ts bw bp bl h h'){d:Nat}{vs:List Value}{ty:TypeId}{op:Bool}(hd:d<h.nx)(hg:h.bl.get d=some (aj vs ty op))(h1:ty≠286)(h2:ty≠4)(h3:ty≠3):h'.bl.get d=h.bl.get d:=by
 obtain⟨fs,B0,hpt⟩:=s.bu.fr.cell;have gl:=s.bu.cell;have gw:=s.qw;refine f.get d hd (λb hb=>?_) (by rintro rfl;rw[hg]at gw;exact bY gw.symm) (by rintro rfl;rw[hg]at B0;exact bJ h1 B0) (by rintro rfl;rw[hg]at gl;exact bJ h2 gl) λws=>by rw[hg];exact bJ h3
 rintro rfl;have gm:=(s.bk b hb).g_;rw[hg]at gm;exact bY gm.symm
section
variable {h:af}{tb bw bp bl:Nat}{c:iL}{vb:Value}{bh N:Nat}{Ts:List TB}{W:List IE}{wc:Nat}{F:List Int}{B:List Bool}
theorem mP.nodup(s:mP h tb bw bp bl c vb bh N Ts W wc F B):(Ts.flatMap λb=>b.M.map c_).Nodup:=by
 rw[List.Nodup,List.pairwise_flatMap];constructor
 .intro b hb;rw[List.pairwise_map];exact(s.is.bk b hb).ok.nm.imp λhn e=>hn ⟨congrArg Prod.fst e,congrArg Prod.snd e⟩
 .rw[fN];intro i j p q hij hp hq x hx y hy hxy;obtain⟨e,he,rfl⟩:=List.mem_map.1 hx;obtain⟨f,hf,rfl⟩:=List.mem_map.1 hy;have h1:=s.nm i p hp e he;have h2:=s.nm j q hq f hf;have e1:e.t=f.t:=congrArg Prod.fst hxy;have e2:e.r=f.r:=congrArg Prod.snd hxy;rw[e1,e2,h2]at h1;omega
theorem Qw{α β:Type}(f:α->List β){L:List α}{i:Nat}{b:α}(h:L[i]? = some b):(L.take (i+1)).flatMap f=(L.take i).flatMap f++f b:=by
 rw[List.take_add_one,h,List.flatMap_append];simp
theorem YO(s:mP h tb bw bp bl c vb bh N Ts W wc F B)(hlo:h.lo<=h.nx)(V:KQ)(hk:∀v h' K,alW h' Ts v K->Le h h'->V v h'):av prog 62 [UV tb] h V:=by
 apply X9;rw[aj9];have gt:=s.is.oS;have hs1:=s.is.s1;obtain⟨vx,vc,ev,_⟩:=(show Sl qu h vb Ts from s.is.sl)
 have alX:∀(β:Type)(fl:β)(h':af)(V:X3 β),bU fl vb h' V=V (X8 (Ts.length:Int)) h':=λβ fl h' V=>by rw[ev];exact iR _ _ _ _ _
 simp(disch:=try exact Y)only[Wz,qy,aN,gt,alX];have ayu:=s.is.hd;refine⟨λn l h1=>∃(i:Nat)(K:List HE),ah l 10=X8 (i:Int)/\n=Ts.length-i/\i<=Ts.length/\(K.map c_).Perm ((Ts.take i).flatMap λb=>b.M.map c_)/\(∀k∈K,(∃b∈Ts,∃e∈b.M,OP k e)/\QV h1 k.q k.Q)/\K.length<=64*i/\UG h h1 (ah l 8) K/\Le h h1,
  ⟨_,0,[],rfl,rfl,X1,by simp,λk hk=>(nomatch hk),by simp,.inl ⟨rfl,.inl rfl⟩,Le.refl _⟩,?_⟩
 rintro n l h1 ⟨i,K,s1,rfl,hi,hp,hE,hKl,ho,bN⟩;have n1:=bN.nx;have l1:=bN.lo;by_cases hlt:i<Ts.length
 .obtain⟨b,hb⟩:∃b,Ts[i]? = some b:=⟨_,List.getElem?_eq_getElem hlt⟩
  have hbT:=List.mem_of_getElem? hb;obtain⟨cc,oo,_,WN,qg⟩:=YK s.is.sl i hb;have qg:=qg h1 bN;have sb:=(s.is.bk b hbT).le bN;have hbl:=s.len b hbT;simp(disch:=try exact Y)only[Wz,Fg,s1,f_ (show(i:Int)<(Ts.length:Int)by omega),WN,qg];refine Ql sb X1 X1 _ ?_;intro v2 h2 K2 hK2 hp2 hs2 hE2 nJ bD;have n2:=bD.nx;have l2:=bD.lo;refine jM (enc:=uU) (a:=h) (L:=K) (M:=K2) wC JE X7 X7 (ho.le bD) nJ.sl (bN.trans bD) X1 X1 _ ?_;intro v5 h5 uQ uk _ n5 l5 Ca;have Qe:∀d vs op,d<h2.nx->h2.bl.get d=some (aj vs 57 op)->h5.bl.get d=h2.bl.get d:=λd vs op hc hg=>Ca d hc (by rw[hg];exact bJ X7);refine⟨_,X1,i+1,K++K2,rfl,rfl,X1,?_,?_,by rw[List.length_append];omega,uQ,uk⟩
  .rw[Qw _ hb,List.map_append];exact hp.append hp2
  .intro k hk';rcases List.mem_append.1 hk' with hk'|hk'
   .exact⟨(hE k hk').1,((hE k hk').2.le bD).frame n5 Qe⟩
   .obtain⟨e,he,se⟩:=(hE2 k hk').1;exact⟨⟨b,hbT,e,he,se⟩,(hE2 k hk').2.frame n5 Qe⟩
 .have hil:i=Ts.length:=by omega
  subst hil;rw[List.take_length]at hp;simp(disch:=try exact Y)only[Wz,Fg,s1,d_ (show(Ts.length:Int)<=(Ts.length:Int)by omega)];refine YN h h1 K _ _ ho bN X1 ?_;intro D h' hD hpw ho' le' hfr;have hnd:(D.map c_).Nodup:=(((hD.map c_).trans hp).nodup_iff).2 s.nodup;refine hk _ h' D ⟨(hD.map c_).trans hp,?_,λk hk'=>?_,ho'.sl,zQ.own ho'⟩ le'
  ·have h1:(D.map c_).Pairwise λx y=>¬x8 y x:=by
    rw[List.pairwise_map];exact hpw.imp λ{x y} h=>h
   exact(hnd.and h1).imp λ{x y} ⟨hne,hn⟩=>OL (λe=>hne e.symm) hn
  .have:=hE k (hD.mem_iff.1 hk');exact⟨this.1,this.2.frame X1 λd vs op hc hg=>hfr.2 d hc (by rw[hg];exact bJ X7)⟩
end
structure L4 where
 x:Int
 t:Int
 r:Int
 m:Int
theorem afE{p q:L4}:p=q<->(p.x=q.x/\p.t=q.t/\p.r=q.r/\p.m=q.m):=by cases p;cases q;simp
instance :DecidableEq L4:=λp q=>decidable_of_iff _ afE.symm
instance :Inhabited L4:=⟨⟨0,0,0,0⟩⟩
def dn(a:L4):List Value:=[X8 a.x,X8 a.t,X8 a.r,X8 a.m]
theorem dD(a:L4):(dn a).length=4:=rfl
theorem sG(a:L4):(dn a).all ef=true:=rfl
abbrev FF(a h:af)(v:Value)(L:List L4):Prop:=Own dn a 46 h v L
section
variable {h:af}{tb bw bp bl:Nat}{c:iL}{vb:Value}{bh N:Nat}{Ts:List TB}{W:List IE}{wc:Nat}{F:List Int}{B:List Bool}
end
theorem YP(id:Int)(h:af)(V:KQ)(hk:V (.pointer none) h):av prog 343 [.pointer none,X8 id] h V:=by
 apply X9;rw[T8];simp(disch:=try exact Y)only[Wz,wG];exact hk
theorem UW(id:Int)(h:af)(V:KQ)(hlo:h.lo<=h.nx)(hk:∀h',Le h h'->V (.tuple ⟨[dg 0 0,nP ⟨0,0,0,0,0⟩,.bool false]⟩) h'):av prog 292 [.pointer none,X8 id] h V:=by
 apply X9;rw[TZ];simp(disch:=try exact Y)only[Wz];obtain⟨hA,aY,aU,g1,g3,dI,dJ⟩:=AY h (aj [X8 0,X8 0] 28 false) (mV ⟨0,0,0,0,0⟩);rw[<-aY];clear aY;refine YP id hA _ ?_;simp(disch:=try exact Y)only[Wz,sC,g1,g3,bT];exact hk _ ((aU.set X1 _).set X1 _)
section
variable {h:af}{tb bw bp bl:Nat}{c:iL}{vb:Value}{bh N:Nat}{Ts:List TB}{W:List IE}{wc:Nat}{F:List Int}{B:List Bool}
theorem afF(s:mP h tb bw bp bl c vb bh N Ts W wc F B)(hlo:h.lo<=h.nx)(id:Int)(V:KQ)(qn:∀h',(∀b∈Ts,∀e∈b.M,cL e.Q id=none)->Le h h'->V (.tuple ⟨[dg 0 0,nP ⟨0,0,0,0,0⟩,.bool false]⟩) h')(dZ:∀h' b e p,b∈Ts->e∈b.M->cL e.Q id=some p->Le h h'->V (.tuple ⟨[dg e.t e.r,nP p,.bool true]⟩) h'):av prog 209 [UV tb,X8 id] h V:=by
 apply X9;rw[adD];simp(disch:=try exact Y)only[Wz];obtain⟨hA,aY,aU,g1,g3,dI,dJ⟩:=AY h (aj [X8 0,X8 0] 28 false) (mV ⟨0,0,0,0,0⟩);rw[<-aY];clear aY;refine OT (s.le aU) X1 id _ ?_ ?_
 .intro hno;refine UW id hA _ X1 ?_;intro h2 bD;have mM:=bD.nx;have mN:=bD.lo;have g1:=(bD.get _ X1).trans g1;have g3:=(bD.get _ X1).trans g3;simp(disch:=try exact Y)only[Wz,dg,bT,g1,g3];exact qn _ hno (((aU.trans bD).set X1 _).set X1 _)
 .intro k b e p hk he hf;have hb:=List.mem_of_getElem? hk;refine Yy ((s.le aU).is.bk b hb) X1 id _ ?_ ?_
  .intro h2 hno _;rw[hno e he]at hf;cases hf
  .intro h2 e2 p2 he2 hf2 bD;have mM:=bD.nx;have mN:=bD.lo;have g1:=(bD.get _ X1).trans g1;have g3:=(bD.get _ X1).trans g3;simp(disch:=try exact Y)only[Wz,dg,bT,g1,g3];exact dZ _ b e2 p2 hb he2 hf2 (((aU.trans bD).set X1 _).set X1 _)
end
structure RB where
 rb:Nat
 v:Value
 K:List HE
end Go.Proofs
namespace Go.Vai
open Go.Proofs Go.Clashes
end Go.Vai
namespace Go.Proofs
open Go.Vai Go.Clashes
open Tryz (prog)
section
variable {a h h':af}{rt rp rl:Nat}{c:iL}{vr:Value}{bh:Nat}{R:List RB}{B B':List Bool}
end
section
variable {a h:af}{tb bw bp bl:Nat}{c:iL}{vb:Value}{bh N:Nat}{Ts:List TB}{W:List IE}{wc:Nat}{F:List Int}{B:List Bool}{rt rp rl:Nat}{vr:Value}{R:List RB}
end
theorem JR(h:af)(V:KQ)(hlo:h.lo<=h.nx)(hk:∀h',Le h h'->V (dg (-1) (-1)) h'):av prog 97 [] h V:=by
 apply X9;rw[akt];simp(disch:=try exact Y)only[Wz];exact hk _ ((Le.refl h).new _)
theorem Qx(t r:Int)(h:af)(V:KQ)(hlo:h.lo<=h.nx)(hk:∀h',Le h h'->V (X8 (br t r)) h'):av prog 48 [dg t r] h V:=by
 apply X9;rw[aj2];simp(disch:=try exact Y)only[Wz,dg];obtain⟨hA,aY,aU,g1,dI,dJ⟩:=kG h (aj [X8 t,X8 r] 28 false);rw[<-aY];clear aY;refine JR hA _ X1 ?_;intro h2 bD;have mM:=bD.nx;have mN:=bD.lo;have g1:=(bD.get _ X1).trans g1;have hk:=hk h2 (aU.trans bD);simp(disch:=try exact Y)only[Wz,dg,g1,oJ,wE];by_cases h0:t = -1/\r = -1
 .simp(disch:=try exact Y)only[Wz,bz h0];have e:br t r=0:=by simp[br,h0]
  rw[e]at hk;exact hk
 have hl:br t r=if t<0\/100<=t\/r < -1\/100<=r then -1 else if r = -1 then 1 else 2:=by
  unfold br JI;rw[if_neg h0];by_cases h1:t<0\/100<=t\/r < -1\/100<=r
  .rw[if_pos h1,if_neg (by simp;omega),if_neg (by simp;omega)]
  .rw[if_neg h1];by_cases h2:r = -1
   .rw[if_pos h2,if_pos (by simp;omega)]
   .rw[if_neg h2,if_neg (by simp;omega),if_pos (by simp;omega)]
 simp(disch:=try exact Y)only[Wz,bf h0,NY,g1];by_cases a1:t<0
 .simp(disch:=try exact Y)only[Wz,bz a1];rw[hl,if_pos X1]at hk;exact hk
 by_cases a2:100<=t
 .simp(disch:=try exact Y)only[Wz,bf a1,g1,bz a2];rw[hl,if_pos X1]at hk;exact hk
 by_cases a3:r < -1
 .simp(disch:=try exact Y)only[Wz,bf a1,bf a2,bz a3,g1];rw[hl,if_pos X1]at hk;exact hk
 by_cases a4:100<=r
 .simp(disch:=try exact Y)only[Wz,bf a1,bf a2,bf a3,bz a4,g1];rw[hl,if_pos X1]at hk;exact hk
 by_cases a5:r = -1
 .simp(disch:=try exact Y)only[Wz,bf a1,bf a2,bf a3,bf a4,bz a5,g1];rw[hl,if_neg X1,if_pos a5]at hk;exact hk
 .simp(disch:=try exact Y)only[Wz,bf a1,bf a2,bf a3,bf a4,bf a5,g1];rw[hl,if_neg X1,if_neg a5]at hk;exact hk
theorem Qy(t r:Int){h:af}{V:KQ}(hk:V (X8 (br t r)) h):av prog 48 [dg t r] h V:=
 jL (v:=X8 (br t r)) rfl rfl (Qx t r yK _ (Nat.le_refl _) λ_ _=>rfl) hk
section
variable {h h':af}{tb bw bp bl:Nat}{c:iL}{vb:Value}{bh N:Nat}{Ts:List TB}{W:List IE}{wc:Nat}{F F':List Int}{B:List Bool}
theorem OU(s:mP h tb bw bp bl c vb bh N Ts W wc F B)(hlo:h.lo<=h.nx)(hN:N<=1000)(t r x m:Int)(V:KQ)(yF:∀h',eN t r c.S<0->Le h h'->V (.tuple ⟨[X8 0,.bool false,X8 2]⟩) h')(hk2:∀(k:Nat)(b:TB) h',Ts[k]? = some b->eN t r c.S=(k:Int)->cE m=false->Le h h'->V (.tuple ⟨[X8 0,.bool false,X8 2]⟩) h')(wZ:∀(k:Nat)(b:TB) h' e p,Ts[k]? = some b->eN t r c.S=(k:Int)->cE m=true->e∈b.M->t=e.t->r=e.r->p∈e.Q->p.x=x->Le h h'->V (.tuple ⟨[X8 0,.bool false,X8 4]⟩) h')(Yx:∀(k:Nat)(b:TB) h',Ts[k]? = some b->eN t r c.S=(k:Int)->cE m=true->(∀e∈b.M,t=e.t->r=e.r->∀p∈e.Q,p.x≠x)->(F=[]\/((∀e∈b.M,¬(t=e.t/\r=e.r))/\bh<=b.M.length))->Le h h'->V (.tuple ⟨[X8 0,.bool false,X8 8]⟩) h')(WO:∀(k:Nat)(b:TB) M' clock' F' W' Cd h0 h1 h' n g,Ts[k]? = some b->eN t r c.S=(k:Int)->cE m=true->(∀e∈b.M,t=e.t->r=e.r->∀p∈e.Q,p.x≠x)->bC h0 b.bb b.bm bp bl bh b.M b.clock F B->qs h0 h1 b.bb b.bm bp bl bh b.M M' clock' F F' B t r x m n g->
   mP h' tb bw bp bl c vb bh (N+1) (Ts.set k ⟨b.bb,b.bm,M',clock'⟩) W' Cd F' (B.set n true)->x_ Ts bw bp bl h h'->V (.tuple ⟨[X8 (n:Int),.bool g,X8 0]⟩) h'):av prog 301 [UV tb,dg t r,X8 x,X8 m] h V:=by
 apply X9;rw[ad_];simp(disch:=try exact Y)only[Wz,dg,qy];obtain⟨hA,aY,aU,g1,dI,dJ⟩:=kG h (aj [X8 t,X8 r] 28 false);rw[<-aY];clear aY;refine ya (s.le aU).is X1 t r _ ?_;intro h2 bD;have mM:=bD.nx;have mN:=bD.lo;have g1:=(bD.get _ X1).trans g1;have mD:=aU.trans bD;have s2:=s.le mD;by_cases hneg:eN t r c.S<0
 .simp(disch:=try exact Y)only[Wz,bz hneg];exact yF h2 hneg mD
 obtain⟨k,b,hst,hk⟩:=alS s.is hneg;have hb:=List.mem_of_getElem? hk;have gt:=s2.is.oS;obtain⟨cc,oo,_,WN,qg⟩:=YK s2.is.sl k hk;have qg:=qg h2 (Le.refl _);rw[hst];simp(disch:=try exact Y)only[Wz,d_ (show(0:Int)<=(k:Int)by omega),IM,aN,gt,WN,qg,g1];refine Yw (s2.is.bk b hb) X1 (s2.UP hk) N X1 (s2.wb b hb) t r x m _ ?_ ?_ ?_ ?_
 .intro h3 am0 dM;simp(disch:=try exact Y)only[Wz,oJ,qe];refine⟨λl h'=>HQ h3 h',?_,?_⟩
  .simp(disch:=try exact Y)only[Wz,sq];rfl
  .rintro l h' hq;cases(show h3=h' from hq);exact hk2 k b h3 hk hst am0 (mD.trans dM)
 .intro h3 e p am1 he ht hr hp hx dM;simp(disch:=try exact Y)only[Wz,oJ,qe];refine⟨λl h'=>HQ h3 h',?_,?_⟩
  .simp(disch:=try exact Y)only[Wz,sq];rfl
  .rintro l h' hq;cases(show h3=h' from hq);exact wZ k b h3 e p hk hst am1 he ht hr hp hx (mD.trans dM)
 .intro h3 am1 asZ hfull dM;simp(disch:=try exact Y)only[Wz,oJ,qe];refine⟨λl h'=>HQ h3 h',?_,?_⟩
  .simp(disch:=try exact Y)only[Wz,sq];rfl
  .rintro l h' hq;cases(show h3=h' from hq);exact Yx k b h3 hk hst am1 asZ hfull (mD.trans dM)
 .intro M' clock' F' h3 n g am hno ak;have is3:=s2.is.change hk ak.is ak.fr;have n3:=ak.fr.nx;have l3:=ak.fr.lo;have gt3:=is3.oS;have as0:=is3.low;simp(disch:=try exact Y)only[Wz,oJ,qe];refine⟨λl h'=>∃W' Cd,(∀j,Qr W' j=if j=(n:Int)then some (k:Int)else Qr W j)/\h'=⟨h3.nx,h3.bl.a_ bw (.map (W'.map Ea) Cd),h3.lo⟩,?_,?_⟩
  .simp(disch:=try exact Y)only[Wz,sq,aN,gt3];refine afA is3.qw as0 _ _ _ ?_;intro W' Cd hW;exact⟨W',Cd,hW,rfl⟩
  ·rintro l h' ⟨W',Cd,hW,rfl⟩;have fr:x_ Ts bw bp bl h ⟨h3.nx,h3.bl.a_ bw (.map (W'.map Ea) Cd),h3.lo⟩:=((x_.of_le mD).trans (x_.YJ hb ak.fr)).trans x_.afD;have Dc:=qs.ids (s2.is.bk b hb) ak;have alY:∀i,i∈mK B->i≠(n:Int):=by
    rintro i hi rfl;obtain⟨k',e,hk'⟩:=lZ.1 hi;have:k'=n:=(Int.ofNat.inj e).symm;subst this;rw[ak.old]at hk';cases hk'
   have hin:∀i b',b'∈Ts->i∈iu b'.M->i≠(n:Int):=λi b' hb' hi=>alY i (s.ids.mem_iff.1 (List.mem_flatMap.2 ⟨b',hb',hi⟩));refine WO k b M' clock' F' W' Cd h2 h3 _ n g hk hst am hno (s2.is.bk b hb) ak ⟨is3.afD W' Cd,?_,?_,?_,?_,?_,by rw[List.length_set];exact s.cR,s.cH⟩ fr
   .obtain⟨X,hX⟩:=uW (λb:TB=>iu b.M) hk;have h0:=hX b;rw[Cc hk]at h0;refine(hX _).trans ?_;refine(Dc.append_right X).trans ?_;rw[List.append_assoc];refine((List.Perm.append_left _ List.perm_append_comm).trans ?_).trans (D6 ak.old).symm;rw[<-List.append_assoc];exact(h0.symm.trans s.ids).append_right _
   .intro j y hj e he p hp;rw[hW];rcases gN hj with⟨rfl,rfl⟩|⟨hne,hj⟩
    .have hpi:=Dc.mem_iff.1 (nU.2 ⟨e,he,p,hp,rfl⟩);rcases List.mem_append.1 hpi with h1|h1
     .obtain⟨e0,UQ,p0,hp0,hpe⟩:=nU.1 h1;rw[if_neg (hin _ b hb h1),<-hpe];exact s.wh j b hk e0 UQ p0 hp0
     .rw[List.mem_singleton]at h1;rw[if_pos h1]
    .rw[if_neg (hin _ y (List.mem_of_getElem? hj) (nU.2 ⟨e,he,p,hp,rfl⟩))];exact s.wh j y hj e he p hp
   .intro j y hj e he;rcases gN hj with⟨rfl,rfl⟩|⟨_,hj⟩
    .rcases ak.sub e he with⟨e0,UQ,h1,h2⟩|⟨h1,h2⟩
     .rw[<-h1,<-h2];exact s.nm j b hk e0 UQ
     .rw[h1,h2];exact hst
    .exact s.nm j y hj e he
   .intro y hy e he;obtain⟨j,hj⟩:=List.getElem?_of_mem hy;rcases gN hj with⟨rfl,rfl⟩|⟨_,hj⟩
    .exact ak.wb (s.wb b hb) e he
    .have:=s.wb y (List.mem_of_getElem? hj) e he;omega
   .intro y hy;obtain⟨j,hj⟩:=List.getElem?_of_mem hy;rcases gN hj with⟨rfl,rfl⟩|⟨_,hj⟩
    .exact qs.len (s2.is.bk b hb) (s.len b hb) ak
    .exact s.len y (List.mem_of_getElem? hj)
theorem UX(s:mP h tb bw bp bl c vb bh N Ts W wc F B)(hlo:h.lo<=h.nx)(id x:Int)(V:KQ)(Fx:(∀b∈Ts,∀e∈b.M,cL e.Q id=none)->V (X8 5) h)(wZ:∀(k:Nat)(b:TB) h' e p,Ts[k]? = some b->e∈b.M->cL e.Q id=some p->(∃o∈e.Q,o.id≠id/\o.x=x)->Le h h'->V (X8 4) h')(Uq:∀(k:Nat)(b:TB) h' e p,Ts[k]? = some b->e∈b.M->cL e.Q id=some p->(∀o∈e.Q,o.id≠id->o.x≠x)->0<p.s->Le h h'->V (X8 7) h')(qn:∀(k:Nat)(b:TB) h' M' clock' e p i,Ts[k]? = some b->e∈b.M->e.Q[i]? = some p->cL e.Q id=some p->(∀o∈e.Q,o.id≠id->o.x≠x)->¬0<p.s->l_ h h' b.bb b.bm bp bl bh b.M M' clock' F B e (e.Q.set i (yP p x)) e.w->
   mP h' tb bw bp bl c vb bh (N+1) (Ts.set k ⟨b.bb,b.bm,M',clock'⟩) W wc F B->V (X8 0) h'):av prog 304 [UV tb,X8 id,X8 x] h V:=by
 apply X9;rw[aeb];refine OT s hlo id _ ?_ ?_
 .intro hno;simp(disch:=try exact Y)only[Wz,wG];refine FC tb h _ ?_;exact Fx hno
 .intro k b e p hkb he hf;have hb:=List.mem_of_getElem? hkb;simp(disch:=try exact Y)only[Wz,jk];refine Ur (s.is.bk b hb) hlo id x _ ?_ ?_ ?_ ?_
  .intro h1 hno _;rw[hno e he]at hf;cases hf
  .intro h1 e1 p1 xy Qu hx bN;exact wZ k b h1 e1 p1 hkb xy Qu hx bN
  .intro h1 e1 p1 xy Qu hx hs1 bN;exact Uq k b h1 e1 p1 hkb xy Qu hx hs1 bN
  .intro h1 M' clock' e1 p1 i xy hi Qu hx hs1 mv;exact qn k b h1 M' clock' e1 p1 i hkb xy hi Qu hx hs1 mv (s.aaX hkb xy mv (wD hi rfl) X1)
theorem JS(s:mP h tb bw bp bl c vb bh N Ts W wc F B)(hlo:h.lo<=h.nx)(hN:N<=1000)(id m:Int)(V:KQ)(hk2:∀h',cE m=false->Le h h'->V (.tuple ⟨[.bool false,X8 2]⟩) h')(Fx:cE m=true->(∀b∈Ts,∀e∈b.M,cL e.Q id=none)->V (.tuple ⟨[.bool false,X8 5]⟩) h)(Uq:∀(k:Nat)(b:TB) h' e p,cE m=true->Ts[k]? = some b->e∈b.M->cL e.Q id=some p->0<p.s->Le h h'->V (.tuple ⟨[.bool false,X8 7]⟩) h')(qn:∀(k:Nat)(b:TB) h' M' clock' e p i,cE m=true->Ts[k]? = some b->e∈b.M->e.Q[i]? = some p->cL e.Q id=some p->¬0<p.s->l_ h h' b.bb b.bm bp bl bh b.M M' clock' F B e (e.Q.set i (kH e.Q e.w p m).1) (kH e.Q e.w p m).2.1->
   mP h' tb bw bp bl c vb bh (N+1) (Ts.set k ⟨b.bb,b.bm,M',clock'⟩) W wc F B->V (.tuple ⟨[.bool (kH e.Q e.w p m).2.2,X8 0]⟩) h'):av prog 302 [UV tb,X8 id,X8 m] h V:=by
 have am0:m=0->cE m=false:=by intro h0;unfold cE;simp[h0]
 have am1:m≠0->cE m=kn m:=by intro h0;unfold cE;simp[h0]
 apply X9;rw[aea];refine OT s hlo id _ ?_ ?_
 .intro hno;simp(disch:=try exact Y)only[Wz,JN];by_cases hm0:m=0
  .simp(disch:=try exact Y)only[Wz,bz hm0];exact hk2 h (am0 hm0) (Le.refl _)
  .simp(disch:=try exact Y)only[Wz,bf hm0];have am:=am1 hm0;refine qW m ?_;cases hkn:kn m with
   |false=>simp(disch:=try exact Y)only[Wz];exact hk2 h (am.trans hkn) (Le.refl _)
   |true=>
    simp(disch:=try exact Y)only[Wz,Bw,wG];refine FC tb h _ ?_;exact Fx (am.trans hkn) hno
 .intro k b e p hkb he hf;have hb:=List.mem_of_getElem? hkb;simp(disch:=try exact Y)only[Wz,JN];by_cases hm0:m=0
  .simp(disch:=try exact Y)only[Wz,bz hm0];exact hk2 h (am0 hm0) (Le.refl _)
  .simp(disch:=try exact Y)only[Wz,bf hm0];have am:=am1 hm0;refine qW m ?_;cases hkn:kn m with
   |false=>simp(disch:=try exact Y)only[Wz];exact hk2 h (am.trans hkn) (Le.refl _)
   |true=>
    simp(disch:=try exact Y)only[Wz,Bw,jk];refine Jx (s.is.bk b hb) hlo N X1 (s.wb b hb) id m _ ?_ ?_ ?_ ?_
    .intro h1 am2 bN;simp(disch:=try exact Y)only[Wz];exact hk2 h1 am2 bN
    .intro h1 _ hn _;rw[hn e he]at hf;cases hf
    .intro h1 e1 p1 am2 xy Qu hs1 bN;simp(disch:=try exact Y)only[Wz];exact Uq k b h1 e1 p1 am2 hkb xy Qu hs1 bN
    .intro h1 M' clock' e1 p1 i am2 xy hi Qu hs1 mv;simp(disch:=try exact Y)only[Wz];exact qn k b h1 M' clock' e1 p1 i am2 hkb xy hi Qu hs1 mv (s.aaX hkb xy mv (wD hi (YG _ _ _ _)) (afw _ _ _ _))
end
structure Lone(Ts:List TB)(H X:Int->Int->Int):Prop where
 one:∀b∈Ts,∀e∈b.M,∃id,e.Q=[⟨id,X e.t e.r,H e.t e.r,H e.t e.r,0⟩]/\H e.t e.r≠0
 all:∀t r,H t r≠0->∃b∈Ts,∃e∈b.M,e.t=t/\e.r=r
def jD(H:Int->Int->Int)(t r m:Int):Int->Int->Int:=λt' r'=>if t'=t/\r'=r then m else H t' r'
theorem tF(H:Int->Int->Int)(t r m:Int):jD H t r m t r=m:=by simp[jD]
theorem mW(H:Int->Int->Int){t r m t' r':Int}(h:¬(t'=t/\r'=r)):jD H t r m t' r'=H t' r':=by simp[jD,h]
section
variable {h:af}{tb bw bp bl:Nat}{c:iL}{vb:Value}{bh N:Nat}{Ts:List TB}{W:List IE}{wc:Nat}{F:List Int}{B:List Bool}{H X:Int->Int->Int}
theorem Lone.OV{X':Int->Int->Int}(L:Lone Ts H X)(s:mP h tb bw bp bl c vb bh N Ts W wc F B){k:Nat}{b:TB}(hk:Ts[k]? = some b){t r w m id:Int}(hst:eN t r c.S=(k:Int))(hm:m≠0){M':List HE}(cl:Nat)(st:fS b.M M' t r w [⟨id,X' t r,m,m,0⟩])(hX:∀t' r',¬(t'=t/\r'=r)->X' t' r'=X t' r'):Lone (Ts.set k ⟨b.bb,b.bm,M',cl⟩) (jD H t r m) X':=by
 obtain⟨e0,h1,h2,h3,h4,hp⟩:=st.put (by simp);have hil:=(List.getElem?_eq_some_iff.1 hk).1;have hb:=List.mem_of_getElem? hk;constructor
 .intro b' hb' e he;obtain⟨j,hj⟩:=List.getElem?_of_mem hb';rcases gN hj with⟨rfl,rfl⟩|⟨hne,hj⟩
  .rcases List.mem_append.1 (hp.mem_iff.1 he)with he|he
   .obtain⟨he,hn⟩:=List.mem_filter.1 he;have hn:=lY.1 hn;rw[mW H (λe=>hn ⟨e.1.symm,e.2.symm⟩),hX _ _ (λe=>hn ⟨e.1.symm,e.2.symm⟩)];exact L.one b hb e he
   .rw[List.mem_singleton]at he;subst he;rw[h1,h2,tF];exact⟨id,h4,hm⟩
  .have hs:=s.nm j b' hj e he;rw[mW H (λe1=>by rw[e1.1,e1.2,hst]at hs;omega),hX _ _ (λe1=>by rw[e1.1,e1.2,hst]at hs;omega)];exact L.one b' (List.mem_of_getElem? hj) e he
 .intro t' r' hH;by_cases hn:t'=t/\r'=r
  .obtain⟨rfl,rfl⟩:=hn;exact⟨_,List.mem_of_getElem? (i:=k) (by rw[List.getElem?_set,if_pos rfl,if_pos hil]),e0,hp.mem_iff.2 (List.mem_append_right _ (.head _)),h1,h2⟩
  .rw[mW H hn]at hH;obtain⟨b1,hb1,e1,xy,e2,e3⟩:=L.all t' r' hH;obtain⟨j,hj⟩:=List.getElem?_of_mem hb1;by_cases hjk:k=j
   .subst hjk;rw[hk]at hj;cases hj;exact⟨_,List.mem_of_getElem? (i:=k) (by rw[List.getElem?_set,if_pos rfl,if_pos hil]),e1,hp.mem_iff.2 (List.mem_append_left _ (List.mem_filter.2 ⟨xy,lY.2 λe=>hn ⟨e2.symm.trans e.1.symm,e3.symm.trans e.2.symm⟩⟩)),e2,e3⟩
   .exact⟨b1,List.mem_of_getElem? (i:=j) (by rw[List.getElem?_set,if_neg hjk];exact hj),e1,xy,e2,e3⟩
theorem Lone.settle(L:Lone Ts H X)(s:mP h tb bw bp bl c vb bh N Ts W wc F B){k:Nat}{b:TB}(hk:Ts[k]? = some b){t r w m id:Int}(hst:eN t r c.S=(k:Int))(hm:m≠0){M':List HE}(cl:Nat)(st:fS b.M M' t r w [⟨id,X t r,m,m,0⟩]):Lone (Ts.set k ⟨b.bb,b.bm,M',cl⟩) (jD H t r m) X:=
 L.OV s hk hst hm cl st λ_ _ _=>rfl
theorem Lone.gone(L:Lone Ts H X)(s:mP h tb bw bp bl c vb bh N Ts W wc F B){k:Nat}{b:TB}(hk:Ts[k]? = some b){t r w:Int}(hst:eN t r c.S=(k:Int)){M':List HE}(cl:Nat)(st:fS b.M M' t r w []):Lone (Ts.set k ⟨b.bb,b.bm,M',cl⟩) (jD H t r 0) X:=by
 have hM:=st.gone rfl;have hil:=(List.getElem?_eq_some_iff.1 hk).1;have hb:=List.mem_of_getElem? hk;subst hM;constructor
 .intro b' hb' e he;obtain⟨j,hj⟩:=List.getElem?_of_mem hb';rcases gN hj with⟨rfl,rfl⟩|⟨hne,hj⟩
  .obtain⟨he,hn⟩:=List.mem_filter.1 he;have hn:=lY.1 hn;rw[mW H (λe=>hn ⟨e.1.symm,e.2.symm⟩)];exact L.one b hb e he
  .have hs:=s.nm j b' hj e he;rw[mW H (λe1=>by rw[e1.1,e1.2,hst]at hs;omega)];exact L.one b' (List.mem_of_getElem? hj) e he
 .intro t' r' hH;by_cases hn:t'=t/\r'=r
  .obtain⟨rfl,rfl⟩:=hn;rw[tF]at hH;exact absurd rfl hH
  .rw[mW H hn]at hH;obtain⟨b1,hb1,e1,xy,e2,e3⟩:=L.all t' r' hH;obtain⟨j,hj⟩:=List.getElem?_of_mem hb1;by_cases hjk:k=j
   .subst hjk;rw[hk]at hj;cases hj;exact⟨_,List.mem_of_getElem? (i:=k) (by rw[List.getElem?_set,if_pos rfl,if_pos hil]),e1,List.mem_filter.2 ⟨xy,lY.2 λe=>hn ⟨e2.symm.trans e.1.symm,e3.symm.trans e.2.symm⟩⟩,e2,e3⟩
   .exact⟨b1,List.mem_of_getElem? (i:=j) (by rw[List.getElem?_set,if_neg hjk];exact hj),e1,xy,e2,e3⟩
theorem Lone.at(L:Lone Ts H X)(s:mP h tb bw bp bl c vb bh N Ts W wc F B){t r:Int}(hH:H t r≠0):∃(k:Nat)(b:TB)(e:HE)(id:Int),Ts[k]? = some b/\eN t r c.S=(k:Int)/\e∈b.M/\e.t=t/\e.r=r/\e.Q=[⟨id,X t r,H t r,H t r,0⟩]:=by
 obtain⟨b,hb,e,he,rfl,rfl⟩:=L.all t r hH;obtain⟨k,hk⟩:=List.getElem?_of_mem hb;obtain⟨id,hQ,_⟩:=L.one b hb e he;exact⟨k,b,e,id,hk,s.nm k b hk e he,he,rfl,rfl,hQ⟩
theorem Lone.no(L:Lone Ts H X){t r:Int}(hH:H t r=0):∀b∈Ts,∀e∈b.M,¬(t=e.t/\r=e.r):=by
 rintro b hb e he ⟨rfl,rfl⟩;obtain⟨id,_,hn⟩:=L.one b hb e he;exact hn hH
theorem mP.yW(s:mP h tb bw bp bl c vb bh N Ts W wc F B){b b':TB}(hb:b∈Ts)(hb':b'∈Ts){e e':HE}(he:e∈b.M)(he':e'∈b'.M){p p':R5}(hp:p∈e.Q)(hp':p'∈e'.Q)(hid:p.id=p'.id):b=b'/\e=e':=by
 obtain⟨k,hk⟩:=List.getElem?_of_mem hb;obtain⟨j,hj⟩:=List.getElem?_of_mem hb';have h1:=s.wh k b hk e he p hp;have h2:=s.wh j b' hj e' he' p' hp';rw[hid,h2]at h1;have:j=k:=by have:=Option.some.inj h1;omega
 subst this;rw[hk]at hj;cases hj;exact⟨rfl,(s.UP hk).uniq he he' hp hp' hid⟩
theorem Lone.km(L:Lone Ts H X)(s:mP h tb bw bp bl c vb bh N Ts W wc F B){t r:Int}(hH:H t r≠0):kn (H t r)=true:=by
 obtain⟨k,b,e,id,hk,_,he,_,_,hQ⟩:=L.at s hH;have:=((s.is.bk b (List.mem_of_getElem? hk)).good e he).vq.right ⟨id,X t r,H t r,H t r,0⟩ (by rw[hQ];exact .head _);exact this.km
end
theorem UY{id x m:Int}:mz [] 0 id x m=(⟨id,x,m,m,0⟩,0,true):=rfl
theorem Mj{id x m w:Int}(hm:m≠0):fE [⟨id,x,m,w,0⟩]=none:=by
 simp[fE,best,yO,DY,hm,List.findIdx?,List.findIdx?.go]
theorem yb{id x m w:Int}(hm:m≠0):e_ (jB [⟨id,x,m,w,0⟩]+1) [⟨id,x,m,w,0⟩]=([⟨id,x,m,w,0⟩],[]):=A7 (BR (Mj hm)) _
theorem JU{id x m w m' W:Int}:(kH [⟨id,x,m,w,0⟩] W ⟨id,x,m,w,0⟩ m')=(⟨id,x,bZ m m',bZ m m',0⟩,W,true):=by
 unfold kH;rw[if_pos];simp[iY,yO]
theorem jQ{id d x m w s:Int}:cL [⟨id,x,m,w,s⟩] d=if id=d then some ⟨id,x,m,w,s⟩else none:=by
 simp only[cL,cZ,List.find?_cons,List.find?_nil];split<;>simp_all
theorem fS.cnt{M M':List HE}{clock:Nat}(o:cO M clock){t r w:Int}{Q:List R5}(st:fS M M' t r w Q):M'.length<=M.length+1:=by
 have:=st.len;have h2:=List.length_filter_le (λx=>!jO t r x) M;omega
structure iT where
 k:Int
 x:Int
 t:Int
 r:Int
 m:Int
 w:Int
 to:Int
def FG(a:iT):List Value:=[X8 a.k,X8 a.x,X8 a.t,X8 a.r,X8 a.m,X8 a.w,X8 a.to]
def pG(a:iT):Bool:=decide (br a.t a.r≠-1) && (if a.k=1 then kn a.m && decide (a.m≠0) && decide (0<=a.w)else if a.k=3 then decide (a.to≠a.x)else decide (a.k=2))
def yd(H:Int->Int->Int)(a:iT):Int:=if a.k=1 then 1 else if H a.t a.r=0 then 6 else 1
def Mk(H:Int->Int->Int)(a:iT):Int->Int->Int:=if a.k=1 then jD H a.t a.r (bZ (H a.t a.r) a.m)else jD H a.t a.r 0
def mE(ty:TypeId)(op:Bool):Prop:=ty=194\/ty=205\/ty=267\/ty=55\/ty=57\/ty=286\/ty=4\/(ty=3/\op=true)
theorem fo.only{h h':af}{bp bl:Nat}{F:List Int}{B:List Bool}(p:fo h bp bl F B)(hn:h.nx<=h'.nx)(hl:h'.lo=h.lo)(hc:∀c vs ty op,c<h.nx->mE ty op->(ty=3->FB h bp c)->h.bl.get c=some (aj vs ty op)->h'.bl.get c=h.bl.get c):fo h' bp bl F B:=by
 have pl:=p.lt;have fl:=p.fr.lt;obtain⟨fs,hg,hpt⟩:=p.fr.cell;refine⟨⟨X1,by rw[hl];exact p.fr.lo,fs,(hc _ _ _ _ fl (by simp[mE]) (λe=>absurd e X7) hg).trans hg,?_⟩,X1,by rw[hl];exact p.lo,(hc _ _ _ _ pl (by simp[mE]) (λe=>absurd e X7) p.cell).trans p.cell,p.ok,p.small⟩;rcases hpt with e|⟨b,G,e,k1,k2,k3,k4⟩
 .exact .inl e
 .exact .inr ⟨b,G,e,X1,X1,(hc _ _ _ _ k1 (by simp[mE]) (λ_=>⟨_,_,_,by rw[hg,e]⟩) k3).trans k3,k4⟩
theorem bC.only{h h':af}{bb bm bp bl most clock:Nat}{M:List HE}{F:List Int}{B:List Bool}(s:bC h bb bm bp bl most M clock F B)(hn:h.nx<=h'.nx)(hl:h'.lo=h.lo)(hc:∀c vs ty op,c<h.nx->mE ty op->(ty=3->FB h bp c)->h.bl.get c=some (aj vs ty op)->h'.bl.get c=h.bl.get c)(hm:h'.bl.get bm=h.bl.get bm):bC h' bb bm bp bl most M clock F B:=by
 have sb:=s.rH;have sm:=s.jV;refine⟨X1,X1,by rw[hl];exact s.Yr,(hc _ _ _ _ sb (by simp[mE]) (λe=>absurd e X7) s.jj).trans s.jj,hm.trans s.g_,s.ok,λe he=>?_,s.good,s.bu.only hn hl hc,s.ne⟩;have a:=s.bh e he;have al:=a.lt;exact⟨X1,(hc _ _ _ _ al (by simp[mE]) (λe=>absurd e X7) a.get).trans a.get,a.qv.frame hn λc vs op h1 hg=>hc c vs _ op h1 (by simp[mE]) (λe=>absurd e X7) hg⟩
section
variable {h h':af}{tb bw bp bl:Nat}{c:iL}{vb:Value}{bh N:Nat}{Ts:List TB}{W:List IE}{wc:Nat}{F:List Int}{B:List Bool}
theorem fT.only(s:fT h tb bw bp bl c vb bh Ts W wc F B)(hn:h.nx<=h'.nx)(hl:h'.lo=h.lo)(hc:∀c vs ty op,c<h.nx->mE ty op->(ty=3->FB h bp c)->h.bl.get c=some (aj vs ty op)->h'.bl.get c=h.bl.get c)(hw:h'.bl.get bw=h.bl.get bw)(hm:∀b∈Ts,h'.bl.get b.bm=h.bl.get b.bm):fT h' tb bw bp bl c vb bh Ts W wc F B:=by
 have h1:=s.ltt;have h2:=s.De;have k1:=Sl.Mh (h':=h') s.sl s.ty hn λc vs op h1 hg=>hc c vs _ op h1 (by simp[mE]) (λe=>absurd e X7) hg;exact⟨X1,(hc _ _ _ _ h1 (by simp[mE]) (λe=>absurd e X7) s.oS).trans s.oS,k1.1,k1.2,X1,by rw[hl];exact s.low,hw.trans s.qw,λb hb=>(s.bk b hb).only hn hl hc (hm b hb),s.JM,s.wne,s.bu.only hn hl hc,s.cS,s.s1,s.hd⟩
theorem mP.only(s:mP h tb bw bp bl c vb bh N Ts W wc F B)(hn:h.nx<=h'.nx)(hl:h'.lo=h.lo)(hc:∀c vs ty op,c<h.nx->mE ty op->(ty=3->FB h bp c)->h.bl.get c=some (aj vs ty op)->h'.bl.get c=h.bl.get c)(hw:h'.bl.get bw=h.bl.get bw)(hm:∀b∈Ts,h'.bl.get b.bm=h.bl.get b.bm):mP h' tb bw bp bl c vb bh N Ts W wc F B:=
 ⟨s.is.only hn hl hc hw hm,s.ids,s.wh,s.nm,s.wb,s.len,s.cR,s.cH⟩
theorem mP.put(s:mP h tb bw bp bl c vb bh N Ts W wc F B){d:Nat}(o:bP)(hd:∀vs ty op,mE ty op->h.bl.get d≠some (aj vs ty op))(hw:d≠bw)(hm:∀b∈Ts,d≠b.bm):mP ⟨h.nx,h.bl.a_ d o,h.lo⟩ tb bw bp bl c vb bh N Ts W wc F B:=
 s.only (Nat.le_refl _) rfl (λc vs ty op _ ht _ hg=>T.aD _ _ (by rintro rfl;exact hd vs ty op ht hg)) (T.aD _ _ hw) λb hb=>T.aD _ _ (hm b hb)
end
def dF(o:Option Nat):Value:=match o with|some a=>.pointer (some ⟨a,0,none⟩)|none=>.pointer none
structure CR where
 ca:Nat
 a:iT
 th:Int
 no:Int
 st:Int
 ph:Nat
 wt:Bool
 id:Int
 cs:Int
 out:Int
def aa0(ph:Nat):FuncId:=if ph=1 then 58 else if ph=2 then 106 else if ph=3 then 159 else if ph=4 then 305 else 306
def yZ(ph ca:Nat):Value:=.func (.func (aa0 ph)) ⟨[UV ca]⟩ ⟨[]⟩
noncomputable def cF(wb:Nat)(c:CR):bP:=aj [X8 c.a.k,X8 c.a.x,X8 c.a.t,X8 c.a.r,X8 c.a.m,X8 c.a.w,X8 c.a.to,UV wb,X8 c.th,X8 c.no,X8 c.st,yZ c.ph c.ca,X8 (c.ph:Int),.bool c.wt,X8 c.id,X8 c.cs,X8 c.out,.bool false,.slice none 0 0] 128 false
structure WA where
 wb:Nat
 lb:Nat
 hb:Nat
 pb:Nat
 ib:Nat
 kb:Nat
 cb:Nat
 mb:Nat
 n:Nat
structure RW(h:af)(A:WA)(tb:Nat)(eO:List (Option (Nat × Int)))(bits:List Int)(now:Int)(tv:Value)(cs:List (Option CR))(wm:List IE)(Cg:Nat)(begun:Int):Prop where
 De:A.wb<h.nx/\h.lo<=A.wb
 gw:h.bl.get A.wb=some (aj [UV tb,UV A.lb,UV A.pb,UV A.kb,YYY A.cb A.n A.n,.map (some A.mb),X8 begun] 126 false)
 OW:A.lb<h.nx
 gl:h.bl.get A.lb=some (aj [YYY A.hb eO.length eO.length] 247 false)
 lth:A.hb<h.nx/\h.lo<=A.hb
 gh:h.bl.get A.hb=some (aj (eO.map λo=>dF (o.map (·.1))) 251 false)
 ho:∀p,some p∈eO->p.1<h.nx/\h.bl.get p.1=some (aj [X8 p.2] 253 false)
 UZ:A.pb<h.nx
 gp:h.bl.get A.pb=some (aj [YYY A.ib A.n A.n] 244 false)
 lti:A.ib<h.nx/\h.lo<=A.ib
 gi:h.bl.get A.ib=some (aj (bits.map λn=>X8 n) 3 false)
 li:bits.length=A.n
 ltk:A.kb<h.nx/\h.lo<=A.kb
 gk:h.bl.get A.kb=some (aj [X8 now,tv] 200 false)
 ltc:A.cb<h.nx/\h.lo<=A.cb
 gc:h.bl.get A.cb=some (aj (cs.map λo=>dF (o.map (·.ca))) 118 false)
 lc:cs.length=A.n
 ca:∀c,some c∈cs->c.ca<h.nx/\h.lo<=c.ca/\h.bl.get c.ca=some (cF A.wb c)
 jV:A.mb<h.nx/\h.lo<=A.mb
 gm:h.bl.get A.mb=some (.map (wm.map Ea) Cg)
 nn:1<=A.n/\A.n<=8
 dc:cs.Pairwise λo o'=>∀c c',o=some c->o'=some c'->c.ca≠c'.ca
def ki(ty:TypeId)(op:Bool):Prop:=ty=126\/ty=247\/ty=251\/ty=253\/ty=244\/ty=200\/ty=118\/ty=128\/(ty=3/\op=false)
section
variable {h h':af}{A:WA}{tb:Nat}{eO:List (Option (Nat × Int))}{bits:List Int}{now:Int}{tv:Value}{cs:List (Option CR)}{wm:List IE}{Cg:Nat}{begun:Int}
theorem RW.keep(s:RW h A tb eO bits now tv cs wm Cg begun)(hn:h.nx<=h'.nx)(hl:h'.lo=h.lo)(hg:∀d vs ty op,d<h.nx->ki ty op->h.bl.get d=some (aj vs ty op)->h'.bl.get d=h.bl.get d)(hm:h'.bl.get A.mb=h.bl.get A.mb):RW h' A tb eO bits now tv cs wm Cg begun:=by
 obtain⟨⟨a1,a2⟩,a3,b1,b2,⟨c1,c2⟩,c3,c4,d1,d2,⟨e1,e2⟩,e3,e4,⟨f1,f2⟩,f3,⟨g1,g2⟩,g3,g4,g5,⟨i1,i2⟩,i3,i4,i5⟩:=s;refine⟨⟨X1,X1⟩,(hg _ _ _ _ a1 (by simp[ki]) a3).trans a3,X1,(hg _ _ _ _ b1 (by simp[ki]) b2).trans b2,⟨X1,X1⟩,(hg _ _ _ _ c1 (by simp[ki]) c3).trans c3,λp hp=>?_,X1,(hg _ _ _ _ d1 (by simp[ki]) d2).trans d2,⟨X1,X1⟩,(hg _ _ _ _ e1 (by simp[ki]) e3).trans e3,e4,⟨X1,X1⟩,(hg _ _ _ _ f1 (by simp[ki]) f3).trans f3,⟨X1,X1⟩,(hg _ _ _ _ g1 (by simp[ki]) g3).trans g3,g4,λc hc=>?_,⟨X1,X1⟩,hm.trans i3,i4,i5⟩
 .obtain⟨k1,k2⟩:=c4 p hp;exact⟨X1,(hg _ _ _ _ k1 (by simp[ki]) k2).trans k2⟩
 .obtain⟨k1,k2,k3⟩:=g5 c hc;exact⟨X1,X1,(hg _ _ _ _ k1 (by simp[ki]) k3).trans k3⟩
theorem RW.le(s:RW h A tb eO bits now tv cs wm Cg begun)(l:Le h h'):RW h' A tb eO bits now tv cs wm Cg begun:=s.keep l.nx l.lo (λd _ _ _ hd _ _=>l.get d hd) (l.get _ s.jV.1)
theorem RW.al2(s:RW h A tb eO bits now tv cs wm Cg begun){bw bp bl:Nat}{c:iL}{vb:Value}{bh:Nat}{Ts:List TB}{W:List IE}{wc:Nat}{F:List Int}{B:List Bool}(t:fT h tb bw bp bl c vb bh Ts W wc F B)(f:x_ Ts bw bp bl h h')(hw:A.mb≠bw)(hm:∀b∈Ts,A.mb≠b.bm):RW h' A tb eO bits now tv cs wm Cg begun:=by
 have gm:=s.gm;obtain⟨fs,B0,hpt⟩:=t.bu.fr.cell;have gl:=t.bu.cell;refine s.keep f.nx f.lo (λd vs ty op hd hr hg=>?_) (f.get _ s.jV.1 hm hw (by rintro e;rw[e,B0]at gm;exact bY gm.symm) (by rintro e;rw[e,gl]at gm;exact bY gm.symm) λvs=>by rw[gm];exact bY);rcases hr with e|e|e|e|e|e|e|e|⟨e,e'⟩<;>subst e
 .exact f.keep t hd hg X7 X7 X7
 .exact f.keep t hd hg X7 X7 X7
 .exact f.keep t hd hg X7 X7 X7
 .exact f.keep t hd hg X7 X7 X7
 .exact f.keep t hd hg X7 X7 X7
 .exact f.keep t hd hg X7 X7 X7
 .exact f.keep t hd hg X7 X7 X7
 .exact f.keep t hd hg X7 X7 X7
 .subst e';refine f.get d hd (λb hb=>?_) (by rintro rfl;have:=t.qw;rw[hg]at this;exact bY this.symm) (by rintro rfl;rw[hg]at B0;exact bJ X7 B0) (by rintro rfl;rw[hg]at gl;exact bJ X7 gl) λws=>by rw[hg];exact bI
  rintro rfl;have:=(t.bk b hb).g_;rw[hg]at this;exact bY this.symm
end
theorem al3(h:af)(b o:Nat):mR prog h 100 120 (.pointer (some ⟨b,o,none⟩)) (.pointer none)=some false:=by kernel_rfl
theorem U0{β:Type}{fl:β}(cn:Bool)(b o:Nat)(h:af)(V:X3 β):aI fl prog .eql 120 cn false (.pointer (some ⟨b,o,none⟩)) (.pointer none) h V=V (.bool false) h:=by simp only[aI,al3,bX]
theorem al4(h:af)(b o:Nat):mR prog h 100 251 (.pointer (some ⟨b,o,none⟩)) (.pointer none)=some false:=by kernel_rfl
theorem al5(h:af):mR prog h 100 251 (.pointer none) (.pointer none)=some true:=by kernel_rfl
theorem JV{β:Type}{fl:β}(cn:Bool)(b o:Nat)(h:af)(V:X3 β):aI fl prog .eql 251 cn false (.pointer (some ⟨b,o,none⟩)) (.pointer none) h V=V (.bool false) h:=by simp only[aI,al4,bX]
theorem JW{β:Type}{fl:β}(cn:Bool)(h:af)(V:X3 β):aI fl prog .eql 251 cn false (.pointer none) (.pointer none) h V=V (.bool true) h:=by simp only[aI,al5,bX]
abbrev rI(eO:List (Option (Nat × Int))):List Value:=eO.map λo=>dF (o.map (·.1))
section
variable {h:af}{lb hb:Nat}{eO:List (Option (Nat × Int))}
theorem Ch(gl:h.bl.get lb=some (aj [YYY hb eO.length eO.length] 247 false)){i:Nat}{th:Int}(hi:i<eO.length)(ht:0<=th/\th<8)(V:KQ)(hk:V (X8 0) h):av prog 156 [UV lb,X8 (i:Int),X8 th] h V:=by
 apply X9;rw[ac1];simp(disch:=try exact Y)only[Wz,U0,H6,d_ (show(0:Int)<=(i:Int)by omega),aN,gl,d_ (show 0<=th by omega),bf (show ¬(eO.length:Int)<=(i:Int)by omega),bf (show ¬(8:Int)<=th by omega)];exact hk
theorem Ml{i:Nat}{o:Option (Nat × Int)}(hi:eO[i]? = some o):(rI eO)[i]? = some (dF (o.map (·.1))):=by rw[List.getElem?_map,hi];rfl
theorem JX{i:Nat}{o:Option (Nat × Int)}(hi:i<eO.length):over (rI eO) i [dF (o.map (·.1))]=rI (eO.set i o):=by
 unfold over rI;rw[List.map_set,List.set_eq_take_append_cons_drop,if_pos (by simpa using hi)];simp
theorem afH(gl:h.bl.get lb=some (aj [YYY hb eO.length eO.length] 247 false))(gh:h.bl.get hb=some (aj (rI eO) 251 false))(hhb:hb<h.nx/\h.lo<=hb)(hlb:lb<h.nx){i:Nat}{th:Int}(hi:eO[i]? = some none)(ht:0<=th/\th<8)(V:KQ)(hk:V (.tuple ⟨[.bool true,X8 0]⟩) ⟨h.nx+1,(h.bl.a_ h.nx (aj [X8 th] 253 false)).a_ hb (aj (rI (eO.set i (some (h.nx,th)))) 251 false),h.lo⟩):av prog 105 [UV lb,X8 (i:Int),X8 th] h V:=by
 have hil:=(List.getElem?_eq_some_iff.1 hi).1;have r:=Ml hi;have ov:=JX (eO:=eO) (o:=some (h.nx,th)) hil;have hln:(rI eO).length=eO.length:=List.length_map _;apply X9;rw[acw];refine Ch gl hil ht _ ?_;simp only[dF,Option.map_none]at r;simp only[dF,Option.map_some]at ov;simp(disch:=try exact Y)only[Wz,HA,aN,gl,bB,gh,r,Nat.mul_one,JW,Hz,ov];exact hk
theorem YQ(gl:h.bl.get lb=some (aj [YYY hb eO.length eO.length] 247 false))(gh:h.bl.get hb=some (aj (rI eO) 251 false))(hhb:hb<h.nx/\h.lo<=hb){i p:Nat}{th:Int}(hi:eO[i]? = some (some (p,th)))(gp:h.bl.get p=some (aj [X8 th] 253 false))(ht:0<=th/\th<8)(V:KQ)(hk:V (X8 0) ⟨h.nx,h.bl.a_ hb (aj (rI (eO.set i none)) 251 false),h.lo⟩):av prog 215 [UV lb,X8 (i:Int),X8 th] h V:=by
 have hil:=(List.getElem?_eq_some_iff.1 hi).1;have r:=Ml hi;have ov:=JX (eO:=eO) (o:=none) hil;have hln:(rI eO).length=eO.length:=List.length_map _;apply X9;rw[adG];refine Ch gl hil ht _ ?_;simp only[dF,Option.map_some]at r;simp only[dF,Option.map_none]at ov;simp(disch:=try exact Y)only[Wz,Ix,aN,gl,bB,gh,r,gp,Nat.mul_one,JV,ov];exact hk
theorem Qz(gl:h.bl.get lb=some (aj [YYY hb eO.length eO.length] 247 false))(gh:h.bl.get hb=some (aj (rI eO) 251 false)){i:Nat}{o:Option (Nat × Int)}(hi:eO[i]? = some o)(gp:∀p,o=some p->h.bl.get p.1=some (aj [X8 p.2] 253 false))(V:KQ)(hk:∀x,V (.tuple ⟨[X8 x,.bool o.isSome]⟩) h):av prog 115 [UV lb,X8 (i:Int)] h V:=by
 have hil:=(List.getElem?_eq_some_iff.1 hi).1;have r:=Ml hi;have hln:(rI eO).length=eO.length:=List.length_map _;apply X9;rw[acA];refine Ch gl hil X1 _ ?_;cases o with
 |none=>
  simp only[dF,Option.map_none]at r;simp(disch:=try exact Y)only[Wz,aN,gl,bB,gh,r,Nat.mul_one,JW];exact hk 0
 |some p=>
  have gp:=gp p rfl;simp only[dF,Option.map_some]at r;simp(disch:=try exact Y)only[Wz,aN,gl,bB,gh,r,Nat.mul_one,JV,HF,gp];exact hk p.2
end
theorem al6(h:af)(b o:Nat):mR prog h 100 121 (.pointer (some ⟨b,o,none⟩)) (.pointer none)=some false:=by kernel_rfl
theorem U2{β:Type}{fl:β}(cn:Bool)(b o:Nat)(h:af)(V:X3 β):aI fl prog .eql 121 cn false (.pointer (some ⟨b,o,none⟩)) (.pointer none) h V=V (.bool false) h:=by simp only[aI,al6,bX]
abbrev Mm(bits:List Int):List Value:=bits.map λn=>X8 n
def QA(a b:Int):Int:=IntKind.i64.wrap (BitVec.ofInt IntKind.i64.bits a &&& BitVec.ofInt IntKind.i64.bits b).toNat
theorem QB{β:Type}{fl:β}(P:Program)(t:TypeId)(cn gd:Bool)(a b:Int)(h:af)(V:X3 β):aI fl P .and t cn gd (X8 a) (X8 b) h V=V (X8 (QA a b)) h:=by
 simp only[aI,jx,pO,iZ,fD];rfl
section
variable {h:af}{pb ib:Nat}{bits:List Int}
theorem U3(gp:h.bl.get pb=some (aj [YYY ib bits.length bits.length] 244 false)){i:Nat}(hi:i<bits.length)(V:KQ)(hk:V (X8 0) h):av prog 162 [UV pb,X8 (i:Int)] h V:=by
 apply X9;rw[ac5];simp(disch:=try exact Y)only[Wz,U2,H7,d_ (show(0:Int)<=(i:Int)by omega),aN,gp,bf (show ¬(bits.length:Int)<=(i:Int)by omega)];exact hk
theorem afI{i:Nat}{n:Int}(hi:bits[i]? = some n):(Mm bits)[i]? = some (X8 n):=by rw[List.getElem?_map,hi];rfl
theorem al7(gp:h.bl.get pb=some (aj [YYY ib bits.length bits.length] 244 false))(gi:h.bl.get ib=some (aj (Mm bits) 3 false)){i:Nat}{n:Int}(hi:bits[i]? = some n)(b:Int)(V:KQ)(hk:V (.bool (!decide (QA n b=0))) h):av prog 163 [UV pb,X8 (i:Int),X8 b] h V:=by
 have hil:=(List.getElem?_eq_some_iff.1 hi).1;have r:=afI hi;have hln:(Mm bits).length=bits.length:=List.length_map _;apply X9;rw[ac6];refine U3 gp hil _ ?_;simp(disch:=try exact Y)only[Wz,aN,gp,bB,gi,r,Nat.mul_one,QB];exact hk
theorem U4(gp:h.bl.get pb=some (aj [YYY ib bits.length bits.length] 244 false))(gi:h.bl.get ib=some (aj (Mm bits) 3 false)){i:Nat}{n:Int}(hi:bits[i]? = some n)(V:KQ)(hk:V (.bool (!decide (QA n 1=0))) h):av prog 114 [UV pb,X8 (i:Int)] h V:=by
 apply X9;rw[acz];exact al7 gp gi hi 1 _ hk
end
theorem dK{h:af}{a b:Nat}{v v':List Value}{t t':TypeId}{o o':Bool}(ha:h.bl.get a=some (aj v t o))(hb:h.bl.get b=some (aj v' t' o'))(hn:t≠t'):a≠b:=by
 rintro rfl;rw[ha]at hb;exact bJ hn hb
theorem dL{h:af}{a b:Nat}{v:List Value}{t:TypeId}{o:Bool}{es:List MapEntry}{cl:Nat}(ha:h.bl.get a=some (aj v t o))(hb:h.bl.get b=some (.map es cl)):a≠b:=by
 rintro rfl;rw[ha]at hb;exact bY hb.symm
section
variable {h h':af}{A:WA}{tb:Nat}{eO:List (Option (Nat × Int))}{bits:List Int}{now:Int}{tv:Value}{cs:List (Option CR)}{wm:List IE}{Cg:Nat}{begun:Int}
theorem afJ{i:Nat}{c c':CR}(hi:cs[i]? = some (some c))(hc:c'.ca=c.ca):((cs.set i (some c')).map λo=>dF (o.map (·.ca)))=cs.map λo=>dF (o.map (·.ca)):=by
 have hil:=(List.getElem?_eq_some_iff.1 hi).1;refine List.ext_getElem? λj=>?_;rw[List.getElem?_map,List.getElem?_map,List.getElem?_set];split
 .rename_i e;subst e;rw[hi];simp[hc,hil]
 .rfl
theorem Ci{i:Nat}{c:CR}{o:Option CR}(h:some c∈cs.set i o):o=some c\/∃j,j≠i/\cs[j]? = some (some c):=by
 obtain⟨j,hj⟩:=List.getElem?_of_mem h;rw[List.getElem?_set]at hj;split at hj
 .split at hj
  .exact .inl (Option.some.inj hj)
  .cases hj
 .rename_i hne;exact .inr ⟨j,λe=>hne e.symm,hj⟩
theorem RW.apart(s:RW h A tb eO bits now tv cs wm Cg begun){i j:Nat}{c c':CR}(hi:cs[i]? = some (some c))(hj:cs[j]? = some (some c'))(hne:i≠j):c.ca≠c'.ca:=by
 rcases Nat.lt_or_gt_of_ne hne with h1|h1
 .exact fN.1 s.dc i j _ _ h1 hi hj c c' rfl rfl
 .exact λe=>fN.1 s.dc j i _ _ h1 hj hi c' c rfl rfl e.symm
theorem RW.jt(s:RW h A tb eO bits now tv cs wm Cg begun){i:Nat}{c c':CR}(hi:cs[i]? = some (some c))(hc:c'.ca=c.ca):RW ⟨h.nx,h.bl.a_ c.ca (cF A.wb c'),h.lo⟩ A tb eO bits now tv (cs.set i (some c')) wm Cg begun:=by
 obtain⟨k1,k2,k3⟩:=s.ca c (List.mem_of_getElem? hi);have up:∀{b:Nat}{v:List Value}{t:TypeId}{o:Bool},h.bl.get b=some (aj v t o)->128≠t->(h.bl.a_ c.ca (cF A.wb c')).get b=some (aj v t o):=λhb hn=>(T.aD _ _ (dK k3 hb hn)).trans hb;refine⟨s.De,up s.gw X7,s.OW,up s.gl X7,s.lth,up s.gh X7,λp hp=>⟨(s.ho p hp).1,up (s.ho p hp).2 X7⟩,s.UZ,up s.gp X7,s.lti,up s.gi X7,s.li,s.ltk,up s.gk X7,s.ltc,?_,?_,?_,s.jV,(T.aD _ _ (dL k3 s.gm)).trans s.gm,s.nn,?_⟩
 .rw[afJ hi hc];exact up s.gc X7
 .rw[List.length_set];exact s.lc
 .intro d hd;rcases Ci hd with e|⟨j,hne,hj⟩
  .cases e;rw[hc];exact⟨k1,k2,T.ay _ _ _⟩
  .obtain⟨g1,g2,g3⟩:=s.ca d (List.mem_of_getElem? hj);exact⟨g1,g2,(T.aD _ _ (s.apart hi hj (λe=>hne e.symm))).trans g3⟩
 .refine uK s.dc (λj q hj hq a b ha hb=>?_) (λj q hj hq a b ha hb=>?_)
  .subst ha;cases hb;rw[hc];exact s.apart hq hi X1
  .subst hb;cases ha;rw[hc];exact s.apart hi hq X1
theorem RW.wI(s:RW h A tb eO bits now tv cs wm Cg begun)(i:Nat)(o:Option CR)(ho:∀c,o=some c->c.ca<h.nx/\h.lo<=c.ca/\h.bl.get c.ca=some (cF A.wb c)/\∀(j:Nat)(d:CR),j≠i->cs[j]? = some (some d)->d.ca≠c.ca):RW ⟨h.nx,h.bl.a_ A.cb (aj ((cs.set i o).map λo=>dF (o.map (·.ca))) 118 false),h.lo⟩ A tb eO bits now tv (cs.set i o) wm Cg begun:=by
 have k3:=s.gc;have up:∀{b:Nat}{v:List Value}{t:TypeId}{op:Bool},h.bl.get b=some (aj v t op)->118≠t->(h.bl.a_ A.cb (aj ((cs.set i o).map λo=>dF (o.map (·.ca))) 118 false)).get b=some (aj v t op):=λhb hn=>(T.aD _ _ (dK k3 hb hn)).trans hb;refine⟨s.De,up s.gw X7,s.OW,up s.gl X7,s.lth,up s.gh X7,λp hp=>⟨(s.ho p hp).1,up (s.ho p hp).2 X7⟩,s.UZ,up s.gp X7,s.lti,up s.gi X7,s.li,s.ltk,up s.gk X7,s.ltc,T.ay _ _ _,?_,?_,s.jV,(T.aD _ _ (dL k3 s.gm)).trans s.gm,s.nn,?_⟩
 .rw[List.length_set];exact s.lc
 .intro d hd;rcases Ci hd with e|⟨j,hne,hj⟩
  .obtain⟨g1,g2,g3,_⟩:=ho d e;exact⟨g1,g2,up g3 X7⟩
  .obtain⟨g1,g2,g3⟩:=s.ca d (List.mem_of_getElem? hj);exact⟨g1,g2,up g3 X7⟩
 .refine uK s.dc (λj q hj hq a b ha hb=>?_) (λj q hj hq a b ha hb=>?_)
  .subst ha;exact(ho b hb).2.2.2 j a X1 hq
  .subst hb;exact λe=>(ho a ha).2.2.2 j b X1 hq e.symm
theorem RW.FH(s:RW h A tb eO bits now tv cs wm Cg begun)(Cj:List (Option (Nat × Int)))(hl:Cj.length=eO.length)(ho:∀p,some p∈Cj->p.1<h.nx/\h.bl.get p.1=some (aj [X8 p.2] 253 false)):RW ⟨h.nx,h.bl.a_ A.hb (aj (rI Cj) 251 false),h.lo⟩ A tb Cj bits now tv cs wm Cg begun:=by
 have k3:=s.gh;have up:∀{b:Nat}{v:List Value}{t:TypeId}{op:Bool},h.bl.get b=some (aj v t op)->251≠t->(h.bl.a_ A.hb (aj (rI Cj) 251 false)).get b=some (aj v t op):=λhb hn=>(T.aD _ _ (dK k3 hb hn)).trans hb;exact⟨s.De,up s.gw X7,s.OW,by rw[hl];exact up s.gl X7,s.lth,T.ay _ _ _,λp hp=>⟨(ho p hp).1,up (ho p hp).2 X7⟩,s.UZ,up s.gp X7,s.lti,up s.gi X7,s.li,s.ltk,up s.gk X7,s.ltc,up s.gc X7,s.lc,λc hc=>⟨(s.ca c hc).1,(s.ca c hc).2.1,up (s.ca c hc).2.2 X7⟩,s.jV,(T.aD _ _ (dL k3 s.gm)).trans s.gm,s.nn,s.dc⟩
theorem RW.Ck(s:RW h A tb eO bits now tv cs wm Cg begun)(b':Int):RW ⟨h.nx,h.bl.a_ A.wb (aj [UV tb,UV A.lb,UV A.pb,UV A.kb,YYY A.cb A.n A.n,.map (some A.mb),X8 b'] 126 false),h.lo⟩ A tb eO bits now tv cs wm Cg b':=by
 have k3:=s.gw;have up:∀(o':bP){b:Nat}{v:List Value}{t:TypeId}{op:Bool},h.bl.get b=some (aj v t op)->126≠t->(h.bl.a_ A.wb o').get b=some (aj v t op):=λo' _ _ _ _ hb hn=>(T.aD _ _ (dK k3 hb hn)).trans hb;exact⟨s.De,T.ay _ _ _,s.OW,up _ s.gl X7,s.lth,up _ s.gh X7,λp hp=>⟨(s.ho p hp).1,up _ (s.ho p hp).2 X7⟩,s.UZ,up _ s.gp X7,s.lti,up _ s.gi X7,s.li,s.ltk,up _ s.gk X7,s.ltc,up _ s.gc X7,s.lc,λc hc=>⟨(s.ca c hc).1,(s.ca c hc).2.1,up _ (s.ca c hc).2.2 X7⟩,s.jV,(T.aD _ _ (dL k3 s.gm)).trans s.gm,s.nn,s.dc⟩
end
structure TA where
 tb:Nat
 bw:Nat
 bp:Nat
 bl:Nat
 c:iL
 vb:Value
 bh:Nat
 ms:List Nat
structure TD where
 Ts:List TB
 W:List IE
 wc:Nat
 F:List Int
 B:List Bool
structure RD where
 eO:List (Option (Nat × Int))
 bits:List Int
 now:Int
 tv:Value
 cs:List (Option CR)
 wm:List IE
 Cg:Nat
 begun:Int
abbrev Dh(h:af)(a:TA)(N:Nat)(d:TD):Prop:=mP h a.tb a.bw a.bp a.bl a.c a.vb a.bh N d.Ts d.W d.wc d.F d.B
abbrev RWx(h:af)(A:WA)(tb:Nat)(R:RD):Prop:=RW h A tb R.eO R.bits R.now R.tv R.cs R.wm R.Cg R.begun
structure WS(h:af)(A:WA)(a:TA)(N:Nat)(d:TD)(R:RD):Prop where
 t:Dh h a N d
 r:RWx h A a.tb R
 mw:A.mb≠a.bw
 mm:∀b∈d.Ts,A.mb≠b.bm
 mi:A.mb∈a.ms/\a.bw∈a.ms/\∀b∈d.Ts,b.bm∈a.ms
 lo:h.lo<=h.nx
section
variable {h h':af}{A:WA}{a:TA}{N:Nat}{d:TD}{R:RD}
theorem WS.le(s:WS h A a N d R)(l:Le h h'):WS h' A a N d R:=⟨s.t.le l,s.r.le l,s.mw,s.mm,s.mi,by have:=l.nx;have:=l.lo;have:=s.lo;omega⟩
theorem WS.up(s:WS h A a N d R){N':Nat}(hN:N<=N'):WS h A a N' d R:=⟨s.t.up hN,s.r,s.mw,s.mm,s.mi,s.lo⟩
theorem WS.table(s:WS h A a N d R){N':Nat}{d':TD}(t':Dh h' a N' d')(f:x_ d.Ts a.bw a.bp a.bl h h')(hb:d'.Ts.map (·.bm)=d.Ts.map (·.bm)):WS h' A a N' d' R:=by
 have back:∀b∈d'.Ts,∃b0∈d.Ts,b0.bm=b.bm:=λb hb'=>by
  have:b.bm∈d.Ts.map (·.bm):=by rw[<-hb];exact List.mem_map.2 ⟨b,hb',rfl⟩
  exact List.mem_map.1 this
 refine⟨t',s.r.al2 s.t.is f s.mw s.mm,s.mw,λb hb'=>?_,⟨s.mi.1,s.mi.2.1,λb hb'=>?_⟩,by have:=f.nx;have:=f.lo;have:=s.lo;omega⟩
 .obtain⟨b0,hb0,e⟩:=back b hb';rw[<-e];exact s.mm b0 hb0
 .obtain⟨b0,hb0,e⟩:=back b hb';rw[<-e];exact s.mi.2.2 b0 hb0
theorem Dh.U5(s:Dh h a N d){x:Nat}{v:List Value}{t:TypeId}{op:Bool}(hg:h.bl.get x=some (aj v t op))(hn:∀ty o,mE ty o->t≠ty)(o:bP):Dh ⟨h.nx,h.bl.a_ x o,h.lo⟩ a N d:=
 mP.put s o (λvs ty o' ht e=>by rw[hg]at e;exact bJ (hn ty o' ht) e) (dL hg s.is.qw) λb hb=>dL hg (s.is.bk b hb).g_
theorem nTy{t:TypeId}(h1:t≠194)(h2:t≠205)(h3:t≠267)(h4:t≠55)(h5:t≠57)(h6:t≠286)(h7:t≠4)(h8:t≠3):∀ty o,mE ty o->t≠ty:=by
 rintro ty o (rfl|rfl|rfl|rfl|rfl|rfl|rfl|⟨rfl,_⟩)<;>assumption
theorem WS.jt(s:WS h A a N d R){i:Nat}{c c':CR}(hi:R.cs[i]? = some (some c))(hc:c'.ca=c.ca):WS ⟨h.nx,h.bl.a_ c.ca (cF A.wb c'),h.lo⟩ A a N d { R with cs:=R.cs.set i (some c') }:=
 ⟨Dh.U5 s.t (s.r.ca c (List.mem_of_getElem? hi)).2.2 (nTy X7 X7 X7 X7 X7 X7 X7 X7) _,s.r.jt hi hc,s.mw,s.mm,s.mi,s.lo⟩
theorem WS.wI(s:WS h A a N d R)(i:Nat)(o:Option CR)(ho:∀c,o=some c->c.ca<h.nx/\h.lo<=c.ca/\h.bl.get c.ca=some (cF A.wb c)/\∀(j:Nat)(d:CR),j≠i->R.cs[j]? = some (some d)->d.ca≠c.ca):WS ⟨h.nx,h.bl.a_ A.cb (aj ((R.cs.set i o).map λo=>dF (o.map (·.ca))) 118 false),h.lo⟩ A a N d { R with cs:=R.cs.set i o }:=
 ⟨Dh.U5 s.t s.r.gc (nTy X7 X7 X7 X7 X7 X7 X7 X7) _,s.r.wI i o ho,s.mw,s.mm,s.mi,s.lo⟩
theorem WS.FH(s:WS h A a N d R)(Cj:List (Option (Nat × Int)))(hl:Cj.length=R.eO.length)(ho:∀p,some p∈Cj->p.1<h.nx/\h.bl.get p.1=some (aj [X8 p.2] 253 false)):WS ⟨h.nx,h.bl.a_ A.hb (aj (rI Cj) 251 false),h.lo⟩ A a N d { R with eO:=Cj }:=
 ⟨Dh.U5 s.t s.r.gh (nTy X7 X7 X7 X7 X7 X7 X7 X7) _,s.r.FH Cj hl ho,s.mw,s.mm,s.mi,s.lo⟩
theorem WS.Ck(s:WS h A a N d R)(b':Int):WS ⟨h.nx,h.bl.a_ A.wb (aj [UV a.tb,UV A.lb,UV A.pb,UV A.kb,YYY A.cb A.n A.n,.map (some A.mb),X8 b'] 126 false),h.lo⟩ A a N d { R with begun:=b' }:=
 ⟨Dh.U5 s.t s.r.gw (nTy X7 X7 X7 X7 X7 X7 X7 X7) _,s.r.Ck b',s.mw,s.mm,s.mi,s.lo⟩
end
theorem al9(h:af)(b o:Nat):mR prog h 100 25 (.pointer (some ⟨b,o,none⟩)) (.pointer none)=some false:=by kernel_rfl
theorem ko{β:Type}{fl:β}(cn:Bool)(b o:Nat)(h:af)(V:X3 β):aI fl prog .eql 25 cn false (.pointer (some ⟨b,o,none⟩)) (.pointer none) h V=V (.bool false) h:=by simp only[aI,al9,bX]
theorem U6{β:Type}{fl:β}(cn:Bool)(b o:Nat)(h:af)(V:X3 β):aI fl prog .neq 25 cn false (.pointer (some ⟨b,o,none⟩)) (.pointer none) h V=V (.bool true) h:=by simp only[aI,al9,bX,Bool.not_false]
theorem al_(h:af)(b o:Nat):mR prog h 100 118 (.pointer (some ⟨b,o,none⟩)) (.pointer none)=some false:=by kernel_rfl
theorem aa2(h:af):mR prog h 100 118 (.pointer none) (.pointer none)=some true:=by kernel_rfl
theorem YR{β:Type}{fl:β}(cn:Bool)(o:Option Nat)(h:af)(V:X3 β):aI fl prog .eql 118 cn false (dF o) (.pointer none) h V=V (.bool o.isNone) h:=by
 cases o with
 |none=>simp only[dF,aI,aa2,bX,Option.isNone]
 |some b=>simp only[dF,aI,al_,bX,Option.isNone]
theorem YS{β:Type}{fl:β}(cn:Bool)(o:Option Nat)(h:af)(V:X3 β):aI fl prog .neq 118 cn false (dF o) (.pointer none) h V=V (.bool o.isSome) h:=by
 cases o with
 |none=>simp only[dF,aI,aa2,bX,Bool.not_true];rfl
 |some b=>simp only[dF,aI,al_,bX,Bool.not_false];rfl
section
variable {h:af}{A:WA}{a:TA}{N:Nat}{d:TD}{R:RD}
theorem nV(s:WS h A a N d R){i:Nat}(hi:i<A.n)(V:KQ)(hk:V (.bool true) h):av prog 54 [UV A.wb,X8 (i:Int)] h V:=by
 have gw:=s.r.gw;apply X9;rw[aj5];simp(disch:=try exact Y)only[Wz,U6,bz (show(0:Int)<=(i:Int)by omega),aN,gw,f_ (show(i:Int)<(A.n:Int)by omega)];exact hk
theorem kV(s:WS h A a N d R){i:Nat}{o:Option CR}(hi:R.cs[i]? = some o):(R.cs.map λo=>dF (o.map (·.ca)))[i]? = some (dF (o.map (·.ca))):=by rw[List.getElem?_map,hi];rfl
theorem y8(s:WS h A a N d R){i:Nat}{o:Option CR}(hi:R.cs[i]? = some o):i<A.n:=by
 have:=(List.getElem?_eq_some_iff.1 hi).1;have:=s.r.lc;omega
theorem ama(s:WS h A a N d R){i:Nat}{o:Option CR}(hi:R.cs[i]? = some o)(V:KQ)(hk:V (dF (o.map (·.ca))) h):av prog 68 [UV A.wb,X8 (i:Int)] h V:=by
 have gw:=s.r.gw;have gc:=s.r.gc;have hil:=y8 s hi;have r:=kV s hi;apply X9;rw[aka];refine nV s hil _ ?_;simp(disch:=try exact Y)only[Wz,aN,gw,bB,gc,r,Nat.mul_one];exact hk
theorem U7(a b:Int):(!decide (b<a))=decide (a<=b):=by
 by_cases h:b<a
 .rw[bz h,bf (show ¬a<=b by omega)];rfl
 .rw[bf h,bz (show a<=b by omega)];rfl
theorem afK(x:iT)(h:af)(V:KQ)(hlo:h.lo<=h.nx)(hk:∀h',Le h h'->V (.bool (pG x)) h'):av prog 55 [.agg ⟨FG x⟩] h V:=by
 apply X9;rw[aj6];simp(disch:=try exact Y)only[Wz,FG];obtain⟨hA,aY,aU,g1,dI,dJ⟩:=kG h (aj [X8 x.k,X8 x.x,X8 x.t,X8 x.r,X8 x.m,X8 x.w,X8 x.to] 31 false);rw[<-aY];clear aY;have hk:=hk hA aU;unfold pG at hk;refine qt x.t x.r ?_;by_cases hl:br x.t x.r = -1
 .rw[if_pos hl];rw[bf (λh=>h hl)]at hk;simp(disch:=try exact Y)only[Wz];exact hk
 .rw[if_neg hl];rw[bz hl,Bool.true_and]at hk;simp(disch:=try exact Y)only[Wz,g1];by_cases h1:x.k=1
  .rw[if_pos h1]at hk;simp(disch:=try exact Y)only[Wz,bz h1,Oa,g1];refine qW x.m ?_;cases hkn:kn x.m with
   |false=>rw[hkn]at hk;simp(disch:=try exact Y)only[Wz];exact hk
   |true=>
    rw[hkn,Bool.true_and]at hk;simp(disch:=try exact Y)only[Wz,g1];by_cases hm:x.m=0
    .rw[bf (λh=>h hm)]at hk;simp(disch:=try exact Y)only[Wz,bz hm];exact hk
    .rw[bz hm,Bool.true_and]at hk;simp(disch:=try exact Y)only[Wz,bf hm,g1,U7];exact hk
  .rw[if_neg h1]at hk;simp(disch:=try exact Y)only[Wz,bf h1,Ob,g1];by_cases h3:x.k=3
   .rw[if_pos h3]at hk;simp(disch:=try exact Y)only[Wz,bz h3,g1];simpa using hk
   .rw[if_neg h3]at hk;simp(disch:=try exact Y)only[Wz,bf h3,g1];exact hk
end
section
variable {h:af}{A:WA}{a:TA}{N:Nat}{d:TD}{R:RD}
theorem ye(f:Fn)(a b:Array Value):(Value.cells (.func f a b)).toList=[.func f a b]:=id rfl
theorem FI{wb:Nat}(c:CR)(g:h.bl.get c.ca=some (cF wb c))(hlo:h.lo<=c.ca)(ph:Nat)(f:FuncId)(hf:aa0 ph=f)(V:KQ)(hk:V (.tuple ⟨[]⟩) ⟨h.nx,h.bl.a_ c.ca (cF wb { c with ph:=ph }),h.lo⟩):av prog 57 [UV c.ca,X8 (ph:Int),.func (.func f) ⟨[UV c.ca]⟩ ⟨[]⟩] h V:=by
 subst hf;apply X9;rw[aaE];unfold cF at g hk;simp(disch:=try exact Y)only[Wz,aN,g,yZ,ye];exact hk
theorem b6(s:WS h A a N d R){i:Nat}{c:CR}(hi:R.cs[i]? = some (some c)):h.bl.get c.ca=some (cF A.wb c)/\c.ca<h.nx/\h.lo<=c.ca:=by
 obtain⟨k1,k2,k3⟩:=s.r.ca c (List.mem_of_getElem? hi);exact⟨k3,k1,k2⟩
theorem oT(s:WS h A a N d R){i k:Nat}{c:CR}(hi:R.cs[i]? = some (some c)){nb:Int}(hb:R.bits[i]? = some nb)(hst:c.st=(k:Int)){o:Option (Nat × Int)}(hl:R.eO[k]? = some o)(V:KQ)(hk:V (.bool (!decide ((c.ph:Int)=1) || !o.isSome)) h)(hz:QA nb 1=0:=by decide):av prog 64 [UV A.wb,X8 (i:Int)] h V:=by
 have gw:=s.r.gw;obtain⟨gc,_⟩:=b6 s hi;have hli:=s.r.li;apply X9;rw[aj_];refine ama s hi _ ?_;simp(disch:=try exact Y)only[Wz,YR,Option.map_some,Option.isNone_some];simp(disch:=try exact Y)only[Wz,aN,gw];refine U4 (by rw[hli];exact s.r.gp) s.r.gi hb _ ?_;simp(disch:=try exact Y)only[Wz,bz hz,Od,aN,gw,dF,gc,cF,hst];refine Qz s.r.gl s.r.gh hl (λp e=>by subst e;exact(s.r.ho p (List.mem_of_getElem? hl)).2) _ ?_;intro x;simp(disch:=try exact Y)only[Wz,aN,gc,cF];by_cases h1:(c.ph:Int)=1
 .rw[bz h1]at hk;simp(disch:=try exact Y)only[Wz,bz h1];exact hk
 .rw[bf h1]at hk;simp(disch:=try exact Y)only[Wz,bf h1];exact hk
end
end Go.Proofs
