/-
  PROVED HERE: a part of the proof (SO, K32, K33, K34, K35, K36, K37, K38, K39, K40, L5, L6, L8, K44, L9, L10, L11, L12, L13, L14, L15, L16, L17, L18, VaiB, U1, U2, U3, U4, U5, U6, U7, U8, U9, U10, U11, U12, U13, N1, N2, N3, S1, S2, S3, S4, S5, S7, S8, S9, S10).
-/
import Derived.Test.YtmllggkhfmjpgaaGreatDoorG3
import Derived.Shelf.SlSortCmp.WholeK
import Derived.Shelf.SlSortCmp.NoneTotal
import Derived.Test.YtmllggkhfmjpgaaGreatDoorG5
import Derived.Test.YtmllggkhfmjpgaaGreatDoorSRT
import Derived.Test.YtmllggkhfmjpgaaGreatDoorG2
import Derived.Deep.DeepFit
import Derived.Test.YtmllggkhfmjpgaaGreatDoorRZ
set_option linter.unusedVariables false
set_option linter.unusedSimpArgs false
set_option maxRecDepth 100000
set_option maxHeartbeats 4000000
namespace Go.Vai
open Go Go.Sort
section
variable {α β κt:Type}[Inhabited α]{P:Program}{φ:ee}
theorem F2.VO{γ δ:Type}{R:γ->δ->Prop}{m m':List δ}(p:m'.Perm m):∀{l:List γ},F2 R l m->∃l',l'.Perm l/\F2 R l' m':=by
 induction p with
 |nil=>intro l h;cases h;exact⟨[],.nil,.nil⟩
 |cons x p ih=>
  intro l h;cases h with
  |cons h t=>obtain⟨l',p',h'⟩:=ih t;exact⟨_,p'.cons _,.cons h h'⟩
 |swap x y l0=>
  intro l h;cases h with
  |cons h1 t=>cases t with|cons h2 t=>exact⟨_,List.Perm.swap ..,.cons h2 (.cons h1 t)⟩
 |trans p q ihp ihq=>
  intro l h;obtain⟨l1,p1,h1⟩:=ihq h;obtain⟨l2,p2,h2⟩:=ihp h1;exact⟨l2,p2.trans p1,h2⟩
theorem F2.flat{γ δ:Type}{R:Value->Value->Prop}{f:γ->List Value}{g:δ->List Value}{l:List γ}{m:List δ}(h:F2 (λx y=>F2 R (f x) (g y)) l m):F2 R (l.flatMap f) (m.flatMap g):=by
 induction h with
 |nil=>exact .nil
 |cons hr _ ih=>simp only[List.flatMap_cons];exact hr.append ih
omit [Inhabited α] in
theorem acT{k:Nat}{enc:α->List Value}{dm:β->List Value}(hA:∀x,(dm x).length=k){kA:β->κt}{kC:α->κt}(Je:∀(x:β)(cs:List Value),F2 (VR φ) (dm x) cs->∃y:α,cs=enc y/\kA x=kC y):∀(L:List β)(C:List Value),F2 (VR φ) (L.flatMap dm) C->∃ys:List α,C=ys.flatMap enc/\F2 (λx y=>F2 (VR φ) (dm x) (enc y)/\kA x=kC y) L ys:=by
 intro L
 induction L with
 |nil=>intro C h;cases h;exact⟨[],rfl,.nil⟩
 |cons x L ih=>
  intro C h;rw[List.flatMap_cons]at h;have h1:=h.take k;have h2:=h.drop k;have e1:(dm x++L.flatMap dm).take k=dm x:=by rw[<-hA x,List.take_left]
  have e2:(dm x++L.flatMap dm).drop k=L.flatMap dm:=by rw[<-hA x,List.drop_left]
  rw[e1]at h1;rw[e2]at h2;obtain⟨y,hy,hk⟩:=Je x _ h1;obtain⟨ys,hys,hr⟩:=ih _ h2;refine⟨y::ys,?_,.cons ⟨hy▸h1,hk⟩ hr⟩;rw[List.flatMap_cons,<-hy,<-hys,List.take_append_drop]
theorem AO{k:Nat}(k0:0<k){enc:α->List Value}(hk:∀x,(enc x).length=k)(ys:List α):(Sort.flatK enc k ys.toArray).toList=ys.flatMap enc:=by
 refine List.ext_getElem? λt=>?_;have hl:=bu hk ys;by_cases ht:t<ys.length*k
 .have hd:t / k<ys.length:=(Nat.div_lt_iff_lt_mul k0).2 ht;have hm:t % k<k:=Nat.mod_lt _ k0;have e:=jT hk (K:=ys) (i:=t / k) (j:=t % k) (List.getElem?_eq_getElem hd) hm;rw[Nat.div_add_mod' t k]at e;rw[e,Array.getElem?_toList];have hs:t<(Sort.flatK enc k ys.toArray).size:=by simpa using ht
  rw[Array.getElem?_eq_getElem hs];have:=Sort.get_flatK enc k ys.toArray t (by simpa using ht);rw[getElem!_pos _ t hs]at this;rw[this];have hd':t / k<ys.toArray.size:=by simpa using hd
  have a1:ys.toArray[t / k]! = ys[t / k]:=by rw[getElem!_pos ys.toArray (t / k) hd'];simp
  have hm':t % k<(enc ys[t / k]).length:=by rw[hk];exact hm
  rw[a1,getElem!_pos (enc ys[t / k]) (t % k) hm',List.getElem?_eq_getElem hm']
 .have rM:(Sort.flatK enc k ys.toArray).toList.length=ys.length*k:=by simp
  rw[List.getElem?_eq_none (by rw[rM];omega),List.getElem?_eq_none (by rw[hl];omega)]
theorem HR.grown{h:Heap}{w:World}(hr:HR P φ h w)(os:Array Obj):HR P φ h (grow w os):=by
 refine⟨λb o pl h1 h2=>?_,λb pl h=>?_,hr.keys,hr.Pb,hr.inj,hr.lo⟩
 .have:=hr.dom b pl h2
  show OR P φ o pl (w.heap++os)[pl.B]?
  rw[Array.getElem?_append_left this.2];exact hr.obj b o pl h1 h2
 .have:=hr.dom b pl h;refine⟨this.1,?_⟩
  show pl.B<(w.heap++os).size
  rw[Array.size_append];omega
theorem Ext.grown{φ':ee}{h h':Heap}{w w':World}(hx:Ext φ φ' h h' w w')(os:Array Obj):Ext φ φ' h h' w (grow w' os):=by
 have hs:=hx.size;have key:∀B,B<w.heap.size->(grow w' os).heap[B]? = w'.heap[B]?:=λB hB=>by
  show(w'.heap++os)[B]? = _
  rw[Array.getElem?_append_left (by omega)]
 refine⟨hx.sub,hx.new,hx.nx,?_,λB hB hn=>(key B hB).trans (hx.Bs B hB hn),hx.B9,hx.tape,hx.os,hx.output,λ_ _=>trivial,hx.lo,hx.IB,λb o pl h1 h2 h3 h4 h5=>(key _ h5).trans (hx.IC b o pl h1 h2 h3 h4 h5),hx.dr⟩
 show _<=(w'.heap++os).size
 rw[Array.size_append];omega
theorem VR.NL{b n:Nat}{v':Value}(h:VR φ (.slice (some ⟨b,0,none⟩) n aS) v'):∃pl c,φ b=some pl/\v'=.slice (some ⟨pl.B,0,none⟩) n c:=by
 generalize ID:aS=cc at h;cases h with
 |slice hp hn hc=>subst ID;exact absurd hc (Nat.lt_irrefl _)
 |bT hp hn hc=>exact⟨_,_,hp,rfl⟩
 |cU=>exact absurd ID (by decide)
theorem VR.an8{g:Nat}{v':Value}(h:VR φ (.func (.func g) #[] #[]) v'):v'=.func (.func g) #[] #[]:=by
 cases h with
 |func fn a a' b b' hal hbl _ _=>
  have ea:a'=#[]:=by
   have:a'.toList.length=0:=hal.symm;exact Array.eq_empty_of_size_eq_zero (by simpa using this)
  have eb:b'=#[]:=by
   have:b'.toList.length=0:=hbl.symm;exact Array.eq_empty_of_size_eq_zero (by simpa using this)
  rw[ea,eb]
theorem Me{f g:FuncId}{k:Nat}(k0:0<k){enc:α->List Value}{dm:β->List Value}(hk:∀x,(enc x).length=k)(hA:∀x,(dm x).length=k){kA:β->κt}{kC:α->κt}{lt:κt->κt->Bool}(Je:∀(φ:ee)(x:β)(cs:List Value),F2 (VR φ) (dm x) cs->∃y:α,cs=enc y/\kA x=kC y)(enters:∀args w,(callFunc f args).run P w=.ok (.enter f args) w)(law:∀(blk cap:Nat)(d:Array α)(w:World),HoldsK enc k w blk 0 d->blk<w.heap.size->d.size<4611686018427387904->
   Calls P f #[.slice (some ⟨blk,0,none⟩) d.size cap,.func (.func g) #[] #[]] w λe w'=>e=.returned (.tuple #[])/\∃d' n os,PermIn 0 d.size d d'/\SortedIn (λx y=>lt (kC x) (kC y)) 0 d.size d'/\w'=Go.Proofs.sortWorldK enc k w blk 0 n d' os){h:Heap}{b:Nat}{L:List β}{ty:TypeId}{op:Bool}(hb:h.bl.get b=some (aa (L.flatMap dm) ty op))(hlo:h.lo<=b)(um:L.length<=1000000){V:KQ}(hκ:∀D:List β,D.Perm L->D.Pairwise (λx y=>lt (kA y) (kA x)=false)->V (.tuple #[]) ⟨h.nx,h.bl.aV b (aa (D.flatMap dm) ty op),h.lo⟩):CallW P f [.slice (some ⟨b,0,none⟩) L.length aS,.func (.func g) #[] #[]] h V:=by
 intro φ w args' ha hr;cases ha with|cons hs ha=>
 cases ha with|cons hf ha=>
 cases ha;obtain⟨pl,c,hp,rfl⟩:=hs.NL;obtain rfl:=hf.an8;have hb':=hb;unfold aa at hb';obtain⟨C,hC,xL,hn2,hop,hcell⟩:=hr.rowAt hb' hp;have hlen:=bu hA L;rw[hlen]at xL hn2 hcell;have hF:F2 (VR φ) (L.flatMap dm) (C.toList.take (L.length*k)):=by
  have hCl:C.toList.length=C.size:=by simp
  refine F2.mz (by rw[hlen,List.length_take];omega) λj v v' e1 e2=>?_;have hj:j<L.length*k:=by rw[<-hlen];exact(List.getElem?_eq_some_iff.mp e1).1
  obtain⟨v2,h2,h3⟩:=hcell j v (by rw[oK];exact e1) hj;rw[List.getElem?_take_of_lt hj,Array.getElem?_toList,h2]at e2;cases e2;exact h3
 obtain⟨ys,hys,hR⟩:=acT hA (Je φ) L _ hF;have hyl:ys.length=L.length:=hR.length.symm;have hH:HoldsK enc k w pl.B 0 ys.toArray:=by
  intro j hj;have hfl:=AO k0 hk ys;rw[<-hys]at hfl;have hj':j<L.length*k:=by simpa[hyl]using hj
  have hjs:j<(Sort.flatK enc k ys.toArray).size:=hj;have e1:(Sort.flatK enc k ys.toArray)[j]? = C[j]?:=by
   rw[<-Array.getElem?_toList,hfl,List.getElem?_take_of_lt hj',Array.getElem?_toList]
  rw[getElem!_pos _ j hjs];rw[Array.getElem?_eq_getElem hjs,Array.getElem?_eq_getElem (by omega)]at e1;have e2:=Option.some.inj e1;constructor
  .show w.cell? ⟨pl.B,0+j,none⟩=some (Sort.flatK enc k ys.toArray)[j]
   rw[e2,Nat.zero_add];simp[World.cell?,hC,show j<C.size by omega]
  .simp[World.frozen?,hC]
 have hdom:=hr.dom b pl hp;have hd:=law pl.B c ys.toArray w hH hdom.2 (by rw[show ys.toArray.size=L.length by simpa using hyl];omega);rw[show ys.toArray.size=L.length by simpa using hyl]at hd;refine⟨enters _ _,hd.mono ?_⟩;rintro e w' ⟨rfl,d',n,os,aip,hsort,rfl⟩;obtain⟨hsz,_,xZ⟩:=aip;have hdl:d'.size=L.length:=by rw[hsz];simpa using hyl
 have xZ:d'.toList.Perm ys:=by
  have e1:d'.extract 0 L.length=d':=by rw[<-hdl];simp
  have e2:ys.toArray.extract 0 L.length=ys.toArray:=by rw[<-hyl];simp
  rw[e1,e2]at xZ;simpa using xZ
 obtain⟨D,hD,hRD⟩:=F2.VO xZ hR;have hDl:=hD.length_eq;have hpw:D.Pairwise (λx y=>lt (kA y) (kA x)=false):=by
  rw[List.pairwise_iff_getElem];intro i j hi hj hij;obtain⟨y1,q1,r1⟩:=hRD.get i _ (List.getElem?_eq_getElem hi);obtain⟨y2,q2,r2⟩:=hRD.get j _ (List.getElem?_eq_getElem hj);have:=hsort i j (Nat.zero_le _) hij (by omega);rw[Array.getElem?_toList]at q1 q2;obtain⟨s1,rfl⟩:=Array.getElem?_eq_some_iff.1 q1;obtain⟨s2,rfl⟩:=Array.getElem?_eq_some_iff.1 q2;rw[getElem!_pos _ i s1,getElem!_pos _ j s2]at this;rw[r1.2,r2.2];exact this
 obtain⟨w1,hw1⟩:∃w1,w1=putRowK enc k (Sort.ahead w n) pl.B 0 d':=⟨_,rfl⟩
 have hfd:(Sort.flatK enc k d').toList=d'.toList.flatMap enc:=by
  have:=AO k0 hk d'.toList;simpa using this
 have hheap:w1.heap=w.heap.modify pl.B (onCells (putCells id 0 (Sort.flatK enc k d'))):=by rw[hw1];rfl
 have hB:w1.heap[pl.B]? = some (.cells (putCells id 0 (Sort.flatK enc k d') C) ty (0,0)):=by
  rw[hheap,Array.getElem?_modify,if_pos rfl,hC];rfl
 have Ew:∀q,q≠pl.B->w1.heap[q]? = w.heap[q]?:=by
  intro q hq;rw[hheap,Array.getElem?_modify,if_neg (λe=>hq e.symm)]
 have RU:=bu hA D;have ho:OR P φ (aa (D.flatMap dm) ty op) pl w1.heap[pl.B]?:=by
  rw[hB];refine⟨rfl,rfl,?_,?_,?_,?_⟩
  .rw[RU,hDl];simpa[putCells]using xL
  .rw[RU,hDl];exact hn2
  .intro ho;obtain⟨a1,a2,a3⟩:=hop ho;exact⟨by simpa[putCells]using a1,a2,a3⟩
  .intro i v hv hi;rw[oK]at hv;rw[RU,hDl]at hi;have hFD:F2 (VR φ) (D.flatMap dm) (d'.toList.flatMap enc):=F2.flat (hRD.imp λa b r=>r.1);obtain⟨v',e1,e2⟩:=hFD.get i v hv;refine⟨v',?_,e2⟩;rw[<-hfd,Array.getElem?_toList]at e1;obtain⟨hs,e3⟩:=Array.getElem?_eq_some_iff.1 e1;have hiC:i<C.size:=by omega
   have hs':i<d'.size*k:=by simpa using hs
   unfold putCells;rw[Array.getElem?_mapIdx,Array.getElem?_eq_getElem hiC];simp only[Option.map_some,Nat.zero_le,true_and,Nat.zero_add,Nat.sub_zero];rw[if_pos hs,getElem!_pos _ i hs,e3];rfl
 have hts:=hr.Dc (w':=w1) hlo hp ⟨_,hb,trivial⟩ (by rw[hheap];simp) Ew ho (by rw[hw1];rfl) (by rw[hw1];rfl) (by rw[hw1];rfl) (.inl trivial) (by rw[hw1];exact Nat.le_add_right _ _);refine⟨φ,.tuple #[],.tuple #[],_,rfl,hκ D hD hpw,VR.tuple' .nil,?_,?_⟩
 .show HR P φ _ (grow (putRowK enc k (Sort.ahead w n) pl.B 0 d') os)
  rw[<-hw1];exact hts.1.grown os
 .show Ext φ φ h _ w (grow (putRowK enc k (Sort.ahead w n) pl.B 0 d') os)
  rw[<-hw1];exact hts.2.grown os
theorem NM{f g:FuncId}(enters:∀args w,(callFunc f args).run P w=.ok (.enter f args) w)(law:∀(p:Option Addr)(cap:Nat)(fv:Value)(w:World),Calls P f #[.slice p 0 cap,fv] w λe w'=>e=.returned (.tuple #[])/\w'=w){h:Heap}{v:Value}(hv:v=.slice none 0 0\/∃b o,v=.slice (some ⟨b,o,none⟩) 0 0){V:KQ}(hκ:V (.tuple #[]) h):CallW P f [v,.func (.func g) #[] #[]] h V:=by
 intro φ w args' ha hr;cases ha with|@cons _ v1 _ m1 hs ha=>
 cases ha with|@cons _ v2 _ m2 hf ha=>
 cases ha;obtain⟨p,cap,e1⟩:∃p cap,v1=.slice p 0 cap:=by
  rcases hv with rfl|⟨b,o,rfl⟩
  .cases hs with
   |fQ h=>exact⟨_,_,rfl⟩
  .cases hs with
   |slice h1 h2 h3=>exact⟨_,_,rfl⟩
 subst e1;refine⟨enters _ _,(law p cap v2 w).mono ?_⟩;rintro e w' ⟨rfl,rfl⟩;exact⟨φ,.tuple #[],.tuple #[],h,rfl,hκ,VR.tuple' .nil,hr,Ext.refl _ _ _⟩
theorem AP{f:FuncId}{args args':List Value}{v:Value}(hc:CallW P f args ⟨0,.nil,0⟩ λu _=>u=v)(ha:F2 (VR λ_=>none) args args')(hv:ot v=true)(W:World):Calls P f args'.toArray W λe w'=>e=.returned v/\∃q os',w'=grow (W.drewN q) os':=by
 refine Calls.mono (hc _ W args' ha (HR.start W)).2 ?_;rintro e w' ⟨φ',v1,v',h',rfl,g1,g2,g3,g4⟩;have e1:v1=v:=g1;subst e1;refine⟨by rw[pP hv g2],w'.drawn-W.drawn,w'.heap.extract W.heap.size w'.heap.size,?_⟩;have hd:=g4.dr;have hs:=g4.size;have hfr:∀B,B<W.heap.size->w'.heap[B]? = W.heap[B]?:=λB hB=>g4.Bs B hB λb pl e=>by cases e
 have hheap:w'.heap=W.heap++w'.heap.extract W.heap.size w'.heap.size:=by
  refine Array.ext_getElem? λi=>?_;by_cases hi:i<W.heap.size
  .rw[Array.getElem?_append_left hi,hfr i hi]
  .rw[Array.getElem?_append_right (by omega),Array.getElem?_extract];by_cases hi2:i<w'.heap.size
   .rw[if_pos (by omega)];congr 1;omega
   .rw[if_neg (by omega),Array.getElem?_eq_none (by omega)]
 have ht:=g4.tape;have ho:=g4.os;have hu:=g4.output;obtain⟨a1,a2,a3,a4,a5⟩:=w';obtain⟨b1,b2,b3,b4,b5⟩:=W;simp only[grow,World.drewN]at *
 rw[World.mk.injEq];exact⟨hheap,ht,by omega,ho,hu⟩
end
end Go.Vai

namespace Go.Proofs
open Go.Vai Go.Clashes
open Tryz (prog)
def aiq:Nat->Int|0=>0|1=>1|2=>2|3=>2|4=>3|5=>3|6=>3|7=>3|_=>4
theorem acV:∀n,n<13->bE prog 40 167 [.int .u64 (n:Nat)] (.int .i64 (aiq n))=true:=by
 intro n hn;have:(List.range 13).all (λn=>bE prog 40 167 [.int .u64 ((n:Nat):Int)] (.int .i64 (aiq n)))=true:=by kernel_rfl
 exact List.all_eq_true.1 this n (List.mem_range.2 hn)
theorem air(v fv:Value)(n:Nat)(hn:n<=12)(lim:Int)(h:Heap)(V:KQ)(hk:CallW prog 281 [v,.int .i64 0,.int .i64 (n:Int),fv] h λ_ h'=>V (.tuple ⟨[]⟩) h'):CallW prog 205 [v,.int .i64 0,.int .i64 (n:Int),.int .i64 lim,fv] h V:=by
 refine av mixed ?_;rw[aaV];refine⟨λm l h1=>slot l 127=.int .i64 0/\slot l 140=.int .i64 (n:Int)/\HQ h h1,⟨0,rfl,rfl,rfl⟩,?_⟩;rintro m l h1 ⟨s1,s2,hq⟩;cases(show h=h1 from hq);simp(disch:=try exact Y)only[Wz,F8,s1,s2];exact hk
theorem RX(v fv:Value)(h:Heap)(V:KQ)(hk:V (.tuple ⟨[]⟩) h):CallW prog 281 [v,.int .i64 0,.int .i64 0,fv] h V:=by
 refine av mixed ?_;rw[abp];simp(disch:=try exact Y)only[Wz];refine⟨λn l h1=>slot l 42=.int .i64 1/\HQ h h1,⟨0,rfl,rfl⟩,?_⟩;rintro n l h1 ⟨s1,hq⟩;cases(show h=h1 from hq);simp(disch:=try exact Y)only[Wz,s1];exact hk
section
variable {β:Type}{fl:β}
theorem RY(n:Int)(h:Heap)(V:Z7 β)(hn:0<=n/\n<=18446744073709551615):mu fl .u64 (.int .i64 n) h V=V (.int .u64 n) h:=by
 unfold mu;simp only[iF,eN];rw[IntWalk.u64_in _ hn]
end
theorem HF(b:Nat):(Value.cells (.map (some b))).toList=[.map (some b)]:=id rfl
def T9(x y:Int × Int):Int:=q9 x.1 x.2 y.1 y.2
theorem DS(x y:Int × Int):ltOf T9 x y=true<->Bp x y:=by
 show decide (q9 x.1 x.2 y.1 y.2<0)=true<->_
 rw[decide_eq_true_eq,RT]
theorem Mf{x y:Int × Int}:ltOf T9 x y=false<->¬Bp x y:=by
 rw[<-DS,Bool.not_eq_true]
theorem VP:Sort.SWO (ltOf T9) where
 irrefl x:=Mf.2 (by unfold Bp;omega)
 trans x y z h1 h2:=(DS _ _).2 (NK ((DS _ _).1 h1) ((DS _ _).1 h2))
 ntrans x y z h1 h2:=by
  rw[Mf]at *
  unfold Bp at *
  omega
theorem RZ(blk size:Nat)(w:World):Go.Proofs.CmpLays prog 96 #[] iI 2 T9 blk 0 size w:=by
 intro m os dk _ x y;exact AP (args:=[cV x.1 x.2,cV y.1 y.2]) (args':=[cV x.1 x.2,cV y.1 y.2]) (nM x.1 x.2 y.1 y.2 rfl)
  (.cons (VR.vF (.cons (.int _ _) (.cons (.int _ _) .nil))) (.cons (VR.vF (.cons (.int _ _) (.cons (.int _ _) .nil))) .nil)) rfl _
theorem JD(blk cap:Nat)(d:Array (Int × Int))(w:World)(hH:Sort.HoldsK iI 2 w blk 0 d)(hblk:blk<w.heap.size)(hsz:d.size<4611686018427387904):Calls prog 150 #[.slice (some ⟨blk,0,none⟩) d.size cap,.func (.func 96) #[] #[]] w λe w'=>e=.returned (.tuple #[])/\∃d' n os,Sort.PermIn 0 d.size d d'/\Sort.SortedIn (λx y=>ltOf T9 x y) 0 d.size d'/\w'=Go.Proofs.sortWorldK iI 2 w blk 0 n d' os:=by
 have eg:∀args w,(callFunc 96 args).run prog w=.ok (.enter 96 args) w:=enters_of Tryz.func96 (by kernel_rfl) rfl;exact Go.Proofs.AnyQ.slices_SortFunc Tryz.acS 2 Tryz.isAgg28 Tryz.sizeOf28 iI (λ_=>rfl) (λx v hv=>by simp[iI]at hv;rcases hv with rfl|rfl<;>rfl) T9 VP 96 #[] blk 0 cap d w eg (RZ blk d.size w) hH hblk hsz
theorem JE:∀args w,(callFunc 150 args).run prog w=.ok (.enter 150 args) w:=enters_of Tryz.func150 (by kernel_rfl) rfl
theorem aob(φ:ee)(x:Int × Int)(cs:List Value)(h:F2 (VR φ) (iI x) cs):∃y:Int × Int,cs=iI y/\x=y:=by
 unfold iI at h;cases h with|cons h1 h=>
 cases h with|cons h2 h=>
 cases h;cases h1;cases h2;exact⟨x,rfl,rfl⟩
theorem Mg(a h:Heap)(L:List (Int × Int))(v:Value)(V:KQ)(ho:pY a h v L)(hle:Le a h)(hlo:h.lo<=h.nx)(hl:L.length<=1000000)(hd:L.Nodup)(hk:∀(D:List (Int × Int)) h',D.Perm L->D.Pairwise Bp->pY a h' v D->Le a h'->V (.tuple ⟨[]⟩) h'):CallW prog 150 [v,.func (.func 96) #[] #[]] h V:=by
 rcases ho with⟨rfl,hv⟩|⟨b,hv,h1,h2,h3,h4⟩
 .obtain⟨x,c,rfl,_⟩:=(show Sl iI h v []from(show pY a h v []from .inl ⟨rfl,hv⟩).sl)
  refine av mixed ?_;rw[aal];simp(disch:=try exact Y)only[Wz,RY];refine rH mixed (acV 0 (by omega)) ?_;refine air _ _ 0 (by omega) _ h _ ?_;refine RX _ _ h _ ?_;exact hk [] h (List.Perm.refl _) List.Pairwise.nil (.inl ⟨rfl,hv⟩) hle
 ·cases hv;refine Me (by decide) (enc:=iI) (dm:=iI) mO mO (kA:=id) (kC:=id) (lt:=λx y=>ltOf T9 x y) aob JE JD h4 h3 hl ?_;intro D hp hs;have hs2:D.Pairwise Bp:=by
   have hnd:D.Nodup:=(hp.nodup_iff).2 hd;refine(hnd.and hs).imp ?_;rintro x y ⟨hne,hlt⟩;exact Md (λe=>hne e.symm) (Mf.1 hlt)
  refine hk D _ hp hs2 (.inr ⟨b,by rw[hp.length_eq],h1,h2,h3,T.ah _ _ _⟩) ⟨hle.nx,hle.lo,λc hc=>?_⟩;exact(T.aj _ _ (by omega)).trans (hle.get c hc)
theorem VS{h:Heap}{bb bm bp bl most:Nat}{M:List HE}{clock:Nat}{F:List Int}{B:List Bool}(s:bq h bb bm bp bl most M clock F B)(hlo:h.lo<=h.nx)(hM:M.length<=1000)(V:KQ)(hk:∀v h' (D:List (Int × Int)),D.Perm (M.map cT)->D.Pairwise Bp->pY h h' v D->Le h h'->V v h'):CallW prog 164 [.pointer (some ⟨bb,0,none⟩)] h V:=by
 refine av mixed ?_;rw[aau];have gb:=s.iO;simp(disch:=try exact Y)only[Wz,aG,gb];refine av mixed ?_;rw[aa6];simp(disch:=try exact Y)only[Wz,HF];obtain⟨hA,aT,aL,gc,dy,dz⟩:=kf h (aa [.map (some bm)] 265 false);rw[<-aT];clear aT;have sA:=s.le aL;refine av mixed ?_;rw[X9];refine av mixed ?_;rw[Q4];have hlm:=s.kO;refine HA M clock bm h.nx hA s.ok sA.gu (by omega) gc (by omega) (by omega) (by omega) _ ?_;intro v h2 L hp ho bt;have n2:=bt.nx;have l2:=bt.lo;have hnd:(L.map cT).Nodup:=by
  refine((hp.map cT).nodup_iff).2 ?_;rw[List.Nodup,List.pairwise_map];exact s.ok.nm.imp λhn e=>hn ⟨congrArg Prod.fst e,congrArg Prod.snd e⟩
 have hll:=hp.length_eq;refine Mg hA h2 (L.map cT) v _ ho bt (by omega) (by rw[List.length_map];omega) hnd ?_;intro D h3 Ym hs r7 dg;exact hk v h3 D (Ym.trans (hp.map cT)) hs (fC.base r7 (by omega)) (aL.trans dg)
theorem NN{β:Type}{fl:β}{M:List HE}{clock:Nat}{h:Heap}{bm:Nat}(o:dw M clock)(g:h.bl.get bm=some (.map (M.map mN) clock)){e:HE}(he:e∈M)(V:Z7 β):cr fl prog 28 (.pointer none) false (.map (some bm)) (cV e.t e.r) h V=V (.pointer (some ⟨e.hb,0,none⟩)) h:=by
 unfold cr ij;rw[DP];simp only[g];rcases Ht h e.t e.r M 0 with⟨g1,g2⟩|⟨j,e',g1,g2,g3,g4⟩
 .exact absurd ⟨rfl,rfl⟩ (g2 e he)
 .rw[g1];rw[o.uniq he (List.mem_of_getElem? g2) g3 g4];rfl
def slV(v:Value):Value:=match v with | .slice a n c=>.slice a n c|_=>.slice none 0 0
def tH(e:HE):List Value:=[.int .i64 e.t,.int .i64 e.r,slV e.q,.int .i64 e.w]
theorem uR(e:HE):(tH e).length=4:=rfl
theorem HG(e:HE):(tH e).all dJ=true:=by
 unfold tH slV;split<;>rfl
theorem acX{h:Heap}{q:Value}{Q:List R5}(hq:Sl bH h q Q):slV q=q:=by
 obtain⟨x,c,rfl,_⟩:=hq;rfl
abbrev R3(a h:Heap)(v:Value)(K:List HE):Prop:=fC tH a 55 h v K
def Mh(a b:HE):Prop:=a.t=b.t/\a.r=b.r/\a.w=b.w/\a.Q=b.Q
theorem NO{h:Heap}{bb bm bp bl most:Nat}{M:List HE}{clock:Nat}{F:List Int}{B:List Bool}(s:bq h bb bm bp bl most M clock F B)(hlo:h.lo<=h.nx)(hM:M.length<=1000)(V:KQ)(hk:∀v h' (K:List HE),K.length=M.length->(K.map cT).Perm (M.map cT)->(K.map cT).Pairwise Bp->(∀k∈K,(∃e∈M,Mh k e)/\QV h' k.q k.Q)->R3 h h' v K->Le h h'->V v h'):CallW prog 109 [.pointer (some ⟨bb,0,none⟩)] h V:=by
 refine av mixed ?_;rw[ZS];simp(disch:=try exact Y)only[Wz,iP,Fu];refine VS s hlo hM _ ?_;intro v1 h1 D hp hs Ut bG;have hlD:D.length=M.length:=by rw[hp.length_eq,List.length_map]
 obtain⟨x1,c1,rfl,_⟩:=(show Sl iI h1 v1 D from Ut.sl)
 have n1:=bG.nx;have l1:=bG.lo;simp(disch:=try exact Y)only[Wz];refine⟨λm l h2=>∃(i:Nat)(K:List HE),slot l 23=.int .i64 (i:Int)/\m=D.length-i/\i<=D.length/\K.map cT=D.take i/\(∀k∈K,(∃e∈M,Mh k e)/\QV h2 k.q k.Q)/\R3 h1 h2 (slot l 21) K/\Le h1 h2,
  ⟨_,0,[],rfl,rfl,by omega,by simp,λk hk=>(nomatch hk),.inl ⟨rfl,.inl rfl⟩,Le.refl _⟩,?_⟩
 rintro m l h2 ⟨i,K,s1,rfl,hi,hK,hQ,hoK,bt⟩;have n2:=bt.nx;have l2:=bt.lo;have hKl:K.length=i:=by have:=congrArg List.length hK;simp at this;omega
 by_cases hst:i<D.length
 .obtain⟨p,hpi⟩:∃p,D[i]? = some p:=⟨_,List.getElem?_eq_getElem hst⟩
  have Ym:p∈M.map cT:=hp.mem_iff.1 (List.mem_of_getElem? hpi);obtain⟨e,he,rfl⟩:=List.mem_map.1 Ym;have s2:=s.le (bG.trans bt);have gb:=s2.iO;have gm:=s2.gu;have atC:=s2.tE;have H:=s2.aW e he;have hlt:=H.lt;have hgd:=s2.good e he;obtain⟨qx,qc,eq,_⟩:=(show Sl bH h2 e.q e.Q from H.qv.1)
  have gh:=H.get;rw[eq]at gh;obtain⟨b1,o1,hb1,VN,_,Za⟩:=(Ut.sl.le bt).ld mO i hpi;have r1:=λ(β:Type)(fl:β) V=>pQ (fl:=fl) Za 2 V rfl;have aoc:=s2.kO;have gmB:=(((Le.refl h2).new (aa [.int .i64 e.t,.int .i64 e.r] 28 false)).get _ aoc).trans gm;have eL:=NN (β:=Option Value) (fl:=none) s2.ok gmB he;unfold cV at eL;simp(disch:=try exact Y)only[Wz,s1,fV (show(i:Int)<(D.length:Int)by omega),Ft,VN,r1,iI,cT,aG,gb,gh,eL];obtain⟨hB,gI,bV,gn,gd,BN,BO⟩:=BF h2 (aa [.int .i64 e.t,.int .i64 e.r] 28 false) (fZ e.t e.r (.slice qx e.Q.length qc) e.w);rw[<-gI];clear gI;have hqB:Sl bH hB (.slice qx e.Q.length qc) e.Q:=by rw[<-eq];exact H.qv.1.le bV
  have um:=hgd.small;refine Hh e.Q hB _ _ hqB (by omega) (by omega) ?_;intro q3 h3 r7 dg;have n3:=dg.nx;have l3:=dg.lo;have gd:=dg.up gd;obtain⟨Ho,Hp,rfl,_⟩:=(show Sl bH h3 q3 e.Q from r7.sl)
  simp(disch:=try exact Y)only[Wz,gd];obtain⟨h4,e4⟩:∃h4:Heap,h4=⟨h3.nx+1,(h3.bl.aV (h2.nx+1) (fZ e.t e.r (.slice Ho e.Q.length Hp) e.w)).aV h3.nx (fZ e.t e.r (.slice Ho e.Q.length Hp) e.w),h3.lo⟩:=⟨_,rfl⟩
  have iS:Le h2 h4:=by rw[e4];exact((bV.trans dg).set (b:=h2.nx+1) (by omega) _).new _
  have g4:h4.bl.get h3.nx=some (aa ([(⟨e.t,e.r,0,0,.slice Ho e.Q.length Hp,e.w,e.Q⟩:HE)].flatMap tH) 55 false):=by rw[e4];exact T.ah _ _ _
  have n4:h4.nx=h3.nx+1:=by rw[e4]
  have l4:h4.lo=h3.lo:=by rw[e4]
  have hq4:QV h4 (.slice Ho e.Q.length Hp) e.Q:=by
   rw[e4];exact((QV.own r7).put (λvs op=>by rw[gd];exact bz (by decide)) _).le ((Le.refl _).new _)
  try rw[<-e4]
  clear e4;refine jk (enc:=tH) (a:=h1) (L:=K) (M:=[(⟨e.t,e.r,0,0,.slice Ho e.Q.length Hp,e.w,e.Q⟩:HE)]) uR HG (by decide) (by decide) (hoK.le iS) (Sl.new (by omega) g4 _) (bt.trans iS) (by simp;omega) (by omega) _ ?_;intro v5 h5 tC vw _ n5 l5 AQ;have NG:∀c vs op,c<h4.nx->h4.bl.get c=some (aa vs 57 op)->h5.bl.get c=h4.bl.get c:=λc vs op hc hg=>AQ c hc (by rw[hg];exact bz (by decide));refine⟨_,by omega,i+1,K++[⟨e.t,e.r,0,0,.slice Ho e.Q.length Hp,e.w,e.Q⟩],by simp,rfl,by omega,?_,?_,tC,?_⟩
  .rw[List.map_append,hK,List.take_add_one,hpi];rfl
  .intro k hk';rcases List.mem_append.1 hk' with hk'|hk'
   .exact⟨(hQ k hk').1,((hQ k hk').2.le iS).frame n5 NG⟩
   .rw[List.mem_singleton]at hk';subst hk';exact⟨⟨e,he,rfl,rfl,rfl,rfl⟩,hq4.frame n5 NG⟩
  .exact vw
 .simp(disch:=try exact Y)only[Wz,s1,dL (show(D.length:Int)<=(i:Int)by omega)];have hiD:i=D.length:=by omega
  subst hiD;rw[List.take_length]at hK;exact hk _ h2 K (by omega) (hK▸hp) (hK▸hs) hQ (fC.base hoK (by omega)) (bG.trans bt)
theorem fq.sub{M M':List HE}{t r w:Int}{Q:List R5}(s:fq M M' t r w Q):∀x∈M',x∈M\/(x.t=t/\x.r=r/\x.w=w/\x.Q=Q):=by
 intro x hx;by_cases h0:Q=[]
 .rw[s.gone h0]at hx;exact .inl (List.mem_filter.1 hx).1
 .obtain⟨e,h1,h2,h3,h4,hp⟩:=s.put h0;rcases List.mem_append.1 (hp.mem_iff.1 hx)with hx|hx
  .exact .inl (List.mem_filter.1 hx).1
  .rw[List.mem_singleton]at hx;subst hx;exact .inr ⟨h1,h2,h3,h4⟩
theorem fq.len{M M':List HE}{t r w:Int}{Q:List R5}(s:fq M M' t r w Q):M'.length<=(M.filter λx=>!jX t r x).length+1:=by
 by_cases h0:Q=[]
 .rw[s.gone h0];omega
 .obtain⟨e,_,_,_,_,hp⟩:=s.put h0;rw[hp.length_eq];simp
theorem fq.wb{M M':List HE}{t r w:Int}{Q:List R5}{N:Nat}(s:fq M M' t r w Q)(hw:∀e∈M,e.w<=N)(h:w<=N+1):∀e∈M',e.w<=(N+1:Nat):=by
 intro e he;rcases s.sub e he with h1|⟨_,_,h1,_⟩
 .have:=hw e h1;omega
 .omega
theorem Mi{M:List HE}{clock:Nat}(o:dw M clock){e:HE}(he:e∈M):(M.filter λx=>!jX e.t e.r x).length+1=M.length:=by
 have:=(rR o he).length_eq;rw[this];simp
theorem acY(Q:List R5)(W id x m:Int):(kT Q W id x m).2.1<=W+1:=by unfold kT;split<;>simp<;>omega
theorem acZ(Q:List R5)(W:Int)(r:R5)(m:Int):(jL Q W r m).2.1<=W+1:=by unfold jL;split<;>simp<;>omega
theorem VT(Q:List R5)(W:Int)(r:R5)(m:Int):(jL Q W r m).1.id=r.id:=by unfold jL;split<;>rfl
theorem uS{Q:List R5}{i:Nat}{p p':R5}(hi:Q[i]? = some p)(h:p'.id=p.id):(Q.set i p').map (·.id)=Q.map (·.id):=by
 obtain⟨hl,rfl⟩:=List.getElem?_eq_some_iff.1 hi;rw[List.map_set,h];refine List.ext_getElem? λk=>?_;rw[List.getElem?_set];split
 .rename_i e;subst e;simp[hl]
 .rfl
section
variable {h h':Heap}{bb bm bp bl most cap N:Nat}{M M':List HE}{clock clock':Nat}{F F':List Int}{B B':List Bool}
theorem JF{Q:List R5}{W:Int}(v:VQ Q W){p:R5}{id:Int}(hf:cq Q id=some p):(Q.map (·.id)).Perm ((Q.filter λr=>!cC id r).map (·.id)++[id]):=by
 obtain⟨hp,rfl⟩:=jV hf;have hnd:(Q.map (·.id)).Nodup:=by
  rw[List.Nodup,List.pairwise_map];exact v.pair.imp λhb=>hb.id
 have aod:((Q.filter λr=>!cC p.id r).map (·.id)).Nodup:=hnd.sublist (List.filter_sublist.map _);refine(List.perm_ext_iff_of_nodup hnd (AF aod λhm=>?_)).2 λx=>?_
 .obtain⟨q,hq,e⟩:=List.mem_map.1 hm;have:=(List.mem_filter.1 hq).2;simp[cC,e]at this
 .rw[List.mem_append,List.mem_singleton,List.mem_map,List.mem_map];constructor
  .rintro⟨q,hq,rfl⟩;by_cases hqp:q.id=p.id
   .exact .inr hqp
   .exact .inl ⟨q,List.mem_filter.2 ⟨hq,by simp[cC,hqp]⟩,rfl⟩
  .rintro(⟨q,hq,rfl⟩|rfl)
   .exact⟨q,(List.mem_filter.1 hq).1,rfl⟩
   .exact⟨p,hp,rfl⟩
end
theorem R4(b:Nat)(n:Int)(p:Addr)(V:List Value->Prop):bg False [(2,1)] [.map (some b)] [.int .i64 n,.pointer (some p),.map none] V=V [.int .i64 n,.pointer (some p),.map (some b)]:=by kernel_rfl
theorem HH(aW:Nat)(bp:Nat)(h:Heap)(V:KQ)(hh:1<=aW/\aW<=64)(hlo:h.lo<=h.nx)(hk:∀h',Le h h'->h'.nx=h.nx+2->h'.bl.get h.nx=some (.map [] 0)->h'.bl.get (h.nx+1)=some (aa [.int .i64 (aW:Int),.pointer (some ⟨bp,0,none⟩),.map (some h.nx)] 267 false)->V (.tuple ⟨[.pointer (some ⟨h.nx+1,0,none⟩),.int .i64 0]⟩) h'):CallW prog 153 [.int .i64 (aW:Int),.pointer (some ⟨bp,0,none⟩)] h V:=by
 refine av mixed ?_;rw[Q6];simp(disch:=try exact Y)only[Wz,dL (show(1:Int)<=(aW:Int)by omega),dL (show(aW:Int)<=64 by omega),DN,fI,R4];exact hk _ (((Le.refl h).new _).new _) rfl ((T.aj _ _ (by omega)).trans (T.ah _ _ _)) (T.ah _ _ _)
structure Act where
 k:Int
 t:Int
 r:Int
 id:Int
 x:Int
 m:Int
def dm(a:Act):List Value:=[.int .i64 a.k,.int .i64 a.t,.int .i64 a.r,.int .i64 a.id,.int .i64 a.x,.int .i64 a.m]
theorem rS{β:Type}{fl:β}(cn:Bool)(a b c d:Int)(h:Heap)(V:Z7 β):ay fl prog .eql 28 cn false (.agg ⟨[.int .i64 a,.int .i64 b]⟩) (.agg ⟨[.int .i64 c,.int .i64 d]⟩) h V=V (.bool (decide (a=c/\b=d))) h:=by
 have:=eqN h a b c d;unfold cV at this;simp only[ay,this,bK]
section
variable {M M' K:List HE}{clock:Nat}
end
end Go.Proofs

namespace Go.Vai
theorem fC.keep{α:Type}{enc:α->List Value}{a h h':Heap}{e:TypeId}{v:Value}{L:List α}(ho:fC enc a e h v L)(hn:h.nx<=h'.nx)(hl:h'.lo=h.lo)(hg:∀b vs,b<h.nx->h.bl.get b=some (aa vs e true)->h'.bl.get b=h.bl.get b):fC enc a e h' v L:=by
 rcases ho with h0|⟨b,h1,h2,h3,h4,h5⟩
 .exact .inl h0
 .exact .inr ⟨b,h1,h2,Nat.lt_of_lt_of_le h3 hn,by rw[hl];exact h4,(hg b _ h3 h5).trans h5⟩
end Go.Vai
namespace Go.Proofs
open Go.Vai Go.Clashes
open Tryz (prog)
section
variable {a h:Heap}{bb bm bp bl most cap N:Nat}{M:List HE}{clock:Nat}{F:List Int}{B:List Bool}{rb rp rl:Nat}{v:Value}{K:List HE}
end
theorem aoe{h:Heap}{v:Value}{K:List HE}(hs:Sl tH h v K)(i:Nat){e:HE}(hp:K[i]? = some e)(hq:slV e.q=e.q):∃b o,b<h.nx/\(∀(β:Type)(fl:β)(h':Heap)(V:Z7 β),aK fl 4 v (.int .i64 (i:Int)) h' V=V (.pointer (some ⟨b,o,none⟩)) h')/\
   ∀h',Le h h'->((∀(β:Type)(fl:β)(V:List Value->β),x9 fl (h'.bl.get b) o 2 V=V [.int .i64 e.t,.int .i64 e.r])/\
   (∀(β:Type)(fl:β)(V:List Value->β),x9 fl (h'.bl.get b) o 4 V=V [.int .i64 e.t,.int .i64 e.r,e.q,.int .i64 e.w])/\
   (∀(β:Type)(fl:β)(V:Value->β),w9 fl (h'.bl.get b) o V=V (.int .i64 e.t))/\
   (∀(β:Type)(fl:β)(V:Value->β),w9 fl (h'.bl.get b) (o+1) V=V (.int .i64 e.r))/\
   (∀(β:Type)(fl:β)(V:Value->β),w9 fl (h'.bl.get b) (o+2) V=V e.q)/\
   (∀(β:Type)(fl:β)(V:Value->β),w9 fl (h'.bl.get b) (o+3) V=V (.int .i64 e.w))):=by
 obtain⟨b,o,h1,h2,h3,hh⟩:=hs.ld uR i hp;refine⟨b,o,h1,h2,λh' l=>?_⟩;rw[l.get b h1];refine⟨λβ fl V=>?_,λβ fl V=>?_,λβ fl V=>?_,λβ fl V=>?_,λβ fl V=>?_,λβ fl V=>?_⟩
 .have:=hh.sub 0 2 (by show 0+2<=4;omega);rw[Nat.add_zero]at this;exact pQ this 2 V rfl
 .rw[pQ hh 4 V rfl];unfold tH;rw[hq]
 .exact eY (fl:=fl) hh 0 V (by show 0<4;omega)
 .exact eY (fl:=fl) hh 1 V (by show 1<4;omega)
 .rw[eY (fl:=fl) hh 2 V (by show 2<4;omega)];show V (slV e.q)=_;rw[hq]
 .exact eY (fl:=fl) hh 3 V (by show 3<4;omega)
section
variable {a h:Heap}{rb rp most:Nat}{v:Value}{K:List HE}
end
section
variable {a h:Heap}{rb rp rl most:Nat}{v:Value}{K:List HE}
end
section
variable {a h:Heap}{rb rp rl most:Nat}{v:Value}{K:List HE}{B:List Bool}
end
section
variable {a h:Heap}{rb rp rl most:Nat}{v:Value}{K:List HE}{B:List Bool}
end
section
variable {a h:Heap}{rb rp rl most:Nat}{v:Value}{K:List HE}{B:List Bool}
end
theorem sG.uniq{M:List HE}{B:List Bool}(i:sG M B){e e':HE}(he:e∈M)(he':e'∈M){p p':R5}(hp:p∈e.Q)(hp':p'∈e'.Q)(h:p.id=p'.id):e=e':=by
 obtain⟨X,hX⟩:=i;have hnd:=(List.nodup_append.1 ((hX.nodup_iff).2 (tF B))).1;unfold gK at hnd;rw[List.Nodup,List.pairwise_flatMap]at hnd;obtain⟨i,hi⟩:=List.getElem?_of_mem he;obtain⟨j,hj⟩:=List.getElem?_of_mem he';have G:=fe.1 hnd.2;rcases Nat.lt_trichotomy i j with hl|hl|hl
 .exact absurd h (G i j e e' hl hi hj _ (List.mem_map.2 ⟨p,hp,rfl⟩) _ (List.mem_map.2 ⟨p',hp',rfl⟩))
 .subst hl;rw[hi]at hj;exact Option.some.inj hj
 .exact absurd h.symm (G j i e' e hl hj hi _ (List.mem_map.2 ⟨p',hp',rfl⟩) _ (List.mem_map.2 ⟨p,hp,rfl⟩))
section
variable {h h':Heap}{bb bm bp bl most cap N:Nat}{M M' K:List HE}{clock clock':Nat}{F F':List Int}{B B':List Bool}
end
section
variable {a h:Heap}{rb rp rl most:Nat}{v:Value}{K:List HE}{B:List Bool}
end
section
variable {a h:Heap}{rb rp rl most:Nat}{v:Value}{K:List HE}{B:List Bool}
end
section
variable {a0 h:Heap}{bb bm bp bl most cap N:Nat}{M:List HE}{clock:Nat}{F:List Int}{B:List Bool}{rb rp rl:Nat}{v:Value}{K:List HE}
end
def JG(M:List HE)(t r x id:Int)(b:Bool):Prop:=(b=true/\∃e∈M,t=e.t/\r=e.r/\∃p∈e.Q,p.x=x/\p.id=id)\/(b=false/\id=0/\∀e∈M,t=e.t->r=e.r->∀p∈e.Q,p.x≠x)
theorem VU{h:Heap}{bb bm bp bl most:Nat}{M:List HE}{clock:Nat}{F:List Int}{B:List Bool}(s:bq h bb bm bp bl most M clock F B)(hlo:h.lo<=h.nx)(t r x:Int)(V:KQ)(hk:∀h' id b,JG M t r x id b->Le h h'->V (.tuple ⟨[.int .i64 id,.bool b]⟩) h'):CallW prog 350 [.pointer (some ⟨bb,0,none⟩),cV t r,.int .i64 x] h V:=by
 refine Hv s hlo t r x _ ?_ ?_
 .intro h' hn l;exact hk h' 0 false (.inr ⟨rfl,rfl,hn⟩) l
 .intro h' e p he ht hr hp hx l;exact hk h' _ true (.inl ⟨rfl,e,he,ht,hr,p,hp,hx,rfl⟩) l
section
variable {a0 h:Heap}{bb bm bp bl most cap N:Nat}{M:List HE}{clock:Nat}{F:List Int}{B:List Bool}{rb rp rl:Nat}{v:Value}{K:List HE}
end
end Go.Proofs

namespace Go.Vai
open Go
section
variable {β:Type}{fl:β}
theorem yo(P:Program)(t:TypeId)(cn gd:Bool)(a b:ByteArray)(h:Heap)(V:Z7 β)(hs:a.size+b.size<=9223372036854775807):ay fl P .add t cn gd (.string a) (.string b) h V=V (.string (a++b)) h:=by
 have e:Nat.ble (Nat.add a.size b.size) 9223372036854775807=true:=Nat.ble_eq_true_of_le hs;simp only[ay];rw[e]
theorem NP(P:Program)(t:TypeId)(cn gd:Bool)(a b:Int)(h:Heap)(V:Z7 β):ay fl P .xor t cn gd (.int .u32 a) (.int .u32 b) h V=V (.int .u32 (IntKind.u32.wrap ((BitVec.ofInt IntKind.u32.bits a ^^^ BitVec.ofInt IntKind.u32.bits b).toNat))) h:=by
 simp only[ay,iV,ox,iF,eN]
theorem NQ(P:Program)(t:TypeId)(cn gd:Bool)(a b:Int)(h:Heap)(V:Z7 β):ay fl P .mul t cn gd (.int .u32 a) (.int .u32 b) h V=V (.int .u32 (IntKind.u32.wrap (a*b))) h:=by
 simp only[ay,iV,ox,iF,eN];rfl
theorem NR(P:Program)(t:TypeId)(cn gd:Bool)(a b:Int)(h:Heap)(V:Z7 β)(hb:b≠0):ay fl P .rem t cn gd (.int .u32 a) (.int .u32 b) h V=V (.int .u32 (Int.tmod a b)) h:=by
 simp only[ay,iV,ox,iF,iq,hb,decide_false]
theorem HI(k:IntKind)(a:Int)(h:Heap)(V:Z7 β):mu fl .u32 (.int k a) h V=V (.int .u32 (IntKind.u32.wrap a)) h:=by simp only[mu,iF,eN]
theorem DT(a:Int):0<=IntKind.u32.wrap a/\IntKind.u32.wrap a<4294967296:=by
 unfold IntKind.wrap;simp only[IntKind.bits,IntKind.signed];have h1:=Int.emod_nonneg a (show(2:Int) ^ 32≠0 by decide);have h2:=Int.emod_lt_of_pos a (show(0:Int)<2 ^ 32 by decide);simp at *
 omega
theorem NS{a:Int}(h:0<=a/\a<4294967296):IntKind.u32.wrap a=a:=by
 unfold IntKind.wrap;simp only[IntKind.bits,IntKind.signed];have:=Int.emod_eq_of_lt h.1 (show a<2 ^ 32 by omega);simp at *
 omega
theorem VV(s:ByteArray):kY 8 (.string s) (.string s)=true:=by
 show mh s s=true
 rw[ku];simp
def AR(s:ByteArray):List Value:=s.data.toList.map λb:UInt8=>Value.int .u8 (Int.ofNat b.toNat)
theorem JH{s:ByteArray}{i:Nat}(h:i<s.data.toList.length):(AR s)[i]? = some (.int .u8 (Int.ofNat (s.data.toList[i]).toNat)):=by
 unfold AR;rw[List.getElem?_map,List.getElem?_eq_getElem h];rfl
theorem HJ(e:TypeId)(s:ByteArray)(h:Heap)(V:Z7 β)(hs:s.data.toList.length<=1000000000000):qs fl e (.string s) h V=V (.slice (some ⟨h.nx,0,none⟩) s.data.toList.length aS) ⟨h.nx+1,h.bl.aV h.nx (roO (AR s) e),h.lo⟩:=by
 unfold qs;simp only[Cb,x5,Nat.zero_add,List.length_map];rw[Nat.ble_eq_true_of_le hs];simp only[di];unfold roO AR;simp only[List.length_map]
end
end Go.Vai

namespace Go.Proofs
open Go.Vai Go.Clashes
open Tryz (prog)
def IF(n:Int):Bool:=decide (0<=n) && decide (n<100)
theorem uT(n:Int){h:Heap}{V:KQ}(hk:V (.bool (IF n)) h):CallW prog 203 [.int .i64 n] h V:=by
 refine jD (v:=.bool (IF n)) rfl rfl (av mixed ?_) hk;rw[aaU];by_cases h1:n<0
 .simp(disch:=try exact Y)only[Wz,fV h1];simp[IF];omega
 .by_cases h2:n<100
  .simp(disch:=try exact Y)only[Wz,dL (show 0<=n by omega),fV h2];simp[IF];omega
  .simp(disch:=try exact Y)only[Wz,dL (show 0<=n by omega),dL (show 100<=n by omega)];simp[IF];omega
theorem JI(h:Heap)(V:KQ)(hlo:h.lo<=h.nx)(hk:∀h',Le h h'->V (cV (-1) (-1)) h'):CallW prog 202 [] h V:=by
 refine av mixed ?_;rw[aaT];simp(disch:=try exact Y)only[Wz];exact hk _ ((Le.refl h).new _)
def bf(t r:Int):Int:=if t = -1/\r = -1 then 0 else if IF t=true/\r = -1 then 1 else if IF t=true/\IF r=true then 2 else -1
theorem R6(t r:Int)(h:Heap)(V:KQ)(hlo:h.lo<=h.nx)(hk:∀h',Le h h'->V (.int .i64 (bf t r)) h'):CallW prog 147 [cV t r] h V:=by
 refine av mixed ?_;rw[aak];simp(disch:=try exact Y)only[Wz,cV];obtain⟨hA,aT,aL,g1,dy,dz⟩:=kf h (aa [.int .i64 t,.int .i64 r] 28 false);rw[<-aT];clear aT;refine JI hA _ (by omega) ?_;intro h2 bt;have o5:=bt.nx;have o_:=bt.lo;have g1:=bt.up g1;have hk:=hk h2 (aL.trans bt);simp(disch:=try exact Y)only[Wz,cV,g1,pS,rS];by_cases h0:t = -1/\r = -1
 .simp(disch:=try exact Y)only[Wz,br h0];have e:bf t r=0:=by simp[bf,h0]
  rw[e]at hk;exact hk
 .simp(disch:=try exact Y)only[Wz,aZ h0,FO,g1];refine uT t ?_;cases ht:IF t with
  |false=>
   simp(disch:=try exact Y)only[Wz,zK,g1];refine uT t ?_;rw[ht];have e:bf t r = -1:=by unfold bf;rw[if_neg h0,ht];simp
   rw[e]at hk;simp(disch:=try exact Y)only[Wz];exact hk
  |true=>
   by_cases hr:r = -1
   .simp(disch:=try exact Y)only[Wz,br hr,g1];have e:bf t r=1:=by unfold bf;rw[if_neg h0,ht,hr];simp
    rw[e]at hk;exact hk
   .simp(disch:=try exact Y)only[Wz,aZ hr,zK,g1];refine uT t ?_;rw[ht];simp(disch:=try exact Y)only[Wz,g1];refine uT r ?_;cases M5:IF r with
    |false=>
     have e:bf t r = -1:=by unfold bf;rw[if_neg h0,ht,M5];simp[hr]
     rw[e]at hk;simp(disch:=try exact Y)only[Wz];exact hk
    |true=>
     have e:bf t r=2:=by unfold bf;rw[if_neg h0,ht,M5];simp[hr]
     rw[e]at hk;simp(disch:=try exact Y)only[Wz];exact hk
theorem lR(t r:Int){h:Heap}{V:KQ}(hk:V (.int .i64 (bf t r)) h):CallW prog 147 [cV t r] h V:=
 jD (v:=.int .i64 (bf t r)) rfl rfl (R6 t r zi _ (Nat.le_refl _) λ_ _=>rfl) hk
theorem pg(t r:Int){h:Heap}{V:KQ}(hk:V (.int .i64 (if bf t r = -1 then 2 else 0)) h):CallW prog 102 [cV t r] h V:=by
 refine jD (v:=.int .i64 (if bf t r = -1 then 2 else 0)) rfl rfl (av mixed ?_) hk;rw[ZO];simp(disch:=try exact Y)only[Wz,cV];refine lR t r ?_;by_cases h:bf t r = -1
 .simp(disch:=try exact Y)only[Wz,br h];simp[h]
 .simp(disch:=try exact Y)only[Wz,aZ h];simp[h]
def lF(n:Nat):ByteArray:=if n<10 then⟨#[UInt8.ofNat (48+n)]⟩else⟨#[UInt8.ofNat (48+n / 10),UInt8.ofNat (48+n % 10)]⟩
theorem ac0:∀n,n<100->bE prog 60 290 [.int .i64 (n:Nat)] (.string (lF n))=true:=by
 intro n hn;have:(List.range 100).all (λn=>bE prog 60 290 [.int .i64 ((n:Nat):Int)] (.string (lF n)))=true:=by kernel_rfl
 exact List.all_eq_true.1 this n (List.mem_range.2 hn)
theorem JJ(n:Int)(hn:IF n=true){h:Heap}{V:KQ}(hk:V (.string (lF n.toNat)) h):CallW prog 290 [.int .i64 n] h V:=by
 have h1:0<=n/\n<100:=by simpa[IF]using hn
 obtain⟨k,rfl⟩:∃k:Nat,n=(k:Int):=⟨n.toNat,by omega⟩
 rw[Int.toNat_natCast]at hk;exact rH mixed (ac0 k (by omega)) hk
def jN(t r:Int):ByteArray:=if bf t r=0 then⟨#[100,98]⟩else if bf t r=1 then(⟨#[116]⟩:ByteArray)++lF t.toNat else(⟨#[116]⟩:ByteArray)++lF t.toNat++(⟨#[46,114]⟩:ByteArray)++lF r.toNat
theorem rT(n:Nat):(lF n).size<=2:=by
 unfold lF;split<;>simp[ByteArray.size]
theorem HK{t r:Int}(h:bf t r≠-1):bf t r=0\/(bf t r=1/\IF t=true)\/(bf t r=2/\IF t=true/\IF r=true):=by
 unfold bf at *
 split
 .exact .inl rfl
 .split
  .rename_i h1;exact .inr (.inl ⟨rfl,h1.1⟩)
  .split
   .rename_i h1;exact .inr (.inr ⟨rfl,h1⟩)
   .rename_i h1 h2 h3;rw[if_neg h1,if_neg h2,if_neg h3]at h;exact absurd rfl h
theorem ac1(t r:Int)(hl:bf t r≠-1){h:Heap}{V:KQ}(hk:V (.string (jN t r)) h):CallW prog 208 [cV t r] h V:=by
 refine jD (v:=.string (jN t r)) rfl rfl (av mixed ?_) hk;rw[aaY];simp(disch:=try exact Y)only[Wz,cV];refine lR t r ?_;have st:=rT t.toNat;have sr:=rT r.toNat;rcases HK hl with e|⟨e,ht⟩|⟨e,ht,hr⟩
 .rw[e];simp(disch:=try exact Y)only[Wz];simp[jN,e]
 .rw[e];simp(disch:=try exact Y)only[Wz,zO];refine JJ t ht ?_;rw[yo _ _ _ _ _ _ _ _ (by show 1+_<=_;omega)];simp[jN,e]
 .rw[e];simp(disch:=try exact Y)only[Wz,zO,F_];have e1:∀(β:Type)(fl:β)(cn gd:Bool)(h:Heap)(V:Z7 β),ay fl prog .add 9 cn gd (.string ⟨#[116]⟩) (.string (lF t.toNat)) h V=V (.string ((⟨#[116]⟩:ByteArray)++lF t.toNat)) h:=λβ fl cn gd h V=>yo _ _ _ _ _ _ _ _ (by show 1+_<=_;omega);have e2:∀(β:Type)(fl:β)(cn gd:Bool)(h:Heap)(V:Z7 β),ay fl prog .add 9 cn gd (.string ((⟨#[116]⟩:ByteArray)++lF t.toNat)) (.string ⟨#[46,114]⟩) h V=V (.string ((⟨#[116]⟩:ByteArray)++lF t.toNat++(⟨#[46,114]⟩:ByteArray))) h:=λβ fl cn gd h V=>yo _ _ _ _ _ _ _ _ (by rw[ByteArray.size_append];show 1+_+2<=_;omega);have e3:∀(β:Type)(fl:β)(cn gd:Bool)(h:Heap)(V:Z7 β),ay fl prog .add 9 cn gd (.string ((⟨#[116]⟩:ByteArray)++lF t.toNat++(⟨#[46,114]⟩:ByteArray))) (.string (lF r.toNat)) h V=V (.string ((⟨#[116]⟩:ByteArray)++lF t.toNat++(⟨#[46,114]⟩:ByteArray)++lF r.toNat)) h:=λβ fl cn gd h V=>yo _ _ _ _ _ _ _ _ (by rw[ByteArray.size_append,ByteArray.size_append];show 1+_+2+_<=_;omega);refine JJ t ht ?_;simp(disch:=try exact Y)only[Wz,e1,e2];refine JJ r hr ?_;simp(disch:=try exact Y)only[Wz,e1,e2,e3,VV];simp[jN,e]
def CI(a:Int)(b:UInt8):Int:=IntKind.u32.wrap (IntKind.u32.wrap ((BitVec.ofInt IntKind.u32.bits a ^^^ BitVec.ofInt IntKind.u32.bits (IntKind.u32.wrap (Int.ofNat b.toNat))).toNat)*16777619)
def wC(s:ByteArray):Int:=s.data.toList.foldl CI 2166136261
theorem HL(a:Int)(b:UInt8):0<=CI a b/\CI a b<4294967296:=DT _
theorem tI(s:ByteArray):0<=wC s/\wC s<4294967296:=by
 unfold wC;have:∀(l:List UInt8)(a:Int),(0<=a/\a<4294967296)->0<=l.foldl CI a/\l.foldl CI a<4294967296:=by
  intro l
  induction l with
  |nil=>exact λa h=>h
  |cons b l ih=>exact λa _=>ih _ (HL a b)
 exact this _ _ (by decide)
theorem ait(s:ByteArray)(hs:s.data.toList.length<=1000){h:Heap}{V:KQ}(hk:V (.int .u32 (wC s)) h):CallW prog 207 [.string s] h V:=by
 refine jD (v:=.int .u32 (wC s)) rfl rfl (av mixed ?_) hk;rw[aaX];rw[HJ _ _ _ _ (by omega)];simp(disch:=try exact Y)only[Wz];refine⟨λn l h1=>∃i:Nat,slot l 12=.int .i64 (i:Int)/\slot l 10=.int .u32 ((s.data.toList.take i).foldl CI 2166136261)/\i<=s.data.toList.length/\n=s.data.toList.length-i/\HQ ⟨zi.nx+1,zi.bl.aV zi.nx (roO (AR s) 5),zi.lo⟩ h1,⟨_,0,rfl,rfl,Nat.zero_le _,rfl,rfl⟩,?_⟩;rintro n l h1 ⟨i,s1,s2,hi,rfl,hq⟩;cases(show _=h1 from hq);by_cases hlt:i<s.data.toList.length
 .have hg:=JH hlt;simp(disch:=try exact Y)only[Wz,s1,fV (show(i:Int)<(s.data.toList.length:Int)by omega),F9,bh,Nat.mul_one,hg,s2,HI,NP,NQ];refine⟨_,by omega,i+1,rfl,?_,by omega,rfl,rfl⟩;rw[List.take_add_one,List.getElem?_eq_getElem hlt];simp only[Option.toList_some,List.foldl_append,List.foldl_cons,List.foldl_nil];rfl
 .have hil:i=s.data.toList.length:=by omega
  simp(disch:=try exact Y)only[Wz,s1,dL (show(s.data.toList.length:Int)<=(i:Int)by omega),s2];rw[hil,List.take_length];rfl
theorem R7(t r:Int):(jN t r).data.toList.length<=1000:=by
 have st:=rT t.toNat;have sr:=rT r.toNat;have:(jN t r).size<=1000:=by
  unfold jN;split
  .decide
  .split
   .rw[ByteArray.size_append];show 1+_<=_;omega
   .rw[ByteArray.size_append,ByteArray.size_append,ByteArray.size_append];show 1+_+2+_<=_;omega
 exact this
theorem ac2(t r:Int)(hl:bf t r≠-1){h:Heap}{V:KQ}(hk:V (.int .u32 (wC (jN t r))) h):CallW prog 155 [cV t r] h V:=by
 refine jD (v:=.int .u32 (wC (jN t r))) rfl rfl (av mixed ?_) hk;rw[aan];simp(disch:=try exact Y)only[Wz,cV];refine ac1 t r hl ?_;refine ait _ (R7 t r) ?_;rfl
def dR(t r s:Int):Int:=if s<1\/16<s\/bf t r = -1 then -1 else Int.tmod (wC (jN t r)) s
theorem JK{t r s:Int}(h:dR t r s≠-1):0<=dR t r s/\dR t r s<s/\bf t r≠-1:=by
 unfold dR at *
 by_cases hc:s<1\/16<s\/bf t r = -1
 .rw[if_pos hc]at h;exact absurd rfl h
 .rw[if_neg hc];have h1:=tI (jN t r);have h2:=Int.tmod_lt_of_pos (wC (jN t r)) (show 0<s by omega);have h3:=Int.tmod_nonneg s h1.1;exact⟨h3,h2,λe=>hc (.inr (.inr e))⟩
theorem aiu(s:Int){h:Heap}{V:KQ}(hk:V (.bool (decide (1<=s) && decide (s<=16))) h):CallW prog 154 [.int .i64 s] h V:=by
 refine jD (v:=.bool (decide (1<=s) && decide (s<=16))) rfl rfl (av mixed ?_) hk;rw[aam];by_cases h1:s<1
 .simp(disch:=try exact Y)only[Wz,fV h1];simp;omega
 .by_cases h2:16<s
  .simp(disch:=try exact Y)only[Wz,dL (show 1<=s by omega),fV h2];simp;omega
  .simp(disch:=try exact Y)only[Wz,dL (show 1<=s by omega),dL (show s<=16 by omega)];simp;omega
theorem R8(t r s:Int){h:Heap}{V:KQ}(hk:V (.int .i64 (dR t r s)) h):CallW prog 104 [cV t r,.int .i64 s] h V:=by
 refine jD (v:=.int .i64 (dR t r s)) rfl rfl (av mixed ?_) hk;rw[ZQ];simp(disch:=try exact Y)only[Wz,cV];refine aiu s ?_;by_cases h1:1<=s/\s<=16
 .simp(disch:=try exact Y)only[Wz,br h1.1,br h1.2];refine pg t r ?_;by_cases hl:bf t r = -1
  .rw[if_pos hl];simp(disch:=try exact Y)only[Wz];simp[dR,hl]
  .rw[if_neg hl];simp(disch:=try exact Y)only[Wz];refine ac2 t r hl ?_;have hr:=tI (jN t r);have h2:=Int.tmod_lt_of_pos (wC (jN t r)) (show 0<s by omega);have h3:=Int.tmod_nonneg s hr.1;simp(disch:=try exact Y)only[Wz,HI,NS,NR];unfold dR;rw[if_neg (by omega)]
 .have e:(decide (1<=s) && decide (s<=16))=false:=by simp;omega
  rw[e];simp(disch:=try exact Y)only[Wz];unfold dR;rw[if_pos (by omega)]
abbrev IE:=Int × Int × Nat
def CJ(e:IE):MapEntry:={ key:=.int .i64 e.1,val:=.int .i64 e.2.1,born:=e.2.2 }
def NT(W:List IE)(k:Int):Option Int:=(W.find? λe=>decide (k=e.1)).map λe=>e.2.1
theorem eqI(h:Heap)(a b:Int):lT prog h 100 3 (.int .i64 a) (.int .i64 b)=some (decide (a=b)):=by
 have:lT prog h 100 3 (.int .i64 a) (.int .i64 b)=some (tT a b):=by kernel_rfl
 rw[this,iq]
theorem NU(t:Int):kZ prog 20 3 (.int .i64 t)=true:=by kernel_rfl
theorem U3(t:Int):kY 3 (.int .i64 t) (.int .i64 t)=true:=by
 show(iV .i64 .i64 && tT t t)=true
 rw[iq,br rfl];rfl
theorem Yn(h:Heap)(k:Int):∀(M:List IE)(i:Nat),(ff prog h 3 (.int .i64 k) (M.map CJ) i=some none/\M.find? (λe=>decide (k=e.1))=none)\/
  ∃(j:Nat)(e:IE),ff prog h 3 (.int .i64 k) (M.map CJ) i=some (some (i+j,CJ e))/\M[j]? = some e/\k=e.1/\M.find? (λe=>decide (k=e.1))=some e/\∀(v:Int)(k':Int),(M.set j (e.1,v,e.2.2)).find? (λe=>decide (k'=e.1))=if k'=k then some (e.1,v,e.2.2)else M.find? (λe=>decide (k'=e.1)):=by
 intro M
 induction M with
 |nil=>intro i;exact .inl ⟨rfl,rfl⟩
 |cons e M ih=>
  intro i;have hf:ff prog h 3 (.int .i64 k) ((e::M).map CJ) i=(match(some (decide (k=e.1)):Option Bool)with|some true=>some (some (i,CJ e))|some false=>ff prog h 3 (.int .i64 k) (M.map CJ) (Nat.succ i)|none=>none):=by
   rw[<-eqI h];rfl
  rw[hf];by_cases h1:k=e.1
  .rw[br h1];refine .inr ⟨0,e,rfl,rfl,h1,by rw[List.find?_cons,br h1],λv k'=>?_⟩;rw[List.set_cons_zero,List.find?_cons,List.find?_cons];by_cases h2:k'=k
   .rw[if_pos h2,br (h2.trans h1)]
   .rw[if_neg h2,aZ (λe'=>h2 (e'.trans h1.symm))]
  .rw[aZ h1];rcases ih (Nat.succ i)with⟨g1,g2⟩|⟨j,e',g1,g2,g3,g4,g5⟩
   .exact .inl ⟨g1,by rw[List.find?_cons,aZ h1];exact g2⟩
   .refine .inr ⟨j+1,e',by rw[show i+(j+1)=Nat.succ i+j by omega];exact g1,g2,g3,by rw[List.find?_cons,aZ h1];exact g4,λv k'=>?_⟩;rw[List.set_cons_succ,List.find?_cons,List.find?_cons];by_cases h2:k'=e.1
    .rw[br h2];simp only;rw[if_neg (λe'=>h1 (e'.symm.trans h2))]
    .rw[aZ h2];exact g5 v k'
theorem aiv{β:Type}{fl:β}{W:List IE}{clock:Nat}{h:Heap}{bw:Nat}(g:h.bl.get bw=some (.map (W.map CJ) clock))(k:Int)(V:Z7 β):cr fl prog 3 (.int .i64 0) true (.map (some bw)) (.int .i64 k) h V=V (.tuple ⟨[.int .i64 ((NT W k).getD 0),.bool (NT W k).isSome]⟩) h:=by
 unfold cr ij NT;rw[NU];simp only[g];rcases Yn h k W 0 with⟨g1,g2⟩|⟨j,e',g1,g2,g3,g4,_⟩
 .rw[g1,g2];rfl
 .rw[g1,g4];rfl
theorem ac3{W:List IE}{clock:Nat}{h:Heap}{bw:Nat}(g:h.bl.get bw=some (.map (W.map CJ) clock))(hlo:h.lo<=bw)(k v:Int)(V:KQ)(hk:∀W' clock',(∀j,NT W' j=if j=k then some v else NT W j)->V undef ⟨h.nx,h.bl.aV bw (.map (W'.map CJ) clock'),h.lo⟩):bS False prog 3 (.map (some bw)) (.int .i64 k) (.int .i64 v) h V:=by
 unfold bS;rw[NU];simp only[g];rcases Yn h k W 0 with⟨g1,g2⟩|⟨j,e,g1,g2,g3,g4,g5⟩
 ·rw[g1];simp only;rw[oG];simp only[b6];rw[bB _ _ _ _ hlo];have:=hk (W++[(k,v,clock)]) (clock+1) λj=>by
   unfold NT;rw[List.find?_append];by_cases hj:j=k
   .rw[if_pos hj,hj,g2];simp
   .rw[if_neg hj];simp[List.find?_cons,hj]
  rw[List.map_append]at this;exact this
 ·rw[g1];subst g3;simp only[CJ,U3];rw[Nat.zero_add,qD _ _ j (CJ e) _ (by rw[List.getElem?_map,g2];rfl),bB _ _ _ _ hlo];have:=hk (W.set j (e.1,v,e.2.2)) clock λi=>by
   unfold NT;rw[g5 v i];split<;>rfl
  rw[List.map_set]at this;exact this
theorem r8.keep{h h':Heap}{bb bm bp bl most clock:Nat}{M:List HE}{F:List Int}{B:List Bool}(s:bq h bb bm bp bl most M clock F B)(f:r8 bm bp bl h h'){c:Nat}{vs:List Value}{ty:TypeId}{op:Bool}(hc:c<h.nx)(hg:h.bl.get c=some (aa vs ty op))(h1:ty≠286)(h2:ty≠4)(h3:ty≠3):h'.bl.get c=h.bl.get c:=by
 obtain⟨fs,AB,hpt⟩:=s.aX.fr.cell;have gl:=s.aX.cell;have gm:=s.gu;exact f.get c hc (by rintro rfl;rw[hg]at gm;exact bQ gm.symm) (by rintro rfl;rw[hg]at AB;exact bz h1 AB) (by rintro rfl;rw[hg]at gl;exact bz h2 gl) λws=>by rw[hg];exact bz h3
theorem r8.Mj{h h':Heap}{bb bm bp bl most clock:Nat}{M:List HE}{F:List Int}{B:List Bool}(s:bq h bb bm bp bl most M clock F B)(f:r8 bm bp bl h h'){c:Nat}{es:List MapEntry}{cl:Nat}(hc:c<h.nx)(hg:h.bl.get c=some (.map es cl))(hne:c≠bm):h'.bl.get c=h.bl.get c:=by
 obtain⟨fs,AB,hpt⟩:=s.aX.fr.cell;have gl:=s.aX.cell;exact f.get c hc hne (by rintro rfl;rw[AB]at hg;exact bQ hg.symm) (by rintro rfl;rw[gl]at hg;exact bQ hg.symm) λws=>by rw[hg];exact bQ
theorem bq.aside{h h':Heap}{bb bm bb2 bm2 bp bl most Yo clock R9:Nat}{M M2:List HE}{F F':List Int}{B B':List Bool}(s:bq h bb bm bp bl most M clock F B)(f:r8 bm bp bl h h')(s2:bq h bb2 bm2 bp bl Yo M2 R9 F B)(hne:bm2≠bm)(p:ep h' bp bl F' B'):bq h' bb2 bm2 bp bl Yo M2 R9 F' B':=by
 have fn:=f.nx;have fl:=f.lo;have sb:=s2.tE;have sm:=s2.kO;refine⟨by omega,by omega,by rw[fl];exact s2.VA,(f.keep s sb s2.iO (by decide) (by decide) (by decide)).trans s2.iO,(f.Mj s sm s2.gu hne).trans s2.gu,s2.ok,λe he=>?_,s2.good,p,s2.ne⟩;have a:=s2.aW e he;have al:=a.lt;exact⟨by omega,(f.keep s al a.get (by decide) (by decide) (by decide)).trans a.get,a.qv.frame fn λc vs op hc hg=>f.keep s hc hg (by decide) (by decide) (by decide)⟩
structure TB where
 bb:Nat
 bm:Nat
 M:List HE
 clock:Nat
def pn(b:TB):List Value:=[.pointer (some ⟨b.bb,0,none⟩)]
theorem CL(b:TB):(pn b).length=1:=rfl
theorem NV(b:TB):(pn b).all dJ=true:=rfl
structure h_ where
 S:Int
 H:Int
 R:Int
 P:Int
structure fu(h:Heap)(tb bw bp bl:Nat)(c:h_)(vb:Value)(aW:Nat)(T:List TB)(W:List IE)(wc:Nat)(F:List Int)(B:List Bool):Prop where
 ltt:tb<h.nx
 nN:h.bl.get tb=some (aa [.int .i64 c.S,.int .i64 c.H,.int .i64 c.R,.int .i64 c.P,.pointer (some ⟨bp,0,none⟩),vb,.map (some bw)] 194 false)
 sl:Sl pn h vb T
 ty:yb 205 h vb
 BT:bw<h.nx
 low:h.lo<=bw
 pq:h.bl.get bw=some (.map (W.map CJ) wc)
 bk:∀b∈T,bq h b.bb b.bm bp bl aW b.M b.clock F B
 HM:T.Pairwise λa b=>a.bm≠b.bm
 wne:∀b∈T,bw≠b.bm
 aX:ep h bp bl F B
 cS:c.S=T.length
 s1:1<=T.length/\T.length<=16
 hd:aW<=64
theorem Sl.JM{α:Type}{enc:α->List Value}{h h':Heap}{v:Value}{L:List α}{e:TypeId}(s:Sl enc h v L)(t:yb e h v)(hn:h.nx<=h'.nx)(hg:∀c vs op,c<h.nx->h.bl.get c=some (aa vs e op)->h'.bl.get c=h.bl.get c):Sl enc h' v L/\yb e h' v:=by
 constructor
 .obtain⟨x,cap,rfl,h2⟩:=s;refine⟨x,cap,rfl,λhne=>?_⟩;obtain⟨b,o,rfl,h3,h4⟩:=h2 hne;obtain⟨h1,vs,op,h5⟩:=t b o _ cap rfl (by intro h0;exact hne (List.eq_nil_of_length_eq_zero h0));refine⟨b,o,rfl,Nat.lt_of_lt_of_le h3 hn,?_⟩;rw[hg b vs op h1 h5];exact h4
 .intro b o n c hv hn0;obtain⟨h1,vs,op,h2⟩:=t b o n c hv hn0;exact⟨Nat.lt_of_lt_of_le h1 hn,vs,op,(hg b vs op h1 h2).trans h2⟩
theorem fu.le{h h':Heap}{tb bw bp bl:Nat}{c:h_}{vb:Value}{aW:Nat}{T:List TB}{W:List IE}{wc:Nat}{F:List Int}{B:List Bool}(s:fu h tb bw bp bl c vb aW T W wc F B)(l:Le h h'):fu h' tb bw bp bl c vb aW T W wc F B:=
 ⟨Nat.lt_of_lt_of_le s.ltt l.nx,(l.get _ s.ltt).trans s.nN,s.sl.le l,s.ty.le l,Nat.lt_of_lt_of_le s.BT l.nx,by rw[l.lo];exact s.low,(l.get _ s.BT).trans s.pq,λb hb=>(s.bk b hb).le l,s.HM,s.wne,s.aX.le l,s.cS,s.s1,s.hd⟩
theorem R_{T:List TB}{k:Nat}{b:TB}(hk:T[k]? = some b)(M':List HE)(clock':Nat):(T.set k ⟨b.bb,b.bm,M',clock'⟩).flatMap pn=T.flatMap pn:=by
 obtain⟨hl,rfl⟩:=List.getElem?_eq_some_iff.1 hk;rw[List.flatMap_def,List.flatMap_def,List.map_set]
 congr 1
 refine List.ext_getElem? λi=>?_;rw[List.getElem?_set];split
 .rename_i e;subst e;rw[if_pos (by simpa using hl),List.getElem?_map,List.getElem?_eq_getElem hl];rfl
 .rfl
theorem Sl.congr{α:Type}{enc:α->List Value}{h:Heap}{v:Value}{L L':List α}(s:Sl enc h v L)(hl:L'.length=L.length)(hf:L'.flatMap enc=L.flatMap enc):Sl enc h v L':=by
 obtain⟨x,cap,rfl,h2⟩:=s;refine⟨x,cap,by rw[hl],λhne=>?_⟩;rw[hf];exact h2 (λe=>hne (List.eq_nil_of_length_eq_zero (by rw[hl,e];rfl)))
theorem fu.change{h h':Heap}{tb bw bp bl:Nat}{c:h_}{vb:Value}{aW:Nat}{T:List TB}{W:List IE}{wc:Nat}{F F':List Int}{B B':List Bool}(s:fu h tb bw bp bl c vb aW T W wc F B){k:Nat}{b:TB}(hk:T[k]? = some b){M':List HE}{clock':Nat}(is':bq h' b.bb b.bm bp bl aW M' clock' F' B')(f:r8 b.bm bp bl h h'):fu h' tb bw bp bl c vb aW (T.set k ⟨b.bb,b.bm,M',clock'⟩) W wc F' B':=by
 have hb:=s.bk b (List.mem_of_getElem? hk);have fn:=f.nx;have fl:=f.lo;have h1:=s.ltt;have h2:=s.BT;have k1:=Sl.JM s.sl s.ty fn λc vs op hc hg=>f.keep hb hc hg (by decide) (by decide) (by decide);have aix:=s.wne b (List.mem_of_getElem? hk);have lK:∀x∈T.set k ⟨b.bb,b.bm,M',clock'⟩,(x=⟨b.bb,b.bm,M',clock'⟩)\/(x∈T/\x.bm≠b.bm):=by
  intro x hx;obtain⟨i,hi⟩:=List.getElem?_of_mem hx;rw[List.getElem?_set]at hi;split at hi
  .split at hi
   .exact .inl (Option.some.inj hi).symm
   .cases hi
  .rename_i hne;refine .inr ⟨List.mem_of_getElem? hi,?_⟩;rcases Nat.lt_trichotomy i k with h3|h3|h3
   .exact fe.1 s.HM i k x b h3 hi hk
   .exact absurd h3.symm hne
   .exact λe=>fe.1 s.HM k i b x h3 hk hi e.symm
 refine⟨by omega,(f.keep hb h1 s.nN (by decide) (by decide) (by decide)).trans s.nN,Sl.congr k1.1 (List.length_set ..) (R_ hk _ _),k1.2,by omega,by rw[fl];exact s.low,(f.Mj hb h2 s.pq aix).trans s.pq,?_,?_,?_,is'.aX,by rw[List.length_set];exact s.cS,by rw[List.length_set];exact s.s1,s.hd⟩
 .intro x hx;rcases lK x hx with rfl|⟨hx,hne⟩
  .exact is'
  .exact hb.aside f (s.bk x hx) hne is'.aX
 .refine tj s.HM (λj q hj hq=>fe.1 s.HM j k q b hj hq hk) (λj q hj hq=>fe.1 s.HM k j b q hj hk hq)
 .intro x hx;rcases lK x hx with rfl|⟨hx,_⟩
  .exact aix
  .exact s.wne x hx
theorem tJ{α β:Type}(f:α->List β){T:List α}{k:Nat}{b:α}(hk:T[k]? = some b):∃X,∀b',((T.set k b').flatMap f).Perm (f b'++X):=by
 obtain⟨hl,_⟩:=List.getElem?_eq_some_iff.1 hk;refine⟨(T.take k).flatMap f++(T.drop (k+1)).flatMap f,λb'=>?_⟩;rw[List.set_eq_take_append_cons_drop,if_pos hl,List.flatMap_append,List.flatMap_cons];exact List.perm_append_comm_assoc _ _ _
theorem AS{α:Type}{T:List α}{k:Nat}{b:α}(hk:T[k]? = some b):T.set k b=T:=by
 refine List.ext_getElem? λi=>?_;rw[List.getElem?_set];split
 .rename_i e;subst e;rw[hk,if_pos (List.getElem?_eq_some_iff.1 hk).1]
 .rfl
section
variable {h h':Heap}{bb bm bp bl most:Nat}{M M':List HE}{clock clock':Nat}{F F':List Int}{B B':List Bool}
theorem oZ.ids(s:bq h bb bm bp bl most M clock F B){t r x m:Int}{n:Nat}{g:Bool}(a:oZ h h' bb bm bp bl most M M' clock' F F' B t r x m n g):(gK M').Perm (gK M++[(n:Int)]):=by
 obtain⟨Q,w,hold,vq,vq',_,lK⟩:=a.set;have qd:(gK M).Perm (gK (M.filter λx=>!jX t r x)++Q.map (·.id)):=by
  rcases hold with⟨e,he,rfl,rfl,rfl,rfl⟩|⟨hn,hl,rfl,rfl⟩
  .have:=rQ (rR s.ok he);rw[nL,uP]at this;exact this
  .rw[CG hn];simp
 refine lK.ids.trans ?_;rw[AG vq',List.map_append,List.map_cons,List.map_nil,VG,<-List.append_assoc];exact(qd.symm).append_right _
theorem oZ.len(s:bq h bb bm bp bl most M clock F B)(hl:M.length<=most){t r x m:Int}{n:Nat}{g:Bool}(a:oZ h h' bb bm bp bl most M M' clock' F F' B t r x m n g):M'.length<=most:=by
 obtain⟨Q,w,hold,vq,vq',_,lK⟩:=a.set;have:=lK.len;rcases hold with⟨e,he,rfl,rfl,rfl,rfl⟩|⟨hn,hl,rfl,rfl⟩
 .have:=Mi s.ok he;omega
 .rw[CG hn]at this;omega
theorem oZ.wb{N:Nat}(hw:∀e∈M,e.w<=N){t r x m:Int}{n:Nat}{g:Bool}(a:oZ h h' bb bm bp bl most M M' clock' F F' B t r x m n g):∀e∈M',e.w<=(N+1:Nat):=by
 obtain⟨Q,w,hold,vq,vq',_,lK⟩:=a.set;refine lK.wb hw ?_;have:=acY Q w n x m;rcases hold with⟨e,he,_,_,_,rfl⟩|⟨_,_,_,rfl⟩
 .have:=hw e he;omega
 .omega
theorem oZ.sub{t r x m:Int}{n:Nat}{g:Bool}(a:oZ h h' bb bm bp bl most M M' clock' F F' B t r x m n g):∀y∈M',(∃e∈M,e.t=y.t/\e.r=y.r)\/(y.t=t/\y.r=r):=by
 obtain⟨Q,w,_,_,_,_,lK⟩:=a.set;intro y hy;rcases lK.sub y hy with h|⟨h1,h2,_⟩
 .exact .inl ⟨y,h,rfl,rfl⟩
 .exact .inr ⟨h1,h2⟩
variable {e:HE}{Q1:List R5}{w1:Int}
theorem kK.Sa(s:bq h bb bm bp bl most M clock F B)(he:e∈M)(m:kK h h' bb bm bp bl most M M' clock' F' B' e Q1 w1)(hid:Q1.map (·.id)=e.Q.map (·.id)):(gK M').Perm (gK M):=by
 refine m.set.ids.trans ?_;rw[AG m.vq,hid];have:=rQ (rR s.ok he);rw[nL,uP]at this;exact this.symm
theorem kK.Sb(s:bq h bb bm bp bl most M clock F B)(he:e∈M){p:R5}{n:Nat}(hf:cq e.Q (n:Int)=some p)(m:kK h h' bb bm bp bl most M M' clock' F' B' e (e.Q.filter λr=>!cC (n:Int) r) w1):(gK M).Perm (gK M'++[(n:Int)]):=by
 have h1:=rQ (rR s.ok he);rw[nL,uP]at h1;have h2:=h1.trans (List.Perm.append_left (gK (M.filter λx=>!jX e.t e.r x)) (JF (s.good e he).vq hf));rw[<-List.append_assoc]at h2;have h3:=m.set.ids;rw[AG m.vq]at h3;exact h2.trans (h3.symm.append_right _)
theorem kK.len(s:bq h bb bm bp bl most M clock F B)(hl:M.length<=most)(he:e∈M)(m:kK h h' bb bm bp bl most M M' clock' F' B' e Q1 w1):M'.length<=most:=by
 have:=m.set.len;have:=Mi s.ok he;omega
theorem kK.sub(he:e∈M)(m:kK h h' bb bm bp bl most M M' clock' F' B' e Q1 w1):∀y∈M',∃e∈M,e.t=y.t/\e.r=y.r:=by
 intro y hy;rcases m.set.sub y hy with h|⟨h1,h2,_⟩
 .exact⟨y,h,rfl,rfl⟩
 .exact⟨e,he,h1.symm,h2.symm⟩
end
structure lH(h:Heap)(tb bw bp bl:Nat)(c:h_)(vb:Value)(aW N:Nat)(T:List TB)(W:List IE)(wc:Nat)(F:List Int)(B:List Bool):Prop where
 is:fu h tb bw bp bl c vb aW T W wc F B
 ids:(T.flatMap λb=>gK b.M).Perm (lz B)
 wh:∀(k:Nat)(b:TB),T[k]? = some b->∀e∈b.M,∀p∈e.Q,NT W p.id=some (k:Int)
 nm:∀(k:Nat)(b:TB),T[k]? = some b->∀e∈b.M,dR e.t e.r c.S=(k:Int)
 wb:∀b∈T,∀e∈b.M,e.w<=N
 len:∀b∈T,b.M.length<=aW
 cR:(B.length:Int)=c.R
 cH:(aW:Int)=c.H
section
variable {h h':Heap}{tb bw bp bl:Nat}{c:h_}{vb:Value}{aW N:Nat}{T:List TB}{W:List IE}{wc:Nat}{F F':List Int}{B B':List Bool}
theorem lH.Sc(s:lH h tb bw bp bl c vb aW N T W wc F B){k:Nat}{b:TB}(hk:T[k]? = some b):sG b.M B:=by
 obtain⟨X,hX⟩:=tJ (λb:TB=>gK b.M) hk;have:=hX b;rw[AS hk]at this;exact⟨X,this.symm.trans s.ids⟩
theorem lH.le(s:lH h tb bw bp bl c vb aW N T W wc F B)(l:Le h h'):lH h' tb bw bp bl c vb aW N T W wc F B:=⟨s.is.le l,s.ids,s.wh,s.nm,s.wb,s.len,s.cR,s.cH⟩
theorem lH.up{N':Nat}(s:lH h tb bw bp bl c vb aW N T W wc F B)(hN:N<=N'):lH h tb bw bp bl c vb aW N' T W wc F B:=⟨s.is,s.ids,s.wh,s.nm,λb hb e he=>by have:=s.wb b hb e he;omega,s.len,s.cR,s.cH⟩
theorem fU{α:Type}{T:List α}{k j:Nat}{b' x:α}(h:(T.set k b')[j]? = some x):(j=k/\x=b')\/(j≠k/\T[j]? = some x):=by
 rw[List.getElem?_set]at h;split at h
 .rename_i e;split at h
  .exact .inl ⟨e.symm,(Option.some.inj h).symm⟩
  .cases h
 .rename_i e;exact .inr ⟨λe'=>e e'.symm,h⟩
theorem mP{M:List HE}{i:Int}:i∈gK M<->∃e∈M,∃p∈e.Q,p.id=i:=by
 unfold gK;rw[List.mem_flatMap];constructor
 .rintro⟨e,he,hi⟩;obtain⟨p,hp,rfl⟩:=List.mem_map.1 hi;exact⟨e,he,p,hp,rfl⟩
 .rintro⟨e,he,p,hp,rfl⟩;exact⟨e,he,List.mem_map.2 ⟨p,hp,rfl⟩⟩
theorem lH.step(s:lH h tb bw bp bl c vb aW N T W wc F B){k:Nat}{b:TB}(hk:T[k]? = some b){M':List HE}{clock':Nat}(is':bq h' b.bb b.bm bp bl aW M' clock' F' B')(f:r8 b.bm bp bl h h')(BR:∀X,(gK b.M++X).Perm (lz B)->(gK M'++X).Perm (lz B'))(hsub:∀i∈gK M',i∈gK b.M)(hnm:∀y∈M',∃e∈b.M,e.t=y.t/\e.r=y.r)(hw:∀e∈M',e.w<=(N+1:Nat))(hl:M'.length<=aW)(hB:B'.length=B.length):lH h' tb bw bp bl c vb aW (N+1) (T.set k ⟨b.bb,b.bm,M',clock'⟩) W wc F' B':=by
 obtain⟨X,hX⟩:=tJ (λb:TB=>gK b.M) hk;have h0:=hX b;rw[AS hk]at h0;refine⟨s.is.change hk is' f,(hX _).trans (BR X (h0.symm.trans s.ids)),?_,?_,?_,?_,by rw[hB];exact s.cR,s.cH⟩
 .intro j x hj e he p hp;rcases fU hj with⟨rfl,rfl⟩|⟨_,hj⟩
  .obtain⟨e0,Sd,p0,hp0,hpe⟩:=mP.1 (hsub p.id (mP.2 ⟨e,he,p,hp,rfl⟩));rw[<-hpe];exact s.wh j b hk e0 Sd p0 hp0
  .exact s.wh j x hj e he p hp
 .intro j x hj e he;rcases fU hj with⟨rfl,rfl⟩|⟨_,hj⟩
  .obtain⟨e0,Sd,h1,h2⟩:=hnm e he;rw[<-h1,<-h2];exact s.nm j b hk e0 Sd
  .exact s.nm j x hj e he
 .intro x hx e he;obtain⟨j,hj⟩:=List.getElem?_of_mem hx;rcases fU hj with⟨rfl,rfl⟩|⟨_,hj⟩
  .exact hw e he
  .have:=s.wb x (List.mem_of_getElem? hj) e he;omega
 .intro x hx;obtain⟨j,hj⟩:=List.getElem?_of_mem hx;rcases fU hj with⟨rfl,rfl⟩|⟨_,hj⟩
  .exact hl
  .exact s.len x (List.mem_of_getElem? hj)
end
theorem Yp(h:Heap)(b o:Nat):lT prog h 100 119 (.pointer (some ⟨b,o,none⟩)) (.pointer none)=some false:=by kernel_rfl
theorem pE{β:Type}{fl:β}(cn:Bool)(b o:Nat)(h:Heap)(V:Z7 β):ay fl prog .eql 119 cn false (.pointer (some ⟨b,o,none⟩)) (.pointer none) h V=V (.bool false) h:=by simp only[ay,Yp,bK]
theorem aiy(h:Heap):lT prog h 100 205 (.pointer none) (.pointer none)=some true:=by kernel_rfl
theorem uU{β:Type}{fl:β}(cn:Bool)(h:Heap)(V:Z7 β):ay fl prog .eql 205 cn false (.pointer none) (.pointer none) h V=V (.bool true) h:=by simp only[ay,aiy,bK]
structure wD(Ts:List TB)(bw bp bl:Nat)(h h':Heap):Prop where
 nx:h.nx<=h'.nx
 lo:h'.lo=h.lo
 get:∀c,c<h.nx->(∀b∈Ts,c≠b.bm)->c≠bw->c≠bp->c≠bl->(∀vs,h.bl.get c≠some (aa vs 3 true))->h'.bl.get c=h.bl.get c
 g2:bp<h.nx->∀c,c<h.nx->(∀b∈Ts,c≠b.bm)->c≠bw->c≠bp->c≠bl->¬FB h bp c->h'.bl.get c=h.bl.get c
 mv:bp<h.nx->∀c,c<h.nx->FB h' bp c->FB h bp c
theorem wD.of_le{Ts:List TB}{bw bp bl:Nat}{h h':Heap}(l:Le h h'):wD Ts bw bp bl h h':=⟨l.nx,l.lo,λc hc _ _ _ _ _=>l.get c hc,λ_ c hc _ _ _ _ _=>l.get c hc,λhb c _ x=>(FB.congr (l.get bp hb)).1 x⟩
theorem wD.trans{Ts:List TB}{bw bp bl:Nat}{h h' h'':Heap}(a:wD Ts bw bp bl h h')(b:wD Ts bw bp bl h' h''):wD Ts bw bp bl h h'':=
 ⟨Nat.le_trans a.nx b.nx,b.lo.trans a.lo,λc hc h1 h2 h3 h4 h5=>(b.get c (Nat.lt_of_lt_of_le hc a.nx) h1 h2 h3 h4 (λvs=>by rw[a.get c hc h1 h2 h3 h4 h5];exact h5 vs)).trans (a.get c hc h1 h2 h3 h4 h5),
  λhb c hc h1 h2 h3 h4 h5=>(b.g2 (Nat.lt_of_lt_of_le hb a.nx) c (Nat.lt_of_lt_of_le hc a.nx) h1 h2 h3 h4 λx=>h5 (a.mv hb c hc x)).trans (a.g2 hb c hc h1 h2 h3 h4 h5),
  λhb c hc x=>a.mv hb c hc (b.mv (Nat.lt_of_lt_of_le hb a.nx) c (Nat.lt_of_lt_of_le hc a.nx) x)⟩
theorem wD.VW{Ts:List TB}{b:TB}(hb:b∈Ts){bw bp bl:Nat}{h h':Heap}(f:r8 b.bm bp bl h h'):wD Ts bw bp bl h h':=⟨f.nx,f.lo,λc hc h1 _ h3 h4 h5=>f.get c hc (h1 b hb) h3 h4 h5,λhp c hc h1 _ h3 h4 h5=>f.g2 hp c hc (h1 b hb) h3 h4 h5,f.mv⟩
section
variable {h:Heap}{tb bw bp bl:Nat}{c:h_}{vb:Value}{aW N:Nat}{Ts:List TB}{W:List IE}{wc:Nat}{F:List Int}{B:List Bool}
theorem wE(s:fu h tb bw bp bl c vb aW Ts W wc F B)(hlo:h.lo<=h.nx)(t r:Int)(V:KQ)(hk:∀h',Le h h'->V (.int .i64 (dR t r c.S)) h'):CallW prog 56 [.pointer (some ⟨tb,0,none⟩),cV t r] h V:=by
 refine av mixed ?_;rw[agB];simp(disch:=try exact Y)only[Wz,cV];obtain⟨hA,aT,aL,g1,dy,dz⟩:=kf h (aa [.int .i64 t,.int .i64 r] 28 false);rw[<-aT];clear aT;have sA:=s.le aL;have gt:=sA.nN;simp(disch:=try exact Y)only[Wz,pE,Ly,g1,aG,gt];refine R8 t r c.S ?_;exact hk hA aL
theorem VX{h:Heap}{v:Value}{Ts:List TB}(hs:Sl pn h v Ts)(i:Nat){b:TB}(hp:Ts[i]? = some b):∃c o,c<h.nx/\(∀(β:Type)(fl:β)(h':Heap)(V:Z7 β),aK fl 1 v (.int .i64 (i:Int)) h' V=V (.pointer (some ⟨c,o,none⟩)) h')/\
   ∀h',Le h h'->(∀(β:Type)(fl:β)(V:Value->β),w9 fl (h'.bl.get c) o V=V (.pointer (some ⟨b.bb,0,none⟩))):=by
 obtain⟨c,o,h1,h2,h3,hh⟩:=hs.ld CL i hp;refine⟨c,o,h1,h2,λh' l β fl V=>?_⟩;rw[l.get c h1];exact eY (fl:=fl) hh 0 V (by show 0<1;omega)
theorem DU(tb:Nat)(h:Heap)(V:KQ)(hk:V (.int .i64 5) h):CallW prog 293 [.pointer (some ⟨tb,0,none⟩)] h V:=by
 refine av mixed ?_;rw[abt];simp(disch:=try exact Y)only[Wz,pE];exact hk
theorem Mk(s:lH h tb bw bp bl c vb aW N Ts W wc F B)(hlo:h.lo<=h.nx)(id:Int)(V:KQ)(nZ:(∀b∈Ts,∀e∈b.M,cq e.Q id=none)->V (.pointer none) h)(dB:∀(k:Nat) b e p,Ts[k]? = some b->e∈b.M->cq e.Q id=some p->V (.pointer (some ⟨b.bb,0,none⟩)) h):CallW prog 291 [.pointer (some ⟨tb,0,none⟩),.int .i64 id] h V:=by
 refine av mixed ?_;rw[abr];have gt:=s.is.nN;simp(disch:=try exact Y)only[Wz,pE,Gt,aG,gt,aiv s.is.pq];have aoh:∀(k:Nat) b e p,Ts[k]? = some b->e∈b.M->cq e.Q id=some p->NT W id=some (k:Int)/\∃n:Nat,id=(n:Int)/\B[n]? = some true:=by
  intro k b e p hb he hf;obtain⟨hp,hpi⟩:=jV hf;refine⟨by rw[<-hpi];exact s.wh k b hb e he p hp,kJ.1 (s.ids.mem_iff.1 (List.mem_flatMap.2 ⟨b,List.mem_of_getElem? hb,mP.2 ⟨e,he,p,hp,hpi⟩⟩))⟩
 have none:NT W id=none\/¬(∃n:Nat,id=(n:Int)/\B[n]? = some true)->∀b∈Ts,∀e∈b.M,cq e.Q id=none:=by
  intro hc b hb e he;obtain⟨k,hk⟩:=List.getElem?_of_mem hb;cases hf:cq e.Q id with
  |none=>rfl
  |some p=>
   obtain⟨h1,h2⟩:=aoh k b e p hk he hf;rcases hc with hc|hc
   .rw[h1]at hc;cases hc
   .exact absurd h2 hc
 cases hl:NT W id with
 |none=>
  simp(disch:=try exact Y)only[Wz,Option.isSome_none,Option.getD_none];exact nZ (none (.inl hl))
 |some v=>
  simp(disch:=try exact Y)only[Wz,Option.isSome_some,Option.getD_some,aG,gt];refine Yh bp bl F B id h _ s.is.aX ?_;by_cases hb:∃n:Nat,id=(n:Int)/\B[n]? = some true
  ·obtain⟨n,rfl,hn⟩:=hb;have eh:(decide ((0:Int)<=(n:Int)) && (B[((n:Int)).toNat]?).getD false)=true:=by
    rw[br (by omega),Int.toNat_natCast,hn];rfl
   rw[eh];obtain⟨b,hbT,hbi⟩:=List.mem_flatMap.1 (s.ids.mem_iff.2 (kJ.2 ⟨n,rfl,hn⟩));obtain⟨e,he,p,hp,hpi⟩:=mP.1 hbi;obtain⟨k,hk⟩:=List.getElem?_of_mem hbT;have hv:v=(k:Int):=by
    have:=s.wh k b hk e he p hp;rw[hpi,hl]at this;exact Option.some.inj this
   subst hv;have hf:=Nk ((s.is.bk b hbT).good e he).vq.pair hp;rw[hpi]at hf;obtain⟨cc,oo,_,TZ,oP⟩:=VX s.is.sl k hk;have oP:=oP h (Le.refl _);simp(disch:=try exact Y)only[Wz,aG,gt,TZ,oP];exact dB k b e p hk he hf
  ·have eh:(decide ((0:Int)<=id) && (B[id.toNat]?).getD false)=false:=by
    by_cases h0:0<=id
    .have hne:B[id.toNat]?≠some true:=λe=>hb ⟨id.toNat,by omega,e⟩;rw[br h0,Bool.true_and];cases hB:B[id.toNat]? with
     |none=>rfl
     |some x=>cases x with
      |false=>rfl
      |true=>exact absurd hB hne
    .rw[aZ h0];rfl
   rw[eh];simp(disch:=try exact Y)only[Wz];exact nZ (none (.inr hb))
end
theorem ep.frame{h h':Heap}{bp bl:Nat}{F:List Int}{B:List Bool}(p:ep h bp bl F B)(hn:h.nx<=h'.nx)(hl:h'.lo=h.lo)(hc:∀c vs ty op,c<h.nx->h.bl.get c=some (aa vs ty op)->h'.bl.get c=h.bl.get c):ep h' bp bl F B:=by
 have pl:=p.lt;have fl:=p.fr.lt;obtain⟨fs,hg,hpt⟩:=p.fr.cell;refine⟨⟨by omega,by rw[hl];exact p.fr.lo,fs,(hc _ _ _ _ fl hg).trans hg,?_⟩,by omega,by rw[hl];exact p.lo,(hc _ _ _ _ pl p.cell).trans p.cell,p.ok,p.small⟩;rcases hpt with e|⟨b,G,e,k1,k2,k3,k4⟩
 .exact .inl e
 .exact .inr ⟨b,G,e,by omega,by omega,(hc _ _ _ _ k1 k3).trans k3,k4⟩
theorem bq.frame{h h':Heap}{bb bm bp bl most clock:Nat}{M:List HE}{F:List Int}{B:List Bool}(s:bq h bb bm bp bl most M clock F B)(hn:h.nx<=h'.nx)(hl:h'.lo=h.lo)(hc:∀c vs ty op,c<h.nx->h.bl.get c=some (aa vs ty op)->h'.bl.get c=h.bl.get c)(hm:h'.bl.get bm=h.bl.get bm):bq h' bb bm bp bl most M clock F B:=by
 have sb:=s.tE;have sm:=s.kO;refine⟨by omega,by omega,by rw[hl];exact s.VA,(hc _ _ _ _ sb s.iO).trans s.iO,hm.trans s.gu,s.ok,λe he=>?_,s.good,s.aX.frame hn hl hc,s.ne⟩;have a:=s.aW e he;have al:=a.lt;exact⟨by omega,(hc _ _ _ _ al a.get).trans a.get,a.qv.frame hn λc vs op h1 hg=>hc c vs _ op h1 hg⟩
section
variable {h:Heap}{tb bw bp bl:Nat}{c:h_}{vb:Value}{aW N:Nat}{Ts:List TB}{W:List IE}{wc:Nat}{F:List Int}{B:List Bool}
theorem fu.ac6(s:fu h tb bw bp bl c vb aW Ts W wc F B)(W':List IE)(AT:Nat):fu ⟨h.nx,h.bl.aV bw (.map (W'.map CJ) AT),h.lo⟩ tb bw bp bl c vb aW Ts W' AT F B:=by
 have gw:=s.pq;have hc:∀c vs ty op,c<h.nx->h.bl.get c=some (aa vs ty op)->(h.bl.aV bw (.map (W'.map CJ) AT)).get c=h.bl.get c:=by
  intro c vs ty op _ hg;refine T.aj _ _ ?_;rintro rfl;rw[hg]at gw;exact bQ gw.symm
 have hm:∀b∈Ts,(h.bl.aV bw (.map (W'.map CJ) AT)).get b.bm=h.bl.get b.bm:=λb hb=>T.aj _ _ (s.wne b hb);have k1:=Sl.JM (h':=⟨h.nx,h.bl.aV bw (.map (W'.map CJ) AT),h.lo⟩) s.sl s.ty (Nat.le_refl _) λc vs op h1 hg=>hc c vs _ op h1 hg;exact⟨s.ltt,(hc _ _ _ _ s.ltt s.nN).trans s.nN,k1.1,k1.2,s.BT,s.low,T.ah _ _ _,λb hb=>(s.bk b hb).frame (Nat.le_refl _) rfl hc (hm b hb),s.HM,s.wne,s.aX.frame (Nat.le_refl _) rfl hc,s.cS,s.s1,s.hd⟩
theorem wD.ac6{W':List IE}{AT:Nat}:wD Ts bw bp bl h ⟨h.nx,h.bl.aV bw (.map (W'.map CJ) AT),h.lo⟩:=
 by
 refine⟨Nat.le_refl _,rfl,λc _ _ h2 _ _ _=>T.aj _ _ (λe=>h2 e.symm),λ_ c _ _ h2 _ _ _=>T.aj _ _ (λe=>h2 e.symm),λ_ c _ hx=>?_⟩;by_cases e:bw=bp
 .subst e;obtain⟨n,cap,ls,hx⟩:=hx;exact absurd ((T.ah _ _ _).symm.trans hx) bQ
 .exact(FB.congr (T.aj _ _ e)).1 hx
theorem aiz(s:fu h tb bw bp bl c vb aW Ts W wc F B){t r:Int}(hn:¬dR t r c.S<0):∃(k:Nat)(b:TB),dR t r c.S=(k:Int)/\Ts[k]? = some b:=by
 have hr:=JK (t:=t) (r:=r) (s:=c.S) (by omega);have hS:=s.cS;refine⟨(dR t r c.S).toNat,Ts[(dR t r c.S).toNat]'(by omega),by omega,List.getElem?_eq_getElem _⟩
end
theorem DV{Ts:List TB}{k:Nat}{b:TB}(hk:Ts[k]? = some b)(M':List HE)(clock':Nat):(Ts.set k ⟨b.bb,b.bm,M',clock'⟩).map (·.bm)=Ts.map (·.bm):=by
 obtain⟨hl,rfl⟩:=List.getElem?_eq_some_iff.1 hk;rw[List.map_set];refine List.ext_getElem? λi=>?_;rw[List.getElem?_set];split
 .rename_i e;subst e;rw[if_pos (by simpa using hl),List.getElem?_map,List.getElem?_eq_getElem hl];rfl
 .rfl
section
variable {h h':Heap}{tb bw bp bl:Nat}{c:h_}{vb:Value}{aW N:Nat}{Ts:List TB}{W:List IE}{wc:Nat}{F F':List Int}{B:List Bool}
theorem lH.Yq(s:lH h tb bw bp bl c vb aW N Ts W wc F B){k:Nat}{b:TB}(hk:Ts[k]? = some b){M':List HE}{clock':Nat}{e:HE}(he:e∈b.M){Q1:List R5}{w1:Int}(m:kK h h' b.bb b.bm bp bl aW b.M M' clock' F' B e Q1 w1)(hid:Q1.map (·.id)=e.Q.map (·.id))(hw:w1<=e.w+1):lH h' tb bw bp bl c vb aW (N+1) (Ts.set k ⟨b.bb,b.bm,M',clock'⟩) W wc F' B:=by
 have hb:=List.mem_of_getElem? hk;have is:=s.is.bk b hb;have hp:=m.Sa is he hid;have hwe:=s.wb b hb e he;exact s.step hk m.is m.fr (λX hX=>(hp.append_right X).trans hX) (λi hi=>hp.mem_iff.1 hi) (m.sub he) (m.set.wb (s.wb b hb) (by omega)) (m.len is (s.len b hb) he) rfl
theorem lH.left(s:lH h tb bw bp bl c vb aW N Ts W wc F B){k:Nat}{b:TB}(hk:Ts[k]? = some b){M':List HE}{clock':Nat}{e:HE}(he:e∈b.M){p:R5}{n:Nat}(hf:cq e.Q (n:Int)=some p)(Bx:B[n]? = some true)(m:kK h h' b.bb b.bm bp bl aW b.M M' clock' F' (B.set n false) e (e.Q.filter λr=>!cC (n:Int) r) e.w):lH h' tb bw bp bl c vb aW (N+1) (Ts.set k ⟨b.bb,b.bm,M',clock'⟩) W wc F' (B.set n false):=by
 have hb:=List.mem_of_getElem? hk;have is:=s.is.bk b hb;have hp:=m.Sb is he hf;have hwe:=s.wb b hb e he;refine s.step hk m.is m.fr (λX hX=>?_) (λi hi=>hp.mem_iff.2 (List.mem_append.2 (.inl hi))) (m.sub he) (m.set.wb (s.wb b hb) (by omega)) (m.len is (s.len b hb) he) (List.length_set ..);have h1:=(hp.append_right X).symm.trans (hX.trans (NF Bx));rw[List.append_assoc]at h1;have h2:=(List.Perm.append_left (gK M') (List.perm_append_comm (l₁:=X) (l₂:=[(n:Int)]))).trans h1;rw[<-List.append_assoc]at h2;exact(List.perm_append_right_iff _).1 h2
theorem Se(s:lH h tb bw bp bl c vb aW N Ts W wc F B)(hlo:h.lo<=h.nx)(id:Int)(V:KQ)(DQ:(∀b∈Ts,∀e∈b.M,cq e.Q id=none)->V (.tuple ⟨[.slice none 0 0,.int .i64 5]⟩) h)(nZ:∀(k:Nat)(b:TB) h' M' clock' F' v' e p (n:Nat),Ts[k]? = some b->e∈b.M->cq e.Q id=some p->id=(n:Int)->B[n]? = some true->F'.Perm (F++[(n:Int)])->
   kK h h' b.bb b.bm bp bl aW b.M M' clock' F' (B.set n false) e (e.Q.filter λr=>!cC id r) e.w->BP h h' v' (dY (iZ (e.Q.filter λr=>!cC id r)+1) (e.Q.filter λr=>!cC id r)).2->lH h' tb bw bp bl c vb aW (N+1) (Ts.set k ⟨b.bb,b.bm,M',clock'⟩) W wc F' (B.set n false)->V (.tuple ⟨[v',.int .i64 0]⟩) h'):CallW prog 352 [.pointer (some ⟨tb,0,none⟩),.int .i64 id] h V:=by
 refine av mixed ?_;rw[abP];refine Mk s hlo id _ ?_ ?_
 .intro hno;simp(disch:=try exact Y)only[Wz,uU];refine DU tb h _ ?_;exact DQ hno
 .intro k b e p hk he hf;have hb:=List.mem_of_getElem? hk;simp(disch:=try exact Y)only[Wz,iP];refine NH (s.is.bk b hb) hlo (s.Sc hk) id _ ?_ ?_
  .intro h1 hno _;rw[hno e he]at hf;cases hf
  .intro h1 M' clock' F' v' e1 p1 n xM NW hid Bx hpF mv ho;simp(disch:=try exact Y)only[Wz];have mv':=mv;have hf':=NW;rw[hid]at hf' mv';exact nZ k b h1 M' clock' F' v' e1 p1 n hk xM NW hid Bx hpF mv ho (s.left hk xM hf' Bx mv')
theorem HO{β:Type}{fl:β}(cn:Bool)(b o:Nat)(h:Heap)(V:Z7 β):ay fl prog .neq 119 cn false (.pointer (some ⟨b,o,none⟩)) (.pointer none) h V=V (.bool true) h:=by simp only[ay,Yp,bK,Bool.not_false]
end
theorem ep.AU{h h':Heap}{bp bl:Nat}{F:List Int}{B:List Bool}(p:ep h bp bl F B)(hn:h.nx<=h'.nx)(hl:h'.lo=h.lo)(hc:∀c vs ty op,c<h.nx->ty≠205->ty≠194->h.bl.get c=some (aa vs ty op)->h'.bl.get c=h.bl.get c):ep h' bp bl F B:=by
 have pl:=p.lt;have fl:=p.fr.lt;obtain⟨fs,hg,hpt⟩:=p.fr.cell;refine⟨⟨by omega,by rw[hl];exact p.fr.lo,fs,(hc _ _ _ _ fl (by decide) (by decide) hg).trans hg,?_⟩,by omega,by rw[hl];exact p.lo,(hc _ _ _ _ pl (by decide) (by decide) p.cell).trans p.cell,p.ok,p.small⟩;rcases hpt with e|⟨b,G,e,k1,k2,k3,k4⟩
 .exact .inl e
 .exact .inr ⟨b,G,e,by omega,by omega,(hc _ _ _ _ k1 (by decide) (by decide) k3).trans k3,k4⟩
theorem bq.AU{h h':Heap}{bb bm bp bl most clock:Nat}{M:List HE}{F:List Int}{B:List Bool}(s:bq h bb bm bp bl most M clock F B)(hn:h.nx<=h'.nx)(hl:h'.lo=h.lo)(hc:∀c vs ty op,c<h.nx->ty≠205->ty≠194->h.bl.get c=some (aa vs ty op)->h'.bl.get c=h.bl.get c)(hm:h'.bl.get bm=h.bl.get bm):bq h' bb bm bp bl most M clock F B:=by
 have sb:=s.tE;have sm:=s.kO;refine⟨by omega,by omega,by rw[hl];exact s.VA,(hc _ _ _ _ sb (by decide) (by decide) s.iO).trans s.iO,hm.trans s.gu,s.ok,λe he=>?_,s.good,s.aX.AU hn hl hc,s.ne⟩;have a:=s.aW e he;have al:=a.lt;exact⟨by omega,(hc _ _ _ _ al (by decide) (by decide) a.get).trans a.get,a.qv.frame hn λc vs op h1 hg=>hc c vs _ op h1 (by decide) (by decide) hg⟩
theorem HS(H:Int)(bp:Nat)(h:Heap)(V:KQ)(hh:¬(1<=H/\H<=64))(hk:V (.tuple ⟨[.pointer none,.int .i64 2]⟩) h):CallW prog 153 [.int .i64 H,.pointer (some ⟨bp,0,none⟩)] h V:=by
 refine av mixed ?_;rw[Q6];by_cases h1:H<1
 .simp(disch:=try exact Y)only[Wz,br h1];exact hk
 .simp(disch:=try exact Y)only[Wz,aZ h1,fV (show(64:Int)<H by omega)];exact hk
theorem NY(R:Int)(h:Heap)(V:KQ)(hh:128<R)(hk:V (.tuple ⟨[.pointer none,.int .i64 2]⟩) h):CallW prog 152 [.int .i64 R] h V:=by
 refine av mixed ?_;rw[Q5];simp(disch:=try exact Y)only[Wz,dL (show(0:Int)<=R by omega),fV hh];exact hk
theorem VY(S H R P:Int)(bp:Addr)(b:Nat)(V:List Value->Prop):bg False [(6,1)] [.map (some b)] [.int .i64 S,.int .i64 H,.int .i64 R,.int .i64 P,.pointer (some bp),.slice none 0 0,.map none] V=V [.int .i64 S,.int .i64 H,.int .i64 R,.int .i64 P,.pointer (some bp),.slice none 0 0,.map (some b)]:=by kernel_rfl
theorem HT(n:Nat):lz (List.replicate n false)=[]:=by
 rw[List.eq_nil_iff_forall_not_mem];intro x hx;obtain⟨k,_,hn⟩:=kJ.1 hx;rw[List.getElem?_replicate]at hn;split at hn<;>simp at hn
def uV(c:h_):Value:=.agg ⟨[.int .i64 c.S,.int .i64 c.H,.int .i64 c.R,.int .i64 c.P]⟩
def jY(c:h_):Prop:=1<=c.S/\c.S<=16/\0<=c.P/\c.P<=8/\1<=c.R/\c.R<=128/\1<=c.H/\c.H<=64
theorem VZ(c:h_)(h:Heap)(V:KQ)(hlo:h.lo<=h.nx)(JN:∀h' (e:Int),e=2->¬jY c->Le h h'->V (.tuple ⟨[.pointer none,.int .i64 e]⟩) h')(Yi:∀h' tb bw bp bl vb aW Ts F,jY c->lH h' tb bw bp bl c vb aW 0 Ts [] 0 F (List.replicate c.R.toNat false)->(∀b∈Ts,h.nx<=b.bm)->h.nx<=bw->h.nx<=bp->h.nx<=bl->Le h h'->(∀x,FB h' bp x->h.nx<=x)->V (.tuple ⟨[.pointer (some ⟨tb,0,none⟩),.int .i64 0]⟩) h'):CallW prog 98 [uV c] h V:=by
 refine av mixed ?_;rw[agZ];simp(disch:=try exact Y)only[Wz,uV];obtain⟨hA,aT,aL,g1,dy,dz⟩:=kf h (aa [.int .i64 c.S,.int .i64 c.H,.int .i64 c.R,.int .i64 c.P] 115 false);rw[<-aT];clear aT;by_cases hS1:c.S<1
 .simp(disch:=try exact Y)only[Wz,br hS1];exact JN _ 2 rfl (by unfold jY;omega) aL
 by_cases hS2:16<c.S
 .simp(disch:=try exact Y)only[Wz,aZ hS1,g1,br hS2];exact JN _ 2 rfl (by unfold jY;omega) aL
 by_cases hP1:c.P<0
 .simp(disch:=try exact Y)only[Wz,aZ hS1,g1,aZ hS2,br hP1];exact JN _ 2 rfl (by unfold jY;omega) aL
 by_cases hP2:8<c.P
 .simp(disch:=try exact Y)only[Wz,aZ hS1,g1,aZ hS2,aZ hP1,br hP2];exact JN _ 2 rfl (by unfold jY;omega) aL
 by_cases T_:c.R<1
 .simp(disch:=try exact Y)only[Wz,aZ hS1,g1,aZ hS2,aZ hP1,aZ hP2,br T_];exact JN _ 2 rfl (by unfold jY;omega) aL
 simp(disch:=try exact Y)only[Wz,aZ hS1,g1,aZ hS2,aZ hP1,aZ hP2,aZ T_,LZ];by_cases Yr:128<c.R
 .refine NY c.R hA _ Yr ?_;simp(disch:=try exact Y)only[Wz];exact JN _ 2 rfl (by unfold jY;omega) aL
 obtain⟨R,eR⟩:∃R:Nat,c.R=(R:Int):=⟨c.R.toNat,by omega⟩
 rw[eR];refine NB R hA _ (by omega) (by omega) ?_;intro bp bl h2 F p hne h2p h2l hF BQ aok;have n2:=BQ.nx;have l2:=BQ.lo;have atH:=p.fr.lt;have atI:=p.lt;have g12:=(BQ.get h.nx (by omega)).trans g1;rw[eR]at g12;simp(disch:=try exact Y)only[Wz,LY,g12,VY,fI];obtain⟨hB,gI,bV,gw,gt,BN,BO⟩:=BF h2 (.map [] 0) (aa [.int .i64 c.S,.int .i64 c.H,.int .i64 (R:Int),.int .i64 c.P,.pointer (some ⟨bp,0,none⟩),.slice none 0 0,.map (some h2.nx)] 194 false);rw[<-gI];clear gI;have pW:=bV.nx;have pX:=bV.lo;have g12:=bV.up g12;by_cases hH:1<=c.H/\c.H<=64
 case neg=>
  refine⟨λn l h1=>slot l 26=.int .i64 0/\HQ hB h1,⟨0,rfl,rfl⟩,?_⟩;rintro n l h1 ⟨s1,hq⟩;cases(show hB=h1 from hq);simp(disch:=try exact Y)only[Wz,s1,fV (show(0:Int)<c.S by omega),DF,g12];refine HS c.H bp hB _ hH ?_;simp(disch:=try exact Y)only[Wz];exact JN _ 2 rfl (by unfold jY;omega) ((aL.trans BQ).trans bV)
 obtain⟨aW,eH⟩:∃n:Nat,c.H=(n:Int):=⟨c.H.toNat,by omega⟩
 obtain⟨S,eS⟩:∃n:Nat,c.S=(n:Int):=⟨c.S.toNat,by omega⟩
 refine ⟨λn l h1=>∃(i:Nat)(Ts:List TB)(v:Value),slot l 26=.int .i64 (i:Int)/\n=S-i/\i<=S/\Ts.length=i/\h1.bl.get (h2.nx+1)=some (aa [.int .i64 c.S,.int .i64 c.H,.int .i64 (R:Int),.int .i64 c.P,.pointer (some ⟨bp,0,none⟩),v,.map (some h2.nx)] 194 false)/\
   h1.bl.get h2.nx=some (.map [] 0)/\fC pn h2 205 h1 v Ts/\ep h1 bp bl F (List.replicate R false)/\(∀b∈Ts,bq h1 b.bb b.bm bp bl aW [] 0 F (List.replicate R false)/\b.M=[]/\b.clock=0/\hB.nx<=b.bm)/\Ts.Pairwise (λa b=>a.bm≠b.bm)/\Le h2 h1/\hB.nx<=h1.nx,
  ⟨_,0,[],_,rfl,rfl,by omega,rfl,gt,gw,.inl ⟨rfl,.inl rfl⟩,p.le bV,λb hb=>(nomatch hb),List.Pairwise.nil,bV,Nat.le_refl _⟩,?_⟩
 rintro n l h1 ⟨i,Ts,v,s1,rfl,hi,hTl,gt1,Ys,ho,p1,hbk,hds,bG,nB⟩;have n1:=bG.nx;have l1:=bG.lo;by_cases hlt:i<S
 .have aol:=(bG.get h.nx (by omega)).trans ((BQ.get h.nx (by omega)).trans g1);simp(disch:=try exact Y)only[Wz,s1,fV (show(i:Int)<c.S by omega),DF,aol,eH];refine HH aW bp h1 _ (by omega) (by omega) ?_;intro h3 dg nx3 gm3 Zy;have n3:=dg.nx;have l3:=dg.lo;have gt3:=dg.up gt1;obtain⟨vx,vc,ev,_⟩:=(show Sl pn h1 v Ts from ho.sl)
  simp(disch:=try exact Y)only[Wz,LX,aG,gt3];obtain⟨h4,e4⟩:∃h4:Heap,h4=⟨h3.nx+1,h3.bl.aV h3.nx (aa [.pointer (some ⟨h1.nx+1,0,none⟩)] 205 false),h3.lo⟩:=⟨_,rfl⟩
  have iS:Le h3 h4:=by rw[e4];exact(Le.refl h3).new _
  have g4:h4.bl.get h3.nx=some (aa ([(⟨h1.nx+1,h1.nx,[],0⟩:TB)].flatMap pn) 205 false):=by rw[e4];exact T.ah _ _ _
  have nx4:h4.nx=h3.nx+1:=by rw[e4]
  have l4:h4.lo=h3.lo:=by rw[e4]
  try rw[<-e4]
  clear e4;have Sf:=dg.trans iS;have gt4:=iS.up gt3;refine jk (enc:=pn) (a:=h2) (L:=Ts) (M:=[(⟨h1.nx+1,h1.nx,[],0⟩:TB)]) CL NV (by decide) (by decide) (ho.le Sf) (Sl.new (by omega) g4 _) (bG.trans Sf) (by simp;omega) (by omega) _ ?_;intro v5 h5 tC vw nx5 atK l5 AQ;have gt5:=(AQ (h2.nx+1) (by omega) (by rw[gt4];exact bx)).trans gt4;obtain⟨vx5,vc5,ev5,_⟩:=(show Sl pn h5 v5 _ from tC.sl)
  subst ev5;simp(disch:=try exact Y)only[Wz,aG,gt5];have NG:∀c vs ty op,c<h4.nx->ty≠205->h4.bl.get c=some (aa vs ty op)->h5.bl.get c=h4.bl.get c:=λc vs ty op hc hty hg=>AQ c hc (by rw[hg];exact bz hty);have fm5:∀c es cl,c<h4.nx->h4.bl.get c=some (.map es cl)->h5.bl.get c=h4.bl.get c:=λc es cl hc hg=>AQ c hc (by rw[hg];exact bQ);obtain⟨h6,e6⟩:∃h6:Heap,h6=⟨h5.nx,h5.bl.aV (h2.nx+1) (aa [.int .i64 c.S,.int .i64 c.H,.int .i64 (R:Int),.int .i64 c.P,.pointer (some ⟨bp,0,none⟩),.slice vx5 (Ts++[(⟨h1.nx+1,h1.nx,[],0⟩:TB)]).length vc5,.map (some h2.nx)] 194 false),h5.lo⟩:=⟨_,rfl⟩
  have gt6:h6.bl.get (h2.nx+1)=some (aa [.int .i64 c.S,.int .i64 c.H,.int .i64 (R:Int),.int .i64 c.P,.pointer (some ⟨bp,0,none⟩),.slice vx5 (Ts++[(⟨h1.nx+1,h1.nx,[],0⟩:TB)]).length vc5,.map (some h2.nx)] 194 false):=by rw[e6];exact T.ah _ _ _
  have aiB:∀d,d≠h2.nx+1->h6.bl.get d=h5.bl.get d:=λd hd=>by rw[e6];exact T.aj _ _ (λe=>hd e.symm)
  have Rv:fC pn h2 205 h6 (.slice vx5 (Ts++[(⟨h1.nx+1,h1.nx,[],0⟩:TB)]).length vc5) (Ts++[(⟨h1.nx+1,h1.nx,[],0⟩:TB)]):=by rw[e6];exact fC.put tC (by rw[gt5];exact bx) _
  have Mb:Le h2 h6:=by rw[e6];exact vw.set (b:=h2.nx+1) (by omega) _
  have nx6:h6.nx=h5.nx:=by rw[e6]
  have l6:h6.lo=h5.lo:=by rw[e6]
  rw[<-e6];clear e6;have hc6:∀d vs ty op,d<h4.nx->ty≠205->ty≠194->h4.bl.get d=some (aa vs ty op)->h6.bl.get d=h4.bl.get d:=by
   intro d vs ty op hd h1 h2' hg;refine(aiB d ?_).trans (NG d vs ty op hd h1 hg);rintro rfl;rw[hg]at gt4;exact bz h2' gt4
  have hm6:∀d es cl,d<h4.nx->h4.bl.get d=some (.map es cl)->h6.bl.get d=h4.bl.get d:=by
   intro d es cl hd hg;refine(aiB d ?_).trans (fm5 d es cl hd hg);rintro rfl;rw[hg]at gt4;exact bQ gt4
  have gw4:=(Sf.get h2.nx (by omega)).trans Ys;have p4:=p1.le Sf;have p6:=p4.AU (by omega) (by omega) hc6;have jX:bq h4 (h1.nx+1) h1.nx bp bl aW [] 0 F (List.replicate R false):=⟨by omega,by omega,by omega,iS.up Zy,iS.up gm3,⟨List.Pairwise.nil,List.Pairwise.nil,λe he=>(nomatch he)⟩,λe he=>(nomatch he),λe he=>(nomatch he),p4,hne⟩
  have E_:∀b∈Ts,b.bm<h1.nx:=λb hb=>(hbk b hb).1.kO;simp(disch:=try exact Y)only[Wz,s1];refine⟨_,by omega,i+1,Ts++[⟨h1.nx+1,h1.nx,[],0⟩],.slice vx5 (Ts++[(⟨h1.nx+1,h1.nx,[],0⟩:TB)]).length vc5,rfl,rfl,by omega,by simp;omega,by rw[<-eH];exact gt6,(hm6 _ _ _ (by omega) gw4).trans gw4,Rv,p6,?_,?_,Mb,by omega⟩
  .intro b hb;rcases List.mem_append.1 hb with hb|hb
   .obtain⟨k1,k2,k3,k4⟩:=hbk b hb;have k5:=k1.le Sf;exact⟨k5.AU (by omega) (by omega) hc6 (hm6 _ _ _ k5.kO k5.gu),k2,k3,k4⟩
   .rw[List.mem_singleton]at hb;subst hb;exact⟨jX.AU (by omega) (by omega) hc6 (hm6 _ _ _ jX.kO jX.gu),rfl,rfl,nB⟩
  .exact uy hds λq hq=>Nat.ne_of_lt (E_ q hq)
 .have hiS:i=S:=by omega
  simp(disch:=try exact Y)only[Wz,s1,dL (show c.S<=(i:Int)by omega)];have hnil:∀b∈Ts,b.M=[]:=λb hb=>(hbk b hb).2.1;have hM:∀(k:Nat)(b:TB),Ts[k]? = some b->b.M=[]:=λk b hb=>hnil b (List.mem_of_getElem? hb);have BR:(Ts.flatMap λb=>gK b.M)=[]:=by
   rw[List.flatMap_eq_nil_iff];intro b hb;rw[hnil b hb];rfl
  have eRn:c.R.toNat=R:=by omega
  refine Yi h1 (h2.nx+1) h2.nx bp bl v aW Ts F (by unfold jY;omega) ⟨⟨by omega,by rw[eR];exact gt1,ho.sl,yb.own ho,by omega,by omega,Ys,λb hb=>?_,hds,λb hb=>?_,by rw[eRn];exact p1,by omega,by omega,by omega⟩,?_,?_,?_,?_,?_,?_,by omega⟩ (λb hb=>?_) (by omega) (by omega) (by omega) ?_ ?_
  .obtain⟨k1,k2,k3,k4⟩:=hbk b hb;rw[k2,k3,eRn];exact k1
  .have:=(hbk b hb).2.2.2;omega
  .rw[BR,HT]
  .intro k b hk e he;rw[hM k b hk]at he;nomatch he
  .intro k b hk e he;rw[hM k b hk]at he;nomatch he
  .intro b hb e he;rw[hnil b hb]at he;nomatch he
  .intro b hb;rw[hnil b hb];exact Nat.zero_le _
  .rw[List.length_replicate];omega
  .have:=(hbk b hb).2.2.2;omega
  .exact aL.trans (BQ.trans bG)
  .intro x hx;have:=aok x ((FB.congr (bG.get bp p.fr.lt)).1 hx);omega
structure HC where
 t:Int
 r:Int
 a:Option Addr
 n:Nat
 c:Nat
 w:Int
instance :Inhabited HC:=⟨⟨0,0,none,0,0,0⟩⟩
def AV(x:HC):List Value:=[.int .i64 x.t,.int .i64 x.r,.slice x.a x.n x.c,.int .i64 x.w]
def cfH(x y:HC):Int:=T9 (x.t,x.r) (y.t,y.r)
theorem aoo:Go.Sort.SWO (ltOf cfH) where
 irrefl x:=VP.irrefl (x.t,x.r)
 trans x y z h1 h2:=VP.trans (x.t,x.r) (y.t,y.r) (z.t,z.r) h1 h2
 ntrans x y z h1 h2:=VP.ntrans (x.t,x.r) (y.t,y.r) (z.t,z.r) h1 h2
theorem JO(t r t' r':Int)(W:World):Calls prog 96 #[.agg #[.int .i64 t,.int .i64 r],.agg #[.int .i64 t',.int .i64 r']] W λe w'=>e=.returned (.int .i64 (q9 t r t' r'))/\∃q os',w'=Go.Sort.grow (W.drewN q) os':=
 AP (args:=[cV t r,cV t' r']) (args':=[cV t r,cV t' r']) (nM t r t' r' rfl) (.cons (VR.vF (.cons (.int _ _) (.cons (.int _ _) .nil))) (.cons (VR.vF (.cons (.int _ _) (.cons (.int _ _) .nil))) .nil)) rfl W
theorem Sg(x y:HC)(W:World):Calls prog 111 #[.agg #[.int .i64 x.t,.int .i64 x.r,.slice x.a x.n x.c,.int .i64 x.w],.agg #[.int .i64 y.t,.int .i64 y.r,.slice y.a y.n y.c,.int .i64 y.w]] W λe w'=>e=.returned (.int .i64 (cfH x y))/\∃q os',w'=Go.Sort.grow (W.drewN q) os':=by
 have aiC:=λW'=>JO x.t x.r y.t y.r W'
 show Calls _ _ _ _ λe w'=>e=.returned (.int .i64 (q9 x.t x.r y.t y.r))/\_
 generalize q9 x.t x.r y.t y.r=v at aiC ⊢;generalize x.t=xt,x.r=xr,y.t=yt,y.r=yr at *
 go_enter Tryz.func111,Tryz.ntmps111
 go_wp2_with (go_at_call 96;refine(aiC _).mono ?_;rintro e w' ⟨rfl,q,os',rfl⟩)
 go_ret
 refine⟨rfl,?_⟩;rw[Go.Sort.alloc_eq_grow,Go.Sort.alloc_eq_grow,Go.Sort.grow_grow];exact⟨q,_,(show Go.Sort.grow (Go.Sort.grow (W.drewN q) _) os'=_ from Go.Sort.grow_grow _ _ _)⟩
theorem Sh(blk size:Nat)(w:World):Go.Proofs.CmpLays prog 111 #[] AV 4 cfH blk 0 size w:=by
 intro m os dk _ x y;exact Sg x y _
theorem xC:∀args w,(callFunc 110 args).run prog w=.ok (.enter 110 args) w:=enters_of Tryz.func110 (by kernel_rfl) rfl
theorem DW(blk cap:Nat)(d:Array HC)(w:World)(hH:Go.Sort.HoldsK AV 4 w blk 0 d)(hblk:blk<w.heap.size)(hsz:d.size<4611686018427387904):Calls prog 110 #[.slice (some ⟨blk,0,none⟩) d.size cap,.func (.func 111) #[] #[]] w λe w'=>e=.returned (.tuple #[])/\∃d' n os,Go.Sort.PermIn 0 d.size d d'/\Go.Sort.SortedIn (λx y=>ltOf T9 (x.t,x.r) (y.t,y.r)) 0 d.size d'/\w'=Go.Proofs.sortWorldK AV 4 w blk 0 n d' os:=by
 have eg:∀args w,(callFunc 111 args).run prog w=.ok (.enter 111 args) w:=enters_of Tryz.func111 (by kernel_rfl) rfl;exact Go.Proofs.AnyQ.slices_SortFunc Tryz.HD 4 Tryz.isAgg55 Tryz.sizeOf55 AV (λ_=>rfl) (λx v hv=>by simp[AV]at hv;rcases hv with rfl|rfl|rfl|rfl<;>rfl) cfH aoo 111 #[] blk 0 cap d w eg (Sh blk d.size w) hH hblk hsz
theorem BU(p:Option Addr)(cap:Nat)(fv:Value)(w:World):Calls prog 110 #[.slice p 0 cap,fv] w λe w'=>e=.returned (.tuple #[])/\w'=w:=Go.Proofs.AnyF.slices_SortFunc_none Tryz.HD p cap fv w
theorem Si(q:Value):∃a n c,slV q=.slice a n c:=by
 unfold slV;split
 .exact⟨_,_,_,rfl⟩
 .exact⟨_,_,_,rfl⟩
theorem VR.toSlice{φ:ee}{a:Option Addr}{n c:Nat}{v:Value}(h:VR φ (.slice a n c) v):∃a' n' c',v=.slice a' n' c':=by
 cases h<;>exact⟨_,_,_,rfl⟩
theorem aop(φ:ee)(x:HE)(cs:List Value)(h:F2 (VR φ) (tH x) cs):∃y:HC,cs=AV y/\(x.t,x.r)=(y.t,y.r):=by
 obtain⟨a,n,c,e⟩:=Si x.q;unfold tH at h;rw[e]at h;cases h with|cons h1 h=>
 cases h with|cons h2 h=>
 cases h with|cons h3 h=>
 cases h with|cons h4 h=>
 cases h;cases h1;cases h2;cases h4;obtain⟨a',n',c',rfl⟩:=VR.toSlice h3;exact⟨⟨x.t,x.r,a',n',c',x.w⟩,rfl,rfl⟩
theorem V0(a h:Heap)(K:List HE)(v:Value)(V:KQ)(ho:R3 a h v K)(hle:Le a h)(hl:K.length<=1000000)(hk:∀(D:List HE) h',D.Perm K->D.Pairwise (λx y=>¬Bp (y.t,y.r) (x.t,x.r))->R3 a h' v D->Le a h'->(h'.nx=h.nx/\∀c,c<h.nx->h.bl.get c≠some (aa (K.flatMap tH) 55 true)->h'.bl.get c=h.bl.get c)->V (.tuple ⟨[]⟩) h'):CallW prog 110 [v,.func (.func 111) #[] #[]] h V:=by
 rcases ho with⟨rfl,hv⟩|⟨b,hv,h1,h2,h3,h4⟩
 .exact NM xC BU hv (hk [] h (List.Perm.refl _) List.Pairwise.nil (.inl ⟨rfl,hv⟩) hle ⟨rfl,λ_ _ _=>rfl⟩)
 .cases hv;refine Me (by decide) (enc:=AV) (dm:=tH) (λ_=>rfl) uR (kA:=λx=>(x.t,x.r)) (kC:=λx=>(x.t,x.r)) (lt:=λx y=>ltOf T9 x y) aop xC DW h4 h3 hl ?_;intro D hp hs;refine hk D _ hp (hs.imp λ{x y} h=>Mf.1 h) (.inr ⟨b,by rw[hp.length_eq],h1,h2,h3,T.ah _ _ _⟩) ⟨hle.nx,hle.lo,λc hc=>?_⟩ ⟨rfl,λc hc hne=>?_⟩
  .exact(T.aj _ _ (by omega)).trans (hle.get c hc)
  .refine T.aj _ _ ?_;rintro rfl;exact hne h4
structure aiD(h:Heap)(Ts:List TB)(v:Value)(K:List HE):Prop where
 perm:(K.map cT).Perm (Ts.flatMap λb=>b.M.map cT)
 srt:(K.map cT).Pairwise Bp
 each:∀k∈K,(∃b∈Ts,∃e∈b.M,Mh k e)/\QV h k.q k.Q
 sl:Sl tH h v K
 ty:yb 55 h v
theorem wD.keep{h h':Heap}{tb bw bp bl:Nat}{c:h_}{vb:Value}{aW:Nat}{Ts:List TB}{W:List IE}{wc:Nat}{F:List Int}{B:List Bool}(s:fu h tb bw bp bl c vb aW Ts W wc F B)(f:wD Ts bw bp bl h h'){d:Nat}{vs:List Value}{ty:TypeId}{op:Bool}(hd:d<h.nx)(hg:h.bl.get d=some (aa vs ty op))(h1:ty≠286)(h2:ty≠4)(h3:ty≠3):h'.bl.get d=h.bl.get d:=by
 obtain⟨fs,AB,hpt⟩:=s.aX.fr.cell;have gl:=s.aX.cell;have gw:=s.pq;refine f.get d hd (λb hb=>?_) (by rintro rfl;rw[hg]at gw;exact bQ gw.symm) (by rintro rfl;rw[hg]at AB;exact bz h1 AB) (by rintro rfl;rw[hg]at gl;exact bz h2 gl) λws=>by rw[hg];exact bz h3
 rintro rfl;have gm:=(s.bk b hb).gu;rw[hg]at gm;exact bQ gm.symm
section
variable {h:Heap}{tb bw bp bl:Nat}{c:h_}{vb:Value}{aW N:Nat}{Ts:List TB}{W:List IE}{wc:Nat}{F:List Int}{B:List Bool}
theorem lH.nodup(s:lH h tb bw bp bl c vb aW N Ts W wc F B):(Ts.flatMap λb=>b.M.map cT).Nodup:=by
 rw[List.Nodup,List.pairwise_flatMap];constructor
 .intro b hb;rw[List.pairwise_map];exact(s.is.bk b hb).ok.nm.imp λhn e=>hn ⟨congrArg Prod.fst e,congrArg Prod.snd e⟩
 .rw[fe];intro i j p q hij hp hq x hx y hy hxy;obtain⟨e,he,rfl⟩:=List.mem_map.1 hx;obtain⟨f,hf,rfl⟩:=List.mem_map.1 hy;have h1:=s.nm i p hp e he;have h2:=s.nm j q hq f hf;have e1:e.t=f.t:=congrArg Prod.fst hxy;have e2:e.r=f.r:=congrArg Prod.snd hxy;rw[e1,e2,h2]at h1;omega
theorem NZ{α β:Type}(f:α->List β){L:List α}{i:Nat}{b:α}(h:L[i]? = some b):(L.take (i+1)).flatMap f=(L.take i).flatMap f++f b:=by
 rw[List.take_add_one,h,List.flatMap_append];simp
theorem V1(s:lH h tb bw bp bl c vb aW N Ts W wc F B)(hlo:h.lo<=h.nx)(V:KQ)(hk:∀v h' K,aiD h' Ts v K->Le h h'->V v h'):CallW prog 62 [.pointer (some ⟨tb,0,none⟩)] h V:=by
 refine av mixed ?_;rw[agD];have gt:=s.is.nN;have hs1:=s.is.s1;obtain⟨vx,vc,ev,_⟩:=(show Sl pn h vb Ts from s.is.sl)
 have aiE:∀(β:Type)(fl:β)(h':Heap)(V:Z7 β),bJ fl vb h' V=V (.int .i64 (Ts.length:Int)) h':=λβ fl h' V=>by rw[ev];exact iu _ _ _ _ _
 simp(disch:=try exact Y)only[Wz,pE,aG,gt,aiE];have atP:=s.is.hd;refine⟨λn l h1=>∃(i:Nat)(K:List HE),slot l 10=.int .i64 (i:Int)/\n=Ts.length-i/\i<=Ts.length/\(K.map cT).Perm ((Ts.take i).flatMap λb=>b.M.map cT)/\(∀k∈K,(∃b∈Ts,∃e∈b.M,Mh k e)/\QV h1 k.q k.Q)/\K.length<=64*i/\R3 h h1 (slot l 8) K/\Le h h1,
  ⟨_,0,[],rfl,rfl,by omega,by simp,λk hk=>(nomatch hk),by simp,.inl ⟨rfl,.inl rfl⟩,Le.refl _⟩,?_⟩
 rintro n l h1 ⟨i,K,s1,rfl,hi,hp,hE,hKl,ho,bG⟩;have n1:=bG.nx;have l1:=bG.lo;by_cases hlt:i<Ts.length
 .obtain⟨b,hb⟩:∃b,Ts[i]? = some b:=⟨_,List.getElem?_eq_getElem hlt⟩
  have hbT:=List.mem_of_getElem? hb;obtain⟨cc,oo,_,TZ,oP⟩:=VX s.is.sl i hb;have oP:=oP h1 bG;have sb:=(s.is.bk b hbT).le bG;have hbl:=s.len b hbT;simp(disch:=try exact Y)only[Wz,DC,s1,fV (show(i:Int)<(Ts.length:Int)by omega),TZ,oP];refine NO sb (by omega) (by omega) _ ?_;intro v2 h2 K2 X2 hp2 hs2 hE2 ny bt;have n2:=bt.nx;have l2:=bt.lo;refine jk (enc:=tH) (a:=h) (L:=K) (M:=K2) uR HG (by decide) (by decide) (ho.le bt) ny.sl (bG.trans bt) (by omega) (by omega) _ ?_;intro v5 h5 tC vw _ n5 l5 AQ;have NG:∀d vs op,d<h2.nx->h2.bl.get d=some (aa vs 57 op)->h5.bl.get d=h2.bl.get d:=λd vs op hc hg=>AQ d hc (by rw[hg];exact bz (by decide));refine⟨_,by omega,i+1,K++K2,rfl,rfl,by omega,?_,?_,by rw[List.length_append];omega,tC,vw⟩
  .rw[NZ _ hb,List.map_append];exact hp.append hp2
  .intro k hk';rcases List.mem_append.1 hk' with hk'|hk'
   .exact⟨(hE k hk').1,((hE k hk').2.le bt).frame n5 NG⟩
   .obtain⟨e,he,se⟩:=(hE2 k hk').1;exact⟨⟨b,hbT,e,he,se⟩,(hE2 k hk').2.frame n5 NG⟩
 .have hil:i=Ts.length:=by omega
  subst hil;rw[List.take_length]at hp;simp(disch:=try exact Y)only[Wz,DC,s1,dL (show(Ts.length:Int)<=(Ts.length:Int)by omega)];refine V0 h h1 K _ _ ho bG (by omega) ?_;intro D h' hD hpw ho' le' hfr;have hnd:(D.map cT).Nodup:=(((hD.map cT).trans hp).nodup_iff).2 s.nodup;refine hk _ h' D ⟨(hD.map cT).trans hp,?_,λk hk'=>?_,ho'.sl,yb.own ho'⟩ le'
  ·have h1:(D.map cT).Pairwise λx y=>¬Bp y x:=by
    rw[List.pairwise_map];exact hpw.imp λ{x y} h=>h
   exact(hnd.and h1).imp λ{x y} ⟨hne,hn⟩=>Md (λe=>hne e.symm) hn
  .have:=hE k (hD.mem_iff.1 hk');exact⟨this.1,this.2.frame (by omega) λd vs op hc hg=>hfr.2 d hc (by rw[hg];exact bz (by decide))⟩
end
structure L4 where
 x:Int
 t:Int
 r:Int
 m:Int
theorem ac7{p q:L4}:p=q<->(p.x=q.x/\p.t=q.t/\p.r=q.r/\p.m=q.m):=by cases p;cases q;simp
instance :DecidableEq L4:=λp q=>decidable_of_iff _ ac7.symm
instance :Inhabited L4:=⟨⟨0,0,0,0⟩⟩
def cI(a:L4):List Value:=[.int .i64 a.x,.int .i64 a.t,.int .i64 a.r,.int .i64 a.m]
theorem cW(a:L4):(cI a).length=4:=rfl
theorem q_(a:L4):(cI a).all dJ=true:=rfl
abbrev DX(a h:Heap)(v:Value)(L:List L4):Prop:=fC cI a 46 h v L
section
variable {h:Heap}{tb bw bp bl:Nat}{c:h_}{vb:Value}{aW N:Nat}{Ts:List TB}{W:List IE}{wc:Nat}{F:List Int}{B:List Bool}
end
theorem V2(id:Int)(h:Heap)(V:KQ)(hk:V (.pointer none) h):CallW prog 343 [.pointer none,.int .i64 id] h V:=by
 refine av mixed ?_;rw[Rm];simp(disch:=try exact Y)only[Wz,uU];exact hk
theorem Sj(id:Int)(h:Heap)(V:KQ)(hlo:h.lo<=h.nx)(hk:∀h',Le h h'->V (.tuple ⟨[cV 0 0,mK ⟨0,0,0,0,0⟩,.bool false]⟩) h'):CallW prog 292 [.pointer none,.int .i64 id] h V:=by
 refine av mixed ?_;rw[Rj];simp(disch:=try exact Y)only[Wz];obtain⟨hA,aT,aL,g1,g3,dy,dz⟩:=BF h (aa [.int .i64 0,.int .i64 0] 28 false) (lQ ⟨0,0,0,0,0⟩);rw[<-aT];clear aT;refine V2 id hA _ ?_;simp(disch:=try exact Y)only[Wz,qX,g1,g3,bH];exact hk _ ((aL.set (by omega) _).set (by omega) _)
section
variable {h:Heap}{tb bw bp bl:Nat}{c:h_}{vb:Value}{aW N:Nat}{Ts:List TB}{W:List IE}{wc:Nat}{F:List Int}{B:List Bool}
theorem ac8(s:lH h tb bw bp bl c vb aW N Ts W wc F B)(hlo:h.lo<=h.nx)(id:Int)(V:KQ)(nZ:∀h',(∀b∈Ts,∀e∈b.M,cq e.Q id=none)->Le h h'->V (.tuple ⟨[cV 0 0,mK ⟨0,0,0,0,0⟩,.bool false]⟩) h')(dB:∀h' b e p,b∈Ts->e∈b.M->cq e.Q id=some p->Le h h'->V (.tuple ⟨[cV e.t e.r,mK p,.bool true]⟩) h'):CallW prog 209 [.pointer (some ⟨tb,0,none⟩),.int .i64 id] h V:=by
 refine av mixed ?_;rw[aaZ];simp(disch:=try exact Y)only[Wz];obtain⟨hA,aT,aL,g1,g3,dy,dz⟩:=BF h (aa [.int .i64 0,.int .i64 0] 28 false) (lQ ⟨0,0,0,0,0⟩);rw[<-aT];clear aT;refine Mk (s.le aL) (by omega) id _ ?_ ?_
 .intro hno;refine Sj id hA _ (by omega) ?_;intro h2 bt;have o5:=bt.nx;have o_:=bt.lo;have g1:=bt.up g1;have g3:=bt.up g3;simp(disch:=try exact Y)only[Wz,cV,bH,g1,g3];exact nZ _ hno (((aL.trans bt).set (by omega) _).set (by omega) _)
 .intro k b e p hk he hf;have hb:=List.mem_of_getElem? hk;refine VJ ((s.le aL).is.bk b hb) (by omega) id _ ?_ ?_
  .intro h2 hno _;rw[hno e he]at hf;cases hf
  .intro h2 e2 p2 he2 hf2 bt;have o5:=bt.nx;have o_:=bt.lo;have g1:=bt.up g1;have g3:=bt.up g3;simp(disch:=try exact Y)only[Wz,cV,bH,g1,g3];exact dB _ b e2 p2 hb he2 hf2 (((aL.trans bt).set (by omega) _).set (by omega) _)
end
structure RB where
 rb:Nat
 v:Value
 K:List HE
end Go.Proofs
namespace Go.Vai
open Go.Proofs Go.Clashes
end Go.Vai
namespace Go.Proofs
open Go.Vai Go.Clashes
open Tryz (prog)
section
variable {a h h':Heap}{rt rp rl:Nat}{c:h_}{vr:Value}{aW:Nat}{R:List RB}{B B':List Bool}
end
section
variable {a h:Heap}{tb bw bp bl:Nat}{c:h_}{vb:Value}{aW N:Nat}{Ts:List TB}{W:List IE}{wc:Nat}{F:List Int}{B:List Bool}{rt rp rl:Nat}{vr:Value}{R:List RB}
end
section
variable {h h':Heap}{tb bw bp bl:Nat}{c:h_}{vb:Value}{aW N:Nat}{Ts:List TB}{W:List IE}{wc:Nat}{F F':List Int}{B:List Bool}
theorem Ml(s:lH h tb bw bp bl c vb aW N Ts W wc F B)(hlo:h.lo<=h.nx)(hN:N<=1000)(t r x m:Int)(V:KQ)(w8:∀h',dR t r c.S<0->Le h h'->V (.tuple ⟨[.int .i64 0,.bool false,.int .i64 2]⟩) h')(hk2:∀(k:Nat)(b:TB) h',Ts[k]? = some b->dR t r c.S=(k:Int)->bY m=false->Le h h'->V (.tuple ⟨[.int .i64 0,.bool false,.int .i64 2]⟩) h')(vm:∀(k:Nat)(b:TB) h' e p,Ts[k]? = some b->dR t r c.S=(k:Int)->bY m=true->e∈b.M->t=e.t->r=e.r->p∈e.Q->p.x=x->Le h h'->V (.tuple ⟨[.int .i64 0,.bool false,.int .i64 4]⟩) h')(VI:∀(k:Nat)(b:TB) h',Ts[k]? = some b->dR t r c.S=(k:Int)->bY m=true->(∀e∈b.M,t=e.t->r=e.r->∀p∈e.Q,p.x≠x)->(F=[]\/((∀e∈b.M,¬(t=e.t/\r=e.r))/\aW<=b.M.length))->Le h h'->V (.tuple ⟨[.int .i64 0,.bool false,.int .i64 8]⟩) h')(Yi:∀(k:Nat)(b:TB) M' clock' F' W' AT h0 h1 h' n g,Ts[k]? = some b->dR t r c.S=(k:Int)->bY m=true->(∀e∈b.M,t=e.t->r=e.r->∀p∈e.Q,p.x≠x)->bq h0 b.bb b.bm bp bl aW b.M b.clock F B->oZ h0 h1 b.bb b.bm bp bl aW b.M M' clock' F F' B t r x m n g->
   lH h' tb bw bp bl c vb aW (N+1) (Ts.set k ⟨b.bb,b.bm,M',clock'⟩) W' AT F' (B.set n true)->wD Ts bw bp bl h h'->V (.tuple ⟨[.int .i64 (n:Int),.bool g,.int .i64 0]⟩) h'):CallW prog 301 [.pointer (some ⟨tb,0,none⟩),cV t r,.int .i64 x,.int .i64 m] h V:=by
 refine av mixed ?_;rw[abx];simp(disch:=try exact Y)only[Wz,cV,pE];obtain⟨hA,aT,aL,g1,dy,dz⟩:=kf h (aa [.int .i64 t,.int .i64 r] 28 false);rw[<-aT];clear aT;refine wE (s.le aL).is (by omega) t r _ ?_;intro h2 bt;have o5:=bt.nx;have o_:=bt.lo;have g1:=bt.up g1;have kW:=aL.trans bt;have s2:=s.le kW;by_cases hneg:dR t r c.S<0
 .simp(disch:=try exact Y)only[Wz,br hneg];exact w8 h2 hneg kW
 obtain⟨k,b,hst,hk⟩:=aiz s.is hneg;have hb:=List.mem_of_getElem? hk;have gt:=s2.is.nN;obtain⟨cc,oo,_,TZ,oP⟩:=VX s2.is.sl k hk;have oP:=oP h2 (Le.refl _);rw[hst];simp(disch:=try exact Y)only[Wz,dL (show(0:Int)<=(k:Int)by omega),Gx,aG,gt,TZ,oP,g1];refine VH (s2.is.bk b hb) (by omega) (s2.Sc hk) N (by omega) (s2.wb b hb) t r x m _ ?_ ?_ ?_ ?_
 .intro h3 am0 dg;simp(disch:=try exact Y)only[Wz,pS,oN];refine⟨λl h'=>HQ h3 h',?_,?_⟩
  .simp(disch:=try exact Y)only[Wz,qU];rfl
  .rintro l h' hq;cases(show h3=h' from hq);exact hk2 k b h3 hk hst am0 (kW.trans dg)
 .intro h3 e p am1 he ht hr hp hx dg;simp(disch:=try exact Y)only[Wz,pS,oN];refine⟨λl h'=>HQ h3 h',?_,?_⟩
  .simp(disch:=try exact Y)only[Wz,qU];rfl
  .rintro l h' hq;cases(show h3=h' from hq);exact vm k b h3 e p hk hst am1 he ht hr hp hx (kW.trans dg)
 .intro h3 am1 aor hfull dg;simp(disch:=try exact Y)only[Wz,pS,oN];refine⟨λl h'=>HQ h3 h',?_,?_⟩
  .simp(disch:=try exact Y)only[Wz,qU];rfl
  .rintro l h' hq;cases(show h3=h' from hq);exact VI k b h3 hk hst am1 aor hfull (kW.trans dg)
 .intro M' clock' F' h3 n g am hno ak;have is3:=s2.is.change hk ak.is ak.fr;have n3:=ak.fr.nx;have l3:=ak.fr.lo;have gt3:=is3.nN;have aos:=is3.low;simp(disch:=try exact Y)only[Wz,pS,oN];refine⟨λl h'=>∃W' AT,(∀j,NT W' j=if j=(n:Int)then some (k:Int)else NT W j)/\h'=⟨h3.nx,h3.bl.aV bw (.map (W'.map CJ) AT),h3.lo⟩,?_,?_⟩
  .simp(disch:=try exact Y)only[Wz,qU,aG,gt3];refine ac3 is3.pq aos _ _ _ ?_;intro W' AT hW;exact⟨W',AT,hW,rfl⟩
  ·rintro l h' ⟨W',AT,hW,rfl⟩;have fr:wD Ts bw bp bl h ⟨h3.nx,h3.bl.aV bw (.map (W'.map CJ) AT),h3.lo⟩:=((wD.of_le kW).trans (wD.VW hb ak.fr)).trans wD.ac6;have BR:=oZ.ids (s2.is.bk b hb) ak;have aiF:∀i,i∈lz B->i≠(n:Int):=by
    rintro i hi rfl;obtain⟨k',e,hk'⟩:=kJ.1 hi;have:k'=n:=(Int.ofNat.inj e).symm;subst this;rw[ak.old]at hk';cases hk'
   have hin:∀i b',b'∈Ts->i∈gK b'.M->i≠(n:Int):=λi b' hb' hi=>aiF i (s.ids.mem_iff.1 (List.mem_flatMap.2 ⟨b',hb',hi⟩));refine Yi k b M' clock' F' W' AT h2 h3 _ n g hk hst am hno (s2.is.bk b hb) ak ⟨is3.ac6 W' AT,?_,?_,?_,?_,?_,by rw[List.length_set];exact s.cR,s.cH⟩ fr
   .obtain⟨X,hX⟩:=tJ (λb:TB=>gK b.M) hk;have h0:=hX b;rw[AS hk]at h0;refine(hX _).trans ?_;refine(BR.append_right X).trans ?_;rw[List.append_assoc];refine((List.Perm.append_left _ List.perm_append_comm).trans ?_).trans (CF ak.old).symm;rw[<-List.append_assoc];exact(h0.symm.trans s.ids).append_right _
   .intro j y hj e he p hp;rw[hW];rcases fU hj with⟨rfl,rfl⟩|⟨hne,hj⟩
    .have hpi:=BR.mem_iff.1 (mP.2 ⟨e,he,p,hp,rfl⟩);rcases List.mem_append.1 hpi with h1|h1
     .obtain⟨e0,Sd,p0,hp0,hpe⟩:=mP.1 h1;rw[if_neg (hin _ b hb h1),<-hpe];exact s.wh j b hk e0 Sd p0 hp0
     .rw[List.mem_singleton]at h1;rw[if_pos h1]
    .rw[if_neg (hin _ y (List.mem_of_getElem? hj) (mP.2 ⟨e,he,p,hp,rfl⟩))];exact s.wh j y hj e he p hp
   .intro j y hj e he;rcases fU hj with⟨rfl,rfl⟩|⟨_,hj⟩
    .rcases ak.sub e he with⟨e0,Sd,h1,h2⟩|⟨h1,h2⟩
     .rw[<-h1,<-h2];exact s.nm j b hk e0 Sd
     .rw[h1,h2];exact hst
    .exact s.nm j y hj e he
   .intro y hy e he;obtain⟨j,hj⟩:=List.getElem?_of_mem hy;rcases fU hj with⟨rfl,rfl⟩|⟨_,hj⟩
    .exact ak.wb (s.wb b hb) e he
    .have:=s.wb y (List.mem_of_getElem? hj) e he;omega
   .intro y hy;obtain⟨j,hj⟩:=List.getElem?_of_mem hy;rcases fU hj with⟨rfl,rfl⟩|⟨_,hj⟩
    .exact oZ.len (s2.is.bk b hb) (s.len b hb) ak
    .exact s.len y (List.mem_of_getElem? hj)
theorem Sk(s:lH h tb bw bp bl c vb aW N Ts W wc F B)(hlo:h.lo<=h.nx)(id x:Int)(V:KQ)(DQ:(∀b∈Ts,∀e∈b.M,cq e.Q id=none)->V (.int .i64 5) h)(vm:∀(k:Nat)(b:TB) h' e p,Ts[k]? = some b->e∈b.M->cq e.Q id=some p->(∃o∈e.Q,o.id≠id/\o.x=x)->Le h h'->V (.int .i64 4) h')(RH:∀(k:Nat)(b:TB) h' e p,Ts[k]? = some b->e∈b.M->cq e.Q id=some p->(∀o∈e.Q,o.id≠id->o.x≠x)->0<p.s->Le h h'->V (.int .i64 7) h')(nZ:∀(k:Nat)(b:TB) h' M' clock' e p i,Ts[k]? = some b->e∈b.M->e.Q[i]? = some p->cq e.Q id=some p->(∀o∈e.Q,o.id≠id->o.x≠x)->¬0<p.s->kK h h' b.bb b.bm bp bl aW b.M M' clock' F B e (e.Q.set i (xq p x)) e.w->
   lH h' tb bw bp bl c vb aW (N+1) (Ts.set k ⟨b.bb,b.bm,M',clock'⟩) W wc F B->V (.int .i64 0) h'):CallW prog 304 [.pointer (some ⟨tb,0,none⟩),.int .i64 id,.int .i64 x] h V:=by
 refine av mixed ?_;rw[abz];refine Mk s hlo id _ ?_ ?_
 .intro hno;simp(disch:=try exact Y)only[Wz,uU];refine DU tb h _ ?_;exact DQ hno
 .intro k b e p hkb he hf;have hb:=List.mem_of_getElem? hkb;simp(disch:=try exact Y)only[Wz,iP];refine RI (s.is.bk b hb) hlo id x _ ?_ ?_ ?_ ?_
  .intro h1 hno _;rw[hno e he]at hf;cases hf
  .intro h1 e1 p1 xM NW hx bG;exact vm k b h1 e1 p1 hkb xM NW hx bG
  .intro h1 e1 p1 xM NW hx hs1 bG;exact RH k b h1 e1 p1 hkb xM NW hx hs1 bG
  .intro h1 M' clock' e1 p1 i xM hi NW hx hs1 mv;exact nZ k b h1 M' clock' e1 p1 i hkb xM hi NW hx hs1 mv (s.Yq hkb xM mv (uS hi rfl) (by omega))
theorem HU(s:lH h tb bw bp bl c vb aW N Ts W wc F B)(hlo:h.lo<=h.nx)(hN:N<=1000)(id m:Int)(V:KQ)(hk2:∀h',bY m=false->Le h h'->V (.tuple ⟨[.bool false,.int .i64 2]⟩) h')(DQ:bY m=true->(∀b∈Ts,∀e∈b.M,cq e.Q id=none)->V (.tuple ⟨[.bool false,.int .i64 5]⟩) h)(RH:∀(k:Nat)(b:TB) h' e p,bY m=true->Ts[k]? = some b->e∈b.M->cq e.Q id=some p->0<p.s->Le h h'->V (.tuple ⟨[.bool false,.int .i64 7]⟩) h')(nZ:∀(k:Nat)(b:TB) h' M' clock' e p i,bY m=true->Ts[k]? = some b->e∈b.M->e.Q[i]? = some p->cq e.Q id=some p->¬0<p.s->kK h h' b.bb b.bm bp bl aW b.M M' clock' F B e (e.Q.set i (jL e.Q e.w p m).1) (jL e.Q e.w p m).2.1->
   lH h' tb bw bp bl c vb aW (N+1) (Ts.set k ⟨b.bb,b.bm,M',clock'⟩) W wc F B->V (.tuple ⟨[.bool (jL e.Q e.w p m).2.2,.int .i64 0]⟩) h'):CallW prog 302 [.pointer (some ⟨tb,0,none⟩),.int .i64 id,.int .i64 m] h V:=by
 have am0:m=0->bY m=false:=by intro h0;unfold bY;simp[h0]
 have am1:m≠0->bY m=kn m:=by intro h0;unfold bY;simp[h0]
 refine av mixed ?_;rw[aby];refine Mk s hlo id _ ?_ ?_
 .intro hno;simp(disch:=try exact Y)only[Wz,HO];by_cases hm0:m=0
  .simp(disch:=try exact Y)only[Wz,br hm0];exact hk2 h (am0 hm0) (Le.refl _)
  .simp(disch:=try exact Y)only[Wz,aZ hm0];have am:=am1 hm0;refine pV m ?_;cases hkn:kn m with
   |false=>simp(disch:=try exact Y)only[Wz];exact hk2 h (am.trans hkn) (Le.refl _)
   |true=>
    simp(disch:=try exact Y)only[Wz,zZ,uU];refine DU tb h _ ?_;exact DQ (am.trans hkn) hno
 .intro k b e p hkb he hf;have hb:=List.mem_of_getElem? hkb;simp(disch:=try exact Y)only[Wz,HO];by_cases hm0:m=0
  .simp(disch:=try exact Y)only[Wz,br hm0];exact hk2 h (am0 hm0) (Le.refl _)
  .simp(disch:=try exact Y)only[Wz,aZ hm0];have am:=am1 hm0;refine pV m ?_;cases hkn:kn m with
   |false=>simp(disch:=try exact Y)only[Wz];exact hk2 h (am.trans hkn) (Le.refl _)
   |true=>
    simp(disch:=try exact Y)only[Wz,zZ,iP];refine Hw (s.is.bk b hb) hlo N (by omega) (s.wb b hb) id m _ ?_ ?_ ?_ ?_
    .intro h1 am2 bG;simp(disch:=try exact Y)only[Wz];exact hk2 h1 am2 bG
    .intro h1 _ hn _;rw[hn e he]at hf;cases hf
    .intro h1 e1 p1 am2 xM NW hs1 bG;simp(disch:=try exact Y)only[Wz];exact RH k b h1 e1 p1 am2 hkb xM NW hs1 bG
    .intro h1 M' clock' e1 p1 i am2 xM hi NW hs1 mv;simp(disch:=try exact Y)only[Wz];exact nZ k b h1 M' clock' e1 p1 i am2 hkb xM hi NW hs1 mv (s.Yq hkb xM mv (uS hi (VT _ _ _ _)) (acZ _ _ _ _))
end
structure Lone(Ts:List TB)(H X:Int->Int->Int):Prop where
 one:∀b∈Ts,∀e∈b.M,∃id,e.Q=[⟨id,X e.t e.r,H e.t e.r,H e.t e.r,0⟩]/\H e.t e.r≠0
 all:∀t r,H t r≠0->∃b∈Ts,∃e∈b.M,e.t=t/\e.r=r
def jb(H:Int->Int->Int)(t r m:Int):Int->Int->Int:=λt' r'=>if t'=t/\r'=r then m else H t' r'
theorem rU(H:Int->Int->Int)(t r m:Int):jb H t r m t r=m:=by simp[jb]
theorem lS(H:Int->Int->Int){t r m t' r':Int}(h:¬(t'=t/\r'=r)):jb H t r m t' r'=H t' r':=by simp[jb,h]
section
variable {h:Heap}{tb bw bp bl:Nat}{c:h_}{vb:Value}{aW N:Nat}{Ts:List TB}{W:List IE}{wc:Nat}{F:List Int}{B:List Bool}{H X:Int->Int->Int}
theorem Lone.Mm{X':Int->Int->Int}(L:Lone Ts H X)(s:lH h tb bw bp bl c vb aW N Ts W wc F B){k:Nat}{b:TB}(hk:Ts[k]? = some b){t r w m id:Int}(hst:dR t r c.S=(k:Int))(hm:m≠0){M':List HE}(cl:Nat)(st:fq b.M M' t r w [⟨id,X' t r,m,m,0⟩])(hX:∀t' r',¬(t'=t/\r'=r)->X' t' r'=X t' r'):Lone (Ts.set k ⟨b.bb,b.bm,M',cl⟩) (jb H t r m) X':=by
 obtain⟨e0,h1,h2,h3,h4,hp⟩:=st.put (by simp);have hil:=(List.getElem?_eq_some_iff.1 hk).1;have hb:=List.mem_of_getElem? hk;constructor
 .intro b' hb' e he;obtain⟨j,hj⟩:=List.getElem?_of_mem hb';rcases fU hj with⟨rfl,rfl⟩|⟨hne,hj⟩
  .rcases List.mem_append.1 (hp.mem_iff.1 he)with he|he
   .obtain⟨he,hn⟩:=List.mem_filter.1 he;have hn:=lu.1 hn;rw[lS H (λe=>hn ⟨e.1.symm,e.2.symm⟩),hX _ _ (λe=>hn ⟨e.1.symm,e.2.symm⟩)];exact L.one b hb e he
   .rw[List.mem_singleton]at he;subst he;rw[h1,h2,rU];exact⟨id,h4,hm⟩
  .have hs:=s.nm j b' hj e he;rw[lS H (λe1=>by rw[e1.1,e1.2,hst]at hs;omega),hX _ _ (λe1=>by rw[e1.1,e1.2,hst]at hs;omega)];exact L.one b' (List.mem_of_getElem? hj) e he
 .intro t' r' hH;by_cases hn:t'=t/\r'=r
  .obtain⟨rfl,rfl⟩:=hn;exact⟨_,List.mem_of_getElem? (i:=k) (by rw[List.getElem?_set,if_pos rfl,if_pos hil]),e0,hp.mem_iff.2 (List.mem_append_right _ (.head _)),h1,h2⟩
  .rw[lS H hn]at hH;obtain⟨b1,hb1,e1,xM,e2,e3⟩:=L.all t' r' hH;obtain⟨j,hj⟩:=List.getElem?_of_mem hb1;by_cases hjk:k=j
   .subst hjk;rw[hk]at hj;cases hj;exact⟨_,List.mem_of_getElem? (i:=k) (by rw[List.getElem?_set,if_pos rfl,if_pos hil]),e1,hp.mem_iff.2 (List.mem_append_left _ (List.mem_filter.2 ⟨xM,lu.2 λe=>hn ⟨e2.symm.trans e.1.symm,e3.symm.trans e.2.symm⟩⟩)),e2,e3⟩
   .exact⟨b1,List.mem_of_getElem? (i:=j) (by rw[List.getElem?_set,if_neg hjk];exact hj),e1,xM,e2,e3⟩
theorem Lone.settle(L:Lone Ts H X)(s:lH h tb bw bp bl c vb aW N Ts W wc F B){k:Nat}{b:TB}(hk:Ts[k]? = some b){t r w m id:Int}(hst:dR t r c.S=(k:Int))(hm:m≠0){M':List HE}(cl:Nat)(st:fq b.M M' t r w [⟨id,X t r,m,m,0⟩]):Lone (Ts.set k ⟨b.bb,b.bm,M',cl⟩) (jb H t r m) X:=
 L.Mm s hk hst hm cl st λ_ _ _=>rfl
theorem Lone.gone(L:Lone Ts H X)(s:lH h tb bw bp bl c vb aW N Ts W wc F B){k:Nat}{b:TB}(hk:Ts[k]? = some b){t r w:Int}(hst:dR t r c.S=(k:Int)){M':List HE}(cl:Nat)(st:fq b.M M' t r w []):Lone (Ts.set k ⟨b.bb,b.bm,M',cl⟩) (jb H t r 0) X:=by
 have hM:=st.gone rfl;have hil:=(List.getElem?_eq_some_iff.1 hk).1;have hb:=List.mem_of_getElem? hk;subst hM;constructor
 .intro b' hb' e he;obtain⟨j,hj⟩:=List.getElem?_of_mem hb';rcases fU hj with⟨rfl,rfl⟩|⟨hne,hj⟩
  .obtain⟨he,hn⟩:=List.mem_filter.1 he;have hn:=lu.1 hn;rw[lS H (λe=>hn ⟨e.1.symm,e.2.symm⟩)];exact L.one b hb e he
  .have hs:=s.nm j b' hj e he;rw[lS H (λe1=>by rw[e1.1,e1.2,hst]at hs;omega)];exact L.one b' (List.mem_of_getElem? hj) e he
 .intro t' r' hH;by_cases hn:t'=t/\r'=r
  .obtain⟨rfl,rfl⟩:=hn;rw[rU]at hH;exact absurd rfl hH
  .rw[lS H hn]at hH;obtain⟨b1,hb1,e1,xM,e2,e3⟩:=L.all t' r' hH;obtain⟨j,hj⟩:=List.getElem?_of_mem hb1;by_cases hjk:k=j
   .subst hjk;rw[hk]at hj;cases hj;exact⟨_,List.mem_of_getElem? (i:=k) (by rw[List.getElem?_set,if_pos rfl,if_pos hil]),e1,List.mem_filter.2 ⟨xM,lu.2 λe=>hn ⟨e2.symm.trans e.1.symm,e3.symm.trans e.2.symm⟩⟩,e2,e3⟩
   .exact⟨b1,List.mem_of_getElem? (i:=j) (by rw[List.getElem?_set,if_neg hjk];exact hj),e1,xM,e2,e3⟩
theorem Lone.at(L:Lone Ts H X)(s:lH h tb bw bp bl c vb aW N Ts W wc F B){t r:Int}(hH:H t r≠0):∃(k:Nat)(b:TB)(e:HE)(id:Int),Ts[k]? = some b/\dR t r c.S=(k:Int)/\e∈b.M/\e.t=t/\e.r=r/\e.Q=[⟨id,X t r,H t r,H t r,0⟩]:=by
 obtain⟨b,hb,e,he,rfl,rfl⟩:=L.all t r hH;obtain⟨k,hk⟩:=List.getElem?_of_mem hb;obtain⟨id,hQ,_⟩:=L.one b hb e he;exact⟨k,b,e,id,hk,s.nm k b hk e he,he,rfl,rfl,hQ⟩
theorem Lone.no(L:Lone Ts H X){t r:Int}(hH:H t r=0):∀b∈Ts,∀e∈b.M,¬(t=e.t/\r=e.r):=by
 rintro b hb e he ⟨rfl,rfl⟩;obtain⟨id,_,hn⟩:=L.one b hb e he;exact hn hH
theorem lH.xA(s:lH h tb bw bp bl c vb aW N Ts W wc F B){b b':TB}(hb:b∈Ts)(hb':b'∈Ts){e e':HE}(he:e∈b.M)(he':e'∈b'.M){p p':R5}(hp:p∈e.Q)(hp':p'∈e'.Q)(hid:p.id=p'.id):b=b'/\e=e':=by
 obtain⟨k,hk⟩:=List.getElem?_of_mem hb;obtain⟨j,hj⟩:=List.getElem?_of_mem hb';have h1:=s.wh k b hk e he p hp;have h2:=s.wh j b' hj e' he' p' hp';rw[hid,h2]at h1;have:j=k:=by have:=Option.some.inj h1;omega
 subst this;rw[hk]at hj;cases hj;exact⟨rfl,(s.Sc hk).uniq he he' hp hp' hid⟩
theorem Lone.km(L:Lone Ts H X)(s:lH h tb bw bp bl c vb aW N Ts W wc F B){t r:Int}(hH:H t r≠0):kn (H t r)=true:=by
 obtain⟨k,b,e,id,hk,_,he,_,_,hQ⟩:=L.at s hH;have:=((s.is.bk b (List.mem_of_getElem? hk)).good e he).vq.right ⟨id,X t r,H t r,H t r,0⟩ (by rw[hQ];exact .head _);exact this.km
end
theorem Sm{id x m:Int}:kT [] 0 id x m=(⟨id,x,m,m,0⟩,0,true):=rfl
theorem JP{id x m w:Int}(hm:m≠0):eP [⟨id,x,m,w,0⟩]=none:=by
 simp[eP,best,xo,Cx,hm,List.findIdx?,List.findIdx?.go]
theorem wF{id x m w:Int}(hm:m≠0):dY (iZ [⟨id,x,m,w,0⟩]+1) [⟨id,x,m,w,0⟩]=([⟨id,x,m,w,0⟩],[]):=zu (Aq (JP hm)) _
theorem HV{id x m w m' W:Int}:(jL [⟨id,x,m,w,0⟩] W ⟨id,x,m,w,0⟩ m')=(⟨id,x,bN m m',bN m m',0⟩,W,true):=by
 unfold jL;rw[if_pos];simp[iE,xo]
theorem jm{id d x m w s:Int}:cq [⟨id,x,m,w,s⟩] d=if id=d then some ⟨id,x,m,w,s⟩else none:=by
 simp only[cq,cC,List.find?_cons,List.find?_nil];split<;>simp_all
theorem fq.cnt{M M':List HE}{clock:Nat}(o:dw M clock){t r w:Int}{Q:List R5}(st:fq M M' t r w Q):M'.length<=M.length+1:=by
 have:=st.len;have h2:=List.length_filter_le (λx=>!jX t r x) M;omega
structure iz where
 k:Int
 x:Int
 t:Int
 r:Int
 m:Int
 w:Int
 to:Int
def DY(a:iz):List Value:=[.int .i64 a.k,.int .i64 a.x,.int .i64 a.t,.int .i64 a.r,.int .i64 a.m,.int .i64 a.w,.int .i64 a.to]
def oc(a:iz):Bool:=decide (bf a.t a.r≠-1) && (if a.k=1 then kn a.m && decide (a.m≠0) && decide (0<=a.w)else if a.k=3 then decide (a.to≠a.x)else decide (a.k=2))
def wG(H:Int->Int->Int)(a:iz):Int:=if a.k=1 then 1 else if H a.t a.r=0 then 6 else 1
def JQ(H:Int->Int->Int)(a:iz):Int->Int->Int:=if a.k=1 then jb H a.t a.r (bN (H a.t a.r) a.m)else jb H a.t a.r 0
def lZ(ty:TypeId)(op:Bool):Prop:=ty=194\/ty=205\/ty=267\/ty=55\/ty=57\/ty=286\/ty=4\/(ty=3/\op=true)
theorem ep.only{h h':Heap}{bp bl:Nat}{F:List Int}{B:List Bool}(p:ep h bp bl F B)(hn:h.nx<=h'.nx)(hl:h'.lo=h.lo)(hc:∀c vs ty op,c<h.nx->lZ ty op->(ty=3->FB h bp c)->h.bl.get c=some (aa vs ty op)->h'.bl.get c=h.bl.get c):ep h' bp bl F B:=by
 have pl:=p.lt;have fl:=p.fr.lt;obtain⟨fs,hg,hpt⟩:=p.fr.cell;refine⟨⟨by omega,by rw[hl];exact p.fr.lo,fs,(hc _ _ _ _ fl (by simp[lZ]) (λe=>absurd e (by decide)) hg).trans hg,?_⟩,by omega,by rw[hl];exact p.lo,(hc _ _ _ _ pl (by simp[lZ]) (λe=>absurd e (by decide)) p.cell).trans p.cell,p.ok,p.small⟩;rcases hpt with e|⟨b,G,e,k1,k2,k3,k4⟩
 .exact .inl e
 .exact .inr ⟨b,G,e,by omega,by omega,(hc _ _ _ _ k1 (by simp[lZ]) (λ_=>⟨_,_,_,by rw[hg,e]⟩) k3).trans k3,k4⟩
theorem bq.only{h h':Heap}{bb bm bp bl most clock:Nat}{M:List HE}{F:List Int}{B:List Bool}(s:bq h bb bm bp bl most M clock F B)(hn:h.nx<=h'.nx)(hl:h'.lo=h.lo)(hc:∀c vs ty op,c<h.nx->lZ ty op->(ty=3->FB h bp c)->h.bl.get c=some (aa vs ty op)->h'.bl.get c=h.bl.get c)(hm:h'.bl.get bm=h.bl.get bm):bq h' bb bm bp bl most M clock F B:=by
 have sb:=s.tE;have sm:=s.kO;refine⟨by omega,by omega,by rw[hl];exact s.VA,(hc _ _ _ _ sb (by simp[lZ]) (λe=>absurd e (by decide)) s.iO).trans s.iO,hm.trans s.gu,s.ok,λe he=>?_,s.good,s.aX.only hn hl hc,s.ne⟩;have a:=s.aW e he;have al:=a.lt;exact⟨by omega,(hc _ _ _ _ al (by simp[lZ]) (λe=>absurd e (by decide)) a.get).trans a.get,a.qv.frame hn λc vs op h1 hg=>hc c vs _ op h1 (by simp[lZ]) (λe=>absurd e (by decide)) hg⟩
section
variable {h h':Heap}{tb bw bp bl:Nat}{c:h_}{vb:Value}{aW N:Nat}{Ts:List TB}{W:List IE}{wc:Nat}{F:List Int}{B:List Bool}
theorem fu.only(s:fu h tb bw bp bl c vb aW Ts W wc F B)(hn:h.nx<=h'.nx)(hl:h'.lo=h.lo)(hc:∀c vs ty op,c<h.nx->lZ ty op->(ty=3->FB h bp c)->h.bl.get c=some (aa vs ty op)->h'.bl.get c=h.bl.get c)(hw:h'.bl.get bw=h.bl.get bw)(hm:∀b∈Ts,h'.bl.get b.bm=h.bl.get b.bm):fu h' tb bw bp bl c vb aW Ts W wc F B:=by
 have h1:=s.ltt;have h2:=s.BT;have k1:=Sl.JM (h':=h') s.sl s.ty hn λc vs op h1 hg=>hc c vs _ op h1 (by simp[lZ]) (λe=>absurd e (by decide)) hg;exact⟨by omega,(hc _ _ _ _ h1 (by simp[lZ]) (λe=>absurd e (by decide)) s.nN).trans s.nN,k1.1,k1.2,by omega,by rw[hl];exact s.low,hw.trans s.pq,λb hb=>(s.bk b hb).only hn hl hc (hm b hb),s.HM,s.wne,s.aX.only hn hl hc,s.cS,s.s1,s.hd⟩
theorem lH.only(s:lH h tb bw bp bl c vb aW N Ts W wc F B)(hn:h.nx<=h'.nx)(hl:h'.lo=h.lo)(hc:∀c vs ty op,c<h.nx->lZ ty op->(ty=3->FB h bp c)->h.bl.get c=some (aa vs ty op)->h'.bl.get c=h.bl.get c)(hw:h'.bl.get bw=h.bl.get bw)(hm:∀b∈Ts,h'.bl.get b.bm=h.bl.get b.bm):lH h' tb bw bp bl c vb aW N Ts W wc F B:=
 ⟨s.is.only hn hl hc hw hm,s.ids,s.wh,s.nm,s.wb,s.len,s.cR,s.cH⟩
theorem lH.put(s:lH h tb bw bp bl c vb aW N Ts W wc F B){d:Nat}(o:bD)(hd:∀vs ty op,lZ ty op->h.bl.get d≠some (aa vs ty op))(hw:d≠bw)(hm:∀b∈Ts,d≠b.bm):lH ⟨h.nx,h.bl.aV d o,h.lo⟩ tb bw bp bl c vb aW N Ts W wc F B:=
 s.only (Nat.le_refl _) rfl (λc vs ty op _ ht _ hg=>T.aj _ _ (by rintro rfl;exact hd vs ty op ht hg)) (T.aj _ _ hw) λb hb=>T.aj _ _ (hm b hb)
end
def cZ(o:Option Nat):Value:=match o with|some a=>.pointer (some ⟨a,0,none⟩)|none=>.pointer none
structure CR where
 ca:Nat
 a:iz
 th:Int
 no:Int
 st:Int
 ph:Nat
 wt:Bool
 id:Int
 cs:Int
 out:Int
def Yt(ph:Nat):FuncId:=if ph=1 then 58 else if ph=2 then 106 else if ph=3 then 159 else if ph=4 then 305 else 306
def xD(ph ca:Nat):Value:=.func (.func (Yt ph)) ⟨[.pointer (some ⟨ca,0,none⟩)]⟩ ⟨[]⟩
noncomputable def bZ(wb:Nat)(c:CR):bD:=aa [.int .i64 c.a.k,.int .i64 c.a.x,.int .i64 c.a.t,.int .i64 c.a.r,.int .i64 c.a.m,.int .i64 c.a.w,.int .i64 c.a.to,.pointer (some ⟨wb,0,none⟩),.int .i64 c.th,.int .i64 c.no,.int .i64 c.st,xD c.ph c.ca,.int .i64 (c.ph:Int),.bool c.wt,.int .i64 c.id,.int .i64 c.cs,.int .i64 c.out,.bool false,.slice none 0 0] 128 false
structure WA where
 wb:Nat
 lb:Nat
 hb:Nat
 pb:Nat
 ib:Nat
 kb:Nat
 cb:Nat
 mb:Nat
 n:Nat
structure RW(h:Heap)(A:WA)(tb:Nat)(dS:List (Option (Nat × Int)))(bits:List Int)(now:Int)(tv:Value)(cs:List (Option CR))(wm:List IE)(AX:Nat)(begun:Int):Prop where
 BT:A.wb<h.nx/\h.lo<=A.wb
 gw:h.bl.get A.wb=some (aa [.pointer (some ⟨tb,0,none⟩),.pointer (some ⟨A.lb,0,none⟩),.pointer (some ⟨A.pb,0,none⟩),.pointer (some ⟨A.kb,0,none⟩),.slice (some ⟨A.cb,0,none⟩) A.n A.n,.map (some A.mb),.int .i64 begun] 126 false)
 Mo:A.lb<h.nx
 gl:h.bl.get A.lb=some (aa [.slice (some ⟨A.hb,0,none⟩) dS.length dS.length] 247 false)
 lth:A.hb<h.nx/\h.lo<=A.hb
 gh:h.bl.get A.hb=some (aa (dS.map λo=>cZ (o.map (·.1))) 251 false)
 ho:∀p,some p∈dS->p.1<h.nx/\h.bl.get p.1=some (aa [.int .i64 p.2] 253 false)
 Sn:A.pb<h.nx
 gp:h.bl.get A.pb=some (aa [.slice (some ⟨A.ib,0,none⟩) A.n A.n] 244 false)
 lti:A.ib<h.nx/\h.lo<=A.ib
 gi:h.bl.get A.ib=some (aa (bits.map λn=>.int .i64 n) 3 false)
 li:bits.length=A.n
 ltk:A.kb<h.nx/\h.lo<=A.kb
 gk:h.bl.get A.kb=some (aa [.int .i64 now,tv] 200 false)
 Yu:A.cb<h.nx/\h.lo<=A.cb
 gc:h.bl.get A.cb=some (aa (cs.map λo=>cZ (o.map (·.ca))) 118 false)
 lc:cs.length=A.n
 ca:∀c,some c∈cs->c.ca<h.nx/\h.lo<=c.ca/\h.bl.get c.ca=some (bZ A.wb c)
 kO:A.mb<h.nx/\h.lo<=A.mb
 gm:h.bl.get A.mb=some (.map (wm.map CJ) AX)
 nn:1<=A.n/\A.n<=8
 dc:cs.Pairwise λo o'=>∀c c',o=some c->o'=some c'->c.ca≠c'.ca
def jO(ty:TypeId)(op:Bool):Prop:=ty=126\/ty=247\/ty=251\/ty=253\/ty=244\/ty=200\/ty=118\/ty=128\/(ty=3/\op=false)
section
variable {h h':Heap}{A:WA}{tb:Nat}{dS:List (Option (Nat × Int))}{bits:List Int}{now:Int}{tv:Value}{cs:List (Option CR)}{wm:List IE}{AX:Nat}{begun:Int}
theorem RW.keep(s:RW h A tb dS bits now tv cs wm AX begun)(hn:h.nx<=h'.nx)(hl:h'.lo=h.lo)(hg:∀d vs ty op,d<h.nx->jO ty op->h.bl.get d=some (aa vs ty op)->h'.bl.get d=h.bl.get d)(hm:h'.bl.get A.mb=h.bl.get A.mb):RW h' A tb dS bits now tv cs wm AX begun:=by
 obtain⟨⟨a1,a2⟩,a3,b1,b2,⟨c1,c2⟩,c3,c4,d1,d2,⟨e1,e2⟩,e3,e4,⟨f1,f2⟩,f3,⟨g1,g2⟩,g3,g4,g5,⟨i1,i2⟩,i3,i4,i5⟩:=s;refine⟨⟨by omega,by omega⟩,(hg _ _ _ _ a1 (by simp[jO]) a3).trans a3,by omega,(hg _ _ _ _ b1 (by simp[jO]) b2).trans b2,⟨by omega,by omega⟩,(hg _ _ _ _ c1 (by simp[jO]) c3).trans c3,λp hp=>?_,by omega,(hg _ _ _ _ d1 (by simp[jO]) d2).trans d2,⟨by omega,by omega⟩,(hg _ _ _ _ e1 (by simp[jO]) e3).trans e3,e4,⟨by omega,by omega⟩,(hg _ _ _ _ f1 (by simp[jO]) f3).trans f3,⟨by omega,by omega⟩,(hg _ _ _ _ g1 (by simp[jO]) g3).trans g3,g4,λc hc=>?_,⟨by omega,by omega⟩,hm.trans i3,i4,i5⟩
 .obtain⟨k1,k2⟩:=c4 p hp;exact⟨by omega,(hg _ _ _ _ k1 (by simp[jO]) k2).trans k2⟩
 .obtain⟨k1,k2,k3⟩:=g5 c hc;exact⟨by omega,by omega,(hg _ _ _ _ k1 (by simp[jO]) k3).trans k3⟩
theorem RW.le(s:RW h A tb dS bits now tv cs wm AX begun)(l:Le h h'):RW h' A tb dS bits now tv cs wm AX begun:=s.keep l.nx l.lo (λd _ _ _ hd _ _=>l.get d hd) (l.get _ s.kO.1)
theorem RW.aiJ(s:RW h A tb dS bits now tv cs wm AX begun){bw bp bl:Nat}{c:h_}{vb:Value}{aW:Nat}{Ts:List TB}{W:List IE}{wc:Nat}{F:List Int}{B:List Bool}(t:fu h tb bw bp bl c vb aW Ts W wc F B)(f:wD Ts bw bp bl h h')(hw:A.mb≠bw)(hm:∀b∈Ts,A.mb≠b.bm):RW h' A tb dS bits now tv cs wm AX begun:=by
 have gm:=s.gm;obtain⟨fs,AB,hpt⟩:=t.aX.fr.cell;have gl:=t.aX.cell;refine s.keep f.nx f.lo (λd vs ty op hd hr hg=>?_) (f.get _ s.kO.1 hm hw (by rintro e;rw[e,AB]at gm;exact bQ gm.symm) (by rintro e;rw[e,gl]at gm;exact bQ gm.symm) λvs=>by rw[gm];exact bQ);rcases hr with e|e|e|e|e|e|e|e|⟨e,e'⟩<;>subst e
 .exact f.keep t hd hg (by decide) (by decide) (by decide)
 .exact f.keep t hd hg (by decide) (by decide) (by decide)
 .exact f.keep t hd hg (by decide) (by decide) (by decide)
 .exact f.keep t hd hg (by decide) (by decide) (by decide)
 .exact f.keep t hd hg (by decide) (by decide) (by decide)
 .exact f.keep t hd hg (by decide) (by decide) (by decide)
 .exact f.keep t hd hg (by decide) (by decide) (by decide)
 .exact f.keep t hd hg (by decide) (by decide) (by decide)
 .subst e';refine f.get d hd (λb hb=>?_) (by rintro rfl;have:=t.pq;rw[hg]at this;exact bQ this.symm) (by rintro rfl;rw[hg]at AB;exact bz (by decide) AB) (by rintro rfl;rw[hg]at gl;exact bz (by decide) gl) λws=>by rw[hg];exact bx
  rintro rfl;have:=(t.bk b hb).gu;rw[hg]at this;exact bQ this.symm
end
theorem aiK(h:Heap)(b o:Nat):lT prog h 100 120 (.pointer (some ⟨b,o,none⟩)) (.pointer none)=some false:=by kernel_rfl
theorem Sp{β:Type}{fl:β}(cn:Bool)(b o:Nat)(h:Heap)(V:Z7 β):ay fl prog .eql 120 cn false (.pointer (some ⟨b,o,none⟩)) (.pointer none) h V=V (.bool false) h:=by simp only[ay,aiK,bK]
theorem aiL(h:Heap)(b o:Nat):lT prog h 100 251 (.pointer (some ⟨b,o,none⟩)) (.pointer none)=some false:=by kernel_rfl
theorem aiM(h:Heap):lT prog h 100 251 (.pointer none) (.pointer none)=some true:=by kernel_rfl
theorem HW{β:Type}{fl:β}(cn:Bool)(b o:Nat)(h:Heap)(V:Z7 β):ay fl prog .eql 251 cn false (.pointer (some ⟨b,o,none⟩)) (.pointer none) h V=V (.bool false) h:=by simp only[ay,aiL,bK]
theorem HX{β:Type}{fl:β}(cn:Bool)(h:Heap)(V:Z7 β):ay fl prog .eql 251 cn false (.pointer none) (.pointer none) h V=V (.bool true) h:=by simp only[ay,aiM,bK]
abbrev ql(dS:List (Option (Nat × Int))):List Value:=dS.map λo=>cZ (o.map (·.1))
section
variable {h:Heap}{lb hb:Nat}{dS:List (Option (Nat × Int))}
theorem AY(gl:h.bl.get lb=some (aa [.slice (some ⟨hb,0,none⟩) dS.length dS.length] 247 false)){i:Nat}{th:Int}(hi:i<dS.length)(ht:0<=th/\th<8)(V:KQ)(hk:V (.int .i64 0) h):CallW prog 156 [.pointer (some ⟨lb,0,none⟩),.int .i64 (i:Int),.int .i64 th] h V:=by
 refine av mixed ?_;rw[aao];simp(disch:=try exact Y)only[Wz,Sp,FP,dL (show(0:Int)<=(i:Int)by omega),aG,gl,dL (show 0<=th by omega),aZ (show ¬(dS.length:Int)<=(i:Int)by omega),aZ (show ¬(8:Int)<=th by omega)];exact hk
theorem JR{i:Nat}{o:Option (Nat × Int)}(hi:dS[i]? = some o):(ql dS)[i]? = some (cZ (o.map (·.1))):=by rw[List.getElem?_map,hi];rfl
theorem HY{i:Nat}{o:Option (Nat × Int)}(hi:i<dS.length):over (ql dS) i [cZ (o.map (·.1))]=ql (dS.set i o):=by
 unfold over ql;rw[List.map_set,List.set_eq_take_append_cons_drop,if_pos (by simpa using hi)];simp
theorem ac_(gl:h.bl.get lb=some (aa [.slice (some ⟨hb,0,none⟩) dS.length dS.length] 247 false))(gh:h.bl.get hb=some (aa (ql dS) 251 false))(hhb:hb<h.nx/\h.lo<=hb)(hlb:lb<h.nx){i:Nat}{th:Int}(hi:dS[i]? = some none)(ht:0<=th/\th<8)(V:KQ)(hk:V (.tuple ⟨[.bool true,.int .i64 0]⟩) ⟨h.nx+1,(h.bl.aV h.nx (aa [.int .i64 th] 253 false)).aV hb (aa (ql (dS.set i (some (h.nx,th)))) 251 false),h.lo⟩):CallW prog 105 [.pointer (some ⟨lb,0,none⟩),.int .i64 (i:Int),.int .i64 th] h V:=by
 have hil:=(List.getElem?_eq_some_iff.1 hi).1;have r:=JR hi;have ov:=HY (dS:=dS) (o:=some (h.nx,th)) hil;have hln:(ql dS).length=dS.length:=List.length_map _;refine av mixed ?_;rw[ZR];refine AY gl hil ht _ ?_;simp only[cZ,Option.map_none]at r;simp only[cZ,Option.map_some]at ov;simp(disch:=try exact Y)only[Wz,Fs,aG,gl,bh,gh,r,Nat.mul_one,HX,Fq,ov];exact hk
theorem V3(gl:h.bl.get lb=some (aa [.slice (some ⟨hb,0,none⟩) dS.length dS.length] 247 false))(gh:h.bl.get hb=some (aa (ql dS) 251 false))(hhb:hb<h.nx/\h.lo<=hb){i p:Nat}{th:Int}(hi:dS[i]? = some (some (p,th)))(gp:h.bl.get p=some (aa [.int .i64 th] 253 false))(ht:0<=th/\th<8)(V:KQ)(hk:V (.int .i64 0) ⟨h.nx,h.bl.aV hb (aa (ql (dS.set i none)) 251 false),h.lo⟩):CallW prog 215 [.pointer (some ⟨lb,0,none⟩),.int .i64 (i:Int),.int .i64 th] h V:=by
 have hil:=(List.getElem?_eq_some_iff.1 hi).1;have r:=JR hi;have ov:=HY (dS:=dS) (o:=none) hil;have hln:(ql dS).length=dS.length:=List.length_map _;refine av mixed ?_;rw[aa3];refine AY gl hil ht _ ?_;simp only[cZ,Option.map_some]at r;simp only[cZ,Option.map_none]at ov;simp(disch:=try exact Y)only[Wz,Gi,aG,gl,bh,gh,r,gp,Nat.mul_one,HW,ov];exact hk
theorem N_(gl:h.bl.get lb=some (aa [.slice (some ⟨hb,0,none⟩) dS.length dS.length] 247 false))(gh:h.bl.get hb=some (aa (ql dS) 251 false)){i:Nat}{o:Option (Nat × Int)}(hi:dS[i]? = some o)(gp:∀p,o=some p->h.bl.get p.1=some (aa [.int .i64 p.2] 253 false))(V:KQ)(hk:∀x,V (.tuple ⟨[.int .i64 x,.bool o.isSome]⟩) h):CallW prog 115 [.pointer (some ⟨lb,0,none⟩),.int .i64 (i:Int)] h V:=by
 have hil:=(List.getElem?_eq_some_iff.1 hi).1;have r:=JR hi;have hln:(ql dS).length=dS.length:=List.length_map _;refine av mixed ?_;rw[ZU];refine AY gl hil (by omega) _ ?_;cases o with
 |none=>
  simp only[cZ,Option.map_none]at r;simp(disch:=try exact Y)only[Wz,aG,gl,bh,gh,r,Nat.mul_one,HX];exact hk 0
 |some p=>
  have gp:=gp p rfl;simp only[cZ,Option.map_some]at r;simp(disch:=try exact Y)only[Wz,aG,gl,bh,gh,r,Nat.mul_one,HW,Fv,gp];exact hk p.2
end
theorem aiN(h:Heap)(b o:Nat):lT prog h 100 121 (.pointer (some ⟨b,o,none⟩)) (.pointer none)=some false:=by kernel_rfl
theorem Sq{β:Type}{fl:β}(cn:Bool)(b o:Nat)(h:Heap)(V:Z7 β):ay fl prog .eql 121 cn false (.pointer (some ⟨b,o,none⟩)) (.pointer none) h V=V (.bool false) h:=by simp only[ay,aiN,bK]
abbrev JS(bits:List Int):List Value:=bits.map λn=>.int .i64 n
def Oa(a b:Int):Int:=IntKind.i64.wrap (BitVec.ofInt IntKind.i64.bits a &&& BitVec.ofInt IntKind.i64.bits b).toNat
theorem Ob{β:Type}{fl:β}(P:Program)(t:TypeId)(cn gd:Bool)(a b:Int)(h:Heap)(V:Z7 β):ay fl P .and t cn gd (.int .i64 a) (.int .i64 b) h V=V (.int .i64 (Oa a b)) h:=by
 simp only[ay,iV,ox,iF,eN];rfl
section
variable {h:Heap}{pb ib:Nat}{bits:List Int}
theorem Sr(gp:h.bl.get pb=some (aa [.slice (some ⟨ib,0,none⟩) bits.length bits.length] 244 false)){i:Nat}(hi:i<bits.length)(V:KQ)(hk:V (.int .i64 0) h):CallW prog 162 [.pointer (some ⟨pb,0,none⟩),.int .i64 (i:Int)] h V:=by
 refine av mixed ?_;rw[aas];simp(disch:=try exact Y)only[Wz,Sq,FQ,dL (show(0:Int)<=(i:Int)by omega),aG,gp,aZ (show ¬(bits.length:Int)<=(i:Int)by omega)];exact hk
theorem ada{i:Nat}{n:Int}(hi:bits[i]? = some n):(JS bits)[i]? = some (.int .i64 n):=by rw[List.getElem?_map,hi];rfl
theorem aiO(gp:h.bl.get pb=some (aa [.slice (some ⟨ib,0,none⟩) bits.length bits.length] 244 false))(gi:h.bl.get ib=some (aa (JS bits) 3 false)){i:Nat}{n:Int}(hi:bits[i]? = some n)(b:Int)(V:KQ)(hk:V (.bool (!decide (Oa n b=0))) h):CallW prog 163 [.pointer (some ⟨pb,0,none⟩),.int .i64 (i:Int),.int .i64 b] h V:=by
 have hil:=(List.getElem?_eq_some_iff.1 hi).1;have r:=ada hi;have hln:(JS bits).length=bits.length:=List.length_map _;refine av mixed ?_;rw[aat];refine Sr gp hil _ ?_;simp(disch:=try exact Y)only[Wz,aG,gp,bh,gi,r,Nat.mul_one,Ob];exact hk
theorem Ss(gp:h.bl.get pb=some (aa [.slice (some ⟨ib,0,none⟩) bits.length bits.length] 244 false))(gi:h.bl.get ib=some (aa (JS bits) 3 false)){i:Nat}{n:Int}(hi:bits[i]? = some n)(V:KQ)(hk:V (.bool (!decide (Oa n 1=0))) h):CallW prog 114 [.pointer (some ⟨pb,0,none⟩),.int .i64 (i:Int)] h V:=by
 refine av mixed ?_;rw[ZT];exact aiO gp gi hi 1 _ hk
end
theorem de{h:Heap}{a b:Nat}{v v':List Value}{t t':TypeId}{o o':Bool}(ha:h.bl.get a=some (aa v t o))(hb:h.bl.get b=some (aa v' t' o'))(hn:t≠t'):a≠b:=by
 rintro rfl;rw[ha]at hb;exact bz hn hb
theorem dh{h:Heap}{a b:Nat}{v:List Value}{t:TypeId}{o:Bool}{es:List MapEntry}{cl:Nat}(ha:h.bl.get a=some (aa v t o))(hb:h.bl.get b=some (.map es cl)):a≠b:=by
 rintro rfl;rw[ha]at hb;exact bQ hb.symm
section
variable {h h':Heap}{A:WA}{tb:Nat}{dS:List (Option (Nat × Int))}{bits:List Int}{now:Int}{tv:Value}{cs:List (Option CR)}{wm:List IE}{AX:Nat}{begun:Int}
theorem adb{i:Nat}{c c':CR}(hi:cs[i]? = some (some c))(hc:c'.ca=c.ca):((cs.set i (some c')).map λo=>cZ (o.map (·.ca)))=cs.map λo=>cZ (o.map (·.ca)):=by
 have hil:=(List.getElem?_eq_some_iff.1 hi).1;refine List.ext_getElem? λj=>?_;rw[List.getElem?_map,List.getElem?_map,List.getElem?_set];split
 .rename_i e;subst e;rw[hi];simp[hc,hil]
 .rfl
theorem AZ{i:Nat}{c:CR}{o:Option CR}(h:some c∈cs.set i o):o=some c\/∃j,j≠i/\cs[j]? = some (some c):=by
 obtain⟨j,hj⟩:=List.getElem?_of_mem h;rw[List.getElem?_set]at hj;split at hj
 .split at hj
  .exact .inl (Option.some.inj hj)
  .cases hj
 .rename_i hne;exact .inr ⟨j,λe=>hne e.symm,hj⟩
theorem RW.apart(s:RW h A tb dS bits now tv cs wm AX begun){i j:Nat}{c c':CR}(hi:cs[i]? = some (some c))(hj:cs[j]? = some (some c'))(hne:i≠j):c.ca≠c'.ca:=by
 rcases Nat.lt_or_gt_of_ne hne with h1|h1
 .exact fe.1 s.dc i j _ _ h1 hi hj c c' rfl rfl
 .exact λe=>fe.1 s.dc j i _ _ h1 hj hi c' c rfl rfl e.symm
theorem RW.iT(s:RW h A tb dS bits now tv cs wm AX begun){i:Nat}{c c':CR}(hi:cs[i]? = some (some c))(hc:c'.ca=c.ca):RW ⟨h.nx,h.bl.aV c.ca (bZ A.wb c'),h.lo⟩ A tb dS bits now tv (cs.set i (some c')) wm AX begun:=by
 obtain⟨k1,k2,k3⟩:=s.ca c (List.mem_of_getElem? hi);have up:∀{b:Nat}{v:List Value}{t:TypeId}{o:Bool},h.bl.get b=some (aa v t o)->128≠t->(h.bl.aV c.ca (bZ A.wb c')).get b=some (aa v t o):=λhb hn=>(T.aj _ _ (de k3 hb hn)).trans hb;refine⟨s.BT,up s.gw (by decide),s.Mo,up s.gl (by decide),s.lth,up s.gh (by decide),λp hp=>⟨(s.ho p hp).1,up (s.ho p hp).2 (by decide)⟩,s.Sn,up s.gp (by decide),s.lti,up s.gi (by decide),s.li,s.ltk,up s.gk (by decide),s.Yu,?_,?_,?_,s.kO,(T.aj _ _ (dh k3 s.gm)).trans s.gm,s.nn,?_⟩
 .rw[adb hi hc];exact up s.gc (by decide)
 .rw[List.length_set];exact s.lc
 .intro d hd;rcases AZ hd with e|⟨j,hne,hj⟩
  .cases e;rw[hc];exact⟨k1,k2,T.ah _ _ _⟩
  .obtain⟨g1,g2,g3⟩:=s.ca d (List.mem_of_getElem? hj);exact⟨g1,g2,(T.aj _ _ (s.apart hi hj (λe=>hne e.symm))).trans g3⟩
 .refine tj s.dc (λj q hj hq a b ha hb=>?_) (λj q hj hq a b ha hb=>?_)
  .subst ha;cases hb;rw[hc];exact s.apart hq hi (by omega)
  .subst hb;cases ha;rw[hc];exact s.apart hi hq (by omega)
theorem RW.uW(s:RW h A tb dS bits now tv cs wm AX begun)(i:Nat)(o:Option CR)(ho:∀c,o=some c->c.ca<h.nx/\h.lo<=c.ca/\h.bl.get c.ca=some (bZ A.wb c)/\∀(j:Nat)(d:CR),j≠i->cs[j]? = some (some d)->d.ca≠c.ca):RW ⟨h.nx,h.bl.aV A.cb (aa ((cs.set i o).map λo=>cZ (o.map (·.ca))) 118 false),h.lo⟩ A tb dS bits now tv (cs.set i o) wm AX begun:=by
 have k3:=s.gc;have up:∀{b:Nat}{v:List Value}{t:TypeId}{op:Bool},h.bl.get b=some (aa v t op)->118≠t->(h.bl.aV A.cb (aa ((cs.set i o).map λo=>cZ (o.map (·.ca))) 118 false)).get b=some (aa v t op):=λhb hn=>(T.aj _ _ (de k3 hb hn)).trans hb;refine⟨s.BT,up s.gw (by decide),s.Mo,up s.gl (by decide),s.lth,up s.gh (by decide),λp hp=>⟨(s.ho p hp).1,up (s.ho p hp).2 (by decide)⟩,s.Sn,up s.gp (by decide),s.lti,up s.gi (by decide),s.li,s.ltk,up s.gk (by decide),s.Yu,T.ah _ _ _,?_,?_,s.kO,(T.aj _ _ (dh k3 s.gm)).trans s.gm,s.nn,?_⟩
 .rw[List.length_set];exact s.lc
 .intro d hd;rcases AZ hd with e|⟨j,hne,hj⟩
  .obtain⟨g1,g2,g3,_⟩:=ho d e;exact⟨g1,g2,up g3 (by decide)⟩
  .obtain⟨g1,g2,g3⟩:=s.ca d (List.mem_of_getElem? hj);exact⟨g1,g2,up g3 (by decide)⟩
 .refine tj s.dc (λj q hj hq a b ha hb=>?_) (λj q hj hq a b ha hb=>?_)
  .subst ha;exact(ho b hb).2.2.2 j a (by omega) hq
  .subst hb;exact λe=>(ho a ha).2.2.2 j b (by omega) hq e.symm
theorem RW.DZ(s:RW h A tb dS bits now tv cs wm AX begun)(A0:List (Option (Nat × Int)))(hl:A0.length=dS.length)(ho:∀p,some p∈A0->p.1<h.nx/\h.bl.get p.1=some (aa [.int .i64 p.2] 253 false)):RW ⟨h.nx,h.bl.aV A.hb (aa (ql A0) 251 false),h.lo⟩ A tb A0 bits now tv cs wm AX begun:=by
 have k3:=s.gh;have up:∀{b:Nat}{v:List Value}{t:TypeId}{op:Bool},h.bl.get b=some (aa v t op)->251≠t->(h.bl.aV A.hb (aa (ql A0) 251 false)).get b=some (aa v t op):=λhb hn=>(T.aj _ _ (de k3 hb hn)).trans hb;exact⟨s.BT,up s.gw (by decide),s.Mo,by rw[hl];exact up s.gl (by decide),s.lth,T.ah _ _ _,λp hp=>⟨(ho p hp).1,up (ho p hp).2 (by decide)⟩,s.Sn,up s.gp (by decide),s.lti,up s.gi (by decide),s.li,s.ltk,up s.gk (by decide),s.Yu,up s.gc (by decide),s.lc,λc hc=>⟨(s.ca c hc).1,(s.ca c hc).2.1,up (s.ca c hc).2.2 (by decide)⟩,s.kO,(T.aj _ _ (dh k3 s.gm)).trans s.gm,s.nn,s.dc⟩
theorem RW.A1(s:RW h A tb dS bits now tv cs wm AX begun)(b':Int):RW ⟨h.nx,h.bl.aV A.wb (aa [.pointer (some ⟨tb,0,none⟩),.pointer (some ⟨A.lb,0,none⟩),.pointer (some ⟨A.pb,0,none⟩),.pointer (some ⟨A.kb,0,none⟩),.slice (some ⟨A.cb,0,none⟩) A.n A.n,.map (some A.mb),.int .i64 b'] 126 false),h.lo⟩ A tb dS bits now tv cs wm AX b':=by
 have k3:=s.gw;have up:∀(o':bD){b:Nat}{v:List Value}{t:TypeId}{op:Bool},h.bl.get b=some (aa v t op)->126≠t->(h.bl.aV A.wb o').get b=some (aa v t op):=λo' _ _ _ _ hb hn=>(T.aj _ _ (de k3 hb hn)).trans hb;exact⟨s.BT,T.ah _ _ _,s.Mo,up _ s.gl (by decide),s.lth,up _ s.gh (by decide),λp hp=>⟨(s.ho p hp).1,up _ (s.ho p hp).2 (by decide)⟩,s.Sn,up _ s.gp (by decide),s.lti,up _ s.gi (by decide),s.li,s.ltk,up _ s.gk (by decide),s.Yu,up _ s.gc (by decide),s.lc,λc hc=>⟨(s.ca c hc).1,(s.ca c hc).2.1,up _ (s.ca c hc).2.2 (by decide)⟩,s.kO,(T.aj _ _ (dh k3 s.gm)).trans s.gm,s.nn,s.dc⟩
end
structure TA where
 tb:Nat
 bw:Nat
 bp:Nat
 bl:Nat
 c:h_
 vb:Value
 aW:Nat
 ms:List Nat
structure TD where
 Ts:List TB
 W:List IE
 wc:Nat
 F:List Int
 B:List Bool
structure RD where
 dS:List (Option (Nat × Int))
 bits:List Int
 now:Int
 tv:Value
 cs:List (Option CR)
 wm:List IE
 AX:Nat
 begun:Int
abbrev BV(h:Heap)(a:TA)(N:Nat)(d:TD):Prop:=lH h a.tb a.bw a.bp a.bl a.c a.vb a.aW N d.Ts d.W d.wc d.F d.B
abbrev RWx(h:Heap)(A:WA)(tb:Nat)(R:RD):Prop:=RW h A tb R.dS R.bits R.now R.tv R.cs R.wm R.AX R.begun
structure WS(h:Heap)(A:WA)(a:TA)(N:Nat)(d:TD)(R:RD):Prop where
 t:BV h a N d
 r:RWx h A a.tb R
 mw:A.mb≠a.bw
 mm:∀b∈d.Ts,A.mb≠b.bm
 mi:A.mb∈a.ms/\a.bw∈a.ms/\∀b∈d.Ts,b.bm∈a.ms
 lo:h.lo<=h.nx
section
variable {h h':Heap}{A:WA}{a:TA}{N:Nat}{d:TD}{R:RD}
theorem WS.le(s:WS h A a N d R)(l:Le h h'):WS h' A a N d R:=⟨s.t.le l,s.r.le l,s.mw,s.mm,s.mi,by have:=l.nx;have:=l.lo;have:=s.lo;omega⟩
theorem WS.up(s:WS h A a N d R){N':Nat}(hN:N<=N'):WS h A a N' d R:=⟨s.t.up hN,s.r,s.mw,s.mm,s.mi,s.lo⟩
theorem WS.table(s:WS h A a N d R){N':Nat}{d':TD}(t':BV h' a N' d')(f:wD d.Ts a.bw a.bp a.bl h h')(hb:d'.Ts.map (·.bm)=d.Ts.map (·.bm)):WS h' A a N' d' R:=by
 have back:∀b∈d'.Ts,∃b0∈d.Ts,b0.bm=b.bm:=λb hb'=>by
  have:b.bm∈d.Ts.map (·.bm):=by rw[<-hb];exact List.mem_map.2 ⟨b,hb',rfl⟩
  exact List.mem_map.1 this
 refine⟨t',s.r.aiJ s.t.is f s.mw s.mm,s.mw,λb hb'=>?_,⟨s.mi.1,s.mi.2.1,λb hb'=>?_⟩,by have:=f.nx;have:=f.lo;have:=s.lo;omega⟩
 .obtain⟨b0,hb0,e⟩:=back b hb';rw[<-e];exact s.mm b0 hb0
 .obtain⟨b0,hb0,e⟩:=back b hb';rw[<-e];exact s.mi.2.2 b0 hb0
theorem BV.St(s:BV h a N d){x:Nat}{v:List Value}{t:TypeId}{op:Bool}(hg:h.bl.get x=some (aa v t op))(hn:∀ty o,lZ ty o->t≠ty)(o:bD):BV ⟨h.nx,h.bl.aV x o,h.lo⟩ a N d:=
 lH.put s o (λvs ty o' ht e=>by rw[hg]at e;exact bz (hn ty o' ht) e) (dh hg s.is.pq) λb hb=>dh hg (s.is.bk b hb).gu
theorem nTy{t:TypeId}(h1:t≠194)(h2:t≠205)(h3:t≠267)(h4:t≠55)(h5:t≠57)(h6:t≠286)(h7:t≠4)(h8:t≠3):∀ty o,lZ ty o->t≠ty:=by
 rintro ty o (rfl|rfl|rfl|rfl|rfl|rfl|rfl|⟨rfl,_⟩)<;>assumption
theorem WS.iT(s:WS h A a N d R){i:Nat}{c c':CR}(hi:R.cs[i]? = some (some c))(hc:c'.ca=c.ca):WS ⟨h.nx,h.bl.aV c.ca (bZ A.wb c'),h.lo⟩ A a N d { R with cs:=R.cs.set i (some c') }:=
 ⟨BV.St s.t (s.r.ca c (List.mem_of_getElem? hi)).2.2 (nTy (by decide) (by decide) (by decide) (by decide) (by decide) (by decide) (by decide) (by decide)) _,s.r.iT hi hc,s.mw,s.mm,s.mi,s.lo⟩
theorem WS.uW(s:WS h A a N d R)(i:Nat)(o:Option CR)(ho:∀c,o=some c->c.ca<h.nx/\h.lo<=c.ca/\h.bl.get c.ca=some (bZ A.wb c)/\∀(j:Nat)(d:CR),j≠i->R.cs[j]? = some (some d)->d.ca≠c.ca):WS ⟨h.nx,h.bl.aV A.cb (aa ((R.cs.set i o).map λo=>cZ (o.map (·.ca))) 118 false),h.lo⟩ A a N d { R with cs:=R.cs.set i o }:=
 ⟨BV.St s.t s.r.gc (nTy (by decide) (by decide) (by decide) (by decide) (by decide) (by decide) (by decide) (by decide)) _,s.r.uW i o ho,s.mw,s.mm,s.mi,s.lo⟩
theorem WS.DZ(s:WS h A a N d R)(A0:List (Option (Nat × Int)))(hl:A0.length=R.dS.length)(ho:∀p,some p∈A0->p.1<h.nx/\h.bl.get p.1=some (aa [.int .i64 p.2] 253 false)):WS ⟨h.nx,h.bl.aV A.hb (aa (ql A0) 251 false),h.lo⟩ A a N d { R with dS:=A0 }:=
 ⟨BV.St s.t s.r.gh (nTy (by decide) (by decide) (by decide) (by decide) (by decide) (by decide) (by decide) (by decide)) _,s.r.DZ A0 hl ho,s.mw,s.mm,s.mi,s.lo⟩
theorem WS.A1(s:WS h A a N d R)(b':Int):WS ⟨h.nx,h.bl.aV A.wb (aa [.pointer (some ⟨a.tb,0,none⟩),.pointer (some ⟨A.lb,0,none⟩),.pointer (some ⟨A.pb,0,none⟩),.pointer (some ⟨A.kb,0,none⟩),.slice (some ⟨A.cb,0,none⟩) A.n A.n,.map (some A.mb),.int .i64 b'] 126 false),h.lo⟩ A a N d { R with begun:=b' }:=
 ⟨BV.St s.t s.r.gw (nTy (by decide) (by decide) (by decide) (by decide) (by decide) (by decide) (by decide) (by decide)) _,s.r.A1 b',s.mw,s.mm,s.mi,s.lo⟩
end
theorem aiQ(h:Heap)(b o:Nat):lT prog h 100 25 (.pointer (some ⟨b,o,none⟩)) (.pointer none)=some false:=by kernel_rfl
theorem jF{β:Type}{fl:β}(cn:Bool)(b o:Nat)(h:Heap)(V:Z7 β):ay fl prog .eql 25 cn false (.pointer (some ⟨b,o,none⟩)) (.pointer none) h V=V (.bool false) h:=by simp only[ay,aiQ,bK]
theorem Su{β:Type}{fl:β}(cn:Bool)(b o:Nat)(h:Heap)(V:Z7 β):ay fl prog .neq 25 cn false (.pointer (some ⟨b,o,none⟩)) (.pointer none) h V=V (.bool true) h:=by simp only[ay,aiQ,bK,Bool.not_false]
theorem aiR(h:Heap)(b o:Nat):lT prog h 100 118 (.pointer (some ⟨b,o,none⟩)) (.pointer none)=some false:=by kernel_rfl
theorem Yv(h:Heap):lT prog h 100 118 (.pointer none) (.pointer none)=some true:=by kernel_rfl
theorem V4{β:Type}{fl:β}(cn:Bool)(o:Option Nat)(h:Heap)(V:Z7 β):ay fl prog .eql 118 cn false (cZ o) (.pointer none) h V=V (.bool o.isNone) h:=by
 cases o with
 |none=>simp only[cZ,ay,Yv,bK,Option.isNone]
 |some b=>simp only[cZ,ay,aiR,bK,Option.isNone]
theorem V5{β:Type}{fl:β}(cn:Bool)(o:Option Nat)(h:Heap)(V:Z7 β):ay fl prog .neq 118 cn false (cZ o) (.pointer none) h V=V (.bool o.isSome) h:=by
 cases o with
 |none=>simp only[cZ,ay,Yv,bK,Bool.not_true];rfl
 |some b=>simp only[cZ,ay,aiR,bK,Bool.not_false];rfl
section
variable {h:Heap}{A:WA}{a:TA}{N:Nat}{d:TD}{R:RD}
theorem mQ(s:WS h A a N d R){i:Nat}(hi:i<A.n)(V:KQ)(hk:V (.bool true) h):CallW prog 54 [.pointer (some ⟨A.wb,0,none⟩),.int .i64 (i:Int)] h V:=by
 have gw:=s.r.gw;refine av mixed ?_;rw[agz];simp(disch:=try exact Y)only[Wz,Su,br (show(0:Int)<=(i:Int)by omega),aG,gw,fV (show(i:Int)<(A.n:Int)by omega)];exact hk
theorem jZ(s:WS h A a N d R){i:Nat}{o:Option CR}(hi:R.cs[i]? = some o):(R.cs.map λo=>cZ (o.map (·.ca)))[i]? = some (cZ (o.map (·.ca))):=by rw[List.getElem?_map,hi];rfl
theorem xE(s:WS h A a N d R){i:Nat}{o:Option CR}(hi:R.cs[i]? = some o):i<A.n:=by
 have:=(List.getElem?_eq_some_iff.1 hi).1;have:=s.r.lc;omega
theorem aiS(s:WS h A a N d R){i:Nat}{o:Option CR}(hi:R.cs[i]? = some o)(V:KQ)(hk:V (cZ (o.map (·.ca))) h):CallW prog 68 [.pointer (some ⟨A.wb,0,none⟩),.int .i64 (i:Int)] h V:=by
 have gw:=s.r.gw;have gc:=s.r.gc;have hil:=xE s hi;have r:=jZ s hi;refine av mixed ?_;rw[agF];refine mQ s hil _ ?_;simp(disch:=try exact Y)only[Wz,aG,gw,bh,gc,r,Nat.mul_one];exact hk
theorem JU(a b:Int):(!decide (b<a))=decide (a<=b):=by
 by_cases h:b<a
 .rw[br h,aZ (show ¬a<=b by omega)];rfl
 .rw[aZ h,br (show a<=b by omega)];rfl
theorem ade(x:iz)(h:Heap)(V:KQ)(hlo:h.lo<=h.nx)(hk:∀h',Le h h'->V (.bool (oc x)) h'):CallW prog 55 [.agg ⟨DY x⟩] h V:=by
 refine av mixed ?_;rw[agA];simp(disch:=try exact Y)only[Wz,DY];obtain⟨hA,aT,aL,g1,dy,dz⟩:=kf h (aa [.int .i64 x.k,.int .i64 x.x,.int .i64 x.t,.int .i64 x.r,.int .i64 x.m,.int .i64 x.w,.int .i64 x.to] 31 false);rw[<-aT];clear aT;have hk:=hk hA aL;unfold oc at hk;refine pg x.t x.r ?_;by_cases hl:bf x.t x.r = -1
 .rw[if_pos hl];rw[aZ (λh=>h hl)]at hk;simp(disch:=try exact Y)only[Wz];exact hk
 .rw[if_neg hl];rw[br hl,Bool.true_and]at hk;simp(disch:=try exact Y)only[Wz,g1];by_cases h1:x.k=1
  .rw[if_pos h1]at hk;simp(disch:=try exact Y)only[Wz,br h1,Lw,g1];refine pV x.m ?_;cases hkn:kn x.m with
   |false=>rw[hkn]at hk;simp(disch:=try exact Y)only[Wz];exact hk
   |true=>
    rw[hkn,Bool.true_and]at hk;simp(disch:=try exact Y)only[Wz,g1];by_cases hm:x.m=0
    .rw[aZ (λh=>h hm)]at hk;simp(disch:=try exact Y)only[Wz,br hm];exact hk
    .rw[br hm,Bool.true_and]at hk;simp(disch:=try exact Y)only[Wz,aZ hm,g1,JU];exact hk
  .rw[if_neg h1]at hk;simp(disch:=try exact Y)only[Wz,aZ h1,Lx,g1];by_cases h3:x.k=3
   .rw[if_pos h3]at hk;simp(disch:=try exact Y)only[Wz,br h3,g1];simpa using hk
   .rw[if_neg h3]at hk;simp(disch:=try exact Y)only[Wz,aZ h3,g1];exact hk
end
section
variable {h:Heap}{A:WA}{a:TA}{N:Nat}{d:TD}{R:RD}
theorem wH(f:Fn)(a b:Array Value):(Value.cells (.func f a b)).toList=[.func f a b]:=id rfl
theorem D0{wb:Nat}(c:CR)(g:h.bl.get c.ca=some (bZ wb c))(hlo:h.lo<=c.ca)(ph:Nat)(f:FuncId)(hf:Yt ph=f)(V:KQ)(hk:V (.tuple ⟨[]⟩) ⟨h.nx,h.bl.aV c.ca (bZ wb { c with ph:=ph }),h.lo⟩):CallW prog 57 [.pointer (some ⟨c.ca,0,none⟩),.int .i64 (ph:Int),.func (.func f) ⟨[.pointer (some ⟨c.ca,0,none⟩)]⟩ ⟨[]⟩] h V:=by
 subst hf;refine av mixed ?_;rw[X7];unfold bZ at g hk;simp(disch:=try exact Y)only[Wz,aG,g,xD,wH];exact hk
theorem bO(s:WS h A a N d R){i:Nat}{c:CR}(hi:R.cs[i]? = some (some c)):h.bl.get c.ca=some (bZ A.wb c)/\c.ca<h.nx/\h.lo<=c.ca:=by
 obtain⟨k1,k2,k3⟩:=s.r.ca c (List.mem_of_getElem? hi);exact⟨k3,k1,k2⟩
theorem nO(s:WS h A a N d R){i k:Nat}{c:CR}(hi:R.cs[i]? = some (some c)){nb:Int}(hb:R.bits[i]? = some nb)(hst:c.st=(k:Int)){o:Option (Nat × Int)}(hl:R.dS[k]? = some o)(V:KQ)(hk:V (.bool (!decide ((c.ph:Int)=1) || !o.isSome)) h)(hz:Oa nb 1=0:=by decide):CallW prog 64 [.pointer (some ⟨A.wb,0,none⟩),.int .i64 (i:Int)] h V:=by
 have gw:=s.r.gw;obtain⟨gc,_⟩:=bO s hi;have hli:=s.r.li;refine av mixed ?_;rw[agE];refine aiS s hi _ ?_;simp(disch:=try exact Y)only[Wz,V4,Option.map_some,Option.isNone_some];simp(disch:=try exact Y)only[Wz,aG,gw];refine Ss (by rw[hli];exact s.r.gp) s.r.gi hb _ ?_;simp(disch:=try exact Y)only[Wz,br hz,LA,aG,gw,cZ,gc,bZ,hst];refine N_ s.r.gl s.r.gh hl (λp e=>by subst e;exact(s.r.ho p (List.mem_of_getElem? hl)).2) _ ?_;intro x;simp(disch:=try exact Y)only[Wz,aG,gc,bZ];by_cases h1:(c.ph:Int)=1
 .rw[br h1]at hk;simp(disch:=try exact Y)only[Wz,br h1];exact hk
 .rw[aZ h1]at hk;simp(disch:=try exact Y)only[Wz,aZ h1];exact hk
end
end Go.Proofs
