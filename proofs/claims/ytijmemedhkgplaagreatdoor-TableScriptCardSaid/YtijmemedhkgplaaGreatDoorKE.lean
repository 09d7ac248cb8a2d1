/-
  PROVED HERE: a part of the proof (K30, K31, K32, K33, K34, K35, K36).
-/
import Derived.Test.YtijmemedhkgplaaGreatDoorKD
import Derived.Test.YtijmemedhkgplaaGreatDoorV5
import Derived.Test.YtijmemedhkgplaaGreatDoorSRT
import Derived.Test.YtijmemedhkgplaaGreatDoorV6
set_option linter.unusedVariables false
set_option linter.unusedSimpArgs false
set_option maxRecDepth 100000
namespace Go.Proofs
open Go.Vai Go.Clashes
def qA (a b:Int):Int:=if a<b then -1 else if b<a then 1 else 0
def pP (t r t' r':Int):Int:=if qA t t'=0 then qA r r' else qA t t'
theorem I9 (a:Int) {h:Heap} {κ:Value→Heap→Prop} (hk:κ (.bool false) h):CallW Tryz.prog 111 [.int .i64 a] h κ:=by
 refine fo (v:=.bool false) rfl rfl (aq mixed ?_) hk
 rw[U8]; simp(disch:=first|omega|simp only[Wd]<;>omega|with_unfolding_all rfl)only[Wz]
theorem rD (a b:Int) {h:Heap} {κ:Value→Heap→Prop} (hk:κ (.int .i64 (qA a b)) h):CallW Tryz.prog 58 [.int .i64 a,.int .i64 b] h κ:=by
 refine fo (v:=.int .i64 (qA a b)) rfl rfl (aq mixed ?_) hk
 rw[ZY]
 refine I9 _ (I9 _ ?_)
 rcases Int.lt_trichotomy a b with h1 | h1 | h1
 ·simp(disch:=first|omega|simp only[Wd]<;>omega|with_unfolding_all rfl)only[Wz,vM]; simp[qA,h1]
 ·simp(disch:=first|omega|simp only[Wd]<;>omega|with_unfolding_all rfl)only[Wz,vM]; simp[qA,h1]
 ·simp(disch:=first|omega|simp only[Wd]<;>omega|with_unfolding_all rfl)only[Wz,vM]; simp[qA,h1]; omega
theorem abh (a b:Int) (h:Heap) (v:Value) (hv:Sl (fun n=>[Value.int .i64 n]) h v [a,b]) (κ:KQ) (hk:κ (.int .i64 (if a=0 then b else a)) h):CallW Tryz.prog 57 [v] h κ:=by
 refine aq mixed ?_
 rw[ZX]
 simp only[hv.len]
 have he:∀n:Int,((fun n=>[Value.int .i64 n]) n).length=1:=fun _=>rfl
 have f0:=hv.ld he 0 (p:=a) rfl
 have f1:=hv.ld he 1 (p:=b) rfl
 obtain ⟨b0,o0,hb0,abi,_,hh0⟩:=f0
 obtain ⟨b1,o1,Fb,Gj,_,Ym⟩:=f1
 have hx0:=fun (β:Type) (fl:β) κ=>dD (fl:=fl) hh0 0 κ (Nat.lt_succ_self _)
 have hx1:=fun (β:Type) (fl:β) κ=>dD (fl:=fl) Ym 0 κ (Nat.lt_succ_self _)
 simp only[Nat.add_zero] at hx0 hx1
 refine ⟨fun n l h1=>h1=h∧∃k:Nat,slot l 10=.int .i64 (k:Int)∧k≤2∧n=2-k∧(0<k→a=0)∧(1<k→b=0),⟨2,rfl,0,rfl,by omega,by omega,by omega,by omega⟩,?_⟩
 rintro n l h1 ⟨rfl,k,hs,hk2,rfl,ha,hb⟩
 have:k=0∨k=1∨k=2:=by omega
 rcases this with rfl | rfl | rfl
 ·by_cases h1:a=0
  ·simp(disch:=first|omega|simp only[Wd]<;>omega|with_unfolding_all rfl)only[Wz,hv.len,hs,su,abi,hx0,h1,List.length_cons,List.length_nil]
   exact ⟨1,by omega,trivial,1,rfl,by omega,by omega,fun _=>trivial,fun h=>by omega⟩
  ·simp(disch:=first|omega|simp only[Wd]<;>omega|with_unfolding_all rfl)only[Wz,hv.len,hs,su,abi,hx0,aK h1,List.length_cons,List.length_nil]
   simpa[h1] using hk
 ·have ha:=ha (by omega)
  by_cases h1:b=0
  ·simp(disch:=first|omega|simp only[Wd]<;>omega|with_unfolding_all rfl)only[Wz,hv.len,hs,su,Gj,hx1,h1,List.length_cons,List.length_nil]
   exact ⟨0,by omega,trivial,2,rfl,by omega,by omega,fun _=>ha,fun h=>trivial⟩
  ·simp(disch:=first|omega|simp only[Wd]<;>omega|with_unfolding_all rfl)only[Wz,hv.len,hs,su,Gj,hx1,aK h1,List.length_cons,List.length_nil]
   simpa[ha] using hk
 ·simp(disch:=first|omega|simp only[Wd]<;>omega|with_unfolding_all rfl)only[Wz,hv.len,hs,List.length_cons,List.length_nil]
  have ha:=ha (by omega)
  have hb:=hb (by omega)
  simpa[ha,hb] using hk
theorem pQ (t r t' r':Int) {h:Heap} {κ:Value→Heap→Prop} (hk:κ (.int .i64 (pP t r t' r')) h):CallW Tryz.prog 54 [dz t r,dz t' r'] h κ:=by
 refine fo (v:=.int .i64 (pP t r t' r')) rfl rfl (aq mixed ?_) hk
 rw[ZV]
 simp(disch:=first|omega|simp only[Wd]<;>omega|with_unfolding_all rfl)only[Wz,dz]
 refine rD _ _ ?_
 simp(disch:=first|omega|simp only[Wd]<;>omega|with_unfolding_all rfl)only[Wz]
 refine rD _ _ ?_
 simp(disch:=first|omega|simp only[Wd]<;>omega|with_unfolding_all rfl)only[Wz]
 refine abh _ _ _ _ (Sl.new (L:=[qA t t',qA r r']) (e:=3) (op:=false) (Nat.lt_succ_self _) (T.aa _ _ _) _) _ ?_
 rfl
def fH (p q:Int × Int):Prop:=p.1<q.1∨(p.1=q.1∧p.2<q.2)
theorem jy {a b c:Int × Int} (h1:fH a b) (h2:fH b c):fH a c:=by unfold fH at *; omega
theorem Ew (p q:Int × Int):pP p.1 p.2 q.1 q.2<0↔fH p q:=by
 unfold pP qA fH
 split<;>split<;>(try split)<;>(try split)<;>omega
theorem I_ {p q:Int × Int} (h:p≠q) (hn:¬fH p q):fH q p:=by
 unfold fH at *
 have:¬(p.1=q.1∧p.2=q.2):=fun ⟨a,b⟩=>h (Prod.ext a b)
 omega
def abD:Nat→Int | 0=>0 | 1=>1 | 2=>2 | 3=>2 | 4=>3 | 5=>3 | 6=>3 | 7=>3 | _=>4
theorem WT:∀n,n<13→bK Tryz.prog 40 109 [.int .u64 (n:Nat)] (.int .i64 (abD n))=true:=by
 intro n hn
 have:(List.range 13).all (fun n=>bK Tryz.prog 40 109 [.int .u64 ((n:Nat):Int)] (.int .i64 (abD n)))=true:=by kernel_rfl
 exact List.all_eq_true.1 this n (List.mem_range.2 hn)
theorem abE (v fv:Value) (n:Nat) (hn:n≤12) (lim:Int) (h:Heap) (κ:KQ) (hk:CallW Tryz.prog 225 [v,.int .i64 0,.int .i64 (n:Int),fv] h fun _ h'=>κ (.tuple ⟨[]⟩) h') :
  CallW Tryz.prog 220 [v,.int .i64 0,.int .i64 (n:Int),.int .i64 lim,fv] h κ:=by
 refine aq mixed ?_
 rw[Wf]
 refine ⟨fun m l h1=>slot l 127=.int .i64 0∧slot l 140=.int .i64 (n:Int)∧HQ h h1,⟨0,rfl,rfl,rfl⟩,?_⟩
 rintro m l h1 ⟨s1,s2,hq⟩
 cases (show h=h1 from hq)
 simp(disch:=first|omega|simp only[Wd]<;>omega|with_unfolding_all rfl)only[Wz,Ef,s1,s2]
 exact hk
theorem Oy (v fv:Value) (h:Heap) (κ:KQ) (hk:κ (.tuple ⟨[]⟩) h):CallW Tryz.prog 225 [v,.int .i64 0,.int .i64 0,fv] h κ:=by
 refine aq mixed ?_
 rw[Wg]
 simp(disch:=first|omega|simp only[Wd]<;>omega|with_unfolding_all rfl)only[Wz]
 refine ⟨fun n l h1=>slot l 42=.int .i64 1∧HQ h h1,⟨0,rfl,rfl⟩,?_⟩
 rintro n l h1 ⟨s1,hq⟩
 cases (show h=h1 from hq)
 simp(disch:=first|omega|simp only[Wd]<;>omega|with_unfolding_all rfl)only[Wz,s1]
 exact hk
section
variable {β:Type} {fl:β}
theorem Oz (n:Int) (h:Heap) (κ:Value→Heap→β) (hn:0≤n∧n≤18446744073709551615):jo fl .u64 (.int .i64 n) h κ=κ (.int .u64 n) h:=by
 unfold jo; simp only[ir,ew]; rw[IntWalk.u64_in _ hn]
end
theorem OA (b:Nat):(Value.cells (.map (some b))).toList=[.map (some b)]:=id rfl
def PG (x y:Int × Int):Int:=pP x.1 x.2 y.1 y.2
theorem B0 (x y:Int × Int):ltOf PG x y=true↔fH x y:=by
 show decide (pP x.1 x.2 y.1 y.2<0)=true↔_
 rw[decide_eq_true_eq,Ew]
theorem Jb {x y:Int × Int}:ltOf PG x y=false↔¬fH x y:=by
 rw[←B0,Bool.not_eq_true]
theorem Ro:Sort.SWO (ltOf PG) where
 irrefl x:=Jb.2 (by unfold fH; omega)
 trans x y z h1 h2:=(B0 _ _).2 (jy ((B0 _ _).1 h1) ((B0 _ _).1 h2))
 ntrans x y z h1 h2:=by
  rw[Jb] at *
  unfold fH at *
  omega
theorem OB (blk size:Nat) (w:World):Go.Proofs.CmpLays Tryz.prog 54 #[] nU 2 PG blk 0 size w:=by
 intro m os dk _ x y
 exact rF (args:=[dz x.1 x.2,dz y.1 y.2]) (args':=[dz x.1 x.2,dz y.1 y.2]) (pQ x.1 x.2 y.1 y.2 rfl)
  (.cons (VR.qX (.cons (.int _ _) (.cons (.int _ _) .nil))) (.cons (VR.qX (.cons (.int _ _) (.cons (.int _ _) .nil))) .nil)) rfl _
theorem Gm (blk cap:Nat) (d:Array (Int × Int)) (w:World) (hH:Sort.HoldsK nU 2 w blk 0 d) (hblk:blk<w.heap.size) (hsz:d.size<4611686018427387904) :
  Calls Tryz.prog 197 #[.slice (some ⟨blk,0,none⟩) d.size cap,.func (.func 54) #[] #[]] w fun e w'=>e=.returned (.tuple #[])∧∃d' n os,Sort.PermIn 0 d.size d d'∧Sort.SortedIn (fun x y=>ltOf PG x y) 0 d.size d'∧w'=Go.Proofs.sortWorldK nU 2 w blk 0 n d' os:=by
 have eg:∀args w,(callFunc 54 args).run Tryz.prog w=.ok (.enter 54 args) w:=enters_of Tryz.func54 (by kernel_rfl) rfl
 exact Go.Proofs.AnyQ.slices_SortFunc Tryz.WR 2 Tryz.isAgg24 Tryz.sizeOf24 nU (fun _=>rfl) (fun x v hv=>by simp[nU] at hv; rcases hv with rfl | rfl<;>rfl) PG Ro 54 #[] blk 0 cap d w eg (OB blk d.size w) hH hblk hsz
theorem Gn:∀args w,(callFunc 197 args).run Tryz.prog w=.ok (.enter 197 args) w:=enters_of Tryz.func197 (by kernel_rfl) rfl
theorem agu (φ:dJ) (x:Int × Int) (cs:List Value) (h:F2 (VR φ) (nU x) cs):∃y:Int × Int,cs=nU y∧x=y:=by
 unfold nU at h
 cases h with | cons h1 h=>
 cases h with | cons h2 h=>
 cases h
 cases h1; cases h2
 exact ⟨x,rfl,rfl⟩
theorem Rp (a h:Heap) (L:List (Int × Int)) (v:Value) (κ:KQ) (ho:yq a h v L) (hle:Le a h) (hlo:h.lo≤h.nx) (hl:L.length≤1000000) (hd:L.Nodup)
  (hk:∀(D:List (Int × Int)) h',D.Perm L→D.Pairwise fH→yq a h' v D→Le a h'→κ (.tuple ⟨[]⟩) h'):CallW Tryz.prog 197 [v,.func (.func 54) #[] #[]] h κ:=by
 rcases ho with ⟨rfl,hv⟩ | ⟨b,hv,h1,h2,h3,h4⟩
 ·obtain ⟨x,c,rfl,_⟩:=(show Sl nU h v [] from (show yq a h v [] from .inl ⟨rfl,hv⟩).sl)
  refine aq mixed ?_
  rw[V9]
  simp(disch:=first|omega|simp only[Wd]<;>omega|with_unfolding_all rfl)only[Wz,Oz]
  refine r7 mixed (WT 0 (by omega)) ?_
  refine abE _ _ 0 (by omega) _ h _ ?_
  refine Oy _ _ h _ ?_
  exact hk [] h (List.Perm.refl _) List.Pairwise.nil (.inl ⟨rfl,hv⟩) hle
 ·cases hv
  refine BZ (by decide) (enc:=nU) (dc:=nU) sJ sJ (kA:=id) (kC:=id) (lt:=fun x y=>ltOf PG x y) agu Gn Gm h4 h3 hl ?_
  intro D hp hs
  have hs2:D.Pairwise fH:=by
   have hnd:D.Nodup:=(hp.nodup_iff).2 hd
   refine (hnd.and hs).imp ?_
   rintro x y ⟨hne,hlt⟩
   exact I_ (fun e=>hne e.symm) (Jb.1 hlt)
  refine hk D _ hp hs2 (.inr ⟨b,by rw[hp.length_eq],h1,h2,h3,T.aa _ _ _⟩) ⟨hle.nx,hle.lo,fun c hc=>?_⟩
  exact (T.aj _ _ (by omega)).trans (hle.get c hc)
theorem Rq {h:Heap} {bb bm bp bl most:Nat} {M:List HE} {clock:Nat} {F:List Int} {B:List Bool} (s:bg h bb bm bp bl most M clock F B) (hlo:h.lo≤h.nx) (hM:M.length≤1000) (κ:KQ)
  (hk:∀v h' (D:List (Int × Int)),D.Perm (M.map a_)→D.Pairwise fH→yq h h' v D→Le h h'→κ v h') :
  CallW Tryz.prog 106 [.pointer (some ⟨bb,0,none⟩)] h κ:=by
 refine aq mixed ?_
 rw[U7]
 have gb:=s.gG
 simp(disch:=first|omega|simp only[Wd]<;>omega|with_unfolding_all rfl)only[Wz,aU,gb]
 refine aq mixed ?_
 rw[VI]
 simp(disch:=first|omega|simp only[Wd]<;>omega|with_unfolding_all rfl)only[Wz,OA]
 obtain ⟨hA,az⟩:∃hA:Heap,hA=⟨h.nx+1,(h.bl.bf (h.nx) (af [.map (some bm)] 135 false)),h.lo⟩:=⟨_,rfl⟩
 have aH:Le h hA:=by subst az; exact ((Le.refl h).new _)
 have gc:hA.bl.get (h.nx)=some (af [.map (some bm)] 135 false):=by subst az; exact T.aa _ _ _
 have dF:hA.nx=h.nx+1:=by subst az; rfl
 have dG:hA.lo=h.lo:=by subst az; rfl
 rw[←az]
 clear az
 have sA:=s.le aH
 refine aq mixed ?_
 rw[VH]
 refine aq mixed ?_
 rw[V8]
 have XW:=s.Fg
 refine Ev M clock bm h.nx hA s.ok sA.iT (by omega) gc (by omega) (by omega) (by omega) _ ?_
 intro v h2 L hp ho aZ
 have n2:=aZ.nx
 have l2:=aZ.lo
 have hnd:(L.map a_).Nodup:=by
  refine ((hp.map a_).nodup_iff).2 ?_
  rw[List.Nodup,List.pairwise_map]
  exact s.ok.nm.imp fun hn e=>hn ⟨congrArg Prod.fst e,congrArg Prod.snd e⟩
 have P8:=hp.length_eq
 refine Rp hA h2 (L.map a_) v _ ho aZ (by omega) (by rw[List.length_map]; omega) hnd ?_
 intro D h3 hpD hs mH cL
 exact hk v h3 D (hpD.trans (hp.map a_)) hs (cU.base mH (by omega)) (aH.trans cL)
theorem KS {β:Type} {fl:β} {M:List HE} {clock:Nat} {h:Heap} {bm:Nat} (o:e_ M clock) (g:h.bl.get bm=some (.map (M.map lz) clock)) {e:HE} (he:e∈M) (κ:Value→Heap→β) :
  eo fl Tryz.prog 24 (.pointer none) false (.map (some bm)) (dz e.t e.r) h κ=κ (.pointer (some ⟨e.hb,0,none⟩)) h:=by
 unfold eo lT
 rw[NS]
 simp only[g]
 rcases Em h e.t e.r M 0 with ⟨g1,g2⟩ | ⟨j,e',g1,g2,g3,g4⟩
 ·exact absurd ⟨rfl,rfl⟩ (g2 e he)
 ·rw[g1]
  rw[o.uniq he (List.mem_of_getElem? g2) g3 g4]; rfl
def PI (v:Value):Value:=match v with | .slice a n c=>.slice a n c | _=>.slice none 0 0
def eX (e:HE):List Value:=[.int .i64 e.t,.int .i64 e.r,PI e.q,.int .i64 e.w]
theorem b6 (e:HE):(eX e).length=4:=rfl
theorem gW (e:HE):(eX e).all ef=true:=by
 unfold eX PI
 split<;>rfl
theorem nV {h:Heap} {q:Value} {Q:List R5} (hq:Sl aW h q Q):PI q=q:=by
 obtain ⟨x,c,rfl,_⟩:=hq
 rfl
abbrev rG (a h:Heap) (v:Value) (K:List HE):Prop:=cU eX a 51 h v K
def nw (a b:HE):Prop:=a.t=b.t∧a.r=b.r∧a.w=b.w∧a.Q=b.Q
theorem KU {h:Heap} {bb bm bp bl most:Nat} {M:List HE} {clock:Nat} {F:List Int} {B:List Bool} (s:bg h bb bm bp bl most M clock F B) (hlo:h.lo≤h.nx) (hM:M.length≤1000) (κ:KQ)
  (hk:∀v h' (K:List HE),K.length=M.length→(K.map a_).Perm (M.map a_)→(K.map a_).Pairwise fH→(∀k∈K,(∃e∈M,nw k e)∧QV h' k.q k.Q)→rG h h' v K→Le h h'→κ v h') :
  CallW Tryz.prog 51 [.pointer (some ⟨bb,0,none⟩)] h κ:=by
 refine aq mixed ?_
 rw[ZU]
 simp(disch:=first|omega|simp only[Wd]<;>omega|with_unfolding_all rfl)only[Wz,fL,IB]
 refine Rq s hlo hM _ ?_
 intro v1 h1 D hp hs G4 bu
 have hlD:D.length=M.length:=by rw[hp.length_eq,List.length_map]
 obtain ⟨x1,c1,rfl,_⟩:=(show Sl nU h1 v1 D from G4.sl)
 have n1:=bu.nx
 have l1:=bu.lo
 simp(disch:=first|omega|simp only[Wd]<;>omega|with_unfolding_all rfl)only[Wz]
 refine ⟨fun m l h2=>∃(i:Nat) (K:List HE),slot l 23=.int .i64 (i:Int)∧m=D.length-i∧i≤D.length∧K.map a_=D.take i∧(∀k∈K,(∃e∈M,nw k e)∧QV h2 k.q k.Q)∧rG h1 h2 (slot l 21) K∧Le h1 h2,
  ⟨_,0,[],rfl,rfl,by omega,by simp,fun k hk=>(nomatch hk),.inl ⟨rfl,.inl rfl⟩,Le.refl _⟩,?_⟩
 rintro m l h2 ⟨i,K,s1,rfl,hi,hK,hQ,Kv,aZ⟩
 have n2:=aZ.nx
 have l2:=aZ.lo
 have Ku:K.length=i:=by have:=congrArg List.length hK; simp at this; omega
 by_cases hst:i<D.length
 ·obtain ⟨p,hpi⟩:∃p,D[i]? = some p:=⟨_,List.getElem?_eq_getElem hst⟩
  have hpD:p∈M.map a_:=hp.mem_iff.1 (List.mem_of_getElem? hpi)
  obtain ⟨e,he,rfl⟩:=List.mem_map.1 hpD
  have s2:=s.le (bu.trans aZ)
  have gb:=s2.gG
  have gm:=s2.iT
  have alJ:=s2.KB
  have H:=s2.aG e he
  have hlt:=H.lt
  have hgd:=s2.good e he
  obtain ⟨qx,qc,eq,_⟩:=(show Sl aW h2 e.q e.Q from H.qv.1)
  have gh:=H.get
  rw[eq] at gh
  obtain ⟨b1,o1,Fb,Gj,_,Ym⟩:=(G4.sl.le aZ).ld sJ i hpi
  have r1:=fun (β:Type) (fl:β) κ=>jG (fl:=fl) Ym 2 κ rfl
  have agv:=s2.Fg
  have gmB:=(((Le.refl h2).new (af [.int .i64 e.t,.int .i64 e.r] 24 false)).get _ agv).trans gm
  have eL:=KS (β:=Option Value) (fl:=none) s2.ok gmB he
  unfold dz at eL
  simp(disch:=first|omega|simp only[Wd]<;>omega|with_unfolding_all rfl)only[Wz,s1,bZ (show (i:Int)<(D.length:Int) by omega),IA,Gj,r1,nU,a_,aU,gb,gh,eL]
  obtain ⟨hB,bF⟩:∃hB:Heap,hB=⟨h2.nx+1+1,((h2.bl.bf (h2.nx) (af [.int .i64 e.t,.int .i64 e.r] 24 false)).bf (h2.nx+1) (cW e.t e.r (.slice qx e.Q.length qc) e.w)),h2.lo⟩:=⟨_,rfl⟩
  have bD:Le h2 hB:=by subst bF; exact (((Le.refl h2).new _).new _)
  have gn:hB.bl.get (h2.nx)=some (af [.int .i64 e.t,.int .i64 e.r] 24 false):=by subst bF; exact (T.aj _ _ (by omega)).trans (T.aa _ _ _)
  have gd:hB.bl.get (h2.nx+1)=some (cW e.t e.r (.slice qx e.Q.length qc) e.w):=by subst bF; exact T.aa _ _ _
  have pE:hB.nx=h2.nx+1+1:=by subst bF; rfl
  have pF:hB.lo=h2.lo:=by subst bF; rfl
  rw[←bF]
  clear bF
  have hqB:Sl aW hB (.slice qx e.Q.length qc) e.Q:=by rw[←eq]; exact H.qv.1.le bD
  have vl:=hgd.small
  refine Eh e.Q hB _ _ hqB (by omega) (by omega) ?_
  intro q3 h3 mH cL
  have n3:=cL.nx
  have l3:=cL.lo
  have gd:=(cL.get _ (by omega)).trans gd
  obtain ⟨vW,vX,rfl,_⟩:=(show Sl aW h3 q3 e.Q from mH.sl)
  simp(disch:=first|omega|simp only[Wd]<;>omega|with_unfolding_all rfl)only[Wz,gd]
  obtain ⟨h4,e4⟩:∃h4:Heap,h4=⟨h3.nx+1,(h3.bl.bf (h2.nx+1) (cW e.t e.r (.slice vW e.Q.length vX) e.w)).bf h3.nx (cW e.t e.r (.slice vW e.Q.length vX) e.w),h3.lo⟩:=⟨_,rfl⟩
  have gK:Le h2 h4:=by rw[e4]; exact ((bD.trans cL).set (b:=h2.nx+1) (by omega) _).new _
  have g4:h4.bl.get h3.nx=some (af ([(⟨e.t,e.r,0,0,.slice vW e.Q.length vX,e.w,e.Q⟩:HE)].flatMap eX) 51 false):=by rw[e4]; exact T.aa _ _ _
  have n4:h4.nx=h3.nx+1:=by rw[e4]
  have l4:h4.lo=h3.lo:=by rw[e4]
  have hq4:QV h4 (.slice vW e.Q.length vX) e.Q:=by
   rw[e4]
   exact ((QV.own mH).put (fun vs op=>by rw[gd]; exact aL (by decide)) _).le ((Le.refl _).new _)
  try rw[←e4]
  clear e4
  refine cT (enc:=eX) (a:=h1) (L:=K) (M:=[(⟨e.t,e.r,0,0,.slice vW e.Q.length vX,e.w,e.Q⟩:HE)]) b6 gW (by decide) (by decide) (Kv.le gK) (Sl.new (by omega) g4 _) (aZ.trans gK) (by simp; omega) (by omega) _ ?_
  intro v5 h5 tV iY _ n5 l5 og
  have Fi:∀c vs op,c<h4.nx→h4.bl.get c=some (af vs 54 op)→h5.bl.get c=h4.bl.get c:=fun c vs op hc hg=>og c hc (by rw[hg]; exact aL (by decide))
  refine ⟨_,by omega,i+1,K++[⟨e.t,e.r,0,0,.slice vW e.Q.length vX,e.w,e.Q⟩],by simp,rfl,by omega,?_,?_,tV,?_⟩
  ·rw[List.map_append,hK,List.take_add_one,hpi]
   rfl
  ·intro k hk'
   rcases List.mem_append.1 hk' with hk' | hk'
   ·exact ⟨(hQ k hk').1,((hQ k hk').2.le gK).frame n5 Fi⟩
   ·rw[List.mem_singleton] at hk'; subst hk'
    exact ⟨⟨e,he,rfl,rfl,rfl,rfl⟩,hq4.frame n5 Fi⟩
  ·exact iY
 ·simp(disch:=first|omega|simp only[Wd]<;>omega|with_unfolding_all rfl)only[Wz,s1,bL (show (D.length:Int)≤(i:Int) by omega)]
  have hiD:i=D.length:=by omega
  subst hiD
  rw[List.take_length] at hK
  exact hk _ h2 K (by omega) (hK▸hp) (hK▸hs) hQ (cU.base Kv (by omega)) (bu.trans aZ)
theorem eN.sub {M M':List HE} {t r w:Int} {Q:List R5} (s:eN M M' t r w Q):∀x∈M',x∈M∨(x.t=t∧x.r=r∧x.w=w∧x.Q=Q):=by
 intro x hx
 by_cases h0:Q=[]
 ·rw[s.gone h0] at hx; exact .inl (List.mem_filter.1 hx).1
 ·obtain ⟨e,h1,h2,h3,h4,hp⟩:=s.put h0
  rcases List.mem_append.1 (hp.mem_iff.1 hx) with hx | hx
  ·exact .inl (List.mem_filter.1 hx).1
  ·rw[List.mem_singleton] at hx; subst hx; exact .inr ⟨h1,h2,h3,h4⟩
theorem eN.len {M M':List HE} {t r w:Int} {Q:List R5} (s:eN M M' t r w Q):M'.length≤(M.filter fun x=>!uc t r x).length+1:=by
 by_cases h0:Q=[]
 ·rw[s.gone h0]; omega
 ·obtain ⟨e,_,_,_,_,hp⟩:=s.put h0
  rw[hp.length_eq]; simp
theorem eN.wb {M M':List HE} {t r w:Int} {Q:List R5} {N:Nat} (s:eN M M' t r w Q) (hw:∀e∈M,e.w≤N) (h:w≤N+1):∀e∈M',e.w≤(N+1:Nat):=by
 intro e he
 rcases s.sub e he with h1 | ⟨_,_,h1,_⟩
 ·have:=hw e h1; omega
 ·omega
theorem Jc {M:List HE} {clock:Nat} (o:e_ M clock) {e:HE} (he:e∈M):(M.filter fun x=>!uc e.t e.r x).length+1=M.length:=by
 have:=(nu o he).length_eq
 rw[this]; simp
theorem WU (Q:List R5) (W id x m:Int):(cv Q W id x m).2.1≤W+1:=by unfold cv; split<;>simp<;>omega
theorem WV (Q:List R5) (W:Int) (r:R5) (m:Int):(dB Q W r m).2.1≤W+1:=by unfold dB; split<;>simp<;>omega
theorem Rr (Q:List R5) (W:Int) (r:R5) (m:Int):(dB Q W r m).1.id=r.id:=by unfold dB; split<;>rfl
theorem nW {Q:List R5} {i:Nat} {p p':R5} (hi:Q[i]? = some p) (h:p'.id=p.id):(Q.set i p').map (·.id)=Q.map (·.id):=by
 obtain ⟨hl,rfl⟩:=List.getElem?_eq_some_iff.1 hi
 rw[List.map_set,h]
 refine List.ext_getElem? fun k=>?_
 rw[List.getElem?_set]
 split
 ·rename_i e; subst e; simp[hl]
 ·rfl
section
variable {h h':Heap} {bb bm bp bl most cap N:Nat} {M M':List HE} {clock clock':Nat} {F F':List Int} {B B':List Bool}
theorem Gp {Q:List R5} {W:Int} (v:VQ Q W) {p:R5} {id:Int} (hf:bq Q id=some p):(Q.map (·.id)).Perm ((Q.filter fun r=>!aV id r).map (·.id)++[id]):=by
 obtain ⟨hp,rfl⟩:=c9 hf
 have hnd:(Q.map (·.id)).Nodup:=by
  rw[List.Nodup,List.pairwise_map]
  exact v.pair.imp fun hb=>hb.id
 have WW:((Q.filter fun r=>!aV p.id r).map (·.id)).Nodup:=hnd.sublist (List.filter_sublist.map _)
 refine (List.perm_ext_iff_of_nodup hnd (yo WW fun hm=>?_)).2 fun x=>?_
 ·obtain ⟨q,hq,e⟩:=List.mem_map.1 hm
  have:=(List.mem_filter.1 hq).2
  simp[aV,e] at this
 ·rw[List.mem_append,List.mem_singleton,List.mem_map,List.mem_map]
  constructor
  ·rintro ⟨q,hq,rfl⟩
   by_cases hqp:q.id=p.id
   ·exact .inr hqp
   ·exact .inl ⟨q,List.mem_filter.2 ⟨hq,by simp[aV,hqp]⟩,rfl⟩
  ·rintro (⟨q,hq,rfl⟩ | rfl)
   ·exact ⟨q,(List.mem_filter.1 hq).1,rfl⟩
   ·exact ⟨p,hp,rfl⟩
end
theorem OC (b:Nat) (n:Int) (p:Addr) (κ:List Value→Prop):bC False [(2,1)] [.map (some b)] [.int .i64 n,.pointer (some p),.map none] κ=κ [.int .i64 n,.pointer (some p),.map (some b)]:=by kernel_rfl
theorem EK (aG:Nat) (bp:Nat) (h:Heap) (κ:KQ) (hh:1≤aG∧aG≤64) (hlo:h.lo≤h.nx)
  (hk:∀h',Le h h'→h'.nx=h.nx+2→h'.bl.get h.nx=some (.map [] 0)→h'.bl.get (h.nx+1)=some (af [.int .i64 (aG:Int),.pointer (some ⟨bp,0,none⟩),.map (some h.nx)] 137 false)→κ (.tuple ⟨[.pointer (some ⟨h.nx+1,0,none⟩),.int .i64 0]⟩) h') :
  CallW Tryz.prog 45 [.int .i64 (aG:Int),.pointer (some ⟨bp,0,none⟩)] h κ:=by
 refine aq mixed ?_
 rw[Ta]
 simp(disch:=first|omega|simp only[Wd]<;>omega|with_unfolding_all rfl)only[Wz,bL (show (1:Int)≤(aG:Int) by omega),bL (show (aG:Int)≤64 by omega),vZ,nZ,OC]
 exact hk _ (((Le.refl h).new _).new _) rfl ((T.aj _ _ (by omega)).trans (T.aa _ _ _)) (T.aa _ _ _)
def qQ (n m:Int):Int:=if m<1 then 0 else if Int.tmod n m<0 then Int.tmod n m+m else Int.tmod n m
theorem WX (n m:Int) (hm:m≤9223372036854775807) {h:Heap} {κ:Value→Heap→Prop} (hk:κ (.int .i64 (qQ n m)) h):CallW Tryz.prog 26 [.int .i64 n,.int .i64 m] h κ:=by
 refine fo (v:=.int .i64 (qQ n m)) rfl rfl (aq mixed ?_) hk
 rw[Zu]
 by_cases h1:m<1
 ·simp(disch:=first|omega|simp only[Wd]<;>omega|with_unfolding_all rfl)only[Wz]; simp[qQ,h1]
 ·have h2:=Int.tmod_lt_of_pos n (show 0<m by omega)
  have h3:=Int.lt_tmod_of_pos n (show 0<m by omega)
  simp(disch:=first|omega|simp only[Wd]<;>omega|with_unfolding_all rfl)only[Wz,Ia,Ql _ _ _ _ _ m _ _ (by omega)]
  refine ⟨fun l h'=>slot l 5=.int .i64 (qQ n m),?_,fun l h' hs=>hs⟩
  by_cases h4:Int.tmod n m<0
  ·simp(disch:=first|omega|simp only[Wd]<;>omega|with_unfolding_all rfl)only[Wz]; simp[qQ,h1,h4]
  ·simp(disch:=first|omega|simp only[Wd]<;>omega|with_unfolding_all rfl)only[Wz]; simp[qQ,h1,h4]
structure Act where
 k:Int
 t:Int
 r:Int
 id:Int
 x:Int
 m:Int
def dc (a:Act):List Value:=[.int .i64 a.k,.int .i64 a.t,.int .i64 a.r,.int .i64 a.id,.int .i64 a.x,.int .i64 a.m]
theorem encA_len (a:Act):(dc a).length=6:=rfl
end Go.Proofs
