/-
  PROVED HERE: a part of the proof (K30, K31, K32, K33, K34, K35, K36).
-/
import Derived.Test.YtmjghbjpdoeemaaGreatDoorKD
import Derived.Test.YtmjghbjpdoeemaaGreatDoorV5
import Derived.Test.YtmjghbjpdoeemaaGreatDoorSRT
import Derived.Test.YtmjghbjpdoeemaaGreatDoorV6
set_option linter.unusedVariables false
set_option linter.unusedSimpArgs false
set_option maxRecDepth 100000
namespace Go.Proofs
open Go.Vai Go.Clashes
def uT (a b:Int):Int:=if a<b then -1 else if b<a then 1 else 0
def pX (t r t' r':Int):Int:=if uT t t'=0 then uT r r' else uT t t'
theorem EZ (a:Int) {h:Heap} {κ:Value→Heap→Prop} (hk:κ (.bool false) h):CallW Tryz.prog 133 [.int .i64 a] h κ:=by
 refine fD (v:=.bool false) rfl rfl (aq mixed ?_) hk
 rw[PK]; simp(disch:=first|omega|simp only[Wd]<;>omega|with_unfolding_all rfl)only[Wz]
theorem uU (a b:Int) {h:Heap} {κ:Value→Heap→Prop} (hk:κ (.int .i64 (uT a b)) h):CallW Tryz.prog 91 [.int .i64 a,.int .i64 b] h κ:=by
 refine fD (v:=.int .i64 (uT a b)) rfl rfl (aq mixed ?_) hk
 rw[UC]
 refine EZ _ (EZ _ ?_)
 rcases Int.lt_trichotomy a b with h1 | h1 | h1
 ·simp(disch:=first|omega|simp only[Wd]<;>omega|with_unfolding_all rfl)only[Wz,sk]; simp[uT,h1]
 ·simp(disch:=first|omega|simp only[Wd]<;>omega|with_unfolding_all rfl)only[Wz,sk]; simp[uT,h1]
 ·simp(disch:=first|omega|simp only[Wd]<;>omega|with_unfolding_all rfl)only[Wz,sk]; simp[uT,h1]; omega
theorem aaq (a b:Int) (h:Heap) (v:Value) (hv:Sl (fun n=>[Value.int .i64 n]) h v [a,b]) (κ:KQ) (hk:κ (.int .i64 (if a=0 then b else a)) h):CallW Tryz.prog 90 [v] h κ:=by
 refine aq mixed ?_
 rw[UB]
 simp only[hv.len]
 have he:∀n:Int,((fun n=>[Value.int .i64 n]) n).length=1:=fun _=>rfl
 have f0:=hv.ld he 0 (p:=a) rfl
 have f1:=hv.ld he 1 (p:=b) rfl
 obtain ⟨b0,o0,hb0,VS,_,hh0⟩:=f0
 obtain ⟨b1,o1,Kn,Ml,_,S5⟩:=f1
 have hx0:=fun (β:Type) (fl:β) κ=>cL (fl:=fl) hh0 0 κ (Nat.lt_succ_self _)
 have hx1:=fun (β:Type) (fl:β) κ=>cL (fl:=fl) S5 0 κ (Nat.lt_succ_self _)
 simp only[Nat.add_zero] at hx0 hx1
 refine ⟨fun n l h1=>h1=h∧∃k:Nat,slot l 10=.int .i64 (k:Int)∧k≤2∧n=2-k∧(0<k→a=0)∧(1<k→b=0),⟨2,rfl,0,rfl,by omega,by omega,by omega,by omega⟩,?_⟩
 rintro n l h1 ⟨rfl,k,hs,hk2,rfl,ha,hb⟩
 have:k=0∨k=1∨k=2:=by omega
 rcases this with rfl | rfl | rfl
 ·by_cases h1:a=0
  ·simp(disch:=first|omega|simp only[Wd]<;>omega|with_unfolding_all rfl)only[Wz,hv.len,hs,pM,VS,hx0,h1,List.length_cons,List.length_nil]
   exact ⟨1,by omega,trivial,1,rfl,by omega,by omega,fun _=>trivial,fun h=>by omega⟩
  ·simp(disch:=first|omega|simp only[Wd]<;>omega|with_unfolding_all rfl)only[Wz,hv.len,hs,pM,VS,hx0,aG h1,List.length_cons,List.length_nil]
   simpa[h1] using hk
 ·have ha:=ha (by omega)
  by_cases h1:b=0
  ·simp(disch:=first|omega|simp only[Wd]<;>omega|with_unfolding_all rfl)only[Wz,hv.len,hs,pM,Ml,hx1,h1,List.length_cons,List.length_nil]
   exact ⟨0,by omega,trivial,2,rfl,by omega,by omega,fun _=>ha,fun h=>trivial⟩
  ·simp(disch:=first|omega|simp only[Wd]<;>omega|with_unfolding_all rfl)only[Wz,hv.len,hs,pM,Ml,hx1,aG h1,List.length_cons,List.length_nil]
   simpa[ha] using hk
 ·simp(disch:=first|omega|simp only[Wd]<;>omega|with_unfolding_all rfl)only[Wz,hv.len,hs,List.length_cons,List.length_nil]
  have ha:=ha (by omega)
  have hb:=hb (by omega)
  simpa[ha,hb] using hk
theorem rA (t r t' r':Int) {h:Heap} {κ:Value→Heap→Prop} (hk:κ (.int .i64 (pX t r t' r')) h):CallW Tryz.prog 92 [dK t r,dK t' r'] h κ:=by
 refine fD (v:=.int .i64 (pX t r t' r')) rfl rfl (aq mixed ?_) hk
 rw[UD]
 simp(disch:=first|omega|simp only[Wd]<;>omega|with_unfolding_all rfl)only[Wz,dK]
 refine uU _ _ ?_
 simp(disch:=first|omega|simp only[Wd]<;>omega|with_unfolding_all rfl)only[Wz]
 refine uU _ _ ?_
 simp(disch:=first|omega|simp only[Wd]<;>omega|with_unfolding_all rfl)only[Wz]
 refine aaq _ _ _ _ (Sl.new (L:=[uT t t',uT r r']) (e:=3) (op:=false) (Nat.lt_succ_self _) (T.af _ _ _) _) _ ?_
 rfl
def xx (p q:Int × Int):Prop:=p.1<q.1∨(p.1=q.1∧p.2<q.2)
theorem F7 {a b c:Int × Int} (h1:xx a b) (h2:xx b c):xx a c:=by unfold xx at *; omega
theorem Ju (p q:Int × Int):pX p.1 p.2 q.1 q.2<0↔xx p q:=by
 unfold pX uT xx
 split<;>split<;>(try split)<;>(try split)<;>omega
theorem E0 {p q:Int × Int} (h:p≠q) (hn:¬xx p q):xx q p:=by
 unfold xx at *
 have:¬(p.1=q.1∧p.2=q.2):=fun ⟨a,b⟩=>h (Prod.ext a b)
 omega
def VV:Nat→Int | 0=>0 | 1=>1 | 2=>2 | 3=>2 | 4=>3 | 5=>3 | 6=>3 | 7=>3 | _=>4
theorem Rr:∀n,n<13→bI Tryz.prog 40 132 [.int .u64 (n:Nat)] (.int .i64 (VV n))=true:=by
 intro n hn
 have:(List.range 13).all (fun n=>bI Tryz.prog 40 132 [.int .u64 ((n:Nat):Int)] (.int .i64 (VV n)))=true:=by kernel_rfl
 exact List.all_eq_true.1 this n (List.mem_range.2 hn)
theorem VW (v fv:Value) (n:Nat) (hn:n≤12) (lim:Int) (h:Heap) (κ:KQ) (hk:CallW Tryz.prog 297 [v,.int .i64 0,.int .i64 (n:Int),fv] h fun _ h'=>κ (.tuple ⟨[]⟩) h') :
  CallW Tryz.prog 263 [v,.int .i64 0,.int .i64 (n:Int),.int .i64 lim,fv] h κ:=by
 refine aq mixed ?_
 rw[Qu]
 refine ⟨fun m l h1=>slot l 127=.int .i64 0∧slot l 140=.int .i64 (n:Int)∧HQ h h1,⟨0,rfl,rfl,rfl⟩,?_⟩
 rintro m l h1 ⟨s1,s2,hq⟩
 cases (show h=h1 from hq)
 simp(disch:=first|omega|simp only[Wd]<;>omega|with_unfolding_all rfl)only[Wz,Bk,s1,s2]
 exact hk
theorem Jw (v fv:Value) (h:Heap) (κ:KQ) (hk:κ (.tuple ⟨[]⟩) h):CallW Tryz.prog 297 [v,.int .i64 0,.int .i64 0,fv] h κ:=by
 refine aq mixed ?_
 rw[QF]
 simp(disch:=first|omega|simp only[Wd]<;>omega|with_unfolding_all rfl)only[Wz]
 refine ⟨fun n l h1=>slot l 42=.int .i64 1∧HQ h h1,⟨0,rfl,rfl⟩,?_⟩
 rintro n l h1 ⟨s1,hq⟩
 cases (show h=h1 from hq)
 simp(disch:=first|omega|simp only[Wd]<;>omega|with_unfolding_all rfl)only[Wz,s1]
 exact hk
section
variable {β:Type} {fl:β}
theorem Jx (n:Int) (h:Heap) (κ:Value→Heap→β) (hn:0≤n∧n≤18446744073709551615):gU fl .u64 (.int .i64 n) h κ=κ (.int .u64 n) h:=by
 unfold gU; simp only[fq,dB]; rw[IntWalk.u64_in _ hn]
end
theorem Jy (b:Nat):(Value.cells (.map (some b))).toList=[.map (some b)]:=id rfl
def KA (x y:Int × Int):Int:=pX x.1 x.2 y.1 y.2
theorem y6 (x y:Int × Int):ltOf KA x y=true↔xx x y:=by
 show decide (pX x.1 x.2 y.1 y.2<0)=true↔_
 rw[decide_eq_true_eq,Ju]
theorem E2 {x y:Int × Int}:ltOf KA x y=false↔¬xx x y:=by
 rw[←y6,Bool.not_eq_true]
theorem Mn:Sort.SWO (ltOf KA) where
 irrefl x:=E2.2 (by unfold xx; omega)
 trans x y z h1 h2:=(y6 _ _).2 (F7 ((y6 _ _).1 h1) ((y6 _ _).1 h2))
 ntrans x y z h1 h2:=by
  rw[E2] at *
  unfold xx at *
  omega
theorem Jz (blk size:Nat) (w:World):Go.Proofs.CmpLays Tryz.prog 92 #[] lG 2 KA blk 0 size w:=by
 intro m os dk _ x y
 exact uW (args:=[dK x.1 x.2,dK y.1 y.2]) (args':=[dK x.1 x.2,dK y.1 y.2]) (rA x.1 x.2 y.1 y.2 rfl)
  (.cons (VR.qf (.cons (.int _ _) (.cons (.int _ _) .nil))) (.cons (VR.qf (.cons (.int _ _) (.cons (.int _ _) .nil))) .nil)) rfl _
theorem Dj (blk cap:Nat) (d:Array (Int × Int)) (w:World) (hH:Sort.HoldsK lG 2 w blk 0 d) (hblk:blk<w.heap.size) (hsz:d.size<4611686018427387904) :
  Calls Tryz.prog 226 #[.slice (some ⟨blk,0,none⟩) d.size cap,.func (.func 92) #[] #[]] w fun e w'=>e=.returned (.tuple #[])∧∃d' n os,Sort.PermIn 0 d.size d d'∧Sort.SortedIn (fun x y=>ltOf KA x y) 0 d.size d'∧w'=Go.Proofs.sortWorldK lG 2 w blk 0 n d' os:=by
 have eg:∀args w,(callFunc 92 args).run Tryz.prog w=.ok (.enter 92 args) w:=enters_of Tryz.func92 (by kernel_rfl) rfl
 exact Go.Proofs.AnyQ.slices_SortFunc Tryz.Rp 2 Tryz.isAgg36 Tryz.sizeOf36 lG (fun _=>rfl) (fun x v hv=>by simp[lG] at hv; rcases hv with rfl | rfl<;>rfl) KA Mn 92 #[] blk 0 cap d w eg (Jz blk d.size w) hH hblk hsz
theorem Dk:∀args w,(callFunc 226 args).run Tryz.prog w=.ok (.enter 226 args) w:=enters_of Tryz.func226 (by kernel_rfl) rfl
theorem aaw (φ:di) (x:Int × Int) (cs:List Value) (h:F2 (VR φ) (lG x) cs):∃y:Int × Int,cs=lG y∧x=y:=by
 unfold lG at h
 cases h with | cons h1 h=>
 cases h with | cons h2 h=>
 cases h
 cases h1; cases h2
 exact ⟨x,rfl,rfl⟩
theorem Mo (a h:Heap) (L:List (Int × Int)) (v:Value) (κ:KQ) (ho:uR a h v L) (hle:Le a h) (hlo:h.lo≤h.nx) (hl:L.length≤1000000) (hd:L.Nodup)
  (hk:∀(D:List (Int × Int)) h',D.Perm L→D.Pairwise xx→uR a h' v D→Le a h'→κ (.tuple ⟨[]⟩) h'):CallW Tryz.prog 226 [v,.func (.func 92) #[] #[]] h κ:=by
 rcases ho with ⟨rfl,hv⟩ | ⟨b,hv,h1,h2,h3,h4⟩
 ·obtain ⟨x,c,rfl,_⟩:=(show Sl lG h v [] from (show uR a h v [] from .inl ⟨rfl,hv⟩).sl)
  refine aq mixed ?_
  rw[Qg]
  simp(disch:=first|omega|simp only[Wd]<;>omega|with_unfolding_all rfl)only[Wz,Jx]
  refine r5 mixed (Rr 0 (by omega)) ?_
  refine VW _ _ 0 (by omega) _ h _ ?_
  refine Jw _ _ h _ ?_
  exact hk [] h (List.Perm.refl _) List.Pairwise.nil (.inl ⟨rfl,hv⟩) hle
 ·cases hv
  refine E1 (by decide) (enc:=lG) (cv:=lG) pW pW (kA:=id) (kC:=id) (lt:=fun x y=>ltOf KA x y) aaw Dk Dj h4 h3 hl ?_
  intro D hp hs
  have hs2:D.Pairwise xx:=by
   have hnd:D.Nodup:=(hp.nodup_iff).2 hd
   refine (hnd.and hs).imp ?_
   rintro x y ⟨hne,hlt⟩
   exact E0 (fun e=>hne e.symm) (E2.1 hlt)
  refine hk D _ hp hs2 (.inr ⟨b,by rw[hp.length_eq],h1,h2,h3,T.af _ _ _⟩) ⟨hle.nx,hle.lo,fun c hc=>?_⟩
  exact (T.ai _ _ (by omega)).trans (hle.get c hc)
theorem Mp {h:Heap} {bb bm bp bl most:Nat} {M:List HE} {clock:Nat} {F:List Int} {B:List Bool} (s:aV h bb bm bp bl most M clock F B) (hlo:h.lo≤h.nx) (hM:M.length≤1000) (κ:KQ)
  (hk:∀v h' (D:List (Int × Int)),D.Perm (M.map ef)→D.Pairwise xx→uR h h' v D→Le h h'→κ v h') :
  CallW Tryz.prog 138 [.pointer (some ⟨bb,0,none⟩)] h κ:=by
 refine aq mixed ?_
 rw[PO]
 have gb:=s.fV
 simp(disch:=first|omega|simp only[Wd]<;>omega|with_unfolding_all rfl)only[Wz,aN,gb]
 refine aq mixed ?_
 rw[P5]
 simp(disch:=first|omega|simp only[Wd]<;>omega|with_unfolding_all rfl)only[Wz,Jy]
 obtain ⟨hA,aJ⟩:∃hA:Heap,hA=⟨h.nx+1,(h.bl.aW (h.nx) (aa [.map (some bm)] 218 false)),h.lo⟩:=⟨_,rfl⟩
 have aU:Le h hA:=by subst aJ; exact ((Le.refl h).new _)
 have gc:hA.bl.get (h.nx)=some (aa [.map (some bm)] 218 false):=by subst aJ; exact T.af _ _ _
 have ig:hA.nx=h.nx+1:=by subst aJ; rfl
 have ij:hA.lo=h.lo:=by subst aJ; rfl
 rw[←aJ]
 clear aJ
 have sA:=s.le aU
 refine aq mixed ?_
 rw[P4]
 refine aq mixed ?_
 rw[Qf]
 have hlm:=s.rz
 refine BO M clock bm h.nx hA s.ok sA.eG (by omega) gc (by omega) (by omega) (by omega) _ ?_
 intro v h2 L hp ho bF
 have n2:=bF.nx
 have l2:=bF.lo
 have hnd:(L.map ef).Nodup:=by
  refine ((hp.map ef).nodup_iff).2 ?_
  rw[List.Nodup,List.pairwise_map]
  exact s.ok.nm.imp fun hn e=>hn ⟨congrArg Prod.fst e,congrArg Prod.snd e⟩
 have hll:=hp.length_eq
 refine Mo hA h2 (L.map ef) v _ ho bF (by omega) (by rw[List.length_map]; omega) hnd ?_
 intro D h3 hpD hs vz f_
 exact hk v h3 D (hpD.trans (hp.map ef)) hs (fS.base vz (by omega)) (aU.trans f_)
theorem F_ {β:Type} {fl:β} {M:List HE} {clock:Nat} {h:Heap} {bm:Nat} (o:eE M clock) (g:h.bl.get bm=some (.map (M.map jw) clock)) {e:HE} (he:e∈M) (κ:Value→Heap→β) :
  cZ fl Tryz.prog 36 (.pointer none) false (.map (some bm)) (dK e.t e.r) h κ=κ (.pointer (some ⟨e.hb,0,none⟩)) h:=by
 unfold cZ iX
 rw[Jf]
 simp only[g]
 rcases BI h e.t e.r M 0 with ⟨g1,g2⟩ | ⟨j,e',g1,g2,g3,g4⟩
 ·exact absurd ⟨rfl,rfl⟩ (g2 e he)
 ·rw[g1]
  rw[o.uniq he (List.mem_of_getElem? g2) g3 g4]; rfl
def Rs (v:Value):Value:=match v with | .slice a n c=>.slice a n c | _=>.slice none 0 0
def oH (e:HE):List Value:=[.int .i64 e.t,.int .i64 e.r,Rs e.q,.int .i64 e.w]
theorem pZ (e:HE):(oH e).length=4:=rfl
theorem BQ (e:HE):(oH e).all dR=true:=by
 unfold oH Rs
 split<;>rfl
theorem Rt {h:Heap} {q:Value} {Q:List R5} (hq:Sl bu h q Q):Rs q=q:=by
 obtain ⟨x,c,rfl,_⟩:=hq
 rfl
abbrev Ga (a h:Heap) (v:Value) (K:List HE):Prop:=fS oH a 81 h v K
def E3 (a b:HE):Prop:=a.t=b.t∧a.r=b.r∧a.w=b.w∧a.Q=b.Q
theorem Gb {h:Heap} {bb bm bp bl most:Nat} {M:List HE} {clock:Nat} {F:List Int} {B:List Bool} (s:aV h bb bm bp bl most M clock F B) (hlo:h.lo≤h.nx) (hM:M.length≤1000) (κ:KQ)
  (hk:∀v h' (K:List HE),K.length=M.length→(K.map ef).Perm (M.map ef)→(K.map ef).Pairwise xx→(∀k∈K,(∃e∈M,E3 k e)∧QV h' k.q k.Q)→Ga h h' v K→Le h h'→κ v h') :
  CallW Tryz.prog 103 [.pointer (some ⟨bb,0,none⟩)] h κ:=by
 refine aq mixed ?_
 rw[PB]
 simp(disch:=first|omega|simp only[Wd]<;>omega|with_unfolding_all rfl)only[Wz,gM,AK]
 refine Mp s hlo hM _ ?_
 intro v1 h1 D hp hs WZ b_
 have hlD:D.length=M.length:=by rw[hp.length_eq,List.length_map]
 obtain ⟨x1,c1,rfl,_⟩:=(show Sl lG h1 v1 D from WZ.sl)
 have n1:=b_.nx
 have l1:=b_.lo
 simp(disch:=first|omega|simp only[Wd]<;>omega|with_unfolding_all rfl)only[Wz]
 refine ⟨fun m l h2=>∃(i:Nat) (K:List HE),slot l 23=.int .i64 (i:Int)∧m=D.length-i∧i≤D.length∧K.map ef=D.take i∧(∀k∈K,(∃e∈M,E3 k e)∧QV h2 k.q k.Q)∧Ga h1 h2 (slot l 21) K∧Le h1 h2,
  ⟨_,0,[],rfl,rfl,by omega,by simp,fun k hk=>(nomatch hk),.inl ⟨rfl,.inl rfl⟩,Le.refl _⟩,?_⟩
 rintro m l h2 ⟨i,K,s1,rfl,hi,hK,hQ,SB,bF⟩
 have n2:=bF.nx
 have l2:=bF.lo
 have Q6:K.length=i:=by have:=congrArg List.length hK; simp at this; omega
 by_cases hst:i<D.length
 ·obtain ⟨p,hpi⟩:∃p,D[i]? = some p:=⟨_,List.getElem?_eq_getElem hst⟩
  have hpD:p∈M.map ef:=hp.mem_iff.1 (List.mem_of_getElem? hpi)
  obtain ⟨e,he,rfl⟩:=List.mem_map.1 hpD
  have s2:=s.le (b_.trans bF)
  have gb:=s2.fV
  have gm:=s2.eG
  have afE:=s2.Ky
  have H:=s2.aH e he
  have hlt:=H.lt
  have hgd:=s2.good e he
  obtain ⟨qx,qc,eq,_⟩:=(show Sl bu h2 e.q e.Q from H.qv.1)
  have gh:=H.get
  rw[eq] at gh
  obtain ⟨b1,o1,Kn,Ml,_,S5⟩:=(WZ.sl.le bF).ld pW i hpi
  have r1:=fun (β:Type) (fl:β) κ=>pq (fl:=fl) S5 2 κ rfl
  have aay:=s2.rz
  have gmB:=(((Le.refl h2).new (aa [.int .i64 e.t,.int .i64 e.r] 36 false)).get _ aay).trans gm
  have eL:=F_ (β:=Option Value) (fl:=none) s2.ok gmB he
  unfold dK at eL
  simp(disch:=first|omega|simp only[Wd]<;>omega|with_unfolding_all rfl)only[Wz,s1,fI (show (i:Int)<(D.length:Int) by omega),AJ,Ml,r1,lG,ef,aN,gb,gh,eL]
  obtain ⟨hB,b6⟩:∃hB:Heap,hB=⟨h2.nx+1+1,((h2.bl.aW (h2.nx) (aa [.int .i64 e.t,.int .i64 e.r] 36 false)).aW (h2.nx+1) (dI e.t e.r (.slice qx e.Q.length qc) e.w)),h2.lo⟩:=⟨_,rfl⟩
  have bJ:Le h2 hB:=by subst b6; exact (((Le.refl h2).new _).new _)
  have gn:hB.bl.get (h2.nx)=some (aa [.int .i64 e.t,.int .i64 e.r] 36 false):=by subst b6; exact (T.ai _ _ (by omega)).trans (T.af _ _ _)
  have gd:hB.bl.get (h2.nx+1)=some (dI e.t e.r (.slice qx e.Q.length qc) e.w):=by subst b6; exact T.af _ _ _
  have BD:hB.nx=h2.nx+1+1:=by subst b6; rfl
  have BE:hB.lo=h2.lo:=by subst b6; rfl
  rw[←b6]
  clear b6
  have hqB:Sl bu hB (.slice qx e.Q.length qc) e.Q:=by rw[←eq]; exact H.qv.1.le bJ
  have Ko:=hgd.small
  refine Bx e.Q hB _ _ hqB (by omega) (by omega) ?_
  intro q3 h3 vz f_
  have n3:=f_.nx
  have l3:=f_.lo
  have gd:=(f_.get _ (by omega)).trans gd
  obtain ⟨BA,BB,rfl,_⟩:=(show Sl bu h3 q3 e.Q from vz.sl)
  simp(disch:=first|omega|simp only[Wd]<;>omega|with_unfolding_all rfl)only[Wz,gd]
  obtain ⟨h4,e4⟩:∃h4:Heap,h4=⟨h3.nx+1,(h3.bl.aW (h2.nx+1) (dI e.t e.r (.slice BA e.Q.length BB) e.w)).aW h3.nx (dI e.t e.r (.slice BA e.Q.length BB) e.w),h3.lo⟩:=⟨_,rfl⟩
  have su:Le h2 h4:=by rw[e4]; exact ((bJ.trans f_).set (b:=h2.nx+1) (by omega) _).new _
  have g4:h4.bl.get h3.nx=some (aa ([(⟨e.t,e.r,0,0,.slice BA e.Q.length BB,e.w,e.Q⟩:HE)].flatMap oH) 81 false):=by rw[e4]; exact T.af _ _ _
  have n4:h4.nx=h3.nx+1:=by rw[e4]
  have l4:h4.lo=h3.lo:=by rw[e4]
  have hq4:QV h4 (.slice BA e.Q.length BB) e.Q:=by
   rw[e4]
   exact ((QV.own vz).put (fun vs op=>by rw[gd]; exact aT (by decide)) _).le ((Le.refl _).new _)
  try rw[←e4]
  clear e4
  refine h_ (enc:=oH) (a:=h1) (L:=K) (M:=[(⟨e.t,e.r,0,0,.slice BA e.Q.length BB,e.w,e.Q⟩:HE)]) pZ BQ (by decide) (by decide) (SB.le su) (Sl.new (by omega) g4 _) (bF.trans su) (by simp; omega) (by omega) _ ?_
  intro v5 h5 yT xy _ n5 l5 nY
  have FZ:∀c vs op,c<h4.nx→h4.bl.get c=some (aa vs 83 op)→h5.bl.get c=h4.bl.get c:=fun c vs op hc hg=>nY c hc (by rw[hg]; exact aT (by decide))
  refine ⟨_,by omega,i+1,K++[⟨e.t,e.r,0,0,.slice BA e.Q.length BB,e.w,e.Q⟩],by simp,rfl,by omega,?_,?_,yT,?_⟩
  ·rw[List.map_append,hK,List.take_add_one,hpi]
   rfl
  ·intro k hk'
   rcases List.mem_append.1 hk' with hk' | hk'
   ·exact ⟨(hQ k hk').1,((hQ k hk').2.le su).frame n5 FZ⟩
   ·rw[List.mem_singleton] at hk'; subst hk'
    exact ⟨⟨e,he,rfl,rfl,rfl,rfl⟩,hq4.frame n5 FZ⟩
  ·exact xy
 ·simp(disch:=first|omega|simp only[Wd]<;>omega|with_unfolding_all rfl)only[Wz,s1,c6 (show (D.length:Int)≤(i:Int) by omega)]
  have hiD:i=D.length:=by omega
  subst hiD
  rw[List.take_length] at hK
  exact hk _ h2 K (by omega) (hK▸hp) (hK▸hs) hQ (fS.base SB (by omega)) (b_.trans bF)
theorem dX.sub {M M':List HE} {t r w:Int} {Q:List R5} (s:dX M M' t r w Q):∀x∈M',x∈M∨(x.t=t∧x.r=r∧x.w=w∧x.Q=Q):=by
 intro x hx
 by_cases h0:Q=[]
 ·rw[s.gone h0] at hx; exact .inl (List.mem_filter.1 hx).1
 ·obtain ⟨e,h1,h2,h3,h4,hp⟩:=s.put h0
  rcases List.mem_append.1 (hp.mem_iff.1 hx) with hx | hx
  ·exact .inl (List.mem_filter.1 hx).1
  ·rw[List.mem_singleton] at hx; subst hx; exact .inr ⟨h1,h2,h3,h4⟩
theorem dX.len {M M':List HE} {t r w:Int} {Q:List R5} (s:dX M M' t r w Q):M'.length≤(M.filter fun x=>!qM t r x).length+1:=by
 by_cases h0:Q=[]
 ·rw[s.gone h0]; omega
 ·obtain ⟨e,_,_,_,_,hp⟩:=s.put h0
  rw[hp.length_eq]; simp
theorem dX.wb {M M':List HE} {t r w:Int} {Q:List R5} {N:Nat} (s:dX M M' t r w Q) (hw:∀e∈M,e.w≤N) (h:w≤N+1):∀e∈M',e.w≤(N+1:Nat):=by
 intro e he
 rcases s.sub e he with h1 | ⟨_,_,h1,_⟩
 ·have:=hw e h1; omega
 ·omega
theorem E4 {M:List HE} {clock:Nat} (o:eE M clock) {e:HE} (he:e∈M):(M.filter fun x=>!qM e.t e.r x).length+1=M.length:=by
 have:=(nD o he).length_eq
 rw[this]; simp
theorem Ru (Q:List R5) (W id x m:Int):(iQ Q W id x m).2.1≤W+1:=by unfold iQ; split<;>simp<;>omega
theorem Rv (Q:List R5) (W:Int) (r:R5) (m:Int):(gR Q W r m).2.1≤W+1:=by unfold gR; split<;>simp<;>omega
theorem Mq (Q:List R5) (W:Int) (r:R5) (m:Int):(gR Q W r m).1.id=r.id:=by unfold gR; split<;>rfl
theorem y7 {Q:List R5} {i:Nat} {p p':R5} (hi:Q[i]? = some p) (h:p'.id=p.id):(Q.set i p').map (·.id)=Q.map (·.id):=by
 obtain ⟨hl,rfl⟩:=List.getElem?_eq_some_iff.1 hi
 rw[List.map_set,h]
 refine List.ext_getElem? fun k=>?_
 rw[List.getElem?_set]
 split
 ·rename_i e; subst e; simp[hl]
 ·rfl
section
variable {h h':Heap} {bb bm bp bl most cap N:Nat} {M M':List HE} {clock clock':Nat} {F F':List Int} {B B':List Bool}
theorem Dl {Q:List R5} {W:Int} (v:VQ Q W) {p:R5} {id:Int} (hf:bT Q id=some p):(Q.map (·.id)).Perm ((Q.filter fun r=>!bP id r).map (·.id)++[id]):=by
 obtain ⟨hp,rfl⟩:=g_ hf
 have hnd:(Q.map (·.id)).Nodup:=by
  rw[List.Nodup,List.pairwise_map]
  exact v.pair.imp fun hb=>hb.id
 have aaz:((Q.filter fun r=>!bP p.id r).map (·.id)).Nodup:=hnd.sublist (List.filter_sublist.map _)
 refine (List.perm_ext_iff_of_nodup hnd (uO aaz fun hm=>?_)).2 fun x=>?_
 ·obtain ⟨q,hq,e⟩:=List.mem_map.1 hm
  have:=(List.mem_filter.1 hq).2
  simp[bP,e] at this
 ·rw[List.mem_append,List.mem_singleton,List.mem_map,List.mem_map]
  constructor
  ·rintro ⟨q,hq,rfl⟩
   by_cases hqp:q.id=p.id
   ·exact .inr hqp
   ·exact .inl ⟨q,List.mem_filter.2 ⟨hq,by simp[bP,hqp]⟩,rfl⟩
  ·rintro (⟨q,hq,rfl⟩ | rfl)
   ·exact ⟨q,(List.mem_filter.1 hq).1,rfl⟩
   ·exact ⟨p,hp,rfl⟩
end
theorem JA (b:Nat) (n:Int) (p:Addr) (κ:List Value→Prop):bD False [(2,1)] [.map (some b)] [.int .i64 n,.pointer (some p),.map none] κ=κ [.int .i64 n,.pointer (some p),.map (some b)]:=by kernel_rfl
theorem BR (aH:Nat) (bp:Nat) (h:Heap) (κ:KQ) (hh:1≤aH∧aH≤64) (hlo:h.lo≤h.nx)
  (hk:∀h',Le h h'→h'.nx=h.nx+2→h'.bl.get h.nx=some (.map [] 0)→h'.bl.get (h.nx+1)=some (aa [.int .i64 (aH:Int),.pointer (some ⟨bp,0,none⟩),.map (some h.nx)] 220 false)→κ (.tuple ⟨[.pointer (some ⟨h.nx+1,0,none⟩),.int .i64 0]⟩) h') :
  CallW Tryz.prog 109 [.int .i64 (aH:Int),.pointer (some ⟨bp,0,none⟩)] h κ:=by
 refine aq mixed ?_
 rw[IK]
 simp(disch:=first|omega|simp only[Wd]<;>omega|with_unfolding_all rfl)only[Wz,c6 (show (1:Int)≤(aH:Int) by omega),c6 (show (aH:Int)≤64 by omega),yU,gH,JA]
 exact hk _ (((Le.refl h).new _).new _) rfl ((T.ai _ _ (by omega)).trans (T.af _ _ _)) (T.af _ _ _)
def mM (n m:Int):Int:=if m<1 then 0 else if Int.tmod n m<0 then Int.tmod n m+m else Int.tmod n m
theorem BS {n m:Int} (h:0<m):0≤mM n m∧mM n m<m:=by
 unfold mM
 rw[if_neg (by omega)]
 have h2:=Int.tmod_lt_of_pos n h
 have h3:=Int.lt_tmod_of_pos n h
 split<;>omega
theorem Rw (n m:Int) (hm:m≤9223372036854775807) {h:Heap} {κ:Value→Heap→Prop} (hk:κ (.int .i64 (mM n m)) h):CallW Tryz.prog 12 [.int .i64 n,.int .i64 m] h κ:=by
 refine fD (v:=.int .i64 (mM n m)) rfl rfl (aq mixed ?_) hk
 rw[T5]
 by_cases h1:m<1
 ·simp(disch:=first|omega|simp only[Wd]<;>omega|with_unfolding_all rfl)only[Wz]; simp[mM,h1]
 ·have h2:=Int.tmod_lt_of_pos n (show 0<m by omega)
  have h3:=Int.lt_tmod_of_pos n (show 0<m by omega)
  simp(disch:=first|omega|simp only[Wd]<;>omega|with_unfolding_all rfl)only[Wz,Et,D2 _ _ _ _ _ m _ _ (by omega)]
  refine ⟨fun l h'=>slot l 5=.int .i64 (mM n m),?_,fun l h' hs=>hs⟩
  by_cases h4:Int.tmod n m<0
  ·simp(disch:=first|omega|simp only[Wd]<;>omega|with_unfolding_all rfl)only[Wz]; simp[mM,h1,h4]
  ·simp(disch:=first|omega|simp only[Wd]<;>omega|with_unfolding_all rfl)only[Wz]; simp[mM,h1,h4]
structure Act where
 k:Int
 t:Int
 r:Int
 id:Int
 x:Int
 m:Int
def cv (a:Act):List Value:=[.int .i64 a.k,.int .i64 a.t,.int .i64 a.r,.int .i64 a.id,.int .i64 a.x,.int .i64 a.m]
end Go.Proofs
