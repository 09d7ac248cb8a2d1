/-
  PROVED HERE: a part of the proof (SOa, YV3, YV4, YV6, YV7, YV8, YV5, YV9, YV10, YV11, YV12, YL3, YL4, A25).
-/
import Derived.Shelf.GgSortFunc.RowK
import Derived.Test.YtmllggkhfmjpgaaGreatDoorG8
import Derived.Test.YtmllggkhfmjpgaaGreatDoorG6
import Derived.Test.YtmllggkhfmjpgaaGreatDoorG7
import Derived.Test.YtmllggkhfmjpgaaGreatDoorG5
import Derived.Test.YtmllggkhfmjpgaaGreatDoorG2
import Derived.Test.YtmllggkhfmjpgaaGreatDoorRows
set_option linter.unusedVariables false
set_option linter.unusedSimpArgs false
set_option maxRecDepth 100000
set_option maxHeartbeats 4000000
noncomputable section
namespace Go.Vai
open Go Go.Sort Go.Proofs
section
variable {α:Type} [Inhabited α] {enc:α→Value}
theorem B9 (d:Array α):Go.Sort.flatK (fun x=>[enc x]) 1 d=d.map enc:=by
 apply Array.ext
 ·simp[Go.Sort.flatK]
 ·intro i h1 h2
  have hi:i<d.size:=by simpa using h2
  simp only[Go.Sort.flatK,Array.getElem_map,Array.getElem_range,Nat.div_one,Nat.mod_one]
  rw[getElem!_pos d i hi]
  rfl
theorem holds_one {w:World} {blk:Nat} {d:Array α} (h:HoldsK (fun x=>[enc x]) 1 w blk 0 d):Holds enc w blk 0 d:=by
 unfold HoldsK at h
 rw[B9] at h
 intro j hj
 have:=h j (by simpa using hj)
 rw[getElem!_pos _ j (by simpa using hj),Array.getElem_map] at this
 rw[getElem!_pos d j hj]
 exact this
theorem Ka {w:World} {blk:Nat} {d:Array α}:putRowK (fun x=>[enc x]) 1 w blk 0 d=putRow enc w blk 0 d:=by
 unfold putRowK putRow
 rw[B9]
 have:putCells id 0 (d.map enc)=putCells enc 0 d:=by
  funext c
  unfold putCells
  apply Array.ext
  ·simp
  ·intro i h1 h2
   simp only[Array.getElem_mapIdx,Array.size_map,Nat.sub_zero,Nat.zero_add,Nat.zero_le,true_and]
   split
   ·next hi=>rw[getElem!_pos _ i (by simpa using hi),Array.getElem_map,getElem!_pos d i hi]; rfl
   ·rfl
 rw[this]
end
end Go.Vai

namespace Go.Proofs
open Go.Vai Go.Clashes
open Tryz (prog)
theorem Kb(p q:Int × Int){h:ah}{Y:KQ}(hk:Y (X1 (Ix p q)) h):aj prog 243 [.agg ⟨bV p⟩,.agg ⟨bV q⟩] h Y:=by
 refine iX (v:=X1 (Ix p q)) rfl rfl (ay mixed ?_) hk;rw[Y1];simp(disch:=try exact QQ)only[Wz,bV];refine gM _ _ ?_;simp(disch:=try exact QQ)only[Wz];refine gM _ _ ?_;simp(disch:=try exact QQ)only[Wz];refine Ui _ _ _ _ (Sl.new (L:=[eX p.1 q.1,eX p.2 q.2]) (e:=3) (op:=false) (Nat.lt_succ_self _) (T.an _ _ _) _) _ ?_;rfl
theorem Sp(blk size:Nat)(w:World):Go.Proofs.CmpLays prog 243 #[] bV 2 Ix blk 0 size w:=by
 intro m os dk _ x y;exact mF noSideHere (args:=[.agg ⟨bV x⟩,.agg ⟨bV y⟩]) (args':=[.agg ⟨bV x⟩,.agg ⟨bV y⟩]) (Kb x y rfl)
  (.cons (VR.qC (.cons (.int _ _) (.cons (.int _ _) .nil))) (.cons (VR.qC (.cons (.int _ _) (.cons (.int _ _) .nil))) .nil)) rfl _
theorem wK:∀args w,(callFunc 242 args).run prog w=.ok (.enter 242 args) w:=enters_of Tryz.func242 (by kernel_rfl) rfl
theorem DE(blk cap:Nat)(d:Array (Int × Int))(w:World)(hH:Sort.HoldsK bV 2 w blk 0 d)(hblk:blk<w.heap.size)(hsz:d.size<4611686018427387904):Calls prog 242 #[X9 blk d.size cap,.func (.func 243) #[] #[]] w λe w'=>e=.returned (.tuple #[])/\∃d' n os,Sort.PermIn 0 d.size d d'/\Sort.SortedIn (λx y=>ltOf Ix x y) 0 d.size d'/\w'=Go.Proofs.sortWorldK bV 2 w blk 0 n d' os:=by
 have eg:∀args w,(callFunc 243 args).run prog w=.ok (.enter 243 args) w:=enters_of Tryz.func243 (by kernel_rfl) rfl;exact Go.Proofs.AnyQ.slices_SortFunc Tryz.Hp 2 Tryz.isAgg278 Tryz.sizeOf278 bV (λ_=>rfl) (λx v hv=>by simp[bV]at hv;rcases hv with rfl|rfl<;>rfl) Ix Q8 243 #[] blk 0 cap d w eg (Sp blk d.size w) hH hblk hsz
theorem A8(p:Option Addr)(cap:Nat)(fv:Value)(w:World):Calls prog 242 #[.slice p 0 cap,fv] w λe w'=>e=.returned (.tuple #[])/\w'=w:=Go.Proofs.AnyF.slices_SortFunc_none Tryz.Hp p cap fv w
theorem Vk(a h:ah)(K:List (Int × Int))(v:Value)(Y:KQ)(ho:eG bV a 278 h v K)(hle:Le a h)(hl:K.length<=100000000)(hk:∀(D:List (Int × Int)) h',D.Perm K->eG bV a 278 h' v D->Le a h'->Y (.tuple ⟨[]⟩) h'):aj prog 242 [v,.func (.func 243) #[] #[]] h Y:=by
 rcases ho with⟨rfl,hv⟩|⟨b,rfl,h1,h2,h3,h4⟩
 .exact r_ wK A8 hv (hk [] h (List.Perm.refl _) (.inl ⟨rfl,hv⟩) hle)
 .refine zJ X0 (enc:=bV) (dh:=bV) (λ_=>rfl) dA (kA:=λx=>x) (kC:=λx=>x) (lt:=λx y=>ltOf Ix x y) aeK wK DE h4 h3 XV ?_;intro D hp hs;exact hk D _ hp (.inr ⟨b,by rw[hp.length_eq],h1,h2,h3,T.an _ _ _⟩) ⟨hle.nx,hle.lo,λc hc=>(T.au _ _ XV).trans (hle.get c hc)⟩
theorem akL:Sort.SWO (ltOf eX) where
 irrefl x:=by show decide (eX x x<0)=false;simp[eX]
 trans x y z h1 h2:=by
  have h1:decide (eX x y<0)=true:=h1;have h2:decide (eX y z<0)=true:=h2
  show decide (eX x z<0)=true
  rw[decide_eq_true_eq]at *
  unfold eX at *
  split at h1<;>split at h2<;>(try split)<;>(try split at h1)<;>(try split at h2)<;>(try split)<;>omega
 ntrans x y z h1 h2:=by
  have h1:decide (eX x y<0)=false:=h1;have h2:decide (eX y z<0)=false:=h2
  show decide (eX x z<0)=false
  rw[decide_eq_false_iff_not]at *
  unfold eX at *
  split at h1<;>split at h2<;>(try split)<;>(try split at h1)<;>(try split at h2)<;>(try split)<;>omega
theorem Sq(blk size:Nat)(w:World):Go.Proofs.CmpLays1 prog 119 #[] (λn:Int=>X1 n) eX blk 0 size w:=by
 intro m os dk _ x y;exact mF noSideHere (args:=[X1 x,X1 y]) (args':=[X1 x,X1 y]) (gM x y rfl) (.cons (.int _ _) (.cons (.int _ _) .nil)) rfl _
theorem wL:∀args w,(callFunc 240 args).run prog w=.ok (.enter 240 args) w:=enters_of Tryz.func240 (by kernel_rfl) rfl
theorem Ie(blk cap:Nat)(d:Array Int)(w:World)(hH:Sort.HoldsK aU 1 w blk 0 d)(hblk:blk<w.heap.size)(hsz:d.size<4611686018427387904):Calls prog 240 #[X9 blk d.size cap,.func (.func 119) #[] #[]] w λe w'=>e=.returned (.tuple #[])/\∃d' n os,Sort.PermIn 0 d.size d d'/\Sort.SortedIn (λx y=>ltOf eX x y) 0 d.size d'/\w'=Go.Proofs.sortWorldK aU 1 w blk 0 n d' os:=by
 have eg:∀args w,(callFunc 119 args).run prog w=.ok (.enter 119 args) w:=enters_of Tryz.func119 (by kernel_rfl) rfl;have hH':Sort.Holds (λn:Int=>X1 n) w blk 0 d:=Go.Vai.holds_one (enc:=λn:Int=>X1 n) hH;refine(Go.Proofs.Any.slices_SortFunc Tryz.sortInt (λn:Int=>X1 n) (λ_=>rfl) eX akL 119 #[] blk 0 cap d w eg (Sq blk d.size w) hH' hblk hsz).mono ?_;rintro e w' ⟨he,d',n,os,h1,h2,rfl⟩;refine⟨he,d',n,os,h1,h2,?_⟩;have e:=Go.Vai.Ka (enc:=λn:Int=>X1 n) (w:=Sort.ahead w n) (blk:=blk) (d:=d')
 show Go.Proofs.sortWorld _ _ _ _ _ _ _=Go.Proofs.sortWorldK _ _ _ _ _ _ _ _
 unfold Go.Proofs.sortWorld Go.Proofs.sortWorldK;rw[<-e];rfl
theorem DF(p:Option Addr)(cap:Nat)(fv:Value)(w:World):Calls prog 240 #[.slice p 0 cap,fv] w λe w'=>e=.returned (.tuple #[])/\w'=w:=Go.Proofs.AnyF.slices_SortFunc_none { Tryz.sortInt with } p cap fv w
theorem akM(φ:ej)(x:Int)(cs:List Value)(h:F2 (VR φ) (aU x) cs):∃y:Int,cs=aU y/\x=y:=by
 unfold aU at h;cases h with|cons h1 h=>
 cases h;cases h1;exact⟨x,rfl,rfl⟩
theorem Vl(a h:ah)(K:List Int)(v:Value)(Y:KQ)(ho:eG aU a 3 h v K)(hle:Le a h)(hl:K.length<=100000000)(hk:∀(D:List Int) h',D.Perm K->eG aU a 3 h' v D->Le a h'->Y (.tuple ⟨[]⟩) h'):aj prog 240 [v,.func (.func 119) #[] #[]] h Y:=by
 rcases ho with⟨rfl,hv⟩|⟨b,rfl,h1,h2,h3,h4⟩
 .exact r_ wL DF hv (hk [] h (List.Perm.refl _) (.inl ⟨rfl,hv⟩) hle)
 .refine zJ X0 (enc:=aU) (dh:=aU) (λ_=>rfl) aZ (kA:=λx=>x) (kC:=λx=>x) (lt:=λx y=>ltOf eX x y) akM wL Ie h4 h3 XV ?_;intro D hp hs;exact hk D _ hp (.inr ⟨b,by rw[hp.length_eq],h1,h2,h3,T.an _ _ _⟩) ⟨hle.nx,hle.lo,λc hc=>(T.au _ _ XV).trans (hle.get c hc)⟩
def zE2:List Value:=[X1 0,X1 0]
theorem akN:BG prog 209:=⟨λh n c n' c'=>by kernel_rfl,λh a n c n' c'=>by kernel_rfl⟩
theorem abj(a0 a1:Value)(h:ah)(Y:KQ):aO prog 317 [a0,a1] h Y=eu prog 3 2 a0 a1 h Y:=by kernel_rfl
theorem abk(a0 a1:Value)(h:ah)(Y:KQ):aO prog 361 [a0,a1] h Y=eu prog 3 2 a0 a1 h Y:=by kernel_rfl
theorem abl(a0:Value)(h:ah)(Y:KQ):aO prog 235 [a0] h Y=r5 prog 209 278 2 zE2 a0 h Y:=by kernel_rfl
theorem abm(a0 a1:Value)(h:ah)(Y:KQ):aO prog 234 [a0,a1] h Y=iT prog 3 317 278 2 zE2 a0 a1 h Y:=by kernel_rfl
theorem Ig(L:List (Int × Int))(h:ah)(v:Value)(Y:KQ)(hv:Sl bV h v L)(hlen:L.length<=100000000)(hlo:h.lo<=h.nx)(hk:∀v' h',eG bV h 278 h' v' L->Le h h'->Y v' h'):aj prog 235 [v] h Y:=
 NL mixed dA ru X0 X0 akN abl L h v Y hv hlen hlo hk
theorem Aj(L:List (Int × Int))(h:ah)(v:Value)(Y:KQ)(hv:Sl bV h v L)(hlen:L.length<=100000000)(hlo:h.lo<=h.nx)(hk:∀v' h' D,Sl bV h' v' D->(∀e∈D,e∈L)->D.length<=L.length->Le h h'->Y v' h'):aj prog 172 [v] h Y:=by
 apply X2;rw[YB];refine Ig L h v _ hv hlen hlo ?_;intro v0 h0 o0 Ay;refine Vk h h0 L v0 _ o0 Ay hlen ?_;intro D h1 hp o1 bF;refine J9 o1 bF (by rw[hp.length_eq];exact hlen) hlo _ ?_;intro v2 h2 D2 s2 hs hl bK;exact hk v2 h2 D2 s2 (λe he=>hp.mem_iff.1 (hs e he)) (by rw[<-hp.length_eq];exact hl) bK
theorem Ih(t:Int)(p:Int × Int)(b:Nat)(h:ah)(Y:KQ)(hlo:h.lo<=h.nx)(hb:b<h.nx)(hg:h.bl.get b=some (ai [X1 t] 3 false))(hk:∀h',Le h h'->Y (.bool (decide (p.1=t) || decide (p.2=t))) h'):aj prog 236 [wV bV p,av b] h Y:=by
 have hk:=hk _ ((Le.refl h).new (ai [X1 p.1,X1 p.2] 278 false));apply X2;rw[YW];by_cases h1:p.1=t
 .rw[bq h1,Bool.true_or]at hk;simp(disch:=try exact QQ)only[Wz,wV,bV,hg,bq h1];exact hk
 .rw[a_ h1,Bool.false_or]at hk;simp(disch:=try exact QQ)only[Wz,wV,bV,hg,a_ h1];exact hk
theorem Kc(L:List (Int × Int))(t:Int)(h:ah)(v:Value)(Y:KQ)(hv:Sl bV h v L)(hlen:L.length<=100000000)(hlo:h.lo<=h.nx)(hk:∀v' h',Sl bV h' v' (L.filter λp=>!(decide (p.1=t) || decide (p.2=t)))->mQ 278 h' v'->Le h h'->Y v' h'):aj prog 170 [v,X1 t] h Y:=by
 apply X2;rw[Yz];simp(disch:=try exact QQ)only[Wz];obtain⟨hA,bH,aY,g1,ia,ic⟩:=oR h (ai [X1 t] 3 false);rw[<-bH];clear bH;refine Ig L hA v _ (hv.le aY) hlen XV ?_;intro v0 h0 o0 Ay;have n0:=Ay.nx;have l0:=Ay.lo;have amA:=Ay.nx;have amB:=Ay.lo;have g1:=(Ay.get _ XV).trans g1;refine J7 mixed dA ru X0 rfl rfl X0 abj abm hA h0 L (λp=>decide (p.1=t) || decide (p.2=t)) v0 _ _ Ay o0 hlen XV ?_ ?_
 .intro p h1 κ1 bF oT gP;have n1:=oT.1;have l1:=bF.lo;have g2:=(oT.2 h.nx XV (by rw[g1];exact br)).trans g1;simp(disch:=try exact QQ)only[Wz,List.nil_append,List.cons_append];exact Ih t p h.nx h1 κ1 XV XV g2 gP
 .intro v' h' s' _ le' _ ty;exact hk v' h' s' ty (aY.trans le')
theorem abn(t:Int)(p:Int × Int)(b:Nat)(h:ah)(Y:KQ)(hlo:h.lo<=h.nx)(hb:b<h.nx)(hg:h.bl.get b=some (ai [X1 t] 3 false))(hk:∀h',Le h h'->Y (.bool (decide (p.1=t))) h'):aj prog 362 [wV bV p,av b] h Y:=by
 have hk:=hk _ ((Le.refl h).new (ai [X1 p.1,X1 p.2] 138 false));apply X2;rw[ZD];simp(disch:=try exact QQ)only[Wz,wV,bV,hg];exact hk
theorem W2(L:List (Int × Int))(t:Int)(h:ah)(v:Value)(Y:KQ)(hv:Sl bV h v L)(hlen:L.length<=1000000)(hlo:h.lo<=h.nx)(hk:∀n h',Le h h'->Y (X1 n) h'):aj prog 316 [v,X1 t] h Y:=by
 apply X2;rw[Zj];simp(disch:=try exact QQ)only[Wz];obtain⟨hA,bH,aY,g1,ia,ic⟩:=oR h (ai [X1 t] 3 false);rw[<-bH];clear bH;refine mj mixed dA abk L (λp=>decide (p.1=t)) hA v _ _ (hv.le aY) hlen ?_ ?_
 .intro p hp h1 κ1 bF gP;have n1:=bF.nx;have l1:=bF.lo;have Me:=bF.nx;have Mf:=bF.lo;have g1:=(bF.get _ XV).trans g1;simp(disch:=try exact QQ)only[Wz,List.nil_append,List.cons_append];exact abn t p h.nx h1 κ1 XV XV g1 gP
 .intro h1 bF;have n1:=bF.nx;have l1:=bF.lo;rcases jZ L (λp=>decide (p.1=t))with⟨e1,_⟩|⟨i,p,e1,e2,_⟩
  .rw[e1];simp(disch:=try exact QQ)only[Wz,gQ,dw (show(-1:Int)<0 by decide)];exact hk 0 h1 (aY.trans bF)
  .rw[e1];obtain⟨b,o,hb,oQ,mO,hh⟩:=(hv.le (aY.trans bF)).ld dA i e2;have hx1:=λ(β:Type)(fl:β) Y=>cO (fl:=fl) hh 1 Y (by show 1<2;omega);simp(disch:=try exact QQ)only[Wz,gQ,b_ (show(0:Int)<=(i:Int)by omega),oQ,hx1];exact hk p.2 h1 (aY.trans bF)
theorem Kd(L:List (Int × Int))(x y:Int)(b:Nat)(v:Value)(h:ah)(Y:KQ)(hv:Sl bV h v L)(Ir:je 8 v v=true)(hlen:L.length<=1000000)(hlo:h.lo<=h.nx)(hb:b<h.nx)(hg:h.bl.get b=some (ai [v] 136 false))(hk:∀n h',Le h h'->Y (X1 n) h'):aj prog 314 [X1 x,X1 y,av b] h Y:=by
 obtain⟨vx,vc,rfl,_⟩:=(show Sl bV h v L from hv)
 apply X2;rw[Zh];simp(disch:=try exact QQ)only[Wz,hg];refine W2 L x h _ _ hv hlen hlo ?_;intro n1 h1 bF;have m1:=bF.nx;have l1:=bF.lo;have g1:=(bF.get b hb).trans hg;simp(disch:=try exact QQ)only[Wz,g1,Ir];refine W2 L y h1 _ _ (hv.le bF) hlen XV ?_;intro n2 h2 bK;have m2:=bK.nx;have l2:=bK.lo;refine z8 _ _ ?_;simp(disch:=try exact QQ)only[Wz];refine gM _ _ ?_;simp(disch:=try exact QQ)only[Wz];refine Ui _ _ _ _ (Sl.new (L:=[eX n1 n2,eX x y]) (e:=3) (op:=false) (Nat.lt_succ_self _) (T.an _ _ _) _) _ ?_;exact hk _ _ ((bF.trans bK).new _)
theorem abo(b:Nat):je 8 (.map (some b)) (.map (some b))=true:=by unfold je;simp[jm]
theorem Vm(L:List (Int × Int))(h:ah)(v:Value)(Y:KQ)(hv:Sl bV h v L)(hlen:L.length<=100000000)(hlo:h.lo<=h.nx)(hk:∀a mb W h',ql a h' mb W L (L.length+1)->h.nx<=mb->Le h h'->Y (.map (some mb)) h'):aj prog 229 [v] h Y:=by
 apply X2;rw[YR];simp(disch:=try exact QQ)only[Wz];obtain⟨hA,bH,aY,g1,ia,ic⟩:=oR h (bT.map [] 0);rw[<-bH];clear bH;refine Aj L hA v _ (hv.le aY) hlen XV ?_;intro v2 a D sD hD Uk Ww;have nA:=Ww.nx;have lA:=Ww.lo;have amC:=Ww.nx;have amD:=Ww.lo;have g1:=(Ww.get _ XV).trans g1;have Sr:∀(β:Type)(fl:β)(h':ah)(Y:XW β),bh fl v2 h' Y=Y (X1 (D.length:Int)) h':=by
  obtain⟨x,c,rfl,_⟩:=(show Sl bV a v2 D from sD)
  exact λβ fl h' Y=>bX _ _ _ _ _
 simp(disch:=try exact QQ)only[Wz,Sr];refine⟨λm l h1=>∃(i:Nat)(W:List NX),aa l 16=X1 (i:Int)/\m=D.length-i/\i<=D.length/\ql a h1 h.nx W L i,
  ⟨_,0,[],rfl,rfl,XV,ql.nil XV g1⟩,?_⟩
 rintro m l h1 ⟨i,W,s1,rfl,hi,nx⟩;obtain⟨n1,l1⟩:=nx.nx;have r7:=nx.lt;by_cases hlt:i<D.length
 .obtain⟨p,hp⟩:∃p,D[i]? = some p:=⟨_,List.getElem?_eq_getElem hlt⟩
  have sD1:Sl bV h1 v2 D:=Sl.fmap sD g1 n1 nx.fr;obtain⟨b0,o0,hb0,Df,abp,_⟩:=sD1.ld dA i hp;have look:∀(β:Type)(fl:β)(h2:ah)(k:Int)(Y:XW β),(∃ck,h2.bl.get h.nx=some (.map (W.map Mh) ck))->ct fl prog 3 (.slice none 0 0) false (.map (some h.nx)) (X1 k) h2 Y=Y (w_ W k) h2:=by
   rintro β fl h2 k Y ⟨ck,g⟩;exact W0 g k Y
  simp(disch:=try exact QQ)only[Wz,s1,dw (show(i:Int)<(D.length:Int)by omega),FO,Df,abp,bV];obtain⟨hB,ji,cC,g2,A1,A2⟩:=oR h1 (ai [X1 p.1,X1 p.2] 278 false);rw[<-ji];clear ji;have nxB:=nx.le cC;obtain⟨ck,gm⟩:=nxB.gm;simp(disch:=try exact QQ)only[Wz,eY,g2,look _ _ hB _ _ ⟨ck,gm⟩];obtain⟨hC,Ak,lD,g3,abq,abr⟩:=oR hB (ai [X1 p.2] 3 false);rw[<-Ak];clear Ak;have agI:=lD.nx;have agJ:=lD.lo;have g2:=(lD.get _ XV).trans g2;refine Vc (nxB.le lD) XV XV XV p.1 p.2 (hD p (List.mem_of_getElem? hp)) (Sl.new (L:=[p.2]) (e:=3) (op:=false) XV g3 _) _ ?_;intro v' h4 n4 l4 f4 hput;have g4:=(f4 h1.nx XV (λvs=>by rw[g2];exact bz X0)).trans g2;simp(disch:=try exact QQ)only[Wz,g4,abo];refine hput _ ?_;intro h5 W' nx5;exact⟨_,XV,i+1,W',rfl,rfl,XV,nx5⟩
 .simp(disch:=try exact QQ)only[Wz,s1,b_ (show(D.length:Int)<=(i:Int)by omega)];refine hk a h.nx W h1 (nx.up XV) (Nat.le_refl _) ⟨XV,XV,λb hb=>?_⟩;exact(nx.fr b XV XV).trans ((Ww.get b XV).trans (aY.get b hb))
theorem ql.akO{a h:ah}{mb:Nat}{W:List NX}{E:List (Int × Int)}{B:Nat}(n:ql a h mb W E B)(k:Int):(tI W k).length<=B:=by
 unfold tI;cases hk:NN W k with
 |none=>exact Nat.zero_le _
 |some e=>
  obtain⟨hm,rfl⟩:=uP hk;obtain⟨i,hi⟩:=List.getElem?_of_mem hm;obtain⟨t,b,hb,_⟩:=n.each i e hi;rcases t with⟨h0,_⟩|⟨b',G,h1,h2,h3,h4,h5,_⟩
  .show e.L.length<=B
   rw[h0];exact Nat.zero_le _
  .show e.L.length<=B
   rw[List.length_append]at h5;omega
structure WyI(h h1:ah)(E:List (Int × Int))(f:Int)(bb:Nat)(vo:Value)(O:List Int)(o1 o2:Option Nat):Prop where
 map:∃Bk ck,h1.bl.get bb=some (.map (Bk.map si) ck)/\nG E f O (BV Bk)
 ord:ee aU 1 3 O.length h1 vo O o1
 ne:∀b,o1=some b->o2≠some b
 n1:∀b,o1=some b->h.nx<=b
 n2:∀b,o2=some b->h.nx<=b
 bb:h.nx<=bb/\bb<h1.nx/\h1.lo<=bb
 le:Le h h1
theorem Mi{Bk:List IE}{ck:Nat}{vs:List Value}{e:TypeId}{p:Bool}{h:ah}{b c:Nat}(hb:h.bl.get b=some (.map (Bk.map si) ck))(hc:h.bl.get c=some (ai vs e p)):b≠c:=by
 rintro rfl;rw[hb]at hc;exact bL hc
theorem abt{a h:ah}{mb:Nat}{W:List NX}{E:List (Int × Int)}{B:Nat}(nx:ql a h mb W E B)(hE:E.length<=100000000)(hB:B<=200000000)(f:Int)(hlo:h.lo<=h.nx)(Y:KQ)(hk:∀bb h' v' O Bk ck,h'.bl.get bb=some (.map (Bk.map si) ck)->nG E f O (BV Bk)->(h.nx<=bb/\bb<h'.nx/\h'.lo<=bb)->Le h h'->Y (.tuple ⟨[.map (some bb),v']⟩) h'):aj prog 230 [.map (some mb),X1 f] h Y:=by
 apply X2;rw[YS];simp(disch:=try exact QQ)only[Wz];obtain⟨hA,bH,aY,g1,g2,ia,ic⟩:=DK h (bT.map [] 0) (ai [X1 f] 3 false);rw[<-bH];clear bH;have w0:WyI h hA E f h.nx (.slice none 0 0) [] none none:=⟨⟨[],0,g1,nG.nil⟩,ee.nil,(λ_ e=>nomatch e),(λ_ e=>nomatch e),(λ_ e=>nomatch e),XV,aY⟩
 refine⟨λm l h1=>∃(O D:List Int)(o1 o2:Option Nat),WyI h h1 E f h.nx (aa l 33) O o1 o2/\J8 aU 1 3 (O.length+1) h1 (aa l 38) D o2/\(∀x∈D,x=f\/x∈O)/\m=left (E.map (·.2)) O+D.length,
  ⟨_,[],[f],none,none,w0,.inr ⟨rfl,h.nx+1,f,rfl,rfl,XV,g2⟩,λx hx=>.inl (by simpa using hx),rfl⟩,?_⟩
 rintro m l h1 ⟨O,D,o1,o2,w,td,hD,rfl⟩;have n1:=w.le.nx;have l1:=w.le.lo;have NZ:∀(β:Type)(fl:β)(h':ah)(Y:XW β),bh fl (aa l 38) h' Y=Y (X1 (D.length:Int)) h':=by
  obtain⟨x,c,e⟩:=td.val;rw[e];exact λβ fl h' Y=>bX _ _ _ _ _
 cases D with
 |nil=>
  obtain⟨Bk,ck,gm,wo⟩:=w.map;simp(disch:=try exact QQ)only[Wz,NZ,List.length_nil];exact hk h.nx h1 _ O Bk ck gm wo w.bb w.le
 |cons x D=>
  obtain⟨b5,o5,hb5,J_,_,hh5⟩:=(td.sl aZ).ld aZ 0 (p:=x) rfl;have hx5:=λ(β:Type)(fl:β) Y=>cO (fl:=fl) hh5 0 Y (by show 0<1;omega);simp only[Nat.add_zero]at hx5;have J_:∀(β:Type)(fl:β)(h':ah)(Y:XW β),az fl 1 (aa l 38) (X1 0) h' Y=Y (.pointer (some ⟨b5,o5,none⟩)) h':=λβ fl h' Y=>by simpa using J_ β fl h' Y
  obtain⟨vc,rc,aaZ⟩:=td.cut aZ X0;have nx1:=nx.le w.le;obtain⟨ck0,gm0⟩:=nx1.gm;have look:∀(β:Type)(fl:β)(Y:XW β),ct fl prog 3 (.slice none 0 0) false (.map (some mb)) (X1 x) h1 Y=Y (w_ W x) h1:=λβ fl Y=>W0 gm0 x Y;obtain⟨sX,hX⟩:=nx1.val x;have lX:=nx1.akO x;have hxl:∀(β:Type)(fl:β)(h':ah)(Y:XW β),bh fl (w_ W x) h' Y=Y (X1 ((tI W x).length:Int)) h':=by
   obtain⟨y,c,e,_⟩:=(show Sl aU h1 (w_ W x) (tI W x)from sX)
   rw[e];exact λβ fl h' Y=>bX _ _ _ _ _
  have Uk:(D.length:Int)+1≠0:=by omega
  simp(disch:=try exact QQ)only[Wz,NZ,List.length_cons,a_ (show ¬((D.length+1:Nat):Int)=0 by omega),FQ,J_,hx5,aU,aaZ,look,hxl];have hOE:O.length<=E.length:=by obtain⟨_,_,_,wo⟩:=w.map;exact wo.len
  refine⟨λm2 l2 h2=>∃(j:Nat)(O2 D2:List Int)(o3 o4:Option Nat),aa l2 27=X1 (j:Int)/\m2=(tI W x).length-j/\j<=(tI W x).length/\WyI h h2 E f h.nx (aa l2 20) O2 o3 o4/\mK aU 1 3 (O2.length+1) h2 (aa l2 25) D2 o4/\(∀y∈D2,y=f\/y∈O2)/\(x=f\/x∈O2)/\left (E.map (·.2)) O2+D2.length<=left (E.map (·.2)) O+D.length/\Sl aU h2 (w_ W x) (tI W x),
   ⟨_,0,O,D,o1,o2,rfl,rfl,XV,w,rc,λy hy=>hD y (.tail _ hy),hD x (.head _),Nat.le_refl _,sX⟩,?_⟩
  rintro m2 l2 h2 ⟨j,O2,D2,o3,o4,s1,rfl,hj,w2,r2,hD2,hx2,hm2,sX2⟩;have n2:=w2.le.nx;have lo2:=w2.le.lo;obtain⟨Bk,ck,gm,wo⟩:=w2.map;have hO2:=wo.len;have bb2:=w2.bb;by_cases hlt:j<(tI W x).length
  .obtain⟨t,ht⟩:∃t,(tI W x)[j]? = some t:=⟨_,List.getElem?_eq_getElem hlt⟩
   have S7:(x,t)∈E:=hX t (List.mem_of_getElem? ht);obtain⟨b6,o6,hb6,NO,_,hh6⟩:=sX2.ld aZ j ht;have hx6:=λ(β:Type)(fl:β) Y=>cO (fl:=fl) hh6 0 Y (by show 0<1;omega);simp only[Nat.add_zero]at hx6;have Mj:=λ(β:Type)(fl:β)(Y:XW β)=>LZ (fl:=fl) gm t Y;unfold y3;simp(disch:=try exact QQ)only[Wz,s1,dw (show(j:Int)<((tI W x).length:Int)by omega)];refine⟨λl3 h3=>∃(O3 D3:List Int)(o5 o6:Option Nat),WyI h h3 E f h.nx (aa l3 19) O3 o5 o6/\mK aU 1 3 (O3.length+1) h3 (aa l3 24) D3 o6/\(∀y∈D3,y=f\/y∈O3)/\(x=f\/x∈O3)/\left (E.map (·.2)) O3+D3.length<=left (E.map (·.2)) O+D.length/\Sl aU h3 (w_ W x) (tI W x),?_,?_⟩
   .unfold FP;cases hl:BV Bk t with
    |some q=>
     simp(disch:=try exact QQ)only[Wz,eY,s1,NO,hx6,aU,Mj,hl,Option.isSome_some];exact⟨O2,D2,o3,o4,w2,r2,hD2,hx2,hm2,sX2⟩
    |none=>
     simp(disch:=try exact QQ)only[Wz,eY,s1,NO,hx6,aU,Mj,hl,Option.isSome_none];refine JK gm XV t x _ ?_;intro Bk' W1 hlk;have htO:t∉O2:=λh=>by have:=(wo.mem t).2 h;rw[hl]at this;cases this
     have wo':=wo.add hl S7 hx2 hlk;have hleft:left (E.map (·.2)) (O2++[t])+1<=left (E.map (·.2)) O2:=Sk (List.mem_map.2 ⟨_,S7,rfl⟩) htO;obtain⟨hB,eB⟩:∃hB:ah,hB=⟨h2.nx,h2.bl.bx h.nx (.map (Bk'.map si) W1),h2.lo⟩:=⟨_,rfl⟩
     have nB:hB.nx=h2.nx:=by rw[eB]
     have lB:hB.lo=h2.lo:=by rw[eB]
     have gB:hB.bl.get h.nx=some (.map (Bk'.map si) W1):=by rw[eB];exact T.an _ _ _
     have fB:∀c,c≠h.nx->hB.bl.get c=h2.bl.get c:=λc hc=>by rw[eB];exact T.au _ _ λe=>hc e.symm
     rw[<-eB];clear eB;obtain⟨hC,Ak,lD,g3,abq,abr⟩:=oR hB (ai [X1 t] 3 false);rw[<-Ak];clear Ak;have gC:hC.bl.get h.nx=some (.map (Bk'.map si) W1):=(lD.get _ XV).trans gB;have fC:∀c,c<h2.nx->c≠h.nx->hC.bl.get c=h2.bl.get c:=λc hc hn=>(lD.get c XV).trans (fB c hn);have no3:o3≠some h.nx:=λe=>by
      obtain⟨_,vs,hg⟩:=tail_at w2.ord e;exact Mi gm hg rfl
     have no4:o4≠some h.nx:=λe=>by
      obtain⟨_,vs,hg⟩:=r2.some e;exact Mi gm hg rfl
     refine ee.append aZ dF X0 X0 (w2.ord.keep XV XV λb hb=>fC b (tail_at w2.ord hb).1 λe=>no3 (e▸hb)) (Sl.new (L:=[t]) (e:=3) (op:=false) XV g3 _) (by simp;omega) XV _ ?_;intro vo' o3' h4 t4 n4 l4 f4 SM;obtain⟨hQ,afG,Mk,g5,aqH,aqI⟩:=oR h4 (ai [X1 t] 3 false);rw[<-afG];clear afG;have afH:∀b,o4=some b->b<h2.nx:=λb hb=>(r2.some hb).1;refine mK.append aZ dF X0 X0 (r2.keep XV XV λb hb=>?_) (Sl.new (L:=[t]) (e:=3) (op:=false) XV g5 _) (by simp;omega) (by simp) (by simp) XV _ ?_
     .have:=afH b hb;exact(Mk.get b XV).trans ((f4 b XV λe=>w2.ne b e hb).trans (fC b this λe=>no4 (e▸hb)))
     intro vt' o4' h5 t5 n5 l5 f5 A0;have lI:Le h h5:=⟨XV,XV,λb hb=>by
      have e1:=f5 b XV λe=>by have:=w2.n2 b e;omega
      have e2:=Mk.get b XV;have e3:=f4 b XV λe=>by have:=w2.n1 b e;omega
      exact e1.trans (e2.trans (e3.trans ((fC b XV XV).trans (w2.le.get b hb))))⟩
     have hne:∀b,o3'=some b->o4≠some b/\h.nx<=b/\b<h4.nx:=by
      intro b hb;have hlt:=(tail_at t4 hb).1;rcases SM with rfl|⟨b',hb',k1,k2⟩
      .exact⟨w2.ne b hb,w2.n1 b hb,hlt⟩
      .rw[hb']at hb;cases hb;exact⟨λe=>by have:=afH _ e;omega,XV,hlt⟩
     have gm5:h5.bl.get h.nx=some (.map (Bk'.map si) W1):=(f5 h.nx XV no4).trans ((Mk.get _ XV).trans ((f4 h.nx XV no3).trans gC));have afI:(O2++[t]).length=O2.length+1:=by simp
     refine⟨O2++[t],D2++[t],o3',o4',⟨⟨Bk',W1,gm5,wo'⟩,?_,?_,λb hb=>(hne b hb).2.1,?_,XV,lI⟩,?_,?_,?_,?_,((nx.le lI).val x).1⟩
     .rw[afI];exact ee.keep t4 XV XV λb hb=>(f5 b (by have:=(hne b hb).2.2;omega) (hne b hb).1).trans (Mk.get b (hne b hb).2.2)
     .intro b hb;rcases A0 with rfl|⟨b',hb',k1,k2⟩
      .exact(hne b hb).1
      .rw[hb'];intro e;cases e;have:=(hne _ hb).2.2;omega
     .intro b hb;rcases A0 with rfl|⟨b',hb',k1,k2⟩
      .exact w2.n2 b hb
      .rw[hb']at hb;cases hb;omega
     .rw[afI];exact t5
     .intro y hy;rcases List.mem_append.1 hy with hy|hy
      .rcases hD2 y hy with h0|h0
       .exact .inl h0
       .exact .inr (List.mem_append_left _ h0)
      .exact .inr (List.mem_append_right _ hy)
     .rcases hx2 with h0|h0
      .exact .inl h0
      .exact .inr (List.mem_append_left _ h0)
     .simp only[List.length_append,List.length_cons,List.length_nil];omega
   .rintro l3 h3 ⟨O3,D3,o5,o6,w3,r3,hD3,hx3,hm3,sX3⟩;exact⟨_,XV,j+1,O3,D3,o5,o6,rfl,rfl,XV,w3,r3,hD3,hx3,hm3,sX3⟩
  .unfold y3;simp(disch:=try exact QQ)only[Wz,s1,b_ (show((tI W x).length:Int)<=(j:Int)by omega)];exact⟨_,XV,O2,D2,o3,o4,w2,.inl r2,hD2,rfl⟩
theorem Al{α:Type}{enc:α->List Value}{a a' h:ah}{e:TypeId}{v:Value}{L:List α}(ho:eG enc a' e h v L)(hn:a.nx<=a'.nx):eG enc a e h v L:=by
 rcases ho with h0|⟨b,h1,h2,h3⟩
 .exact .inl h0
 .exact .inr ⟨b,h1,XV,h3⟩
theorem Ss{β:Type}{fl:β}{W:List IE}{clock:Nat}{h:ah}{bw:Nat}(g:h.bl.get bw=some (.map (W.map si) clock))(k:Int)(Y:XW β):ct fl prog 3 (X1 0) false (.map (some bw)) (X1 k) h Y=Y (X1 ((BV W k).getD 0)) h:=by
 unfold ct jF BV;rw[JJ];simp only[g];rcases Rf h k W 0 with⟨g1,g2⟩|⟨j,e',g1,g2,g3,g4,_⟩
 .rw[g1,g2];rfl
 .rw[g1,g4];rfl
theorem Ke{a h:ah}{v:Value}{C:List Int}(ho:eG aU a 3 h v C)(hC:C≠[])(hlen:C.length<=100000000)(hle:Le a h)(hlo:h.lo<=h.nx)(Y:KQ)(hk:∀h' K,eG aU a 3 h' v K->(∀x∈K,x∈C)->K.length=C.length->Le a h'->Y (.tuple ⟨[]⟩) h'):aj prog 231 [v] h Y:=by
 rcases ho with⟨h0,_⟩|⟨b,rfl,b1,b2,b3,b4⟩
 .exact absurd h0 hC
 have hpos:0<C.length:=List.length_pos_iff.2 hC;have hl:∀(β:Type)(fl:β)(n c:Nat)(x:Option Addr)(h':ah)(Y:XW β),bh fl (.slice x n c) h' Y=Y (X1 (n:Int)) h':=λβ fl n c x h' Y=>bX _ _ _ _ _;apply X2;rw[YT];have e1:((C.length:Int)-1)=((C.length-1:Nat):Int):=by omega
 simp(disch:=try exact QQ)only[Wz,hl,e1];refine⟨λm l h1=>∃(i j:Nat)(K:List Int),aa l 21=X1 (i:Int)/\aa l 22=X1 (j:Int)/\m=j-i/\i<=C.length/\j<C.length/\K.length=C.length/\(∀x∈K,x∈C)/\h1.bl.get b=some (ai (K.flatMap aU) 3 true)/\Le a h1/\b<h1.nx,
  ⟨_,0,C.length-1,C,rfl,rfl,rfl,XV,XV,rfl,λ_ h=>h,b4,hle,b2⟩,?_⟩
 rintro m l h1 ⟨i,j,K,s1,s2,rfl,hi,hj,hK,hKC,g,bF,hb⟩;have n1:=bF.nx;have l1:=bF.lo;have l0:=hle.lo;by_cases hlt:i<j
 .obtain⟨p,hp⟩:∃p,K[i]? = some p:=⟨_,List.getElem?_eq_getElem XV⟩
  obtain⟨q,hq⟩:∃q,K[j]? = some q:=⟨_,List.getElem?_eq_getElem XV⟩
  have ET:Sl aU h1 (X9 b C.length aS) K:=⟨_,aS,by rw[hK],λ_=>⟨b,0,rfl,hb,by rw[g];exact Has.all⟩⟩
  have hfl:=bg (enc:=aU) aZ;have r1:=gZ (j:=0) aZ hp X0;have r2:=gZ (j:=0) aZ hq X0;have r1:(K.flatMap aU)[i*1]? = some (X1 p):=r1;have r2:(K.flatMap aU)[j*1]? = some (X1 q):=r2;have akU:over (K.flatMap aU) (i*1) [X1 q]=(K.set i q).flatMap aU:=gJ aZ K i q XV;have vE:over ((K.set i q).flatMap aU) (j*1) [X1 p]=((K.set i q).set j p).flatMap aU:=gJ aZ (K.set i q) j p (by simp;omega);have st:∀(y:Int){vs:List Value}{o:Nat}{h:ah}{Y:ah->Prop},o+1<=vs.length->h.lo<=b->DJ False (some (ai vs 3 true)) 1 b o [X1 y] h Y=Y ⟨h.nx,h.bl.bx b (ai (over vs o [X1 y]) 3 true),h.lo⟩:=by
   intro y vs o h Y h1 h2;exact XH aZ dF y h1 h2
  have Ec:i*1+1<=(K.flatMap aU).length:=by rw[hfl];omega
  have sv:j*1+1<=((K.set i q).flatMap aU).length:=by rw[hfl,List.length_set];omega
  have e2:((j:Int)-1)=((j-1:Nat):Int):=by omega
  simp(disch:=try exact QQ)only[Wz,s1,s2,dw (show(i:Int)<(j:Int)by omega),FT,g,aX,e2,r1,r2,st,akU,vE];exact⟨_,XV,i+1,j-1,(K.set i q).set j p,rfl,rfl,rfl,XV,XV,by simpa using hK,uQ (uQ hKC (hKC _ (List.mem_of_getElem? hq))) (hKC _ (List.mem_of_getElem? hp)),rfl,bF.set b1 _,hb⟩
 .simp(disch:=try exact QQ)only[Wz,s1,s2,b_ (show(j:Int)<=(i:Int)by omega)];exact hk h1 K (.inr ⟨b,by rw[hK],b1,hb,XV,g⟩) hKC hK bF
theorem Vn(L:List (Int × Int))(h:ah)(v:Value)(Y:KQ)(hv:Sl bV h v L)(hlen:L.length<=50000000)(hlo:h.lo<=h.nx)(nj:∀h',Le h h'->Y (.tuple ⟨[.slice none 0 0,.bool false]⟩) h')(gP:∀v' C h',eG aU h 3 h' v' C->C≠[]->(∀c∈C,∃t,(c,t)∈L)->C.length<=100000000->Le h h'->Y (.tuple ⟨[v',.bool true]⟩) h'):aj prog 168 [v] h Y:=by
 apply X2;rw[Yx];refine Vm L h v _ hv XV hlo ?_;intro a mb W hN nx hmb leN;have nN:=leN.nx;have lN:=leN.lo;refine Aj L hN v _ (hv.le leN) XV XV ?_;intro v1 hS D sD hD Uk leS;have nS:=leS.nx;have lS:=leS.lo;have Sr:∀(β:Type)(fl:β)(h':ah)(Y:XW β),bh fl v1 h' Y=Y (X1 (D.length:Int)) h':=by
  obtain⟨x,c,rfl,_⟩:=(show Sl bV hS v1 D from sD)
  exact λβ fl h' Y=>bX _ _ _ _ _
 simp(disch:=try exact QQ)only[Wz,Sr];refine⟨λm l h1=>∃k:Nat,aa l 52=X1 (k:Int)/\m=D.length-k/\k<=D.length/\Le hS h1,⟨_,0,rfl,rfl,XV,Le.refl _⟩,?_⟩;rintro m l h1 ⟨k,s1,rfl,MM,bF⟩;have n1:=bF.nx;have l1:=bF.lo;by_cases hlt:k<D.length
 .obtain⟨p,hp⟩:∃p,D[k]? = some p:=⟨_,List.getElem?_eq_getElem hlt⟩
  have hpL:(p.1,p.2)∈L:=hD p (List.mem_of_getElem? hp);obtain⟨b0,o0,hb0,Df,abp,_⟩:=(sD.le bF).ld dA k hp;simp(disch:=try exact QQ)only[Wz,s1,dw (show(k:Int)<(D.length:Int)by omega),Fu,Df,abp,bV];obtain⟨hB,ji,cC,g2,A1,A2⟩:=oR h1 (ai [X1 p.1,X1 p.2] 278 false);rw[<-ji];clear ji;refine abt (nx.le ((leS.trans bF).trans cC)) XV XV p.1 XV _ ?_;intro bb h3 v' O Bk ck gm wo Iu d_;have n3:=d_.nx;have l3:=d_.lo;have amK:=d_.nx;have amL:=d_.lo;have g2:=(d_.get _ XV).trans g2;have W3:=λ(β:Type)(fl:β)(Y:XW β)=>LZ (fl:=fl) gm p.1 Y;have hOl:=wo.len;cases hl:BV Bk p.1 with
  |none=>
   simp(disch:=try exact QQ)only[Wz,g2,W3,hl,Option.isSome_none];exact⟨_,XV,k+1,rfl,rfl,XV,(bF.trans cC).trans d_⟩
  |some q=>
   have Mj:=λ(β:Type)(fl:β)(Y:XW β)=>Ss (fl:=fl) gm p.1 Y;obtain⟨at0,fr0⟩:=wo.start hl;simp(disch:=try exact QQ)only[Wz,g2,W3,Mj,hl,Option.isSome_some,Option.getD_some];refine⟨λm2 l2 h4=>∃(C:List Int)(x:Int),aa l2 12=X1 x/\eG aU h3 3 h4 (aa l2 8) C/\At p.1 O m2 x/\(∃t,(x,t)∈L)/\(∀c∈C,∃t,(c,t)∈L)/\C.length+m2<=O.length/\Le h3 h4,
    ⟨O.length,[],q,rfl,.inl ⟨rfl,.inl rfl⟩,at0,fr0,(λc hc=>nomatch hc),by simp,Le.refl _⟩,?_⟩
   rintro m2 l2 h4 ⟨C,x,t1,ho,oQ,hx,hC,hCl,mE⟩;have n4:=mE.nx;have l4:=mE.lo;have amM:=mE.nx;have amN:=mE.lo;have g2:=(mE.get _ XV).trans g2;have gm4:=(mE.get bb Iu.2.1).trans gm;by_cases ya:x=p.1
   .simp(disch:=try exact QQ)only[Wz,yT,t1,g2,bq ya];obtain⟨hC2,Ii,Am,g5,afL,afM⟩:=oR h4 (ai [X1 p.1] 3 false);rw[<-Ii];clear Ii;refine sn (a:=h3) aZ dF X0 X0 (ho.le Am) (Sl.new (L:=[p.1]) (e:=3) (op:=false) XV g5 _) (mE.trans Am) (by simp;omega) XV _ ?_;intro v6 h6 o6 mR _ n6 l6 _;refine Ke o6 (by simp) (by simp;omega) mR XV _ ?_;intro h7 K o7 hK G0 SQ;refine gP v6 K h7 (Al o7 XV) (by intro e;rw[e]at G0;simp at G0) (λc hc=>?_) (by rw[G0];simp;omega) (((leN.trans leS).trans ((bF.trans cC).trans d_)).trans SQ);rcases List.mem_append.1 (hK c hc)with hc|hc
    .exact hC c hc
    .simp at hc;subst hc;exact⟨_,hpL⟩
   .obtain⟨y,m3,hy,hm3,akV,vr⟩:=wo.next oQ ya;subst hm3;simp(disch:=try exact QQ)only[Wz,yT,t1,g2,a_ ya];obtain⟨hC2,Ii,Am,g5,afL,afM⟩:=oR h4 (ai [X1 x] 3 false);rw[<-Ii];clear Ii;refine sn (a:=h3) aZ dF X0 X0 (ho.le Am) (Sl.new (L:=[x]) (e:=3) (op:=false) XV g5 _) (mE.trans Am) (by simp;omega) XV _ ?_;intro v6 h6 o6 mR _ n6 l6 f6;have gm6:=(mR.get bb Iu.2.1).trans gm;have afN:=λ(β:Type)(fl:β)(Y:XW β)=>Ss (fl:=fl) gm6 x Y;simp(disch:=try exact QQ)only[Wz,afN,hy,Option.getD_some];refine⟨m3,XV,C++[x],y,rfl,o6,akV,vr,λc hc=>?_,by simp;omega,mR⟩;rcases List.mem_append.1 hc with hc|hc
    .exact hC c hc
    .simp at hc;subst hc;exact hx
 .simp(disch:=try exact QQ)only[Wz,s1,b_ (show(D.length:Int)<=(k:Int)by omega)];exact nj h1 ((leN.trans leS).trans bF)
abbrev fM:FuncId:=313
def W4(f:FuncId):Bool:=Nat.beq f fM
noncomputable abbrev pM:ku Prop:=prK prog W4
noncomputable abbrev RM(n:Nat):Rec Prop:=run False pM prog n
def cM:Code:=zF prog fM
def m0:Code:=iG cM
def mA:Code:=iG (iV cM)
def m1:Code:=iG mA
def mP:Code:=cdA (iV mA)
def mB:Code:=iV (iV cM)
def m2:Code:=iG mB
def mC:Code:=iG (iV mB)
def m3:Code:=iG mC
def mL:Code:=LQ (LQ (iV mC))
def m4:Code:=iG (iG mL)
def mD:Code:=LQ (iG (iV mL))
def m5:Code:=iG mD
def m6:Code:=cdA (iV mD)
def m7:Code:=iV (iV mL)
def m8:Code:=iG (iV (iV mB))
def mLB:Code:=.seq (.seq m4 (.cond (.tmp 17) .skip (.exit 0))) (.seq (.block 1 (.seq m5 (.cond (.tmp 27) m6 .skip))) m7)
theorem afO:cM=.seq m0 (.seq (.seq m1 (.cond (.tmp 9) mP .skip)) (.seq m2 (.seq (.seq m3 (.block 0 (.loop mLB))) (.seq m8 .ret)))):=by kernel_rfl
variable (rec:Rec Prop)(tm:T Value)(h:ah)
theorem rm0(Y:Ex->T Value->ah->Prop):body False pM prog rec m0 tm h Y=T.set tm 4 (X1 0) λtm=>Y .normal tm h:=by kernel_rfl
theorem rm1(Y:Ex->T Value->ah->Prop):body False pM prog rec m1 tm h Y=ev tm (.tmp 0) λx=>T.set tm 7 x λtm=>ev tm (.tmp 7) λx=>bh False x h λv h=>T.set tm 8 v λtm=>ev tm (.tmp 8) λx=>aG False prog .lss 3 true false x (X1 1) h λv h=>T.set tm 9 v λtm=>Y .normal tm h:=by kernel_rfl
theorem rm2(Y:Ex->T Value->ah->Prop):body False pM prog rec m2 tm h Y=ev tm (.tmp 0) λx=>T.set tm 11 x λtm=>ev tm (.tmp 11) λx=>az False 1 x (X1 0) h λv h=>T.set tm 12 v λtm=>ev tm (.tmp 12) λx=>ax False x h λv h=>T.set tm 13 v λtm=>ev tm (.tmp 13) λx=>T.set tm 5 x λtm=>Y .normal tm h:=by kernel_rfl
theorem rm3(Y:Ex->T Value->ah->Prop):body False pM prog rec m3 tm h Y=T.set tm 6 (X1 1) λtm=>Y .normal tm h:=by kernel_rfl
theorem rm4(Y:Ex->T Value->ah->Prop):body False pM prog rec m4 tm h Y=ev tm (.tmp 6) λx=>T.set tm 14 x λtm=>ev tm (.tmp 0) λx=>T.set tm 15 x λtm=>ev tm (.tmp 15) λx=>bh False x h λv h=>T.set tm 16 v λtm=>ev tm (.tmp 14) λa=>ev tm (.tmp 16) λb=>aG False prog .lss 3 false false a b h λv h=>T.set tm 17 v λtm=>Y .normal tm h:=by kernel_rfl
theorem rm5(Y:Ex->T Value->ah->Prop):body False pM prog rec m5 tm h Y=ev tm (.tmp 1) λx=>T.set tm 20 x λtm=>ev tm (.tmp 0) λx=>T.set tm 21 x λtm=>ev tm (.tmp 6) λx=>T.set tm 22 x λtm=>ev tm (.tmp 21) λa=>ev tm (.tmp 22) λb=>az False 1 a b h λv h=>T.set tm 23 v λtm=>ev tm (.tmp 23) λx=>ax False x h λv h=>T.set tm 24 v λtm=>ev tm (.tmp 5) λx=>T.set tm 25 x λtm=>
  ev tm (.tmp 20) λf=>ev tm (.tmp 24) λa=>ev tm (.tmp 25) λb=>sJ False pM prog rec f [a,b] h λv h=>T.set tm 26 v λtm=>ev tm (.tmp 26) λx=>aG False prog .gtr 3 true false x (X1 0) h λv h=>T.set tm 27 v λtm=>Y .normal tm h:=by kernel_rfl
theorem rm6(Y:Ex->T Value->ah->Prop):body False pM prog rec m6 tm h Y=ev tm (.tmp 0) λx=>T.set tm 28 x λtm=>ev tm (.tmp 6) λx=>T.set tm 29 x λtm=>ev tm (.tmp 28) λa=>ev tm (.tmp 29) λb=>az False 1 a b h λv h=>T.set tm 30 v λtm=>ev tm (.tmp 30) λx=>ax False x h λv h=>T.set tm 31 v λtm=>ev tm (.tmp 31) λx=>T.set tm 5 x λtm=>Y .normal tm h:=by kernel_rfl
theorem rm7(Y:Ex->T Value->ah->Prop):body False pM prog rec m7 tm h Y=ev tm (.tmp 6) λx=>T.set tm 18 x λtm=>ev tm (.tmp 18) λx=>aG False prog .add 3 true false x (X1 1) h λv h=>T.set tm 19 v λtm=>ev tm (.tmp 19) λx=>T.set tm 6 x λtm=>Y .normal tm h:=by kernel_rfl
theorem rm8(Y:Ex->T Value->ah->Prop):body False pM prog rec m8 tm h Y=ev tm (.tmp 5) λx=>T.set tm 32 x λtm=>ev tm (.tmp 32) λx=>T.set tm 4 x λtm=>Y .normal tm h:=by kernel_rfl
section
variable (n:Nat)(a b:Code)(tm:T Value)(h:ah)(Y:Ex->T Value->ah->Prop)
theorem Ml:RM (n+1) (.seq a b) tm h Y=RM n a tm h (sq (RM n) b Y):=id rfl
theorem An(t:Nat):RM (n+1) (.cond (.tmp t) a b) tm h Y=qz False (RM n) a b tm h Y (cZ tm t):=fZ tm (.tmp t) (qz False (RM n) a b tm h Y)
theorem Mm(i:Nat):RM (n+1) (.block i a) tm h Y=RM n a tm h (kQ i Y):=id rfl
theorem St:RM (n+1) (.loop a) tm h Y=RM n a tm h (sq (RM n) (.loop a) Y):=id rfl
theorem abu(i:Nat):RM (n+1) (.exit i) tm h Y=Y (.exit i) tm h:=id rfl
theorem afP:RM (n+1) .ret tm h Y=Y .ret tm h:=id rfl
theorem Kf:RM (n+1) .skip tm h Y=Y .normal tm h:=id rfl
theorem akW:RM (n+1) m0 tm h Y=body False pM prog (RM n) m0 tm h Y:=id rfl
theorem akX:RM (n+1) m1 tm h Y=body False pM prog (RM n) m1 tm h Y:=id rfl
theorem akY:RM (n+1) m2 tm h Y=body False pM prog (RM n) m2 tm h Y:=id rfl
theorem akZ:RM (n+1) m3 tm h Y=body False pM prog (RM n) m3 tm h Y:=id rfl
theorem afQ:RM (n+1) m4 tm h Y=body False pM prog (RM n) m4 tm h Y:=id rfl
theorem ak0:RM (n+1) m5 tm h Y=body False pM prog (RM n) m5 tm h Y:=id rfl
theorem ak1:RM (n+1) m6 tm h Y=body False pM prog (RM n) m6 tm h Y:=id rfl
theorem afR:RM (n+1) m7 tm h Y=body False pM prog (RM n) m7 tm h Y:=id rfl
theorem ak2:RM (n+1) m8 tm h Y=body False pM prog (RM n) m8 tm h Y:=id rfl
end
theorem afS(rec:Rec Prop)(c x:Value)(h:ah)(Y:KQ):jG False pM prog rec fM [c,x] h Y=rec cM (lay [c,x] .nil 0) h (wN False [.tmp 4] Y):=by kernel_rfl
theorem abv(rec:Rec Prop)(x y c:Value)(h:ah)(Y:KQ):sJ False pM prog rec (.func (.func 314) ⟨[]⟩ ⟨[c]⟩) [x,y] h Y=aj prog 314 [x,y,c] h Y:=by kernel_rfl
theorem Su{C:List Int}{v fv:Value}{L:List (Int × Int)}{va:Value}{b:Nat}(Ir:je 8 va va=true)(n:Nat)(hfv:fv=.func (.func 314) ⟨[]⟩ ⟨[av b]⟩)(Y:Ex->T Value->ah->Prop):∀(d i:Nat)(tm:T Value)(h:ah)(c:Int),C.length=i+d->1<=i->i<=C.length->C.length<=100000000->Sl aU h v C->Sl bV h va L->L.length<=1000000->h.lo<=h.nx->b<h.nx->h.bl.get b=some (ai [va] 136 false)->c∈C->
   cZ tm 0=v->cZ tm 1=fv->cZ tm 5=X1 c->cZ tm 6=X1 (i:Int)->
   (∀cN h' c',Le h h'->c'∈C->cZ cN 5=X1 c'->Y (.exit 0) cN h')->RM (n+d+20) (.loop mLB) tm h Y:=by
 intro d
 induction d with
 |zero=>
  intro i tm h c hd h1 h2 hC hv ha hL hlo hb hg hc t0 t1 t5 t6 hk;rw[show n+0+20=n+19+1 from rfl,St];unfold mLB;simp(disch:=try exact QQ)only[Wz,Ml,afQ,rm4,dY,↓T.cQ,bG,cE,t0,t6,hv.len,b_ (show(C.length:Int)<=(i:Int)by omega),nR,An,A5,abu,M6];refine hk _ h c (Le.refl h) hc ?_;simp (disch:=decide) only [cE,bG];exact t5
 |succ d ih=>
  intro i tm h c hd h1 h2 hC hv ha hL hlo hb hg hc t0 t1 t5 t6 hk;rw[show n+(d+1)+20=n+d+20+1 from by omega,St];obtain⟨p,hp⟩:∃p,C[i]? = some p:=⟨_,List.getElem?_eq_getElem XV⟩
  obtain⟨b1,o1,Ec,zH,_,S6⟩:=hv.ld aZ i hp;have hx1:=λ(β:Type)(fl:β) Y=>cO (fl:=fl) S6 0 Y (by show 0<1;omega);simp only[Nat.add_zero]at hx1;unfold mLB;simp(disch:=try exact QQ)only[Wz,Ml,afQ,rm4,dY,↓T.cQ,bG,cE,t0,t6,hv.len,dw (show(i:Int)<(C.length:Int)by omega),nR,An,Uh,Kf,Mm,ak0,rm5,t1,t5,zH,hx1,aU,hfv,abv];refine Kd L p c b va h _ ha Ir hL hlo hb hg ?_;intro nn h1 bF;have n1:=bF.nx;have l1:=bF.lo;simp(disch:=try exact QQ)only[Wz,↓T.cQ,dY,bG];by_cases hn:0<nn
  .have hx2:∀(β:Type)(fl:β)(Y:Value->β),qn fl (h1.bl.get b1) o1 Y=Y (X1 p):=λβ fl Y=>by rw[bF.get b1 Ec];exact hx1 β fl Y
   simp(disch:=try exact QQ)only[Wz,↓T.cQ,dY,bG,cE,dw hn,nR,An,Uh,ak1,rm6,t0,t6,zH,hx2,A4,afR,rm7];refine ih (i+1) _ h1 p XV XV XV hC (hv.le bF) (ha.le bF) hL XV XV ((bF.get b hb).trans hg) (List.mem_of_getElem? hp) ?_ ?_ ?_ ?_ λcN h' c' l'=>hk cN h' c' (bF.trans l')
   .simp (disch:=decide) only [cE,bG];exact t0
   .simp (disch:=decide) only [cE,bG];exact t1
   .simp (disch:=decide) only [cE,bG]
   .simp (disch:=decide) only [cE,bG];rfl
  .simp(disch:=try exact QQ)only[Wz,↓T.cQ,dY,bG,cE,a_ hn,nR,An,A5,Kf,t0,t6,A4,afR,rm7];refine ih (i+1) _ h1 c XV XV XV hC (hv.le bF) (ha.le bF) hL XV XV ((bF.get b hb).trans hg) hc ?_ ?_ ?_ ?_ λcN h' c' l'=>hk cN h' c' (bF.trans l')
   .simp (disch:=decide) only [cE,bG];exact t0
   .simp (disch:=decide) only [cE,bG];exact t1
   .simp (disch:=decide) only [cE,bG];exact t5
   .simp (disch:=decide) only [cE,bG];rfl
theorem NQ{C:List Int}{v:Value}{L:List (Int × Int)}{va:Value}{b:Nat}{h:ah}(hC0:C≠[])(hC:C.length<=100000000)(hv:Sl aU h v C)(ha:Sl bV h va L)(Ir:je 8 va va=true)(hL:L.length<=1000000)(hlo:h.lo<=h.nx)(hb:b<h.nx)(hg:h.bl.get b=some (ai [va] 136 false))(Y:KQ)(hk:∀c h',c∈C->Le h h'->Y (X1 c) h'):aj prog fM [v,.func (.func 314) ⟨[]⟩ ⟨[av b]⟩] h Y:=by
 have hpos:0<C.length:=List.length_pos_iff.2 hC0;obtain⟨p,hp⟩:∃p,C[0]? = some p:=⟨_,List.getElem?_eq_getElem hpos⟩
 obtain⟨b1,o1,Ec,zH,_,S6⟩:=hv.ld aZ 0 hp;have hx1:=λ(β:Type)(fl:β) Y=>cO (fl:=fl) S6 0 Y (by show 0<1;omega);simp only[Nat.add_zero]at hx1;have zH:∀(β:Type)(fl:β)(h':ah)(Y:XW β),az fl 1 v (X1 0) h' Y=Y (.pointer (some ⟨b1,o1,none⟩)) h':=λβ fl h' Y=>by simpa using zH β fl h' Y
 refine vJ mixed (skip:=W4) (100+(C.length-1)+20+6) ?_;rw[afS,afO,Q0];simp(disch:=try exact QQ)only[Wz,Ml,akW,rm0,↓T.cQ,dY,bG,cE,nR,akX,rm1,hv.len,b_ (show(1:Int)<=(C.length:Int)by omega),An,A5,Kf,akY,rm2,zH,hx1,aU,akZ,rm3,Mm];refine Su Ir 100 rfl _ (C.length-1) 1 _ h p XV XV XV hC hv ha hL hlo hb hg (List.mem_of_getElem? hp) ?_ ?_ ?_ ?_ ?_
 .simp (disch:=decide) only [cE,bG]
 .simp (disch:=decide) only [cE,bG];rfl
 .simp (disch:=decide) only [cE,bG]
 .simp (disch:=decide) only [cE,bG];rfl
 .intro cN h' c' le' sk t5;simp(disch:=try exact QQ)only[Wz,LR,nR,Ml,ak2,rm8,↓T.cQ,dY,bG,t5,afP,Ug,aeE];exact hk c' h' sk le'
theorem Sv{C:List Int}{v:Value}{L:List (Int × Int)}{va:Value}{h:ah}(hC0:C≠[])(hC:C.length<=100000000)(hv:Sl aU h v C)(ha:Sl bV h va L)(Ir:je 8 va va=true)(hL:L.length<=1000000)(hlo:h.lo<=h.nx)(Y:KQ)(hk:∀c h',c∈C->Le h h'->Y (.tuple ⟨[X1 c,.bool true]⟩) h'):aj prog 169 [v,va] h Y:=by
 obtain⟨vx,vc,rfl,_⟩:=(show Sl bV h va L from ha)
 have hpos:0<C.length:=List.length_pos_iff.2 hC0;apply X2;rw[Yy];apply X2;rw[YV];simp(disch:=try exact QQ)only[Wz];obtain⟨hA,bH,aY,g1,ia,ic⟩:=oR h (ai [.slice vx L.length vc] 136 false);rw[<-bH];clear bH;apply X2;rw[YU];simp(disch:=try exact QQ)only[Wz,hv.len,a_ (show ¬(C.length:Int)=0 by omega)];refine NQ hC0 hC (hv.le aY) (ha.le aY) Ir hL XV XV g1 _ ?_;intro c h' hc le';exact hk c h' hc (aY.trans le')
theorem Sl.fty{α:Type}{enc:α->List Value}{h h':ah}{v:Value}{L:List α}{e:TypeId}(hs:Sl enc h v L)(ty:mQ e h v)(he:e≠3)(hn:h.nx<=h'.nx)(hf:∀b,b<h.nx->(∀vs,h.bl.get b≠some (ai vs 3 true))->h'.bl.get b=h.bl.get b):Sl enc h' v L:=by
 obtain⟨x,cap,rfl,h2⟩:=hs;refine⟨x,cap,rfl,λhne=>?_⟩;obtain⟨b,o,rfl,h3,h4⟩:=h2 hne;obtain⟨_,vs,op,h5⟩:=ty b o _ cap rfl (by intro h0;exact hne (List.eq_nil_of_length_eq_zero h0));refine⟨b,o,rfl,XV,?_⟩;rw[hf b h3 λvs=>by rw[h5];exact bz he];exact h4
theorem NR(L:List (Int × Int))(T:List Int)(h:ah)(v:Value){G:List (Int × Int)}{va:Value}(Y:KQ)(hv:Sl bV h v L)(hT:∀e∈L,e.1∈T)(hTl:T.length<=200000)(hlen:L.length<=50000000)(ha:Sl bV h va G)(Ir:je 8 va va=true)(hG:G.length<=1000000)(hlo:h.lo<=h.nx)(hk:∀v' V h',eG aU h 3 h' v' V->V.length<=200000->Le h h'->Y v' h'):aj prog 112 [v,va] h Y:=by
 apply X2;rw[Yc];refine⟨λm l h1=>∃(V:List Int) (E:List (Int × Int)),eG aU h 3 h1 (aa l 23) V/\Sl bV h1 (aa l 27) E/\(∀e∈E,e∈L)/\E.length<=L.length/\m=qg T E/\V.length+qg T E<=T.length/\Le h h1/\((V=[]/\aa l 23=.slice none 0 0)\/mQ 278 h1 (aa l 27)),
  ⟨_,[],L,.inl ⟨rfl,.inl rfl⟩,hv,λ_ h=>h,Nat.le_refl _,rfl,by have:=Sm T L;simpa using this,Le.refl _,.inl ⟨rfl,rfl⟩⟩,?_⟩
 rintro m l h1 ⟨V,E,oV,sE,hE,hEl,rfl,hV,bF,UH⟩;have n1:=bF.nx;have l1:=bF.lo;unfold Ff;refine Vn E h1 _ _ sE XV XV ?_ ?_
 .intro h2 bK;simp(disch:=try exact QQ)only[Wz];exact hk _ V h2 (oV.le bK) XV (bF.trans bK)
 ·intro vc C h2 oC hC0 hCf hCl bK;have n2:=bK.nx;have l2:=bK.lo;simp(disch:=try exact QQ)only[Wz,Fe];refine Sv hC0 hCl oC.sl (ha.le (bF.trans bK)) Ir hG XV _ ?_;intro c h3 hc d_;have n3:=d_.nx;have l3:=d_.lo;obtain⟨t,ht⟩:=hCf c hc;have hcT:c∈T:=hT _ (hE _ ht);have hst:=DD hcT ⟨t,ht⟩ (E.filter λp=>!(decide (p.1=c) || decide (p.2=c))) λe he=>by
   obtain⟨h1,h2⟩:=List.mem_filter.1 he;refine⟨h1,λe1=>?_⟩;rw[bq e1]at h2;cases h2
  simp(disch:=try exact QQ)only[Wz];obtain⟨hA,bH,aY,g1,ia,ic⟩:=oR h3 (ai [X1 c] 3 false);rw[<-bH];clear bH;have DA:=(bK.trans d_).trans aY;have fin:∀v6 h6,eG aU h 3 h6 v6 (V++[c])->Le h h6->Sl bV h6 (aa l 27) E->aj prog 170 [aa l 27,X1 c] h6 λbP h'=>∃m,m<qg T E/\∃(V':List Int) (E':List (Int × Int)),eG aU h 3 h' v6 V'/\Sl bV h' bP E'/\(∀e∈E',e∈L)/\E'.length<=L.length/\m=qg T E'/\V'.length+qg T E'<=T.length/\Le h h'/\((V'=[]/\v6=.slice none 0 0)\/mQ 278 h' bP):=by
   intro v6 h6 o6 mR s6;have n6:=mR.nx;have l6:=mR.lo;refine Kc E c h6 _ _ s6 XV XV ?_;intro v7 h7 s7 ty7 SQ;exact⟨_,XV,V++[c],_,o6.le SQ,s7,λe he=>hE e (List.mem_filter.1 he).1,Nat.le_trans (List.length_filter_le _ _) hEl,rfl,by rw[List.length_append,List.length_singleton];omega,mR.trans SQ,.inr ty7⟩
  rcases UH with⟨rfl,h0⟩|ty
  .rw[h0];refine eN (a:=hA) (L:=[]) aZ dF X0 X0 (.inl ⟨rfl,.inl rfl⟩) (Sl.new (L:=[c]) (e:=3) (op:=false) XV g1 _) (Le.refl _) (by simp) XV _ ?_;intro v6 h6 o6 mR _ _ _ _;exact fin v6 h6 (Al o6 XV) ((bF.trans DA).trans mR) (sE.le (DA.trans mR))
  .refine eN (a:=h) aZ dF X0 X0 (oV.le DA) (Sl.new (L:=[c]) (e:=3) (op:=false) XV g1 _) (bF.trans DA) (by simp;omega) XV _ ?_;intro v6 h6 o6 mR _ n6 l6 f6;exact fin v6 h6 o6 mR (Sl.fty (sE.le DA) (ty.le DA) X0 n6 λb hb hne=>f6 b hb (hne _))
theorem Kg{a h:ah}{v:Value}{L:List Int}(ho:eG aU a 3 h v L)(hle:Le a h)(hlen:L.length<=100000000)(hlo:a.lo<=a.nx)(Y:KQ)(hk:∀v' h' L',Sl aU h' v' L'->(∀e∈L',e∈L)->L'.length<=L.length->mQ 3 h' v'->Le a h'->Y v' h'):aj prog 241 [v] h Y:=by
 have IN:=ho.sl;apply X2;rw[Y0];have hsame:=hk v h L IN (λ_ h=>h) (Nat.le_refl _) (mQ.own ho) hle;by_cases h2:L.length<2
 .simp(disch:=try exact QQ)only[Wz,IN.len,dw (show(L.length:Int)<2 by omega)];exact hsame
 .rcases ho with⟨rfl,_⟩|⟨b,rfl,b1,b2,b3,b4⟩
  .simp at h2
  have hl:∀(β:Type)(fl:β)(n c:Nat)(x:Option Addr)(h':ah)(Y:XW β),bh fl (.slice x n c) h' Y=Y (X1 (n:Int)) h':=λβ fl n c x h' Y=>bX _ _ _ _ _;simp(disch:=try exact QQ)only[Wz,hl,b_ (show(2:Int)<=(L.length:Int)by omega)];refine⟨λn l h1=>h1=h/\∃k:Nat,aa l 53=X1 (k:Int)/\1<=k/\k<=L.length/\n=L.length-k,⟨_,rfl,1,rfl,XV,XV,rfl⟩,?_⟩;rintro n l h1 ⟨rfl,k,s1,gP,MM,rfl⟩;by_cases hlt:k<L.length
  .obtain⟨p,hp⟩:∃p,L[k]? = some p:=⟨_,List.getElem?_eq_getElem hlt⟩
   obtain⟨q,hq⟩:∃q,L[k-1]? = some q:=⟨_,List.getElem?_eq_getElem XV⟩
   obtain⟨b5,o5,hb5,J_,_,hh5⟩:=IN.ld aZ k hp;obtain⟨b6,o6,hb6,NO,_,hh6⟩:=IN.ld aZ (k-1) hq;have Vg:=λ(β:Type)(fl:β) Y=>cO (fl:=fl) hh5 0 Y (by show 0<1;omega);have Vh:=λ(β:Type)(fl:β) Y=>cO (fl:=fl) hh6 0 Y (by show 0<1;omega);simp only[Nat.add_zero]at Vg Vh;obtain⟨r,er⟩:∃r,decide (p=q)=r:=⟨_,rfl⟩
   have e1:((k:Int)-1)=((k-1:Nat):Int):=by omega
   simp(disch:=try exact QQ)only[Wz,hl,s1,dw (show(k:Int)<(L.length:Int)by omega),FW,J_,Vg,e1,NO,Vh,aU,er];cases r with
   |false=>
    simp(disch:=try exact QQ)only[Wz];exact⟨_,XV,trivial,k+1,rfl,XV,XV,rfl⟩
   |true=>
    have hfl:=bg (enc:=aU) aZ;simp(disch:=try exact QQ)only[Wz,jY (s:=1) (n:=L.length) (i:=k) X0 b4 (by rw[hfl]) XV];refine⟨λm l2 h2=>Le a h2/\b<h2.nx/\∃(j i:Nat)(K:List Int),aa l2 26=X1 (j:Int)/\aa l2 23=X1 (i:Int)/\1<=j/\j<=L.length-k/\i+1<=k+j/\m=L.length-k-j/\K.length=L.length/\(∀x∈K,x∈L)/\h2.bl.get b=some (ai (K.flatMap aU) 3 true),
     ⟨_,hle,b2,1,k,L,rfl,rfl,XV,XV,XV,rfl,rfl,λ_ h=>h,b4⟩,?_⟩
    rintro m l2 h2 ⟨hle2,sv,j,i,K,t1,t2,hj1,hj2,hij,rfl,hK,Vi,g2⟩;have n2:=hle2.nx;have lo2:=hle2.lo;have ET:Sl aU h2 (X9 b K.length aS) K:=⟨_,aS,rfl,λ_=>⟨b,0,rfl,sv,by rw[g2];exact Has.all⟩⟩
    by_cases Ia:j<L.length-k
    .have hsT:Sl aU h2 (.slice (some ⟨b,0+k*1,none⟩) (K.length-k) aS) (K.drop k):=Sl.tail aZ ET XV;rw[Nat.zero_add,hK]at hsT;obtain⟨p2,hp2⟩:∃p,(K.drop k)[j]? = some p:=⟨_,List.getElem?_eq_getElem (by simp;omega)⟩
     obtain⟨q2,rQ⟩:∃p,(K.drop k)[j-1]? = some p:=⟨_,List.getElem?_eq_getElem (by simp;omega)⟩
     have abg:p2∈L:=Vi _ (List.mem_of_mem_drop (List.mem_of_getElem? hp2));obtain⟨b7,o7,hb7,Sn,_,hh7⟩:=hsT.ld aZ j hp2;obtain⟨b8,o8,hb8,abh,_,hh8⟩:=hsT.ld aZ (j-1) rQ;have NP:=λ(β:Type)(fl:β) Y=>cO (fl:=fl) hh7 0 Y (by show 0<1;omega);have Vj:=λ(β:Type)(fl:β) Y=>cO (fl:=fl) hh8 0 Y (by show 0<1;omega);simp only[Nat.add_zero]at NP Vj;have st:∀(y:Int){vs:List Value}{o:Nat}{h:ah}{Y:ah->Prop},o+1<=vs.length->h.lo<=b->DJ False (some (ai vs 3 true)) 1 b o [X1 y] h Y=Y ⟨h.nx,h.bl.bx b (ai (over vs o [X1 y]) 3 true),h.lo⟩:=by
      intro y vs o h Y h1 h2;exact XH aZ dF y h1 h2
     obtain⟨r2,er2⟩:∃r,decide (p2=q2)=r:=⟨_,rfl⟩
     have Ar:∀i,i<K.length->over (K.flatMap aU) (i*1) [X1 p2]=(K.set i p2).flatMap aU:=λi hi=>gJ aZ K i p2 hi;have e2:((j:Int)-1)=((j-1:Nat):Int):=by omega
     simp(disch:=try exact QQ)only[Wz,y7,hl,t1,dw (show(j:Int)<((L.length-k:Nat):Int)by omega)];refine⟨λl3 h3=>Le a h3/\b<h3.nx/\∃(i':Nat)(K':List Int),aa l3 19=X1 (i':Int)/\i'<=k+j/\K'.length=L.length/\(∀x∈K',x∈L)/\h3.bl.get b=some (ai (K'.flatMap aU) 3 true),?_,?_⟩
     .simp(disch:=try exact QQ)only[Wz,FV,t1,t2,Sn,NP,e2,abh,Vj,aU,er2];cases r2 with
      |true=>
       simp(disch:=try exact QQ)only[Wz,t2];exact⟨hle2,sv,i,K,rfl,XV,hK,Vi,g2⟩
      |false=>
       have hbd:i*1+1<=(K.flatMap aU).length:=by rw[hfl];omega
       simp(disch:=try exact QQ)only[Wz,t1,t2,Sn,NP,aU,g2,aX,st,Ar i XV];exact⟨hle2.set b1 _,sv,i+1,K.set i p2,rfl,XV,by simpa using hK,uQ Vi abg,rfl⟩
     .rintro l3 h3 ⟨dn,Ed,i',K',t3,hi',XM,abi,g3⟩;simp(disch:=try exact QQ)only[Wz,t1,t3];exact⟨_,XV,dn,Ed,j+1,i',K',rfl,rfl,XV,XV,XV,rfl,XM,abi,g3⟩
    .have r1:=xz (s:=1) (z:=[X1 0]) rfl (L.length-i);have r2:=xA (z:=[X1 0]) rfl (L.length-i);have hbd:i*1+(L.length-i)*1=L.length*1:=by omega
     simp(disch:=try exact QQ)only[Wz,y7,hl,t1,t2,b_ (show((L.length-k:Nat):Int)<=(j:Int)by omega),jY (s:=1) (n:=L.length) (i:=i) X0 g2 (by rw[hfl,hK]) XV];rw[mZ g2 XV (by rw[r1,hfl,hK];omega) r2 XV];have vt:(over (K.flatMap aU) (i*1) (aV [X1 0] (L.length-i))).length=L.length*1:=by
      rw[jx (by rw[r1,hfl,hK];omega),hfl,hK]
     rw[oA (n:=L.length) (i:=i) (vs:=over (K.flatMap aU) (i*1) (aV [X1 0] (L.length-i))) (s:=1) X0 (T.an _ _ _) vt XV XV];have hti:(K.take i).length=i:=by rw[List.length_take];omega
     refine hk _ _ (K.take i) ⟨_,aS,by rw[hti],λ_=>⟨b,0,rfl,sv,?_⟩⟩ (λe he=>Vi e (List.mem_of_mem_take he)) XV ?_ (hle2.set b1 _)
     rotate_left
     .intro b' o' n' c' vT _;cases vT;exact⟨sv,_,_,T.an _ _ _⟩
     have hh:Has (some (ai (over (K.flatMap aU) (i*1) (aV [X1 0] (L.length-i))) 3 true)) 0 (((over (K.flatMap aU) (i*1) (aV [X1 0] (L.length-i))).drop 0).take (i*1)):=Has.cells (by rw[vt];omega);have e9:((over (K.flatMap aU) (i*1) (aV [X1 0] (L.length-i))).drop 0).take (i*1)=(K.take i).flatMap aU:=by
      rw[List.drop_zero,over,List.append_assoc,List.take_append_of_le_length (by rw[List.length_take,hfl];omega),List.take_take,Nat.min_self,mg aZ]
     rw[e9]at hh
     show Has ((h2.bl.bx b _).get b) 0 _
     rw[T.an];exact hh
  .simp(disch:=try exact QQ)only[Wz,hl,s1,b_ (show(L.length:Int)<=(k:Int)by omega)];exact hsame
theorem Sw(o r:R5)(h:ah)(Y:KQ)(hlo:h.lo<=h.nx)(hk:∀b h',Le h h'->Y (.bool b) h'):aj prog 239 [j0 o,j0 r] h Y:=by
 have hk:=λb=>hk b _ (((Le.refl h).new (jM o)).new (jM r));apply X2;rw[YZ];by_cases h1:o.id=r.id
 .simp(disch:=try exact QQ)only[Wz,bA,bq h1];exact hk false
 .simp(disch:=try exact QQ)only[Wz,bA,a_ h1,FU];refine jN o ?_;by_cases h2:o.m=0
  .simp(disch:=try exact QQ)only[Wz,a_ (show ¬o.m≠0 by omega)];refine pK o ?_;cases hU:wA o with
   |true=>
    simp(disch:=try exact QQ)only[Wz,y5];refine jN r ?_;by_cases h3:r.m=0
    .simp(disch:=try exact QQ)only[Wz,a_ (show ¬r.m≠0 by omega)];exact hk _
    .simp(disch:=try exact QQ)only[Wz,bq (show r.m≠0 from h3)];exact hk _
   |false=>
    simp(disch:=try exact QQ)only[Wz,y6];refine jN r ?_;by_cases h3:r.m=0
    .simp(disch:=try exact QQ)only[Wz,a_ (show ¬r.m≠0 by omega)];refine jN o ?_;simp(disch:=try exact QQ)only[Wz,a_ (show ¬o.m≠0 by omega)];exact hk _
    .simp(disch:=try exact QQ)only[Wz,bq (show r.m≠0 from h3)];exact hk _
  .simp(disch:=try exact QQ)only[Wz,bq (show o.m≠0 from h2)];refine zl _ _ ?_;cases hc:cmp o.m r.w with
   |false=>
    simp(disch:=try exact QQ)only[Wz];exact hk _
   |true=>
    simp(disch:=try exact QQ)only[Wz];refine pK o ?_;cases hU:wA o with
    |true=>
     simp(disch:=try exact QQ)only[Wz,y5];refine jN r ?_;by_cases h3:r.m=0
     .simp(disch:=try exact QQ)only[Wz,a_ (show ¬r.m≠0 by omega)];exact hk _
     .simp(disch:=try exact QQ)only[Wz,bq (show r.m≠0 from h3)];exact hk _
    |false=>
     simp(disch:=try exact QQ)only[Wz,y6];refine jN r ?_;by_cases h3:r.m=0
     .simp(disch:=try exact QQ)only[Wz,a_ (show ¬r.m≠0 by omega)];refine jN o ?_;simp(disch:=try exact QQ)only[Wz,bq (show o.m≠0 from h2)];exact hk _
     .simp(disch:=try exact QQ)only[Wz,bq (show r.m≠0 from h3)];exact hk _
theorem mQ.none{e:TypeId}{h:ah}{n c:Nat}:mQ e h (.slice none n c):=λb o n' c' hv _=>by cases hv
theorem Kh(t r:Int)(q:Value)(w id:Int)(Q:List R5)(h:ah)(Y:KQ)(hq:Sl bA h q Q)(hlen:Q.length<=128)(hlo:h.lo<=h.nx)(hk:∀v' V h',Sl aU h' v' V->V.length<=Q.length->mQ 3 h' v'->Le h h'->Y v' h'):aj prog 171 [jd t r q w,X1 id] h Y:=by
 obtain⟨qx,qc,rfl,_⟩:=(show Sl bA h q Q from hq)
 apply X2;rw[YA];simp(disch:=try exact QQ)only[Wz,jd];obtain⟨hA,bH,aY,g1,ia,ic⟩:=oR h (eV t r (.slice qx Q.length qc) w);rw[<-bH];clear bH;refine uy t r _ w id Q hA _ (hq.le aY) XV XV ?_;intro h2 hle2;have vB:=hle2.nx;have vC:=hle2.lo;have g1:=(hle2.get _ XV).trans g1;have Mn:=aY.trans hle2;cases hf:bU Q id with
 |none=>
  simp(disch:=try exact QQ)only[Wz,bA];exact hk _ [] _ (Sl.nil _ _ _) (by simp) mQ.none (Mn.new _)
 |some p=>
  simp(disch:=try exact QQ)only[Wz,bA];refine uv p ?_;by_cases hw:0<p.s
  ·simp(disch:=try exact QQ)only[Wz,bq hw,g1];obtain⟨hB,ji,cC,g7,A1,A2⟩:=oR h2 (ai [X1 p.id,X1 p.x,X1 p.m,X1 p.w,X1 p.s] 57 false);rw[<-ji];clear ji;have hqB:=hq.le (Mn.trans cC);refine⟨λm l h1=>∃(i:Nat)(V:List Int),aa l 14=X1 (i:Int)/\m=Q.length-i/\i<=Q.length/\eG aU hB 3 h1 (aa l 12) V/\V.length<=i/\Le hB h1,
    ⟨_,0,[],rfl,rfl,XV,.inl ⟨rfl,.inl rfl⟩,by simp,Le.refl _⟩,?_⟩
   rintro m l h1 ⟨i,V,s1,rfl,hi,oV,hV,bF⟩;have n1:=bF.nx;have l1:=bF.lo;have Me:=bF.nx;have Mf:=bF.lo;have g7:=(bF.get _ XV).trans g7;unfold Fw;by_cases hlt:i<Q.length
   .obtain⟨o,ho⟩:∃o,Q[i]? = some o:=⟨_,List.getElem?_eq_getElem hlt⟩
    obtain⟨b4,o4,hb4,B0,BS,_⟩:=Jn (hqB.le bF) i ho;simp(disch:=try exact QQ)only[Wz,s1,dw (show(i:Int)<(Q.length:Int)by omega)];refine⟨λl3 h3=>∃V3:List Int,eG aU hB 3 h3 (aa l3 11) V3/\V3.length<=i+1/\Le hB h3,?_,?_⟩
    .unfold Fv;simp(disch:=try exact QQ)only[Wz,s1,B0,BS,bA,g7];obtain⟨hC,Ak,lD,g9,abq,abr⟩:=oR h1 (ai [X1 o.id,X1 o.x,X1 o.m,X1 o.w,X1 o.s] 57 false);rw[<-Ak];clear Ak;refine Sw o p hC _ XV ?_;intro b h5 lI;have n5:=lI.nx;have l5:=lI.lo;have afT:=lI.nx;have afU:=lI.lo;have g9:=(lI.get _ XV).trans g9;cases b with
     |false=>
      simp(disch:=try exact QQ)only[Wz];exact⟨V,oV.le (lD.trans lI),XV,bF.trans (lD.trans lI)⟩
     |true=>
      simp(disch:=try exact QQ)only[Wz,g9];obtain⟨hD,Sx,Ij,g11,ak3,ak4⟩:=oR h5 (ai [X1 o.x] 3 false);rw[<-Sx];clear Sx;have leD:=(lD.trans lI).trans Ij;refine eN (a:=hB) aZ dF X0 X0 (oV.le leD) (Sl.new (L:=[o.x]) (e:=3) (op:=false) XV g11 _) (bF.trans leD) (by simp;omega) XV _ ?_;intro v6 h6 o6 mR _ n6 l6 f6;exact⟨V++[o.x],o6,by simp;omega,mR⟩
    .rintro l3 h3 ⟨V3,o3,hV3,d_⟩;exact⟨_,XV,i+1,V3,rfl,rfl,XV,o3,hV3,d_⟩
   .simp(disch:=try exact QQ)only[Wz,s1,b_ (show(Q.length:Int)<=(i:Int)by omega)];refine Vl hB h1 V _ _ oV bF XV ?_;intro D h3 hp oD d_;have Uk:=hp.length_eq;refine Kg oD d_ XV XV _ ?_;intro v' h4 L' s4 _ hl4 ty4 mE;exact hk v' L' h4 s4 XV ty4 ((Mn.trans cC).trans mE)
  .simp(disch:=try exact QQ)only[Wz,a_ hw];exact hk _ [] _ (Sl.nil _ _ _) (by simp) mQ.none (Mn.new _)
theorem Sl.ak5{α:Type}{enc:α->List Value}{h h':ah}{v:Value}{L:List α}{e e2:TypeId}(hs:Sl enc h v L)(ty:mQ e h v)(he:e≠e2)(hn:h.nx<=h'.nx)(hf:∀b,b<h.nx->(∀vs,h.bl.get b≠some (ai vs e2 true))->h'.bl.get b=h.bl.get b):Sl enc h' v L:=by
 obtain⟨x,cap,rfl,h2⟩:=hs;refine⟨x,cap,rfl,λhne=>?_⟩;obtain⟨b,o,rfl,h3,h4⟩:=h2 hne;obtain⟨_,vs,op,h5⟩:=ty b o _ cap rfl (by intro h0;exact hne (List.eq_nil_of_length_eq_zero h0));refine⟨b,o,rfl,XV,?_⟩;rw[hf b h3 λvs=>by rw[h5];exact bz he];exact h4
def uR(K:List HE):List Int:=K.flatMap λk=>k.Q.map (·.x)
theorem NS:∀(K:List HE),(∀k∈K,k.Q.length<=128)->(uR K).length<=128*K.length:=by
 intro K
 induction K with
 |nil=>intro _;simp[uR]
 |cons k K ih=>
  intro hK;have h1:=ih λx hx=>hK x (.tail _ hx);have h2:=hK k (.head _);unfold uR at h1 ⊢;rw[List.flatMap_cons,List.length_append,List.length_map,List.length_cons];omega
theorem Vo(K:List HE)(h:ah)(v:Value)(Y:KQ)(hs:Sl oM h v K)(hq:∀k∈K,QV h k.q k.Q/\k.Q.length<=128)(hK:K.length<=1024)(hlo:h.lo<=h.nx)(hk:∀v' E h',Sl bV h' v' E->(∀e∈E,e.1∈uR K)->E.length<=16777216->Le h h'->Y v' h'):aj prog 113 [v] h Y:=by
 apply X2;rw[Yd];have zT:∀(β:Type)(fl:β)(h':ah)(Y:XW β),bh fl v h' Y=Y (X1 (K.length:Int)) h':=by
  obtain⟨x,c,rfl,_⟩:=(show Sl oM h v K from hs)
  exact λβ fl h' Y=>bX _ _ _ _ _
 simp(disch:=try exact QQ)only[Wz,zT];refine⟨λm l h1=>∃(i:Nat) (E:List (Int × Int)),aa l 33=X1 (i:Int)/\m=K.length-i/\i<=K.length/\eG bV h 278 h1 (aa l 27) E/\E.length<=16384*i/\(∀e∈E,e.1∈uR K)/\Le h h1,
  ⟨_,0,[],rfl,rfl,XV,.inl ⟨rfl,.inl rfl⟩,by simp,(λe he=>nomatch he),Le.refl _⟩,?_⟩
 rintro m l h1 ⟨i,E,s1,rfl,hi,oE,hE,hEf,bF⟩;have n1:=bF.nx;have l1:=bF.lo;by_cases hlt:i<K.length
 .obtain⟨k,hk'⟩:∃e,K[i]? = some e:=⟨_,List.getElem?_eq_getElem hlt⟩
  have hkK:=List.mem_of_getElem? hk';obtain⟨qv,hQl⟩:=hq k hkK;obtain⟨b0,o0,hb0,hx0,Mw⟩:=Rx hs i hk' (zK qv.1);have R1:=Mw h1 bF;obtain⟨qx,qc,eq,_⟩:=(show Sl bA h k.q k.Q from qv.1)
  have qs:Sl bA h (.slice qx k.Q.length qc) k.Q:=by rw[<-eq];exact qv.1
  rw[eq]at R1;have H_:∀(β:Type)(fl:β)(h':ah)(Y:XW β),bh fl (.slice qx k.Q.length qc) h' Y=Y (X1 (k.Q.length:Int)) h':=λβ fl h' Y=>bX _ _ _ _ _;simp(disch:=try exact QQ)only[Wz,s1,dw (show(i:Int)<(K.length:Int)by omega),Fj,hx0,R1,H_];obtain⟨hB,ji,cC,g7,A1,A2⟩:=oR h1 (ai [X1 k.t,X1 k.r,.slice qx k.Q.length qc,X1 k.w] 55 false);rw[<-ji];clear ji;refine⟨λm2 l2 h2=>∃(j:Nat) (E:List (Int × Int)),aa l2 24=X1 (j:Int)/\m2=k.Q.length-j/\j<=k.Q.length/\eG bV h 278 h2 (aa l2 20) E/\E.length<=16384*i+128*j/\(∀e∈E,e.1∈uR K)/\Le h h2/\h1.nx<h2.nx/\h2.bl.get h1.nx=some (ai [X1 k.t,X1 k.r,.slice qx k.Q.length qc,X1 k.w] 55 false),
   ⟨_,0,E,rfl,rfl,XV,oE.le cC,XV,hEf,bF.trans cC,XV,g7⟩,?_⟩
  rintro m2 l2 h2 ⟨j,E2,s2,rfl,hj,oE2,hE2,afV,bK,hn2,g72⟩;have n2:=bK.nx;have l2':=bK.lo;by_cases Ia:j<k.Q.length
  .obtain⟨p,hp⟩:∃p,k.Q[j]? = some p:=⟨_,List.getElem?_eq_getElem Ia⟩
   have hpT:p.x∈uR K:=List.mem_flatMap.2 ⟨k,hkK,List.mem_map.2 ⟨p,List.mem_of_getElem? hp,rfl⟩⟩;obtain⟨b4,o4,hb4,B0,BS,_⟩:=Jn (qs.le bK) j hp;simp(disch:=try exact QQ)only[Wz,s2,dw (show(j:Int)<(k.Q.length:Int)by omega),Fh,B0,BS,bA,g72];obtain⟨hC,Ak,lD,g8,abq,abr⟩:=oR h2 (ai [X1 p.id,X1 p.x,X1 p.m,X1 p.w,X1 p.s] 57 false);rw[<-Ak];clear Ak;have g7C:=(lD.get h1.nx XV).trans g72;refine Kh k.t k.r _ k.w p.id k.Q hC _ (qs.le (bK.trans lD)) hQl XV ?_;intro v23 V h5 sV hV tyV lI;have n5:=lI.nx;have l5:=lI.lo;have g75:=(lI.get h1.nx XV).trans g7C;have afT:=lI.nx;have afU:=lI.lo;have g8:=(lI.get _ XV).trans g8;have afW:∀(β:Type)(fl:β)(h':ah)(Y:XW β),bh fl v23 h' Y=Y (X1 (V.length:Int)) h':=by
    obtain⟨x,c,rfl,_⟩:=(show Sl aU h5 v23 V from sV)
    exact λβ fl h' Y=>bX _ _ _ _ _
   simp(disch:=try exact QQ)only[Wz,afW];refine⟨λm3 l3 h6=>∃(n:Nat) (E:List (Int × Int)),aa l3 13=X1 (n:Int)/\m3=V.length-n/\n<=V.length/\eG bV h 278 h6 (aa l3 11) E/\E.length<=16384*i+128*j+n/\(∀e∈E,e.1∈uR K)/\Le h h6/\h5.nx<=h6.nx/\(∀b,b<h5.nx->(∀vs,h5.bl.get b≠some (ai vs 278 true))->h6.bl.get b=h5.bl.get b),
    ⟨_,0,E2,rfl,rfl,XV,oE2.le (lD.trans lI),XV,afV,bK.trans (lD.trans lI),Nat.le_refl _,λ_ _ _=>rfl⟩,?_⟩
   rintro m3 l3 h6 ⟨n,E3,s3,rfl,hn,oE3,hE3,afX,mR,n6,f6⟩;have l6:=mR.lo;have g76:=(f6 h1.nx XV (λvs=>by rw[g75];exact bz X0)).trans g75;have g86:=(f6 h2.nx XV (λvs=>by rw[g8];exact bz X0)).trans g8;have sV6:Sl aU h6 v23 V:=Sl.ak5 sV tyV X0 n6 f6;by_cases hlt3:n<V.length
   .obtain⟨y,hy⟩:∃y,V[n]? = some y:=⟨_,List.getElem?_eq_getElem hlt3⟩
    obtain⟨b9,o9,hb9,ak6,_,hh9⟩:=sV6.ld aZ n hy;have hx9:=λ(β:Type)(fl:β) Y=>cO (fl:=fl) hh9 0 Y (by show 0<1;omega);simp only[Nat.add_zero]at hx9;simp(disch:=try exact QQ)only[Wz,s3,dw (show(n:Int)<(V.length:Int)by omega),Fg,ak6,hx9,aU,g86];obtain⟨hD,Sx,Ij,g9,ak3,ak4⟩:=oR h6 (ai [X1 p.x,X1 y] 278 false);rw[<-Sx];clear Sx;refine sn (a:=h) dA ru X0 X0 (oE3.le Ij) (Sl.new (L:=[(p.x,y)]) (e:=278) (op:=false) XV g9 _) (mR.trans Ij) (by simp;omega) XV _ ?_;intro v7 h7 o7 SQ _ n7 l7 f7;refine⟨_,XV,n+1,E3++[(p.x,y)],rfl,rfl,XV,o7,by simp;omega,λe he=>?_,SQ,XV,λb hb hne=>?_⟩
    .rcases List.mem_append.1 he with he|he
     .exact afX e he
     .simp at he;subst he;exact hpT
    .have e1:=f6 b hb hne;have e2:=Ij.get b XV;exact(f7 b XV (by rw[e2,e1];exact hne _)).trans (e2.trans e1)
   .simp(disch:=try exact QQ)only[Wz,s3,b_ (show(V.length:Int)<=(n:Int)by omega)];exact⟨_,XV,j+1,E3,rfl,rfl,XV,oE3,XV,afX,mR,XV,g76⟩
  .simp(disch:=try exact QQ)only[Wz,s2,b_ (show(k.Q.length:Int)<=(j:Int)by omega)];exact⟨_,XV,i+1,E2,rfl,rfl,XV,oE2,XV,afV,bK⟩
 .simp(disch:=try exact QQ)only[Wz,s1,b_ (show(K.length:Int)<=(i:Int)by omega)];refine Aj E h1 _ _ oE.sl XV XV ?_;intro v' h2 D sD hD Uk bK;exact hk v' D h2 sD (λe he=>hEf e (hD e he)) XV (bF.trans bK)
theorem Ik:OfW:=by
 intro h v va K L Y hs hq hK ha Ir hL hlo hk;apply X2;rw[ads];refine Vo K h v _ hs (λk hk'=>⟨(hq k hk').1,(hq k hk').2.2⟩) hK hlo ?_;intro v' E h1 sE hEf hEl bF;have n1:=bF.nx;have l1:=bF.lo;have hT:=NS K λk hk'=>(hq k hk').2.2;refine NR E (uR K) h1 v' _ sE hEf XV XV (ha.le bF) Ir XV XV ?_;intro v2 V h2 oV hV bK;exact hk v2 V h2 (Al oV n1) hV (bF.trans bK)
def NT:jU:=⟨2,8,24,2⟩
theorem Vp:j7 NT:=by unfold j7 NT;decide
theorem NU(h:ah)(Y:KQ)(hlo:h.lo<=h.nx)(hk:∀h',Le h h'->Y (HH NT) h'):aj prog 53 [] h Y:=by
 apply X2;rw[adk];simp(disch:=try exact QQ)only[Wz];exact hk _ ((Le.refl h).new _)
theorem Vq(n:Nat)(hn:1<=n/\n<=8)(h:ah)(Y:KQ)(hlo:h.lo<=h.nx)(hk:∀h' A a d R,Va A a d R NT n->WS h' A a 0 d R->Le h h'->(∀x,FB h' a.bp x->h.nx<=x)->Y (X3 A.wb) h'):aj prog 10 [X1 (n:Int)] h Y:=by
 apply X2;rw[ac5];refine NU h _ hlo ?_;intro h1 bF;have n1:=bF.nx;have l1:=bF.lo;refine abd NT Vp n hn h1 XV _ ?_;intro h2 A a d R nw s bK fb;simp(disch:=try exact QQ)only[Wz];exact hk h2 A a d R nw s (bF.trans bK) λx hx=>Nat.le_trans n1 (fb x hx)
theorem Vr:bW prog 400 8 [] (.bool true)=true:=by kernel_rfl
theorem Vs{h:ah}{Y:KQ}(hk:Y (.bool true) h):aj prog 8 [] h Y:=xx mixed Vr hk
def Sy(h:ah):Prop:=∀d,(∀vs t o,h.bl.get d≠some (ai vs t o))/\∀es c,h.bl.get d≠some (.map es c)
theorem Va.safe{h0 h:ah}{A:WA}{a:TA}{d:TD}{R:RD}{n:Nat}(nw:Va A a d R NT n)(s:WS h A a 0 d R)(k:KR h0 h):rJ h0 A a n 0 h:=by
 have hc:∀(i:Nat) c,R.cs[i]?≠some (some c):=by
  intro i c e;rw[nw.cs,List.getElem?_replicate]at e;split at e<;>cases e
 have hl:R.cr.length=2:=by rw[nw.cr,List.length_replicate];rfl
 refine⟨⟨0,0,d,R,[],⟨s,λc hm=>?_,λi j c c' b _ h1=>absurd h1 (hc i c),.inl ⟨rfl,nw.tv⟩⟩,⟨λi c e=>absurd e (hc i c),λid t r x w=>?_,(λt ht=>nomatch ht),?_⟩,?_,Nat.le_refl _,?_,?_,Nat.le_refl _,Nat.le_refl _⟩,nw.en,k⟩
 .obtain⟨i,hi⟩:=List.getElem?_of_mem hm;exact absurd hi (hc i c)
 .obtain⟨b,hb,hw⟩:=w;obtain⟨e,he,_⟩:=hw.e;rw[nw.em b hb]at he;cases he
 .exact List.Pairwise.nil
 .rw[hl,nw.ec];rfl
 .rw[nw.begun];decide
 .rw[nw.now];decide
theorem NV(x:Int)(L:List AC)(h:ah)(v:Value)(hv:Sl nF h v L)(hw:∀y∈L,y.a.w<=9223372036854775807)(hlo:h.lo<=h.nx)(ro:Sy h)(Y:KQ)(hk:∀h',Y (.bool true) h'):aj prog 3 [X1 x,v] h Y:=by
 have jP:∀(β:Type)(fl:β)(h':ah)(Y:XW β),bh fl v h' Y=Y (X1 (L.length:Int)) h':=λβ fl h' Y=>hv.len Y h';apply X2;rw[ahK];refine Vs ?_;by_cases hL:120<L.length
 .simp(disch:=try exact QQ)only[Wz,jP,dw (show(120:Int)<(L.length:Int)by omega)];exact hk _
 simp(disch:=try exact QQ)only[Wz,jP,b_ (show(L.length:Int)<=120 by omega)];unfold Li;have hp:=nv (n:=x) (show(0:Int)<6 by decide);refine Dl x 6 X0 ?_;generalize nu x 6=pl at hp;obtain⟨k,rfl⟩:∃k:Nat,pl=(k:Int):=⟨pl.toNat,XV⟩
 have e1:(1:Int)+(k:Int)=((1+k:Nat):Int):=by omega
 simp(disch:=try exact QQ)only[Wz,e1];refine Vq (1+k) ⟨XV,XV⟩ h _ hlo ?_;intro h1 A a d R nw s bF _;refine NJ Ik (nw.safe s (KR.of_le bF)) XV hv XV hw ro _ ?_ Y hk;rfl
end Go.Proofs

namespace Go.Proofs
open Go.Vai Go.Clashes Go.ChangeShapes Go.WideShapes
open Tryz (prog)
theorem laidOut:laidOutB prog=true:=by kernel_rfl
abbrev ACs:={ x:AC // x.a.w<=9223372036854775807 }
def Vt(x:ACs):List Value:=nF x.1
theorem encS_len(x:ACs):(Vt x).length=10:=rfl
theorem decS{H:Type}{enc:TypeId × Value->H}{w:World}(n:Nat)(cs:List Value)(d:DataW H × List MemPlace)(hl:cs.length=10)(h:DataW.trod enc prog w 0 (λ_=>true) true n 33 cs=some d):∃p:ACs,cs=Vt p:=by
 have k0:=Pr (P:=prog) 10 33 [.i .i64,.i .i64,.i .i64,.i .i64,.i .i64,.i .i64,.i .i64,.i .i64,.i .i64,.i .i64] (by kernel_rfl) _ _ _ h;clear h;obtain⟨_,_,rfl,⟨n0,rfl,_⟩,k1⟩:=k0.nO;obtain⟨_,_,rfl,⟨n1,rfl,_⟩,k2⟩:=k1.nO;obtain⟨_,_,rfl,⟨n2,rfl,_⟩,k3⟩:=k2.nO;obtain⟨_,_,rfl,⟨n3,rfl,_⟩,k4⟩:=k3.nO;obtain⟨_,_,rfl,⟨n4,rfl,_⟩,k5⟩:=k4.nO;obtain⟨_,_,rfl,⟨n5,rfl,_⟩,k6⟩:=k5.nO;obtain⟨_,_,rfl,⟨n6,rfl,_⟩,k7⟩:=k6.nO;obtain⟨_,_,rfl,⟨n7,rfl,hw⟩,k8⟩:=k7.nO;obtain⟨_,_,rfl,⟨n8,rfl,_⟩,k9⟩:=k8.nO;obtain⟨_,_,rfl,⟨n9,rfl,_⟩,k10⟩:=k9.nO;cases k10.ac0;have hw:n7<=9223372036854775807:=by
  have hw:(decide (IntKind.i64.min<=n7) && decide (n7<=IntKind.i64.max))=true:=hw;rw[Bool.and_eq_true,decide_eq_true_eq,decide_eq_true_eq]at hw;exact hw.2
 exact⟨⟨⟨n0,n1,⟨n2,n3,n4,n5,n6,n7,n8⟩,n9⟩,hw⟩,rfl⟩
theorem memRo(w:World):Sy (memH w):=by
 intro d;refine⟨λvs t o e=>?_,λes c e=>?_⟩
 .obtain⟨C,e',fz,_,h⟩:=r4 e;cases h
 .obtain⟨C,e',fz,_,h⟩:=r4 e;cases h
theorem lawSafe_row(x:Int)(L:List ACs)(h:ah)(v:Value)(s:Sl Vt h v L)(c:Cut 33 10 h v L.length)(hlo:h.lo<=h.nx)(ro:Sy h):aj prog 3 [X1 x,v] h CH:=by
 have e:(L.map (·.1)).flatMap nF=L.flatMap Vt:=by
  rw[List.flatMap_map];rfl
 have s':Sl nF h v (L.map (·.1)):=by
  obtain⟨y,cap,rfl,h2⟩:=s;refine⟨y,cap,by rw[List.length_map],λhne=>?_⟩;obtain⟨b,o,h3,h4,h5⟩:=h2 (by rintro rfl;exact hne rfl);exact⟨b,o,h3,h4,by rw[e];exact h5⟩
 refine NV x (L.map (·.1)) h v s' ?_ hlo ro CH λ_=>rfl;intro y hy;obtain⟨z,_,rfl⟩:=List.mem_map.1 hy;exact z.2
end Go.Proofs
end
