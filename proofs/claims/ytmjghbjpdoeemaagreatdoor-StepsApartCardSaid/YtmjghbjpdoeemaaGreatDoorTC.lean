/-
  PROVED HERE: a part of the proof (S10, S11, S12, S13).
-/
import Derived.Test.YtmjghbjpdoeemaaGreatDoorTB
set_option linter.unusedVariables false
set_option linter.unusedSimpArgs false
set_option maxRecDepth 100000
set_option maxHeartbeats 2000000
namespace Go.Proofs
open Go.Vai Go.Clashes
section
variable {h:Heap} {A:WA} {a:TA} {N:Nat} {d:TD} {R:RD}
theorem xO (f:Fn) (a b:Array Value):(Value.cells (.func f a b)).toList=[.func f a b]:=id rfl
theorem J3 {wb:Nat} (c:CR) (g:h.bl.get c.ca=some (cw wb c)) (hlo:h.lo≤c.ca) (ph:Nat) (f:FuncId) (hf:Oh ph=f) (κ:KQ) (hk:κ (.tuple ⟨[]⟩) ⟨h.nx,h.bl.aW c.ca (cw wb { c with ph:=ph }),h.lo⟩) :
  CallW Tryz.prog 45 [.pointer (some ⟨c.ca,0,none⟩),.int .i64 (ph:Int),.func (.func f) ⟨[.pointer (some ⟨c.ca,0,none⟩)]⟩ ⟨[]⟩] h κ:=by
 subst hf
 refine aq mixed ?_
 rw[NP]
 unfold cw at g hk
 simp(disch:=first|omega|simp only[Wd]<;>omega|with_unfolding_all rfl)only[Wz,aN,g,xM,xO]
 exact hk
theorem cD (s:WS h A a N d R) {i:Nat} {c:CR} (hi:R.cs[i]? = some (some c)):h.bl.get c.ca=some (cw A.wb c)∧c.ca<h.nx∧h.lo≤c.ca:=by
 obtain ⟨k1,k2,k3⟩:=s.r.ca c (List.mem_of_getElem? hi)
 exact ⟨k3,k1,k2⟩
theorem zd (s:WS h A a N d R) {i k:Nat} {c:CR} (hi:R.cs[i]? = some (some c)) (hb:R.bits[i]? = some 0) (hst:c.st=(k:Int)) {o:Option (Nat × Int)} (hl:R.cI[k]? = some o) (κ:KQ) (hk:κ (.bool (!decide ((c.ph:Int)=1) || !o.isSome)) h) :
  CallW Tryz.prog 31 [.pointer (some ⟨A.wb,0,none⟩),.int .i64 (i:Int)] h κ:=by
 have gw:=s.r.gw
 obtain ⟨gc,_⟩:=cD s hi
 have z1:ME 0 1=0:=by decide
 have hli:=s.r.li
 refine aq mixed ?_
 rw[Uc]
 refine Ol s hi _ ?_
 simp(disch:=first|omega|simp only[Wd]<;>omega|with_unfolding_all rfl)only[Wz,MF,Option.map_some,Option.isNone_some]
 simp(disch:=first|omega|simp only[Wd]<;>omega|with_unfolding_all rfl)only[Wz,aN,gw]
 refine J1 (by rw[hli]; exact s.r.gp) s.r.gi hb _ ?_
 simp(disch:=first|omega|simp only[Wd]<;>omega|with_unfolding_all rfl)only[Wz,aZ z1,Ey,aN,gw,dy,gc,cw,hst]
 refine Gp s.r.gl s.r.gh hl (fun p e=>by subst e; exact (s.r.ho p (List.mem_of_getElem? hl)).2) _ ?_
 intro x
 simp(disch:=first|omega|simp only[Wd]<;>omega|with_unfolding_all rfl)only[Wz,aN,gc,cw]
 by_cases h1:(c.ph:Int)=1
 ·rw[aZ h1] at hk
  simp(disch:=first|omega|simp only[Wd]<;>omega|with_unfolding_all rfl)only[Wz,aZ h1]
  exact hk
 ·rw[aG h1] at hk
  simp(disch:=first|omega|simp only[Wd]<;>omega|with_unfolding_all rfl)only[Wz,aG h1]
  exact hk
end
structure WK (a:TA) (h h':Heap):Prop where
 nx:h.nx≤h'.nx
 lo:h'.lo=h.lo
 ty:∀d vs t o,d<h.nx→h.bl.get d=some (aa vs t o)→¬oM t o→¬nK t o→h'.bl.get d=h.bl.get d
 oi:∀d vs,d<h.nx→h.bl.get d=some (aa vs 3 true)→¬FB h a.bp d→h'.bl.get d=h.bl.get d
 mv:∀d,d<h.nx→FB h' a.bp d→FB h a.bp d
 ro:∀d,d<h.nx→(∀vs t o,h.bl.get d≠some (aa vs t o))→(∀es c,h.bl.get d≠some (.map es c))→h'.bl.get d=h.bl.get d
theorem WK.trans {a:TA} {h h1 h2:Heap} (x:WK a h h1) (y:WK a h1 h2):WK a h h2 where
 nx:=Nat.le_trans x.nx y.nx
 lo:=y.lo.trans x.lo
 ty d vs t o hd hg ht hr:=by
  have e:=x.ty d vs t o hd hg ht hr
  exact (y.ty d vs t o (Nat.lt_of_lt_of_le hd x.nx) (e.trans hg) ht hr).trans e
 oi d vs hd hg hf:=by
  have e:=x.oi d vs hd hg hf
  exact (y.oi d vs (Nat.lt_of_lt_of_le hd x.nx) (e.trans hg) (fun f=>hf (x.mv d hd f))).trans e
 mv d hd f:=x.mv d hd (y.mv d (Nat.lt_of_lt_of_le hd x.nx) f)
 ro d hd h1 h2:=by
  have e:=x.ro d hd h1 h2
  exact (y.ro d (Nat.lt_of_lt_of_le hd x.nx) (fun vs t o=>by rw[e]; exact h1 vs t o) (fun es c=>by rw[e]; exact h2 es c)).trans e
section
variable {h h':Heap} {A:WA} {a:TA} {N:Nat} {d:TD} {R:RD}
theorem WS.bp (s:WS h A a N d R):∃fs ls,a.bp<h.nx∧h.bl.get a.bp=some (aa [fs,ls] 225 false):=by
 obtain ⟨fs,hg,_⟩:=s.t.is.dh.fr.cell
 exact ⟨fs,_,s.t.is.dh.fr.lt,hg⟩
theorem WS.KB (s:WS h A a N d R) (l:Le h h'):WK a h h':=by
 obtain ⟨_,_,hb,_⟩:=s.bp
 exact ⟨l.nx,l.lo,fun d _ _ _ hd _ _ _=>l.get d hd,fun d _ hd _ _=>l.get d hd,fun d _ f=>(FB.congr (l.get _ hb)).1 f,fun d hd _ _=>l.get d hd⟩
theorem WS.ze (s:WS h A a N d R) {x:Nat} {v:List Value} {t:TypeId} {o:Bool} (hg:h.bl.get x=some (aa v t o)) (hr:nK t o) (hp:t≠225) (ob:bC):WK a h ⟨h.nx,h.bl.aW x ob,h.lo⟩:=by
 obtain ⟨fs,ls,hb,gb⟩:=s.bp
 have M4:x≠a.bp:=fF hg gb hp
 refine ⟨Nat.le_refl _,rfl,fun d vs t' o' hd hgd _ hn=>T.ai _ _ ?_,fun d vs hd hgd _=>T.ai _ _ ?_,fun d _ f=>(FB.congr (T.ai _ _ M4)).1 f,fun d hd h1 _=>T.ai _ _ ?_⟩
 ·rintro rfl
  rw[hg] at hgd
  by_cases ht:t=t'
  ·subst ht
   cases o<;>cases o'
   ·exact hn hr
   ·exact bf hgd
   ·exact bf hgd.symm
   ·exact hn hr
  ·exact aT ht hgd
 ·rintro rfl
  rw[hg] at hgd
  rcases hr with e | e | e | e | e | e | e | e | ⟨e,e'⟩<;>subst e<;>first | exact aT (by decide) hgd | (subst e'; exact bf hgd)
 ·rintro rfl; exact h1 _ _ _ hg
theorem WS.kfr (s:WS h A a N d R) (f:rR d.Ts a.bw a.bp a.bl h h'):WK a h h':=by
 obtain ⟨fs,ls,hb,gb⟩:=s.bp
 have gl:=s.t.is.dh.cell
 have gw:=s.t.is.kS
 refine ⟨f.nx,f.lo,fun x vs t o hx hg ht _=>f.get x hx (fun b hb=>gO hg (s.t.is.bk b hb).eG) (gO hg gw) ?_ ?_ ?_,fun x vs hx hg hn=>f.g2 hb x hx (fun b hb=>gO hg (s.t.is.bk b hb).eG) (gO hg gw) (fF hg gb (by decide)) (fF hg gl (by decide)) hn,f.mv hb,fun x hx h1 h2=>f.get x hx ?_ ?_ ?_ ?_ fun vs=>h1 vs _ _⟩
 ·rintro rfl; rw[hg] at gb; exact ht (by
   by_cases e:t=225
   ·subst e; simp[oM]
   ·exact absurd gb (aT e))
 ·rintro rfl; rw[hg] at gl; exact ht (by
   by_cases e:t=4
   ·subst e; simp[oM]
   ·exact absurd gl (aT e))
 ·intro ws hw
  rw[hg] at hw
  by_cases e:t=3
  ·subst e
   cases o
   ·exact bf hw
   ·exact ht (by simp[oM])
  ·exact aT e hw
 ·intro b hb e; subst e; exact h2 _ _ (s.t.is.bk b hb).eG
 ·rintro rfl; exact h2 _ _ gw
 ·rintro rfl; exact h1 _ _ _ gb
 ·rintro rfl; exact h1 _ _ _ gl
theorem J4 (s:WS h A a N d R) (hf:∀b,b<h.nx→b≠A.hb→h'.bl.get b=h.bl.get b) (hn:h.nx≤h'.nx) (hl:h'.lo=h.lo):WK a h h':=by
 obtain ⟨fs,ls,hb,gb⟩:=s.bp
 have gh:=s.r.gh
 refine ⟨hn,hl,fun x vs t o hx hg ht hr=>hf x hx ?_,fun x vs hx hg _=>hf x hx ?_,fun x _ f=>(FB.congr (hf _ hb (fF gb gh (by decide)))).1 f,fun x hx h1 _=>hf x hx ?_⟩
 ·rintro rfl
  rw[gh] at hg
  by_cases e:176=t
  ·subst e; exact hr (by simp[nK])
  ·exact aT e hg
 ·rintro rfl; rw[gh] at hg; exact aT (by decide) hg
 ·rintro rfl; exact h1 _ _ _ gh
end
section
variable {h:Heap} {A:WA} {a:TA} {N:Nat} {d:TD} {R:RD}
theorem J5 (s:WS h A a N d R) {i k:Nat} {c:CR} (hi:R.cs[i]? = some (some c)) (hst:c.st=(k:Int)) (Om:0≤c.th∧c.th<8) (hl:R.cI[k]? = some none) (κ:KQ)
  (hk:∀h',WS h' A a N d { R with cI:=R.cI.set k (some (h.nx,c.th)),cs:=R.cs.set i (some { c with ph:=2 }) }→WK a h h'→κ (.tuple ⟨[]⟩) h') :
  CallW Tryz.prog 46 [.pointer (some ⟨c.ca,0,none⟩)] h κ:=by
 obtain ⟨gc,c1,c2⟩:=cD s hi
 have gw:=s.r.gw
 have hlo:=s.lo
 have gc':=gc
 unfold cw at gc'
 refine aq mixed ?_
 rw[Um]
 simp(disch:=first|omega|simp only[Wd]<;>omega|with_unfolding_all rfl)only[Wz,aN,gc',gw,hst]
 refine RK s.r.gl s.r.gh s.r.RJ s.r.Mr hl Om _ ?_
 have s1:=s.le ((Le.refl h).new (aa [.int .i64 c.th] 181 false))
 have s2:=s1.zb (R.cI.set k (some (h.nx,c.th))) (List.length_set ..) (fun p hp=>by
  rcases List.mem_or_eq_of_mem_set hp with hp | hp
  ·obtain ⟨k1,k2⟩:=s1.r.ho p hp
   exact ⟨k1,k2⟩
  ·cases hp
   exact ⟨Nat.lt_succ_self _,T.af _ _ _⟩)
 obtain ⟨h2,e2⟩:∃h2:Heap,h2=⟨h.nx+1,(h.bl.aW h.nx (aa [.int .i64 c.th] 181 false)).aW A.hb (aa (lS (R.cI.set k (some (h.nx,c.th)))) 176 false),h.lo⟩:=⟨_,rfl⟩
 have s2:WS h2 A a N d { R with cI:=R.cI.set k (some (h.nx,c.th)) }:=by rw[e2]; exact s2
 have f2:∀b,b<h.nx→b≠A.hb→h2.bl.get b=h.bl.get b:=fun b hb hn=>by rw[e2]; exact (T.ai _ _ (fun e=>hn e.symm)).trans (T.ai _ _ (by omega))
 have n2:h2.nx=h.nx+1:=by rw[e2]
 have l2:h2.lo=h.lo:=by rw[e2]
 rw[←e2]
 clear e2
 obtain ⟨y3,c12,c22⟩:=cD (R:={ R with cI:=R.cI.set k (some (h.nx,c.th)) }) s2 hi
 refine J3 c y3 c22 2 _ rfl _ ?_
 exact hk _ (WS.lJ (R:={ R with cI:=R.cI.set k (some (h.nx,c.th)) }) s2 hi rfl) ((J4 s f2 (by omega) l2).trans (WS.ze s2 y3 (by simp[nK]) (by decide) _))
theorem RW.other {tb:Nat} {cI:List (Option (Nat × Int))} {bits:List Int} {now:Int} {tv:Value} {cs:List (Option CR)} {wm:List IE} {ve:Nat} {begun:Int} (s:RW h A tb cI bits now tv cs wm ve begun) {x:Nat} {v:List Value} {o:Bool} (hg:h.bl.get x=some (aa v 99 o)) (hn:∀c,some c∈cs→c.ca≠x) (ob:bC):RW ⟨h.nx,h.bl.aW x ob,h.lo⟩ A tb cI bits now tv cs wm ve begun:=by
 have up:∀{b:Nat} {v:List Value} {t:TypeId} {o:Bool},h.bl.get b=some (aa v t o)→99≠t→(h.bl.aW x ob).get b=some (aa v t o):=fun hb hn=>(T.ai _ _ (fF hg hb hn)).trans hb
 exact ⟨s.zp,up s.gw (by decide),s.Mr,up s.gl (by decide),s.RJ,up s.gh (by decide),fun p hp=>⟨(s.ho p hp).1,up (s.ho p hp).2 (by decide)⟩,s.Oc,up s.gp (by decide),s.Wf,up s.gi (by decide),s.li,s.Wg,up s.gk (by decide),s.Oi,up s.gc (by decide),s.lc,fun c hc=>⟨(s.ca c hc).1,(s.ca c hc).2.1,(T.ai _ _ (fun e=>hn c hc e.symm)).trans (s.ca c hc).2.2⟩,s.rz,(T.ai _ _ (gO hg s.gm)).trans s.gm,s.nn,s.dc⟩
theorem WS.other (s:WS h A a N d R) {x:Nat} {v:List Value} {o:Bool} (hg:h.bl.get x=some (aa v 99 o)) (hn:∀c,some c∈R.cs→c.ca≠x) (ob:bC):WS ⟨h.nx,h.bl.aW x ob,h.lo⟩ A a N d R:=
 ⟨B6.bU s.t hg (Wn (by decide) (by decide) (by decide) (by decide) (by decide) (by decide) (by decide) (by decide)) _,s.r.other hg hn ob,s.mw,s.mm,s.lo⟩
noncomputable def vl (wb:Nat) (c:CR):bC:=aa [.int .i64 c.a.k,.int .i64 c.a.x,.int .i64 c.a.t,.int .i64 c.a.r,.int .i64 c.a.m,.int .i64 c.a.w,.int .i64 c.a.to,.pointer (some ⟨wb,0,none⟩),.int .i64 c.th,.int .i64 c.no,.int .i64 c.st,xM c.ph c.ca,.int .i64 (c.ph:Int),.bool c.wt,.int .i64 c.id,.int .i64 c.cs,.int .i64 c.out,.bool true,.slice none 0 0] 99 false
theorem MG (s:WS h A a N d R) {i k p:Nat} {c:CR} (hi:R.cs[i]? = some (some c)) (hst:c.st=(k:Int)) (Om:c.th=(i:Int)) (hout:c.out≠0) (hl:R.cI[k]? = some (some (p,c.th))) (κ:KQ)
  (hk:∀h',WS h' A a N d { R with cI:=R.cI.set k none,cs:=R.cs.set i none }→h'.bl.get c.ca=some (vl A.wb c)→WK a h h'→κ (.tuple ⟨[]⟩) h') :
  CallW Tryz.prog 117 [.pointer (some ⟨c.ca,0,none⟩)] h κ:=by
 obtain ⟨gc,c1,c2⟩:=cD s hi
 have gw:=s.r.gw
 have hlo:=s.lo
 have gc':=gc
 have hil:=xN s hi
 have hnn:=s.r.nn
 unfold cw at gc'
 have gp:=(s.r.ho (p,c.th) (List.mem_of_getElem? hl)).2
 refine aq mixed ?_
 rw[PJ]
 simp(disch:=first|omega|simp only[Wd]<;>omega|with_unfolding_all rfl)only[Wz,aN,gc',gw,hst]
 refine MD s.r.gl s.r.gh s.r.RJ hl gp (by omega) _ ?_
 have s2:=s.zb (R.cI.set k none) (List.length_set ..) (fun q hq=>by
  rcases List.mem_or_eq_of_mem_set hq with hq | hq
  ·exact s.r.ho q hq
  ·cases hq)
 have k2:=J4 (h':=⟨h.nx,h.bl.aW A.hb (aa (lS (R.cI.set k none)) 176 false),h.lo⟩) s (fun b hb hn=>T.ai _ _ (fun e=>hn e.symm)) (Nat.le_refl _) rfl
 obtain ⟨h2,e2⟩:∃h2:Heap,h2=⟨h.nx,h.bl.aW A.hb (aa (lS (R.cI.set k none)) 176 false),h.lo⟩:=⟨_,rfl⟩
 have s2:WS h2 A a N d { R with cI:=R.cI.set k none }:=by rw[e2]; exact s2
 have k2:WK a h h2:=by rw[e2]; exact k2
 rw[←e2]
 clear e2
 obtain ⟨y3,c12,c22⟩:=cD (R:={ R with cI:=R.cI.set k none }) s2 hi
 have zf:=y3
 unfold cw at zf
 have On:=s2.r.gw
 have J6:=s2.r.gc
 have cb2:=s2.r.Oi
 refine aq mixed ?_
 rw[P0]
 have s3:WS ⟨h2.nx,h2.bl.aW A.cb (aa ((R.cs.set i none).map fun o=>dy (o.map (·.ca))) 96 false),h2.lo⟩ A a N d { R with cI:=R.cI.set k none,cs:=R.cs.set i none }:=WS.p9 (R:={ R with cI:=R.cI.set k none }) s2 i none (fun c e=>(nomatch e))
 have hne:c.ca≠A.cb:=fF y3 J6 (by decide)
 have ovc:over (R.cs.map fun o=>dy (o.map (·.ca))) i [.pointer none]=(R.cs.set i none).map fun o=>dy (o.map (·.ca)):=by
  unfold over
  rw[List.map_set,List.set_eq_take_append_cons_drop,if_pos (by rw[List.length_map]; exact (List.getElem?_eq_some_iff.1 hi).1)]
  simp[dy]
 have hlc:(R.cs.map fun o=>dy (o.map (·.ca))).length=A.n:=by rw[List.length_map]; exact s.r.lc
 have hnw:c.ca≠A.wb:=fF y3 On (by decide)
 simp(disch:=first|omega|simp only[Wd]<;>omega|with_unfolding_all rfl)only[Wz,aN,zf,A0,aG hout,AZ]
 simp(disch:=first|omega|simp only[Wd]<;>omega|with_unfolding_all rfl)only[Wz,aN,On,Om,aS,J6,Nat.mul_one,ovc]
 have GG:(h2.bl.aW A.cb (aa ((R.cs.set i none).map fun o=>dy (o.map (·.ca))) 96 false)).get c.ca=_:=(T.ai _ _ (fun e=>hne e.symm)).trans zf
 have hno:∀x,some x∈R.cs.set i none→x.ca≠c.ca:=by
  intro x hx
  rcases vg hx with e | ⟨j,hj,e⟩
  ·cases e
  ·exact s.r.apart e hi hj
 have s4:=WS.other s3 GG hno (vl A.wb c)
 have k3:=WS.ze s2 J6 (by simp[nK]) (by decide) (aa ((R.cs.set i none).map fun o=>dy (o.map (·.ca))) 96 false)
 have k4:=WS.ze s3 GG (by simp[nK]) (by decide) (vl A.wb c)
 have hk:=hk _ s4 (T.af _ _ _) ((k2.trans k3).trans k4)
 rw[show ((h2.bl.aW A.cb (aa ((R.cs.set i none).map fun o=>dy (o.map (·.ca))) 96 false)).aW c.ca (vl A.wb c))=(h2.bl.aW c.ca (vl A.wb c)).aW A.cb (aa ((R.cs.set i none).map fun o=>dy (o.map (·.ca))) 96 false) from T.tw _ _ _ (fun e=>hne e.symm)] at hk
 unfold vl at hk
 rw[Om] at hk
 exact hk
end
section
variable {h:Heap} {A:WA} {a:TA} {N:Nat} {d:TD} {R:RD}
theorem B8 (s:WS h A a N d R) {i k:Nat} {c:CR} (hi:R.cs[i]? = some (some c)) (wA:c.ph=1) (hb:R.bits[i]? = some 0) (hst:c.st=(k:Int)) (Om:0≤c.th∧c.th<8) (hl:R.cI[k]? = some none) (κ:KQ)
  (hk:∀h',WS h' A a N d { R with cI:=R.cI.set k (some (h.nx,c.th)),cs:=R.cs.set i (some { c with ph:=2 }) }→WK a h h'→κ (.tuple ⟨[.bool false,.int .i64 0,.int .i64 0]⟩) h') :
  CallW Tryz.prog 14 [.pointer (some ⟨A.wb,0,none⟩),.int .i64 (i:Int)] h κ:=by
 have gw:=s.r.gw
 have Wq:=s.r.gc
 have hil:=xN s hi
 have r:(R.cs.map fun o=>dy (o.map (·.ca)))[i]? = some (.pointer (some ⟨c.ca,0,none⟩)):=kT s hi
 obtain ⟨gc,c1,c2⟩:=cD s hi
 have hlc:(R.cs.map fun o=>dy (o.map (·.ca))).length=A.n:=by rw[List.length_map]; exact s.r.lc
 have gc':=gc
 unfold cw xM at gc'
 rw[wA] at gc'
 refine aq mixed ?_
 rw[IF]
 simp(disch:=first|omega|simp only[Wd]<;>omega|with_unfolding_all rfl)only[Wz,mP,sj]
 refine mQ s hil _ ?_
 simp(disch:=first|omega|simp only[Wd]<;>omega|with_unfolding_all rfl)only[Wz]
 refine zd s hi hb hst hl _ ?_
 rw[wA]
 simp(disch:=first|omega|simp only[Wd]<;>omega|with_unfolding_all rfl)only[Wz,Option.isSome_none,Option.isSome_some,Bool.false_or,Bool.true_or,si,aN,gw,aS,Wq,r,gc',Nat.mul_one,pn]
 refine J5 s hi hst Om hl _ ?_
 intro h' s' k'
 have hi':(R.cs.set i (some { c with ph:=2 }))[i]? = some (some { c with ph:=2 }):=by rw[List.getElem?_set,if_pos rfl,if_pos (by have:=s.r.lc; omega)]
 obtain ⟨y3,_,_⟩:=cD s' hi'
 unfold cw at y3
 simp(disch:=first|omega|simp only[Wd]<;>omega|with_unfolding_all rfl)only[Wz,aN,y3]
 exact hk h' s' k'
theorem Dx (s:WS h A a N d R) {i k p:Nat} {c:CR} (hi:R.cs[i]? = some (some c)) (wA:c.ph=3) (hb:R.bits[i]? = some 0) (hst:c.st=(k:Int)) (Om:c.th=(i:Int)) (hout:c.out≠0) (hl:R.cI[k]? = some (some (p,c.th))) (κ:KQ)
  (hk:∀h',WS h' A a N d { R with cI:=R.cI.set k none,cs:=R.cs.set i none }→WK a h h'→κ (.tuple ⟨[.bool true,.int .i64 c.out,.int .i64 0]⟩) h') :
  CallW Tryz.prog 14 [.pointer (some ⟨A.wb,0,none⟩),.int .i64 (i:Int)] h κ:=by
 have gw:=s.r.gw
 have Wq:=s.r.gc
 have hil:=xN s hi
 have r:(R.cs.map fun o=>dy (o.map (·.ca)))[i]? = some (.pointer (some ⟨c.ca,0,none⟩)):=kT s hi
 obtain ⟨gc,c1,c2⟩:=cD s hi
 have hlc:(R.cs.map fun o=>dy (o.map (·.ca))).length=A.n:=by rw[List.length_map]; exact s.r.lc
 have gc':=gc
 unfold cw xM at gc'
 rw[wA] at gc'
 refine aq mixed ?_
 rw[IF]
 simp(disch:=first|omega|simp only[Wd]<;>omega|with_unfolding_all rfl)only[Wz,mP,sj]
 refine mQ s hil _ ?_
 simp(disch:=first|omega|simp only[Wd]<;>omega|with_unfolding_all rfl)only[Wz]
 refine zd s hi hb hst hl _ ?_
 rw[wA]
 simp(disch:=first|omega|simp only[Wd]<;>omega|with_unfolding_all rfl)only[Wz,Option.isSome_none,Option.isSome_some,Bool.false_or,Bool.true_or,si,aN,gw,aS,Wq,r,gc',Nat.mul_one,pn]
 refine MG s hi hst Om hout hl _ ?_
 intro h' s' g' k'
 unfold vl at g'
 simp(disch:=first|omega|simp only[Wd]<;>omega|with_unfolding_all rfl)only[Wz,aN,g']
 exact hk h' s' k'
theorem Wr (a b c d e f g:Int):jD 8 (.agg ⟨[.int .i64 a,.int .i64 b,.int .i64 c,.int .i64 d,.int .i64 e,.int .i64 f,.int .i64 g]⟩) (.agg ⟨[.int .i64 a,.int .i64 b,.int .i64 c,.int .i64 d,.int .i64 e,.int .i64 f,.int .i64 g]⟩)=true:=by
 have v:∀n:Int,jD 7 (.int .i64 n) (.int .i64 n)=true:=fun n=>by
  show (fO .i64 .i64 && oN n n)=true
  rw[eX,aZ rfl]; rfl
 show (jD 7 (.int .i64 a) (.int .i64 a) && (jD 7 (.int .i64 b) (.int .i64 b) && (jD 7 (.int .i64 c) (.int .i64 c) && (jD 7 (.int .i64 d) (.int .i64 d) && (jD 7 (.int .i64 e) (.int .i64 e) && (jD 7 (.int .i64 f) (.int .i64 f) && (jD 7 (.int .i64 g) (.int .i64 g) && true)))))))=true
 simp only[v,Bool.and_self]
theorem MH (s:WS h A a N d R) {i:Nat} (hi:R.cs[i]? = some none) (x:cF) (Gr:0≤R.begun∧R.begun≤1000000) (κ:KQ)
  (xH:qQ x=false→∀h',Le h h'→κ (.int .i64 2) h')
  (hk:qQ x=true→∀h' ca,WS h' A a N d { R with cs:=R.cs.set i (some ⟨ca,x,(i:Int),R.begun,ck x.t x.r a.c.S,1,false,0,0,0⟩),begun:=R.begun+1 }→WK a h h'→κ (.int .i64 0) h') :
  CallW Tryz.prog 16 [.pointer (some ⟨A.wb,0,none⟩),.int .i64 (i:Int),.agg ⟨fE x⟩] h κ:=by
 have hlo:=s.lo
 have hil:=xN s hi
 have r:(R.cs.map fun o=>dy (o.map (·.ca)))[i]? = some (.pointer none):=kT s hi
 have hlc:(R.cs.map fun o=>dy (o.map (·.ca))).length=A.n:=by rw[List.length_map]; exact s.r.lc
 refine aq mixed ?_
 rw[T8]
 simp(disch:=first|omega|simp only[Wd]<;>omega|with_unfolding_all rfl)only[Wz,fE]
 obtain ⟨hA,aJ⟩:∃hA:Heap,hA=⟨h.nx+1,(h.bl.aW (h.nx) (aa [.int .i64 x.k,.int .i64 x.x,.int .i64 x.t,.int .i64 x.r,.int .i64 x.m,.int .i64 x.w,.int .i64 x.to] 39 false)),h.lo⟩:=⟨_,rfl⟩
 have aU:Le h hA:=by subst aJ; exact ((Le.refl h).new _)
 have g1:hA.bl.get (h.nx)=some (aa [.int .i64 x.k,.int .i64 x.x,.int .i64 x.t,.int .i64 x.r,.int .i64 x.m,.int .i64 x.w,.int .i64 x.to] 39 false):=by subst aJ; exact T.af _ _ _
 have ig:hA.nx=h.nx+1:=by subst aJ; rfl
 have ij:hA.lo=h.lo:=by subst aJ; rfl
 rw[←aJ]
 clear aJ
 have sA:=s.le aU
 simp(disch:=first|omega|simp only[Wd]<;>omega|with_unfolding_all rfl)only[Wz,mP,Ew]
 refine mQ sA hil _ ?_
 simp(disch:=first|omega|simp only[Wd]<;>omega|with_unfolding_all rfl)only[Wz,g1]
 refine RQ x hA _ (by omega) ?_
 intro h1 b_
 have n1:=b_.nx
 have l1:=b_.lo
 have s1:=sA.le b_
 have g11:=(b_.get _ (by omega)).trans g1
 have SK:=s1.r.gw
 have Gs:=s1.r.gc
 cases hm:qQ x with
 | false=>
  simp(disch:=first|omega|simp only[Wd]<;>omega|with_unfolding_all rfl)only[Wz]
  exact xH hm h1 (aU.trans b_)
 | true=>
  have hk:=hk hm
  have aaS:∀(β:Type) (fl:β) (cn:Bool) (h:Heap) (κ:Value→Heap→β),au fl Tryz.prog .neq 96 cn false (.pointer none) (.pointer none) h κ=κ (.bool false) h:=fun β fl cn h κ=>zc cn none h κ
  simp(disch:=first|omega|simp only[Wd]<;>omega|with_unfolding_all rfl)only[Wz,Ev,aN,SK,aS,Gs,r,Nat.mul_one,aaS,Eu,g11]
  refine qP s1.t.is (by omega) x.t x.r _ ?_
  intro h2 bF
  have n2:=bF.nx
  have l2:=bF.lo
  have s2:=s1.le bF
  have g12:=(bF.get _ (by omega)).trans g11
  have On:=s2.r.gw
  simp(disch:=first|omega|simp only[Wd]<;>omega|with_unfolding_all rfl)only[Wz,aN,g12,On]
  obtain ⟨cc,DO⟩:∃cc:CR,cc=⟨h2.nx,x,(i:Int),R.begun,ck x.t x.r a.c.S,1,false,0,0,0⟩:=⟨_,rfl⟩
  obtain ⟨h3,e3⟩:∃h3:Heap,h3=⟨h2.nx+1,h2.bl.aW h2.nx (cw A.wb cc),h2.lo⟩:=⟨_,rfl⟩
  have f_:Le h2 h3:=by rw[e3]; exact (Le.refl h2).new _
  have g3:h3.bl.get h2.nx=some (cw A.wb cc):=by rw[e3]; exact T.af _ _ _
  have n3:h3.nx=h2.nx+1:=by rw[e3]
  have l3:h3.lo=h2.lo:=by rw[e3]
  have s3:=s2.le f_
  have e3':h3=⟨h2.nx+1,h2.bl.aW h2.nx (aa [.int .i64 x.k,.int .i64 x.x,.int .i64 x.t,.int .i64 x.r,.int .i64 x.m,.int .i64 x.w,.int .i64 x.to,.pointer (some ⟨A.wb,0,none⟩),.int .i64 (i:Int),.int .i64 R.begun,.int .i64 (ck x.t x.r a.c.S),.func (.func 46) ⟨[.pointer (some ⟨h2.nx,0,none⟩)]⟩ ⟨[]⟩,.int .i64 1,.bool false,.int .i64 0,.int .i64 0,.int .i64 0,.bool false,.slice none 0 0] 99 false),h2.lo⟩:=by rw[e3,DO]; rfl
  have gw3:=s3.r.gw
  have lw3:=s3.r.zp
  have lc3:=s3.r.Oi
  have s4:=s3.vj (R.begun+1)
  have k4:=WS.ze s3 gw3 (by simp[nK]) (by decide) (aa [.pointer (some ⟨a.tb,0,none⟩),.pointer (some ⟨A.lb,0,none⟩),.pointer (some ⟨A.pb,0,none⟩),.pointer (some ⟨A.kb,0,none⟩),.slice (some ⟨A.cb,0,none⟩) A.n A.n,.map (some A.mb),.int .i64 (R.begun+1)] 107 false)
  have aaT:=s4.r.gc
  have ovc:over (R.cs.map fun o=>dy (o.map (·.ca))) i [.pointer (some ⟨h2.nx,0,none⟩)]=(R.cs.set i (some cc)).map fun o=>dy (o.map (·.ca)):=by
   unfold over
   rw[List.map_set,List.set_eq_take_append_cons_drop,if_pos (by rw[List.length_map]; have:=s.r.lc; omega),DO]
   simp[dy]
  have s5:=WS.p9 (R:={ R with begun:=R.begun+1 }) s4 i (some cc) (fun c e=>by
   cases e
   refine ⟨by rw[DO]; show h2.nx<h3.nx; omega,by rw[DO]; show h3.lo≤h2.nx; omega,?_,fun j d' hj hd=>?_⟩
   ·have e9:cc.ca=h2.nx:=by rw[DO]
    rw[e9]
    exact (T.ai _ _ (by have:=(s2.r.zp).1; omega)).trans g3
   ·have:=(s2.r.ca d' (List.mem_of_getElem? hd)).1
    rw[DO]; show d'.ca≠h2.nx; omega)
  have k5:=WS.ze s4 aaT (by simp[nK]) (by decide) (aa ((R.cs.set i (some cc)).map fun o=>dy (o.map (·.ca))) 96 false)
  have hne:A.wb≠A.cb:=fF gw3 s3.r.gc (by decide)
  have af1:=s3.r.gc
  have J6:=s2.r.gc
  have lw2:=s2.r.zp
  have lc2:=s2.r.Oi
  simp(disch:=first|omega|simp only[Wd]<;>omega|with_unfolding_all rfl)only[Wz,Wr]
  refine aq mixed ?_
  rw[NP]
  simp(disch:=first|omega|simp only[Wd]<;>omega|with_unfolding_all rfl)only[Wz,aN,xO,On,aS,J6,Nat.mul_one,ovc]
  have hk:=fun h'=>hk h' h2.nx
  simp only[←DO] at hk
  have hk:=hk _ s5 (((s.KB ((aU.trans b_).trans (bF.trans f_))).trans k4).trans k5)
  rw[e3'] at hk
  exact hk
end
end Go.Proofs
