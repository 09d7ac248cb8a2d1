/-
  PROVED HERE: a part of the proof (AG7, AP1, AG8, AP2, AR1, AR2, AH1, AH2, AH3, AH4, A21).
-/
import Derived.Test.YtmllggkhfmjpgaaGreatDoorG8
import Derived.Test.YtmllggkhfmjpgaaGreatDoorRZ
import Derived.Test.YtmllggkhfmjpgaaGreatDoorG2
import Derived.Test.YtmllggkhfmjpgaaGreatDoorRows
set_option linter.unusedVariables false
set_option linter.unusedSimpArgs false
set_option maxRecDepth 100000
set_option maxHeartbeats 4000000
namespace Go.Proofs
open Go.Vai Go.Clashes
theorem adK (h:Heap) (b o:Nat):lM Tryz.prog h 100 60 (.pointer (some ⟨b,o,none⟩)) (.pointer none)=some false:=by kernel_rfl
theorem jW {β:Type} {fl:β} (cn:Bool) (b o:Nat) (h:Heap) (κ:Value→Heap→β):au fl Tryz.prog .eql 60 cn false (.pointer (some ⟨b,o,none⟩)) (.pointer none) h κ=κ (.bool false) h:=by simp only[au,adK,bM]
theorem S4 {β:Type} {fl:β} (cn:Bool) (b o:Nat) (h:Heap) (κ:Value→Heap→β):au fl Tryz.prog .neq 60 cn false (.pointer (some ⟨b,o,none⟩)) (.pointer none) h κ=κ (.bool true) h:=by simp only[au,adK,bM,Bool.not_false]
theorem aio (h:Heap) (b o:Nat):lM Tryz.prog h 100 153 (.pointer (some ⟨b,o,none⟩)) (.pointer none)=some false:=by kernel_rfl
theorem adL (h:Heap):lM Tryz.prog h 100 153 (.pointer none) (.pointer none)=some true:=by kernel_rfl
theorem Fx {β:Type} {fl:β} (cn:Bool) (o:Option Nat) (h:Heap) (κ:Value→Heap→β):au fl Tryz.prog .neq 153 cn false (cQ o) (.pointer none) h κ=κ (.bool o.isSome) h:=by
 cases o with
 | none=>simp only[cQ,au,adL,bM,Bool.not_true]; rfl
 | some b=>simp only[cQ,au,aio,bM,Bool.not_false]; rfl
structure AI (h:Heap) (E:EN) (H X:Int→Int→Int) (N:Nat) (D:AD):Prop where
 w:∀y out,WI h E.A E.a H X N 0 y out
 g:iN h E.z D none
 wb:E.z.wb=E.A.wb
 th:E.z.th=0
section
variable {h h':Heap} {E:EN} {H X:Int→Int→Int} {N n:Nat} {y:iA} {out:Int} {D:AD} {kb:Nat} {c:CD}
theorem AI.le (s:AI h E H X N D) (l:Le h h'):AI h' E H X N D:=⟨fun y o=>(s.w y o).le l,s.g.le l,s.wb,s.th⟩
theorem AI.lo (s:AI h E H X N D):h.lo≤h.nx:=(s.w ⟨0,0,0,0,0,0,0⟩ 0).lo
theorem AI.ag (s:AI h E H X N D):∃va vh,h.bl.get E.z.ab=some (aa [pt E.A.wb,.int .i64 0,.int .i64 D.jJ,va,vh,pt E.z.pb,.pointer none] 155 false)∧jf h va D.asked∧jf h vh D.has:=by
 obtain ⟨va,vh,g1,g2,g3⟩:=s.g.ga
 rw[s.wb,s.th] at g1
 exact ⟨va,vh,g1,g2,g3⟩
theorem Hw (s:AW h E H X N n y out D kb c) (κ:KQ) (hk:κ (.bool true) h):CallW Tryz.prog 194 [pt E.z.ab] h κ:=by
 obtain ⟨va,vh,ga,_,_⟩:=s.ag
 have bn:=fun (β:Type) (fl:β) (cn:Bool) (h:Heap) (κ:Value→Heap→β)=>Fx (fl:=fl) cn (some kb) h κ
 simp only[cQ,Option.isSome] at bn
 refine an mixed ?_
 rw[WD]
 simp(disch:=first|omega|simp only[Wd]<;>omega|rfl)only[Wz,S4,az,ga,bn]
 exact hk
theorem yU (s:AW h E H X N n y out D kb c) (hn:c.ask.k=0∨n≠0) (κ:KQ) (hk:κ (.bool true) h):CallW Tryz.prog 137 [pt E.z.ab] h κ:=by
 obtain ⟨va,vh,ga,_,_⟩:=s.ag
 obtain ⟨vn,vg,gk,_,_⟩:=s.c.g
 unfold cu at gk
 refine an mixed ?_
 rw[V2]
 simp(disch:=first|omega|simp only[Wd]<;>omega|rfl)only[Wz]
 refine Hw s _ ?_
 by_cases h0:c.ask.k=0
 ·simp(disch:=first|omega|simp only[Wd]<;>omega|rfl)only[Wz,az,ga,gk,bg h0]
  exact hk
 ·simp(disch:=first|omega|simp only[Wd]<;>omega|rfl)only[Wz,az,ga,gk,aV h0]
  refine Lb s.w (hn.resolve_left h0) _ ?_
  exact hk
theorem PE (s:AW h E H X N 0 y out D kb c) (κ:KQ) (hk:∀h',AI h' E H X N D→FK E.a h h'→κ (.tuple ⟨[.bool true,.int .i64 c.code,.int .i64 0]⟩) h') :
  Bs (pt E.z.ab) (pt kb) h κ:=by
 obtain ⟨va,vh,ga,sa,sh⟩:=s.ag
 obtain ⟨vn,vg,gk,p1,p2⟩:=s.c.g
 have hkb:E.z.ab≠kb:=cO ga gk (by decide)
 have nL:=s.g.y_
 obtain ⟨va0,vh0,g1,_,_⟩:=s.g.ga
 have q:=s.g.set (D':=D) (Zo:=none) sa sh rfl
 have hp:=fun ob y' o'=>(s.w.rest y' o').put g1 (by unfold oS; decide) (by unfold lW; decide) ob
 have fp:=fun ob=>FK.put (a:=E.a) g1 (.inl rfl) ob
 unfold agO at q
 rw[s.wb,s.th] at q
 unfold cu at gk
 simp(disch:=first|omega|simp only[Wd]<;>omega|rfl)only[Wz,Bs,az,ga,gk]
 exact hk _ ⟨hp _,q,s.wb,s.th⟩ (fp _)
theorem PF (s:AW h E H X N 0 y out D kb c) (h0:c.ask.k=0) (κ:KQ) (hk:∀h',AI h' E H X N D→FK E.a h h'→κ (.tuple ⟨[.bool true,.int .i64 c.code,.int .i64 0]⟩) h') :
  CallW Tryz.prog 74 [pt E.z.ab] h κ:=by
 obtain ⟨va,vh,ga,sa,sh⟩:=s.ag
 obtain ⟨vn,vg,gk,p1,p2⟩:=s.c.g
 unfold cu at gk
 refine an mixed ?_
 rw[Nd]
 simp(disch:=first|omega|simp only[Wd]<;>omega|rfl)only[Wz,jW,vG]
 refine yU s (.inl h0) _ ?_
 simp(disch:=first|omega|simp only[Wd]<;>omega|rfl)only[Wz,az,ga]
 refine ⟨fun l' h'=>HQ h h',?_,?_⟩
 ·simp(disch:=first|omega|simp only[Wd]<;>omega|rfl)only[Wz,vF,az,gk,bg h0]
  exact rfl
 ·rintro l' h' hE
  cases (show h=h' from hE)
  exact PE s κ hk
theorem yV (s:AW h E H X N n y out D kb c) (hn:n≠0) (Hy:c.ask.k≠0) (Q:Heap→Prop)
  (hW:∀κ1:Value→Heap→Prop,(∀h1,Q h1→κ1 (.tuple ⟨[.bool false,.int .i64 0,.int .i64 0]⟩) h1)→CallW Tryz.prog 15 [.pointer (some ⟨E.A.wb,0,none⟩),.int .i64 ((0:Nat):Int)] h κ1) (κ:KQ)
  (hk:∀h1,Q h1→κ (.tuple ⟨[.bool false,.int .i64 0,.int .i64 0]⟩) h1) :
  CallW Tryz.prog 74 [pt E.z.ab] h κ:=by
 obtain ⟨va,vh,ga,sa,sh⟩:=s.ag
 obtain ⟨vn,vg,gk,p1,p2⟩:=s.c.g
 unfold cu at gk
 refine an mixed ?_
 rw[Nd]
 simp(disch:=first|omega|simp only[Wd]<;>omega|rfl)only[Wz,jW,vG]
 refine yU s (.inr hn) _ ?_
 simp(disch:=first|omega|simp only[Wd]<;>omega|rfl)only[Wz,az,ga]
 refine ⟨fun _ _=>False,?_,fun _ _ hf=>hf.elim⟩
 simp(disch:=first|omega|simp only[Wd]<;>omega|rfl)only[Wz,vF,az,gk,aV Hy,Br,ga]
 refine hW _ ?_
 intro h1 q1
 simp(disch:=first|omega|simp only[Wd]<;>omega|rfl)only[Wz]
 exact hk h1 q1
theorem yW (s:AW h E H X N 1 y out D kb c) (Hy:c.ask.k≠0) (κ:KQ)
  (hB:∀h1,AW h1 E H X N 0 y out D kb { c with seen:=true }→FK E.a h h1→CallW Tryz.prog c.Zn [pt E.z.ab,.int .i64 out] h1 fun _ h2=>∃H' X' N' n' y' out' D' c',AW h2 E H' X' N' n' y' out' D' kb c'∧FK E.a h1 h2∧
   (c'.code=0→κ (.tuple ⟨[.bool false,.int .i64 0,.int .i64 0]⟩) h2)∧(c'.code≠0→n'=0∧∀h3,AI h3 E H' X' N' D'→FK E.a h2 h3→κ (.tuple ⟨[.bool true,.int .i64 c'.code,.int .i64 0]⟩) h3)) :
  CallW Tryz.prog 74 [pt E.z.ab] h κ:=by
 obtain ⟨va,vh,ga,sa,sh⟩:=s.ag
 obtain ⟨vn,vg,gk,p1,p2⟩:=s.c.g
 have gk0:=gk
 unfold cu at gk
 refine an mixed ?_
 rw[Nd]
 simp(disch:=first|omega|simp only[Wd]<;>omega|rfl)only[Wz,jW,vG]
 refine yU s (.inr (by decide)) _ ?_
 simp(disch:=first|omega|simp only[Wd]<;>omega|rfl)only[Wz,az,ga]
 refine ⟨fun l' h'=>∃H' X' N' n' y' out' D' c',AW h' E H' X' N' n' y' out' D' kb c'∧c'.code≠0∧n'=0∧∀h3,AI h3 E H' X' N' D'→FK E.a h' h3→κ (.tuple ⟨[.bool true,.int .i64 c'.code,.int .i64 0]⟩) h3,?_,?_⟩
 ·simp(disch:=first|omega|simp only[Wd]<;>omega|rfl)only[Wz,vF,az,gk,aV Hy,Br,ga]
  refine Pu s.w _ ?_
  intro h1 w1 k1
  have s1:=s.wk w1 k1
  have ail:=s1.c.lt
  obtain ⟨vn1,vg1,Qi,p11,p21⟩:=s1.c.g
  have q:=s1.yQ (c':={ c with seen:=true }) p11 p21 s.c.AK
  unfold cu at Qi q
  simp(disch:=first|omega|simp only[Wd]<;>omega|rfl)only[Wz,I5,az,Qi,List.cons_append,List.nil_append,List.append_nil]
  refine CallW.mono (hB _ q.1 (k1.fk.trans q.2)) ?_
  rintro u h2 ⟨H',X',N',n',y',out',D',c',s2,f2,dy,hk2⟩
  obtain ⟨vn2,vg2,SY,_,_⟩:=s2.c.g
  unfold cu at SY
  by_cases h0:c'.code=0
  ·simp(disch:=first|omega|simp only[Wd]<;>omega|rfl)only[Wz,az,SY,bg h0]
   exact dy h0
  ·simp(disch:=first|omega|simp only[Wd]<;>omega|rfl)only[Wz,az,SY,aV h0]
   obtain ⟨e1,e2⟩:=hk2 h0
   exact ⟨H',X',N',n',y',out',D',c',s2,h0,e1,e2⟩
 ·rintro l' h' ⟨H',X',N',n',y',out',D',c',s2,h0,rfl,hk2⟩
  exact PE s2 κ hk2
def Fy (k t r m w:Int):Bool:=decide (0≤w) && (if k=1 then kn m && decide (m≠0) && decide (a_ t r≠-1) else if k=2 then decide (a_ t r≠-1) else decide (k=3))
theorem Zv (k t r m w:Int) (hm:Fy k t r m w=true) (h:Heap) (κ:KQ) (hlo:h.lo≤h.nx) (hk:∀h',Le h h'→κ (.bool true) h'):CallW Tryz.prog 125 [.agg ⟨[.int .i64 k,.int .i64 0,.int .i64 t,.int .i64 r,.int .i64 m,.int .i64 0]⟩,.int .i64 w] h κ:=by
 unfold Fy at hm
 rw[Bool.and_eq_true,decide_eq_true_eq] at hm
 obtain ⟨hw,hm⟩:=hm
 refine an mixed ?_
 rw[VP]
 simp(disch:=first|omega|simp only[Wd]<;>omega|rfl)only[Wz]
 obtain ⟨hA,aH⟩:∃hA:Heap,hA=⟨h.nx+1,(h.bl.aT (h.nx) (aa [.int .i64 k,.int .i64 0,.int .i64 t,.int .i64 r,.int .i64 m,.int .i64 0] 66 false)),h.lo⟩:=⟨_,rfl⟩
 have aL:Le h hA:=by subst aH; exact ((Le.refl h).new _)
 have gA:hA.bl.get (h.nx)=some (aa [.int .i64 k,.int .i64 0,.int .i64 t,.int .i64 r,.int .i64 m,.int .i64 0] 66 false):=by subst aH; exact T.af _ _ _
 have ef:hA.nx=h.nx+1:=by subst aH; rfl
 have ej:hA.lo=h.lo:=by subst aH; rfl
 rw[←aH]
 try rw[show (h.bl.aT (h.nx) (aa [.int .i64 k,.int .i64 0,.int .i64 t,.int .i64 r,.int .i64 m,.int .i64 0] 66 false))=hA.bl by rw[aH]]
 clear aH
 by_cases h1:k=1
 ·rw[if_pos h1,Bool.and_eq_true,Bool.and_eq_true,decide_eq_true_eq,decide_eq_true_eq] at hm
  obtain ⟨⟨hm1,hm2⟩,hm3⟩:=hm
  refine ⟨fun _ _=>False,?_,fun _ _ hf=>hf.elim⟩
  simp(disch:=first|omega|simp only[Wd]<;>omega|rfl)only[Wz,gA]
  refine ⟨fun l' h'=>slot l' 15=.bool true∧HQ hA h',?_,?_⟩
  ·simp(disch:=first|omega|simp only[Wd]<;>omega|rfl)only[Wz,rT,bg h1,Dl,gA]
   refine nE m ?_
   rw[hm1]
   simp(disch:=first|omega|simp only[Wd]<;>omega|rfl)only[Wz,gA,aV hm2]
   exact ⟨by first | rfl | trivial,rfl⟩
  ·rintro l' h' ⟨e1,hE⟩
   cases (show hA=h' from hE)
   simp(disch:=first|omega|simp only[Wd]<;>omega|rfl)only[Wz,xk,e1,gA]
   refine mQ t r ?_
   rw[if_neg hm3]
   simp(disch:=first|omega|simp only[Wd]<;>omega|rfl)only[Wz]
   exact hk hA aL
 ·rw[if_neg h1] at hm
  by_cases h2:k=2
  ·rw[if_pos h2,decide_eq_true_eq] at hm
   refine ⟨fun _ _=>False,?_,fun _ _ hf=>hf.elim⟩
   simp(disch:=first|omega|simp only[Wd]<;>omega|rfl)only[Wz,gA]
   refine ⟨fun l' h'=>slot l' 15=.bool true∧HQ hA h',?_,?_⟩
   ·simp(disch:=first|omega|simp only[Wd]<;>omega|rfl)only[Wz,rT,aV h1,bg h2]
    exact ⟨by first | rfl | trivial,rfl⟩
   ·rintro l' h' ⟨e1,hE⟩
    cases (show hA=h' from hE)
    simp(disch:=first|omega|simp only[Wd]<;>omega|rfl)only[Wz,xk,e1,gA]
    refine mQ t r ?_
    rw[if_neg hm]
    simp(disch:=first|omega|simp only[Wd]<;>omega|rfl)only[Wz]
    exact hk hA aL
  ·rw[if_neg h2,decide_eq_true_eq] at hm
   refine ⟨fun l' h'=>slot l' 17=.bool true∧HQ hA h',?_,?_⟩
   ·simp(disch:=first|omega|simp only[Wd]<;>omega|rfl)only[Wz,gA]
    refine ⟨fun _ _=>False,?_,fun _ _ hf=>hf.elim⟩
    simp(disch:=first|omega|simp only[Wd]<;>omega|rfl)only[Wz,rT,aV h1,aV h2]
    exact ⟨by first | rfl | trivial,rfl⟩
   ·rintro l' h' ⟨e1,hE⟩
    cases (show hA=h' from hE)
    simp(disch:=first|omega|simp only[Wd]<;>omega|rfl)only[Wz,Dm,e1,gA,bg hm]
    exact hk hA aL
def mW:iA:=⟨0,0,0,0,0,0,0⟩
def gf (z:AA) (D:AD) (k t r m w:Int):CD:=
 if k=1 then ⟨k,t,r,m,w,mW,0,126,.func (.func 127) ⟨[pt z.ab]⟩ ⟨[]⟩,false,0,jx (aN D.has) t r (bR (aN D.asked t r) m),[]⟩
 else if k=2 then ⟨k,t,r,m,w,mW,0,132,.func (.func 133) ⟨[]⟩ ⟨[]⟩,false,0,[],[]⟩
 else ⟨k,t,r,m,w,mW,0,135,.func (.func 133) ⟨[]⟩ ⟨[]⟩,false,0,[],[]⟩
def yX (k:Int):FuncId:=if k=1 then 131 else if k=2 then 134 else 136
theorem Hz:(Value.cells Value.nilFunc).toList=[Value.nilFunc]:=id rfl
theorem AI.call (s:AI h E H X N D) {va vh:Value} (ga:h.bl.get E.z.ab=some (aa [pt E.A.wb,.int .i64 0,.int .i64 D.jJ,va,vh,pt E.z.pb,.pointer none] 155 false)) (sa:jf h va D.asked) (sh:jf h vh D.has) (vs:List Value) {c':CD} (h1:c'.dK=[]) (h2:c'.goes=[]) (h3:cZ c'.AK=true) (y:iA) (out:Int) :
  AW ⟨h.nx+1,((h.bl.aT h.nx (aa vs 224 false)).aT E.z.ab (aa [pt E.A.wb,.int .i64 0,.int .i64 D.jJ,va,vh,pt E.z.pb,pt h.nx] 155 false)).aT h.nx (cu E.z c' (.slice none 0 0) (.slice none 0 0)),h.lo⟩ E H X N 0 y out D h.nx c'∧
  FK E.a h ⟨h.nx+1,((h.bl.aT h.nx (aa vs 224 false)).aT E.z.ab (aa [pt E.A.wb,.int .i64 0,.int .i64 D.jJ,va,vh,pt E.z.pb,pt h.nx] 155 false)).aT h.nx (cu E.z c' (.slice none 0 0) (.slice none 0 0)),h.lo⟩:=by
 have Je:=(Le.refl h).new (aa vs 224 false)
 have sB:=s.le Je
 have hl:=s.g.y_
 have lo:=s.lo
 have gaB:=(Je.get _ hl.1).trans ga
 have q:=sB.g.set (D':=D) (Zo:=some h.nx) (sa.le Je) (sh.le Je) rfl
 have w1:=fun ob=>(sB.w y out).put gaB (by unfold oS; decide) (by unfold lW; decide) ob
 have f1:=fun ob=>FK.put (a:=E.a) gaB (.inl rfl) ob
 unfold agO at q
 rw[s.wb,s.th] at q
 have gk:((h.bl.aT h.nx (aa vs 224 false)).aT E.z.ab (aa [pt E.A.wb,.int .i64 0,.int .i64 D.jJ,va,vh,pt E.z.pb,pt h.nx] 155 false)).get h.nx=some (aa vs 224 false):=(T.ai _ _ (by omega)).trans (T.af _ _ _)
 have w2:=(w1 (aa [pt E.A.wb,.int .i64 0,.int .i64 D.jJ,va,vh,pt E.z.pb,pt h.nx] 155 false)).put gk (by unfold oS; decide) (by unfold lW; decide) (cu E.z c' (.slice none 0 0) (.slice none 0 0))
 have g2:=iN.put q gk (.inl rfl) (cu E.z c' (.slice none 0 0) (.slice none 0 0))
 have f2:=FK.put (a:=E.a) (h:=⟨h.nx+1,(h.bl.aT h.nx (aa vs 224 false)).aT E.z.ab (aa [pt E.A.wb,.int .i64 0,.int .i64 D.jJ,va,vh,pt E.z.pb,pt h.nx] 155 false),h.lo⟩) gk (.inr (.inl rfl)) (cu E.z c' (.slice none 0 0) (.slice none 0 0))
 have c2:=gO.mk' (h:=⟨h.nx+1,(h.bl.aT h.nx (aa vs 224 false)).aT E.z.ab (aa [pt E.A.wb,.int .i64 0,.int .i64 D.jJ,va,vh,pt E.z.pb,pt h.nx] 155 false),h.lo⟩) (z:=E.z) (c':=c') (vn:=.slice none 0 0) (vg:=.slice none 0 0) ⟨Nat.lt_succ_self _,lo⟩ gk (.inl ⟨h1,rfl⟩) (.inl ⟨h2,_,_,rfl⟩) h3
 exact ⟨⟨w2,g2,c2,s.wb,s.th⟩,((FK.le Je).trans (f1 _)).trans f2⟩
theorem S5 (s:AI h E H X N D) (ht:D.jJ≠0) (l1:D.has.length≤1000) (l2:D.asked.length≤1000) (k t r m w:Int) (hm:Fy k t r m w=true) (κ:KQ)
  (hk:∀h' kb,AW h' E H X N 0 mW 0 D kb (gf E.z D k t r m w)→FK E.a h h'→CallW Tryz.prog (yX k) [pt E.z.ab] h' fun _ h=>κ (.int .i64 0) h) :
  CallW Tryz.prog 73 [pt E.z.ab,.agg ⟨[.int .i64 k,.int .i64 0,.int .i64 t,.int .i64 r,.int .i64 m,.int .i64 0]⟩,.int .i64 w] h κ:=by
 have hlo:=s.lo
 have bn:=fun (β:Type) (fl:β) (cn:Bool) (h:Heap) (κ:Value→Heap→β)=>Fx (fl:=fl) cn none h κ
 simp only[cQ,Option.isSome] at bn
 refine an mixed ?_
 rw[abv]
 simp(disch:=first|omega|simp only[Wd]<;>omega|rfl)only[Wz,jW]
 obtain ⟨hA,aH⟩:∃hA:Heap,hA=⟨h.nx+1,(h.bl.aT (h.nx) (aa [.int .i64 k,.int .i64 0,.int .i64 t,.int .i64 r,.int .i64 m,.int .i64 0] 66 false)),h.lo⟩:=⟨_,rfl⟩
 have aL:Le h hA:=by subst aH; exact ((Le.refl h).new _)
 have gA:hA.bl.get (h.nx)=some (aa [.int .i64 k,.int .i64 0,.int .i64 t,.int .i64 r,.int .i64 m,.int .i64 0] 66 false):=by subst aH; exact T.af _ _ _
 have ef:hA.nx=h.nx+1:=by subst aH; rfl
 have ej:hA.lo=h.lo:=by subst aH; rfl
 rw[←aH]
 try rw[show (h.bl.aT (h.nx) (aa [.int .i64 k,.int .i64 0,.int .i64 t,.int .i64 r,.int .i64 m,.int .i64 0] 66 false))=hA.bl by rw[aH]]
 clear aH
 have sA:=s.le aL
 obtain ⟨va,vh,ga,sa,sh⟩:=sA.ag
 have nL:=sA.g.y_
 simp(disch:=first|omega|simp only[Wd]<;>omega|rfl)only[Wz,I4,az,ga,aV ht,bn,gA]
 refine Zv k t r m w hm hA _ (by omega) ?_
 intro h1 bF
 have s1:=sA.le bF
 have S0:=(bF.get _ nL.1).trans ga
 have Jq:=bF.nx
 have Jr:=bF.lo
 have gA:=(bF.get _ (by omega)).trans gA
 have nY:=s1.g.y_
 have lo1:=s1.lo
 have sa1:=sa.le bF
 have sh1:=sh.le bF
 have hab:E.z.ab≠h1.nx:=by omega
 have hA1:h.nx≠E.z.ab:=fun e=>cO gA S0 (by decide) e
 have Om:h.nx<h1.nx:=by omega
 have f1:=FK.le (a:=E.a) (aL.trans bF)
 simp(disch:=first|omega|simp only[Wd]<;>omega|rfl)only[Wz,az,S0,gA,I3,Hz]
 refine ⟨fun l' h'=>κ (.int .i64 0) h',?_,fun l' h' hk=>hk⟩
 by_cases dy:k=1
 ·simp(disch:=first|omega|simp only[Wd]<;>omega|rfl)only[Wz,vE,gA,bg dy,I1,oT,az]
  have q:=s1.call S0 sa1 sh1 [.slice none 0 0,.slice none 0 0,.int .i64 k,.int .i64 0,.int .i64 t,.int .i64 r,.int .i64 m,.int .i64 0,.int .i64 w,.int .i64 0,.int .i64 0,.int .i64 0,.int .i64 0,.int .i64 0,.int .i64 0,.int .i64 0,.int .i64 0,Value.nilFunc,Value.nilFunc,.bool false,.int .i64 0] (c':=⟨k,t,r,m,w,mW,0,126,.func (.func 127) ⟨[pt E.z.ab]⟩ ⟨[]⟩,false,0,[],[]⟩) rfl rfl rfl mW 0
  unfold cu mW at q
  have sa2:=sa1.fk q.2
  have sh2:=sh1.fk q.2
  have Zu:=(q.2.ty _ _ _ _ Om gA (by unfold oS; decide) (by unfold lW; decide) (by unfold CTy; decide)).trans gA
  refine i_ D.asked t r _ va _ sa2.1 (by omega) (by show h1.lo≤h1.nx+1; omega) ?_
  intro h3 cr
  have n3:h1.nx+1≤h3.nx:=cr.nx
  have l3:h3.lo=h1.lo:=cr.lo
  have S2:h3.bl.get E.z.ab=some (aa [pt E.A.wb,.int .i64 0,.int .i64 D.jJ,va,vh,pt E.z.pb,pt h1.nx] 155 false):=(cr.get _ (by show E.z.ab<h1.nx+1; omega)).trans ((T.ai _ _ (by omega)).trans (T.af _ _ _))
  have PC:=(cr.get h1.nx (Nat.lt_succ_self _)).trans (T.af _ _ _)
  have gA3:=(cr.get h.nx (by show h.nx<h1.nx+1; omega)).trans Zu
  have qv:=sh.2.2
  simp(disch:=first|omega|simp only[Wd]<;>omega|rfl)only[Wz,az,S2,gA3,qv]
  refine uE _ _ ?_
  simp(disch:=first|omega|simp only[Wd]<;>omega|rfl)only[Wz,az,S2,gA3,qv]
  refine Zd D.has t r _ h3 vh _ (sh2.le cr).1 (by omega) (by omega) ?_
  intro v' h4 pe jr
  have n4:=jr.nx
  have l4:=jr.lo
  have gk4:=(jr.get h1.nx (by omega)).trans PC
  have s4:=q.1.le (cr.trans jr)
  obtain ⟨x',c',e'⟩:=pe.cell
  subst e'
  have q4:=s4.yQ (c':=gf E.z D k t r m w) (vg:=.slice none 0 0) (by unfold gf; rw[if_pos dy]; exact pe) (by unfold gf; rw[if_pos dy]; exact .inl ⟨rfl,_,_,rfl⟩) (by unfold gf; rw[if_pos dy]; rfl)
  have hk:=hk _ _ (q4.1.rest mW 0) ((f1.trans (q.2.trans (FK.le (cr.trans jr)))).trans q4.2)
  unfold yX gf at hk
  rw[if_pos dy,if_pos dy] at hk
  unfold cu mW at hk
  simp(disch:=first|omega|simp only[Wd]<;>omega|rfl)only[Wz,az,gk4]
  exact hk
 ·by_cases hk2:k=2
  ·have q:=s1.call S0 sa1 sh1 [.slice none 0 0,.slice none 0 0,.int .i64 k,.int .i64 0,.int .i64 t,.int .i64 r,.int .i64 m,.int .i64 0,.int .i64 w,.int .i64 0,.int .i64 0,.int .i64 0,.int .i64 0,.int .i64 0,.int .i64 0,.int .i64 0,.int .i64 0,Value.nilFunc,Value.nilFunc,.bool false,.int .i64 0] (c':=gf E.z D k t r m w) (by unfold gf; rw[if_neg dy,if_pos hk2]) (by unfold gf; rw[if_neg dy,if_pos hk2]) (by unfold gf; rw[if_neg dy,if_pos hk2]; rfl) mW 0
   have hk:=hk _ _ q.1 (f1.trans q.2)
   unfold yX gf at hk
   rw[if_neg dy,if_pos hk2,if_neg dy,if_pos hk2] at hk
   unfold cu mW at hk
   simp(disch:=first|omega|simp only[Wd]<;>omega|rfl)only[Wz,vE,gA,aV dy,bg hk2,IY,oT,az]
   exact hk
  ·have q:=s1.call S0 sa1 sh1 [.slice none 0 0,.slice none 0 0,.int .i64 k,.int .i64 0,.int .i64 t,.int .i64 r,.int .i64 m,.int .i64 0,.int .i64 w,.int .i64 0,.int .i64 0,.int .i64 0,.int .i64 0,.int .i64 0,.int .i64 0,.int .i64 0,.int .i64 0,Value.nilFunc,Value.nilFunc,.bool false,.int .i64 0] (c':=gf E.z D k t r m w) (by unfold gf; rw[if_neg dy,if_neg hk2]) (by unfold gf; rw[if_neg dy,if_neg hk2]) (by unfold gf; rw[if_neg dy,if_neg hk2]; rfl) mW 0
   have hk:=hk _ _ q.1 (f1.trans q.2)
   unfold yX gf at hk
   rw[if_neg dy,if_neg hk2,if_neg dy,if_neg hk2] at hk
   unfold cu mW at hk
   simp(disch:=first|omega|simp only[Wd]<;>omega|rfl)only[Wz,vE,gA,aV dy,aV hk2,IZ,oT,az]
   exact hk
end
def gx (p:L4):Int × Int:=(p.t,p.r)
theorem ff {t r:Int} {p:L4}:gN t r p=true↔p.t=t∧p.r=r:=by simp[gN]
theorem kR {t r:Int} {p:L4}:gN t r p=false↔¬(p.t=t∧p.r=r):=by rw[←ff,Bool.not_eq_true]
theorem ic (p:L4) (L:List L4) (t r:Int):aN (p::L) t r=if p.t=t∧p.r=r then p.m else aN L t r:=by
 unfold aN
 rw[List.find?_cons]
 by_cases h:p.t=t∧p.r=r
 ·rw[if_pos h,ff.2 h]
 ·rw[if_neg h,kR.2 h]
theorem tX (A B:List L4) (p:L4) (t r:Int) (hn:∀q∈A,¬(q.t=p.t∧q.r=p.r)):aN (A++p::B) t r=if p.t=t∧p.r=r then p.m else aN (A++B) t r:=by
 induction A with
 | nil=>rw[List.nil_append,List.nil_append,ic]
 | cons q A ih=>
  have h1:=hn q (.head _)
  have ih:=ih fun x hx=>hn x (.tail _ hx)
  rw[List.cons_append,List.cons_append,ic,ic,ih]
  by_cases h:q.t=t∧q.r=r
  ·rw[if_pos h,if_pos h,if_neg (fun e=>h1 ⟨h.1.trans e.1.symm,h.2.trans e.2.symm⟩)]
  ·rw[if_neg h,if_neg h]
theorem yY (L:List L4) (p:L4):(∃A q B,L=A++q::B∧q.t=p.t∧q.r=p.r∧(∀x∈A,¬(x.t=p.t∧x.r=p.r))∧cD L p=A++p::B)∨(∃A B,L=A++B∧(∀x∈L,¬(x.t=p.t∧x.r=p.r))∧cD L p=A++p::B):=by
 unfold cD
 cases hf:L.findIdx? (gN p.t p.r) with
 | some i=>
  rw[List.findIdx?_eq_some_iff_getElem] at hf
  obtain ⟨hi,h1,h2⟩:=hf
  refine .inl ⟨L.take i,L[i],L.drop (i+1),?_,(ff.1 h1).1,(ff.1 h1).2,fun x hx=>?_,?_⟩
  ·rw[←List.drop_eq_getElem_cons hi,List.take_append_drop]
  ·obtain ⟨j,hj⟩:=List.getElem?_of_mem hx
   have hj':j<i:=by have:=(List.getElem?_eq_some_iff.1 hj).1; simp at this; omega
   have:=h2 j hj'
   rw[List.getElem?_take_of_lt hj',List.getElem?_eq_getElem (by omega)] at hj
   rw[Option.some.inj hj] at this
   exact kR.1 (by simpa using this)
  ·show L.set i p=_
   rw[List.set_eq_take_append_cons_drop,if_pos hi]
 | none=>
  rw[List.findIdx?_eq_none_iff] at hf
  have hno:∀x∈L,¬(x.t=p.t∧x.r=p.r):=fun x hx=>kR.1 (hf x hx)
  cases hg:L.findIdx? (qW p) with
  | some i=>exact .inr ⟨L.take i,L.drop i,(List.take_append_drop _ _).symm,hno,by simp⟩
  | none=>exact .inr ⟨L,[],by simp,hno,by simp⟩
theorem mX (L:List L4) (p:L4) (t r:Int):aN (cD L p) t r=if p.t=t∧p.r=r then p.m else aN L t r:=by
 rcases yY L p with ⟨A,q,B,rfl,h1,h2,h3,e⟩ | ⟨A,B,rfl,h3,e⟩
 ·rw[e,tX A B p t r h3,tX A B q t r (by rw[h1,h2]; exact h3),h1,h2]
  split<;>rfl
 ·rw[e,tX A B p t r fun x hx=>h3 x (List.mem_append_left _ hx)]
theorem gj (L:List L4) (t r t' r':Int):aN (bS L t r) t' r'=if t=t'∧r=r' then 0 else aN L t' r':=by
 induction L with
 | nil=>unfold bS; simp[aN]
 | cons p L ih=>
  unfold bS at ih ⊢
  rw[List.filter_cons]
  by_cases h:p.t=t∧p.r=r
  ·rw[ff.2 h,if_neg (by decide),ih,ic]
   by_cases h2:t=t'∧r=r'
   ·rw[if_pos h2,if_pos h2]
   ·rw[if_neg h2,if_neg h2,if_neg (fun e=>h2 ⟨h.1.symm.trans e.1,h.2.symm.trans e.2⟩)]
  ·rw[kR.2 h,if_pos (by decide),ic,ic,ih]
   by_cases h2:t=t'∧r=r'
   ·rw[if_pos h2,if_pos h2,if_neg (fun e=>h ⟨e.1.trans h2.1.symm,e.2.trans h2.2.symm⟩)]
   ·rw[if_neg h2,if_neg h2]
structure mg (M:List (Int × Int)) (L:List L4):Prop where
 nd:(L.map gx).Nodup
 ok:∀p∈L,a_ p.t p.r≠-1∧kn p.m=true∧p.m≠0
 sub:∀p∈L,gx p∈M
theorem mg.nil (M:List (Int × Int)):mg M []:=⟨List.nodup_nil,(fun p hp=>by cases hp),(fun p hp=>by cases hp)⟩
theorem mg.mode {M:List (Int × Int)} {L:List L4} (s:mg M L) {p:L4} (hp:p∈L):aN L p.t p.r=p.m:=by
 have nd:=s.nd
 clear s
 induction L with
 | nil=>cases hp
 | cons q L ih=>
  rw[List.map_cons,List.nodup_cons] at nd
  rw[ic]
  rcases List.mem_cons.1 hp with rfl | hp'
  ·rw[if_pos ⟨rfl,rfl⟩]
  ·rw[if_neg]
   ·exact ih hp' nd.2
   ·rintro ⟨e1,e2⟩
    exact nd.1 (List.mem_map.2 ⟨p,hp',by unfold gx; rw[e1,e2]⟩)
theorem tY {L:List L4} {t r:Int} (h:aN L t r≠0):∃p∈L,p.t=t∧p.r=r∧p.m=aN L t r:=by
 unfold aN at *
 cases hf:L.find? (gN t r) with
 | none=>rw[hf] at h; exact absurd rfl h
 | some p=>exact ⟨p,List.mem_of_find?_eq_some hf,(ff.1 (List.find?_some hf)).1,(ff.1 (List.find?_some hf)).2,rfl⟩
theorem mg.FO {M:List (Int × Int)} {L:List L4} (s:mg M L) (t r:Int):kn (aN L t r)=true:=by
 by_cases h:aN L t r=0
 ·rw[h]; rfl
 ·obtain ⟨p,hp,rfl,rfl,e⟩:=tY h
  rw[←e]; exact (s.ok p hp).2.1
theorem mg.put {M:List (Int × Int)} {L:List L4} (s:mg M L) {p:L4} (ok:a_ p.t p.r≠-1∧kn p.m=true∧p.m≠0) (hm:gx p∈M):mg M (cD L p):=by
 have key:∀(A B:List L4),((A++B).map gx).Nodup→(∀x∈A++B,¬(x.t=p.t∧x.r=p.r))→((A++p::B).map gx).Nodup:=by
  intro A B h1 h2
  have hp:((A++p::B).map gx).Perm (gx p::(A++B).map gx):=by
   rw[←List.map_cons]
   exact List.perm_middle.map gx
  rw[hp.nodup_iff,List.nodup_cons]
  refine ⟨fun hx=>?_,h1⟩
  obtain ⟨x,hx,e⟩:=List.mem_map.1 hx
  unfold gx at e
  exact h2 x hx ⟨congrArg Prod.fst e,congrArg Prod.snd e⟩
 rcases yY L p with ⟨A,q,B,rfl,h1,h2,h3,e⟩ | ⟨A,B,rfl,h3,e⟩
 ·have hk:gx q=gx p:=by unfold gx; rw[h1,h2]
  rw[e]
  refine ⟨?_,fun x hx=>?_,fun x hx=>?_⟩
  ·have:=s.nd
   rw[List.map_append,List.map_cons] at this ⊢
   rwa [hk] at this
  ·rcases List.mem_append.1 hx with hx | hx
   ·exact s.ok x (List.mem_append_left _ hx)
   ·rcases List.mem_cons.1 hx with rfl | hx
    ·exact ok
    ·exact s.ok x (List.mem_append_right _ (.tail _ hx))
  ·rcases List.mem_append.1 hx with hx | hx
   ·exact s.sub x (List.mem_append_left _ hx)
   ·rcases List.mem_cons.1 hx with rfl | hx
    ·exact hm
    ·exact s.sub x (List.mem_append_right _ (.tail _ hx))
 ·rw[e]
  have mem:∀x,x∈A++p::B→x=p∨x∈A++B:=fun x hx=>by
   rcases List.mem_append.1 hx with hx | hx
   ·exact .inr (List.mem_append_left _ hx)
   ·rcases List.mem_cons.1 hx with rfl | hx
    ·exact .inl rfl
    ·exact .inr (List.mem_append_right _ hx)
  refine ⟨key A B s.nd h3,fun x hx=>?_,fun x hx=>?_⟩
  ·rcases mem x hx with rfl | hx
   ·exact ok
   ·exact s.ok x hx
  ·rcases mem x hx with rfl | hx
   ·exact hm
   ·exact s.sub x hx
theorem tZ (L:List L4) (t r:Int):(bS L t r).Sublist L:=List.filter_sublist
theorem mg.drop {M:List (Int × Int)} {L:List L4} (s:mg M L) (t r:Int):mg M (bS L t r):=
 ⟨s.nd.sublist ((tZ L t r).map gx),fun p hp=>s.ok p ((tZ L t r).subset hp),fun p hp=>s.sub p ((tZ L t r).subset hp)⟩
theorem Lj {α:Type} [DecidableEq α]:∀(L M:List α),L.Nodup→(∀x∈L,x∈M)→L.length≤M.length:=by
 intro L
 induction L with
 | nil=>intro M _ _; exact Nat.zero_le _
 | cons x L ih=>
  intro M h1 h2
  rw[List.nodup_cons] at h1
  have hx:=h2 x (.head _)
  have:=ih (M.erase x) h1.2 fun y hy=>(List.mem_erase_of_ne (by rintro rfl; exact h1.1 hy)).2 (h2 y (.tail _ hy))
  rw[List.length_erase_of_mem hx] at this
  have hp:=List.length_pos_of_mem hx
  rw[List.length_cons]; omega
theorem mg.len {M:List (Int × Int)} {L:List L4} (s:mg M L):L.length≤M.length:=by
 have:=Lj (L.map gx) M s.nd fun x hx=>by
  obtain ⟨p,hp,rfl⟩:=List.mem_map.1 hx
  exact s.sub p hp
 rwa [List.length_map] at this
theorem mg.PG {M:List (Int × Int)} {L:List L4} (s:mg M L) {t r:Int} (h:aN L t r≠0):(bS L t r).length+1=L.length:=by
 obtain ⟨p,hp,rfl,rfl,he⟩:=tY h
 have nd:=s.nd
 clear he h s
 unfold bS
 induction L with
 | nil=>cases hp
 | cons q L ih=>
  rw[List.map_cons,List.nodup_cons] at nd
  rw[List.filter_cons]
  rcases List.mem_cons.1 hp with rfl | hp'
  ·rw[ff.2 ⟨rfl,rfl⟩,if_neg (by decide),List.length_cons]
   congr 1
   rw[List.filter_eq_self.2]
   intro x hx
   rw[Bool.not_eq_true',kR]
   rintro ⟨e1,e2⟩
   exact nd.1 (List.mem_map.2 ⟨x,hx,by unfold gx; rw[e1,e2]⟩)
  ·have hn:gN p.t p.r q=false:=kR.2 fun e=>nd.1 (List.mem_map.2 ⟨p,hp',by unfold gx; rw[e.1,e.2]⟩)
   rw[hn,if_pos (by decide),List.length_cons,List.length_cons,ih hp' nd.2]
theorem Zw {t r:Int}:∀a∈me t r,a_ a.1 a.2≠-1:=by
 intro a ha
 unfold me at ha
 split at ha
 ·rw[List.mem_singleton] at ha; subst ha; decide
 ·split at ha
  ·rename_i h2
   rcases List.mem_cons.1 ha with rfl | ha
   ·decide
   ·rw[List.mem_singleton] at ha; subst ha
    show a_ t (-1)≠-1
    unfold a_ at h2 ⊢
    split at h2
    ·cases h2
    ·split at h2
     ·cases h2
     ·split at h2
      ·rename_i h3
       rw[if_neg (by rintro ⟨rfl,_⟩; revert h3; unfold FN; simp),if_pos ⟨h3.1,rfl⟩]
       decide
      ·cases h2
  ·cases ha
theorem S6 {m:Int} (h:kn m=true) (h0:m≠0):kn (lX m)=true∧lX m≠0:=by
 have key:∀i:Nat,i<7→(i:Int)≠0→kn (lX (i:Nat))=true∧lX (i:Nat)≠0:=by decide +kernel
 obtain ⟨i,hi,rfl⟩:=jF h
 exact key i hi h0
theorem Fz {f:Int→Int→Int} (hf:∀t r,kn (f t r)=true) {t r m:Int} (ok:a_ t r≠-1) (hm:kn m=true) (h0:m≠0):pW (jx f t r m)∧(jx f t r m).length≤3∧∀p∈jx f t r m,(p.1,p.2.1)=(t,r)∨(p.1,p.2.1)∈me t r:=by
 obtain ⟨pk,p0⟩:=S6 hm h0
 unfold jx
 split
 ·exact ⟨fun p hp=>(by cases hp),Nat.zero_le _,fun p hp=>by cases hp⟩
 ·have hu:=Jv f m (me t r)
  have hal:=vM t r
  have mem:∀p∈K_ f m (me t r),∃a∈me t r,p=(a.1,a.2,bR (f a.1 a.2) (lX m)):=by
   intro p hp
   unfold K_ at hp
   obtain ⟨a,ha,rfl⟩:=List.mem_map.1 hp
   exact ⟨a,(List.mem_filter.1 ha).1,rfl⟩
  refine ⟨fun p hp=>?_,by rw[List.length_append,List.length_singleton]; omega,fun p hp=>?_⟩
  ·rcases List.mem_append.1 hp with hp | hp
   ·obtain ⟨a,ha,rfl⟩:=mem p hp
    obtain ⟨q1,q2,_⟩:=je (hf a.1 a.2) pk p0
    exact ⟨Zw a ha,q2,q1⟩
   ·rw[List.mem_singleton] at hp; subst hp
    obtain ⟨q1,q2,_⟩:=je (hf t r) hm h0
    exact ⟨ok,q2,q1⟩
  ·rcases List.mem_append.1 hp with hp | hp
   ·obtain ⟨a,ha,rfl⟩:=mem p hp
    exact .inr ha
   ·rw[List.mem_singleton] at hp; subst hp
    exact .inl rfl
theorem Ll {β:Type} {fl:β} (a b c d:Int) (h:Heap) (κ:Value→Heap→β):qq fl false 1 3 (.agg ⟨[.int .i64 a,.int .i64 b,.int .i64 c,.int .i64 d]⟩) h κ=κ (.int .i64 d) h:=id rfl
section
variable {h h':Heap} {A:WA} {a:TA} {N:Nat} {d:TD} {R:RD} {H X:Int→Int→Int} {E:EN} {D:AD}
theorem HA (s:WS h A a N d R) (κ:KQ) (hk:κ (.int .i64 (A.n:Int)) h):CallW Tryz.prog 122 [.pointer (some ⟨A.wb,0,none⟩)] h κ:=by
 have gw:=s.r.gw
 refine an mixed ?_
 rw[VM]
 simp(disch:=first|omega|simp only[Wd]<;>omega|rfl)only[Wz,f_,az,gw]
 exact hk
theorem PI (s:y8 h a N d) (hlo:h.lo≤h.nx) (κ:KQ) (hk:∀h',Le h h'→κ (qm a.c) h'):CallW Tryz.prog 176 [.pointer (some ⟨a.tb,0,none⟩)] h κ:=by
 refine an mixed ?_
 rw[Wi]
 have gt:=s.is.lJ
 have ht:=s.is.YA
 simp(disch:=first|omega|simp only[Wd]<;>omega|rfl)only[Wz,mT,az,gt]
 exact hk _ ((Le.refl h).new _)
theorem S7 (s:WS h A a N d R) (κ:KQ) (hk:∀h',Le h h'→κ (qm a.c) h'):CallW Tryz.prog 124 [.pointer (some ⟨A.wb,0,none⟩)] h κ:=by
 have gw:=s.r.gw
 have BL:=s.r.BL
 have hlo:=s.lo
 refine an mixed ?_
 rw[VO]
 simp(disch:=first|omega|simp only[Wd]<;>omega|rfl)only[Wz,f_,az,gw]
 have Je:=(Le.refl h).new (aa [.int .i64 0,.int .i64 0,.int .i64 0,.int .i64 0] 115 false)
 have sB:=s.le Je
 refine PI sB.t (by show h.lo≤h.nx+1; omega) _ ?_
 intro h1 bF
 have n1:h.nx+1≤h1.nx:=bF.nx
 have l1:h1.lo=h.lo:=bF.lo
 have g:=(bF.get h.nx (Nat.lt_succ_self _)).trans (T.af _ _ _)
 simp(disch:=first|omega|simp only[Wd]<;>omega|rfl)only[Wz,qm,g]
 exact hk _ ((Je.trans bF).set (Nat.le_refl _) _)
theorem Zx (jJ most:Int) (h1:jJ<0) (h2:0≤most) (h3:most≤8) (h:Heap) (κ:KQ) (hlo:h.lo≤h.nx)
  (hk:∀pb lb h',Le h h'→h.nx≤lb→h.nx≤pb→pb<h'.nx→lb<h'.nx→h'.bl.get pb=some (aa [pt lb,.int .i64 jJ,.int .i64 most] 227 false)→h'.bl.get lb=some (aa [.slice none 0 0] 288 false)→κ (.tuple ⟨[pt pb,.int .i64 0]⟩) h') :
  CallW Tryz.prog 123 [.int .i64 jJ,.int .i64 most] h κ:=by
 refine an mixed ?_
 rw[VN]
 simp(disch:=first|omega|simp only[Wd]<;>omega|rfl)only[Wz]
 exact hk (h.nx+1) h.nx _ (((Le.refl h).new _).new _) (Nat.le_refl _) (Nat.le_succ _) (by show h.nx+1<h.nx+1+1; omega) (by show h.nx<h.nx+1+1; omega) (T.af _ _ _) ((T.ai _ _ (by omega)).trans (T.af _ _ _))
theorem Zy (W:∀y out,WI h A a H X N 0 y out) (hn:1≤A.n) (hc:0≤a.c.P∧a.c.P≤8) (κ:KQ)
  (hk:∀h' z,AI h' ⟨A,a,z⟩ H X N ⟨0,[],[],[]⟩→z.most=a.c.P→Le h h'→κ (.tuple ⟨[pt z.ab,.int .i64 0]⟩) h') :
  CallW Tryz.prog 72 [.pointer (some ⟨A.wb,0,none⟩),.int .i64 ((0:Nat):Int)] h κ:=by
 obtain ⟨⟨d,R,N0,s1,s2,s3,s4,s5,s6,sc,t⟩,s7,s8⟩:=W ⟨0,0,0,0,0,0,0⟩ 0
 have hlo:=s1.lo
 refine an mixed ?_
 rw[abu]
 have e0:((0:Nat):Int)=0:=rfl
 simp(disch:=first|omega|simp only[Wd]<;>omega|rfl)only[Wz,f_,IX,e0]
 refine HA s1 _ ?_
 simp(disch:=first|omega|simp only[Wd]<;>omega|rfl)only[Wz,aV (show ¬(A.n:Int)≤0 by omega),eY (show (0:Int)<(A.n:Int) by omega),IW]
 refine S7 s1 _ ?_
 intro h1 bF
 have n1:=bF.nx
 have l1:=bF.lo
 simp(disch:=first|omega|simp only[Wd]<;>omega|rfl)only[Wz,qm,Ll]
 refine Zx (-1) a.c.P (by decide) hc.1 hc.2 h1 _ (by omega) ?_
 intro pb lb h2 bt q1 q2 q3 q4 g1 g2
 have n2:=bt.nx
 have l2:=bt.lo
 simp(disch:=first|omega|simp only[Wd]<;>omega|rfl)only[Wz]
 have cr:=(Le.refl h2).new (aa [pt A.wb,.int .i64 0,.int .i64 0,.slice none 0 0,.slice none 0 0,pt pb,.pointer none] 155 false)
 refine hk _ ⟨h2.nx,pb,lb,A.wb,0,a.c.P⟩ ⟨fun y o=>(W y o).le ((bF.trans bt).trans cr),⟨⟨Nat.lt_succ_self _,by show h2.lo≤h2.nx; omega⟩,⟨.slice none 0 0,.slice none 0 0,T.af _ _ _,jf.nil _,jf.nil _⟩,⟨by show pb<h2.nx+1; omega,by show h2.lo≤pb; omega⟩,(cr.get _ q3).trans g1,⟨by show lb<h2.nx+1; omega,by show h2.lo≤lb; omega⟩,.slice none 0 0,(cr.get _ q4).trans g2,jf.nil _⟩,rfl,rfl⟩ rfl ((bF.trans bt).trans cr)
theorem Zz (s:AI h E H X N D) (κ:KQ) (hk:κ (.int .i64 D.jJ) h):CallW Tryz.prog 28 [pt E.z.ab] h κ:=by
 obtain ⟨va,vh,ga,_,_⟩:=s.ag
 refine an mixed ?_
 rw[abc]
 simp(disch:=first|omega|simp only[Wd]<;>omega|rfl)only[Wz,jW,az,ga]
 exact hk
theorem FA (s:AI h E H X N D) (l2:D.asked.length≤1000) (κ:KQ) (hk:∀v h',qU h h' v D.asked→Le h h'→κ v h'):CallW Tryz.prog 27 [pt E.z.ab] h κ:=by
 obtain ⟨va,vh,ga,sa,_⟩:=s.ag
 refine an mixed ?_
 rw[abb]
 simp(disch:=first|omega|simp only[Wd]<;>omega|rfl)only[Wz,jW,az,ga]
 refine sC D.asked h va _ sa.1 (by omega) s.lo ?_
 intro v h1 o1 bF
 exact hk v h1 o1 bF
theorem JA (s:AI h E H X N D) (l2:D.aY.length≤1000) (κ:KQ) (hk:∀v h',qU h h' v D.aY→Le h h'→κ v h'):CallW Tryz.prog 29 [pt E.z.ab] h κ:=by
 obtain ⟨va,vh,ga,_,_⟩:=s.ag
 refine an mixed ?_
 rw[abd]
 simp(disch:=first|omega|simp only[Wd]<;>omega|rfl)only[Wz,jW,az,ga]
 refine BY s.g (by omega) s.lo _ ?_
 intro v h1 o1 bF
 exact hk v h1 o1 bF
theorem Lm (s:AI h E H X N D) (h0:D.jJ=0) (x:Int) (hx:1≤x) (κ:KQ) (hk:∀h',AI h' E H X N { D with jJ:=x }→FK E.a h h'→κ (.int .i64 0) h'):CallW Tryz.prog 35 [pt E.z.ab,.int .i64 x] h κ:=by
 obtain ⟨va,vh,ga,sa,sh⟩:=s.ag
 have nL:=s.g.y_
 obtain ⟨va0,vh0,g1,_,_⟩:=s.g.ga
 have q:=s.g.set (D':={ D with jJ:=x }) (Zo:=none) sa sh rfl
 have hp:=fun ob y' o'=>(s.w y' o').put g1 (by unfold oS; decide) (by unfold lW; decide) ob
 have fp:=fun ob=>FK.put (a:=E.a) g1 (.inl rfl) ob
 unfold agO at q
 rw[s.wb,s.th] at q
 refine an mixed ?_
 rw[abe]
 simp(disch:=first|omega|simp only[Wd]<;>omega|rfl)only[Wz,jW,cW (show 1≤x from hx),az,ga,bg h0,IK]
 exact hk _ ⟨hp _,q,s.wb,s.th⟩ (fp _)
end
theorem PJ {h h':Heap} {a:TA} {N:Nat} {d:TD} {H X:Int→Int→Int} (s:y8 h a N d) (L:Lone d.Ts H X) {v:Value} {D:List L4} {K:List HE} (t:OS h' d.Ts v D K) {LL:List (Int × Int)} (nd:LL.Nodup) (hH:∀t r,H t r≠0↔(t,r)∈LL):D.length=LL.length:=by
 have h1:∀K':List HE,(∀k∈K',(jQ k).length=1)→(K'.flatMap jQ).length=K'.length:=by
  intro K' hk
  induction K' with
  | nil=>rfl
  | cons k K' ih=>
   rw[List.flatMap_cons,List.length_append,hk k (.head _),ih fun x hx=>hk x (.tail _ hx),List.length_cons]; omega
 have h2:(K.flatMap jQ).length=K.length:=h1 K fun k hk=>by
  obtain ⟨b,hb,e,he,se⟩:=t.each k hk
  obtain ⟨id,hQ,hm⟩:=L.one b hb e he
  unfold jQ oR
  rw[se.2.2.2,hQ]
  simp[hm]
 have h3:((d.Ts.flatMap fun b=>b.M.map dS)).Perm LL:=by
  refine (List.perm_ext_iff_of_nodup s.nodup nd).2 fun p=>?_
  rw[←hH p.1 p.2,List.mem_flatMap]
  constructor
  ·rintro ⟨b,hb,hp⟩
   obtain ⟨e,he,rfl⟩:=List.mem_map.1 hp
   exact (L.one b hb e he).choose_spec.2
  ·intro hn
   obtain ⟨b,hb,e,he,e1,e2⟩:=L.all p.1 p.2 hn
   exact ⟨b,hb,List.mem_map.2 ⟨e,he,Prod.ext e1 e2⟩⟩
 have h4:=(t.names.trans h3).length_eq
 rw[List.length_map] at h4
 rw[t.perm.length_eq,h2,h4]
section
variable {h h':Heap} {A:WA} {a:TA} {N n:Nat} {H X:Int→Int→Int} {y:iA} {out:Int}
theorem JB (s:WI h A a H X N n y out) {LL:List (Int × Int)} (nd:LL.Nodup) (hH:∀t r,H t r≠0↔(t,r)∈LL) (κ:KQ) (hk:∀x cap h',Le h h'→κ (.slice x LL.length cap) h'):CallW Tryz.prog 16 [.pointer (some ⟨A.wb,0,none⟩)] h κ:=by
 obtain ⟨⟨d,R,N0,s1,s2,_⟩,_,_⟩:=s
 have gw:=s1.r.gw
 refine an mixed ?_
 rw[aa5]
 simp(disch:=first|omega|simp only[Wd]<;>omega|rfl)only[Wz,f_,az,gw]
 refine YF s1.t s1.lo _ ?_
 intro v h' D K t le
 obtain ⟨x,cap,ev,_⟩:=(show Sl bH h' v D from t.sl)
 have hl:=PJ s1.t s2 t nd hH
 rw[ev,hl]
 exact hk x cap h' le
end
structure HB (E:EN) (S:Nat→Nat→Heap→Prop) (Post:Nat→Int→Heap→Prop):Prop where
 le:∀i n h,S i n h→(n=3∨n=2∨n=1)∧i≤62
 s32:∀i n h (κ:KQ),S i (n+1) h→n≠0→(∀h',S (i+1) n h'→κ (.tuple ⟨[.bool false,.int .i64 0,.int .i64 0]⟩) h')→CallW Tryz.prog 74 [pt E.z.ab] h κ
 s1:∀i h (κ:KQ),S i 1 h→(∀h',S (i+1) 3 h'→κ (.tuple ⟨[.bool false,.int .i64 0,.int .i64 0]⟩) h')→(∀code h',Post i code h'→κ (.tuple ⟨[.bool true,.int .i64 code,.int .i64 0]⟩) h')→CallW Tryz.prog 74 [pt E.z.ab] h κ
theorem FC (L:List L4) (p:L4):(cD L p).length≤L.length+1:=by
 rcases yY L p with ⟨A,q,B,rfl,_,_,_,e⟩ | ⟨A,B,rfl,_,e⟩
 ·rw[e]; simp
 ·rw[e]; simp; omega
theorem PK (L:List L4) (p:L4):gM (aN L) p.t p.r p.m=aN (cD L p):=by
 funext t r
 rw[mX]
 unfold gM
 by_cases h:t=p.t∧r=p.r
 ·rw[if_pos h,if_pos ⟨h.1.symm,h.2.symm⟩]
 ·rw[if_neg h,if_neg fun e=>h ⟨e.1.symm,e.2.symm⟩]
theorem Ln (L:List L4) (t r:Int):gM (aN L) t r 0=aN (bS L t r):=by
 funext t' r'
 rw[gj]
 unfold gM
 by_cases h:t'=t∧r'=r
 ·rw[if_pos h,if_pos ⟨h.1.symm,h.2.symm⟩]
 ·rw[if_neg h,if_neg fun e=>h ⟨e.1.symm,e.2.symm⟩]
def jy (x:Int) (has:List L4) (p:N3):L4:=⟨x,p.1,p.2.1,bR (aN has p.1 p.2.1) p.2.2⟩
structure S8 (x:Int) (J:Nat→List L4→List N3→Prop) (F:Nat→List L4→Prop):Prop where
 bnd:∀i has p P,J i has (p::P)→i≤60∧has.length≤999∧(p::P).length≤100∧pW (p::P)∧∀t r,kn (aN has t r)=true
 fin:∀i has p P,J i has (p::P)→eX (cD has (jy x has p)) (p::P)=[]→F (i+2) (cD has (jy x has p))
 nxt:∀i has p P q Q,J i has (p::P)→eX (cD has (jy x has p)) (p::P)=q::Q→J (i+3) (cD has (jy x has p)) (q::Q)
 kn:∀i has p P,J i has (p::P)→∀t r,kn (aN (cD has (jy x has p)) t r)=true
structure adM (E:EN) (h0:Heap) (x:Int) (asked:List L4) (t r m w:Int) (N0:Nat) (J:Nat→List L4→List N3→Prop) (i n:Nat) (h:Heap):Prop where
 ex:∃(i0:Nat) (has:List L4) (p:N3) (P:List N3) (N kb:Nat) (H:Int→Int→Int) (out:Int) (c:CD),i+n=i0+3∧J i0 has (p::P)∧AW h E H (fun _ _=>x) N n (nR ⟨x,asked,has,[]⟩ c p) out ⟨x,asked,has,[]⟩ kb c∧c.dK=p::P∧c.ask=nR ⟨x,asked,has,[]⟩ c p∧
  c.Zn=126∧c.code=0∧c.t=t∧c.r=r∧c.m=m∧c.w=w∧3*N≤3*N0+i0+2∧FK E.a h0 h∧
  ((n≠1∧H=aN has)∨(n=1∧((out=1∧H=aN (cD has (jy x has p)))∨(out=5∧H=aN has∧8≤N))))
 n3:n=3∨n=2∨n=1
def adN (E:EN) (h0:Heap) (x:Int) (asked:List L4) (t r m:Int) (N0:Nat) (J:Nat→List L4→List N3→Prop) (F:Nat→List L4→Prop) (i:Nat) (code:Int) (h:Heap):Prop:=
 ∃has asked' N,AI h E (aN has) (fun _ _=>x) N ⟨x,asked',has,[]⟩∧FK E.a h0 h∧3*N≤3*N0+i+2∧((code=1∧asked'=cD asked ⟨x,t,r,bR (aN asked t r) m⟩∧F i has)∨(code=5∧asked'=asked∧8≤N∧∃i0 p P,i=i0+2∧J i0 has (p::P)))
theorem S9 {E:EN} {h0:Heap} {x:Int} (hx:0≤x) {asked:List L4} {t r m w:Int} {N0:Nat} {J:Nat→List L4→List N3→Prop} {F:Nat→List L4→Prop} (C:S8 x J F) (hN0:N0≤800) (la:asked.length≤1000) (hw:0≤w) (hm:kn m=true) :
  HB E (adM E h0 x asked t r m w N0 J) (adN E h0 x asked t r m N0 J F):=by
 refine ⟨fun i n h s=>?_,fun i n h κ s hn hk=>?_,fun i h κ s dy hk2=>?_⟩
 ·obtain ⟨⟨i0,has,p,P,N,kb,H,out,c,e1,hJ,_⟩,n3⟩:=s
  have:=(C.bnd i0 has p P hJ).1
  exact ⟨n3,by omega⟩
 ·obtain ⟨⟨i0,has,p,P,N,kb,H,out,c,e1,hJ,s,c1,c2,c3,c4,c5,c6,c7,c8,c9,f,hH⟩,n3⟩:=s
  obtain ⟨b1,b2,b3,b4,b5⟩:=C.bnd i0 has p P hJ
  have ok:=b4 p (.head _)
  have hE:H=aN has:=by
   rcases hH with ⟨_,e⟩ | ⟨e,_⟩
   ·exact e
   ·omega
  have Hy:c.ask.k≠0:=by rw[c2]; show (1:Int)≠0; decide
  refine yV s (by omega) Hy (adM E h0 x asked t r m w N0 J (i+1) n) ?_ κ hk
  intro κ1 dy
  have n2:n=2∨n=1:=by omega
  rcases n2 with rfl | rfl
  ·refine tU s.w κ1 fun h' w' k'=>dy h' ⟨⟨i0,has,p,P,N,kb,H,out,c,by omega,hJ,s.wk w' k',c1,c2,c3,c4,c5,c6,c7,c8,c9,f.trans k'.fk,.inl ⟨by decide,hE⟩⟩,.inr (.inl rfl)⟩
  ·refine yO s.w (by omega) rfl (fun _=>hx) κ1 ?_ ?_ ?_ ?_
   ·intro _ h' w' k'
    refine dy h' ⟨⟨i0,has,p,P,N,kb,_,1,c,by omega,hJ,s.wk w' k',c1,c2,c3,c4,c5,c6,c7,c8,c9,f.trans k'.fk,.inr ⟨rfl,.inl ⟨rfl,?_⟩⟩⟩,.inr (.inr rfl)⟩
    rw[←PK,hE]
    show gM (aN has) p.1 p.2.1 (bR (aN has p.1 p.2.1) (bR (aN has p.1 p.2.1) p.2.2))=_
    rw[(je (b5 _ _) ok.2.1 ok.2.2).2.2.1]
    rfl
   ·intro _ _ h8 h' w' k'
    exact dy h' ⟨⟨i0,has,p,P,N,kb,_,5,c,by omega,hJ,s.wk w' k',c1,c2,c3,c4,c5,c6,c7,c8,c9,f.trans k'.fk,.inr ⟨rfl,.inr ⟨rfl,hE,h8⟩⟩⟩,.inr (.inr rfl)⟩
   ·intro e; exact absurd e (by show ¬(1:Int)=2; decide)
   ·intro e; exact absurd e (by show ¬(1:Int)=3; decide)
 ·obtain ⟨⟨i0,has,p,P,N,kb,H,out,c,e1,hJ,s,c1,c2,c3,c4,c5,c6,c7,c8,c9,f,hH⟩,n3⟩:=s
  obtain ⟨b1,b2,b3,b4,b5⟩:=C.bnd i0 has p P hJ
  have ok:=b4 p (.head _)
  have hi:i=i0+2:=by omega
  have Hy:c.ask.k≠0:=by rw[c2]; show (1:Int)≠0; decide
  have air:c.ask.k=1:=by rw[c2]; rfl
  have ham:c.ask.m=bR (aN has p.1 p.2.1) p.2.2:=by rw[c2]; rfl
  refine yW s Hy κ ?_
  intro h1 s1 f1
  rw[c3]
  refine Lg s1 (p:=p) (P:=P) c1 air (by show has.length≤1000; omega) out _ ?_ ?_
  ·intro ho h2 s2 f2
   have hH:out=5∧H=aN has∧8≤N:=by
    rcases hH with ⟨e,_⟩ | ⟨_,⟨e,_⟩ | e⟩
    ·exact absurd rfl e
    ·exact absurd e ho
    ·exact e
   obtain ⟨e1,e2,e3⟩:=hH
   refine ⟨H,_,N,0,_,_,_,_,s2,f2,fun e=>?_,fun _=>⟨rfl,fun h3 a3 f3=>?_⟩⟩
   ·exact absurd (show out=0 from e) (by omega)
   ·refine hk2 out h3 ⟨has,asked,N,by rw[←e2]; exact a3,((f.trans f1).trans f2).trans f3,by omega,.inr ⟨e1,rfl,e3,i0,p,P,hi,hJ⟩⟩
  ·intro ho h2 s2 f2
   have hH:H=aN (cD has (jy x has p)):=by
    rcases hH with ⟨e,_⟩ | ⟨_,⟨_,e⟩ | ⟨e,_⟩⟩
    ·exact absurd rfl e
    ·exact e
    ·omega
   have eD:(⟨x,asked,cD has ⟨x,p.1,p.2.1,c.ask.m⟩,[]⟩:AD)=⟨x,asked,cD has (jy x has p),[]⟩:=by rw[ham]; rfl
   have s2':AW h2 E H (fun _ _=>x) N 0 (nR ⟨x,asked,has,[]⟩ c p) out ⟨x,asked,cD has (jy x has p),[]⟩ kb { c with seen:=true }:=by
    have:=s2
    rw[ham] at this
    exact this
   have PZ:=FC has (jy x has p)
   refine Jy s2' (by omega) rfl (by show (cD has (jy x has p)).length≤1000; omega) la (by show c.dK.length≤100; rw[c1]; exact b3) (by show 0≤c.w; omega) (by show kn c.m=true; rw[c7]; exact hm) (by show pW c.dK; rw[c1]; exact b4) (C.kn i0 has p P hJ) 0 _ ?_ ?_
   ·intro hL h3 s3 f3
    have hL:eX (cD has (jy x has p)) (p::P)=[]:=by rw[←c1]; exact hL
    refine ⟨H,_,N,0,_,_,_,_,s3,f2.trans f3,fun e=>?_,fun _=>⟨rfl,fun h4 a4 f4=>?_⟩⟩
    ·exact absurd (show (1:Int)=0 from e) (by decide)
    ·refine hk2 1 h4 ⟨_,_,N,by rw[←hH]; exact a4,(((f.trans f1).trans f2).trans f3).trans f4,by omega,.inl ⟨rfl,?_,?_⟩⟩
     ·show cD asked ⟨x,c.t,c.r,bR (aN asked c.t c.r) c.m⟩=_
      rw[c5,c6,c7]
     ·rw[hi]; exact C.fin i0 has p P hJ hL
   ·intro q Q hL h3 s3 f3
    have hL:eX (cD has (jy x has p)) (p::P)=q::Q:=by rw[←c1]; exact hL
    refine ⟨H,_,N+1,3,_,_,_,_,s3,f2.trans f3,fun _=>?_,fun e=>absurd c4 e⟩
    refine dy h3 ⟨⟨i0+3,_,q,Q,N+1,kb,H,0,{ c with seen:=true,dK:=q::Q,ask:=nR ⟨x,asked,cD has (jy x has p),[]⟩ c q },by omega,C.nxt i0 has p P q Q hJ hL,s3,rfl,rfl,c3,c4,c5,c6,c7,c8,by omega,((f.trans f1).trans f2).trans f3,.inl ⟨by decide,hH⟩⟩,.inl rfl⟩
structure adO (E:EN) (h0:Heap) (x:Int) (asked has:List L4) (t r:Int) (N:Nat) (i n:Nat) (h:Heap):Prop where
 ex:∃(kb:Nat) (H:Int→Int→Int) (out:Int) (c:CD),i+n=4∧AW h E H (fun _ _=>x) N n (yS ⟨x,asked,has,[]⟩ t r) out ⟨x,asked,has,[]⟩ kb c∧c.ask=yS ⟨x,asked,has,[]⟩ t r∧
  c.Zn=132∧c.code=0∧c.t=t∧c.r=r∧FK E.a h0 h∧(n≠1→H=aN has)∧(n=1→H=aN (bS has t r))
 n3:n=3∨n=2∨n=1
def ais (E:EN) (h0:Heap) (x:Int) (asked has:List L4) (t r:Int) (N:Nat) (i:Nat) (code:Int) (h:Heap):Prop:=
 code=1∧AI h E (aN (bS has t r)) (fun _ _=>x) N ⟨x,asked,bS has t r,[]⟩∧FK E.a h0 h
theorem S_ {E:EN} {h0:Heap} {x:Int} (hx:0≤x) {asked has:List L4} {t r:Int} {N:Nat} (hN:N≤900) (lh:has.length≤1000) :
  HB E (adO E h0 x asked has t r N) (ais E h0 x asked has t r N):=by
 refine ⟨fun i n h s=>?_,fun i n h κ s hn hk=>?_,fun i h κ s dy hk2=>?_⟩
 ·obtain ⟨⟨kb,H,out,c,e1,_⟩,n3⟩:=s
  exact ⟨n3,by omega⟩
 ·obtain ⟨⟨kb,H,out,c,e1,s,c2,c3,c4,c5,c6,f,hH,_⟩,n3⟩:=s
  have hE:H=aN has:=hH (by omega)
  have Hy:c.ask.k≠0:=by rw[c2]; show (2:Int)≠0; decide
  refine yV s (by omega) Hy (adO E h0 x asked has t r N (i+1) n) ?_ κ hk
  intro κ1 dy
  have n2:n=2∨n=1:=by omega
  rcases n2 with rfl | rfl
  ·refine tU s.w κ1 fun h' w' k'=>dy h' ⟨⟨kb,H,out,c,by omega,s.wk w' k',c2,c3,c4,c5,c6,f.trans k'.fk,fun _=>hE,fun e=>by omega⟩,.inr (.inl rfl)⟩
  ·refine yO s.w (by omega) rfl (fun _=>hx) κ1 ?_ ?_ ?_ ?_
   ·intro e; exact absurd e (by show ¬(2:Int)=1; decide)
   ·intro e; exact absurd e (by show ¬(2:Int)=1; decide)
   ·intro _ h' w' k'
    refine dy h' ⟨⟨kb,_,_,c,by omega,s.wk w' k',c2,c3,c4,c5,c6,f.trans k'.fk,fun e=>absurd rfl e,fun _=>?_⟩,.inr (.inr rfl)⟩
    rw[hE]
    exact Ln has t r
   ·intro e; exact absurd e (by show ¬(2:Int)=3; decide)
 ·obtain ⟨⟨kb,H,out,c,e1,s,c2,c3,c4,c5,c6,f,_,hH⟩,n3⟩:=s
  have hH:=hH rfl
  have Hy:c.ask.k≠0:=by rw[c2]; show (2:Int)≠0; decide
  refine yW s Hy κ ?_
  intro h1 s1 f1
  rw[c3]
  refine Fw s1 lh out _ ?_
  intro h2 s2 f2
  refine ⟨H,_,N,0,_,_,_,_,s2,f2,fun e=>?_,fun _=>⟨rfl,fun h3 a3 f3=>?_⟩⟩
  ·exact absurd (show (1:Int)=0 from e) (by decide)
  ·refine hk2 1 h3 ⟨rfl,?_,((f.trans f1).trans f2).trans f3⟩
   have:=a3
   rw[hH] at this
   show AI h3 E _ _ N ⟨x,asked,bS has t r,[]⟩
   have e9:({ (⟨x,asked,has,[]⟩:AD) with has:=bS has c.t c.r }:AD)=⟨x,asked,bS has t r,[]⟩:=by rw[c5,c6]
   rw[←e9]; exact this
def oV (E:EN) (aY:List L4) (g:L4):List L4:=if tV g.t g.r g.m=true∧0<E.z.most-aY.length then cD aY ⟨-1-E.z.th,g.t,g.r,g.m⟩ else aY
structure UJ (E:EN) (x:Int) (M:List (Int × Int)) (has aY:List L4) (H X:Int→Int→Int):Prop where
 h:mg M has
 p:mg M aY
 dis:∀t r,aN has t r≠0→aN aY t r=0
 le:(aY.length:Int)≤E.z.most
 H:∀t r,H t r=if aN has t r≠0 then aN has t r else aN aY t r
 X:∀t r,aN has t r≠0→X t r=x
section
variable {E:EN} {x:Int} {M:List (Int × Int)} {has aY:List L4} {H X:Int→Int→Int}
theorem sE {t r t' r':Int} (h:aN (bS has t r) t' r'≠0):¬(t=t'∧r=r')∧aN has t' r'≠0:=by
 rw[gj] at h
 by_cases e:t=t'∧r=r'
 ·rw[if_pos e] at h; exact absurd rfl h
 ·rw[if_neg e] at h; exact ⟨e,h⟩
theorem UJ.drop (s:UJ E x M has aY H X) {g:L4} (hg:g∈has) (hn:¬(tV g.t g.r g.m=true∧0<E.z.most-aY.length)):UJ E x M (bS has g.t g.r) (oV E aY g) (gM H g.t g.r 0) X:=by
 have e0:oV E aY g=aY:=if_neg hn
 rw[e0]
 have Ta:aN has g.t g.r≠0:=by rw[s.h.mode hg]; exact (s.h.ok g hg).2.2
 refine ⟨s.h.drop _ _,s.p,fun t r h=>s.dis t r (sE h).2,s.le,fun t r=>?_,fun t r h=>s.X t r (sE h).2⟩
 by_cases e:g.t=t∧g.r=r
 ·have e1:aN (bS has g.t g.r) t r=0:=by rw[gj,if_pos e]
  rw[e1,if_neg (fun h=>h rfl),←e.1,←e.2,pS,s.dis _ _ Ta]
 ·have e1:aN (bS has g.t g.r) t r=aN has t r:=by rw[gj,if_neg e]
  rw[e1,jV H fun h=>e ⟨h.1.symm,h.2.symm⟩]
  exact s.H t r
theorem UJ.hand (s:UJ E x M has aY H X) {g:L4} (hg:g∈has) (hn:tV g.t g.r g.m=true∧0<E.z.most-aY.length) (to:Int):UJ E x M (bS has g.t g.r) (oV E aY g) H (gM X g.t g.r to):=by
 have e0:oV E aY g=cD aY ⟨-1-E.z.th,g.t,g.r,g.m⟩:=if_pos hn
 rw[e0]
 have Ta:aN has g.t g.r≠0:=by rw[s.h.mode hg]; exact (s.h.ok g hg).2.2
 refine ⟨s.h.drop _ _,s.p.put (s.h.ok g hg) (s.h.sub g hg),fun t r h=>?_,?_,fun t r=>?_,fun t r h=>?_⟩
 ·obtain ⟨h1,h2⟩:=sE h
  rw[mX,if_neg h1]
  exact s.dis t r h2
 ·have:=FC aY ⟨-1-E.z.th,g.t,g.r,g.m⟩
  omega
 ·have hH:=s.H t r
  by_cases e:g.t=t∧g.r=r
  ·have e1:aN (bS has g.t g.r) t r=0:=by rw[gj,if_pos e]
   have e2:aN (cD aY ⟨-1-E.z.th,g.t,g.r,g.m⟩) t r=g.m:=by rw[mX,if_pos e]
   rw[e1,if_neg (fun h=>h rfl),e2,hH,←e.1,←e.2,if_pos Ta,s.h.mode hg]
  ·have e1:aN (bS has g.t g.r) t r=aN has t r:=by rw[gj,if_neg e]
   have e2:aN (cD aY ⟨-1-E.z.th,g.t,g.r,g.m⟩) t r=aN aY t r:=by rw[mX,if_neg e]
   rw[e1,e2]
   exact hH
 ·obtain ⟨h1,h2⟩:=sE h
  rw[jV X fun e=>h1 ⟨e.1.symm,e.2.symm⟩]
  exact s.X t r h2
theorem Lo {g:L4} {G:List L4} (s:mg M has) (hp:(g::G).Perm has):G.Perm (bS has g.t g.r):=by
 have h1:bS (g::G) g.t g.r=G:=by
  have nd:((g::G).map gx).Nodup:=((hp.map gx).nodup_iff).2 s.nd
  rw[List.map_cons,List.nodup_cons] at nd
  unfold bS
  rw[List.filter_cons,ff.2 ⟨rfl,rfl⟩,if_neg (by decide),List.filter_eq_self.2]
  intro y hy
  rw[Bool.not_eq_true',kR]
  rintro ⟨e1,e2⟩
  exact nd.1 (List.mem_map.2 ⟨y,hy,by unfold gx; rw[e1,e2]⟩)
 have h2:(bS (g::G) g.t g.r).Perm (bS has g.t g.r):=hp.filter _
 rwa [h1] at h2
end
theorem JC {E:EN} {D:AD} {g:L4}:(sH E D g).k≠0∧(sH E D g).k≠1:=by
 unfold sH
 split
 ·exact ⟨show (3:Int)≠0 by decide,show (3:Int)≠1 by decide⟩
 ·exact ⟨show (2:Int)≠0 by decide,show (2:Int)≠1 by decide⟩
structure SGo (E:EN) (h0:Heap) (x:Int) (M:List (Int × Int)) (asked:List L4) (N0 L0:Nat) (i n:Nat) (h:Heap):Prop where
 ex:∃(i0:Nat) (g:L4) (G has aY:List L4) (N kb:Nat) (H X H0 X0:Int→Int→Int) (out:Int) (c:CD),i+n=i0+3∧i0+3*(G.length+1)≤1+3*L0∧AW h E H X N n (sH E ⟨x,asked,has,aY⟩ g) out ⟨x,asked,has,aY⟩ kb c∧c.goes=g::G∧(g::G).Perm has∧c.ask=sH E ⟨x,asked,has,aY⟩ g∧
  c.Zn=191∧c.code=0∧3*N≤3*N0+i0+2∧FK E.a h0 h∧UJ E x M has aY H0 X0∧(n≠1→H=H0∧X=X0)∧(n=1→out=1∧UJ E x M (bS has g.t g.r) (oV E aY g) H X)
 n3:n=3∨n=2∨n=1
def PGo (E:EN) (h0:Heap) (M:List (Int × Int)) (i:Nat) (code:Int) (h:Heap):Prop:=
 code=1∧∃aY X N,AI h E (aN aY) X N ⟨0,[],[],aY⟩∧mg M aY∧(aY.length:Int)≤E.z.most∧FK E.a h0 h
theorem go_run {E:EN} {h0:Heap} {x:Int} (hx:1≤x) {M:List (Int × Int)} (hM:M.length≤19) {asked:List L4} {N0 L0:Nat} (hL0:L0≤19) (hN0:N0≤800) (uO:0≤E.z.most∧E.z.most≤8) (AG:E.z.th=0) :
  HB E (SGo E h0 x M asked N0 L0) (PGo E h0 M):=by
 refine ⟨fun i n h s=>?_,fun i n h κ s hn hk=>?_,fun i h κ s dy hk2=>?_⟩
 ·obtain ⟨⟨i0,g,G,has,aY,N,kb,H,X,H0,X0,out,c,e1,e2,_⟩,n3⟩:=s
  exact ⟨n3,by omega⟩
 ·obtain ⟨⟨i0,g,G,has,aY,N,kb,H,X,H0,X0,out,c,e1,e2,s,c1,hp,c2,c3,c4,c5,f,P,hH,_⟩,n3⟩:=s
  obtain ⟨rfl,rfl⟩:=hH (by omega)
  have hg:g∈has:=hp.mem_iff.1 (.head _)
  have Ta:aN has g.t g.r≠0:=by rw[P.h.mode hg]; exact (P.h.ok g hg).2.2
  have Hy:c.ask.k≠0:=by rw[c2]; exact JC.1
  have Qw:(sH E ⟨x,asked,has,aY⟩ g).x=X (sH E ⟨x,asked,has,aY⟩ g).t (sH E ⟨x,asked,has,aY⟩ g).r:=by
   unfold sH; split<;>exact (P.X _ _ Ta).symm
  have hg0:(sH E ⟨x,asked,has,aY⟩ g).t=g.t∧(sH E ⟨x,asked,has,aY⟩ g).r=g.r∧(sH E ⟨x,asked,has,aY⟩ g).x=x:=by
   unfold sH; split<;>exact ⟨rfl,rfl,rfl⟩
  have hHg:H g.t g.r≠0:=by rw[P.H,if_pos Ta]; exact Ta
  refine yV s (by omega) Hy (SGo E h0 x M asked N0 L0 (i+1) n) ?_ κ hk
  intro κ1 dy
  have n2:n=2∨n=1:=by omega
  rcases n2 with rfl | rfl
  ·refine tU s.w κ1 fun h' w' k'=>dy h' ⟨⟨i0,g,G,has,aY,N,kb,H,X,H,X,out,c,by omega,e2,s.wk w' k',c1,hp,c2,c3,c4,c5,f.trans k'.fk,P,fun _=>⟨rfl,rfl⟩,fun e=>by omega⟩,.inr (.inl rfl)⟩
  ·refine yO s.w (by omega) Qw (fun _=>by rw[hg0.2.2]; omega) κ1 ?_ ?_ ?_ ?_
   ·intro e; exact absurd e JC.2
   ·intro e; exact absurd e JC.2
   ·intro e h' w' k'
    have hn:¬(tV g.t g.r g.m=true∧0<E.z.most-aY.length):=by
     intro hc; unfold sH at e; rw[if_pos hc] at e; exact absurd e (by show ¬(3:Int)=2; decide)
    rw[hg0.1,hg0.2.1] at w'
    rw[if_neg hHg] at w'
    exact dy h' ⟨⟨i0,g,G,has,aY,N,kb,_,X,H,X,1,c,by omega,e2,s.wk w' k',c1,hp,c2,c3,c4,c5,f.trans k'.fk,P,fun e=>absurd rfl e,fun _=>⟨rfl,P.drop hg hn⟩⟩,.inr (.inr rfl)⟩
   ·intro e h' w' k'
    have hn:tV g.t g.r g.m=true∧0<E.z.most-aY.length:=by
     refine Classical.byContradiction fun hc=>?_
     unfold sH at e; rw[if_neg hc] at e; exact absurd e (by show ¬(2:Int)=3; decide)
    unfold BX at w'
    rw[hg0.1,hg0.2.1] at w'
    rw[if_neg hHg,if_neg hHg] at w'
    exact dy h' ⟨⟨i0,g,G,has,aY,N,kb,_,_,H,X,1,c,by omega,e2,s.wk w' k',c1,hp,c2,c3,c4,c5,f.trans k'.fk,P,fun e=>absurd rfl e,fun _=>⟨rfl,P.hand hg hn _⟩⟩,.inr (.inr rfl)⟩
 ·obtain ⟨⟨i0,g,G,has,aY,N,kb,H,X,H0,X0,out,c,e1,e2,s,c1,hp,c2,c3,c4,c5,f,P,_,hH⟩,n3⟩:=s
  obtain ⟨rfl,P'⟩:=hH rfl
  have hg:g∈has:=hp.mem_iff.1 (.head _)
  have Ta:aN has g.t g.r≠0:=by rw[P.h.mode hg]; exact (P.h.ok g hg).2.2
  have Hy:c.ask.k≠0:=by rw[c2]; exact JC.1
  have hi:i=i0+2:=by omega
  have lh:=P.h.len
  have lp:=P.p.len
  have lp':=P'.p.len
  have lh':=P'.h.len
  have hpG:=Lo P.h hp
  have hGl:=hpG.length_eq
  have adR:(if c.ask.k=3∧(1:Int)=1 then BZ E.z.most (-1-E.z.th) aY g.t g.r g.m else aY)=oV E aY g:=by
   rw[c2]
   unfold sH oV
   by_cases hn:tV g.t g.r g.m=true∧0<E.z.most-aY.length
   ·rw[if_pos hn,if_pos hn,if_pos ⟨rfl,rfl⟩]
    unfold BZ
    rw[if_neg (by rw[hn.1]; decide),if_neg (fun h=>h (P.dis _ _ Ta)),if_neg (by omega)]
   ·rw[if_neg hn,if_neg hn,if_neg (fun e=>absurd e.1 (by show ¬(2:Int)=3; decide))]
  refine yW s Hy κ ?_
  intro h1 s1 f1
  rw[c3]
  refine Li s1 uO (by show has.length≤1000; omega) (by show aY.length≤1000; omega) (g:=g) (G:=G) c1 1 _ ?_
  intro h2 s2 f2
  have eD:qo E ⟨x,asked,has,aY⟩ { c with seen:=true } g 1=⟨x,asked,bS has g.t g.r,oV E aY g⟩:=by
   unfold qo
   rw[adR]
  rw[eD] at s2
  refine Jz s2 (by omega) uO (by show (oV E aY g).length≤1000; omega) (by show G.length≤1000; omega) (fun q hq=>?_) (by show x≠-1-E.z.th; omega) 0 _ ?_ ?_
  ·exact (P'.h.ok q (hpG.mem_iff.1 hq)).1
  ·intro hG h3 s3 f3
   have hG:G=[]:=hG
   have hh0:bS has g.t g.r=[]:=by rw[hG] at hpG; exact List.Perm.eq_nil hpG.symm
   refine ⟨H,X,N,0,_,_,_,_,s3,f2.trans f3,fun e=>?_,fun _=>⟨rfl,fun h4 a4 f4=>?_⟩⟩
   ·exact absurd (show (1:Int)=0 from e) (by decide)
   ·refine hk2 1 h4 ⟨rfl,oV E aY g,X,N,?_,P'.p,P'.le,(((f.trans f1).trans f2).trans f3).trans f4⟩
    have eH:H=aN (oV E aY g):=by
     funext t r
     rw[P'.H t r,hh0]
     exact if_neg (fun h=>h rfl)
    rw[←eH]; exact a4
  ·intro q Q hG h3 s3 f3
   have hG:G=q::Q:=hG
   refine ⟨H,X,N+1,3,_,_,_,_,s3,f2.trans f3,fun _=>?_,fun e=>absurd c4 e⟩
   refine dy h3 ⟨⟨i0+3,q,Q,_,_,N+1,kb,H,X,H,X,0,_,by omega,?_,s3,hG,by rw[←hG]; exact hpG,rfl,c3,c4,by omega,((f.trans f1).trans f2).trans f3,P',fun _=>⟨rfl,rfl⟩,fun e=>by omega⟩,.inl rfl⟩
   have:G.length=Q.length+1:=by rw[hG]; rfl
   omega
theorem mY (n:Int) {m:Int} (hm:1≤m):0≤dh n m∧dh n m<m:=by
 have h2:=Int.tmod_lt_of_pos n (show 0<m by omega)
 have h3:=Int.lt_tmod_of_pos n (show 0<m by omega)
 unfold dh
 rw[if_neg (by omega)]
 split<;>omega
theorem Tb (n:Int) {h:Heap} {κ:Value→Heap→Prop} (hk:κ (.int .i64 (1+dh n 6)) h):CallW Tryz.prog 26 [.int .i64 n] h κ:=by
 have:=mY n (show (1:Int)≤6 by decide)
 refine an mixed ?_
 rw[aba]
 refine GV n 6 (by decide) ?_
 simp(disch:=first|omega|simp only[Wd]<;>omega|rfl)only[Wz]
 exact hk
theorem PL (t r:Int) (h:Heap) (κ:KQ) (hlo:h.lo≤h.nx) (hk:∀h',Le h h'→κ (cN t r) h'):CallW Tryz.prog 71 [.int .i64 t,.int .i64 r] h κ:=by
 refine an mixed ?_
 rw[abt]
 simp(disch:=first|omega|simp only[Wd]<;>omega|rfl)only[Wz]
 exact hk _ ((Le.refl h).new _)
theorem adS (h:Heap) (κ:KQ) (hlo:h.lo≤h.nx) (hk:∀h',Le h h'→κ (cN (-1) (-1)) h'):CallW Tryz.prog 75 [] h κ:=by
 refine an mixed ?_
 rw[abw]
 simp(disch:=first|omega|simp only[Wd]<;>omega|rfl)only[Wz]
 exact hk _ ((Le.refl h).new _)
def B0 (p:Int):N2:=if p=0 then (-1,-1) else if p<4 then (p-1,-1) else (Int.tdiv (p-4) 3,Int.tmod (p-4) 3)
def HD:List (Int × Int):=[(-1,-1),(0,-1),(1,-1),(2,-1),(0,0),(0,1),(0,2),(1,0),(1,1),(1,2),(2,0),(2,1),(2,2)]
theorem ZA {p:Int} (h0:0≤p) (h1:p<13):B0 p∈HD:=by
 have key:∀i:Nat,i<13→B0 (i:Int)∈HD:=by decide +kernel
 obtain ⟨i,rfl⟩:=Int.eq_ofNat_of_zero_le h0
 exact key i (by omega)
theorem ZB:∀p∈HD,a_ p.1 p.2≠-1∧∀a∈me p.1 p.2,a∈HD:=by decide +kernel
theorem Tc (n:Int) (h:Heap) (κ:KQ) (hlo:h.lo≤h.nx) (hk:∀h',Le h h'→κ (cN (B0 (dh n 13)).1 (B0 (dh n 13)).2) h'):CallW Tryz.prog 25 [.int .i64 n] h κ:=by
 have hp:=mY n (show (1:Int)≤13 by decide)
 refine an mixed ?_
 rw[aa_]
 simp(disch:=first|omega|simp only[Wd]<;>omega|rfl)only[Wz]
 obtain ⟨hA,aH⟩:∃hA:Heap,hA=⟨h.nx+1,(h.bl.aT (h.nx) (aa [.int .i64 0,.int .i64 0] 28 false)),h.lo⟩:=⟨_,rfl⟩
 have aL:Le h hA:=by subst aH; exact ((Le.refl h).new _)
 have g1:hA.bl.get (h.nx)=some (aa [.int .i64 0,.int .i64 0] 28 false):=by subst aH; exact T.af _ _ _
 have ef:hA.nx=h.nx+1:=by subst aH; rfl
 have ej:hA.lo=h.lo:=by subst aH; rfl
 rw[←aH]
 try rw[show (h.bl.aT (h.nx) (aa [.int .i64 0,.int .i64 0] 28 false))=hA.bl by rw[aH]]
 clear aH
 refine GV n 13 (by decide) ?_
 generalize dh n 13=p at *
 by_cases e0:p=0
 ·simp(disch:=first|omega|simp only[Wd]<;>omega|rfl)only[Wz,bg e0]
  refine adS hA _ (by omega) ?_
  intro h1 bF
  have n1:=bF.nx
  have l1:=bF.lo
  have Jq:=bF.nx
  have Jr:=bF.lo
  have g1:=(bF.get _ (by omega)).trans g1
  simp(disch:=first|omega|simp only[Wd]<;>omega|rfl)only[Wz,cN,g1]
  unfold B0 at hk
  rw[if_pos e0] at hk
  exact hk _ ((aL.trans bF).set (Nat.le_refl _) _)
 ·by_cases e4:p<4
  ·simp(disch:=first|omega|simp only[Wd]<;>omega|rfl)only[Wz,aV e0,Bo,eY e4]
   refine YO (p-1) hA _ (by omega) ?_
   intro h1 bF
   have n1:=bF.nx
   have l1:=bF.lo
   have Jq:=bF.nx
   have Jr:=bF.lo
   have g1:=(bF.get _ (by omega)).trans g1
   simp(disch:=first|omega|simp only[Wd]<;>omega|rfl)only[Wz,cN,g1]
   unfold B0 at hk
   rw[if_neg e0,if_pos e4] at hk
   exact hk _ ((aL.trans bF).set (Nat.le_refl _) _)
  ·have q1:0≤Int.tdiv (p-4) 3∧Int.tdiv (p-4) 3≤p-4:=by
    rw[Int.tdiv_eq_ediv_of_nonneg (by omega)]
    omega
   simp(disch:=first|omega|simp only[Wd]<;>omega|rfl)only[Wz,aV e0,Bo,cW (show 4≤p by omega),IJ,Bb,Bc]
   refine PL (Int.tdiv (p-4) 3) (Int.tmod (p-4) 3) hA _ (by omega) ?_
   intro h1 bF
   have n1:=bF.nx
   have l1:=bF.lo
   have Jq:=bF.nx
   have Jr:=bF.lo
   have g1:=(bF.get _ (by omega)).trans g1
   simp(disch:=first|omega|simp only[Wd]<;>omega|rfl)only[Wz,cN,g1]
   unfold B0 at hk
   rw[if_neg e0,if_neg e4] at hk
   exact hk _ ((aL.trans bF).set (Nat.le_refl _) _)
theorem yZ (t r m:Int) (h:Heap) (κ:KQ) (hlo:h.lo≤h.nx) (hk:∀h',Le h h'→κ (.agg ⟨[.int .i64 1,.int .i64 0,.int .i64 t,.int .i64 r,.int .i64 m,.int .i64 0]⟩) h'):CallW Tryz.prog 24 [cN t r,.int .i64 m] h κ:=by
 refine an mixed ?_
 rw[aa9]
 simp(disch:=first|omega|simp only[Wd]<;>omega|rfl)only[Wz,cN]
 exact hk _ (((Le.refl h).new _).new _)
theorem uN.fk {h0 h1 h2:Heap} (ro:uN h0) (l:Le h0 h1) {a:TA} (k:FK a h1 h2):Le h0 h2:=
 ⟨Nat.le_trans l.nx k.nx,k.lo.trans l.lo,fun d hd=>by
  have e:=l.get d hd
  exact (k.ro d (Nat.lt_of_lt_of_le hd l.nx) (fun vs t o=>by rw[e]; exact (ro d).1 vs t o) (fun es c=>by rw[e]; exact (ro d).2 es c)).trans e⟩
structure Imm (E:EN) (Post:Nat→Int→Heap→Prop) (h2:Heap):Prop where
 ex:∃(kb:Nat) (H X:Int→Int→Int) (N:Nat) (y:iA) (out:Int) (D:AD) (c:CD),AW h2 E H X N 0 y out D kb c∧c.ask.k=0∧∀h3,AI h3 E H X N D→FK E.a h2 h3→Post 1 c.code h3
theorem pX {E:EN} {S:Nat→Nat→Heap→Prop} {Post:Nat→Int→Heap→Prop} (R:HB E S Post) (hi:∀i n h,S i n h→i≤59) {h:Heap} {H X:Int→Int→Int} {N:Nat} {D:AD} (s:AI h E H X N D) (ht:D.jJ≠0) (l1:D.has.length≤1000) (l2:D.asked.length≤1000) (k t r m:Int) (hm:Fy k t r m 0=true) (κ:KQ)
  (hk:∀h' kb,AW h' E H X N 0 mW 0 D kb (gf E.z D k t r m 0)→FK E.a h h'→CallW Tryz.prog (yX k) [pt E.z.ab] h' fun _ h2=>S 1 3 h2∨Imm E Post h2)
  (hκ:∀i code h',1≤i→i≤59→Post i code h'→κ (.tuple ⟨[.int .i64 code,.int .i64 (i:Int),.bool true]⟩) h') :
  CallW Tryz.prog 23 [pt E.z.ab,.agg ⟨[.int .i64 k,.int .i64 0,.int .i64 t,.int .i64 r,.int .i64 m,.int .i64 0]⟩] h κ:=by
 have hlo:=s.lo
 refine an mixed ?_
 rw[aa8]
 simp(disch:=first|omega|simp only[Wd]<;>omega|rfl)only[Wz]
 obtain ⟨hA,aH⟩:∃hA:Heap,hA=⟨h.nx+1,(h.bl.aT (h.nx) (aa [.int .i64 k,.int .i64 0,.int .i64 t,.int .i64 r,.int .i64 m,.int .i64 0] 66 false)),h.lo⟩:=⟨_,rfl⟩
 have aL:Le h hA:=by subst aH; exact ((Le.refl h).new _)
 have gA:hA.bl.get (h.nx)=some (aa [.int .i64 k,.int .i64 0,.int .i64 t,.int .i64 r,.int .i64 m,.int .i64 0] 66 false):=by subst aH; exact T.af _ _ _
 have ef:hA.nx=h.nx+1:=by subst aH; rfl
 have ej:hA.lo=h.lo:=by subst aH; rfl
 rw[←aH]
 try rw[show (h.bl.aT (h.nx) (aa [.int .i64 k,.int .i64 0,.int .i64 t,.int .i64 r,.int .i64 m,.int .i64 0] 66 false))=hA.bl by rw[aH]]
 clear aH
 refine S5 (s.le aL) ht l1 l2 k t r m 0 hm _ ?_
 intro h1 kb s1 f1
 refine CallW.mono (hk h1 kb s1 ((FK.le aL).trans f1)) ?_
 rintro u h2 q
 simp(disch:=first|omega|simp only[Wd]<;>omega|rfl)only[Wz]
 refine ⟨fun j l h3=>∃i:Nat,slot l 21=.int .i64 (i:Int)∧j=60-i∧1≤i∧((i≤59∧∃n,S i n h3)∨(i=1∧Imm E Post h3)),⟨_,1,rfl,rfl,Nat.le_refl _,q.elim (fun q=>.inl ⟨by decide,3,q⟩) fun q=>.inr ⟨rfl,q⟩⟩,?_⟩
 rintro j l h3 ⟨i,e21,rfl,i1,q⟩
 have i59:i≤59:=by
  rcases q with ⟨q,_⟩ | ⟨q,_⟩<;>omega
 simp(disch:=first|omega|simp only[Wd]<;>omega|rfl)only[Wz,e21,eY (show (i:Int)<60 by omega),II]
 have go:∀h4 n,S (i+1) n h4→∃i':Nat,((i:Int)+1=(i':Int))∧60-i'<60-i∧1≤i'∧((i'≤59∧∃n,S i' n h4)∨(i'=1∧Imm E Post h4)):=fun h4 n s4=>⟨i+1,by omega,by omega,by omega,.inl ⟨hi _ _ _ s4,n,s4⟩⟩
 rcases q with ⟨_,n,q⟩ | ⟨rfl,q⟩
 ·rcases (R.le i n h3 q).1 with rfl | rfl | rfl
  ·refine R.s32 i 2 h3 _ q (by decide) fun h4 s4=>?_
   simp(disch:=first|omega|simp only[Wd]<;>omega|rfl)only[Wz,e21]
   obtain ⟨i',a1,a2,a3,a4⟩:=go h4 2 s4
   exact ⟨_,a2,i',by rw[←a1],rfl,a3,a4⟩
  ·refine R.s32 i 1 h3 _ q (by decide) fun h4 s4=>?_
   simp(disch:=first|omega|simp only[Wd]<;>omega|rfl)only[Wz,e21]
   obtain ⟨i',a1,a2,a3,a4⟩:=go h4 1 s4
   exact ⟨_,a2,i',by rw[←a1],rfl,a3,a4⟩
  ·refine R.s1 i h3 _ q (fun h4 s4=>?_) fun code h4 p4=>?_
   ·simp(disch:=first|omega|simp only[Wd]<;>omega|rfl)only[Wz,e21]
    obtain ⟨i',a1,a2,a3,a4⟩:=go h4 3 s4
    exact ⟨_,a2,i',by rw[←a1],rfl,a3,a4⟩
   ·simp(disch:=first|omega|simp only[Wd]<;>omega|rfl)only[Wz,e21]
    exact hκ i code h4 i1 i59 p4
 ·obtain ⟨kb',H',X',N',y',o',D',c',s3,hc,hP⟩:=q
  refine PF s3 hc _ ?_
  intro h4 s4 f4
  simp(disch:=first|omega|simp only[Wd]<;>omega|rfl)only[Wz,e21]
  exact hκ 1 c'.code h4 i1 i59 (hP h4 s4 f4)
theorem FD (h:Heap) (hlo:h.lo≤h.nx) (κ:KQ)
  (hk:∀h' E,AI h' E (fun _ _=>0) (fun _ _=>1) 0 ⟨1,[],[],[]⟩→E.z.most=2→FK E.a h h'→κ (.tuple ⟨[.pointer (some ⟨E.A.wb,0,none⟩),pt E.z.ab]⟩) h') :
  CallW Tryz.prog 22 [.int .i64 2] h κ:=by
 refine an mixed ?_
 rw[aa7]
 refine KO h _ hlo ?_
 intro h1 bF
 have n1:=bF.nx
 have l1:=bF.lo
 simp(disch:=first|omega|simp only[Wd]<;>omega|rfl)only[Wz,qm]
 obtain ⟨hA,aH⟩:∃hA:Heap,hA=⟨h1.nx+1,(h1.bl.aT (h1.nx) (aa [.int .i64 p8.S,.int .i64 p8.H,.int .i64 p8.R,.int .i64 2] 115 false)),h1.lo⟩:=⟨_,rfl⟩
 have aL:Le h1 hA:=by subst aH; exact ((Le.refl h1).new _)
 have g1:hA.bl.get (h1.nx)=some (aa [.int .i64 p8.S,.int .i64 p8.H,.int .i64 p8.R,.int .i64 2] 115 false):=by subst aH; exact T.af _ _ _
 have ef:hA.nx=h1.nx+1:=by subst aH; rfl
 have ej:hA.lo=h1.lo:=by subst aH; rfl
 rw[←aH]
 try rw[show (h1.bl.aT (h1.nx) (aa [.int .i64 p8.S,.int .i64 p8.H,.int .i64 p8.R,.int .i64 2] 115 false))=hA.bl by rw[aH]]
 clear aH
 refine YN p8 SD 2 ⟨by decide,by decide⟩ hA (by omega) _ ?_
 intro h2 A a d R nw s2 bt fb
 have n2:=bt.nx
 have l2:=bt.lo
 simp(disch:=first|omega|simp only[Wd]<;>omega|rfl)only[Wz,IG]
 have W:∀y out,WI h2 A a (fun _ _=>0) (fun _ _=>1) 0 0 y out:=fun y out=>
  ⟨⟨d,R,0,s2,nw.lone _,nw.bit (by decide),by rw[nw.begun]; decide,by rw[nw.begun]; decide,by decide,⟨fun b hb=>by rw[nw.em b hb]; exact Nat.le_refl _,by have:=nw.f; have e:p8.R=24:=rfl; omega⟩,.inl ⟨rfl,by rw[nw.cs]; rfl,fun k hk=>by rw[nw.dn,List.getElem?_replicate,if_pos (show k<(p8.S).toNat from hk)]⟩⟩,by rw[nw.ec]; rfl,by have:=nw.hd; have e:p8.H=8:=rfl; omega⟩
 refine Zy W (by rw[nw.en]; decide) (by rw[nw.ec]; decide) _ ?_
 intro h3 z s3 em cr
 simp(disch:=first|omega|simp only[Wd]<;>omega|rfl)only[Wz,jW]
 refine Lm s3 rfl 1 (by decide) _ ?_
 intro h4 s4 f4
 simp(disch:=first|omega|simp only[Wd]<;>omega|rfl)only[Wz]
 exact hk h4 ⟨A,a,z⟩ s4 (by rw[em,nw.ec]; rfl) (((((FK.le bF).trans (FK.le aL)).trans (FK.le bt)).trans (FK.le cr)).trans f4)
theorem HB.mono {E:EN} {S:Nat→Nat→Heap→Prop} {P Q:Nat→Int→Heap→Prop} (R:HB E S P) (hm:∀i c h,P i c h→Q i c h):HB E S Q:=
 ⟨R.le,R.s32,fun i h κ s h1 h2=>R.s1 i h κ s h1 fun c h' p=>h2 c h' (hm _ _ _ p)⟩
section
variable {E:EN} {h:Heap} {x:Int} {N:Nat} {asked has:List L4} {t r m:Int}
theorem FE {J:Nat→List L4→List N3→Prop} {F:Nat→List L4→Prop} (s:AI h E (aN has) (fun _ _=>x) N ⟨x,asked,has,[]⟩) (hx:1≤x) (C:S8 x J F) (hi:∀i has p P,J i has (p::P)→i≤57) (hN:N≤800) (lh:has.length≤1000) (la:asked.length≤1000)
  (hm:kn m=true) (h0:m≠0) (lv:a_ t r≠-1) (kh:∀t r,kn (aN has t r)=true) (ka:kn (aN asked t r)=true)
  (st0:eX has (jx (aN has) t r (bR (aN asked t r) m))=[]→F 1 has)
  (st1:∀p P,eX has (jx (aN has) t r (bR (aN asked t r) m))=p::P→J 1 has (p::P)) (κ:KQ)
  (hκ:∀(i:Nat) code h',1≤i→i≤59→adN E h x asked t r m N J F i code h'→κ (.tuple ⟨[.int .i64 code,.int .i64 (i:Int),.bool true]⟩) h') :
  CallW Tryz.prog 23 [pt E.z.ab,.agg ⟨[.int .i64 1,.int .i64 0,.int .i64 t,.int .i64 r,.int .i64 m,.int .i64 0]⟩] h κ:=by
 have eJ:gf E.z ⟨x,asked,has,[]⟩ 1 t r m 0=⟨1,t,r,m,0,mW,0,126,.func (.func 127) ⟨[pt E.z.ab]⟩ ⟨[]⟩,false,0,jx (aN has) t r (bR (aN asked t r) m),[]⟩:=by unfold gf; rw[if_pos rfl]
 obtain ⟨q0,q1,_⟩:=je ka hm h0
 obtain ⟨pk1,pk2,_⟩:=Fz (f:=aN has) kh lv q1 q0
 refine pX (S9 (h0:=h) (N0:=N) (asked:=asked) (t:=t) (r:=r) (m:=m) (w:=0) (by omega:0≤x) C hN la (Int.le_refl 0) hm) ?_ s (by show x≠0; omega) lh la 1 t r m ?_ κ ?_ hκ
 ·rintro i n h1 ⟨⟨i0,has,p,P,_,_,_,_,_,e1,hJ,_⟩,n3⟩
  have:=hi i0 has p P hJ
  omega
 ·unfold Fy
  rw[if_pos rfl,hm]
  simp[h0,lv]
 ·intro h1 kb s1 f1
  rw[eJ] at s1
  show CallW Tryz.prog 131 [pt E.z.ab] h1 _
  refine Jy s1 (by omega) rfl lh la (by show (jx _ _ _ _).length≤100; omega) (Int.le_refl 0) hm pk1 kh 0 _ ?_ ?_
  ·intro hL h2 s2 f2
   refine .inr ⟨kb,_,_,N,_,_,_,_,s2,rfl,fun h3 a3 f3=>?_⟩
   exact ⟨has,_,N,a3,(f1.trans f2).trans f3,by omega,.inl ⟨rfl,rfl,st0 hL⟩⟩
  ·intro p P hL h2 s2 f2
   exact .inl ⟨⟨1,has,p,P,N+1,kb,_,0,⟨1,t,r,m,0,nR ⟨x,asked,has,[]⟩ ⟨1,t,r,m,0,mW,0,126,.func (.func 127) ⟨[pt E.z.ab]⟩ ⟨[]⟩,false,0,jx (aN has) t r (bR (aN asked t r) m),[]⟩ p,0,126,.func (.func 127) ⟨[pt E.z.ab]⟩ ⟨[]⟩,false,0,p::P,[]⟩,rfl,st1 p P hL,s2,rfl,rfl,rfl,rfl,rfl,rfl,rfl,rfl,by omega,f1.trans f2,.inl ⟨by decide,rfl⟩⟩,.inl rfl⟩
def PM (E:EN) (h0:Heap) (x:Int) (asked has:List L4) (t r:Int) (N i:Nat) (code:Int) (h:Heap):Prop:=
 FK E.a h0 h∧∃N',N'≤N+1∧((aN asked t r=0∧code=6∧i=1∧AI h E (aN has) (fun _ _=>x) N' ⟨x,asked,has,[]⟩)∨(aN asked t r≠0∧code=1∧∃PN,(PN=has∨PN=bS has t r)∧AI h E (aN PN) (fun _ _=>x) N' ⟨x,bS asked t r,PN,[]⟩))
theorem FF (s:AI h E (aN has) (fun _ _=>x) N ⟨x,asked,has,[]⟩) (hx:1≤x) (hN:N≤800) (lh:has.length≤1000) (la:asked.length≤1000) (lv:a_ t r≠-1) (m:Int) (κ:KQ)
  (hκ:∀(i:Nat) code h',1≤i→i≤59→PM E h x asked has t r N i code h'→κ (.tuple ⟨[.int .i64 code,.int .i64 (i:Int),.bool true]⟩) h') :
  CallW Tryz.prog 23 [pt E.z.ab,.agg ⟨[.int .i64 2,.int .i64 0,.int .i64 t,.int .i64 r,.int .i64 m,.int .i64 0]⟩] h κ:=by
 have eJ:gf E.z ⟨x,asked,has,[]⟩ 2 t r m 0=⟨2,t,r,m,0,mW,0,132,.func (.func 133) ⟨[]⟩ ⟨[]⟩,false,0,[],[]⟩:=by unfold gf; rw[if_neg (by decide),if_pos rfl]
 by_cases h0:aN asked t r=0
 ·refine pX (S:=fun _ _ _=>False) (Post:=fun i code h'=>PM E h x asked has t r N i code h') ⟨fun _ _ _ hf=>hf.elim,fun _ _ _ _ hf=>hf.elim,fun _ _ _ hf=>hf.elim⟩ (fun _ _ _ hf=>hf.elim) s (by show x≠0; omega) lh la 2 t r m ?_ κ ?_ hκ
  ·unfold Fy
   rw[if_neg (by decide),if_pos rfl]
   simp[lv]
  ·intro h1 kb s1 f1
   rw[eJ] at s1
   show CallW Tryz.prog 134 [pt E.z.ab] h1 _
   refine yT s1 (by omega) lh la lv 0 _ ?_ ?_ ?_
   ·intro _ h2 s2 f2
    refine .inr ⟨kb,_,_,N,_,_,_,_,s2,rfl,fun h3 a3 f3=>?_⟩
    exact ⟨(f1.trans f2).trans f3,N,by omega,.inl ⟨h0,rfl,rfl,a3⟩⟩
   ·intro e; exact absurd h0 e
   ·intro e; exact absurd h0 e
 ·refine pX (Post:=fun i code h'=>PM E h x asked has t r N i code h') ((S_ (h0:=h) (x:=x) (asked:=bS asked t r) (has:=has) (t:=t) (r:=r) (N:=N+1) (by omega:0≤x) (by omega) lh).mono ?_) ?_ s (by show x≠0; omega) lh la 2 t r m ?_ κ ?_ hκ
  ·rintro i code h1 ⟨rfl,a1,f1⟩
   exact ⟨f1,N+1,Nat.le_refl _,.inr ⟨h0,rfl,_,.inr rfl,a1⟩⟩
  ·rintro i n h1 ⟨⟨_,_,_,_,e1,_⟩,n3⟩
   omega
  ·unfold Fy
   rw[if_neg (by decide),if_pos rfl]
   simp[lv]
  ·intro h1 kb s1 f1
   rw[eJ] at s1
   show CallW Tryz.prog 134 [pt E.z.ab] h1 _
   refine yT s1 (by omega) lh la lv 0 _ ?_ ?_ ?_
   ·intro e; exact absurd e h0
   ·intro _ h2 s2 f2
    refine .inr ⟨kb,_,_,N,_,_,_,_,s2,rfl,fun h3 a3 f3=>?_⟩
    exact ⟨(f1.trans f2).trans f3,N,by omega,.inr ⟨h0,rfl,has,.inl rfl,a3⟩⟩
   ·intro _ _ h2 s2 f2
    exact .inl ⟨⟨kb,_,0,_,rfl,s2,rfl,rfl,rfl,rfl,rfl,f1.trans f2,fun _=>rfl,fun e=>absurd e (by decide)⟩,.inl rfl⟩
theorem PO {M:List (Int × Int)} (hM:M.length≤19) (s:AI h E (aN has) (fun _ _=>x) N ⟨x,asked,has,[]⟩) (hx:1≤x) (hN:N≤800) (oh:mg M has) (la:asked.length≤1000) (uO:0≤E.z.most∧E.z.most≤8) (t r m:Int) (κ:KQ)
  (hκ:∀(i:Nat) code h',1≤i→i≤59→PGo E h M i code h'→κ (.tuple ⟨[.int .i64 code,.int .i64 (i:Int),.bool true]⟩) h') :
  CallW Tryz.prog 23 [pt E.z.ab,.agg ⟨[.int .i64 3,.int .i64 0,.int .i64 t,.int .i64 r,.int .i64 m,.int .i64 0]⟩] h κ:=by
 have eJ:gf E.z ⟨x,asked,has,[]⟩ 3 t r m 0=⟨3,t,r,m,0,mW,0,135,.func (.func 133) ⟨[]⟩ ⟨[]⟩,false,0,[],[]⟩:=by unfold gf; rw[if_neg (by decide),if_neg (by decide)]
 have ll:=oh.len
 have AG:=s.th
 have ZP:x≠-1-E.z.th:=by omega
 refine pX (go_run (h0:=h) (x:=x) (M:=M) (asked:=asked) (N0:=N) (L0:=has.length) hx hM (by omega) hN uO AG) ?_ s (by show x≠0; omega) (by show has.length≤1000; omega) la 3 t r m ?_ κ ?_ hκ
 ·rintro i n h1 ⟨⟨i0,g,G,_,_,_,_,_,_,_,_,_,_,e1,e2,_⟩,n3⟩
  omega
 ·unfold Fy
  rw[if_neg (by decide),if_neg (by decide)]
  simp
 ·intro h1 kb s1 f1
  rw[eJ] at s1
  show CallW Tryz.prog 136 [pt E.z.ab] h1 _
  refine PD s1 rfl (by show has.length<20; omega) (fun g hg=>(oh.ok g hg).1) _ ?_
  intro O h2 hO s2 f2
  have hOl:=hO.length_eq
  have hOl:O.length=has.length:=hOl
  refine Jz s2 (by omega) uO (Nat.zero_le _) (by show O.length≤1000; omega) (fun g hg=>(oh.ok g (hO.mem_iff.1 hg)).1) ZP 0 _ ?_ ?_
  ·intro e h3 s3 f3
   have e:O=[]:=e
   have eh:has=[]:=by rw[e] at hO; exact List.Perm.eq_nil hO.symm
   subst eh
   refine .inr ⟨kb,_,_,N,_,_,_,_,s3,rfl,fun h4 a4 f4=>?_⟩
   exact ⟨rfl,[],_,N,a4,mg.nil M,uO.1,((f1.trans f2).trans f3).trans f4⟩
  ·intro g G e h3 s3 f3
   have e:O=g::G:=e
   have eG:O.length=G.length+1:=by rw[e]; rfl
   refine .inl ⟨⟨1,g,G,has,[],N+1,kb,_,_,aN has,fun _ _=>x,0,_,rfl,by omega,s3,e,by rw[←e]; exact hO,rfl,rfl,rfl,by omega,(f1.trans f2).trans f3,⟨oh,mg.nil M,fun _ _ _=>rfl,uO.1,fun t r=>?_,fun _ _ _=>rfl⟩,fun _=>⟨rfl,rfl⟩,fun e=>absurd e (by decide)⟩,.inl rfl⟩
   by_cases hz:aN has t r=0
   ·rw[if_neg (fun e=>e hz),hz]; rfl
   ·rw[if_pos hz]
end
structure JL (M:List (Int × Int)) (i:Nat) (has:List L4) (P:List N3):Prop where
 i1:1≤i
 le:i+3*P.length≤10
 ok:mg M has
 nd:pW P
 sub:∀p∈P,(p.1,p.2.1)∈M
def FL (M:List (Int × Int)) (i:Nat) (has:List L4):Prop:=mg M has
theorem PR {a b:Int} (ha:kn a=true) (hb:kn b=true):jT (bR a b) b=true:=by
 have key:∀i:Nat,i<7→∀j:Nat,j<7→jT (bR (i:Nat) (j:Nat)) (j:Nat)=true:=by decide +kernel
 obtain ⟨i,hi,rfl⟩:=jF ha
 obtain ⟨j,hj,rfl⟩:=jF hb
 exact key i hi j hj
section
variable {M:List (Int × Int)} {has:List L4} {x:Int} {p:N3} {P:List N3}
theorem HF (s:mg M has) (ok:a_ p.1 p.2.1≠-1∧kn p.2.2=true∧p.2.2≠0) (hm:(p.1,p.2.1)∈M):mg M (cD has (jy x has p)):=by
 obtain ⟨q1,q2,_⟩:=je (s.FO p.1 p.2.1) ok.2.1 ok.2.2
 exact s.put ⟨ok.1,q2,q1⟩ hm
theorem Td (s:mg M has) (ok:a_ p.1 p.2.1≠-1∧kn p.2.2=true∧p.2.2≠0):kQ (cD has (jy x has p)) p=true:=by
 obtain ⟨q1,q2,_⟩:=je (s.FO p.1 p.2.1) ok.2.1 ok.2.2
 have e:aN (cD has (jy x has p)) p.1 p.2.1=bR (aN has p.1 p.2.1) p.2.2:=by
  rw[mX,if_pos ⟨rfl,rfl⟩]; rfl
 unfold kQ
 rw[e,PR (s.FO _ _) ok.2.1,decide_eq_true q1]; rfl
theorem Te (s:mg M has) (ok:a_ p.1 p.2.1≠-1∧kn p.2.2=true∧p.2.2≠0):eX (cD has (jy x has p)) (p::P)=eX (cD has (jy x has p)) P:=by
 unfold eX
 rw[List.filter_cons,Td s ok]; rfl
theorem aiw (hM:M.length≤19):S8 x (JL M) (FL M):=by
 refine ⟨fun i has p P s=>?_,fun i has p P s _=>?_,fun i has p P q Q s hL=>?_,fun i has p P s t r=>?_⟩
 ·have h1:=s.ok.len
  have h2:=s.le
  exact ⟨by omega,by omega,by omega,s.nd,s.ok.FO⟩
 ·exact HF s.ok (s.nd p (.head _)) (s.sub p (.head _))
 ·rw[Te s.ok (s.nd p (.head _))] at hL
  have h3:(eX (cD has (jy x has p)) P).length≤P.length:=tW _ _
  rw[hL] at h3
  have h2:=s.le
  have hs:∀y∈q::Q,y∈P:=fun y hy=>(List.mem_filter.1 (by rw[←hL] at hy; exact hy)).1
  refine ⟨by omega,?_,HF s.ok (s.nd p (.head _)) (s.sub p (.head _)),fun y hy=>s.nd y (.tail _ (hs y hy)),fun y hy=>s.sub y (.tail _ (hs y hy))⟩
  simp only[List.length_cons] at *
  omega
 ·exact (HF s.ok (s.nd p (.head _)) (s.sub p (.head _))).FO t r
theorem FG (s:mg M has) (t r:Int):aN has t r≠0↔(t,r)∈has.map gx:=by
 constructor
 ·intro h
  obtain ⟨p,hp,rfl,rfl,_⟩:=tY h
  exact List.mem_map.2 ⟨p,hp,rfl⟩
 ·intro h
  obtain ⟨p,hp,e⟩:=List.mem_map.1 h
  have e1:p.t=t:=congrArg Prod.fst e
  have e2:p.r=r:=congrArg Prod.snd e
  rw[←e1,←e2,s.mode hp]
  exact (s.ok p hp).2.2
end
def P3:List N3:=jx (aN []) 3 7 (bR (aN [] 3 7) 6)
def q3 (i:Nat):N3:=P3.getD i (0,0,0)
def G1:List L4:=cD [] (jy 1 [] (q3 0))
def G2:List L4:=cD G1 (jy 1 G1 (q3 1))
def G3:List L4:=cD G2 (jy 1 G2 (q3 2))
def M3:List (Int × Int):=[(-1,-1),(3,-1),(3,7)]
theorem HG:mg M3 G1∧mg M3 G2∧mg M3 G3:=by
 refine ⟨⟨by decide +kernel,by decide +kernel,by decide +kernel⟩,⟨by decide +kernel,by decide +kernel,by decide +kernel⟩,⟨by decide +kernel,by decide +kernel,by decide +kernel⟩⟩
def J3 (i:Nat) (has:List L4) (P:List N3):Prop:=(i=1∧has=[]∧P=[q3 0,q3 1,q3 2])∨(i=4∧has=G1∧P=[q3 1,q3 2])∨(i=7∧has=G2∧P=[q3 2])
def F3 (i:Nat) (has:List L4):Prop:=i=9∧has=G3
theorem UK:eX (cD [] (jy 1 [] (q3 0))) [q3 0,q3 1,q3 2]=[q3 1,q3 2]:=by decide +kernel
theorem UL:eX (cD G1 (jy 1 G1 (q3 1))) [q3 1,q3 2]=[q3 2]:=by decide +kernel
theorem adT:eX (cD G2 (jy 1 G2 (q3 2))) [q3 2]=[]:=by decide +kernel
theorem UM:eX [] P3=[q3 0,q3 1,q3 2]:=by decide +kernel
theorem aix:S8 1 J3 F3:=by
 refine ⟨fun i has p P s=>?_,fun i has p P s hL=>?_,fun i has p P q Q s hL=>?_,fun i has p P s t r=>?_⟩
 ·rcases s with ⟨rfl,rfl,e⟩ | ⟨rfl,rfl,e⟩ | ⟨rfl,rfl,e⟩<;>(rw[e]; refine ⟨by decide,by decide +kernel,by decide +kernel,by unfold pW; decide +kernel,?_⟩)
  ·exact (mg.nil M3).FO
  ·exact HG.1.FO
  ·exact HG.2.1.FO
 ·rcases s with ⟨rfl,rfl,e⟩ | ⟨rfl,rfl,e⟩ | ⟨rfl,rfl,e⟩
  ·rw[e] at hL; cases e; rw[UK] at hL; cases hL
  ·rw[e] at hL; cases e; rw[UL] at hL; cases hL
  ·cases e; exact ⟨rfl,rfl⟩
 ·rcases s with ⟨rfl,rfl,e⟩ | ⟨rfl,rfl,e⟩ | ⟨rfl,rfl,e⟩
  ·rw[e] at hL; cases e; rw[UK] at hL; exact .inr (.inl ⟨rfl,rfl,hL.symm⟩)
  ·rw[e] at hL; cases e; rw[UL] at hL; exact .inr (.inr ⟨rfl,rfl,hL.symm⟩)
  ·rw[e] at hL; cases e; rw[adT] at hL; cases hL
 ·rcases s with ⟨rfl,rfl,e⟩ | ⟨rfl,rfl,e⟩ | ⟨rfl,rfl,e⟩<;>cases e
  ·exact HG.1.FO t r
  ·exact HG.2.1.FO t r
  ·exact HG.2.2.FO t r
theorem PS (h:Heap) (hlo:h.lo≤h.nx) (ro:uN h) (κ:KQ) (hk:∀h',Le h h'→κ (.bool true) h'):CallW Tryz.prog 21 [] h κ:=by
 refine an mixed ?_
 rw[aa6]
 refine FD h hlo _ ?_
 intro h1 E s1 em f1
 simp(disch:=first|omega|simp only[Wd]<;>omega|rfl)only[Wz,f_,IF]
 refine PL 3 7 h1 _ s1.lo ?_
 intro h2 bt
 refine yZ 3 7 6 h2 _ (s1.le bt).lo ?_
 intro h3 cr
 have s3:=s1.le (bt.trans cr)
 refine FE (x:=1) (has:=[]) (asked:=[]) s3 (by decide) aix ?_ (by decide) (by decide) (by decide) (by decide) (by decide) (by decide) (mg.nil M3).FO (by decide) ?_ ?_ _ ?_
 ·rintro i has p P (⟨rfl,_⟩ | ⟨rfl,_⟩ | ⟨rfl,_⟩)<;>decide
 ·intro e
  have e:eX [] P3=[]:=e
  rw[UM] at e; cases e
 ·intro p P e
  have e:eX [] P3=p::P:=e
  rw[UM] at e
  exact .inl ⟨rfl,rfl,e.symm⟩
 ·rintro i code h4 i1 i59 ⟨has,asked',N',a4,f4,hN,hc⟩
  obtain ⟨rfl,rfl,rfl⟩:code=1∧i=9∧has=G3:=by
   rcases hc with ⟨h1,_,h2,h3⟩ | ⟨_,_,h8,i0,p,P,e0,hJ⟩
   ·exact ⟨h1,h2,h3⟩
   ·have:i0≤7:=by rcases hJ with ⟨rfl,_⟩ | ⟨rfl,_⟩ | ⟨rfl,_⟩<;>decide
    omega
  have e9:((9:Nat):Int)=9:=rfl
  rw[e9]
  have jr:=ro.fk ((Le.refl h)) (f1.trans ((FK.le (bt.trans cr)).trans f4))
  simp(disch:=first|omega|simp only[Wd]<;>omega|rfl)only[Wz]
  refine JB (a4.w mW 0) (LL:=G3.map gx) HG.2.2.nd (FG HG.2.2) _ ?_
  intro y cap h5 jB
  have e3:(G3.map gx).length=3:=by decide +kernel
  rw[e3]
  simp(disch:=first|omega|simp only[Wd]<;>omega|rfl)only[Wz]
  exact hk _ (jr.trans jB)
structure Tf (h0:Heap) (E:EN) (i:Nat) (h1:Heap):Prop where
 ex:∃has asked N,AI h1 E (aN has) (fun _ _=>1) N ⟨1,asked,has,[]⟩∧Le h0 h1∧mg HD has∧mg HD asked∧N≤25*i
structure Tg (h0:Heap) (E:EN) (v:Value) (A:List L4) (p i:Nat) (h1:Heap):Prop where
 ex:∃has asked N,AI h1 E (aN has) (fun _ _=>1) N ⟨1,asked,has,[]⟩∧Le h0 h1∧jf h1 v A∧mg HD has∧mg HD asked∧asked.length+i=A.length∧(∀j y,i≤j→j<A.length→A[(j+p) % A.length]? = some y→aN asked y.t y.r≠0)∧N≤200+2*i
theorem ZC {n p i j:Nat} (h1:i<j) (h2:j<n):(i+p) % n≠(j+p) % n:=by
 intro e
 have:=Nat.sub_mod_eq_zero_of_mod_eq e.symm
 rw[show j+p-(i+p)=j-i by omega,Nat.mod_eq_of_lt (by omega)] at this
 omega
theorem Gh {A:List L4} (nd:(A.map gx).Nodup) {a b:Nat} (hne:a≠b) {y z:L4} (ha:A[a]? = some y) (hb:A[b]? = some z):¬(y.t=z.t∧y.r=z.r):=by
 rintro ⟨e1,e2⟩
 have h1:(A.map gx)[a]? = some (gx y):=by rw[List.getElem?_map,ha]; rfl
 have h2:(A.map gx)[b]? = some (gx z):=by rw[List.getElem?_map,hb]; rfl
 have h3:gx y=gx z:=by unfold gx; rw[e1,e2]
 rw[h3] at h1
 obtain ⟨l1,g1⟩:=List.getElem?_eq_some_iff.1 h1
 obtain ⟨l2,g2⟩:=List.getElem?_eq_some_iff.1 h2
 exact hne ((List.getElem_inj nd).1 (g1.trans g2.symm))
theorem ZD {h0:Heap} (ro:uN h0) {E:EN} {L:List N2} {va:Value} (vj:Sl fe h0 va L) {i:Nat} {w:N2} (hw:L[i]? = some w) (hi:i<8) {h:Heap} (s:Tf h0 E i h) (κ:KQ)
  (h5:∀j h',κ (.tuple ⟨[.int .i64 5,.int .i64 j,.bool true]⟩) h') (h1:∀j h',Tf h0 E (i+1) h'→κ (.tuple ⟨[.int .i64 1,.int .i64 j,.bool true]⟩) h') :
  CallW Tryz.prog 23 [pt E.z.ab,.agg ⟨[.int .i64 1,.int .i64 0,.int .i64 (B0 (dh w.1 13)).1,.int .i64 (B0 (dh w.1 13)).2,.int .i64 (1+dh w.2 6),.int .i64 0]⟩] h κ:=by
 obtain ⟨has,asked,N,s,le,oh,oa,hN⟩:=s
 have ln:=mY w.1 (show (1:Int)≤13 by decide)
 have lm:=mY w.2 (show (1:Int)≤6 by decide)
 have hin:=ZA ln.1 ln.2
 obtain ⟨lv,ha⟩:=ZB _ hin
 have hkn:kn (1+dh w.2 6)=true∧1+dh w.2 6≠0:=by
  refine ⟨?_,by omega⟩
  unfold kn
  simp
  omega
 have ZE:HD.length=13:=rfl
 have lh:=oh.len
 have la:=oa.len
 obtain ⟨q0,q1,_⟩:=je (oa.FO (B0 (dh w.1 13)).1 (B0 (dh w.1 13)).2) hkn.1 hkn.2
 obtain ⟨pk1,pk2,pk3⟩:=Fz (f:=aN has) oh.FO lv q1 q0
 refine FE s (by decide) (aiw (M:=HD) (by decide)) ?_ (by omega) (by omega) (by omega) hkn.1 hkn.2 lv oh.FO (oa.FO _ _) (fun _=>oh) ?_ κ ?_
 ·intro i has p P s
  have:=s.le
  simp only[List.length_cons] at this
  omega
 ·intro p P e
  have h3:(eX has (jx (aN has) (B0 (dh w.1 13)).1 (B0 (dh w.1 13)).2 (bR (aN asked (B0 (dh w.1 13)).1 (B0 (dh w.1 13)).2) (1+dh w.2 6)))).length≤_:=tW _ _
  have hs:∀y∈p::P,y∈jx (aN has) (B0 (dh w.1 13)).1 (B0 (dh w.1 13)).2 (bR (aN asked (B0 (dh w.1 13)).1 (B0 (dh w.1 13)).2) (1+dh w.2 6)):=fun y hy=>(List.mem_filter.1 (by rw[←e] at hy; exact hy)).1
  rw[e] at h3
  refine ⟨by decide,by omega,oh,fun y hy=>pk1 y (hs y hy),fun y hy=>?_⟩
  rcases pk3 y (hs y hy) with e | e
  ·rw[e]; exact hin
  ·exact ha _ e
 ·rintro j code h' j1 j59 ⟨PN,asked',N',a',f',hN',⟨rfl,rfl,hF⟩ | ⟨rfl,_⟩⟩
  ·exact h1 _ _ ⟨_,_,N',a',ro.fk le f',hF,oa.put ⟨lv,q1,q0⟩ hin,by omega⟩
  ·exact h5 _ _
theorem Lp {h0:Heap} {E:EN} {v:Value} {A:List L4} {p:Nat} (hA:A.length≤13) {h:Heap} (s:Tg h0 E v A p A.length h) (uO:E.z.most=2) (κ:KQ) (hk:∀h',κ (.bool true) h') :
  Gv (pt E.z.ab) (.pointer (some ⟨E.A.wb,0,none⟩)) h κ:=by
 obtain ⟨has,asked,N,s,le,sv,oh,oa,hl,_,hN⟩:=s
 have ZE:HD.length=13:=rfl
 have la:=oa.len
 simp(disch:=first|omega|simp only[Wd]<;>omega|rfl)only[Wz,Gv]
 refine PO (M:=HD) (by decide) s (by decide) (by omega) oh (by omega) (by omega) 0 0 0 _ ?_
 rintro i code h1 i1 i59 ⟨rfl,aY,X,N1,a1,op,hp,f1⟩
 simp(disch:=first|omega|simp only[Wd]<;>omega|rfl)only[Wz]
 refine Zz a1 _ ?_
 simp(disch:=first|omega|simp only[Wd]<;>omega|rfl)only[Wz]
 refine JB (a1.w mW 0) (LL:=aY.map gx) op.nd (FG op) _ ?_
 intro y cap h2 bt
 have a2:=a1.le bt
 have lp:=op.len
 simp(disch:=first|omega|simp only[Wd]<;>omega|rfl)only[Wz,List.length_map]
 refine JA a2 (by show aY.length≤1000; omega) _ ?_
 intro v3 h3 o3 cr
 have PT:=o3.sl.len (β:=Prop) (fl:=False)
 simp(disch:=first|omega|simp only[Wd]<;>omega|rfl)only[Wz,PT]
 refine JA (a2.le cr) (by show aY.length≤1000; omega) _ ?_
 intro v4 h4 o4 jr
 have PU:=o4.sl.len (β:=Prop) (fl:=False)
 simp(disch:=first|omega|simp only[Wd]<;>omega|rfl)only[Wz,PU]
 exact hk h4
theorem FK.nm {a:TA} {h h':Heap} (f:FK a h h') {b:Nat} {vs:List Value} {o:Bool} (hb:b<h.nx) (g:h.bl.get b=some (aa vs 28 o)):h'.bl.get b=some (aa vs 28 o):=
 (f.ty b vs _ o hb g (by unfold oS; cases o<;>decide) (by unfold lW; cases o<;>decide) (by unfold CTy; decide)).trans g
theorem Lq {h0:Heap} (ro:uN h0) {E:EN} {v:Value} {A:List L4} {p:Nat} {kU:Int} (HT:0<A.length→dh kU A.length=(p:Int)) (hA:A.length≤13) (ndA:(A.map gx).Nodup) (okA:∀y∈A,a_ y.t y.r≠-1) {i:Nat} (hi:i<A.length) {J7:List Value} (e68:slot J7 68=.int .i64 (i:Int)) {h:Heap} (s:Tg h0 E v A p i h) (ZY:List Value→Heap→Prop) (gq:Value) (κ:KQ)
  (hk:∀l h',slot l 68=.int .i64 (((i+1:Nat):Nat):Int)→Tg h0 E v A p (i+1) h'→ZY l h') :
  Gu (.int .i64 kU) (.int .i64 (A.length:Int)) J7 v (pt E.z.ab) ZY gq h κ:=by
 obtain ⟨has,asked,N,s,le,sv,oh,oa,hl,hz,hN⟩:=s
 have ZE:HD.length=13:=rfl
 have la:=oa.len
 have lh:=oh.len
 have hlo:=s.lo
 have hp:dh kU A.length=(p:Int):=HT (by omega)
 have hne:((A.length:Nat):Int)≠0:=by omega
 have aiy:∀(β:Type) (fl:β) (h:Heap) (κ:Value→Heap→β),au fl Tryz.prog .rem 3 false false (.int .i64 ((i:Int)+(p:Int))) (.int .i64 ((A.length:Nat):Int)) h κ=κ (.int .i64 (((i+p) % A.length:Nat):Int)) h:=fun β fl h κ=>Bc _ _ _ _ _ _ _ _ hne
 have hlt:(i+p) % A.length<A.length:=Nat.mod_lt _ (by omega)
 obtain ⟨y,hy⟩:∃y,A[(i+p) % A.length]? = some y:=⟨_,List.getElem?_eq_getElem hlt⟩
 have hyA:y∈A:=List.mem_of_getElem? hy
 have hny:=hz i y (Nat.le_refl _) hi hy
 obtain ⟨b,o,hb,hx,hr4,HU,_⟩:=ldP sv.1 _ hy
 have hpp:0≤dh kU A.length∧dh kU A.length<A.length:=mY kU (by omega)
 simp(disch:=first|omega|simp only[Wd]<;>omega|rfl)only[Wz,Gu]
 refine GV kU A.length (by omega) ?_
 rw[hp]
 simp(disch:=first|omega|simp only[Wd]<;>omega|rfl)only[Wz,e68,aiy,hx,HU]
 obtain ⟨hA,aH⟩:∃hA:Heap,hA=⟨h.nx+1,(h.bl.aT (h.nx) (aa [.int .i64 y.t,.int .i64 y.r] 28 false)),h.lo⟩:=⟨_,rfl⟩
 have aL:Le h hA:=by subst aH; exact ((Le.refl h).new _)
 have gA:hA.bl.get (h.nx)=some (aa [.int .i64 y.t,.int .i64 y.r] 28 false):=by subst aH; exact T.af _ _ _
 have ef:hA.nx=h.nx+1:=by subst aH; rfl
 have ej:hA.lo=h.lo:=by subst aH; rfl
 rw[←aH]
 try rw[show (h.bl.aT (h.nx) (aa [.int .i64 y.t,.int .i64 y.r] 28 false))=hA.bl by rw[aH]]
 clear aH
 refine FF (s.le aL) (by decide) (by omega) (by omega) (by omega) (okA y hyA) 0 _ ?_
 rintro j1 c1 h1 j11 j12 ⟨f1,N1,hN1,⟨e,_⟩ | ⟨_,rfl,Th,Qv,a1⟩⟩
 ·exact absurd e hny
 have oh1:mg HD Th:=by
  rcases Qv with rfl | rfl
  ·exact oh
  ·exact oh.drop _ _
 have lh1:=oh1.len
 have oa1:=oa.drop y.t y.r
 have la1:=oa1.len
 have g1:=f1.nm (by omega) gA
 simp(disch:=first|omega|simp only[Wd]<;>omega|rfl)only[Wz,g1]
 refine FF a1 (by decide) (by omega) (by omega) (by omega) (okA y hyA) 0 _ ?_
 have hz1:aN (bS asked y.t y.r) y.t y.r=0:=by rw[gj,if_pos ⟨rfl,rfl⟩]
 rintro j2 c2 h2 j21 j22 ⟨f2,N2',hN2,q2⟩
 obtain ⟨rfl,rfl,a2⟩:c2=6∧j2=1∧AI h2 E (aN Th) (fun _ _=>1) N2' ⟨1,bS asked y.t y.r,Th,[]⟩:=by
  rcases q2 with ⟨_,e1,e2,a2⟩ | ⟨e,_⟩
  ·exact ⟨e1,e2,a2⟩
  ·exact absurd hz1 e
 have e11:((1:Nat):Int)=1:=rfl
 rw[e11]
 simp(disch:=first|omega|simp only[Wd]<;>omega|rfl)only[Wz]
 refine FA a2 (by show (bS asked y.t y.r).length≤1000; omega) _ ?_
 intro v3 h3 o3 cr
 have PT:=o3.sl.len (β:=Prop) (fl:=False)
 have hdl:=oa.PG hny
 have aiz:((bS asked y.t y.r).length:Int)=(A.length:Int)-(i:Int)-1:=by omega
 simp(disch:=first|omega|simp only[Wd]<;>omega|rfl)only[Wz,PT,e68,bg aiz]
 refine hk _ _ (by rfl) ⟨Th,_,N2',a2.le cr,(ro.fk (le.trans aL) (f1.trans f2)).trans cr,((sv.le aL).fk (f1.trans f2)).le cr,oh1,oa1,by omega,fun j z hj1 hj2 hjz=>?_,by omega⟩
 have hkn:=Gh ndA (ZC (p:=p) (show i<j by omega) hj2) hy hjz
 rw[gj,if_neg hkn]
 exact hz j z (by omega) hj2 hjz
theorem PV (L:List N2) (kU:Int) (h:Heap) (va:Value) (vj:Sl fe h va L) (hlo:h.lo≤h.nx) (ro:uN h) (κ:KQ) (hk:∀h',κ (.bool true) h'):CallW Tryz.prog 4 [va,.int .i64 kU] h κ:=by
 obtain ⟨vx,vc,ev,_⟩:=(show Sl fe h va L from vj)
 have um:∀(β:Type) (fl:β) (h':Heap) (κ:Value→Heap→β),bB fl va h' κ=κ (.int .i64 (L.length:Int)) h':=fun β fl h' κ=>by rw[ev]; exact eV _ _ _ _ _
 refine an mixed ?_
 rw[afO]
 refine PS h hlo ro _ ?_
 intro h1 bF
 have n1:=bF.nx
 have l1:=bF.lo
 by_cases hL:8<L.length
 ·simp(disch:=first|omega|simp only[Wd]<;>omega|rfl)only[Wz,um,eY (show (8:Int)<(L.length:Int) by omega)]
  exact hk _
 simp(disch:=first|omega|simp only[Wd]<;>omega|rfl)only[Wz,um,cW (show (L.length:Int)≤8 by omega),M9]
 refine FD h1 (by omega) _ ?_
 intro h2 E s2 em f2
 simp(disch:=first|omega|simp only[Wd]<;>omega|rfl)only[Wz]
 refine ⟨fun m l h3=>∃i:Nat,slot l 35=.int .i64 (i:Int)∧m=L.length-i∧i≤L.length∧Tf h E i h3,⟨_,0,rfl,rfl,Nat.zero_le _,⟨[],[],0,s2,ro.fk bF f2,mg.nil _,mg.nil _,Nat.zero_le _⟩⟩,?_⟩
 rintro m l h3 ⟨i,e35,rfl,hi,s3⟩
 by_cases hlt:i<L.length
 ·obtain ⟨w,hw⟩:∃w,L[i]? = some w:=⟨_,List.getElem?_eq_getElem hlt⟩
  obtain ⟨b,o,hb,hx,hr⟩:=ldN vj i hw
  have sva:jX 8 va va=true:=by
   obtain ⟨vx',Jt,ev',hx'⟩:=(show Sl fe h va L from vj)
   obtain ⟨b',o',e',_⟩:=hx' (by intro e; rw[e] at hw; cases hw)
   rw[ev',e']; exact gu _ _ _ _
  have rd:∀h',Le h h'→(∀(β:Type) (fl:β) (κ:Value→β),sF fl (h'.bl.get b) o κ=κ (.int .i64 w.1))∧(∀(β:Type) (fl:β) (κ:Value→β),sF fl (h'.bl.get b) (o+1) κ=κ (.int .i64 w.2)):=fun h' le=>by
   rw[le.get b hb]; exact ⟨fun β fl κ=>hr.2.1 β fl κ,fun β fl κ=>hr.2.2 β fl κ⟩
  have cr:Le h h3:=by obtain ⟨has,asked,N,_,le,_⟩:=s3; exact le
  have Zl:h3.lo≤h3.nx:=by have:=cr.lo; have:=cr.nx; omega
  obtain ⟨r1,r2⟩:=rd h3 cr
  simp(disch:=first|omega|simp only[Wd]<;>omega|rfl)only[Wz,um,e35,eY (show (i:Int)<(L.length:Int) by omega),M7,hx,r1,r2,sva]
  refine Tc w.1 h3 _ Zl ?_
  intro h4 jr
  obtain ⟨r3,r4⟩:=rd h4 (cr.trans jr)
  simp(disch:=first|omega|simp only[Wd]<;>omega|rfl)only[Wz,e35,hx,r3,r4,sva]
  refine Tb w.2 ?_
  refine yZ _ _ _ h4 _ (by have:=jr.lo; have:=jr.nx; omega) ?_
  intro h5 jB
  have s5:Tf h E i h5:=by
   obtain ⟨has,asked,N,s,le,r⟩:=s3
   exact ⟨has,asked,N,s.le (jr.trans jB),le.trans (jr.trans jB),r⟩
  refine ZD ro vj hw (by omega) s5 _ ?_ ?_
  ·intro j h6
   simp(disch:=first|omega|simp only[Wd]<;>omega|rfl)only[Wz]
   exact hk _
  ·intro j h6 s6
   simp(disch:=first|omega|simp only[Wd]<;>omega|rfl)only[Wz,e35]
   exact ⟨_,by omega,i+1,by rfl,rfl,by omega,s6⟩
 ·have hi':i=L.length:=by omega
  subst hi'
  obtain ⟨has,asked,N,s3,cr,oh,oa,hN⟩:=s3
  have ZE:HD.length=13:=rfl
  have la:=oa.len
  simp(disch:=first|omega|simp only[Wd]<;>omega|rfl)only[Wz,um,e35,M8]
  refine FA s3 (by show asked.length≤1000; omega) _ ?_
  intro v4 h4 o4 jr
  have sv:=jf.own o4
  have PU:=o4.sl.len (β:=Prop) (fl:=False)
  simp(disch:=first|omega|simp only[Wd]<;>omega|rfl)only[Wz,PU]
  obtain ⟨p,hp⟩:∃p:Nat,0<asked.length→dh kU asked.length=(p:Int):=by
   by_cases h0:0<asked.length
   ·have:=mY kU (m:=(asked.length:Int)) (by omega)
    exact ⟨(dh kU asked.length).toNat,fun _=>by omega⟩
   ·exact ⟨0,fun e=>absurd e h0⟩
  refine ⟨fun m l h5=>∃i:Nat,slot l 68=.int .i64 (i:Int)∧m=asked.length-i∧i≤asked.length∧Tg h E v4 asked p i h5,⟨_,0,rfl,rfl,Nat.zero_le _,⟨has,asked,N,s3.le jr,cr.trans jr,sv,oh,oa,rfl,fun j y _ _ hy=>?_,by omega⟩⟩,?_⟩
  ·have hm:=List.mem_of_getElem? hy
   rw[oa.mode hm]
   exact (oa.ok y hm).2.2
  ·rintro m l' h5 ⟨i,e68,rfl,hi5,s5⟩
   by_cases aiA:i<asked.length
   ·simp(disch:=first|omega|simp only[Wd]<;>omega|rfl)only[Wz,e68,eY (show (i:Int)<(asked.length:Int) by omega)]
    refine Lq ro hp (by omega) oa.nd (fun y hy=>(oa.ok y hy).1) aiA e68 s5 _ _ _ ?_
    intro l6 h6 e6 s6
    exact ⟨_,by omega,i+1,e6,rfl,by omega,s6⟩
   ·have hi':i=asked.length:=by omega
    subst hi'
    simp(disch:=first|omega|simp only[Wd]<;>omega|rfl)only[Wz,e68]
    exact Lp (by omega) s5 em κ hk
end Go.Proofs

namespace Go.Proofs
open Go.Vai Go.Clashes Go.ChangeShapes Go.WideShapes
theorem laidOut:laidOutB Tryz.prog=true:=by kernel_rfl
theorem decW {H:Type} {enc:TypeId × Value→H} {w:World} (n:Nat) (cs:List Value) (d:DataW H × List MemPlace) (hl:cs.length=2) (h:DataW.trod enc Tryz.prog w 0 (fun _=>true) true n 70 cs=some d):∃p:N2,cs=fe p:=by
 have k0:=MI (P:=Tryz.prog) 10 70 [.i .i64,.i .i64] (by kernel_rfl) _ _ _ h
 clear h
 obtain ⟨_,_,rfl,⟨n0,rfl,_⟩,k1⟩:=k0.MJ
 obtain ⟨_,_,rfl,⟨n1,rfl,_⟩,k2⟩:=k1.MJ
 cases k2.aaX
 exact ⟨(_,_),rfl⟩
theorem memRo (w:World):uN (memH w):=by
 intro d
 refine ⟨fun vs t o e=>?_,fun es c e=>?_⟩
 ·obtain ⟨C,e',fz,_,h⟩:=pH e
  cases h
 ·obtain ⟨C,e',fz,_,h⟩:=pH e
  cases h
theorem lawRel_row (L:List N2) (x:Int) (h:Heap) (va:Value) (vj:Sl fe h va L) (ca:Cut 70 2 h va L.length) (hlo:h.lo≤h.nx) (ro:uN h) :
  CallW Tryz.prog 4 [va,.int .i64 x] h Be:=PV L x h va vj hlo ro Be fun _=>rfl
end Go.Proofs
