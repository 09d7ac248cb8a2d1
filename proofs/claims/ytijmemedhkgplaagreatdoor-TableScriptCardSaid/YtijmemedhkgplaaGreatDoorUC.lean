/-
  PROVED HERE: a part of the proof (U14, U15, U16, U18).
-/
import Derived.Test.YtijmemedhkgplaaGreatDoorUB
import Derived.Test.YtijmemedhkgplaaGreatDoorRZ
import Derived.Test.YtijmemedhkgplaaGreatDoorKF
set_option linter.unusedVariables false
set_option linter.unusedSimpArgs false
set_option maxRecDepth 100000
set_option maxHeartbeats 4000000
namespace Go.Proofs
open Go.Vai Go.Clashes
theorem u5 {α:Type} {R:α→α→Prop}:∀{L1 L2:List α},L1.Perm L2→L1.Pairwise R→L2.Pairwise R→(∀a∈L1,∀b∈L1,R a b→R b a→a=b)→L1=L2:=by
 intro L1
 induction L1 with
 | nil=>intro L2 h _ _ _; exact (List.nil_perm.1 h).symm
 | cons a L1 ih=>
  intro L2 h h1 h2 anti
  cases L2 with
  | nil=>exact absurd h.length_eq (by simp)
  | cons b L2=>
   rw[List.pairwise_cons] at h1 h2
   have hab:a=b:=by
    rcases List.mem_cons.1 (h.mem_iff.1 (.head _)) with e | ha
    ·exact e
    rcases List.mem_cons.1 (h.mem_iff.2 (.head _)) with e | hb
    ·exact e.symm
    exact anti a (.head _) b (.tail _ hb) (h1.1 b hb) (h2.1 a ha)
   subst hab
   rw[ih (List.Perm.cons_inv h) h1.2 h2.2 fun x hx y hy=>anti x (.tail _ hx) y (.tail _ hy)]
theorem RQ {a b:L4} (h1:¬qS a b) (h2:¬qS b a):a.x=b.x∧a.t=b.t∧a.r=b.r:=by
 unfold qS fH at *; simp only at *; omega
section
variable {h h2:Heap} {tb bw bp bl:Nat} {c:fI} {vb:Value} {aG N:Nat} {Ts RR:List TB} {W:List IE} {wc:Nat} {F:List Int} {B:List Bool}
theorem iW.uniq (s:iW h tb bw bp bl c vb aG N Ts W wc F B) {b b':TB} {e f:HE} (hb:b∈Ts) (hb':b'∈Ts) (he:e∈b.M) (hf:f∈b'.M) (ht:e.t=f.t) (hr:e.r=f.r):e=f:=by
 obtain ⟨i,hi⟩:=List.getElem?_of_mem hb
 obtain ⟨j,hj⟩:=List.getElem?_of_mem hb'
 have h1:=s.nm i b hi e he
 have h2:=s.nm j b' hj f hf
 rw[ht,hr,h2] at h1
 have:j=i:=by omega
 subst this
 rw[hi] at hj; cases hj
 exact (s.is.bk b hb).ok.uniq he hf ht hr
structure Alike (Ts RR:List TB):Prop where
 names:(RR.flatMap fun b=>b.M.map a_).Perm (Ts.flatMap fun b=>b.M.map a_)
 each:∀b∈RR,∀x∈b.M,∃b0∈Ts,∃y∈b0.M,x.t=y.t∧x.r=y.r∧x.Q=y.Q
theorem Alike.refl (Ts:List TB):Alike Ts Ts:=⟨List.Perm.refl _,fun b hb x hx=>⟨b,hb,x,hx,rfl,rfl,rfl⟩⟩
structure fJ (Ts:List TB) (K:List HE):Prop where
 perm:(K.map a_).Perm (Ts.flatMap fun b=>b.M.map a_)
 qB:(K.map a_).Pairwise fH
 each:∀k∈K,∃b∈Ts,∃e∈b.M,nw k e
theorem ny.of {v:Value} {K:List HE} (t:ny h Ts v K):fJ Ts K:=⟨t.perm,t.qB,fun k hk=>(t.each k hk).1⟩
theorem uZ.of {v:Value} {D:List L4} {K:List HE} (t:uZ h Ts v D K):fJ Ts K:=⟨t.names,t.agZ,t.each⟩
theorem rJ (al:Alike Ts RR) {K K2:List HE} (t:fJ Ts K) (t2:fJ RR K2):K2.map a_=K.map a_:=
 KW (t2.perm.trans (al.names.trans t.perm.symm)) t2.qB t.qB
theorem Pc (s:iW h tb bw bp bl c vb aG N Ts W wc F B) (al:Alike Ts RR) {K K2:List HE} (t:fJ Ts K) (t2:fJ RR K2) {i:Nat} {a b:HE} (ha:K[i]? = some a) (hb:K2[i]? = some b):b.t=a.t∧b.r=a.r∧b.Q=a.Q:=by
 have e:=rJ al t t2
 have e1:(K2.map a_)[i]? = (K.map a_)[i]?:=by rw[e]
 rw[List.getElem?_map,List.getElem?_map,ha,hb] at e1
 have e2:a_ b=a_ a:=Option.some.inj e1
 have et:b.t=a.t:=congrArg Prod.fst e2
 have er:b.r=a.r:=congrArg Prod.snd e2
 obtain ⟨bx,hbx,x,hx,sx⟩:=t.each a (List.mem_of_getElem? ha)
 obtain ⟨bz,hbz,z,hz,sz⟩:=t2.each b (List.mem_of_getElem? hb)
 obtain ⟨by',hby,y,hy,y1,y2,y3⟩:=al.each bz hbz z hz
 have:=s.uniq hbx hby hx hy (by rw[←sx.1,←et,sz.1,y1]) (by rw[←sx.2.1,←er,sz.2.1,y2])
 subst this
 exact ⟨et,er,by rw[sz.2.2.2,y3,sx.2.2.2]⟩
theorem Lo (s:iW h tb bw bp bl c vb aG N Ts W wc F B) {K K2:List HE} (t:fJ Ts K) (t2:fJ Ts K2) {i:Nat} {a b:HE} (ha:K[i]? = some a) (hb:K2[i]? = some b):nw a b:=by
 obtain ⟨e1,e2,e3⟩:=Pc s (Alike.refl Ts) t t2 ha hb
 obtain ⟨bx,hbx,x,hx,sx⟩:=t.each a (List.mem_of_getElem? ha)
 obtain ⟨bz,hbz,z,hz,sz⟩:=t2.each b (List.mem_of_getElem? hb)
 have:=s.uniq hbx hbz hx hz (by rw[←sx.1,←e1,sz.1]) (by rw[←sx.2.1,←e2,sz.2.1])
 subst this
 exact ⟨e1.symm,e2.symm,sx.2.2.1.trans sz.2.2.1.symm,e3.symm⟩
theorem Lp (s:iW h tb bw bp bl c vb aG N Ts W wc F B) (al:Alike Ts RR) {K K2:List HE} (t:fJ Ts K) (t2:fJ RR K2):K2.flatMap jY=K.flatMap jY:=by
 have hl:K2.length=K.length:=by
  have:=congrArg List.length (rJ al t t2)
  simpa using this
 rw[List.flatMap_def,List.flatMap_def]
 congr 1
 refine List.ext_getElem? fun i=>?_
 rw[List.getElem?_map,List.getElem?_map]
 by_cases hi:i<K.length
 ·have ha:=List.getElem?_eq_getElem hi
  have hb:=List.getElem?_eq_getElem (l:=K2) (show i<K2.length by omega)
  obtain ⟨e1,e2,e3⟩:=Pc s al t t2 ha hb
  rw[ha,hb]
  unfold jY
  simp only[Option.map_some]
  rw[e1,e2,e3]
 ·rw[List.getElem?_eq_none (by omega),List.getElem?_eq_none (by omega)]
theorem fJ.pair (s:iW h tb bw bp bl c vb aG N Ts W wc F B) {K:List HE} (t:fJ Ts K):∀k∈K,k.Q.Pairwise fV:=by
 intro k hk
 obtain ⟨b,hb,e,he,se⟩:=t.each k hk
 rw[se.2.2.2]
 exact ((s.is.bk b hb).good e he).vq.pair
end
theorem Pd:bK Tryz.prog 2000 8 [] (.bool true)=true:=by kernel_rfl
theorem ag7 (h:Heap) (a b c d a' b' c' d':Int):lP Tryz.prog h 100 57 (.agg ⟨[.int .i64 a,.int .i64 b,.int .i64 c,.int .i64 d]⟩) (.agg ⟨[.int .i64 a',.int .i64 b',.int .i64 c',.int .i64 d']⟩) =
  (match (some (jI a a')) with | some true=>(match (match (some (jI b b')) with | some true=>(match (some (jI c c')) with | some true=>some true | r=>r) | r=>r) with | some true=>(match (some (jI d d')) with | some true=>some true | r=>r) | r=>r) | r=>r):=by kernel_rfl
theorem RT {β:Type} {fl:β} (cn:Bool) (a b c d:Int) (h:Heap) (κ:Value→Heap→β):av fl Tryz.prog .neq 57 cn false (.agg ⟨[.int .i64 a,.int .i64 b,.int .i64 c,.int .i64 d]⟩) (.agg ⟨[.int .i64 a,.int .i64 b,.int .i64 c,.int .i64 d]⟩) h κ=κ (.bool false) h:=by
 have:lP Tryz.prog h 100 57 (.agg ⟨[.int .i64 a,.int .i64 b,.int .i64 c,.int .i64 d]⟩) (.agg ⟨[.int .i64 a,.int .i64 b,.int .i64 c,.int .i64 d]⟩)=some true:=by
  rw[ag7]; simp only[ff,decide_true]
 simp only[av,this,cq,Bool.not_true]
theorem ldL {h:Heap} {v:Value} {L:List L4} (hs:Sl gf h v L) (i:Nat) {p:L4} (hp:L[i]? = some p) :
  ∃b o,b<h.nx∧(∀(β:Type) (fl:β) (h':Heap) (κ:Value→Heap→β),an fl 4 v (.int .i64 (i:Int)) h' κ=κ (.pointer (some ⟨b,o,none⟩)) h')∧
   ((∀(β:Type) (fl:β) (κ:List Value→β),vm fl (h.bl.get b) o 4 κ=κ (gf p))∧
   (∀(β:Type) (fl:β) (κ:Value→β),qM fl (h.bl.get b) o κ=κ (.int .i64 p.x))∧
   (∀(β:Type) (fl:β) (κ:List Value→β),vm fl (h.bl.get b) (o+1) 2 κ=κ [.int .i64 p.t,.int .i64 p.r])∧
   (∀(β:Type) (fl:β) (κ:Value→β),qM fl (h.bl.get b) (o+3) κ=κ (.int .i64 p.m))):=by
 obtain ⟨b,o,h1,h2,h3,hh⟩:=hs.ld lJ i hp
 refine ⟨b,o,h1,h2,fun β fl κ=>jG hh 4 κ rfl,fun β fl κ=>dD (fl:=fl) hh 0 κ (by show 0<4; omega),fun β fl κ=>?_,fun β fl κ=>dD (fl:=fl) hh 3 κ (by show 3<4; omega)⟩
 have:=hh.sub 1 2 (by show 1+2≤4; omega)
 exact jG this 2 κ rfl
theorem Jp (L:List L4) (v1 v2:Value) (h:Heap) (κ:KQ) (h1:Sl gf h v1 L) (h2:Sl gf h v2 L) (hl:L.length≤1000000) (hk:κ (.bool true) h):CallW Tryz.prog 19 [v1,v2] h κ:=by
 obtain ⟨x1,c1,e1,_⟩:=(show Sl gf h v1 L from h1)
 obtain ⟨x2,c2,e2,_⟩:=(show Sl gf h v2 L from h2)
 refine aq mixed ?_
 rw[Zk]
 rw[e1,e2]
 simp(disch:=first|omega|simp only[Wd]<;>omega|with_unfolding_all rfl)only[Wz]
 refine ⟨fun m l h'=>∃i:Nat,slot l 16=.int .i64 (i:Int)∧m=L.length-i∧i≤L.length∧HQ h h',⟨_,0,rfl,rfl,by omega,rfl⟩,?_⟩
 rintro m l h' ⟨i,s1,rfl,hi,hq⟩
 cases (show h=h' from hq)
 by_cases hlt:i<L.length
 ·obtain ⟨p,hp⟩:∃p,L[i]? = some p:=⟨_,List.getElem?_eq_getElem hlt⟩
  obtain ⟨b1,o1,_,hx1,Cf,_⟩:=ldL h1 i hp
  obtain ⟨b2,o2,_,hx2,Cg,_⟩:=ldL h2 i hp
  rw[e1] at hx1
  rw[e2] at hx2
  simp(disch:=first|omega|simp only[Wd]<;>omega|with_unfolding_all rfl)only[Wz,s1,bZ (show (i:Int)<(L.length:Int) by omega),H7,hx1,Cf,hx2,Cg,gf,RT]
  exact ⟨_,by omega,i+1,rfl,rfl,by omega,rfl⟩
 ·simp(disch:=first|omega|simp only[Wd]<;>omega|with_unfolding_all rfl)only[Wz,s1,bL (show (L.length:Int)≤(i:Int) by omega)]
  exact hk
section
variable {h h':Heap} {bb bm bp bl most:Nat} {M M':List HE} {clock clock':Nat} {F F':List Int} {B:List Bool}
end
section
variable {h:Heap} {tb bw bp bl:Nat} {c:fI} {vb:Value} {aG N:Nat} {Ts:List TB} {W:List IE} {wc:Nat} {F:List Int} {B:List Bool}
theorem iW.Xe (s:iW h tb bw bp bl c vb aG N Ts W wc F B) {k k':Nat} {b b':TB} {e e':HE} {p p':R5} (hk:Ts[k]? = some b) (hk':Ts[k']? = some b') (he:e∈b.M) (he':e'∈b'.M) (hp:p∈e.Q) (hp':p'∈e'.Q) (hid:p.id=p'.id):k=k'∧b=b'∧e=e':=by
 have h1:=s.wh k b hk e he p hp
 have h2:=s.wh k' b' hk' e' he' p' hp'
 rw[hid,h2] at h1
 have:k=k':=by have:=Option.some.inj h1; omega
 subst this
 rw[hk] at hk'; cases hk'
 refine ⟨rfl,rfl,?_⟩
 have hnd:((Ts.flatMap fun b=>eT b.M)).Nodup:=(s.ids.nodup_iff).2 (rB B)
 obtain ⟨X,hX⟩:=nY (fun b:TB=>eT b.M) hk
 have h0:=hX b
 rw[sX hk] at h0
 have WW:(eT b.M++X).Nodup:=(h0.nodup_iff).1 hnd
 have RU:=(List.nodup_append.1 WW).1
 unfold eT at RU
 rw[List.Nodup,List.pairwise_flatMap] at RU
 obtain ⟨i,hi⟩:=List.getElem?_of_mem he
 obtain ⟨j,hj⟩:=List.getElem?_of_mem he'
 rcases Nat.lt_trichotomy i j with h | h | h
 ·exact absurd hid (cr.1 RU.2 i j e e' h hi hj _ (List.mem_map.2 ⟨p,hp,rfl⟩) _ (List.mem_map.2 ⟨p',hp',rfl⟩))
 ·subst h; rw[hi] at hj; exact Option.some.inj hj
 ·exact absurd hid.symm (cr.1 RU.2 j i e' e h hj hi _ (List.mem_map.2 ⟨p',hp',rfl⟩) _ (List.mem_map.2 ⟨p,hp,rfl⟩))
end
theorem Xf {h:Heap} (hno:∀c vs t,h.bl.get c≠some (af vs t true)) (vs:List Value) (t:TypeId) (n:Nat):∀c ws t',(h.bl.bf n (af vs t false)).get c≠some (af ws t' true):=by
 intro c ws t'
 by_cases hc:n=c
 ·subst hc
  rw[T.aa]; exact aO
 ·rw[T.aj _ _ hc]; exact hno c ws t'
theorem ach (h:Heap):lP Tryz.prog h 100 30 (.pointer none) (.pointer none)=some true:=by kernel_rfl
theorem Pe {β:Type} {fl:β} (cn:Bool) (h:Heap) (κ:Value→Heap→β):av fl Tryz.prog .eql 30 cn false (.pointer none) (.pointer none) h κ=κ (.bool true) h:=by simp only[av,ach,cq]
section
variable {h:Heap} {tb bw bp bl:Nat} {c:fI} {vb:Value} {aG N:Nat} {Ts:List TB} {W:List IE} {wc:Nat} {F:List Int} {B:List Bool}
theorem iW.Pf (s:iW h tb bw bp bl c vb aG N Ts W wc F B) {K:List HE} (t:fJ Ts K):K.length≤1024:=by
 have h1:=t.perm.length_eq
 rw[List.length_map] at h1
 rw[h1]
 have h2:=s.is.s1.2
 have h3:=s.is.hd
 have:∀L:List TB,(∀b∈L,b.M.length≤64)→(L.flatMap fun b=>b.M.map a_).length≤64*L.length:=by
  intro L
  induction L with
  | nil=>intro _; simp
  | cons b L ih=>
   intro hL
   rw[List.flatMap_cons,List.length_append,List.length_map,List.length_cons]
   have h1:=ih fun x hx=>hL x (.tail _ hx)
   have h2:=hL b (.head _)
   omega
 have:=this Ts fun b hb=>by have:=s.len b hb; omega
 omega
theorem iW.Pg (s:iW h tb bw bp bl c vb aG N Ts W wc F B) {K:List HE} (t:fJ Ts K):∀k∈K,k.Q.length≤128:=by
 intro k hk
 obtain ⟨b,hb,e,he,se⟩:=t.each k hk
 rw[se.2.2.2]; exact ((s.is.bk b hb).good e he).small
theorem GJ (s:iW h tb bw bp bl c vb aG N Ts W wc F B) {h0:Heap} {v v':Value} {K K':List HE} (t:ny h0 Ts v K) (t':ny h0 Ts v' K') (κ:KQ) (hk:κ (.bool true) h0) :
  CallW Tryz.prog 20 [v,v'] h0 κ:=by
 have hl:=s.Pf t.of
 have P8:K'.length=K.length:=by
  have:=congrArg List.length (rJ (Alike.refl Ts) t.of t'.of)
  simpa using this
 refine Ru K K' v v' h0 _ t.sl t'.sl (by omega) P8 (fun i a b ha hb=>?_) hk
 have qa:=(t.each a (List.mem_of_getElem? ha)).2
 have qb:=(t'.each b (List.mem_of_getElem? hb)).2
 exact ⟨Lo s t.of t'.of ha hb,qa.1,qb.1,by have:=s.Pg t.of a (List.mem_of_getElem? ha); omega⟩
end
section
variable {h:Heap} {tb bw bp bl:Nat} {c:fI} {vb:Value} {aG N:Nat} {Ts:List TB} {W:List IE} {wc:Nat} {F:List Int} {B:List Bool}
theorem iW.sum (s:iW h tb bw bp bl c vb aG N Ts W wc F B) {K:List HE} (t:fJ Ts K):zq K+F.length=B.length:=by
 let M:=Ts.flatMap fun b=>b.M
 let f:Int × Int→Nat:=fun n=>((M.find? fun e=>decide (a_ e=n)).map fun e=>e.Q.length).getD 0
 have hM:∀e∈M,f (a_ e)=e.Q.length:=by
  intro e he
  show ((M.find? fun x=>decide (a_ x=a_ e)).map fun e=>e.Q.length).getD 0=_
  cases hf:M.find? fun x=>decide (a_ x=a_ e) with
  | none=>
   rw[List.find?_eq_none] at hf
   have:=hf e he
   simp at this
  | some x=>
   have h1:=List.find?_some hf
   have h2:=List.mem_of_find?_eq_some hf
   have h3:a_ x=a_ e:=by simpa using h1
   obtain ⟨b1,Fb,hx⟩:=List.mem_flatMap.1 h2
   obtain ⟨b2,zP,hy⟩:=List.mem_flatMap.1 he
   rw[s.uniq Fb zP hx hy (congrArg Prod.fst h3) (congrArg Prod.snd h3)]; rfl
 have hK:∀k∈K,f (a_ k)=k.Q.length:=by
  intro k hk
  obtain ⟨b,hb,e,he,se⟩:=t.each k hk
  have:a_ k=a_ e:=Prod.ext se.1 se.2.1
  rw[this,hM e (List.mem_flatMap.2 ⟨b,hb,he⟩),se.2.2.2]
 have e1:K.map (fun e=>e.Q.length)=(K.map a_).map f:=by
  rw[List.map_map]; exact List.map_congr_left fun k hk=>(hK k hk).symm
 have e2:M.map (fun e=>e.Q.length)=(M.map a_).map f:=by
  rw[List.map_map]; exact List.map_congr_left fun k hk=>(hM k hk).symm
 have e3:M.map a_=Ts.flatMap fun b=>b.M.map a_:=List.map_flatMap
 have e4:zq K=zq M:=by
  unfold zq
  rw[e1,e2,e3]
  exact (t.perm.map f).sum_nat
 have e5:eT M=Ts.flatMap fun b=>eT b.M:=by
  unfold eT
  exact List.flatMap_assoc
 have h1:=jV s.is.bM.ok
 rw[e4,←OE,e5,s.ids.length_eq]
 exact h1
end
end Go.Proofs
