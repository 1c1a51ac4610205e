/-
 Plain: a bundle is read as told.
-/
import Derived.Test.YtomndohdnfebgaaGreatDoorPureU
namespace Go.Proofs.YtomndohdnfebgaaGreatDoor
open Go Go.Sep
def sigW(s:Sg):List Int:=numW s.fWit++Yh s.fTag
def Qy9(l:List Sg):List Int:=numS l.length++(l.map sigW).flatten
def hashW(h:H32):List Int:=Yh h
def Qza(l:List H32):List Int:=numS l.length++(l.map hashW).flatten
def Qzb(x:It):List Int:=numW x.fAt++(Qqw x.fRec++Qza x.fPath)
def Qwb(x:It):List Int:=Qqw x.fRec
def Qwc(whole:Bool)(l:List It):List Int:=bif whole then(l.map Qwb).flatten else numS l.length++(l.map Qzb).flatten
def bunW(x:Bun):List Int:= [Qa5 x.fWhole]++(numW x.fPoint.fSize++(Yh x.fPoint.fRoot++(Qy9 x.fPoint.fSigs++Qwc x.fWhole x.fItems)))
def mark:List Int:= [105,110,115,112]
theorem Qn6{whole:Bool}{size:Int}(hs:0≤size∧size≤400):∀{l:List It} {last:Int} {i:Nat},-1≤last→yY whole size last i l=true→
  ∀x∈l,Yy x.fRec=true∧inN x.fAt∧x.fPath.length≤20:=by
 intro l
 induction l with
 |nil=>intro last i _ _ x hx;cases hx
 |cons y l ih=>
  intro last i hl h x hx
  unfold yY Qir at h
  simp only[Qd]at h
  obtain⟨⟨h1,h2,h3,_⟩,h4⟩:=h
  have h2:=J8.1 h2
  have h3:=of_decide_eq_true h3
  rcases List.mem_cons.1 hx with rfl|hx
  ·exact⟨h1,by omega,by omega⟩
  ·exact ih (by omega) h4 x hx
structure Qwd(x:Bun):Prop where
 size:0≤x.fPoint.fSize∧x.fPoint.fSize≤400
 sigs:x.fPoint.fSigs.length≤4
 wits:∀s∈x.fPoint.fSigs,inN s.fWit
 len:x.fItems.length≤400
 lens:(x.fItems.length:Int)≤x.fPoint.fSize
 whole:x.fWhole=true→(x.fItems.length:Int)=x.fPoint.fSize
 ok:yY x.fWhole x.fPoint.fSize (-1) 0 x.fItems=true
 items:∀y∈x.fItems,Yy y.fRec=true∧inN y.fAt∧y.fPath.length≤20
theorem Qzc{x:Bun}(h:Qe6 x=true):Qwd x:=by
 unfold Qe6 QfZ at h
 simp only[Qd]at h
 obtain⟨⟨h1,h2,h3⟩,h4,h5,h6⟩:=h
 have h1:=J8.1 h1
 have h2:=of_decide_eq_true h2
 have h4:=of_decide_eq_true h4
 refine⟨h1,by omega,fun s hs=> ?_,by omega,h4,fun hw=> ?_,h6,Qn6 h1 (by omega) h6⟩
 ·have:=List.all_eq_true.1 h3 s hs
  exact Qin this (by omega) (by omega)
 ·rw[hw]at h5
  simpa using h5
def sigR:Rd→Sg×Rd:=mapR (fun(t:Int×H32)=>(⟨t.1,t.2⟩:Sg)) (seqR numR (fun _=>Qdi))
theorem QmA:Jt sigR sigW (fun s=>inN s.fWit∧isB (Yh s.fTag)):=
 ((YD.seq (fun _=>yz)).map (e:=fun(t:Int×H32)=>(⟨t.1,t.2⟩:Sg)) (fun s=>(s.fWit,s.fTag)) (fun _=>rfl)).conv (fun _ _=>rfl) (fun s=>⟨fun h=>⟨h,rfl⟩,fun h=>h.1⟩)
def cntR{α:Type}(most:Int)(one:Nat→Rd→α×Rd):Rd→List α×Rd:=mapR Prod.snd (seqR (capR most 4) (fun n=>XR one n.toNat 0))
theorem mem_iff{α:Type}{P:α→Prop}{l:List α}:(∀x∈l,P x)↔∀(j:Nat) x,l[j]?=some x→P x:=
 ⟨fun h j x hx=>h x (List.mem_of_getElem? hx),fun h x hx=>by obtain⟨j,hj⟩:=List.getElem?_of_mem hx;exact h j x hj⟩
def Qs0:Rd→List Sg×Rd:=cntR 4 (fun _=>sigR)
theorem QjH:Jt Qs0 Qy9 (fun l=>(l.length:Int)≤4∧∀s∈l,inN s.fWit∧isB (Yh s.fTag)):=
 (Jt.counted (most:=4) (code:=4) (by omega) (by omega) (fun _=>QmA)).conv (fun _ _=>rfl) (fun l=>by rw[mem_iff])
def Qu0:Rd→List H32×Rd:=cntR 20 (fun _=>Qdi)
theorem QqA:Jt Qu0 Qza (fun l=>(l.length:Int)≤20∧∀h∈l,isB (Yh h)):=
 (Jt.counted (most:=20) (code:=4) (by omega) (by omega) (fun _=>yz)).conv (fun _ _=>rfl) (fun l=>by rw[mem_iff])
def Qs1:Rd→It×Rd:=mapR (fun(t:Int×Rc×List H32)=>(⟨t.1,t.2.1,t.2.2⟩:It)) (seqR numR (fun _=>seqR recR (fun _=>Qu0)))
def Qwe(y:It):Prop:=inN y.fAt∧(Yy y.fRec=true∧okB y.fRec)∧(y.fPath.length:Int)≤20∧∀h∈y.fPath,isB (Yh h)
theorem QjI:Jt Qs1 Qzb Qwe:=
 ((YD.seq (fun _=>Qiq.seq (fun _=>QqA))).map (e:=fun(t:Int×Rc×List H32)=>(⟨t.1,t.2.1,t.2.2⟩:It)) (fun y=>(y.fAt,y.fRec,y.fPath)) (fun _=>rfl)).conv (fun _ _=>rfl) (fun y=>⟨fun h=>⟨h,rfl⟩,fun h=>h.1⟩)
def QjJ(i:Nat):Rd→It×Rd:=mapR (fun(c:Rc)=>(⟨(i:Int),c, []⟩:It)) recR
def Qs2(i:Nat)(y:It):Prop:=(Yy y.fRec=true∧okB y.fRec)∧(⟨(i:Int),y.fRec, []⟩:It)=y
theorem Qis(i:Nat):Jt (QjJ i) Qwb (Qs2 i):=
 (Qiq.map (e:=fun(c:Rc)=>(⟨(i:Int),c, []⟩:It)) (fun y=>y.fRec) (fun _=>rfl)).conv (fun _ _=>rfl) (fun y=>Iff.rfl)
def QdZ(w:Bool)(n:Int):Rd→List It×Rd:=
 bif w then fun r=>XR QjJ n.toNat 0 (if 400<n then Qii 4 r else r)else cntR n (fun _=>Qs1)
def Qcb(w:Bool)(n:Int)(l:List It):Prop:=
 bif w then(n≤400∧l.length=n.toNat∧∀j x,l[j]?=some x→Qs2 j x)else((l.length:Int)≤n∧∀y∈l,Qwe y)
theorem Qn7(w:Bool)(n:Int)(hn:n<2147483648):Jt (QdZ w n) (Qwc w) (Qcb w n):=by
 cases w with
 |false=>
  exact(Jt.counted (most:=n) (code:=4) hn (by omega) (fun _=>QjI)).conv (fun _ _=>rfl) (fun l=>by simp only[Qcb,Qh];rw[mem_iff])
 | true=>
  have hs:=Jt.list Qis n.toNat 0
  simp only[Nat.zero_add]at hs
  by_cases h4:400<n
  ·refine⟨fun r hr=> ?_,fun a rest ha _=> ?_,fun r hr hb=> ?_⟩
   ·simp only[QdZ,Qg,h4,if_true]
    exact hs.good _ (jd hr)
   ·simp only[Qcb,Qg]at ha;omega
   ·simp only[QdZ,Qg,h4,if_true]at hb
    exact absurd (hs.back _ (jd hr) hb).1 (Qbs (by omega) _)
  ·have e:QdZ true n=XR QjJ n.toNat 0:=by
    funext r
    simp only[QdZ,Qg,h4,if_false]
   rw[e]
   exact hs.conv (fun _ _=>rfl) (fun l=>by simp only[Qcb,Qg];exact⟨fun h=>h.2,fun h=>⟨by omega,h⟩⟩)
abbrev BunT:=Bool×Int×H32×List Sg×List It
def bunE(t:BunT):Bun:=⟨t.1,⟨t.2.1,t.2.2.1,t.2.2.2.1⟩,t.2.2.2.2⟩
def capN(n:Int):Int:=if n<2147483648 then n else 0
def bunR:Rd→Bun×Rd:=mapR bunE (seqR Qca (fun w=>seqR (capR 400 4) (fun n=>seqR Qdi (fun _=>seqR Qs0 (fun _=>QdZ w (capN n))))))
structure Qn8(x:Bun):Prop where
 size:0≤x.fPoint.fSize∧x.fPoint.fSize≤400
 root:isB (Yh x.fPoint.fRoot)
 sigs:(x.fPoint.fSigs.length:Int)≤4∧∀s∈x.fPoint.fSigs,inN s.fWit∧isB (Yh s.fTag)
 items:Qcb x.fWhole x.fPoint.fSize x.fItems
theorem QmB:Jt bunR bunW Qn8:=by
 have h:=(Qbu.seq (fun w=>(Qik (most:=400) (code:=4) (by omega) (by omega)).seq (fun n=>yz.seq (fun _=>QjH.seq (fun _=>Qn7 w (capN n) (by unfold capN;split<;>omega)))))).map (e:=bunE) (fun x=>(x.fWhole,x.fPoint.fSize,x.fPoint.fRoot,x.fPoint.fSigs,x.fItems)) (fun _=>rfl)
 refine h.conv (fun x _=>rfl) (fun x=>⟨fun h=>⟨⟨trivial,h.size,h.root,h.sigs,?_⟩,rfl⟩,fun h=>⟨h.1.2.1,h.1.2.2.1,h.1.2.2.2.1,?_⟩⟩)
 ·have h1:=h.size
  have:=h.items
  simp only[capN]
  rwa [if_pos (by omega)]
 ·have:=h.1.2.2.2.2
  have h1:=h.1.2.1
  simp only[capN]at this h1
  rwa [if_pos (by omega)]at this
theorem Qg7{r:Rd}(hr:Good r):∃N:Nat,(numR r).1=(N:Int)∧N<2147483648:=by
 unfold numR
 split
 ·split
  ·rename_i _ h2
   obtain⟨n,rest,h3,h4,h5⟩:=Qbt hr.1 h2
   exact⟨n,by rw[h5],h3⟩
  ·exact⟨0,rfl,by omega⟩
 ·exact⟨0,rfl,by omega⟩
theorem QmC{K:Nat}(hK:1000000000000≤K){N:Nat}(hN:N<2147483648){r:Rd}(hr:Good r):Yd.l K (N:Int) K ([],0,r)=some (XR (fun _=>sigR) N 0 r):=by
 have:=Qdj (L:=Yd.l K (N:Int)) (one:=fun _=>sigR) (N:=N) (by omega) (fun _ r hr=>QmA.good r hr)
  (fun k out r'=>by
   show Yd.b K (N:Int) (Yd.l K (N:Int) k) _=_
   unfold Yd.b
   rw[Qi (QE (by simp))])
  (fun k out i r' hi hb=>by
   show Yd.b K (N:Int) (Yd.l K (N:Int) k) _=_
   unfold Yd.b
   rw[Qj (QK (by simp only;omega)),Zf]
   simp only[Qb]
   rw[Qj (by simp[hb])])
  (fun k out i r' hi hb hg ho=>by
   show Yd.b K (N:Int) (Yd.l K (N:Int) k) _=_
   unfold Yd.b QcN.f
   rw[Qj (QK (by simp only;omega)),Zf]
   simp only[Qb]
   rw[Qi (by simp[hb]),Qad hK hg]
   simp only[Qb]
   rw[Qk1 (YD.good _ hg)]
   simp only[Qb]
   rw[YX (by simp;omega)]
   simp only[Qb]
   rw[wrap_succ (by omega)]
   rfl)
  N 0 [] r K (by omega) (by omega) hr (by simp)
 simpa using this
theorem Qs3{K:Nat}(hK:1000000000000≤K){r:Rd}(hr:Good r):(QD.f K r).bind (fun t=>qi.f K t.1 4 t.2)=some (Qs0 r):=by
 have hg:=YD.good r hr
 rw[Qad hK hr]
 obtain⟨N,hN,hN2⟩:=Qg7 hr
 unfold qi.f Qs0 cntR mapR seqR capR
 simp only[Qb,jn,hN,Int.toNat_natCast]
 by_cases h6:(4:Int)<N
 ·rw[Qj (QK h6),QaM (by omega)]
  simp only[Qb]
  rw[QmC hK hN2 (jd hg)]
  simp[h6]
 ·rw[Qi (QE h6),QmC hK hN2 hg]
  simp[h6]
theorem QmD{K:Nat}(hK:1000000000000≤K){N:Nat}(hN:N<2147483648){r:Rd}(hr:Good r):Q3.l K (N:Int) K ([],0,r)=some (XR (fun _=>Qdi) N 0 r):=by
 have:=Qdj (L:=Q3.l K (N:Int)) (one:=fun _=>Qdi) (N:=N) (by omega) (fun _ r hr=>yz.good r hr)
  (fun k out r'=>by
   show Q3.b K (N:Int) (Q3.l K (N:Int) k) _=_
   unfold Q3.b
   rw[Qi (QE (by simp))])
  (fun k out i r' hi hb=>by
   show Q3.b K (N:Int) (Q3.l K (N:Int) k) _=_
   unfold Q3.b
   rw[Qj (QK (by simp only;omega)),Zf]
   simp only[Qb]
   rw[Qj (by simp[hb])])
  (fun k out i r' hi hb hg ho=>by
   show Q3.b K (N:Int) (Q3.l K (N:Int) k) _=_
   unfold Q3.b QaV.f
   rw[Qj (QK (by simp only;omega)),Zf]
   simp only[Qb]
   rw[Qi (by simp[hb]),Qk1 hg]
   simp only[Qb]
   rw[YX (by simp;omega)]
   simp only[Qb]
   rw[wrap_succ (by omega)])
  N 0 [] r K (by omega) (by omega) hr (by simp)
 simpa using this
theorem Qs4{K:Nat}(hK:1000000000000≤K){r:Rd}(hr:Good r):(QD.f K r).bind (fun t=>qM.f K t.1 20 t.2)=some (Qu0 r):=by
 have hg:=YD.good r hr
 rw[Qad hK hr]
 obtain⟨N,hN,hN2⟩:=Qg7 hr
 unfold qM.f Qu0 cntR mapR seqR capR
 simp only[Qb,jn,hN,Int.toNat_natCast]
 by_cases h6:(20:Int)<N
 ·rw[Qj (QK h6),QaM (by omega)]
  simp only[Qb]
  rw[QmD hK hN2 (jd hg)]
  simp[h6]
 ·rw[Qi (QE h6),QmD hK hN2 hg]
  simp[h6]
theorem Qs5{K:Nat}(hK:1000000000000≤K){r:Rd}(hr:Good r)(i:Int):QaG.f K i r=some (Qs1 r):=by
 unfold QaG.f
 try simp only[jn]
 have g1:=YD.good r hr
 have g2:=Qiq.good _ g1
 refine Qz (Qad hK hr) ?_
 refine Qz (QsX hK g1) ?_
 try simp only[Qb]
 have hp:=Qs4 hK g2
 rw[Qad hK g2]at hp⊢
 simp only[Qb]at hp⊢
 rw[hp]
 rfl
theorem QqB{K:Nat}(hK:1000000000000≤K){r:Rd}(hr:Good r)(i:Nat):QaF.f K (i:Int) r=some (QjJ i r):=by
 unfold QaF.f
 refine Qz (QsX hK hr) ?_
 rfl
theorem QmE{K:Nat}(hK:1000000000000≤K){N:Nat}(hN:N<2147483648){r:Rd}(hr:Good r):QV.l K (N:Int) K ([],0,r)=some (XR (fun _=>Qs1) N 0 r):=by
 have:=Qdj (L:=QV.l K (N:Int)) (one:=fun _=>Qs1) (N:=N) (by omega) (fun _ r hr=>QjI.good r hr)
  (fun k out r'=>by
   show QV.b K (N:Int) (QV.l K (N:Int) k) _=_
   unfold QV.b
   rw[Qi (QE (by simp))])
  (fun k out i r' hi hb=>by
   show QV.b K (N:Int) (QV.l K (N:Int) k) _=_
   unfold QV.b
   rw[Qj (QK (by simp only;omega)),Zf]
   try simp only[Qb]
   rw[Qj (by simp[hb])])
  (fun k out i r' hi hb hg ho=>by
   show QV.b K (N:Int) (QV.l K (N:Int) k) _=_
   unfold QV.b
   rw[Qj (QK (by simp only;omega)),Zf]
   try simp only[Qb]
   rw[Qi (by simp[hb]),Qs5 hK hg]
   try simp only[Qb]
   rw[YX (by simp;omega)]
   try simp only[Qb]
   rw[wrap_succ (by omega)])
  N 0 [] r K (by omega) (by omega) hr (by simp)
 simpa using this
theorem QjK{K:Nat}(hK:1000000000000≤K){N:Nat}(hN:N<2147483648){r:Rd}(hr:Good r):QZ.l K (N:Int) K ([],0,r)=some (XR QjJ N 0 r):=by
 have:=Qdj (L:=QZ.l K (N:Int)) (one:=QjJ) (N:=N) (by omega) (fun i r hr=>(Qis i).good r hr)
  (fun k out r'=>by
   show QZ.b K (N:Int) (QZ.l K (N:Int) k) _=_
   unfold QZ.b
   rw[Qi (QE (by simp))])
  (fun k out i r' hi hb=>by
   show QZ.b K (N:Int) (QZ.l K (N:Int) k) _=_
   unfold QZ.b
   rw[Qj (QK (by simp only;omega)),Zf]
   try simp only[Qb]
   rw[Qj (by simp[hb])])
  (fun k out i r' hi hb hg ho=>by
   show QZ.b K (N:Int) (QZ.l K (N:Int) k) _=_
   unfold QZ.b
   rw[Qj (QK (by simp only;omega)),Zf]
   try simp only[Qb]
   rw[Qi (by simp[hb]),QqB hK hg]
   try simp only[Qb]
   rw[YX (by simp;omega)]
   try simp only[Qb]
   rw[wrap_succ (by omega)])
  N 0 [] r K (by omega) (by omega) hr (by simp)
 simpa using this
def endS(t:Bun×Rd):Bun×Int:=
 let e:=if t.2.fBad≠0 then t.2.fBad else if t.2.fB= []then 0 else 2
 if e≠0 then(zBun,e)else if Qe6 t.1 then(t.1,0)else(zBun,2)
def getS(b:List Int):Bun×Int:=if b.take 4=mark then endS (bunR ⟨b.drop 4,0⟩)else(zBun,2)
theorem QjL{x:Rc}(h:Yy x=true)(hb:okB x):okD x:=by
 have hd:=Qag h
 have hk:=hd.kept
 by_cases k:x.fKind=1
 ·obtain⟨b1,_,b3⟩:=hd.beg k
  have b1:=J8.1 b1
  exact⟨hb.data,by omega,by omega⟩
 ·have e:x.fSteps= []:=by
   rw[hk];unfold Qe5
   rw[if_neg k]
   repeat' split
   all_goals rfl
  have e2:x.fData= []:=by
   rw[hk];unfold Qe5
   rw[if_neg k]
   repeat' split
   all_goals rfl
  exact⟨hb.data,by rw[e2];simp,by rw[e];simp⟩
theorem Qpb{x:Bun}(h:Qn8 x):Qy7 x:=by
 have hi:=h.items
 have hs:=h.size
 have h1:=h.sigs.1
 unfold Qcb at hi
 cases hw:x.fWhole with
 |true=>
  rw[hw]at hi
  simp only[Qg]at hi
  refine⟨by omega,by omega,fun y hy=> ?_⟩
  obtain⟨j,hj⟩:=List.getElem?_of_mem hy
  have:=hi.2.2 j y hj
  refine⟨QjL this.1.1 this.1.2,?_⟩
  rw[←this.2];simp
 |false=>
  rw[hw]at hi
  simp only[Qh]at hi
  refine⟨by omega,by omega,fun y hy=> ?_⟩
  obtain⟨_,h2,h3,_⟩:=hi.2 y hy
  exact⟨QjL h2.1 h2.2,by omega⟩
theorem QxA{K:Nat}(r:Rd):Jq.f K r=some (if r.fBad≠0 then r.fBad else if r.fB= []then 0 else 2):=by
 obtain⟨b,e⟩:=r
 by_cases h:e=0
 ·subst h
  cases b with
  |nil=>rfl
  |cons c l=>
   unfold Jq.f QJ.f
   try simp only[Qb]
   rw[Qi (by simp),Qj (by simp)]
   simp
 ·rw[QsO h];simp[h]
theorem Qzd{K:Nat}{b:List Int}(hb:isB b)(hl:b.length<1000000000):bytes_CutPrefix.f K b mark=some (if b.take 4=mark then(b.drop 4,true)else(b,false)):=by
 unfold bytes_CutPrefix.f bytes_HasPrefix.f
 have hm:mark.length=4:=rfl
 have hmB:isB mark:=by unfold isB mark;decide
 by_cases h4:4≤b.length
 ·rw[Qj (QK (by rw[hm];omega)),hm,Qaz h4]
  try simp only[Qb]
  rw[QfV (fun x hx=>hb x (List.mem_of_mem_take hx)) hmB]
  try simp only[Qb]
  by_cases he:b.take 4=mark
  ·rw[Qi (by simp[he]),XV h4]
   simp[he]
  ·rw[Qj (by simp[he])]
   simp[he]
 ·rw[Qi (QE (by rw[hm];omega))]
  have he: ¬b.take 4=mark:=fun e=>by
   have:=congrArg List.length e
   rw[hm]at this
   simp at this;omega
  simp[he]
theorem Qs6{K:Nat}(hK:1000000000000≤K){x:Bun}{r:Rd}(h:r.fBad=0→Qn8 x):
  ((Jq.f K r).bind fun(e:Int)=>(bif (!decide (e=(0:Int)))then(some (zBun,e))else((qf.f K x).bind fun(q:Bool)=>(bif (!q)then(some (zBun,(2:Int)))else(some (x,(0:Int)))))))=some (endS (x,r)):=by
 rw[QxA]
 try simp only[Qb]
 unfold endS
 simp only
 generalize he:(if r.fBad≠0 then r.fBad else if r.fB= []then 0 else 2)=e
 by_cases h0:e=0
 ·subst h0
  have hb:r.fBad=0:=by
   by_cases hb:r.fBad=0
   ·exact hb
   ·rw[if_pos hb]at he;exact he
  rw[Qi (by simp),QsZ hK (Qpb (h hb))]
  try simp only[Qb]
  cases Qe6 x<;>simp
 ·rw[Qj (by simp[h0]),if_pos h0]
theorem QqC{K:Nat}(hK:1000000000000≤K){N:Nat}(hN:N<2147483648){r:Rd}(hr:Good r)(w:Bool):
  (bif w then J3.f K (N:Int) 400 r else(QD.f K r).bind (fun t=>JB.f K t.1 (N:Int) t.2))=some (QdZ w (N:Int) r):=by
 cases w with
 | true=>
  simp only[Qg]
  unfold J3.f QdZ
  simp only[jn,Qg,Int.toNat_natCast]
  by_cases h6:(400:Int)<N
  ·rw[Qj (QK h6),QaM (by omega)]
   try simp only[Qb]
   rw[QjK hK hN (jd hr)]
   simp[h6]
  ·rw[Qi (QE h6),QjK hK hN hr]
   simp[h6]
 | false=>
  simp only[Qh]
  have hg:=YD.good r hr
  rw[Qad hK hr]
  obtain⟨M,hM,hM2⟩:=Qg7 hr
  unfold JB.f QdZ cntR mapR seqR capR
  simp only[Qb,jn,hM,Int.toNat_natCast,Qh]
  by_cases h6:(N:Int)<M
  ·rw[Qj (QK h6),QaM (by omega)]
   try simp only[Qb]
   rw[QmE hK hM2 (jd hg)]
   simp[h6]
  ·rw[Qi (QE h6),QmE hK hM2 hg]
   simp[h6]
theorem Qs7{K:Nat}(hK:1000000000000≤K){b:List Int}(hb:isB b)(hl:b.length<1000000000):XN.f K b=some (getS b):=by
 unfold XN.f getS
 refine Qz (Qzd hb hl) ?_
 by_cases hm:b.take 4=mark
 ·rw [if_pos hm,if_pos hm]
  simp only[Bool.not_true,Qh]
  have hg:Good ⟨b.drop 4,0⟩:=Good.drop (b:=b) (e:=0) ⟨hb,hl⟩ 4
  have hl2:(b.drop 4).length<1000000000000:=by have:=hg.2;simp only at this;omega
  refine Qz (Qxr hl2) ?_
  have hs:=QmB.back ⟨b.drop 4,0⟩ hg
  generalize (⟨b.drop 4,0⟩:Rd)=r at hg hs
  obtain⟨w,r1,e1,q1,g1⟩:=QfX (K:=K) hg
  refine Qz q1 ?_
  try simp only[Qb]
  obtain⟨N,hN,hN2⟩:=Qg7 g1
  obtain⟨n,r2,e2,q2,g2⟩:=yg hK g1
  have hn:n=(N:Int):=by rw[e2]at hN;exact hN
  subst hn
  refine Qz q2 ?_
  try simp only[jn,Qb]
  obtain⟨r3,e3,g3⟩:∃r3,(capR 400 4 r1)=((N:Int),r3)∧Good r3:=by
   refine⟨(capR 400 4 r1).2,?_,(Qik (by omega) (by omega)).good _ g1⟩
   simp only[capR,e2]
  have key:∀r3,capR 400 4 r1=((N:Int),r3)→Good r3→
    ((YA.f K r3).bind fun(r376:(H32×Rd))=>(QD.f K r376.2).bind fun(r409:(Int×Rd))=>(qi.f K r409.1 4 r409.2).bind fun(r417:(List Sg×Rd))=>
     (bif w then(J3.f K (N:Int) 400 r417.2).bind fun(r538:(List It×Rd))=>((Jq.f K r538.2).bind fun(e:Int)=>(bif (!decide (e=(0:Int)))then(some (zBun,e))else((qf.f K ⟨w,⟨(N:Int),r376.1,r417.1⟩,r538.1⟩).bind fun(q:Bool)=>(bif (!q)then(some (zBun,(2:Int)))else(some ((⟨w,⟨(N:Int),r376.1,r417.1⟩,r538.1⟩:Bun),(0:Int)))))))
      else(QD.f K r417.2).bind fun(r572:(Int×Rd))=>(JB.f K r572.1 (N:Int) r572.2).bind fun(r538:(List It×Rd))=>((Jq.f K r538.2).bind fun(e:Int)=>(bif (!decide (e=(0:Int)))then(some (zBun,e))else((qf.f K ⟨w,⟨(N:Int),r376.1,r417.1⟩,r538.1⟩).bind fun(q:Bool)=>(bif (!q)then(some (zBun,(2:Int)))else(some ((⟨w,⟨(N:Int),r376.1,r417.1⟩,r538.1⟩:Bun),(0:Int)))))))))
    =some (endS (bunR r)):=by
   intro r3 e3 g3
   obtain⟨h,r4,e4,q4,g4⟩:=Qk3 (K:=K) g3
   refine Qz q4 ?_
   simp only
   have hsig:=Qs3 hK g4
   have g5:=QjH.good _ g4
   obtain⟨sg,r5,e5⟩:∃sg r5,Qs0 r4=(sg,r5):=⟨_,_,rfl⟩
   rw[e5]at hsig g5
   replace g5:Good r5:=g5
   obtain⟨m,r4',e4',q4',g4'⟩:=yg hK g4
   rw[q4']at hsig
   simp only[Qb]at hsig
   refine Qz q4' ?_
   simp only
   refine Qz hsig ?_
   simp only
   have hit:=QqC hK hN2 g5 w
   obtain⟨l,r6,e6⟩:∃l r6,QdZ w (N:Int) r5=(l,r6):=⟨_,_,rfl⟩
   rw[e6]at hit
   have hB:bunR r=(⟨w,⟨(N:Int),h,sg⟩,l⟩,r6):=by
    have hc:capN (N:Int)=(N:Int):=by simp only[capN];rw[if_pos (by omega)]
    simp only[bunR,mapR,seqR,e1,e3,e4,e5,hc,e6,bunE]
   rw[hB]at hs⊢
   have hs:r6.fBad=0→Qn8 ⟨w,⟨(N:Int),h,sg⟩,l⟩:=fun h0=>(hs h0).2.2
   cases w with
   |true=>
    simp only[Qg]at hit⊢
    refine Qz hit ?_
    exact Qs6 hK hs
   |false=>
    simp only[Qh]at hit⊢
    obtain⟨m2,r7,e7,q7,g7⟩:=yg hK g5
    rw[q7]at hit
    simp only[Qb]at hit
    refine Qz q7 ?_
    simp only
    refine Qz hit ?_
    exact Qs6 hK hs
  by_cases h4:(400:Int)<(N:Int)
  ·simp only[h4,decide_true,Qg]
   refine Qz (QaM (by omega) r2) ?_
   exact key _ (by simp only[capR,e2,h4,if_true]) (jd g2)
  ·simp only[h4,decide_false,Qh]
   exact key _ (by simp only[capR,e2,h4,if_false]) g2
 ·rw[if_neg hm,if_neg hm]
  rfl
end Go.Proofs.YtomndohdnfebgaaGreatDoor
