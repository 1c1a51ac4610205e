/-
 Plain: a bundle is read as told.
-/
import Derived.Test.YtomndohdnfebgaaGreatDoorPureU
namespace Go.Proofs.YtomndohdnfebgaaGreatDoor
open Go Go.Sep
def sigW(s:Sg):List Int:=numW s.fWit++Q9 s.fTag
def Qv6(l:List Sg):List Int:=numS l.length++(l.map sigW).flatten
def hashW(h:H32):List Int:=Q9 h
def Qv7(l:List H32):List Int:=numS l.length++(l.map hashW).flatten
def Qv8(x:It):List Int:=numW x.fAt++(Qn8 x.fRec++Qv7 x.fPath)
def Qto(x:It):List Int:=Qn8 x.fRec
def QqA(whole:Bool)(l:List It):List Int:=bif whole then(l.map Qto).flatten else numS l.length++(l.map Qv8).flatten
def bunW(x:Bun):List Int:= [Qac x.fWhole]++(numW x.fPoint.fSize++(Q9 x.fPoint.fRoot++(Qv6 x.fPoint.fSigs++QqA x.fWhole x.fItems)))
def mark:List Int:= [105,110,115,112]
theorem Ql8{whole:Bool}{size:Int}(hs:0≤size∧size≤400):∀{l:List It} {last:Int} {i:Nat},-1≤last→Zo whole size last i l=true→
  ∀x∈l,Ja x.fRec=true∧inN x.fAt∧x.fPath.length≤20:=by
 intro l
 induction l with
 |nil=>intro last i _ _ x hx;cases hx
 |cons y l ih=>
  intro last i hl h x hx
  unfold Zo QkG at h
  simp only[Qd]at h
  obtain⟨⟨h1,h2,h3,_⟩,h4⟩:=h
  have h2:=qR.1 h2
  have h3:=of_decide_eq_true h3
  rcases List.mem_cons.1 hx with rfl|hx
  ·exact⟨h1,by omega,by omega⟩
  ·exact ih (by omega) h4 x hx
structure Qtp(x:Bun):Prop where
 size:0≤x.fPoint.fSize∧x.fPoint.fSize≤400
 sigs:x.fPoint.fSigs.length≤4
 wits:∀s∈x.fPoint.fSigs,inN s.fWit
 len:x.fItems.length≤400
 lens:(x.fItems.length:Int)≤x.fPoint.fSize
 whole:x.fWhole=true→(x.fItems.length:Int)=x.fPoint.fSize
 ok:Zo x.fWhole x.fPoint.fSize (-1) 0 x.fItems=true
 items:∀y∈x.fItems,Ja y.fRec=true∧inN y.fAt∧y.fPath.length≤20
theorem Qv9{x:Bun}(h:QdM x=true):Qtp x:=by
 unfold QdM Qev at h
 simp only[Qd]at h
 obtain⟨⟨h1,h2,h3⟩,h4,h5,h6⟩:=h
 have h1:=qR.1 h1
 have h2:=of_decide_eq_true h2
 have h4:=of_decide_eq_true h4
 refine⟨h1,by omega,fun s hs=> ?_,by omega,h4,fun hw=> ?_,h6,Ql8 h1 (by omega) h6⟩
 ·have:=List.all_eq_true.1 h3 s hs
  exact QgP this (by omega) (by omega)
 ·rw[hw]at h5
  simpa using h5
def sigR:Rd→Sg×Rd:=mapR (fun(t:Int×H32)=>(⟨t.1,t.2⟩:Sg)) (seqR numR (fun _=>Qaz))
theorem QkH:Y7 sigR sigW (fun s=>inN s.fWit∧isB (Q9 s.fTag)):=
 ((Yt.seq (fun _=>yh)).map (e:=fun(t:Int×H32)=>(⟨t.1,t.2⟩:Sg)) (fun s=>(s.fWit,s.fTag)) (fun _=>rfl)).conv (fun _ _=>rfl) (fun s=>⟨fun h=>⟨h,rfl⟩,fun h=>h.1⟩)
def cntR{α:Type}(most:Int)(one:Nat→Rd→α×Rd):Rd→List α×Rd:=mapR Prod.snd (seqR (capR most 4) (fun n=>jV one n.toNat 0))
theorem mem_iff{α:Type}{P:α→Prop}{l:List α}:(∀x∈l,P x)↔∀(j:Nat) x,l[j]?=some x→P x:=
 ⟨fun h j x hx=>h x (List.mem_of_getElem? hx),fun h x hx=>by obtain⟨j,hj⟩:=List.getElem?_of_mem hx;exact h j x hj⟩
def QqB:Rd→List Sg×Rd:=cntR 4 (fun _=>sigR)
theorem QhY:Y7 QqB Qv6 (fun l=>(l.length:Int)≤4∧∀s∈l,inN s.fWit∧isB (Q9 s.fTag)):=
 (Y7.counted (most:=4) (code:=4) (by omega) (by omega) (fun _=>QkH)).conv (fun _ _=>rfl) (fun l=>by rw[mem_iff])
def Qsj:Rd→List H32×Rd:=cntR 20 (fun _=>Qaz)
theorem Qod:Y7 Qsj Qv7 (fun l=>(l.length:Int)≤20∧∀h∈l,isB (Q9 h)):=
 (Y7.counted (most:=20) (code:=4) (by omega) (by omega) (fun _=>yh)).conv (fun _ _=>rfl) (fun l=>by rw[mem_iff])
def QqC:Rd→It×Rd:=mapR (fun(t:Int×Rc×List H32)=>(⟨t.1,t.2.1,t.2.2⟩:It)) (seqR numR (fun _=>seqR recR (fun _=>Qsj)))
def Qtq(y:It):Prop:=inN y.fAt∧(Ja y.fRec=true∧okB y.fRec)∧(y.fPath.length:Int)≤20∧∀h∈y.fPath,isB (Q9 h)
theorem QhZ:Y7 QqC Qv8 Qtq:=
 ((Yt.seq (fun _=>QgR.seq (fun _=>Qod))).map (e:=fun(t:Int×Rc×List H32)=>(⟨t.1,t.2.1,t.2.2⟩:It)) (fun y=>(y.fAt,y.fRec,y.fPath)) (fun _=>rfl)).conv (fun _ _=>rfl) (fun y=>⟨fun h=>⟨h,rfl⟩,fun h=>h.1⟩)
def QgS(i:Nat):Rd→It×Rd:=mapR (fun(c:Rc)=>(⟨(i:Int),c, []⟩:It)) recR
def QqD(i:Nat)(y:It):Prop:=(Ja y.fRec=true∧okB y.fRec)∧(⟨(i:Int),y.fRec, []⟩:It)=y
theorem QgT(i:Nat):Y7 (QgS i) Qto (QqD i):=
 (QgR.map (e:=fun(c:Rc)=>(⟨(i:Int),c, []⟩:It)) (fun y=>y.fRec) (fun _=>rfl)).conv (fun _ _=>rfl) (fun y=>Iff.rfl)
def Qbf(w:Bool)(n:Int):Rd→List It×Rd:=
 bif w then fun r=>jV QgS n.toNat 0 (if 400<n then QcW 4 r else r)else cntR n (fun _=>QqC)
def Qbc(w:Bool)(n:Int)(l:List It):Prop:=
 bif w then(n≤400∧l.length=n.toNat∧∀j x,l[j]?=some x→QqD j x)else((l.length:Int)≤n∧∀y∈l,Qtq y)
theorem Ql9(w:Bool)(n:Int)(hn:n<2147483648):Y7 (Qbf w n) (QqA w) (Qbc w n):=by
 cases w with
 |false=>
  exact(Y7.counted (most:=n) (code:=4) hn (by omega) (fun _=>QhZ)).conv (fun _ _=>rfl) (fun l=>by simp only[Qbc,Qh];rw[mem_iff])
 | true=>
  have hs:=Y7.list QgT n.toNat 0
  simp only[Nat.zero_add]at hs
  by_cases h4:400<n
  ·refine⟨fun r hr=> ?_,fun a rest ha _=> ?_,fun r hr hb=> ?_⟩
   ·simp only[Qbf,Qg,h4,if_true]
    exact hs.good _ (qB hr)
   ·simp only[Qbc,Qg]at ha;omega
   ·simp only[Qbf,Qg,h4,if_true]at hb
    exact absurd (hs.back _ (qB hr) hb).1 (jM (by omega) _)
  ·have e:Qbf true n=jV QgS n.toNat 0:=by
    funext r
    simp only[Qbf,Qg,h4,if_false]
   rw[e]
   exact hs.conv (fun _ _=>rfl) (fun l=>by simp only[Qbc,Qg];exact⟨fun h=>h.2,fun h=>⟨by omega,h⟩⟩)
abbrev BunT:=Bool×Int×H32×List Sg×List It
def bunE(t:BunT):Bun:=⟨t.1,⟨t.2.1,t.2.2.1,t.2.2.2.1⟩,t.2.2.2.2⟩
def capN(n:Int):Int:=if n<2147483648 then n else 0
def bunR:Rd→Bun×Rd:=mapR bunE (seqR Zy (fun w=>seqR (capR 400 4) (fun n=>seqR Qaz (fun _=>seqR QqB (fun _=>Qbf w (capN n))))))
structure QkI(x:Bun):Prop where
 size:0≤x.fPoint.fSize∧x.fPoint.fSize≤400
 root:isB (Q9 x.fPoint.fRoot)
 sigs:(x.fPoint.fSigs.length:Int)≤4∧∀s∈x.fPoint.fSigs,inN s.fWit∧isB (Q9 s.fTag)
 items:Qbc x.fWhole x.fPoint.fSize x.fItems
theorem QgU:Y7 bunR bunW QkI:=by
 have h:=(Qay.seq (fun w=>(QgM (most:=400) (code:=4) (by omega) (by omega)).seq (fun n=>yh.seq (fun _=>QhY.seq (fun _=>Ql9 w (capN n) (by unfold capN;split<;>omega)))))).map (e:=bunE) (fun x=>(x.fWhole,x.fPoint.fSize,x.fPoint.fRoot,x.fPoint.fSigs,x.fItems)) (fun _=>rfl)
 refine h.conv (fun x _=>rfl) (fun x=>⟨fun h=>⟨⟨trivial,h.size,h.root,h.sigs,?_⟩,rfl⟩,fun h=>⟨h.1.2.1,h.1.2.2.1,h.1.2.2.2.1,?_⟩⟩)
 ·have h1:=h.size
  have:=h.items
  simp only[capN]
  rwa [if_pos (by omega)]
 ·have:=h.1.2.2.2.2
  have h1:=h.1.2.1
  simp only[capN]at this h1
  rwa [if_pos (by omega)]at this
theorem Qfz{r:Rd}(hr:Good r):∃N:Nat,(numR r).1=(N:Int)∧N<2147483648:=by
 unfold numR
 split
 ·split
  ·rename_i _ h2
   obtain⟨n,rest,h3,h4,h5⟩:=Qax hr.1 h2
   exact⟨n,by rw[h5],h3⟩
  ·exact⟨0,rfl,by omega⟩
 ·exact⟨0,rfl,by omega⟩
theorem QkJ{K:Nat}(hK:1000000000000≤K){N:Nat}(hN:N<2147483648){r:Rd}(hr:Good r):QV.l K (N:Int) K ([],0,r)=some (jV (fun _=>sigR) N 0 r):=by
 have:=Qb6 (L:=QV.l K (N:Int)) (one:=fun _=>sigR) (N:=N) (by omega) (fun _ r hr=>QkH.good r hr)
  (fun k out r'=>by
   show QV.b K (N:Int) (QV.l K (N:Int) k) _=_
   unfold QV.b
   rw[Qi (QN (by simp))])
  (fun k out i r' hi hb=>by
   show QV.b K (N:Int) (QV.l K (N:Int) k) _=_
   unfold QV.b
   rw[Qj (QX (by simp only;omega)),Xt]
   simp only[Qb]
   rw[Qj (by simp[hb])])
  (fun k out i r' hi hb hg ho=>by
   show QV.b K (N:Int) (QV.l K (N:Int) k) _=_
   unfold QV.b QbD.f
   rw[Qj (QX (by simp only;omega)),Xt]
   simp only[Qb]
   rw[Qi (by simp[hb]),Zm hK hg]
   simp only[Qb]
   rw[Qjf (Yt.good _ hg)]
   simp only[Qb]
   rw[Jm (by simp;omega)]
   simp only[Qb]
   rw[wrap_succ (by omega)]
   rfl)
  N 0 [] r K (by omega) (by omega) hr (by simp)
 simpa using this
theorem QqE{K:Nat}(hK:1000000000000≤K){r:Rd}(hr:Good r):(Qz.f K r).bind (fun t=>JJ.f K t.1 4 t.2)=some (QqB r):=by
 have hg:=Yt.good r hr
 rw[Zm hK hr]
 obtain⟨N,hN,hN2⟩:=Qfz hr
 unfold JJ.f QqB cntR mapR seqR capR
 simp only[Qb,jn,hN,Int.toNat_natCast]
 by_cases h6:(4:Int)<N
 ·rw[Qj (QX h6),ZQ (by omega)]
  simp only[Qb]
  rw[QkJ hK hN2 (qB hg)]
  simp[h6]
 ·rw[Qi (QN h6),QkJ hK hN2 hg]
  simp[h6]
theorem QkK{K:Nat}(hK:1000000000000≤K){N:Nat}(hN:N<2147483648){r:Rd}(hr:Good r):QP.l K (N:Int) K ([],0,r)=some (jV (fun _=>Qaz) N 0 r):=by
 have:=Qb6 (L:=QP.l K (N:Int)) (one:=fun _=>Qaz) (N:=N) (by omega) (fun _ r hr=>yh.good r hr)
  (fun k out r'=>by
   show QP.b K (N:Int) (QP.l K (N:Int) k) _=_
   unfold QP.b
   rw[Qi (QN (by simp))])
  (fun k out i r' hi hb=>by
   show QP.b K (N:Int) (QP.l K (N:Int) k) _=_
   unfold QP.b
   rw[Qj (QX (by simp only;omega)),Xt]
   simp only[Qb]
   rw[Qj (by simp[hb])])
  (fun k out i r' hi hb hg ho=>by
   show QP.b K (N:Int) (QP.l K (N:Int) k) _=_
   unfold QP.b ZY.f
   rw[Qj (QX (by simp only;omega)),Xt]
   simp only[Qb]
   rw[Qi (by simp[hb]),Qjf hg]
   simp only[Qb]
   rw[Jm (by simp;omega)]
   simp only[Qb]
   rw[wrap_succ (by omega)])
  N 0 [] r K (by omega) (by omega) hr (by simp)
 simpa using this
theorem QqF{K:Nat}(hK:1000000000000≤K){r:Rd}(hr:Good r):(Qz.f K r).bind (fun t=>J8.f K t.1 20 t.2)=some (Qsj r):=by
 have hg:=Yt.good r hr
 rw[Zm hK hr]
 obtain⟨N,hN,hN2⟩:=Qfz hr
 unfold J8.f Qsj cntR mapR seqR capR
 simp only[Qb,jn,hN,Int.toNat_natCast]
 by_cases h6:(20:Int)<N
 ·rw[Qj (QX h6),ZQ (by omega)]
  simp only[Qb]
  rw[QkK hK hN2 (qB hg)]
  simp[h6]
 ·rw[Qi (QN h6),QkK hK hN2 hg]
  simp[h6]
end Go.Proofs.YtomndohdnfebgaaGreatDoor
namespace Go.Proofs.YtomndohdnfebgaaGreatDoor
open Go Go.Sep
theorem QqG{K:Nat}(hK:1000000000000≤K){r:Rd}(hr:Good r)(i:Int):ZL.f K i r=some (QqC r):=by
 unfold ZL.f
 try simp only[jn]
 have g1:=Yt.good r hr
 have g2:=QgR.good _ g1
 refine QI (Zm hK hr) ?_
 refine QI (Qqx hK g1) ?_
 try simp only[Qb]
 have hp:=QqF hK g2
 rw[Zm hK g2]at hp⊢
 simp only[Qb]at hp⊢
 rw[hp]
 rfl
theorem Qoe{K:Nat}(hK:1000000000000≤K){r:Rd}(hr:Good r)(i:Nat):ZK.f K (i:Int) r=some (QgS i r):=by
 unfold ZK.f
 refine QI (Qqx hK hr) ?_
 rfl
theorem QkL{K:Nat}(hK:1000000000000≤K){N:Nat}(hN:N<2147483648){r:Rd}(hr:Good r):QH.l K (N:Int) K ([],0,r)=some (jV (fun _=>QqC) N 0 r):=by
 have:=Qb6 (L:=QH.l K (N:Int)) (one:=fun _=>QqC) (N:=N) (by omega) (fun _ r hr=>QhZ.good r hr)
  (fun k out r'=>by
   show QH.b K (N:Int) (QH.l K (N:Int) k) _=_
   unfold QH.b
   rw[Qi (QN (by simp))])
  (fun k out i r' hi hb=>by
   show QH.b K (N:Int) (QH.l K (N:Int) k) _=_
   unfold QH.b
   rw[Qj (QX (by simp only;omega)),Xt]
   try simp only[Qb]
   rw[Qj (by simp[hb])])
  (fun k out i r' hi hb hg ho=>by
   show QH.b K (N:Int) (QH.l K (N:Int) k) _=_
   unfold QH.b
   rw[Qj (QX (by simp only;omega)),Xt]
   try simp only[Qb]
   rw[Qi (by simp[hb]),QqG hK hg]
   try simp only[Qb]
   rw[Jm (by simp;omega)]
   try simp only[Qb]
   rw[wrap_succ (by omega)])
  N 0 [] r K (by omega) (by omega) hr (by simp)
 simpa using this
theorem Qh0{K:Nat}(hK:1000000000000≤K){N:Nat}(hN:N<2147483648){r:Rd}(hr:Good r):QO.l K (N:Int) K ([],0,r)=some (jV QgS N 0 r):=by
 have:=Qb6 (L:=QO.l K (N:Int)) (one:=QgS) (N:=N) (by omega) (fun i r hr=>(QgT i).good r hr)
  (fun k out r'=>by
   show QO.b K (N:Int) (QO.l K (N:Int) k) _=_
   unfold QO.b
   rw[Qi (QN (by simp))])
  (fun k out i r' hi hb=>by
   show QO.b K (N:Int) (QO.l K (N:Int) k) _=_
   unfold QO.b
   rw[Qj (QX (by simp only;omega)),Xt]
   try simp only[Qb]
   rw[Qj (by simp[hb])])
  (fun k out i r' hi hb hg ho=>by
   show QO.b K (N:Int) (QO.l K (N:Int) k) _=_
   unfold QO.b
   rw[Qj (QX (by simp only;omega)),Xt]
   try simp only[Qb]
   rw[Qi (by simp[hb]),Qoe hK hg]
   try simp only[Qb]
   rw[Jm (by simp;omega)]
   try simp only[Qb]
   rw[wrap_succ (by omega)])
  N 0 [] r K (by omega) (by omega) hr (by simp)
 simpa using this
def endS(t:Bun×Rd):Bun×Int:=
 let e:=if t.2.fBad≠0 then t.2.fBad else if t.2.fB= []then 0 else 2
 if e≠0 then(zBun,e)else if QdM t.1 then(t.1,0)else(zBun,2)
def getS(b:List Int):Bun×Int:=if b.take 4=mark then endS (bunR ⟨b.drop 4,0⟩)else(zBun,2)
theorem Qh1{x:Rc}(h:Ja x=true)(hb:okB x):okD x:=by
 have hd:=QcI h
 have hk:=hd.kept
 by_cases k:x.fKind=1
 ·obtain⟨b1,_,b3⟩:=hd.beg k
  have b1:=qR.1 b1
  exact⟨hb.data,by omega,by omega⟩
 ·have e:x.fSteps= []:=by
   rw[hk];unfold Qff
   rw[if_neg k]
   repeat' split
   all_goals rfl
  have e2:x.fData= []:=by
   rw[hk];unfold Qff
   rw[if_neg k]
   repeat' split
   all_goals rfl
  exact⟨hb.data,by rw[e2];simp,by rw[e];simp⟩
theorem QmZ{x:Bun}(h:QkI x):Qv5 x:=by
 have hi:=h.items
 have hs:=h.size
 have h1:=h.sigs.1
 unfold Qbc at hi
 cases hw:x.fWhole with
 |true=>
  rw[hw]at hi
  simp only[Qg]at hi
  refine⟨by omega,by omega,fun y hy=> ?_⟩
  obtain⟨j,hj⟩:=List.getElem?_of_mem hy
  have:=hi.2.2 j y hj
  refine⟨Qh1 this.1.1 this.1.2,?_⟩
  rw[←this.2];simp
 |false=>
  rw[hw]at hi
  simp only[Qh]at hi
  refine⟨by omega,by omega,fun y hy=> ?_⟩
  obtain⟨_,h2,h3,_⟩:=hi.2 y hy
  exact⟨Qh1 h2.1 h2.2,by omega⟩
theorem QuL{K:Nat}(r:Rd):Y3.f K r=some (if r.fBad≠0 then r.fBad else if r.fB= []then 0 else 2):=by
 obtain⟨b,e⟩:=r
 by_cases h:e=0
 ·subst h
  cases b with
  |nil=>rfl
  |cons c l=>
   unfold Y3.f QB.f
   try simp only[Qb]
   rw[Qi (by simp),Qj (by simp)]
   simp
 ·rw[Qqm h];simp[h]
theorem Qwa{K:Nat}{b:List Int}(hb:isB b)(hl:b.length<1000000000):bytes_CutPrefix.f K b mark=some (if b.take 4=mark then(b.drop 4,true)else(b,false)):=by
 unfold bytes_CutPrefix.f bytes_HasPrefix.f
 have hm:mark.length=4:=rfl
 have hmB:isB mark:=by unfold isB mark;decide
 by_cases h4:4≤b.length
 ·rw[Qj (QX (by rw[hm];omega)),hm,Qbe h4]
  try simp only[Qb]
  rw[QhV (fun x hx=>hb x (List.mem_of_mem_take hx)) hmB]
  try simp only[Qb]
  by_cases he:b.take 4=mark
  ·rw[Qi (by simp[he]),QaI h4]
   simp[he]
  ·rw[Qj (by simp[he])]
   simp[he]
 ·rw[Qi (QN (by rw[hm];omega))]
  have he: ¬b.take 4=mark:=fun e=>by
   have:=congrArg List.length e
   rw[hm]at this
   simp at this;omega
  simp[he]
theorem QqH{K:Nat}(hK:1000000000000≤K){x:Bun}{r:Rd}(h:r.fBad=0→QkI x):
  ((Y3.f K r).bind fun(e:Int)=>(bif (!decide (e=(0:Int)))then(some (zBun,e))else((JE.f K x).bind fun(q:Bool)=>(bif (!q)then(some (zBun,(2:Int)))else(some (x,(0:Int)))))))=some (endS (x,r)):=by
 rw[QuL]
 try simp only[Qb]
 unfold endS
 simp only
 generalize he:(if r.fBad≠0 then r.fBad else if r.fB= []then 0 else 2)=e
 by_cases h0:e=0
 ·subst h0
  have hb:r.fBad=0:=by
   by_cases hb:r.fBad=0
   ·exact hb
   ·rw[if_pos hb]at he;exact he
  rw[Qi (by simp),Qqz hK (QmZ (h hb))]
  try simp only[Qb]
  cases QdM x<;>simp
 ·rw[Qj (by simp[h0]),if_pos h0]
theorem Qof{K:Nat}(hK:1000000000000≤K){N:Nat}(hN:N<2147483648){r:Rd}(hr:Good r)(w:Bool):
  (bif w then Jw.f K (N:Int) 400 r else(Qz.f K r).bind (fun t=>Je.f K t.1 (N:Int) t.2))=some (Qbf w (N:Int) r):=by
 cases w with
 | true=>
  simp only[Qg]
  unfold Jw.f Qbf
  simp only[jn,Qg,Int.toNat_natCast]
  by_cases h6:(400:Int)<N
  ·rw[Qj (QX h6),ZQ (by omega)]
   try simp only[Qb]
   rw[Qh0 hK hN (qB hr)]
   simp[h6]
  ·rw[Qi (QN h6),Qh0 hK hN hr]
   simp[h6]
 | false=>
  simp only[Qh]
  have hg:=Yt.good r hr
  rw[Zm hK hr]
  obtain⟨M,hM,hM2⟩:=Qfz hr
  unfold Je.f Qbf cntR mapR seqR capR
  simp only[Qb,jn,hM,Int.toNat_natCast,Qh]
  by_cases h6:(N:Int)<M
  ·rw[Qj (QX h6),ZQ (by omega)]
   try simp only[Qb]
   rw[QkL hK hM2 (qB hg)]
   simp[h6]
  ·rw[Qi (QN h6),QkL hK hM2 hg]
   simp[h6]
theorem Qwb{K:Nat}(hK:1000000000000≤K){b:List Int}(hb:isB b)(hl:b.length<1000000000):Qao.f K b=some (getS b):=by
 unfold Qao.f getS
 refine QI (Qwa hb hl) ?_
 by_cases hm:b.take 4=mark
 ·rw [if_pos hm,if_pos hm]
  simp only[Bool.not_true,Qh]
  have hg:Good ⟨b.drop 4,0⟩:=Good.drop (b:=b) (e:=0) ⟨hb,hl⟩ 4
  have hl2:(b.drop 4).length<1000000000000:=by have:=hg.2;simp only at this;omega
  refine QI (QuC hl2) ?_
  have hs:=QgU.back ⟨b.drop 4,0⟩ hg
  generalize (⟨b.drop 4,0⟩:Rd)=r at hg hs
  obtain⟨w,r1,e1,q1,g1⟩:=Qet (K:=K) hg
  refine QI q1 ?_
  try simp only[Qb]
  obtain⟨N,hN,hN2⟩:=Qfz g1
  obtain⟨n,r2,e2,q2,g2⟩:=jq hK g1
  have hn:n=(N:Int):=by rw[e2]at hN;exact hN
  subst hn
  refine QI q2 ?_
  try simp only[jn,Qb]
  obtain⟨r3,e3,g3⟩:∃r3,(capR 400 4 r1)=((N:Int),r3)∧Good r3:=by
   refine⟨(capR 400 4 r1).2,?_,(QgM (by omega) (by omega)).good _ g1⟩
   simp only[capR,e2]
  have key:∀r3,capR 400 4 r1=((N:Int),r3)→Good r3→
    ((Yj.f K r3).bind fun(r376:(H32×Rd))=>(Qz.f K r376.2).bind fun(r409:(Int×Rd))=>(JJ.f K r409.1 4 r409.2).bind fun(r417:(List Sg×Rd))=>
     (bif w then(Jw.f K (N:Int) 400 r417.2).bind fun(r538:(List It×Rd))=>((Y3.f K r538.2).bind fun(e:Int)=>(bif (!decide (e=(0:Int)))then(some (zBun,e))else((JE.f K ⟨w,⟨(N:Int),r376.1,r417.1⟩,r538.1⟩).bind fun(q:Bool)=>(bif (!q)then(some (zBun,(2:Int)))else(some ((⟨w,⟨(N:Int),r376.1,r417.1⟩,r538.1⟩:Bun),(0:Int)))))))
      else(Qz.f K r417.2).bind fun(r572:(Int×Rd))=>(Je.f K r572.1 (N:Int) r572.2).bind fun(r538:(List It×Rd))=>((Y3.f K r538.2).bind fun(e:Int)=>(bif (!decide (e=(0:Int)))then(some (zBun,e))else((JE.f K ⟨w,⟨(N:Int),r376.1,r417.1⟩,r538.1⟩).bind fun(q:Bool)=>(bif (!q)then(some (zBun,(2:Int)))else(some ((⟨w,⟨(N:Int),r376.1,r417.1⟩,r538.1⟩:Bun),(0:Int)))))))))
    =some (endS (bunR r)):=by
   intro r3 e3 g3
   obtain⟨h,r4,e4,q4,g4⟩:=Qjh (K:=K) g3
   refine QI q4 ?_
   simp only
   have hsig:=QqE hK g4
   have g5:=QhY.good _ g4
   obtain⟨sg,r5,e5⟩:∃sg r5,QqB r4=(sg,r5):=⟨_,_,rfl⟩
   rw[e5]at hsig g5
   replace g5:Good r5:=g5
   obtain⟨m,r4',e4',q4',g4'⟩:=jq hK g4
   rw[q4']at hsig
   simp only[Qb]at hsig
   refine QI q4' ?_
   simp only
   refine QI hsig ?_
   simp only
   have hit:=Qof hK hN2 g5 w
   obtain⟨l,r6,e6⟩:∃l r6,Qbf w (N:Int) r5=(l,r6):=⟨_,_,rfl⟩
   rw[e6]at hit
   have hB:bunR r=(⟨w,⟨(N:Int),h,sg⟩,l⟩,r6):=by
    have hc:capN (N:Int)=(N:Int):=by simp only[capN];rw[if_pos (by omega)]
    simp only[bunR,mapR,seqR,e1,e3,e4,e5,hc,e6,bunE]
   rw[hB]at hs⊢
   have hs:r6.fBad=0→QkI ⟨w,⟨(N:Int),h,sg⟩,l⟩:=fun h0=>(hs h0).2.2
   cases w with
   |true=>
    simp only[Qg]at hit⊢
    refine QI hit ?_
    exact QqH hK hs
   |false=>
    simp only[Qh]at hit⊢
    obtain⟨m2,r7,e7,q7,g7⟩:=jq hK g5
    rw[q7]at hit
    simp only[Qb]at hit
    refine QI q7 ?_
    simp only
    refine QI hit ?_
    exact QqH hK hs
  by_cases h4:(400:Int)<(N:Int)
  ·simp only[h4,decide_true,Qg]
   refine QI (ZQ (by omega) r2) ?_
   exact key _ (by simp only[capR,e2,h4,if_true]) (qB g2)
  ·simp only[h4,decide_false,Qh]
   exact key _ (by simp only[capR,e2,h4,if_false]) g2
 ·rw[if_neg hm,if_neg hm]
  rfl
end Go.Proofs.YtomndohdnfebgaaGreatDoor
