/-
 Plain: bundles' bytes, and how they are read.
-/
import Derived.Test.YtomndohdnfebgaaGreatDoorPureU
namespace Go.Proofs.YtomndohdnfebgaaGreatDoor
open Go Go.Sep
def sigW(s:Sg):List Int:=numW s.fWit++Ye s.fTag
def QmT(l:List Sg):List Int:=numS l.length++(l.map sigW).flatten
def QmU(h:H32):List Int:=Ye h
def QrF(l:List H32):List Int:=numS l.length++(l.map QmU).flatten
def Qif(x:It):List Int:=numW x.fAt++(Qhl x.fRec++QrF x.fPath)
def Qln(x:It):List Int:=Qhl x.fRec
def Qdd(whole:Bool)(l:List It):List Int:=bif whole then(l.map Qln).flatten else numS l.length++(l.map Qif).flatten
def bunW(x:Bun):List Int:= [ZJ x.fWhole]++(numW x.fPoint.fSize++(Ye x.fPoint.fRoot++(QmT x.fPoint.fSigs++Qdd x.fWhole x.fItems)))
def mark:List Int:= [105,110,115,112]
theorem QmV{whole:Bool}{size:Int}(hs:0≤size∧size≤400):∀{l:List It} {last:Int} {i:Nat},-1≤last→jF whole size last i l=true→
  ∀x∈l,Yx x.fRec=true∧inN x.fAt∧x.fPath.length≤20:=by
 intro l
 induction l with
 |nil=>intro last i _ _ x hx;cases hx
 |cons y l ih=>
  intro last i hl h x hx
  unfold jF Qfj at h
  simp only[Qd]at h
  obtain⟨⟨h1,h2,h3,_⟩,h4⟩:=h
  have h2:=qm.1 h2
  have h3:=of_decide_eq_true h3
  rcases List.mem_cons.1 hx with rfl|hx
  ·exact⟨h1,by omega,by omega⟩
  ·exact ih (by omega) h4 x hx
structure Qlo(x:Bun):Prop where
 size:0≤x.fPoint.fSize∧x.fPoint.fSize≤400
 sigs:x.fPoint.fSigs.length≤4
 wits:∀s∈x.fPoint.fSigs,inN s.fWit
 len:x.fItems.length≤400
 lens:(x.fItems.length:Int)≤x.fPoint.fSize
 whole:x.fWhole=true→(x.fItems.length:Int)=x.fPoint.fSize
 ok:jF x.fWhole x.fPoint.fSize (-1) 0 x.fItems=true
 items:∀y∈x.fItems,Yx y.fRec=true∧inN y.fAt∧y.fPath.length≤20
theorem Qlp{x:Bun}(h:XQ x=true):Qlo x:=by
 unfold XQ QeU at h
 simp only[Qd]at h
 obtain⟨⟨h1,h2,h3⟩,h4,h5,h6⟩:=h
 have h1:=qm.1 h1
 have h2:=of_decide_eq_true h2
 have h4:=of_decide_eq_true h4
 refine⟨h1,by omega,fun s hs=> ?_,by omega,h4,fun hw=> ?_,h6,QmV h1 (by omega) h6⟩
 ·have:=List.all_eq_true.1 h3 s hs
  exact Qhm this (by omega) (by omega)
 ·rw[hw]at h5
  simpa using h5
theorem QnX{s:Sg}(h:inN s.fWit):(sigW s).length≤37:=by
 have:=Yu h
 simp[sigW,QI];omega
theorem Qlq{x:Bun}(h:Qlo x):(QmT x.fPoint.fSigs).length≤200:=by
 have h1:(x.fPoint.fSigs.map sigW).flatten.length≤37*x.fPoint.fSigs.length:=Za (fun s hs=>QnX (h.wits s hs))
 have h2:=jL (n:=x.fPoint.fSigs.length) (by have:=h.sigs;omega)
 have:=h.sigs
 simp only[QmT,List.length_append];omega
theorem QrG{l:List H32}(h:l.length≤20):(QrF l).length≤645:=by
 have h1:(l.map QmU).flatten.length≤32*l.length:=Za (fun s _=>by unfold QmU;rw[QI];omega)
 have h2:=jL (n:=l.length) (by omega)
 simp only[QrF,List.length_append];omega
theorem Qlr{y:It}(h:Yx y.fRec=true∧inN y.fAt∧y.fPath.length≤20):(Qif y).length≤1000∧0<(Qif y).length:=by
 have h1:=Qll h.1
 have h2:=Yu h.2.1
 have h3:=QrG h.2.2
 simp only[Qif,List.length_append];omega
theorem QiC{x:Bun}(h:Qlo x)(w:Bool):(Qdd w x.fItems).length≤500000:=by
 have hl:=h.len
 cases w
 ·have h1:(x.fItems.map Qif).flatten.length≤1000*x.fItems.length:=Za (fun y hy=>(Qlr (h.items y hy)).1)
  have h2:=jL (n:=x.fItems.length) (by omega)
  simp only[Qdd,Qh,List.length_append];omega
 ·have h1:(x.fItems.map Qln).flatten.length≤305*x.fItems.length:=Za (fun y hy=>(Qll (h.items y hy).1).1)
  simp only[Qdd,Qg];omega
theorem QnY{x:Bun}(h:Qlo x):(bunW x).length≤600000:=by
 have h1:=QiC h x.fWhole
 have h2:=Qlq h
 have h3:=Yu (n:=x.fPoint.fSize) (by have:=h.size;omega)
 simp only[bunW,List.length_append,QI,List.length_singleton];omega
theorem QtH{K:Nat}(hK:1000000000000≤K){l:List Sg}(hl:l.length≤4)(h:∀s∈l,inN s.fWit):qW.f K l=some (QmT l):=by
 unfold qW.f
 have hn:=Qlk (K:=K) (n:=l.length) hK (by omega)
 rw[hn]
 simp only[Qb]
 have h1:(l.map sigW).flatten.length≤37*l.length:=Za (fun s hs=>QnX (h s hs))
 have h2:=jL (n:=l.length) (by omega)
 have:=Qaj (L:=Yp.l K l) l sigW (numS l.length) (k:=K) (by omega)
  (fun k s=>by
   show Yp.b K l (Yp.l K l k) _=_
   unfold Yp.b
   rw[Qi (QG (by simp))])
  (fun k s i y hi hx hm hs=>by
   show Yp.b K l (Yp.l K l k) _=_
   unfold Yp.b
   rw[Qj (QT (by simp;omega))]
   simp only
   rw[hx]
   simp only[Qb]
   have hy:=h y hm
   have hw:=Yu hy
   have e:Qab.f K y=some (sigW y):=by
    unfold Qab.f
    rw[QmR hK hy]
    simp only[Qb]
    rw[Qcv]
    simp only[Qb]
    rw[jO hK (by simp[QI];omega) (by simp)]
    simp[sigW]
   rw[e]
   simp only[Qb]
   rw[YQ (by omega)]
   simp only[Qb]
   rw[wrap_succ (by omega)])
  (by omega)
 rw[this]
 rfl
theorem QtI{K:Nat}(hK:1000000000000≤K){l:List H32}(hl:l.length≤20):qx.f K l=some (QrF l):=by
 unfold qx.f
 have hn:=Qlk (K:=K) (n:=l.length) hK (by omega)
 rw[hn]
 simp only[Qb]
 have h1:(l.map QmU).flatten.length≤32*l.length:=Za (fun s _=>by unfold QmU;rw[QI];omega)
 have h2:=jL (n:=l.length) (by omega)
 have:=Qaj (L:=Yj.l K l) l QmU (numS l.length) (k:=K) (by omega)
  (fun k s=>by
   show Yj.b K l (Yj.l K l k) _=_
   unfold Yj.b
   rw[Qi (QG (by simp))])
  (fun k s i y hi hx hm hs=>by
   show Yj.b K l (Yj.l K l k) _=_
   unfold Yj.b
   rw[Qj (QT (by simp;omega))]
   simp only
   rw[hx]
   simp only[Qb]
   rw[Qcv]
   simp only[Qb]
   unfold QmU at hs⊢
   rw[YQ (by omega)]
   simp only[Qb]
   rw[wrap_succ (by omega)])
  (by omega)
 rw[this]
 rfl
theorem QtJ{K:Nat}(hK:1000000000000≤K){y:It}(ho:QuV y)(h:Yx y.fRec=true∧inN y.fAt∧y.fPath.length≤20):Qbc.f K y=some (Qif y):=by
 unfold Qbc.f
 rw[QmR hK h.2.1]
 simp only[Qb]
 rw[Qrw hK ho.d,h.1]
 simp only[Qb,Qg]
 rw[QtI hK h.2.2]
 simp only[Qb]
 have h4:=Qlr h
 simp only[Qif,List.length_append]at h4
 rw[jO hK (by simp;omega) (by simp)]
 simp[Qif]
theorem put_eq{K:Nat}(hK:1000000000000≤K){x:Bun}(ho:Qwc x):yG.f K x=some (bif XQ x then mark++bunW x else []):=by
 unfold yG.f
 rw[Qlm hK ho]
 simp only[Qb]
 cases hr:XQ x with
 |false=>rfl
 |true=>
 have hp:=Qlp hr
 rw[Qi (by rfl)]
 try simp only[jn]
 have hsz:=hp.size
 have w1:=Yu (n:=x.fPoint.fSize) (by omega)
 have w2:=Qlq hp
 have w3:=QiC hp
 have hl:=hp.len
 refine QD QeP ?_
 refine QD (QmR hK (by omega)) ?_
 refine QD Qcv ?_
 refine QD (QtH hK hp.sigs hp.wits) ?_
 refine QD (jO hK (by simp[QI];omega) (by simp)) ?_
 have hhl:(([[(105:Int),110,115,112], [ZJ x.fWhole],numW x.fPoint.fSize,Ye x.fPoint.fRoot,QmT x.fPoint.fSigs]:List (List Int)).flatten).length≤300:=by simp[QI];omega
 generalize hh:([[(105:Int),110,115,112], [ZJ x.fWhole],numW x.fPoint.fSize,Ye x.fPoint.fRoot,QmT x.fPoint.fSigs]:List (List Int)).flatten=hd at hhl
 have he:mark++bunW x=hd++Qdd x.fWhole x.fItems:=by rw[←hh];simp[mark,bunW]
 rw[he]
 cases hw:x.fWhole with
 | false=>
  rw[Qj (by rfl)]
  have e:qy.f K x.fItems=some (Qdd false x.fItems):=by
   unfold qy.f
   have hn:=Qlk (K:=K) (n:=x.fItems.length) hK (by omega)
   rw[hn]
   simp only[Qb]
   have w4:=w3 false
   simp only[Qdd,Qh,List.length_append]at w4
   have:=Qaj (L:=Yk.l K x.fItems) x.fItems Qif (numS x.fItems.length) (k:=K) (by omega)
    (fun k s=>by
     show Yk.b K x.fItems (Yk.l K x.fItems k) _=_
     unfold Yk.b
     rw[Qi (QG (by simp))])
    (fun k s i y hi hx hm hs=>by
     show Yk.b K x.fItems (Yk.l K x.fItems k) _=_
     unfold Yk.b
     rw[Qj (QT (by simp;omega))]
     simp only
     rw[hx]
     simp only[Qb]
     rw[QtJ hK (ho.items y hm) (hp.items y hm)]
     simp only[Qb]
     rw[YQ (by omega)]
     simp only[Qb]
     rw[wrap_succ (by omega)])
    (by omega)
   rw[this]
   rfl
  have w4:=w3 false
  rw[e]
  simp only[Qb,Qg]
  rw[YQ (by omega)]
  rfl
 | true=>
  rw[Qi (by rfl)]
  have w4:=w3 true
  simp only[Qdd,Qg]at w4
  have:=Qaj (L:=Jz.l K x) x.fItems Qln hd (k:=K) (by omega)
   (fun k s=>by
    show Jz.b K x (Jz.l K x k) _=_
    unfold Jz.b
    rw[Qi (QG (by simp))])
   (fun k s i y hi hx hm hs=>by
    show Jz.b K x (Jz.l K x k) _=_
    unfold Jz.b
    rw[Qj (QT (by simp;omega))]
    simp only
    rw[hx]
    simp only[Qb]
    rw[Qrw hK (ho.items y hm).d,(hp.items y hm).1]
    simp only[Qb,Qg]
    unfold Qln at hs⊢
    rw[YQ (by omega)]
    simp only[Qb]
    rw[wrap_succ (by omega)])
   (by omega)
  rw[this]
  rfl
def sigR:Rd→Sg×Rd:=mapR (fun(t:Int×H32)=>(⟨t.1,t.2⟩:Sg)) (seqR numR (fun _=>Qcx))
theorem Qls:Jg sigR sigW (fun s=>inN s.fWit∧isB (Ye s.fTag)):=
 ((YD.seq (fun _=>yK)).map (e:=fun(t:Int×H32)=>(⟨t.1,t.2⟩:Sg)) (fun s=>(s.fWit,s.fTag)) (fun _=>rfl)).conv (fun _ _=>rfl) (fun s=>⟨fun h=>⟨h,rfl⟩,fun h=>h.1⟩)
def cntR{α:Type}(most:Int)(one:Nat→Rd→α×Rd):Rd→List α×Rd:=mapR Prod.snd (seqR (capR most 4) (fun n=>Xz one n.toNat 0))
theorem mem_iff{α:Type}{P:α→Prop}{l:List α}:(∀x∈l,P x)↔∀(j:Nat) x,l[j]?=some x→P x:=
 ⟨fun h j x hx=>h x (List.mem_of_getElem? hx),fun h x hx=>by obtain⟨j,hj⟩:=List.getElem?_of_mem hx;exact h j x hj⟩
def QrH:Rd→List Sg×Rd:=cntR 4 (fun _=>sigR)
theorem QiD:Jg QrH QmT (fun l=>(l.length:Int)≤4∧∀s∈l,inN s.fWit∧isB (Ye s.fTag)):=
 (Jg.counted (most:=4) (code:=4) (by omega) (by omega) (fun _=>Qls)).conv (fun _ _=>rfl) (fun l=>by rw[mem_iff])
def QtK:Rd→List H32×Rd:=cntR 20 (fun _=>Qcx)
theorem Qpf:Jg QtK QrF (fun l=>(l.length:Int)≤20∧∀h∈l,isB (Ye h)):=
 (Jg.counted (most:=20) (code:=4) (by omega) (by omega) (fun _=>yK)).conv (fun _ _=>rfl) (fun l=>by rw[mem_iff])
def QrI:Rd→It×Rd:=mapR (fun(t:Int×Rc×List H32)=>(⟨t.1,t.2.1,t.2.2⟩:It)) (seqR numR (fun _=>seqR recR (fun _=>QtK)))
def QuW(y:It):Prop:=inN y.fAt∧(Yx y.fRec=true∧okB y.fRec)∧(y.fPath.length:Int)≤20∧∀h∈y.fPath,isB (Ye h)
theorem QiE:Jg QrI Qif QuW:=
 ((YD.seq (fun _=>Qhq.seq (fun _=>Qpf))).map (e:=fun(t:Int×Rc×List H32)=>(⟨t.1,t.2.1,t.2.2⟩:It)) (fun y=>(y.fAt,y.fRec,y.fPath)) (fun _=>rfl)).conv (fun _ _=>rfl) (fun y=>⟨fun h=>⟨h,rfl⟩,fun h=>h.1⟩)
def QiF(i:Nat):Rd→It×Rd:=mapR (fun(c:Rc)=>(⟨(i:Int),c, []⟩:It)) recR
def QrJ(i:Nat)(y:It):Prop:=(Yx y.fRec=true∧okB y.fRec)∧(⟨(i:Int),y.fRec, []⟩:It)=y
theorem Qhs(i:Nat):Jg (QiF i) Qln (QrJ i):=
 (Qhq.map (e:=fun(c:Rc)=>(⟨(i:Int),c, []⟩:It)) (fun y=>y.fRec) (fun _=>rfl)).conv (fun _ _=>rfl) (fun y=>Iff.rfl)
def Qde(w:Bool)(n:Int):Rd→List It×Rd:=
 bif w then fun r=>Xz QiF n.toNat 0 (if 400<n then Qhg 4 r else r)else cntR n (fun _=>QrI)
def Qal(w:Bool)(n:Int)(l:List It):Prop:=
 bif w then(n≤400∧l.length=n.toNat∧∀j x,l[j]?=some x→QrJ j x)else((l.length:Int)≤n∧∀y∈l,QuW y)
theorem QmW(w:Bool)(n:Int)(hn:n<2147483648):Jg (Qde w n) (Qdd w) (Qal w n):=by
 cases w with
 |false=>
  exact(Jg.counted (most:=n) (code:=4) hn (by omega) (fun _=>QiE)).conv (fun _ _=>rfl) (fun l=>by simp only[Qal,Qh];rw[mem_iff])
 | true=>
  have hs:=Jg.list Qhs n.toNat 0
  simp only[Nat.zero_add]at hs
  by_cases h4:400<n
  ·refine⟨fun r hr=> ?_,fun a rest ha _=> ?_,fun r hr hb=> ?_⟩
   ·simp only[Qde,Qg,h4,if_true]
    exact hs.good _ (qO hr)
   ·simp only[Qal,Qg]at ha;omega
   ·simp only[Qde,Qg,h4,if_true]at hb
    exact absurd (hs.back _ (qO hr) hb).1 (QaU (by omega) _)
  ·have e:Qde true n=Xz QiF n.toNat 0:=by
    funext r
    simp only[Qde,Qg,h4,if_false]
   rw[e]
   exact hs.conv (fun _ _=>rfl) (fun l=>by simp only[Qal,Qg];exact⟨fun h=>h.2,fun h=>⟨by omega,h⟩⟩)
abbrev BunT:=Bool×Int×H32×List Sg×List It
def bunE(t:BunT):Bun:=⟨t.1,⟨t.2.1,t.2.2.1,t.2.2.2.1⟩,t.2.2.2.2⟩
def capN(n:Int):Int:=if n<2147483648 then n else 0
def bunR:Rd→Bun×Rd:=mapR bunE (seqR QbA (fun w=>seqR (capR 400 4) (fun n=>seqR Qcx (fun _=>seqR QrH (fun _=>Qde w (capN n))))))
structure QjV(x:Bun):Prop where
 size:0≤x.fPoint.fSize∧x.fPoint.fSize≤400
 root:isB (Ye x.fPoint.fRoot)
 sigs:(x.fPoint.fSigs.length:Int)≤4∧∀s∈x.fPoint.fSigs,inN s.fWit∧isB (Ye s.fTag)
 items:Qal x.fWhole x.fPoint.fSize x.fItems
theorem Qht:Jg bunR bunW QjV:=by
 have h:=(QaW.seq (fun w=>(Qhi (most:=400) (code:=4) (by omega) (by omega)).seq (fun n=>yK.seq (fun _=>QiD.seq (fun _=>QmW w (capN n) (by unfold capN;split<;>omega)))))).map (e:=bunE) (fun x=>(x.fWhole,x.fPoint.fSize,x.fPoint.fRoot,x.fPoint.fSigs,x.fItems)) (fun _=>rfl)
 refine h.conv (fun x _=>rfl) (fun x=>⟨fun h=>⟨⟨trivial,h.size,h.root,h.sigs,?_⟩,rfl⟩,fun h=>⟨h.1.2.1,h.1.2.2.1,h.1.2.2.2.1,?_⟩⟩)
 ·have h1:=h.size
  have:=h.items
  simp only[capN]
  rwa [if_pos (by omega)]
 ·have:=h.1.2.2.2.2
  have h1:=h.1.2.1
  simp only[capN]at this h1
  rwa [if_pos (by omega)]at this
theorem Qf1{r:Rd}(hr:Good r):∃N:Nat,(numR r).1=(N:Int)∧N<2147483648:=by
 unfold numR
 split
 ·split
  ·rename_i _ h2
   obtain⟨n,rest,h3,h4,h5⟩:=QaV hr.1 h2
   exact⟨n,by rw[h5],h3⟩
  ·exact⟨0,rfl,by omega⟩
 ·exact⟨0,rfl,by omega⟩
theorem Qlt{K:Nat}(hK:1000000000000≤K){N:Nat}(hN:N<2147483648){r:Rd}(hr:Good r):Q7.l K (N:Int) K ([],0,r)=some (Xz (fun _=>sigR) N 0 r):=by
 have:=Qcy (L:=Q7.l K (N:Int)) (one:=fun _=>sigR) (N:=N) (by omega) (fun _ r hr=>Qls.good r hr)
  (fun k out r'=>by
   show Q7.b K (N:Int) (Q7.l K (N:Int) k) _=_
   unfold Q7.b
   rw[Qi (QG (by simp))])
  (fun k out i r' hi hb=>by
   show Q7.b K (N:Int) (Q7.l K (N:Int) k) _=_
   unfold Q7.b
   rw[Qj (QT (by simp only;omega)),XV]
   simp only[Qb]
   rw[Qj (by simp[hb])])
  (fun k out i r' hi hb hg ho=>by
   show Q7.b K (N:Int) (Q7.l K (N:Int) k) _=_
   unfold Q7.b Qb3.f
   rw[Qj (QT (by simp only;omega)),XV]
   simp only[Qb]
   rw[Qi (by simp[hb]),ZK hK hg]
   simp only[Qb]
   rw[QjS (YD.good _ hg)]
   simp only[Qb]
   rw[YQ (by simp;omega)]
   simp only[Qb]
   rw[wrap_succ (by omega)]
   rfl)
  N 0 [] r K (by omega) (by omega) hr (by simp)
 simpa using this
theorem QrK{K:Nat}(hK:1000000000000≤K){r:Rd}(hr:Good r):(Qy.f K r).bind (fun t=>Jv.f K t.1 4 t.2)=some (QrH r):=by
 have hg:=YD.good r hr
 rw[ZK hK hr]
 obtain⟨N,hN,hN2⟩:=Qf1 hr
 unfold Jv.f QrH cntR mapR seqR capR
 simp only[Qb,jn,hN,Int.toNat_natCast]
 by_cases h6:(4:Int)<N
 ·rw[Qj (QT h6),Qai (by omega)]
  simp only[Qb]
  rw[Qlt hK hN2 (qO hg)]
  simp[h6]
 ·rw[Qi (QG h6),Qlt hK hN2 hg]
  simp[h6]
theorem Qlu{K:Nat}(hK:1000000000000≤K){N:Nat}(hN:N<2147483648){r:Rd}(hr:Good r):QY.l K (N:Int) K ([],0,r)=some (Xz (fun _=>Qcx) N 0 r):=by
 have:=Qcy (L:=QY.l K (N:Int)) (one:=fun _=>Qcx) (N:=N) (by omega) (fun _ r hr=>yK.good r hr)
  (fun k out r'=>by
   show QY.b K (N:Int) (QY.l K (N:Int) k) _=_
   unfold QY.b
   rw[Qi (QG (by simp))])
  (fun k out i r' hi hb=>by
   show QY.b K (N:Int) (QY.l K (N:Int) k) _=_
   unfold QY.b
   rw[Qj (QT (by simp only;omega)),XV]
   simp only[Qb]
   rw[Qj (by simp[hb])])
  (fun k out i r' hi hb hg ho=>by
   show QY.b K (N:Int) (QY.l K (N:Int) k) _=_
   unfold QY.b Qaq.f
   rw[Qj (QT (by simp only;omega)),XV]
   simp only[Qb]
   rw[Qi (by simp[hb]),QjS hg]
   simp only[Qb]
   rw[YQ (by simp;omega)]
   simp only[Qb]
   rw[wrap_succ (by omega)])
  N 0 [] r K (by omega) (by omega) hr (by simp)
 simpa using this
theorem QrL{K:Nat}(hK:1000000000000≤K){r:Rd}(hr:Good r):(Qy.f K r).bind (fun t=>qA.f K t.1 20 t.2)=some (QtK r):=by
 have hg:=YD.good r hr
 rw[ZK hK hr]
 obtain⟨N,hN,hN2⟩:=Qf1 hr
 unfold qA.f QtK cntR mapR seqR capR
 simp only[Qb,jn,hN,Int.toNat_natCast]
 by_cases h6:(20:Int)<N
 ·rw[Qj (QT h6),Qai (by omega)]
  simp only[Qb]
  rw[Qlu hK hN2 (qO hg)]
  simp[h6]
 ·rw[Qi (QG h6),Qlu hK hN2 hg]
  simp[h6]
end Go.Proofs.YtomndohdnfebgaaGreatDoor
