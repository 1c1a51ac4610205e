/-
 Plain: bundles' bytes, and how they are read.
-/
import Derived.Test.YtomndohdnfebgaaGreatDoorPureU
namespace Go.Proofs.YtomndohdnfebgaaGreatDoor
open Go Go.Sep
def sigW(s:Sg):List Int:=numW s.fWit++Q9 s.fTag
def Qmm(l:List Sg):List Int:=numS l.length++(l.map sigW).flatten
def Qmn(h:H32):List Int:=Q9 h
def QqN(l:List H32):List Int:=numS l.length++(l.map Qmn).flatten
def QhG(x:It):List Int:=numW x.fAt++(QgY x.fRec++QqN x.fPath)
def QkT(x:It):List Int:=QgY x.fRec
def QcN(whole:Bool)(l:List It):List Int:=bif whole then(l.map QkT).flatten else numS l.length++(l.map QhG).flatten
def bunW(x:Bun):List Int:= [Zk x.fWhole]++(numW x.fPoint.fSize++(Q9 x.fPoint.fRoot++(Qmm x.fPoint.fSigs++QcN x.fWhole x.fItems)))
def mark:List Int:= [105,110,115,112]
theorem Qmo{whole:Bool}{size:Int}(hs:0≤size∧size≤400):∀{l:List It} {last:Int} {i:Nat},-1≤last→jK whole size last i l=true→
  ∀x∈l,YQ x.fRec=true∧inN x.fAt∧x.fPath.length≤20:=by
 intro l
 induction l with
 |nil=>intro last i _ _ x hx;cases hx
 |cons y l ih=>
  intro last i hl h x hx
  unfold jK Qh8 at h
  simp only[Qd]at h
  obtain⟨⟨h1,h2,h3,_⟩,h4⟩:=h
  have h2:=qC.1 h2
  have h3:=of_decide_eq_true h3
  rcases List.mem_cons.1 hx with rfl|hx
  ·exact⟨h1,by omega,by omega⟩
  ·exact ih (by omega) h4 x hx
structure QkU(x:Bun):Prop where
 size:0≤x.fPoint.fSize∧x.fPoint.fSize≤400
 sigs:x.fPoint.fSigs.length≤4
 wits:∀s∈x.fPoint.fSigs,inN s.fWit
 len:x.fItems.length≤400
 lens:(x.fItems.length:Int)≤x.fPoint.fSize
 whole:x.fWhole=true→(x.fItems.length:Int)=x.fPoint.fSize
 ok:jK x.fWhole x.fPoint.fSize (-1) 0 x.fItems=true
 items:∀y∈x.fItems,YQ y.fRec=true∧inN y.fAt∧y.fPath.length≤20
theorem QkV{x:Bun}(h:yT x=true):QkU x:=by
 unfold yT Qez at h
 simp only[Qd]at h
 obtain⟨⟨h1,h2,h3⟩,h4,h5,h6⟩:=h
 have h1:=qC.1 h1
 have h2:=of_decide_eq_true h2
 have h4:=of_decide_eq_true h4
 refine⟨h1,by omega,fun s hs=> ?_,by omega,h4,fun hw=> ?_,h6,Qmo h1 (by omega) h6⟩
 ·have:=List.all_eq_true.1 h3 s hs
  exact QgZ this (by omega) (by omega)
 ·rw[hw]at h5
  simpa using h5
theorem Qnf{s:Sg}(h:inN s.fWit):(sigW s).length≤37:=by
 have:=Yn h
 simp[sigW,QG];omega
theorem QkW{x:Bun}(h:QkU x):(Qmm x.fPoint.fSigs).length≤200:=by
 have h1:(x.fPoint.fSigs.map sigW).flatten.length≤37*x.fPoint.fSigs.length:=XJ (fun s hs=>Qnf (h.wits s hs))
 have h2:=jA (n:=x.fPoint.fSigs.length) (by have:=h.sigs;omega)
 have:=h.sigs
 simp only[Qmm,List.length_append];omega
theorem QqO{l:List H32}(h:l.length≤20):(QqN l).length≤645:=by
 have h1:(l.map Qmn).flatten.length≤32*l.length:=XJ (fun s _=>by unfold Qmn;rw[QG];omega)
 have h2:=jA (n:=l.length) (by omega)
 simp only[QqN,List.length_append];omega
theorem QkX{y:It}(h:YQ y.fRec=true∧inN y.fAt∧y.fPath.length≤20):(QhG y).length≤1000∧0<(QhG y).length:=by
 have h1:=QkR h.1
 have h2:=Yn h.2.1
 have h3:=QqO h.2.2
 simp only[QhG,List.length_append];omega
theorem Qh9{x:Bun}(h:QkU x)(w:Bool):(QcN w x.fItems).length≤500000:=by
 have hl:=h.len
 cases w
 ·have h1:(x.fItems.map QhG).flatten.length≤1000*x.fItems.length:=XJ (fun y hy=>(QkX (h.items y hy)).1)
  have h2:=jA (n:=x.fItems.length) (by omega)
  simp only[QcN,Qh,List.length_append];omega
 ·have h1:(x.fItems.map QkT).flatten.length≤305*x.fItems.length:=XJ (fun y hy=>(QkR (h.items y hy).1).1)
  simp only[QcN,Qg];omega
theorem Qng{x:Bun}(h:QkU x):(bunW x).length≤600000:=by
 have h1:=Qh9 h x.fWhole
 have h2:=QkW h
 have h3:=Yn (n:=x.fPoint.fSize) (by have:=h.size;omega)
 simp only[bunW,List.length_append,QG,List.length_singleton];omega
theorem QsC{K:Nat}(hK:1000000000000≤K){l:List Sg}(hl:l.length≤4)(h:∀s∈l,inN s.fWit):qK.f K l=some (Qmm l):=by
 unfold qK.f
 have hn:=QkQ (K:=K) (n:=l.length) hK (by omega)
 rw[hn]
 simp only[Qb]
 have h1:(l.map sigW).flatten.length≤37*l.length:=XJ (fun s hs=>Qnf (h s hs))
 have h2:=jA (n:=l.length) (by omega)
 have:=ZP (L:=Yj.l K l) l sigW (numS l.length) (k:=K) (by omega)
  (fun k s=>by
   show Yj.b K l (Yj.l K l k) _=_
   unfold Yj.b
   rw[Qi (QJ (by simp))])
  (fun k s i y hi hx hm hs=>by
   show Yj.b K l (Yj.l K l k) _=_
   unfold Yj.b
   rw[Qj (QO (by simp;omega))]
   simp only
   rw[hx]
   simp only[Qb]
   have hy:=h y hm
   have hw:=Yn hy
   have e:ZG.f K y=some (sigW y):=by
    unfold ZG.f
    rw[Qmk hK hy]
    simp only[Qb]
    rw[Qb8]
    simp only[Qb]
    rw[jC hK (by simp[QG];omega) (by simp)]
    simp[sigW]
   rw[e]
   simp only[Qb]
   rw[YV (by omega)]
   simp only[Qb]
   rw[wrap_succ (by omega)])
  (by omega)
 rw[this]
 rfl
theorem QsD{K:Nat}(hK:1000000000000≤K){l:List H32}(hl:l.length≤20):J7.f K l=some (QqN l):=by
 unfold J7.f
 have hn:=QkQ (K:=K) (n:=l.length) hK (by omega)
 rw[hn]
 simp only[Qb]
 have h1:(l.map Qmn).flatten.length≤32*l.length:=XJ (fun s _=>by unfold Qmn;rw[QG];omega)
 have h2:=jA (n:=l.length) (by omega)
 have:=ZP (L:=Yf.l K l) l Qmn (numS l.length) (k:=K) (by omega)
  (fun k s=>by
   show Yf.b K l (Yf.l K l k) _=_
   unfold Yf.b
   rw[Qi (QJ (by simp))])
  (fun k s i y hi hx hm hs=>by
   show Yf.b K l (Yf.l K l k) _=_
   unfold Yf.b
   rw[Qj (QO (by simp;omega))]
   simp only
   rw[hx]
   simp only[Qb]
   rw[Qb8]
   simp only[Qb]
   unfold Qmn at hs⊢
   rw[YV (by omega)]
   simp only[Qb]
   rw[wrap_succ (by omega)])
  (by omega)
 rw[this]
 rfl
theorem QsE{K:Nat}(hK:1000000000000≤K){y:It}(ho:QtN y)(h:YQ y.fRec=true∧inN y.fAt∧y.fPath.length≤20):QaM.f K y=some (QhG y):=by
 unfold QaM.f
 rw[Qmk hK h.2.1]
 simp only[Qb]
 rw[QqE hK ho.d,h.1]
 simp only[Qb,Qg]
 rw[QsD hK h.2.2]
 simp only[Qb]
 have h4:=QkX h
 simp only[QhG,List.length_append]at h4
 rw[jC hK (by simp;omega) (by simp)]
 simp[QhG]
theorem put_eq{K:Nat}(hK:1000000000000≤K){x:Bun}(ho:Qu5 x):yg.f K x=some (bif yT x then mark++bunW x else []):=by
 unfold yg.f
 rw[QkS hK ho]
 simp only[Qb]
 cases hr:yT x with
 |false=>rfl
 |true=>
 have hp:=QkV hr
 rw[Qi (by rfl)]
 try simp only[jn]
 have hsz:=hp.size
 have w1:=Yn (n:=x.fPoint.fSize) (by omega)
 have w2:=QkW hp
 have w3:=Qh9 hp
 have hl:=hp.len
 refine QK Qev ?_
 refine QK (Qmk hK (by omega)) ?_
 refine QK Qb8 ?_
 refine QK (QsC hK hp.sigs hp.wits) ?_
 refine QK (jC hK (by simp[QG];omega) (by simp)) ?_
 have hhl:(([[(105:Int),110,115,112], [Zk x.fWhole],numW x.fPoint.fSize,Q9 x.fPoint.fRoot,Qmm x.fPoint.fSigs]:List (List Int)).flatten).length≤300:=by simp[QG];omega
 generalize hh:([[(105:Int),110,115,112], [Zk x.fWhole],numW x.fPoint.fSize,Q9 x.fPoint.fRoot,Qmm x.fPoint.fSigs]:List (List Int)).flatten=hd at hhl
 have he:mark++bunW x=hd++QcN x.fWhole x.fItems:=by rw[←hh];simp[mark,bunW]
 rw[he]
 cases hw:x.fWhole with
 | false=>
  rw[Qj (by rfl)]
  have e:J8.f K x.fItems=some (QcN false x.fItems):=by
   unfold J8.f
   have hn:=QkQ (K:=K) (n:=x.fItems.length) hK (by omega)
   rw[hn]
   simp only[Qb]
   have w4:=w3 false
   simp only[QcN,Qh,List.length_append]at w4
   have:=ZP (L:=Yg.l K x.fItems) x.fItems QhG (numS x.fItems.length) (k:=K) (by omega)
    (fun k s=>by
     show Yg.b K x.fItems (Yg.l K x.fItems k) _=_
     unfold Yg.b
     rw[Qi (QJ (by simp))])
    (fun k s i y hi hx hm hs=>by
     show Yg.b K x.fItems (Yg.l K x.fItems k) _=_
     unfold Yg.b
     rw[Qj (QO (by simp;omega))]
     simp only
     rw[hx]
     simp only[Qb]
     rw[QsE hK (ho.items y hm) (hp.items y hm)]
     simp only[Qb]
     rw[YV (by omega)]
     simp only[Qb]
     rw[wrap_succ (by omega)])
    (by omega)
   rw[this]
   rfl
  have w4:=w3 false
  rw[e]
  simp only[Qb,Qg]
  rw[YV (by omega)]
  rfl
 | true=>
  rw[Qi (by rfl)]
  have w4:=w3 true
  simp only[QcN,Qg]at w4
  have:=ZP (L:=Jq.l K x) x.fItems QkT hd (k:=K) (by omega)
   (fun k s=>by
    show Jq.b K x (Jq.l K x k) _=_
    unfold Jq.b
    rw[Qi (QJ (by simp))])
   (fun k s i y hi hx hm hs=>by
    show Jq.b K x (Jq.l K x k) _=_
    unfold Jq.b
    rw[Qj (QO (by simp;omega))]
    simp only
    rw[hx]
    simp only[Qb]
    rw[QqE hK (ho.items y hm).d,(hp.items y hm).1]
    simp only[Qb,Qg]
    unfold QkT at hs⊢
    rw[YV (by omega)]
    simp only[Qb]
    rw[wrap_succ (by omega)])
   (by omega)
  rw[this]
  rfl
def sigR:Rd→Sg×Rd:=mapR (fun(t:Int×H32)=>(⟨t.1,t.2⟩:Sg)) (seqR numR (fun _=>Qca))
theorem QkY:Ja sigR sigW (fun s=>inN s.fWit∧isB (Q9 s.fTag)):=
 ((Yv.seq (fun _=>yu)).map (e:=fun(t:Int×H32)=>(⟨t.1,t.2⟩:Sg)) (fun s=>(s.fWit,s.fTag)) (fun _=>rfl)).conv (fun _ _=>rfl) (fun s=>⟨fun h=>⟨h,rfl⟩,fun h=>h.1⟩)
def cntR{α:Type}(most:Int)(one:Nat→Rd→α×Rd):Rd→List α×Rd:=mapR Prod.snd (seqR (capR most 4) (fun n=>y8 one n.toNat 0))
theorem mem_iff{α:Type}{P:α→Prop}{l:List α}:(∀x∈l,P x)↔∀(j:Nat) x,l[j]?=some x→P x:=
 ⟨fun h j x hx=>h x (List.mem_of_getElem? hx),fun h x hx=>by obtain⟨j,hj⟩:=List.getElem?_of_mem hx;exact h j x hj⟩
def QqP:Rd→List Sg×Rd:=cntR 4 (fun _=>sigR)
theorem Qia:Ja QqP Qmm (fun l=>(l.length:Int)≤4∧∀s∈l,inN s.fWit∧isB (Q9 s.fTag)):=
 (Ja.counted (most:=4) (code:=4) (by omega) (by omega) (fun _=>QkY)).conv (fun _ _=>rfl) (fun l=>by rw[mem_iff])
def QsF:Rd→List H32×Rd:=cntR 20 (fun _=>Qca)
theorem Qor:Ja QsF QqN (fun l=>(l.length:Int)≤20∧∀h∈l,isB (Q9 h)):=
 (Ja.counted (most:=20) (code:=4) (by omega) (by omega) (fun _=>yu)).conv (fun _ _=>rfl) (fun l=>by rw[mem_iff])
def QqQ:Rd→It×Rd:=mapR (fun(t:Int×Rc×List H32)=>(⟨t.1,t.2.1,t.2.2⟩:It)) (seqR numR (fun _=>seqR recR (fun _=>QsF)))
def QtO(y:It):Prop:=inN y.fAt∧(YQ y.fRec=true∧okB y.fRec)∧(y.fPath.length:Int)≤20∧∀h∈y.fPath,isB (Q9 h)
theorem Qib:Ja QqQ QhG QtO:=
 ((Yv.seq (fun _=>Qg3.seq (fun _=>Qor))).map (e:=fun(t:Int×Rc×List H32)=>(⟨t.1,t.2.1,t.2.2⟩:It)) (fun y=>(y.fAt,y.fRec,y.fPath)) (fun _=>rfl)).conv (fun _ _=>rfl) (fun y=>⟨fun h=>⟨h,rfl⟩,fun h=>h.1⟩)
def Qic(i:Nat):Rd→It×Rd:=mapR (fun(c:Rc)=>(⟨(i:Int),c, []⟩:It)) recR
def QqR(i:Nat)(y:It):Prop:=(YQ y.fRec=true∧okB y.fRec)∧(⟨(i:Int),y.fRec, []⟩:It)=y
theorem Qg4(i:Nat):Ja (Qic i) QkT (QqR i):=
 (Qg3.map (e:=fun(c:Rc)=>(⟨(i:Int),c, []⟩:It)) (fun y=>y.fRec) (fun _=>rfl)).conv (fun _ _=>rfl) (fun y=>Iff.rfl)
def QcO(w:Bool)(n:Int):Rd→List It×Rd:=
 bif w then fun r=>y8 Qic n.toNat 0 (if 400<n then QgT 4 r else r)else cntR n (fun _=>QqQ)
def ZT(w:Bool)(n:Int)(l:List It):Prop:=
 bif w then(n≤400∧l.length=n.toNat∧∀j x,l[j]?=some x→QqR j x)else((l.length:Int)≤n∧∀y∈l,QtO y)
theorem Qmp(w:Bool)(n:Int)(hn:n<2147483648):Ja (QcO w n) (QcN w) (ZT w n):=by
 cases w with
 |false=>
  exact(Ja.counted (most:=n) (code:=4) hn (by omega) (fun _=>Qib)).conv (fun _ _=>rfl) (fun l=>by simp only[ZT,Qh];rw[mem_iff])
 | true=>
  have hs:=Ja.list Qg4 n.toNat 0
  simp only[Nat.zero_add]at hs
  by_cases h4:400<n
  ·refine⟨fun r hr=> ?_,fun a rest ha _=> ?_,fun r hr hb=> ?_⟩
   ·simp only[QcO,Qg,h4,if_true]
    exact hs.good _ (qB hr)
   ·simp only[ZT,Qg]at ha;omega
   ·simp only[QcO,Qg,h4,if_true]at hb
    exact absurd (hs.back _ (qB hr) hb).1 (Qau (by omega) _)
  ·have e:QcO true n=y8 Qic n.toNat 0:=by
    funext r
    simp only[QcO,Qg,h4,if_false]
   rw[e]
   exact hs.conv (fun _ _=>rfl) (fun l=>by simp only[ZT,Qg];exact⟨fun h=>h.2,fun h=>⟨by omega,h⟩⟩)
abbrev BunT:=Bool×Int×H32×List Sg×List It
def bunE(t:BunT):Bun:=⟨t.1,⟨t.2.1,t.2.2.1,t.2.2.2.1⟩,t.2.2.2.2⟩
def capN(n:Int):Int:=if n<2147483648 then n else 0
def bunR:Rd→Bun×Rd:=mapR bunE (seqR Qba (fun w=>seqR (capR 400 4) (fun n=>seqR Qca (fun _=>seqR QqP (fun _=>QcO w (capN n))))))
structure Qjs(x:Bun):Prop where
 size:0≤x.fPoint.fSize∧x.fPoint.fSize≤400
 root:isB (Q9 x.fPoint.fRoot)
 sigs:(x.fPoint.fSigs.length:Int)≤4∧∀s∈x.fPoint.fSigs,inN s.fWit∧isB (Q9 s.fTag)
 items:ZT x.fWhole x.fPoint.fSize x.fItems
theorem Qg5:Ja bunR bunW Qjs:=by
 have h:=(Qaw.seq (fun w=>(QgV (most:=400) (code:=4) (by omega) (by omega)).seq (fun n=>yu.seq (fun _=>Qia.seq (fun _=>Qmp w (capN n) (by unfold capN;split<;>omega)))))).map (e:=bunE) (fun x=>(x.fWhole,x.fPoint.fSize,x.fPoint.fRoot,x.fPoint.fSigs,x.fItems)) (fun _=>rfl)
 refine h.conv (fun x _=>rfl) (fun x=>⟨fun h=>⟨⟨trivial,h.size,h.root,h.sigs,?_⟩,rfl⟩,fun h=>⟨h.1.2.1,h.1.2.2.1,h.1.2.2.2.1,?_⟩⟩)
 ·have h1:=h.size
  have:=h.items
  simp only[capN]
  rwa [if_pos (by omega)]
 ·have:=h.1.2.2.2.2
  have h1:=h.1.2.1
  simp only[capN]at this h1
  rwa [if_pos (by omega)]at this
theorem QfG{r:Rd}(hr:Good r):∃N:Nat,(numR r).1=(N:Int)∧N<2147483648:=by
 unfold numR
 split
 ·split
  ·rename_i _ h2
   obtain⟨n,rest,h3,h4,h5⟩:=Qav hr.1 h2
   exact⟨n,by rw[h5],h3⟩
  ·exact⟨0,rfl,by omega⟩
 ·exact⟨0,rfl,by omega⟩
theorem QkZ{K:Nat}(hK:1000000000000≤K){N:Nat}(hN:N<2147483648){r:Rd}(hr:Good r):QX.l K (N:Int) K ([],0,r)=some (y8 (fun _=>sigR) N 0 r):=by
 have:=Qcb (L:=QX.l K (N:Int)) (one:=fun _=>sigR) (N:=N) (by omega) (fun _ r hr=>QkY.good r hr)
  (fun k out r'=>by
   show QX.b K (N:Int) (QX.l K (N:Int) k) _=_
   unfold QX.b
   rw[Qi (QJ (by simp))])
  (fun k out i r' hi hb=>by
   show QX.b K (N:Int) (QX.l K (N:Int) k) _=_
   unfold QX.b
   rw[Qj (QO (by simp only;omega)),Xu]
   simp only[Qb]
   rw[Qj (by simp[hb])])
  (fun k out i r' hi hb hg ho=>by
   show QX.b K (N:Int) (QX.l K (N:Int) k) _=_
   unfold QX.b QbH.f
   rw[Qj (QO (by simp only;omega)),Xu]
   simp only[Qb]
   rw[Qi (by simp[hb]),Zl hK hg]
   simp only[Qb]
   rw[Qjp (Yv.good _ hg)]
   simp only[Qb]
   rw[YV (by simp;omega)]
   simp only[Qb]
   rw[wrap_succ (by omega)]
   rfl)
  N 0 [] r K (by omega) (by omega) hr (by simp)
 simpa using this
theorem QqS{K:Nat}(hK:1000000000000≤K){r:Rd}(hr:Good r):(QB.f K r).bind (fun t=>JI.f K t.1 4 t.2)=some (QqP r):=by
 have hg:=Yv.good r hr
 rw[Zl hK hr]
 obtain⟨N,hN,hN2⟩:=QfG hr
 unfold JI.f QqP cntR mapR seqR capR
 simp only[Qb,jn,hN,Int.toNat_natCast]
 by_cases h6:(4:Int)<N
 ·rw[Qj (QO h6),ZO (by omega)]
  simp only[Qb]
  rw[QkZ hK hN2 (qB hg)]
  simp[h6]
 ·rw[Qi (QJ h6),QkZ hK hN2 hg]
  simp[h6]
theorem Qk0{K:Nat}(hK:1000000000000≤K){N:Nat}(hN:N<2147483648){r:Rd}(hr:Good r):QT.l K (N:Int) K ([],0,r)=some (y8 (fun _=>Qca) N 0 r):=by
 have:=Qcb (L:=QT.l K (N:Int)) (one:=fun _=>Qca) (N:=N) (by omega) (fun _ r hr=>yu.good r hr)
  (fun k out r'=>by
   show QT.b K (N:Int) (QT.l K (N:Int) k) _=_
   unfold QT.b
   rw[Qi (QJ (by simp))])
  (fun k out i r' hi hb=>by
   show QT.b K (N:Int) (QT.l K (N:Int) k) _=_
   unfold QT.b
   rw[Qj (QO (by simp only;omega)),Xu]
   simp only[Qb]
   rw[Qj (by simp[hb])])
  (fun k out i r' hi hb hg ho=>by
   show QT.b K (N:Int) (QT.l K (N:Int) k) _=_
   unfold QT.b ZZ.f
   rw[Qj (QO (by simp only;omega)),Xu]
   simp only[Qb]
   rw[Qi (by simp[hb]),Qjp hg]
   simp only[Qb]
   rw[YV (by simp;omega)]
   simp only[Qb]
   rw[wrap_succ (by omega)])
  N 0 [] r K (by omega) (by omega) hr (by simp)
 simpa using this
theorem QqT{K:Nat}(hK:1000000000000≤K){r:Rd}(hr:Good r):(QB.f K r).bind (fun t=>J9.f K t.1 20 t.2)=some (QsF r):=by
 have hg:=Yv.good r hr
 rw[Zl hK hr]
 obtain⟨N,hN,hN2⟩:=QfG hr
 unfold J9.f QsF cntR mapR seqR capR
 simp only[Qb,jn,hN,Int.toNat_natCast]
 by_cases h6:(20:Int)<N
 ·rw[Qj (QO h6),ZO (by omega)]
  simp only[Qb]
  rw[Qk0 hK hN2 (qB hg)]
  simp[h6]
 ·rw[Qi (QJ h6),Qk0 hK hN2 hg]
  simp[h6]
end Go.Proofs.YtomndohdnfebgaaGreatDoor
