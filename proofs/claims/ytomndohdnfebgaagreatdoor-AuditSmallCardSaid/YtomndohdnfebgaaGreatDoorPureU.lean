/-
 Plain: bundles: which are too great, right, the same.
-/
import Derived.Test.YtomndohdnfebgaaGreatDoorPureM
namespace Go.Proofs.YtomndohdnfebgaaGreatDoor
open Go Go.Sep
def Qqr:Rd→Sp×Rd:=mapR (fun t=>⟨t.1,t.2⟩) (seqR numR (fun _=>numR))
theorem QhW:Y7 Qqr stepW (fun s=>inN s.fPart∧inN s.fKind):=by
 have h:=(Yt.seq (fun _=>Yt)).map (e:=fun(t:Int×Int)=>(⟨t.1,t.2⟩:Sp)) (fun s=>(s.fPart,s.fKind)) (fun _=>rfl)
 exact h.conv (fun _ _=>rfl) (fun s=>⟨fun h=>⟨h,rfl⟩,fun h=>h.1⟩)
def QeN:Rd→List Sp×Rd:=mapR Prod.snd (seqR (capR 6 2) (fun n=>jV (fun _=>Qqr) n.toNat 0))
theorem QgQ:Y7 QeN QcH (fun l=>(l.length:Int)≤6∧∀s∈l,inN s.fPart∧inN s.fKind):=
 (Y7.counted (most:=6) (code:=2) (by omega) (by omega) (fun _=>QhW)).conv (fun _ _=>rfl) (fun l=>⟨fun h=>⟨h.1,fun j x hx=>h.2 x (List.mem_of_getElem? hx)⟩,fun h=>⟨h.1,fun s hs=>by
  obtain⟨j,hj⟩:=List.getElem?_of_mem hs
  exact h.2 j s hj⟩⟩)
abbrev LoadT:=H32×H32×List Int
def zH:H32:=Vector.replicate 32 0
def Ql6:Bool→Rd→LoadT×Rd
 |true=>mapR (fun h=>(h,zH, [])) Qaz
 |false=>mapR (fun t=>(zH,t.1,t.2)) (seqR Qaz (fun _=>yU 60))
theorem Qn9:∀g,Y7 (Ql6 g) (fun t=>bif g then Q9 t.1 else Q9 t.2.1++(numS t.2.2.length++t.2.2)) (fun t=>bif g then isB (Q9 t.1)∧t.2.1=zH∧t.2.2= []else isB (Q9 t.2.1)∧(t.2.2.length:Int)≤60∧isB t.2.2∧t.1=zH):=by
 intro g
 cases g with
 | true=>
  exact(yh.map (e:=fun h=>((h,zH, []):LoadT)) (fun t=>t.1) (fun _=>rfl)).conv (fun _ _=>rfl) (fun t=>by
   obtain⟨a,b,c⟩:=t
   constructor
   ·rintro⟨h1,h2,h3⟩;simp only at h2 h3;exact⟨h1,by rw[h2,h3]⟩
   ·rintro⟨h1,h2⟩;simp only[Qe]at h2;exact⟨h1,h2.2.1.symm,h2.2.2.symm⟩)
 | false=>
  have h:=(yh.seq (fun _=>QgL (most:=60) (by omega))).map (e:=fun(t:H32×List Int)=>((zH,t.1,t.2):LoadT)) (fun t=>t.2) (fun _=>rfl)
  exact h.conv (fun _ _=>rfl) (fun t=>by
   obtain⟨a,b,c⟩:=t
   constructor
   ·rintro⟨h1,h2,h3,h4⟩;simp only at h4;exact⟨⟨h1,h2,h3⟩,by rw[h4]⟩
   ·rintro⟨⟨h1,h2,h3⟩,h4⟩;simp only[Qe]at h4;exact⟨h1,h2,h3,h4.1.symm⟩)
abbrev BegT:=Int×List Sp×Bool×LoadT
def begR:Rd→BegT×Rd:=seqR numR (fun _=>seqR QeN (fun _=>seqR Zy Ql6))
def begE(t:BegT):Rc:={zRc with fKind:=1,fSaga:=t.1,fSteps:=t.2.1,fGone:=t.2.2.1,fCom:=t.2.2.2.1,fSalt:=t.2.2.2.2.1,fData:=t.2.2.2.2.2}
def callR:Rd→QuI×Rd:=seqR numR (fun _=>seqR numR (fun _=>seqR numR (fun _=>seqR numR (fun _=>Zy))))
def Qfg(k:Int)(t:QuI):Rc:={zRc with fKind:=k,fSaga:=t.1,fSeq:=t.2.1,fStep:=t.2.2.1,fTry:=t.2.2.2.1,fBack:=t.2.2.2.2}
abbrev AnsT:=QuI×Bool×Int×Int×H32
def ansR:Rd→AnsT×Rd:=seqR callR (fun _=>seqR Zy (fun _=>seqR numR (fun _=>seqR numR (fun _=>Qaz))))
def ansE(t:AnsT):Rc:={Qfg 3 t.1 with fGood:=t.2.1,fPart:=t.2.2.1,fEpoch:=t.2.2.2.1,fTag:=t.2.2.2.2}
def cloR:Rd→(Int×Int×Int)×Rd:=seqR numR (fun _=>seqR numR (fun _=>numR))
def cloE(t:Int×Int×Int):Rc:={zRc with fKind:=5,fSaga:=t.1,fSeq:=t.2.1,fEnd:=t.2.2}
def rotR:Rd→(Int×Int)×Rd:=seqR numR (fun _=>numR)
def rotE(t:Int×Int):Rc:={zRc with fKind:=6,fPart:=t.1,fEpoch:=t.2}
def jW(k:Int)(r:Rd):Rc×Rd:=
 if k=1 then mapR begE begR r
 else if k=2∨k=4 then mapR (Qfg k) callR r
 else if k=3 then mapR ansE ansR r
 else if k=5 then mapR cloE cloR r
 else if k=6 then mapR rotE rotR r
 else({zRc with fKind:=k},QcW 2 r)
def Qb7(k:Int)(x:Rc):Prop:=
 if k=1 then(inN x.fSaga∧((x.fSteps.length:Int)≤6∧∀s∈x.fSteps,inN s.fPart∧inN s.fKind)∧
   (bif x.fGone then isB (Q9 x.fCom)∧x.fSalt=zH∧x.fData= []else isB (Q9 x.fSalt)∧(x.fData.length:Int)≤60∧isB x.fData∧x.fCom=zH))∧
   begE (x.fSaga,x.fSteps,x.fGone,x.fCom,x.fSalt,x.fData)=x
 else if k=2∨k=4 then(inN x.fSaga∧inN x.fSeq∧inN x.fStep∧inN x.fTry)∧Qfg k (x.fSaga,x.fSeq,x.fStep,x.fTry,x.fBack)=x
 else if k=3 then(inN x.fSaga∧inN x.fSeq∧inN x.fStep∧inN x.fTry∧inN x.fPart∧inN x.fEpoch∧isB (Q9 x.fTag))∧ansE ((x.fSaga,x.fSeq,x.fStep,x.fTry,x.fBack),x.fGood,x.fPart,x.fEpoch,x.fTag)=x
 else if k=5 then(inN x.fSaga∧inN x.fSeq∧inN x.fEnd)∧cloE (x.fSaga,x.fSeq,x.fEnd)=x
 else if k=6 then(inN x.fPart∧inN x.fEpoch)∧rotE (x.fPart,x.fEpoch)=x
 else False
theorem Qqs:Y7 begR (fun t=>numW t.1++(QcH t.2.1++([Qac t.2.2.1]++(bif t.2.2.1 then Q9 t.2.2.2.1 else Q9 t.2.2.2.2.1++(numS t.2.2.2.2.2.length++t.2.2.2.2.2)))))
  (fun t=>inN t.1∧((t.2.1.length:Int)≤6∧∀s∈t.2.1,inN s.fPart∧inN s.fKind)∧True∧(bif t.2.2.1 then isB (Q9 t.2.2.2.1)∧t.2.2.2.2.1=zH∧t.2.2.2.2.2= []else isB (Q9 t.2.2.2.2.1)∧(t.2.2.2.2.2.length:Int)≤60∧isB t.2.2.2.2.2∧t.2.2.2.1=zH)):=
 Yt.seq (fun _=>QgQ.seq (fun _=>Qay.seq Qn9))
theorem QhX:Y7 callR (fun t=>numW t.1++(numW t.2.1++(numW t.2.2.1++(numW t.2.2.2.1++ [Qac t.2.2.2.2])))) (fun t=>inN t.1∧inN t.2.1∧inN t.2.2.1∧inN t.2.2.2.1∧True):=
 Yt.seq (fun _=>Yt.seq (fun _=>Yt.seq (fun _=>Yt.seq (fun _=>Qay))))
theorem Qoa(k:Int):Y7 (jW k) (Zz k) (Qb7 k):=by
 unfold jW
 by_cases h1:k=1
 ·subst h1
  exact(Qqs.map (e:=begE) (fun x=>(x.fSaga,x.fSteps,x.fGone,x.fCom,x.fSalt,x.fData)) (fun _=>rfl)).conv (fun _ _=>rfl) (fun x=>by simp[Qb7])
 simp only[h1,if_false]
 by_cases h2:k=2∨k=4
 ·simp only[h2,if_true]
  refine(QhX.map (e:=Qfg k) (fun x=>(x.fSaga,x.fSeq,x.fStep,x.fTry,x.fBack)) (fun _=>rfl)).conv (fun x _=>by simp[Zz,h1,h2,QgO]) (fun x=> ?_)
  unfold Qb7
  rw[if_neg h1,if_pos h2]
  simp
 simp only[h2,if_false]
 by_cases h3:k=3
 ·subst h3
  refine((QhX.seq (fun _=>Qay.seq (fun _=>Yt.seq (fun _=>Yt.seq (fun _=>yh))))).map (e:=ansE) (fun x=>((x.fSaga,x.fSeq,x.fStep,x.fTry,x.fBack),x.fGood,x.fPart,x.fEpoch,x.fTag)) (fun _=>rfl)).conv (fun x _=> ?_) (fun x=> ?_)
  ·simp[Zz,QgO,numW]
  ·simp[Qb7,and_assoc]
 simp only[h3,if_false]
 by_cases h5:k=5
 ·subst h5
  refine((Yt.seq (fun _=>Yt.seq (fun _=>Yt))).map (e:=cloE) (fun x=>(x.fSaga,x.fSeq,x.fEnd)) (fun _=>rfl)).conv (fun x _=> ?_) (fun x=> ?_)
  ·simp[Zz,numW]
  ·simp[Qb7]
 simp only[h5,if_false]
 by_cases h6:k=6
 ·subst h6
  refine((Yt.seq (fun _=>Yt)).map (e:=rotE) (fun x=>(x.fPart,x.fEpoch)) (fun _=>rfl)).conv (fun x _=> ?_) (fun x=> ?_)
  ·simp[Zz,numW]
  ·simp[Qb7]
 simp only[h6,if_false]
 refine⟨fun r hr=>qB hr,fun a rest ha _=> ?_,fun r _ hb=>absurd hb (jM (by omega) _)⟩
 simp[Qb7,h1,h2,h3,h5,h6]at ha
def finR(x:Rc)(r:Rd):Rc×Rd:=
 let r2:=bif Ja x then r else QcW 2 r
 if r2.fBad=0 then(x,r2)else(zRc,r2)
def recR(r:Rd):Rc×Rd:=finR (seqR numR jW r).1.2 (seqR numR jW r).2
structure okB(x:Rc):Prop where
 data:isB x.fData
 tag:isB (Q9 x.fTag)
 salt:isB (Q9 x.fSalt)
 com:isB (Q9 x.fCom)
theorem ZR:isB (Q9 zH):=by
 unfold isB
 decide
theorem Qqt{x:Rc}(h:Ja x=true)(hb:okB x):Qb7 x.fKind x:=by
 have hd:=QcI h
 have hk:=hd.kept
 unfold Qff at hk
 unfold Qb7
 rcases hd.kind with k|k|k|k|k|k
 ·obtain⟨b1,b2,b3⟩:=hd.beg k
  have b1:=qR.1 b1
  rw[if_pos k]at hk⊢
  refine⟨⟨hd.saga,⟨b1.2,fun s hs=>Qqq (List.all_eq_true.1 b2 s hs)⟩,?_⟩,?_⟩
  ·cases hg:x.fGone
   ·rw[hg]at hk
    exact⟨hb.salt,b3,hb.data,congrArg (fun y:Rc=>y.fCom) hk⟩
   ·rw[hg]at hk
    exact⟨hb.com,congrArg (fun y:Rc=>y.fSalt) hk,congrArg (fun y:Rc=>y.fData) hk⟩
  ·cases hg:x.fGone
   ·rw[hg]at hk
    simp only[Qh]at hk
    rw[hk]
    simp[begE,k]
   ·rw[hg]at hk
    simp only[Qg]at hk
    rw[hk]
    simp[begE,k]
 ·have h4:=hd.call (.inl k)
  rw[if_neg (by omega),if_neg (by omega),if_pos (.inl k)]at hk
  rw[if_neg (by omega),if_pos (.inl k)]
  exact⟨⟨hd.saga,h4.1,h4.2.1,h4.2.2⟩,by rw[hk];simp[Qfg,k]⟩
 ·have h4:=hd.call (.inr (.inr k))
  rw[if_neg (by omega),if_pos k]at hk
  rw[if_neg (by omega),if_neg (by omega),if_pos k]
  exact⟨⟨hd.saga,h4.1,h4.2.1,h4.2.2,hd.part,hd.epoch,hb.tag⟩,by rw[hk];simp[ansE,Qfg,k]⟩
 ·have h4:=hd.call (.inr (.inl k))
  rw[if_neg (by omega),if_neg (by omega),if_pos (.inr k)]at hk
  rw[if_neg (by omega),if_pos (.inr k)]
  exact⟨⟨hd.saga,h4.1,h4.2.1,h4.2.2⟩,by rw[hk];simp[Qfg,k]⟩
 ·have h4:=hd.clo k
  rw[if_neg (by omega),if_neg (by omega),if_neg (by omega),if_pos k]at hk
  rw[if_neg (by omega),if_neg (by omega),if_neg (by omega),if_pos k]
  exact⟨⟨hd.saga,h4.1,h4.2⟩,by rw[hk];simp[cloE,k]⟩
 ·rw[if_neg (by omega),if_neg (by omega),if_neg (by omega),if_neg (by omega),if_pos k]at hk
  rw[if_neg (by omega),if_neg (by omega),if_neg (by omega),if_neg (by omega),if_pos k]
  exact⟨⟨hd.part,hd.epoch⟩,by rw[hk];simp[rotE,k]⟩
theorem Ql7{k:Int}{x:Rc}(h:Qb7 k x):x.fKind=k∧okB x:=by
 unfold Qb7 at h
 by_cases h1:k=1
 ·rw[if_pos h1]at h
  obtain⟨⟨_,_,h2⟩,h3⟩:=h
  refine⟨by rw[←h3];exact h1.symm,?_⟩
  have ht:isB (Q9 x.fTag):=by rw[←h3];exact ZR
  cases hg:x.fGone
  ·rw[hg]at h2;exact⟨h2.2.2.1,ht,h2.1,by rw[h2.2.2.2];exact ZR⟩
  ·rw[hg]at h2;exact⟨by rw[h2.2.2];exact Jz,ht,by rw[h2.2.1];exact ZR,h2.1⟩
 rw[if_neg h1]at h
 by_cases h2:k=2∨k=4
 ·rw[if_pos h2]at h
  obtain⟨_,h3⟩:=h
  rw[←h3]
  exact⟨rfl,Jz,ZR,ZR,ZR⟩
 rw[if_neg h2]at h
 by_cases h3:k=3
 ·rw[if_pos h3]at h
  obtain⟨⟨_,_,_,_,_,_,h4⟩,h3'⟩:=h
  exact⟨by rw[←h3'];exact h3.symm,by rw[←h3'];exact Jz,h4,by rw[←h3'];exact ZR,by rw[←h3'];exact ZR⟩
 rw[if_neg h3]at h
 by_cases h5:k=5
 ·rw[if_pos h5]at h
  rw[←h.2]
  exact⟨h5.symm,Jz,ZR,ZR,ZR⟩
 rw[if_neg h5]at h
 by_cases h6:k=6
 ·rw[if_pos h6]at h
  rw[←h.2]
  exact⟨h6.symm,Jz,ZR,ZR,ZR⟩
 rw[if_neg h6]at h
 exact h.elim
theorem QgR:Y7 recR Qn8 (fun x=>Ja x=true∧okB x):=by
 have hs:=Yt.seq Qoa
 refine⟨fun r hr=> ?_,fun x rest hx hg=> ?_,fun r hr hb=> ?_⟩
 ·have h1:=hs.good r hr
  unfold recR finR
  simp only
  have h2:Good (bif Ja (seqR numR jW r).1.2 then(seqR numR jW r).2 else QcW 2 (seqR numR jW r).2):=by
   cases Ja (seqR numR jW r).1.2
   ·exact qB h1
   ·exact h1
  split<;>exact h2
 ·have h1:=hs.ok (x.fKind,x) rest ⟨QmY hx.1,Qqt hx.1 hx.2⟩ hg
  unfold recR finR
  rw[show Qn8 x=numS x.fKind.toNat++Zz x.fKind x from rfl,h1]
  simp[hx.1]
 ·unfold recR finR at hb⊢
  simp only at hb⊢
  cases hr2:Ja (seqR numR jW r).1.2 with
  |false=>
   rw[hr2]at hb
   simp only[Qh]at hb
   have:=jM (e:=2) (by omega) (seqR numR jW r).2
   rw[if_neg this]at hb
   exact absurd hb this
  | true=>
   rw[hr2]at hb
   simp only[Qg]at hb⊢
   by_cases h0:(seqR numR jW r).2.fBad=0
   ·rw[if_pos h0]at hb⊢
    obtain⟨e1,e2,e3,e4⟩:=hs.back r hr h0
    obtain⟨e5,e6⟩:=Ql7 e4
    refine⟨e1,?_,hr2,e6⟩
    unfold Qn8
    rw[e5]
    exact e2
   ·rw[if_neg h0]at hb
    exact absurd hb h0
theorem Qqu{K:Nat}(hK:1000000000000≤K){r:Rd}(hr:Good r):QbE.f K r=some (QeN r):=by
 unfold QbE.f
 rw[Zm hK hr]
 simp only[Qb,jn]
 have hg:=Yt.good r hr
 have hn:∃N:Nat,(numR r).1=(N:Int)∧N<2147483648:=by
  unfold numR
  split
  ·split
   ·rename_i _ h2
    obtain⟨n,rest,h3,h4,h5⟩:=Qax hr.1 h2
    exact⟨n,by rw[h5],h3⟩
   ·exact⟨0,rfl,by omega⟩
  ·exact⟨0,rfl,by omega⟩
 obtain⟨N,hN,hN2⟩:=hn
 have key:∀r',Good r'→YW.l K (numR r) K ([],0,r')=some (jV (fun _=>Qqr) N 0 r'):=by
  intro r' hr'
  have:=Qb6 (L:=YW.l K (numR r)) (one:=fun _=>Qqr) (N:=N) (by omega) (fun _ r hr=>QhW.good r hr)
   (fun k out r'=>by
    show YW.b K (numR r) (YW.l K (numR r) k) _=_
    unfold YW.b
    rw[Qi (QN (by simp only;omega))])
   (fun k out i r' hi hb=>by
    show YW.b K (numR r) (YW.l K (numR r) k) _=_
    unfold YW.b
    rw[Qj (QX (by simp only;omega)),Xt]
    simp only[Qb]
    rw[Qj (by simp[hb])])
   (fun k out i r' hi hb hg ho=>by
    show YW.b K (numR r) (YW.l K (numR r) k) _=_
    unfold YW.b
    rw[Qj (QX (by simp only;omega)),Xt]
    simp only[Qb]
    rw[Qi (by simp[hb]),Zm hK hg]
    simp only[Qb]
    rw[Zm hK (Yt.good _ hg)]
    simp only[Qb]
    rw[Jm (by simp;omega)]
    simp only[Qb]
    rw[wrap_succ (by omega)]
    rfl)
   N 0 [] r' K (by omega) (by omega) hr' (by simp)
  simpa using this
 unfold QeN mapR seqR capR
 simp only[hN,Int.toNat_natCast]
 by_cases h6:(6:Int)<N
 ·rw[Qj (QX h6),ZQ (by omega)]
  simp only[Qb]
  rw[key _ (qB hg)]
  simp[h6]
 ·rw[Qi (QN h6),key _ hg]
  simp[h6]
end Go.Proofs.YtomndohdnfebgaaGreatDoor
namespace Go.Proofs.YtomndohdnfebgaaGreatDoor
open Go Go.Sep
theorem Qqv{α:Type}{one:Nat→Rd→α×Rd}:∀(n i:Nat) (r:Rd),(jV one n i r).1.length≤n:=by
 intro n
 induction n with
 |zero=>intro i r;simp[jV]
 |succ n ih=>
  intro i r
  unfold jV
  split
  ·simp;exact ih _ _
  ·simp
theorem Qqw{α:Type}{one:Nat→Rd→α×Rd}{n i:Nat}{r:Rd}(h:r.fBad≠0):jV one n i r=([],r):=by
 cases n with
 |zero=>rfl
 |succ n=>unfold jV;rw[if_neg h]
theorem Qob(r:Rd):(QeN r).1.length≤6:=by
 unfold QeN mapR seqR capR
 simp only
 split
 ·rw[Qqw (jM (by omega) _)];simp
 ·have:=Qqv (one:=fun _=>Qqr) (numR r).1.toNat 0 (numR r).2
  omega
theorem Qoc{most:Int}{r:Rd}(h:Good r):isB (yU most r).1∧(yU most r).1.length<1000000000:=by
 unfold yU
 split
 ·split
  ·exact⟨Jz,by simp⟩
  ·split
   ·exact⟨Jz,by simp⟩
   ·split
    ·exact⟨Jz,by simp⟩
    ·refine⟨fun x hx=>h.1 x (List.mem_of_mem_drop (List.mem_of_mem_take hx)),?_⟩
     have:=h.2
     simp;omega
 ·exact⟨Jz,by simp⟩
theorem ZT{K:Nat}(hK:1000000000000≤K){x:Rc}{r:Rd}(hx:okD x):
  ((qi.f K x).bind fun q=>bif !q then(QZ.f K 2 r).bind fun y=>((QB.f K y).bind fun e=>bif !decide (e=0)then some (zRc,y)else some (x,y))
   else((QB.f K r).bind fun e=>bif !decide (e=0)then some (zRc,r)else some (x,r)))=some (finR x r):=by
 rw[right_eq hK hx]
 simp only[Qb]
 unfold finR
 cases Ja x
 ·rw[Qj (by rfl),ZQ (by omega)]
  simp only[Qb,Qh]
  rw[Xt]
  simp only[Qb]
  have:=jM (e:=2) (by omega) r
  rw[Qj (by simp[this]),if_neg this]
 ·rw[Qi (by rfl),Xt]
  simp only[Qb,Qg]
  by_cases h:r.fBad=0
  ·rw[Qi (by simp[h]),if_pos h]
  ·rw[Qj (by simp[h]),if_neg h]
theorem QI{α β:Type}{o:Option α}{x:α}{f:α→Option β}{y:Option β}(h:o=some x)(h2:f x=y):o.bind f=y:=by rw[h];exact h2
theorem jq{K:Nat}(hK:1000000000000≤K){r:Rd}(hr:Good r):∃n r',numR r=(n,r')∧Qz.f K r=some (n,r')∧Good r':=⟨_,_,rfl,Zm hK hr,Yt.good r hr⟩
theorem Qet{K:Nat}{r:Rd}(hr:Good r):∃n r',Zy r=(n,r')∧Yu.f K r=some (n,r')∧Good r':=⟨_,_,rfl,Qsb hr,Qay.good r hr⟩
theorem Qjh{K:Nat}{r:Rd}(hr:Good r):∃n r',Qaz r=(n,r')∧Yj.f K r=some (n,r')∧Good r':=⟨_,_,rfl,Qjf hr,yh.good r hr⟩
theorem Qsf{K:Nat}(hK:1000000000000≤K){r:Rd}(hr:Good r):∃n r',yU 60 r=(n,r')∧YD.f K 60 r=some (n,r')∧Good r'∧isB n∧n.length<1000000000:=⟨_,_,rfl,Qqn hK hr,(QgL (by omega)).good r hr,Qoc hr⟩
theorem Qsg{K:Nat}(hK:1000000000000≤K){r:Rd}(hr:Good r):∃n r',QeN r=(n,r')∧QbE.f K r=some (n,r')∧Good r'∧n.length≤6:=⟨_,_,rfl,Qqu hK hr,QgQ.good r hr,Qob r⟩
theorem Qqx{K:Nat}(hK:1000000000000≤K){r:Rd}(hr:Good r):Qdi.f K r=some (recR r):=by
 have g0:=Yt.good r hr
 obtain⟨k,r0,hp⟩:∃k r0,numR r=(k,r0):=⟨_,_,rfl⟩
 rw[hp]at g0
 replace g0:Good r0:=g0
 have hR:recR r=finR (jW k r0).1 (jW k r0).2:=by unfold recR seqR;rw[hp]
 unfold Qdi.f
 rw[Zm hK hr,hp]
 simp only[Qb,jn]
 by_cases h1:k=1
 ·have hb:jW k r0=mapR begE begR r0:=by unfold jW;rw[if_pos h1]
  have d1:decide (k=1)=true:=QX h1
  simp only[d1,Qg]
  obtain⟨n1,r1,e1,q1,g1⟩:=jq hK g0
  refine QI q1 ?_
  simp only
  obtain⟨n2,r2,e2,q2,g2,l2⟩:=Qsg hK g1
  refine QI q2 ?_
  simp only
  obtain⟨n3,r3,e3,q3,g3⟩:=Qet (K:=K) g2
  refine QI q3 ?_
  simp only
  cases n3 with
  |true=>
   obtain⟨n4,r4,e4,q4,g4⟩:=Qjh (K:=K) g3
   simp only[Qg]
   refine QI q4 ?_
   simp only
   obtain rfl:=h1
   refine(ZT hK ⟨Jz,by simp,by simp only;omega⟩).trans ?_
   rw[hR,hb]
   simp only[mapR,begR,seqR,e1,e2,e3,e4,Ql6,begE]
   rfl
  |false=>
   obtain⟨n4,r4,e4,q4,g4⟩:=Qjh (K:=K) g3
   simp only[Qh]
   refine QI q4 ?_
   simp only
   obtain⟨n5,r5,e5,q5,g5,l5,m5⟩:=Qsf hK g4
   refine QI q5 ?_
   simp only
   obtain rfl:=h1
   refine(ZT hK ⟨l5,m5,by simp only;omega⟩).trans ?_
   rw[hR,hb]
   simp only[mapR,begR,seqR,e1,e2,e3,e4,e5,Ql6,begE]
   rfl
 simp only[h1,decide_false,Qh]
 by_cases h2:k=2
 ·have hb:jW k r0=mapR (Qfg k) callR r0:=by unfold jW;rw[if_neg h1,if_pos (.inl h2)]
  have d2:decide (k=2)=true:=QX h2
  have n3:decide (k=3)=false:=by simp[h2]
  simp only[d2,n3,Qg,Qh]
  obtain⟨n1,r1,e1,q1,g1⟩:=jq hK g0
  refine QI q1 ?_
  simp only
  obtain⟨n2,r2,e2,q2,g2⟩:=jq hK g1
  refine QI q2 ?_
  simp only
  obtain⟨n3,r3,e3,q3,g3⟩:=jq hK g2
  refine QI q3 ?_
  simp only
  obtain⟨n4,r4,e4,q4,g4⟩:=jq hK g3
  refine QI q4 ?_
  simp only
  obtain⟨n5,r5,e5,q5,g5⟩:=Qet (K:=K) g4
  refine QI q5 ?_
  simp only
  refine(ZT hK ⟨Jz,by simp,by simp⟩).trans ?_
  rw[hR,hb]
  simp only[mapR,callR,Qfg,seqR,e1,e2,e3,e4,e5]
 simp only[h2,decide_false,Qh]
 by_cases h4:k=4
 ·have hb:jW k r0=mapR (Qfg k) callR r0:=by unfold jW;rw[if_neg h1,if_pos (.inr h4)]
  have d4:decide (k=4)=true:=QX h4
  have n3:decide (k=3)=false:=by simp[h4]
  simp only[d4,n3,Qg,Qh]
  obtain⟨n1,r1,e1,q1,g1⟩:=jq hK g0
  refine QI q1 ?_
  simp only
  obtain⟨n2,r2,e2,q2,g2⟩:=jq hK g1
  refine QI q2 ?_
  simp only
  obtain⟨n3,r3,e3,q3,g3⟩:=jq hK g2
  refine QI q3 ?_
  simp only
  obtain⟨n4,r4,e4,q4,g4⟩:=jq hK g3
  refine QI q4 ?_
  simp only
  obtain⟨n5,r5,e5,q5,g5⟩:=Qet (K:=K) g4
  refine QI q5 ?_
  simp only
  refine(ZT hK ⟨Jz,by simp,by simp⟩).trans ?_
  rw[hR,hb]
  simp only[mapR,callR,Qfg,seqR,e1,e2,e3,e4,e5]
 simp only[h4,decide_false,Qh]
 by_cases h3:k=3
 ·have hb:jW k r0=mapR ansE ansR r0:=by unfold jW;rw[if_neg h1,if_neg (by omega),if_pos h3]
  have d3:decide (k=3)=true:=QX h3
  simp only[d3,Qg]
  obtain⟨n1,r1,e1,q1,g1⟩:=jq hK g0
  refine QI q1 ?_
  simp only
  obtain⟨n2,r2,e2,q2,g2⟩:=jq hK g1
  refine QI q2 ?_
  simp only
  obtain⟨n3,r3,e3,q3,g3⟩:=jq hK g2
  refine QI q3 ?_
  simp only
  obtain⟨n4,r4,e4,q4,g4⟩:=jq hK g3
  refine QI q4 ?_
  simp only
  obtain⟨n5,r5,e5,q5,g5⟩:=Qet (K:=K) g4
  refine QI q5 ?_
  simp only
  obtain⟨n6,r6,e6,q6,g6⟩:=Qet (K:=K) g5
  refine QI q6 ?_
  simp only
  obtain⟨n7,r7,e7,q7,g7⟩:=jq hK g6
  refine QI q7 ?_
  simp only
  obtain⟨n8,r8,e8,q8,g8⟩:=jq hK g7
  refine QI q8 ?_
  simp only
  obtain⟨n9,r9,e9,q9,g9⟩:=Qjh (K:=K) g8
  refine QI q9 ?_
  simp only
  obtain rfl:=h3
  refine(ZT hK ⟨Jz,by simp,by simp⟩).trans ?_
  rw[hR,hb]
  simp only[mapR,ansR,callR,ansE,Qfg,seqR,e1,e2,e3,e4,e5,e6,e7,e8,e9]
 simp only[h3,decide_false,Qh]
 by_cases h5:k=5
 ·have hb:jW k r0=mapR cloE cloR r0:=by unfold jW;rw[if_neg h1,if_neg (by omega),if_neg h3,if_pos h5]
  have d5:decide (k=5)=true:=QX h5
  simp only[d5,Qg]
  obtain⟨n1,r1,e1,q1,g1⟩:=jq hK g0
  refine QI q1 ?_
  simp only
  obtain⟨n2,r2,e2,q2,g2⟩:=jq hK g1
  refine QI q2 ?_
  simp only
  obtain⟨n3,r3,e3,q3,g3⟩:=jq hK g2
  refine QI q3 ?_
  simp only
  obtain rfl:=h5
  refine(ZT hK ⟨Jz,by simp,by simp⟩).trans ?_
  rw[hR,hb]
  simp only[mapR,cloR,cloE,seqR,e1,e2,e3]
 simp only[h5,decide_false,Qh]
 by_cases h6:k=6
 ·have hb:jW k r0=mapR rotE rotR r0:=by unfold jW;rw[if_neg h1,if_neg (by omega),if_neg h3,if_neg h5,if_pos h6]
  have d6:decide (k=6)=true:=QX h6
  simp only[d6,Qg]
  obtain⟨n1,r1,e1,q1,g1⟩:=jq hK g0
  refine QI q1 ?_
  simp only
  obtain⟨n2,r2,e2,q2,g2⟩:=jq hK g1
  refine QI q2 ?_
  simp only
  obtain rfl:=h6
  refine(ZT hK ⟨Jz,by simp,by simp⟩).trans ?_
  rw[hR,hb]
  simp only[mapR,rotR,rotE,seqR,e1,e2]
 simp only[h6,decide_false,Qh]
 refine QI (ZQ (by omega) r0) ?_
 refine(ZT hK ⟨Jz,by simp,by simp⟩).trans ?_
 rw[hR]
 simp only[jW,h1,h2,h3,h4,h5,h6,if_false,or_self]
end Go.Proofs.YtomndohdnfebgaaGreatDoor
namespace Go.Proofs.YtomndohdnfebgaaGreatDoor
open Go Go.Sep
abbrev Bun:=QJ
abbrev It:=QD
abbrev Sg:=QT
abbrev zBun:Bun:=YY
structure Qv4(x:It):Prop where
 d:okD x.fRec
 p:x.fPath.length<1000000000
structure Qv5(x:Bun):Prop where
 sigs:x.fPoint.fSigs.length<1000000000
 len:x.fItems.length<1000000000
 items:∀y∈x.fItems,Qv4 y
structure Qtn(x:Bun):Prop where
 root:isB (Q9 x.fPoint.fRoot)
 tags:∀s∈x.fPoint.fSigs,isB (Q9 s.fTag)
 recs:∀y∈x.fItems,okB y.fRec
 path:∀y∈x.fItems,∀h∈y.fPath,isB (Q9 h)
theorem Qeu{K:Nat}(a b c:Int):jv.f K a b c=some (inn a b c):=by
 unfold jv.f inn
 cases decide (b≤a)<;>rfl
def Qji(s:Sg):Bool:=inn s.fWit 0 3
theorem QuK{K:Nat}(s:Sg):Xd.f K s=some (!Qji s):=by
 unfold Xd.f Qji
 rw[Qeu];rfl
theorem Qsh{K:Nat}{l:List Sg}(hK:l.length<K)(hl:l.length<1000000000000):YK.f K l=some (!l.all Qji):=by
 unfold YK.f Jk.f
 have hL:=Qfm (L:=QE.l K l) (fun(_:Unit) (i:Nat)=>(i:Int)) l (fun _ i x=>some (bif Qji x then .inr ()else .inl (.inl ((i:Nat):Int)))) (fun _=>some (.inr ())) () hK
  (fun k s=>by
   show QE.b K l (QE.l K l k) _=_
   unfold QE.b
   rw[Qi (QN (by simp))])
  (fun k s i x hi hx=>by
   show QE.b K l (QE.l K l k) _=_
   unfold QE.b
   rw[Qj (QX (by omega)),QcM hx]
   simp only[Qb]
   rw[QuK]
   simp only[Qb]
   rw[wrap_succ (by omega)]
   cases Qji x<;>rfl)
 have hL:QE.l K l K 0=_:=hL
 obtain⟨r1,r2⟩:=Qid (good:=Qji) (v:=fun i=>((i:Nat):Int)) (l:=l) (s:=()) (i:=0) (f:=fun _ i x=>some (bif Qji x then .inr ()else .inl (.inl ((i:Nat):Int)))) (fun s i x _=>rfl)
 cases hg:l.all Qji with
 |true=>rw[hL,r1 hg];rfl
 |false=>
  obtain⟨j,_,_,hj⟩:=r2 hg
  rw[hL,hj]
  simp only[Qb,Bool.not_false]
  rw[QX (by omega)]
def Qev(p:Qu):Bool:=inn p.fSize 0 400&&(decide ((p.fSigs.length:Int)≤4)&&p.fSigs.all Qji)
theorem Qsi{K:Nat}{p:Qu}(hK:p.fSigs.length<K)(hl:p.fSigs.length<1000000000000):ZJ.f K p=some (Qev p):=by
 unfold ZJ.f Qev
 rw[Qeu]
 simp only[Qb]
 cases inn p.fSize 0 400
 ·rfl
 simp only[Qg,Bool.true_and]
 cases decide ((p.fSigs.length:Int)≤4)
 ·rfl
 simp only[Qg,Bool.true_and]
 rw[Qsh hK hl]
 simp
def QkG(whole:Bool)(size last:Int)(i:Nat)(x:It):Bool:=
 Ja x.fRec&&(inn x.fAt (last+1) (size-1)&&(decide ((x.fPath.length:Int)≤20)&&(!whole||(decide (x.fAt=(i:Int))&&decide (x.fPath.length=0)))))
def Zo(whole:Bool)(size:Int):Int→Nat→List It→Bool
 |_,_, []=>true
 |last,i,x::l=>QkG whole size last i x&&Zo whole size x.fAt (i+1) l
def QdM(x:Bun):Bool:=
 Qev x.fPoint&&(decide ((x.fItems.length:Int)≤x.fPoint.fSize)&&((!x.fWhole||decide ((x.fItems.length:Int)=x.fPoint.fSize))&&Zo x.fWhole x.fPoint.fSize (-1) 0 x.fItems))
theorem Qqy{whole:Bool}{size:Int}(hs:0≤size∧size≤400):∀{l:List It} {last:Int} {i:Nat} {f:Int→Nat→It→Option (Sum (Sum Bool Unit) Int)},-1≤last∧last<400→
  (∀last i x,x∈l→ -1≤last∧last<400→f last i x=some (bif QkG whole size last i x then .inr x.fAt else .inl (.inl false)))→
  runL f (fun _=>some (.inr ())) last i l=some (bif Zo whole size last i l then .inr ()else .inl false):=by
 intro l
 induction l with
 |nil=>intro last i f _ _;rfl
 | cons x l ih=>
  intro last i f hl hf
  unfold runL Zo
  rw[hf last i x (by simp) hl]
  cases hg:QkG whole size last i x with
  |false=>rfl
  | true=>
   have h2:inn x.fAt (last+1) (size-1)=true:=by
    unfold QkG at hg
    simp only[Qd]at hg
    exact hg.2.1
   have h2:=qR.1 h2
   exact ih (by omega) (fun last i y hy=>hf last i y (by simp[hy]))
theorem Qqz{K:Nat}(hK:1000000000000≤K){x:Bun}(hx:Qv5 x):JE.f K x=some (QdM x):=by
 unfold JE.f QdM
 have hs:=hx.sigs
 have hl:=hx.len
 rw[Qsi (by omega) (by omega)]
 simp only[jn,Qb]
 cases hp:Qev x.fPoint
 ·rfl
 have hsz:0≤x.fPoint.fSize∧x.fPoint.fSize≤400:=by
  unfold Qev at hp
  simp only[Qd]at hp
  exact qR.1 hp.1
 rw[Qi (by rfl)]
 simp only[Bool.true_and]
 by_cases h1:x.fPoint.fSize<(x.fItems.length:Int)
 ·rw[Qj (QX h1),QN (show¬(x.fItems.length:Int)≤x.fPoint.fSize by omega)];rfl
 rw[Qi (QN h1),QX (show(x.fItems.length:Int)≤x.fPoint.fSize by omega)]
 simp only[Bool.true_and]
 have hL:YC.l K x K (-1,0)=some (bif Zo x.fWhole x.fPoint.fSize (-1) 0 x.fItems then .inr ()else .inl false):=by
  have hL:=Qfm (L:=YC.l K x) (fun(s:Int) (i:Nat)=>(s,(i:Int))) x.fItems
   (fun last i y=>some (bif Ja y.fRec&&(inn y.fAt (IntKind.wrap .i64 (last+1)) (x.fPoint.fSize-1)&&(decide ((y.fPath.length:Int)≤20)&&(!x.fWhole||(decide (y.fAt=(i:Int))&&decide (y.fPath.length=0)))))then .inr y.fAt else .inl (.inl false)))
   (fun _=>some (.inr ())) (-1) (k:=K) (by omega)
   (fun k s=>by
    show YC.b K x (YC.l K x k) _=_
    unfold YC.b
    rw[Qi (QN (by simp))])
   (fun k s i y hi hy=>by
    have hym:=List.mem_of_getElem? hy
    show YC.b K x (YC.l K x k) _=_
    unfold YC.b
    rw[Qj (QX (by simp;omega))]
    simp only
    rw[QcM hy]
    simp only[jn,Qb]
    rw[right_eq hK (hx.items y hym).d,Qeu]
    simp only[Qb]
    rw[wrap64 (n:=x.fPoint.fSize-1) (by omega) (by omega),wrap_succ (by omega)]
    cases Ja y.fRec
    ·rfl
    cases inn y.fAt (IntKind.wrap .i64 (s+1)) (x.fPoint.fSize-1)
    ·rfl
    by_cases h20:(20:Int)<(y.fPath.length:Int)
    ·rw[QX h20,QN (show¬(y.fPath.length:Int)≤20 by omega)];rfl
    rw[QN h20,QX (show(y.fPath.length:Int)≤20 by omega)]
    cases x.fWhole
    ·rfl
    cases decide (y.fAt=(i:Int))
    ·rfl
    by_cases h0:y.fPath.length=0
    ·rw[QX h0,QN (show¬(0:Int)<(y.fPath.length:Int) by omega)];rfl
    ·rw[QN h0,QX (show(0:Int)<(y.fPath.length:Int) by omega)];rfl)
  have hL:YC.l K x K (-1,0)=_:=hL
  rw[hL]
  refine Qqy hsz (by omega) (fun last i y hy hl=> ?_)
  rw[wrap64 (by omega) (by omega)]
  rfl
 have fin:(((YC.l K x K (-1,0)).bind fun s1906=>(match s1906 with| .inl u1907=>some u1907| .inr u1908=>(fun(_:Unit)=>(some true)) u1908)):Option Bool)=some (Zo x.fWhole x.fPoint.fSize (-1) 0 x.fItems):=by
  rw[hL]
  cases Zo x.fWhole x.fPoint.fSize (-1) 0 x.fItems<;>rfl
 generalize Zo x.fWhole x.fPoint.fSize (-1) 0 x.fItems=v at fin⊢
 cases x.fWhole with
 |false=>exact fin
 |true=>
  simp only[Qg,Bool.not_true,Bool.false_or]
  cases decide ((x.fItems.length:Int)=x.fPoint.fSize)
  ·rfl
  ·exact fin
end Go.Proofs.YtomndohdnfebgaaGreatDoor
