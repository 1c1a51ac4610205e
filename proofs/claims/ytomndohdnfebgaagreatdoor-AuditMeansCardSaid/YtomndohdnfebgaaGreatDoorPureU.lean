/-
 Plain: bundles: which are too great, right, the same.
-/
import Derived.Test.YtomndohdnfebgaaGreatDoorPureM
namespace Go.Proofs.YtomndohdnfebgaaGreatDoor
open Go Go.Sep
def Qq1:Rd→Sp×Rd:=mapR (fun t=>⟨t.1,t.2⟩) (seqR numR (fun _=>numR))
theorem Qii:Jd Qq1 stepW (fun s=>inN s.fPart∧inN s.fKind):=by
 have h:=(Yx.seq (fun _=>Yx)).map (e:=fun(t:Int×Int)=>(⟨t.1,t.2⟩:Sp)) (fun s=>(s.fPart,s.fKind)) (fun _=>rfl)
 exact h.conv (fun _ _=>rfl) (fun s=>⟨fun h=>⟨h,rfl⟩,fun h=>h.1⟩)
def Qg7:Rd→List Sp×Rd:=mapR Prod.snd (seqR (capR 6 2) (fun n=>Xd (fun _=>Qq1) n.toNat 0))
theorem Qg8:Jd Qg7 QdX (fun l=>(l.length:Int)≤6∧∀s∈l,inN s.fPart∧inN s.fKind):=
 (Jd.counted (most:=6) (code:=2) (by omega) (by omega) (fun _=>Qii)).conv (fun _ _=>rfl) (fun l=>⟨fun h=>⟨h.1,fun j x hx=>h.2 x (List.mem_of_getElem? hx)⟩,fun h=>⟨h.1,fun s hs=>by
  obtain⟨j,hj⟩:=List.getElem?_of_mem hs
  exact h.2 j s hj⟩⟩)
abbrev LoadT:=H32×H32×List Int
def zH:H32:=Vector.replicate 32 0
def QsW:Bool→Rd→LoadT×Rd
 |true=>mapR (fun h=>(h,zH, [])) Qcd
 |false=>mapR (fun t=>(zH,t.1,t.2)) (seqR Qcd (fun _=>Zm 60))
theorem QoE:∀g,Jd (QsW g) (fun t=>bif g then Yg t.1 else Yg t.2.1++(numS t.2.2.length++t.2.2)) (fun t=>bif g then isB (Yg t.1)∧t.2.1=zH∧t.2.2= []else isB (Yg t.2.1)∧(t.2.2.length:Int)≤60∧isB t.2.2∧t.1=zH):=by
 intro g
 cases g with
 | true=>
  exact(yx.map (e:=fun h=>((h,zH, []):LoadT)) (fun t=>t.1) (fun _=>rfl)).conv (fun _ _=>rfl) (fun t=>by
   obtain⟨a,b,c⟩:=t
   constructor
   ·rintro⟨h1,h2,h3⟩;simp only at h2 h3;exact⟨h1,by rw[h2,h3]⟩
   ·rintro⟨h1,h2⟩;simp only[Qe]at h2;exact⟨h1,h2.2.1.symm,h2.2.2.symm⟩)
 | false=>
  have h:=(yx.seq (fun _=>Qg3 (most:=60) (by omega))).map (e:=fun(t:H32×List Int)=>((zH,t.1,t.2):LoadT)) (fun t=>t.2) (fun _=>rfl)
  exact h.conv (fun _ _=>rfl) (fun t=>by
   obtain⟨a,b,c⟩:=t
   constructor
   ·rintro⟨h1,h2,h3,h4⟩;simp only at h4;exact⟨⟨h1,h2,h3⟩,by rw[h4]⟩
   ·rintro⟨⟨h1,h2,h3⟩,h4⟩;simp only[Qe]at h4;exact⟨h1,h2,h3,h4.1.symm⟩)
abbrev BegT:=Int×List Sp×Bool×LoadT
def begR:Rd→BegT×Rd:=seqR numR (fun _=>seqR Qg7 (fun _=>seqR Qbc QsW))
def begE(t:BegT):Rc:={zRc with fKind:=1,fSaga:=t.1,fSteps:=t.2.1,fGone:=t.2.2.1,fCom:=t.2.2.2.1,fSalt:=t.2.2.2.2.1,fData:=t.2.2.2.2.2}
def callR:Rd→Qvr×Rd:=seqR numR (fun _=>seqR numR (fun _=>seqR numR (fun _=>seqR numR (fun _=>Qbc))))
def Qfv(k:Int)(t:Qvr):Rc:={zRc with fKind:=k,fSaga:=t.1,fSeq:=t.2.1,fStep:=t.2.2.1,fTry:=t.2.2.2.1,fBack:=t.2.2.2.2}
abbrev AnsT:=Qvr×Bool×Int×Int×H32
def ansR:Rd→AnsT×Rd:=seqR callR (fun _=>seqR Qbc (fun _=>seqR numR (fun _=>seqR numR (fun _=>Qcd))))
def ansE(t:AnsT):Rc:={Qfv 3 t.1 with fGood:=t.2.1,fPart:=t.2.2.1,fEpoch:=t.2.2.2.1,fTag:=t.2.2.2.2}
def cloR:Rd→(Int×Int×Int)×Rd:=seqR numR (fun _=>seqR numR (fun _=>numR))
def cloE(t:Int×Int×Int):Rc:={zRc with fKind:=5,fSaga:=t.1,fSeq:=t.2.1,fEnd:=t.2.2}
def rotR:Rd→(Int×Int)×Rd:=seqR numR (fun _=>numR)
def rotE(t:Int×Int):Rc:={zRc with fKind:=6,fPart:=t.1,fEpoch:=t.2}
def Xr(k:Int)(r:Rd):Rc×Rd:=
 if k=1 then mapR begE begR r
 else if k=2∨k=4 then mapR (Qfv k) callR r
 else if k=3 then mapR ansE ansR r
 else if k=5 then mapR cloE cloR r
 else if k=6 then mapR rotE rotR r
 else({zRc with fKind:=k},Qg2 2 r)
def Qcf(k:Int)(x:Rc):Prop:=
 if k=1 then(inN x.fSaga∧((x.fSteps.length:Int)≤6∧∀s∈x.fSteps,inN s.fPart∧inN s.fKind)∧
   (bif x.fGone then isB (Yg x.fCom)∧x.fSalt=zH∧x.fData= []else isB (Yg x.fSalt)∧(x.fData.length:Int)≤60∧isB x.fData∧x.fCom=zH))∧
   begE (x.fSaga,x.fSteps,x.fGone,x.fCom,x.fSalt,x.fData)=x
 else if k=2∨k=4 then(inN x.fSaga∧inN x.fSeq∧inN x.fStep∧inN x.fTry)∧Qfv k (x.fSaga,x.fSeq,x.fStep,x.fTry,x.fBack)=x
 else if k=3 then(inN x.fSaga∧inN x.fSeq∧inN x.fStep∧inN x.fTry∧inN x.fPart∧inN x.fEpoch∧isB (Yg x.fTag))∧ansE ((x.fSaga,x.fSeq,x.fStep,x.fTry,x.fBack),x.fGood,x.fPart,x.fEpoch,x.fTag)=x
 else if k=5 then(inN x.fSaga∧inN x.fSeq∧inN x.fEnd)∧cloE (x.fSaga,x.fSeq,x.fEnd)=x
 else if k=6 then(inN x.fPart∧inN x.fEpoch)∧rotE (x.fPart,x.fEpoch)=x
 else False
theorem Qq2:Jd begR (fun t=>numW t.1++(QdX t.2.1++([Qbw t.2.2.1]++(bif t.2.2.1 then Yg t.2.2.2.1 else Yg t.2.2.2.2.1++(numS t.2.2.2.2.2.length++t.2.2.2.2.2)))))
  (fun t=>inN t.1∧((t.2.1.length:Int)≤6∧∀s∈t.2.1,inN s.fPart∧inN s.fKind)∧True∧(bif t.2.2.1 then isB (Yg t.2.2.2.1)∧t.2.2.2.2.1=zH∧t.2.2.2.2.2= []else isB (Yg t.2.2.2.2.1)∧(t.2.2.2.2.2.length:Int)≤60∧isB t.2.2.2.2.2∧t.2.2.2.1=zH)):=
 Yx.seq (fun _=>Qg8.seq (fun _=>QaB.seq QoE))
theorem Qij:Jd callR (fun t=>numW t.1++(numW t.2.1++(numW t.2.2.1++(numW t.2.2.2.1++ [Qbw t.2.2.2.2])))) (fun t=>inN t.1∧inN t.2.1∧inN t.2.2.1∧inN t.2.2.2.1∧True):=
 Yx.seq (fun _=>Yx.seq (fun _=>Yx.seq (fun _=>Yx.seq (fun _=>QaB))))
theorem QoF(k:Int):Jd (Xr k) (QaC k) (Qcf k):=by
 unfold Xr
 by_cases h1:k=1
 ·subst h1
  exact(Qq2.map (e:=begE) (fun x=>(x.fSaga,x.fSteps,x.fGone,x.fCom,x.fSalt,x.fData)) (fun _=>rfl)).conv (fun _ _=>rfl) (fun x=>by simp[Qcf])
 simp only[h1,if_false]
 by_cases h2:k=2∨k=4
 ·simp only[h2,if_true]
  refine(Qij.map (e:=Qfv k) (fun x=>(x.fSaga,x.fSeq,x.fStep,x.fTry,x.fBack)) (fun _=>rfl)).conv (fun x _=>by simp[QaC,h1,h2,Qjx]) (fun x=> ?_)
  unfold Qcf
  rw[if_neg h1,if_pos h2]
  simp
 simp only[h2,if_false]
 by_cases h3:k=3
 ·subst h3
  refine((Qij.seq (fun _=>QaB.seq (fun _=>Yx.seq (fun _=>Yx.seq (fun _=>yx))))).map (e:=ansE) (fun x=>((x.fSaga,x.fSeq,x.fStep,x.fTry,x.fBack),x.fGood,x.fPart,x.fEpoch,x.fTag)) (fun _=>rfl)).conv (fun x _=> ?_) (fun x=> ?_)
  ·simp[QaC,Qjx,numW]
  ·simp[Qcf,and_assoc]
 simp only[h3,if_false]
 by_cases h5:k=5
 ·subst h5
  refine((Yx.seq (fun _=>Yx.seq (fun _=>Yx))).map (e:=cloE) (fun x=>(x.fSaga,x.fSeq,x.fEnd)) (fun _=>rfl)).conv (fun x _=> ?_) (fun x=> ?_)
  ·simp[QaC,numW]
  ·simp[Qcf]
 simp only[h5,if_false]
 by_cases h6:k=6
 ·subst h6
  refine((Yx.seq (fun _=>Yx)).map (e:=rotE) (fun x=>(x.fPart,x.fEpoch)) (fun _=>rfl)).conv (fun x _=> ?_) (fun x=> ?_)
  ·simp[QaC,numW]
  ·simp[Qcf]
 simp only[h6,if_false]
 refine⟨fun r hr=>qC hr,fun a rest ha _=> ?_,fun r _ hb=>absurd hb (Qaz (by omega) _)⟩
 simp[Qcf,h1,h2,h3,h5,h6]at ha
def finR(x:Rc)(r:Rd):Rc×Rd:=
 let r2:=bif YM x then r else Qg2 2 r
 if r2.fBad=0 then(x,r2)else(zRc,r2)
def recR(r:Rd):Rc×Rd:=finR (seqR numR Xr r).1.2 (seqR numR Xr r).2
structure okB(x:Rc):Prop where
 data:isB x.fData
 tag:isB (Yg x.fTag)
 salt:isB (Yg x.fSalt)
 com:isB (Yg x.fCom)
theorem ZT:isB (Yg zH):=by
 unfold isB
 decide
theorem Qq3{x:Rc}(h:YM x=true)(hb:okB x):Qcf x.fKind x:=by
 have hd:=QcN h
 have hk:=hd.kept
 unfold Qfu at hk
 unfold Qcf
 rcases hd.kind with k|k|k|k|k|k
 ·obtain⟨b1,b2,b3⟩:=hd.beg k
  have b1:=qU.1 b1
  rw[if_pos k]at hk⊢
  refine⟨⟨hd.saga,⟨b1.2,fun s hs=>Qq0 (List.all_eq_true.1 b2 s hs)⟩,?_⟩,?_⟩
  ·cases hg:x.fGone
   ·rw[hg]at hk
    exact⟨hb.salt,b3,hb.data,congrArg (fun y:Rc=>y.fCom) hk⟩
   ·rw[hg]at hk
    exact⟨hb.com,congrArg (fun y:Rc=>y.fSalt) hk,congrArg (fun y:Rc=>y.fData) hk⟩
  ·cases hg:x.fGone
   ·rw[hg]at hk
    simp only[Qh]at hk
    rw[hk]
    simp[begE,k]
   ·rw[hg]at hk
    simp only[Qg]at hk
    rw[hk]
    simp[begE,k]
 ·have h4:=hd.call (.inl k)
  rw[if_neg (by omega),if_neg (by omega),if_pos (.inl k)]at hk
  rw[if_neg (by omega),if_pos (.inl k)]
  exact⟨⟨hd.saga,h4.1,h4.2.1,h4.2.2⟩,by rw[hk];simp[Qfv,k]⟩
 ·have h4:=hd.call (.inr (.inr k))
  rw[if_neg (by omega),if_pos k]at hk
  rw[if_neg (by omega),if_neg (by omega),if_pos k]
  exact⟨⟨hd.saga,h4.1,h4.2.1,h4.2.2,hd.part,hd.epoch,hb.tag⟩,by rw[hk];simp[ansE,Qfv,k]⟩
 ·have h4:=hd.call (.inr (.inl k))
  rw[if_neg (by omega),if_neg (by omega),if_pos (.inr k)]at hk
  rw[if_neg (by omega),if_pos (.inr k)]
  exact⟨⟨hd.saga,h4.1,h4.2.1,h4.2.2⟩,by rw[hk];simp[Qfv,k]⟩
 ·have h4:=hd.clo k
  rw[if_neg (by omega),if_neg (by omega),if_neg (by omega),if_pos k]at hk
  rw[if_neg (by omega),if_neg (by omega),if_neg (by omega),if_pos k]
  exact⟨⟨hd.saga,h4.1,h4.2⟩,by rw[hk];simp[cloE,k]⟩
 ·rw[if_neg (by omega),if_neg (by omega),if_neg (by omega),if_neg (by omega),if_pos k]at hk
  rw[if_neg (by omega),if_neg (by omega),if_neg (by omega),if_neg (by omega),if_pos k]
  exact⟨⟨hd.part,hd.epoch⟩,by rw[hk];simp[rotE,k]⟩
theorem Qmu{k:Int}{x:Rc}(h:Qcf k x):x.fKind=k∧okB x:=by
 unfold Qcf at h
 by_cases h1:k=1
 ·rw[if_pos h1]at h
  obtain⟨⟨_,_,h2⟩,h3⟩:=h
  refine⟨by rw[←h3];exact h1.symm,?_⟩
  have ht:isB (Yg x.fTag):=by rw[←h3];exact ZT
  cases hg:x.fGone
  ·rw[hg]at h2;exact⟨h2.2.2.1,ht,h2.1,by rw[h2.2.2.2];exact ZT⟩
  ·rw[hg]at h2;exact⟨by rw[h2.2.2];exact qh,ht,by rw[h2.2.1];exact ZT,h2.1⟩
 rw[if_neg h1]at h
 by_cases h2:k=2∨k=4
 ·rw[if_pos h2]at h
  obtain⟨_,h3⟩:=h
  rw[←h3]
  exact⟨rfl,qh,ZT,ZT,ZT⟩
 rw[if_neg h2]at h
 by_cases h3:k=3
 ·rw[if_pos h3]at h
  obtain⟨⟨_,_,_,_,_,_,h4⟩,h3'⟩:=h
  exact⟨by rw[←h3'];exact h3.symm,by rw[←h3'];exact qh,h4,by rw[←h3'];exact ZT,by rw[←h3'];exact ZT⟩
 rw[if_neg h3]at h
 by_cases h5:k=5
 ·rw[if_pos h5]at h
  rw[←h.2]
  exact⟨h5.symm,qh,ZT,ZT,ZT⟩
 rw[if_neg h5]at h
 by_cases h6:k=6
 ·rw[if_pos h6]at h
  rw[←h.2]
  exact⟨h6.symm,qh,ZT,ZT,ZT⟩
 rw[if_neg h6]at h
 exact h.elim
theorem Qg9:Jd recR QqZ (fun x=>YM x=true∧okB x):=by
 have hs:=Yx.seq QoF
 refine⟨fun r hr=> ?_,fun x rest hx hg=> ?_,fun r hr hb=> ?_⟩
 ·have h1:=hs.good r hr
  unfold recR finR
  simp only
  have h2:Good (bif YM (seqR numR Xr r).1.2 then(seqR numR Xr r).2 else Qg2 2 (seqR numR Xr r).2):=by
   cases YM (seqR numR Xr r).1.2
   ·exact qC h1
   ·exact h1
  split<;>exact h2
 ·have h1:=hs.ok (x.fKind,x) rest ⟨Qnu hx.1,Qq3 hx.1 hx.2⟩ hg
  unfold recR finR
  rw[show QqZ x=numS x.fKind.toNat++QaC x.fKind x from rfl,h1]
  simp[hx.1]
 ·unfold recR finR at hb⊢
  simp only at hb⊢
  cases hr2:YM (seqR numR Xr r).1.2 with
  |false=>
   rw[hr2]at hb
   simp only[Qh]at hb
   have:=Qaz (e:=2) (by omega) (seqR numR Xr r).2
   rw[if_neg this]at hb
   exact absurd hb this
  | true=>
   rw[hr2]at hb
   simp only[Qg]at hb⊢
   by_cases h0:(seqR numR Xr r).2.fBad=0
   ·rw[if_pos h0]at hb⊢
    obtain⟨e1,e2,e3,e4⟩:=hs.back r hr h0
    obtain⟨e5,e6⟩:=Qmu e4
    refine⟨e1,?_,hr2,e6⟩
    unfold QqZ
    rw[e5]
    exact e2
   ·rw[if_neg h0]at hb
    exact absurd hb h0
theorem Qq4{K:Nat}(hK:1000000000000≤K){r:Rd}(hr:Good r):QbK.f K r=some (Qg7 r):=by
 unfold QbK.f
 rw[Zl hK hr]
 simp only[Qb,jn]
 have hg:=Yx.good r hr
 have hn:∃N:Nat,(numR r).1=(N:Int)∧N<2147483648:=by
  unfold numR
  split
  ·split
   ·rename_i _ h2
    obtain⟨n,rest,h3,h4,h5⟩:=QaA hr.1 h2
    exact⟨n,by rw[h5],h3⟩
   ·exact⟨0,rfl,by omega⟩
  ·exact⟨0,rfl,by omega⟩
 obtain⟨N,hN,hN2⟩:=hn
 have key:∀r',Good r'→Y6.l K (numR r) K ([],0,r')=some (Xd (fun _=>Qq1) N 0 r'):=by
  intro r' hr'
  have:=Qce (L:=Y6.l K (numR r)) (one:=fun _=>Qq1) (N:=N) (by omega) (fun _ r hr=>Qii.good r hr)
   (fun k out r'=>by
    show Y6.b K (numR r) (Y6.l K (numR r) k) _=_
    unfold Y6.b
    rw[Qi (QP (by simp only;omega))])
   (fun k out i r' hi hb=>by
    show Y6.b K (numR r) (Y6.l K (numR r) k) _=_
    unfold Y6.b
    rw[Qj (QS (by simp only;omega)),Xu]
    simp only[Qb]
    rw[Qj (by simp[hb])])
   (fun k out i r' hi hb hg ho=>by
    show Y6.b K (numR r) (Y6.l K (numR r) k) _=_
    unfold Y6.b
    rw[Qj (QS (by simp only;omega)),Xu]
    simp only[Qb]
    rw[Qi (by simp[hb]),Zl hK hg]
    simp only[Qb]
    rw[Zl hK (Yx.good _ hg)]
    simp only[Qb]
    rw[Y4 (by simp;omega)]
    simp only[Qb]
    rw[wrap_succ (by omega)]
    rfl)
   N 0 [] r' K (by omega) (by omega) hr' (by simp)
  simpa using this
 unfold Qg7 mapR seqR capR
 simp only[hN,Int.toNat_natCast]
 by_cases h6:(6:Int)<N
 ·rw[Qj (QS h6),ZR (by omega)]
  simp only[Qb]
  rw[key _ (qC hg)]
  simp[h6]
 ·rw[Qi (QP h6),key _ hg]
  simp[h6]
end Go.Proofs.YtomndohdnfebgaaGreatDoor
namespace Go.Proofs.YtomndohdnfebgaaGreatDoor
open Go Go.Sep
theorem Qq5{α:Type}{one:Nat→Rd→α×Rd}:∀(n i:Nat) (r:Rd),(Xd one n i r).1.length≤n:=by
 intro n
 induction n with
 |zero=>intro i r;simp[Xd]
 |succ n ih=>
  intro i r
  unfold Xd
  split
  ·simp;exact ih _ _
  ·simp
theorem Qq6{α:Type}{one:Nat→Rd→α×Rd}{n i:Nat}{r:Rd}(h:r.fBad≠0):Xd one n i r=([],r):=by
 cases n with
 |zero=>rfl
 |succ n=>unfold Xd;rw[if_neg h]
theorem QoG(r:Rd):(Qg7 r).1.length≤6:=by
 unfold Qg7 mapR seqR capR
 simp only
 split
 ·rw[Qq6 (Qaz (by omega) _)];simp
 ·have:=Qq5 (one:=fun _=>Qq1) (numR r).1.toNat 0 (numR r).2
  omega
theorem QoH{most:Int}{r:Rd}(h:Good r):isB (Zm most r).1∧(Zm most r).1.length<1000000000:=by
 unfold Zm
 split
 ·split
  ·exact⟨qh,by simp⟩
  ·split
   ·exact⟨qh,by simp⟩
   ·split
    ·exact⟨qh,by simp⟩
    ·refine⟨fun x hx=>h.1 x (List.mem_of_mem_drop (List.mem_of_mem_take hx)),?_⟩
     have:=h.2
     simp;omega
 ·exact⟨qh,by simp⟩
theorem ZU{K:Nat}(hK:1000000000000≤K){x:Rc}{r:Rd}(hx:okD x):
  ((qj.f K x).bind fun q=>bif !q then(Ya.f K 2 r).bind fun y=>((QE.f K y).bind fun e=>bif !decide (e=0)then some (zRc,y)else some (x,y))
   else((QE.f K r).bind fun e=>bif !decide (e=0)then some (zRc,r)else some (x,r)))=some (finR x r):=by
 rw[right_eq hK hx]
 simp only[Qb]
 unfold finR
 cases YM x
 ·rw[Qj (by rfl),ZR (by omega)]
  simp only[Qb,Qh]
  rw[Xu]
  simp only[Qb]
  have:=Qaz (e:=2) (by omega) r
  rw[Qj (by simp[this]),if_neg this]
 ·rw[Qi (by rfl),Xu]
  simp only[Qb,Qg]
  by_cases h:r.fBad=0
  ·rw[Qi (by simp[h]),if_pos h]
  ·rw[Qj (by simp[h]),if_neg h]
theorem QD{α β:Type}{o:Option α}{x:α}{f:α→Option β}{y:Option β}(h:o=some x)(h2:f x=y):o.bind f=y:=by rw[h];exact h2
theorem jA{K:Nat}(hK:1000000000000≤K){r:Rd}(hr:Good r):∃n r',numR r=(n,r')∧QB.f K r=some (n,r')∧Good r':=⟨_,_,rfl,Zl hK hr,Yx.good r hr⟩
theorem QeF{K:Nat}{r:Rd}(hr:Good r):∃n r',Qbc r=(n,r')∧Yy.f K r=some (n,r')∧Good r':=⟨_,_,rfl,QsS hr,QaB.good r hr⟩
theorem Qjz{K:Nat}{r:Rd}(hr:Good r):∃n r',Qcd r=(n,r')∧Ym.f K r=some (n,r')∧Good r':=⟨_,_,rfl,Qjw hr,yx.good r hr⟩
theorem QsX{K:Nat}(hK:1000000000000≤K){r:Rd}(hr:Good r):∃n r',Zm 60 r=(n,r')∧YI.f K 60 r=some (n,r')∧Good r'∧isB n∧n.length<1000000000:=⟨_,_,rfl,QqW hK hr,(Qg3 (by omega)).good r hr,QoH hr⟩
theorem QsY{K:Nat}(hK:1000000000000≤K){r:Rd}(hr:Good r):∃n r',Qg7 r=(n,r')∧QbK.f K r=some (n,r')∧Good r'∧n.length≤6:=⟨_,_,rfl,Qq4 hK hr,Qg8.good r hr,QoG r⟩
theorem Qq7{K:Nat}(hK:1000000000000≤K){r:Rd}(hr:Good r):Qdt.f K r=some (recR r):=by
 have g0:=Yx.good r hr
 obtain⟨k,r0,hp⟩:∃k r0,numR r=(k,r0):=⟨_,_,rfl⟩
 rw[hp]at g0
 replace g0:Good r0:=g0
 have hR:recR r=finR (Xr k r0).1 (Xr k r0).2:=by unfold recR seqR;rw[hp]
 unfold Qdt.f
 rw[Zl hK hr,hp]
 simp only[Qb,jn]
 by_cases h1:k=1
 ·have hb:Xr k r0=mapR begE begR r0:=by unfold Xr;rw[if_pos h1]
  have d1:decide (k=1)=true:=QS h1
  simp only[d1,Qg]
  obtain⟨n1,r1,e1,q1,g1⟩:=jA hK g0
  refine QD q1 ?_
  simp only
  obtain⟨n2,r2,e2,q2,g2,l2⟩:=QsY hK g1
  refine QD q2 ?_
  simp only
  obtain⟨n3,r3,e3,q3,g3⟩:=QeF (K:=K) g2
  refine QD q3 ?_
  simp only
  cases n3 with
  |true=>
   obtain⟨n4,r4,e4,q4,g4⟩:=Qjz (K:=K) g3
   simp only[Qg]
   refine QD q4 ?_
   simp only
   obtain rfl:=h1
   refine(ZU hK ⟨qh,by simp,by simp only;omega⟩).trans ?_
   rw[hR,hb]
   simp only[mapR,begR,seqR,e1,e2,e3,e4,QsW,begE]
   rfl
  |false=>
   obtain⟨n4,r4,e4,q4,g4⟩:=Qjz (K:=K) g3
   simp only[Qh]
   refine QD q4 ?_
   simp only
   obtain⟨n5,r5,e5,q5,g5,l5,m5⟩:=QsX hK g4
   refine QD q5 ?_
   simp only
   obtain rfl:=h1
   refine(ZU hK ⟨l5,m5,by simp only;omega⟩).trans ?_
   rw[hR,hb]
   simp only[mapR,begR,seqR,e1,e2,e3,e4,e5,QsW,begE]
   rfl
 simp only[h1,decide_false,Qh]
 by_cases h2:k=2
 ·have hb:Xr k r0=mapR (Qfv k) callR r0:=by unfold Xr;rw[if_neg h1,if_pos (.inl h2)]
  have d2:decide (k=2)=true:=QS h2
  have n3:decide (k=3)=false:=by simp[h2]
  simp only[d2,n3,Qg,Qh]
  obtain⟨n1,r1,e1,q1,g1⟩:=jA hK g0
  refine QD q1 ?_
  simp only
  obtain⟨n2,r2,e2,q2,g2⟩:=jA hK g1
  refine QD q2 ?_
  simp only
  obtain⟨n3,r3,e3,q3,g3⟩:=jA hK g2
  refine QD q3 ?_
  simp only
  obtain⟨n4,r4,e4,q4,g4⟩:=jA hK g3
  refine QD q4 ?_
  simp only
  obtain⟨n5,r5,e5,q5,g5⟩:=QeF (K:=K) g4
  refine QD q5 ?_
  simp only
  refine(ZU hK ⟨qh,by simp,by simp⟩).trans ?_
  rw[hR,hb]
  simp only[mapR,callR,Qfv,seqR,e1,e2,e3,e4,e5]
 simp only[h2,decide_false,Qh]
 by_cases h4:k=4
 ·have hb:Xr k r0=mapR (Qfv k) callR r0:=by unfold Xr;rw[if_neg h1,if_pos (.inr h4)]
  have d4:decide (k=4)=true:=QS h4
  have n3:decide (k=3)=false:=by simp[h4]
  simp only[d4,n3,Qg,Qh]
  obtain⟨n1,r1,e1,q1,g1⟩:=jA hK g0
  refine QD q1 ?_
  simp only
  obtain⟨n2,r2,e2,q2,g2⟩:=jA hK g1
  refine QD q2 ?_
  simp only
  obtain⟨n3,r3,e3,q3,g3⟩:=jA hK g2
  refine QD q3 ?_
  simp only
  obtain⟨n4,r4,e4,q4,g4⟩:=jA hK g3
  refine QD q4 ?_
  simp only
  obtain⟨n5,r5,e5,q5,g5⟩:=QeF (K:=K) g4
  refine QD q5 ?_
  simp only
  refine(ZU hK ⟨qh,by simp,by simp⟩).trans ?_
  rw[hR,hb]
  simp only[mapR,callR,Qfv,seqR,e1,e2,e3,e4,e5]
 simp only[h4,decide_false,Qh]
 by_cases h3:k=3
 ·have hb:Xr k r0=mapR ansE ansR r0:=by unfold Xr;rw[if_neg h1,if_neg (by omega),if_pos h3]
  have d3:decide (k=3)=true:=QS h3
  simp only[d3,Qg]
  obtain⟨n1,r1,e1,q1,g1⟩:=jA hK g0
  refine QD q1 ?_
  simp only
  obtain⟨n2,r2,e2,q2,g2⟩:=jA hK g1
  refine QD q2 ?_
  simp only
  obtain⟨n3,r3,e3,q3,g3⟩:=jA hK g2
  refine QD q3 ?_
  simp only
  obtain⟨n4,r4,e4,q4,g4⟩:=jA hK g3
  refine QD q4 ?_
  simp only
  obtain⟨n5,r5,e5,q5,g5⟩:=QeF (K:=K) g4
  refine QD q5 ?_
  simp only
  obtain⟨n6,r6,e6,q6,g6⟩:=QeF (K:=K) g5
  refine QD q6 ?_
  simp only
  obtain⟨n7,r7,e7,q7,g7⟩:=jA hK g6
  refine QD q7 ?_
  simp only
  obtain⟨n8,r8,e8,q8,g8⟩:=jA hK g7
  refine QD q8 ?_
  simp only
  obtain⟨n9,r9,e9,q9,g9⟩:=Qjz (K:=K) g8
  refine QD q9 ?_
  simp only
  obtain rfl:=h3
  refine(ZU hK ⟨qh,by simp,by simp⟩).trans ?_
  rw[hR,hb]
  simp only[mapR,ansR,callR,ansE,Qfv,seqR,e1,e2,e3,e4,e5,e6,e7,e8,e9]
 simp only[h3,decide_false,Qh]
 by_cases h5:k=5
 ·have hb:Xr k r0=mapR cloE cloR r0:=by unfold Xr;rw[if_neg h1,if_neg (by omega),if_neg h3,if_pos h5]
  have d5:decide (k=5)=true:=QS h5
  simp only[d5,Qg]
  obtain⟨n1,r1,e1,q1,g1⟩:=jA hK g0
  refine QD q1 ?_
  simp only
  obtain⟨n2,r2,e2,q2,g2⟩:=jA hK g1
  refine QD q2 ?_
  simp only
  obtain⟨n3,r3,e3,q3,g3⟩:=jA hK g2
  refine QD q3 ?_
  simp only
  obtain rfl:=h5
  refine(ZU hK ⟨qh,by simp,by simp⟩).trans ?_
  rw[hR,hb]
  simp only[mapR,cloR,cloE,seqR,e1,e2,e3]
 simp only[h5,decide_false,Qh]
 by_cases h6:k=6
 ·have hb:Xr k r0=mapR rotE rotR r0:=by unfold Xr;rw[if_neg h1,if_neg (by omega),if_neg h3,if_neg h5,if_pos h6]
  have d6:decide (k=6)=true:=QS h6
  simp only[d6,Qg]
  obtain⟨n1,r1,e1,q1,g1⟩:=jA hK g0
  refine QD q1 ?_
  simp only
  obtain⟨n2,r2,e2,q2,g2⟩:=jA hK g1
  refine QD q2 ?_
  simp only
  obtain rfl:=h6
  refine(ZU hK ⟨qh,by simp,by simp⟩).trans ?_
  rw[hR,hb]
  simp only[mapR,rotR,rotE,seqR,e1,e2]
 simp only[h6,decide_false,Qh]
 refine QD (ZR (by omega) r0) ?_
 refine(ZU hK ⟨qh,by simp,by simp⟩).trans ?_
 rw[hR]
 simp only[Xr,h1,h2,h3,h4,h5,h6,if_false,or_self]
end Go.Proofs.YtomndohdnfebgaaGreatDoor
namespace Go.Proofs.YtomndohdnfebgaaGreatDoor
open Go Go.Sep
abbrev Bun:=QO
abbrev It:=QF
abbrev Sg:=Q4
abbrev zBun:Bun:=Y7
structure QwX(x:It):Prop where
 d:okD x.fRec
 p:x.fPath.length<1000000000
structure QwY(x:Bun):Prop where
 sigs:x.fPoint.fSigs.length<1000000000
 len:x.fItems.length<1000000000
 items:∀y∈x.fItems,QwX y
structure QwZ(x:Bun):Prop where
 root:isB (Yg x.fPoint.fRoot)
 tags:∀s∈x.fPoint.fSigs,isB (Yg s.fTag)
 recs:∀y∈x.fItems,okB y.fRec
 path:∀y∈x.fItems,∀h∈y.fPath,isB (Yg h)
theorem QeG{K:Nat}(a b c:Int):jD.f K a b c=some (inn a b c):=by
 unfold jD.f inn
 cases decide (b≤a)<;>rfl
def QjA(s:Sg):Bool:=inn s.fWit 0 3
theorem Qvs{K:Nat}(s:Sg):Xh.f K s=some (!QjA s):=by
 unfold Xh.f QjA
 rw[QeG];rfl
theorem QsZ{K:Nat}{l:List Sg}(hK:l.length<K)(hl:l.length<1000000000000):YP.f K l=some (!l.all QjA):=by
 unfold YP.f Jo.f
 have hL:=Qdi (L:=QH.l K l) (fun(_:Unit) (i:Nat)=>(i:Int)) l (fun _ i x=>some (bif QjA x then .inr ()else .inl (.inl ((i:Nat):Int)))) (fun _=>some (.inr ())) () hK
  (fun k s=>by
   show QH.b K l (QH.l K l k) _=_
   unfold QH.b
   rw[Qi (QP (by simp))])
  (fun k s i x hi hx=>by
   show QH.b K l (QH.l K l k) _=_
   unfold QH.b
   rw[Qj (QS (by omega)),Js hx]
   simp only[Qb]
   rw[Qvs]
   simp only[Qb]
   rw[wrap_succ (by omega)]
   cases QjA x<;>rfl)
 have hL:QH.l K l K 0=_:=hL
 obtain⟨r1,r2⟩:=QfC (good:=QjA) (v:=fun i=>((i:Nat):Int)) (l:=l) (s:=()) (i:=0) (f:=fun _ i x=>some (bif QjA x then .inr ()else .inl (.inl ((i:Nat):Int)))) (fun s i x _=>rfl)
 cases hg:l.all QjA with
 |true=>rw[hL,r1 hg];rfl
 |false=>
  obtain⟨j,_,_,hj⟩:=r2 hg
  rw[hL,hj]
  simp only[Qb,Bool.not_false]
  rw[QS (by omega)]
def QeH(p:Qq):Bool:=inn p.fSize 0 400&&(decide ((p.fSigs.length:Int)≤4)&&p.fSigs.all QjA)
theorem Qs0{K:Nat}{p:Qq}(hK:p.fSigs.length<K)(hl:p.fSigs.length<1000000000000):ZI.f K p=some (QeH p):=by
 unfold ZI.f QeH
 rw[QeG]
 simp only[Qb]
 cases inn p.fSize 0 400
 ·rfl
 simp only[Qg,Bool.true_and]
 cases decide ((p.fSigs.length:Int)≤4)
 ·rfl
 simp only[Qg,Bool.true_and]
 rw[QsZ hK hl]
 simp
def Qk2(whole:Bool)(size last:Int)(i:Nat)(x:It):Bool:=
 YM x.fRec&&(inn x.fAt (last+1) (size-1)&&(decide ((x.fPath.length:Int)≤20)&&(!whole||(decide (x.fAt=(i:Int))&&decide (x.fPath.length=0)))))
def Zo(whole:Bool)(size:Int):Int→Nat→List It→Bool
 |_,_, []=>true
 |last,i,x::l=>Qk2 whole size last i x&&Zo whole size x.fAt (i+1) l
def QdY(x:Bun):Bool:=
 QeH x.fPoint&&(decide ((x.fItems.length:Int)≤x.fPoint.fSize)&&((!x.fWhole||decide ((x.fItems.length:Int)=x.fPoint.fSize))&&Zo x.fWhole x.fPoint.fSize (-1) 0 x.fItems))
theorem Qq8{whole:Bool}{size:Int}(hs:0≤size∧size≤400):∀{l:List It} {last:Int} {i:Nat} {f:Int→Nat→It→Option (Sum (Sum Bool Unit) Int)},-1≤last∧last<400→
  (∀last i x,x∈l→ -1≤last∧last<400→f last i x=some (bif Qk2 whole size last i x then .inr x.fAt else .inl (.inl false)))→
  runL f (fun _=>some (.inr ())) last i l=some (bif Zo whole size last i l then .inr ()else .inl false):=by
 intro l
 induction l with
 |nil=>intro last i f _ _;rfl
 | cons x l ih=>
  intro last i f hl hf
  unfold runL Zo
  rw[hf last i x (by simp) hl]
  cases hg:Qk2 whole size last i x with
  |false=>rfl
  | true=>
   have h2:inn x.fAt (last+1) (size-1)=true:=by
    unfold Qk2 at hg
    simp only[Qd]at hg
    exact hg.2.1
   have h2:=qU.1 h2
   exact ih (by omega) (fun last i y hy=>hf last i y (by simp[hy]))
theorem Qq9{K:Nat}(hK:1000000000000≤K){x:Bun}(hx:QwY x):JJ.f K x=some (QdY x):=by
 unfold JJ.f QdY
 have hs:=hx.sigs
 have hl:=hx.len
 rw[Qs0 (by omega) (by omega)]
 simp only[jn,Qb]
 cases hp:QeH x.fPoint
 ·rfl
 have hsz:0≤x.fPoint.fSize∧x.fPoint.fSize≤400:=by
  unfold QeH at hp
  simp only[Qd]at hp
  exact qU.1 hp.1
 rw[Qi (by rfl)]
 simp only[Bool.true_and]
 by_cases h1:x.fPoint.fSize<(x.fItems.length:Int)
 ·rw[Qj (QS h1),QP (show¬(x.fItems.length:Int)≤x.fPoint.fSize by omega)];rfl
 rw[Qi (QP h1),QS (show(x.fItems.length:Int)≤x.fPoint.fSize by omega)]
 simp only[Bool.true_and]
 have hL:YH.l K x K (-1,0)=some (bif Zo x.fWhole x.fPoint.fSize (-1) 0 x.fItems then .inr ()else .inl false):=by
  have hL:=Qdi (L:=YH.l K x) (fun(s:Int) (i:Nat)=>(s,(i:Int))) x.fItems
   (fun last i y=>some (bif YM y.fRec&&(inn y.fAt (IntKind.wrap .i64 (last+1)) (x.fPoint.fSize-1)&&(decide ((y.fPath.length:Int)≤20)&&(!x.fWhole||(decide (y.fAt=(i:Int))&&decide (y.fPath.length=0)))))then .inr y.fAt else .inl (.inl false)))
   (fun _=>some (.inr ())) (-1) (k:=K) (by omega)
   (fun k s=>by
    show YH.b K x (YH.l K x k) _=_
    unfold YH.b
    rw[Qi (QP (by simp))])
   (fun k s i y hi hy=>by
    have hym:=List.mem_of_getElem? hy
    show YH.b K x (YH.l K x k) _=_
    unfold YH.b
    rw[Qj (QS (by simp;omega))]
    simp only
    rw[Js hy]
    simp only[jn,Qb]
    rw[right_eq hK (hx.items y hym).d,QeG]
    simp only[Qb]
    rw[wrap64 (n:=x.fPoint.fSize-1) (by omega) (by omega),wrap_succ (by omega)]
    cases YM y.fRec
    ·rfl
    cases inn y.fAt (IntKind.wrap .i64 (s+1)) (x.fPoint.fSize-1)
    ·rfl
    by_cases h20:(20:Int)<(y.fPath.length:Int)
    ·rw[QS h20,QP (show¬(y.fPath.length:Int)≤20 by omega)];rfl
    rw[QP h20,QS (show(y.fPath.length:Int)≤20 by omega)]
    cases x.fWhole
    ·rfl
    cases decide (y.fAt=(i:Int))
    ·rfl
    by_cases h0:y.fPath.length=0
    ·rw[QS h0,QP (show¬(0:Int)<(y.fPath.length:Int) by omega)];rfl
    ·rw[QP h0,QS (show(0:Int)<(y.fPath.length:Int) by omega)];rfl)
  have hL:YH.l K x K (-1,0)=_:=hL
  rw[hL]
  refine Qq8 hsz (by omega) (fun last i y hy hl=> ?_)
  rw[wrap64 (by omega) (by omega)]
  rfl
 have fin:(((YH.l K x K (-1,0)).bind fun s1906=>(match s1906 with| .inl u1907=>some u1907| .inr u1908=>(fun(_:Unit)=>(some true)) u1908)):Option Bool)=some (Zo x.fWhole x.fPoint.fSize (-1) 0 x.fItems):=by
  rw[hL]
  cases Zo x.fWhole x.fPoint.fSize (-1) 0 x.fItems<;>rfl
 generalize Zo x.fWhole x.fPoint.fSize (-1) 0 x.fItems=v at fin⊢
 cases x.fWhole with
 |false=>exact fin
 |true=>
  simp only[Qg,Bool.not_true,Bool.false_or]
  cases decide ((x.fItems.length:Int)=x.fPoint.fSize)
  ·rfl
  ·exact fin
end Go.Proofs.YtomndohdnfebgaaGreatDoor
