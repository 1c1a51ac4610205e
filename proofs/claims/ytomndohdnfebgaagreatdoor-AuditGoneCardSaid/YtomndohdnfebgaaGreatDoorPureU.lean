/-
 Plain: bundles: which are too great, right, the same.
-/
import Derived.Test.YtomndohdnfebgaaGreatDoorPureM
namespace Go.Proofs.YtomndohdnfebgaaGreatDoor
open Go Go.Sep
def Qrx:Rd→Sp×Rd:=mapR (fun t=>⟨t.1,t.2⟩) (seqR numR (fun _=>numR))
theorem QiA:Jg Qrx stepW (fun s=>inN s.fPart∧inN s.fKind):=by
 have h:=(YD.seq (fun _=>YD)).map (e:=fun(t:Int×Int)=>(⟨t.1,t.2⟩:Sp)) (fun s=>(s.fPart,s.fKind)) (fun _=>rfl)
 exact h.conv (fun _ _=>rfl) (fun s=>⟨fun h=>⟨h,rfl⟩,fun h=>h.1⟩)
def Qho:Rd→List Sp×Rd:=mapR Prod.snd (seqR (capR 6 2) (fun n=>Xz (fun _=>Qrx) n.toNat 0))
theorem Qhp:Jg Qho Qdc (fun l=>(l.length:Int)≤6∧∀s∈l,inN s.fPart∧inN s.fKind):=
 (Jg.counted (most:=6) (code:=2) (by omega) (by omega) (fun _=>QiA)).conv (fun _ _=>rfl) (fun l=>⟨fun h=>⟨h.1,fun j x hx=>h.2 x (List.mem_of_getElem? hx)⟩,fun h=>⟨h.1,fun s hs=>by
  obtain⟨j,hj⟩:=List.getElem?_of_mem hs
  exact h.2 j s hj⟩⟩)
abbrev LoadT:=H32×H32×List Int
def zH:H32:=Vector.replicate 32 0
def QtC:Bool→Rd→LoadT×Rd
 |true=>mapR (fun h=>(h,zH, [])) Qcx
 |false=>mapR (fun t=>(zH,t.1,t.2)) (seqR Qcx (fun _=>ZL 60))
theorem Qpb:∀g,Jg (QtC g) (fun t=>bif g then Ye t.1 else Ye t.2.1++(numS t.2.2.length++t.2.2)) (fun t=>bif g then isB (Ye t.1)∧t.2.1=zH∧t.2.2= []else isB (Ye t.2.1)∧(t.2.2.length:Int)≤60∧isB t.2.2∧t.1=zH):=by
 intro g
 cases g with
 | true=>
  exact(yK.map (e:=fun h=>((h,zH, []):LoadT)) (fun t=>t.1) (fun _=>rfl)).conv (fun _ _=>rfl) (fun t=>by
   obtain⟨a,b,c⟩:=t
   constructor
   ·rintro⟨h1,h2,h3⟩;simp only at h2 h3;exact⟨h1,by rw[h2,h3]⟩
   ·rintro⟨h1,h2⟩;simp only[Qe]at h2;exact⟨h1,h2.2.1.symm,h2.2.2.symm⟩)
 | false=>
  have h:=(yK.seq (fun _=>Qhh (most:=60) (by omega))).map (e:=fun(t:H32×List Int)=>((zH,t.1,t.2):LoadT)) (fun t=>t.2) (fun _=>rfl)
  exact h.conv (fun _ _=>rfl) (fun t=>by
   obtain⟨a,b,c⟩:=t
   constructor
   ·rintro⟨h1,h2,h3,h4⟩;simp only at h4;exact⟨⟨h1,h2,h3⟩,by rw[h4]⟩
   ·rintro⟨⟨h1,h2,h3⟩,h4⟩;simp only[Qe]at h4;exact⟨h1,h2,h3,h4.1.symm⟩)
abbrev BegT:=Int×List Sp×Bool×LoadT
def begR:Rd→BegT×Rd:=seqR numR (fun _=>seqR Qho (fun _=>seqR QbA QtC))
def begE(t:BegT):Rc:={zRc with fKind:=1,fSaga:=t.1,fSteps:=t.2.1,fGone:=t.2.2.1,fCom:=t.2.2.2.1,fSalt:=t.2.2.2.2.1,fData:=t.2.2.2.2.2}
def callR:Rd→Qwb×Rd:=seqR numR (fun _=>seqR numR (fun _=>seqR numR (fun _=>seqR numR (fun _=>QbA))))
def QfL(k:Int)(t:Qwb):Rc:={zRc with fKind:=k,fSaga:=t.1,fSeq:=t.2.1,fStep:=t.2.2.1,fTry:=t.2.2.2.1,fBack:=t.2.2.2.2}
abbrev AnsT:=Qwb×Bool×Int×Int×H32
def ansR:Rd→AnsT×Rd:=seqR callR (fun _=>seqR QbA (fun _=>seqR numR (fun _=>seqR numR (fun _=>Qcx))))
def ansE(t:AnsT):Rc:={QfL 3 t.1 with fGood:=t.2.1,fPart:=t.2.2.1,fEpoch:=t.2.2.2.1,fTag:=t.2.2.2.2}
def cloR:Rd→(Int×Int×Int)×Rd:=seqR numR (fun _=>seqR numR (fun _=>numR))
def cloE(t:Int×Int×Int):Rc:={zRc with fKind:=5,fSaga:=t.1,fSeq:=t.2.1,fEnd:=t.2.2}
def rotR:Rd→(Int×Int)×Rd:=seqR numR (fun _=>numR)
def rotE(t:Int×Int):Rc:={zRc with fKind:=6,fPart:=t.1,fEpoch:=t.2}
def XO(k:Int)(r:Rd):Rc×Rd:=
 if k=1 then mapR begE begR r
 else if k=2∨k=4 then mapR (QfL k) callR r
 else if k=3 then mapR ansE ansR r
 else if k=5 then mapR cloE cloR r
 else if k=6 then mapR rotE rotR r
 else({zRc with fKind:=k},Qhg 2 r)
def QcA(k:Int)(x:Rc):Prop:=
 if k=1 then(inN x.fSaga∧((x.fSteps.length:Int)≤6∧∀s∈x.fSteps,inN s.fPart∧inN s.fKind)∧
   (bif x.fGone then isB (Ye x.fCom)∧x.fSalt=zH∧x.fData= []else isB (Ye x.fSalt)∧(x.fData.length:Int)≤60∧isB x.fData∧x.fCom=zH))∧
   begE (x.fSaga,x.fSteps,x.fGone,x.fCom,x.fSalt,x.fData)=x
 else if k=2∨k=4 then(inN x.fSaga∧inN x.fSeq∧inN x.fStep∧inN x.fTry)∧QfL k (x.fSaga,x.fSeq,x.fStep,x.fTry,x.fBack)=x
 else if k=3 then(inN x.fSaga∧inN x.fSeq∧inN x.fStep∧inN x.fTry∧inN x.fPart∧inN x.fEpoch∧isB (Ye x.fTag))∧ansE ((x.fSaga,x.fSeq,x.fStep,x.fTry,x.fBack),x.fGood,x.fPart,x.fEpoch,x.fTag)=x
 else if k=5 then(inN x.fSaga∧inN x.fSeq∧inN x.fEnd)∧cloE (x.fSaga,x.fSeq,x.fEnd)=x
 else if k=6 then(inN x.fPart∧inN x.fEpoch)∧rotE (x.fPart,x.fEpoch)=x
 else False
theorem Qry:Jg begR (fun t=>numW t.1++(Qdc t.2.1++([ZJ t.2.2.1]++(bif t.2.2.1 then Ye t.2.2.2.1 else Ye t.2.2.2.2.1++(numS t.2.2.2.2.2.length++t.2.2.2.2.2)))))
  (fun t=>inN t.1∧((t.2.1.length:Int)≤6∧∀s∈t.2.1,inN s.fPart∧inN s.fKind)∧True∧(bif t.2.2.1 then isB (Ye t.2.2.2.1)∧t.2.2.2.2.1=zH∧t.2.2.2.2.2= []else isB (Ye t.2.2.2.2.1)∧(t.2.2.2.2.2.length:Int)≤60∧isB t.2.2.2.2.2∧t.2.2.2.1=zH)):=
 YD.seq (fun _=>Qhp.seq (fun _=>QaW.seq Qpb))
theorem QiB:Jg callR (fun t=>numW t.1++(numW t.2.1++(numW t.2.2.1++(numW t.2.2.2.1++ [ZJ t.2.2.2.2])))) (fun t=>inN t.1∧inN t.2.1∧inN t.2.2.1∧inN t.2.2.2.1∧True):=
 YD.seq (fun _=>YD.seq (fun _=>YD.seq (fun _=>YD.seq (fun _=>QaW))))
theorem Qpc(k:Int):Jg (XO k) (jW k) (QcA k):=by
 unfold XO
 by_cases h1:k=1
 ·subst h1
  exact(Qry.map (e:=begE) (fun x=>(x.fSaga,x.fSteps,x.fGone,x.fCom,x.fSalt,x.fData)) (fun _=>rfl)).conv (fun _ _=>rfl) (fun x=>by simp[QcA])
 simp only[h1,if_false]
 by_cases h2:k=2∨k=4
 ·simp only[h2,if_true]
  refine(QiB.map (e:=QfL k) (fun x=>(x.fSaga,x.fSeq,x.fStep,x.fTry,x.fBack)) (fun _=>rfl)).conv (fun x _=>by simp[jW,h1,h2,Qhk]) (fun x=> ?_)
  unfold QcA
  rw[if_neg h1,if_pos h2]
  simp
 simp only[h2,if_false]
 by_cases h3:k=3
 ·subst h3
  refine((QiB.seq (fun _=>QaW.seq (fun _=>YD.seq (fun _=>YD.seq (fun _=>yK))))).map (e:=ansE) (fun x=>((x.fSaga,x.fSeq,x.fStep,x.fTry,x.fBack),x.fGood,x.fPart,x.fEpoch,x.fTag)) (fun _=>rfl)).conv (fun x _=> ?_) (fun x=> ?_)
  ·simp[jW,Qhk,numW]
  ·simp[QcA,and_assoc]
 simp only[h3,if_false]
 by_cases h5:k=5
 ·subst h5
  refine((YD.seq (fun _=>YD.seq (fun _=>YD))).map (e:=cloE) (fun x=>(x.fSaga,x.fSeq,x.fEnd)) (fun _=>rfl)).conv (fun x _=> ?_) (fun x=> ?_)
  ·simp[jW,numW]
  ·simp[QcA]
 simp only[h5,if_false]
 by_cases h6:k=6
 ·subst h6
  refine((YD.seq (fun _=>YD)).map (e:=rotE) (fun x=>(x.fPart,x.fEpoch)) (fun _=>rfl)).conv (fun x _=> ?_) (fun x=> ?_)
  ·simp[jW,numW]
  ·simp[QcA]
 simp only[h6,if_false]
 refine⟨fun r hr=>qO hr,fun a rest ha _=> ?_,fun r _ hb=>absurd hb (QaU (by omega) _)⟩
 simp[QcA,h1,h2,h3,h5,h6]at ha
def finR(x:Rc)(r:Rd):Rc×Rd:=
 let r2:=bif Yx x then r else Qhg 2 r
 if r2.fBad=0 then(x,r2)else(zRc,r2)
def recR(r:Rd):Rc×Rd:=finR (seqR numR XO r).1.2 (seqR numR XO r).2
structure okB(x:Rc):Prop where
 data:isB x.fData
 tag:isB (Ye x.fTag)
 salt:isB (Ye x.fSalt)
 com:isB (Ye x.fCom)
theorem XP:isB (Ye zH):=by
 unfold isB
 decide
theorem Qrz{x:Rc}(h:Yx x=true)(hb:okB x):QcA x.fKind x:=by
 have hd:=QaX h
 have hk:=hd.kept
 unfold QeQ at hk
 unfold QcA
 rcases hd.kind with k|k|k|k|k|k
 ·obtain⟨b1,b2,b3⟩:=hd.beg k
  have b1:=qm.1 b1
  rw[if_pos k]at hk⊢
  refine⟨⟨hd.saga,⟨b1.2,fun s hs=>Qrv (List.all_eq_true.1 b2 s hs)⟩,?_⟩,?_⟩
  ·cases hg:x.fGone
   ·rw[hg]at hk
    exact⟨hb.salt,b3,hb.data,congrArg (fun y:Rc=>y.fCom) hk⟩
   ·rw[hg]at hk
    exact⟨hb.com,congrArg (fun y:Rc=>y.fSalt) hk,congrArg (fun y:Rc=>y.fData) hk⟩
  ·cases hg:x.fGone
   ·rw[hg]at hk
    simp only[Qh]at hk
    rw[hk]
    simp[begE,k]
   ·rw[hg]at hk
    simp only[Qg]at hk
    rw[hk]
    simp[begE,k]
 ·have h4:=hd.call (.inl k)
  rw[if_neg (by omega),if_neg (by omega),if_pos (.inl k)]at hk
  rw[if_neg (by omega),if_pos (.inl k)]
  exact⟨⟨hd.saga,h4.1,h4.2.1,h4.2.2⟩,by rw[hk];simp[QfL,k]⟩
 ·have h4:=hd.call (.inr (.inr k))
  rw[if_neg (by omega),if_pos k]at hk
  rw[if_neg (by omega),if_neg (by omega),if_pos k]
  exact⟨⟨hd.saga,h4.1,h4.2.1,h4.2.2,hd.part,hd.epoch,hb.tag⟩,by rw[hk];simp[ansE,QfL,k]⟩
 ·have h4:=hd.call (.inr (.inl k))
  rw[if_neg (by omega),if_neg (by omega),if_pos (.inr k)]at hk
  rw[if_neg (by omega),if_pos (.inr k)]
  exact⟨⟨hd.saga,h4.1,h4.2.1,h4.2.2⟩,by rw[hk];simp[QfL,k]⟩
 ·have h4:=hd.clo k
  rw[if_neg (by omega),if_neg (by omega),if_neg (by omega),if_pos k]at hk
  rw[if_neg (by omega),if_neg (by omega),if_neg (by omega),if_pos k]
  exact⟨⟨hd.saga,h4.1,h4.2⟩,by rw[hk];simp[cloE,k]⟩
 ·rw[if_neg (by omega),if_neg (by omega),if_neg (by omega),if_neg (by omega),if_pos k]at hk
  rw[if_neg (by omega),if_neg (by omega),if_neg (by omega),if_neg (by omega),if_pos k]
  exact⟨⟨hd.part,hd.epoch⟩,by rw[hk];simp[rotE,k]⟩
theorem QmS{k:Int}{x:Rc}(h:QcA k x):x.fKind=k∧okB x:=by
 unfold QcA at h
 by_cases h1:k=1
 ·rw[if_pos h1]at h
  obtain⟨⟨_,_,h2⟩,h3⟩:=h
  refine⟨by rw[←h3];exact h1.symm,?_⟩
  have ht:isB (Ye x.fTag):=by rw[←h3];exact XP
  cases hg:x.fGone
  ·rw[hg]at h2;exact⟨h2.2.2.1,ht,h2.1,by rw[h2.2.2.2];exact XP⟩
  ·rw[hg]at h2;exact⟨by rw[h2.2.2];exact JA,ht,by rw[h2.2.1];exact XP,h2.1⟩
 rw[if_neg h1]at h
 by_cases h2:k=2∨k=4
 ·rw[if_pos h2]at h
  obtain⟨_,h3⟩:=h
  rw[←h3]
  exact⟨rfl,JA,XP,XP,XP⟩
 rw[if_neg h2]at h
 by_cases h3:k=3
 ·rw[if_pos h3]at h
  obtain⟨⟨_,_,_,_,_,_,h4⟩,h3'⟩:=h
  exact⟨by rw[←h3'];exact h3.symm,by rw[←h3'];exact JA,h4,by rw[←h3'];exact XP,by rw[←h3'];exact XP⟩
 rw[if_neg h3]at h
 by_cases h5:k=5
 ·rw[if_pos h5]at h
  rw[←h.2]
  exact⟨h5.symm,JA,XP,XP,XP⟩
 rw[if_neg h5]at h
 by_cases h6:k=6
 ·rw[if_pos h6]at h
  rw[←h.2]
  exact⟨h6.symm,JA,XP,XP,XP⟩
 rw[if_neg h6]at h
 exact h.elim
theorem Qhq:Jg recR Qhl (fun x=>Yx x=true∧okB x):=by
 have hs:=YD.seq Qpc
 refine⟨fun r hr=> ?_,fun x rest hx hg=> ?_,fun r hr hb=> ?_⟩
 ·have h1:=hs.good r hr
  unfold recR finR
  simp only
  have h2:Good (bif Yx (seqR numR XO r).1.2 then(seqR numR XO r).2 else Qhg 2 (seqR numR XO r).2):=by
   cases Yx (seqR numR XO r).1.2
   ·exact qO h1
   ·exact h1
  split<;>exact h2
 ·have h1:=hs.ok (x.fKind,x) rest ⟨Qhn hx.1,Qrz hx.1 hx.2⟩ hg
  unfold recR finR
  rw[show Qhl x=numS x.fKind.toNat++jW x.fKind x from rfl,h1]
  simp[hx.1]
 ·unfold recR finR at hb⊢
  simp only at hb⊢
  cases hr2:Yx (seqR numR XO r).1.2 with
  |false=>
   rw[hr2]at hb
   simp only[Qh]at hb
   have:=QaU (e:=2) (by omega) (seqR numR XO r).2
   rw[if_neg this]at hb
   exact absurd hb this
  | true=>
   rw[hr2]at hb
   simp only[Qg]at hb⊢
   by_cases h0:(seqR numR XO r).2.fBad=0
   ·rw[if_pos h0]at hb⊢
    obtain⟨e1,e2,e3,e4⟩:=hs.back r hr h0
    obtain⟨e5,e6⟩:=QmS e4
    refine⟨e1,?_,hr2,e6⟩
    unfold Qhl
    rw[e5]
    exact e2
   ·rw[if_neg h0]at hb
    exact absurd hb h0
theorem QrA{K:Nat}(hK:1000000000000≤K){r:Rd}(hr:Good r):Qb4.f K r=some (Qho r):=by
 unfold Qb4.f
 rw[ZK hK hr]
 simp only[Qb,jn]
 have hg:=YD.good r hr
 have hn:∃N:Nat,(numR r).1=(N:Int)∧N<2147483648:=by
  unfold numR
  split
  ·split
   ·rename_i _ h2
    obtain⟨n,rest,h3,h4,h5⟩:=QaV hr.1 h2
    exact⟨n,by rw[h5],h3⟩
   ·exact⟨0,rfl,by omega⟩
  ·exact⟨0,rfl,by omega⟩
 obtain⟨N,hN,hN2⟩:=hn
 have key:∀r',Good r'→Jb.l K (numR r) K ([],0,r')=some (Xz (fun _=>Qrx) N 0 r'):=by
  intro r' hr'
  have:=Qcy (L:=Jb.l K (numR r)) (one:=fun _=>Qrx) (N:=N) (by omega) (fun _ r hr=>QiA.good r hr)
   (fun k out r'=>by
    show Jb.b K (numR r) (Jb.l K (numR r) k) _=_
    unfold Jb.b
    rw[Qi (QG (by simp only;omega))])
   (fun k out i r' hi hb=>by
    show Jb.b K (numR r) (Jb.l K (numR r) k) _=_
    unfold Jb.b
    rw[Qj (QT (by simp only;omega)),XV]
    simp only[Qb]
    rw[Qj (by simp[hb])])
   (fun k out i r' hi hb hg ho=>by
    show Jb.b K (numR r) (Jb.l K (numR r) k) _=_
    unfold Jb.b
    rw[Qj (QT (by simp only;omega)),XV]
    simp only[Qb]
    rw[Qi (by simp[hb]),ZK hK hg]
    simp only[Qb]
    rw[ZK hK (YD.good _ hg)]
    simp only[Qb]
    rw[YQ (by simp;omega)]
    simp only[Qb]
    rw[wrap_succ (by omega)]
    rfl)
   N 0 [] r' K (by omega) (by omega) hr' (by simp)
  simpa using this
 unfold Qho mapR seqR capR
 simp only[hN,Int.toNat_natCast]
 by_cases h6:(6:Int)<N
 ·rw[Qj (QT h6),Qai (by omega)]
  simp only[Qb]
  rw[key _ (qO hg)]
  simp[h6]
 ·rw[Qi (QG h6),key _ hg]
  simp[h6]
theorem QrB{α:Type}{one:Nat→Rd→α×Rd}:∀(n i:Nat) (r:Rd),(Xz one n i r).1.length≤n:=by
 intro n
 induction n with
 |zero=>intro i r;simp[Xz]
 |succ n ih=>
  intro i r
  unfold Xz
  split
  ·simp;exact ih _ _
  ·simp
theorem QrC{α:Type}{one:Nat→Rd→α×Rd}{n i:Nat}{r:Rd}(h:r.fBad≠0):Xz one n i r=([],r):=by
 cases n with
 |zero=>rfl
 |succ n=>unfold Xz;rw[if_neg h]
theorem Qpd(r:Rd):(Qho r).1.length≤6:=by
 unfold Qho mapR seqR capR
 simp only
 split
 ·rw[QrC (QaU (by omega) _)];simp
 ·have:=QrB (one:=fun _=>Qrx) (numR r).1.toNat 0 (numR r).2
  omega
theorem Qpe{most:Int}{r:Rd}(h:Good r):isB (ZL most r).1∧(ZL most r).1.length<1000000000:=by
 unfold ZL
 split
 ·split
  ·exact⟨JA,by simp⟩
  ·split
   ·exact⟨JA,by simp⟩
   ·split
    ·exact⟨JA,by simp⟩
    ·refine⟨fun x hx=>h.1 x (List.mem_of_mem_drop (List.mem_of_mem_take hx)),?_⟩
     have:=h.2
     simp;omega
 ·exact⟨JA,by simp⟩
theorem Qak{K:Nat}(hK:1000000000000≤K){x:Rc}{r:Rd}(hx:okD x):
  ((qG.f K x).bind fun q=>bif !q then(Q9.f K 2 r).bind fun y=>((QF.f K y).bind fun e=>bif !decide (e=0)then some (zRc,y)else some (x,y))
   else((QF.f K r).bind fun e=>bif !decide (e=0)then some (zRc,r)else some (x,r)))=some (finR x r):=by
 rw[right_eq hK hx]
 simp only[Qb]
 unfold finR
 cases Yx x
 ·rw[Qj (by rfl),Qai (by omega)]
  simp only[Qb,Qh]
  rw[XV]
  simp only[Qb]
  have:=QaU (e:=2) (by omega) r
  rw[Qj (by simp[this]),if_neg this]
 ·rw[Qi (by rfl),XV]
  simp only[Qb,Qg]
  by_cases h:r.fBad=0
  ·rw[Qi (by simp[h]),if_pos h]
  ·rw[Qj (by simp[h]),if_neg h]
theorem QD{α β:Type}{o:Option α}{x:α}{f:α→Option β}{y:Option β}(h:o=some x)(h2:f x=y):o.bind f=y:=by rw[h];exact h2
theorem jE{K:Nat}(hK:1000000000000≤K){r:Rd}(hr:Good r):∃n r',numR r=(n,r')∧Qy.f K r=some (n,r')∧Good r':=⟨_,_,rfl,ZK hK hr,YD.good r hr⟩
theorem QeS{K:Nat}{r:Rd}(hr:Good r):∃n r',QbA r=(n,r')∧Yz.f K r=some (n,r')∧Good r':=⟨_,_,rfl,Qtz hr,QaW.good r hr⟩
theorem QjT{K:Nat}{r:Rd}(hr:Good r):∃n r',Qcx r=(n,r')∧Yi.f K r=some (n,r')∧Good r':=⟨_,_,rfl,QjS hr,yK.good r hr⟩
theorem QtD{K:Nat}(hK:1000000000000≤K){r:Rd}(hr:Good r):∃n r',ZL 60 r=(n,r')∧YM.f K 60 r=some (n,r')∧Good r'∧isB n∧n.length<1000000000:=⟨_,_,rfl,Qrr hK hr,(Qhh (by omega)).good r hr,Qpe hr⟩
theorem QtE{K:Nat}(hK:1000000000000≤K){r:Rd}(hr:Good r):∃n r',Qho r=(n,r')∧Qb4.f K r=some (n,r')∧Good r'∧n.length≤6:=⟨_,_,rfl,QrA hK hr,Qhp.good r hr,Qpd r⟩
theorem QrD{K:Nat}(hK:1000000000000≤K){r:Rd}(hr:Good r):QdL.f K r=some (recR r):=by
 have g0:=YD.good r hr
 obtain⟨k,r0,hp⟩:∃k r0,numR r=(k,r0):=⟨_,_,rfl⟩
 rw[hp]at g0
 replace g0:Good r0:=g0
 have hR:recR r=finR (XO k r0).1 (XO k r0).2:=by unfold recR seqR;rw[hp]
 unfold QdL.f
 rw[ZK hK hr,hp]
 simp only[Qb,jn]
 by_cases h1:k=1
 ·have hb:XO k r0=mapR begE begR r0:=by unfold XO;rw[if_pos h1]
  have d1:decide (k=1)=true:=QT h1
  simp only[d1,Qg]
  obtain⟨n1,r1,e1,q1,g1⟩:=jE hK g0
  refine QD q1 ?_
  simp only
  obtain⟨n2,r2,e2,q2,g2,l2⟩:=QtE hK g1
  refine QD q2 ?_
  simp only
  obtain⟨n3,r3,e3,q3,g3⟩:=QeS (K:=K) g2
  refine QD q3 ?_
  simp only
  cases n3 with
  |true=>
   obtain⟨n4,r4,e4,q4,g4⟩:=QjT (K:=K) g3
   simp only[Qg]
   refine QD q4 ?_
   simp only
   obtain rfl:=h1
   refine(Qak hK ⟨JA,by simp,by simp only;omega⟩).trans ?_
   rw[hR,hb]
   simp only[mapR,begR,seqR,e1,e2,e3,e4,QtC,begE]
   rfl
  |false=>
   obtain⟨n4,r4,e4,q4,g4⟩:=QjT (K:=K) g3
   simp only[Qh]
   refine QD q4 ?_
   simp only
   obtain⟨n5,r5,e5,q5,g5,l5,m5⟩:=QtD hK g4
   refine QD q5 ?_
   simp only
   obtain rfl:=h1
   refine(Qak hK ⟨l5,m5,by simp only;omega⟩).trans ?_
   rw[hR,hb]
   simp only[mapR,begR,seqR,e1,e2,e3,e4,e5,QtC,begE]
   rfl
 simp only[h1,decide_false,Qh]
 by_cases h2:k=2
 ·have hb:XO k r0=mapR (QfL k) callR r0:=by unfold XO;rw[if_neg h1,if_pos (.inl h2)]
  have d2:decide (k=2)=true:=QT h2
  have n3:decide (k=3)=false:=by simp[h2]
  simp only[d2,n3,Qg,Qh]
  obtain⟨n1,r1,e1,q1,g1⟩:=jE hK g0
  refine QD q1 ?_
  simp only
  obtain⟨n2,r2,e2,q2,g2⟩:=jE hK g1
  refine QD q2 ?_
  simp only
  obtain⟨n3,r3,e3,q3,g3⟩:=jE hK g2
  refine QD q3 ?_
  simp only
  obtain⟨n4,r4,e4,q4,g4⟩:=jE hK g3
  refine QD q4 ?_
  simp only
  obtain⟨n5,r5,e5,q5,g5⟩:=QeS (K:=K) g4
  refine QD q5 ?_
  simp only
  refine(Qak hK ⟨JA,by simp,by simp⟩).trans ?_
  rw[hR,hb]
  simp only[mapR,callR,QfL,seqR,e1,e2,e3,e4,e5]
 simp only[h2,decide_false,Qh]
 by_cases h4:k=4
 ·have hb:XO k r0=mapR (QfL k) callR r0:=by unfold XO;rw[if_neg h1,if_pos (.inr h4)]
  have d4:decide (k=4)=true:=QT h4
  have n3:decide (k=3)=false:=by simp[h4]
  simp only[d4,n3,Qg,Qh]
  obtain⟨n1,r1,e1,q1,g1⟩:=jE hK g0
  refine QD q1 ?_
  simp only
  obtain⟨n2,r2,e2,q2,g2⟩:=jE hK g1
  refine QD q2 ?_
  simp only
  obtain⟨n3,r3,e3,q3,g3⟩:=jE hK g2
  refine QD q3 ?_
  simp only
  obtain⟨n4,r4,e4,q4,g4⟩:=jE hK g3
  refine QD q4 ?_
  simp only
  obtain⟨n5,r5,e5,q5,g5⟩:=QeS (K:=K) g4
  refine QD q5 ?_
  simp only
  refine(Qak hK ⟨JA,by simp,by simp⟩).trans ?_
  rw[hR,hb]
  simp only[mapR,callR,QfL,seqR,e1,e2,e3,e4,e5]
 simp only[h4,decide_false,Qh]
 by_cases h3:k=3
 ·have hb:XO k r0=mapR ansE ansR r0:=by unfold XO;rw[if_neg h1,if_neg (by omega),if_pos h3]
  have d3:decide (k=3)=true:=QT h3
  simp only[d3,Qg]
  obtain⟨n1,r1,e1,q1,g1⟩:=jE hK g0
  refine QD q1 ?_
  simp only
  obtain⟨n2,r2,e2,q2,g2⟩:=jE hK g1
  refine QD q2 ?_
  simp only
  obtain⟨n3,r3,e3,q3,g3⟩:=jE hK g2
  refine QD q3 ?_
  simp only
  obtain⟨n4,r4,e4,q4,g4⟩:=jE hK g3
  refine QD q4 ?_
  simp only
  obtain⟨n5,r5,e5,q5,g5⟩:=QeS (K:=K) g4
  refine QD q5 ?_
  simp only
  obtain⟨n6,r6,e6,q6,g6⟩:=QeS (K:=K) g5
  refine QD q6 ?_
  simp only
  obtain⟨n7,r7,e7,q7,g7⟩:=jE hK g6
  refine QD q7 ?_
  simp only
  obtain⟨n8,r8,e8,q8,g8⟩:=jE hK g7
  refine QD q8 ?_
  simp only
  obtain⟨n9,r9,e9,q9,g9⟩:=QjT (K:=K) g8
  refine QD q9 ?_
  simp only
  obtain rfl:=h3
  refine(Qak hK ⟨JA,by simp,by simp⟩).trans ?_
  rw[hR,hb]
  simp only[mapR,ansR,callR,ansE,QfL,seqR,e1,e2,e3,e4,e5,e6,e7,e8,e9]
 simp only[h3,decide_false,Qh]
 by_cases h5:k=5
 ·have hb:XO k r0=mapR cloE cloR r0:=by unfold XO;rw[if_neg h1,if_neg (by omega),if_neg h3,if_pos h5]
  have d5:decide (k=5)=true:=QT h5
  simp only[d5,Qg]
  obtain⟨n1,r1,e1,q1,g1⟩:=jE hK g0
  refine QD q1 ?_
  simp only
  obtain⟨n2,r2,e2,q2,g2⟩:=jE hK g1
  refine QD q2 ?_
  simp only
  obtain⟨n3,r3,e3,q3,g3⟩:=jE hK g2
  refine QD q3 ?_
  simp only
  obtain rfl:=h5
  refine(Qak hK ⟨JA,by simp,by simp⟩).trans ?_
  rw[hR,hb]
  simp only[mapR,cloR,cloE,seqR,e1,e2,e3]
 simp only[h5,decide_false,Qh]
 by_cases h6:k=6
 ·have hb:XO k r0=mapR rotE rotR r0:=by unfold XO;rw[if_neg h1,if_neg (by omega),if_neg h3,if_neg h5,if_pos h6]
  have d6:decide (k=6)=true:=QT h6
  simp only[d6,Qg]
  obtain⟨n1,r1,e1,q1,g1⟩:=jE hK g0
  refine QD q1 ?_
  simp only
  obtain⟨n2,r2,e2,q2,g2⟩:=jE hK g1
  refine QD q2 ?_
  simp only
  obtain rfl:=h6
  refine(Qak hK ⟨JA,by simp,by simp⟩).trans ?_
  rw[hR,hb]
  simp only[mapR,rotR,rotE,seqR,e1,e2]
 simp only[h6,decide_false,Qh]
 refine QD (Qai (by omega) r0) ?_
 refine(Qak hK ⟨JA,by simp,by simp⟩).trans ?_
 rw[hR]
 simp only[XO,h1,h2,h3,h4,h5,h6,if_false,or_self]
abbrev Bun:=QS
abbrev It:=Qz
abbrev Sg:=QO
abbrev zBun:Bun:=Jd
structure QuV(x:It):Prop where
 d:okD x.fRec
 p:x.fPath.length<1000000000
structure Qwc(x:Bun):Prop where
 sigs:x.fPoint.fSigs.length<1000000000
 len:x.fItems.length<1000000000
 items:∀y∈x.fItems,QuV y
structure Qhr(x:Bun):Prop where
 root:isB (Ye x.fPoint.fRoot)
 tags:∀s∈x.fPoint.fSigs,isB (Ye s.fTag)
 recs:∀y∈x.fItems,okB y.fRec
 path:∀y∈x.fItems,∀h∈y.fPath,isB (Ye h)
theorem QeT{K:Nat}(a b c:Int):jI.f K a b c=some (inn a b c):=by
 unfold jI.f inn
 cases decide (b≤a)<;>rfl
def QjU(s:Sg):Bool:=inn s.fWit 0 3
theorem Qwd{K:Nat}(s:Sg):XD.f K s=some (!QjU s):=by
 unfold XD.f QjU
 rw[QeT];rfl
theorem QtF{K:Nat}{l:List Sg}(hK:l.length<K)(hl:l.length<1000000000000):YT.f K l=some (!l.all QjU):=by
 unfold YT.f Js.f
 have hL:=QfP (L:=QH.l K l) (fun(_:Unit) (i:Nat)=>(i:Int)) l (fun _ i x=>some (bif QjU x then .inr ()else .inl (.inl ((i:Nat):Int)))) (fun _=>some (.inr ())) () hK
  (fun k s=>by
   show QH.b K l (QH.l K l k) _=_
   unfold QH.b
   rw[Qi (QG (by simp))])
  (fun k s i x hi hx=>by
   show QH.b K l (QH.l K l k) _=_
   unfold QH.b
   rw[Qj (QT (by omega)),JJ hx]
   simp only[Qb]
   rw[Qwd]
   simp only[Qb]
   rw[wrap_succ (by omega)]
   cases QjU x<;>rfl)
 have hL:QH.l K l K 0=_:=hL
 obtain⟨r1,r2⟩:=QiS (good:=QjU) (v:=fun i=>((i:Nat):Int)) (l:=l) (s:=()) (i:=0) (f:=fun _ i x=>some (bif QjU x then .inr ()else .inl (.inl ((i:Nat):Int)))) (fun s i x _=>rfl)
 cases hg:l.all QjU with
 |true=>rw[hL,r1 hg];rfl
 |false=>
  obtain⟨j,_,_,hj⟩:=r2 hg
  rw[hL,hj]
  simp only[Qb,Bool.not_false]
  rw[QT (by omega)]
def QeU(p:Qo):Bool:=inn p.fSize 0 400&&(decide ((p.fSigs.length:Int)≤4)&&p.fSigs.all QjU)
theorem QtG{K:Nat}{p:Qo}(hK:p.fSigs.length<K)(hl:p.fSigs.length<1000000000000):Qaa.f K p=some (QeU p):=by
 unfold Qaa.f QeU
 rw[QeT]
 simp only[Qb]
 cases inn p.fSize 0 400
 ·rfl
 simp only[Qg,Bool.true_and]
 cases decide ((p.fSigs.length:Int)≤4)
 ·rfl
 simp only[Qg,Bool.true_and]
 rw[QtF hK hl]
 simp
def Qfj(whole:Bool)(size last:Int)(i:Nat)(x:It):Bool:=
 Yx x.fRec&&(inn x.fAt (last+1) (size-1)&&(decide ((x.fPath.length:Int)≤20)&&(!whole||(decide (x.fAt=(i:Int))&&decide (x.fPath.length=0)))))
def jF(whole:Bool)(size:Int):Int→Nat→List It→Bool
 |_,_, []=>true
 |last,i,x::l=>Qfj whole size last i x&&jF whole size x.fAt (i+1) l
def XQ(x:Bun):Bool:=
 QeU x.fPoint&&(decide ((x.fItems.length:Int)≤x.fPoint.fSize)&&((!x.fWhole||decide ((x.fItems.length:Int)=x.fPoint.fSize))&&jF x.fWhole x.fPoint.fSize (-1) 0 x.fItems))
theorem QrE{whole:Bool}{size:Int}(hs:0≤size∧size≤400):∀{l:List It} {last:Int} {i:Nat} {f:Int→Nat→It→Option (Sum (Sum Bool Unit) Int)},-1≤last∧last<400→
  (∀last i x,x∈l→ -1≤last∧last<400→f last i x=some (bif Qfj whole size last i x then .inr x.fAt else .inl (.inl false)))→
  runL f (fun _=>some (.inr ())) last i l=some (bif jF whole size last i l then .inr ()else .inl false):=by
 intro l
 induction l with
 |nil=>intro last i f _ _;rfl
 | cons x l ih=>
  intro last i f hl hf
  unfold runL jF
  rw[hf last i x (by simp) hl]
  cases hg:Qfj whole size last i x with
  |false=>rfl
  | true=>
   have h2:inn x.fAt (last+1) (size-1)=true:=by
    unfold Qfj at hg
    simp only[Qd]at hg
    exact hg.2.1
   have h2:=qm.1 h2
   exact ih (by omega) (fun last i y hy=>hf last i y (by simp[hy]))
theorem Qlm{K:Nat}(hK:1000000000000≤K){x:Bun}(hx:Qwc x):JB.f K x=some (XQ x):=by
 unfold JB.f XQ
 have hs:=hx.sigs
 have hl:=hx.len
 rw[QtG (by omega) (by omega)]
 simp only[jn,Qb]
 cases hp:QeU x.fPoint
 ·rfl
 have hsz:0≤x.fPoint.fSize∧x.fPoint.fSize≤400:=by
  unfold QeU at hp
  simp only[Qd]at hp
  exact qm.1 hp.1
 rw[Qi (by rfl)]
 simp only[Bool.true_and]
 by_cases h1:x.fPoint.fSize<(x.fItems.length:Int)
 ·rw[Qj (QT h1),QG (show¬(x.fItems.length:Int)≤x.fPoint.fSize by omega)];rfl
 rw[Qi (QG h1),QT (show(x.fItems.length:Int)≤x.fPoint.fSize by omega)]
 simp only[Bool.true_and]
 have hL:YL.l K x K (-1,0)=some (bif jF x.fWhole x.fPoint.fSize (-1) 0 x.fItems then .inr ()else .inl false):=by
  have hL:=QfP (L:=YL.l K x) (fun(s:Int) (i:Nat)=>(s,(i:Int))) x.fItems
   (fun last i y=>some (bif Yx y.fRec&&(inn y.fAt (IntKind.wrap .i64 (last+1)) (x.fPoint.fSize-1)&&(decide ((y.fPath.length:Int)≤20)&&(!x.fWhole||(decide (y.fAt=(i:Int))&&decide (y.fPath.length=0)))))then .inr y.fAt else .inl (.inl false)))
   (fun _=>some (.inr ())) (-1) (k:=K) (by omega)
   (fun k s=>by
    show YL.b K x (YL.l K x k) _=_
    unfold YL.b
    rw[Qi (QG (by simp))])
   (fun k s i y hi hy=>by
    have hym:=List.mem_of_getElem? hy
    show YL.b K x (YL.l K x k) _=_
    unfold YL.b
    rw[Qj (QT (by simp;omega))]
    simp only
    rw[JJ hy]
    simp only[jn,Qb]
    rw[right_eq hK (hx.items y hym).d,QeT]
    simp only[Qb]
    rw[wrap64 (n:=x.fPoint.fSize-1) (by omega) (by omega),wrap_succ (by omega)]
    cases Yx y.fRec
    ·rfl
    cases inn y.fAt (IntKind.wrap .i64 (s+1)) (x.fPoint.fSize-1)
    ·rfl
    by_cases h20:(20:Int)<(y.fPath.length:Int)
    ·rw[QT h20,QG (show¬(y.fPath.length:Int)≤20 by omega)];rfl
    rw[QG h20,QT (show(y.fPath.length:Int)≤20 by omega)]
    cases x.fWhole
    ·rfl
    cases decide (y.fAt=(i:Int))
    ·rfl
    by_cases h0:y.fPath.length=0
    ·rw[QT h0,QG (show¬(0:Int)<(y.fPath.length:Int) by omega)];rfl
    ·rw[QG h0,QT (show(0:Int)<(y.fPath.length:Int) by omega)];rfl)
  have hL:YL.l K x K (-1,0)=_:=hL
  rw[hL]
  refine QrE hsz (by omega) (fun last i y hy hl=> ?_)
  rw[wrap64 (by omega) (by omega)]
  rfl
 have fin:(((YL.l K x K (-1,0)).bind fun s1906=>(match s1906 with| .inl u1907=>some u1907| .inr u1908=>(fun(_:Unit)=>(some true)) u1908)):Option Bool)=some (jF x.fWhole x.fPoint.fSize (-1) 0 x.fItems):=by
  rw[hL]
  cases jF x.fWhole x.fPoint.fSize (-1) 0 x.fItems<;>rfl
 generalize jF x.fWhole x.fPoint.fSize (-1) 0 x.fItems=v at fin⊢
 cases x.fWhole with
 |false=>exact fin
 |true=>
  simp only[Qg,Bool.not_true,Bool.false_or]
  cases decide ((x.fItems.length:Int)=x.fPoint.fSize)
  ·rfl
  ·exact fin
end Go.Proofs.YtomndohdnfebgaaGreatDoor
