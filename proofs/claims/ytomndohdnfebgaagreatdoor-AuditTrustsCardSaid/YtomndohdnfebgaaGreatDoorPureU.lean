/-
 Plain: bundles: which are too great, right, the same.
-/
import Derived.Test.YtomndohdnfebgaaGreatDoorPureM
namespace Go.Proofs.YtomndohdnfebgaaGreatDoor
open Go Go.Sep
def QpW:Rd→Sp×Rd:=mapR (fun t=>⟨t.1,t.2⟩) (seqR numR (fun _=>numR))
theorem QhF:Y3 QpW stepW (fun s=>inN s.fPart∧inN s.fKind):=by
 have h:=(Yp.seq (fun _=>Yp)).map (e:=fun(t:Int×Int)=>(⟨t.1,t.2⟩:Sp)) (fun s=>(s.fPart,s.fKind)) (fun _=>rfl)
 exact h.conv (fun _ _=>rfl) (fun s=>⟨fun h=>⟨h,rfl⟩,fun h=>h.1⟩)
def QgB:Rd→List Sp×Rd:=mapR Prod.snd (seqR (capR 6 2) (fun n=>yK (fun _=>QpW) n.toNat 0))
theorem QgC:Y3 QgB Qdv (fun l=>(l.length:Int)≤6∧∀s∈l,inN s.fPart∧inN s.fKind):=
 (Y3.counted (most:=6) (code:=2) (by omega) (by omega) (fun _=>QhF)).conv (fun _ _=>rfl) (fun l=>⟨fun h=>⟨h.1,fun j x hx=>h.2 x (List.mem_of_getElem? hx)⟩,fun h=>⟨h.1,fun s hs=>by
  obtain⟨j,hj⟩:=List.getElem?_of_mem hs
  exact h.2 j s hj⟩⟩)
abbrev LoadT:=H32×H32×List Int
def zH:H32:=Vector.replicate 32 0
def QrG:Bool→Rd→LoadT×Rd
 |true=>mapR (fun h=>(h,zH, [])) QbR
 |false=>mapR (fun t=>(zH,t.1,t.2)) (seqR QbR (fun _=>Za 60))
theorem QnF:∀g,Y3 (QrG g) (fun t=>bif g then Q7 t.1 else Q7 t.2.1++(numS t.2.2.length++t.2.2)) (fun t=>bif g then isB (Q7 t.1)∧t.2.1=zH∧t.2.2= []else isB (Q7 t.2.1)∧(t.2.2.length:Int)≤60∧isB t.2.2∧t.1=zH):=by
 intro g
 cases g with
 | true=>
  exact(jQ.map (e:=fun h=>((h,zH, []):LoadT)) (fun t=>t.1) (fun _=>rfl)).conv (fun _ _=>rfl) (fun t=>by
   obtain⟨a,b,c⟩:=t
   constructor
   ·rintro⟨h1,h2,h3⟩;simp only at h2 h3;exact⟨h1,by rw[h2,h3]⟩
   ·rintro⟨h1,h2⟩;simp only[Qe]at h2;exact⟨h1,h2.2.1.symm,h2.2.2.symm⟩)
 | false=>
  have h:=(jQ.seq (fun _=>Qgx (most:=60) (by omega))).map (e:=fun(t:H32×List Int)=>((zH,t.1,t.2):LoadT)) (fun t=>t.2) (fun _=>rfl)
  exact h.conv (fun _ _=>rfl) (fun t=>by
   obtain⟨a,b,c⟩:=t
   constructor
   ·rintro⟨h1,h2,h3,h4⟩;simp only at h4;exact⟨⟨h1,h2,h3⟩,by rw[h4]⟩
   ·rintro⟨⟨h1,h2,h3⟩,h4⟩;simp only[Qe]at h4;exact⟨h1,h2,h3,h4.1.symm⟩)
abbrev BegT:=Int×List Sp×Bool×LoadT
def begR:Rd→BegT×Rd:=seqR numR (fun _=>seqR QgB (fun _=>seqR QaV QrG))
def begE(t:BegT):Rc:={zRc with fKind:=1,fSaga:=t.1,fSteps:=t.2.1,fGone:=t.2.2.1,fCom:=t.2.2.2.1,fSalt:=t.2.2.2.2.1,fData:=t.2.2.2.2.2}
def callR:Rd→Qt3×Rd:=seqR numR (fun _=>seqR numR (fun _=>seqR numR (fun _=>seqR numR (fun _=>QaV))))
def QeZ(k:Int)(t:Qt3):Rc:={zRc with fKind:=k,fSaga:=t.1,fSeq:=t.2.1,fStep:=t.2.2.1,fTry:=t.2.2.2.1,fBack:=t.2.2.2.2}
abbrev AnsT:=Qt3×Bool×Int×Int×H32
def ansR:Rd→AnsT×Rd:=seqR callR (fun _=>seqR QaV (fun _=>seqR numR (fun _=>seqR numR (fun _=>QbR))))
def ansE(t:AnsT):Rc:={QeZ 3 t.1 with fGood:=t.2.1,fPart:=t.2.2.1,fEpoch:=t.2.2.2.1,fTag:=t.2.2.2.2}
def cloR:Rd→(Int×Int×Int)×Rd:=seqR numR (fun _=>seqR numR (fun _=>numR))
def cloE(t:Int×Int×Int):Rc:={zRc with fKind:=5,fSaga:=t.1,fSeq:=t.2.1,fEnd:=t.2.2}
def rotR:Rd→(Int×Int)×Rd:=seqR numR (fun _=>numR)
def rotE(t:Int×Int):Rc:={zRc with fKind:=6,fPart:=t.1,fEpoch:=t.2}
def Xb(k:Int)(r:Rd):Rc×Rd:=
 if k=1 then mapR begE begR r
 else if k=2∨k=4 then mapR (QeZ k) callR r
 else if k=3 then mapR ansE ansR r
 else if k=5 then mapR cloE cloR r
 else if k=6 then mapR rotE rotR r
 else({zRc with fKind:=k},Qgw 2 r)
def QbT(k:Int)(x:Rc):Prop:=
 if k=1 then(inN x.fSaga∧((x.fSteps.length:Int)≤6∧∀s∈x.fSteps,inN s.fPart∧inN s.fKind)∧
   (bif x.fGone then isB (Q7 x.fCom)∧x.fSalt=zH∧x.fData= []else isB (Q7 x.fSalt)∧(x.fData.length:Int)≤60∧isB x.fData∧x.fCom=zH))∧
   begE (x.fSaga,x.fSteps,x.fGone,x.fCom,x.fSalt,x.fData)=x
 else if k=2∨k=4 then(inN x.fSaga∧inN x.fSeq∧inN x.fStep∧inN x.fTry)∧QeZ k (x.fSaga,x.fSeq,x.fStep,x.fTry,x.fBack)=x
 else if k=3 then(inN x.fSaga∧inN x.fSeq∧inN x.fStep∧inN x.fTry∧inN x.fPart∧inN x.fEpoch∧isB (Q7 x.fTag))∧ansE ((x.fSaga,x.fSeq,x.fStep,x.fTry,x.fBack),x.fGood,x.fPart,x.fEpoch,x.fTag)=x
 else if k=5 then(inN x.fSaga∧inN x.fSeq∧inN x.fEnd)∧cloE (x.fSaga,x.fSeq,x.fEnd)=x
 else if k=6 then(inN x.fPart∧inN x.fEpoch)∧rotE (x.fPart,x.fEpoch)=x
 else False
theorem QpX:Y3 begR (fun t=>numW t.1++(Qdv t.2.1++([Qbb t.2.2.1]++(bif t.2.2.1 then Q7 t.2.2.2.1 else Q7 t.2.2.2.2.1++(numS t.2.2.2.2.2.length++t.2.2.2.2.2)))))
  (fun t=>inN t.1∧((t.2.1.length:Int)≤6∧∀s∈t.2.1,inN s.fPart∧inN s.fKind)∧True∧(bif t.2.2.1 then isB (Q7 t.2.2.2.1)∧t.2.2.2.2.1=zH∧t.2.2.2.2.2= []else isB (Q7 t.2.2.2.2.1)∧(t.2.2.2.2.2.length:Int)≤60∧isB t.2.2.2.2.2∧t.2.2.2.1=zH)):=
 Yp.seq (fun _=>QgC.seq (fun _=>Qak.seq QnF))
theorem QhG:Y3 callR (fun t=>numW t.1++(numW t.2.1++(numW t.2.2.1++(numW t.2.2.2.1++ [Qbb t.2.2.2.2])))) (fun t=>inN t.1∧inN t.2.1∧inN t.2.2.1∧inN t.2.2.2.1∧True):=
 Yp.seq (fun _=>Yp.seq (fun _=>Yp.seq (fun _=>Yp.seq (fun _=>Qak))))
theorem QnG(k:Int):Y3 (Xb k) (Qal k) (QbT k):=by
 unfold Xb
 by_cases h1:k=1
 ·subst h1
  exact(QpX.map (e:=begE) (fun x=>(x.fSaga,x.fSteps,x.fGone,x.fCom,x.fSalt,x.fData)) (fun _=>rfl)).conv (fun _ _=>rfl) (fun x=>by simp[QbT])
 simp only[h1,if_false]
 by_cases h2:k=2∨k=4
 ·simp only[h2,if_true]
  refine(QhG.map (e:=QeZ k) (fun x=>(x.fSaga,x.fSeq,x.fStep,x.fTry,x.fBack)) (fun _=>rfl)).conv (fun x _=>by simp[Qal,h1,h2,QiV]) (fun x=> ?_)
  unfold QbT
  rw[if_neg h1,if_pos h2]
  simp
 simp only[h2,if_false]
 by_cases h3:k=3
 ·subst h3
  refine((QhG.seq (fun _=>Qak.seq (fun _=>Yp.seq (fun _=>Yp.seq (fun _=>jQ))))).map (e:=ansE) (fun x=>((x.fSaga,x.fSeq,x.fStep,x.fTry,x.fBack),x.fGood,x.fPart,x.fEpoch,x.fTag)) (fun _=>rfl)).conv (fun x _=> ?_) (fun x=> ?_)
  ·simp[Qal,QiV,numW]
  ·simp[QbT,and_assoc]
 simp only[h3,if_false]
 by_cases h5:k=5
 ·subst h5
  refine((Yp.seq (fun _=>Yp.seq (fun _=>Yp))).map (e:=cloE) (fun x=>(x.fSaga,x.fSeq,x.fEnd)) (fun _=>rfl)).conv (fun x _=> ?_) (fun x=> ?_)
  ·simp[Qal,numW]
  ·simp[QbT]
 simp only[h5,if_false]
 by_cases h6:k=6
 ·subst h6
  refine((Yp.seq (fun _=>Yp)).map (e:=rotE) (fun x=>(x.fPart,x.fEpoch)) (fun _=>rfl)).conv (fun x _=> ?_) (fun x=> ?_)
  ·simp[Qal,numW]
  ·simp[QbT]
 simp only[h6,if_false]
 refine⟨fun r hr=>qi hr,fun a rest ha _=> ?_,fun r _ hb=>absurd hb (Qai (by omega) _)⟩
 simp[QbT,h1,h2,h3,h5,h6]at ha
def finR(x:Rc)(r:Rd):Rc×Rd:=
 let r2:=bif Je x then r else Qgw 2 r
 if r2.fBad=0 then(x,r2)else(zRc,r2)
def recR(r:Rd):Rc×Rd:=finR (seqR numR Xb r).1.2 (seqR numR Xb r).2
structure okB(x:Rc):Prop where
 data:isB x.fData
 tag:isB (Q7 x.fTag)
 salt:isB (Q7 x.fSalt)
 com:isB (Q7 x.fCom)
theorem ZC:isB (Q7 zH):=by
 unfold isB
 decide
theorem QpY{x:Rc}(h:Je x=true)(hb:okB x):QbT x.fKind x:=by
 have hd:=Qct h
 have hk:=hd.kept
 unfold QeY at hk
 unfold QbT
 rcases hd.kind with k|k|k|k|k|k
 ·obtain⟨b1,b2,b3⟩:=hd.beg k
  have b1:=qj.1 b1
  rw[if_pos k]at hk⊢
  refine⟨⟨hd.saga,⟨b1.2,fun s hs=>QpV (List.all_eq_true.1 b2 s hs)⟩,?_⟩,?_⟩
  ·cases hg:x.fGone
   ·rw[hg]at hk
    exact⟨hb.salt,b3,hb.data,congrArg (fun y:Rc=>y.fCom) hk⟩
   ·rw[hg]at hk
    exact⟨hb.com,congrArg (fun y:Rc=>y.fSalt) hk,congrArg (fun y:Rc=>y.fData) hk⟩
  ·cases hg:x.fGone
   ·rw[hg]at hk
    simp only[Qh]at hk
    rw[hk]
    simp[begE,k]
   ·rw[hg]at hk
    simp only[Qg]at hk
    rw[hk]
    simp[begE,k]
 ·have h4:=hd.call (.inl k)
  rw[if_neg (by omega),if_neg (by omega),if_pos (.inl k)]at hk
  rw[if_neg (by omega),if_pos (.inl k)]
  exact⟨⟨hd.saga,h4.1,h4.2.1,h4.2.2⟩,by rw[hk];simp[QeZ,k]⟩
 ·have h4:=hd.call (.inr (.inr k))
  rw[if_neg (by omega),if_pos k]at hk
  rw[if_neg (by omega),if_neg (by omega),if_pos k]
  exact⟨⟨hd.saga,h4.1,h4.2.1,h4.2.2,hd.part,hd.epoch,hb.tag⟩,by rw[hk];simp[ansE,QeZ,k]⟩
 ·have h4:=hd.call (.inr (.inl k))
  rw[if_neg (by omega),if_neg (by omega),if_pos (.inr k)]at hk
  rw[if_neg (by omega),if_pos (.inr k)]
  exact⟨⟨hd.saga,h4.1,h4.2.1,h4.2.2⟩,by rw[hk];simp[QeZ,k]⟩
 ·have h4:=hd.clo k
  rw[if_neg (by omega),if_neg (by omega),if_neg (by omega),if_pos k]at hk
  rw[if_neg (by omega),if_neg (by omega),if_neg (by omega),if_pos k]
  exact⟨⟨hd.saga,h4.1,h4.2⟩,by rw[hk];simp[cloE,k]⟩
 ·rw[if_neg (by omega),if_neg (by omega),if_neg (by omega),if_neg (by omega),if_pos k]at hk
  rw[if_neg (by omega),if_neg (by omega),if_neg (by omega),if_neg (by omega),if_pos k]
  exact⟨⟨hd.part,hd.epoch⟩,by rw[hk];simp[rotE,k]⟩
theorem QlG{k:Int}{x:Rc}(h:QbT k x):x.fKind=k∧okB x:=by
 unfold QbT at h
 by_cases h1:k=1
 ·rw[if_pos h1]at h
  obtain⟨⟨_,_,h2⟩,h3⟩:=h
  refine⟨by rw[←h3];exact h1.symm,?_⟩
  have ht:isB (Q7 x.fTag):=by rw[←h3];exact ZC
  cases hg:x.fGone
  ·rw[hg]at h2;exact⟨h2.2.2.1,ht,h2.1,by rw[h2.2.2.2];exact ZC⟩
  ·rw[hg]at h2;exact⟨by rw[h2.2.2];exact J3,ht,by rw[h2.2.1];exact ZC,h2.1⟩
 rw[if_neg h1]at h
 by_cases h2:k=2∨k=4
 ·rw[if_pos h2]at h
  obtain⟨_,h3⟩:=h
  rw[←h3]
  exact⟨rfl,J3,ZC,ZC,ZC⟩
 rw[if_neg h2]at h
 by_cases h3:k=3
 ·rw[if_pos h3]at h
  obtain⟨⟨_,_,_,_,_,_,h4⟩,h3'⟩:=h
  exact⟨by rw[←h3'];exact h3.symm,by rw[←h3'];exact J3,h4,by rw[←h3'];exact ZC,by rw[←h3'];exact ZC⟩
 rw[if_neg h3]at h
 by_cases h5:k=5
 ·rw[if_pos h5]at h
  rw[←h.2]
  exact⟨h5.symm,J3,ZC,ZC,ZC⟩
 rw[if_neg h5]at h
 by_cases h6:k=6
 ·rw[if_pos h6]at h
  rw[←h.2]
  exact⟨h6.symm,J3,ZC,ZC,ZC⟩
 rw[if_neg h6]at h
 exact h.elim
theorem QgD:Y3 recR QpU (fun x=>Je x=true∧okB x):=by
 have hs:=Yp.seq QnG
 refine⟨fun r hr=> ?_,fun x rest hx hg=> ?_,fun r hr hb=> ?_⟩
 ·have h1:=hs.good r hr
  unfold recR finR
  simp only
  have h2:Good (bif Je (seqR numR Xb r).1.2 then(seqR numR Xb r).2 else Qgw 2 (seqR numR Xb r).2):=by
   cases Je (seqR numR Xb r).1.2
   ·exact qi h1
   ·exact h1
  split<;>exact h2
 ·have h1:=hs.ok (x.fKind,x) rest ⟨QmA hx.1,QpY hx.1 hx.2⟩ hg
  unfold recR finR
  rw[show QpU x=numS x.fKind.toNat++Qal x.fKind x from rfl,h1]
  simp[hx.1]
 ·unfold recR finR at hb⊢
  simp only at hb⊢
  cases hr2:Je (seqR numR Xb r).1.2 with
  |false=>
   rw[hr2]at hb
   simp only[Qh]at hb
   have:=Qai (e:=2) (by omega) (seqR numR Xb r).2
   rw[if_neg this]at hb
   exact absurd hb this
  | true=>
   rw[hr2]at hb
   simp only[Qg]at hb⊢
   by_cases h0:(seqR numR Xb r).2.fBad=0
   ·rw[if_pos h0]at hb⊢
    obtain⟨e1,e2,e3,e4⟩:=hs.back r hr h0
    obtain⟨e5,e6⟩:=QlG e4
    refine⟨e1,?_,hr2,e6⟩
    unfold QpU
    rw[e5]
    exact e2
   ·rw[if_neg h0]at hb
    exact absurd hb h0
theorem QpZ{K:Nat}(hK:1000000000000≤K){r:Rd}(hr:Good r):Qbq.f K r=some (QgB r):=by
 unfold Qbq.f
 rw[X9 hK hr]
 simp only[Qb,jn]
 have hg:=Yp.good r hr
 have hn:∃N:Nat,(numR r).1=(N:Int)∧N<2147483648:=by
  unfold numR
  split
  ·split
   ·rename_i _ h2
    obtain⟨n,rest,h3,h4,h5⟩:=Qaj hr.1 h2
    exact⟨n,by rw[h5],h3⟩
   ·exact⟨0,rfl,by omega⟩
  ·exact⟨0,rfl,by omega⟩
 obtain⟨N,hN,hN2⟩:=hn
 have key:∀r',Good r'→YU.l K (numR r) K ([],0,r')=some (yK (fun _=>QpW) N 0 r'):=by
  intro r' hr'
  have:=QbS (L:=YU.l K (numR r)) (one:=fun _=>QpW) (N:=N) (by omega) (fun _ r hr=>QhF.good r hr)
   (fun k out r'=>by
    show YU.b K (numR r) (YU.l K (numR r) k) _=_
    unfold YU.b
    rw[Qi (QM (by simp only;omega))])
   (fun k out i r' hi hb=>by
    show YU.b K (numR r) (YU.l K (numR r) k) _=_
    unfold YU.b
    rw[Qj (QS (by simp only;omega)),Xg]
    simp only[Qb]
    rw[Qj (by simp[hb])])
   (fun k out i r' hi hb hg ho=>by
    show YU.b K (numR r) (YU.l K (numR r) k) _=_
    unfold YU.b
    rw[Qj (QS (by simp only;omega)),Xg]
    simp only[Qb]
    rw[Qi (by simp[hb]),X9 hK hg]
    simp only[Qb]
    rw[X9 hK (Yp.good _ hg)]
    simp only[Qb]
    rw[Jk (by simp;omega)]
    simp only[Qb]
    rw[wrap_succ (by omega)]
    rfl)
   N 0 [] r' K (by omega) (by omega) hr' (by simp)
  simpa using this
 unfold QgB mapR seqR capR
 simp only[hN,Int.toNat_natCast]
 by_cases h6:(6:Int)<N
 ·rw[Qj (QS h6),ZB (by omega)]
  simp only[Qb]
  rw[key _ (qi hg)]
  simp[h6]
 ·rw[Qi (QM h6),key _ hg]
  simp[h6]
end Go.Proofs.YtomndohdnfebgaaGreatDoor
namespace Go.Proofs.YtomndohdnfebgaaGreatDoor
open Go Go.Sep
theorem Qp0{α:Type}{one:Nat→Rd→α×Rd}:∀(n i:Nat) (r:Rd),(yK one n i r).1.length≤n:=by
 intro n
 induction n with
 |zero=>intro i r;simp[yK]
 |succ n ih=>
  intro i r
  unfold yK
  split
  ·simp;exact ih _ _
  ·simp
theorem Qp1{α:Type}{one:Nat→Rd→α×Rd}{n i:Nat}{r:Rd}(h:r.fBad≠0):yK one n i r=([],r):=by
 cases n with
 |zero=>rfl
 |succ n=>unfold yK;rw[if_neg h]
theorem QnH(r:Rd):(QgB r).1.length≤6:=by
 unfold QgB mapR seqR capR
 simp only
 split
 ·rw[Qp1 (Qai (by omega) _)];simp
 ·have:=Qp0 (one:=fun _=>QpW) (numR r).1.toNat 0 (numR r).2
  omega
theorem QnI{most:Int}{r:Rd}(h:Good r):isB (Za most r).1∧(Za most r).1.length<1000000000:=by
 unfold Za
 split
 ·split
  ·exact⟨J3,by simp⟩
  ·split
   ·exact⟨J3,by simp⟩
   ·split
    ·exact⟨J3,by simp⟩
    ·refine⟨fun x hx=>h.1 x (List.mem_of_mem_drop (List.mem_of_mem_take hx)),?_⟩
     have:=h.2
     simp;omega
 ·exact⟨J3,by simp⟩
theorem ZE{K:Nat}(hK:1000000000000≤K){x:Rc}{r:Rd}(hx:okD x):
  ((J5.f K x).bind fun q=>bif !q then(QX.f K 2 r).bind fun y=>((QC.f K y).bind fun e=>bif !decide (e=0)then some (zRc,y)else some (x,y))
   else((QC.f K r).bind fun e=>bif !decide (e=0)then some (zRc,r)else some (x,r)))=some (finR x r):=by
 rw[right_eq hK hx]
 simp only[Qb]
 unfold finR
 cases Je x
 ·rw[Qj (by rfl),ZB (by omega)]
  simp only[Qb,Qh]
  rw[Xg]
  simp only[Qb]
  have:=Qai (e:=2) (by omega) r
  rw[Qj (by simp[this]),if_neg this]
 ·rw[Qi (by rfl),Xg]
  simp only[Qb,Qg]
  by_cases h:r.fBad=0
  ·rw[Qi (by simp[h]),if_pos h]
  ·rw[Qj (by simp[h]),if_neg h]
theorem QI{α β:Type}{o:Option α}{x:α}{f:α→Option β}{y:Option β}(h:o=some x)(h2:f x=y):o.bind f=y:=by rw[h];exact h2
theorem je{K:Nat}(hK:1000000000000≤K){r:Rd}(hr:Good r):∃n r',numR r=(n,r')∧Qz.f K r=some (n,r')∧Good r':=⟨_,_,rfl,X9 hK hr,Yp.good r hr⟩
theorem Qd9{K:Nat}{r:Rd}(hr:Good r):∃n r',QaV r=(n,r')∧Yq.f K r=some (n,r')∧Good r':=⟨_,_,rfl,QrC hr,Qak.good r hr⟩
theorem QiX{K:Nat}{r:Rd}(hr:Good r):∃n r',QbR r=(n,r')∧Yh.f K r=some (n,r')∧Good r':=⟨_,_,rfl,QiU hr,jQ.good r hr⟩
theorem QrH{K:Nat}(hK:1000000000000≤K){r:Rd}(hr:Good r):∃n r',Za 60 r=(n,r')∧YB.f K 60 r=some (n,r')∧Good r'∧isB n∧n.length<1000000000:=⟨_,_,rfl,QpR hK hr,(Qgx (by omega)).good r hr,QnI hr⟩
theorem QrI{K:Nat}(hK:1000000000000≤K){r:Rd}(hr:Good r):∃n r',QgB r=(n,r')∧Qbq.f K r=some (n,r')∧Good r'∧n.length≤6:=⟨_,_,rfl,QpZ hK hr,QgC.good r hr,QnH r⟩
theorem Qp2{K:Nat}(hK:1000000000000≤K){r:Rd}(hr:Good r):Qc0.f K r=some (recR r):=by
 have g0:=Yp.good r hr
 obtain⟨k,r0,hp⟩:∃k r0,numR r=(k,r0):=⟨_,_,rfl⟩
 rw[hp]at g0
 replace g0:Good r0:=g0
 have hR:recR r=finR (Xb k r0).1 (Xb k r0).2:=by unfold recR seqR;rw[hp]
 unfold Qc0.f
 rw[X9 hK hr,hp]
 simp only[Qb,jn]
 by_cases h1:k=1
 ·have hb:Xb k r0=mapR begE begR r0:=by unfold Xb;rw[if_pos h1]
  have d1:decide (k=1)=true:=QS h1
  simp only[d1,Qg]
  obtain⟨n1,r1,e1,q1,g1⟩:=je hK g0
  refine QI q1 ?_
  simp only
  obtain⟨n2,r2,e2,q2,g2,l2⟩:=QrI hK g1
  refine QI q2 ?_
  simp only
  obtain⟨n3,r3,e3,q3,g3⟩:=Qd9 (K:=K) g2
  refine QI q3 ?_
  simp only
  cases n3 with
  |true=>
   obtain⟨n4,r4,e4,q4,g4⟩:=QiX (K:=K) g3
   simp only[Qg]
   refine QI q4 ?_
   simp only
   obtain rfl:=h1
   refine(ZE hK ⟨J3,by simp,by simp only;omega⟩).trans ?_
   rw[hR,hb]
   simp only[mapR,begR,seqR,e1,e2,e3,e4,QrG,begE]
   rfl
  |false=>
   obtain⟨n4,r4,e4,q4,g4⟩:=QiX (K:=K) g3
   simp only[Qh]
   refine QI q4 ?_
   simp only
   obtain⟨n5,r5,e5,q5,g5,l5,m5⟩:=QrH hK g4
   refine QI q5 ?_
   simp only
   obtain rfl:=h1
   refine(ZE hK ⟨l5,m5,by simp only;omega⟩).trans ?_
   rw[hR,hb]
   simp only[mapR,begR,seqR,e1,e2,e3,e4,e5,QrG,begE]
   rfl
 simp only[h1,decide_false,Qh]
 by_cases h2:k=2
 ·have hb:Xb k r0=mapR (QeZ k) callR r0:=by unfold Xb;rw[if_neg h1,if_pos (.inl h2)]
  have d2:decide (k=2)=true:=QS h2
  have n3:decide (k=3)=false:=by simp[h2]
  simp only[d2,n3,Qg,Qh]
  obtain⟨n1,r1,e1,q1,g1⟩:=je hK g0
  refine QI q1 ?_
  simp only
  obtain⟨n2,r2,e2,q2,g2⟩:=je hK g1
  refine QI q2 ?_
  simp only
  obtain⟨n3,r3,e3,q3,g3⟩:=je hK g2
  refine QI q3 ?_
  simp only
  obtain⟨n4,r4,e4,q4,g4⟩:=je hK g3
  refine QI q4 ?_
  simp only
  obtain⟨n5,r5,e5,q5,g5⟩:=Qd9 (K:=K) g4
  refine QI q5 ?_
  simp only
  refine(ZE hK ⟨J3,by simp,by simp⟩).trans ?_
  rw[hR,hb]
  simp only[mapR,callR,QeZ,seqR,e1,e2,e3,e4,e5]
 simp only[h2,decide_false,Qh]
 by_cases h4:k=4
 ·have hb:Xb k r0=mapR (QeZ k) callR r0:=by unfold Xb;rw[if_neg h1,if_pos (.inr h4)]
  have d4:decide (k=4)=true:=QS h4
  have n3:decide (k=3)=false:=by simp[h4]
  simp only[d4,n3,Qg,Qh]
  obtain⟨n1,r1,e1,q1,g1⟩:=je hK g0
  refine QI q1 ?_
  simp only
  obtain⟨n2,r2,e2,q2,g2⟩:=je hK g1
  refine QI q2 ?_
  simp only
  obtain⟨n3,r3,e3,q3,g3⟩:=je hK g2
  refine QI q3 ?_
  simp only
  obtain⟨n4,r4,e4,q4,g4⟩:=je hK g3
  refine QI q4 ?_
  simp only
  obtain⟨n5,r5,e5,q5,g5⟩:=Qd9 (K:=K) g4
  refine QI q5 ?_
  simp only
  refine(ZE hK ⟨J3,by simp,by simp⟩).trans ?_
  rw[hR,hb]
  simp only[mapR,callR,QeZ,seqR,e1,e2,e3,e4,e5]
 simp only[h4,decide_false,Qh]
 by_cases h3:k=3
 ·have hb:Xb k r0=mapR ansE ansR r0:=by unfold Xb;rw[if_neg h1,if_neg (by omega),if_pos h3]
  have d3:decide (k=3)=true:=QS h3
  simp only[d3,Qg]
  obtain⟨n1,r1,e1,q1,g1⟩:=je hK g0
  refine QI q1 ?_
  simp only
  obtain⟨n2,r2,e2,q2,g2⟩:=je hK g1
  refine QI q2 ?_
  simp only
  obtain⟨n3,r3,e3,q3,g3⟩:=je hK g2
  refine QI q3 ?_
  simp only
  obtain⟨n4,r4,e4,q4,g4⟩:=je hK g3
  refine QI q4 ?_
  simp only
  obtain⟨n5,r5,e5,q5,g5⟩:=Qd9 (K:=K) g4
  refine QI q5 ?_
  simp only
  obtain⟨n6,r6,e6,q6,g6⟩:=Qd9 (K:=K) g5
  refine QI q6 ?_
  simp only
  obtain⟨n7,r7,e7,q7,g7⟩:=je hK g6
  refine QI q7 ?_
  simp only
  obtain⟨n8,r8,e8,q8,g8⟩:=je hK g7
  refine QI q8 ?_
  simp only
  obtain⟨n9,r9,e9,q9,g9⟩:=QiX (K:=K) g8
  refine QI q9 ?_
  simp only
  obtain rfl:=h3
  refine(ZE hK ⟨J3,by simp,by simp⟩).trans ?_
  rw[hR,hb]
  simp only[mapR,ansR,callR,ansE,QeZ,seqR,e1,e2,e3,e4,e5,e6,e7,e8,e9]
 simp only[h3,decide_false,Qh]
 by_cases h5:k=5
 ·have hb:Xb k r0=mapR cloE cloR r0:=by unfold Xb;rw[if_neg h1,if_neg (by omega),if_neg h3,if_pos h5]
  have d5:decide (k=5)=true:=QS h5
  simp only[d5,Qg]
  obtain⟨n1,r1,e1,q1,g1⟩:=je hK g0
  refine QI q1 ?_
  simp only
  obtain⟨n2,r2,e2,q2,g2⟩:=je hK g1
  refine QI q2 ?_
  simp only
  obtain⟨n3,r3,e3,q3,g3⟩:=je hK g2
  refine QI q3 ?_
  simp only
  obtain rfl:=h5
  refine(ZE hK ⟨J3,by simp,by simp⟩).trans ?_
  rw[hR,hb]
  simp only[mapR,cloR,cloE,seqR,e1,e2,e3]
 simp only[h5,decide_false,Qh]
 by_cases h6:k=6
 ·have hb:Xb k r0=mapR rotE rotR r0:=by unfold Xb;rw[if_neg h1,if_neg (by omega),if_neg h3,if_neg h5,if_pos h6]
  have d6:decide (k=6)=true:=QS h6
  simp only[d6,Qg]
  obtain⟨n1,r1,e1,q1,g1⟩:=je hK g0
  refine QI q1 ?_
  simp only
  obtain⟨n2,r2,e2,q2,g2⟩:=je hK g1
  refine QI q2 ?_
  simp only
  obtain rfl:=h6
  refine(ZE hK ⟨J3,by simp,by simp⟩).trans ?_
  rw[hR,hb]
  simp only[mapR,rotR,rotE,seqR,e1,e2]
 simp only[h6,decide_false,Qh]
 refine QI (ZB (by omega) r0) ?_
 refine(ZE hK ⟨J3,by simp,by simp⟩).trans ?_
 rw[hR]
 simp only[Xb,h1,h2,h3,h4,h5,h6,if_false,or_self]
end Go.Proofs.YtomndohdnfebgaaGreatDoor
namespace Go.Proofs.YtomndohdnfebgaaGreatDoor
open Go Go.Sep
abbrev Bun:=QJ
abbrev It:=QD
abbrev Sg:=QN
abbrev zBun:Bun:=YV
structure Qvn(x:It):Prop where
 d:okD x.fRec
 p:x.fPath.length<1000000000
structure Qvo(x:Bun):Prop where
 sigs:x.fPoint.fSigs.length<1000000000
 len:x.fItems.length<1000000000
 items:∀y∈x.fItems,Qvn y
structure Qvp(x:Bun):Prop where
 root:isB (Q7 x.fPoint.fRoot)
 tags:∀s∈x.fPoint.fSigs,isB (Q7 s.fTag)
 recs:∀y∈x.fItems,okB y.fRec
 path:∀y∈x.fItems,∀h∈y.fPath,isB (Q7 h)
theorem Qea{K:Nat}(a b c:Int):jh.f K a b c=some (inn a b c):=by
 unfold jh.f inn
 cases decide (b≤a)<;>rfl
def QiY(s:Sg):Bool:=inn s.fWit 0 3
theorem Qt4{K:Nat}(s:Sg):yO.f K s=some (!QiY s):=by
 unfold yO.f QiY
 rw[Qea];rfl
theorem QrJ{K:Nat}{l:List Sg}(hK:l.length<K)(hl:l.length<1000000000000):YI.f K l=some (!l.all QiY):=by
 unfold YI.f Jf.f
 have hL:=Qe2 (L:=QE.l K l) (fun(_:Unit) (i:Nat)=>(i:Int)) l (fun _ i x=>some (bif QiY x then .inr ()else .inl (.inl ((i:Nat):Int)))) (fun _=>some (.inr ())) () hK
  (fun k s=>by
   show QE.b K l (QE.l K l k) _=_
   unfold QE.b
   rw[Qi (QM (by simp))])
  (fun k s i x hi hx=>by
   show QE.b K l (QE.l K l k) _=_
   unfold QE.b
   rw[Qj (QS (by omega)),Qcw hx]
   simp only[Qb]
   rw[Qt4]
   simp only[Qb]
   rw[wrap_succ (by omega)]
   cases QiY x<;>rfl)
 have hL:QE.l K l K 0=_:=hL
 obtain⟨r1,r2⟩:=QhV (good:=QiY) (v:=fun i=>((i:Nat):Int)) (l:=l) (s:=()) (i:=0) (f:=fun _ i x=>some (bif QiY x then .inr ()else .inl (.inl ((i:Nat):Int)))) (fun s i x _=>rfl)
 cases hg:l.all QiY with
 |true=>rw[hL,r1 hg];rfl
 |false=>
  obtain⟨j,_,_,hj⟩:=r2 hg
  rw[hL,hj]
  simp only[Qb,Bool.not_false]
  rw[QS (by omega)]
def Qeb(p:Qr):Bool:=inn p.fSize 0 400&&(decide ((p.fSigs.length:Int)≤4)&&p.fSigs.all QiY)
theorem QrK{K:Nat}{p:Qr}(hK:p.fSigs.length<K)(hl:p.fSigs.length<1000000000000):Zt.f K p=some (Qeb p):=by
 unfold Zt.f Qeb
 rw[Qea]
 simp only[Qb]
 cases inn p.fSize 0 400
 ·rfl
 simp only[Qg,Bool.true_and]
 cases decide ((p.fSigs.length:Int)≤4)
 ·rfl
 simp only[Qg,Bool.true_and]
 rw[QrJ hK hl]
 simp
def Qki(whole:Bool)(size last:Int)(i:Nat)(x:It):Bool:=
 Je x.fRec&&(inn x.fAt (last+1) (size-1)&&(decide ((x.fPath.length:Int)≤20)&&(!whole||(decide (x.fAt=(i:Int))&&decide (x.fPath.length=0)))))
def Zc(whole:Bool)(size:Int):Int→Nat→List It→Bool
 |_,_, []=>true
 |last,i,x::l=>Qki whole size last i x&&Zc whole size x.fAt (i+1) l
def Qdw(x:Bun):Bool:=
 Qeb x.fPoint&&(decide ((x.fItems.length:Int)≤x.fPoint.fSize)&&((!x.fWhole||decide ((x.fItems.length:Int)=x.fPoint.fSize))&&Zc x.fWhole x.fPoint.fSize (-1) 0 x.fItems))
theorem Qp3{whole:Bool}{size:Int}(hs:0≤size∧size≤400):∀{l:List It} {last:Int} {i:Nat} {f:Int→Nat→It→Option (Sum (Sum Bool Unit) Int)},-1≤last∧last<400→
  (∀last i x,x∈l→ -1≤last∧last<400→f last i x=some (bif Qki whole size last i x then .inr x.fAt else .inl (.inl false)))→
  runL f (fun _=>some (.inr ())) last i l=some (bif Zc whole size last i l then .inr ()else .inl false):=by
 intro l
 induction l with
 |nil=>intro last i f _ _;rfl
 | cons x l ih=>
  intro last i f hl hf
  unfold runL Zc
  rw[hf last i x (by simp) hl]
  cases hg:Qki whole size last i x with
  |false=>rfl
  | true=>
   have h2:inn x.fAt (last+1) (size-1)=true:=by
    unfold Qki at hg
    simp only[Qd]at hg
    exact hg.2.1
   have h2:=qj.1 h2
   exact ih (by omega) (fun last i y hy=>hf last i y (by simp[hy]))
theorem Qp4{K:Nat}(hK:1000000000000≤K){x:Bun}(hx:Qvo x):Jw.f K x=some (Qdw x):=by
 unfold Jw.f Qdw
 have hs:=hx.sigs
 have hl:=hx.len
 rw[QrK (by omega) (by omega)]
 simp only[jn,Qb]
 cases hp:Qeb x.fPoint
 ·rfl
 have hsz:0≤x.fPoint.fSize∧x.fPoint.fSize≤400:=by
  unfold Qeb at hp
  simp only[Qd]at hp
  exact qj.1 hp.1
 rw[Qi (by rfl)]
 simp only[Bool.true_and]
 by_cases h1:x.fPoint.fSize<(x.fItems.length:Int)
 ·rw[Qj (QS h1),QM (show¬(x.fItems.length:Int)≤x.fPoint.fSize by omega)];rfl
 rw[Qi (QM h1),QS (show(x.fItems.length:Int)≤x.fPoint.fSize by omega)]
 simp only[Bool.true_and]
 have hL:YA.l K x K (-1,0)=some (bif Zc x.fWhole x.fPoint.fSize (-1) 0 x.fItems then .inr ()else .inl false):=by
  have hL:=Qe2 (L:=YA.l K x) (fun(s:Int) (i:Nat)=>(s,(i:Int))) x.fItems
   (fun last i y=>some (bif Je y.fRec&&(inn y.fAt (IntKind.wrap .i64 (last+1)) (x.fPoint.fSize-1)&&(decide ((y.fPath.length:Int)≤20)&&(!x.fWhole||(decide (y.fAt=(i:Int))&&decide (y.fPath.length=0)))))then .inr y.fAt else .inl (.inl false)))
   (fun _=>some (.inr ())) (-1) (k:=K) (by omega)
   (fun k s=>by
    show YA.b K x (YA.l K x k) _=_
    unfold YA.b
    rw[Qi (QM (by simp))])
   (fun k s i y hi hy=>by
    have hym:=List.mem_of_getElem? hy
    show YA.b K x (YA.l K x k) _=_
    unfold YA.b
    rw[Qj (QS (by simp;omega))]
    simp only
    rw[Qcw hy]
    simp only[jn,Qb]
    rw[right_eq hK (hx.items y hym).d,Qea]
    simp only[Qb]
    rw[wrap64 (n:=x.fPoint.fSize-1) (by omega) (by omega),wrap_succ (by omega)]
    cases Je y.fRec
    ·rfl
    cases inn y.fAt (IntKind.wrap .i64 (s+1)) (x.fPoint.fSize-1)
    ·rfl
    by_cases h20:(20:Int)<(y.fPath.length:Int)
    ·rw[QS h20,QM (show¬(y.fPath.length:Int)≤20 by omega)];rfl
    rw[QM h20,QS (show(y.fPath.length:Int)≤20 by omega)]
    cases x.fWhole
    ·rfl
    cases decide (y.fAt=(i:Int))
    ·rfl
    by_cases h0:y.fPath.length=0
    ·rw[QS h0,QM (show¬(0:Int)<(y.fPath.length:Int) by omega)];rfl
    ·rw[QM h0,QS (show(0:Int)<(y.fPath.length:Int) by omega)];rfl)
  have hL:YA.l K x K (-1,0)=_:=hL
  rw[hL]
  refine Qp3 hsz (by omega) (fun last i y hy hl=> ?_)
  rw[wrap64 (by omega) (by omega)]
  rfl
 have fin:(((YA.l K x K (-1,0)).bind fun s1906=>(match s1906 with| .inl u1907=>some u1907| .inr u1908=>(fun(_:Unit)=>(some true)) u1908)):Option Bool)=some (Zc x.fWhole x.fPoint.fSize (-1) 0 x.fItems):=by
  rw[hL]
  cases Zc x.fWhole x.fPoint.fSize (-1) 0 x.fItems<;>rfl
 generalize Zc x.fWhole x.fPoint.fSize (-1) 0 x.fItems=v at fin⊢
 cases x.fWhole with
 |false=>exact fin
 |true=>
  simp only[Qg,Bool.not_true,Bool.false_or]
  cases decide ((x.fItems.length:Int)=x.fPoint.fSize)
  ·rfl
  ·exact fin
end Go.Proofs.YtomndohdnfebgaaGreatDoor
