/-
 Plain: bundles: which are too great, right, the same.
-/
import Derived.Test.YtomndohdnfebgaaGreatDoorPureM
namespace Go.Proofs.YtomndohdnfebgaaGreatDoor
open Go Go.Sep
def QqF:Rd→Sp×Rd:=mapR (fun t=>⟨t.1,t.2⟩) (seqR numR (fun _=>numR))
theorem Qh6:Ja QqF stepW (fun s=>inN s.fPart∧inN s.fKind):=by
 have h:=(Yv.seq (fun _=>Yv)).map (e:=fun(t:Int×Int)=>(⟨t.1,t.2⟩:Sp)) (fun s=>(s.fPart,s.fKind)) (fun _=>rfl)
 exact h.conv (fun _ _=>rfl) (fun s=>⟨fun h=>⟨h,rfl⟩,fun h=>h.1⟩)
def Qg1:Rd→List Sp×Rd:=mapR Prod.snd (seqR (capR 6 2) (fun n=>y8 (fun _=>QqF) n.toNat 0))
theorem Qg2:Ja Qg1 QcM (fun l=>(l.length:Int)≤6∧∀s∈l,inN s.fPart∧inN s.fKind):=
 (Ja.counted (most:=6) (code:=2) (by omega) (by omega) (fun _=>Qh6)).conv (fun _ _=>rfl) (fun l=>⟨fun h=>⟨h.1,fun j x hx=>h.2 x (List.mem_of_getElem? hx)⟩,fun h=>⟨h.1,fun s hs=>by
  obtain⟨j,hj⟩:=List.getElem?_of_mem hs
  exact h.2 j s hj⟩⟩)
abbrev LoadT:=H32×H32×List Int
def zH:H32:=Vector.replicate 32 0
def Qsx:Bool→Rd→LoadT×Rd
 |true=>mapR (fun h=>(h,zH, [])) Qca
 |false=>mapR (fun t=>(zH,t.1,t.2)) (seqR Qca (fun _=>Zm 60))
theorem Qon:∀g,Ja (Qsx g) (fun t=>bif g then Q9 t.1 else Q9 t.2.1++(numS t.2.2.length++t.2.2)) (fun t=>bif g then isB (Q9 t.1)∧t.2.1=zH∧t.2.2= []else isB (Q9 t.2.1)∧(t.2.2.length:Int)≤60∧isB t.2.2∧t.1=zH):=by
 intro g
 cases g with
 | true=>
  exact(yu.map (e:=fun h=>((h,zH, []):LoadT)) (fun t=>t.1) (fun _=>rfl)).conv (fun _ _=>rfl) (fun t=>by
   obtain⟨a,b,c⟩:=t
   constructor
   ·rintro⟨h1,h2,h3⟩;simp only at h2 h3;exact⟨h1,by rw[h2,h3]⟩
   ·rintro⟨h1,h2⟩;simp only[Qe]at h2;exact⟨h1,h2.2.1.symm,h2.2.2.symm⟩)
 | false=>
  have h:=(yu.seq (fun _=>QgU (most:=60) (by omega))).map (e:=fun(t:H32×List Int)=>((zH,t.1,t.2):LoadT)) (fun t=>t.2) (fun _=>rfl)
  exact h.conv (fun _ _=>rfl) (fun t=>by
   obtain⟨a,b,c⟩:=t
   constructor
   ·rintro⟨h1,h2,h3,h4⟩;simp only at h4;exact⟨⟨h1,h2,h3⟩,by rw[h4]⟩
   ·rintro⟨⟨h1,h2,h3⟩,h4⟩;simp only[Qe]at h4;exact⟨h1,h2,h3,h4.1.symm⟩)
abbrev BegT:=Int×List Sp×Bool×LoadT
def begR:Rd→BegT×Rd:=seqR numR (fun _=>seqR Qg1 (fun _=>seqR Qba Qsx))
def begE(t:BegT):Rc:={zRc with fKind:=1,fSaga:=t.1,fSteps:=t.2.1,fGone:=t.2.2.1,fCom:=t.2.2.2.1,fSalt:=t.2.2.2.2.1,fData:=t.2.2.2.2.2}
def callR:Rd→Qu4×Rd:=seqR numR (fun _=>seqR numR (fun _=>seqR numR (fun _=>seqR numR (fun _=>Qba))))
def Qfo(k:Int)(t:Qu4):Rc:={zRc with fKind:=k,fSaga:=t.1,fSeq:=t.2.1,fStep:=t.2.2.1,fTry:=t.2.2.2.1,fBack:=t.2.2.2.2}
abbrev AnsT:=Qu4×Bool×Int×Int×H32
def ansR:Rd→AnsT×Rd:=seqR callR (fun _=>seqR Qba (fun _=>seqR numR (fun _=>seqR numR (fun _=>Qca))))
def ansE(t:AnsT):Rc:={Qfo 3 t.1 with fGood:=t.2.1,fPart:=t.2.2.1,fEpoch:=t.2.2.2.1,fTag:=t.2.2.2.2}
def cloR:Rd→(Int×Int×Int)×Rd:=seqR numR (fun _=>seqR numR (fun _=>numR))
def cloE(t:Int×Int×Int):Rc:={zRc with fKind:=5,fSaga:=t.1,fSeq:=t.2.1,fEnd:=t.2.2}
def rotR:Rd→(Int×Int)×Rd:=seqR numR (fun _=>numR)
def rotE(t:Int×Int):Rc:={zRc with fKind:=6,fPart:=t.1,fEpoch:=t.2}
def Xq(k:Int)(r:Rd):Rc×Rd:=
 if k=1 then mapR begE begR r
 else if k=2∨k=4 then mapR (Qfo k) callR r
 else if k=3 then mapR ansE ansR r
 else if k=5 then mapR cloE cloR r
 else if k=6 then mapR rotE rotR r
 else({zRc with fKind:=k},QgT 2 r)
def Qcd(k:Int)(x:Rc):Prop:=
 if k=1 then(inN x.fSaga∧((x.fSteps.length:Int)≤6∧∀s∈x.fSteps,inN s.fPart∧inN s.fKind)∧
   (bif x.fGone then isB (Q9 x.fCom)∧x.fSalt=zH∧x.fData= []else isB (Q9 x.fSalt)∧(x.fData.length:Int)≤60∧isB x.fData∧x.fCom=zH))∧
   begE (x.fSaga,x.fSteps,x.fGone,x.fCom,x.fSalt,x.fData)=x
 else if k=2∨k=4 then(inN x.fSaga∧inN x.fSeq∧inN x.fStep∧inN x.fTry)∧Qfo k (x.fSaga,x.fSeq,x.fStep,x.fTry,x.fBack)=x
 else if k=3 then(inN x.fSaga∧inN x.fSeq∧inN x.fStep∧inN x.fTry∧inN x.fPart∧inN x.fEpoch∧isB (Q9 x.fTag))∧ansE ((x.fSaga,x.fSeq,x.fStep,x.fTry,x.fBack),x.fGood,x.fPart,x.fEpoch,x.fTag)=x
 else if k=5 then(inN x.fSaga∧inN x.fSeq∧inN x.fEnd)∧cloE (x.fSaga,x.fSeq,x.fEnd)=x
 else if k=6 then(inN x.fPart∧inN x.fEpoch)∧rotE (x.fPart,x.fEpoch)=x
 else False
theorem QqG:Ja begR (fun t=>numW t.1++(QcM t.2.1++([Zk t.2.2.1]++(bif t.2.2.1 then Q9 t.2.2.2.1 else Q9 t.2.2.2.2.1++(numS t.2.2.2.2.2.length++t.2.2.2.2.2)))))
  (fun t=>inN t.1∧((t.2.1.length:Int)≤6∧∀s∈t.2.1,inN s.fPart∧inN s.fKind)∧True∧(bif t.2.2.1 then isB (Q9 t.2.2.2.1)∧t.2.2.2.2.1=zH∧t.2.2.2.2.2= []else isB (Q9 t.2.2.2.2.1)∧(t.2.2.2.2.2.length:Int)≤60∧isB t.2.2.2.2.2∧t.2.2.2.1=zH)):=
 Yv.seq (fun _=>Qg2.seq (fun _=>Qaw.seq Qon))
theorem Qh7:Ja callR (fun t=>numW t.1++(numW t.2.1++(numW t.2.2.1++(numW t.2.2.2.1++ [Zk t.2.2.2.2])))) (fun t=>inN t.1∧inN t.2.1∧inN t.2.2.1∧inN t.2.2.2.1∧True):=
 Yv.seq (fun _=>Yv.seq (fun _=>Yv.seq (fun _=>Yv.seq (fun _=>Qaw))))
theorem Qoo(k:Int):Ja (Xq k) (jJ k) (Qcd k):=by
 unfold Xq
 by_cases h1:k=1
 ·subst h1
  exact(QqG.map (e:=begE) (fun x=>(x.fSaga,x.fSteps,x.fGone,x.fCom,x.fSalt,x.fData)) (fun _=>rfl)).conv (fun _ _=>rfl) (fun x=>by simp[Qcd])
 simp only[h1,if_false]
 by_cases h2:k=2∨k=4
 ·simp only[h2,if_true]
  refine(Qh7.map (e:=Qfo k) (fun x=>(x.fSaga,x.fSeq,x.fStep,x.fTry,x.fBack)) (fun _=>rfl)).conv (fun x _=>by simp[jJ,h1,h2,QgX]) (fun x=> ?_)
  unfold Qcd
  rw[if_neg h1,if_pos h2]
  simp
 simp only[h2,if_false]
 by_cases h3:k=3
 ·subst h3
  refine((Qh7.seq (fun _=>Qaw.seq (fun _=>Yv.seq (fun _=>Yv.seq (fun _=>yu))))).map (e:=ansE) (fun x=>((x.fSaga,x.fSeq,x.fStep,x.fTry,x.fBack),x.fGood,x.fPart,x.fEpoch,x.fTag)) (fun _=>rfl)).conv (fun x _=> ?_) (fun x=> ?_)
  ·simp[jJ,QgX,numW]
  ·simp[Qcd,and_assoc]
 simp only[h3,if_false]
 by_cases h5:k=5
 ·subst h5
  refine((Yv.seq (fun _=>Yv.seq (fun _=>Yv))).map (e:=cloE) (fun x=>(x.fSaga,x.fSeq,x.fEnd)) (fun _=>rfl)).conv (fun x _=> ?_) (fun x=> ?_)
  ·simp[jJ,numW]
  ·simp[Qcd]
 simp only[h5,if_false]
 by_cases h6:k=6
 ·subst h6
  refine((Yv.seq (fun _=>Yv)).map (e:=rotE) (fun x=>(x.fPart,x.fEpoch)) (fun _=>rfl)).conv (fun x _=> ?_) (fun x=> ?_)
  ·simp[jJ,numW]
  ·simp[Qcd]
 simp only[h6,if_false]
 refine⟨fun r hr=>qB hr,fun a rest ha _=> ?_,fun r _ hb=>absurd hb (Qau (by omega) _)⟩
 simp[Qcd,h1,h2,h3,h5,h6]at ha
def finR(x:Rc)(r:Rd):Rc×Rd:=
 let r2:=bif YQ x then r else QgT 2 r
 if r2.fBad=0 then(x,r2)else(zRc,r2)
def recR(r:Rd):Rc×Rd:=finR (seqR numR Xq r).1.2 (seqR numR Xq r).2
structure okB(x:Rc):Prop where
 data:isB x.fData
 tag:isB (Q9 x.fTag)
 salt:isB (Q9 x.fSalt)
 com:isB (Q9 x.fCom)
theorem ZQ:isB (Q9 zH):=by
 unfold isB
 decide
theorem QqH{x:Rc}(h:YQ x=true)(hb:okB x):Qcd x.fKind x:=by
 have hd:=Qcc h
 have hk:=hd.kept
 unfold Qfn at hk
 unfold Qcd
 rcases hd.kind with k|k|k|k|k|k
 ·obtain⟨b1,b2,b3⟩:=hd.beg k
  have b1:=qC.1 b1
  rw[if_pos k]at hk⊢
  refine⟨⟨hd.saga,⟨b1.2,fun s hs=>QqD (List.all_eq_true.1 b2 s hs)⟩,?_⟩,?_⟩
  ·cases hg:x.fGone
   ·rw[hg]at hk
    exact⟨hb.salt,b3,hb.data,congrArg (fun y:Rc=>y.fCom) hk⟩
   ·rw[hg]at hk
    exact⟨hb.com,congrArg (fun y:Rc=>y.fSalt) hk,congrArg (fun y:Rc=>y.fData) hk⟩
  ·cases hg:x.fGone
   ·rw[hg]at hk
    simp only[Qh]at hk
    rw[hk]
    simp[begE,k]
   ·rw[hg]at hk
    simp only[Qg]at hk
    rw[hk]
    simp[begE,k]
 ·have h4:=hd.call (.inl k)
  rw[if_neg (by omega),if_neg (by omega),if_pos (.inl k)]at hk
  rw[if_neg (by omega),if_pos (.inl k)]
  exact⟨⟨hd.saga,h4.1,h4.2.1,h4.2.2⟩,by rw[hk];simp[Qfo,k]⟩
 ·have h4:=hd.call (.inr (.inr k))
  rw[if_neg (by omega),if_pos k]at hk
  rw[if_neg (by omega),if_neg (by omega),if_pos k]
  exact⟨⟨hd.saga,h4.1,h4.2.1,h4.2.2,hd.part,hd.epoch,hb.tag⟩,by rw[hk];simp[ansE,Qfo,k]⟩
 ·have h4:=hd.call (.inr (.inl k))
  rw[if_neg (by omega),if_neg (by omega),if_pos (.inr k)]at hk
  rw[if_neg (by omega),if_pos (.inr k)]
  exact⟨⟨hd.saga,h4.1,h4.2.1,h4.2.2⟩,by rw[hk];simp[Qfo,k]⟩
 ·have h4:=hd.clo k
  rw[if_neg (by omega),if_neg (by omega),if_neg (by omega),if_pos k]at hk
  rw[if_neg (by omega),if_neg (by omega),if_neg (by omega),if_pos k]
  exact⟨⟨hd.saga,h4.1,h4.2⟩,by rw[hk];simp[cloE,k]⟩
 ·rw[if_neg (by omega),if_neg (by omega),if_neg (by omega),if_neg (by omega),if_pos k]at hk
  rw[if_neg (by omega),if_neg (by omega),if_neg (by omega),if_neg (by omega),if_pos k]
  exact⟨⟨hd.part,hd.epoch⟩,by rw[hk];simp[rotE,k]⟩
theorem Qml{k:Int}{x:Rc}(h:Qcd k x):x.fKind=k∧okB x:=by
 unfold Qcd at h
 by_cases h1:k=1
 ·rw[if_pos h1]at h
  obtain⟨⟨_,_,h2⟩,h3⟩:=h
  refine⟨by rw[←h3];exact h1.symm,?_⟩
  have ht:isB (Q9 x.fTag):=by rw[←h3];exact ZQ
  cases hg:x.fGone
  ·rw[hg]at h2;exact⟨h2.2.2.1,ht,h2.1,by rw[h2.2.2.2];exact ZQ⟩
  ·rw[hg]at h2;exact⟨by rw[h2.2.2];exact JA,ht,by rw[h2.2.1];exact ZQ,h2.1⟩
 rw[if_neg h1]at h
 by_cases h2:k=2∨k=4
 ·rw[if_pos h2]at h
  obtain⟨_,h3⟩:=h
  rw[←h3]
  exact⟨rfl,JA,ZQ,ZQ,ZQ⟩
 rw[if_neg h2]at h
 by_cases h3:k=3
 ·rw[if_pos h3]at h
  obtain⟨⟨_,_,_,_,_,_,h4⟩,h3'⟩:=h
  exact⟨by rw[←h3'];exact h3.symm,by rw[←h3'];exact JA,h4,by rw[←h3'];exact ZQ,by rw[←h3'];exact ZQ⟩
 rw[if_neg h3]at h
 by_cases h5:k=5
 ·rw[if_pos h5]at h
  rw[←h.2]
  exact⟨h5.symm,JA,ZQ,ZQ,ZQ⟩
 rw[if_neg h5]at h
 by_cases h6:k=6
 ·rw[if_pos h6]at h
  rw[←h.2]
  exact⟨h6.symm,JA,ZQ,ZQ,ZQ⟩
 rw[if_neg h6]at h
 exact h.elim
theorem Qg3:Ja recR QgY (fun x=>YQ x=true∧okB x):=by
 have hs:=Yv.seq Qoo
 refine⟨fun r hr=> ?_,fun x rest hx hg=> ?_,fun r hr hb=> ?_⟩
 ·have h1:=hs.good r hr
  unfold recR finR
  simp only
  have h2:Good (bif YQ (seqR numR Xq r).1.2 then(seqR numR Xq r).2 else QgT 2 (seqR numR Xq r).2):=by
   cases YQ (seqR numR Xq r).1.2
   ·exact qB h1
   ·exact h1
  split<;>exact h2
 ·have h1:=hs.ok (x.fKind,x) rest ⟨Qg0 hx.1,QqH hx.1 hx.2⟩ hg
  unfold recR finR
  rw[show QgY x=numS x.fKind.toNat++jJ x.fKind x from rfl,h1]
  simp[hx.1]
 ·unfold recR finR at hb⊢
  simp only at hb⊢
  cases hr2:YQ (seqR numR Xq r).1.2 with
  |false=>
   rw[hr2]at hb
   simp only[Qh]at hb
   have:=Qau (e:=2) (by omega) (seqR numR Xq r).2
   rw[if_neg this]at hb
   exact absurd hb this
  | true=>
   rw[hr2]at hb
   simp only[Qg]at hb⊢
   by_cases h0:(seqR numR Xq r).2.fBad=0
   ·rw[if_pos h0]at hb⊢
    obtain⟨e1,e2,e3,e4⟩:=hs.back r hr h0
    obtain⟨e5,e6⟩:=Qml e4
    refine⟨e1,?_,hr2,e6⟩
    unfold QgY
    rw[e5]
    exact e2
   ·rw[if_neg h0]at hb
    exact absurd hb h0
theorem QqI{K:Nat}(hK:1000000000000≤K){r:Rd}(hr:Good r):QbI.f K r=some (Qg1 r):=by
 unfold QbI.f
 rw[Zl hK hr]
 simp only[Qb,jn]
 have hg:=Yv.good r hr
 have hn:∃N:Nat,(numR r).1=(N:Int)∧N<2147483648:=by
  unfold numR
  split
  ·split
   ·rename_i _ h2
    obtain⟨n,rest,h3,h4,h5⟩:=Qav hr.1 h2
    exact⟨n,by rw[h5],h3⟩
   ·exact⟨0,rfl,by omega⟩
  ·exact⟨0,rfl,by omega⟩
 obtain⟨N,hN,hN2⟩:=hn
 have key:∀r',Good r'→Y0.l K (numR r) K ([],0,r')=some (y8 (fun _=>QqF) N 0 r'):=by
  intro r' hr'
  have:=Qcb (L:=Y0.l K (numR r)) (one:=fun _=>QqF) (N:=N) (by omega) (fun _ r hr=>Qh6.good r hr)
   (fun k out r'=>by
    show Y0.b K (numR r) (Y0.l K (numR r) k) _=_
    unfold Y0.b
    rw[Qi (QJ (by simp only;omega))])
   (fun k out i r' hi hb=>by
    show Y0.b K (numR r) (Y0.l K (numR r) k) _=_
    unfold Y0.b
    rw[Qj (QO (by simp only;omega)),Xu]
    simp only[Qb]
    rw[Qj (by simp[hb])])
   (fun k out i r' hi hb hg ho=>by
    show Y0.b K (numR r) (Y0.l K (numR r) k) _=_
    unfold Y0.b
    rw[Qj (QO (by simp only;omega)),Xu]
    simp only[Qb]
    rw[Qi (by simp[hb]),Zl hK hg]
    simp only[Qb]
    rw[Zl hK (Yv.good _ hg)]
    simp only[Qb]
    rw[YV (by simp;omega)]
    simp only[Qb]
    rw[wrap_succ (by omega)]
    rfl)
   N 0 [] r' K (by omega) (by omega) hr' (by simp)
  simpa using this
 unfold Qg1 mapR seqR capR
 simp only[hN,Int.toNat_natCast]
 by_cases h6:(6:Int)<N
 ·rw[Qj (QO h6),ZO (by omega)]
  simp only[Qb]
  rw[key _ (qB hg)]
  simp[h6]
 ·rw[Qi (QJ h6),key _ hg]
  simp[h6]
end Go.Proofs.YtomndohdnfebgaaGreatDoor
namespace Go.Proofs.YtomndohdnfebgaaGreatDoor
open Go Go.Sep
theorem QqJ{α:Type}{one:Nat→Rd→α×Rd}:∀(n i:Nat) (r:Rd),(y8 one n i r).1.length≤n:=by
 intro n
 induction n with
 |zero=>intro i r;simp[y8]
 |succ n ih=>
  intro i r
  unfold y8
  split
  ·simp;exact ih _ _
  ·simp
theorem QqK{α:Type}{one:Nat→Rd→α×Rd}{n i:Nat}{r:Rd}(h:r.fBad≠0):y8 one n i r=([],r):=by
 cases n with
 |zero=>rfl
 |succ n=>unfold y8;rw[if_neg h]
theorem Qop(r:Rd):(Qg1 r).1.length≤6:=by
 unfold Qg1 mapR seqR capR
 simp only
 split
 ·rw[QqK (Qau (by omega) _)];simp
 ·have:=QqJ (one:=fun _=>QqF) (numR r).1.toNat 0 (numR r).2
  omega
theorem Qoq{most:Int}{r:Rd}(h:Good r):isB (Zm most r).1∧(Zm most r).1.length<1000000000:=by
 unfold Zm
 split
 ·split
  ·exact⟨JA,by simp⟩
  ·split
   ·exact⟨JA,by simp⟩
   ·split
    ·exact⟨JA,by simp⟩
    ·refine⟨fun x hx=>h.1 x (List.mem_of_mem_drop (List.mem_of_mem_take hx)),?_⟩
     have:=h.2
     simp;omega
 ·exact⟨JA,by simp⟩
theorem ZR{K:Nat}(hK:1000000000000≤K){x:Rc}{r:Rd}(hx:okD x):
  ((qh.f K x).bind fun q=>bif !q then(Q3.f K 2 r).bind fun y=>((QD.f K y).bind fun e=>bif !decide (e=0)then some (zRc,y)else some (x,y))
   else((QD.f K r).bind fun e=>bif !decide (e=0)then some (zRc,r)else some (x,r)))=some (finR x r):=by
 rw[right_eq hK hx]
 simp only[Qb]
 unfold finR
 cases YQ x
 ·rw[Qj (by rfl),ZO (by omega)]
  simp only[Qb,Qh]
  rw[Xu]
  simp only[Qb]
  have:=Qau (e:=2) (by omega) r
  rw[Qj (by simp[this]),if_neg this]
 ·rw[Qi (by rfl),Xu]
  simp only[Qb,Qg]
  by_cases h:r.fBad=0
  ·rw[Qi (by simp[h]),if_pos h]
  ·rw[Qj (by simp[h]),if_neg h]
theorem QK{α β:Type}{o:Option α}{x:α}{f:α→Option β}{y:Option β}(h:o=some x)(h2:f x=y):o.bind f=y:=by rw[h];exact h2
theorem jq{K:Nat}(hK:1000000000000≤K){r:Rd}(hr:Good r):∃n r',numR r=(n,r')∧QB.f K r=some (n,r')∧Good r':=⟨_,_,rfl,Zl hK hr,Yv.good r hr⟩
theorem Qex{K:Nat}{r:Rd}(hr:Good r):∃n r',Qba r=(n,r')∧Yw.f K r=some (n,r')∧Good r':=⟨_,_,rfl,Qsu hr,Qaw.good r hr⟩
theorem Qjq{K:Nat}{r:Rd}(hr:Good r):∃n r',Qca r=(n,r')∧Yk.f K r=some (n,r')∧Good r':=⟨_,_,rfl,Qjp hr,yu.good r hr⟩
theorem Qsy{K:Nat}(hK:1000000000000≤K){r:Rd}(hr:Good r):∃n r',Zm 60 r=(n,r')∧YF.f K 60 r=some (n,r')∧Good r'∧isB n∧n.length<1000000000:=⟨_,_,rfl,Qqz hK hr,(QgU (by omega)).good r hr,Qoq hr⟩
theorem Qsz{K:Nat}(hK:1000000000000≤K){r:Rd}(hr:Good r):∃n r',Qg1 r=(n,r')∧QbI.f K r=some (n,r')∧Good r'∧n.length≤6:=⟨_,_,rfl,QqI hK hr,Qg2.good r hr,Qop r⟩
theorem QqL{K:Nat}(hK:1000000000000≤K){r:Rd}(hr:Good r):Qdl.f K r=some (recR r):=by
 have g0:=Yv.good r hr
 obtain⟨k,r0,hp⟩:∃k r0,numR r=(k,r0):=⟨_,_,rfl⟩
 rw[hp]at g0
 replace g0:Good r0:=g0
 have hR:recR r=finR (Xq k r0).1 (Xq k r0).2:=by unfold recR seqR;rw[hp]
 unfold Qdl.f
 rw[Zl hK hr,hp]
 simp only[Qb,jn]
 by_cases h1:k=1
 ·have hb:Xq k r0=mapR begE begR r0:=by unfold Xq;rw[if_pos h1]
  have d1:decide (k=1)=true:=QO h1
  simp only[d1,Qg]
  obtain⟨n1,r1,e1,q1,g1⟩:=jq hK g0
  refine QK q1 ?_
  simp only
  obtain⟨n2,r2,e2,q2,g2,l2⟩:=Qsz hK g1
  refine QK q2 ?_
  simp only
  obtain⟨n3,r3,e3,q3,g3⟩:=Qex (K:=K) g2
  refine QK q3 ?_
  simp only
  cases n3 with
  |true=>
   obtain⟨n4,r4,e4,q4,g4⟩:=Qjq (K:=K) g3
   simp only[Qg]
   refine QK q4 ?_
   simp only
   obtain rfl:=h1
   refine(ZR hK ⟨JA,by simp,by simp only;omega⟩).trans ?_
   rw[hR,hb]
   simp only[mapR,begR,seqR,e1,e2,e3,e4,Qsx,begE]
   rfl
  |false=>
   obtain⟨n4,r4,e4,q4,g4⟩:=Qjq (K:=K) g3
   simp only[Qh]
   refine QK q4 ?_
   simp only
   obtain⟨n5,r5,e5,q5,g5,l5,m5⟩:=Qsy hK g4
   refine QK q5 ?_
   simp only
   obtain rfl:=h1
   refine(ZR hK ⟨l5,m5,by simp only;omega⟩).trans ?_
   rw[hR,hb]
   simp only[mapR,begR,seqR,e1,e2,e3,e4,e5,Qsx,begE]
   rfl
 simp only[h1,decide_false,Qh]
 by_cases h2:k=2
 ·have hb:Xq k r0=mapR (Qfo k) callR r0:=by unfold Xq;rw[if_neg h1,if_pos (.inl h2)]
  have d2:decide (k=2)=true:=QO h2
  have n3:decide (k=3)=false:=by simp[h2]
  simp only[d2,n3,Qg,Qh]
  obtain⟨n1,r1,e1,q1,g1⟩:=jq hK g0
  refine QK q1 ?_
  simp only
  obtain⟨n2,r2,e2,q2,g2⟩:=jq hK g1
  refine QK q2 ?_
  simp only
  obtain⟨n3,r3,e3,q3,g3⟩:=jq hK g2
  refine QK q3 ?_
  simp only
  obtain⟨n4,r4,e4,q4,g4⟩:=jq hK g3
  refine QK q4 ?_
  simp only
  obtain⟨n5,r5,e5,q5,g5⟩:=Qex (K:=K) g4
  refine QK q5 ?_
  simp only
  refine(ZR hK ⟨JA,by simp,by simp⟩).trans ?_
  rw[hR,hb]
  simp only[mapR,callR,Qfo,seqR,e1,e2,e3,e4,e5]
 simp only[h2,decide_false,Qh]
 by_cases h4:k=4
 ·have hb:Xq k r0=mapR (Qfo k) callR r0:=by unfold Xq;rw[if_neg h1,if_pos (.inr h4)]
  have d4:decide (k=4)=true:=QO h4
  have n3:decide (k=3)=false:=by simp[h4]
  simp only[d4,n3,Qg,Qh]
  obtain⟨n1,r1,e1,q1,g1⟩:=jq hK g0
  refine QK q1 ?_
  simp only
  obtain⟨n2,r2,e2,q2,g2⟩:=jq hK g1
  refine QK q2 ?_
  simp only
  obtain⟨n3,r3,e3,q3,g3⟩:=jq hK g2
  refine QK q3 ?_
  simp only
  obtain⟨n4,r4,e4,q4,g4⟩:=jq hK g3
  refine QK q4 ?_
  simp only
  obtain⟨n5,r5,e5,q5,g5⟩:=Qex (K:=K) g4
  refine QK q5 ?_
  simp only
  refine(ZR hK ⟨JA,by simp,by simp⟩).trans ?_
  rw[hR,hb]
  simp only[mapR,callR,Qfo,seqR,e1,e2,e3,e4,e5]
 simp only[h4,decide_false,Qh]
 by_cases h3:k=3
 ·have hb:Xq k r0=mapR ansE ansR r0:=by unfold Xq;rw[if_neg h1,if_neg (by omega),if_pos h3]
  have d3:decide (k=3)=true:=QO h3
  simp only[d3,Qg]
  obtain⟨n1,r1,e1,q1,g1⟩:=jq hK g0
  refine QK q1 ?_
  simp only
  obtain⟨n2,r2,e2,q2,g2⟩:=jq hK g1
  refine QK q2 ?_
  simp only
  obtain⟨n3,r3,e3,q3,g3⟩:=jq hK g2
  refine QK q3 ?_
  simp only
  obtain⟨n4,r4,e4,q4,g4⟩:=jq hK g3
  refine QK q4 ?_
  simp only
  obtain⟨n5,r5,e5,q5,g5⟩:=Qex (K:=K) g4
  refine QK q5 ?_
  simp only
  obtain⟨n6,r6,e6,q6,g6⟩:=Qex (K:=K) g5
  refine QK q6 ?_
  simp only
  obtain⟨n7,r7,e7,q7,g7⟩:=jq hK g6
  refine QK q7 ?_
  simp only
  obtain⟨n8,r8,e8,q8,g8⟩:=jq hK g7
  refine QK q8 ?_
  simp only
  obtain⟨n9,r9,e9,q9,g9⟩:=Qjq (K:=K) g8
  refine QK q9 ?_
  simp only
  obtain rfl:=h3
  refine(ZR hK ⟨JA,by simp,by simp⟩).trans ?_
  rw[hR,hb]
  simp only[mapR,ansR,callR,ansE,Qfo,seqR,e1,e2,e3,e4,e5,e6,e7,e8,e9]
 simp only[h3,decide_false,Qh]
 by_cases h5:k=5
 ·have hb:Xq k r0=mapR cloE cloR r0:=by unfold Xq;rw[if_neg h1,if_neg (by omega),if_neg h3,if_pos h5]
  have d5:decide (k=5)=true:=QO h5
  simp only[d5,Qg]
  obtain⟨n1,r1,e1,q1,g1⟩:=jq hK g0
  refine QK q1 ?_
  simp only
  obtain⟨n2,r2,e2,q2,g2⟩:=jq hK g1
  refine QK q2 ?_
  simp only
  obtain⟨n3,r3,e3,q3,g3⟩:=jq hK g2
  refine QK q3 ?_
  simp only
  obtain rfl:=h5
  refine(ZR hK ⟨JA,by simp,by simp⟩).trans ?_
  rw[hR,hb]
  simp only[mapR,cloR,cloE,seqR,e1,e2,e3]
 simp only[h5,decide_false,Qh]
 by_cases h6:k=6
 ·have hb:Xq k r0=mapR rotE rotR r0:=by unfold Xq;rw[if_neg h1,if_neg (by omega),if_neg h3,if_neg h5,if_pos h6]
  have d6:decide (k=6)=true:=QO h6
  simp only[d6,Qg]
  obtain⟨n1,r1,e1,q1,g1⟩:=jq hK g0
  refine QK q1 ?_
  simp only
  obtain⟨n2,r2,e2,q2,g2⟩:=jq hK g1
  refine QK q2 ?_
  simp only
  obtain rfl:=h6
  refine(ZR hK ⟨JA,by simp,by simp⟩).trans ?_
  rw[hR,hb]
  simp only[mapR,rotR,rotE,seqR,e1,e2]
 simp only[h6,decide_false,Qh]
 refine QK (ZO (by omega) r0) ?_
 refine(ZR hK ⟨JA,by simp,by simp⟩).trans ?_
 rw[hR]
 simp only[Xq,h1,h2,h3,h4,h5,h6,if_false,or_self]
end Go.Proofs.YtomndohdnfebgaaGreatDoor
namespace Go.Proofs.YtomndohdnfebgaaGreatDoor
open Go Go.Sep
abbrev Bun:=QP
abbrev It:=QE
abbrev Sg:=QW
abbrev zBun:Bun:=Y3
structure QtN(x:It):Prop where
 d:okD x.fRec
 p:x.fPath.length<1000000000
structure Qu5(x:Bun):Prop where
 sigs:x.fPoint.fSigs.length<1000000000
 len:x.fItems.length<1000000000
 items:∀y∈x.fItems,QtN y
structure QeT(x:Bun):Prop where
 root:isB (Q9 x.fPoint.fRoot)
 tags:∀s∈x.fPoint.fSigs,isB (Q9 s.fTag)
 recs:∀y∈x.fItems,okB y.fRec
 path:∀y∈x.fItems,∀h∈y.fPath,isB (Q9 h)
theorem Qey{K:Nat}(a b c:Int):jw.f K a b c=some (inn a b c):=by
 unfold jw.f inn
 cases decide (b≤a)<;>rfl
def Qjr(s:Sg):Bool:=inn s.fWit 0 3
theorem Qu6{K:Nat}(s:Sg):Xc.f K s=some (!Qjr s):=by
 unfold Xc.f Qjr
 rw[Qey];rfl
theorem QsA{K:Nat}{l:List Sg}(hK:l.length<K)(hl:l.length<1000000000000):YM.f K l=some (!l.all Qjr):=by
 unfold YM.f Jk.f
 have hL:=Qfu (L:=QF.l K l) (fun(_:Unit) (i:Nat)=>(i:Int)) l (fun _ i x=>some (bif Qjr x then .inr ()else .inl (.inl ((i:Nat):Int)))) (fun _=>some (.inr ())) () hK
  (fun k s=>by
   show QF.b K l (QF.l K l k) _=_
   unfold QF.b
   rw[Qi (QJ (by simp))])
  (fun k s i x hi hx=>by
   show QF.b K l (QF.l K l k) _=_
   unfold QF.b
   rw[Qj (QO (by omega)),Qbz hx]
   simp only[Qb]
   rw[Qu6]
   simp only[Qb]
   rw[wrap_succ (by omega)]
   cases Qjr x<;>rfl)
 have hL:QF.l K l K 0=_:=hL
 obtain⟨r1,r2⟩:=Qip (good:=Qjr) (v:=fun i=>((i:Nat):Int)) (l:=l) (s:=()) (i:=0) (f:=fun _ i x=>some (bif Qjr x then .inr ()else .inl (.inl ((i:Nat):Int)))) (fun s i x _=>rfl)
 cases hg:l.all Qjr with
 |true=>rw[hL,r1 hg];rfl
 |false=>
  obtain⟨j,_,_,hj⟩:=r2 hg
  rw[hL,hj]
  simp only[Qb,Bool.not_false]
  rw[QO (by omega)]
def Qez(p:Qo):Bool:=inn p.fSize 0 400&&(decide ((p.fSigs.length:Int)≤4)&&p.fSigs.all Qjr)
theorem QsB{K:Nat}{p:Qo}(hK:p.fSigs.length<K)(hl:p.fSigs.length<1000000000000):ZF.f K p=some (Qez p):=by
 unfold ZF.f Qez
 rw[Qey]
 simp only[Qb]
 cases inn p.fSize 0 400
 ·rfl
 simp only[Qg,Bool.true_and]
 cases decide ((p.fSigs.length:Int)≤4)
 ·rfl
 simp only[Qg,Bool.true_and]
 rw[QsA hK hl]
 simp
def Qh8(whole:Bool)(size last:Int)(i:Nat)(x:It):Bool:=
 YQ x.fRec&&(inn x.fAt (last+1) (size-1)&&(decide ((x.fPath.length:Int)≤20)&&(!whole||(decide (x.fAt=(i:Int))&&decide (x.fPath.length=0)))))
def jK(whole:Bool)(size:Int):Int→Nat→List It→Bool
 |_,_, []=>true
 |last,i,x::l=>Qh8 whole size last i x&&jK whole size x.fAt (i+1) l
def yT(x:Bun):Bool:=
 Qez x.fPoint&&(decide ((x.fItems.length:Int)≤x.fPoint.fSize)&&((!x.fWhole||decide ((x.fItems.length:Int)=x.fPoint.fSize))&&jK x.fWhole x.fPoint.fSize (-1) 0 x.fItems))
theorem QqM{whole:Bool}{size:Int}(hs:0≤size∧size≤400):∀{l:List It} {last:Int} {i:Nat} {f:Int→Nat→It→Option (Sum (Sum Bool Unit) Int)},-1≤last∧last<400→
  (∀last i x,x∈l→ -1≤last∧last<400→f last i x=some (bif Qh8 whole size last i x then .inr x.fAt else .inl (.inl false)))→
  runL f (fun _=>some (.inr ())) last i l=some (bif jK whole size last i l then .inr ()else .inl false):=by
 intro l
 induction l with
 |nil=>intro last i f _ _;rfl
 | cons x l ih=>
  intro last i f hl hf
  unfold runL jK
  rw[hf last i x (by simp) hl]
  cases hg:Qh8 whole size last i x with
  |false=>rfl
  | true=>
   have h2:inn x.fAt (last+1) (size-1)=true:=by
    unfold Qh8 at hg
    simp only[Qd]at hg
    exact hg.2.1
   have h2:=qC.1 h2
   exact ih (by omega) (fun last i y hy=>hf last i y (by simp[hy]))
theorem QkS{K:Nat}(hK:1000000000000≤K){x:Bun}(hx:Qu5 x):JE.f K x=some (yT x):=by
 unfold JE.f yT
 have hs:=hx.sigs
 have hl:=hx.len
 rw[QsB (by omega) (by omega)]
 simp only[jn,Qb]
 cases hp:Qez x.fPoint
 ·rfl
 have hsz:0≤x.fPoint.fSize∧x.fPoint.fSize≤400:=by
  unfold Qez at hp
  simp only[Qd]at hp
  exact qC.1 hp.1
 rw[Qi (by rfl)]
 simp only[Bool.true_and]
 by_cases h1:x.fPoint.fSize<(x.fItems.length:Int)
 ·rw[Qj (QO h1),QJ (show¬(x.fItems.length:Int)≤x.fPoint.fSize by omega)];rfl
 rw[Qi (QJ h1),QO (show(x.fItems.length:Int)≤x.fPoint.fSize by omega)]
 simp only[Bool.true_and]
 have hL:YE.l K x K (-1,0)=some (bif jK x.fWhole x.fPoint.fSize (-1) 0 x.fItems then .inr ()else .inl false):=by
  have hL:=Qfu (L:=YE.l K x) (fun(s:Int) (i:Nat)=>(s,(i:Int))) x.fItems
   (fun last i y=>some (bif YQ y.fRec&&(inn y.fAt (IntKind.wrap .i64 (last+1)) (x.fPoint.fSize-1)&&(decide ((y.fPath.length:Int)≤20)&&(!x.fWhole||(decide (y.fAt=(i:Int))&&decide (y.fPath.length=0)))))then .inr y.fAt else .inl (.inl false)))
   (fun _=>some (.inr ())) (-1) (k:=K) (by omega)
   (fun k s=>by
    show YE.b K x (YE.l K x k) _=_
    unfold YE.b
    rw[Qi (QJ (by simp))])
   (fun k s i y hi hy=>by
    have hym:=List.mem_of_getElem? hy
    show YE.b K x (YE.l K x k) _=_
    unfold YE.b
    rw[Qj (QO (by simp;omega))]
    simp only
    rw[Qbz hy]
    simp only[jn,Qb]
    rw[right_eq hK (hx.items y hym).d,Qey]
    simp only[Qb]
    rw[wrap64 (n:=x.fPoint.fSize-1) (by omega) (by omega),wrap_succ (by omega)]
    cases YQ y.fRec
    ·rfl
    cases inn y.fAt (IntKind.wrap .i64 (s+1)) (x.fPoint.fSize-1)
    ·rfl
    by_cases h20:(20:Int)<(y.fPath.length:Int)
    ·rw[QO h20,QJ (show¬(y.fPath.length:Int)≤20 by omega)];rfl
    rw[QJ h20,QO (show(y.fPath.length:Int)≤20 by omega)]
    cases x.fWhole
    ·rfl
    cases decide (y.fAt=(i:Int))
    ·rfl
    by_cases h0:y.fPath.length=0
    ·rw[QO h0,QJ (show¬(0:Int)<(y.fPath.length:Int) by omega)];rfl
    ·rw[QJ h0,QO (show(0:Int)<(y.fPath.length:Int) by omega)];rfl)
  have hL:YE.l K x K (-1,0)=_:=hL
  rw[hL]
  refine QqM hsz (by omega) (fun last i y hy hl=> ?_)
  rw[wrap64 (by omega) (by omega)]
  rfl
 have fin:(((YE.l K x K (-1,0)).bind fun s1906=>(match s1906 with| .inl u1907=>some u1907| .inr u1908=>(fun(_:Unit)=>(some true)) u1908)):Option Bool)=some (jK x.fWhole x.fPoint.fSize (-1) 0 x.fItems):=by
  rw[hL]
  cases jK x.fWhole x.fPoint.fSize (-1) 0 x.fItems<;>rfl
 generalize jK x.fWhole x.fPoint.fSize (-1) 0 x.fItems=v at fin⊢
 cases x.fWhole with
 |false=>exact fin
 |true=>
  simp only[Qg,Bool.not_true,Bool.false_or]
  cases decide ((x.fItems.length:Int)=x.fPoint.fSize)
  ·rfl
  ·exact fin
end Go.Proofs.YtomndohdnfebgaaGreatDoor
