/-
 Plain: bundles: which are too great, right, the same.
-/
import Derived.Test.YtomndohdnfebgaaGreatDoorPureM
namespace Go.Proofs.YtomndohdnfebgaaGreatDoor
open Go Go.Sep
def QsS:Rd→Sp×Rd:=mapR (fun t=>⟨t.1,t.2⟩) (seqR numR (fun _=>numR))
theorem QjF:Jt QsS stepW (fun s=>inN s.fPart∧inN s.fKind):=by
 have h:=(YD.seq (fun _=>YD)).map (e:=fun(t:Int×Int)=>(⟨t.1,t.2⟩:Sp)) (fun s=>(s.fPart,s.fKind)) (fun _=>rfl)
 exact h.conv (fun _ _=>rfl) (fun s=>⟨fun h=>⟨h,rfl⟩,fun h=>h.1⟩)
def Qio:Rd→List Sp×Rd:=mapR Prod.snd (seqR (capR 6 2) (fun n=>XR (fun _=>QsS) n.toNat 0))
theorem Qec:Jt Qio QaN (fun l=>(l.length:Int)≤6∧∀s∈l,inN s.fPart∧inN s.fKind):=
 (Jt.counted (most:=6) (code:=2) (by omega) (by omega) (fun _=>QjF)).conv (fun _ _=>rfl) (fun l=>⟨fun h=>⟨h.1,fun j x hx=>h.2 x (List.mem_of_getElem? hx)⟩,fun h=>⟨h.1,fun s hs=>by
  obtain⟨j,hj⟩:=List.getElem?_of_mem hs
  exact h.2 j s hj⟩⟩)
abbrev LoadT:=H32×H32×List Int
def zH:H32:=Vector.replicate 32 0
def QuV:Bool→Rd→LoadT×Rd
 |true=>mapR (fun h=>(h,zH, [])) Qdi
 |false=>mapR (fun t=>(zH,t.1,t.2)) (seqR Qdi (fun _=>Qae 60))
theorem Qqx:∀g,Jt (QuV g) (fun t=>bif g then Yh t.1 else Yh t.2.1++(numS t.2.2.length++t.2.2)) (fun t=>bif g then isB (Yh t.1)∧t.2.1=zH∧t.2.2= []else isB (Yh t.2.1)∧(t.2.2.length:Int)≤60∧isB t.2.2∧t.1=zH):=by
 intro g
 cases g with
 | true=>
  exact(yz.map (e:=fun h=>((h,zH, []):LoadT)) (fun t=>t.1) (fun _=>rfl)).conv (fun _ _=>rfl) (fun t=>by
   obtain⟨a,b,c⟩:=t
   constructor
   ·rintro⟨h1,h2,h3⟩;simp only at h2 h3;exact⟨h1,by rw[h2,h3]⟩
   ·rintro⟨h1,h2⟩;simp only[Qe]at h2;exact⟨h1,h2.2.1.symm,h2.2.2.symm⟩)
 | false=>
  have h:=(yz.seq (fun _=>Qij (most:=60) (by omega))).map (e:=fun(t:H32×List Int)=>((zH,t.1,t.2):LoadT)) (fun t=>t.2) (fun _=>rfl)
  exact h.conv (fun _ _=>rfl) (fun t=>by
   obtain⟨a,b,c⟩:=t
   constructor
   ·rintro⟨h1,h2,h3,h4⟩;simp only at h4;exact⟨⟨h1,h2,h3⟩,by rw[h4]⟩
   ·rintro⟨⟨h1,h2,h3⟩,h4⟩;simp only[Qe]at h4;exact⟨h1,h2,h3,h4.1.symm⟩)
abbrev BegT:=Int×List Sp×Bool×LoadT
def begR:Rd→BegT×Rd:=seqR numR (fun _=>seqR Qio (fun _=>seqR Qca QuV))
def begE(t:BegT):Rc:={zRc with fKind:=1,fSaga:=t.1,fSteps:=t.2.1,fGone:=t.2.2.1,fCom:=t.2.2.2.1,fSalt:=t.2.2.2.2.1,fData:=t.2.2.2.2.2}
def callR:Rd→Qxx×Rd:=seqR numR (fun _=>seqR numR (fun _=>seqR numR (fun _=>seqR numR (fun _=>Qca))))
def QgP(k:Int)(t:Qxx):Rc:={zRc with fKind:=k,fSaga:=t.1,fSeq:=t.2.1,fStep:=t.2.2.1,fTry:=t.2.2.2.1,fBack:=t.2.2.2.2}
abbrev AnsT:=Qxx×Bool×Int×Int×H32
def ansR:Rd→AnsT×Rd:=seqR callR (fun _=>seqR Qca (fun _=>seqR numR (fun _=>seqR numR (fun _=>Qdi))))
def ansE(t:AnsT):Rc:={QgP 3 t.1 with fGood:=t.2.1,fPart:=t.2.2.1,fEpoch:=t.2.2.2.1,fTag:=t.2.2.2.2}
def cloR:Rd→(Int×Int×Int)×Rd:=seqR numR (fun _=>seqR numR (fun _=>numR))
def cloE(t:Int×Int×Int):Rc:={zRc with fKind:=5,fSaga:=t.1,fSeq:=t.2.1,fEnd:=t.2.2}
def rotR:Rd→(Int×Int)×Rd:=seqR numR (fun _=>numR)
def rotE(t:Int×Int):Rc:={zRc with fKind:=6,fPart:=t.1,fEpoch:=t.2}
def Zb(k:Int)(r:Rd):Rc×Rd:=
 if k=1 then mapR begE begR r
 else if k=2∨k=4 then mapR (QgP k) callR r
 else if k=3 then mapR ansE ansR r
 else if k=5 then mapR cloE cloR r
 else if k=6 then mapR rotE rotR r
 else({zRc with fKind:=k},Qii 2 r)
def Qdl(k:Int)(x:Rc):Prop:=
 if k=1 then(inN x.fSaga∧((x.fSteps.length:Int)≤6∧∀s∈x.fSteps,inN s.fPart∧inN s.fKind)∧
   (bif x.fGone then isB (Yh x.fCom)∧x.fSalt=zH∧x.fData= []else isB (Yh x.fSalt)∧(x.fData.length:Int)≤60∧isB x.fData∧x.fCom=zH))∧
   begE (x.fSaga,x.fSteps,x.fGone,x.fCom,x.fSalt,x.fData)=x
 else if k=2∨k=4 then(inN x.fSaga∧inN x.fSeq∧inN x.fStep∧inN x.fTry)∧QgP k (x.fSaga,x.fSeq,x.fStep,x.fTry,x.fBack)=x
 else if k=3 then(inN x.fSaga∧inN x.fSeq∧inN x.fStep∧inN x.fTry∧inN x.fPart∧inN x.fEpoch∧isB (Yh x.fTag))∧ansE ((x.fSaga,x.fSeq,x.fStep,x.fTry,x.fBack),x.fGood,x.fPart,x.fEpoch,x.fTag)=x
 else if k=5 then(inN x.fSaga∧inN x.fSeq∧inN x.fEnd)∧cloE (x.fSaga,x.fSeq,x.fEnd)=x
 else if k=6 then(inN x.fPart∧inN x.fEpoch)∧rotE (x.fPart,x.fEpoch)=x
 else False
theorem QsT:Jt begR (fun t=>numW t.1++(QaN t.2.1++([Qa5 t.2.2.1]++(bif t.2.2.1 then Yh t.2.2.2.1 else Yh t.2.2.2.2.1++(numS t.2.2.2.2.2.length++t.2.2.2.2.2)))))
  (fun t=>inN t.1∧((t.2.1.length:Int)≤6∧∀s∈t.2.1,inN s.fPart∧inN s.fKind)∧True∧(bif t.2.2.1 then isB (Yh t.2.2.2.1)∧t.2.2.2.2.1=zH∧t.2.2.2.2.2= []else isB (Yh t.2.2.2.2.1)∧(t.2.2.2.2.2.length:Int)≤60∧isB t.2.2.2.2.2∧t.2.2.2.1=zH)):=
 YD.seq (fun _=>Qec.seq (fun _=>Qbu.seq Qqx))
theorem QjG:Jt callR (fun t=>numW t.1++(numW t.2.1++(numW t.2.2.1++(numW t.2.2.2.1++ [Qa5 t.2.2.2.2])))) (fun t=>inN t.1∧inN t.2.1∧inN t.2.2.1∧inN t.2.2.2.1∧True):=
 YD.seq (fun _=>YD.seq (fun _=>YD.seq (fun _=>YD.seq (fun _=>Qbu))))
theorem QfW(k:Int):Jt (Zb k) (Zg k) (Qdl k):=by
 unfold Zb
 by_cases h1:k=1
 ·subst h1
  exact(QsT.map (e:=begE) (fun x=>(x.fSaga,x.fSteps,x.fGone,x.fCom,x.fSalt,x.fData)) (fun _=>rfl)).conv (fun _ _=>rfl) (fun x=>by simp[Qdl])
 simp only[h1,if_false]
 by_cases h2:k=2∨k=4
 ·simp only[h2,if_true]
  refine(QjG.map (e:=QgP k) (fun x=>(x.fSaga,x.fSeq,x.fStep,x.fTry,x.fBack)) (fun _=>rfl)).conv (fun x _=>by simp[Zg,h1,h2,Qim]) (fun x=> ?_)
  unfold Qdl
  rw[if_neg h1,if_pos h2]
  simp
 simp only[h2,if_false]
 by_cases h3:k=3
 ·subst h3
  refine((QjG.seq (fun _=>Qbu.seq (fun _=>YD.seq (fun _=>YD.seq (fun _=>yz))))).map (e:=ansE) (fun x=>((x.fSaga,x.fSeq,x.fStep,x.fTry,x.fBack),x.fGood,x.fPart,x.fEpoch,x.fTag)) (fun _=>rfl)).conv (fun x _=> ?_) (fun x=> ?_)
  ·simp[Zg,Qim,numW]
  ·simp[Qdl,and_assoc]
 simp only[h3,if_false]
 by_cases h5:k=5
 ·subst h5
  refine((YD.seq (fun _=>YD.seq (fun _=>YD))).map (e:=cloE) (fun x=>(x.fSaga,x.fSeq,x.fEnd)) (fun _=>rfl)).conv (fun x _=> ?_) (fun x=> ?_)
  ·simp[Zg,numW]
  ·simp[Qdl]
 simp only[h5,if_false]
 by_cases h6:k=6
 ·subst h6
  refine((YD.seq (fun _=>YD)).map (e:=rotE) (fun x=>(x.fPart,x.fEpoch)) (fun _=>rfl)).conv (fun x _=> ?_) (fun x=> ?_)
  ·simp[Zg,numW]
  ·simp[Qdl]
 simp only[h6,if_false]
 refine⟨fun r hr=>jd hr,fun a rest ha _=> ?_,fun r _ hb=>absurd hb (Qbs (by omega) _)⟩
 simp[Qdl,h1,h2,h3,h5,h6]at ha
def finR(x:Rc)(r:Rd):Rc×Rd:=
 let r2:=bif Yy x then r else Qii 2 r
 if r2.fBad=0 then(x,r2)else(zRc,r2)
def recR(r:Rd):Rc×Rd:=finR (seqR numR Zb r).1.2 (seqR numR Zb r).2
structure okB(x:Rc):Prop where
 data:isB x.fData
 tag:isB (Yh x.fTag)
 salt:isB (Yh x.fSalt)
 com:isB (Yh x.fCom)
theorem Qah:isB (Yh zH):=by
 unfold isB
 decide
theorem Qip{x:Rc}(h:Yy x=true)(hb:okB x):Qdl x.fKind x:=by
 have hd:=Qag h
 have hk:=hd.kept
 unfold Qe5 at hk
 unfold Qdl
 rcases hd.kind with k|k|k|k|k|k
 ·obtain⟨b1,b2,b3⟩:=hd.beg k
  have b1:=J8.1 b1
  rw[if_pos k]at hk⊢
  refine⟨⟨hd.saga,⟨b1.2,fun s hs=>Qpa (List.all_eq_true.1 b2 s hs)⟩,?_⟩,?_⟩
  ·cases hg:x.fGone
   ·rw[hg]at hk
    exact⟨hb.salt,b3,hb.data,congrArg (fun y:Rc=>y.fCom) hk⟩
   ·rw[hg]at hk
    exact⟨hb.com,congrArg (fun y:Rc=>y.fSalt) hk,congrArg (fun y:Rc=>y.fData) hk⟩
  ·cases hg:x.fGone
   ·rw[hg]at hk
    simp only[Qh]at hk
    rw[hk]
    simp[begE,k]
   ·rw[hg]at hk
    simp only[Qg]at hk
    rw[hk]
    simp[begE,k]
 ·have h4:=hd.call (.inl k)
  rw[if_neg (by omega),if_neg (by omega),if_pos (.inl k)]at hk
  rw[if_neg (by omega),if_pos (.inl k)]
  exact⟨⟨hd.saga,h4.1,h4.2.1,h4.2.2⟩,by rw[hk];simp[QgP,k]⟩
 ·have h4:=hd.call (.inr (.inr k))
  rw[if_neg (by omega),if_pos k]at hk
  rw[if_neg (by omega),if_neg (by omega),if_pos k]
  exact⟨⟨hd.saga,h4.1,h4.2.1,h4.2.2,hd.part,hd.epoch,hb.tag⟩,by rw[hk];simp[ansE,QgP,k]⟩
 ·have h4:=hd.call (.inr (.inl k))
  rw[if_neg (by omega),if_neg (by omega),if_pos (.inr k)]at hk
  rw[if_neg (by omega),if_pos (.inr k)]
  exact⟨⟨hd.saga,h4.1,h4.2.1,h4.2.2⟩,by rw[hk];simp[QgP,k]⟩
 ·have h4:=hd.clo k
  rw[if_neg (by omega),if_neg (by omega),if_neg (by omega),if_pos k]at hk
  rw[if_neg (by omega),if_neg (by omega),if_neg (by omega),if_pos k]
  exact⟨⟨hd.saga,h4.1,h4.2⟩,by rw[hk];simp[cloE,k]⟩
 ·rw[if_neg (by omega),if_neg (by omega),if_neg (by omega),if_neg (by omega),if_pos k]at hk
  rw[if_neg (by omega),if_neg (by omega),if_neg (by omega),if_neg (by omega),if_pos k]
  exact⟨⟨hd.part,hd.epoch⟩,by rw[hk];simp[rotE,k]⟩
theorem Qn5{k:Int}{x:Rc}(h:Qdl k x):x.fKind=k∧okB x:=by
 unfold Qdl at h
 by_cases h1:k=1
 ·rw[if_pos h1]at h
  obtain⟨⟨_,_,h2⟩,h3⟩:=h
  refine⟨by rw[←h3];exact h1.symm,?_⟩
  have ht:isB (Yh x.fTag):=by rw[←h3];exact Qah
  cases hg:x.fGone
  ·rw[hg]at h2;exact⟨h2.2.2.1,ht,h2.1,by rw[h2.2.2.2];exact Qah⟩
  ·rw[hg]at h2;exact⟨by rw[h2.2.2];exact J7,ht,by rw[h2.2.1];exact Qah,h2.1⟩
 rw[if_neg h1]at h
 by_cases h2:k=2∨k=4
 ·rw[if_pos h2]at h
  obtain⟨_,h3⟩:=h
  rw[←h3]
  exact⟨rfl,J7,Qah,Qah,Qah⟩
 rw[if_neg h2]at h
 by_cases h3:k=3
 ·rw[if_pos h3]at h
  obtain⟨⟨_,_,_,_,_,_,h4⟩,h3'⟩:=h
  exact⟨by rw[←h3'];exact h3.symm,by rw[←h3'];exact J7,h4,by rw[←h3'];exact Qah,by rw[←h3'];exact Qah⟩
 rw[if_neg h3]at h
 by_cases h5:k=5
 ·rw[if_pos h5]at h
  rw[←h.2]
  exact⟨h5.symm,J7,Qah,Qah,Qah⟩
 rw[if_neg h5]at h
 by_cases h6:k=6
 ·rw[if_pos h6]at h
  rw[←h.2]
  exact⟨h6.symm,J7,Qah,Qah,Qah⟩
 rw[if_neg h6]at h
 exact h.elim
theorem Qiq:Jt recR Qqw (fun x=>Yy x=true∧okB x):=by
 have hs:=YD.seq QfW
 refine⟨fun r hr=> ?_,fun x rest hx hg=> ?_,fun r hr hb=> ?_⟩
 ·have h1:=hs.good r hr
  unfold recR finR
  simp only
  have h2:Good (bif Yy (seqR numR Zb r).1.2 then(seqR numR Zb r).2 else Qii 2 (seqR numR Zb r).2):=by
   cases Yy (seqR numR Zb r).1.2
   ·exact jd h1
   ·exact h1
  split<;>exact h2
 ·have h1:=hs.ok (x.fKind,x) rest ⟨QjE hx.1,Qip hx.1 hx.2⟩ hg
  unfold recR finR
  rw[show Qqw x=numS x.fKind.toNat++Zg x.fKind x from rfl,h1]
  simp[hx.1]
 ·unfold recR finR at hb⊢
  simp only at hb⊢
  cases hr2:Yy (seqR numR Zb r).1.2 with
  |false=>
   rw[hr2]at hb
   simp only[Qh]at hb
   have:=Qbs (e:=2) (by omega) (seqR numR Zb r).2
   rw[if_neg this]at hb
   exact absurd hb this
  | true=>
   rw[hr2]at hb
   simp only[Qg]at hb⊢
   by_cases h0:(seqR numR Zb r).2.fBad=0
   ·rw[if_pos h0]at hb⊢
    obtain⟨e1,e2,e3,e4⟩:=hs.back r hr h0
    obtain⟨e5,e6⟩:=Qn5 e4
    refine⟨e1,?_,hr2,e6⟩
    unfold Qqw
    rw[e5]
    exact e2
   ·rw[if_neg h0]at hb
    exact absurd hb h0
theorem QsU{K:Nat}(hK:1000000000000≤K){r:Rd}(hr:Good r):QcO.f K r=some (Qio r):=by
 unfold QcO.f
 rw[Qad hK hr]
 simp only[Qb,jn]
 have hg:=YD.good r hr
 have hn:∃N:Nat,(numR r).1=(N:Int)∧N<2147483648:=by
  unfold numR
  split
  ·split
   ·rename_i _ h2
    obtain⟨n,rest,h3,h4,h5⟩:=Qbt hr.1 h2
    exact⟨n,by rw[h5],h3⟩
   ·exact⟨0,rfl,by omega⟩
  ·exact⟨0,rfl,by omega⟩
 obtain⟨N,hN,hN2⟩:=hn
 have key:∀r',Good r'→Ji.l K (numR r) K ([],0,r')=some (XR (fun _=>QsS) N 0 r'):=by
  intro r' hr'
  have:=Qdj (L:=Ji.l K (numR r)) (one:=fun _=>QsS) (N:=N) (by omega) (fun _ r hr=>QjF.good r hr)
   (fun k out r'=>by
    show Ji.b K (numR r) (Ji.l K (numR r) k) _=_
    unfold Ji.b
    rw[Qi (QE (by simp only;omega))])
   (fun k out i r' hi hb=>by
    show Ji.b K (numR r) (Ji.l K (numR r) k) _=_
    unfold Ji.b
    rw[Qj (QK (by simp only;omega)),Zf]
    simp only[Qb]
    rw[Qj (by simp[hb])])
   (fun k out i r' hi hb hg ho=>by
    show Ji.b K (numR r) (Ji.l K (numR r) k) _=_
    unfold Ji.b
    rw[Qj (QK (by simp only;omega)),Zf]
    simp only[Qb]
    rw[Qi (by simp[hb]),Qad hK hg]
    simp only[Qb]
    rw[Qad hK (YD.good _ hg)]
    simp only[Qb]
    rw[YX (by simp;omega)]
    simp only[Qb]
    rw[wrap_succ (by omega)]
    rfl)
   N 0 [] r' K (by omega) (by omega) hr' (by simp)
  simpa using this
 unfold Qio mapR seqR capR
 simp only[hN,Int.toNat_natCast]
 by_cases h6:(6:Int)<N
 ·rw[Qj (QK h6),QaM (by omega)]
  simp only[Qb]
  rw[key _ (jd hg)]
  simp[h6]
 ·rw[Qi (QE h6),key _ hg]
  simp[h6]
theorem QsV{α:Type}{one:Nat→Rd→α×Rd}:∀(n i:Nat) (r:Rd),(XR one n i r).1.length≤n:=by
 intro n
 induction n with
 |zero=>intro i r;simp[XR]
 |succ n ih=>
  intro i r
  unfold XR
  split
  ·simp;exact ih _ _
  ·simp
theorem QsW{α:Type}{one:Nat→Rd→α×Rd}{n i:Nat}{r:Rd}(h:r.fBad≠0):XR one n i r=([],r):=by
 cases n with
 |zero=>rfl
 |succ n=>unfold XR;rw[if_neg h]
theorem Qqy(r:Rd):(Qio r).1.length≤6:=by
 unfold Qio mapR seqR capR
 simp only
 split
 ·rw[QsW (Qbs (by omega) _)];simp
 ·have:=QsV (one:=fun _=>QsS) (numR r).1.toNat 0 (numR r).2
  omega
theorem Qqz{most:Int}{r:Rd}(h:Good r):isB (Qae most r).1∧(Qae most r).1.length<1000000000:=by
 unfold Qae
 split
 ·split
  ·exact⟨J7,by simp⟩
  ·split
   ·exact⟨J7,by simp⟩
   ·split
    ·exact⟨J7,by simp⟩
    ·refine⟨fun x hx=>h.1 x (List.mem_of_mem_drop (List.mem_of_mem_take hx)),?_⟩
     have:=h.2
     simp;omega
 ·exact⟨J7,by simp⟩
theorem QaO{K:Nat}(hK:1000000000000≤K){x:Rc}{r:Rd}(hx:okD x):
  ((qU.f K x).bind fun q=>bif !q then(Yi.f K 2 r).bind fun y=>((QJ.f K y).bind fun e=>bif !decide (e=0)then some (zRc,y)else some (x,y))
   else((QJ.f K r).bind fun e=>bif !decide (e=0)then some (zRc,r)else some (x,r)))=some (finR x r):=by
 rw[right_eq hK hx]
 simp only[Qb]
 unfold finR
 cases Yy x
 ·rw[Qj (by rfl),QaM (by omega)]
  simp only[Qb,Qh]
  rw[Zf]
  simp only[Qb]
  have:=Qbs (e:=2) (by omega) r
  rw[Qj (by simp[this]),if_neg this]
 ·rw[Qi (by rfl),Zf]
  simp only[Qb,Qg]
  by_cases h:r.fBad=0
  ·rw[Qi (by simp[h]),if_pos h]
  ·rw[Qj (by simp[h]),if_neg h]
theorem Qz{α β:Type}{o:Option α}{x:α}{f:α→Option β}{y:Option β}(h:o=some x)(h2:f x=y):o.bind f=y:=by rw[h];exact h2
theorem yg{K:Nat}(hK:1000000000000≤K){r:Rd}(hr:Good r):∃n r',numR r=(n,r')∧QD.f K r=some (n,r')∧Good r':=⟨_,_,rfl,Qad hK hr,YD.good r hr⟩
theorem QfX{K:Nat}{r:Rd}(hr:Good r):∃n r',Qca r=(n,r')∧YL.f K r=some (n,r')∧Good r':=⟨_,_,rfl,QuS hr,Qbu.good r hr⟩
theorem Qk3{K:Nat}{r:Rd}(hr:Good r):∃n r',Qdi r=(n,r')∧YA.f K r=some (n,r')∧Good r':=⟨_,_,rfl,Qk1 hr,yz.good r hr⟩
theorem QuW{K:Nat}(hK:1000000000000≤K){r:Rd}(hr:Good r):∃n r',Qae 60 r=(n,r')∧YT.f K 60 r=some (n,r')∧Good r'∧isB n∧n.length<1000000000:=⟨_,_,rfl,QsP hK hr,(Qij (by omega)).good r hr,Qqz hr⟩
theorem QuX{K:Nat}(hK:1000000000000≤K){r:Rd}(hr:Good r):∃n r',Qio r=(n,r')∧QcO.f K r=some (n,r')∧Good r'∧n.length≤6:=⟨_,_,rfl,QsU hK hr,Qec.good r hr,Qqy r⟩
theorem QsX{K:Nat}(hK:1000000000000≤K){r:Rd}(hr:Good r):QeC.f K r=some (recR r):=by
 have g0:=YD.good r hr
 obtain⟨k,r0,hp⟩:∃k r0,numR r=(k,r0):=⟨_,_,rfl⟩
 rw[hp]at g0
 replace g0:Good r0:=g0
 have hR:recR r=finR (Zb k r0).1 (Zb k r0).2:=by unfold recR seqR;rw[hp]
 unfold QeC.f
 rw[Qad hK hr,hp]
 simp only[Qb,jn]
 by_cases h1:k=1
 ·have hb:Zb k r0=mapR begE begR r0:=by unfold Zb;rw[if_pos h1]
  have d1:decide (k=1)=true:=QK h1
  simp only[d1,Qg]
  obtain⟨n1,r1,e1,q1,g1⟩:=yg hK g0
  refine Qz q1 ?_
  simp only
  obtain⟨n2,r2,e2,q2,g2,l2⟩:=QuX hK g1
  refine Qz q2 ?_
  simp only
  obtain⟨n3,r3,e3,q3,g3⟩:=QfX (K:=K) g2
  refine Qz q3 ?_
  simp only
  cases n3 with
  |true=>
   obtain⟨n4,r4,e4,q4,g4⟩:=Qk3 (K:=K) g3
   simp only[Qg]
   refine Qz q4 ?_
   simp only
   obtain rfl:=h1
   refine(QaO hK ⟨J7,by simp,by simp only;omega⟩).trans ?_
   rw[hR,hb]
   simp only[mapR,begR,seqR,e1,e2,e3,e4,QuV,begE]
   rfl
  |false=>
   obtain⟨n4,r4,e4,q4,g4⟩:=Qk3 (K:=K) g3
   simp only[Qh]
   refine Qz q4 ?_
   simp only
   obtain⟨n5,r5,e5,q5,g5,l5,m5⟩:=QuW hK g4
   refine Qz q5 ?_
   simp only
   obtain rfl:=h1
   refine(QaO hK ⟨l5,m5,by simp only;omega⟩).trans ?_
   rw[hR,hb]
   simp only[mapR,begR,seqR,e1,e2,e3,e4,e5,QuV,begE]
   rfl
 simp only[h1,decide_false,Qh]
 by_cases h2:k=2
 ·have hb:Zb k r0=mapR (QgP k) callR r0:=by unfold Zb;rw[if_neg h1,if_pos (.inl h2)]
  have d2:decide (k=2)=true:=QK h2
  have n3:decide (k=3)=false:=by simp[h2]
  simp only[d2,n3,Qg,Qh]
  obtain⟨n1,r1,e1,q1,g1⟩:=yg hK g0
  refine Qz q1 ?_
  simp only
  obtain⟨n2,r2,e2,q2,g2⟩:=yg hK g1
  refine Qz q2 ?_
  simp only
  obtain⟨n3,r3,e3,q3,g3⟩:=yg hK g2
  refine Qz q3 ?_
  simp only
  obtain⟨n4,r4,e4,q4,g4⟩:=yg hK g3
  refine Qz q4 ?_
  simp only
  obtain⟨n5,r5,e5,q5,g5⟩:=QfX (K:=K) g4
  refine Qz q5 ?_
  simp only
  refine(QaO hK ⟨J7,by simp,by simp⟩).trans ?_
  rw[hR,hb]
  simp only[mapR,callR,QgP,seqR,e1,e2,e3,e4,e5]
 simp only[h2,decide_false,Qh]
 by_cases h4:k=4
 ·have hb:Zb k r0=mapR (QgP k) callR r0:=by unfold Zb;rw[if_neg h1,if_pos (.inr h4)]
  have d4:decide (k=4)=true:=QK h4
  have n3:decide (k=3)=false:=by simp[h4]
  simp only[d4,n3,Qg,Qh]
  obtain⟨n1,r1,e1,q1,g1⟩:=yg hK g0
  refine Qz q1 ?_
  simp only
  obtain⟨n2,r2,e2,q2,g2⟩:=yg hK g1
  refine Qz q2 ?_
  simp only
  obtain⟨n3,r3,e3,q3,g3⟩:=yg hK g2
  refine Qz q3 ?_
  simp only
  obtain⟨n4,r4,e4,q4,g4⟩:=yg hK g3
  refine Qz q4 ?_
  simp only
  obtain⟨n5,r5,e5,q5,g5⟩:=QfX (K:=K) g4
  refine Qz q5 ?_
  simp only
  refine(QaO hK ⟨J7,by simp,by simp⟩).trans ?_
  rw[hR,hb]
  simp only[mapR,callR,QgP,seqR,e1,e2,e3,e4,e5]
 simp only[h4,decide_false,Qh]
 by_cases h3:k=3
 ·have hb:Zb k r0=mapR ansE ansR r0:=by unfold Zb;rw[if_neg h1,if_neg (by omega),if_pos h3]
  have d3:decide (k=3)=true:=QK h3
  simp only[d3,Qg]
  obtain⟨n1,r1,e1,q1,g1⟩:=yg hK g0
  refine Qz q1 ?_
  simp only
  obtain⟨n2,r2,e2,q2,g2⟩:=yg hK g1
  refine Qz q2 ?_
  simp only
  obtain⟨n3,r3,e3,q3,g3⟩:=yg hK g2
  refine Qz q3 ?_
  simp only
  obtain⟨n4,r4,e4,q4,g4⟩:=yg hK g3
  refine Qz q4 ?_
  simp only
  obtain⟨n5,r5,e5,q5,g5⟩:=QfX (K:=K) g4
  refine Qz q5 ?_
  simp only
  obtain⟨n6,r6,e6,q6,g6⟩:=QfX (K:=K) g5
  refine Qz q6 ?_
  simp only
  obtain⟨n7,r7,e7,q7,g7⟩:=yg hK g6
  refine Qz q7 ?_
  simp only
  obtain⟨n8,r8,e8,q8,g8⟩:=yg hK g7
  refine Qz q8 ?_
  simp only
  obtain⟨n9,r9,e9,q9,g9⟩:=Qk3 (K:=K) g8
  refine Qz q9 ?_
  simp only
  obtain rfl:=h3
  refine(QaO hK ⟨J7,by simp,by simp⟩).trans ?_
  rw[hR,hb]
  simp only[mapR,ansR,callR,ansE,QgP,seqR,e1,e2,e3,e4,e5,e6,e7,e8,e9]
 simp only[h3,decide_false,Qh]
 by_cases h5:k=5
 ·have hb:Zb k r0=mapR cloE cloR r0:=by unfold Zb;rw[if_neg h1,if_neg (by omega),if_neg h3,if_pos h5]
  have d5:decide (k=5)=true:=QK h5
  simp only[d5,Qg]
  obtain⟨n1,r1,e1,q1,g1⟩:=yg hK g0
  refine Qz q1 ?_
  simp only
  obtain⟨n2,r2,e2,q2,g2⟩:=yg hK g1
  refine Qz q2 ?_
  simp only
  obtain⟨n3,r3,e3,q3,g3⟩:=yg hK g2
  refine Qz q3 ?_
  simp only
  obtain rfl:=h5
  refine(QaO hK ⟨J7,by simp,by simp⟩).trans ?_
  rw[hR,hb]
  simp only[mapR,cloR,cloE,seqR,e1,e2,e3]
 simp only[h5,decide_false,Qh]
 by_cases h6:k=6
 ·have hb:Zb k r0=mapR rotE rotR r0:=by unfold Zb;rw[if_neg h1,if_neg (by omega),if_neg h3,if_neg h5,if_pos h6]
  have d6:decide (k=6)=true:=QK h6
  simp only[d6,Qg]
  obtain⟨n1,r1,e1,q1,g1⟩:=yg hK g0
  refine Qz q1 ?_
  simp only
  obtain⟨n2,r2,e2,q2,g2⟩:=yg hK g1
  refine Qz q2 ?_
  simp only
  obtain rfl:=h6
  refine(QaO hK ⟨J7,by simp,by simp⟩).trans ?_
  rw[hR,hb]
  simp only[mapR,rotR,rotE,seqR,e1,e2]
 simp only[h6,decide_false,Qh]
 refine Qz (QaM (by omega) r0) ?_
 refine(QaO hK ⟨J7,by simp,by simp⟩).trans ?_
 rw[hR]
 simp only[Zb,h1,h2,h3,h4,h5,h6,if_false,or_self]
abbrev Bun:=QG
abbrev It:=QL
abbrev Sg:=Q8
abbrev zBun:Bun:=Jk
structure Qy6(x:It):Prop where
 d:okD x.fRec
 p:x.fPath.length<1000000000
structure Qy7(x:Bun):Prop where
 sigs:x.fPoint.fSigs.length<1000000000
 len:x.fItems.length<1000000000
 items:∀y∈x.fItems,Qy6 y
structure Qy8(x:Bun):Prop where
 root:isB (Yh x.fPoint.fRoot)
 tags:∀s∈x.fPoint.fSigs,isB (Yh s.fTag)
 recs:∀y∈x.fItems,okB y.fRec
 path:∀y∈x.fItems,∀h∈y.fPath,isB (Yh h)
theorem QfY{K:Nat}(a b c:Int):yu.f K a b c=some (inn a b c):=by
 unfold yu.f inn
 cases decide (b≤a)<;>rfl
def Qk4(s:Sg):Bool:=inn s.fWit 0 3
theorem Qxz{K:Nat}(s:Sg):XX.f K s=some (!Qk4 s):=by
 unfold XX.f Qk4
 rw[QfY];rfl
theorem QuY{K:Nat}{l:List Sg}(hK:l.length<K)(hl:l.length<1000000000000):Y0.f K l=some (!l.all Qk4):=by
 unfold Y0.f JI.f
 have hL:=QbC (L:=QN.l K l) (fun(_:Unit) (i:Nat)=>(i:Int)) l (fun _ i x=>some (bif Qk4 x then .inr ()else .inl (.inl ((i:Nat):Int)))) (fun _=>some (.inr ())) () hK
  (fun k s=>by
   show QN.b K l (QN.l K l k) _=_
   unfold QN.b
   rw[Qi (QE (by simp))])
  (fun k s i x hi hx=>by
   show QN.b K l (QN.l K l k) _=_
   unfold QN.b
   rw[Qj (QK (by omega)),Yq hx]
   simp only[Qb]
   rw[Qxz]
   simp only[Qb]
   rw[wrap_succ (by omega)]
   cases Qk4 x<;>rfl)
 have hL:QN.l K l K 0=_:=hL
 obtain⟨r1,r2⟩:=Qdx (good:=Qk4) (v:=fun i=>((i:Nat):Int)) (l:=l) (s:=()) (i:=0) (f:=fun _ i x=>some (bif Qk4 x then .inr ()else .inl (.inl ((i:Nat):Int)))) (fun s i x _=>rfl)
 cases hg:l.all Qk4 with
 |true=>rw[hL,r1 hg];rfl
 |false=>
  obtain⟨j,_,_,hj⟩:=r2 hg
  rw[hL,hj]
  simp only[Qb,Bool.not_false]
  rw[QK (by omega)]
def QfZ(p:Qo):Bool:=inn p.fSize 0 400&&(decide ((p.fSigs.length:Int)≤4)&&p.fSigs.all Qk4)
theorem QuZ{K:Nat}{p:Qo}(hK:p.fSigs.length<K)(hl:p.fSigs.length<1000000000000):QaE.f K p=some (QfZ p):=by
 unfold QaE.f QfZ
 rw[QfY]
 simp only[Qb]
 cases inn p.fSize 0 400
 ·rfl
 simp only[Qg,Bool.true_and]
 cases decide ((p.fSigs.length:Int)≤4)
 ·rfl
 simp only[Qg,Bool.true_and]
 rw[QuY hK hl]
 simp
def Qir(whole:Bool)(size last:Int)(i:Nat)(x:It):Bool:=
 Yy x.fRec&&(inn x.fAt (last+1) (size-1)&&(decide ((x.fPath.length:Int)≤20)&&(!whole||(decide (x.fAt=(i:Int))&&decide (x.fPath.length=0)))))
def yY(whole:Bool)(size:Int):Int→Nat→List It→Bool
 |_,_, []=>true
 |last,i,x::l=>Qir whole size last i x&&yY whole size x.fAt (i+1) l
def Qe6(x:Bun):Bool:=
 QfZ x.fPoint&&(decide ((x.fItems.length:Int)≤x.fPoint.fSize)&&((!x.fWhole||decide ((x.fItems.length:Int)=x.fPoint.fSize))&&yY x.fWhole x.fPoint.fSize (-1) 0 x.fItems))
theorem QsY{whole:Bool}{size:Int}(hs:0≤size∧size≤400):∀{l:List It} {last:Int} {i:Nat} {f:Int→Nat→It→Option (Sum (Sum Bool Unit) Int)},-1≤last∧last<400→
  (∀last i x,x∈l→ -1≤last∧last<400→f last i x=some (bif Qir whole size last i x then .inr x.fAt else .inl (.inl false)))→
  runL f (fun _=>some (.inr ())) last i l=some (bif yY whole size last i l then .inr ()else .inl false):=by
 intro l
 induction l with
 |nil=>intro last i f _ _;rfl
 | cons x l ih=>
  intro last i f hl hf
  unfold runL yY
  rw[hf last i x (by simp) hl]
  cases hg:Qir whole size last i x with
  |false=>rfl
  | true=>
   have h2:inn x.fAt (last+1) (size-1)=true:=by
    unfold Qir at hg
    simp only[Qd]at hg
    exact hg.2.1
   have h2:=J8.1 h2
   exact ih (by omega) (fun last i y hy=>hf last i y (by simp[hy]))
theorem QsZ{K:Nat}(hK:1000000000000≤K){x:Bun}(hx:Qy7 x):qf.f K x=some (Qe6 x):=by
 unfold qf.f Qe6
 have hs:=hx.sigs
 have hl:=hx.len
 rw[QuZ (by omega) (by omega)]
 simp only[jn,Qb]
 cases hp:QfZ x.fPoint
 ·rfl
 have hsz:0≤x.fPoint.fSize∧x.fPoint.fSize≤400:=by
  unfold QfZ at hp
  simp only[Qd]at hp
  exact J8.1 hp.1
 rw[Qi (by rfl)]
 simp only[Bool.true_and]
 by_cases h1:x.fPoint.fSize<(x.fItems.length:Int)
 ·rw[Qj (QK h1),QE (show¬(x.fItems.length:Int)≤x.fPoint.fSize by omega)];rfl
 rw[Qi (QE h1),QK (show(x.fItems.length:Int)≤x.fPoint.fSize by omega)]
 simp only[Bool.true_and]
 have hL:YS.l K x K (-1,0)=some (bif yY x.fWhole x.fPoint.fSize (-1) 0 x.fItems then .inr ()else .inl false):=by
  have hL:=QbC (L:=YS.l K x) (fun(s:Int) (i:Nat)=>(s,(i:Int))) x.fItems
   (fun last i y=>some (bif Yy y.fRec&&(inn y.fAt (IntKind.wrap .i64 (last+1)) (x.fPoint.fSize-1)&&(decide ((y.fPath.length:Int)≤20)&&(!x.fWhole||(decide (y.fAt=(i:Int))&&decide (y.fPath.length=0)))))then .inr y.fAt else .inl (.inl false)))
   (fun _=>some (.inr ())) (-1) (k:=K) (by omega)
   (fun k s=>by
    show YS.b K x (YS.l K x k) _=_
    unfold YS.b
    rw[Qi (QE (by simp))])
   (fun k s i y hi hy=>by
    have hym:=List.mem_of_getElem? hy
    show YS.b K x (YS.l K x k) _=_
    unfold YS.b
    rw[Qj (QK (by simp;omega))]
    simp only
    rw[Yq hy]
    simp only[jn,Qb]
    rw[right_eq hK (hx.items y hym).d,QfY]
    simp only[Qb]
    rw[wrap64 (n:=x.fPoint.fSize-1) (by omega) (by omega),wrap_succ (by omega)]
    cases Yy y.fRec
    ·rfl
    cases inn y.fAt (IntKind.wrap .i64 (s+1)) (x.fPoint.fSize-1)
    ·rfl
    by_cases h20:(20:Int)<(y.fPath.length:Int)
    ·rw[QK h20,QE (show¬(y.fPath.length:Int)≤20 by omega)];rfl
    rw[QE h20,QK (show(y.fPath.length:Int)≤20 by omega)]
    cases x.fWhole
    ·rfl
    cases decide (y.fAt=(i:Int))
    ·rfl
    by_cases h0:y.fPath.length=0
    ·rw[QK h0,QE (show¬(0:Int)<(y.fPath.length:Int) by omega)];rfl
    ·rw[QE h0,QK (show(0:Int)<(y.fPath.length:Int) by omega)];rfl)
  have hL:YS.l K x K (-1,0)=_:=hL
  rw[hL]
  refine QsY hsz (by omega) (fun last i y hy hl=> ?_)
  rw[wrap64 (by omega) (by omega)]
  rfl
 have fin:(((YS.l K x K (-1,0)).bind fun s1906=>(match s1906 with| .inl u1907=>some u1907| .inr u1908=>(fun(_:Unit)=>(some true)) u1908)):Option Bool)=some (yY x.fWhole x.fPoint.fSize (-1) 0 x.fItems):=by
  rw[hL]
  cases yY x.fWhole x.fPoint.fSize (-1) 0 x.fItems<;>rfl
 generalize yY x.fWhole x.fPoint.fSize (-1) 0 x.fItems=v at fin⊢
 cases x.fWhole with
 |false=>exact fin
 |true=>
  simp only[Qg,Bool.not_true,Bool.false_or]
  cases decide ((x.fItems.length:Int)=x.fPoint.fSize)
  ·rfl
  ·exact fin
end Go.Proofs.YtomndohdnfebgaaGreatDoor
