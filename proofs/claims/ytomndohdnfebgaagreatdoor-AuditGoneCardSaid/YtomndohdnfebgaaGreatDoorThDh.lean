/-
 Data and plain functions, printed by a program: what the functions of the cut compute (fuel K; none: a panic, or the fuel is spent).
 Conditions: none; nothing is claimed here.
-/
import Derived.Test.YtomndohdnfebgaaGreatDoorSepM
import Derived.Laws.Strings
import Derived.Test.YtomndohdnfebgaaGreatDoorSepQ
import Derived.Test.YtomndohdnfebgaaGreatDoorSxB
set_option linter.unusedVariables false
namespace Go.Sep
theorem wrap64{n:Int}(h1: -9223372036854775808≤n)(h2:n<9223372036854775808):IntKind.wrap .i64 n=n:=by
 simp only[IntKind.wrap,IntKind.bits,IntKind.signed]
 simp
 split<;>omega
theorem Qp3{n:Int}(h1:0≤n)(h2:n<256):IntKind.wrap .u8 n=n:=by
 simp only[IntKind.wrap,IntKind.bits,IntKind.signed]
 simp
 omega
theorem Jm{α:Type}(l:List α)(n:Nat):getI l (n:Int)=l[n]?:=by simp[getI]
theorem Quw{α:Type}(l:List α):getI l 0=l[0]?:=Jm l 0
theorem YQ{α:Type}{b:Nat}{l m:List α}(h:(l.length+m.length)*b≤140737488355328):catI b l m=some (l++m):=by simp[catI,h]
theorem QiR{α:Type}{l:List α}{a b:Nat}(h1:a≤b)(h2:b≤l.length):subI l (a:Int) (b:Int)=some ((l.take b).drop a):=by
 have:(a:Int)≤b:=by omega
 simp[subI,h1,h2]
theorem QbD{α:Type}{l:List α}{b:Nat}(h2:b≤l.length):subI l 0 (b:Int)=some (l.take b):=by
 have:=QiR (l:=l) (Nat.zero_le b) h2
 simpa using this
theorem ZZ{α:Type}{l:List α}{a:Nat}(h1:a≤l.length):subI l (a:Int) ((l.length:Nat):Int)=some (l.drop a):=by
 rw[QiR h1 (Nat.le_refl _)];simp
theorem Qj{α:Type}{b:Bool}{x y:α}(h:b=true):(bif b then x else y)=x:=by rw[h];rfl
theorem Qi{α:Type}{b:Bool}{x y:α}(h:b=false):(bif b then x else y)=y:=by rw[h];rfl
theorem QT{p:Prop} [Decidable p](h:p):decide p=true:=decide_eq_true h
theorem QG{p:Prop} [Decidable p](h: ¬p):decide p=false:=decide_eq_false h
theorem Qvo{a b:Int}{k:Nat}(ha:0≤a)(hb:0≤b)(hbk:b<2^k)(hab:a*2^k+b<9223372036854775808):bor .i64 (a*2^k) b=a*2^k+b:=by
 obtain⟨a,rfl⟩:=Int.eq_ofNat_of_zero_le ha
 obtain⟨b,rfl⟩:=Int.eq_ofNat_of_zero_le hb
 have hbk':b<2^k:=by exact_mod_cast hbk
 have e1:((a:Int)*2^k)=((a*2^k:Nat):Int):=by push_cast;rfl
 have hab':a*2^k+b<9223372036854775808:=by rw[e1]at hab;omega
 unfold bor
 rw[e1]
 have h1:(BitVec.ofInt (IntKind.bits .i64) ((a*2^k:Nat):Int)|||BitVec.ofInt (IntKind.bits .i64) (b:Int)).toNat=a*2^k+b:=by
  rw[BitVec.toNat_or]
  simp only[IntKind.bits,BitVec.ofInt_natCast,BitVec.toNat_ofNat]
  have q1:a*2^k<18446744073709551616:=by omega
  have q2:b<18446744073709551616:=by omega
  rw[show(2:Nat)^64=18446744073709551616 by decide,Nat.mod_eq_of_lt q1,Nat.mod_eq_of_lt q2]
  have e2:a*2^k=a<<<k:=(Nat.shiftLeft_eq a k).symm
  rw[e2,←Nat.shiftLeft_add_eq_or_of_lt hbk']
 rw[h1,wrap64 (by omega) (by omega)]
 push_cast;rfl
theorem QwT:∀a:Nat,a<128→bor .u8 (a:Int) 128=(a:Int)+128:=by
 intro a ha
 unfold bor
 have h1:(BitVec.ofInt (IntKind.bits .u8) (a:Int)|||BitVec.ofInt (IntKind.bits .u8) 128).toNat=128+a:=by
  rw[BitVec.toNat_or]
  simp only[IntKind.bits,BitVec.ofInt_natCast,BitVec.toNat_ofNat]
  rw[Nat.mod_eq_of_lt (by omega)]
  show a|||128=_
  rw[Nat.or_comm,show(128:Nat)=1<<<7 by rfl,←Nat.shiftLeft_add_eq_or_of_lt (by omega)]
 rw[h1,Qp3 (by omega) (by omega)]
 omega
def isB(l:List Int):Prop:=∀x∈l,0≤x∧x<256
theorem YW{l m:List Int}:isB (l++m)↔isB l∧isB m:=by
 simp only[isB,List.mem_append]
 constructor
 ·intro h;exact⟨fun x hx=>h x (.inl hx),fun x hx=>h x (.inr hx)⟩
 ·rintro⟨h1,h2⟩ x (hx|hx)
  ·exact h1 x hx
  ·exact h2 x hx
theorem JA:isB []:=by simp[isB]
theorem QdB{a:Int}{l:List Int}:isB (a::l)↔(0≤a∧a<256)∧isB l:=by simp[isB]
def u8s(l:List Int):List UInt8:=l.map fun n=>UInt8.ofNat n.toNat
theorem Qgn(l:List Int):(bofL l).toList=u8s l:=by
 rw[ByteArray.toList_eq]
 have key:∀(l:List Int) (s:ByteArray),(l.foldl (fun(s:ByteArray) n=>s.push (UInt8.ofNat n.toNat)) s).data.toList=s.data.toList++u8s l:=by
  intro l
  induction l with
  |nil=>intro s;simp[u8s]
  |cons a l ih=>intro s;rw[List.foldl_cons,ih];simp[u8s]
 have:=key l ByteArray.empty
 simpa[bofL] using this
theorem Qnl{x:Int}(h:0≤x∧x<256):((UInt8.ofNat x.toNat).toNat:Int)=x:=by
 have:x.toNat<256:=by omega
 simp[UInt8.toNat_ofNat']
 omega
theorem Qvp:∀{l m:List Int},isB l→isB m→u8s l=u8s m→l=m:=by
 intro l
 induction l with
 |nil=>intro m _ _ h;cases m with
  |nil=>rfl
  |cons _ _=>simp[u8s]at h
 | cons a l ih=>
  intro m hl hm h
  cases m with
  |nil=>simp[u8s]at h
  |cons b m=>
   rw[QdB]at hl hm
   simp only[u8s,List.map_cons,List.cons.injEq]at h
   obtain⟨h1,h2⟩:=h
   have:=ih hl.2 hm.2 h2
   subst this
   have:=congrArg (fun(u:UInt8)=>(u.toNat:Int)) h1
   simp only[Qnl hl.1,Qnl hm.1]at this
   subst this;rfl
def runL{α σ ρ:Type}(f:σ→Nat→α→Option (Sum ρ σ))(fin:σ→Option ρ):σ→Nat→List α→Option ρ
 |s,_, []=>fin s
 |s,i,x::l=>(f s i x).bind fun t=>match t with| .inl r=>some r| .inr s'=>runL f fin s' (i+1) l
theorem Qp4{Y α σ ρ:Type}{L:Nat→Y→Option ρ}(enc:σ→Nat→Y)(l:List α){f:σ→Nat→α→Option (Sum ρ σ)}{fin:σ→Option ρ}
  (h0:∀k s,L (k+1) (enc s l.length)=fin s)
  (h1:∀k s i x,i<l.length→l[i]?=some x→L (k+1) (enc s i)=(f s i x).bind fun t=>match t with| .inl r=>some r| .inr s'=>L k (enc s' (i+1))):
  ∀(m:List α) (s:σ) (i k:Nat),l.drop i=m→i≤l.length→m.length<k→L k (enc s i)=runL f fin s i m:=by
 intro m
 induction m with
 | nil=>
  intro s i k hm hi hk
  obtain⟨k,rfl⟩:∃j,k=j+1:=⟨k-1,by simp at hk;omega⟩
  have:i=l.length:=by
   have:=congrArg List.length hm
   simp at this;omega
  subst this
  exact h0 k s
 | cons x m ih=>
  intro s i k hm hi hk
  obtain⟨k,rfl⟩:∃j,k=j+1:=⟨k-1,by simp at hk;omega⟩
  have hlt:i<l.length:=by
   have:=congrArg List.length hm
   simp at this;omega
  have hx:l[i]?=some x:=by
   have:=congrArg (fun(l:List α)=>l[0]?) hm
   simpa using this
  have hd:l.drop (i+1)=m:=by rw[←List.drop_drop,hm];rfl
  rw[h1 k s i x hlt hx]
  unfold runL
  cases f s i x with
  |none=>rfl
  |some t=>
   cases t with
   |inl r=>rfl
   |inr s'=>exact ih s' (i+1) k hd (by omega) (by simp at hk;omega)
theorem QfP{Y α σ ρ:Type}{L:Nat→Y→Option ρ}(enc:σ→Nat→Y)(l:List α)(f:σ→Nat→α→Option (Sum ρ σ))(fin:σ→Option ρ)(s:σ){k:Nat}(hk:l.length<k)
  (h0:∀k s,L (k+1) (enc s l.length)=fin s)
  (h1:∀k s i x,i<l.length→l[i]?=some x→L (k+1) (enc s i)=(f s i x).bind fun t=>match t with| .inl r=>some r| .inr s'=>L k (enc s' (i+1))):
  L k (enc s 0)=runL f fin s 0 l:=Qp4 enc l h0 h1 l s 0 k rfl (by omega) hk
theorem QiS{α σ β:Type}{good:α→Bool}{v:Nat→β}:∀{l:List α} {s:σ} {i:Nat} {f:σ→Nat→α→Option (Sum (Sum β Unit) σ)} (_:∀s i x,x∈l→f s i x=some (bif good x then .inr s else .inl (.inl (v i)))),
  (l.all good=true→runL f (fun _=>some (.inr ())) s i l=some (.inr ()))∧(l.all good=false→∃j,i≤j∧j<i+l.length∧runL f (fun _=>some (.inr ())) s i l=some (.inl (v j))):=by
 intro l
 induction l with
 |nil=>intro s i f _;exact⟨fun _=>rfl,fun h=>by simp at h⟩
 | cons x l ih=>
  intro s i f hf
  have hx:=hf s i x (by simp)
  unfold runL
  rw[hx]
  cases hg:good x with
  |false=>
   refine⟨fun h=>by simp[hg]at h,fun _=>⟨i,Nat.le_refl _,by simp,?_⟩⟩
   rfl
  | true=>
   obtain⟨i1,i2⟩:=ih (s:=s) (i:=i+1) (f:=f) (fun s i y hy=>hf s i y (by simp[hy]))
   refine⟨fun h=> ?_,fun h=> ?_⟩
   ·exact i1 (by simpa[hg] using h)
   ·obtain⟨j,h1,h2,h3⟩:=i2 (by simpa[hg] using h)
    exact⟨j,by omega,by simp;omega,h3⟩
theorem JJ{α:Type}{l:List α}{i:Nat}{x:α}(h:l[i]?=some x):getI l (i:Int)=some x:=by rw[Jm,h]
theorem Qvq{α β:Type}{l:List α}{m:List β}{i:Nat}{x:α×β}(h:(l.zip m)[i]?=some x):l[i]?=some x.1∧m[i]?=some x.2:=by
 have:=List.getElem?_zip_eq_some.1 (by simpa using h)
 exact this
theorem wrap_succ{i:Nat}(h:i<1000000000000):IntKind.wrap .i64 ((i:Int)+1)=((i+1:Nat):Int):=by rw[wrap64 (by omega) (by omega)];rfl
theorem Qoz{α:Type} [DecidableEq α]:∀{l m:List α},l.length=m.length→((l.zip m).all (fun x=>decide (x.1=x.2))=decide (l=m)):=by
 intro l
 induction l with
 |nil=>intro m h;cases m with|nil=>rfl|cons _ _=>simp at h
 | cons a l ih=>
  intro m h
  cases m with
  |nil=>simp at h
  |cons b m=>
   simp only[List.zip_cons_cons,List.all_cons]
   rw[ih (by simpa using h)]
   simp
end Go.Sep
namespace Go.Proofs.YtomndohdnfebgaaGreatDoor
open Go Go.Sep
def XY:Vector Int 8:=vofL 8 [1779033703,3144134277,1013904242,2773480762,1359893119,2600822924,528734635,1541459225]
def gl_K:Vector Int 64:=vofL 64 [1116352408,1899447441,3049323471,3921009573,961987163,1508970993,2453635748,2870763221,3624381080,310598401,607225278,1426881987,1925078388,2162078206,2614888103,3248222580,3835390401,4022224774,264347078,604807628,770255983,1249150122,1555081692,1996064986,2554220882,2821834349,2952996808,3210313671,3336571891,3584528711,113926993,338241895,666307205,773529912,1294757372,1396182291,1695183700,1986661051,2177026350,2456956037,2730485921,2820302411,3259730800,3345764771,3516065817,3600352804,4094571909,275423344,430227734,506948616,659060556,883997877,958139571,1322822218,1537002063,1747873779,1955562222,2024104815,2227730452,2361852424,2428436474,2756734187,3204031479,3329325298]
structure Qq where
 fParts:(List (Vector Int 32))
 fWits:(List (Vector Int 32))
 fNeed:Int
 deriving DecidableEq
@[reducible] def Qa7 : Kd Qq := QaC (fun x => (x.fParts, x.fWits, x.fNeed)) (YF (qc (Zh .u8 32)) (YF (qc (Zh .u8 32)) (YJ .i64)))
structure QO where
 fWit:Int
 fTag:(Vector Int 32)
 deriving DecidableEq
@[reducible] def J3 : Kd QO := QaC (fun x => (x.fWit, x.fTag)) (YF (YJ .i64) (Zh .u8 32))
structure Qo where
 fSize:Int
 fRoot:(Vector Int 32)
 fSigs:(List QO)
 deriving DecidableEq
@[reducible] def QiT : Qo := ⟨(0 : Int), (Vector.replicate 32 (0 : Int)), ([] : List QO)⟩
@[reducible] def Qao : Kd Qo := QaC (fun x => (x.fSize, x.fRoot, x.fSigs)) (YF (YJ .i64) (YF (Zh .u8 32) (qc J3)))
structure Qp where
 fPart:Int
 fKind:Int
 deriving DecidableEq
@[reducible] def QbW : Qp := ⟨(0 : Int), (0 : Int)⟩
@[reducible] def J4 : Kd Qp := QaC (fun x => (x.fPart, x.fKind)) (YF (YJ .i64) (YJ .i64))
structure Qm where
 fKind:Int
 fSaga:Int
 fSeq:Int
 fStep:Int
 fTry:Int
 fBack:Bool
 fGood:Bool
 fEnd:Int
 fPart:Int
 fEpoch:Int
 fTag:(Vector Int 32)
 fSteps:(List Qp)
 fData:(List Int)
 fSalt:(Vector Int 32)
 fGone:Bool
 fCom:(Vector Int 32)
 deriving DecidableEq
@[reducible] def Qr : Qm := ⟨(0 : Int), (0 : Int), (0 : Int), (0 : Int), (0 : Int), false, false, (0 : Int), (0 : Int), (0 : Int), (Vector.replicate 32 (0 : Int)), ([] : List Qp), ([] : List Int), (Vector.replicate 32 (0 : Int)), false, (Vector.replicate 32 (0 : Int))⟩
@[reducible] def Qe3 : Kd Qm := QaC (fun x => (x.fKind, x.fSaga, x.fSeq, x.fStep, x.fTry, x.fBack, x.fGood, x.fEnd, x.fPart, x.fEpoch, x.fTag, x.fSteps, x.fData, x.fSalt, x.fGone, x.fCom)) (YF (YJ .i64) (YF (YJ .i64) (YF (YJ .i64) (YF (YJ .i64) (YF (YJ .i64) (YF QbR (YF QbR (YF (YJ .i64) (YF (YJ .i64) (YF (YJ .i64) (YF (Zh .u8 32) (YF (qc J4) (YF (qc (YJ .u8)) (YF (Zh .u8 32) (YF QbR (Zh .u8 32))))))))))))))))
structure Qa8 where
 fKind:Int
 fSaga:Int
 fSeq:Int
 fStep:Int
 fTry:Int
 fBack:Bool
 fGood:Bool
 fGone:Bool
 fEnd:Int
 fPart:Int
 fEpoch:Int
 deriving DecidableEq
@[reducible] def QhN : Kd Qa8 := QaC (fun x => (x.fKind, x.fSaga, x.fSeq, x.fStep, x.fTry, x.fBack, x.fGood, x.fGone, x.fEnd, x.fPart, x.fEpoch)) (YF (YJ .i64) (YF (YJ .i64) (YF (YJ .i64) (YF (YJ .i64) (YF (YJ .i64) (YF QbR (YF QbR (YF QbR (YF (YJ .i64) (YF (YJ .i64) (YJ .i64)))))))))))
structure Qz where
 fAt:Int
 fRec:Qm
 fPath:(List (Vector Int 32))
 deriving DecidableEq
@[reducible] def QdC : Kd Qz := QaC (fun x => (x.fAt, x.fRec, x.fPath)) (YF (YJ .i64) (YF Qe3 (qc (Zh .u8 32))))
structure QS where
 fWhole:Bool
 fPoint:Qo
 fItems:(List Qz)
 deriving DecidableEq
@[reducible] def Jd : QS := ⟨false, QiT, ([] : List Qz)⟩
@[reducible] def Qgo : Kd QS := QaC (fun x => (x.fWhole, x.fPoint, x.fItems)) (YF QbR (YF Qao (qc QdC)))
structure Qu where
 fPhase:Int
 fMissing:Int
 deriving DecidableEq
@[reducible] def QdD : Kd Qu := QaC (fun x => (x.fPhase, x.fMissing)) (YF (YJ .i64) (YJ .i64))
structure Y7 where
 fCode:Int
 fSagas:(List Int)
 fLines:(List Qu)
 deriving DecidableEq
@[reducible] def Yf : Y7 := ⟨(0 : Int), ([] : List Int), ([] : List Qu)⟩
@[reducible] def Qfq : Kd Y7 := QaC (fun x => (x.fCode, x.fSagas, x.fLines)) (YF (YJ .i64) (YF (qc (YJ .i64)) (qc QdD)))
structure Qk where
 fB:(List Int)
 fBad:Int
 deriving DecidableEq
@[reducible] def Qfr : Kd Qk := QaC (fun x => (x.fB, x.fBad)) (YF (qc (YJ .u8)) (YJ .i64))
structure Zj where
 fTag:(Vector Int 32)
 deriving DecidableEq
@[reducible] def QhO : Kd Zj := QaC (fun x => (x.fTag)) (Zh .u8 32)
structure Y4 where
 fK:Qq
 fLimit:Int
 deriving DecidableEq
@[reducible] def QdE : Kd Y4 := QaC (fun x => (x.fK, x.fLimit)) (YF Qa7 (YJ .i64))
structure Jn where
 fL:(List (Vector Int 32))
 deriving DecidableEq
@[reducible] def JO : Kd Jn := QaC (fun x => (x.fL)) (qc (Zh .u8 32))
structure Qe4 where
 fTrees:Jn
 fN:Int
 deriving DecidableEq
@[reducible] def Qgp : Kd Qe4 := QaC (fun x => (x.fTrees, x.fN)) (YF JO (YJ .i64))
structure QL where
 fSteps:(List Qp)
 fPhase:Int
 fAt:Int
 fTries:Int
 fWait:Bool
 fBack:Bool
 fDone:Int
 fUndone:Int
 fSome:Int
 fSeq:Int
 deriving DecidableEq
@[reducible] def QC : QL := ⟨([] : List Qp), (0 : Int), (0 : Int), (0 : Int), false, false, (0 : Int), (0 : Int), (0 : Int), (0 : Int)⟩
@[reducible] def qR : Kd QL := QaC (fun x => (x.fSteps, x.fPhase, x.fAt, x.fTries, x.fWait, x.fBack, x.fDone, x.fUndone, x.fSome, x.fSeq)) (YF (qc J4) (YF (YJ .i64) (YF (YJ .i64) (YF (YJ .i64) (YF QbR (YF QbR (YF (YJ .i64) (YF (YJ .i64) (YF (YJ .i64) (YJ .i64))))))))))
structure Yo where
 fEpochs:(Vector Int 4)
 fSagas:(List QL)
 deriving DecidableEq
@[reducible] def QiU : Kd Yo := QaC (fun x => (x.fEpochs, x.fSagas)) (YF (Zh .i64 4) (qc qR))
structure Qa9 where
 fKind:Int
 fStep:Int
 fTry:Int
 fBack:Bool
 fEnd:Int
 deriving DecidableEq
@[reducible] def QhP : Kd Qa9 := QaC (fun x => (x.fKind, x.fStep, x.fTry, x.fBack, x.fEnd)) (YF (YJ .i64) (YF (YJ .i64) (YF (YJ .i64) (YF QbR (YJ .i64)))))
def Y5.f(K:Nat)(x1:Int):Option ((List Int)):=
 (bif (decide (x1<(0:Int)))then none else(bif (decide ((0:Int)<(IntKind.wrap .i64 (x1-(IntKind.wrap .i64 (((0:Nat):Int)-((0:Nat):Int)))))))then((QaE 1 ((0:Int)) (IntKind.wrap .i64 (x1-(IntKind.wrap .i64 (((0:Nat):Int)-((0:Nat):Int)))))).bind fun(l37:(List Int))=>((subI (l37) 0 ((0:Nat):Int)).bind fun(l44:(List Int))=>(some l44)))else(some ([]:List Int))))
def QA.b(K:Nat)(x1:(List (List Int)))(rec:(Int×Int)→Option (Int))(y1:Int×Int):Option (Int):=
 (bif (decide (y1.2<((List.length (x1):Nat):Int)))then((getI (x1) y1.2).bind fun(x2:(List Int))=>(bif (decide ((IntKind.wrap .i64 (y1.1+((List.length (x2):Nat):Int)))<(0:Int)))then none else(rec ((IntKind.wrap .i64 (y1.1+((List.length (x2):Nat):Int))),(IntKind.wrap .i64 (y1.2+(1:Int)))))))else(some y1.1))
def QA.l(K:Nat)(x1:(List (List Int))):Nat→(Int×Int)→Option (Int)
 |0,_=>none
 |k+1,y=>QA.b K x1 (QA.l K x1 k) y
theorem QA.some{K:Nat}(x1:(List (List Int))){k:Nat}{y:Int×Int}{s:(Int)}(h:QA.l K x1 k y=some s):∃k',k=k'+1∧QA.b K x1 (QA.l K x1 k') y=some s:=by
 cases k with
 |zero=>cases h
 |succ k=>exact⟨k,rfl,h⟩
def QB.b(K:Nat)(x1:(List (List Int)))(rec:((List Int)×Int)→Option ((List Int)))(y1:(List Int)×Int):Option ((List Int)):=
 (bif (decide (y1.2<((List.length (x1):Nat):Int)))then((getI (x1) y1.2).bind fun(x2:(List Int))=>((catI 1 (y1.1) (x2)).bind fun(l1:(List Int))=>(rec (l1,(IntKind.wrap .i64 (y1.2+(1:Int)))))))else(some y1.1))
def QB.l(K:Nat)(x1:(List (List Int))):Nat→((List Int)×Int)→Option ((List Int))
 |0,_=>none
 |k+1,y=>QB.b K x1 (QB.l K x1 k) y
theorem QB.some{K:Nat}(x1:(List (List Int))){k:Nat}{y:(List Int)×Int}{s:((List Int))}(h:QB.l K x1 k y=some s):∃k',k=k'+1∧QB.b K x1 (QB.l K x1 k') y=some s:=by
 cases k with
 |zero=>cases h
 |succ k=>exact⟨k,rfl,h⟩
def QW.f(K:Nat)(x1:(List (List Int))):Option ((List Int)):=
 ((QA.l K x1 K ((0:Int),(0:Int))).bind fun(z1:Int)=>((Y5.f K (z1)).bind fun(r1:((List Int)))=>((QB.l K x1 K (r1,(0:Int))).bind fun(z2:(List Int))=>(some z2))))
def Qw.b(K:Nat)(rec:((List Int)×Int×Int)→Option ((List Int)))(y1:(List Int)×Int×Int):Option ((List Int)):=
 (bif (decide (y1.2.1<y1.2.2))then((getI (y1.1) y1.2.2).bind fun(x1:Int)=>((getI (y1.1) y1.2.1).bind fun(x2:Int)=>((getI (y1.1) y1.2.1).bind fun(x3:Int)=>((getI ((List.set (y1.1) (Int.toNat (y1.2.1)) (x1))) y1.2.2).bind fun(x4:Int)=>(rec ((List.set ((List.set (y1.1) (Int.toNat (y1.2.1)) (x1))) (Int.toNat (y1.2.2)) (x2)),(IntKind.wrap .i64 (y1.2.1+(1:Int))),(IntKind.wrap .i64 (y1.2.2-(1:Int)))))))))else(some y1.1))
def Qw.l(K:Nat):Nat→((List Int)×Int×Int)→Option ((List Int))
 |0,_=>none
 |k+1,y=>Qw.b K (Qw.l K k) y
theorem Qw.some{K:Nat}{k:Nat}{y:(List Int)×Int×Int}{s:((List Int))}(h:Qw.l K k y=some s):∃k',k=k'+1∧Qw.b K (Qw.l K k') y=some s:=by
 cases k with
 |zero=>cases h
 |succ k=>exact⟨k,rfl,h⟩
def Q8.f(K:Nat)(x1:(List Int)):Option ((List Int)):=
 ((Qw.l K K (x1,(0:Int),(IntKind.wrap .i64 (((List.length (x1):Nat):Int)-(1:Int))))).bind fun(z1:(List Int))=>(some z1))
theorem Q8.len{K:Nat}{x r:(List Int)}(h:Q8.f K x=some r):r.length=x.length:=by
 have key:∀k y z,Qw.l K k y=some z→z.length=y.1.length:=by
  intro k
  induction k with
  |zero=>intro y z h;cases h
  | succ k ih=>
   intro y z h
   have h:Qw.b K (Qw.l K k) y=some z:=h
   unfold Qw.b at h
   cases hc:decide (y.2.1<y.2.2)with
   |false=>rw[hc]at h;cases h;rfl
   |true=>
    rw[hc]at h
    replace h:=Qun rfl h
    obtain⟨_,_,h⟩:=bind_some h
    obtain⟨_,_,h⟩:=bind_some h
    obtain⟨_,_,h⟩:=bind_some h
    obtain⟨_,_,h⟩:=bind_some h
    have:=ih _ _ h
    simpa using this
 unfold Q8.f at h
 obtain⟨z,hz,h⟩:=bind_some h
 cases h
 exact key _ _ _ hz
def Yd.f(K:Nat)(x1:(List Int)):Option ((List Int)):=
 ((catI 1 (([]:List Int)) (x1)).bind fun(l26:(List Int))=>(some l26))
def Yh.f(K:Nat)(x1:(List QO)):Option ((List QO)):=
 ((catI 40 (([]:List QO)) (x1)).bind fun(l26:(List QO))=>(some l26))
def QJ.f(K:Nat)(x1:(List Qp)):Option ((List Qp)):=
 ((catI 16 (([]:List Qp)) (x1)).bind fun(l26:(List Qp))=>(some l26))
def Q3.f(K:Nat)(x1:(List QL)):Option ((List QL)):=
 ((catI 88 (([]:List QL)) (x1)).bind fun(l26:(List QL))=>(some l26))
def Zk.f(K:Nat):Option (Qq):=
 ((some (Qq.mk (([(vofL 32 [(1:Int),(0:Int),(0:Int),(0:Int),(0:Int),(0:Int),(0:Int),(0:Int),(0:Int),(0:Int),(0:Int),(0:Int),(0:Int),(0:Int),(0:Int),(0:Int),(0:Int),(0:Int),(0:Int),(0:Int),(0:Int),(0:Int),(0:Int),(0:Int),(0:Int),(0:Int),(0:Int),(0:Int),(0:Int),(0:Int),(0:Int),(0:Int)]),(vofL 32 [(2:Int),(0:Int),(0:Int),(0:Int),(0:Int),(0:Int),(0:Int),(0:Int),(0:Int),(0:Int),(0:Int),(0:Int),(0:Int),(0:Int),(0:Int),(0:Int),(0:Int),(0:Int),(0:Int),(0:Int),(0:Int),(0:Int),(0:Int),(0:Int),(0:Int),(0:Int),(0:Int),(0:Int),(0:Int),(0:Int),(0:Int),(0:Int)])]:List (Vector Int 32))) (([(vofL 32 [(3:Int),(0:Int),(0:Int),(0:Int),(0:Int),(0:Int),(0:Int),(0:Int),(0:Int),(0:Int),(0:Int),(0:Int),(0:Int),(0:Int),(0:Int),(0:Int),(0:Int),(0:Int),(0:Int),(0:Int),(0:Int),(0:Int),(0:Int),(0:Int),(0:Int),(0:Int),(0:Int),(0:Int),(0:Int),(0:Int),(0:Int),(0:Int)]),(vofL 32 [(4:Int),(0:Int),(0:Int),(0:Int),(0:Int),(0:Int),(0:Int),(0:Int),(0:Int),(0:Int),(0:Int),(0:Int),(0:Int),(0:Int),(0:Int),(0:Int),(0:Int),(0:Int),(0:Int),(0:Int),(0:Int),(0:Int),(0:Int),(0:Int),(0:Int),(0:Int),(0:Int),(0:Int),(0:Int),(0:Int),(0:Int),(0:Int)]),(vofL 32 [(5:Int),(0:Int),(0:Int),(0:Int),(0:Int),(0:Int),(0:Int),(0:Int),(0:Int),(0:Int),(0:Int),(0:Int),(0:Int),(0:Int),(0:Int),(0:Int),(0:Int),(0:Int),(0:Int),(0:Int),(0:Int),(0:Int),(0:Int),(0:Int),(0:Int),(0:Int),(0:Int),(0:Int),(0:Int),(0:Int),(0:Int),(0:Int)])]:List (Vector Int 32))) ((2:Int)))).bind fun(v51:Qq)=>(some v51))
def JK.f(K:Nat)(x1:Int)(x2:Int)(x3:Int):Option (Bool):=
 (bif (decide (x2≤x1))then(some (decide (x1≤x3)))else(some false))
def Z4.f(K:Nat)(x1:Qq):Option (Bool):=
 ((JK.f K (((List.length (x1.fParts):Nat):Int)) ((1:Int)) ((4:Int))).bind fun(r57:(Bool))=>(bif r57 then((JK.f K (((List.length (x1.fWits):Nat):Int)) ((1:Int)) ((4:Int))).bind fun(r62:(Bool))=>(bif r62 then((JK.f K (x1.fNeed) ((1:Int)) (((List.length (x1.fWits):Nat):Int))).bind fun(r67:(Bool))=>(some r67))else(some false)))else(some false)))
def Zd.f(K:Nat)(x1:Qq)(x8:Int)(x9:Int):Option (Bool):=
 ((Z4.f K (x1)).bind fun(r59:(Bool))=>(bif r59 then((JK.f K (x8) ((0:Int)) ((IntKind.wrap .i64 (((List.length (x1.fParts):Nat):Int)-(1:Int))))).bind fun(r64:(Bool))=>(bif r64 then((JK.f K (x9) ((0:Int)) ((400:Int))).bind fun(r69:(Bool))=>(some r69))else(some false)))else(some false)))
def Y8.b(K:Nat)(x2:Int)(l1:(List Int))(rec:(Int×(List Int)×Int)→Option ((List Int)))(y1:Int×(List Int)×Int):Option ((List Int)):=
 (bif (decide (y1.2.2<((List.length (l1):Nat):Int)))then((getI (y1.2.1) (IntKind.wrap .i64 ((IntKind.wrap .i64 (x2-(1:Int)))-y1.2.2))).bind fun(x1:Int)=>(rec ((Int.fdiv y1.1 (2^8)),(List.set (y1.2.1) (Int.toNat ((IntKind.wrap .i64 ((IntKind.wrap .i64 (x2-(1:Int)))-y1.2.2)))) ((IntKind.wrap .u8 y1.1))),(IntKind.wrap .i64 (y1.2.2+(1:Int))))))else(some y1.2.1))
def Y8.l(K:Nat)(x2:Int)(l1:(List Int)):Nat→(Int×(List Int)×Int)→Option ((List Int)):=Jj (Y8.b K x2 l1)
def Qdh.f(K:Nat)(x1:Int)(x2:Int):Option ((List Int)):=
 ((QaE 1 ((0:Int)) x2).bind fun(l1:(List Int))=>((Y8.l K x2 l1 K (x1,l1,(0:Int))).bind fun(z1:(List Int))=>(some z1)))
def QaG.f(K:Nat)(x1:Int):Option ((List Int)):=
 ((Qdh.f K ((IntKind.wrap .u64 x1)) ((8:Int))).bind fun(r17:((List Int)))=>(some r17))
def YK.b(K:Nat)(x1:(List Int))(rec:((List Int)×Int)→Option ((List Int)))(y1:(List Int)×Int):Option ((List Int)):=
 (bif (decide (y1.2<((List.length (x1):Nat):Int)))then((getI (x1) y1.2).bind fun(x2:Int)=>((QaG.f K (x2)).bind fun(r1:((List Int)))=>((catI 1 (y1.1) (r1)).bind fun(l1:(List Int))=>(rec (l1,(IntKind.wrap .i64 (y1.2+(1:Int))))))))else(some y1.1))
def YK.l(K:Nat)(x1:(List Int)):Nat→((List Int)×Int)→Option ((List Int)):=Jj (YK.b K x1)
def XC.f(K:Nat)(x1:(List Int)):Option ((List Int)):=
 ((YK.l K x1 K (([]:List Int),(0:Int))).bind fun(z1:(List Int))=>(some z1))
def JS.b(K:Nat)(x1:Int)(rec:(List Int)→Option ((List Int)))(y1:(List Int)):Option ((List Int)):=
 (bif (!decide ((Int.tmod (IntKind.wrap .i64 (x1+((List.length (y1):Nat):Int))) 64)=(56:Int)))then((catI 1 (y1) (([(0:Int)]:List Int))).bind fun(l1:(List Int))=>(rec l1))else(some y1))
def JS.l(K:Nat)(x1:Int):Nat→((List Int))→Option ((List Int)):=Jj (JS.b K x1)
def qf.b(K:Nat)(x1:Int)(rec:((List Int)×Int)→Option ((List Int)))(y1:(List Int)×Int):Option ((List Int)):=
 (bif (decide ((0:Int)≤y1.2))then(chk (!(decide ((IntKind.wrap .i64 ((8:Int)*y1.2))<0))) ((catI 1 (y1.1) (([(IntKind.wrap .u8 (Int.fdiv (IntKind.wrap .u64 ((IntKind.wrap .u64 x1)*(8:Int))) (2^(min (Int.toNat (IntKind.wrap .i64 ((8:Int)*y1.2))) 64))))]:List Int))).bind fun(l1:(List Int))=>(rec (l1,(IntKind.wrap .i64 (y1.2-(1:Int)))))))else(some y1.1))
def qf.l(K:Nat)(x1:Int):Nat→((List Int)×Int)→Option ((List Int)):=Jj (qf.b K x1)
def QdF.f(K:Nat)(x1:Int):Option ((List Int)):=
 (bif (decide (x1<(0:Int)))then(some ([]:List Int))else((JS.l K x1 K ([(128:Int)]:List Int)).bind fun(z1:(List Int))=>((qf.l K x1 K (z1,(7:Int))).bind fun(z2:(List Int))=>(some z2))))
def Qeo.f(K:Nat)(x1:(List Int)):Option ((List Int)):=
 (some x1)
def YH.f(K:Nat)(x1:Int)(x2:Int):Option (Int):=
 (chk (!(decide ((band .u64 (IntKind.wrap .u64 x2) (31:Int))<0))) (chk (!(decide ((IntKind.wrap .u64 ((32:Int)-(band .u64 (IntKind.wrap .u64 x2) (31:Int))))<0))) (some (bor .u32 (IntKind.wrap .u32 (x1*2^(min (Int.toNat (band .u64 (IntKind.wrap .u64 x2) (31:Int))) 32))) (Int.fdiv x1 (2^(min (Int.toNat (IntKind.wrap .u64 ((32:Int)-(band .u64 (IntKind.wrap .u64 x2) (31:Int))))) 32)))))))
def Zl.f(K:Nat)(x1:Int)(x2:Int)(x3:Int)(x4:Int):Option (Int):=
 (chk (!(decide (x4<0))) ((YH.f K (x1) ((IntKind.wrap .i64 (0-x2)))).bind fun(r17:(Int))=>((YH.f K (x1) ((IntKind.wrap .i64 (0-x3)))).bind fun(r22:(Int))=>(some (bxor .u32 (bxor .u32 r17 r22) (Int.fdiv x1 (2^(min (Int.toNat x4) 32))))))))
def Yb.b(K:Nat)(x1:(List Int))(rec:(Int×(Vector Int 64))→Option ((Vector Int 64)))(y1:Int×(Vector Int 64)):Option ((Vector Int 64)):=
 (bif (decide (y1.1<(64:Int)))then(jn (fun(y2:(Vector Int 64))=>(rec ((IntKind.wrap .i64 (y1.1+(1:Int))),y2))) (fun j1=>(bif (decide (y1.1<(16:Int)))then((getI (x1) (IntKind.wrap .i64 ((4:Int)*y1.1))).bind fun(x2:Int)=>((getI (x1) (IntKind.wrap .i64 ((IntKind.wrap .i64 ((4:Int)*y1.1))+(1:Int)))).bind fun(x3:Int)=>((getI (x1) (IntKind.wrap .i64 ((IntKind.wrap .i64 ((4:Int)*y1.1))+(2:Int)))).bind fun(x4:Int)=>((getI (x1) (IntKind.wrap .i64 ((IntKind.wrap .i64 ((4:Int)*y1.1))+(3:Int)))).bind fun(x5:Int)=>(chk (inA 64 y1.1) ((some (vset (y1.2) (Int.toNat (y1.1)) ((bor .u32 (bor .u32 (bor .u32 (IntKind.wrap .u32 ((IntKind.wrap .u32 x2)*2^24)) (IntKind.wrap .u32 ((IntKind.wrap .u32 x3)*2^16))) (IntKind.wrap .u32 ((IntKind.wrap .u32 x4)*2^8))) (IntKind.wrap .u32 x5))))).bind fun(v1:(Vector Int 64))=>(j1 v1)))))))else(chk (inA 64 (IntKind.wrap .i64 (y1.1-(2:Int)))) (chk (inA 64 (IntKind.wrap .i64 (y1.1-(7:Int)))) (chk (inA 64 (IntKind.wrap .i64 (y1.1-(15:Int)))) (chk (inA 64 (IntKind.wrap .i64 (y1.1-(16:Int)))) ((Zl.f K ((vget (y1.2) (Int.toNat ((IntKind.wrap .i64 (y1.1-(2:Int))))))) ((17:Int)) ((19:Int)) ((10:Int))).bind fun(r1:(Int))=>((Zl.f K ((vget (y1.2) (Int.toNat ((IntKind.wrap .i64 (y1.1-(15:Int))))))) ((7:Int)) ((18:Int)) ((3:Int))).bind fun(r2:(Int))=>(chk (inA 64 y1.1) ((some (vset (y1.2) (Int.toNat (y1.1)) ((IntKind.wrap .u32 ((IntKind.wrap .u32 ((IntKind.wrap .u32 (r1+(vget (y1.2) (Int.toNat ((IntKind.wrap .i64 (y1.1-(7:Int))))))))+r2))+(vget (y1.2) (Int.toNat ((IntKind.wrap .i64 (y1.1-(16:Int))))))))))).bind fun(v2:(Vector Int 64))=>(j1 v2))))))))))))else(some y1.2))
def Yb.l(K:Nat)(x1:(List Int)):Nat→(Int×(Vector Int 64))→Option ((Vector Int 64)):=Jj (Yb.b K x1)
def XI.f(K:Nat)(x1:(List Int)):Option ((Vector Int 64)):=
 ((Yb.l K x1 K ((0:Int),(Vector.replicate 64 (0:Int)))).bind fun(z1:(Vector Int 64))=>(some z1))
def Xp.f(K:Nat)(x1:Int)(x2:Int)(x3:Int)(x4:Int):Option (Int):=
 ((YH.f K (x1) ((IntKind.wrap .i64 (0-x2)))).bind fun(r20:(Int))=>((YH.f K (x1) ((IntKind.wrap .i64 (0-x3)))).bind fun(r25:(Int))=>((YH.f K (x1) ((IntKind.wrap .i64 (0-x4)))).bind fun(r30:(Int))=>(some (bxor .u32 (bxor .u32 r20 r25) r30)))))
def YR.b(K:Nat)(r2:((Vector Int 64)))(rec:(Int×(Vector Int 8))→Option ((Vector Int 8)))(y1:Int×(Vector Int 8)):Option ((Vector Int 8)):=
 (bif (decide (y1.1<(64:Int)))then((getI (Ye (r2)) y1.1).bind fun(x1:Int)=>(chk (inA 64 y1.1) ((Xp.f K ((vget (y1.2) (Int.toNat ((4:Int))))) ((6:Int)) ((11:Int)) ((25:Int))).bind fun(r1:(Int))=>((Xp.f K ((vget (y1.2) (Int.toNat ((0:Int))))) ((2:Int)) ((13:Int)) ((22:Int))).bind fun(r3:(Int))=>((some (Qgj (y1.2) 1 0 7)).bind fun(v1:(Vector Int 8))=>((some (vset (v1) (Int.toNat ((4:Int))) ((IntKind.wrap .u32 ((vget (v1) (Int.toNat ((4:Int))))+(IntKind.wrap .u32 ((IntKind.wrap .u32 ((IntKind.wrap .u32 ((IntKind.wrap .u32 ((vget (y1.2) (Int.toNat ((7:Int))))+r1))+(bxor .u32 (band .u32 (vget (y1.2) (Int.toNat ((4:Int)))) (vget (y1.2) (Int.toNat ((5:Int))))) (band .u32 (bnot .u32 (vget (y1.2) (Int.toNat ((4:Int))))) (vget (y1.2) (Int.toNat ((6:Int))))))))+(vget (gl_K) (Int.toNat (y1.1)))))+x1))))))).bind fun(v2:(Vector Int 8))=>((some (vset (v2) (Int.toNat ((0:Int))) ((IntKind.wrap .u32 ((IntKind.wrap .u32 ((IntKind.wrap .u32 ((IntKind.wrap .u32 ((IntKind.wrap .u32 ((vget (y1.2) (Int.toNat ((7:Int))))+r1))+(bxor .u32 (band .u32 (vget (y1.2) (Int.toNat ((4:Int)))) (vget (y1.2) (Int.toNat ((5:Int))))) (band .u32 (bnot .u32 (vget (y1.2) (Int.toNat ((4:Int))))) (vget (y1.2) (Int.toNat ((6:Int))))))))+(vget (gl_K) (Int.toNat (y1.1)))))+x1))+(IntKind.wrap .u32 (r3+(bxor .u32 (bxor .u32 (band .u32 (vget (y1.2) (Int.toNat ((0:Int)))) (vget (y1.2) (Int.toNat ((1:Int))))) (band .u32 (vget (y1.2) (Int.toNat ((0:Int)))) (vget (y1.2) (Int.toNat ((2:Int)))))) (band .u32 (vget (y1.2) (Int.toNat ((1:Int)))) (vget (y1.2) (Int.toNat ((2:Int))))))))))))).bind fun(v3:(Vector Int 8))=>(rec ((IntKind.wrap .i64 (y1.1+(1:Int))),v3)))))))))else(some y1.2))
def YR.l(K:Nat)(r1:((Vector Int 64))):Nat→(Int×(Vector Int 8))→Option ((Vector Int 8)):=Jj (YR.b K r1)
def YS.b(K:Nat)(z1:(Vector Int 8))(rec:(Int×(Vector Int 8))→Option ((Vector Int 8)))(y1:Int×(Vector Int 8)):Option ((Vector Int 8)):=
 (bif (decide (y1.1<(8:Int)))then(chk (inA 8 y1.1) (chk (inA 8 y1.1) (chk (inA 8 y1.1) ((some (vset (y1.2) (Int.toNat (y1.1)) ((IntKind.wrap .u32 ((vget (y1.2) (Int.toNat (y1.1)))+(vget (z1) (Int.toNat (y1.1)))))))).bind fun(v1:(Vector Int 8))=>(rec ((IntKind.wrap .i64 (y1.1+(1:Int))),v1))))))else(some y1.2))
def YS.l(K:Nat)(z1:(Vector Int 8)):Nat→(Int×(Vector Int 8))→Option ((Vector Int 8)):=Jj (YS.b K z1)
def QcH.f(K:Nat)(x1:(Vector Int 8))(x2:(List Int)):Option ((Vector Int 8)):=
 (bif (!decide (((List.length (x2):Nat):Int)=(64:Int)))then(some x1)else((XI.f K (x2)).bind fun(r1:((Vector Int 64)))=>((YR.l K r1 K ((0:Int),x1)).bind fun(z1:(Vector Int 8))=>((YS.l K z1 K ((0:Int),x1)).bind fun(z2:(Vector Int 8))=>(some z2)))))
def JQ.b(K:Nat)(rec:((Vector Int 8)×(List Int))→Option ((Vector Int 8)×(List Int)))(y1:(Vector Int 8)×(List Int)):Option ((Vector Int 8)×(List Int)):=
 (bif (decide ((64:Int)≤((List.length (y1.2):Nat):Int)))then((subI (y1.2) 0 (64:Int)).bind fun(l1:(List Int))=>((QcH.f K (y1.1) (l1)).bind fun(r1:((Vector Int 8)))=>((subI (y1.2) (64:Int) ((List.length (y1.2):Nat):Int)).bind fun(l2:(List Int))=>(rec (r1,l2)))))else(some (y1.1,y1.2)))
def JQ.l(K:Nat):Nat→((Vector Int 8)×(List Int))→Option ((Vector Int 8)×(List Int)):=Jj (JQ.b K)
def YX.b(K:Nat)(z1:(Vector Int 8)×(List Int))(rec:(Int×(Vector Int 32))→Option ((Vector Int 32)))(y1:Int×(Vector Int 32)):Option ((Vector Int 32)):=
 (bif (decide (y1.1<(32:Int)))then(chk (inA 8 (IntKind.wrap .i64 (Int.tdiv y1.1 4))) (chk (!(decide ((IntKind.wrap .i64 ((24:Int)-(IntKind.wrap .i64 ((8:Int)*(Int.tmod y1.1 4)))))<0))) (chk (inA 32 y1.1) ((some (vset (y1.2) (Int.toNat (y1.1)) ((IntKind.wrap .u8 (Int.fdiv (vget (z1.1) (Int.toNat ((IntKind.wrap .i64 (Int.tdiv y1.1 4))))) (2^(min (Int.toNat (IntKind.wrap .i64 ((24:Int)-(IntKind.wrap .i64 ((8:Int)*(Int.tmod y1.1 4)))))) 32))))))).bind fun(v1:(Vector Int 32))=>(rec ((IntKind.wrap .i64 (y1.1+(1:Int))),v1))))))else(some y1.2))
def YX.l(K:Nat)(z1:(Vector Int 8)×(List Int)):Nat→(Int×(Vector Int 32))→Option ((Vector Int 32)):=Jj (YX.b K z1)
def Qep.f(K:Nat)(x1:(List (List Int))):Option ((Vector Int 32)):=
 ((QW.f K (x1)).bind fun(r1:((List Int)))=>((QdF.f K (((List.length (r1):Nat):Int))).bind fun(r2:((List Int)))=>((catI 1 (r1) (r2)).bind fun(l1:(List Int))=>((Qeo.f K (l1)).bind fun(r3:((List Int)))=>((JQ.l K K (XY,r3)).bind fun(z1:(Vector Int 8)×(List Int))=>((YX.l K z1 K ((0:Int),(Vector.replicate 32 (0:Int)))).bind fun(z2:(Vector Int 32))=>(some z2)))))))
end Go.Proofs.YtomndohdnfebgaaGreatDoor
