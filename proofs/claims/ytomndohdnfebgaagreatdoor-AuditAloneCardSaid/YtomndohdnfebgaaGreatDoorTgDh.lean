/-
 Data and plain functions, printed by a program: what the functions of the cut compute (fuel K; none: a panic, or the fuel is spent).
 Conditions: none; nothing is claimed here.
-/
import Derived.Test.YtomndohdnfebgaaGreatDoorSepM
import Derived.Laws.Strings
import Derived.Test.YtomndohdnfebgaaGreatDoorSepQ
import Derived.Test.YtomndohdnfebgaaGreatDoorSxB
set_option linter.unusedVariables false
namespace Go.Sep
theorem wrap64{n:Int}(h1: -9223372036854775808≤n)(h2:n<9223372036854775808):IntKind.wrap .i64 n=n:=by
 simp only[IntKind.wrap,IntKind.bits,IntKind.signed]
 simp
 split<;>omega
theorem Qrr{n:Int}(h1:0≤n)(h2:n<256):IntKind.wrap .u8 n=n:=by
 simp only[IntKind.wrap,IntKind.bits,IntKind.signed]
 simp
 omega
theorem Jz{α:Type}(l:List α)(n:Nat):getI l (n:Int)=l[n]?:=by simp[getI]
theorem QvM{α:Type}(l:List α):getI l 0=l[0]?:=Jz l 0
theorem YX{α:Type}{b:Nat}{l m:List α}(h:(l.length+m.length)*b≤140737488355328):catI b l m=some (l++m):=by simp[catI,h]
theorem QjY{α:Type}{l:List α}{a b:Nat}(h1:a≤b)(h2:b≤l.length):subI l (a:Int) (b:Int)=some ((l.take b).drop a):=by
 have:(a:Int)≤b:=by omega
 simp[subI,h1,h2]
theorem Qaz{α:Type}{l:List α}{b:Nat}(h2:b≤l.length):subI l 0 (b:Int)=some (l.take b):=by
 have:=QjY (l:=l) (Nat.zero_le b) h2
 simpa using this
theorem XV{α:Type}{l:List α}{a:Nat}(h1:a≤l.length):subI l (a:Int) ((l.length:Nat):Int)=some (l.drop a):=by
 rw[QjY h1 (Nat.le_refl _)];simp
theorem Qj{α:Type}{b:Bool}{x y:α}(h:b=true):(bif b then x else y)=x:=by rw[h];rfl
theorem Qi{α:Type}{b:Bool}{x y:α}(h:b=false):(bif b then x else y)=y:=by rw[h];rfl
theorem QK{p:Prop} [Decidable p](h:p):decide p=true:=decide_eq_true h
theorem QE{p:Prop} [Decidable p](h: ¬p):decide p=false:=decide_eq_false h
theorem QwI{a b:Int}{k:Nat}(ha:0≤a)(hb:0≤b)(hbk:b<2^k)(hab:a*2^k+b<9223372036854775808):bor .i64 (a*2^k) b=a*2^k+b:=by
 obtain⟨a,rfl⟩:=Int.eq_ofNat_of_zero_le ha
 obtain⟨b,rfl⟩:=Int.eq_ofNat_of_zero_le hb
 have hbk':b<2^k:=by exact_mod_cast hbk
 have e1:((a:Int)*2^k)=((a*2^k:Nat):Int):=by push_cast;rfl
 have hab':a*2^k+b<9223372036854775808:=by rw[e1]at hab;omega
 unfold bor
 rw[e1]
 have h1:(BitVec.ofInt (IntKind.bits .i64) ((a*2^k:Nat):Int)|||BitVec.ofInt (IntKind.bits .i64) (b:Int)).toNat=a*2^k+b:=by
  rw[BitVec.toNat_or]
  simp only[IntKind.bits,BitVec.ofInt_natCast,BitVec.toNat_ofNat]
  have q1:a*2^k<18446744073709551616:=by omega
  have q2:b<18446744073709551616:=by omega
  rw[show(2:Nat)^64=18446744073709551616 by decide,Nat.mod_eq_of_lt q1,Nat.mod_eq_of_lt q2]
  have e2:a*2^k=a<<<k:=(Nat.shiftLeft_eq a k).symm
  rw[e2,←Nat.shiftLeft_add_eq_or_of_lt hbk']
 rw[h1,wrap64 (by omega) (by omega)]
 push_cast;rfl
theorem Qyj:∀a:Nat,a<128→bor .u8 (a:Int) 128=(a:Int)+128:=by
 intro a ha
 unfold bor
 have h1:(BitVec.ofInt (IntKind.bits .u8) (a:Int)|||BitVec.ofInt (IntKind.bits .u8) 128).toNat=128+a:=by
  rw[BitVec.toNat_or]
  simp only[IntKind.bits,BitVec.ofInt_natCast,BitVec.toNat_ofNat]
  rw[Nat.mod_eq_of_lt (by omega)]
  show a|||128=_
  rw[Nat.or_comm,show(128:Nat)=1<<<7 by rfl,←Nat.shiftLeft_add_eq_or_of_lt (by omega)]
 rw[h1,Qrr (by omega) (by omega)]
 omega
def isB(l:List Int):Prop:=∀x∈l,0≤x∧x<256
theorem Jf{l m:List Int}:isB (l++m)↔isB l∧isB m:=by
 simp only[isB,List.mem_append]
 constructor
 ·intro h;exact⟨fun x hx=>h x (.inl hx),fun x hx=>h x (.inr hx)⟩
 ·rintro⟨h1,h2⟩ x (hx|hx)
  ·exact h1 x hx
  ·exact h2 x hx
theorem J7:isB []:=by simp[isB]
theorem Qeq{a:Int}{l:List Int}:isB (a::l)↔(0≤a∧a<256)∧isB l:=by simp[isB]
def u8s(l:List Int):List UInt8:=l.map fun n=>UInt8.ofNat n.toNat
theorem Qhr(l:List Int):(bofL l).toList=u8s l:=by
 rw[ByteArray.toList_eq]
 have key:∀(l:List Int) (s:ByteArray),(l.foldl (fun(s:ByteArray) n=>s.push (UInt8.ofNat n.toNat)) s).data.toList=s.data.toList++u8s l:=by
  intro l
  induction l with
  |nil=>intro s;simp[u8s]
  |cons a l ih=>intro s;rw[List.foldl_cons,ih];simp[u8s]
 have:=key l ByteArray.empty
 simpa[bofL] using this
theorem Qoy{x:Int}(h:0≤x∧x<256):((UInt8.ofNat x.toNat).toNat:Int)=x:=by
 have:x.toNat<256:=by omega
 simp[UInt8.toNat_ofNat']
 omega
theorem QwJ:∀{l m:List Int},isB l→isB m→u8s l=u8s m→l=m:=by
 intro l
 induction l with
 |nil=>intro m _ _ h;cases m with
  |nil=>rfl
  |cons _ _=>simp[u8s]at h
 | cons a l ih=>
  intro m hl hm h
  cases m with
  |nil=>simp[u8s]at h
  |cons b m=>
   rw[Qeq]at hl hm
   simp only[u8s,List.map_cons,List.cons.injEq]at h
   obtain⟨h1,h2⟩:=h
   have:=ih hl.2 hm.2 h2
   subst this
   have:=congrArg (fun(u:UInt8)=>(u.toNat:Int)) h1
   simp only[Qoy hl.1,Qoy hm.1]at this
   subst this;rfl
def runL{α σ ρ:Type}(f:σ→Nat→α→Option (Sum ρ σ))(fin:σ→Option ρ):σ→Nat→List α→Option ρ
 |s,_, []=>fin s
 |s,i,x::l=>(f s i x).bind fun t=>match t with| .inl r=>some r| .inr s'=>runL f fin s' (i+1) l
theorem Qrs{Y α σ ρ:Type}{L:Nat→Y→Option ρ}(enc:σ→Nat→Y)(l:List α){f:σ→Nat→α→Option (Sum ρ σ)}{fin:σ→Option ρ}
  (h0:∀k s,L (k+1) (enc s l.length)=fin s)
  (h1:∀k s i x,i<l.length→l[i]?=some x→L (k+1) (enc s i)=(f s i x).bind fun t=>match t with| .inl r=>some r| .inr s'=>L k (enc s' (i+1))):
  ∀(m:List α) (s:σ) (i k:Nat),l.drop i=m→i≤l.length→m.length<k→L k (enc s i)=runL f fin s i m:=by
 intro m
 induction m with
 | nil=>
  intro s i k hm hi hk
  obtain⟨k,rfl⟩:∃j,k=j+1:=⟨k-1,by simp at hk;omega⟩
  have:i=l.length:=by
   have:=congrArg List.length hm
   simp at this;omega
  subst this
  exact h0 k s
 | cons x m ih=>
  intro s i k hm hi hk
  obtain⟨k,rfl⟩:∃j,k=j+1:=⟨k-1,by simp at hk;omega⟩
  have hlt:i<l.length:=by
   have:=congrArg List.length hm
   simp at this;omega
  have hx:l[i]?=some x:=by
   have:=congrArg (fun(l:List α)=>l[0]?) hm
   simpa using this
  have hd:l.drop (i+1)=m:=by rw[←List.drop_drop,hm];rfl
  rw[h1 k s i x hlt hx]
  unfold runL
  cases f s i x with
  |none=>rfl
  |some t=>
   cases t with
   |inl r=>rfl
   |inr s'=>exact ih s' (i+1) k hd (by omega) (by simp at hk;omega)
theorem QbC{Y α σ ρ:Type}{L:Nat→Y→Option ρ}(enc:σ→Nat→Y)(l:List α)(f:σ→Nat→α→Option (Sum ρ σ))(fin:σ→Option ρ)(s:σ){k:Nat}(hk:l.length<k)
  (h0:∀k s,L (k+1) (enc s l.length)=fin s)
  (h1:∀k s i x,i<l.length→l[i]?=some x→L (k+1) (enc s i)=(f s i x).bind fun t=>match t with| .inl r=>some r| .inr s'=>L k (enc s' (i+1))):
  L k (enc s 0)=runL f fin s 0 l:=Qrs enc l h0 h1 l s 0 k rfl (by omega) hk
theorem Qdx{α σ β:Type}{good:α→Bool}{v:Nat→β}:∀{l:List α} {s:σ} {i:Nat} {f:σ→Nat→α→Option (Sum (Sum β Unit) σ)} (_:∀s i x,x∈l→f s i x=some (bif good x then .inr s else .inl (.inl (v i)))),
  (l.all good=true→runL f (fun _=>some (.inr ())) s i l=some (.inr ()))∧(l.all good=false→∃j,i≤j∧j<i+l.length∧runL f (fun _=>some (.inr ())) s i l=some (.inl (v j))):=by
 intro l
 induction l with
 |nil=>intro s i f _;exact⟨fun _=>rfl,fun h=>by simp at h⟩
 | cons x l ih=>
  intro s i f hf
  have hx:=hf s i x (by simp)
  unfold runL
  rw[hx]
  cases hg:good x with
  |false=>
   refine⟨fun h=>by simp[hg]at h,fun _=>⟨i,Nat.le_refl _,by simp,?_⟩⟩
   rfl
  | true=>
   obtain⟨i1,i2⟩:=ih (s:=s) (i:=i+1) (f:=f) (fun s i y hy=>hf s i y (by simp[hy]))
   refine⟨fun h=> ?_,fun h=> ?_⟩
   ·exact i1 (by simpa[hg] using h)
   ·obtain⟨j,h1,h2,h3⟩:=i2 (by simpa[hg] using h)
    exact⟨j,by omega,by simp;omega,h3⟩
theorem Yq{α:Type}{l:List α}{i:Nat}{x:α}(h:l[i]?=some x):getI l (i:Int)=some x:=by rw[Jz,h]
theorem Qna{α β:Type}{l:List α}{m:List β}{i:Nat}{x:α×β}(h:(l.zip m)[i]?=some x):l[i]?=some x.1∧m[i]?=some x.2:=by
 have:=List.getElem?_zip_eq_some.1 (by simpa using h)
 exact this
theorem wrap_succ{i:Nat}(h:i<1000000000000):IntKind.wrap .i64 ((i:Int)+1)=((i+1:Nat):Int):=by rw[wrap64 (by omega) (by omega)];rfl
theorem Qfr{α:Type} [DecidableEq α]:∀{l m:List α},l.length=m.length→((l.zip m).all (fun x=>decide (x.1=x.2))=decide (l=m)):=by
 intro l
 induction l with
 |nil=>intro m h;cases m with|nil=>rfl|cons _ _=>simp at h
 | cons a l ih=>
  intro m h
  cases m with
  |nil=>simp at h
  |cons b m=>
   simp only[List.zip_cons_cons,List.all_cons]
   rw[ih (by simpa using h)]
   simp
end Go.Sep
namespace Go.Proofs.YtomndohdnfebgaaGreatDoor
open Go Go.Sep
def Zm:Vector Int 8:=vofL 8 [1779033703,3144134277,1013904242,2773480762,1359893119,2600822924,528734635,1541459225]
def gl_K:Vector Int 64:=vofL 64 [1116352408,1899447441,3049323471,3921009573,961987163,1508970993,2453635748,2870763221,3624381080,310598401,607225278,1426881987,1925078388,2162078206,2614888103,3248222580,3835390401,4022224774,264347078,604807628,770255983,1249150122,1555081692,1996064986,2554220882,2821834349,2952996808,3210313671,3336571891,3584528711,113926993,338241895,666307205,773529912,1294757372,1396182291,1695183700,1986661051,2177026350,2456956037,2730485921,2820302411,3259730800,3345764771,3516065817,3600352804,4094571909,275423344,430227734,506948616,659060556,883997877,958139571,1322822218,1537002063,1747873779,1955562222,2024104815,2227730452,2361852424,2428436474,2756734187,3204031479,3329325298]
structure Qr where
 fParts:(List (Vector Int 32))
 fWits:(List (Vector Int 32))
 fNeed:Int
 deriving DecidableEq
@[reducible] def QbD : Kd Qr := Qbc (fun x => (x.fParts, x.fWits, x.fNeed)) (YO (Jj (ZE .u8 32)) (YO (Jj (ZE .u8 32)) (YK .i64)))
structure Q8 where
 fWit:Int
 fTag:(Vector Int 32)
 deriving DecidableEq
@[reducible] def qx : Kd Q8 := Qbc (fun x => (x.fWit, x.fTag)) (YO (YK .i64) (ZE .u8 32))
structure Qo where
 fSize:Int
 fRoot:(Vector Int 32)
 fSigs:(List Q8)
 deriving DecidableEq
@[reducible] def QjZ : Qo := ⟨(0 : Int), (Vector.replicate 32 (0 : Int)), ([] : List Q8)⟩
@[reducible] def QaS : Kd Qo := Qbc (fun x => (x.fSize, x.fRoot, x.fSigs)) (YO (YK .i64) (YO (ZE .u8 32) (Jj qx)))
structure Qp where
 fPart:Int
 fKind:Int
 deriving DecidableEq
@[reducible] def QcI : Qp := ⟨(0 : Int), (0 : Int)⟩
@[reducible] def qy : Kd Qp := Qbc (fun x => (x.fPart, x.fKind)) (YO (YK .i64) (YK .i64))
structure Ql where
 fKind:Int
 fSaga:Int
 fSeq:Int
 fStep:Int
 fTry:Int
 fBack:Bool
 fGood:Bool
 fEnd:Int
 fPart:Int
 fEpoch:Int
 fTag:(Vector Int 32)
 fSteps:(List Qp)
 fData:(List Int)
 fSalt:(Vector Int 32)
 fGone:Bool
 fCom:(Vector Int 32)
 deriving DecidableEq
@[reducible] def Qu : Ql := ⟨(0 : Int), (0 : Int), (0 : Int), (0 : Int), (0 : Int), false, false, (0 : Int), (0 : Int), (0 : Int), (Vector.replicate 32 (0 : Int)), ([] : List Qp), ([] : List Int), (Vector.replicate 32 (0 : Int)), false, (Vector.replicate 32 (0 : Int))⟩
@[reducible] def Qf9 : Kd Ql := Qbc (fun x => (x.fKind, x.fSaga, x.fSeq, x.fStep, x.fTry, x.fBack, x.fGood, x.fEnd, x.fPart, x.fEpoch, x.fTag, x.fSteps, x.fData, x.fSalt, x.fGone, x.fCom)) (YO (YK .i64) (YO (YK .i64) (YO (YK .i64) (YO (YK .i64) (YO (YK .i64) (YO yL (YO yL (YO (YK .i64) (YO (YK .i64) (YO (YK .i64) (YO (ZE .u8 32) (YO (Jj qy) (YO (Jj (YK .u8)) (YO (ZE .u8 32) (YO yL (ZE .u8 32))))))))))))))))
structure QbE where
 fKind:Int
 fSaga:Int
 fSeq:Int
 fStep:Int
 fTry:Int
 fBack:Bool
 fGood:Bool
 fGone:Bool
 fEnd:Int
 fPart:Int
 fEpoch:Int
 deriving DecidableEq
@[reducible] def QiH : Kd QbE := Qbc (fun x => (x.fKind, x.fSaga, x.fSeq, x.fStep, x.fTry, x.fBack, x.fGood, x.fGone, x.fEnd, x.fPart, x.fEpoch)) (YO (YK .i64) (YO (YK .i64) (YO (YK .i64) (YO (YK .i64) (YO (YK .i64) (YO yL (YO yL (YO yL (YO (YK .i64) (YO (YK .i64) (YK .i64)))))))))))
structure QL where
 fAt:Int
 fRec:Ql
 fPath:(List (Vector Int 32))
 deriving DecidableEq
@[reducible] def Qer : Kd QL := Qbc (fun x => (x.fAt, x.fRec, x.fPath)) (YO (YK .i64) (YO Qf9 (Jj (ZE .u8 32))))
structure QG where
 fWhole:Bool
 fPoint:Qo
 fItems:(List QL)
 deriving DecidableEq
@[reducible] def Jk : QG := ⟨false, QjZ, ([] : List QL)⟩
@[reducible] def Qhs : Kd QG := Qbc (fun x => (x.fWhole, x.fPoint, x.fItems)) (YO yL (YO QaS (Jj Qer)))
structure Qq where
 fPhase:Int
 fMissing:Int
 deriving DecidableEq
@[reducible] def Qes : Kd Qq := Qbc (fun x => (x.fPhase, x.fMissing)) (YO (YK .i64) (YK .i64))
structure Jp where
 fCode:Int
 fSagas:(List Int)
 fLines:(List Qq)
 deriving DecidableEq
@[reducible] def Yr : Jp := ⟨(0 : Int), ([] : List Int), ([] : List Qq)⟩
@[reducible] def Qgu : Kd Jp := Qbc (fun x => (x.fCode, x.fSagas, x.fLines)) (YO (YK .i64) (YO (Jj (YK .i64)) (Jj Qes)))
structure Qk where
 fB:(List Int)
 fBad:Int
 deriving DecidableEq
@[reducible] def Qgv : Kd Qk := Qbc (fun x => (x.fB, x.fBad)) (YO (Jj (YK .u8)) (YK .i64))
structure ZH where
 fTag:(Vector Int 32)
 deriving DecidableEq
@[reducible] def QiI : Kd ZH := Qbc (fun x => (x.fTag)) (ZE .u8 32)
structure Jd where
 fK:Qr
 fLimit:Int
 deriving DecidableEq
@[reducible] def Qet : Kd Jd := Qbc (fun x => (x.fK, x.fLimit)) (YO QbD (YK .i64))
structure JA where
 fL:(List (Vector Int 32))
 deriving DecidableEq
@[reducible] def J9 : Kd JA := Qbc (fun x => (x.fL)) (Jj (ZE .u8 32))
structure Qga where
 fTrees:JA
 fN:Int
 deriving DecidableEq
@[reducible] def Qht : Kd Qga := Qbc (fun x => (x.fTrees, x.fN)) (YO J9 (YK .i64))
structure QP where
 fSteps:(List Qp)
 fPhase:Int
 fAt:Int
 fTries:Int
 fWait:Bool
 fBack:Bool
 fDone:Int
 fUndone:Int
 fSome:Int
 fSeq:Int
 deriving DecidableEq
@[reducible] def Qw : QP := ⟨([] : List Qp), (0 : Int), (0 : Int), (0 : Int), false, false, (0 : Int), (0 : Int), (0 : Int), (0 : Int)⟩
@[reducible] def jh : Kd QP := Qbc (fun x => (x.fSteps, x.fPhase, x.fAt, x.fTries, x.fWait, x.fBack, x.fDone, x.fUndone, x.fSome, x.fSeq)) (YO (Jj qy) (YO (YK .i64) (YO (YK .i64) (YO (YK .i64) (YO yL (YO yL (YO (YK .i64) (YO (YK .i64) (YO (YK .i64) (YK .i64))))))))))
structure Yz where
 fEpochs:(Vector Int 4)
 fSagas:(List QP)
 deriving DecidableEq
@[reducible] def Qj0 : Kd Yz := Qbc (fun x => (x.fEpochs, x.fSagas)) (YO (ZE .i64 4) (Jj jh))
structure QbF where
 fKind:Int
 fStep:Int
 fTry:Int
 fBack:Bool
 fEnd:Int
 deriving DecidableEq
@[reducible] def QiJ : Kd QbF := Qbc (fun x => (x.fKind, x.fStep, x.fTry, x.fBack, x.fEnd)) (YO (YK .i64) (YO (YK .i64) (YO (YK .i64) (YO yL (YK .i64)))))
def Je.f(K:Nat)(x1:Int):Option ((List Int)):=
 (bif (decide (x1<(0:Int)))then none else(bif (decide ((0:Int)<(IntKind.wrap .i64 (x1-(IntKind.wrap .i64 (((0:Nat):Int)-((0:Nat):Int)))))))then((Qbe 1 ((0:Int)) (IntKind.wrap .i64 (x1-(IntKind.wrap .i64 (((0:Nat):Int)-((0:Nat):Int)))))).bind fun(l37:(List Int))=>((subI (l37) 0 ((0:Nat):Int)).bind fun(l44:(List Int))=>(some l44)))else(some ([]:List Int))))
def QA.b(K:Nat)(x1:(List (List Int)))(rec:(Int×Int)→Option (Int))(y1:Int×Int):Option (Int):=
 (bif (decide (y1.2<((List.length (x1):Nat):Int)))then((getI (x1) y1.2).bind fun(x2:(List Int))=>(bif (decide ((IntKind.wrap .i64 (y1.1+((List.length (x2):Nat):Int)))<(0:Int)))then none else(rec ((IntKind.wrap .i64 (y1.1+((List.length (x2):Nat):Int))),(IntKind.wrap .i64 (y1.2+(1:Int)))))))else(some y1.1))
def QA.l(K:Nat)(x1:(List (List Int))):Nat→(Int×Int)→Option (Int)
 |0,_=>none
 |k+1,y=>QA.b K x1 (QA.l K x1 k) y
theorem QA.some{K:Nat}(x1:(List (List Int))){k:Nat}{y:Int×Int}{s:(Int)}(h:QA.l K x1 k y=some s):∃k',k=k'+1∧QA.b K x1 (QA.l K x1 k') y=some s:=by
 cases k with
 |zero=>cases h
 |succ k=>exact⟨k,rfl,h⟩
def QB.b(K:Nat)(x1:(List (List Int)))(rec:((List Int)×Int)→Option ((List Int)))(y1:(List Int)×Int):Option ((List Int)):=
 (bif (decide (y1.2<((List.length (x1):Nat):Int)))then((getI (x1) y1.2).bind fun(x2:(List Int))=>((catI 1 (y1.1) (x2)).bind fun(l1:(List Int))=>(rec (l1,(IntKind.wrap .i64 (y1.2+(1:Int)))))))else(some y1.1))
def QB.l(K:Nat)(x1:(List (List Int))):Nat→((List Int)×Int)→Option ((List Int))
 |0,_=>none
 |k+1,y=>QB.b K x1 (QB.l K x1 k) y
theorem QB.some{K:Nat}(x1:(List (List Int))){k:Nat}{y:(List Int)×Int}{s:((List Int))}(h:QB.l K x1 k y=some s):∃k',k=k'+1∧QB.b K x1 (QB.l K x1 k') y=some s:=by
 cases k with
 |zero=>cases h
 |succ k=>exact⟨k,rfl,h⟩
def QS.f(K:Nat)(x1:(List (List Int))):Option ((List Int)):=
 ((QA.l K x1 K ((0:Int),(0:Int))).bind fun(z1:Int)=>((Je.f K (z1)).bind fun(r1:((List Int)))=>((QB.l K x1 K (r1,(0:Int))).bind fun(z2:(List Int))=>(some z2))))
def Qy.b(K:Nat)(rec:((List Int)×Int×Int)→Option ((List Int)))(y1:(List Int)×Int×Int):Option ((List Int)):=
 (bif (decide (y1.2.1<y1.2.2))then((getI (y1.1) y1.2.2).bind fun(x1:Int)=>((getI (y1.1) y1.2.1).bind fun(x2:Int)=>((getI (y1.1) y1.2.1).bind fun(x3:Int)=>((getI ((List.set (y1.1) (Int.toNat (y1.2.1)) (x1))) y1.2.2).bind fun(x4:Int)=>(rec ((List.set ((List.set (y1.1) (Int.toNat (y1.2.1)) (x1))) (Int.toNat (y1.2.2)) (x2)),(IntKind.wrap .i64 (y1.2.1+(1:Int))),(IntKind.wrap .i64 (y1.2.2-(1:Int)))))))))else(some y1.1))
def Qy.l(K:Nat):Nat→((List Int)×Int×Int)→Option ((List Int))
 |0,_=>none
 |k+1,y=>Qy.b K (Qy.l K k) y
theorem Qy.some{K:Nat}{k:Nat}{y:(List Int)×Int×Int}{s:((List Int))}(h:Qy.l K k y=some s):∃k',k=k'+1∧Qy.b K (Qy.l K k') y=some s:=by
 cases k with
 |zero=>cases h
 |succ k=>exact⟨k,rfl,h⟩
def Yf.f(K:Nat)(x1:(List Int)):Option ((List Int)):=
 ((Qy.l K K (x1,(0:Int),(IntKind.wrap .i64 (((List.length (x1):Nat):Int)-(1:Int))))).bind fun(z1:(List Int))=>(some z1))
theorem Yf.len{K:Nat}{x r:(List Int)}(h:Yf.f K x=some r):r.length=x.length:=by
 have key:∀k y z,Qy.l K k y=some z→z.length=y.1.length:=by
  intro k
  induction k with
  |zero=>intro y z h;cases h
  | succ k ih=>
   intro y z h
   have h:Qy.b K (Qy.l K k) y=some z:=h
   unfold Qy.b at h
   cases hc:decide (y.2.1<y.2.2)with
   |false=>rw[hc]at h;cases h;rfl
   |true=>
    rw[hc]at h
    replace h:=Qoq rfl h
    obtain⟨_,_,h⟩:=bind_some h
    obtain⟨_,_,h⟩:=bind_some h
    obtain⟨_,_,h⟩:=bind_some h
    obtain⟨_,_,h⟩:=bind_some h
    have:=ih _ _ h
    simpa using this
 unfold Yf.f at h
 obtain⟨z,hz,h⟩:=bind_some h
 cases h
 exact key _ _ _ hz
def Yo.f(K:Nat)(x1:(List Int)):Option ((List Int)):=
 ((catI 1 (([]:List Int)) (x1)).bind fun(l26:(List Int))=>(some l26))
def Yu.f(K:Nat)(x1:(List Q8)):Option ((List Q8)):=
 ((catI 40 (([]:List Q8)) (x1)).bind fun(l26:(List Q8))=>(some l26))
def QF.f(K:Nat)(x1:(List Qp)):Option ((List Qp)):=
 ((catI 16 (([]:List Qp)) (x1)).bind fun(l26:(List Qp))=>(some l26))
def Q4.f(K:Nat)(x1:(List QP)):Option ((List QP)):=
 ((catI 88 (([]:List QP)) (x1)).bind fun(l26:(List QP))=>(some l26))
def QH.b(K:Nat)(rec:((List Bool)×Int×Int)→Option ((List Bool)))(y1:(List Bool)×Int×Int):Option ((List Bool)):=
 (bif (decide (y1.2.1<y1.2.2))then((getI (y1.1) y1.2.2).bind fun(x1:Bool)=>((getI (y1.1) y1.2.1).bind fun(x2:Bool)=>((getI (y1.1) y1.2.1).bind fun(x3:Bool)=>((getI ((List.set (y1.1) (Int.toNat (y1.2.1)) (x1))) y1.2.2).bind fun(x4:Bool)=>(rec ((List.set ((List.set (y1.1) (Int.toNat (y1.2.1)) (x1))) (Int.toNat (y1.2.2)) (x2)),(IntKind.wrap .i64 (y1.2.1+(1:Int))),(IntKind.wrap .i64 (y1.2.2-(1:Int)))))))))else(some y1.1))
def QH.l(K:Nat):Nat→((List Bool)×Int×Int)→Option ((List Bool))
 |0,_=>none
 |k+1,y=>QH.b K (QH.l K k) y
theorem QH.some{K:Nat}{k:Nat}{y:(List Bool)×Int×Int}{s:((List Bool))}(h:QH.l K k y=some s):∃k',k=k'+1∧QH.b K (QH.l K k') y=some s:=by
 cases k with
 |zero=>cases h
 |succ k=>exact⟨k,rfl,h⟩
def Yg.f(K:Nat)(x1:(List Bool)):Option ((List Bool)):=
 ((QH.l K K (x1,(0:Int),(IntKind.wrap .i64 (((List.length (x1):Nat):Int)-(1:Int))))).bind fun(z1:(List Bool))=>(some z1))
theorem Yg.len{K:Nat}{x r:(List Bool)}(h:Yg.f K x=some r):r.length=x.length:=by
 have key:∀k y z,QH.l K k y=some z→z.length=y.1.length:=by
  intro k
  induction k with
  |zero=>intro y z h;cases h
  | succ k ih=>
   intro y z h
   have h:QH.b K (QH.l K k) y=some z:=h
   unfold QH.b at h
   cases hc:decide (y.2.1<y.2.2)with
   |false=>rw[hc]at h;cases h;rfl
   |true=>
    rw[hc]at h
    replace h:=Qoq rfl h
    obtain⟨_,_,h⟩:=bind_some h
    obtain⟨_,_,h⟩:=bind_some h
    obtain⟨_,_,h⟩:=bind_some h
    obtain⟨_,_,h⟩:=bind_some h
    have:=ih _ _ h
    simpa using this
 unfold Yg.f at h
 obtain⟨z,hz,h⟩:=bind_some h
 cases h
 exact key _ _ _ hz
def QC.b(K:Nat)(rec:((List (List Int))×Int×Int)→Option ((List (List Int))))(y1:(List (List Int))×Int×Int):Option ((List (List Int))):=
 (bif (decide (y1.2.1<y1.2.2))then((getI (y1.1) y1.2.2).bind fun(x1:(List Int))=>((getI (y1.1) y1.2.1).bind fun(x2:(List Int))=>((getI (y1.1) y1.2.1).bind fun(x3:(List Int))=>((getI ((List.set (y1.1) (Int.toNat (y1.2.1)) (x1))) y1.2.2).bind fun(x4:(List Int))=>(rec ((List.set ((List.set (y1.1) (Int.toNat (y1.2.1)) (x1))) (Int.toNat (y1.2.2)) (x2)),(IntKind.wrap .i64 (y1.2.1+(1:Int))),(IntKind.wrap .i64 (y1.2.2-(1:Int)))))))))else(some y1.1))
def QC.l(K:Nat):Nat→((List (List Int))×Int×Int)→Option ((List (List Int)))
 |0,_=>none
 |k+1,y=>QC.b K (QC.l K k) y
theorem QC.some{K:Nat}{k:Nat}{y:(List (List Int))×Int×Int}{s:((List (List Int)))}(h:QC.l K k y=some s):∃k',k=k'+1∧QC.b K (QC.l K k') y=some s:=by
 cases k with
 |zero=>cases h
 |succ k=>exact⟨k,rfl,h⟩
def QY.f(K:Nat)(x1:(List (List Int))):Option ((List (List Int))):=
 ((QC.l K K (x1,(0:Int),(IntKind.wrap .i64 (((List.length (x1):Nat):Int)-(1:Int))))).bind fun(z1:(List (List Int)))=>(some z1))
theorem QY.len{K:Nat}{x r:(List (List Int))}(h:QY.f K x=some r):r.length=x.length:=by
 have key:∀k y z,QC.l K k y=some z→z.length=y.1.length:=by
  intro k
  induction k with
  |zero=>intro y z h;cases h
  | succ k ih=>
   intro y z h
   have h:QC.b K (QC.l K k) y=some z:=h
   unfold QC.b at h
   cases hc:decide (y.2.1<y.2.2)with
   |false=>rw[hc]at h;cases h;rfl
   |true=>
    rw[hc]at h
    replace h:=Qoq rfl h
    obtain⟨_,_,h⟩:=bind_some h
    obtain⟨_,_,h⟩:=bind_some h
    obtain⟨_,_,h⟩:=bind_some h
    obtain⟨_,_,h⟩:=bind_some h
    have:=ih _ _ h
    simpa using this
 unfold QY.f at h
 obtain⟨z,hz,h⟩:=bind_some h
 cases h
 exact key _ _ _ hz
def ZI.f(K:Nat):Option (Qr):=
 ((some (Qr.mk (([(vofL 32 [(1:Int),(0:Int),(0:Int),(0:Int),(0:Int),(0:Int),(0:Int),(0:Int),(0:Int),(0:Int),(0:Int),(0:Int),(0:Int),(0:Int),(0:Int),(0:Int),(0:Int),(0:Int),(0:Int),(0:Int),(0:Int),(0:Int),(0:Int),(0:Int),(0:Int),(0:Int),(0:Int),(0:Int),(0:Int),(0:Int),(0:Int),(0:Int)]),(vofL 32 [(2:Int),(0:Int),(0:Int),(0:Int),(0:Int),(0:Int),(0:Int),(0:Int),(0:Int),(0:Int),(0:Int),(0:Int),(0:Int),(0:Int),(0:Int),(0:Int),(0:Int),(0:Int),(0:Int),(0:Int),(0:Int),(0:Int),(0:Int),(0:Int),(0:Int),(0:Int),(0:Int),(0:Int),(0:Int),(0:Int),(0:Int),(0:Int)])]:List (Vector Int 32))) (([(vofL 32 [(3:Int),(0:Int),(0:Int),(0:Int),(0:Int),(0:Int),(0:Int),(0:Int),(0:Int),(0:Int),(0:Int),(0:Int),(0:Int),(0:Int),(0:Int),(0:Int),(0:Int),(0:Int),(0:Int),(0:Int),(0:Int),(0:Int),(0:Int),(0:Int),(0:Int),(0:Int),(0:Int),(0:Int),(0:Int),(0:Int),(0:Int),(0:Int)]),(vofL 32 [(4:Int),(0:Int),(0:Int),(0:Int),(0:Int),(0:Int),(0:Int),(0:Int),(0:Int),(0:Int),(0:Int),(0:Int),(0:Int),(0:Int),(0:Int),(0:Int),(0:Int),(0:Int),(0:Int),(0:Int),(0:Int),(0:Int),(0:Int),(0:Int),(0:Int),(0:Int),(0:Int),(0:Int),(0:Int),(0:Int),(0:Int),(0:Int)]),(vofL 32 [(5:Int),(0:Int),(0:Int),(0:Int),(0:Int),(0:Int),(0:Int),(0:Int),(0:Int),(0:Int),(0:Int),(0:Int),(0:Int),(0:Int),(0:Int),(0:Int),(0:Int),(0:Int),(0:Int),(0:Int),(0:Int),(0:Int),(0:Int),(0:Int),(0:Int),(0:Int),(0:Int),(0:Int),(0:Int),(0:Int),(0:Int),(0:Int)])]:List (Vector Int 32))) ((2:Int)))).bind fun(v51:Qr)=>(some v51))
def JY.f(K:Nat)(x1:Int)(x2:Int)(x3:Int):Option (Bool):=
 (bif (decide (x2≤x1))then(some (decide (x1≤x3)))else(some false))
def QaA.f(K:Nat)(x1:Qr):Option (Bool):=
 ((JY.f K (((List.length (x1.fParts):Nat):Int)) ((1:Int)) ((4:Int))).bind fun(r57:(Bool))=>(bif r57 then((JY.f K (((List.length (x1.fWits):Nat):Int)) ((1:Int)) ((4:Int))).bind fun(r62:(Bool))=>(bif r62 then((JY.f K (x1.fNeed) ((1:Int)) (((List.length (x1.fWits):Nat):Int))).bind fun(r67:(Bool))=>(some r67))else(some false)))else(some false)))
def Zy.f(K:Nat)(x1:Qr)(x8:Int)(x9:Int):Option (Bool):=
 ((QaA.f K (x1)).bind fun(r59:(Bool))=>(bif r59 then((JY.f K (x8) ((0:Int)) ((IntKind.wrap .i64 (((List.length (x1.fParts):Nat):Int)-(1:Int))))).bind fun(r64:(Bool))=>(bif r64 then((JY.f K (x9) ((0:Int)) ((400:Int))).bind fun(r69:(Bool))=>(some r69))else(some false)))else(some false)))
def Jg.b(K:Nat)(x2:Int)(l1:(List Int))(rec:(Int×(List Int)×Int)→Option ((List Int)))(y1:Int×(List Int)×Int):Option ((List Int)):=
 (bif (decide (y1.2.2<((List.length (l1):Nat):Int)))then((getI (y1.2.1) (IntKind.wrap .i64 ((IntKind.wrap .i64 (x2-(1:Int)))-y1.2.2))).bind fun(x1:Int)=>(rec ((Int.fdiv y1.1 (2^8)),(List.set (y1.2.1) (Int.toNat ((IntKind.wrap .i64 ((IntKind.wrap .i64 (x2-(1:Int)))-y1.2.2)))) ((IntKind.wrap .u8 y1.1))),(IntKind.wrap .i64 (y1.2.2+(1:Int))))))else(some y1.2.1))
def Jg.l(K:Nat)(x2:Int)(l1:(List Int)):Nat→(Int×(List Int)×Int)→Option ((List Int)):=Jc (Jg.b K x2 l1)
def Qd3.f(K:Nat)(x1:Int)(x2:Int):Option ((List Int)):=
 ((Qbe 1 ((0:Int)) x2).bind fun(l1:(List Int))=>((Jg.l K x2 l1 K (x1,l1,(0:Int))).bind fun(z1:(List Int))=>(some z1)))
def Qbg.f(K:Nat)(x1:Int):Option ((List Int)):=
 ((Qd3.f K ((IntKind.wrap .u64 x1)) ((8:Int))).bind fun(r17:((List Int)))=>(some r17))
def YR.b(K:Nat)(x1:(List Int))(rec:((List Int)×Int)→Option ((List Int)))(y1:(List Int)×Int):Option ((List Int)):=
 (bif (decide (y1.2<((List.length (x1):Nat):Int)))then((getI (x1) y1.2).bind fun(x2:Int)=>((Qbg.f K (x2)).bind fun(r1:((List Int)))=>((catI 1 (y1.1) (r1)).bind fun(l1:(List Int))=>(rec (l1,(IntKind.wrap .i64 (y1.2+(1:Int))))))))else(some y1.1))
def YR.l(K:Nat)(x1:(List Int)):Nat→((List Int)×Int)→Option ((List Int)):=Jc (YR.b K x1)
def XW.f(K:Nat)(x1:(List Int)):Option ((List Int)):=
 ((YR.l K x1 K (([]:List Int),(0:Int))).bind fun(z1:(List Int))=>(some z1))
def qh.b(K:Nat)(x1:Int)(rec:(List Int)→Option ((List Int)))(y1:(List Int)):Option ((List Int)):=
 (bif (!decide ((Int.tmod (IntKind.wrap .i64 (x1+((List.length (y1):Nat):Int))) 64)=(56:Int)))then((catI 1 (y1) (([(0:Int)]:List Int))).bind fun(l1:(List Int))=>(rec l1))else(some y1))
def qh.l(K:Nat)(x1:Int):Nat→((List Int))→Option ((List Int)):=Jc (qh.b K x1)
def qH.b(K:Nat)(x1:Int)(rec:((List Int)×Int)→Option ((List Int)))(y1:(List Int)×Int):Option ((List Int)):=
 (bif (decide ((0:Int)≤y1.2))then(chk (!(decide ((IntKind.wrap .i64 ((8:Int)*y1.2))<0))) ((catI 1 (y1.1) (([(IntKind.wrap .u8 (Int.fdiv (IntKind.wrap .u64 ((IntKind.wrap .u64 x1)*(8:Int))) (2^(min (Int.toNat (IntKind.wrap .i64 ((8:Int)*y1.2))) 64))))]:List Int))).bind fun(l1:(List Int))=>(rec (l1,(IntKind.wrap .i64 (y1.2-(1:Int)))))))else(some y1.1))
def qH.l(K:Nat)(x1:Int):Nat→((List Int)×Int)→Option ((List Int)):=Jc (qH.b K x1)
def Qeu.f(K:Nat)(x1:Int):Option ((List Int)):=
 (bif (decide (x1<(0:Int)))then(some ([]:List Int))else((qh.l K x1 K ([(128:Int)]:List Int)).bind fun(z1:(List Int))=>((qH.l K x1 K (z1,(7:Int))).bind fun(z2:(List Int))=>(some z2))))
def Qfs.f(K:Nat)(x1:(List Int)):Option ((List Int)):=
 (some x1)
def YP.f(K:Nat)(x1:Int)(x2:Int):Option (Int):=
 (chk (!(decide ((band .u64 (IntKind.wrap .u64 x2) (31:Int))<0))) (chk (!(decide ((IntKind.wrap .u64 ((32:Int)-(band .u64 (IntKind.wrap .u64 x2) (31:Int))))<0))) (some (bor .u32 (IntKind.wrap .u32 (x1*2^(min (Int.toNat (band .u64 (IntKind.wrap .u64 x2) (31:Int))) 32))) (Int.fdiv x1 (2^(min (Int.toNat (IntKind.wrap .u64 ((32:Int)-(band .u64 (IntKind.wrap .u64 x2) (31:Int))))) 32)))))))
def ZJ.f(K:Nat)(x1:Int)(x2:Int)(x3:Int)(x4:Int):Option (Int):=
 (chk (!(decide (x4<0))) ((YP.f K (x1) ((IntKind.wrap .i64 (0-x2)))).bind fun(r17:(Int))=>((YP.f K (x1) ((IntKind.wrap .i64 (0-x3)))).bind fun(r22:(Int))=>(some (bxor .u32 (bxor .u32 r17 r22) (Int.fdiv x1 (2^(min (Int.toNat x4) 32))))))))
def Yk.b(K:Nat)(x1:(List Int))(rec:(Int×(Vector Int 64))→Option ((Vector Int 64)))(y1:Int×(Vector Int 64)):Option ((Vector Int 64)):=
 (bif (decide (y1.1<(64:Int)))then(jn (fun(y2:(Vector Int 64))=>(rec ((IntKind.wrap .i64 (y1.1+(1:Int))),y2))) (fun j1=>(bif (decide (y1.1<(16:Int)))then((getI (x1) (IntKind.wrap .i64 ((4:Int)*y1.1))).bind fun(x2:Int)=>((getI (x1) (IntKind.wrap .i64 ((IntKind.wrap .i64 ((4:Int)*y1.1))+(1:Int)))).bind fun(x3:Int)=>((getI (x1) (IntKind.wrap .i64 ((IntKind.wrap .i64 ((4:Int)*y1.1))+(2:Int)))).bind fun(x4:Int)=>((getI (x1) (IntKind.wrap .i64 ((IntKind.wrap .i64 ((4:Int)*y1.1))+(3:Int)))).bind fun(x5:Int)=>(chk (inA 64 y1.1) ((some (vset (y1.2) (Int.toNat (y1.1)) ((bor .u32 (bor .u32 (bor .u32 (IntKind.wrap .u32 ((IntKind.wrap .u32 x2)*2^24)) (IntKind.wrap .u32 ((IntKind.wrap .u32 x3)*2^16))) (IntKind.wrap .u32 ((IntKind.wrap .u32 x4)*2^8))) (IntKind.wrap .u32 x5))))).bind fun(v1:(Vector Int 64))=>(j1 v1)))))))else(chk (inA 64 (IntKind.wrap .i64 (y1.1-(2:Int)))) (chk (inA 64 (IntKind.wrap .i64 (y1.1-(7:Int)))) (chk (inA 64 (IntKind.wrap .i64 (y1.1-(15:Int)))) (chk (inA 64 (IntKind.wrap .i64 (y1.1-(16:Int)))) ((ZJ.f K ((vget (y1.2) (Int.toNat ((IntKind.wrap .i64 (y1.1-(2:Int))))))) ((17:Int)) ((19:Int)) ((10:Int))).bind fun(r1:(Int))=>((ZJ.f K ((vget (y1.2) (Int.toNat ((IntKind.wrap .i64 (y1.1-(15:Int))))))) ((7:Int)) ((18:Int)) ((3:Int))).bind fun(r2:(Int))=>(chk (inA 64 y1.1) ((some (vset (y1.2) (Int.toNat (y1.1)) ((IntKind.wrap .u32 ((IntKind.wrap .u32 ((IntKind.wrap .u32 (r1+(vget (y1.2) (Int.toNat ((IntKind.wrap .i64 (y1.1-(7:Int))))))))+r2))+(vget (y1.2) (Int.toNat ((IntKind.wrap .i64 (y1.1-(16:Int))))))))))).bind fun(v2:(Vector Int 64))=>(j1 v2))))))))))))else(some y1.2))
def Yk.l(K:Nat)(x1:(List Int)):Nat→(Int×(Vector Int 64))→Option ((Vector Int 64)):=Jc (Yk.b K x1)
def X5.f(K:Nat)(x1:(List Int)):Option ((Vector Int 64)):=
 ((Yk.l K x1 K ((0:Int),(Vector.replicate 64 (0:Int)))).bind fun(z1:(Vector Int 64))=>(some z1))
def XK.f(K:Nat)(x1:Int)(x2:Int)(x3:Int)(x4:Int):Option (Int):=
 ((YP.f K (x1) ((IntKind.wrap .i64 (0-x2)))).bind fun(r20:(Int))=>((YP.f K (x1) ((IntKind.wrap .i64 (0-x3)))).bind fun(r25:(Int))=>((YP.f K (x1) ((IntKind.wrap .i64 (0-x4)))).bind fun(r30:(Int))=>(some (bxor .u32 (bxor .u32 r20 r25) r30)))))
def YY.b(K:Nat)(r2:((Vector Int 64)))(rec:(Int×(Vector Int 8))→Option ((Vector Int 8)))(y1:Int×(Vector Int 8)):Option ((Vector Int 8)):=
 (bif (decide (y1.1<(64:Int)))then((getI (Yh (r2)) y1.1).bind fun(x1:Int)=>(chk (inA 64 y1.1) ((XK.f K ((vget (y1.2) (Int.toNat ((4:Int))))) ((6:Int)) ((11:Int)) ((25:Int))).bind fun(r1:(Int))=>((XK.f K ((vget (y1.2) (Int.toNat ((0:Int))))) ((2:Int)) ((13:Int)) ((22:Int))).bind fun(r3:(Int))=>((some (Qhn (y1.2) 1 0 7)).bind fun(v1:(Vector Int 8))=>((some (vset (v1) (Int.toNat ((4:Int))) ((IntKind.wrap .u32 ((vget (v1) (Int.toNat ((4:Int))))+(IntKind.wrap .u32 ((IntKind.wrap .u32 ((IntKind.wrap .u32 ((IntKind.wrap .u32 ((vget (y1.2) (Int.toNat ((7:Int))))+r1))+(bxor .u32 (band .u32 (vget (y1.2) (Int.toNat ((4:Int)))) (vget (y1.2) (Int.toNat ((5:Int))))) (band .u32 (bnot .u32 (vget (y1.2) (Int.toNat ((4:Int))))) (vget (y1.2) (Int.toNat ((6:Int))))))))+(vget (gl_K) (Int.toNat (y1.1)))))+x1))))))).bind fun(v2:(Vector Int 8))=>((some (vset (v2) (Int.toNat ((0:Int))) ((IntKind.wrap .u32 ((IntKind.wrap .u32 ((IntKind.wrap .u32 ((IntKind.wrap .u32 ((IntKind.wrap .u32 ((vget (y1.2) (Int.toNat ((7:Int))))+r1))+(bxor .u32 (band .u32 (vget (y1.2) (Int.toNat ((4:Int)))) (vget (y1.2) (Int.toNat ((5:Int))))) (band .u32 (bnot .u32 (vget (y1.2) (Int.toNat ((4:Int))))) (vget (y1.2) (Int.toNat ((6:Int))))))))+(vget (gl_K) (Int.toNat (y1.1)))))+x1))+(IntKind.wrap .u32 (r3+(bxor .u32 (bxor .u32 (band .u32 (vget (y1.2) (Int.toNat ((0:Int)))) (vget (y1.2) (Int.toNat ((1:Int))))) (band .u32 (vget (y1.2) (Int.toNat ((0:Int)))) (vget (y1.2) (Int.toNat ((2:Int)))))) (band .u32 (vget (y1.2) (Int.toNat ((1:Int)))) (vget (y1.2) (Int.toNat ((2:Int))))))))))))).bind fun(v3:(Vector Int 8))=>(rec ((IntKind.wrap .i64 (y1.1+(1:Int))),v3)))))))))else(some y1.2))
def YY.l(K:Nat)(r1:((Vector Int 64))):Nat→(Int×(Vector Int 8))→Option ((Vector Int 8)):=Jc (YY.b K r1)
def YZ.b(K:Nat)(z1:(Vector Int 8))(rec:(Int×(Vector Int 8))→Option ((Vector Int 8)))(y1:Int×(Vector Int 8)):Option ((Vector Int 8)):=
 (bif (decide (y1.1<(8:Int)))then(chk (inA 8 y1.1) (chk (inA 8 y1.1) (chk (inA 8 y1.1) ((some (vset (y1.2) (Int.toNat (y1.1)) ((IntKind.wrap .u32 ((vget (y1.2) (Int.toNat (y1.1)))+(vget (z1) (Int.toNat (y1.1)))))))).bind fun(v1:(Vector Int 8))=>(rec ((IntKind.wrap .i64 (y1.1+(1:Int))),v1))))))else(some y1.2))
def YZ.l(K:Nat)(z1:(Vector Int 8)):Nat→(Int×(Vector Int 8))→Option ((Vector Int 8)):=Jc (YZ.b K z1)
def Qdy.f(K:Nat)(x1:(Vector Int 8))(x2:(List Int)):Option ((Vector Int 8)):=
 (bif (!decide (((List.length (x2):Nat):Int)=(64:Int)))then(some x1)else((X5.f K (x2)).bind fun(r1:((Vector Int 64)))=>((YY.l K r1 K ((0:Int),x1)).bind fun(z1:(Vector Int 8))=>((YZ.l K z1 K ((0:Int),x1)).bind fun(z2:(Vector Int 8))=>(some z2)))))
def qg.b(K:Nat)(rec:((Vector Int 8)×(List Int))→Option ((Vector Int 8)×(List Int)))(y1:(Vector Int 8)×(List Int)):Option ((Vector Int 8)×(List Int)):=
 (bif (decide ((64:Int)≤((List.length (y1.2):Nat):Int)))then((subI (y1.2) 0 (64:Int)).bind fun(l1:(List Int))=>((Qdy.f K (y1.1) (l1)).bind fun(r1:((Vector Int 8)))=>((subI (y1.2) (64:Int) ((List.length (y1.2):Nat):Int)).bind fun(l2:(List Int))=>(rec (r1,l2)))))else(some (y1.1,y1.2)))
def qg.l(K:Nat):Nat→((Vector Int 8)×(List Int))→Option ((Vector Int 8)×(List Int)):=Jc (qg.b K)
def Y6.b(K:Nat)(z1:(Vector Int 8)×(List Int))(rec:(Int×(Vector Int 32))→Option ((Vector Int 32)))(y1:Int×(Vector Int 32)):Option ((Vector Int 32)):=
 (bif (decide (y1.1<(32:Int)))then(chk (inA 8 (IntKind.wrap .i64 (Int.tdiv y1.1 4))) (chk (!(decide ((IntKind.wrap .i64 ((24:Int)-(IntKind.wrap .i64 ((8:Int)*(Int.tmod y1.1 4)))))<0))) (chk (inA 32 y1.1) ((some (vset (y1.2) (Int.toNat (y1.1)) ((IntKind.wrap .u8 (Int.fdiv (vget (z1.1) (Int.toNat ((IntKind.wrap .i64 (Int.tdiv y1.1 4))))) (2^(min (Int.toNat (IntKind.wrap .i64 ((24:Int)-(IntKind.wrap .i64 ((8:Int)*(Int.tmod y1.1 4)))))) 32))))))).bind fun(v1:(Vector Int 32))=>(rec ((IntKind.wrap .i64 (y1.1+(1:Int))),v1))))))else(some y1.2))
def Y6.l(K:Nat)(z1:(Vector Int 8)×(List Int)):Nat→(Int×(Vector Int 32))→Option ((Vector Int 32)):=Jc (Y6.b K z1)
def Qft.f(K:Nat)(x1:(List (List Int))):Option ((Vector Int 32)):=
 ((QS.f K (x1)).bind fun(r1:((List Int)))=>((Qeu.f K (((List.length (r1):Nat):Int))).bind fun(r2:((List Int)))=>((catI 1 (r1) (r2)).bind fun(l1:(List Int))=>((Qfs.f K (l1)).bind fun(r3:((List Int)))=>((qg.l K K (Zm,r3)).bind fun(z1:(Vector Int 8)×(List Int))=>((Y6.l K z1 K ((0:Int),(Vector.replicate 32 (0:Int)))).bind fun(z2:(Vector Int 32))=>(some z2)))))))
end Go.Proofs.YtomndohdnfebgaaGreatDoor
