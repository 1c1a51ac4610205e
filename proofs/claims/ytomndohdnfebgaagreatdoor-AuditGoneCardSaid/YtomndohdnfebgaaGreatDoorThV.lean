/-
 Proved: calls of the cut's functions come to what their plain functions compute.
-/
import Derived.Test.YtomndohdnfebgaaGreatDoorProg
import Derived.Test.YtomndohdnfebgaaGreatDoorThDef
import Derived.Test.YtomndohdnfebgaaGreatDoorSxX
import Derived.Test.YtomndohdnfebgaaGreatDoorSxTh
import Derived.Test.YtomndohdnfebgaaGreatDoorSxRv
import Derived.Test.YtomndohdnfebgaaGreatDoorThOW0
set_option linter.unusedVariables false
set_option maxRecDepth 100000
namespace Go.Proofs.YtomndohdnfebgaaGreatDoor
open Go Go.Sep
@[reducible] def tyD : Nat → Type
 |0=>Qq
 |1=>QO
 |2=>Qo
 |3=>Qp
 |4=>Qm
 |5=>Qa8
 |6=>Qz
 |7=>QS
 |8=>Qu
 |9=>Y7
 |10=>Qk
 |11=>Zj
 |12=>Y4
 |13=>Jn
 |14=>Qe4
 |15=>QL
 |16=>Yo
 |17=>Qa9
 |_=>Unit
@[reducible] def fsD : Nat → List Ty
 |0=> [(.sl (.arr .u8 32)),(.sl (.arr .u8 32)),(.int .i64)]
 |1=> [(.int .i64),(.arr .u8 32)]
 |2=> [(.int .i64),(.arr .u8 32),(.sl (.st 1))]
 |3=> [(.int .i64),(.int .i64)]
 |4=> [(.int .i64),(.int .i64),(.int .i64),(.int .i64),(.int .i64),.bool,.bool,(.int .i64),(.int .i64),(.int .i64),(.arr .u8 32),(.sl (.st 3)),(.sl (.int .u8)),(.arr .u8 32),.bool,(.arr .u8 32)]
 |5=> [(.int .i64),(.int .i64),(.int .i64),(.int .i64),(.int .i64),.bool,.bool,.bool,(.int .i64),(.int .i64),(.int .i64)]
 |6=> [(.int .i64),(.st 4),(.sl (.arr .u8 32))]
 |7=> [.bool,(.st 2),(.sl (.st 6))]
 |8=> [(.int .i64),(.int .i64)]
 |9=> [(.int .i64),(.sl (.int .i64)),(.sl (.st 8))]
 |10=> [(.sl (.int .u8)),(.int .i64)]
 |11=> [(.arr .u8 32)]
 |12=> [(.st 0),(.int .i64)]
 |13=> [(.sl (.arr .u8 32))]
 |14=> [(.st 13),(.int .i64)]
 |15=> [(.sl (.st 3)),(.int .i64),(.int .i64),(.int .i64),.bool,.bool,(.int .i64),(.int .i64),(.int .i64),(.int .i64)]
 |16=> [(.arr .i64 4),(.sl (.st 15))]
 |17=> [(.int .i64),(.int .i64),(.int .i64),.bool,(.int .i64)]
 |_=> []
def TD:Tb where
 ty:=tyD
 fs:=fsD
 get:=fun n=>match n with
  |0=>fun x=>(x.fParts,x.fWits,x.fNeed)
  |1=>fun x=>(x.fWit,x.fTag)
  |2=>fun x=>(x.fSize,x.fRoot,x.fSigs)
  |3=>fun x=>(x.fPart,x.fKind)
  |4=>fun x=>(x.fKind,x.fSaga,x.fSeq,x.fStep,x.fTry,x.fBack,x.fGood,x.fEnd,x.fPart,x.fEpoch,x.fTag,x.fSteps,x.fData,x.fSalt,x.fGone,x.fCom)
  |5=>fun x=>(x.fKind,x.fSaga,x.fSeq,x.fStep,x.fTry,x.fBack,x.fGood,x.fGone,x.fEnd,x.fPart,x.fEpoch)
  |6=>fun x=>(x.fAt,x.fRec,x.fPath)
  |7=>fun x=>(x.fWhole,x.fPoint,x.fItems)
  |8=>fun x=>(x.fPhase,x.fMissing)
  |9=>fun x=>(x.fCode,x.fSagas,x.fLines)
  |10=>fun x=>(x.fB,x.fBad)
  |11=>fun x=>x.fTag
  |12=>fun x=>(x.fK,x.fLimit)
  |13=>fun x=>x.fL
  |14=>fun x=>(x.fTrees,x.fN)
  |15=>fun x=>(x.fSteps,x.fPhase,x.fAt,x.fTries,x.fWait,x.fBack,x.fDone,x.fUndone,x.fSome,x.fSeq)
  |16=>fun x=>(x.fEpochs,x.fSagas)
  |17=>fun x=>(x.fKind,x.fStep,x.fTry,x.fBack,x.fEnd)
  |_+18=>fun x=>x
 of:=fun n=>match n with
  |0=>fun y=>⟨y.1,y.2.1,y.2.2⟩
  |1=>fun y=>⟨y.1,y.2⟩
  |2=>fun y=>⟨y.1,y.2.1,y.2.2⟩
  |3=>fun y=>⟨y.1,y.2⟩
  |4=>fun y=>⟨y.1,y.2.1,y.2.2.1,y.2.2.2.1,y.2.2.2.2.1,y.2.2.2.2.2.1,y.2.2.2.2.2.2.1,y.2.2.2.2.2.2.2.1,y.2.2.2.2.2.2.2.2.1,y.2.2.2.2.2.2.2.2.2.1,y.2.2.2.2.2.2.2.2.2.2.1,y.2.2.2.2.2.2.2.2.2.2.2.1,y.2.2.2.2.2.2.2.2.2.2.2.2.1,y.2.2.2.2.2.2.2.2.2.2.2.2.2.1,y.2.2.2.2.2.2.2.2.2.2.2.2.2.2.1,y.2.2.2.2.2.2.2.2.2.2.2.2.2.2.2⟩
  |5=>fun y=>⟨y.1,y.2.1,y.2.2.1,y.2.2.2.1,y.2.2.2.2.1,y.2.2.2.2.2.1,y.2.2.2.2.2.2.1,y.2.2.2.2.2.2.2.1,y.2.2.2.2.2.2.2.2.1,y.2.2.2.2.2.2.2.2.2.1,y.2.2.2.2.2.2.2.2.2.2⟩
  |6=>fun y=>⟨y.1,y.2.1,y.2.2⟩
  |7=>fun y=>⟨y.1,y.2.1,y.2.2⟩
  |8=>fun y=>⟨y.1,y.2⟩
  |9=>fun y=>⟨y.1,y.2.1,y.2.2⟩
  |10=>fun y=>⟨y.1,y.2⟩
  |11=>fun y=>⟨y⟩
  |12=>fun y=>⟨y.1,y.2⟩
  |13=>fun y=>⟨y⟩
  |14=>fun y=>⟨y.1,y.2⟩
  |15=>fun y=>⟨y.1,y.2.1,y.2.2.1,y.2.2.2.1,y.2.2.2.2.1,y.2.2.2.2.2.1,y.2.2.2.2.2.2.1,y.2.2.2.2.2.2.2.1,y.2.2.2.2.2.2.2.2.1,y.2.2.2.2.2.2.2.2.2⟩
  |16=>fun y=>⟨y.1,y.2⟩
  |17=>fun y=>⟨y.1,y.2.1,y.2.2.1,y.2.2.2.1,y.2.2.2.2⟩
  |_+18=>fun x=>x
 kd:=fun n=>match n with
  |0=>Qa7
  |1=>J3
  |2=>Qao
  |3=>J4
  |4=>Qe3
  |5=>QhN
  |6=>QdC
  |7=>Qgo
  |8=>QdD
  |9=>Qfq
  |10=>Qfr
  |11=>QhO
  |12=>QdE
  |13=>JO
  |14=>Qgp
  |15=>qR
  |16=>QiU
  |17=>QhP
  |_+18=>Qur
 tn:=fun t=>lookA [(25,9),(26,9),(28,8),(29,8),(34,0),(35,0),(39,2),(40,2),(45,7),(46,7),(51,4),(52,4),(54,6),(55,6),(69,16),(70,16),(89,3),(90,3),(106,1),(107,1),(124,12),(125,12),(139,11),(140,11),(151,15),(152,15),(161,5),(162,5),(175,10),(176,10),(186,13),(187,13),(188,14),(189,14),(269,17),(270,17)] t
 te:=fun t=>lookA [] t
theorem tbok:TbOk TD:=⟨fun n _ _ _=>match n with
 |0=>Iff.rfl
 |1=>Iff.rfl
 |2=>Iff.rfl
 |3=>Iff.rfl
 |4=>Iff.rfl
 |5=>Iff.rfl
 |6=>Iff.rfl
 |7=>Iff.rfl
 |8=>Iff.rfl
 |9=>Iff.rfl
 |10=>Iff.rfl
 |11=>Iff.rfl
 |12=>Iff.rfl
 |13=>Iff.rfl
 |14=>Iff.rfl
 |15=>Iff.rfl
 |16=>Iff.rfl
 |17=>Iff.rfl
 |_+18=>Iff.rfl,fun n _=>match n with
 |0=>rfl
 |1=>rfl
 |2=>rfl
 |3=>rfl
 |4=>rfl
 |5=>rfl
 |6=>rfl
 |7=>rfl
 |8=>rfl
 |9=>rfl
 |10=>rfl
 |11=>rfl
 |12=>rfl
 |13=>rfl
 |14=>rfl
 |15=>rfl
 |16=>rfl
 |17=>rfl
 |_+18=>rfl⟩
def GD:List (Nat×Dy TD):= [(0,⟨(.arr .u32 8),XY⟩),(1,⟨(.arr .u32 64),gl_K⟩)]
@[reducible] def ob : List Nat → List (Nat × Nat × Bool)
 | []=> []
 |n::l=>(n/10,n%10/2,Nat.beq (n%2) 1)::ob l
@[reducible] def tI : Ty := .int .i64
@[reducible] def tH : Ty := .arr .u8 32
@[reducible] def tB : Ty := .sl (.int .u8)
@[reducible] def dI : Pt := .dt (.int .i64)
@[reducible] def dF : Pt := .dt .bool
@[reducible] def dH : Pt := .dt (.arr .u8 32)
@[reducible] def dB : Pt := .dt (.sl (.int .u8))
@[reducible] def dD (n : Nat) : Pt := .dt (.st n)
@[reducible] def sd (fid : Nat) (pt rt : List Ty) (fn : TU TD.ty pt → Option (TU TD.ty rt)) : FSp TD := { fid := fid, args := dts pt, blks := [], pt := pt, rt := rt, fn := fn, res := dts rt, out := [], new := [] }
@[reducible] def sg (fid : Nat) (args : Pt) (blks : List (TypeId × Pt)) (pt rt : List Ty) (fn : TU TD.ty pt → Option (TU TD.ty rt)) (res : Pt) (out : List (Option Pt)) (new : List (TypeId × Pt)) : FSp TD := { fid := fid, args := args, blks := blks, pt := pt, rt := rt, fn := fn, res := res, out := out, new := new }
@[reducible] def sp (fid : Nat) (args : Pt) (blks : List (TypeId × Pt)) (pt rt : List Ty) (pv : TypeId × Bool) (fs : TU TD.ty pt → Option (Int ⊕ TU TD.ty rt)) (pk : List Bool) (res : Pt) (out : List (Option Pt)) (new : List (TypeId × Pt)) : FSp TD := { fid := fid, args := args, blks := blks, pt := pt, rt := rt, fn := fun p => sm (fs p) (fun _ => none) some, pv := some pv, fs := fs, pk := pk, res := res, out := out, new := new }
theorem v0:∀s∈([]:List (FSp TD)),VOk Tryz.prog GD s:=QkK
theorem vl{s:FSp TD}{l:List (FSp TD)}(h:VOk Tryz.prog GD s)(h':∀x∈l,VOk Tryz.prog GD x):∀x∈s::l,VOk Tryz.prog GD x:=Jt h h'
section
variable {n:Nat}{s:FSp TD}{f:Func}{c:Code}{sps:List (FSp TD)}{rvs:List (RvSp TD)}{mps:List (FuncId×(SV TD→Option (SV TD)))}
theorem vk(K:Nat)(h:Hn)(hf:Tryz.prog.funcs[s.fid]?=some f)(hn:f.ntmps=n)(hsp:∀x∈sps,VOk Tryz.prog GD x)(hb:f.body=some c:=by exact rfl)
  (hok:(Nat.ble (lenP s.args) n&&(lstP s.args&&(lstP s.res&&(!(f.name== "runtime.NumGoroutine")&&s.pv.isNone))))=true:=by kernel_rfl) (hfn:(fun p=>s.fn p)=funS (T:=TD) (cx Tryz.prog GD sps K n [] []) s f h:=by kernel_rfl):VOk Tryz.prog GD s:=QuP tbok hf hb hn hok hsp Qe9 Qfa hfn
theorem vkM(K:Nat)(h:Hn)(hf:Tryz.prog.funcs[s.fid]?=some f)(hn:f.ntmps=n)(hsp:∀x∈sps,VOk Tryz.prog GD x)(hrv:∀x∈rvs,RvOk Tryz.prog x)(hmp:∀f g,lookA mps f=some g→MpOk Tryz.prog f g)(hb:f.body=some c:=by exact rfl)
  (hok:(Nat.ble (lenP s.args) n&&(lstP s.args&&(lstP s.res&&(!(f.name== "runtime.NumGoroutine")&&s.pv.isNone))))=true:=by kernel_rfl) (hfn:(fun p=>s.fn p)=funS (T:=TD) (cx Tryz.prog GD sps K n rvs mps) s f h:=by kernel_rfl):VOk Tryz.prog GD s:=QuP tbok hf hb hn hok hsp hrv hmp hfn
theorem vkP(K:Nat)(h:Hn)(hf:Tryz.prog.funcs[s.fid]?=some f)(hn:f.ntmps=n)(hsp:∀x∈sps,VOk Tryz.prog GD x)(hgn:(fun p=>s.fn p)=fun p=>sm (s.fs p) (fun _=>none) some)(hb:f.body=some c:=by exact rfl)
  (hok:(Nat.ble (lenP s.args) n&&(lstP s.args&&(lstP s.res&& !(f.name== "runtime.NumGoroutine"))))=true:=by kernel_rfl) (hfn:(fun p=>s.fs p)=funP (T:=TD) (cx Tryz.prog GD sps K n [] []) s f h:=by kernel_rfl):VOk Tryz.prog GD s:=QvT tbok hf hb hn hok hsp Qe9 Qfa hgn hfn
end
def QuT:SV TD→Option (SV TD):=fun l=>match l with| .nl=>some (.mp [.int .i64 1,.int .i64 2,.int .i64 3,.int .i64 4,.int .i64 5,.int .i64 6] (.cs (.agg (.cs (.fn 179 .nl) .nl)) (.cs (.agg (.cs (.fn 180 .nl) .nl)) (.cs (.agg (.cs (.fn 181 .nl) .nl)) (.cs (.agg (.cs (.fn 180 .nl) .nl)) (.cs (.agg (.cs (.fn 180 .nl) .nl)) (.cs (.agg (.cs (.fn 182 .nl) .nl)) .nl)))))))|_=>none
theorem QxE:MpOk Tryz.prog 141 QuT:=by
 refine⟨fun ρ g w0 D l vs sv hA hf hS=> ?_,by kernel_rfl⟩
 unfold QuT at hf
 split at hf
 ·obtain rfl:vs= []:=hA
  cases hf
  have hS:=Stp.refl hS
  refine jG (n:=9) Tryz.func141 rfl Tryz.ntmps141 rfl (fun a hE=> ?_)
  have hE:Env a 9 [] []:=hE
  refine wpIn_seq (QbP ?_)
  refine segN 1 (j:=1) [(0,.map none)] hE (by kernel_rfl) rfl (fun a hE=> ?_)
  refine at_end rfl ?_
  refine wpIn_seq (QbP ?_)
  refine JY (QoD rfl rfl rfl rfl hE rfl hS (fun a b w hE hS=> ?_)) rfl
  refine JY (Qa1 hE (Qa4 ([.func (.func 179) #[] #[]]) rfl rfl rfl rfl hE rfl rfl (by kernel_rfl) (fun a hE=> ?_))) rfl
  refine JY (QaM (kt:=3) (et:=204) (kk:= .i64) rfl rfl rfl rfl hE hS rfl rfl rfl (by kernel_rfl) (by kernel_rfl) (by kernel_rfl) (fun a w hE hS=> ?_)) rfl
  refine JY (Qa1 hE (Qa4 ([.func (.func 180) #[] #[]]) rfl rfl rfl rfl hE rfl rfl (by kernel_rfl) (fun a hE=> ?_))) rfl
  refine JY (QaM (kt:=3) (et:=204) (kk:= .i64) rfl rfl rfl rfl hE hS rfl rfl rfl (by kernel_rfl) (by kernel_rfl) (by kernel_rfl) (fun a w hE hS=> ?_)) rfl
  refine JY (Qa1 hE (Qa4 ([.func (.func 181) #[] #[]]) rfl rfl rfl rfl hE rfl rfl (by kernel_rfl) (fun a hE=> ?_))) rfl
  refine JY (QaM (kt:=3) (et:=204) (kk:= .i64) rfl rfl rfl rfl hE hS rfl rfl rfl (by kernel_rfl) (by kernel_rfl) (by kernel_rfl) (fun a w hE hS=> ?_)) rfl
  refine JY (Qa1 hE (Qa4 ([.func (.func 180) #[] #[]]) rfl rfl rfl rfl hE rfl rfl (by kernel_rfl) (fun a hE=> ?_))) rfl
  refine JY (QaM (kt:=3) (et:=204) (kk:= .i64) rfl rfl rfl rfl hE hS rfl rfl rfl (by kernel_rfl) (by kernel_rfl) (by kernel_rfl) (fun a w hE hS=> ?_)) rfl
  refine JY (Qa1 hE (Qa4 ([.func (.func 180) #[] #[]]) rfl rfl rfl rfl hE rfl rfl (by kernel_rfl) (fun a hE=> ?_))) rfl
  refine JY (QaM (kt:=3) (et:=204) (kk:= .i64) rfl rfl rfl rfl hE hS rfl rfl rfl (by kernel_rfl) (by kernel_rfl) (by kernel_rfl) (fun a w hE hS=> ?_)) rfl
  refine JY (Qa1 hE (Qa4 ([.func (.func 182) #[] #[]]) rfl rfl rfl rfl hE rfl rfl (by kernel_rfl) (fun a hE=> ?_))) rfl
  refine JY (QaM (kt:=3) (et:=204) (kk:= .i64) rfl rfl rfl rfl hE hS rfl rfl rfl (by kernel_rfl) (by kernel_rfl) (by kernel_rfl) (fun a w hE hS=> ?_)) rfl
  refine segN 1 (j:=14) [(8,.map (some b))] hE (by kernel_rfl) rfl (fun a hE=> ?_)
  refine segN 1 (j:=15) [(0,.map (some b))] hE (by kernel_rfl) rfl (fun a hE=> ?_)
  refine at_end rfl ?_
  refine wpIn_ret ?_
  refine QlT ([.map (some b)]) hE (by rw[show Tryz.f141.results.toList= [.tmp 0]from rfl];exact⟨_,_,rfl,rfl,rfl⟩) ?_
  refine⟨_,rfl,_,YV rfl ⟨b,_,_,rfl,by unfold Snap.ins;rw[if_pos rfl],rfl,⟨_,_,rfl,⟨_,⟨_,_,rfl,⟨[],rfl,rfl⟩,rfl⟩,rfl⟩,⟨_,_,rfl,⟨_,⟨_,_,rfl,⟨[],rfl,rfl⟩,rfl⟩,rfl⟩,⟨_,_,rfl,⟨_,⟨_,_,rfl,⟨[],rfl,rfl⟩,rfl⟩,rfl⟩,⟨_,_,rfl,⟨_,⟨_,_,rfl,⟨[],rfl,rfl⟩,rfl⟩,rfl⟩,⟨_,_,rfl,⟨_,⟨_,_,rfl,⟨[],rfl,rfl⟩,rfl⟩,rfl⟩,⟨_,_,rfl,⟨_,⟨_,_,rfl,⟨[],rfl,rfl⟩,rfl⟩,rfl⟩,rfl⟩⟩⟩⟩⟩⟩⟩,(Stp.freezeM hS).2⟩
 ·cases hf
def Qar(K:Nat):FSp TD:=sg 133 (.cs (.dt (.sl tB)) .nl) [] [(.sl tB)] [tB] (fun p=>QW.f K (p)) (.cs (.own (.int .u8) 5 true) .nl) [] []
theorem qj(K:Nat):VOk Tryz.prog GD (Qar K):=Qcf (T:=TD) (ts:= [(.sl (.sl (.int .u8)))]) (rt:=(.int .u8)) (e:=5) (f:=true) (fn:=fun p=>QW.f K (p)) (fun g w0 D p vals r hG hv hS hr=>by
 obtain⟨v0,h0,rfl⟩:=hv
 obtain⟨A0,c0,e0,f0⟩:=h0
 cases e0
 exact CallsIn.mono (QW.calls hr hS f0) fun e w' ⟨u,h1,D1,A,c,q,h2,h3,h4⟩=>⟨u,h1,D1,A,c,q,h2,h4,h3⟩) (by kernel_rfl)
def QaO(K:Nat):FSp TD:=sg 111 (.cs dB .nl) [] [tB] [tB] (fun p=>Yd.f K (p)) (.cs (.own (.int .u8) 5 true) .nl) [] []
theorem JH(K:Nat):VOk Tryz.prog GD (QaO K):=Qcf (T:=TD) (ts:= [(.sl (.int .u8))]) (rt:=(.int .u8)) (e:=5) (f:=true) (fn:=fun p=>Yd.f K (p)) (fun g w0 D p vals r hG hv hS hr=>by
 obtain⟨v0,h0,rfl⟩:=hv
 obtain⟨A0,c0,e0,f0⟩:=h0
 cases e0
 exact CallsIn.mono (Yd.calls hr hS f0) fun e w' ⟨u,h1,D1,A,c,q,h2,h3,h4⟩=>⟨u,h1,D1,A,c,q,h2,h4,h3⟩) (by kernel_rfl)
def XM(K:Nat):FSp TD:=sg 157 (.cs (.dt (.sl (.st 1))) .nl) [] [(.sl (.st 1))] [(.sl (.st 1))] (fun p=>Yh.f K (p)) (.cs (.own (.st 1) 107 true) .nl) [] []
theorem qP(K:Nat):VOk Tryz.prog GD (XM K):=Qcf (T:=TD) (ts:= [(.sl (.st 1))]) (rt:=(.st 1)) (e:=107) (f:=true) (fn:=fun p=>Yh.f K (p)) (fun g w0 D p vals r hG hv hS hr=>by
 obtain⟨v0,h0,rfl⟩:=hv
 obtain⟨A0,c0,e0,f0⟩:=h0
 cases e0
 exact CallsIn.mono (Yh.calls hr hS f0) fun e w' ⟨u,h1,D1,A,c,q,h2,h3,h4⟩=>⟨u,h1,D1,A,c,q,h2,h4,h3⟩) (by kernel_rfl)
def Xg(K:Nat):FSp TD:=sg 62 (.cs (.dt (.sl (.st 3))) .nl) [] [(.sl (.st 3))] [(.sl (.st 3))] (fun p=>QJ.f K (p)) (.cs (.own (.st 3) 90 true) .nl) [] []
theorem Ju(K:Nat):VOk Tryz.prog GD (Xg K):=Qcf (T:=TD) (ts:= [(.sl (.st 3))]) (rt:=(.st 3)) (e:=90) (f:=true) (fn:=fun p=>QJ.f K (p)) (fun g w0 D p vals r hG hv hS hr=>by
 obtain⟨v0,h0,rfl⟩:=hv
 obtain⟨A0,c0,e0,f0⟩:=h0
 cases e0
 exact CallsIn.mono (QJ.calls hr hS f0) fun e w' ⟨u,h1,D1,A,c,q,h2,h3,h4⟩=>⟨u,h1,D1,A,c,q,h2,h4,h3⟩) (by kernel_rfl)
def Xh(K:Nat):FSp TD:=sg 206 (.cs (.dt (.sl (.st 15))) .nl) [] [(.sl (.st 15))] [(.sl (.st 15))] (fun p=>Q3.f K (p)) (.cs (.own (.st 15) 152 true) .nl) [] []
theorem qw(K:Nat):VOk Tryz.prog GD (Xh K):=Qcf (T:=TD) (ts:= [(.sl (.st 15))]) (rt:=(.st 15)) (e:=152) (f:=true) (fn:=fun p=>Q3.f K (p)) (fun g w0 D p vals r hG hv hS hr=>by
 obtain⟨v0,h0,rfl⟩:=hv
 obtain⟨A0,c0,e0,f0⟩:=h0
 cases e0
 exact CallsIn.mono (Q3.calls hr hS f0) fun e w' ⟨u,h1,D1,A,c,q,h2,h3,h4⟩=>⟨u,h1,D1,A,c,q,h2,h4,h3⟩) (by kernel_rfl)
def ZP(K:Nat):RvSp TD:=⟨134,(.int .u8),5,Q8.f K⟩
theorem ZQ(K:Nat):RvOk Tryz.prog (ZP K):=⟨fun g w0 D A cap xs ys q hS hO hr=>Q8.calls hr hS hO,by kernel_rfl,fun xs ys h=>Q8.len h⟩
def jy(K:Nat):FSp TD:=sd 35 [] [(.st 0)] (fun p=>Zk.f K)
theorem Qcg(K:Nat):VOk Tryz.prog GD (jy K):=vk K .n Tryz.func35 Tryz.ntmps35 v0
def Qjr(K:Nat):FSp TD:=sd 78 [tI,tI,tI] [.bool] (fun p=>JK.f K (p.1) (p.2.1) (p.2.2))
theorem X7(K:Nat):VOk Tryz.prog GD (Qjr K):=vk K .n Tryz.func78 Tryz.ntmps78 v0
def Qev(K:Nat):FSp TD:=sd 66 [(.st 0)] [.bool] (fun p=>Z4.f K (p))
theorem QcT(K:Nat):VOk Tryz.prog GD (Qev K):=vk K .n Tryz.func66 Tryz.ntmps66 (vl (X7 K) v0)
def QkO(K:Nat):FSp TD:=sd 81 [(.st 0),tI,tI] [.bool] (fun p=>Zd.f K (p.1) (p.2.1) (p.2.2))
theorem Qch(K:Nat):VOk Tryz.prog GD (QkO K):=vk K .n Tryz.func81 Tryz.ntmps81 (vl (QcT K) (vl (X7 K) v0))
def Qq6(K:Nat):FSp TD:=sg 156 (.cs (.dt (.int .u64)) (.cs dI .nl)) [] [(.int .u64),tI] [tB] (fun p=>Qdh.f K (p.1) (p.2)) (.cs (.own (.int .u8) 5 true) .nl) [] []
theorem QkP(K:Nat):VOk Tryz.prog GD (Qq6 K):=vk K (.s .n (.s .n (.s (.s .n (.l ⟨[(0,(.dt (.int .u64))),(5,(.own (.int .u8) 5 true)),(11,dI)], [], [(.int .u64),tB,tI], [], [], []⟩ (some ⟨[(5,(.own (.int .u8) 5 true))], [], [tB], [], [], []⟩) false .n)) .n))) Tryz.func156 Tryz.ntmps156 v0
def Qmm(K:Nat):FSp TD:=sg 155 (.cs dI .nl) [] [tI] [tB] (fun p=>QaG.f K (p)) (.cs (.own (.int .u8) 5 true) .nl) [] []
theorem Qmn(K:Nat):VOk Tryz.prog GD (Qmm K):=vk K .n Tryz.func155 Tryz.ntmps155 (vl (QkP K) v0)
def Qft(K:Nat):FSp TD:=sg 154 (.cs (.dt (.sl tI)) (.cs (.fn 155 .nl) .nl)) [] [(.sl tI)] [tB] (fun p=>XC.f K (p)) (.cs (.own (.int .u8) 5 true) .nl) [] []
theorem Qfu(K:Nat):VOk Tryz.prog GD (Qft K):=vk K (.s .n (.s .n (.s (.s .n (.l ⟨[(5,(.own (.int .u8) 5 true)),(10,dI)], [], [tB,tI], [], [], []⟩ (some ⟨[(5,(.own (.int .u8) 5 true))], [], [tB], [], [], []⟩) false .n)) .n))) Tryz.func154 Tryz.ntmps154 (vl (Qmn K) v0)
def QoH(K:Nat):FSp TD:=sg 143 (.cs dI .nl) [] [tI] [tB] (fun p=>QdF.f K (p)) (.cs (.own (.int .u8) 5 true) .nl) [] []
theorem QoI(K:Nat):VOk Tryz.prog GD (QoH K):=vk K (.s .n (.s .n (.s .n (.s (.l ⟨[(3,(.own (.int .u8) 5 true))], [], [tB], [], [], []⟩ (some ⟨[(3,(.own (.int .u8) 5 true))], [], [tB], [], [], []⟩) false .n) (.s .n (.s (.s .n (.l ⟨[(3,(.own (.int .u8) 5 true)),(5,dI)], [], [tB,tI], [], [], []⟩ (some ⟨[(3,(.own (.int .u8) 5 true))], [], [tB], [], [], []⟩) false .n)) .n)))))) Tryz.func143 Tryz.ntmps143 v0
def QkQ(K:Nat):FSp TD:=sg 142 (.cs dB .nl) [] [tB] [tB] (fun p=>Qeo.f K (p)) (.cs (.fn 183 (.cs (.ptr 0 0) .nl)) .nl) [] [(41,dB)]
theorem QkR(K:Nat):VOk Tryz.prog GD (QkQ K):=vk K .n Tryz.func142 Tryz.ntmps142 v0
def QaP(K:Nat):FSp TD:=sd 208 [(.int .u32),tI] [(.int .u32)] (fun p=>YH.f K (p.1) (p.2))
theorem yH(K:Nat):VOk Tryz.prog GD (QaP K):=vk K .n Tryz.func208 Tryz.ntmps208 v0
def Qmo(K:Nat):FSp TD:=sd 207 [(.int .u32),tI,tI,tI] [(.int .u32)] (fun p=>Zl.f K (p.1) (p.2.1) (p.2.2.1) (p.2.2.2))
theorem Qmp(K:Nat):VOk Tryz.prog GD (Qmo K):=vk K (.s .n (.s (.r (ob [2,12,22,40,50,60,90,100,110,36,76,82,122,132]) [] []) .n)) Tryz.func207 Tryz.ntmps207 (vl (yH K) v0)
def QhR(K:Nat):FSp TD:=sd 184 [tB] [(.arr .u32 64)] (fun p=>XI.f K (p))
theorem QhS(K:Nat):VOk Tryz.prog GD (QhR K):=vk K (.s .n (.s .n (.s (.s .n (.l ⟨[(5,dI)], [(3,(.dt (.arr .u32 64)))], [tI,(.arr .u32 64)], [], [], []⟩ (some ⟨[], [(3,(.dt (.arr .u32 64)))], [(.arr .u32 64)], [], [], []⟩) false (.s .n (.s .n (.j ⟨[], [(3,(.dt (.arr .u32 64)))], [(.arr .u32 64)], [], [], []⟩ (.s .n (.s (.s .n (.s (.s (.r (ob [0,12,22,32,42,52,80,90,100,110,120,130,140,150,170,180,190,200,210,220,230,240,260,270,280,290,300,310,320,66,72,162,252,332,342,356]) [] []) .n) .n)) (.r (ob [0,12,22,32,42,60,70,80,90,110,120,130,140,170,180,190,200,56,100,156,162,212,222,236]) [] [3]))) .n))))) .n))) Tryz.func184 Tryz.ntmps184 (vl (Qmp K) v0)
def QkS(K:Nat):FSp TD:=sd 185 [(.int .u32),tI,tI,tI] [(.int .u32)] (fun p=>Xp.f K (p.1) (p.2.1) (p.2.2.1) (p.2.2.2))
theorem QkT(K:Nat):VOk Tryz.prog GD (QkS K):=vk K .n Tryz.func185 Tryz.ntmps185 (vl (yH K) v0)
def QoJ(K:Nat):FSp TD:=sd 144 [(.arr .u32 8),tB] [(.arr .u32 8)] (fun p=>QcH.f K (p.1) (p.2))
theorem QoK(K:Nat):VOk Tryz.prog GD (QoJ K):=vk K (.s .n (.s .n (.s .n (.s (.s .n (.l ⟨[(18,dI)], [(5,(.dt (.arr .u32 8)))], [tI,(.arr .u32 8)], [], [], []⟩ (some ⟨[], [(5,(.dt (.arr .u32 8)))], [(.arr .u32 8)], [], [], []⟩) false (.s .n (.s .n (.s (.s .n (.s (.r (ob [0,10,22,32,60,70,80,90,100,110,120,130,140,150,160,170,190,200,210,230,46,52,182,222,242,252]) [] [5]) (.s (.r (ob [2,12,30,40,50,60,70,80,90,100,110,120,130,140,150,160,170,180,190,26,202,212]) [] [5]) (.s (.r (ob [2,12,26]) [] []) .n)))) .n))))) (.s (.s .n (.l ⟨[(81,dI)], [(2,(.dt (.arr .u32 8)))], [tI,(.arr .u32 8)], [], [], []⟩ (some ⟨[], [(2,(.dt (.arr .u32 8)))], [(.arr .u32 8)], [], [], [5]⟩) false (.s .n (.s .n (.s (.s .n (.r (ob [2,12,22,32,42,52,62,72,86]) [] [])) .n))))) .n))))) Tryz.func144 Tryz.ntmps144 (vl (QhS K) (vl (QkT K) v0))
def QoL(K:Nat):FSp TD:={fid:=83,args:=(.cs (.dt (.sl (.sl (.int .u8)))) .nl),blks:= [],pt:= [(.sl (.sl (.int .u8)))],rt:= [(.arr .u8 32)],fn:=fun p=>Qep.f K (p),res:=(.cs (.dt (.arr .u8 32)) .nl),out:= [],new:= [] }
theorem QoM(K:Nat):VOk Tryz.prog GD (QoL K):=vk K (.s .n (.s .n (.s .n (.s (.s .n (.g (.l ⟨[], [(1000000000004,(.dt (.arr .u32 8))),(1,dB)], [(.arr .u32 8),tB], [], [], []⟩ (some ⟨[], [(1000000000004,(.dt (.arr .u32 8))),(1,dB)], [(.arr .u32 8),tB], [], [], []⟩) false .n) .n .n)) (.s .n (.s (.s .n (.l ⟨[(21,dI)], [(6,dH)], [tI,tH], [], [], []⟩ (some ⟨[], [(6,dH)], [tH], [], [], [4]⟩) false .n)) .n)))))) Tryz.func83 Tryz.ntmps83 (vl (qj K) (vl (QoI K) (vl (QkR K) (vl (QoK K) v0))))
def Qq7(K:Nat):FSp TD:={fid:=83,args:=(.cs (.dt (.sl (.sl (.int .u8)))) .nl),blks:= [],pt:= [(.sl (.sl (.int .u8)))],rt:= [(.arr .u8 32)],fn:=fun p=>shaQ.f K (p),res:=(.cs (.dt (.arr .u8 32)) .nl),out:= [],new:= [] }
theorem QaQ(K:Nat):VOk Tryz.prog GD (Qq7 K):=(congrArg (fun f=>VOk Tryz.prog GD ({fid:=83,args:=(.cs (.dt (.sl (.sl (.int .u8)))) .nl),blks:= [],pt:= [(.sl (.sl (.int .u8)))],rt:= [(.arr .u8 32)],fn:=f,res:=(.cs (.dt (.arr .u8 32)) .nl),out:= [],new:= [] }:FSp TD)) (Qvx K)).mpr (QoM K)
def Qq8(K:Nat):FSp TD:=sg 177 (.cs dB (.cs (.dt (.int .u8)) .nl)) [] [tB,(.int .u8)] [tB] (fun p=>Qgt.f K (p.1) (p.2)) (.cs (.own (.int .u8) 5 true) .nl) [] []
theorem Qq9(K:Nat):VOk Tryz.prog GD (Qq8 K):=vk K (.s .n (.s .n (.s .n (.s (.s .n (.l ⟨[(5,(.own (.int .u8) 5 true)),(13,dI)], [], [tB,tI], [], [], []⟩ (some ⟨[(5,(.own (.int .u8) 5 true))], [], [tB], [], [], []⟩) false .n)) .n)))) Tryz.func177 Tryz.ntmps177 v0
def Qra(K:Nat):FSp TD:=sd 139 [tB,(.sl tB)] [tH] (fun p=>Qgu.f K (p.1) (p.2))
theorem QkU(K:Nat):VOk Tryz.prog GD (Qra K):=vk K (.s .n (.j ⟨[(0,dB)], [], [tB], [], [], []⟩ .n (.s .n (.s (.r (ob [2,20,16,36,46,56]) [6] []) .n)))) Tryz.func139 Tryz.ntmps139 (vl (QaQ K) (vl (Qq9 K) v0))
def Qrb(K:Nat):FSp TD:=sd 103 [tH,(.sl tI)] [tH] (fun p=>Qeq.f K (p.1) (p.2))
theorem QkV(K:Nat):VOk Tryz.prog GD (Qrb K):=vk K (.s .n (.s (.r (ob [0,12,26,36,46,56]) [2] []) .n)) Tryz.func103 Tryz.ntmps103 (vl (Qfu K) (vl (QkU K) v0))
def Qmq(K:Nat):FSp TD:=sd 104 [(.st 0),tI,tI] [tH] (fun p=>QbX.f K (p.1) (p.2.1) (p.2.2))
theorem Qmr(K:Nat):VOk Tryz.prog GD (Qmq K):=vk K .n Tryz.func104 Tryz.ntmps104 (vl (Qch K) (vl (QkV K) v0))
def QoN(K:Nat):FSp TD:=sd 105 [.bool] [tI] (fun p=>QcI.f K (p))
theorem QoO(K:Nat):VOk Tryz.prog GD (QoN K):=vk K .n Tryz.func105 Tryz.ntmps105 v0
def Qas(K:Nat):FSp TD:=sd 36 [(.st 0),(.st 4)] [tH] (fun p=>jo.f K (p.1) (p.2))
theorem Qc9(K:Nat):VOk Tryz.prog GD (Qas K):=vk K (.s .n (.s (.j ⟨[(16,dF)], [], [.bool], [], [], []⟩ .n .n) (.s (.r (ob [2,12,22,32,42,60,70,80,90,100,110,130,140,56,126,156,164,176,186]) [] [3]) .n))) Tryz.func36 Tryz.ntmps36 (vl (Qch K) (vl (Qmr K) (vl (QoO K) (vl (QkV K) v0))))
def QkW(K:Nat):FSp TD:=sd 164 [tI,tI,tI] [.bool] (fun p=>JE.f K (p.1) (p.2.1) (p.2.2))
theorem Qfb(K:Nat):VOk Tryz.prog GD (QkW K):=vk K .n Tryz.func164 Tryz.ntmps164 v0
def QhT(K:Nat):FSp TD:=sd 165 [(.st 3)] [.bool] (fun p=>Z5.f K (p))
theorem QhU(K:Nat):VOk Tryz.prog GD (QhT K):=vk K .n Tryz.func165 Tryz.ntmps165 (vl (Qfb K) v0)
def yc(K:Nat):FSp TD:=sg 196 (.cs (.dt (.sl (.st 3))) (.cs (.fn 165 .nl) .nl)) [] [(.sl (.st 3))] [tI] (fun p=>Ji.f K (p)) (.cs dI .nl) [] []
theorem yf(K:Nat):VOk Tryz.prog GD (yc K):=vk K (.s .n (.s (.s .n (.l ⟨[(8,dI)], [], [tI], [], [], []⟩ (some ⟨[], [], [], [], [], []⟩) true .n)) .n)) Tryz.func196 Tryz.ntmps196 (vl (QhU K) v0)
def jA(K:Nat):FSp TD:=sg 166 (.cs (.dt (.sl (.st 3))) (.cs (.fn 165 .nl) .nl)) [] [(.sl (.st 3))] [.bool] (fun p=>YI.f K (p)) (.cs dF .nl) [] []
theorem jB(K:Nat):VOk Tryz.prog GD (jA K):=vk K .n Tryz.func166 Tryz.ntmps166 (vl (yf K) v0)
def QkX(K:Nat):FSp TD:=sd 123 [(.st 4)] [.bool] (fun p=>QcJ.f K (p))
theorem QkY(K:Nat):VOk Tryz.prog GD (QkX K):=vk K (.s .n (.s (.j ⟨[(19,dF)], [], [.bool], [], [], []⟩ .n .n) (.s (.s .n (.s .n (.s .n (.j ⟨[(41,dF)], [], [.bool], [], [], []⟩ .n .n)))) .n))) Tryz.func123 Tryz.ntmps123 (vl (Qfb K) (vl (jB K) v0))
def QoP(K:Nat):FSp TD:=sd 124 [(.st 4)] [(.st 4)] (fun p=>QfR.f K (p))
theorem QoQ(K:Nat):VOk Tryz.prog GD (QoP K):=vk K (.s .n (.s .n (.j ⟨[], [(3,(dD 4))], [(.st 4)], [], [], [1]⟩ (.s .n (.s (.s (.j ⟨[], [(3,(dD 4))], [(.st 4)], [], [], []⟩ (.s (.s (.s (.s .n (.s .n (.s (.j ⟨[(13,dF)], [], [.bool], [], [], []⟩ .n .n) .n))) .n) (.s (.s (.r (ob [2,12,20,30,40,50,62,76,82,96,102,116]) [] [1]) (.s .n (.s .n (.r (ob [2,12,20,30,42,56,62,76]) [] [1])))) .n)) (.r (ob [2,12,20,30,40,50,60,70,82,96,102,116,122,136,142,156]) [] [1])) (.s (.r (ob [2,12,20,30,40,50,60,70,80,90,102,116,122,136,142,156,162,176,182,196]) [] [1]) .n)) (.s (.r (ob [2,12,20,30,40,50,62,76,82,96,102,116]) [] [1]) .n)) (.s (.r (ob [2,12,20,30,42,56,62,76]) [] [1]) .n))) .n))) Tryz.func124 Tryz.ntmps124 v0
def Xi(K:Nat):FSp TD:=sd 97 [(.sl (.st 3)),(.sl (.st 3))] [.bool] (fun p=>Ja.f K (p.1) (p.2))
theorem Xj(K:Nat):VOk Tryz.prog GD (Xi K):=vk K (.s .n (.s .n (.s (.s .n (.l ⟨[(13,dI)], [], [tI], [], [], []⟩ (some ⟨[], [], [], [], [], []⟩) true (.s .n (.s .n (.s (.s .n (.s (.r (ob [2,12,22,32,42,52,62,72,82]) [] []) .n)) .n))))) .n))) Tryz.func97 Tryz.ntmps97 v0
def Qjs(K:Nat):FSp TD:=sd 96 [tB,tB] [.bool] (fun p=>bytes_Equal.f K (p.1) (p.2))
theorem Qd1(K:Nat):VOk Tryz.prog GD (Qjs K):=vk K .n Tryz.func96 Tryz.ntmps96 v0
def QoR(K:Nat):FSp TD:=sd 98 [(.st 4)] [(.st 5)] (fun p=>QfS.f K (p))
theorem QoS(K:Nat):VOk Tryz.prog GD (QoR K):=vk K .n Tryz.func98 Tryz.ntmps98 v0
def QoT(K:Nat):FSp TD:=sd 31 [(.st 4),(.st 4)] [.bool] (fun p=>QfT.f K (p.1) (p.2))
theorem QoU(K:Nat):VOk Tryz.prog GD (QoT K):=vk K (.s .n (.s (.j ⟨[(18,dF)], [], [.bool], [], [], []⟩ .n .n) (.j ⟨[(4,dF)], [], [.bool], [], [], [2,3]⟩ (.r (ob [2,20,16,36,42,53,62,72,82,92,102,112,123,132,142,152,162,172,182,193,202,212,222,232,242,252,262]) [] [3]) .n))) Tryz.func31 Tryz.ntmps31 (vl (Xj K) (vl (Qd1 K) (vl (QoS K) v0)))
def Qms(K:Nat):FSp TD:=sd 61 [(.st 4)] [.bool] (fun p=>qG.f K (p))
theorem ja(K:Nat):VOk Tryz.prog GD (Qms K):=vk K (.s .n (.s (.r (ob [2,16,23,30,42,56,66,72,82]) [] [1]) .n)) Tryz.func61 Tryz.ntmps61 (vl (QkY K) (vl (QoQ K) (vl (QoU K) v0)))
def Qfv(K:Nat):FSp TD:=sd 146 [(.st 4)] [.bool] (fun p=>Qc6.f K (p))
theorem Qfw(K:Nat):VOk Tryz.prog GD (Qfv K):=vk K .n Tryz.func146 Tryz.ntmps146 (vl (ja K) v0)
def yL(K:Nat):FSp TD:=sg 186 (.cs (.dt (.sl (.st 4))) (.cs (.fn 146 .nl) .nl)) [] [(.sl (.st 4))] [tI] (fun p=>qo.f K (p)) (.cs dI .nl) [] []
theorem yM(K:Nat):VOk Tryz.prog GD (yL K):=vk K (.s .n (.s (.s .n (.l ⟨[(8,dI)], [], [tI], [], [], []⟩ (some ⟨[], [], [], [], [], []⟩) true .n)) .n)) Tryz.func186 Tryz.ntmps186 (vl (Qfw K) v0)
def jR(K:Nat):FSp TD:=sg 145 (.cs (.dt (.sl (.st 4))) (.cs (.fn 146 .nl) .nl)) [] [(.sl (.st 4))] [.bool] (fun p=>JU.f K (p)) (.cs dF .nl) [] []
theorem jS(K:Nat):VOk Tryz.prog GD (jR K):=vk K .n Tryz.func145 Tryz.ntmps145 (vl (yM K) v0)
def QhV(K:Nat):FSp TD:=sd 86 [(.sl (.st 4))] [.bool] (fun p=>Z7.f K (p))
theorem Qat(K:Nat):VOk Tryz.prog GD (QhV K):=vk K .n Tryz.func86 Tryz.ntmps86 (vl (jS K) v0)
def QoV(K:Nat):FSp TD:=sg 71 (.cs dI .nl) [] [tI] [tB] (fun p=>qU.f K (p)) (.cs (.own (.int .u8) 5 true) .nl) [] []
theorem qM(K:Nat):VOk Tryz.prog GD (QoV K):=vkM K (.s .n (.s (.j ⟨[(9,dF)], [], [.bool], [], [], []⟩ .n .n) (.s .n (.s (.s .n (.l ⟨[(0,dI),(3,(.own (.int .u8) 5 true))], [], [tI,tB], [], [], []⟩ (some ⟨[(3,(.own (.int .u8) 5 true))], [], [tB], [], [], []⟩) false .n)) .n)))) Tryz.func71 Tryz.ntmps71 v0 (QvU (ZQ K) Qe9) Qfa
def Qmt(K:Nat):FSp TD:=sg 147 .nl [] [] [] (fun p=>QbY.f K) (.cs (.agg (.cs (.agg (.cs (.raw .nilFunc) .nl)) (.cs (.agg (.cs (.fn 187 .nl) .nl)) (.cs (.agg (.cs (.fn 188 .nl) .nl)) (.cs (.agg (.cs (.fn 189 .nl) .nl)) (.cs (.agg (.cs (.fn 188 .nl) .nl)) (.cs (.agg (.cs (.fn 191 .nl) .nl)) (.cs (.agg (.cs (.fn 192 .nl) .nl)) .nl)))))))) .nl) [] []
theorem QgS(K:Nat):VOk Tryz.prog GD (Qmt K):=vk K .n Tryz.func147 Tryz.ntmps147 v0
def Qjt(K:Nat):FSp TD:=sg 190 (.cs (.dt (.sl tI)) .nl) [] [(.sl tI)] [tB] (fun p=>qV.f K (p)) (.cs (.own (.int .u8) 5 true) .nl) [] []
theorem y8(K:Nat):VOk Tryz.prog GD (Qjt K):=vk K (.s .n (.s .n (.s (.s .n (.l ⟨[(3,(.own (.int .u8) 5 true)),(8,dI)], [], [tB,tI], [], [], []⟩ (some ⟨[(3,(.own (.int .u8) 5 true))], [], [tB], [], [], []⟩) false .n)) .n))) Tryz.func190 Tryz.ntmps190 (vl (qM K) v0)
def Qmu(K:Nat):FSp TD:=sg 187 (.cs (dD 4) .nl) [] [(.st 4)] [tB] (fun p=>QbZ.f K (p)) (.cs (.own (.int .u8) 5 true) .nl) [] []
theorem QgT(K:Nat):VOk Tryz.prog GD (Qmu K):=vk K (.s .n (.s .n (.s (.s .n (.l ⟨[(3,(.own (.int .u8) 5 true)),(16,dI)], [], [tB,tI], [], [], [1]⟩ (some ⟨[(3,(.own (.int .u8) 5 true))], [], [tB], [], [], [1]⟩) false .n)) .n))) Tryz.func187 Tryz.ntmps187 (vl (y8 K) v0)
def QoW(K:Nat):FSp TD:=sg 69 (.cs (.dt (.sl tB)) .nl) [] [(.sl tB)] [tB] (fun p=>Jh.f K (p)) (.cs (.own (.int .u8) 5 true) .nl) [] []
theorem yI(K:Nat):VOk Tryz.prog GD (QoW K):=vk K .n Tryz.func69 Tryz.ntmps69 (vl (qj K) v0)
def Qmv(K:Nat):FSp TD:=sg 70 (.cs dF .nl) [] [.bool] [tB] (fun p=>XJ.f K (p)) (.cs (.own (.int .u8) 5 true) .nl) [] []
theorem Qbr(K:Nat):VOk Tryz.prog GD (Qmv K):=vk K .n Tryz.func70 Tryz.ntmps70 v0
def QoX(K:Nat):FSp TD:=sg 188 (.cs (dD 4) .nl) [] [(.st 4)] [tB] (fun p=>Z8.f K (p)) (.cs (.own (.int .u8) 5 true) .nl) [] []
theorem Qew(K:Nat):VOk Tryz.prog GD (QoX K):=vk K (.s .n (.s (.r (ob [2,12,22,32,42,52,62,72,84,100,110,96,126,136,146,152]) [] [1]) .n)) Tryz.func188 Tryz.ntmps188 (vl (y8 K) (vl (Qbr K) (vl (yI K) v0)))
def Qmw(K:Nat):FSp TD:=sg 72 (.cs dH .nl) [] [tH] [tB] (fun p=>jY.f K (p)) (.cs (.own (.int .u8) 5 true) .nl) [] []
theorem Xw(K:Nat):VOk Tryz.prog GD (Qmw K):=vk K .n Tryz.func72 Tryz.ntmps72 (vl (JH K) v0)
def Qju(K:Nat):FSp TD:=sg 189 (.cs (dD 4) .nl) [] [(.st 4)] [tB] (fun p=>yu.f K (p)) (.cs (.own (.int .u8) 5 true) .nl) [] []
theorem Qd2(K:Nat):VOk Tryz.prog GD (Qju K):=vk K (.s .n (.s (.r (ob [2,20,30,50,60,70,80,94,110,120,16,46,106,136,146,156,162]) [] [1]) .n)) Tryz.func189 Tryz.ntmps189 (vl (Qew K) (vl (Qbr K) (vl (y8 K) (vl (Xw K) (vl (yI K) v0)))))
def Qjv(K:Nat):FSp TD:=sg 191 (.cs (dD 4) .nl) [] [(.st 4)] [tB] (fun p=>yw.f K (p)) (.cs (.own (.int .u8) 5 true) .nl) [] []
theorem Qd3(K:Nat):VOk Tryz.prog GD (Qjv K):=vk K .n Tryz.func191 Tryz.ntmps191 (vl (y8 K) v0)
def Qjw(K:Nat):FSp TD:=sg 192 (.cs (dD 4) .nl) [] [(.st 4)] [tB] (fun p=>yx.f K (p)) (.cs (.own (.int .u8) 5 true) .nl) [] []
theorem Qd4(K:Nat):VOk Tryz.prog GD (Qjw K):=vk K .n Tryz.func192 Tryz.ntmps192 (vl (y8 K) v0)
def QoY(K:Nat):FSp TD:=sg 168 (.cs dB .nl) [] [tB] [tB] (fun p=>QcK.f K (p)) (.cs (.own (.int .u8) 5 true) .nl) [] []
theorem QoZ(K:Nat):VOk Tryz.prog GD (QoY K):=vk K .n Tryz.func168 Tryz.ntmps168 (vl (QkP K) (vl (qj K) v0))
def Qex(K:Nat):FSp TD:=sg 167 (.cs (.dt (.sl tB)) (.cs (.fn 168 .nl) .nl)) [] [(.sl tB)] [tB] (fun p=>Zn.f K (p)) (.cs (.own (.int .u8) 5 true) .nl) [] []
theorem Qey(K:Nat):VOk Tryz.prog GD (Qex K):=vk K (.s .n (.s .n (.s (.s .n (.l ⟨[(5,(.own (.int .u8) 5 true)),(10,dI)], [], [tB,tI], [], [], []⟩ (some ⟨[(5,(.own (.int .u8) 5 true))], [], [tB], [], [], []⟩) false .n)) .n))) Tryz.func167 Tryz.ntmps167 (vl (QoZ K) v0)
def Qtr(K:Nat):FSp TD:=sd 125 [tI,(.sl tB)] [tH] (fun p=>Qgv.f K (p.1) (p.2))
theorem QnU(K:Nat):VOk Tryz.prog GD (Qtr K):=vk K .n Tryz.func125 Tryz.ntmps125 (vl (Qey K) (vl (QaQ K) v0))
def Qrc(K:Nat):FSp TD:=sd 63 [(.st 4)] [tH] (fun p=>Qgw.f K (p))
theorem QkZ(K:Nat):VOk Tryz.prog GD (Qrc K):=vk K (.s .n (.s (.j ⟨[(3,dF)], [], [.bool], [], [], []⟩ .n .n) (.s (.r (ob [2,12,22,32,46,56,66]) [1] []) .n))) Tryz.func63 Tryz.ntmps63 (vl (ja K) (vl (QnU K) v0))
def QhW(K:Nat):FSp TD:=sg 93 (.cs (.ptr 0 0) .nl) [(52,(dD 4))] [(.st 4)] [tB] (fun p=>Z9.f K (p)) (.cs (.own (.int .u8) 5 true) .nl) [none] []
theorem QhX(K:Nat):VOk Tryz.prog GD (QhW K):=vk K .n Tryz.func93 Tryz.ntmps93 (vl (QkZ K) (vl (Xw K) v0))
def Qrd(K:Nat):FSp TD:=sg 92 (.cs (dD 4) (.cs (.fn 93 (.cs (.ptr 0 0) .nl)) .nl)) [(52,(dD 4))] [(.st 4),(.st 4)] [tB] (fun p=>Qi0.f K (p.1) (p.2)) (.cs (.own (.int .u8) 5 true) .nl) [none] []
theorem Qre(K:Nat):VOk Tryz.prog GD (Qrd K):=vk K (.s .n (.s .n (.j ⟨[(5,(.own (.int .u8) 5 true))], [], [tB], [], [], []⟩ (.r (ob [2,12,40,50,80,26,36,62,72,96,106,116,122]) [] [2]) .n))) Tryz.func92 Tryz.ntmps92 (vl (ja K) (vl (qM K) (vl (QgS K) (vl (QgT K) (vl (yI K) (vl (Qew K) (vl (Qd2 K) (vl (Qd3 K) (vl (Qd4 K) (vl (QhX K) v0))))))))))
def Qk0(K:Nat):FSp TD:=sg 28 (.cs (dD 4) .nl) [] [(.st 4)] [tB] (fun p=>QaH.f K (p)) (.cs (.own (.int .u8) 5 true) .nl) [] []
theorem Qfc(K:Nat):VOk Tryz.prog GD (Qk0 K):=vk K .n Tryz.func28 Tryz.ntmps28 (vl (Qre K) v0)
def Qmx(K:Nat):FSp TD:=sd 87 [tB] [tH] (fun p=>QaI.f K (p))
theorem QgU(K:Nat):VOk Tryz.prog GD (Qmx K):=vk K .n Tryz.func87 Tryz.ntmps87 (vl (QaQ K) v0)
def QgV(K:Nat):FSp TD:=sd 24 [(.sl (.st 4))] [(.sl tH)] (fun p=>XZ.f K (p))
theorem ZC(K:Nat):VOk Tryz.prog GD (QgV K):=vk K (.s .n (.s .n (.s .n (.s (.s .n (.l ⟨[(3,(.own tH 37 true)),(11,dI)], [], [(.sl tH),tI], [], [], []⟩ (some ⟨[(3,(.own tH 37 true))], [], [(.sl tH)], [], [], []⟩) false .n)) .n)))) Tryz.func24 Tryz.ntmps24 (vl (Qat K) (vl (Qfc K) (vl (QgU K) v0)))
def Qk1(K:Nat):FSp TD:=sd 84 [tI] [tI] (fun p=>yE.f K (p))
theorem Qci(K:Nat):VOk Tryz.prog GD (Qk1 K):=vk K (.s .n (.s .n (.s .n (.s (.l ⟨[(3,dI)], [], [tI], [], [], []⟩ (some ⟨[(3,dI)], [], [tI], [], [], []⟩) false .n) .n)))) Tryz.func84 Tryz.ntmps84 v0
def Qmy(K:Nat):FSp TD:=sd 85 [tH,tH] [tH] (fun p=>jZ.f K (p.1) (p.2))
theorem Qbs(K:Nat):VOk Tryz.prog GD (Qmy K):=vk K (.s .n (.s (.r (ob [4,12,22,36,46,56]) [2,3] []) .n)) Tryz.func85 Tryz.ntmps85 (vl (QaQ K) v0)
def QgW(K k:Nat):FSp TD:=sd 23 [(.sl tH)] [tH] (fun p=>JM.r K k (p))
theorem Qmz(K:Nat):∀k,VOk Tryz.prog GD (QgW K k):=by
 intro k
 induction k with
 |zero=>exact QuQ Tryz.func23 rfl (by kernel_rfl) (fun _=>rfl)
 |succ k ih=>
  exact vk K (.s .n (.s .n (.s .n (.s (.r (ob [2,12,40,50,60,26,36,76,86,96]) [] []) .n)))) Tryz.func23 Tryz.ntmps23 (vl (QaQ K) (vl (Qci K) (vl (Qbs K) (vl ih v0))))
def QmA(K:Nat):FSp TD:=QgW K K
theorem QgX(K:Nat):VOk Tryz.prog GD (QmA K):=Qmz K K
def QmB(K:Nat):FSp TD:=sd 138 [(.st 2)] [tH] (fun p=>QdI.f K (p))
theorem QmC(K:Nat):VOk Tryz.prog GD (QmB K):=vk K (.s .n (.s (.r (ob [2,12,30,40,26,56,66,76]) [1] []) .n)) Tryz.func138 Tryz.ntmps138 (vl (qM K) (vl (QnU K) v0))
def QmD(K:Nat):FSp TD:=sd 79 [(.st 0),tI,(.st 2)] [tH] (fun p=>Zo.f K (p.1) (p.2.1) (p.2.2))
theorem QgY(K:Nat):VOk Tryz.prog GD (QmD K):=vk K (.s .n (.s (.j ⟨[(25,dF)], [], [.bool], [], [], []⟩ .n .n) (.s .n (.s (.r (ob [0,10,20,30,40,54,62,76,86,96]) [7] [3]) .n)))) Tryz.func79 Tryz.ntmps79 (vl (QcT K) (vl (X7 K) (vl (QmC K) (vl (QkU K) v0))))
def qN(K:Nat):FSp TD:=sg 37 (.cs (dD 0) (.cs (.dt (.sl (.st 4))) .nl)) [] [(.st 0),(.sl (.st 4))] [tI,tH,(.sl (.st 1))] (fun p=>jf.f K (p.1) (p.2)) (.cs (.agg (.cs dI (.cs dH (.cs (.own (.st 1) 107 true) .nl)))) .nl) [] []
theorem QaR(K:Nat):VOk Tryz.prog GD (qN K):=vk K (.s .n (.s .n (.s .n (.s (.s .n (.l ⟨[(7,dI)], [(6,(.agg (.cs dI (.cs dH (.cs (.own (.st 1) 107 true) .nl)))))], [tI,tI,tH,(.sl (.st 1))], [], [], []⟩ (some ⟨[], [(6,(.agg (.cs dI (.cs dH (.cs (.own (.st 1) 107 true) .nl)))))], [tI,tH,(.sl (.st 1))], [], [], [2,5]⟩) false (.s .n (.s (.r (ob [0,10,20,32,42,52,66,72,84,96,102,116]) [] [6]) .n)))) .n)))) Tryz.func37 Tryz.ntmps37 (vl (ZC K) (vl (QgX K) (vl (QgY K) v0)))
def QhY(K:Nat):FSp TD:=sg 107 (.cs dI (.cs (.fn 108 .nl) .nl)) [] [tI] [tI] (fun p=>Qe5.f K (p)) (.cs (.fn 159 (.cs (.ptr 0 0) (.cs (.ptr 1 0) .nl))) .nl) [] [(3,dI),(173,(.fn 108 .nl))]
theorem QhZ(K:Nat):VOk Tryz.prog GD (QhY K):=vk K .n Tryz.func107 Tryz.ntmps107 v0
def Qfx(K:Nat):FSp TD:=sd 108 [tI] [.bool] (fun p=>Qc7.f K (p))
theorem Qfy(K:Nat):VOk Tryz.prog GD (Qfx K):=vk K .n Tryz.func108 Tryz.ntmps108 v0
def Qk2(K:Nat):FSp TD:=sd 16 [(.st 4)] [(.st 4)] (fun p=>QaJ.f K (p))
theorem Qfd(K:Nat):VOk Tryz.prog GD (Qk2 K):=vk K (.s .n (.s (.j ⟨[(10,dF)], [], [.bool], [], [], []⟩ .n .n) (.s (.r (ob [0,10,22,32,50,46,66,72,86]) [] [1]) .n))) Tryz.func16 Tryz.ntmps16 (vl (ja K) (vl (Ju K) (vl (QkZ K) v0)))
def QgZ(K:Nat):FSp TD:=sd 158 [(.st 4),tI,(.int .u32)] [(.st 4)] (fun p=>Qbb.f K (p.1) (p.2.1) (p.2.2))
theorem Qcj(K:Nat):VOk Tryz.prog GD (QgZ K):=vk K (.s .n (.s .n (.s (.r (ob [2,12,30,40,26,60,56,76,82,96]) [] [3]) .n))) Tryz.func158 Tryz.ntmps158 (vl (Qfd K) (vl (Ju K) (vl (JH K) v0)))
def Qfe(K k:Nat):FSp TD:=sg 91 (.cs (.dt (.sl tH)) (.cs dI .nl)) [] [(.sl tH),tI] [(.sl tH),.bool] (fun p=>yF.r K k (p.1) (p.2)) (.cs (.own tH 37 true) (.cs dF .nl)) [] []
theorem Qk3(K:Nat):∀k,VOk Tryz.prog GD (Qfe K k):=by
 intro k
 induction k with
 |zero=>exact QuQ Tryz.func91 rfl (by kernel_rfl) (fun _=>rfl)
 |succ k ih=>
  exact vk K (.s .n (.s (.j ⟨[(18,dF)], [], [.bool], [], [], []⟩ .n .n) .n)) Tryz.func91 Tryz.ntmps91 (vl (Qci K) (vl (QgX K) (vl ih v0)))
def Qk4(K:Nat):FSp TD:=Qfe K K
theorem Qff(K:Nat):VOk Tryz.prog GD (Qk4 K):=Qk3 K K
def Qg0(K:Nat):FSp TD:=sd 122 [tI,tI,tI] [.bool] (fun p=>jI.f K (p.1) (p.2.1) (p.2.2))
theorem ZE(K:Nat):VOk Tryz.prog GD (Qg0 K):=vk K .n Tryz.func122 Tryz.ntmps122 v0
def Qfz(K:Nat):FSp TD:=sd 162 [(.st 1)] [.bool] (fun p=>XD.f K (p))
theorem QfA(K:Nat):VOk Tryz.prog GD (Qfz K):=vk K .n Tryz.func162 Tryz.ntmps162 (vl (ZE K) v0)
def yN(K:Nat):FSp TD:=sg 195 (.cs (.dt (.sl (.st 1))) (.cs (.fn 162 .nl) .nl)) [] [(.sl (.st 1))] [tI] (fun p=>Js.f K (p)) (.cs dI .nl) [] []
theorem yO(K:Nat):VOk Tryz.prog GD (yN K):=vk K (.s .n (.s (.s .n (.l ⟨[(8,dI)], [], [tI], [], [], []⟩ (some ⟨[], [], [], [], [], []⟩) true .n)) .n)) Tryz.func195 Tryz.ntmps195 (vl (QfA K) v0)
def jT(K:Nat):FSp TD:=sg 163 (.cs (.dt (.sl (.st 1))) (.cs (.fn 162 .nl) .nl)) [] [(.sl (.st 1))] [.bool] (fun p=>YT.f K (p)) (.cs dF .nl) [] []
theorem jU(K:Nat):VOk Tryz.prog GD (jT K):=vk K .n Tryz.func163 Tryz.ntmps163 (vl (yO K) v0)
def Qh0(K:Nat):FSp TD:=sd 121 [(.st 2)] [.bool] (fun p=>Qaa.f K (p))
theorem Qh1(K:Nat):VOk Tryz.prog GD (Qh0 K):=vk K .n Tryz.func121 Tryz.ntmps121 (vl (ZE K) (vl (jU K) v0))
def Qau(K:Nat):FSp TD:=sd 60 [(.st 7)] [.bool] (fun p=>JB.f K (p))
theorem yg(K:Nat):VOk Tryz.prog GD (Qau K):=vk K (.s .n (.s (.j ⟨[(31,dF)], [], [.bool], [], [], []⟩ .n .n) (.s .n (.s (.s .n (.l ⟨[(3,dI),(35,dI)], [], [tI,tI], [], [], []⟩ (some ⟨[], [], [], [], [], [1]⟩) true (.s .n (.s .n (.s (.s .n (.s (.j ⟨[(77,dF)], [], [.bool], [], [], []⟩ .n .n) .n)) .n))))) .n)))) Tryz.func60 Tryz.ntmps60 (vl (Qh1 K) (vl (ja K) (vl (ZE K) v0)))
def Qjx(K:Nat):FSp TD:=sg 106 (.cs (.dt (.sl (.st 4))) (.cs (dD 2) (.cs (.dt (.int .u32)) (.cs dF (.cs (.fn 159 (.cs (.ptr 0 0) (.cs (.ptr 1 0) .nl))) .nl))))) [(3,dI),(173,(.fn 108 .nl))] [(.sl (.st 4)),(.st 2),(.int .u32),.bool,tI] [(.st 7),.bool] (fun p=>Qgx.f K (p.1) (p.2.1) (p.2.2.1) (p.2.2.2.1) (p.2.2.2.2)) (.cs (dD 7) (.cs dF .nl)) [none,none] []
theorem Qjy(K:Nat):VOk Tryz.prog GD (Qjx K):=vk K (.s .n (.s (.j ⟨[(35,dF)], [], [.bool], [], [], []⟩ .n .n) (.s .n (.s (.r (ob [0,10,20,30,40,52,62,104,76,82,92,116]) [] [6,8]) (.s (.s .n (.g (.s .n (.l ⟨[(6,dI)], [(1000000000013,(.agg (.cs dF (.cs (dD 2) (.cs (.own (.st 6) 55 false) .nl)))))], [tI,.bool,(.st 2),(.sl (.st 6))], [], [], []⟩ (some ⟨[], [(1000000000013,(.agg (.cs dF (.cs (dD 2) (.cs (.own (.st 6) 55 false) .nl)))))], [.bool,(.st 2),(.sl (.st 6))], [], [], []⟩) true (.s .n (.s .n (.j ⟨[], [(1000000000013,(.agg (.cs dF (.cs (dD 2) (.cs (.own (.st 6) 55 false) .nl)))))], [.bool,(.st 2),(.sl (.st 6))], [], [], []⟩ .n .n))))) .n (.s (.j ⟨[(61,dF)], [], [.bool], [], [], []⟩ .n .n) (.s (.r (ob [0,12,22,32,42,52,62,94,76,82,106]) [] []) (.j ⟨[(73,dF)], [(15,(.agg (.cs dI (.cs (dD 4) (.cs (.own tH 37 true) .nl)))))], [.bool,tI,(.st 4),(.sl tH)], [], [], []⟩ .n .n))))) .n))))) Tryz.func106 Tryz.ntmps106 (vl (Qat K) (vl (ZC K) (vl (qP K) (vl (Qfy K) (vl (Qcj K) (vl (Qff K) (vl (yg K) v0)))))))
def Qav(K:Nat):FSp TD:=sd 38 [(.sl (.st 4)),(.st 2),(.int .u32)] [(.st 7),.bool] (fun p=>Qb0.f K (p.1) (p.2.1) (p.2.2))
theorem Qh2(K:Nat):VOk Tryz.prog GD (Qav K):=vk K (.s .n (.s (.r (ob [0,10,20,32,42,52,66,76,82,92,106,112]) [] [4]) .n)) Tryz.func38 Tryz.ntmps38 (vl (QhZ K) (vl (Qjy K) v0))
def Qez(K:Nat):FSp TD:=sg 107 (.cs dI (.cs (.fn 109 (.cs (.ptr 0 0) (.cs (.ptr 1 0) .nl))) .nl)) [(64,(.dt (.sl (.st 4)))),(3,dI)] [tI,(.sl (.st 4)),tI] [tI] (fun p=>Qb1.f K (p.1) (p.2.1) (p.2.2)) (.cs (.fn 159 (.cs (.ptr 2 0) (.cs (.ptr 3 0) .nl))) .nl) [none,none] [(3,dI),(173,(.fn 109 (.cs (.ptr 0 0) (.cs (.ptr 1 0) .nl))))]
theorem QeA(K:Nat):VOk Tryz.prog GD (Qez K):=vk K .n Tryz.func107 Tryz.ntmps107 v0
def Qg1(K:Nat):FSp TD:=sg 109 (.cs dI (.cs (.ptr 0 0) (.cs (.ptr 1 0) .nl))) [(64,(.dt (.sl (.st 4)))),(3,dI)] [tI,(.sl (.st 4)),tI] [.bool] (fun p=>QdJ.f K (p.1) (p.2.1) (p.2.2)) (.cs dF .nl) [none,none] []
theorem Qg2(K:Nat):VOk Tryz.prog GD (Qg1 K):=vk K (.s .n (.s (.r (ob [2,12,22,32,42,52,63,72,82,92,102,112,122,132,142,152]) [] []) .n)) Tryz.func109 Tryz.ntmps109 v0
def QfB(K:Nat):FSp TD:=sg 106 (.cs (.dt (.sl (.st 4))) (.cs (dD 2) (.cs (.dt (.int .u32)) (.cs dF (.cs (.fn 159 (.cs (.ptr 0 0) (.cs (.ptr 1 0) .nl))) .nl))))) [(3,dI),(173,(.fn 109 (.cs (.ptr 2 0) (.cs (.ptr 3 0) .nl)))),(64,(.dt (.sl (.st 4)))),(3,dI)] [(.sl (.st 4)),(.st 2),(.int .u32),.bool,tI,(.sl (.st 4)),tI] [(.st 7),.bool] (fun p=>Qc8.f K (p.1) (p.2.1) (p.2.2.1) (p.2.2.2.1) (p.2.2.2.2.1) (p.2.2.2.2.2.1) (p.2.2.2.2.2.2)) (.cs (dD 7) (.cs dF .nl)) [none,none,none,none] []
theorem QfC(K:Nat):VOk Tryz.prog GD (QfB K):=vk K (.s .n (.s (.j ⟨[(35,dF)], [], [.bool], [], [], []⟩ .n .n) (.s .n (.s (.r (ob [0,10,20,30,40,52,62,104,76,82,92,116]) [] [6,8]) (.s (.s .n (.g (.s .n (.l ⟨[(6,dI)], [(1000000000013,(.agg (.cs dF (.cs (dD 2) (.cs (.own (.st 6) 55 false) .nl)))))], [tI,.bool,(.st 2),(.sl (.st 6))], [], [], []⟩ (some ⟨[], [(1000000000013,(.agg (.cs dF (.cs (dD 2) (.cs (.own (.st 6) 55 false) .nl)))))], [.bool,(.st 2),(.sl (.st 6))], [], [], []⟩) true (.s .n (.s .n (.j ⟨[], [(1000000000013,(.agg (.cs dF (.cs (dD 2) (.cs (.own (.st 6) 55 false) .nl)))))], [.bool,(.st 2),(.sl (.st 6))], [], [], []⟩ .n .n))))) .n (.s (.j ⟨[(61,dF)], [], [.bool], [], [], []⟩ .n .n) (.s (.r (ob [0,12,22,32,42,52,62,94,76,82,106]) [] []) (.j ⟨[(73,dF)], [(15,(.agg (.cs dI (.cs (dD 4) (.cs (.own tH 37 true) .nl)))))], [.bool,tI,(.st 4),(.sl tH)], [], [], []⟩ .n .n))))) .n))))) Tryz.func106 Tryz.ntmps106 (vl (Qat K) (vl (ZC K) (vl (qP K) (vl (Qg2 K) (vl (Qcj K) (vl (Qff K) (vl (yg K) v0)))))))
def Qbt(K:Nat):FSp TD:=sd 39 [(.sl (.st 4)),(.st 2),(.int .u32),tI] [(.st 7),.bool] (fun p=>Qgy.f K (p.1) (p.2.1) (p.2.2.1) (p.2.2.2))
theorem Qjz(K:Nat):VOk Tryz.prog GD (Qbt K):=vk K (.s .n (.s (.r (ob [0,10,20,32,42,52,62,72,82,92,106,116,122,132,146,152]) [] [4,5]) .n)) Tryz.func39 Tryz.ntmps39 (vl (QeA K) (vl (QfC K) v0))
def Qh3(K:Nat):FSp TD:=sg 74 (.cs (dD 1) .nl) [] [(.st 1)] [tB] (fun p=>Qab.f K (p)) (.cs (.own (.int .u8) 5 true) .nl) [] []
theorem Qh4(K:Nat):VOk Tryz.prog GD (Qh3 K):=vk K (.s .n (.s (.r (ob [2,12,30,40,26,56,66,76,82]) [] [1]) .n)) Tryz.func74 Tryz.ntmps74 (vl (qM K) (vl (Xw K) (vl (yI K) v0)))
def Qck(K:Nat):FSp TD:=sg 73 (.cs (.dt (.sl (.st 1))) (.cs (.fn 74 .nl) .nl)) [] [(.sl (.st 1))] [tB] (fun p=>qW.f K (p)) (.cs (.own (.int .u8) 5 true) .nl) [] []
theorem Qcl(K:Nat):VOk Tryz.prog GD (Qck K):=vk K (.s .n (.s .n (.s (.s .n (.l ⟨[(5,(.own (.int .u8) 5 true)),(13,dI)], [], [tB,tI], [], [], []⟩ (some ⟨[(5,(.own (.int .u8) 5 true))], [], [tB], [], [], []⟩) false .n)) .n))) Tryz.func73 Tryz.ntmps73 (vl (qM K) (vl (Qh4 K) v0))
def Qk5(K:Nat):FSp TD:=sg 137 (.cs dB .nl) [] [tB] [tB] (fun p=>QcL.f K (p)) (.cs (.own (.int .u8) 5 true) .nl) [] []
theorem Qk6(K:Nat):VOk Tryz.prog GD (Qk5 K):=vk K .n Tryz.func137 Tryz.ntmps137 (vl (qM K) v0)
def Qk7(K:Nat):FSp TD:=sg 136 (.cs (.ptr 0 0) .nl) [(52,(dD 4))] [(.st 4)] [tB] (fun p=>QcM.f K (p)) (.cs (.own (.int .u8) 5 true) .nl) [none] []
theorem Qk8(K:Nat):VOk Tryz.prog GD (Qk7 K):=vk K (.s .n (.s (.s .n (.s (.s (.r (ob [10,20,6,36,46,56,62]) [] [0]) .n) .n)) (.s (.r (ob [10,20,40,50,6,36,66,76,86,92]) [] [0]) .n))) Tryz.func136 Tryz.ntmps136 (vl (Qbr K) (vl (Xw K) (vl (yI K) (vl (Qk6 K) v0))))
def Qk9(K:Nat):FSp TD:=sg 92 (.cs (dD 4) (.cs (.fn 136 (.cs (.ptr 0 0) .nl)) .nl)) [(52,(dD 4))] [(.st 4),(.st 4)] [tB] (fun p=>Qer.f K (p.1) (p.2)) (.cs (.own (.int .u8) 5 true) .nl) [none] []
theorem Qla(K:Nat):VOk Tryz.prog GD (Qk9 K):=vk K (.s .n (.s .n (.j ⟨[(5,(.own (.int .u8) 5 true))], [], [tB], [], [], []⟩ (.r (ob [2,12,40,50,80,26,36,62,72,96,106,116,122]) [] [2]) .n))) Tryz.func92 Tryz.ntmps92 (vl (ja K) (vl (qM K) (vl (QgS K) (vl (QgT K) (vl (yI K) (vl (Qew K) (vl (Qd2 K) (vl (Qd3 K) (vl (Qd4 K) (vl (Qk8 K) v0))))))))))
def Qo0(K:Nat):FSp TD:=sg 77 (.cs (dD 4) .nl) [] [(.st 4)] [tB] (fun p=>QdK.f K (p)) (.cs (.own (.int .u8) 5 true) .nl) [] []
theorem Qiu(K:Nat):VOk Tryz.prog GD (Qo0 K):=vk K .n Tryz.func77 Tryz.ntmps77 (vl (Qla K) v0)
def QbF(K:Nat):FSp TD:=sg 135 (.cs (.dt (.sl tH)) (.cs (.fn 72 .nl) .nl)) [] [(.sl tH)] [tB] (fun p=>qx.f K (p)) (.cs (.own (.int .u8) 5 true) .nl) [] []
theorem QbG(K:Nat):VOk Tryz.prog GD (QbF K):=vk K (.s .n (.s .n (.s (.s .n (.l ⟨[(5,(.own (.int .u8) 5 true)),(13,dI)], [], [tB,tI], [], [], []⟩ (some ⟨[(5,(.own (.int .u8) 5 true))], [], [tB], [], [], []⟩) false .n)) .n))) Tryz.func135 Tryz.ntmps135 (vl (qM K) (vl (Xw K) v0))
def QjA(K:Nat):FSp TD:=sg 76 (.cs (dD 6) .nl) [] [(.st 6)] [tB] (fun p=>Qbc.f K (p)) (.cs (.own (.int .u8) 5 true) .nl) [] []
theorem QjB(K:Nat):VOk Tryz.prog GD (QjA K):=vk K (.s .n (.s (.r (ob [2,12,30,40,60,70,26,56,86,96,106,112]) [] [1]) .n)) Tryz.func76 Tryz.ntmps76 (vl (qM K) (vl (Qiu K) (vl (QbG K) (vl (yI K) v0))))
def QbH(K:Nat):FSp TD:=sg 75 (.cs (.dt (.sl (.st 6))) (.cs (.fn 76 .nl) .nl)) [] [(.sl (.st 6))] [tB] (fun p=>qy.f K (p)) (.cs (.own (.int .u8) 5 true) .nl) [] []
theorem QbI(K:Nat):VOk Tryz.prog GD (QbH K):=vk K (.s .n (.s .n (.s (.s .n (.l ⟨[(5,(.own (.int .u8) 5 true)),(13,dI)], [], [tB,tI], [], [], []⟩ (some ⟨[(5,(.own (.int .u8) 5 true))], [], [tB], [], [], []⟩) false .n)) .n))) Tryz.func75 Tryz.ntmps75 (vl (qM K) (vl (QjB K) v0))
def Qcm(K:Nat):FSp TD:=sg 18 (.cs (dD 7) .nl) [] [(.st 7)] [tB] (fun p=>yG.f K (p)) (.cs (.own (.int .u8) 5 true) .nl) [] []
theorem Qfg(K:Nat):VOk Tryz.prog GD (Qcm K):=vk K (.s .n (.s .n (.s (.r (ob [4,18,22,32,50,60,70,90,100,110,130,140,150,46,86,126,166,176,186,192]) [] [1]) (.s .n (.s (.s .n (.l ⟨[(3,(.own (.int .u8) 5 true)),(39,dI)], [], [tB,tI], [], [], [1]⟩ (some ⟨[(3,(.own (.int .u8) 5 true))], [], [tB], [], [], [1]⟩) false .n)) .n))))) Tryz.func18 Tryz.ntmps18 (vl (yg K) (vl (Qbr K) (vl (qM K) (vl (Xw K) (vl (Qcl K) (vl (yI K) (vl (QbI K) (vl (Qiu K) v0))))))))
def Qcn(K:Nat):FSp TD:=sp 65 (.cs dF (.cs dI .nl)) [] [.bool,tI] [] (120,true) (fun p=>Yy.fs K (p.1) (p.2)) [] .nl [] []
theorem yJ(K:Nat):VOk Tryz.prog GD (Qcn K):=vkP K .n Tryz.func65 Tryz.ntmps65 v0 rfl
def QeB(K:Nat):FSp TD:=sd 110 [tB,tB] [.bool] (fun p=>bytes_HasPrefix.f K (p.1) (p.2))
theorem QeC(K:Nat):VOk Tryz.prog GD (QeB K):=vk K .n Tryz.func110 Tryz.ntmps110 (vl (Qd1 K) v0)
def Xx(K:Nat):FSp TD:=sd 45 [tB,tB] [tB,.bool] (fun p=>bytes_CutPrefix.f K (p.1) (p.2))
theorem QaS(K:Nat):VOk Tryz.prog GD (Xx K):=vk K .n Tryz.func45 Tryz.ntmps45 (vl (QeC K) v0)
def Qdm(K:Nat):FSp TD:=sg 46 (.cs dB .nl) [] [tB] [(.st 10)] (fun p=>Qb2.f K (p)) (.cs (.ptr 0 0) .nl) [] [(176,(dD 10))]
theorem Qg3(K:Nat):VOk Tryz.prog GD (Qdm K):=vk K .n Tryz.func46 Tryz.ntmps46 (vl (JH K) v0)
def QeD(K:Nat):FSp TD:=sg 118 (.cs (.ptr 0 0) .nl) [(176,(dD 10))] [(.st 10)] [tI] (fun p=>QF.f K (p)) (.cs dI .nl) [none] []
theorem YO(K:Nat):VOk Tryz.prog GD (QeD K):=vk K .n Tryz.func118 Tryz.ntmps118 v0
def QcX(K:Nat):FSp TD:=sd 113 [tB] [.bool,tI,tI] (fun p=>J5.f K (p))
theorem QcY(K:Nat):VOk Tryz.prog GD (QcX K):=vk K .n Tryz.func113 Tryz.ntmps113 v0
def y9(K:Nat):FSp TD:=sg 49 (.cs (.ptr 0 0) (.cs dI .nl)) [(176,(dD 10))] [tI,(.st 10)] [(.st 10)] (fun p=>Q9.f K (p.1) (p.2)) .nl [some (dD 10)] []
theorem YA(K:Nat):VOk Tryz.prog GD (y9 K):=vk K (.j ⟨[(16,dF)], [], [.bool], [], [], []⟩ .n .n) Tryz.func49 Tryz.ntmps49 v0
def QfD(K:Nat):FSp TD:=sg 112 (.cs (.ptr 0 0) (.cs (.fn 113 .nl) .nl)) [(176,(dD 10))] [(.st 10)] [.bool,(.st 10)] (fun p=>jd.f K (p)) (.cs dF .nl) [some (dD 10)] []
theorem QfE(K:Nat):VOk Tryz.prog GD (QfD K):=vk K .n Tryz.func112 Tryz.ntmps112 (vl (YO K) (vl (QcY K) (vl (YA K) v0)))
def Xa(K:Nat):FSp TD:=sg 47 (.cs (.ptr 0 0) .nl) [(176,(dD 10))] [(.st 10)] [.bool,(.st 10)] (fun p=>Yz.f K (p)) (.cs dF .nl) [some (dD 10)] []
theorem Xb(K:Nat):VOk Tryz.prog GD (Xa K):=vk K .n Tryz.func47 Tryz.ntmps47 (vl (QfE K) v0)
def QjC(K:Nat):FSp TD:=sd 115 [tB] [tI,tI,tI] (fun p=>Zp.f K (p))
theorem Qd5(K:Nat):VOk Tryz.prog GD (QjC K):=vk K (.s .n (.s .n (.s (.s .n (.l ⟨[(5,dI),(10,dI)], [], [tI,tI], [], [], []⟩ (some ⟨[], [], [], [], [], []⟩) true (.s .n (.s .n (.s (.s .n (.s (.j ⟨[(24,dF)], [], [.bool], [], [], []⟩ .n .n) .n)) .n))))) .n))) Tryz.func115 Tryz.ntmps115 v0
def Qg4(K:Nat):FSp TD:=sg 114 (.cs (.ptr 0 0) (.cs (.fn 115 .nl) .nl)) [(176,(dD 10))] [(.st 10)] [tI,(.st 10)] (fun p=>yV.f K (p)) (.cs dI .nl) [some (dD 10)] []
theorem Qg5(K:Nat):VOk Tryz.prog GD (Qg4 K):=vk K .n Tryz.func114 Tryz.ntmps114 (vl (YO K) (vl (Qd5 K) (vl (YA K) v0)))
def Xy(K:Nat):FSp TD:=sg 48 (.cs (.ptr 0 0) .nl) [(176,(dD 10))] [(.st 10)] [tI,(.st 10)] (fun p=>Qy.f K (p)) (.cs dI .nl) [some (dD 10)] []
theorem JR(K:Nat):VOk Tryz.prog GD (Xy K):=vk K .n Tryz.func48 Tryz.ntmps48 (vl (Qg5 K) v0)
def QcZ(K:Nat):FSp TD:=sd 117 [tB] [tH,tI,tI] (fun p=>ji.f K (p))
theorem Qc0(K:Nat):VOk Tryz.prog GD (QcZ K):=vk K .n Tryz.func117 Tryz.ntmps117 v0
def Qc1(K:Nat):FSp TD:=sg 116 (.cs (.ptr 0 0) (.cs (.fn 117 .nl) .nl)) [(176,(dD 10))] [(.st 10)] [tH,(.st 10)] (fun p=>J6.f K (p)) (.cs dH .nl) [some (dD 10)] []
theorem Qc2(K:Nat):VOk Tryz.prog GD (Qc1 K):=vk K .n Tryz.func116 Tryz.ntmps116 (vl (YO K) (vl (Qc0 K) (vl (YA K) v0)))
def Xc(K:Nat):FSp TD:=sg 50 (.cs (.ptr 0 0) .nl) [(176,(dD 10))] [(.st 10)] [tH,(.st 10)] (fun p=>Yi.f K (p)) (.cs dH .nl) [some (dD 10)] []
theorem J9(K:Nat):VOk Tryz.prog GD (Xc K):=vk K .n Tryz.func50 Tryz.ntmps50 (vl (Qc2 K) v0)
def Qh5(K:Nat):FSp TD:=sg 52 (.cs dI (.cs (.ptr 0 0) .nl)) [(100,(.ptr 1 0)),(176,(dD 10))] [tI,(.st 10)] [(.st 1),(.st 10)] (fun p=>Qb3.f K (p.1) (p.2)) (.cs (dD 1) .nl) [none,some (dD 10)] []
theorem Qh6(K:Nat):VOk Tryz.prog GD (Qh5 K):=vk K (.s .n (.s (.r (ob [2,20,16,36,42,56]) [] [1]) .n)) Tryz.func52 Tryz.ntmps52 (vl (JR K) (vl (J9 K) v0))
def jC(K:Nat):FSp TD:=sg 51 (.cs (.ptr 0 0) (.cs dI (.cs dI (.cs (.fn 52 (.cs (.ptr 1 0) .nl)) .nl)))) [(176,(dD 10)),(100,(.ptr 0 0))] [tI,tI,(.st 10)] [(.sl (.st 1)),(.st 10)] (fun p=>Jv.f K (p.1) (p.2.1) (p.2.2)) (.cs (.own (.st 1) 107 true) .nl) [some (dD 10),none] []
theorem XN(K:Nat):VOk Tryz.prog GD (jC K):=vk K (.s .n (.j ⟨[], [(0,(dD 10))], [(.st 10)], [], [], []⟩ .n (.s .n (.s (.s .n (.l ⟨[(9,(.own (.st 1) 107 true)),(17,dI)], [(0,(dD 10))], [(.sl (.st 1)),tI,(.st 10)], [], [], []⟩ (some ⟨[(9,(.own (.st 1) 107 true))], [(0,(dD 10))], [(.sl (.st 1)),(.st 10)], [], [], []⟩) false .n)) .n)))) Tryz.func51 Tryz.ntmps51 (vl (YA K) (vl (YO K) (vl (Qh6 K) v0)))
def QmE(K:Nat):FSp TD:=sg 119 (.cs (.ptr 0 0) .nl) [(176,(dD 10))] [(.st 10)] [(.sl (.st 3)),(.st 10)] (fun p=>Qb4.f K (p)) (.cs (.own (.st 3) 90 true) .nl) [some (dD 10)] []
theorem QmF(K:Nat):VOk Tryz.prog GD (QmE K):=vk K (.s .n (.s .n (.j ⟨[], [(0,(dD 10))], [(.st 10)], [], [], []⟩ .n (.s .n (.s (.s .n (.l ⟨[(4,(.own (.st 3) 90 true)),(12,dI)], [(0,(dD 10))], [(.sl (.st 3)),tI,(.st 10)], [], [], []⟩ (some ⟨[(4,(.own (.st 3) 90 true))], [(0,(dD 10))], [(.sl (.st 3)),(.st 10)], [], [], []⟩) false .n)) .n))))) Tryz.func119 Tryz.ntmps119 (vl (JR K) (vl (YA K) (vl (YO K) v0)))
def Qco(K:Nat):FSp TD:=sg 161 (.cs dB (.cs (.ptr 0 0) .nl)) [(3,dI)] [tB,tI] [tB,tI,tI] (fun p=>Jw.f K (p.1) (p.2)) (.cs (.own (.int .u8) 5 true) (.cs dI (.cs dI .nl))) [none] []
theorem Qcp(K:Nat):VOk Tryz.prog GD (Qco K):=vk K .n Tryz.func161 Tryz.ntmps161 (vl (Qd5 K) (vl (JH K) v0))
def QfF(K:Nat):FSp TD:=sg 160 (.cs (.ptr 0 0) (.cs (.fn 161 (.cs (.ptr 1 0) .nl)) .nl)) [(176,(dD 10)),(3,dI)] [(.st 10),tI] [tB,(.st 10)] (fun p=>qh.f K (p.1) (p.2)) (.cs (.own (.int .u8) 5 true) .nl) [some (dD 10),none] []
theorem QfG(K:Nat):VOk Tryz.prog GD (QfF K):=vk K .n Tryz.func160 Tryz.ntmps160 (vl (YO K) (vl (Qcp K) (vl (YA K) v0)))
def Qdn(K:Nat):FSp TD:=sg 120 (.cs (.ptr 0 0) (.cs dI .nl)) [(176,(dD 10))] [tI,(.st 10)] [tB,(.st 10)] (fun p=>YM.f K (p.1) (p.2)) (.cs (.own (.int .u8) 5 true) .nl) [some (dD 10)] []
theorem Qdo(K:Nat):VOk Tryz.prog GD (Qdn K):=vk K .n Tryz.func120 Tryz.ntmps120 (vl (QfG K) v0)
def Qo1(K:Nat):FSp TD:=sg 55 (.cs (.ptr 0 0) .nl) [(176,(dD 10))] [(.st 10)] [(.st 4),(.st 10)] (fun p=>QdL.f K (p)) (.cs (dD 4) .nl) [some (dD 10)] []
theorem Qiv(K:Nat):VOk Tryz.prog GD (Qo1 K):=vk K (.s .n (.s .n (.j ⟨[], [(0,(dD 10)),(3,(.agg (.cs dI (.cs dI (.cs dI (.cs dI (.cs dI (.cs dF (.cs dF (.cs dI (.cs dI (.cs dI (.cs dH (.cs (.dt (.sl (.st 3))) (.cs dB (.cs dH (.cs dF (.cs dH .nl))))))))))))))))))], [(.st 10),tI,tI,tI,tI,tI,.bool,.bool,tI,tI,tI,tH,(.sl (.st 3)),tB,tH,.bool,tH], [], [], []⟩ (.s .n (.s .n (.s .n (.j ⟨[(33,dF)], [], [.bool], [], [], []⟩ .n .n)))) (.j ⟨[], [(0,(dD 10))], [(.st 10)], [], [], []⟩ .n .n)))) Tryz.func55 Tryz.ntmps55 (vl (JR K) (vl (QmF K) (vl (Xb K) (vl (J9 K) (vl (Qdo K) (vl (YA K) (vl (ja K) (vl (YO K) v0))))))))
def Qh7(K:Nat):FSp TD:=sg 54 (.cs dI (.cs (.ptr 0 0) .nl)) [(100,(.ptr 1 0)),(176,(dD 10))] [tI,(.st 10)] [(.st 6),(.st 10)] (fun p=>Qac.f K (p.1) (p.2)) (.cs (dD 6) .nl) [none,some (dD 10)] []
theorem Qh8(K:Nat):VOk Tryz.prog GD (Qh7 K):=vk K .n Tryz.func54 Tryz.ntmps54 (vl (Qiv K) v0)
def jg(K:Nat):FSp TD:=sg 53 (.cs (.ptr 0 0) (.cs dI (.cs dI (.cs (.fn 54 (.cs (.ptr 1 0) .nl)) .nl)))) [(176,(dD 10)),(100,(.ptr 0 0))] [tI,tI,(.st 10)] [(.sl (.st 6)),(.st 10)] (fun p=>Jr.f K (p.1) (p.2.1) (p.2.2)) (.cs (.own (.st 6) 55 true) .nl) [some (dD 10),none] []
theorem Xm(K:Nat):VOk Tryz.prog GD (jg K):=vk K (.s .n (.j ⟨[], [(0,(dD 10))], [(.st 10)], [], [], []⟩ .n (.s .n (.s (.s .n (.l ⟨[(9,(.own (.st 6) 55 true)),(17,dI)], [(0,(dD 10))], [(.sl (.st 6)),tI,(.st 10)], [], [], []⟩ (some ⟨[(9,(.own (.st 6) 55 true))], [(0,(dD 10))], [(.sl (.st 6)),(.st 10)], [], [], []⟩) false .n)) .n)))) Tryz.func53 Tryz.ntmps53 (vl (YA K) (vl (YO K) (vl (Qh8 K) v0)))
def QfH(K:Nat):FSp TD:=sg 58 (.cs dI (.cs (.ptr 0 0) .nl)) [(100,(.ptr 1 0)),(176,(dD 10))] [tI,(.st 10)] [tH,(.st 10)] (fun p=>Qaq.f K (p.1) (p.2)) (.cs dH .nl) [none,some (dD 10)] []
theorem QfI(K:Nat):VOk Tryz.prog GD (QfH K):=vk K .n Tryz.func58 Tryz.ntmps58 (vl (J9 K) v0)
def QbJ(K:Nat):FSp TD:=sg 57 (.cs (.ptr 0 0) (.cs dI (.cs dI (.cs (.fn 58 (.cs (.ptr 1 0) .nl)) .nl)))) [(176,(dD 10)),(100,(.ptr 0 0))] [tI,tI,(.st 10)] [(.sl tH),(.st 10)] (fun p=>qA.f K (p.1) (p.2.1) (p.2.2)) (.cs (.own tH 37 true) .nl) [some (dD 10),none] []
theorem QbK(K:Nat):VOk Tryz.prog GD (QbJ K):=vk K (.s .n (.j ⟨[], [(0,(dD 10))], [(.st 10)], [], [], []⟩ .n (.s .n (.s (.s .n (.l ⟨[(9,(.own tH 37 true)),(17,dI)], [(0,(dD 10))], [(.sl tH),tI,(.st 10)], [], [], []⟩ (some ⟨[(9,(.own tH 37 true))], [(0,(dD 10))], [(.sl tH),(.st 10)], [], [], []⟩) false .n)) .n)))) Tryz.func57 Tryz.ntmps57 (vl (YA K) (vl (YO K) (vl (QfI K) v0)))
def Qh9(K:Nat):FSp TD:=sg 56 (.cs dI (.cs (.ptr 0 0) .nl)) [(100,(.ptr 1 0)),(176,(dD 10))] [tI,(.st 10)] [(.st 6),(.st 10)] (fun p=>Qad.f K (p.1) (p.2)) (.cs (dD 6) .nl) [none,some (dD 10)] []
theorem Qia(K:Nat):VOk Tryz.prog GD (Qh9 K):=vk K (.s .n (.s (.r (ob [2,20,54,16,36,42,66]) [] [1]) (.s (.r (ob [0,12,30,26,46,52,66]) [] [1]) .n))) Tryz.func56 Tryz.ntmps56 (vl (JR K) (vl (Qiv K) (vl (QbK K) v0)))
def ql(K:Nat):FSp TD:=sg 53 (.cs (.ptr 0 0) (.cs dI (.cs dI (.cs (.fn 56 (.cs (.ptr 1 0) .nl)) .nl)))) [(176,(dD 10)),(100,(.ptr 0 0))] [tI,tI,(.st 10)] [(.sl (.st 6)),(.st 10)] (fun p=>Y9.f K (p.1) (p.2.1) (p.2.2)) (.cs (.own (.st 6) 55 true) .nl) [some (dD 10),none] []
theorem yh(K:Nat):VOk Tryz.prog GD (ql K):=vk K (.s .n (.j ⟨[], [(0,(dD 10))], [(.st 10)], [], [], []⟩ .n (.s .n (.s (.s .n (.l ⟨[(9,(.own (.st 6) 55 true)),(17,dI)], [(0,(dD 10))], [(.sl (.st 6)),tI,(.st 10)], [], [], []⟩ (some ⟨[(9,(.own (.st 6) 55 true))], [(0,(dD 10))], [(.sl (.st 6)),(.st 10)], [], [], []⟩) false .n)) .n)))) Tryz.func53 Tryz.ntmps53 (vl (YA K) (vl (YO K) (vl (Qia K) v0)))
def Xd(K:Nat):FSp TD:=sg 59 (.cs (.ptr 0 0) .nl) [(176,(dD 10))] [(.st 10)] [tI] (fun p=>Y6.f K (p)) (.cs dI .nl) [none] []
theorem Qah(K:Nat):VOk Tryz.prog GD (Xd K):=vk K .n Tryz.func59 Tryz.ntmps59 (vl (YO K) v0)
def Qcq(K:Nat):FSp TD:=sd 15 [tB] [(.st 7),tI] (fun p=>Xr.f K (p))
theorem Qlb(K:Nat):VOk Tryz.prog GD (Qcq K):=vk K (.s .n (.s .n (.s .n (.s .n (.s .n (.s .n (.j ⟨[], [(1000000006,(dD 10))], [(.st 10)], [], [], []⟩ .n (.s .n (.s (.r (ob [0,12,30,26,46,52,62,76]) [] [6]) (.j ⟨[], [(7,(.agg (.cs dF (.cs (.agg (.cs dI (.cs dH (.cs (.own (.st 1) 107 true) .nl)))) (.cs (.own (.st 6) 55 true) .nl))))),(1000000006,(dD 10))], [.bool,tI,tH,(.sl (.st 1)),(.sl (.st 6)),(.st 10)], [], [], []⟩ (.s .n (.s .n (.r (ob [0,12,30,40,50,60,26,76,82,96]) [] [6,7]))) .n)))))))))) Tryz.func15 Tryz.ntmps15 (vl (QaS K) (vl (Qg3 K) (vl (Xb K) (vl (JR K) (vl (YA K) (vl (J9 K) (vl (XN K) (vl (Xm K) (vl (yh K) (vl (Qah K) (vl (yg K) v0)))))))))))
def QjD(K:Nat):FSp TD:=sg 178 (.cs dI (.cs (.ptr 0 0) (.cs (.ptr 1 0) (.cs (.ptr 2 0) .nl)))) [(5,(.dt (.int .u8))),(37,dH),(37,dH)] [tI,(.int .u8),tH,tH] [(.int .u8)] (fun p=>Qbd.f K (p.1) (p.2.1) (p.2.2.1) (p.2.2.2)) .nl [some (.dt (.int .u8)),none,none] []
theorem QjE(K:Nat):VOk Tryz.prog GD (QjD K):=vk K (.r (ob [2,12,22,32,42,52,62,72,82,96]) [] []) Tryz.func178 Tryz.ntmps178 v0
def QmG(K:Nat):FSp TD:=sd 140 [tH,tH] [.bool] (fun p=>Zq.f K (p.1) (p.2))
theorem Qg6(K:Nat):VOk Tryz.prog GD (QmG K):=vk K (.s .n (.s .n (.s .n (.s (.s .n (.l ⟨[(9,dI)], [(5,(.dt (.int .u8)))], [tI,(.int .u8)], [], [], []⟩ (some ⟨[], [(5,(.dt (.int .u8)))], [(.int .u8)], [], [], [2,3]⟩) false .n)) .n)))) Tryz.func140 Tryz.ntmps140 (vl (QjE K) v0)
def Qib(K:Nat):FSp TD:=sd 80 [(.st 11),tH] [.bool] (fun p=>XK.f K (p.1) (p.2))
theorem Qda(K:Nat):VOk Tryz.prog GD (Qib K):=vk K .n Tryz.func80 Tryz.ntmps80 (vl (Qg6 K) v0)
def Qcr(K:Nat):FSp TD:=sd 19 [(.st 0),(.st 2)] [tI] (fun p=>QaK.f K (p.1) (p.2))
theorem Qlc(K:Nat):VOk Tryz.prog GD (Qcr K):=vk K (.s .n (.s (.j ⟨[(17,dF)], [], [.bool], [], [], []⟩ .n .n) (.s .n (.s (.s .n (.l ⟨[(21,dI)], [(5,(.dt (.vec 4 .bool)))], [tI,(.vec 4 .bool)], [], [], []⟩ (some ⟨[], [], [], [], [], [5]⟩) true (.s .n (.s .n (.s (.s .n (.s (.j ⟨[(38,dF)], [], [.bool], [], [], []⟩ .n .n) .n)) .n))))) .n)))) Tryz.func19 Tryz.ntmps19 (vl (QcT K) (vl (X7 K) (vl (QgY K) (vl (Qda K) v0))))
def Qld(K:Nat):FSp TD:=sd 127 [(.st 4)] [tH] (fun p=>jJ.f K (p))
theorem Qfh(K:Nat):VOk Tryz.prog GD (Qld K):=vk K .n Tryz.func127 Tryz.ntmps127 (vl (Qfc K) (vl (QgU K) v0))
def Qaw(K:Nat):FSp TD:=sg 169 (.cs (.ptr 0 0) .nl) [(189,(.agg (.cs (.agg (.cs (.own tH 37 true) .nl)) (.cs dI .nl))))] [(.sl tH),tI] [tH,(.sl tH),tI] (fun p=>Jp.f K (p.1) (p.2)) (.cs dH .nl) [some (.agg (.cs (.agg (.cs (.own tH 37 true) .nl)) (.cs dI .nl)))] []
theorem Qax(K:Nat):VOk Tryz.prog GD (Qaw K):=vk K (.s .n (.s (.r (ob [2,12,22,32,42,52,62,72,82,92,102,112,124,136]) [] []) (.s (.r (ob [0,12,22,32,42,52,62,72,82,92,102,116,122,132,146]) [] []) .n))) Tryz.func169 Tryz.ntmps169 v0
def ZR(K:Nat):FSp TD:=sg 170 (.cs (.ptr 0 0) (.cs dH .nl)) [(189,(.agg (.cs (.agg (.cs (.own tH 37 true) .nl)) (.cs dI .nl))))] [tH,(.sl tH),tI] [(.sl tH),tI] (fun p=>JF.f K (p.1) (p.2.1) (p.2.2)) .nl [some (.agg (.cs (.agg (.cs (.own tH 37 true) .nl)) (.cs dI .nl)))] []
theorem ZT(K:Nat):VOk Tryz.prog GD (ZR K):=vk K (.s .n (.r (ob [0,12,22,32,42,52,64,76,82,92,106]) [] [])) Tryz.func170 Tryz.ntmps170 v0
def QfJ(K:Nat):FSp TD:=sg 126 (.cs (.ptr 0 0) (.cs dH .nl)) [(189,(.agg (.cs (.agg (.cs (.own tH 37 true) .nl)) (.cs dI .nl))))] [tH,(.sl tH),tI] [(.sl tH),tI] (fun p=>je.f K (p.1) (p.2.1) (p.2.2)) .nl [some (.agg (.cs (.agg (.cs (.own tH 37 true) .nl)) (.cs dI .nl)))] []
theorem QfK(K:Nat):VOk Tryz.prog GD (QfJ K):=vk K (.s .n (.s .n (.s (.s .n (.l ⟨[(4,dI)], [(0,(.agg (.cs (.agg (.cs (.own tH 37 true) .nl)) (.cs dI .nl)))),(3,dH)], [tI,(.sl tH),tI,tH], [], [], []⟩ (some ⟨[], [(0,(.agg (.cs (.agg (.cs (.own tH 37 true) .nl)) (.cs dI .nl)))),(3,dH)], [(.sl tH),tI,tH], [], [], []⟩) false (.s .n (.s (.r (ob [2,12,22,40,36,56,66]) [] [3]) .n)))) (.s (.r (ob [2,12,22,32,46]) [] []) .n)))) Tryz.func126 Tryz.ntmps126 (vl (Qax K) (vl (Qbs K) (vl (ZT K) v0)))
def QeE(K:Nat):FSp TD:=sg 171 (.cs (.ptr 0 0) .nl) [(189,(.agg (.cs (.agg (.cs (.own tH 37 true) .nl)) (.cs dI .nl))))] [(.sl tH),tI] [tI,(.sl tH),tI] (fun p=>yX.f K (p.1) (p.2)) (.cs dI .nl) [some (.agg (.cs (.agg (.cs (.own tH 37 true) .nl)) (.cs dI .nl)))] []
theorem QeF(K:Nat):VOk Tryz.prog GD (QeE K):=vk K .n Tryz.func171 Tryz.ntmps171 v0
def ZU(K:Nat):FSp TD:=sg 172 (.cs (.ptr 0 0) .nl) [(189,(.agg (.cs (.agg (.cs (.own tH 37 true) .nl)) (.cs dI .nl))))] [(.sl tH),tI] [(.sl tH),tI] (fun p=>JG.f K (p.1) (p.2)) (.cs (.fn 197 (.cs (.ptr 1 0) .nl)) .nl) [some (.agg (.cs (.agg (.cs (.own tH 37 true) .nl)) (.cs dI .nl)))] [(264,(.ptr 0 0))]
theorem ZV(K:Nat):VOk Tryz.prog GD (ZU K):=vk K .n Tryz.func172 Tryz.ntmps172 v0
def QeG(K:Nat):FSp TD:=sg 128 (.cs (.ptr 0 0) .nl) [(189,(.agg (.cs (.agg (.cs (.own tH 37 true) .nl)) (.cs dI .nl))))] [(.sl tH),tI] [tH,(.sl tH),tI] (fun p=>qH.f K (p.1) (p.2)) (.cs dH .nl) [some (.agg (.cs (.agg (.cs (.own tH 37 true) .nl)) (.cs dI .nl)))] []
theorem QeH(K:Nat):VOk Tryz.prog GD (QeG K):=vk K (.s .n (.s .n (.s .n (.s .n (.s (.s .n (.g (.s .n (.l ⟨[(3,dI)], [(1000000000003,dH),(1000000000004,dF)], [tI,tH,.bool], [], [], []⟩ (some ⟨[], [(1000000000003,dH),(1000000000004,dF)], [tH,.bool], [], [], []⟩) false (.s .n (.j ⟨[], [(1000000000003,dH),(1000000000004,dF)], [tH,.bool], [], [], []⟩ .n .n)))) .n .n)) .n))))) Tryz.func128 Tryz.ntmps128 (vl (QeF K) (vl (QaQ K) (vl (ZV K) (vl (Qbs K) v0))))
def Qle(K:Nat):FSp TD:=sd 21 [(.st 0),(.st 4)] [.bool] (fun p=>QcN.f K (p.1) (p.2))
theorem Qlf(K:Nat):VOk Tryz.prog GD (Qle K):=vk K (.s .n (.s .n (.j ⟨[(4,dF)], [], [.bool], [], [], [2,3]⟩ .n .n))) Tryz.func21 Tryz.ntmps21 (vl (Qc9 K) (vl (ja K) (vl (Qch K) (vl (Qda K) v0))))
def Qbu(K:Nat):FSp TD:=sp 129 (.cs (dD 12) (.cs (dD 4) .nl)) [] [(.st 12),(.st 4)] [] (120,true) (fun p=>Jf.fs K (p.1) (p.2)) [] .nl [] []
theorem Xe(K:Nat):VOk Tryz.prog GD (Qbu K):=vkP K .n Tryz.func129 Tryz.ntmps129 (vl (Qlf K) (vl (yJ K) v0)) rfl
def QjF(K:Nat):FSp TD:=sd 198 [tI,tI,tI] [.bool] (fun p=>qX.f K (p.1) (p.2.1) (p.2.2))
theorem X8(K:Nat):VOk Tryz.prog GD (QjF K):=vk K .n Tryz.func198 Tryz.ntmps198 v0
def Qo2(K:Nat):FSp TD:=sd 173 [(.sl (.st 3))] [.bool] (fun p=>yY.f K (p))
theorem QeI(K:Nat):VOk Tryz.prog GD (Qo2 K):=vk K (.s .n (.s .n (.s .n (.s (.s .n (.l ⟨[(3,dI),(12,dI)], [], [tI,tI], [], [], []⟩ (some ⟨[], [], [], [], [], []⟩) true (.s .n (.s .n (.j ⟨[(3,dI)], [], [tI], [], [], []⟩ (.s .n (.s (.j ⟨[(26,dF)], [], [.bool], [], [], []⟩ .n .n) .n)) .n))))) .n)))) Tryz.func173 Tryz.ntmps173 (vl (X8 K) v0)
def Qo3(K:Nat):FSp TD:=sd 174 [(.sl (.st 3))] [(.st 15)] (fun p=>X0.f K (p))
theorem Qiw(K:Nat):VOk Tryz.prog GD (Qo3 K):=vk K .n Tryz.func174 Tryz.ntmps174 (vl (QeI K) (vl (Ju K) v0))
def Qlg(K:Nat):FSp TD:=sd 179 [(.st 16),(.st 4),tI] [(.st 16),.bool] (fun p=>Xt.f K (p.1) (p.2.1) (p.2.2))
theorem Qlh(K:Nat):VOk Tryz.prog GD (Qlg K):=vk K (.s .n (.s (.j ⟨[(25,dF)], [], [.bool], [], [], []⟩ .n .n) (.s (.r (ob [2,12,30,40,26,56,66,76,82,96]) [] [4]) .n))) Tryz.func179 Tryz.ntmps179 (vl (QeI K) (vl (qw K) (vl (Qiw K) v0)))
def QmH(K:Nat):FSp TD:=sd 199 [(.st 15)] [.bool] (fun p=>Qb5.f K (p))
theorem Qg7(K:Nat):VOk Tryz.prog GD (QmH K):=vk K .n Tryz.func199 Tryz.ntmps199 (vl (X8 K) v0)
def QmI(K:Nat):FSp TD:=sg 211 (.cs (.dt (.sl (.st 3))) .nl) [] [(.sl (.st 3))] [(.sl (.st 3))] (fun p=>QdM.f K (p)) (.cs (.fn 212 (.cs (.ptr 0 0) .nl)) .nl) [] [(50,(.dt (.sl (.st 3))))]
theorem QmJ(K:Nat):VOk Tryz.prog GD (QmI K):=vk K .n Tryz.func211 Tryz.ntmps211 v0
def QjG(K:Nat):FSp TD:=sd 209 [(.st 15)] [tI] (fun p=>yz.f K (p))
theorem QjH(K:Nat):VOk Tryz.prog GD (QjG K):=vk K (.s .n (.s .n (.s (.s .n (.g (.s .n (.l ⟨[(3,dI)], [], [tI], [], [], []⟩ (some ⟨[], [], [], [], [], []⟩) true .n)) .n (.j ⟨[(28,dF)], [], [.bool], [], [], []⟩ .n .n))) .n))) Tryz.func209 Tryz.ntmps209 (vl (QmJ K) v0)
def QmK(K:Nat):FSp TD:=sd 203 [(.st 15)] [tI] (fun p=>JW.f K (p))
theorem Qbv(K:Nat):VOk Tryz.prog GD (QmK K):=vk K .n Tryz.func203 Tryz.ntmps203 (vl (QjH K) v0)
def Qo4(K:Nat):FSp TD:=sd 200 [(.st 15),tI] [(.st 4),.bool] (fun p=>QdN.f K (p.1) (p.2))
theorem Qo5(K:Nat):VOk Tryz.prog GD (Qo4 K):=vk K (.s .n (.s (.j ⟨[(23,dF)], [], [.bool], [], [], []⟩ .n .n) (.s .n (.s (.j ⟨[(27,dF)], [], [.bool], [], [], []⟩ .n .n) .n)))) Tryz.func200 Tryz.ntmps200 (vl (Qg7 K) (vl (X8 K) (vl (Qbv K) v0)))
def QmL(K:Nat):FSp TD:=sd 201 [(.st 15),(.st 15),.bool] [(.st 15),.bool] (fun p=>Zr.f K (p.1) (p.2.1) (p.2.2))
theorem QmM(K:Nat):VOk Tryz.prog GD (QmL K):=vk K .n Tryz.func201 Tryz.ntmps201 v0
def Qrf(K:Nat):FSp TD:=sd 202 [(.st 4)] [(.st 17)] (fun p=>Qdi.f K (p))
theorem Qrg(K:Nat):VOk Tryz.prog GD (Qrf K):=vk K .n Tryz.func202 Tryz.ntmps202 v0
def QmN(K:Nat):FSp TD:=sd 210 [(.st 15)] [(.st 15)] (fun p=>Qgz.f K (p))
theorem Qg8(K:Nat):VOk Tryz.prog GD (QmN K):=vk K .n Tryz.func210 Tryz.ntmps210 v0
def Qg9(K:Nat):FSp TD:=sd 204 [(.st 15),(.st 4)] [(.st 15)] (fun p=>X4.f K (p.1) (p.2))
theorem Qha(K:Nat):VOk Tryz.prog GD (Qg9 K):=vk K (.s .n (.s .n (.s .n (.j ⟨[], [(2,(dD 15))], [(.st 15)], [], [], [3]⟩ (.j ⟨[(11,dF)], [], [.bool], [], [], []⟩ .n .n) .n)))) Tryz.func204 Tryz.ntmps204 (vl (Qbv K) (vl (Qg8 K) v0))
def QjI(K:Nat):FSp TD:=sd 205 [(.st 15),tI] [(.st 15)] (fun p=>Qbe.f K (p.1) (p.2))
theorem QjJ(K:Nat):VOk Tryz.prog GD (QjI K):=vk K (.s .n (.s .n (.s (.s .n (.s (.s (.r (ob [2,12,22,32,42,52,66]) [] []) (.j ⟨[(29,dF)], [], [.bool], [], [], []⟩ .n .n)) .n)) .n))) Tryz.func205 Tryz.ntmps205 (vl (Qbv K) (vl (Qg8 K) v0))
def Qrh(K:Nat):FSp TD:=sd 175 [(.st 15),(.st 4),tI] [(.st 15),.bool] (fun p=>Qbf.f K (p.1) (p.2.1) (p.2.2))
theorem Qli(K:Nat):VOk Tryz.prog GD (Qrh K):=vk K (.s .n (.s (.j ⟨[(30,dF)], [], [.bool], [], [], []⟩ .n .n) (.s .n (.s .n (.s .n (.s (.s .n (.j ⟨[], [], [], [], [], [9]⟩ (.s (.s (.s (.s (.s .n (.s .n (.j ⟨[(49,dF)], [], [.bool], [], [], [9]⟩ .n .n))) .n) (.s (.s (.r (ob [0,10,20,30,42,56,62,76,82,96]) [] [4]) (.s (.r (ob [0,10,22,33,42,60,56,76,82,92,106,112,122,136,142]) [] [3,4,8]) .n)) .n)) (.s (.s .n (.s (.r (ob [0,10,22,33,42,60,56,76,82,92,106,112,122,136,142]) [] [3,4,8]) .n)) .n)) (.s (.j ⟨[(111,dF)], [], [.bool], [], [], []⟩ (.r (ob [2,12,22,33,40,50,62,76,82,92,103,112,122,132,142,152,162,173,182,192,202,212,222,232]) [] [4]) .n) .n)) .n)) .n)))))) Tryz.func175 Tryz.ntmps175 (vl (Qg7 K) (vl (X8 K) (vl (Qo5 K) (vl (QmM K) (vl (Qrg K) (vl (Qbv K) (vl (Qha K) (vl (QjJ K) v0))))))))
def QmO(K:Nat):FSp TD:=sd 180 [(.st 16),(.st 4),tI] [(.st 16),.bool] (fun p=>Zt.f K (p.1) (p.2.1) (p.2.2))
theorem Qhb(K:Nat):VOk Tryz.prog GD (QmO K):=vk K (.s .n (.s .n (.s (.r (ob [2,12,22,32,42,52,62,72,124,86,92,102,110,136,142]) [] []) .n))) Tryz.func180 Tryz.ntmps180 (vl (Qli K) (vl (qw K) v0))
def Qic(K:Nat):FSp TD:=sd 181 [(.st 16),(.st 4),tI] [(.st 16),.bool] (fun p=>Qae.f K (p.1) (p.2.1) (p.2.2))
theorem Qid(K:Nat):VOk Tryz.prog GD (Qic K):=vk K (.s .n (.s (.j ⟨[(53,dF)], [], [.bool], [], [], []⟩ (.r (ob [2,12,22,32,42,52,63,72,82,92,102,112,122,132,142,152,162,172,182,193,202,212,222,232,242,252,262,272,282,292,302,312,322,332,342,352,363,372,382,392,402,412,422,432,442,452]) [] []) .n) .n)) Tryz.func181 Tryz.ntmps181 (vl (Qhb K) v0)
def QjK(K:Nat):FSp TD:=sd 182 [(.st 16),(.st 4),tI] [(.st 16),.bool] (fun p=>Qbg.f K (p.1) (p.2.1) (p.2.2))
theorem QjL(K:Nat):VOk Tryz.prog GD (QjK K):=vk K (.s .n (.s (.s (.r (ob [2,12,22,32,42,52,62,72,82]) [] []) .n) .n)) Tryz.func182 Tryz.ntmps182 v0
def Qri(K:Nat):FSp TD:=sd 82 [(.st 16),(.st 4),tI] [(.st 16),.bool] (fun p=>Qb6.f K (p.1) (p.2.1) (p.2.2))
theorem Qrj(K:Nat):VOk Tryz.prog GD (Qri K):=vkM K (.s .n (.s (.j ⟨[(18,dF)], [], [.bool], [], [], []⟩ .n .n) (.s (.r (ob [10,20,50,60,70,6,32,42,86,92,102,116,122]) [] [3,4]) .n))) Tryz.func82 Tryz.ntmps82 (vl (ja K) (vl (Qlh K) (vl (Qhb K) (vl (Qid K) (vl (QjL K) v0))))) Qe9 (QvV QxE Qfa)
def Qie(K:Nat):FSp TD:=sd 90 [(.st 15)] [tI] (fun p=>jq.f K (p))
theorem Qdb(K:Nat):VOk Tryz.prog GD (Qie K):=vk K .n Tryz.func90 Tryz.ntmps90 v0
def QjM(K:Nat):FSp TD:=sg 26 (.cs (dD 16) .nl) [] [(.st 16)] [(.sl (.st 8))] (fun p=>Xu.f K (p)) (.cs (.own (.st 8) 29 true) .nl) [] []
theorem QjN(K:Nat):VOk Tryz.prog GD (QjM K):=vk K (.s .n (.s .n (.s (.s .n (.l ⟨[(3,(.own (.st 8) 29 true)),(9,dI)], [], [(.sl (.st 8)),tI], [], [], [1]⟩ (some ⟨[(3,(.own (.st 8) 29 true))], [], [(.sl (.st 8))], [], [], [1]⟩) false (.s .n (.s .n (.s (.s .n (.r (ob [0,10,20,32,46,52,64,76,82]) [] [5])) .n))))) .n))) Tryz.func26 Tryz.ntmps26 (vl (Qdb K) v0)
def jD(K:Nat):FSp TD:=sp 67 (.cs (dD 12) (.cs (dD 7) .nl)) [] [(.st 12),(.st 7)] [tI,(.sl tI),(.sl (.st 8))] (120,true) (fun p=>YU.fs K (p.1) (p.2)) [] (.cs (.agg (.cs dI (.cs (.own tI 3 true) (.cs (.own (.st 8) 29 true) .nl)))) .nl) [] []
theorem Qcs(K:Nat):VOk Tryz.prog GD (jD K):=vkP K (.s .n (.s .n (.s (.s .n (.l ⟨[(17,dI)], [(5,(.agg (.cs (.agg (.cs (.own tH 37 true) .nl)) (.cs dI .nl))))], [tI,(.sl tH),tI], [], [], []⟩ (some ⟨[], [(5,(.agg (.cs (.agg (.cs (.own tH 37 true) .nl)) (.cs dI .nl))))], [(.sl tH),tI], [], [], []⟩) false .n)) (.s (.q (ob [10,20,30,6,42]) [] [3]) (.s .n (.s (.s .n (.l ⟨[(35,dI)], [(8,(dD 16))], [tI,(.st 16)], [], [], [3,5]⟩ (some ⟨[], [(8,(dD 16))], [(.st 16)], [], [], [2,3,5]⟩) true .n)) (.s .n (.s (.s .n (.l ⟨[(61,dI)], [(12,(.agg (.cs dI (.cs (.own tI 3 true) (.cs (.own (.st 8) 29 true) .nl)))))], [tI,tI,(.sl tI),(.sl (.st 8))], [], [], [8]⟩ (some ⟨[], [(12,(.agg (.cs dI (.cs (.own tI 3 true) (.cs (.own (.st 8) 29 true) .nl)))))], [tI,(.sl tI),(.sl (.st 8))], [], [], [8]⟩) false .n)) .n)))))))) Tryz.func67 Tryz.ntmps67 (vl (Qfh K) (vl (QfK K) (vl (QeH K) (vl (yJ K) (vl (Xe K) (vl (Qrj K) (vl (QjN K) v0))))))) rfl
def Qhc(K:Nat):FSp TD:=sp 194 (.cs (.ptr 0 0) (.cs (.ptr 1 0) .nl)) [(3,dI),(33,(.dt (.sl tH)))] [tI,(.sl tH)] [tH,tI] (259,false) (fun p=>Qbh.fs K (p.1) (p.2)) [true,true] (.cs dH .nl) [some dI,none] []
theorem Qhd(K:Nat):VOk Tryz.prog GD (Qhc K):=vkP K .n Tryz.func194 Tryz.ntmps194 v0 rfl
def QaT(K k:Nat):FSp TD:=sp 150 (.cs dI (.cs dI (.cs (.ptr 0 0) (.cs (.ptr 1 0) (.cs (.ptr 2 0) .nl))))) [(37,dH),(104,(.fn 194 (.cs (.ptr 3 0) (.cs (.ptr 4 0) .nl)))),(218,(.fn 150 (.cs (.ptr 0 0) (.cs (.ptr 1 0) (.cs (.ptr 2 0) .nl))))),(3,dI),(33,(.dt (.sl tH)))] [tI,tI,tH,tI,(.sl tH)] [tH,tI] (259,false) (fun p=>YB.r K k (p.1) (p.2.1) (p.2.2.1) (p.2.2.2.1) (p.2.2.2.2)) [true,true,true,false,true] (.cs dH .nl) [none,none,none,some dI,none] []
theorem QeJ(K:Nat):∀k,VOk Tryz.prog GD (QaT K k):=by
 intro k
 induction k with
 |zero=>exact QvW Tryz.func150 rfl (by kernel_rfl) (fun _=>rfl) (fun _=>rfl)
 |succ k ih=>
  exact vkP K (.s .n (.s .n (.s (.r (ob [2,20,44,16,36,52,66]) [] [3]) (.s (.s .n (.s (.s (.r (ob [2,12,22,40,36,56,66]) [] [9]) .n) .n)) (.s (.r (ob [0,12,22,32,42,52,62,72,86,96,106]) [] [9]) .n))))) Tryz.func150 Tryz.ntmps150 (vl (Qci K) (vl (Qhd K) (vl (Qbs K) (vl ih v0)))) rfl
def QeK(K:Nat):FSp TD:=QaT K K
theorem QeL(K:Nat):VOk Tryz.prog GD (QeK K):=QeJ K K
def ZF(K:Nat):FSp TD:=sp 149 (.cs (.fn 194 (.cs (.ptr 0 0) (.cs (.ptr 1 0) .nl))) (.cs (.ptr 2 0) (.cs (.ptr 3 0) (.cs (.ptr 4 0) (.cs (.ptr 5 0) .nl))))) [(3,dI),(33,(.dt (.sl tH))),(37,dH),(3,dI),(3,dI),(37,dH)] [tI,(.sl tH),tH,tI,tI,tH] [tI,tH] (259,false) (fun p=>Qbi.fs K (p.1) (p.2.1) (p.2.2.1) (p.2.2.2.1) (p.2.2.2.2.1) (p.2.2.2.2.2)) [false,true,true,true,true,true] .nl [some dI,none,none,none,none,some dH] []
theorem Qhe(K:Nat):VOk Tryz.prog GD (ZF K):=vkP K .n Tryz.func149 Tryz.ntmps149 (vl (QeL K) v0) rfl
def Qbw(K:Nat):FSp TD:=sg 148 (.cs (.dt (.sl tH)) (.cs (.fn 149 (.cs (.ptr 0 0) (.cs (.ptr 1 0) (.cs (.ptr 2 0) (.cs (.ptr 3 0) .nl))))) .nl)) [(37,dH),(3,dI),(3,dI),(37,dH)] [(.sl tH),tH,tI,tI,tH] [.bool,tH] (fun p=>Qbj.f K (p.1) (p.2.1) (p.2.2.1) (p.2.2.2.1) (p.2.2.2.2)) (.cs dF .nl) [none,none,none,some dH] []
theorem QjO(K:Nat):VOk Tryz.prog GD (Qbw K):=Qq5 tbok (n:=14) Tryz.func148 rfl Tryz.ntmps148 (by kernel_rfl) (sps:= [ZF K]) (rvs:= []) (mps:= []) (Jt (Qhe K) QkK) Qe9 Qfa (by kernel_rfl:(fun p=>(Qbw K).fn p)=funR (T:=TD) (cx Tryz.prog GD [ZF K] K 14 [] []) (Qbw K) Tryz.f148 .n .n .n)
def QjP(K:Nat):FSp TD:=sd 94 [tH,tI,tI,(.sl tH)] [tH,.bool] (fun p=>Qbk.f K (p.1) (p.2.1) (p.2.2.1) (p.2.2.2))
theorem QjQ(K:Nat):VOk Tryz.prog GD (QjP K):=vk K (.s .n (.s (.j ⟨[(22,dF)], [], [.bool], [], [], []⟩ .n .n) .n)) Tryz.func94 Tryz.ntmps94 (vl (QjO K) v0)
def Qo6(K:Nat):FSp TD:=sd 130 [tH,tI,tI,(.sl tH),tH] [.bool] (fun p=>QcO.f K (p.1) (p.2.1) (p.2.2.1) (p.2.2.2.1) (p.2.2.2.2))
theorem Qo7(K:Nat):VOk Tryz.prog GD (Qo6 K):=vk K .n Tryz.func130 Tryz.ntmps130 (vl (QjQ K) (vl (Qg6 K) v0))
def Qd6(K:Nat):FSp TD:=sp 131 (.cs (.ptr 0 0) (.cs (dD 4) .nl)) [(195,(.agg (.cs (.dt (.vec 12 .bool)) (.cs (.own tI 3 true) (.cs (.dt (.vec 12 (.st 15))) .nl)))))] [(.st 4),(.vec 12 .bool),(.sl tI),(.vec 12 (.st 15))] [(.vec 12 .bool),(.sl tI),(.vec 12 (.st 15))] (120,true) (fun p=>JZ.fs K (p.1) (p.2.1) (p.2.2.1) (p.2.2.2)) [false] .nl [some (.agg (.cs (.dt (.vec 12 .bool)) (.cs (.own tI 3 true) (.cs (.dt (.vec 12 (.st 15))) .nl))))] []
theorem Qd7(K:Nat):VOk Tryz.prog GD (Qd6 K):=vkP K (.s .n (.j ⟨[], [], [], [], [], []⟩ (.q (ob [2,12,22,32,42,52,62,72,83,92,102,116,122]) [] []) (.s (.r (ob [0,10,20,32,42,60,70,56,82,96]) [] [3]) (.r (ob [0,12,22,32,42,52,62,74,86,92,102,116]) [] [])))) Tryz.func131 Tryz.ntmps131 (vl (yJ K) (vl (QeI K) (vl (Qiw K) v0))) rfl
def QeM(K:Nat):FSp TD:=sp 132 (.cs (.ptr 0 0) (.cs (dD 4) (.cs dI .nl))) [(195,(.agg (.cs (.dt (.vec 12 .bool)) (.cs (.own tI 3 true) (.cs (.dt (.vec 12 (.st 15))) .nl)))))] [(.st 4),tI,(.vec 12 .bool),(.sl tI),(.vec 12 (.st 15))] [(.vec 12 .bool),(.sl tI),(.vec 12 (.st 15))] (120,true) (fun p=>qI.fs K (p.1) (p.2.1) (p.2.2.1) (p.2.2.2.1) (p.2.2.2.2)) [false] .nl [some (.agg (.cs (.dt (.vec 12 .bool)) (.cs (.own tI 3 true) (.cs (.dt (.vec 12 (.st 15))) .nl))))] []
theorem QeN(K:Nat):VOk Tryz.prog GD (QeM K):=vkP K (.s .n (.s (.r (ob [2,12,22,32,42,52,62,74,86]) [] []) (.s .n (.s .n (.j ⟨[], [], [], [], [], [6]⟩ (.q (ob [2,13,22,32,42,53,62,72,82,92,102,112,122,132,142,152,162,172]) [] []) (.r (ob [2,12,22,32,42,52,62,76]) [] [])))))) Tryz.func132 Tryz.ntmps132 (vl (Qli K) (vl (yJ K) v0)) rfl
def jV(K:Nat):FSp TD:=sp 68 (.cs (dD 12) (.cs (dD 7) .nl)) [] [(.st 12),(.st 7)] [tI,(.sl tI),(.sl (.st 8))] (120,true) (fun p=>Y0.fs K (p.1) (p.2)) [] (.cs (.agg (.cs dI (.cs (.own tI 3 true) (.cs (.own (.st 8) 29 true) .nl)))) .nl) [] []
theorem Qc3(K:Nat):VOk Tryz.prog GD (jV K):=vkP K (.s .n (.s .n (.s (.s .n (.l ⟨[(15,dI)], [(5,(.agg (.cs (.dt (.vec 12 .bool)) (.cs (.own tI 3 true) (.cs (.dt (.vec 12 (.st 15))) .nl)))))], [tI,(.vec 12 .bool),(.sl tI),(.vec 12 (.st 15))], [], [], []⟩ (some ⟨[], [(5,(.agg (.cs (.dt (.vec 12 .bool)) (.cs (.own tI 3 true) (.cs (.dt (.vec 12 (.st 15))) .nl)))))], [(.vec 12 .bool),(.sl tI),(.vec 12 (.st 15))], [], [], [2,3]⟩) true (.s .n (.s .n (.j ⟨[], [(5,(.agg (.cs (.dt (.vec 12 .bool)) (.cs (.own tI 3 true) (.cs (.dt (.vec 12 (.st 15))) .nl)))))], [(.vec 12 .bool),(.sl tI),(.vec 12 (.st 15))], [], [], []⟩ (.s .n (.s .n (.s (.q (ob [2,20,30,40,50,60,70,80,90,100,110,16,126]) [] [3,7]) (.s .n (.j ⟨[], [(5,(.agg (.cs (.dt (.vec 12 .bool)) (.cs (.own tI 3 true) (.cs (.dt (.vec 12 (.st 15))) .nl)))))], [(.vec 12 .bool),(.sl tI),(.vec 12 (.st 15))], [], [], [7]⟩ .n .n))))) .n))))) (.s .n (.s (.s .n (.l ⟨[(58,dI)], [(9,(.agg (.cs dI (.cs (.own tI 3 true) (.cs (.own (.st 8) 29 true) .nl)))))], [tI,tI,(.sl tI),(.sl (.st 8))], [56], [], []⟩ (some ⟨[], [(9,(.agg (.cs dI (.cs (.own tI 3 true) (.cs (.own (.st 8) 29 true) .nl)))))], [tI,(.sl tI),(.sl (.st 8))], [], [], [5,56]⟩) false (.s .n (.s .n (.s (.s .n (.s .n (.r (ob [0,10,20,30,40,50,60,72,82,92,102,116,122,134,146,152,166]) [] [5,9]))) .n))))) .n))))) Tryz.func68 Tryz.ntmps68 (vl (Qfh K) (vl (Qo7 K) (vl (yJ K) (vl (Xe K) (vl (Qd7 K) (vl (QeN K) (vl (Qdb K) v0))))))) rfl
def Xf(K:Nat):FSp TD:=sg 17 (.cs (dD 0) (.cs dI (.cs (dD 2) (.cs dB .nl)))) [] [(.st 0),tI,(.st 2),tB] [tI,(.sl tI),(.sl (.st 8))] (fun p=>qY.f K (p.1) (p.2.1) (p.2.2.1) (p.2.2.2)) (.cs (.agg (.cs dI (.cs (.own tI 3 true) (.cs (.own (.st 8) 29 true) .nl)))) .nl) [] []
theorem Qd8(K:Nat):VOk Tryz.prog GD (Xf K):=Qq5 tbok (n:=67) Tryz.func17 rfl Tryz.ntmps17 (by kernel_rfl) (sps:= [Qev K,Qcn K,Qcq K,Qcr K,jD K,jV K]) (rvs:= []) (mps:= []) (Jt (QcT K) (Jt (yJ K) (Jt (Qlb K) (Jt (Qlc K) (Jt (Qcs K) (Jt (Qc3 K) QkK)))))) Qe9 Qfa (by kernel_rfl:(fun p=>(Xf K).fn p)=funR (T:=TD) (cx Tryz.prog GD [Qev K,Qcn K,Qcq K,Qcr K,jD K,jV K] K 67 [] []) (Xf K) Tryz.f17 .n (.j ⟨[], [], [], [], [], []⟩ .n (.s .n (.s .n (.s .n (.s .n (.j ⟨[], [], [], [], [], [6]⟩ .n .n)))))) .n)
def QbL(K:Nat):FSp TD:=sd 40 [(.sl tI),(.sl tI)] [.bool] (fun p=>qB.f K (p.1) (p.2))
theorem QbM(K:Nat):VOk Tryz.prog GD (QbL K):=vk K (.s .n (.s .n (.s (.s .n (.l ⟨[(13,dI)], [], [tI], [], [], []⟩ (some ⟨[], [], [], [], [], []⟩) true (.s .n (.s .n (.s (.s .n (.s (.r (ob [2,12,22,32,42,52,62,72,82]) [] []) .n)) .n))))) .n))) Tryz.func40 Tryz.ntmps40 v0
def Xk(K:Nat):FSp TD:=sd 41 [(.sl (.st 8)),(.sl (.st 8))] [.bool] (fun p=>Jc.f K (p.1) (p.2))
theorem Xl(K:Nat):VOk Tryz.prog GD (Xk K):=vk K (.s .n (.s .n (.s (.s .n (.l ⟨[(13,dI)], [], [tI], [], [], []⟩ (some ⟨[], [], [], [], [], []⟩) true (.s .n (.s .n (.s (.s .n (.s (.r (ob [2,12,22,32,42,52,62,72,82]) [] []) .n)) .n))))) .n))) Tryz.func41 Tryz.ntmps41 v0
def Qct(K:Nat):FSp TD:=sd 11 [(.st 9),(.st 9)] [.bool] (fun p=>QaL.f K (p.1) (p.2))
theorem Qfi(K:Nat):VOk Tryz.prog GD (Qct K):=vk K .n Tryz.func11 Tryz.ntmps11 (vl (QbM K) (vl (Xl K) v0))
def QbN(K:Nat):FSp TD:=sd 44 [(.sl tI),tI] [tI] (fun p=>XW.f K (p.1) (p.2))
theorem QbO(K:Nat):VOk Tryz.prog GD (QbN K):=vk K (.s .n (.s (.s .n (.l ⟨[(8,dI)], [], [tI], [], [], []⟩ (some ⟨[], [], [], [], [], []⟩) true .n)) .n)) Tryz.func44 Tryz.ntmps44 v0
def Qcu(K:Nat):FSp TD:=sd 13 [(.st 9),tI] [.bool] (fun p=>Qes.f K (p.1) (p.2))
theorem Qlj(K:Nat):VOk Tryz.prog GD (Qcu K):=vk K (.s .n (.s .n (.j ⟨[(4,dF)], [], [.bool], [], [], [2]⟩ .n .n))) Tryz.func13 Tryz.ntmps13 (vl (QbO K) v0)
def jb(K:Nat):FSp TD:=sd 10 [] [.bool] (fun p=>jr.f K)
theorem Qbx(K:Nat):VOk Tryz.prog GD (jb K):=Qq4 tbok (n:=127) Tryz.func10 rfl Tryz.ntmps10 (by kernel_rfl) (sps:= [jy K,Qas K,qN K,Qav K,Qbt K,Qcm K,Xf K,Qct K,Qcu K]) (rvs:= []) (mps:= []) (Jt (Qcg K) (Jt (Qc9 K) (Jt (QaR K) (Jt (Qh2 K) (Jt (Qjz K) (Jt (Qfg K) (Jt (Qd8 K) (Jt (Qfi K) (Jt (Qlj K) QkK))))))))) Qe9 Qfa (by kernel_rfl:(fun p=>(jb K).fn p)=funC (T:=TD) (cx Tryz.prog GD [jy K,Qas K,qN K,Qav K,Qbt K,Qcm K,Xf K,Qct K,Qcu K] K 127 [] []) (jb K) Tryz.f10 [.one .n,.one .n,.one .n,.one (.r [(0,0,false),(1,1,false),(2,1,false),(3,1,false),(4,1,false),(5,3,false),(6,1,false),(7,1,false),(8,3,false)] [] []),.beg,.one .n,.fin [1,2,3],.beg,.one .n,.one .n,.one (.r [(0,0,false),(1,0,false),(2,1,false),(5,0,false),(6,0,false),(7,0,false),(10,2,false),(11,2,false),(3,3,false),(4,3,false),(8,3,false),(9,3,false),(12,3,false),(13,3,false)] [] [1,3,6]),.fin [1,2,3,8,9]] (.s (.r [(0,1,false),(1,1,false),(2,1,false),(3,1,false),(4,1,false),(5,1,false),(6,1,false),(7,1,false),(8,1,false),(9,3,false)] [] []) (.s .n (.s .n (.s (.r [(0,0,false),(1,0,false),(2,1,false),(5,2,false),(3,3,false),(4,3,false),(6,3,false)] [] [1,10]) (.s (.r [(0,0,false),(1,0,false),(2,1,false),(5,2,false),(3,3,false),(4,3,false),(6,3,false)] [] [1,3]) (.j ⟨[(0,(.dt .bool))], [], [.bool], [8,9], [], [1,2,3,8,9,10,11,13,14]⟩ .n .n)))))))
def Qby(K:Nat):FSp TD:=sd 14 [(.st 0),tB] [.bool] (fun p=>J7.f K (p.1) (p.2))
theorem Qbz(K:Nat):VOk Tryz.prog GD (Qby K):=vk K .n Tryz.func14 Tryz.ntmps14 v0
def ZG(K:Nat):FSp TD:=sg 15 (.cs dB .nl) [] [tB] [.bool,tI,tH,(.sl (.st 1)),(.sl (.st 6)),tI] (fun p=>X5.f K (p)) (.cs (.agg (.cs dF (.cs (.agg (.cs dI (.cs dH (.cs (.own (.st 1) 107 true) .nl)))) (.cs (.own (.st 6) 55 true) .nl)))) (.cs dI .nl)) [] []
theorem Qhf(K:Nat):VOk Tryz.prog GD (ZG K):=Qq4 tbok (n:=74) Tryz.func15 rfl Tryz.ntmps15 (by kernel_rfl) (sps:= [Xx K,Qdm K,Xa K,Xy K,y9 K,Xc K,jC K,jg K,ql K,Xd K,Qau K]) (rvs:= []) (mps:= []) (Jt (QaS K) (Jt (Qg3 K) (Jt (Xb K) (Jt (JR K) (Jt (YA K) (Jt (J9 K) (Jt (XN K) (Jt (Xm K) (Jt (yh K) (Jt (Qah K) (Jt (yg K) QkK))))))))))) Qe9 Qfa (by kernel_rfl:(fun p=>(ZG K).fn p)=funC (T:=TD) (cx Tryz.prog GD [Xx K,Qdm K,Xa K,Xy K,y9 K,Xc K,jC K,jg K,ql K,Xd K,Qau K] K 74 [] []) (ZG K) Tryz.f15 [.one .n,.one .n,.one .n,.one .n,.one .n,.one .n,.jn ⟨[], [(1000000006,(.dt (.st 10)))], [(.st 10)], [], [], []⟩ .n,.one .n,.one (.r [(0,0,false),(1,1,false),(3,0,false),(2,3,false),(4,3,false),(5,1,false),(6,1,false),(7,3,false)] [] [6]),.jn ⟨[], [(7,(.agg (.cs (.dt .bool) (.cs (.agg (.cs (.dt (.int .i64)) (.cs (.dt (.arr .u8 32)) (.cs (.own (.st 1) 107 true) .nl)))) (.cs (.own (.st 6) 55 true) .nl))))),(1000000006,(.dt (.st 10)))], [.bool,(.int .i64),(.arr .u8 32),(.sl (.st 1)),(.sl (.st 6)),(.st 10)], [], [], []⟩ (.s .n (.s .n (.r [(0,0,false),(1,1,false),(3,0,false),(4,0,false),(5,0,false),(6,0,false),(2,3,false),(7,3,false),(8,1,false),(9,3,false)] [] [6,7]))),.one .n,.sc [2,7,71] .n .n] .n)
def ZH(K:Nat):FSp TD:=sd 4 [(.st 0),tI,(.st 2),tB,(.int .u32)] [.bool] (fun p=>qi.f K (p.1) (p.2.1) (p.2.2.1) (p.2.2.2.1) (p.2.2.2.2))
theorem ZI(K:Nat):VOk Tryz.prog GD (ZH K):=vk K (.s .n (.s .n (.s .n (.s .n (.s .n (.s (.s .n (.l ⟨[(13,dI)], [(11,(.agg (.cs dF (.cs (.agg (.cs dI (.cs dH (.cs (.own (.st 1) 107 true) .nl)))) (.cs (.own (.st 6) 55 true) .nl)))))], [tI,.bool,tI,tH,(.sl (.st 1)),(.sl (.st 6))], [], [], []⟩ (some ⟨[], [(11,(.agg (.cs dF (.cs (.agg (.cs dI (.cs dH (.cs (.own (.st 1) 107 true) .nl)))) (.cs (.own (.st 6) 55 true) .nl)))))], [.bool,tI,tH,(.sl (.st 1)),(.sl (.st 6))], [], [], []⟩) false (.s .n (.j ⟨[], [(11,(.agg (.cs dF (.cs (.agg (.cs dI (.cs dH (.cs (.own (.st 1) 107 true) .nl)))) (.cs (.own (.st 6) 55 true) .nl)))))], [.bool,tI,tH,(.sl (.st 1)),(.sl (.st 6))], [], [], []⟩ (.s .n (.s (.r (ob [0,10,20,32,42,52,62,72,82,96,102,112,126]) [] [11]) .n)) .n)))) (.s (.r (ob [0,10,20,32,60,70,80,90,46,56,106,116,122]) [] [5,7]) .n))))))) Tryz.func4 Tryz.ntmps4 (vl (Qbx K) (vl (Qbz K) (vl (Qhf K) (vl (Qfd K) (vl (Qfg K) (vl (Qd8 K) (vl (Qfi K) v0)))))))
end Go.Proofs.YtomndohdnfebgaaGreatDoor
