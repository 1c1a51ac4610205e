/-
 Proved: calls of the cut's functions come to what their plain functions compute.
-/
import Derived.Test.YtomndohdnfebgaaGreatDoorProg
import Derived.Test.YtomndohdnfebgaaGreatDoorTmDef
import Derived.Test.YtomndohdnfebgaaGreatDoorSxTh
import Derived.Test.YtomndohdnfebgaaGreatDoorSxRv
import Derived.Test.YtomndohdnfebgaaGreatDoorTmOW0
set_option linter.unusedVariables false
set_option maxRecDepth 100000
namespace Go.Proofs.YtomndohdnfebgaaGreatDoor
open Go Go.Sep
@[reducible] def tyD : Nat → Type
 |0=>Qw
 |1=>QW
 |2=>Qo
 |3=>Qp
 |4=>Qm
 |5=>QaI
 |6=>QE
 |7=>QP
 |8=>Qu
 |9=>Jp
 |10=>Qk
 |11=>XV
 |12=>YW
 |13=>Jf
 |14=>QeH
 |15=>QI
 |16=>Yi
 |17=>QaJ
 |_=>Unit
@[reducible] def fsD : Nat → List Ty
 |0=> [(.sl (.arr .u8 32)),(.sl (.arr .u8 32)),(.int .i64)]
 |1=> [(.int .i64),(.arr .u8 32)]
 |2=> [(.int .i64),(.arr .u8 32),(.sl (.st 1))]
 |3=> [(.int .i64),(.int .i64)]
 |4=> [(.int .i64),(.int .i64),(.int .i64),(.int .i64),(.int .i64),.bool,.bool,(.int .i64),(.int .i64),(.int .i64),(.arr .u8 32),(.sl (.st 3)),(.sl (.int .u8)),(.arr .u8 32),.bool,(.arr .u8 32)]
 |5=> [(.int .i64),(.int .i64),(.int .i64),(.int .i64),(.int .i64),.bool,.bool,.bool,(.int .i64),(.int .i64),(.int .i64)]
 |6=> [(.int .i64),(.st 4),(.sl (.arr .u8 32))]
 |7=> [.bool,(.st 2),(.sl (.st 6))]
 |8=> [(.int .i64),(.int .i64)]
 |9=> [(.int .i64),(.sl (.int .i64)),(.sl (.st 8))]
 |10=> [(.sl (.int .u8)),(.int .i64)]
 |11=> [(.arr .u8 32)]
 |12=> [(.st 0),(.int .i64)]
 |13=> [(.sl (.arr .u8 32))]
 |14=> [(.st 13),(.int .i64)]
 |15=> [(.sl (.st 3)),(.int .i64),(.int .i64),(.int .i64),.bool,.bool,(.int .i64),(.int .i64),(.int .i64),(.int .i64)]
 |16=> [(.arr .i64 4),(.sl (.st 15))]
 |17=> [(.int .i64),(.int .i64),(.int .i64),.bool,(.int .i64)]
 |_=> []
def TD:Tb where
 ty:=tyD
 fs:=fsD
 get:=fun n=>match n with
  |0=>fun x=>(x.fParts,x.fWits,x.fNeed)
  |1=>fun x=>(x.fWit,x.fTag)
  |2=>fun x=>(x.fSize,x.fRoot,x.fSigs)
  |3=>fun x=>(x.fPart,x.fKind)
  |4=>fun x=>(x.fKind,x.fSaga,x.fSeq,x.fStep,x.fTry,x.fBack,x.fGood,x.fEnd,x.fPart,x.fEpoch,x.fTag,x.fSteps,x.fData,x.fSalt,x.fGone,x.fCom)
  |5=>fun x=>(x.fKind,x.fSaga,x.fSeq,x.fStep,x.fTry,x.fBack,x.fGood,x.fGone,x.fEnd,x.fPart,x.fEpoch)
  |6=>fun x=>(x.fAt,x.fRec,x.fPath)
  |7=>fun x=>(x.fWhole,x.fPoint,x.fItems)
  |8=>fun x=>(x.fPhase,x.fMissing)
  |9=>fun x=>(x.fCode,x.fSagas,x.fLines)
  |10=>fun x=>(x.fB,x.fBad)
  |11=>fun x=>x.fTag
  |12=>fun x=>(x.fK,x.fLimit)
  |13=>fun x=>x.fL
  |14=>fun x=>(x.fTrees,x.fN)
  |15=>fun x=>(x.fSteps,x.fPhase,x.fAt,x.fTries,x.fWait,x.fBack,x.fDone,x.fUndone,x.fSome,x.fSeq)
  |16=>fun x=>(x.fEpochs,x.fSagas)
  |17=>fun x=>(x.fKind,x.fStep,x.fTry,x.fBack,x.fEnd)
  |_+18=>fun x=>x
 of:=fun n=>match n with
  |0=>fun y=>⟨y.1,y.2.1,y.2.2⟩
  |1=>fun y=>⟨y.1,y.2⟩
  |2=>fun y=>⟨y.1,y.2.1,y.2.2⟩
  |3=>fun y=>⟨y.1,y.2⟩
  |4=>fun y=>⟨y.1,y.2.1,y.2.2.1,y.2.2.2.1,y.2.2.2.2.1,y.2.2.2.2.2.1,y.2.2.2.2.2.2.1,y.2.2.2.2.2.2.2.1,y.2.2.2.2.2.2.2.2.1,y.2.2.2.2.2.2.2.2.2.1,y.2.2.2.2.2.2.2.2.2.2.1,y.2.2.2.2.2.2.2.2.2.2.2.1,y.2.2.2.2.2.2.2.2.2.2.2.2.1,y.2.2.2.2.2.2.2.2.2.2.2.2.2.1,y.2.2.2.2.2.2.2.2.2.2.2.2.2.2.1,y.2.2.2.2.2.2.2.2.2.2.2.2.2.2.2⟩
  |5=>fun y=>⟨y.1,y.2.1,y.2.2.1,y.2.2.2.1,y.2.2.2.2.1,y.2.2.2.2.2.1,y.2.2.2.2.2.2.1,y.2.2.2.2.2.2.2.1,y.2.2.2.2.2.2.2.2.1,y.2.2.2.2.2.2.2.2.2.1,y.2.2.2.2.2.2.2.2.2.2⟩
  |6=>fun y=>⟨y.1,y.2.1,y.2.2⟩
  |7=>fun y=>⟨y.1,y.2.1,y.2.2⟩
  |8=>fun y=>⟨y.1,y.2⟩
  |9=>fun y=>⟨y.1,y.2.1,y.2.2⟩
  |10=>fun y=>⟨y.1,y.2⟩
  |11=>fun y=>⟨y⟩
  |12=>fun y=>⟨y.1,y.2⟩
  |13=>fun y=>⟨y⟩
  |14=>fun y=>⟨y.1,y.2⟩
  |15=>fun y=>⟨y.1,y.2.1,y.2.2.1,y.2.2.2.1,y.2.2.2.2.1,y.2.2.2.2.2.1,y.2.2.2.2.2.2.1,y.2.2.2.2.2.2.2.1,y.2.2.2.2.2.2.2.2.1,y.2.2.2.2.2.2.2.2.2⟩
  |16=>fun y=>⟨y.1,y.2⟩
  |17=>fun y=>⟨y.1,y.2.1,y.2.2.1,y.2.2.2.1,y.2.2.2.2⟩
  |_+18=>fun x=>x
 kd:=fun n=>match n with
  |0=>QaH
  |1=>JQ
  |2=>ZX
  |3=>JR
  |4=>QeG
  |5=>Qhe
  |6=>Qdb
  |7=>Qf2
  |8=>Qdc
  |9=>Qe2
  |10=>Qe3
  |11=>Qhf
  |12=>Qdd
  |13=>JC
  |14=>Qf3
  |15=>qH
  |16=>Qir
  |17=>Qhg
  |_+18=>Qti
 tn:=fun t=>lookA [(25,9),(26,9),(28,8),(29,8),(34,0),(35,0),(39,2),(40,2),(45,7),(46,7),(51,4),(52,4),(54,6),(55,6),(69,16),(70,16),(89,3),(90,3),(106,1),(107,1),(124,12),(125,12),(139,11),(140,11),(151,15),(152,15),(161,5),(162,5),(175,10),(176,10),(186,13),(187,13),(188,14),(189,14),(269,17),(270,17)] t
 te:=fun t=>lookA [] t
theorem tbok:TbOk TD:=⟨fun n _ _ _=>match n with
 |0=>Iff.rfl
 |1=>Iff.rfl
 |2=>Iff.rfl
 |3=>Iff.rfl
 |4=>Iff.rfl
 |5=>Iff.rfl
 |6=>Iff.rfl
 |7=>Iff.rfl
 |8=>Iff.rfl
 |9=>Iff.rfl
 |10=>Iff.rfl
 |11=>Iff.rfl
 |12=>Iff.rfl
 |13=>Iff.rfl
 |14=>Iff.rfl
 |15=>Iff.rfl
 |16=>Iff.rfl
 |17=>Iff.rfl
 |_+18=>Iff.rfl,fun n _=>match n with
 |0=>rfl
 |1=>rfl
 |2=>rfl
 |3=>rfl
 |4=>rfl
 |5=>rfl
 |6=>rfl
 |7=>rfl
 |8=>rfl
 |9=>rfl
 |10=>rfl
 |11=>rfl
 |12=>rfl
 |13=>rfl
 |14=>rfl
 |15=>rfl
 |16=>rfl
 |17=>rfl
 |_+18=>rfl⟩
def GD:List (Nat×Dy TD):= [(0,⟨(.arr .u32 8),Xz⟩),(1,⟨(.arr .u32 64),gl_K⟩)]
@[reducible] def ob : List Nat → List (Nat × Nat × Bool)
 | []=> []
 |n::l=>(n/10,n%10/2,Nat.beq (n%2) 1)::ob l
@[reducible] def tI : Ty := .int .i64
@[reducible] def tH : Ty := .arr .u8 32
@[reducible] def tB : Ty := .sl (.int .u8)
@[reducible] def dI : Pt := .dt (.int .i64)
@[reducible] def dF : Pt := .dt .bool
@[reducible] def dH : Pt := .dt (.arr .u8 32)
@[reducible] def dB : Pt := .dt (.sl (.int .u8))
@[reducible] def dD (n : Nat) : Pt := .dt (.st n)
@[reducible] def sd (fid : Nat) (pt rt : List Ty) (fn : TU TD.ty pt → Option (TU TD.ty rt)) : FSp TD := { fid := fid, args := dts pt, blks := [], pt := pt, rt := rt, fn := fn, res := dts rt, out := [], new := [] }
@[reducible] def sg (fid : Nat) (args : Pt) (blks : List (TypeId × Pt)) (pt rt : List Ty) (fn : TU TD.ty pt → Option (TU TD.ty rt)) (res : Pt) (out : List (Option Pt)) (new : List (TypeId × Pt)) : FSp TD := { fid := fid, args := args, blks := blks, pt := pt, rt := rt, fn := fn, res := res, out := out, new := new }
@[reducible] def sp (fid : Nat) (args : Pt) (blks : List (TypeId × Pt)) (pt rt : List Ty) (pv : TypeId × Bool) (fs : TU TD.ty pt → Option (Int ⊕ TU TD.ty rt)) (pk : List Bool) (res : Pt) (out : List (Option Pt)) (new : List (TypeId × Pt)) : FSp TD := { fid := fid, args := args, blks := blks, pt := pt, rt := rt, fn := fun p => sm (fs p) (fun _ => none) some, pv := some pv, fs := fs, pk := pk, res := res, out := out, new := new }
theorem v0:∀s∈([]:List (FSp TD)),VOk Tryz.prog GD s:=Qm5
theorem vl{s:FSp TD}{l:List (FSp TD)}(h:VOk Tryz.prog GD s)(h':∀x∈l,VOk Tryz.prog GD x):∀x∈s::l,VOk Tryz.prog GD x:=ji h h'
section
variable {n:Nat}{s:FSp TD}{f:Func}{c:Code}{sps:List (FSp TD)}{rvs:List (RvSp TD)}{mps:List (FuncId×(SV TD→Option (SV TD)))}
theorem vk(K:Nat)(h:Hn)(hf:Tryz.prog.funcs[s.fid]?=some f)(hn:f.ntmps=n)(hsp:∀x∈sps,VOk Tryz.prog GD x)(hb:f.body=some c:=by exact rfl)
  (hok:(Nat.ble (lenP s.args) n&&(lstP s.args&&(lstP s.res&&(!(f.name== "runtime.NumGoroutine")&&s.pv.isNone))))=true:=by kernel_rfl) (hfn:(fun p=>s.fn p)=funS (T:=TD) (cx Tryz.prog GD sps K n [] []) s f h:=by kernel_rfl):VOk Tryz.prog GD s:=QtH tbok hf hb hn hok hsp Qgv Qgw hfn
theorem vkM(K:Nat)(h:Hn)(hf:Tryz.prog.funcs[s.fid]?=some f)(hn:f.ntmps=n)(hsp:∀x∈sps,VOk Tryz.prog GD x)(hrv:∀x∈rvs,RvOk Tryz.prog x)(hmp:∀f g,lookA mps f=some g→MpOk Tryz.prog f g)(hb:f.body=some c:=by exact rfl)
  (hok:(Nat.ble (lenP s.args) n&&(lstP s.args&&(lstP s.res&&(!(f.name== "runtime.NumGoroutine")&&s.pv.isNone))))=true:=by kernel_rfl) (hfn:(fun p=>s.fn p)=funS (T:=TD) (cx Tryz.prog GD sps K n rvs mps) s f h:=by kernel_rfl):VOk Tryz.prog GD s:=QtH tbok hf hb hn hok hsp hrv hmp hfn
theorem vkP(K:Nat)(h:Hn)(hf:Tryz.prog.funcs[s.fid]?=some f)(hn:f.ntmps=n)(hsp:∀x∈sps,VOk Tryz.prog GD x)(hgn:(fun p=>s.fn p)=fun p=>sm (s.fs p) (fun _=>none) some)(hb:f.body=some c:=by exact rfl)
  (hok:(Nat.ble (lenP s.args) n&&(lstP s.args&&(lstP s.res&& !(f.name== "runtime.NumGoroutine"))))=true:=by kernel_rfl) (hfn:(fun p=>s.fs p)=funP (T:=TD) (cx Tryz.prog GD sps K n [] []) s f h:=by kernel_rfl):VOk Tryz.prog GD s:=QuJ tbok hf hb hn hok hsp Qgv Qgw hgn hfn
end
def QtL:SV TD→Option (SV TD):=fun l=>match l with| .nl=>some (.mp [.int .i64 1,.int .i64 2,.int .i64 3,.int .i64 4,.int .i64 5,.int .i64 6] (.cs (.agg (.cs (.fn 179 .nl) .nl)) (.cs (.agg (.cs (.fn 180 .nl) .nl)) (.cs (.agg (.cs (.fn 181 .nl) .nl)) (.cs (.agg (.cs (.fn 180 .nl) .nl)) (.cs (.agg (.cs (.fn 180 .nl) .nl)) (.cs (.agg (.cs (.fn 182 .nl) .nl)) .nl)))))))|_=>none
theorem Qwt:MpOk Tryz.prog 141 QtL:=by
 refine⟨fun ρ g w0 D l vs sv hA hf hS=> ?_,by kernel_rfl⟩
 unfold QtL at hf
 split at hf
 ·obtain rfl:vs= []:=hA
  cases hf
  have hS:=Stp.refl hS
  refine jr (n:=9) Tryz.func141 rfl Tryz.ntmps141 rfl (fun a hE=> ?_)
  have hE:Env a 9 [] []:=hE
  refine wpIn_seq (Qbq ?_)
  refine segN 1 (j:=1) [(0,.map none)] hE (by kernel_rfl) rfl (fun a hE=> ?_)
  refine at_end rfl ?_
  refine wpIn_seq (Qbq ?_)
  refine JM (QnQ rfl rfl rfl rfl hE rfl hS (fun a b w hE hS=> ?_)) rfl
  refine JM (QaA hE (QaD ([.func (.func 179) #[] #[]]) rfl rfl rfl rfl hE rfl rfl (by kernel_rfl) (fun a hE=> ?_))) rfl
  refine JM (Qan (kt:=3) (et:=204) (kk:= .i64) rfl rfl rfl rfl hE hS rfl rfl rfl (by kernel_rfl) (by kernel_rfl) (by kernel_rfl) (fun a w hE hS=> ?_)) rfl
  refine JM (QaA hE (QaD ([.func (.func 180) #[] #[]]) rfl rfl rfl rfl hE rfl rfl (by kernel_rfl) (fun a hE=> ?_))) rfl
  refine JM (Qan (kt:=3) (et:=204) (kk:= .i64) rfl rfl rfl rfl hE hS rfl rfl rfl (by kernel_rfl) (by kernel_rfl) (by kernel_rfl) (fun a w hE hS=> ?_)) rfl
  refine JM (QaA hE (QaD ([.func (.func 181) #[] #[]]) rfl rfl rfl rfl hE rfl rfl (by kernel_rfl) (fun a hE=> ?_))) rfl
  refine JM (Qan (kt:=3) (et:=204) (kk:= .i64) rfl rfl rfl rfl hE hS rfl rfl rfl (by kernel_rfl) (by kernel_rfl) (by kernel_rfl) (fun a w hE hS=> ?_)) rfl
  refine JM (QaA hE (QaD ([.func (.func 180) #[] #[]]) rfl rfl rfl rfl hE rfl rfl (by kernel_rfl) (fun a hE=> ?_))) rfl
  refine JM (Qan (kt:=3) (et:=204) (kk:= .i64) rfl rfl rfl rfl hE hS rfl rfl rfl (by kernel_rfl) (by kernel_rfl) (by kernel_rfl) (fun a w hE hS=> ?_)) rfl
  refine JM (QaA hE (QaD ([.func (.func 180) #[] #[]]) rfl rfl rfl rfl hE rfl rfl (by kernel_rfl) (fun a hE=> ?_))) rfl
  refine JM (Qan (kt:=3) (et:=204) (kk:= .i64) rfl rfl rfl rfl hE hS rfl rfl rfl (by kernel_rfl) (by kernel_rfl) (by kernel_rfl) (fun a w hE hS=> ?_)) rfl
  refine JM (QaA hE (QaD ([.func (.func 182) #[] #[]]) rfl rfl rfl rfl hE rfl rfl (by kernel_rfl) (fun a hE=> ?_))) rfl
  refine JM (Qan (kt:=3) (et:=204) (kk:= .i64) rfl rfl rfl rfl hE hS rfl rfl rfl (by kernel_rfl) (by kernel_rfl) (by kernel_rfl) (fun a w hE hS=> ?_)) rfl
  refine segN 1 (j:=14) [(8,.map (some b))] hE (by kernel_rfl) rfl (fun a hE=> ?_)
  refine segN 1 (j:=15) [(0,.map (some b))] hE (by kernel_rfl) rfl (fun a hE=> ?_)
  refine at_end rfl ?_
  refine wpIn_ret ?_
  refine Qlj ([.map (some b)]) hE (by rw[show Tryz.f141.results.toList= [.tmp 0]from rfl];exact⟨_,_,rfl,rfl,rfl⟩) ?_
  refine⟨_,rfl,_,YP rfl ⟨b,_,_,rfl,by unfold Snap.ins;rw[if_pos rfl],rfl,⟨_,_,rfl,⟨_,⟨_,_,rfl,⟨[],rfl,rfl⟩,rfl⟩,rfl⟩,⟨_,_,rfl,⟨_,⟨_,_,rfl,⟨[],rfl,rfl⟩,rfl⟩,rfl⟩,⟨_,_,rfl,⟨_,⟨_,_,rfl,⟨[],rfl,rfl⟩,rfl⟩,rfl⟩,⟨_,_,rfl,⟨_,⟨_,_,rfl,⟨[],rfl,rfl⟩,rfl⟩,rfl⟩,⟨_,_,rfl,⟨_,⟨_,_,rfl,⟨[],rfl,rfl⟩,rfl⟩,rfl⟩,⟨_,_,rfl,⟨_,⟨_,_,rfl,⟨[],rfl,rfl⟩,rfl⟩,rfl⟩,rfl⟩⟩⟩⟩⟩⟩⟩,(Stp.freezeM hS).2⟩
 ·cases hf
def Z4(K:Nat):FSp TD:=sg 133 (.cs (.dt (.sl tB)) .nl) [] [(.sl tB)] [tB] (fun p=>QR.f K (p)) (.cs (.own (.int .u8) 5 true) .nl) [] []
theorem J4(K:Nat):VOk Tryz.prog GD (Z4 K):=QbQ (T:=TD) (ts:= [(.sl (.sl (.int .u8)))]) (rt:=(.int .u8)) (e:=5) (f:=true) (fn:=fun p=>QR.f K (p)) (fun g w0 D p vals r hG hv hS hr=>by
 obtain⟨v0,h0,rfl⟩:=hv
 obtain⟨A0,c0,e0,f0⟩:=h0
 cases e0
 exact CallsIn.mono (QR.calls hr hS f0) fun e w' ⟨u,h1,D1,A,c,q,h2,h3,h4⟩=>⟨u,h1,D1,A,c,q,h2,h4,h3⟩) (by kernel_rfl)
def Qap(K:Nat):FSp TD:=sg 111 (.cs dB .nl) [] [tB] [tB] (fun p=>Q8.f K (p)) (.cs (.own (.int .u8) 5 true) .nl) [] []
theorem Ju(K:Nat):VOk Tryz.prog GD (Qap K):=QbQ (T:=TD) (ts:= [(.sl (.int .u8))]) (rt:=(.int .u8)) (e:=5) (f:=true) (fn:=fun p=>Q8.f K (p)) (fun g w0 D p vals r hG hv hS hr=>by
 obtain⟨v0,h0,rfl⟩:=hv
 obtain⟨A0,c0,e0,f0⟩:=h0
 cases e0
 exact CallsIn.mono (Q8.calls hr hS f0) fun e w' ⟨u,h1,D1,A,c,q,h2,h3,h4⟩=>⟨u,h1,D1,A,c,q,h2,h4,h3⟩) (by kernel_rfl)
def Xp(K:Nat):FSp TD:=sg 157 (.cs (.dt (.sl (.st 1))) .nl) [] [(.sl (.st 1))] [(.sl (.st 1))] (fun p=>Ye.f K (p)) (.cs (.own (.st 1) 107 true) .nl) [] []
theorem qF(K:Nat):VOk Tryz.prog GD (Xp K):=QbQ (T:=TD) (ts:= [(.sl (.st 1))]) (rt:=(.st 1)) (e:=107) (f:=true) (fn:=fun p=>Ye.f K (p)) (fun g w0 D p vals r hG hv hS hr=>by
 obtain⟨v0,h0,rfl⟩:=hv
 obtain⟨A0,c0,e0,f0⟩:=h0
 cases e0
 exact CallsIn.mono (Ye.calls hr hS f0) fun e w' ⟨u,h1,D1,A,c,q,h2,h3,h4⟩=>⟨u,h1,D1,A,c,q,h2,h4,h3⟩) (by kernel_rfl)
def yN(K:Nat):FSp TD:=sg 62 (.cs (.dt (.sl (.st 3))) .nl) [] [(.sl (.st 3))] [(.sl (.st 3))] (fun p=>QQ.f K (p)) (.cs (.own (.st 3) 90 true) .nl) [] []
theorem Jl(K:Nat):VOk Tryz.prog GD (yN K):=QbQ (T:=TD) (ts:= [(.sl (.st 3))]) (rt:=(.st 3)) (e:=90) (f:=true) (fn:=fun p=>QQ.f K (p)) (fun g w0 D p vals r hG hv hS hr=>by
 obtain⟨v0,h0,rfl⟩:=hv
 obtain⟨A0,c0,e0,f0⟩:=h0
 cases e0
 exact CallsIn.mono (QQ.calls hr hS f0) fun e w' ⟨u,h1,D1,A,c,q,h2,h3,h4⟩=>⟨u,h1,D1,A,c,q,h2,h4,h3⟩) (by kernel_rfl)
def yO(K:Nat):FSp TD:=sg 206 (.cs (.dt (.sl (.st 15))) .nl) [] [(.sl (.st 15))] [(.sl (.st 15))] (fun p=>QU.f K (p)) (.cs (.own (.st 15) 152 true) .nl) [] []
theorem J6(K:Nat):VOk Tryz.prog GD (yO K):=QbQ (T:=TD) (ts:= [(.sl (.st 15))]) (rt:=(.st 15)) (e:=152) (f:=true) (fn:=fun p=>QU.f K (p)) (fun g w0 D p vals r hG hv hS hr=>by
 obtain⟨v0,h0,rfl⟩:=hv
 obtain⟨A0,c0,e0,f0⟩:=h0
 cases e0
 exact CallsIn.mono (QU.calls hr hS f0) fun e w' ⟨u,h1,D1,A,c,q,h2,h3,h4⟩=>⟨u,h1,D1,A,c,q,h2,h4,h3⟩) (by kernel_rfl)
def Zp(K:Nat):RvSp TD:=⟨134,(.int .u8),5,QZ.f K⟩
theorem Zq(K:Nat):RvOk Tryz.prog (Zp K):=⟨fun g w0 D A cap xs ys q hS hO hr=>QZ.calls hr hS hO,by kernel_rfl,fun xs ys h=>QZ.len h⟩
def jk(K:Nat):FSp TD:=sd 35 [] [(.st 0)] (fun p=>XW.f K)
theorem QbR(K:Nat):VOk Tryz.prog GD (jk K):=vk K .n Tryz.func35 Tryz.ntmps35 v0
def QiY(K:Nat):FSp TD:=sd 78 [tI,tI,tI] [.bool] (fun p=>Jw.f K (p.1) (p.2.1) (p.2.2))
theorem XD(K:Nat):VOk Tryz.prog GD (QiY K):=vk K .n Tryz.func78 Tryz.ntmps78 v0
def Qd8(K:Nat):FSp TD:=sd 66 [(.st 0)] [.bool] (fun p=>Zz.f K (p))
theorem Qcw(K:Nat):VOk Tryz.prog GD (Qd8 K):=vk K .n Tryz.func66 Tryz.ntmps66 (vl (XD K) v0)
def Qkj(K:Nat):FSp TD:=sd 81 [(.st 0),tI,tI] [.bool] (fun p=>XM.f K (p.1) (p.2.1) (p.2.2))
theorem QbS(K:Nat):VOk Tryz.prog GD (Qkj K):=vk K .n Tryz.func81 Tryz.ntmps81 (vl (Qcw K) (vl (XD K) v0))
def Qqe(K:Nat):FSp TD:=sg 156 (.cs (.dt (.int .u64)) (.cs dI .nl)) [] [(.int .u64),tI] [tB] (fun p=>QcQ.f K (p.1) (p.2)) (.cs (.own (.int .u8) 5 true) .nl) [] []
theorem Qkk(K:Nat):VOk Tryz.prog GD (Qqe K):=vk K (.s .n (.s .n (.s (.s .n (.l ⟨[(0,(.dt (.int .u64))),(5,(.own (.int .u8) 5 true)),(11,dI)], [], [(.int .u64),tB,tI], [], [], []⟩ (some ⟨[(5,(.own (.int .u8) 5 true))], [], [tB], [], [], []⟩) false .n)) .n))) Tryz.func156 Tryz.ntmps156 v0
def QlN(K:Nat):FSp TD:=sg 155 (.cs dI .nl) [] [tI] [tB] (fun p=>Qak.f K (p)) (.cs (.own (.int .u8) 5 true) .nl) [] []
theorem QlO(K:Nat):VOk Tryz.prog GD (QlN K):=vk K .n Tryz.func155 Tryz.ntmps155 (vl (Qkk K) v0)
def Qe5(K:Nat):FSp TD:=sg 154 (.cs (.dt (.sl tI)) (.cs (.fn 155 .nl) .nl)) [] [(.sl tI)] [tB] (fun p=>Xb.f K (p)) (.cs (.own (.int .u8) 5 true) .nl) [] []
theorem Qe6(K:Nat):VOk Tryz.prog GD (Qe5 K):=vk K (.s .n (.s .n (.s (.s .n (.l ⟨[(5,(.own (.int .u8) 5 true)),(10,dI)], [], [tB,tI], [], [], []⟩ (some ⟨[(5,(.own (.int .u8) 5 true))], [], [tB], [], [], []⟩) false .n)) .n))) Tryz.func154 Tryz.ntmps154 (vl (QlO K) v0)
def QnT(K:Nat):FSp TD:=sg 143 (.cs dI .nl) [] [tI] [tB] (fun p=>Qde.f K (p)) (.cs (.own (.int .u8) 5 true) .nl) [] []
theorem QnU(K:Nat):VOk Tryz.prog GD (QnT K):=vk K (.s .n (.s .n (.s .n (.s (.l ⟨[(3,(.own (.int .u8) 5 true))], [], [tB], [], [], []⟩ (some ⟨[(3,(.own (.int .u8) 5 true))], [], [tB], [], [], []⟩) false .n) (.s .n (.s (.s .n (.l ⟨[(3,(.own (.int .u8) 5 true)),(5,dI)], [], [tB,tI], [], [], []⟩ (some ⟨[(3,(.own (.int .u8) 5 true))], [], [tB], [], [], []⟩) false .n)) .n)))))) Tryz.func143 Tryz.ntmps143 v0
def Qkl(K:Nat):FSp TD:=sg 142 (.cs dB .nl) [] [tB] [tB] (fun p=>Qd1.f K (p)) (.cs (.fn 183 (.cs (.ptr 0 0) .nl)) .nl) [] [(41,dB)]
theorem Qkm(K:Nat):VOk Tryz.prog GD (Qkl K):=vk K .n Tryz.func142 Tryz.ntmps142 v0
def Qaq(K:Nat):FSp TD:=sd 208 [(.int .u32),tI] [(.int .u32)] (fun p=>YA.f K (p.1) (p.2))
theorem yh(K:Nat):VOk Tryz.prog GD (Qaq K):=vk K .n Tryz.func208 Tryz.ntmps208 v0
def QlP(K:Nat):FSp TD:=sd 207 [(.int .u32),tI,tI,tI] [(.int .u32)] (fun p=>XX.f K (p.1) (p.2.1) (p.2.2.1) (p.2.2.2))
theorem QlQ(K:Nat):VOk Tryz.prog GD (QlP K):=vk K (.s .n (.s (.r (ob [2,12,22,40,50,60,90,100,110,36,76,82,122,132]) [] []) .n)) Tryz.func207 Tryz.ntmps207 (vl (yh K) v0)
def Qhh(K:Nat):FSp TD:=sd 184 [tB] [(.arr .u32 64)] (fun p=>Xi.f K (p))
theorem Qhi(K:Nat):VOk Tryz.prog GD (Qhh K):=vk K (.s .n (.s .n (.s (.s .n (.l ⟨[(5,dI)], [(3,(.dt (.arr .u32 64)))], [tI,(.arr .u32 64)], [], [], []⟩ (some ⟨[], [(3,(.dt (.arr .u32 64)))], [(.arr .u32 64)], [], [], []⟩) false (.s .n (.s .n (.j ⟨[], [(3,(.dt (.arr .u32 64)))], [(.arr .u32 64)], [], [], []⟩ (.s .n (.s (.s .n (.s (.s (.r (ob [0,12,22,32,42,52,80,90,100,110,120,130,140,150,170,180,190,200,210,220,230,240,260,270,280,290,300,310,320,66,72,162,252,332,342,356]) [] []) .n) .n)) (.r (ob [0,12,22,32,42,60,70,80,90,110,120,130,140,170,180,190,200,56,100,156,162,212,222,236]) [] [3]))) .n))))) .n))) Tryz.func184 Tryz.ntmps184 (vl (QlQ K) v0)
def Qkn(K:Nat):FSp TD:=sd 185 [(.int .u32),tI,tI,tI] [(.int .u32)] (fun p=>yX.f K (p.1) (p.2.1) (p.2.2.1) (p.2.2.2))
theorem Qko(K:Nat):VOk Tryz.prog GD (Qkn K):=vk K .n Tryz.func185 Tryz.ntmps185 (vl (yh K) v0)
def QnV(K:Nat):FSp TD:=sd 144 [(.arr .u32 8),tB] [(.arr .u32 8)] (fun p=>Qci.f K (p.1) (p.2))
theorem QnW(K:Nat):VOk Tryz.prog GD (QnV K):=vk K (.s .n (.s .n (.s .n (.s (.s .n (.l ⟨[(18,dI)], [(5,(.dt (.arr .u32 8)))], [tI,(.arr .u32 8)], [], [], []⟩ (some ⟨[], [(5,(.dt (.arr .u32 8)))], [(.arr .u32 8)], [], [], []⟩) false (.s .n (.s .n (.s (.s .n (.s (.r (ob [0,10,22,32,60,70,80,90,100,110,120,130,140,150,160,170,190,200,210,230,46,52,182,222,242,252]) [] [5]) (.s (.r (ob [2,12,30,40,50,60,70,80,90,100,110,120,130,140,150,160,170,180,190,26,202,212]) [] [5]) (.s (.r (ob [2,12,26]) [] []) .n)))) .n))))) (.s (.s .n (.l ⟨[(81,dI)], [(2,(.dt (.arr .u32 8)))], [tI,(.arr .u32 8)], [], [], []⟩ (some ⟨[], [(2,(.dt (.arr .u32 8)))], [(.arr .u32 8)], [], [], [5]⟩) false (.s .n (.s .n (.s (.s .n (.r (ob [2,12,22,32,42,52,62,72,86]) [] [])) .n))))) .n))))) Tryz.func144 Tryz.ntmps144 (vl (Qhi K) (vl (Qko K) v0))
def QnX(K:Nat):FSp TD:={fid:=83,args:=(.cs (.dt (.sl (.sl (.int .u8)))) .nl),blks:= [],pt:= [(.sl (.sl (.int .u8)))],rt:= [(.arr .u8 32)],fn:=fun p=>Qd2.f K (p),res:=(.cs (.dt (.arr .u8 32)) .nl),out:= [],new:= [] }
theorem QnY(K:Nat):VOk Tryz.prog GD (QnX K):=vk K (.s .n (.s .n (.s .n (.s (.s .n (.g (.l ⟨[], [(1000000000004,(.dt (.arr .u32 8))),(1,dB)], [(.arr .u32 8),tB], [], [], []⟩ (some ⟨[], [(1000000000004,(.dt (.arr .u32 8))),(1,dB)], [(.arr .u32 8),tB], [], [], []⟩) false .n) .n .n)) (.s .n (.s (.s .n (.l ⟨[(21,dI)], [(6,dH)], [tI,tH], [], [], []⟩ (some ⟨[], [(6,dH)], [tH], [], [], [4]⟩) false .n)) .n)))))) Tryz.func83 Tryz.ntmps83 (vl (J4 K) (vl (QnU K) (vl (Qkm K) (vl (QnW K) v0))))
def Qqf(K:Nat):FSp TD:={fid:=83,args:=(.cs (.dt (.sl (.sl (.int .u8)))) .nl),blks:= [],pt:= [(.sl (.sl (.int .u8)))],rt:= [(.arr .u8 32)],fn:=fun p=>shaQ.f K (p),res:=(.cs (.dt (.arr .u8 32)) .nl),out:= [],new:= [] }
theorem Qar(K:Nat):VOk Tryz.prog GD (Qqf K):=(congrArg (fun f=>VOk Tryz.prog GD ({fid:=83,args:=(.cs (.dt (.sl (.sl (.int .u8)))) .nl),blks:= [],pt:= [(.sl (.sl (.int .u8)))],rt:= [(.arr .u8 32)],fn:=f,res:=(.cs (.dt (.arr .u8 32)) .nl),out:= [],new:= [] }:FSp TD)) (Qun K)).mpr (QnY K)
def Qqg(K:Nat):FSp TD:=sg 177 (.cs dB (.cs (.dt (.int .u8)) .nl)) [] [tB,(.int .u8)] [tB] (fun p=>Qf7.f K (p.1) (p.2)) (.cs (.own (.int .u8) 5 true) .nl) [] []
theorem Qqh(K:Nat):VOk Tryz.prog GD (Qqg K):=vk K (.s .n (.s .n (.s .n (.s (.s .n (.l ⟨[(5,(.own (.int .u8) 5 true)),(13,dI)], [], [tB,tI], [], [], []⟩ (some ⟨[(5,(.own (.int .u8) 5 true))], [], [tB], [], [], []⟩) false .n)) .n)))) Tryz.func177 Tryz.ntmps177 v0
def Qqi(K:Nat):FSp TD:=sd 139 [tB,(.sl tB)] [tH] (fun p=>Qf8.f K (p.1) (p.2))
theorem Qkp(K:Nat):VOk Tryz.prog GD (Qqi K):=vk K (.s .n (.j ⟨[(0,dB)], [], [tB], [], [], []⟩ .n (.s .n (.s (.r (ob [2,20,16,36,46,56]) [6] []) .n)))) Tryz.func139 Tryz.ntmps139 (vl (Qar K) (vl (Qqh K) v0))
def Qqj(K:Nat):FSp TD:=sd 103 [tH,(.sl tI)] [tH] (fun p=>Qd3.f K (p.1) (p.2))
theorem Qkq(K:Nat):VOk Tryz.prog GD (Qqj K):=vk K (.s .n (.s (.r (ob [0,12,26,36,46,56]) [2] []) .n)) Tryz.func103 Tryz.ntmps103 (vl (Qe6 K) (vl (Qkp K) v0))
def QlR(K:Nat):FSp TD:=sd 104 [(.st 0),tI,tI] [tH] (fun p=>QbB.f K (p.1) (p.2.1) (p.2.2))
theorem QlS(K:Nat):VOk Tryz.prog GD (QlR K):=vk K .n Tryz.func104 Tryz.ntmps104 (vl (QbS K) (vl (Qkq K) v0))
def QnZ(K:Nat):FSp TD:=sd 105 [.bool] [tI] (fun p=>Qcj.f K (p))
theorem Qn0(K:Nat):VOk Tryz.prog GD (QnZ K):=vk K .n Tryz.func105 Tryz.ntmps105 v0
def Z5(K:Nat):FSp TD:=sd 36 [(.st 0),(.st 4)] [tH] (fun p=>jd.f K (p.1) (p.2))
theorem QcJ(K:Nat):VOk Tryz.prog GD (Z5 K):=vk K (.s .n (.s (.j ⟨[(16,dF)], [], [.bool], [], [], []⟩ .n .n) (.s (.r (ob [2,12,22,32,42,60,70,80,90,100,110,130,140,56,126,156,164,176,186]) [] [3]) .n))) Tryz.func36 Tryz.ntmps36 (vl (QbS K) (vl (QlS K) (vl (Qn0 K) (vl (Qkq K) v0))))
def Qkr(K:Nat):FSp TD:=sd 164 [tI,tI,tI] [.bool] (fun p=>Jt.f K (p.1) (p.2.1) (p.2.2))
theorem QeM(K:Nat):VOk Tryz.prog GD (Qkr K):=vk K .n Tryz.func164 Tryz.ntmps164 v0
def Qhj(K:Nat):FSp TD:=sd 165 [(.st 3)] [.bool] (fun p=>ZA.f K (p))
theorem Qhk(K:Nat):VOk Tryz.prog GD (Qhj K):=vk K .n Tryz.func165 Tryz.ntmps165 (vl (QeM K) v0)
def jO(K:Nat):FSp TD:=sg 196 (.cs (.dt (.sl (.st 3))) (.cs (.fn 165 .nl) .nl)) [] [(.sl (.st 3))] [tI] (fun p=>Jc.f K (p)) (.cs dI .nl) [] []
theorem jP(K:Nat):VOk Tryz.prog GD (jO K):=vk K (.s .n (.s (.s .n (.l ⟨[(8,dI)], [], [tI], [], [], []⟩ (some ⟨[], [], [], [], [], []⟩) true .n)) .n)) Tryz.func196 Tryz.ntmps196 (vl (Qhk K) v0)
def jl(K:Nat):FSp TD:=sg 166 (.cs (.dt (.sl (.st 3))) (.cs (.fn 165 .nl) .nl)) [] [(.sl (.st 3))] [.bool] (fun p=>YB.f K (p)) (.cs dF .nl) [] []
theorem jm(K:Nat):VOk Tryz.prog GD (jl K):=vk K .n Tryz.func166 Tryz.ntmps166 (vl (jP K) v0)
def Qks(K:Nat):FSp TD:=sd 123 [(.st 4)] [.bool] (fun p=>Qck.f K (p))
theorem Qkt(K:Nat):VOk Tryz.prog GD (Qks K):=vk K (.s .n (.s (.j ⟨[(19,dF)], [], [.bool], [], [], []⟩ .n .n) (.s (.s .n (.s .n (.s .n (.j ⟨[(41,dF)], [], [.bool], [], [], []⟩ .n .n)))) .n))) Tryz.func123 Tryz.ntmps123 (vl (QeM K) (vl (jm K) v0))
def Qn1(K:Nat):FSp TD:=sd 124 [(.st 4)] [(.st 4)] (fun p=>Qfw.f K (p))
theorem Qn2(K:Nat):VOk Tryz.prog GD (Qn1 K):=vk K (.s .n (.s .n (.j ⟨[], [(3,(dD 4))], [(.st 4)], [], [], [1]⟩ (.s .n (.s (.s (.j ⟨[], [(3,(dD 4))], [(.st 4)], [], [], []⟩ (.s (.s (.s (.s .n (.s .n (.s (.j ⟨[(13,dF)], [], [.bool], [], [], []⟩ .n .n) .n))) .n) (.s (.s (.r (ob [2,12,20,30,40,50,62,76,82,96,102,116]) [] [1]) (.s .n (.s .n (.r (ob [2,12,20,30,42,56,62,76]) [] [1])))) .n)) (.r (ob [2,12,20,30,40,50,60,70,82,96,102,116,122,136,142,156]) [] [1])) (.s (.r (ob [2,12,20,30,40,50,60,70,80,90,102,116,122,136,142,156,162,176,182,196]) [] [1]) .n)) (.s (.r (ob [2,12,20,30,40,50,62,76,82,96,102,116]) [] [1]) .n)) (.s (.r (ob [2,12,20,30,42,56,62,76]) [] [1]) .n))) .n))) Tryz.func124 Tryz.ntmps124 v0
def yP(K:Nat):FSp TD:=sd 97 [(.sl (.st 3)),(.sl (.st 3))] [.bool] (fun p=>YZ.f K (p.1) (p.2))
theorem yQ(K:Nat):VOk Tryz.prog GD (yP K):=vk K (.s .n (.s .n (.s (.s .n (.l ⟨[(13,dI)], [], [tI], [], [], []⟩ (some ⟨[], [], [], [], [], []⟩) true (.s .n (.s .n (.s (.s .n (.s (.r (ob [2,12,22,32,42,52,62,72,82]) [] []) .n)) .n))))) .n))) Tryz.func97 Tryz.ntmps97 v0
def QiZ(K:Nat):FSp TD:=sd 96 [tB,tB] [.bool] (fun p=>bytes_Equal.f K (p.1) (p.2))
theorem QdC(K:Nat):VOk Tryz.prog GD (QiZ K):=vk K .n Tryz.func96 Tryz.ntmps96 v0
def Qn3(K:Nat):FSp TD:=sd 98 [(.st 4)] [(.st 5)] (fun p=>Qfx.f K (p))
theorem Qn4(K:Nat):VOk Tryz.prog GD (Qn3 K):=vk K .n Tryz.func98 Tryz.ntmps98 v0
def Qn5(K:Nat):FSp TD:=sd 31 [(.st 4),(.st 4)] [.bool] (fun p=>Qfy.f K (p.1) (p.2))
theorem Qn6(K:Nat):VOk Tryz.prog GD (Qn5 K):=vk K (.s .n (.s (.j ⟨[(18,dF)], [], [.bool], [], [], []⟩ .n .n) (.j ⟨[(4,dF)], [], [.bool], [], [], [2,3]⟩ (.r (ob [2,20,16,36,42,53,62,72,82,92,102,112,123,132,142,152,162,172,182,193,202,212,222,232,242,252,262]) [] [3]) .n))) Tryz.func31 Tryz.ntmps31 (vl (yQ K) (vl (QdC K) (vl (Qn4 K) v0)))
def QlT(K:Nat):FSp TD:=sd 61 [(.st 4)] [.bool] (fun p=>qh.f K (p))
theorem qQ(K:Nat):VOk Tryz.prog GD (QlT K):=vk K (.s .n (.s (.r (ob [2,16,23,30,42,56,66,72,82]) [] [1]) .n)) Tryz.func61 Tryz.ntmps61 (vl (Qkt K) (vl (Qn2 K) (vl (Qn6 K) v0)))
def Qe7(K:Nat):FSp TD:=sd 146 [(.st 4)] [.bool] (fun p=>QcG.f K (p))
theorem Qe8(K:Nat):VOk Tryz.prog GD (Qe7 K):=vk K .n Tryz.func146 Tryz.ntmps146 (vl (qQ K) v0)
def yw(K:Nat):FSp TD:=sg 186 (.cs (.dt (.sl (.st 4))) (.cs (.fn 146 .nl) .nl)) [] [(.sl (.st 4))] [tI] (fun p=>J5.f K (p)) (.cs dI .nl) [] []
theorem yx(K:Nat):VOk Tryz.prog GD (yw K):=vk K (.s .n (.s (.s .n (.l ⟨[(8,dI)], [], [tI], [], [], []⟩ (some ⟨[], [], [], [], [], []⟩) true .n)) .n)) Tryz.func186 Tryz.ntmps186 (vl (Qe8 K) v0)
def jE(K:Nat):FSp TD:=sg 145 (.cs (.dt (.sl (.st 4))) (.cs (.fn 146 .nl) .nl)) [] [(.sl (.st 4))] [.bool] (fun p=>JH.f K (p)) (.cs dF .nl) [] []
theorem jF(K:Nat):VOk Tryz.prog GD (jE K):=vk K .n Tryz.func145 Tryz.ntmps145 (vl (yx K) v0)
def Qhl(K:Nat):FSp TD:=sd 86 [(.sl (.st 4))] [.bool] (fun p=>ZB.f K (p))
theorem Z7(K:Nat):VOk Tryz.prog GD (Qhl K):=vk K .n Tryz.func86 Tryz.ntmps86 (vl (jF K) v0)
def Qn7(K:Nat):FSp TD:=sg 71 (.cs dI .nl) [] [tI] [tB] (fun p=>qI.f K (p)) (.cs (.own (.int .u8) 5 true) .nl) [] []
theorem qx(K:Nat):VOk Tryz.prog GD (Qn7 K):=vkM K (.s .n (.s (.j ⟨[(9,dF)], [], [.bool], [], [], []⟩ .n .n) (.s .n (.s (.s .n (.l ⟨[(0,dI),(3,(.own (.int .u8) 5 true))], [], [tI,tB], [], [], []⟩ (some ⟨[(3,(.own (.int .u8) 5 true))], [], [tB], [], [], []⟩) false .n)) .n)))) Tryz.func71 Tryz.ntmps71 v0 (QuK (Zq K) Qgv) Qgw
def QlU(K:Nat):FSp TD:=sg 147 .nl [] [] [] (fun p=>QbC.f K) (.cs (.agg (.cs (.agg (.cs (.raw .nilFunc) .nl)) (.cs (.agg (.cs (.fn 187 .nl) .nl)) (.cs (.agg (.cs (.fn 188 .nl) .nl)) (.cs (.agg (.cs (.fn 189 .nl) .nl)) (.cs (.agg (.cs (.fn 188 .nl) .nl)) (.cs (.agg (.cs (.fn 191 .nl) .nl)) (.cs (.agg (.cs (.fn 192 .nl) .nl)) .nl)))))))) .nl) [] []
theorem Qgx(K:Nat):VOk Tryz.prog GD (QlU K):=vk K .n Tryz.func147 Tryz.ntmps147 v0
def Qi0(K:Nat):FSp TD:=sg 190 (.cs (.dt (.sl tI)) .nl) [] [(.sl tI)] [tB] (fun p=>qJ.f K (p)) (.cs (.own (.int .u8) 5 true) .nl) [] []
theorem yK(K:Nat):VOk Tryz.prog GD (Qi0 K):=vk K (.s .n (.s .n (.s (.s .n (.l ⟨[(3,(.own (.int .u8) 5 true)),(8,dI)], [], [tB,tI], [], [], []⟩ (some ⟨[(3,(.own (.int .u8) 5 true))], [], [tB], [], [], []⟩) false .n)) .n))) Tryz.func190 Tryz.ntmps190 (vl (qx K) v0)
def QlV(K:Nat):FSp TD:=sg 187 (.cs (dD 4) .nl) [] [(.st 4)] [tB] (fun p=>QbD.f K (p)) (.cs (.own (.int .u8) 5 true) .nl) [] []
theorem Qgy(K:Nat):VOk Tryz.prog GD (QlV K):=vk K (.s .n (.s .n (.s (.s .n (.l ⟨[(3,(.own (.int .u8) 5 true)),(16,dI)], [], [tB,tI], [], [], [1]⟩ (some ⟨[(3,(.own (.int .u8) 5 true))], [], [tB], [], [], [1]⟩) false .n)) .n))) Tryz.func187 Tryz.ntmps187 (vl (yK K) v0)
def Qn8(K:Nat):FSp TD:=sg 69 (.cs (.dt (.sl tB)) .nl) [] [(.sl tB)] [tB] (fun p=>Jb.f K (p)) (.cs (.own (.int .u8) 5 true) .nl) [] []
theorem yj(K:Nat):VOk Tryz.prog GD (Qn8 K):=vk K .n Tryz.func69 Tryz.ntmps69 (vl (J4 K) v0)
def QlW(K:Nat):FSp TD:=sg 70 (.cs dF .nl) [] [.bool] [tB] (fun p=>Xj.f K (p)) (.cs (.own (.int .u8) 5 true) .nl) [] []
theorem Qa1(K:Nat):VOk Tryz.prog GD (QlW K):=vk K .n Tryz.func70 Tryz.ntmps70 v0
def Qn9(K:Nat):FSp TD:=sg 188 (.cs (dD 4) .nl) [] [(.st 4)] [tB] (fun p=>ZC.f K (p)) (.cs (.own (.int .u8) 5 true) .nl) [] []
theorem Qd9(K:Nat):VOk Tryz.prog GD (Qn9 K):=vk K (.s .n (.s (.r (ob [2,12,22,32,42,52,62,72,84,100,110,96,126,136,146,152]) [] [1]) .n)) Tryz.func188 Tryz.ntmps188 (vl (yK K) (vl (Qa1 K) (vl (yj K) v0)))
def QlX(K:Nat):FSp TD:=sg 72 (.cs dH .nl) [] [tH] [tB] (fun p=>jM.f K (p)) (.cs (.own (.int .u8) 5 true) .nl) [] []
theorem y7(K:Nat):VOk Tryz.prog GD (QlX K):=vk K .n Tryz.func72 Tryz.ntmps72 (vl (Ju K) v0)
def Qi1(K:Nat):FSp TD:=sg 189 (.cs (dD 4) .nl) [] [(.st 4)] [tB] (fun p=>jS.f K (p)) (.cs (.own (.int .u8) 5 true) .nl) [] []
theorem QdD(K:Nat):VOk Tryz.prog GD (Qi1 K):=vk K (.s .n (.s (.r (ob [2,20,30,50,60,70,80,94,110,120,16,46,106,136,146,156,162]) [] [1]) .n)) Tryz.func189 Tryz.ntmps189 (vl (Qd9 K) (vl (Qa1 K) (vl (yK K) (vl (y7 K) (vl (yj K) v0)))))
def Qi2(K:Nat):FSp TD:=sg 191 (.cs (dD 4) .nl) [] [(.st 4)] [tB] (fun p=>jT.f K (p)) (.cs (.own (.int .u8) 5 true) .nl) [] []
theorem QdE(K:Nat):VOk Tryz.prog GD (Qi2 K):=vk K .n Tryz.func191 Tryz.ntmps191 (vl (yK K) v0)
def Qi3(K:Nat):FSp TD:=sg 192 (.cs (dD 4) .nl) [] [(.st 4)] [tB] (fun p=>jU.f K (p)) (.cs (.own (.int .u8) 5 true) .nl) [] []
theorem QdF(K:Nat):VOk Tryz.prog GD (Qi3 K):=vk K .n Tryz.func192 Tryz.ntmps192 (vl (yK K) v0)
def Qoa(K:Nat):FSp TD:=sg 168 (.cs dB .nl) [] [tB] [tB] (fun p=>Qcl.f K (p)) (.cs (.own (.int .u8) 5 true) .nl) [] []
theorem Qob(K:Nat):VOk Tryz.prog GD (Qoa K):=vk K .n Tryz.func168 Tryz.ntmps168 (vl (Qkk K) (vl (J4 K) v0))
def Qea(K:Nat):FSp TD:=sg 167 (.cs (.dt (.sl tB)) (.cs (.fn 168 .nl) .nl)) [] [(.sl tB)] [tB] (fun p=>XZ.f K (p)) (.cs (.own (.int .u8) 5 true) .nl) [] []
theorem Qeb(K:Nat):VOk Tryz.prog GD (Qea K):=vk K (.s .n (.s .n (.s (.s .n (.l ⟨[(5,(.own (.int .u8) 5 true)),(10,dI)], [], [tB,tI], [], [], []⟩ (some ⟨[(5,(.own (.int .u8) 5 true))], [], [tB], [], [], []⟩) false .n)) .n))) Tryz.func167 Tryz.ntmps167 (vl (Qob K) v0)
def Qsn(K:Nat):FSp TD:=sd 125 [tI,(.sl tB)] [tH] (fun p=>Qf9.f K (p.1) (p.2))
theorem Qnc(K:Nat):VOk Tryz.prog GD (Qsn K):=vk K .n Tryz.func125 Tryz.ntmps125 (vl (Qeb K) (vl (Qar K) v0))
def Qqk(K:Nat):FSp TD:=sd 63 [(.st 4)] [tH] (fun p=>Qga.f K (p))
theorem Qku(K:Nat):VOk Tryz.prog GD (Qqk K):=vk K (.s .n (.s (.j ⟨[(3,dF)], [], [.bool], [], [], []⟩ .n .n) (.s (.r (ob [2,12,22,32,46,56,66]) [1] []) .n))) Tryz.func63 Tryz.ntmps63 (vl (qQ K) (vl (Qnc K) v0))
def Qhm(K:Nat):FSp TD:=sg 93 (.cs (.ptr 0 0) .nl) [(52,(dD 4))] [(.st 4)] [tB] (fun p=>ZE.f K (p)) (.cs (.own (.int .u8) 5 true) .nl) [none] []
theorem Qhn(K:Nat):VOk Tryz.prog GD (Qhm K):=vk K .n Tryz.func93 Tryz.ntmps93 (vl (Qku K) (vl (y7 K) v0))
def Qql(K:Nat):FSp TD:=sg 92 (.cs (dD 4) (.cs (.fn 93 (.cs (.ptr 0 0) .nl)) .nl)) [(52,(dD 4))] [(.st 4),(.st 4)] [tB] (fun p=>Qix.f K (p.1) (p.2)) (.cs (.own (.int .u8) 5 true) .nl) [none] []
theorem Qqm(K:Nat):VOk Tryz.prog GD (Qql K):=vk K (.s .n (.s .n (.j ⟨[(5,(.own (.int .u8) 5 true))], [], [tB], [], [], []⟩ (.r (ob [2,12,40,50,80,26,36,62,72,96,106,116,122]) [] [2]) .n))) Tryz.func92 Tryz.ntmps92 (vl (qQ K) (vl (qx K) (vl (Qgx K) (vl (Qgy K) (vl (yj K) (vl (Qd9 K) (vl (QdD K) (vl (QdE K) (vl (QdF K) (vl (Qhn K) v0))))))))))
def Qkv(K:Nat):FSp TD:=sg 28 (.cs (dD 4) .nl) [] [(.st 4)] [tB] (fun p=>Qal.f K (p)) (.cs (.own (.int .u8) 5 true) .nl) [] []
theorem QeN(K:Nat):VOk Tryz.prog GD (Qkv K):=vk K .n Tryz.func28 Tryz.ntmps28 (vl (Qqm K) v0)
def QlY(K:Nat):FSp TD:=sd 87 [tB] [tH] (fun p=>QbE.f K (p))
theorem Qgz(K:Nat):VOk Tryz.prog GD (QlY K):=vk K .n Tryz.func87 Tryz.ntmps87 (vl (Qar K) v0)
def QgA(K:Nat):FSp TD:=sd 24 [(.sl (.st 4))] [(.sl tH)] (fun p=>XA.f K (p))
theorem Zh(K:Nat):VOk Tryz.prog GD (QgA K):=vk K (.s .n (.s .n (.s .n (.s (.s .n (.l ⟨[(3,(.own tH 37 true)),(11,dI)], [], [(.sl tH),tI], [], [], []⟩ (some ⟨[(3,(.own tH 37 true))], [], [(.sl tH)], [], [], []⟩) false .n)) .n)))) Tryz.func24 Tryz.ntmps24 (vl (Z7 K) (vl (QeN K) (vl (Qgz K) v0)))
def Qkw(K:Nat):FSp TD:=sd 84 [tI] [tI] (fun p=>XN.f K (p))
theorem QbT(K:Nat):VOk Tryz.prog GD (Qkw K):=vk K (.s .n (.s .n (.s .n (.s (.l ⟨[(3,dI)], [], [tI], [], [], []⟩ (some ⟨[(3,dI)], [], [tI], [], [], []⟩) false .n) .n)))) Tryz.func84 Tryz.ntmps84 v0
def QlZ(K:Nat):FSp TD:=sd 85 [tH,tH] [tH] (fun p=>Xk.f K (p.1) (p.2))
theorem Qa2(K:Nat):VOk Tryz.prog GD (QlZ K):=vk K (.s .n (.s (.r (ob [4,12,22,36,46,56]) [2,3] []) .n)) Tryz.func85 Tryz.ntmps85 (vl (Qar K) v0)
def QgB(K k:Nat):FSp TD:=sd 23 [(.sl tH)] [tH] (fun p=>yG.r K k (p))
theorem Ql0(K:Nat):∀k,VOk Tryz.prog GD (QgB K k):=by
 intro k
 induction k with
 |zero=>exact QtI Tryz.func23 rfl (by kernel_rfl) (fun _=>rfl)
 |succ k ih=>
  exact vk K (.s .n (.s .n (.s .n (.s (.r (ob [2,12,40,50,60,26,36,76,86,96]) [] []) .n)))) Tryz.func23 Tryz.ntmps23 (vl (Qar K) (vl (QbT K) (vl (Qa2 K) (vl ih v0))))
def Ql1(K:Nat):FSp TD:=QgB K K
theorem QgC(K:Nat):VOk Tryz.prog GD (Ql1 K):=Ql0 K K
def Ql2(K:Nat):FSp TD:=sd 138 [(.st 2)] [tH] (fun p=>Qdh.f K (p))
theorem Ql3(K:Nat):VOk Tryz.prog GD (Ql2 K):=vk K (.s .n (.s (.r (ob [2,12,30,40,26,56,66,76]) [1] []) .n)) Tryz.func138 Tryz.ntmps138 (vl (qx K) (vl (Qnc K) v0))
def Ql4(K:Nat):FSp TD:=sd 79 [(.st 0),tI,(.st 2)] [tH] (fun p=>X0.f K (p.1) (p.2.1) (p.2.2))
theorem QgD(K:Nat):VOk Tryz.prog GD (Ql4 K):=vk K (.s .n (.s (.j ⟨[(25,dF)], [], [.bool], [], [], []⟩ .n .n) (.s .n (.s (.r (ob [0,10,20,30,40,54,62,76,86,96]) [7] [3]) .n)))) Tryz.func79 Tryz.ntmps79 (vl (Qcw K) (vl (XD K) (vl (Ql3 K) (vl (Qkp K) v0))))
def qy(K:Nat):FSp TD:=sg 37 (.cs (dD 0) (.cs (.dt (.sl (.st 4))) .nl)) [] [(.st 0),(.sl (.st 4))] [tI,tH,(.sl (.st 1))] (fun p=>qW.f K (p.1) (p.2)) (.cs (.agg (.cs dI (.cs dH (.cs (.own (.st 1) 107 true) .nl)))) .nl) [] []
theorem Qas(K:Nat):VOk Tryz.prog GD (qy K):=vk K (.s .n (.s .n (.s .n (.s (.s .n (.l ⟨[(7,dI)], [(6,(.agg (.cs dI (.cs dH (.cs (.own (.st 1) 107 true) .nl)))))], [tI,tI,tH,(.sl (.st 1))], [], [], []⟩ (some ⟨[], [(6,(.agg (.cs dI (.cs dH (.cs (.own (.st 1) 107 true) .nl)))))], [tI,tH,(.sl (.st 1))], [], [], [2,5]⟩) false (.s .n (.s (.r (ob [0,10,20,32,42,52,66,72,84,96,102,116]) [] [6]) .n)))) .n)))) Tryz.func37 Tryz.ntmps37 (vl (Zh K) (vl (QgC K) (vl (QgD K) v0)))
def Qho(K:Nat):FSp TD:=sg 107 (.cs dI (.cs (.fn 108 .nl) .nl)) [] [tI] [tI] (fun p=>QeI.f K (p)) (.cs (.fn 159 (.cs (.ptr 0 0) (.cs (.ptr 1 0) .nl))) .nl) [] [(3,dI),(173,(.fn 108 .nl))]
theorem Qhp(K:Nat):VOk Tryz.prog GD (Qho K):=vk K .n Tryz.func107 Tryz.ntmps107 v0
def Qe9(K:Nat):FSp TD:=sd 108 [tI] [.bool] (fun p=>QcH.f K (p))
theorem Qfa(K:Nat):VOk Tryz.prog GD (Qe9 K):=vk K .n Tryz.func108 Tryz.ntmps108 v0
def Qkx(K:Nat):FSp TD:=sd 16 [(.st 4)] [(.st 4)] (fun p=>QhQ.f K (p))
theorem Qky(K:Nat):VOk Tryz.prog GD (Qkx K):=vk K (.s .n (.s (.j ⟨[(10,dF)], [], [.bool], [], [], []⟩ .n .n) (.s (.r (ob [0,10,22,32,50,46,66,72,86]) [] [1]) .n))) Tryz.func16 Tryz.ntmps16 (vl (qQ K) (vl (Jl K) (vl (Qku K) v0)))
def QgE(K:Nat):FSp TD:=sd 158 [(.st 4),tI,(.int .u32)] [(.st 4)] (fun p=>QaL.f K (p.1) (p.2.1) (p.2.2))
theorem QbU(K:Nat):VOk Tryz.prog GD (QgE K):=vk K (.s .n (.s .n (.s (.r (ob [2,12,30,40,26,60,56,76,82,96]) [] [3]) .n))) Tryz.func158 Tryz.ntmps158 (vl (Qky K) (vl (Jl K) (vl (Ju K) v0)))
def QeO(K k:Nat):FSp TD:=sg 91 (.cs (.dt (.sl tH)) (.cs dI .nl)) [] [(.sl tH),tI] [(.sl tH),.bool] (fun p=>yf.r K k (p.1) (p.2)) (.cs (.own tH 37 true) (.cs dF .nl)) [] []
theorem Qkz(K:Nat):∀k,VOk Tryz.prog GD (QeO K k):=by
 intro k
 induction k with
 |zero=>exact QtI Tryz.func91 rfl (by kernel_rfl) (fun _=>rfl)
 |succ k ih=>
  exact vk K (.s .n (.s (.j ⟨[(18,dF)], [], [.bool], [], [], []⟩ .n .n) .n)) Tryz.func91 Tryz.ntmps91 (vl (QbT K) (vl (QgC K) (vl ih v0)))
def QkA(K:Nat):FSp TD:=QeO K K
theorem QeP(K:Nat):VOk Tryz.prog GD (QkA K):=Qkz K K
def QgF(K:Nat):FSp TD:=sd 122 [tI,tI,tI] [.bool] (fun p=>jw.f K (p.1) (p.2.1) (p.2.2))
theorem Zi(K:Nat):VOk Tryz.prog GD (QgF K):=vk K .n Tryz.func122 Tryz.ntmps122 v0
def Qfb(K:Nat):FSp TD:=sd 162 [(.st 1)] [.bool] (fun p=>Xc.f K (p))
theorem Qfc(K:Nat):VOk Tryz.prog GD (Qfb K):=vk K .n Tryz.func162 Tryz.ntmps162 (vl (Zi K) v0)
def yz(K:Nat):FSp TD:=sg 195 (.cs (.dt (.sl (.st 1))) (.cs (.fn 162 .nl) .nl)) [] [(.sl (.st 1))] [tI] (fun p=>Jk.f K (p)) (.cs dI .nl) [] []
theorem yA(K:Nat):VOk Tryz.prog GD (yz K):=vk K (.s .n (.s (.s .n (.l ⟨[(8,dI)], [], [tI], [], [], []⟩ (some ⟨[], [], [], [], [], []⟩) true .n)) .n)) Tryz.func195 Tryz.ntmps195 (vl (Qfc K) v0)
def jG(K:Nat):FSp TD:=sg 163 (.cs (.dt (.sl (.st 1))) (.cs (.fn 162 .nl) .nl)) [] [(.sl (.st 1))] [.bool] (fun p=>YM.f K (p)) (.cs dF .nl) [] []
theorem jH(K:Nat):VOk Tryz.prog GD (jG K):=vk K .n Tryz.func163 Tryz.ntmps163 (vl (yA K) v0)
def Qhq(K:Nat):FSp TD:=sd 121 [(.st 2)] [.bool] (fun p=>ZF.f K (p))
theorem Qhr(K:Nat):VOk Tryz.prog GD (Qhq K):=vk K .n Tryz.func121 Tryz.ntmps121 (vl (Zi K) (vl (jH K) v0))
def Qhs(K:Nat):FSp TD:=sd 60 [(.st 7)] [.bool] (fun p=>JE.f K (p))
theorem Xf(K:Nat):VOk Tryz.prog GD (Qhs K):=vk K (.s .n (.s (.j ⟨[(31,dF)], [], [.bool], [], [], []⟩ .n .n) (.s .n (.s (.s .n (.l ⟨[(3,dI),(35,dI)], [], [tI,tI], [], [], []⟩ (some ⟨[], [], [], [], [], [1]⟩) true (.s .n (.s .n (.s (.s .n (.s (.j ⟨[(77,dF)], [], [.bool], [], [], []⟩ .n .n) .n)) .n))))) .n)))) Tryz.func60 Tryz.ntmps60 (vl (Qhr K) (vl (qQ K) (vl (Zi K) v0)))
def Qi4(K:Nat):FSp TD:=sg 106 (.cs (.dt (.sl (.st 4))) (.cs (dD 2) (.cs (.dt (.int .u32)) (.cs dF (.cs (.fn 159 (.cs (.ptr 0 0) (.cs (.ptr 1 0) .nl))) .nl))))) [(3,dI),(173,(.fn 108 .nl))] [(.sl (.st 4)),(.st 2),(.int .u32),.bool,tI] [(.st 7),.bool] (fun p=>Qgb.f K (p.1) (p.2.1) (p.2.2.1) (p.2.2.2.1) (p.2.2.2.2)) (.cs (dD 7) (.cs dF .nl)) [none,none] []
theorem Qi5(K:Nat):VOk Tryz.prog GD (Qi4 K):=vk K (.s .n (.s (.j ⟨[(35,dF)], [], [.bool], [], [], []⟩ .n .n) (.s .n (.s (.r (ob [0,10,20,30,40,52,62,104,76,82,92,116]) [] [6,8]) (.s (.s .n (.g (.s .n (.l ⟨[(6,dI)], [(1000000000013,(.agg (.cs dF (.cs (dD 2) (.cs (.own (.st 6) 55 false) .nl)))))], [tI,.bool,(.st 2),(.sl (.st 6))], [], [], []⟩ (some ⟨[], [(1000000000013,(.agg (.cs dF (.cs (dD 2) (.cs (.own (.st 6) 55 false) .nl)))))], [.bool,(.st 2),(.sl (.st 6))], [], [], []⟩) true (.s .n (.s .n (.j ⟨[], [(1000000000013,(.agg (.cs dF (.cs (dD 2) (.cs (.own (.st 6) 55 false) .nl)))))], [.bool,(.st 2),(.sl (.st 6))], [], [], []⟩ .n .n))))) .n (.s (.j ⟨[(61,dF)], [], [.bool], [], [], []⟩ .n .n) (.s (.r (ob [0,12,22,32,42,52,62,94,76,82,106]) [] []) (.j ⟨[(73,dF)], [(15,(.agg (.cs dI (.cs (dD 4) (.cs (.own tH 37 true) .nl)))))], [.bool,tI,(.st 4),(.sl tH)], [], [], []⟩ .n .n))))) .n))))) Tryz.func106 Tryz.ntmps106 (vl (Z7 K) (vl (Zh K) (vl (qF K) (vl (Qfa K) (vl (QbU K) (vl (QeP K) (vl (Xf K) v0)))))))
def Z8(K:Nat):FSp TD:=sd 38 [(.sl (.st 4)),(.st 2),(.int .u32)] [(.st 7),.bool] (fun p=>QbF.f K (p.1) (p.2.1) (p.2.2))
theorem Qht(K:Nat):VOk Tryz.prog GD (Z8 K):=vk K (.s .n (.s (.r (ob [0,10,20,32,42,52,66,76,82,92,106,112]) [] [4]) .n)) Tryz.func38 Tryz.ntmps38 (vl (Qhp K) (vl (Qi5 K) v0))
def Qec(K:Nat):FSp TD:=sg 107 (.cs dI (.cs (.fn 109 (.cs (.ptr 0 0) (.cs (.ptr 1 0) .nl))) .nl)) [(64,(.dt (.sl (.st 4)))),(3,dI)] [tI,(.sl (.st 4)),tI] [tI] (fun p=>QbG.f K (p.1) (p.2.1) (p.2.2)) (.cs (.fn 159 (.cs (.ptr 2 0) (.cs (.ptr 3 0) .nl))) .nl) [none,none] [(3,dI),(173,(.fn 109 (.cs (.ptr 0 0) (.cs (.ptr 1 0) .nl))))]
theorem Qed(K:Nat):VOk Tryz.prog GD (Qec K):=vk K .n Tryz.func107 Tryz.ntmps107 v0
def QgG(K:Nat):FSp TD:=sg 109 (.cs dI (.cs (.ptr 0 0) (.cs (.ptr 1 0) .nl))) [(64,(.dt (.sl (.st 4)))),(3,dI)] [tI,(.sl (.st 4)),tI] [.bool] (fun p=>Qdi.f K (p.1) (p.2.1) (p.2.2)) (.cs dF .nl) [none,none] []
theorem QgH(K:Nat):VOk Tryz.prog GD (QgG K):=vk K (.s .n (.s (.r (ob [2,12,22,32,42,52,63,72,82,92,102,112,122,132,142,152]) [] []) .n)) Tryz.func109 Tryz.ntmps109 v0
def Qfd(K:Nat):FSp TD:=sg 106 (.cs (.dt (.sl (.st 4))) (.cs (dD 2) (.cs (.dt (.int .u32)) (.cs dF (.cs (.fn 159 (.cs (.ptr 0 0) (.cs (.ptr 1 0) .nl))) .nl))))) [(3,dI),(173,(.fn 109 (.cs (.ptr 2 0) (.cs (.ptr 3 0) .nl)))),(64,(.dt (.sl (.st 4)))),(3,dI)] [(.sl (.st 4)),(.st 2),(.int .u32),.bool,tI,(.sl (.st 4)),tI] [(.st 7),.bool] (fun p=>QcI.f K (p.1) (p.2.1) (p.2.2.1) (p.2.2.2.1) (p.2.2.2.2.1) (p.2.2.2.2.2.1) (p.2.2.2.2.2.2)) (.cs (dD 7) (.cs dF .nl)) [none,none,none,none] []
theorem Qfe(K:Nat):VOk Tryz.prog GD (Qfd K):=vk K (.s .n (.s (.j ⟨[(35,dF)], [], [.bool], [], [], []⟩ .n .n) (.s .n (.s (.r (ob [0,10,20,30,40,52,62,104,76,82,92,116]) [] [6,8]) (.s (.s .n (.g (.s .n (.l ⟨[(6,dI)], [(1000000000013,(.agg (.cs dF (.cs (dD 2) (.cs (.own (.st 6) 55 false) .nl)))))], [tI,.bool,(.st 2),(.sl (.st 6))], [], [], []⟩ (some ⟨[], [(1000000000013,(.agg (.cs dF (.cs (dD 2) (.cs (.own (.st 6) 55 false) .nl)))))], [.bool,(.st 2),(.sl (.st 6))], [], [], []⟩) true (.s .n (.s .n (.j ⟨[], [(1000000000013,(.agg (.cs dF (.cs (dD 2) (.cs (.own (.st 6) 55 false) .nl)))))], [.bool,(.st 2),(.sl (.st 6))], [], [], []⟩ .n .n))))) .n (.s (.j ⟨[(61,dF)], [], [.bool], [], [], []⟩ .n .n) (.s (.r (ob [0,12,22,32,42,52,62,94,76,82,106]) [] []) (.j ⟨[(73,dF)], [(15,(.agg (.cs dI (.cs (dD 4) (.cs (.own tH 37 true) .nl)))))], [.bool,tI,(.st 4),(.sl tH)], [], [], []⟩ .n .n))))) .n))))) Tryz.func106 Tryz.ntmps106 (vl (Z7 K) (vl (Zh K) (vl (qF K) (vl (QgH K) (vl (QbU K) (vl (QeP K) (vl (Xf K) v0)))))))
def Qa3(K:Nat):FSp TD:=sd 39 [(.sl (.st 4)),(.st 2),(.int .u32),tI] [(.st 7),.bool] (fun p=>Qgc.f K (p.1) (p.2.1) (p.2.2.1) (p.2.2.2))
theorem Qi6(K:Nat):VOk Tryz.prog GD (Qa3 K):=vk K (.s .n (.s (.r (ob [0,10,20,32,42,52,62,72,82,92,106,116,122,132,146,152]) [] [4,5]) .n)) Tryz.func39 Tryz.ntmps39 (vl (Qed K) (vl (Qfe K) v0))
def Qhu(K:Nat):FSp TD:=sg 74 (.cs (dD 1) .nl) [] [(.st 1)] [tB] (fun p=>ZG.f K (p)) (.cs (.own (.int .u8) 5 true) .nl) [] []
theorem Qhv(K:Nat):VOk Tryz.prog GD (Qhu K):=vk K (.s .n (.s (.r (ob [2,12,30,40,26,56,66,76,82]) [] [1]) .n)) Tryz.func74 Tryz.ntmps74 (vl (qx K) (vl (y7 K) (vl (yj K) v0)))
def QbV(K:Nat):FSp TD:=sg 73 (.cs (.dt (.sl (.st 1))) (.cs (.fn 74 .nl) .nl)) [] [(.sl (.st 1))] [tB] (fun p=>qK.f K (p)) (.cs (.own (.int .u8) 5 true) .nl) [] []
theorem QbW(K:Nat):VOk Tryz.prog GD (QbV K):=vk K (.s .n (.s .n (.s (.s .n (.l ⟨[(5,(.own (.int .u8) 5 true)),(13,dI)], [], [tB,tI], [], [], []⟩ (some ⟨[(5,(.own (.int .u8) 5 true))], [], [tB], [], [], []⟩) false .n)) .n))) Tryz.func73 Tryz.ntmps73 (vl (qx K) (vl (Qhv K) v0))
def QkB(K:Nat):FSp TD:=sg 137 (.cs dB .nl) [] [tB] [tB] (fun p=>Qcm.f K (p)) (.cs (.own (.int .u8) 5 true) .nl) [] []
theorem QkC(K:Nat):VOk Tryz.prog GD (QkB K):=vk K .n Tryz.func137 Tryz.ntmps137 (vl (qx K) v0)
def QkD(K:Nat):FSp TD:=sg 136 (.cs (.ptr 0 0) .nl) [(52,(dD 4))] [(.st 4)] [tB] (fun p=>Qcn.f K (p)) (.cs (.own (.int .u8) 5 true) .nl) [none] []
theorem QkE(K:Nat):VOk Tryz.prog GD (QkD K):=vk K (.s .n (.s (.s .n (.s (.s (.r (ob [10,20,6,36,46,56,62]) [] [0]) .n) .n)) (.s (.r (ob [10,20,40,50,6,36,66,76,86,92]) [] [0]) .n))) Tryz.func136 Tryz.ntmps136 (vl (Qa1 K) (vl (y7 K) (vl (yj K) (vl (QkC K) v0))))
def QkF(K:Nat):FSp TD:=sg 92 (.cs (dD 4) (.cs (.fn 136 (.cs (.ptr 0 0) .nl)) .nl)) [(52,(dD 4))] [(.st 4),(.st 4)] [tB] (fun p=>Qd4.f K (p.1) (p.2)) (.cs (.own (.int .u8) 5 true) .nl) [none] []
theorem QkG(K:Nat):VOk Tryz.prog GD (QkF K):=vk K (.s .n (.s .n (.j ⟨[(5,(.own (.int .u8) 5 true))], [], [tB], [], [], []⟩ (.r (ob [2,12,40,50,80,26,36,62,72,96,106,116,122]) [] [2]) .n))) Tryz.func92 Tryz.ntmps92 (vl (qQ K) (vl (qx K) (vl (Qgx K) (vl (Qgy K) (vl (yj K) (vl (Qd9 K) (vl (QdD K) (vl (QdE K) (vl (QdF K) (vl (QkE K) v0))))))))))
def Qoc(K:Nat):FSp TD:=sg 77 (.cs (dD 4) .nl) [] [(.st 4)] [tB] (fun p=>Qdj.f K (p)) (.cs (.own (.int .u8) 5 true) .nl) [] []
theorem Qh0(K:Nat):VOk Tryz.prog GD (Qoc K):=vk K .n Tryz.func77 Tryz.ntmps77 (vl (QkG K) v0)
def Qbe(K:Nat):FSp TD:=sg 135 (.cs (.dt (.sl tH)) (.cs (.fn 72 .nl) .nl)) [] [(.sl tH)] [tB] (fun p=>J7.f K (p)) (.cs (.own (.int .u8) 5 true) .nl) [] []
theorem Qbf(K:Nat):VOk Tryz.prog GD (Qbe K):=vk K (.s .n (.s .n (.s (.s .n (.l ⟨[(5,(.own (.int .u8) 5 true)),(13,dI)], [], [tB,tI], [], [], []⟩ (some ⟨[(5,(.own (.int .u8) 5 true))], [], [tB], [], [], []⟩) false .n)) .n))) Tryz.func135 Tryz.ntmps135 (vl (qx K) (vl (y7 K) v0))
def Qi7(K:Nat):FSp TD:=sg 76 (.cs (dD 6) .nl) [] [(.st 6)] [tB] (fun p=>QaM.f K (p)) (.cs (.own (.int .u8) 5 true) .nl) [] []
theorem Qi8(K:Nat):VOk Tryz.prog GD (Qi7 K):=vk K (.s .n (.s (.r (ob [2,12,30,40,60,70,26,56,86,96,106,112]) [] [1]) .n)) Tryz.func76 Tryz.ntmps76 (vl (qx K) (vl (Qh0 K) (vl (Qbf K) (vl (yj K) v0))))
def Qbg(K:Nat):FSp TD:=sg 75 (.cs (.dt (.sl (.st 6))) (.cs (.fn 76 .nl) .nl)) [] [(.sl (.st 6))] [tB] (fun p=>J8.f K (p)) (.cs (.own (.int .u8) 5 true) .nl) [] []
theorem Qbh(K:Nat):VOk Tryz.prog GD (Qbg K):=vk K (.s .n (.s .n (.s (.s .n (.l ⟨[(5,(.own (.int .u8) 5 true)),(13,dI)], [], [tB,tI], [], [], []⟩ (some ⟨[(5,(.own (.int .u8) 5 true))], [], [tB], [], [], []⟩) false .n)) .n))) Tryz.func75 Tryz.ntmps75 (vl (qx K) (vl (Qi8 K) v0))
def QbX(K:Nat):FSp TD:=sg 18 (.cs (dD 7) .nl) [] [(.st 7)] [tB] (fun p=>yg.f K (p)) (.cs (.own (.int .u8) 5 true) .nl) [] []
theorem QeQ(K:Nat):VOk Tryz.prog GD (QbX K):=vk K (.s .n (.s .n (.s (.r (ob [4,18,22,32,50,60,70,90,100,110,130,140,150,46,86,126,166,176,186,192]) [] [1]) (.s .n (.s (.s .n (.l ⟨[(3,(.own (.int .u8) 5 true)),(39,dI)], [], [tB,tI], [], [], [1]⟩ (some ⟨[(3,(.own (.int .u8) 5 true))], [], [tB], [], [], [1]⟩) false .n)) .n))))) Tryz.func18 Tryz.ntmps18 (vl (Xf K) (vl (Qa1 K) (vl (qx K) (vl (y7 K) (vl (QbW K) (vl (yj K) (vl (Qbh K) (vl (Qh0 K) v0))))))))
def QbY(K:Nat):FSp TD:=sp 65 (.cs dF (.cs dI .nl)) [] [.bool,tI] [] (120,true) (fun p=>Yq.fs K (p.1) (p.2)) [] .nl [] []
theorem yl(K:Nat):VOk Tryz.prog GD (QbY K):=vkP K .n Tryz.func65 Tryz.ntmps65 v0 rfl
def Qee(K:Nat):FSp TD:=sd 110 [tB,tB] [.bool] (fun p=>bytes_HasPrefix.f K (p.1) (p.2))
theorem Qef(K:Nat):VOk Tryz.prog GD (Qee K):=vk K .n Tryz.func110 Tryz.ntmps110 (vl (QdC K) v0)
def Qeg(K:Nat):FSp TD:=sd 45 [tB,tB] [tB,.bool] (fun p=>bytes_CutPrefix.f K (p.1) (p.2))
theorem Qeh(K:Nat):VOk Tryz.prog GD (Qeg K):=vk K .n Tryz.func45 Tryz.ntmps45 (vl (Qef K) v0)
def Ql5(K:Nat):FSp TD:=sg 46 (.cs dB .nl) [] [tB] [(.st 10)] (fun p=>Qdk.f K (p)) (.cs (.ptr 0 0) .nl) [] [(176,(dD 10))]
theorem Ql6(K:Nat):VOk Tryz.prog GD (Ql5 K):=vk K .n Tryz.func46 Tryz.ntmps46 (vl (Ju K) v0)
def Qei(K:Nat):FSp TD:=sg 118 (.cs (.ptr 0 0) .nl) [(176,(dD 10))] [(.st 10)] [tI] (fun p=>QD.f K (p)) (.cs dI .nl) [none] []
theorem YH(K:Nat):VOk Tryz.prog GD (Qei K):=vk K .n Tryz.func118 Tryz.ntmps118 v0
def Qcz(K:Nat):FSp TD:=sd 113 [tB] [.bool,tI,tI] (fun p=>JS.f K (p))
theorem QcA(K:Nat):VOk Tryz.prog GD (Qcz K):=vk K .n Tryz.func113 Tryz.ntmps113 v0
def QdG(K:Nat):FSp TD:=sg 49 (.cs (.ptr 0 0) (.cs dI .nl)) [(176,(dD 10))] [tI,(.st 10)] [(.st 10)] (fun p=>Q3.f K (p.1) (p.2)) .nl [some (dD 10)] []
theorem Yy(K:Nat):VOk Tryz.prog GD (QdG K):=vk K (.j ⟨[(16,dF)], [], [.bool], [], [], []⟩ .n .n) Tryz.func49 Tryz.ntmps49 v0
def Qff(K:Nat):FSp TD:=sg 112 (.cs (.ptr 0 0) (.cs (.fn 113 .nl) .nl)) [(176,(dD 10))] [(.st 10)] [.bool,(.st 10)] (fun p=>qV.f K (p)) (.cs dF .nl) [some (dD 10)] []
theorem Qfg(K:Nat):VOk Tryz.prog GD (Qff K):=vk K .n Tryz.func112 Tryz.ntmps112 (vl (YH K) (vl (QcA K) (vl (Yy K) v0)))
def QdH(K:Nat):FSp TD:=sg 47 (.cs (.ptr 0 0) .nl) [(176,(dD 10))] [(.st 10)] [.bool,(.st 10)] (fun p=>Yw.f K (p)) (.cs dF .nl) [some (dD 10)] []
theorem ZN(K:Nat):VOk Tryz.prog GD (QdH K):=vk K .n Tryz.func47 Tryz.ntmps47 (vl (Qfg K) v0)
def Qi9(K:Nat):FSp TD:=sd 115 [tB] [tI,tI,tI] (fun p=>X4.f K (p))
theorem QdI(K:Nat):VOk Tryz.prog GD (Qi9 K):=vk K (.s .n (.s .n (.s (.s .n (.l ⟨[(5,dI),(10,dI)], [], [tI,tI], [], [], []⟩ (some ⟨[], [], [], [], [], []⟩) true (.s .n (.s .n (.s (.s .n (.s (.j ⟨[(24,dF)], [], [.bool], [], [], []⟩ .n .n) .n)) .n))))) .n))) Tryz.func115 Tryz.ntmps115 v0
def QgI(K:Nat):FSp TD:=sg 114 (.cs (.ptr 0 0) (.cs (.fn 115 .nl) .nl)) [(176,(dD 10))] [(.st 10)] [tI,(.st 10)] (fun p=>yH.f K (p)) (.cs dI .nl) [some (dD 10)] []
theorem QgJ(K:Nat):VOk Tryz.prog GD (QgI K):=vk K .n Tryz.func114 Tryz.ntmps114 (vl (YH K) (vl (QdI K) (vl (Yy K) v0)))
def Qej(K:Nat):FSp TD:=sg 48 (.cs (.ptr 0 0) .nl) [(176,(dD 10))] [(.st 10)] [tI,(.st 10)] (fun p=>QB.f K (p)) (.cs dI .nl) [some (dD 10)] []
theorem qA(K:Nat):VOk Tryz.prog GD (Qej K):=vk K .n Tryz.func48 Tryz.ntmps48 (vl (QgJ K) v0)
def QcB(K:Nat):FSp TD:=sd 117 [tB] [tH,tI,tI] (fun p=>qY.f K (p))
theorem QcC(K:Nat):VOk Tryz.prog GD (QcB K):=vk K .n Tryz.func117 Tryz.ntmps117 v0
def QcD(K:Nat):FSp TD:=sg 116 (.cs (.ptr 0 0) (.cs (.fn 117 .nl) .nl)) [(176,(dD 10))] [(.st 10)] [tH,(.st 10)] (fun p=>JU.f K (p)) (.cs dH .nl) [some (dD 10)] []
theorem QcE(K:Nat):VOk Tryz.prog GD (QcD K):=vk K .n Tryz.func116 Tryz.ntmps116 (vl (YH K) (vl (QcC K) (vl (Yy K) v0)))
def QdJ(K:Nat):FSp TD:=sg 50 (.cs (.ptr 0 0) .nl) [(176,(dD 10))] [(.st 10)] [tH,(.st 10)] (fun p=>Yk.f K (p)) (.cs dH .nl) [some (dD 10)] []
theorem qZ(K:Nat):VOk Tryz.prog GD (QdJ K):=vk K .n Tryz.func50 Tryz.ntmps50 (vl (QcE K) v0)
def Qhw(K:Nat):FSp TD:=sg 52 (.cs dI (.cs (.ptr 0 0) .nl)) [(100,(.ptr 1 0)),(176,(dD 10))] [tI,(.st 10)] [(.st 1),(.st 10)] (fun p=>QbH.f K (p.1) (p.2)) (.cs (dD 1) .nl) [none,some (dD 10)] []
theorem Qhx(K:Nat):VOk Tryz.prog GD (Qhw K):=vk K (.s .n (.s (.r (ob [2,20,16,36,42,56]) [] [1]) .n)) Tryz.func52 Tryz.ntmps52 (vl (qA K) (vl (qZ K) v0))
def QbZ(K:Nat):FSp TD:=sg 51 (.cs (.ptr 0 0) (.cs dI (.cs dI (.cs (.fn 52 (.cs (.ptr 1 0) .nl)) .nl)))) [(176,(dD 10)),(100,(.ptr 0 0))] [tI,tI,(.st 10)] [(.sl (.st 1)),(.st 10)] (fun p=>JI.f K (p.1) (p.2.1) (p.2.2)) (.cs (.own (.st 1) 107 true) .nl) [some (dD 10),none] []
theorem Qb0(K:Nat):VOk Tryz.prog GD (QbZ K):=vk K (.s .n (.j ⟨[], [(0,(dD 10))], [(.st 10)], [], [], []⟩ .n (.s .n (.s (.s .n (.l ⟨[(9,(.own (.st 1) 107 true)),(17,dI)], [(0,(dD 10))], [(.sl (.st 1)),tI,(.st 10)], [], [], []⟩ (some ⟨[(9,(.own (.st 1) 107 true))], [(0,(dD 10))], [(.sl (.st 1)),(.st 10)], [], [], []⟩) false .n)) .n)))) Tryz.func51 Tryz.ntmps51 (vl (Yy K) (vl (YH K) (vl (Qhx K) v0)))
def Ql7(K:Nat):FSp TD:=sg 119 (.cs (.ptr 0 0) .nl) [(176,(dD 10))] [(.st 10)] [(.sl (.st 3)),(.st 10)] (fun p=>QbI.f K (p)) (.cs (.own (.st 3) 90 true) .nl) [some (dD 10)] []
theorem Ql8(K:Nat):VOk Tryz.prog GD (Ql7 K):=vk K (.s .n (.s .n (.j ⟨[], [(0,(dD 10))], [(.st 10)], [], [], []⟩ .n (.s .n (.s (.s .n (.l ⟨[(4,(.own (.st 3) 90 true)),(12,dI)], [(0,(dD 10))], [(.sl (.st 3)),tI,(.st 10)], [], [], []⟩ (some ⟨[(4,(.own (.st 3) 90 true))], [(0,(dD 10))], [(.sl (.st 3)),(.st 10)], [], [], []⟩) false .n)) .n))))) Tryz.func119 Tryz.ntmps119 (vl (qA K) (vl (Yy K) (vl (YH K) v0)))
def Qb1(K:Nat):FSp TD:=sg 161 (.cs dB (.cs (.ptr 0 0) .nl)) [(3,dI)] [tB,tI] [tB,tI,tI] (fun p=>Jn.f K (p.1) (p.2)) (.cs (.own (.int .u8) 5 true) (.cs dI (.cs dI .nl))) [none] []
theorem Qb2(K:Nat):VOk Tryz.prog GD (Qb1 K):=vk K .n Tryz.func161 Tryz.ntmps161 (vl (QdI K) (vl (Ju K) v0))
def Qfh(K:Nat):FSp TD:=sg 160 (.cs (.ptr 0 0) (.cs (.fn 161 (.cs (.ptr 1 0) .nl)) .nl)) [(176,(dD 10)),(3,dI)] [(.st 10),tI] [tB,(.st 10)] (fun p=>J3.f K (p.1) (p.2)) (.cs (.own (.int .u8) 5 true) .nl) [some (dD 10),none] []
theorem Qfi(K:Nat):VOk Tryz.prog GD (Qfh K):=vk K .n Tryz.func160 Tryz.ntmps160 (vl (YH K) (vl (Qb2 K) (vl (Yy K) v0)))
def QcY(K:Nat):FSp TD:=sg 120 (.cs (.ptr 0 0) (.cs dI .nl)) [(176,(dD 10))] [tI,(.st 10)] [tB,(.st 10)] (fun p=>YF.f K (p.1) (p.2)) (.cs (.own (.int .u8) 5 true) .nl) [some (dD 10)] []
theorem QcZ(K:Nat):VOk Tryz.prog GD (QcY K):=vk K .n Tryz.func120 Tryz.ntmps120 (vl (Qfi K) v0)
def Qod(K:Nat):FSp TD:=sg 55 (.cs (.ptr 0 0) .nl) [(176,(dD 10))] [(.st 10)] [(.st 4),(.st 10)] (fun p=>Qdl.f K (p)) (.cs (dD 4) .nl) [some (dD 10)] []
theorem Qh1(K:Nat):VOk Tryz.prog GD (Qod K):=vk K (.s .n (.s .n (.j ⟨[], [(0,(dD 10)),(3,(.agg (.cs dI (.cs dI (.cs dI (.cs dI (.cs dI (.cs dF (.cs dF (.cs dI (.cs dI (.cs dI (.cs dH (.cs (.dt (.sl (.st 3))) (.cs dB (.cs dH (.cs dF (.cs dH .nl))))))))))))))))))], [(.st 10),tI,tI,tI,tI,tI,.bool,.bool,tI,tI,tI,tH,(.sl (.st 3)),tB,tH,.bool,tH], [], [], []⟩ (.s .n (.s .n (.s .n (.j ⟨[(33,dF)], [], [.bool], [], [], []⟩ .n .n)))) (.j ⟨[], [(0,(dD 10))], [(.st 10)], [], [], []⟩ .n .n)))) Tryz.func55 Tryz.ntmps55 (vl (qA K) (vl (Ql8 K) (vl (ZN K) (vl (qZ K) (vl (QcZ K) (vl (Yy K) (vl (qQ K) (vl (YH K) v0))))))))
def Qhy(K:Nat):FSp TD:=sg 54 (.cs dI (.cs (.ptr 0 0) .nl)) [(100,(.ptr 1 0)),(176,(dD 10))] [tI,(.st 10)] [(.st 6),(.st 10)] (fun p=>ZH.f K (p.1) (p.2)) (.cs (dD 6) .nl) [none,some (dD 10)] []
theorem Qhz(K:Nat):VOk Tryz.prog GD (Qhy K):=vk K .n Tryz.func54 Tryz.ntmps54 (vl (Qh1 K) v0)
def Qbi(K:Nat):FSp TD:=sg 53 (.cs (.ptr 0 0) (.cs dI (.cs dI (.cs (.fn 54 (.cs (.ptr 1 0) .nl)) .nl)))) [(176,(dD 10)),(100,(.ptr 0 0))] [tI,tI,(.st 10)] [(.sl (.st 6)),(.st 10)] (fun p=>Jz.f K (p.1) (p.2.1) (p.2.2)) (.cs (.own (.st 6) 55 true) .nl) [some (dD 10),none] []
theorem Qbj(K:Nat):VOk Tryz.prog GD (Qbi K):=vk K (.s .n (.j ⟨[], [(0,(dD 10))], [(.st 10)], [], [], []⟩ .n (.s .n (.s (.s .n (.l ⟨[(9,(.own (.st 6) 55 true)),(17,dI)], [(0,(dD 10))], [(.sl (.st 6)),tI,(.st 10)], [], [], []⟩ (some ⟨[(9,(.own (.st 6) 55 true))], [(0,(dD 10))], [(.sl (.st 6)),(.st 10)], [], [], []⟩) false .n)) .n)))) Tryz.func53 Tryz.ntmps53 (vl (Yy K) (vl (YH K) (vl (Qhz K) v0)))
def Qfj(K:Nat):FSp TD:=sg 58 (.cs dI (.cs (.ptr 0 0) .nl)) [(100,(.ptr 1 0)),(176,(dD 10))] [tI,(.st 10)] [tH,(.st 10)] (fun p=>ZZ.f K (p.1) (p.2)) (.cs dH .nl) [none,some (dD 10)] []
theorem Qfk(K:Nat):VOk Tryz.prog GD (Qfj K):=vk K .n Tryz.func58 Tryz.ntmps58 (vl (qZ K) v0)
def Qbk(K:Nat):FSp TD:=sg 57 (.cs (.ptr 0 0) (.cs dI (.cs dI (.cs (.fn 58 (.cs (.ptr 1 0) .nl)) .nl)))) [(176,(dD 10)),(100,(.ptr 0 0))] [tI,tI,(.st 10)] [(.sl tH),(.st 10)] (fun p=>J9.f K (p.1) (p.2.1) (p.2.2)) (.cs (.own tH 37 true) .nl) [some (dD 10),none] []
theorem Qbl(K:Nat):VOk Tryz.prog GD (Qbk K):=vk K (.s .n (.j ⟨[], [(0,(dD 10))], [(.st 10)], [], [], []⟩ .n (.s .n (.s (.s .n (.l ⟨[(9,(.own tH 37 true)),(17,dI)], [(0,(dD 10))], [(.sl tH),tI,(.st 10)], [], [], []⟩ (some ⟨[(9,(.own tH 37 true))], [(0,(dD 10))], [(.sl tH),(.st 10)], [], [], []⟩) false .n)) .n)))) Tryz.func57 Tryz.ntmps57 (vl (Yy K) (vl (YH K) (vl (Qfk K) v0)))
def QhA(K:Nat):FSp TD:=sg 56 (.cs dI (.cs (.ptr 0 0) .nl)) [(100,(.ptr 1 0)),(176,(dD 10))] [tI,(.st 10)] [(.st 6),(.st 10)] (fun p=>ZI.f K (p.1) (p.2)) (.cs (dD 6) .nl) [none,some (dD 10)] []
theorem QhB(K:Nat):VOk Tryz.prog GD (QhA K):=vk K (.s .n (.s (.r (ob [2,20,54,16,36,42,66]) [] [1]) (.s (.r (ob [0,12,30,26,46,52,66]) [] [1]) .n))) Tryz.func56 Tryz.ntmps56 (vl (qA K) (vl (Qh1 K) (vl (Qbl K) v0)))
def Z9(K:Nat):FSp TD:=sg 53 (.cs (.ptr 0 0) (.cs dI (.cs dI (.cs (.fn 56 (.cs (.ptr 1 0) .nl)) .nl)))) [(176,(dD 10)),(100,(.ptr 0 0))] [tI,tI,(.st 10)] [(.sl (.st 6)),(.st 10)] (fun p=>Jg.f K (p.1) (p.2.1) (p.2.2)) (.cs (.own (.st 6) 55 true) .nl) [some (dD 10),none] []
theorem Qaa(K:Nat):VOk Tryz.prog GD (Z9 K):=vk K (.s .n (.j ⟨[], [(0,(dD 10))], [(.st 10)], [], [], []⟩ .n (.s .n (.s (.s .n (.l ⟨[(9,(.own (.st 6) 55 true)),(17,dI)], [(0,(dD 10))], [(.sl (.st 6)),tI,(.st 10)], [], [], []⟩ (some ⟨[(9,(.own (.st 6) 55 true))], [(0,(dD 10))], [(.sl (.st 6)),(.st 10)], [], [], []⟩) false .n)) .n)))) Tryz.func53 Tryz.ntmps53 (vl (Yy K) (vl (YH K) (vl (QhB K) v0)))
def QdK(K:Nat):FSp TD:=sg 59 (.cs (.ptr 0 0) .nl) [(176,(dD 10))] [(.st 10)] [tI] (fun p=>Y6.f K (p)) (.cs dI .nl) [none] []
theorem QdL(K:Nat):VOk Tryz.prog GD (QdK K):=vk K .n Tryz.func59 Tryz.ntmps59 (vl (YH K) v0)
def Qb3(K:Nat):FSp TD:=sd 15 [tB] [(.st 7),tI] (fun p=>XO.f K (p))
theorem QeR(K:Nat):VOk Tryz.prog GD (Qb3 K):=vk K (.s .n (.s .n (.s .n (.s .n (.s .n (.s .n (.j ⟨[], [(1000000006,(dD 10))], [(.st 10)], [], [], []⟩ .n (.s .n (.s (.r (ob [0,12,30,26,46,52,62,76]) [] [6]) (.j ⟨[], [(7,(.agg (.cs dF (.cs (.agg (.cs dI (.cs dH (.cs (.own (.st 1) 107 true) .nl)))) (.cs (.own (.st 6) 55 true) .nl))))),(1000000006,(dD 10))], [.bool,tI,tH,(.sl (.st 1)),(.sl (.st 6)),(.st 10)], [], [], []⟩ (.s .n (.s .n (.r (ob [0,12,30,40,50,60,26,76,82,96]) [] [6,7]))) .n)))))))))) Tryz.func15 Tryz.ntmps15 (vl (Qeh K) (vl (Ql6 K) (vl (ZN K) (vl (qA K) (vl (Yy K) (vl (qZ K) (vl (Qb0 K) (vl (Qbj K) (vl (Qaa K) (vl (QdL K) (vl (Xf K) v0)))))))))))
def Qja(K:Nat):FSp TD:=sg 178 (.cs dI (.cs (.ptr 0 0) (.cs (.ptr 1 0) (.cs (.ptr 2 0) .nl)))) [(5,(.dt (.int .u8))),(37,dH),(37,dH)] [tI,(.int .u8),tH,tH] [(.int .u8)] (fun p=>QaN.f K (p.1) (p.2.1) (p.2.2.1) (p.2.2.2)) .nl [some (.dt (.int .u8)),none,none] []
theorem Qjb(K:Nat):VOk Tryz.prog GD (Qja K):=vk K (.r (ob [2,12,22,32,42,52,62,72,82,96]) [] []) Tryz.func178 Tryz.ntmps178 v0
def Ql9(K:Nat):FSp TD:=sd 140 [tH,tH] [.bool] (fun p=>X5.f K (p.1) (p.2))
theorem QgK(K:Nat):VOk Tryz.prog GD (Ql9 K):=vk K (.s .n (.s .n (.s .n (.s (.s .n (.l ⟨[(9,dI)], [(5,(.dt (.int .u8)))], [tI,(.int .u8)], [], [], []⟩ (some ⟨[], [(5,(.dt (.int .u8)))], [(.int .u8)], [], [], [2,3]⟩) false .n)) .n)))) Tryz.func140 Tryz.ntmps140 (vl (Qjb K) v0)
def QhC(K:Nat):FSp TD:=sd 80 [(.st 11),tH] [.bool] (fun p=>Xl.f K (p.1) (p.2))
theorem QcK(K:Nat):VOk Tryz.prog GD (QhC K):=vk K .n Tryz.func80 Tryz.ntmps80 (vl (QgK K) v0)
def Qb4(K:Nat):FSp TD:=sd 19 [(.st 0),(.st 2)] [tI] (fun p=>Qam.f K (p.1) (p.2))
theorem QkH(K:Nat):VOk Tryz.prog GD (Qb4 K):=vk K (.s .n (.s (.j ⟨[(17,dF)], [], [.bool], [], [], []⟩ .n .n) (.s .n (.s (.s .n (.l ⟨[(21,dI)], [(5,(.dt (.vec 4 .bool)))], [tI,(.vec 4 .bool)], [], [], []⟩ (some ⟨[], [], [], [], [], [5]⟩) true (.s .n (.s .n (.s (.s .n (.s (.j ⟨[(38,dF)], [], [.bool], [], [], []⟩ .n .n) .n)) .n))))) .n)))) Tryz.func19 Tryz.ntmps19 (vl (Qcw K) (vl (XD K) (vl (QgD K) (vl (QcK K) v0))))
def QkI(K:Nat):FSp TD:=sd 127 [(.st 4)] [tH] (fun p=>yZ.f K (p))
theorem QeS(K:Nat):VOk Tryz.prog GD (QkI K):=vk K .n Tryz.func127 Tryz.ntmps127 (vl (QeN K) (vl (Qgz K) v0))
def Qab(K:Nat):FSp TD:=sg 169 (.cs (.ptr 0 0) .nl) [(189,(.agg (.cs (.agg (.cs (.own tH 37 true) .nl)) (.cs dI .nl))))] [(.sl tH),tI] [tH,(.sl tH),tI] (fun p=>qL.f K (p.1) (p.2)) (.cs dH .nl) [some (.agg (.cs (.agg (.cs (.own tH 37 true) .nl)) (.cs dI .nl)))] []
theorem Qac(K:Nat):VOk Tryz.prog GD (Qab K):=vk K (.s .n (.s (.r (ob [2,12,22,32,42,52,62,72,82,92,102,112,124,136]) [] []) (.s (.r (ob [0,12,22,32,42,52,62,72,82,92,102,116,122,132,146]) [] []) .n))) Tryz.func169 Tryz.ntmps169 v0
def Zr(K:Nat):FSp TD:=sg 170 (.cs (.ptr 0 0) (.cs dH .nl)) [(189,(.agg (.cs (.agg (.cs (.own tH 37 true) .nl)) (.cs dI .nl))))] [tH,(.sl tH),tI] [(.sl tH),tI] (fun p=>qi.f K (p.1) (p.2.1) (p.2.2)) .nl [some (.agg (.cs (.agg (.cs (.own tH 37 true) .nl)) (.cs dI .nl)))] []
theorem Zt(K:Nat):VOk Tryz.prog GD (Zr K):=vk K (.s .n (.r (ob [0,12,22,32,42,52,64,76,82,92,106]) [] [])) Tryz.func170 Tryz.ntmps170 v0
def Qfl(K:Nat):FSp TD:=sg 126 (.cs (.ptr 0 0) (.cs dH .nl)) [(189,(.agg (.cs (.agg (.cs (.own tH 37 true) .nl)) (.cs dI .nl))))] [tH,(.sl tH),tI] [(.sl tH),tI] (fun p=>Xd.f K (p.1) (p.2.1) (p.2.2)) .nl [some (.agg (.cs (.agg (.cs (.own tH 37 true) .nl)) (.cs dI .nl)))] []
theorem Qfm(K:Nat):VOk Tryz.prog GD (Qfl K):=vk K (.s .n (.s .n (.s (.s .n (.l ⟨[(4,dI)], [(0,(.agg (.cs (.agg (.cs (.own tH 37 true) .nl)) (.cs dI .nl)))),(3,dH)], [tI,(.sl tH),tI,tH], [], [], []⟩ (some ⟨[], [(0,(.agg (.cs (.agg (.cs (.own tH 37 true) .nl)) (.cs dI .nl)))),(3,dH)], [(.sl tH),tI,tH], [], [], []⟩) false (.s .n (.s (.r (ob [2,12,22,40,36,56,66]) [] [3]) .n)))) (.s (.r (ob [2,12,22,32,46]) [] []) .n)))) Tryz.func126 Tryz.ntmps126 (vl (Qac K) (vl (Qa2 K) (vl (Zt K) v0)))
def Qek(K:Nat):FSp TD:=sg 171 (.cs (.ptr 0 0) .nl) [(189,(.agg (.cs (.agg (.cs (.own tH 37 true) .nl)) (.cs dI .nl))))] [(.sl tH),tI] [tI,(.sl tH),tI] (fun p=>X6.f K (p.1) (p.2)) (.cs dI .nl) [some (.agg (.cs (.agg (.cs (.own tH 37 true) .nl)) (.cs dI .nl)))] []
theorem Qel(K:Nat):VOk Tryz.prog GD (Qek K):=vk K .n Tryz.func171 Tryz.ntmps171 v0
def Zu(K:Nat):FSp TD:=sg 172 (.cs (.ptr 0 0) .nl) [(189,(.agg (.cs (.agg (.cs (.own tH 37 true) .nl)) (.cs dI .nl))))] [(.sl tH),tI] [(.sl tH),tI] (fun p=>qj.f K (p.1) (p.2)) (.cs (.fn 197 (.cs (.ptr 1 0) .nl)) .nl) [some (.agg (.cs (.agg (.cs (.own tH 37 true) .nl)) (.cs dI .nl)))] [(264,(.ptr 0 0))]
theorem Zv(K:Nat):VOk Tryz.prog GD (Zu K):=vk K .n Tryz.func172 Tryz.ntmps172 v0
def Qem(K:Nat):FSp TD:=sg 128 (.cs (.ptr 0 0) .nl) [(189,(.agg (.cs (.agg (.cs (.own tH 37 true) .nl)) (.cs dI .nl))))] [(.sl tH),tI] [tH,(.sl tH),tI] (fun p=>yI.f K (p.1) (p.2)) (.cs dH .nl) [some (.agg (.cs (.agg (.cs (.own tH 37 true) .nl)) (.cs dI .nl)))] []
theorem Qen(K:Nat):VOk Tryz.prog GD (Qem K):=vk K (.s .n (.s .n (.s .n (.s .n (.s (.s .n (.g (.s .n (.l ⟨[(3,dI)], [(1000000000003,dH),(1000000000004,dF)], [tI,tH,.bool], [], [], []⟩ (some ⟨[], [(1000000000003,dH),(1000000000004,dF)], [tH,.bool], [], [], []⟩) false (.s .n (.j ⟨[], [(1000000000003,dH),(1000000000004,dF)], [tH,.bool], [], [], []⟩ .n .n)))) .n .n)) .n))))) Tryz.func128 Tryz.ntmps128 (vl (Qel K) (vl (Qar K) (vl (Zv K) (vl (Qa2 K) v0))))
def QkJ(K:Nat):FSp TD:=sd 21 [(.st 0),(.st 4)] [.bool] (fun p=>Qco.f K (p.1) (p.2))
theorem QkK(K:Nat):VOk Tryz.prog GD (QkJ K):=vk K (.s .n (.s .n (.j ⟨[(4,dF)], [], [.bool], [], [], [2,3]⟩ .n .n))) Tryz.func21 Tryz.ntmps21 (vl (QcJ K) (vl (qQ K) (vl (QbS K) (vl (QcK K) v0))))
def Qa4(K:Nat):FSp TD:=sp 129 (.cs (dD 12) (.cs (dD 4) .nl)) [] [(.st 12),(.st 4)] [] (120,true) (fun p=>Y9.fs K (p.1) (p.2)) [] .nl [] []
theorem yL(K:Nat):VOk Tryz.prog GD (Qa4 K):=vkP K .n Tryz.func129 Tryz.ntmps129 (vl (QkK K) (vl (yl K) v0)) rfl
def Qjc(K:Nat):FSp TD:=sd 198 [tI,tI,tI] [.bool] (fun p=>qM.f K (p.1) (p.2.1) (p.2.2))
theorem XF(K:Nat):VOk Tryz.prog GD (Qjc K):=vk K .n Tryz.func198 Tryz.ntmps198 v0
def Qoe(K:Nat):FSp TD:=sd 173 [(.sl (.st 3))] [.bool] (fun p=>ZJ.f K (p))
theorem Qeo(K:Nat):VOk Tryz.prog GD (Qoe K):=vk K (.s .n (.s .n (.s .n (.s (.s .n (.l ⟨[(3,dI),(12,dI)], [], [tI,tI], [], [], []⟩ (some ⟨[], [], [], [], [], []⟩) true (.s .n (.s .n (.j ⟨[(3,dI)], [], [tI], [], [], []⟩ (.s .n (.s (.j ⟨[(26,dF)], [], [.bool], [], [], []⟩ .n .n) .n)) .n))))) .n)))) Tryz.func173 Tryz.ntmps173 (vl (XF K) v0)
def Qof(K:Nat):FSp TD:=sd 174 [(.sl (.st 3))] [(.st 15)] (fun p=>QaO.f K (p))
theorem Qh2(K:Nat):VOk Tryz.prog GD (Qof K):=vk K .n Tryz.func174 Tryz.ntmps174 (vl (Qeo K) (vl (Jl K) v0))
def QkL(K:Nat):FSp TD:=sd 179 [(.st 16),(.st 4),tI] [(.st 16),.bool] (fun p=>Qcp.f K (p.1) (p.2.1) (p.2.2))
theorem QkM(K:Nat):VOk Tryz.prog GD (QkL K):=vk K (.s .n (.s (.j ⟨[(25,dF)], [], [.bool], [], [], []⟩ .n .n) (.s (.r (ob [2,12,30,40,26,56,66,76,82,96]) [] [4]) .n))) Tryz.func179 Tryz.ntmps179 (vl (Qeo K) (vl (J6 K) (vl (Qh2 K) v0)))
def Qma(K:Nat):FSp TD:=sd 199 [(.st 15)] [.bool] (fun p=>QbJ.f K (p))
theorem QgL(K:Nat):VOk Tryz.prog GD (Qma K):=vk K .n Tryz.func199 Tryz.ntmps199 (vl (XF K) v0)
def Qmb(K:Nat):FSp TD:=sg 211 (.cs (.dt (.sl (.st 3))) .nl) [] [(.sl (.st 3))] [(.sl (.st 3))] (fun p=>Qdm.f K (p)) (.cs (.fn 212 (.cs (.ptr 0 0) .nl)) .nl) [] [(50,(.dt (.sl (.st 3))))]
theorem Qmc(K:Nat):VOk Tryz.prog GD (Qmb K):=vk K .n Tryz.func211 Tryz.ntmps211 v0
def Qjd(K:Nat):FSp TD:=sd 209 [(.st 15)] [tI] (fun p=>jV.f K (p))
theorem Qje(K:Nat):VOk Tryz.prog GD (Qjd K):=vk K (.s .n (.s .n (.s (.s .n (.g (.s .n (.l ⟨[(3,dI)], [], [tI], [], [], []⟩ (some ⟨[], [], [], [], [], []⟩) true .n)) .n (.j ⟨[(28,dF)], [], [.bool], [], [], []⟩ .n .n))) .n))) Tryz.func209 Tryz.ntmps209 (vl (Qmc K) v0)
def Qmd(K:Nat):FSp TD:=sd 203 [(.st 15)] [tI] (fun p=>JK.f K (p))
theorem Qa5(K:Nat):VOk Tryz.prog GD (Qmd K):=vk K .n Tryz.func203 Tryz.ntmps203 (vl (Qje K) v0)
def Qog(K:Nat):FSp TD:=sd 200 [(.st 15),tI] [(.st 4),.bool] (fun p=>Qdn.f K (p.1) (p.2))
theorem Qoh(K:Nat):VOk Tryz.prog GD (Qog K):=vk K (.s .n (.s (.j ⟨[(23,dF)], [], [.bool], [], [], []⟩ .n .n) (.s .n (.s (.j ⟨[(27,dF)], [], [.bool], [], [], []⟩ .n .n) .n)))) Tryz.func200 Tryz.ntmps200 (vl (QgL K) (vl (XF K) (vl (Qa5 K) v0)))
def Qme(K:Nat):FSp TD:=sd 201 [(.st 15),(.st 15),.bool] [(.st 15),.bool] (fun p=>X7.f K (p.1) (p.2.1) (p.2.2))
theorem Qmf(K:Nat):VOk Tryz.prog GD (Qme K):=vk K .n Tryz.func201 Tryz.ntmps201 v0
def Qqn(K:Nat):FSp TD:=sd 202 [(.st 4)] [(.st 17)] (fun p=>QcR.f K (p))
theorem Qqo(K:Nat):VOk Tryz.prog GD (Qqn K):=vk K .n Tryz.func202 Tryz.ntmps202 v0
def Qmg(K:Nat):FSp TD:=sd 210 [(.st 15)] [(.st 15)] (fun p=>Qgd.f K (p))
theorem QgM(K:Nat):VOk Tryz.prog GD (Qmg K):=vk K .n Tryz.func210 Tryz.ntmps210 v0
def QgN(K:Nat):FSp TD:=sd 204 [(.st 15),(.st 4)] [(.st 15)] (fun p=>XB.f K (p.1) (p.2))
theorem QgO(K:Nat):VOk Tryz.prog GD (QgN K):=vk K (.s .n (.s .n (.s .n (.j ⟨[], [(2,(dD 15))], [(.st 15)], [], [], [3]⟩ (.j ⟨[(11,dF)], [], [.bool], [], [], []⟩ .n .n) .n)))) Tryz.func204 Tryz.ntmps204 (vl (Qa5 K) (vl (QgM K) v0))
def Qjf(K:Nat):FSp TD:=sd 205 [(.st 15),tI] [(.st 15)] (fun p=>QaP.f K (p.1) (p.2))
theorem Qjg(K:Nat):VOk Tryz.prog GD (Qjf K):=vk K (.s .n (.s .n (.s (.s .n (.s (.s (.r (ob [2,12,22,32,42,52,66]) [] []) (.j ⟨[(29,dF)], [], [.bool], [], [], []⟩ .n .n)) .n)) .n))) Tryz.func205 Tryz.ntmps205 (vl (Qa5 K) (vl (QgM K) v0))
def Qqp(K:Nat):FSp TD:=sd 175 [(.st 15),(.st 4),tI] [(.st 15),.bool] (fun p=>QcS.f K (p.1) (p.2.1) (p.2.2))
theorem QkN(K:Nat):VOk Tryz.prog GD (Qqp K):=vk K (.s .n (.s (.j ⟨[(30,dF)], [], [.bool], [], [], []⟩ .n .n) (.s .n (.s .n (.s .n (.s (.s .n (.j ⟨[], [], [], [], [], [9]⟩ (.s (.s (.s (.s (.s .n (.s .n (.j ⟨[(49,dF)], [], [.bool], [], [], [9]⟩ .n .n))) .n) (.s (.s (.r (ob [0,10,20,30,42,56,62,76,82,96]) [] [4]) (.s (.r (ob [0,10,22,33,42,60,56,76,82,92,106,112,122,136,142]) [] [3,4,8]) .n)) .n)) (.s (.s .n (.s (.r (ob [0,10,22,33,42,60,56,76,82,92,106,112,122,136,142]) [] [3,4,8]) .n)) .n)) (.s (.j ⟨[(111,dF)], [], [.bool], [], [], []⟩ (.r (ob [2,12,22,33,40,50,62,76,82,92,103,112,122,132,142,152,162,173,182,192,202,212,222,232]) [] [4]) .n) .n)) .n)) .n)))))) Tryz.func175 Tryz.ntmps175 (vl (QgL K) (vl (XF K) (vl (Qoh K) (vl (Qmf K) (vl (Qqo K) (vl (Qa5 K) (vl (QgO K) (vl (Qjg K) v0))))))))
def Qmh(K:Nat):FSp TD:=sd 180 [(.st 16),(.st 4),tI] [(.st 16),.bool] (fun p=>X8.f K (p.1) (p.2.1) (p.2.2))
theorem QgP(K:Nat):VOk Tryz.prog GD (Qmh K):=vk K (.s .n (.s .n (.s (.r (ob [2,12,22,32,42,52,62,72,124,86,92,102,110,136,142]) [] []) .n))) Tryz.func180 Tryz.ntmps180 (vl (QkN K) (vl (J6 K) v0))
def QhD(K:Nat):FSp TD:=sd 181 [(.st 16),(.st 4),tI] [(.st 16),.bool] (fun p=>ZK.f K (p.1) (p.2.1) (p.2.2))
theorem QhE(K:Nat):VOk Tryz.prog GD (QhD K):=vk K (.s .n (.s (.j ⟨[(53,dF)], [], [.bool], [], [], []⟩ (.r (ob [2,12,22,32,42,52,63,72,82,92,102,112,122,132,142,152,162,172,182,193,202,212,222,232,242,252,262,272,282,292,302,312,322,332,342,352,363,372,382,392,402,412,422,432,442,452]) [] []) .n) .n)) Tryz.func181 Tryz.ntmps181 (vl (QgP K) v0)
def Qjh(K:Nat):FSp TD:=sd 182 [(.st 16),(.st 4),tI] [(.st 16),.bool] (fun p=>QaQ.f K (p.1) (p.2.1) (p.2.2))
theorem Qji(K:Nat):VOk Tryz.prog GD (Qjh K):=vk K (.s .n (.s (.s (.r (ob [2,12,22,32,42,52,62,72,82]) [] []) .n) .n)) Tryz.func182 Tryz.ntmps182 v0
def Qqq(K:Nat):FSp TD:=sd 82 [(.st 16),(.st 4),tI] [(.st 16),.bool] (fun p=>Qiy.f K (p.1) (p.2.1) (p.2.2))
theorem Qqr(K:Nat):VOk Tryz.prog GD (Qqq K):=vkM K (.s .n (.s (.j ⟨[(18,dF)], [], [.bool], [], [], []⟩ .n .n) (.s (.r (ob [10,20,50,60,70,6,32,42,86,92,102,116,122]) [] [3,4]) .n))) Tryz.func82 Tryz.ntmps82 (vl (qQ K) (vl (QkM K) (vl (QgP K) (vl (QhE K) (vl (Qji K) v0))))) Qgv (QuL Qwt Qgw)
def QhF(K:Nat):FSp TD:=sd 90 [(.st 15)] [tI] (fun p=>je.f K (p))
theorem QcL(K:Nat):VOk Tryz.prog GD (QhF K):=vk K .n Tryz.func90 Tryz.ntmps90 v0
def Qjj(K:Nat):FSp TD:=sg 26 (.cs (dD 16) .nl) [] [(.st 16)] [(.sl (.st 8))] (fun p=>QaR.f K (p)) (.cs (.own (.st 8) 29 true) .nl) [] []
theorem Qjk(K:Nat):VOk Tryz.prog GD (Qjj K):=vk K (.s .n (.s .n (.s (.s .n (.l ⟨[(3,(.own (.st 8) 29 true)),(9,dI)], [], [(.sl (.st 8)),tI], [], [], [1]⟩ (some ⟨[(3,(.own (.st 8) 29 true))], [], [(.sl (.st 8))], [], [], [1]⟩) false (.s .n (.s .n (.s (.s .n (.r (ob [0,10,20,32,46,52,64,76,82]) [] [5])) .n))))) .n))) Tryz.func26 Tryz.ntmps26 (vl (QcL K) v0)
def jo(K:Nat):FSp TD:=sp 67 (.cs (dD 12) (.cs (dD 7) .nl)) [] [(.st 12),(.st 7)] [tI,(.sl tI),(.sl (.st 8))] (120,true) (fun p=>Y8.fs K (p.1) (p.2)) [] (.cs (.agg (.cs dI (.cs (.own tI 3 true) (.cs (.own (.st 8) 29 true) .nl)))) .nl) [] []
theorem Qb5(K:Nat):VOk Tryz.prog GD (jo K):=vkP K (.s .n (.s .n (.s (.s .n (.l ⟨[(17,dI)], [(5,(.agg (.cs (.agg (.cs (.own tH 37 true) .nl)) (.cs dI .nl))))], [tI,(.sl tH),tI], [], [], []⟩ (some ⟨[], [(5,(.agg (.cs (.agg (.cs (.own tH 37 true) .nl)) (.cs dI .nl))))], [(.sl tH),tI], [], [], []⟩) false .n)) (.s (.q (ob [10,20,30,6,42]) [] [3]) (.s .n (.s (.s .n (.l ⟨[(35,dI)], [(8,(dD 16))], [tI,(.st 16)], [], [], [3,5]⟩ (some ⟨[], [(8,(dD 16))], [(.st 16)], [], [], [2,3,5]⟩) true .n)) (.s .n (.s (.s .n (.l ⟨[(61,dI)], [(12,(.agg (.cs dI (.cs (.own tI 3 true) (.cs (.own (.st 8) 29 true) .nl)))))], [tI,tI,(.sl tI),(.sl (.st 8))], [], [], [8]⟩ (some ⟨[], [(12,(.agg (.cs dI (.cs (.own tI 3 true) (.cs (.own (.st 8) 29 true) .nl)))))], [tI,(.sl tI),(.sl (.st 8))], [], [], [8]⟩) false .n)) .n)))))))) Tryz.func67 Tryz.ntmps67 (vl (QeS K) (vl (Qfm K) (vl (Qen K) (vl (yl K) (vl (yL K) (vl (Qqr K) (vl (Qjk K) v0))))))) rfl
def QgQ(K:Nat):FSp TD:=sp 194 (.cs (.ptr 0 0) (.cs (.ptr 1 0) .nl)) [(3,dI),(33,(.dt (.sl tH)))] [tI,(.sl tH)] [tH,tI] (259,false) (fun p=>QaS.fs K (p.1) (p.2)) [true,true] (.cs dH .nl) [some dI,none] []
theorem QgR(K:Nat):VOk Tryz.prog GD (QgQ K):=vkP K .n Tryz.func194 Tryz.ntmps194 v0 rfl
def Qat(K k:Nat):FSp TD:=sp 150 (.cs dI (.cs dI (.cs (.ptr 0 0) (.cs (.ptr 1 0) (.cs (.ptr 2 0) .nl))))) [(37,dH),(104,(.fn 194 (.cs (.ptr 3 0) (.cs (.ptr 4 0) .nl)))),(218,(.fn 150 (.cs (.ptr 0 0) (.cs (.ptr 1 0) (.cs (.ptr 2 0) .nl))))),(3,dI),(33,(.dt (.sl tH)))] [tI,tI,tH,tI,(.sl tH)] [tH,tI] (259,false) (fun p=>Yr.r K k (p.1) (p.2.1) (p.2.2.1) (p.2.2.2.1) (p.2.2.2.2)) [true,true,true,false,true] (.cs dH .nl) [none,none,none,some dI,none] []
theorem Qep(K:Nat):∀k,VOk Tryz.prog GD (Qat K k):=by
 intro k
 induction k with
 |zero=>exact QuM Tryz.func150 rfl (by kernel_rfl) (fun _=>rfl) (fun _=>rfl)
 |succ k ih=>
  exact vkP K (.s .n (.s .n (.s (.r (ob [2,20,44,16,36,52,66]) [] [3]) (.s (.s .n (.s (.s (.r (ob [2,12,22,40,36,56,66]) [] [9]) .n) .n)) (.s (.r (ob [0,12,22,32,42,52,62,72,86,96,106]) [] [9]) .n))))) Tryz.func150 Tryz.ntmps150 (vl (QbT K) (vl (QgR K) (vl (Qa2 K) (vl ih v0)))) rfl
def Qeq(K:Nat):FSp TD:=Qat K K
theorem Qer(K:Nat):VOk Tryz.prog GD (Qeq K):=Qep K K
def Zj(K:Nat):FSp TD:=sp 149 (.cs (.fn 194 (.cs (.ptr 0 0) (.cs (.ptr 1 0) .nl))) (.cs (.ptr 2 0) (.cs (.ptr 3 0) (.cs (.ptr 4 0) (.cs (.ptr 5 0) .nl))))) [(3,dI),(33,(.dt (.sl tH))),(37,dH),(3,dI),(3,dI),(37,dH)] [tI,(.sl tH),tH,tI,tI,tH] [tI,tH] (259,false) (fun p=>QaT.fs K (p.1) (p.2.1) (p.2.2.1) (p.2.2.2.1) (p.2.2.2.2.1) (p.2.2.2.2.2)) [false,true,true,true,true,true] .nl [some dI,none,none,none,none,some dH] []
theorem QgS(K:Nat):VOk Tryz.prog GD (Zj K):=vkP K .n Tryz.func149 Tryz.ntmps149 (vl (Qer K) v0) rfl
def Qa6(K:Nat):FSp TD:=sg 148 (.cs (.dt (.sl tH)) (.cs (.fn 149 (.cs (.ptr 0 0) (.cs (.ptr 1 0) (.cs (.ptr 2 0) (.cs (.ptr 3 0) .nl))))) .nl)) [(37,dH),(3,dI),(3,dI),(37,dH)] [(.sl tH),tH,tI,tI,tH] [.bool,tH] (fun p=>QaU.f K (p.1) (p.2.1) (p.2.2.1) (p.2.2.2.1) (p.2.2.2.2)) (.cs dF .nl) [none,none,none,some dH] []
theorem Qjl(K:Nat):VOk Tryz.prog GD (Qa6 K):=Qqd tbok (n:=14) Tryz.func148 rfl Tryz.ntmps148 (by kernel_rfl) (sps:= [Zj K]) (rvs:= []) (mps:= []) (ji (QgS K) Qm5) Qgv Qgw (by kernel_rfl:(fun p=>(Qa6 K).fn p)=funR (T:=TD) (cx Tryz.prog GD [Zj K] K 14 [] []) (Qa6 K) Tryz.f148 .n .n .n)
def Qjm(K:Nat):FSp TD:=sd 94 [tH,tI,tI,(.sl tH)] [tH,.bool] (fun p=>QaV.f K (p.1) (p.2.1) (p.2.2.1) (p.2.2.2))
theorem Qjn(K:Nat):VOk Tryz.prog GD (Qjm K):=vk K (.s .n (.s (.j ⟨[(22,dF)], [], [.bool], [], [], []⟩ .n .n) .n)) Tryz.func94 Tryz.ntmps94 (vl (Qjl K) v0)
def Qoi(K:Nat):FSp TD:=sd 130 [tH,tI,tI,(.sl tH),tH] [.bool] (fun p=>Qcq.f K (p.1) (p.2.1) (p.2.2.1) (p.2.2.2.1) (p.2.2.2.2))
theorem Qoj(K:Nat):VOk Tryz.prog GD (Qoi K):=vk K .n Tryz.func130 Tryz.ntmps130 (vl (Qjn K) (vl (QgK K) v0))
def QdM(K:Nat):FSp TD:=sp 131 (.cs (.ptr 0 0) (.cs (dD 4) .nl)) [(195,(.agg (.cs (.dt (.vec 12 .bool)) (.cs (.own tI 3 true) (.cs (.dt (.vec 12 (.st 15))) .nl)))))] [(.st 4),(.vec 12 .bool),(.sl tI),(.vec 12 (.st 15))] [(.vec 12 .bool),(.sl tI),(.vec 12 (.st 15))] (120,true) (fun p=>JP.fs K (p.1) (p.2.1) (p.2.2.1) (p.2.2.2)) [false] .nl [some (.agg (.cs (.dt (.vec 12 .bool)) (.cs (.own tI 3 true) (.cs (.dt (.vec 12 (.st 15))) .nl))))] []
theorem QdN(K:Nat):VOk Tryz.prog GD (QdM K):=vkP K (.s .n (.j ⟨[], [], [], [], [], []⟩ (.q (ob [2,12,22,32,42,52,62,72,83,92,102,116,122]) [] []) (.s (.r (ob [0,10,20,32,42,60,70,56,82,96]) [] [3]) (.r (ob [0,12,22,32,42,52,62,74,86,92,102,116]) [] [])))) Tryz.func131 Tryz.ntmps131 (vl (yl K) (vl (Qeo K) (vl (Qh2 K) v0))) rfl
def Qes(K:Nat):FSp TD:=sp 132 (.cs (.ptr 0 0) (.cs (dD 4) (.cs dI .nl))) [(195,(.agg (.cs (.dt (.vec 12 .bool)) (.cs (.own tI 3 true) (.cs (.dt (.vec 12 (.st 15))) .nl)))))] [(.st 4),tI,(.vec 12 .bool),(.sl tI),(.vec 12 (.st 15))] [(.vec 12 .bool),(.sl tI),(.vec 12 (.st 15))] (120,true) (fun p=>ql.fs K (p.1) (p.2.1) (p.2.2.1) (p.2.2.2.1) (p.2.2.2.2)) [false] .nl [some (.agg (.cs (.dt (.vec 12 .bool)) (.cs (.own tI 3 true) (.cs (.dt (.vec 12 (.st 15))) .nl))))] []
theorem Qet(K:Nat):VOk Tryz.prog GD (Qes K):=vkP K (.s .n (.s (.r (ob [2,12,22,32,42,52,62,74,86]) [] []) (.s .n (.s .n (.j ⟨[], [], [], [], [], [6]⟩ (.q (ob [2,13,22,32,42,53,62,72,82,92,102,112,122,132,142,152,162,172]) [] []) (.r (ob [2,12,22,32,42,52,62,76]) [] [])))))) Tryz.func132 Tryz.ntmps132 (vl (QkN K) (vl (yl K) v0)) rfl
def jI(K:Nat):FSp TD:=sp 68 (.cs (dD 12) (.cs (dD 7) .nl)) [] [(.st 12),(.st 7)] [tI,(.sl tI),(.sl (.st 8))] (120,true) (fun p=>YT.fs K (p.1) (p.2)) [] (.cs (.agg (.cs dI (.cs (.own tI 3 true) (.cs (.own (.st 8) 29 true) .nl)))) .nl) [] []
theorem QcF(K:Nat):VOk Tryz.prog GD (jI K):=vkP K (.s .n (.s .n (.s (.s .n (.l ⟨[(15,dI)], [(5,(.agg (.cs (.dt (.vec 12 .bool)) (.cs (.own tI 3 true) (.cs (.dt (.vec 12 (.st 15))) .nl)))))], [tI,(.vec 12 .bool),(.sl tI),(.vec 12 (.st 15))], [], [], []⟩ (some ⟨[], [(5,(.agg (.cs (.dt (.vec 12 .bool)) (.cs (.own tI 3 true) (.cs (.dt (.vec 12 (.st 15))) .nl)))))], [(.vec 12 .bool),(.sl tI),(.vec 12 (.st 15))], [], [], [2,3]⟩) true (.s .n (.s .n (.j ⟨[], [(5,(.agg (.cs (.dt (.vec 12 .bool)) (.cs (.own tI 3 true) (.cs (.dt (.vec 12 (.st 15))) .nl)))))], [(.vec 12 .bool),(.sl tI),(.vec 12 (.st 15))], [], [], []⟩ (.s .n (.s .n (.s (.q (ob [2,20,30,40,50,60,70,80,90,100,110,16,126]) [] [3,7]) (.s .n (.j ⟨[], [(5,(.agg (.cs (.dt (.vec 12 .bool)) (.cs (.own tI 3 true) (.cs (.dt (.vec 12 (.st 15))) .nl)))))], [(.vec 12 .bool),(.sl tI),(.vec 12 (.st 15))], [], [], [7]⟩ .n .n))))) .n))))) (.s .n (.s (.s .n (.l ⟨[(58,dI)], [(9,(.agg (.cs dI (.cs (.own tI 3 true) (.cs (.own (.st 8) 29 true) .nl)))))], [tI,tI,(.sl tI),(.sl (.st 8))], [56], [], []⟩ (some ⟨[], [(9,(.agg (.cs dI (.cs (.own tI 3 true) (.cs (.own (.st 8) 29 true) .nl)))))], [tI,(.sl tI),(.sl (.st 8))], [], [], [5,56]⟩) false (.s .n (.s .n (.s (.s .n (.s .n (.r (ob [0,10,20,30,40,50,60,72,82,92,102,116,122,134,146,152,166]) [] [5,9]))) .n))))) .n))))) Tryz.func68 Tryz.ntmps68 (vl (QeS K) (vl (Qoj K) (vl (yl K) (vl (yL K) (vl (QdN K) (vl (Qet K) (vl (QcL K) v0))))))) rfl
def yM(K:Nat):FSp TD:=sg 17 (.cs (dD 0) (.cs dI (.cs (dD 2) (.cs dB .nl)))) [] [(.st 0),tI,(.st 2),tB] [tI,(.sl tI),(.sl (.st 8))] (fun p=>qN.f K (p.1) (p.2.1) (p.2.2.1) (p.2.2.2)) (.cs (.agg (.cs dI (.cs (.own tI 3 true) (.cs (.own (.st 8) 29 true) .nl)))) .nl) [] []
theorem QdO(K:Nat):VOk Tryz.prog GD (yM K):=Qqd tbok (n:=67) Tryz.func17 rfl Tryz.ntmps17 (by kernel_rfl) (sps:= [Qd8 K,QbY K,Qb3 K,Qb4 K,jo K,jI K]) (rvs:= []) (mps:= []) (ji (Qcw K) (ji (yl K) (ji (QeR K) (ji (QkH K) (ji (Qb5 K) (ji (QcF K) Qm5)))))) Qgv Qgw (by kernel_rfl:(fun p=>(yM K).fn p)=funR (T:=TD) (cx Tryz.prog GD [Qd8 K,QbY K,Qb3 K,Qb4 K,jo K,jI K] K 67 [] []) (yM K) Tryz.f17 .n (.j ⟨[], [], [], [], [], []⟩ .n (.s .n (.s .n (.s .n (.s .n (.j ⟨[], [], [], [], [], [6]⟩ .n .n)))))) .n)
def Qbm(K:Nat):FSp TD:=sd 40 [(.sl tI),(.sl tI)] [.bool] (fun p=>Xv.f K (p.1) (p.2))
theorem Qbn(K:Nat):VOk Tryz.prog GD (Qbm K):=vk K (.s .n (.s .n (.s (.s .n (.l ⟨[(13,dI)], [], [tI], [], [], []⟩ (some ⟨[], [], [], [], [], []⟩) true (.s .n (.s .n (.s (.s .n (.s (.r (ob [2,12,22,32,42,52,62,72,82]) [] []) .n)) .n))))) .n))) Tryz.func40 Tryz.ntmps40 v0
def yR(K:Nat):FSp TD:=sd 41 [(.sl (.st 8)),(.sl (.st 8))] [.bool] (fun p=>qE.f K (p.1) (p.2))
theorem yS(K:Nat):VOk Tryz.prog GD (yR K):=vk K (.s .n (.s .n (.s (.s .n (.l ⟨[(13,dI)], [], [tI], [], [], []⟩ (some ⟨[], [], [], [], [], []⟩) true (.s .n (.s .n (.s (.s .n (.s (.r (ob [2,12,22,32,42,52,62,72,82]) [] []) .n)) .n))))) .n))) Tryz.func41 Tryz.ntmps41 v0
def Qb6(K:Nat):FSp TD:=sd 11 [(.st 9),(.st 9)] [.bool] (fun p=>QhR.f K (p.1) (p.2))
theorem QkO(K:Nat):VOk Tryz.prog GD (Qb6 K):=vk K .n Tryz.func11 Tryz.ntmps11 (vl (Qbn K) (vl (yS K) v0))
def Qbo(K:Nat):FSp TD:=sd 44 [(.sl tI),tI] [tI] (fun p=>Xw.f K (p.1) (p.2))
theorem Qbp(K:Nat):VOk Tryz.prog GD (Qbo K):=vk K (.s .n (.s (.s .n (.l ⟨[(8,dI)], [], [tI], [], [], []⟩ (some ⟨[], [], [], [], [], []⟩) true .n)) .n)) Tryz.func44 Tryz.ntmps44 v0
def Qb7(K:Nat):FSp TD:=sd 13 [(.st 9),tI] [.bool] (fun p=>Qd5.f K (p.1) (p.2))
theorem QkP(K:Nat):VOk Tryz.prog GD (Qb7 K):=vk K (.s .n (.s .n (.j ⟨[(4,dF)], [], [.bool], [], [], [2]⟩ .n .n))) Tryz.func13 Tryz.ntmps13 (vl (Qbp K) v0)
def qR(K:Nat):FSp TD:=sd 10 [] [.bool] (fun p=>jf.f K)
theorem Qa7(K:Nat):VOk Tryz.prog GD (qR K):=QuT tbok (n:=127) Tryz.func10 rfl Tryz.ntmps10 (by kernel_rfl) (sps:= [jk K,Z5 K,qy K,Z8 K,Qa3 K,QbX K,yM K,Qb6 K,Qb7 K]) (rvs:= []) (mps:= []) (ji (QbR K) (ji (QcJ K) (ji (Qas K) (ji (Qht K) (ji (Qi6 K) (ji (QeQ K) (ji (QdO K) (ji (QkO K) (ji (QkP K) Qm5))))))))) Qgv Qgw (by kernel_rfl:(fun p=>(qR K).fn p)=funC (T:=TD) (cx Tryz.prog GD [jk K,Z5 K,qy K,Z8 K,Qa3 K,QbX K,yM K,Qb6 K,Qb7 K] K 127 [] []) (qR K) Tryz.f10 [.one .n,.one .n,.one .n,.one (.r [(0,0,false),(1,1,false),(2,1,false),(3,1,false),(4,1,false),(5,3,false),(6,1,false),(7,1,false),(8,3,false)] [] []),.beg,.one .n,.fin [1,2,3],.beg,.one .n,.one .n,.one (.r [(0,0,false),(1,0,false),(2,1,false),(5,0,false),(6,0,false),(7,0,false),(10,2,false),(11,2,false),(3,3,false),(4,3,false),(8,3,false),(9,3,false),(12,3,false),(13,3,false)] [] [1,3,6]),.fin [1,2,3,8,9]] (.s (.r [(0,1,false),(1,1,false),(2,1,false),(3,1,false),(4,1,false),(5,1,false),(6,1,false),(7,1,false),(8,1,false),(9,3,false)] [] []) (.s .n (.s .n (.s (.r [(0,0,false),(1,0,false),(2,1,false),(5,2,false),(3,3,false),(4,3,false),(6,3,false)] [] [1,10]) (.s (.r [(0,0,false),(1,0,false),(2,1,false),(5,2,false),(3,3,false),(4,3,false),(6,3,false)] [] [1,3]) (.j ⟨[(0,(.dt .bool))], [], [.bool], [], [], [1,2,3,8,9,10,11,13,14]⟩ .n .n)))))))
def Qa8(K:Nat):FSp TD:=sd 14 [(.st 0),tB] [.bool] (fun p=>JV.f K (p.1) (p.2))
theorem Qa9(K:Nat):VOk Tryz.prog GD (Qa8 K):=vk K .n Tryz.func14 Tryz.ntmps14 v0
def XG(K:Nat):FSp TD:=sd 6 [(.st 0),tI,(.st 2),tB,(.int .u8)] [.bool] (fun p=>JO.f K (p.1) (p.2.1) (p.2.2.1) (p.2.2.2.1) (p.2.2.2.2))
theorem XH(K:Nat):VOk Tryz.prog GD (XG K):=vk K (.s .n (.s .n (.s .n (.s .n (.s .n (.s (.j ⟨[(42,dF)], [], [.bool], [], [], []⟩ .n .n) (.s (.r (ob [0,10,22,40,50,60,36,72,86,92,106]) [] [12]) (.s (.r (ob [0,10,20,32,64,46,56,76]) [] [5,7]) .n)))))))) Tryz.func6 Tryz.ntmps6 (vl (Qa7 K) (vl (Qa9 K) (vl (QdO K) (vl (QeR K) (vl (QeQ K) v0)))))
end Go.Proofs.YtomndohdnfebgaaGreatDoor
