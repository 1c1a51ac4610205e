/-
 Proved: calls of the cut's functions come to what their plain functions compute.
-/
import Derived.Test.YtomndohdnfebgaaGreatDoorProg
import Derived.Test.YtomndohdnfebgaaGreatDoorTgDef
import Derived.Test.YtomndohdnfebgaaGreatDoorSxTh
import Derived.Test.YtomndohdnfebgaaGreatDoorSxRv
import Derived.Test.YtomndohdnfebgaaGreatDoorTgOW0
set_option linter.unusedVariables false
set_option maxRecDepth 100000
namespace Go.Proofs.YtomndohdnfebgaaGreatDoor
open Go Go.Sep
@[reducible] def tyD : Nat → Type
 |0=>QC
 |1=>QT
 |2=>Qu
 |3=>Qo
 |4=>Qm
 |5=>QaK
 |6=>QD
 |7=>QJ
 |8=>Qv
 |9=>Jp
 |10=>Qk
 |11=>XT
 |12=>YS
 |13=>Jd
 |14=>QeC
 |15=>QF
 |16=>Yi
 |17=>QaL
 |_=>Unit
@[reducible] def fsD : Nat → List Ty
 |0=> [(.sl (.arr .u8 32)),(.sl (.arr .u8 32)),(.int .i64)]
 |1=> [(.int .i64),(.arr .u8 32)]
 |2=> [(.int .i64),(.arr .u8 32),(.sl (.st 1))]
 |3=> [(.int .i64),(.int .i64)]
 |4=> [(.int .i64),(.int .i64),(.int .i64),(.int .i64),(.int .i64),.bool,.bool,(.int .i64),(.int .i64),(.int .i64),(.arr .u8 32),(.sl (.st 3)),(.sl (.int .u8)),(.arr .u8 32),.bool,(.arr .u8 32)]
 |5=> [(.int .i64),(.int .i64),(.int .i64),(.int .i64),(.int .i64),.bool,.bool,.bool,(.int .i64),(.int .i64),(.int .i64)]
 |6=> [(.int .i64),(.st 4),(.sl (.arr .u8 32))]
 |7=> [.bool,(.st 2),(.sl (.st 6))]
 |8=> [(.int .i64),(.int .i64)]
 |9=> [(.int .i64),(.sl (.int .i64)),(.sl (.st 8))]
 |10=> [(.sl (.int .u8)),(.int .i64)]
 |11=> [(.arr .u8 32)]
 |12=> [(.st 0),(.int .i64)]
 |13=> [(.sl (.arr .u8 32))]
 |14=> [(.st 13),(.int .i64)]
 |15=> [(.sl (.st 3)),(.int .i64),(.int .i64),(.int .i64),.bool,.bool,(.int .i64),(.int .i64),(.int .i64),(.int .i64)]
 |16=> [(.arr .i64 4),(.sl (.st 15))]
 |17=> [(.int .i64),(.int .i64),(.int .i64),.bool,(.int .i64)]
 |_=> []
def TD:Tb where
 ty:=tyD
 fs:=fsD
 get:=fun n=>match n with
  |0=>fun x=>(x.fParts,x.fWits,x.fNeed)
  |1=>fun x=>(x.fWit,x.fTag)
  |2=>fun x=>(x.fSize,x.fRoot,x.fSigs)
  |3=>fun x=>(x.fPart,x.fKind)
  |4=>fun x=>(x.fKind,x.fSaga,x.fSeq,x.fStep,x.fTry,x.fBack,x.fGood,x.fEnd,x.fPart,x.fEpoch,x.fTag,x.fSteps,x.fData,x.fSalt,x.fGone,x.fCom)
  |5=>fun x=>(x.fKind,x.fSaga,x.fSeq,x.fStep,x.fTry,x.fBack,x.fGood,x.fGone,x.fEnd,x.fPart,x.fEpoch)
  |6=>fun x=>(x.fAt,x.fRec,x.fPath)
  |7=>fun x=>(x.fWhole,x.fPoint,x.fItems)
  |8=>fun x=>(x.fPhase,x.fMissing)
  |9=>fun x=>(x.fCode,x.fSagas,x.fLines)
  |10=>fun x=>(x.fB,x.fBad)
  |11=>fun x=>x.fTag
  |12=>fun x=>(x.fK,x.fLimit)
  |13=>fun x=>x.fL
  |14=>fun x=>(x.fTrees,x.fN)
  |15=>fun x=>(x.fSteps,x.fPhase,x.fAt,x.fTries,x.fWait,x.fBack,x.fDone,x.fUndone,x.fSome,x.fSeq)
  |16=>fun x=>(x.fEpochs,x.fSagas)
  |17=>fun x=>(x.fKind,x.fStep,x.fTry,x.fBack,x.fEnd)
  |_+18=>fun x=>x
 of:=fun n=>match n with
  |0=>fun y=>⟨y.1,y.2.1,y.2.2⟩
  |1=>fun y=>⟨y.1,y.2⟩
  |2=>fun y=>⟨y.1,y.2.1,y.2.2⟩
  |3=>fun y=>⟨y.1,y.2⟩
  |4=>fun y=>⟨y.1,y.2.1,y.2.2.1,y.2.2.2.1,y.2.2.2.2.1,y.2.2.2.2.2.1,y.2.2.2.2.2.2.1,y.2.2.2.2.2.2.2.1,y.2.2.2.2.2.2.2.2.1,y.2.2.2.2.2.2.2.2.2.1,y.2.2.2.2.2.2.2.2.2.2.1,y.2.2.2.2.2.2.2.2.2.2.2.1,y.2.2.2.2.2.2.2.2.2.2.2.2.1,y.2.2.2.2.2.2.2.2.2.2.2.2.2.1,y.2.2.2.2.2.2.2.2.2.2.2.2.2.2.1,y.2.2.2.2.2.2.2.2.2.2.2.2.2.2.2⟩
  |5=>fun y=>⟨y.1,y.2.1,y.2.2.1,y.2.2.2.1,y.2.2.2.2.1,y.2.2.2.2.2.1,y.2.2.2.2.2.2.1,y.2.2.2.2.2.2.2.1,y.2.2.2.2.2.2.2.2.1,y.2.2.2.2.2.2.2.2.2.1,y.2.2.2.2.2.2.2.2.2.2⟩
  |6=>fun y=>⟨y.1,y.2.1,y.2.2⟩
  |7=>fun y=>⟨y.1,y.2.1,y.2.2⟩
  |8=>fun y=>⟨y.1,y.2⟩
  |9=>fun y=>⟨y.1,y.2.1,y.2.2⟩
  |10=>fun y=>⟨y.1,y.2⟩
  |11=>fun y=>⟨y⟩
  |12=>fun y=>⟨y.1,y.2⟩
  |13=>fun y=>⟨y⟩
  |14=>fun y=>⟨y.1,y.2⟩
  |15=>fun y=>⟨y.1,y.2.1,y.2.2.1,y.2.2.2.1,y.2.2.2.2.1,y.2.2.2.2.2.1,y.2.2.2.2.2.2.1,y.2.2.2.2.2.2.2.1,y.2.2.2.2.2.2.2.2.1,y.2.2.2.2.2.2.2.2.2⟩
  |16=>fun y=>⟨y.1,y.2⟩
  |17=>fun y=>⟨y.1,y.2.1,y.2.2.1,y.2.2.2.1,y.2.2.2.2⟩
  |_+18=>fun x=>x
 kd:=fun n=>match n with
  |0=>QaJ
  |1=>JQ
  |2=>ZW
  |3=>JR
  |4=>QeB
  |5=>Qg2
  |6=>Qc8
  |7=>QfS
  |8=>Qc9
  |9=>QeU
  |10=>QeV
  |11=>Qg3
  |12=>Qda
  |13=>JC
  |14=>QfT
  |15=>qG
  |16=>Qif
  |17=>Qg4
  |_+18=>QsT
 tn:=fun t=>lookA [(25,9),(26,9),(28,8),(29,8),(34,0),(35,0),(39,2),(40,2),(45,7),(46,7),(51,4),(52,4),(54,6),(55,6),(69,16),(70,16),(89,3),(90,3),(106,1),(107,1),(124,12),(125,12),(139,11),(140,11),(151,15),(152,15),(161,5),(162,5),(175,10),(176,10),(186,13),(187,13),(188,14),(189,14),(269,17),(270,17)] t
 te:=fun t=>lookA [] t
theorem tbok:TbOk TD:=⟨fun n _ _ _=>match n with
 |0=>Iff.rfl
 |1=>Iff.rfl
 |2=>Iff.rfl
 |3=>Iff.rfl
 |4=>Iff.rfl
 |5=>Iff.rfl
 |6=>Iff.rfl
 |7=>Iff.rfl
 |8=>Iff.rfl
 |9=>Iff.rfl
 |10=>Iff.rfl
 |11=>Iff.rfl
 |12=>Iff.rfl
 |13=>Iff.rfl
 |14=>Iff.rfl
 |15=>Iff.rfl
 |16=>Iff.rfl
 |17=>Iff.rfl
 |_+18=>Iff.rfl,fun n _=>match n with
 |0=>rfl
 |1=>rfl
 |2=>rfl
 |3=>rfl
 |4=>rfl
 |5=>rfl
 |6=>rfl
 |7=>rfl
 |8=>rfl
 |9=>rfl
 |10=>rfl
 |11=>rfl
 |12=>rfl
 |13=>rfl
 |14=>rfl
 |15=>rfl
 |16=>rfl
 |17=>rfl
 |_+18=>rfl⟩
def GD:List (Nat×Dy TD):= [(0,⟨(.arr .u32 8),Xz⟩),(1,⟨(.arr .u32 64),gl_K⟩)]
@[reducible] def ob : List Nat → List (Nat × Nat × Bool)
 | []=> []
 |n::l=>(n/10,n%10/2,Nat.beq (n%2) 1)::ob l
@[reducible] def tI : Ty := .int .i64
@[reducible] def tH : Ty := .arr .u8 32
@[reducible] def tB : Ty := .sl (.int .u8)
@[reducible] def dI : Pt := .dt (.int .i64)
@[reducible] def dF : Pt := .dt .bool
@[reducible] def dH : Pt := .dt (.arr .u8 32)
@[reducible] def dB : Pt := .dt (.sl (.int .u8))
@[reducible] def dD (n : Nat) : Pt := .dt (.st n)
@[reducible] def sd (fid : Nat) (pt rt : List Ty) (fn : TU TD.ty pt → Option (TU TD.ty rt)) : FSp TD := { fid := fid, args := dts pt, blks := [], pt := pt, rt := rt, fn := fn, res := dts rt, out := [], new := [] }
@[reducible] def sg (fid : Nat) (args : Pt) (blks : List (TypeId × Pt)) (pt rt : List Ty) (fn : TU TD.ty pt → Option (TU TD.ty rt)) (res : Pt) (out : List (Option Pt)) (new : List (TypeId × Pt)) : FSp TD := { fid := fid, args := args, blks := blks, pt := pt, rt := rt, fn := fn, res := res, out := out, new := new }
@[reducible] def sp (fid : Nat) (args : Pt) (blks : List (TypeId × Pt)) (pt rt : List Ty) (pv : TypeId × Bool) (fs : TU TD.ty pt → Option (Int ⊕ TU TD.ty rt)) (pk : List Bool) (res : Pt) (out : List (Option Pt)) (new : List (TypeId × Pt)) : FSp TD := { fid := fid, args := args, blks := blks, pt := pt, rt := rt, fn := fun p => sm (fs p) (fun _ => none) some, pv := some pv, fs := fs, pk := pk, res := res, out := out, new := new }
theorem v0:∀s∈([]:List (FSp TD)),VOk Tryz.prog GD s:=QmP
theorem vl{s:FSp TD}{l:List (FSp TD)}(h:VOk Tryz.prog GD s)(h':∀x∈l,VOk Tryz.prog GD x):∀x∈s::l,VOk Tryz.prog GD x:=ji h h'
section
variable {n:Nat}{s:FSp TD}{f:Func}{c:Code}{sps:List (FSp TD)}{rvs:List (RvSp TD)}{mps:List (FuncId×(SV TD→Option (SV TD)))}
theorem vk(K:Nat)(h:Hn)(hf:Tryz.prog.funcs[s.fid]?=some f)(hn:f.ntmps=n)(hsp:∀x∈sps,VOk Tryz.prog GD x)(hb:f.body=some c:=by exact rfl)
  (hok:(Nat.ble (lenP s.args) n&&(lstP s.args&&(lstP s.res&&(!(f.name== "runtime.NumGoroutine")&&s.pv.isNone))))=true:=by kernel_rfl) (hfn:(fun p=>s.fn p)=funS (T:=TD) (cx Tryz.prog GD sps K n [] []) s f h:=by kernel_rfl):VOk Tryz.prog GD s:=Qth tbok hf hb hn hok hsp Qgn Qgo hfn
theorem vkM(K:Nat)(h:Hn)(hf:Tryz.prog.funcs[s.fid]?=some f)(hn:f.ntmps=n)(hsp:∀x∈sps,VOk Tryz.prog GD x)(hrv:∀x∈rvs,RvOk Tryz.prog x)(hmp:∀f g,lookA mps f=some g→MpOk Tryz.prog f g)(hb:f.body=some c:=by exact rfl)
  (hok:(Nat.ble (lenP s.args) n&&(lstP s.args&&(lstP s.res&&(!(f.name== "runtime.NumGoroutine")&&s.pv.isNone))))=true:=by kernel_rfl) (hfn:(fun p=>s.fn p)=funS (T:=TD) (cx Tryz.prog GD sps K n rvs mps) s f h:=by kernel_rfl):VOk Tryz.prog GD s:=Qth tbok hf hb hn hok hsp hrv hmp hfn
theorem vkP(K:Nat)(h:Hn)(hf:Tryz.prog.funcs[s.fid]?=some f)(hn:f.ntmps=n)(hsp:∀x∈sps,VOk Tryz.prog GD x)(hgn:(fun p=>s.fn p)=fun p=>sm (s.fs p) (fun _=>none) some)(hb:f.body=some c:=by exact rfl)
  (hok:(Nat.ble (lenP s.args) n&&(lstP s.args&&(lstP s.res&& !(f.name== "runtime.NumGoroutine"))))=true:=by kernel_rfl) (hfn:(fun p=>s.fs p)=funP (T:=TD) (cx Tryz.prog GD sps K n [] []) s f h:=by kernel_rfl):VOk Tryz.prog GD s:=Qum tbok hf hb hn hok hsp Qgn Qgo hgn hfn
end
def Qtl:SV TD→Option (SV TD):=fun l=>match l with| .nl=>some (.mp [.int .i64 1,.int .i64 2,.int .i64 3,.int .i64 4,.int .i64 5,.int .i64 6] (.cs (.agg (.cs (.fn 179 .nl) .nl)) (.cs (.agg (.cs (.fn 180 .nl) .nl)) (.cs (.agg (.cs (.fn 181 .nl) .nl)) (.cs (.agg (.cs (.fn 180 .nl) .nl)) (.cs (.agg (.cs (.fn 180 .nl) .nl)) (.cs (.agg (.cs (.fn 182 .nl) .nl)) .nl)))))))|_=>none
theorem Qv1:MpOk Tryz.prog 141 Qtl:=by
 refine⟨fun ρ g w0 D l vs sv hA hf hS=> ?_,by kernel_rfl⟩
 unfold Qtl at hf
 split at hf
 ·obtain rfl:vs= []:=hA
  cases hf
  have hS:=Stp.refl hS
  refine qc (n:=9) Tryz.func141 rfl Tryz.ntmps141 rfl (fun a hE=> ?_)
  have hE:Env a 9 [] []:=hE
  refine wpIn_seq (Qbt ?_)
  refine segN 1 (j:=1) [(0,.map none)] hE (by kernel_rfl) rfl (fun a hE=> ?_)
  refine at_end rfl ?_
  refine wpIn_seq (Qbt ?_)
  refine JO (QnB rfl rfl rfl rfl hE rfl hS (fun a b w hE hS=> ?_)) rfl
  refine JO (QaC hE (QaF ([.func (.func 179) #[] #[]]) rfl rfl rfl rfl hE rfl rfl (by kernel_rfl) (fun a hE=> ?_))) rfl
  refine JO (Qaq (kt:=3) (et:=204) (kk:= .i64) rfl rfl rfl rfl hE hS rfl rfl rfl (by kernel_rfl) (by kernel_rfl) (by kernel_rfl) (fun a w hE hS=> ?_)) rfl
  refine JO (QaC hE (QaF ([.func (.func 180) #[] #[]]) rfl rfl rfl rfl hE rfl rfl (by kernel_rfl) (fun a hE=> ?_))) rfl
  refine JO (Qaq (kt:=3) (et:=204) (kk:= .i64) rfl rfl rfl rfl hE hS rfl rfl rfl (by kernel_rfl) (by kernel_rfl) (by kernel_rfl) (fun a w hE hS=> ?_)) rfl
  refine JO (QaC hE (QaF ([.func (.func 181) #[] #[]]) rfl rfl rfl rfl hE rfl rfl (by kernel_rfl) (fun a hE=> ?_))) rfl
  refine JO (Qaq (kt:=3) (et:=204) (kk:= .i64) rfl rfl rfl rfl hE hS rfl rfl rfl (by kernel_rfl) (by kernel_rfl) (by kernel_rfl) (fun a w hE hS=> ?_)) rfl
  refine JO (QaC hE (QaF ([.func (.func 180) #[] #[]]) rfl rfl rfl rfl hE rfl rfl (by kernel_rfl) (fun a hE=> ?_))) rfl
  refine JO (Qaq (kt:=3) (et:=204) (kk:= .i64) rfl rfl rfl rfl hE hS rfl rfl rfl (by kernel_rfl) (by kernel_rfl) (by kernel_rfl) (fun a w hE hS=> ?_)) rfl
  refine JO (QaC hE (QaF ([.func (.func 180) #[] #[]]) rfl rfl rfl rfl hE rfl rfl (by kernel_rfl) (fun a hE=> ?_))) rfl
  refine JO (Qaq (kt:=3) (et:=204) (kk:= .i64) rfl rfl rfl rfl hE hS rfl rfl rfl (by kernel_rfl) (by kernel_rfl) (by kernel_rfl) (fun a w hE hS=> ?_)) rfl
  refine JO (QaC hE (QaF ([.func (.func 182) #[] #[]]) rfl rfl rfl rfl hE rfl rfl (by kernel_rfl) (fun a hE=> ?_))) rfl
  refine JO (Qaq (kt:=3) (et:=204) (kk:= .i64) rfl rfl rfl rfl hE hS rfl rfl rfl (by kernel_rfl) (by kernel_rfl) (by kernel_rfl) (fun a w hE hS=> ?_)) rfl
  refine segN 1 (j:=14) [(8,.map (some b))] hE (by kernel_rfl) rfl (fun a hE=> ?_)
  refine segN 1 (j:=15) [(0,.map (some b))] hE (by kernel_rfl) rfl (fun a hE=> ?_)
  refine at_end rfl ?_
  refine wpIn_ret ?_
  refine Qk4 ([.map (some b)]) hE (by rw[show Tryz.f141.results.toList= [.tmp 0]from rfl];exact⟨_,_,rfl,rfl,rfl⟩) ?_
  refine⟨_,rfl,_,YL rfl ⟨b,_,_,rfl,by unfold Snap.ins;rw[if_pos rfl],rfl,⟨_,_,rfl,⟨_,⟨_,_,rfl,⟨[],rfl,rfl⟩,rfl⟩,rfl⟩,⟨_,_,rfl,⟨_,⟨_,_,rfl,⟨[],rfl,rfl⟩,rfl⟩,rfl⟩,⟨_,_,rfl,⟨_,⟨_,_,rfl,⟨[],rfl,rfl⟩,rfl⟩,rfl⟩,⟨_,_,rfl,⟨_,⟨_,_,rfl,⟨[],rfl,rfl⟩,rfl⟩,rfl⟩,⟨_,_,rfl,⟨_,⟨_,_,rfl,⟨[],rfl,rfl⟩,rfl⟩,rfl⟩,⟨_,_,rfl,⟨_,⟨_,_,rfl,⟨[],rfl,rfl⟩,rfl⟩,rfl⟩,rfl⟩⟩⟩⟩⟩⟩⟩,(Stp.freezeM hS).2⟩
 ·cases hf
def ZZ(K:Nat):FSp TD:=sg 133 (.cs (.dt (.sl tB)) .nl) [] [(.sl tB)] [tB] (fun p=>QM.f K (p)) (.cs (.own (.int .u8) 5 true) .nl) [] []
theorem J5(K:Nat):VOk Tryz.prog GD (ZZ K):=QbN (T:=TD) (ts:= [(.sl (.sl (.int .u8)))]) (rt:=(.int .u8)) (e:=5) (f:=true) (fn:=fun p=>QM.f K (p)) (fun g w0 D p vals r hG hv hS hr=>by
 obtain⟨v0,h0,rfl⟩:=hv
 obtain⟨A0,c0,e0,f0⟩:=h0
 cases e0
 exact CallsIn.mono (QM.calls hr hS f0) fun e w' ⟨u,h1,D1,A,c,q,h2,h3,h4⟩=>⟨u,h1,D1,A,c,q,h2,h4,h3⟩) (by kernel_rfl)
def Qas(K:Nat):FSp TD:=sg 111 (.cs dB .nl) [] [tB] [tB] (fun p=>Q7.f K (p)) (.cs (.own (.int .u8) 5 true) .nl) [] []
theorem Js(K:Nat):VOk Tryz.prog GD (Qas K):=QbN (T:=TD) (ts:= [(.sl (.int .u8))]) (rt:=(.int .u8)) (e:=5) (f:=true) (fn:=fun p=>Q7.f K (p)) (fun g w0 D p vals r hG hv hS hr=>by
 obtain⟨v0,h0,rfl⟩:=hv
 obtain⟨A0,c0,e0,f0⟩:=h0
 cases e0
 exact CallsIn.mono (Q7.calls hr hS f0) fun e w' ⟨u,h1,D1,A,c,q,h2,h3,h4⟩=>⟨u,h1,D1,A,c,q,h2,h4,h3⟩) (by kernel_rfl)
def Xp(K:Nat):FSp TD:=sg 157 (.cs (.dt (.sl (.st 1))) .nl) [] [(.sl (.st 1))] [(.sl (.st 1))] (fun p=>Ye.f K (p)) (.cs (.own (.st 1) 107 true) .nl) [] []
theorem qE(K:Nat):VOk Tryz.prog GD (Xp K):=QbN (T:=TD) (ts:= [(.sl (.st 1))]) (rt:=(.st 1)) (e:=107) (f:=true) (fn:=fun p=>Ye.f K (p)) (fun g w0 D p vals r hG hv hS hr=>by
 obtain⟨v0,h0,rfl⟩:=hv
 obtain⟨A0,c0,e0,f0⟩:=h0
 cases e0
 exact CallsIn.mono (Ye.calls hr hS f0) fun e w' ⟨u,h1,D1,A,c,q,h2,h3,h4⟩=>⟨u,h1,D1,A,c,q,h2,h4,h3⟩) (by kernel_rfl)
def yO(K:Nat):FSp TD:=sg 62 (.cs (.dt (.sl (.st 3))) .nl) [] [(.sl (.st 3))] [(.sl (.st 3))] (fun p=>QK.f K (p)) (.cs (.own (.st 3) 90 true) .nl) [] []
theorem Jl(K:Nat):VOk Tryz.prog GD (yO K):=QbN (T:=TD) (ts:= [(.sl (.st 3))]) (rt:=(.st 3)) (e:=90) (f:=true) (fn:=fun p=>QK.f K (p)) (fun g w0 D p vals r hG hv hS hr=>by
 obtain⟨v0,h0,rfl⟩:=hv
 obtain⟨A0,c0,e0,f0⟩:=h0
 cases e0
 exact CallsIn.mono (QK.calls hr hS f0) fun e w' ⟨u,h1,D1,A,c,q,h2,h3,h4⟩=>⟨u,h1,D1,A,c,q,h2,h4,h3⟩) (by kernel_rfl)
def yP(K:Nat):FSp TD:=sg 206 (.cs (.dt (.sl (.st 15))) .nl) [] [(.sl (.st 15))] [(.sl (.st 15))] (fun p=>QQ.f K (p)) (.cs (.own (.st 15) 152 true) .nl) [] []
theorem J7(K:Nat):VOk Tryz.prog GD (yP K):=QbN (T:=TD) (ts:= [(.sl (.st 15))]) (rt:=(.st 15)) (e:=152) (f:=true) (fn:=fun p=>QQ.f K (p)) (fun g w0 D p vals r hG hv hS hr=>by
 obtain⟨v0,h0,rfl⟩:=hv
 obtain⟨A0,c0,e0,f0⟩:=h0
 cases e0
 exact CallsIn.mono (QQ.calls hr hS f0) fun e w' ⟨u,h1,D1,A,c,q,h2,h3,h4⟩=>⟨u,h1,D1,A,c,q,h2,h4,h3⟩) (by kernel_rfl)
def Zr(K:Nat):RvSp TD:=⟨134,(.int .u8),5,QY.f K⟩
theorem Zt(K:Nat):RvOk Tryz.prog (Zr K):=⟨fun g w0 D A cap xs ys q hS hO hr=>QY.calls hr hS hO,by kernel_rfl,fun xs ys h=>QY.len h⟩
def jk(K:Nat):FSp TD:=sd 35 [] [(.st 0)] (fun p=>XU.f K)
theorem QbO(K:Nat):VOk Tryz.prog GD (jk K):=vk K .n Tryz.func35 Tryz.ntmps35 v0
def QiO(K:Nat):FSp TD:=sd 78 [tI,tI,tI] [.bool] (fun p=>Ju.f K (p.1) (p.2.1) (p.2.2))
theorem XD(K:Nat):VOk Tryz.prog GD (QiO K):=vk K .n Tryz.func78 Tryz.ntmps78 v0
def Qd5(K:Nat):FSp TD:=sd 66 [(.st 0)] [.bool] (fun p=>ZE.f K (p))
theorem Qco(K:Nat):VOk Tryz.prog GD (Qd5 K):=vk K .n Tryz.func66 Tryz.ntmps66 (vl (XD K) v0)
def Qj6(K:Nat):FSp TD:=sd 81 [(.st 0),tI,tI] [.bool] (fun p=>XK.f K (p.1) (p.2.1) (p.2.2))
theorem QbP(K:Nat):VOk Tryz.prog GD (Qj6 K):=vk K .n Tryz.func81 Tryz.ntmps81 (vl (Qco K) (vl (XD K) v0))
def Qp0(K:Nat):FSp TD:=sg 156 (.cs (.dt (.int .u64)) (.cs dI .nl)) [] [(.int .u64),tI] [tB] (fun p=>QcN.f K (p.1) (p.2)) (.cs (.own (.int .u8) 5 true) .nl) [] []
theorem Qj7(K:Nat):VOk Tryz.prog GD (Qp0 K):=vk K (.s .n (.s .n (.s (.s .n (.l ⟨[(0,(.dt (.int .u64))),(5,(.own (.int .u8) 5 true)),(11,dI)], [], [(.int .u64),tB,tI], [], [], []⟩ (some ⟨[(5,(.own (.int .u8) 5 true))], [], [tB], [], [], []⟩) false .n)) .n))) Tryz.func156 Tryz.ntmps156 v0
def Qly(K:Nat):FSp TD:=sg 155 (.cs dI .nl) [] [tI] [tB] (fun p=>Qal.f K (p)) (.cs (.own (.int .u8) 5 true) .nl) [] []
theorem Qlz(K:Nat):VOk Tryz.prog GD (Qly K):=vk K .n Tryz.func155 Tryz.ntmps155 (vl (Qj7 K) v0)
def QeX(K:Nat):FSp TD:=sg 154 (.cs (.dt (.sl tI)) (.cs (.fn 155 .nl) .nl)) [] [(.sl tI)] [tB] (fun p=>Xc.f K (p)) (.cs (.own (.int .u8) 5 true) .nl) [] []
theorem QeY(K:Nat):VOk Tryz.prog GD (QeX K):=vk K (.s .n (.s .n (.s (.s .n (.l ⟨[(5,(.own (.int .u8) 5 true)),(10,dI)], [], [tB,tI], [], [], []⟩ (some ⟨[(5,(.own (.int .u8) 5 true))], [], [tB], [], [], []⟩) false .n)) .n))) Tryz.func154 Tryz.ntmps154 (vl (Qlz K) v0)
def QnE(K:Nat):FSp TD:=sg 143 (.cs dI .nl) [] [tI] [tB] (fun p=>Qdb.f K (p)) (.cs (.own (.int .u8) 5 true) .nl) [] []
theorem QnF(K:Nat):VOk Tryz.prog GD (QnE K):=vk K (.s .n (.s .n (.s .n (.s (.l ⟨[(3,(.own (.int .u8) 5 true))], [], [tB], [], [], []⟩ (some ⟨[(3,(.own (.int .u8) 5 true))], [], [tB], [], [], []⟩) false .n) (.s .n (.s (.s .n (.l ⟨[(3,(.own (.int .u8) 5 true)),(5,dI)], [], [tB,tI], [], [], []⟩ (some ⟨[(3,(.own (.int .u8) 5 true))], [], [tB], [], [], []⟩) false .n)) .n)))))) Tryz.func143 Tryz.ntmps143 v0
def Qj8(K:Nat):FSp TD:=sg 142 (.cs dB .nl) [] [tB] [tB] (fun p=>QdZ.f K (p)) (.cs (.fn 183 (.cs (.ptr 0 0) .nl)) .nl) [] [(41,dB)]
theorem Qj9(K:Nat):VOk Tryz.prog GD (Qj8 K):=vk K .n Tryz.func142 Tryz.ntmps142 v0
def Qat(K:Nat):FSp TD:=sd 208 [(.int .u32),tI] [(.int .u32)] (fun p=>Yy.f K (p.1) (p.2))
theorem yc(K:Nat):VOk Tryz.prog GD (Qat K):=vk K .n Tryz.func208 Tryz.ntmps208 v0
def QlA(K:Nat):FSp TD:=sd 207 [(.int .u32),tI,tI,tI] [(.int .u32)] (fun p=>XV.f K (p.1) (p.2.1) (p.2.2.1) (p.2.2.2))
theorem QlB(K:Nat):VOk Tryz.prog GD (QlA K):=vk K (.s .n (.s (.r (ob [2,12,22,40,50,60,90,100,110,36,76,82,122,132]) [] []) .n)) Tryz.func207 Tryz.ntmps207 (vl (yc K) v0)
def Qg5(K:Nat):FSp TD:=sd 184 [tB] [(.arr .u32 64)] (fun p=>Xj.f K (p))
theorem Qg6(K:Nat):VOk Tryz.prog GD (Qg5 K):=vk K (.s .n (.s .n (.s (.s .n (.l ⟨[(5,dI)], [(3,(.dt (.arr .u32 64)))], [tI,(.arr .u32 64)], [], [], []⟩ (some ⟨[], [(3,(.dt (.arr .u32 64)))], [(.arr .u32 64)], [], [], []⟩) false (.s .n (.s .n (.j ⟨[], [(3,(.dt (.arr .u32 64)))], [(.arr .u32 64)], [], [], []⟩ (.s .n (.s (.s .n (.s (.s (.r (ob [0,12,22,32,42,52,80,90,100,110,120,130,140,150,170,180,190,200,210,220,230,240,260,270,280,290,300,310,320,66,72,162,252,332,342,356]) [] []) .n) .n)) (.r (ob [0,12,22,32,42,60,70,80,90,110,120,130,140,170,180,190,200,56,100,156,162,212,222,236]) [] [3]))) .n))))) .n))) Tryz.func184 Tryz.ntmps184 (vl (QlB K) v0)
def Qka(K:Nat):FSp TD:=sd 185 [(.int .u32),tI,tI,tI] [(.int .u32)] (fun p=>yY.f K (p.1) (p.2.1) (p.2.2.1) (p.2.2.2))
theorem Qkb(K:Nat):VOk Tryz.prog GD (Qka K):=vk K .n Tryz.func185 Tryz.ntmps185 (vl (yc K) v0)
def QnG(K:Nat):FSp TD:=sd 144 [(.arr .u32 8),tB] [(.arr .u32 8)] (fun p=>Qcd.f K (p.1) (p.2))
theorem QnH(K:Nat):VOk Tryz.prog GD (QnG K):=vk K (.s .n (.s .n (.s .n (.s (.s .n (.l ⟨[(18,dI)], [(5,(.dt (.arr .u32 8)))], [tI,(.arr .u32 8)], [], [], []⟩ (some ⟨[], [(5,(.dt (.arr .u32 8)))], [(.arr .u32 8)], [], [], []⟩) false (.s .n (.s .n (.s (.s .n (.s (.r (ob [0,10,22,32,60,70,80,90,100,110,120,130,140,150,160,170,190,200,210,230,46,52,182,222,242,252]) [] [5]) (.s (.r (ob [2,12,30,40,50,60,70,80,90,100,110,120,130,140,150,160,170,180,190,26,202,212]) [] [5]) (.s (.r (ob [2,12,26]) [] []) .n)))) .n))))) (.s (.s .n (.l ⟨[(81,dI)], [(2,(.dt (.arr .u32 8)))], [tI,(.arr .u32 8)], [], [], []⟩ (some ⟨[], [(2,(.dt (.arr .u32 8)))], [(.arr .u32 8)], [], [], [5]⟩) false (.s .n (.s .n (.s (.s .n (.r (ob [2,12,22,32,42,52,62,72,86]) [] [])) .n))))) .n))))) Tryz.func144 Tryz.ntmps144 (vl (Qg6 K) (vl (Qkb K) v0))
def QnI(K:Nat):FSp TD:={fid:=83,args:=(.cs (.dt (.sl (.sl (.int .u8)))) .nl),blks:= [],pt:= [(.sl (.sl (.int .u8)))],rt:= [(.arr .u8 32)],fn:=fun p=>Qd0.f K (p),res:=(.cs (.dt (.arr .u8 32)) .nl),out:= [],new:= [] }
theorem QnJ(K:Nat):VOk Tryz.prog GD (QnI K):=vk K (.s .n (.s .n (.s .n (.s (.s .n (.g (.l ⟨[], [(1000000000004,(.dt (.arr .u32 8))),(1,dB)], [(.arr .u32 8),tB], [], [], []⟩ (some ⟨[], [(1000000000004,(.dt (.arr .u32 8))),(1,dB)], [(.arr .u32 8),tB], [], [], []⟩) false .n) .n .n)) (.s .n (.s (.s .n (.l ⟨[(21,dI)], [(6,dH)], [tI,tH], [], [], []⟩ (some ⟨[], [(6,dH)], [tH], [], [], [4]⟩) false .n)) .n)))))) Tryz.func83 Tryz.ntmps83 (vl (J5 K) (vl (QnF K) (vl (Qj9 K) (vl (QnH K) v0))))
def Qp1(K:Nat):FSp TD:={fid:=83,args:=(.cs (.dt (.sl (.sl (.int .u8)))) .nl),blks:= [],pt:= [(.sl (.sl (.int .u8)))],rt:= [(.arr .u8 32)],fn:=fun p=>shaQ.f K (p),res:=(.cs (.dt (.arr .u8 32)) .nl),out:= [],new:= [] }
theorem Qau(K:Nat):VOk Tryz.prog GD (Qp1 K):=(congrArg (fun f=>VOk Tryz.prog GD ({fid:=83,args:=(.cs (.dt (.sl (.sl (.int .u8)))) .nl),blks:= [],pt:= [(.sl (.sl (.int .u8)))],rt:= [(.arr .u8 32)],fn:=f,res:=(.cs (.dt (.arr .u8 32)) .nl),out:= [],new:= [] }:FSp TD)) (Qt0 K)).mpr (QnJ K)
def Qp2(K:Nat):FSp TD:=sg 177 (.cs dB (.cs (.dt (.int .u8)) .nl)) [] [tB,(.int .u8)] [tB] (fun p=>QfX.f K (p.1) (p.2)) (.cs (.own (.int .u8) 5 true) .nl) [] []
theorem Qp3(K:Nat):VOk Tryz.prog GD (Qp2 K):=vk K (.s .n (.s .n (.s .n (.s (.s .n (.l ⟨[(5,(.own (.int .u8) 5 true)),(13,dI)], [], [tB,tI], [], [], []⟩ (some ⟨[(5,(.own (.int .u8) 5 true))], [], [tB], [], [], []⟩) false .n)) .n)))) Tryz.func177 Tryz.ntmps177 v0
def Qp4(K:Nat):FSp TD:=sd 139 [tB,(.sl tB)] [tH] (fun p=>QfY.f K (p.1) (p.2))
theorem Qkc(K:Nat):VOk Tryz.prog GD (Qp4 K):=vk K (.s .n (.j ⟨[(0,dB)], [], [tB], [], [], []⟩ .n (.s .n (.s (.r (ob [2,20,16,36,46,56]) [6] []) .n)))) Tryz.func139 Tryz.ntmps139 (vl (Qau K) (vl (Qp3 K) v0))
def Qp5(K:Nat):FSp TD:=sd 103 [tH,(.sl tI)] [tH] (fun p=>Qd1.f K (p.1) (p.2))
theorem Qkd(K:Nat):VOk Tryz.prog GD (Qp5 K):=vk K (.s .n (.s (.r (ob [0,12,26,36,46,56]) [2] []) .n)) Tryz.func103 Tryz.ntmps103 (vl (QeY K) (vl (Qkc K) v0))
def QlC(K:Nat):FSp TD:=sd 104 [(.st 0),tI,tI] [tH] (fun p=>Qby.f K (p.1) (p.2.1) (p.2.2))
theorem QlD(K:Nat):VOk Tryz.prog GD (QlC K):=vk K .n Tryz.func104 Tryz.ntmps104 (vl (QbP K) (vl (Qkd K) v0))
def QnK(K:Nat):FSp TD:=sd 105 [.bool] [tI] (fun p=>Qce.f K (p))
theorem QnL(K:Nat):VOk Tryz.prog GD (QnK K):=vk K .n Tryz.func105 Tryz.ntmps105 v0
def Z4(K:Nat):FSp TD:=sd 36 [(.st 0),(.st 4)] [tH] (fun p=>je.f K (p.1) (p.2))
theorem QcD(K:Nat):VOk Tryz.prog GD (Z4 K):=vk K (.s .n (.s (.j ⟨[(16,dF)], [], [.bool], [], [], []⟩ .n .n) (.s (.r (ob [2,12,22,32,42,60,70,80,90,100,110,130,140,56,126,156,164,176,186]) [] [3]) .n))) Tryz.func36 Tryz.ntmps36 (vl (QbP K) (vl (QlD K) (vl (QnL K) (vl (Qkd K) v0))))
def Qke(K:Nat):FSp TD:=sd 164 [tI,tI,tI] [.bool] (fun p=>Jr.f K (p.1) (p.2.1) (p.2.2))
theorem QeI(K:Nat):VOk Tryz.prog GD (Qke K):=vk K .n Tryz.func164 Tryz.ntmps164 v0
def Qg7(K:Nat):FSp TD:=sd 165 [(.st 3)] [.bool] (fun p=>ZF.f K (p))
theorem Qg8(K:Nat):VOk Tryz.prog GD (Qg7 K):=vk K .n Tryz.func165 Tryz.ntmps165 (vl (QeI K) v0)
def jK(K:Nat):FSp TD:=sg 196 (.cs (.dt (.sl (.st 3))) (.cs (.fn 165 .nl) .nl)) [] [(.sl (.st 3))] [tI] (fun p=>Y9.f K (p)) (.cs dI .nl) [] []
theorem jL(K:Nat):VOk Tryz.prog GD (jK K):=vk K (.s .n (.s (.s .n (.l ⟨[(8,dI)], [], [tI], [], [], []⟩ (some ⟨[], [], [], [], [], []⟩) true .n)) .n)) Tryz.func196 Tryz.ntmps196 (vl (Qg8 K) v0)
def jl(K:Nat):FSp TD:=sg 166 (.cs (.dt (.sl (.st 3))) (.cs (.fn 165 .nl) .nl)) [] [(.sl (.st 3))] [.bool] (fun p=>Yz.f K (p)) (.cs dF .nl) [] []
theorem jm(K:Nat):VOk Tryz.prog GD (jl K):=vk K .n Tryz.func166 Tryz.ntmps166 (vl (jL K) v0)
def Qkf(K:Nat):FSp TD:=sd 123 [(.st 4)] [.bool] (fun p=>Qcf.f K (p))
theorem Qkg(K:Nat):VOk Tryz.prog GD (Qkf K):=vk K (.s .n (.s (.j ⟨[(19,dF)], [], [.bool], [], [], []⟩ .n .n) (.s (.s .n (.s .n (.s .n (.j ⟨[(41,dF)], [], [.bool], [], [], []⟩ .n .n)))) .n))) Tryz.func123 Tryz.ntmps123 (vl (QeI K) (vl (jm K) v0))
def QnM(K:Nat):FSp TD:=sd 124 [(.st 4)] [(.st 4)] (fun p=>Qfo.f K (p))
theorem QnN(K:Nat):VOk Tryz.prog GD (QnM K):=vk K (.s .n (.s .n (.j ⟨[], [(3,(dD 4))], [(.st 4)], [], [], [1]⟩ (.s .n (.s (.s (.j ⟨[], [(3,(dD 4))], [(.st 4)], [], [], []⟩ (.s (.s (.s (.s .n (.s .n (.s (.j ⟨[(13,dF)], [], [.bool], [], [], []⟩ .n .n) .n))) .n) (.s (.s (.r (ob [2,12,20,30,40,50,62,76,82,96,102,116]) [] [1]) (.s .n (.s .n (.r (ob [2,12,20,30,42,56,62,76]) [] [1])))) .n)) (.r (ob [2,12,20,30,40,50,60,70,82,96,102,116,122,136,142,156]) [] [1])) (.s (.r (ob [2,12,20,30,40,50,60,70,80,90,102,116,122,136,142,156,162,176,182,196]) [] [1]) .n)) (.s (.r (ob [2,12,20,30,40,50,62,76,82,96,102,116]) [] [1]) .n)) (.s (.r (ob [2,12,20,30,42,56,62,76]) [] [1]) .n))) .n))) Tryz.func124 Tryz.ntmps124 v0
def yQ(K:Nat):FSp TD:=sd 97 [(.sl (.st 3)),(.sl (.st 3))] [.bool] (fun p=>YV.f K (p.1) (p.2))
theorem yR(K:Nat):VOk Tryz.prog GD (yQ K):=vk K (.s .n (.s .n (.s (.s .n (.l ⟨[(13,dI)], [], [tI], [], [], []⟩ (some ⟨[], [], [], [], [], []⟩) true (.s .n (.s .n (.s (.s .n (.s (.r (ob [2,12,22,32,42,52,62,72,82]) [] []) .n)) .n))))) .n))) Tryz.func97 Tryz.ntmps97 v0
def QiP(K:Nat):FSp TD:=sd 96 [tB,tB] [.bool] (fun p=>bytes_Equal.f K (p.1) (p.2))
theorem Qdz(K:Nat):VOk Tryz.prog GD (QiP K):=vk K .n Tryz.func96 Tryz.ntmps96 v0
def QnO(K:Nat):FSp TD:=sd 98 [(.st 4)] [(.st 5)] (fun p=>Qfp.f K (p))
theorem QnP(K:Nat):VOk Tryz.prog GD (QnO K):=vk K .n Tryz.func98 Tryz.ntmps98 v0
def QnQ(K:Nat):FSp TD:=sd 31 [(.st 4),(.st 4)] [.bool] (fun p=>Qfq.f K (p.1) (p.2))
theorem QnR(K:Nat):VOk Tryz.prog GD (QnQ K):=vk K (.s .n (.s (.j ⟨[(18,dF)], [], [.bool], [], [], []⟩ .n .n) (.j ⟨[(4,dF)], [], [.bool], [], [], [2,3]⟩ (.r (ob [2,20,16,36,42,53,62,72,82,92,102,112,123,132,142,152,162,172,182,193,202,212,222,232,242,252,262]) [] [3]) .n))) Tryz.func31 Tryz.ntmps31 (vl (yR K) (vl (Qdz K) (vl (QnP K) v0)))
def QlE(K:Nat):FSp TD:=sd 61 [(.st 4)] [.bool] (fun p=>qi.f K (p))
theorem qP(K:Nat):VOk Tryz.prog GD (QlE K):=vk K (.s .n (.s (.r (ob [2,16,23,30,42,56,66,72,82]) [] [1]) .n)) Tryz.func61 Tryz.ntmps61 (vl (Qkg K) (vl (QnN K) (vl (QnR K) v0)))
def QeZ(K:Nat):FSp TD:=sd 146 [(.st 4)] [.bool] (fun p=>QcA.f K (p))
theorem Qe0(K:Nat):VOk Tryz.prog GD (QeZ K):=vk K .n Tryz.func146 Tryz.ntmps146 (vl (qP K) v0)
def yj(K:Nat):FSp TD:=sg 186 (.cs (.dt (.sl (.st 4))) (.cs (.fn 146 .nl) .nl)) [] [(.sl (.st 4))] [tI] (fun p=>J6.f K (p)) (.cs dI .nl) [] []
theorem yl(K:Nat):VOk Tryz.prog GD (yj K):=vk K (.s .n (.s (.s .n (.l ⟨[(8,dI)], [], [tI], [], [], []⟩ (some ⟨[], [], [], [], [], []⟩) true .n)) .n)) Tryz.func186 Tryz.ntmps186 (vl (Qe0 K) v0)
def jC(K:Nat):FSp TD:=sg 145 (.cs (.dt (.sl (.st 4))) (.cs (.fn 146 .nl) .nl)) [] [(.sl (.st 4))] [.bool] (fun p=>JI.f K (p)) (.cs dF .nl) [] []
theorem jD(K:Nat):VOk Tryz.prog GD (jC K):=vk K .n Tryz.func145 Tryz.ntmps145 (vl (yl K) v0)
def Qg9(K:Nat):FSp TD:=sd 86 [(.sl (.st 4))] [.bool] (fun p=>ZG.f K (p))
theorem Z5(K:Nat):VOk Tryz.prog GD (Qg9 K):=vk K .n Tryz.func86 Tryz.ntmps86 (vl (jD K) v0)
def QnS(K:Nat):FSp TD:=sg 71 (.cs dI .nl) [] [tI] [tB] (fun p=>qH.f K (p)) (.cs (.own (.int .u8) 5 true) .nl) [] []
theorem qx(K:Nat):VOk Tryz.prog GD (QnS K):=vkM K (.s .n (.s (.j ⟨[(9,dF)], [], [.bool], [], [], []⟩ .n .n) (.s .n (.s (.s .n (.l ⟨[(0,dI),(3,(.own (.int .u8) 5 true))], [], [tI,tB], [], [], []⟩ (some ⟨[(3,(.own (.int .u8) 5 true))], [], [tB], [], [], []⟩) false .n)) .n)))) Tryz.func71 Tryz.ntmps71 v0 (Qun (Zt K) Qgn) Qgo
def QlF(K:Nat):FSp TD:=sg 147 .nl [] [] [] (fun p=>Qde.f K) (.cs (.agg (.cs (.agg (.cs (.raw .nilFunc) .nl)) (.cs (.agg (.cs (.fn 187 .nl) .nl)) (.cs (.agg (.cs (.fn 188 .nl) .nl)) (.cs (.agg (.cs (.fn 189 .nl) .nl)) (.cs (.agg (.cs (.fn 188 .nl) .nl)) (.cs (.agg (.cs (.fn 191 .nl) .nl)) (.cs (.agg (.cs (.fn 192 .nl) .nl)) .nl)))))))) .nl) [] []
theorem Qgp(K:Nat):VOk Tryz.prog GD (QlF K):=vk K .n Tryz.func147 Tryz.ntmps147 v0
def QiQ(K:Nat):FSp TD:=sg 190 (.cs (.dt (.sl tI)) .nl) [] [(.sl tI)] [tB] (fun p=>qI.f K (p)) (.cs (.own (.int .u8) 5 true) .nl) [] []
theorem yL(K:Nat):VOk Tryz.prog GD (QiQ K):=vk K (.s .n (.s .n (.s (.s .n (.l ⟨[(3,(.own (.int .u8) 5 true)),(8,dI)], [], [tB,tI], [], [], []⟩ (some ⟨[(3,(.own (.int .u8) 5 true))], [], [tB], [], [], []⟩) false .n)) .n))) Tryz.func190 Tryz.ntmps190 (vl (qx K) v0)
def QlG(K:Nat):FSp TD:=sg 187 (.cs (dD 4) .nl) [] [(.st 4)] [tB] (fun p=>Qbz.f K (p)) (.cs (.own (.int .u8) 5 true) .nl) [] []
theorem Qgq(K:Nat):VOk Tryz.prog GD (QlG K):=vk K (.s .n (.s .n (.s (.s .n (.l ⟨[(3,(.own (.int .u8) 5 true)),(16,dI)], [], [tB,tI], [], [], [1]⟩ (some ⟨[(3,(.own (.int .u8) 5 true))], [], [tB], [], [], [1]⟩) false .n)) .n))) Tryz.func187 Tryz.ntmps187 (vl (yL K) v0)
def QnT(K:Nat):FSp TD:=sg 69 (.cs (.dt (.sl tB)) .nl) [] [(.sl tB)] [tB] (fun p=>Y8.f K (p)) (.cs (.own (.int .u8) 5 true) .nl) [] []
theorem yf(K:Nat):VOk Tryz.prog GD (QnT K):=vk K .n Tryz.func69 Tryz.ntmps69 (vl (J5 K) v0)
def QlH(K:Nat):FSp TD:=sg 70 (.cs dF .nl) [] [.bool] [tB] (fun p=>Xk.f K (p)) (.cs (.own (.int .u8) 5 true) .nl) [] []
theorem Qa3(K:Nat):VOk Tryz.prog GD (QlH K):=vk K .n Tryz.func70 Tryz.ntmps70 v0
def QnU(K:Nat):FSp TD:=sg 188 (.cs (dD 4) .nl) [] [(.st 4)] [tB] (fun p=>ZH.f K (p)) (.cs (.own (.int .u8) 5 true) .nl) [] []
theorem Qd6(K:Nat):VOk Tryz.prog GD (QnU K):=vk K (.s .n (.s (.r (ob [2,12,22,32,42,52,62,72,84,100,110,96,126,136,146,152]) [] [1]) .n)) Tryz.func188 Tryz.ntmps188 (vl (yL K) (vl (Qa3 K) (vl (yf K) v0)))
def QlI(K:Nat):FSp TD:=sg 72 (.cs dH .nl) [] [tH] [tB] (fun p=>jJ.f K (p)) (.cs (.own (.int .u8) 5 true) .nl) [] []
theorem y9(K:Nat):VOk Tryz.prog GD (QlI K):=vk K .n Tryz.func72 Tryz.ntmps72 (vl (Js K) v0)
def QiR(K:Nat):FSp TD:=sg 189 (.cs (dD 4) .nl) [] [(.st 4)] [tB] (fun p=>XX.f K (p)) (.cs (.own (.int .u8) 5 true) .nl) [] []
theorem QdA(K:Nat):VOk Tryz.prog GD (QiR K):=vk K (.s .n (.s (.r (ob [2,20,30,50,60,70,80,94,110,120,16,46,106,136,146,156,162]) [] [1]) .n)) Tryz.func189 Tryz.ntmps189 (vl (Qd6 K) (vl (Qa3 K) (vl (yL K) (vl (y9 K) (vl (yf K) v0)))))
def QiS(K:Nat):FSp TD:=sg 191 (.cs (dD 4) .nl) [] [(.st 4)] [tB] (fun p=>XY.f K (p)) (.cs (.own (.int .u8) 5 true) .nl) [] []
theorem QdB(K:Nat):VOk Tryz.prog GD (QiS K):=vk K .n Tryz.func191 Tryz.ntmps191 (vl (yL K) v0)
def QiT(K:Nat):FSp TD:=sg 192 (.cs (dD 4) .nl) [] [(.st 4)] [tB] (fun p=>XZ.f K (p)) (.cs (.own (.int .u8) 5 true) .nl) [] []
theorem QdC(K:Nat):VOk Tryz.prog GD (QiT K):=vk K .n Tryz.func192 Tryz.ntmps192 (vl (yL K) v0)
def QnV(K:Nat):FSp TD:=sg 168 (.cs dB .nl) [] [tB] [tB] (fun p=>Qcg.f K (p)) (.cs (.own (.int .u8) 5 true) .nl) [] []
theorem QnW(K:Nat):VOk Tryz.prog GD (QnV K):=vk K .n Tryz.func168 Tryz.ntmps168 (vl (Qj7 K) (vl (J5 K) v0))
def Qd7(K:Nat):FSp TD:=sg 167 (.cs (.dt (.sl tB)) (.cs (.fn 168 .nl) .nl)) [] [(.sl tB)] [tB] (fun p=>X0.f K (p)) (.cs (.own (.int .u8) 5 true) .nl) [] []
theorem Qd8(K:Nat):VOk Tryz.prog GD (Qd7 K):=vk K (.s .n (.s .n (.s (.s .n (.l ⟨[(5,(.own (.int .u8) 5 true)),(10,dI)], [], [tB,tI], [], [], []⟩ (some ⟨[(5,(.own (.int .u8) 5 true))], [], [tB], [], [], []⟩) false .n)) .n))) Tryz.func167 Tryz.ntmps167 (vl (QnW K) v0)
def Qr4(K:Nat):FSp TD:=sd 125 [tI,(.sl tB)] [tH] (fun p=>QfZ.f K (p.1) (p.2))
theorem QmW(K:Nat):VOk Tryz.prog GD (Qr4 K):=vk K .n Tryz.func125 Tryz.ntmps125 (vl (Qd8 K) (vl (Qau K) v0))
def Qp6(K:Nat):FSp TD:=sd 63 [(.st 4)] [tH] (fun p=>Qf0.f K (p))
theorem Qkh(K:Nat):VOk Tryz.prog GD (Qp6 K):=vk K (.s .n (.s (.j ⟨[(3,dF)], [], [.bool], [], [], []⟩ .n .n) (.s (.r (ob [2,12,22,32,46,56,66]) [1] []) .n))) Tryz.func63 Tryz.ntmps63 (vl (qP K) (vl (QmW K) v0))
def Qha(K:Nat):FSp TD:=sg 93 (.cs (.ptr 0 0) .nl) [(52,(dD 4))] [(.st 4)] [tB] (fun p=>ZI.f K (p)) (.cs (.own (.int .u8) 5 true) .nl) [none] []
theorem Qhb(K:Nat):VOk Tryz.prog GD (Qha K):=vk K .n Tryz.func93 Tryz.ntmps93 (vl (Qkh K) (vl (y9 K) v0))
def Qp7(K:Nat):FSp TD:=sg 92 (.cs (dD 4) (.cs (.fn 93 (.cs (.ptr 0 0) .nl)) .nl)) [(52,(dD 4))] [(.st 4),(.st 4)] [tB] (fun p=>Qlc.f K (p.1) (p.2)) (.cs (.own (.int .u8) 5 true) .nl) [none] []
theorem Qp8(K:Nat):VOk Tryz.prog GD (Qp7 K):=vk K (.s .n (.s .n (.j ⟨[(5,(.own (.int .u8) 5 true))], [], [tB], [], [], []⟩ (.r (ob [2,12,40,50,80,26,36,62,72,96,106,116,122]) [] [2]) .n))) Tryz.func92 Tryz.ntmps92 (vl (qP K) (vl (qx K) (vl (Qgp K) (vl (Qgq K) (vl (yf K) (vl (Qd6 K) (vl (QdA K) (vl (QdB K) (vl (QdC K) (vl (Qhb K) v0))))))))))
def Qki(K:Nat):FSp TD:=sg 28 (.cs (dD 4) .nl) [] [(.st 4)] [tB] (fun p=>Qam.f K (p)) (.cs (.own (.int .u8) 5 true) .nl) [] []
theorem QeJ(K:Nat):VOk Tryz.prog GD (Qki K):=vk K .n Tryz.func28 Tryz.ntmps28 (vl (Qp8 K) v0)
def QlJ(K:Nat):FSp TD:=sd 87 [tB] [tH] (fun p=>QbA.f K (p))
theorem Qgr(K:Nat):VOk Tryz.prog GD (QlJ K):=vk K .n Tryz.func87 Tryz.ntmps87 (vl (Qau K) v0)
def Qgs(K:Nat):FSp TD:=sd 24 [(.sl (.st 4))] [(.sl tH)] (fun p=>XA.f K (p))
theorem Zj(K:Nat):VOk Tryz.prog GD (Qgs K):=vk K (.s .n (.s .n (.s .n (.s (.s .n (.l ⟨[(3,(.own tH 37 true)),(11,dI)], [], [(.sl tH),tI], [], [], []⟩ (some ⟨[(3,(.own tH 37 true))], [], [(.sl tH)], [], [], []⟩) false .n)) .n)))) Tryz.func24 Tryz.ntmps24 (vl (Z5 K) (vl (QeJ K) (vl (Qgr K) v0)))
def Qkj(K:Nat):FSp TD:=sd 84 [tI] [tI] (fun p=>XL.f K (p))
theorem QbQ(K:Nat):VOk Tryz.prog GD (Qkj K):=vk K (.s .n (.s .n (.s .n (.s (.l ⟨[(3,dI)], [], [tI], [], [], []⟩ (some ⟨[(3,dI)], [], [tI], [], [], []⟩) false .n) .n)))) Tryz.func84 Tryz.ntmps84 v0
def QlK(K:Nat):FSp TD:=sd 85 [tH,tH] [tH] (fun p=>Xl.f K (p.1) (p.2))
theorem Qa4(K:Nat):VOk Tryz.prog GD (QlK K):=vk K (.s .n (.s (.r (ob [4,12,22,36,46,56]) [2,3] []) .n)) Tryz.func85 Tryz.ntmps85 (vl (Qau K) v0)
def Qgt(K k:Nat):FSp TD:=sd 23 [(.sl tH)] [tH] (fun p=>yF.r K k (p))
theorem QlL(K:Nat):∀k,VOk Tryz.prog GD (Qgt K k):=by
 intro k
 induction k with
 |zero=>exact Qti Tryz.func23 rfl (by kernel_rfl) (fun _=>rfl)
 |succ k ih=>
  exact vk K (.s .n (.s .n (.s .n (.s (.r (ob [2,12,40,50,60,26,36,76,86,96]) [] []) .n)))) Tryz.func23 Tryz.ntmps23 (vl (Qau K) (vl (QbQ K) (vl (Qa4 K) (vl ih v0))))
def QlM(K:Nat):FSp TD:=Qgt K K
theorem Qgu(K:Nat):VOk Tryz.prog GD (QlM K):=QlL K K
def QlN(K:Nat):FSp TD:=sd 138 [(.st 2)] [tH] (fun p=>Qdf.f K (p))
theorem QlO(K:Nat):VOk Tryz.prog GD (QlN K):=vk K (.s .n (.s (.r (ob [2,12,30,40,26,56,66,76]) [1] []) .n)) Tryz.func138 Tryz.ntmps138 (vl (qx K) (vl (QmW K) v0))
def QlP(K:Nat):FSp TD:=sd 79 [(.st 0),tI,(.st 2)] [tH] (fun p=>X4.f K (p.1) (p.2.1) (p.2.2))
theorem Qgv(K:Nat):VOk Tryz.prog GD (QlP K):=vk K (.s .n (.s (.j ⟨[(25,dF)], [], [.bool], [], [], []⟩ .n .n) (.s .n (.s (.r (ob [0,10,20,30,40,54,62,76,86,96]) [7] [3]) .n)))) Tryz.func79 Tryz.ntmps79 (vl (Qco K) (vl (XD K) (vl (QlO K) (vl (Qkc K) v0))))
def qy(K:Nat):FSp TD:=sg 37 (.cs (dD 0) (.cs (.dt (.sl (.st 4))) .nl)) [] [(.st 0),(.sl (.st 4))] [tI,tH,(.sl (.st 1))] (fun p=>qW.f K (p.1) (p.2)) (.cs (.agg (.cs dI (.cs dH (.cs (.own (.st 1) 107 true) .nl)))) .nl) [] []
theorem Qav(K:Nat):VOk Tryz.prog GD (qy K):=vk K (.s .n (.s .n (.s .n (.s (.s .n (.l ⟨[(7,dI)], [(6,(.agg (.cs dI (.cs dH (.cs (.own (.st 1) 107 true) .nl)))))], [tI,tI,tH,(.sl (.st 1))], [], [], []⟩ (some ⟨[], [(6,(.agg (.cs dI (.cs dH (.cs (.own (.st 1) 107 true) .nl)))))], [tI,tH,(.sl (.st 1))], [], [], [2,5]⟩) false (.s .n (.s (.r (ob [0,10,20,32,42,52,66,72,84,96,102,116]) [] [6]) .n)))) .n)))) Tryz.func37 Tryz.ntmps37 (vl (Zj K) (vl (Qgu K) (vl (Qgv K) v0)))
def Qhc(K:Nat):FSp TD:=sg 107 (.cs dI (.cs (.fn 108 .nl) .nl)) [] [tI] [tI] (fun p=>QeD.f K (p)) (.cs (.fn 159 (.cs (.ptr 0 0) (.cs (.ptr 1 0) .nl))) .nl) [] [(3,dI),(173,(.fn 108 .nl))]
theorem Qhd(K:Nat):VOk Tryz.prog GD (Qhc K):=vk K .n Tryz.func107 Tryz.ntmps107 v0
def Qe1(K:Nat):FSp TD:=sd 108 [tI] [.bool] (fun p=>QcB.f K (p))
theorem Qe2(K:Nat):VOk Tryz.prog GD (Qe1 K):=vk K .n Tryz.func108 Tryz.ntmps108 v0
def Qkk(K:Nat):FSp TD:=sd 16 [(.st 4)] [(.st 4)] (fun p=>QhD.f K (p))
theorem Qkl(K:Nat):VOk Tryz.prog GD (Qkk K):=vk K (.s .n (.s (.j ⟨[(10,dF)], [], [.bool], [], [], []⟩ .n .n) (.s (.r (ob [0,10,22,32,50,46,66,72,86]) [] [1]) .n))) Tryz.func16 Tryz.ntmps16 (vl (qP K) (vl (Jl K) (vl (Qkh K) v0)))
def Qgw(K:Nat):FSp TD:=sd 158 [(.st 4),tI,(.int .u32)] [(.st 4)] (fun p=>QaN.f K (p.1) (p.2.1) (p.2.2))
theorem QbR(K:Nat):VOk Tryz.prog GD (Qgw K):=vk K (.s .n (.s .n (.s (.r (ob [2,12,30,40,26,60,56,76,82,96]) [] [3]) .n))) Tryz.func158 Tryz.ntmps158 (vl (Qkl K) (vl (Jl K) (vl (Js K) v0)))
def QeK(K k:Nat):FSp TD:=sg 91 (.cs (.dt (.sl tH)) (.cs dI .nl)) [] [(.sl tH),tI] [(.sl tH),.bool] (fun p=>jZ.r K k (p.1) (p.2)) (.cs (.own tH 37 true) (.cs dF .nl)) [] []
theorem Qkm(K:Nat):∀k,VOk Tryz.prog GD (QeK K k):=by
 intro k
 induction k with
 |zero=>exact Qti Tryz.func91 rfl (by kernel_rfl) (fun _=>rfl)
 |succ k ih=>
  exact vk K (.s .n (.s (.j ⟨[(18,dF)], [], [.bool], [], [], []⟩ .n .n) .n)) Tryz.func91 Tryz.ntmps91 (vl (QbQ K) (vl (Qgu K) (vl ih v0)))
def Qkn(K:Nat):FSp TD:=QeK K K
theorem QeL(K:Nat):VOk Tryz.prog GD (Qkn K):=Qkm K K
def Qgx(K:Nat):FSp TD:=sd 122 [tI,tI,tI] [.bool] (fun p=>jv.f K (p.1) (p.2.1) (p.2.2))
theorem Zk(K:Nat):VOk Tryz.prog GD (Qgx K):=vk K .n Tryz.func122 Tryz.ntmps122 v0
def Qe3(K:Nat):FSp TD:=sd 162 [(.st 1)] [.bool] (fun p=>Xd.f K (p))
theorem Qe4(K:Nat):VOk Tryz.prog GD (Qe3 K):=vk K .n Tryz.func162 Tryz.ntmps162 (vl (Zk K) v0)
def yu(K:Nat):FSp TD:=sg 195 (.cs (.dt (.sl (.st 1))) (.cs (.fn 162 .nl) .nl)) [] [(.sl (.st 1))] [tI] (fun p=>Jk.f K (p)) (.cs dI .nl) [] []
theorem yw(K:Nat):VOk Tryz.prog GD (yu K):=vk K (.s .n (.s (.s .n (.l ⟨[(8,dI)], [], [tI], [], [], []⟩ (some ⟨[], [], [], [], [], []⟩) true .n)) .n)) Tryz.func195 Tryz.ntmps195 (vl (Qe4 K) v0)
def jE(K:Nat):FSp TD:=sg 163 (.cs (.dt (.sl (.st 1))) (.cs (.fn 162 .nl) .nl)) [] [(.sl (.st 1))] [.bool] (fun p=>YK.f K (p)) (.cs dF .nl) [] []
theorem jF(K:Nat):VOk Tryz.prog GD (jE K):=vk K .n Tryz.func163 Tryz.ntmps163 (vl (yw K) v0)
def Qhe(K:Nat):FSp TD:=sd 121 [(.st 2)] [.bool] (fun p=>ZJ.f K (p))
theorem Qhf(K:Nat):VOk Tryz.prog GD (Qhe K):=vk K .n Tryz.func121 Tryz.ntmps121 (vl (Zk K) (vl (jF K) v0))
def Qhg(K:Nat):FSp TD:=sd 60 [(.st 7)] [.bool] (fun p=>JE.f K (p))
theorem Xg(K:Nat):VOk Tryz.prog GD (Qhg K):=vk K (.s .n (.s (.j ⟨[(31,dF)], [], [.bool], [], [], []⟩ .n .n) (.s .n (.s (.s .n (.l ⟨[(3,dI),(35,dI)], [], [tI,tI], [], [], []⟩ (some ⟨[], [], [], [], [], [1]⟩) true (.s .n (.s .n (.s (.s .n (.s (.j ⟨[(77,dF)], [], [.bool], [], [], []⟩ .n .n) .n)) .n))))) .n)))) Tryz.func60 Tryz.ntmps60 (vl (Qhf K) (vl (qP K) (vl (Zk K) v0)))
def QiU(K:Nat):FSp TD:=sg 106 (.cs (.dt (.sl (.st 4))) (.cs (dD 2) (.cs (.dt (.int .u32)) (.cs dF (.cs (.fn 159 (.cs (.ptr 0 0) (.cs (.ptr 1 0) .nl))) .nl))))) [(3,dI),(173,(.fn 108 .nl))] [(.sl (.st 4)),(.st 2),(.int .u32),.bool,tI] [(.st 7),.bool] (fun p=>Qf1.f K (p.1) (p.2.1) (p.2.2.1) (p.2.2.2.1) (p.2.2.2.2)) (.cs (dD 7) (.cs dF .nl)) [none,none] []
theorem QiV(K:Nat):VOk Tryz.prog GD (QiU K):=vk K (.s .n (.s (.j ⟨[(35,dF)], [], [.bool], [], [], []⟩ .n .n) (.s .n (.s (.r (ob [0,10,20,30,40,52,62,104,76,82,92,116]) [] [6,8]) (.s (.s .n (.g (.s .n (.l ⟨[(6,dI)], [(1000000000013,(.agg (.cs dF (.cs (dD 2) (.cs (.own (.st 6) 55 false) .nl)))))], [tI,.bool,(.st 2),(.sl (.st 6))], [], [], []⟩ (some ⟨[], [(1000000000013,(.agg (.cs dF (.cs (dD 2) (.cs (.own (.st 6) 55 false) .nl)))))], [.bool,(.st 2),(.sl (.st 6))], [], [], []⟩) true (.s .n (.s .n (.j ⟨[], [(1000000000013,(.agg (.cs dF (.cs (dD 2) (.cs (.own (.st 6) 55 false) .nl)))))], [.bool,(.st 2),(.sl (.st 6))], [], [], []⟩ .n .n))))) .n (.s (.j ⟨[(61,dF)], [], [.bool], [], [], []⟩ .n .n) (.s (.r (ob [0,12,22,32,42,52,62,94,76,82,106]) [] []) (.j ⟨[(73,dF)], [(15,(.agg (.cs dI (.cs (dD 4) (.cs (.own tH 37 true) .nl)))))], [.bool,tI,(.st 4),(.sl tH)], [], [], []⟩ .n .n))))) .n))))) Tryz.func106 Tryz.ntmps106 (vl (Z5 K) (vl (Zj K) (vl (qE K) (vl (Qe2 K) (vl (QbR K) (vl (QeL K) (vl (Xg K) v0)))))))
def Z7(K:Nat):FSp TD:=sd 38 [(.sl (.st 4)),(.st 2),(.int .u32)] [(.st 7),.bool] (fun p=>QbB.f K (p.1) (p.2.1) (p.2.2))
theorem Qhh(K:Nat):VOk Tryz.prog GD (Z7 K):=vk K (.s .n (.s (.r (ob [0,10,20,32,42,52,66,76,82,92,106,112]) [] [4]) .n)) Tryz.func38 Tryz.ntmps38 (vl (Qhd K) (vl (QiV K) v0))
def Qd9(K:Nat):FSp TD:=sg 107 (.cs dI (.cs (.fn 109 (.cs (.ptr 0 0) (.cs (.ptr 1 0) .nl))) .nl)) [(64,(.dt (.sl (.st 4)))),(3,dI)] [tI,(.sl (.st 4)),tI] [tI] (fun p=>QbC.f K (p.1) (p.2.1) (p.2.2)) (.cs (.fn 159 (.cs (.ptr 2 0) (.cs (.ptr 3 0) .nl))) .nl) [none,none] [(3,dI),(173,(.fn 109 (.cs (.ptr 0 0) (.cs (.ptr 1 0) .nl))))]
theorem Qea(K:Nat):VOk Tryz.prog GD (Qd9 K):=vk K .n Tryz.func107 Tryz.ntmps107 v0
def Qgy(K:Nat):FSp TD:=sg 109 (.cs dI (.cs (.ptr 0 0) (.cs (.ptr 1 0) .nl))) [(64,(.dt (.sl (.st 4)))),(3,dI)] [tI,(.sl (.st 4)),tI] [.bool] (fun p=>Qdg.f K (p.1) (p.2.1) (p.2.2)) (.cs dF .nl) [none,none] []
theorem Qgz(K:Nat):VOk Tryz.prog GD (Qgy K):=vk K (.s .n (.s (.r (ob [2,12,22,32,42,52,63,72,82,92,102,112,122,132,142,152]) [] []) .n)) Tryz.func109 Tryz.ntmps109 v0
def Qe5(K:Nat):FSp TD:=sg 106 (.cs (.dt (.sl (.st 4))) (.cs (dD 2) (.cs (.dt (.int .u32)) (.cs dF (.cs (.fn 159 (.cs (.ptr 0 0) (.cs (.ptr 1 0) .nl))) .nl))))) [(3,dI),(173,(.fn 109 (.cs (.ptr 2 0) (.cs (.ptr 3 0) .nl)))),(64,(.dt (.sl (.st 4)))),(3,dI)] [(.sl (.st 4)),(.st 2),(.int .u32),.bool,tI,(.sl (.st 4)),tI] [(.st 7),.bool] (fun p=>QcC.f K (p.1) (p.2.1) (p.2.2.1) (p.2.2.2.1) (p.2.2.2.2.1) (p.2.2.2.2.2.1) (p.2.2.2.2.2.2)) (.cs (dD 7) (.cs dF .nl)) [none,none,none,none] []
theorem Qe6(K:Nat):VOk Tryz.prog GD (Qe5 K):=vk K (.s .n (.s (.j ⟨[(35,dF)], [], [.bool], [], [], []⟩ .n .n) (.s .n (.s (.r (ob [0,10,20,30,40,52,62,104,76,82,92,116]) [] [6,8]) (.s (.s .n (.g (.s .n (.l ⟨[(6,dI)], [(1000000000013,(.agg (.cs dF (.cs (dD 2) (.cs (.own (.st 6) 55 false) .nl)))))], [tI,.bool,(.st 2),(.sl (.st 6))], [], [], []⟩ (some ⟨[], [(1000000000013,(.agg (.cs dF (.cs (dD 2) (.cs (.own (.st 6) 55 false) .nl)))))], [.bool,(.st 2),(.sl (.st 6))], [], [], []⟩) true (.s .n (.s .n (.j ⟨[], [(1000000000013,(.agg (.cs dF (.cs (dD 2) (.cs (.own (.st 6) 55 false) .nl)))))], [.bool,(.st 2),(.sl (.st 6))], [], [], []⟩ .n .n))))) .n (.s (.j ⟨[(61,dF)], [], [.bool], [], [], []⟩ .n .n) (.s (.r (ob [0,12,22,32,42,52,62,94,76,82,106]) [] []) (.j ⟨[(73,dF)], [(15,(.agg (.cs dI (.cs (dD 4) (.cs (.own tH 37 true) .nl)))))], [.bool,tI,(.st 4),(.sl tH)], [], [], []⟩ .n .n))))) .n))))) Tryz.func106 Tryz.ntmps106 (vl (Z5 K) (vl (Zj K) (vl (qE K) (vl (Qgz K) (vl (QbR K) (vl (QeL K) (vl (Xg K) v0)))))))
def Qa5(K:Nat):FSp TD:=sd 39 [(.sl (.st 4)),(.st 2),(.int .u32),tI] [(.st 7),.bool] (fun p=>Qf2.f K (p.1) (p.2.1) (p.2.2.1) (p.2.2.2))
theorem QiW(K:Nat):VOk Tryz.prog GD (Qa5 K):=vk K (.s .n (.s (.r (ob [0,10,20,32,42,52,62,72,82,92,106,116,122,132,146,152]) [] [4,5]) .n)) Tryz.func39 Tryz.ntmps39 (vl (Qea K) (vl (Qe6 K) v0))
def Qhi(K:Nat):FSp TD:=sg 74 (.cs (dD 1) .nl) [] [(.st 1)] [tB] (fun p=>QeE.f K (p)) (.cs (.own (.int .u8) 5 true) .nl) [] []
theorem Qhj(K:Nat):VOk Tryz.prog GD (Qhi K):=vk K (.s .n (.s (.r (ob [2,12,30,40,26,56,66,76,82]) [] [1]) .n)) Tryz.func74 Tryz.ntmps74 (vl (qx K) (vl (y9 K) (vl (yf K) v0)))
def QbS(K:Nat):FSp TD:=sg 73 (.cs (.dt (.sl (.st 1))) (.cs (.fn 74 .nl) .nl)) [] [(.sl (.st 1))] [tB] (fun p=>X5.f K (p)) (.cs (.own (.int .u8) 5 true) .nl) [] []
theorem QbT(K:Nat):VOk Tryz.prog GD (QbS K):=vk K (.s .n (.s .n (.s (.s .n (.l ⟨[(5,(.own (.int .u8) 5 true)),(13,dI)], [], [tB,tI], [], [], []⟩ (some ⟨[(5,(.own (.int .u8) 5 true))], [], [tB], [], [], []⟩) false .n)) .n))) Tryz.func73 Tryz.ntmps73 (vl (qx K) (vl (Qhj K) v0))
def Qko(K:Nat):FSp TD:=sg 137 (.cs dB .nl) [] [tB] [tB] (fun p=>QhE.f K (p)) (.cs (.own (.int .u8) 5 true) .nl) [] []
theorem Qkp(K:Nat):VOk Tryz.prog GD (Qko K):=vk K .n Tryz.func137 Tryz.ntmps137 (vl (qx K) v0)
def Qkq(K:Nat):FSp TD:=sg 136 (.cs (.ptr 0 0) .nl) [(52,(dD 4))] [(.st 4)] [tB] (fun p=>QhF.f K (p)) (.cs (.own (.int .u8) 5 true) .nl) [none] []
theorem Qkr(K:Nat):VOk Tryz.prog GD (Qkq K):=vk K (.s .n (.s (.s .n (.s (.s (.r (ob [10,20,6,36,46,56,62]) [] [0]) .n) .n)) (.s (.r (ob [10,20,40,50,6,36,66,76,86,92]) [] [0]) .n))) Tryz.func136 Tryz.ntmps136 (vl (Qa3 K) (vl (y9 K) (vl (yf K) (vl (Qkp K) v0))))
def Qks(K:Nat):FSp TD:=sg 92 (.cs (dD 4) (.cs (.fn 136 (.cs (.ptr 0 0) .nl)) .nl)) [(52,(dD 4))] [(.st 4),(.st 4)] [tB] (fun p=>QhG.f K (p.1) (p.2)) (.cs (.own (.int .u8) 5 true) .nl) [none] []
theorem Qkt(K:Nat):VOk Tryz.prog GD (Qks K):=vk K (.s .n (.s .n (.j ⟨[(5,(.own (.int .u8) 5 true))], [], [tB], [], [], []⟩ (.r (ob [2,12,40,50,80,26,36,62,72,96,106,116,122]) [] [2]) .n))) Tryz.func92 Tryz.ntmps92 (vl (qP K) (vl (qx K) (vl (Qgp K) (vl (Qgq K) (vl (yf K) (vl (Qd6 K) (vl (QdA K) (vl (QdB K) (vl (QdC K) (vl (Qkr K) v0))))))))))
def QnX(K:Nat):FSp TD:=sg 77 (.cs (dD 4) .nl) [] [(.st 4)] [tB] (fun p=>Qil.f K (p)) (.cs (.own (.int .u8) 5 true) .nl) [] []
theorem QhQ(K:Nat):VOk Tryz.prog GD (QnX K):=vk K .n Tryz.func77 Tryz.ntmps77 (vl (Qkt K) v0)
def Qbh(K:Nat):FSp TD:=sg 135 (.cs (.dt (.sl tH)) (.cs (.fn 72 .nl) .nl)) [] [(.sl tH)] [tB] (fun p=>Xu.f K (p)) (.cs (.own (.int .u8) 5 true) .nl) [] []
theorem Qbi(K:Nat):VOk Tryz.prog GD (Qbh K):=vk K (.s .n (.s .n (.s (.s .n (.l ⟨[(5,(.own (.int .u8) 5 true)),(13,dI)], [], [tB,tI], [], [], []⟩ (some ⟨[(5,(.own (.int .u8) 5 true))], [], [tB], [], [], []⟩) false .n)) .n))) Tryz.func135 Tryz.ntmps135 (vl (qx K) (vl (y9 K) v0))
def QiX(K:Nat):FSp TD:=sg 76 (.cs (dD 6) .nl) [] [(.st 6)] [tB] (fun p=>Qf3.f K (p)) (.cs (.own (.int .u8) 5 true) .nl) [] []
theorem QiY(K:Nat):VOk Tryz.prog GD (QiX K):=vk K (.s .n (.s (.r (ob [2,12,30,40,60,70,26,56,86,96,106,112]) [] [1]) .n)) Tryz.func76 Tryz.ntmps76 (vl (qx K) (vl (QhQ K) (vl (Qbi K) (vl (yf K) v0))))
def Qbj(K:Nat):FSp TD:=sg 75 (.cs (.dt (.sl (.st 6))) (.cs (.fn 76 .nl) .nl)) [] [(.sl (.st 6))] [tB] (fun p=>Xv.f K (p)) (.cs (.own (.int .u8) 5 true) .nl) [] []
theorem Qbk(K:Nat):VOk Tryz.prog GD (Qbj K):=vk K (.s .n (.s .n (.s (.s .n (.l ⟨[(5,(.own (.int .u8) 5 true)),(13,dI)], [], [tB,tI], [], [], []⟩ (some ⟨[(5,(.own (.int .u8) 5 true))], [], [tB], [], [], []⟩) false .n)) .n))) Tryz.func75 Tryz.ntmps75 (vl (qx K) (vl (QiY K) v0))
def QbU(K:Nat):FSp TD:=sg 18 (.cs (dD 7) .nl) [] [(.st 7)] [tB] (fun p=>Qan.f K (p)) (.cs (.own (.int .u8) 5 true) .nl) [] []
theorem Qku(K:Nat):VOk Tryz.prog GD (QbU K):=vk K (.s .n (.s .n (.s (.r (ob [4,18,22,32,50,60,70,90,100,110,130,140,150,46,86,126,166,176,186,192]) [] [1]) (.s .n (.s (.s .n (.l ⟨[(3,(.own (.int .u8) 5 true)),(39,dI)], [], [tB,tI], [], [], [1]⟩ (some ⟨[(3,(.own (.int .u8) 5 true))], [], [tB], [], [], [1]⟩) false .n)) .n))))) Tryz.func18 Tryz.ntmps18 (vl (Xg K) (vl (Qa3 K) (vl (qx K) (vl (y9 K) (vl (QbT K) (vl (yf K) (vl (Qbk K) (vl (QhQ K) v0))))))))
def QbV(K:Nat):FSp TD:=sp 65 (.cs dF (.cs dI .nl)) [] [.bool,tI] [] (120,true) (fun p=>Yo.fs K (p.1) (p.2)) [] .nl [] []
theorem yg(K:Nat):VOk Tryz.prog GD (QbV K):=vkP K .n Tryz.func65 Tryz.ntmps65 v0 rfl
def Qeb(K:Nat):FSp TD:=sd 110 [tB,tB] [.bool] (fun p=>bytes_HasPrefix.f K (p.1) (p.2))
theorem Qec(K:Nat):VOk Tryz.prog GD (Qeb K):=vk K .n Tryz.func110 Tryz.ntmps110 (vl (Qdz K) v0)
def Qed(K:Nat):FSp TD:=sd 45 [tB,tB] [tB,.bool] (fun p=>bytes_CutPrefix.f K (p.1) (p.2))
theorem Qee(K:Nat):VOk Tryz.prog GD (Qed K):=vk K .n Tryz.func45 Tryz.ntmps45 (vl (Qec K) v0)
def QlQ(K:Nat):FSp TD:=sg 46 (.cs dB .nl) [] [tB] [(.st 10)] (fun p=>Qdh.f K (p)) (.cs (.ptr 0 0) .nl) [] [(176,(dD 10))]
theorem QlR(K:Nat):VOk Tryz.prog GD (QlQ K):=vk K .n Tryz.func46 Tryz.ntmps46 (vl (Js K) v0)
def Qef(K:Nat):FSp TD:=sg 118 (.cs (.ptr 0 0) .nl) [(176,(dD 10))] [(.st 10)] [tI] (fun p=>QB.f K (p)) (.cs dI .nl) [none] []
theorem YE(K:Nat):VOk Tryz.prog GD (Qef K):=vk K .n Tryz.func118 Tryz.ntmps118 v0
def Qct(K:Nat):FSp TD:=sd 113 [tB] [.bool,tI,tI] (fun p=>JS.f K (p))
theorem Qcu(K:Nat):VOk Tryz.prog GD (Qct K):=vk K .n Tryz.func113 Tryz.ntmps113 v0
def QdD(K:Nat):FSp TD:=sg 49 (.cs (.ptr 0 0) (.cs dI .nl)) [(176,(dD 10))] [tI,(.st 10)] [(.st 10)] (fun p=>QZ.f K (p.1) (p.2)) .nl [some (dD 10)] []
theorem Yw(K:Nat):VOk Tryz.prog GD (QdD K):=vk K (.j ⟨[(16,dF)], [], [.bool], [], [], []⟩ .n .n) Tryz.func49 Tryz.ntmps49 v0
def Qe7(K:Nat):FSp TD:=sg 112 (.cs (.ptr 0 0) (.cs (.fn 113 .nl) .nl)) [(176,(dD 10))] [(.st 10)] [.bool,(.st 10)] (fun p=>qV.f K (p)) (.cs dF .nl) [some (dD 10)] []
theorem Qe8(K:Nat):VOk Tryz.prog GD (Qe7 K):=vk K .n Tryz.func112 Tryz.ntmps112 (vl (YE K) (vl (Qcu K) (vl (Yw K) v0)))
def QdE(K:Nat):FSp TD:=sg 47 (.cs (.ptr 0 0) .nl) [(176,(dD 10))] [(.st 10)] [.bool,(.st 10)] (fun p=>Yu.f K (p)) (.cs dF .nl) [some (dD 10)] []
theorem ZP(K:Nat):VOk Tryz.prog GD (QdE K):=vk K .n Tryz.func47 Tryz.ntmps47 (vl (Qe8 K) v0)
def QiZ(K:Nat):FSp TD:=sd 115 [tB] [tI,tI,tI] (fun p=>X6.f K (p))
theorem QdF(K:Nat):VOk Tryz.prog GD (QiZ K):=vk K (.s .n (.s .n (.s (.s .n (.l ⟨[(5,dI),(10,dI)], [], [tI,tI], [], [], []⟩ (some ⟨[], [], [], [], [], []⟩) true (.s .n (.s .n (.s (.s .n (.s (.j ⟨[(24,dF)], [], [.bool], [], [], []⟩ .n .n) .n)) .n))))) .n))) Tryz.func115 Tryz.ntmps115 v0
def QgA(K:Nat):FSp TD:=sg 114 (.cs (.ptr 0 0) (.cs (.fn 115 .nl) .nl)) [(176,(dD 10))] [(.st 10)] [tI,(.st 10)] (fun p=>yG.f K (p)) (.cs dI .nl) [some (dD 10)] []
theorem QgB(K:Nat):VOk Tryz.prog GD (QgA K):=vk K .n Tryz.func114 Tryz.ntmps114 (vl (YE K) (vl (QdF K) (vl (Yw K) v0)))
def Qeg(K:Nat):FSp TD:=sg 48 (.cs (.ptr 0 0) .nl) [(176,(dD 10))] [(.st 10)] [tI,(.st 10)] (fun p=>Qz.f K (p)) (.cs dI .nl) [some (dD 10)] []
theorem qA(K:Nat):VOk Tryz.prog GD (Qeg K):=vk K .n Tryz.func48 Tryz.ntmps48 (vl (QgB K) v0)
def Qcv(K:Nat):FSp TD:=sd 117 [tB] [tH,tI,tI] (fun p=>qZ.f K (p))
theorem Qcw(K:Nat):VOk Tryz.prog GD (Qcv K):=vk K .n Tryz.func117 Tryz.ntmps117 v0
def Qcx(K:Nat):FSp TD:=sg 116 (.cs (.ptr 0 0) (.cs (.fn 117 .nl) .nl)) [(176,(dD 10))] [(.st 10)] [tH,(.st 10)] (fun p=>JU.f K (p)) (.cs dH .nl) [some (dD 10)] []
theorem Qcy(K:Nat):VOk Tryz.prog GD (Qcx K):=vk K .n Tryz.func116 Tryz.ntmps116 (vl (YE K) (vl (Qcw K) (vl (Yw K) v0)))
def QdG(K:Nat):FSp TD:=sg 50 (.cs (.ptr 0 0) .nl) [(176,(dD 10))] [(.st 10)] [tH,(.st 10)] (fun p=>Yj.f K (p)) (.cs dH .nl) [some (dD 10)] []
theorem ja(K:Nat):VOk Tryz.prog GD (QdG K):=vk K .n Tryz.func50 Tryz.ntmps50 (vl (Qcy K) v0)
def Qhk(K:Nat):FSp TD:=sg 52 (.cs dI (.cs (.ptr 0 0) .nl)) [(100,(.ptr 1 0)),(176,(dD 10))] [tI,(.st 10)] [(.st 1),(.st 10)] (fun p=>QbD.f K (p.1) (p.2)) (.cs (dD 1) .nl) [none,some (dD 10)] []
theorem Qhl(K:Nat):VOk Tryz.prog GD (Qhk K):=vk K (.s .n (.s (.r (ob [2,20,16,36,42,56]) [] [1]) .n)) Tryz.func52 Tryz.ntmps52 (vl (qA K) (vl (ja K) v0))
def QbW(K:Nat):FSp TD:=sg 51 (.cs (.ptr 0 0) (.cs dI (.cs dI (.cs (.fn 52 (.cs (.ptr 1 0) .nl)) .nl)))) [(176,(dD 10)),(100,(.ptr 0 0))] [tI,tI,(.st 10)] [(.sl (.st 1)),(.st 10)] (fun p=>JJ.f K (p.1) (p.2.1) (p.2.2)) (.cs (.own (.st 1) 107 true) .nl) [some (dD 10),none] []
theorem QbX(K:Nat):VOk Tryz.prog GD (QbW K):=vk K (.s .n (.j ⟨[], [(0,(dD 10))], [(.st 10)], [], [], []⟩ .n (.s .n (.s (.s .n (.l ⟨[(9,(.own (.st 1) 107 true)),(17,dI)], [(0,(dD 10))], [(.sl (.st 1)),tI,(.st 10)], [], [], []⟩ (some ⟨[(9,(.own (.st 1) 107 true))], [(0,(dD 10))], [(.sl (.st 1)),(.st 10)], [], [], []⟩) false .n)) .n)))) Tryz.func51 Tryz.ntmps51 (vl (Yw K) (vl (YE K) (vl (Qhl K) v0)))
def QlS(K:Nat):FSp TD:=sg 119 (.cs (.ptr 0 0) .nl) [(176,(dD 10))] [(.st 10)] [(.sl (.st 3)),(.st 10)] (fun p=>QbE.f K (p)) (.cs (.own (.st 3) 90 true) .nl) [some (dD 10)] []
theorem QlT(K:Nat):VOk Tryz.prog GD (QlS K):=vk K (.s .n (.s .n (.j ⟨[], [(0,(dD 10))], [(.st 10)], [], [], []⟩ .n (.s .n (.s (.s .n (.l ⟨[(4,(.own (.st 3) 90 true)),(12,dI)], [(0,(dD 10))], [(.sl (.st 3)),tI,(.st 10)], [], [], []⟩ (some ⟨[(4,(.own (.st 3) 90 true))], [(0,(dD 10))], [(.sl (.st 3)),(.st 10)], [], [], []⟩) false .n)) .n))))) Tryz.func119 Tryz.ntmps119 (vl (qA K) (vl (Yw K) (vl (YE K) v0)))
def QbY(K:Nat):FSp TD:=sg 161 (.cs dB (.cs (.ptr 0 0) .nl)) [(3,dI)] [tB,tI] [tB,tI,tI] (fun p=>Jn.f K (p.1) (p.2)) (.cs (.own (.int .u8) 5 true) (.cs dI (.cs dI .nl))) [none] []
theorem QbZ(K:Nat):VOk Tryz.prog GD (QbY K):=vk K .n Tryz.func161 Tryz.ntmps161 (vl (QdF K) (vl (Js K) v0))
def Qe9(K:Nat):FSp TD:=sg 160 (.cs (.ptr 0 0) (.cs (.fn 161 (.cs (.ptr 1 0) .nl)) .nl)) [(176,(dD 10)),(3,dI)] [(.st 10),tI] [tB,(.st 10)] (fun p=>J3.f K (p.1) (p.2)) (.cs (.own (.int .u8) 5 true) .nl) [some (dD 10),none] []
theorem Qfa(K:Nat):VOk Tryz.prog GD (Qe9 K):=vk K .n Tryz.func160 Tryz.ntmps160 (vl (YE K) (vl (QbZ K) (vl (Yw K) v0)))
def QcU(K:Nat):FSp TD:=sg 120 (.cs (.ptr 0 0) (.cs dI .nl)) [(176,(dD 10))] [tI,(.st 10)] [tB,(.st 10)] (fun p=>YD.f K (p.1) (p.2)) (.cs (.own (.int .u8) 5 true) .nl) [some (dD 10)] []
theorem QcV(K:Nat):VOk Tryz.prog GD (QcU K):=vk K .n Tryz.func120 Tryz.ntmps120 (vl (Qfa K) v0)
def QnY(K:Nat):FSp TD:=sg 55 (.cs (.ptr 0 0) .nl) [(176,(dD 10))] [(.st 10)] [(.st 4),(.st 10)] (fun p=>Qdi.f K (p)) (.cs (dD 4) .nl) [some (dD 10)] []
theorem QhR(K:Nat):VOk Tryz.prog GD (QnY K):=vk K (.s .n (.s .n (.j ⟨[], [(0,(dD 10)),(3,(.agg (.cs dI (.cs dI (.cs dI (.cs dI (.cs dI (.cs dF (.cs dF (.cs dI (.cs dI (.cs dI (.cs dH (.cs (.dt (.sl (.st 3))) (.cs dB (.cs dH (.cs dF (.cs dH .nl))))))))))))))))))], [(.st 10),tI,tI,tI,tI,tI,.bool,.bool,tI,tI,tI,tH,(.sl (.st 3)),tB,tH,.bool,tH], [], [], []⟩ (.s .n (.s .n (.s .n (.j ⟨[(33,dF)], [], [.bool], [], [], []⟩ .n .n)))) (.j ⟨[], [(0,(dD 10))], [(.st 10)], [], [], []⟩ .n .n)))) Tryz.func55 Tryz.ntmps55 (vl (qA K) (vl (QlT K) (vl (ZP K) (vl (ja K) (vl (QcV K) (vl (Yw K) (vl (qP K) (vl (YE K) v0))))))))
def Qhm(K:Nat):FSp TD:=sg 54 (.cs dI (.cs (.ptr 0 0) .nl)) [(100,(.ptr 1 0)),(176,(dD 10))] [tI,(.st 10)] [(.st 6),(.st 10)] (fun p=>ZK.f K (p.1) (p.2)) (.cs (dD 6) .nl) [none,some (dD 10)] []
theorem Qhn(K:Nat):VOk Tryz.prog GD (Qhm K):=vk K .n Tryz.func54 Tryz.ntmps54 (vl (QhR K) v0)
def Qbl(K:Nat):FSp TD:=sg 53 (.cs (.ptr 0 0) (.cs dI (.cs dI (.cs (.fn 54 (.cs (.ptr 1 0) .nl)) .nl)))) [(176,(dD 10)),(100,(.ptr 0 0))] [tI,tI,(.st 10)] [(.sl (.st 6)),(.st 10)] (fun p=>Jw.f K (p.1) (p.2.1) (p.2.2)) (.cs (.own (.st 6) 55 true) .nl) [some (dD 10),none] []
theorem Qbm(K:Nat):VOk Tryz.prog GD (Qbl K):=vk K (.s .n (.j ⟨[], [(0,(dD 10))], [(.st 10)], [], [], []⟩ .n (.s .n (.s (.s .n (.l ⟨[(9,(.own (.st 6) 55 true)),(17,dI)], [(0,(dD 10))], [(.sl (.st 6)),tI,(.st 10)], [], [], []⟩ (some ⟨[(9,(.own (.st 6) 55 true))], [(0,(dD 10))], [(.sl (.st 6)),(.st 10)], [], [], []⟩) false .n)) .n)))) Tryz.func53 Tryz.ntmps53 (vl (Yw K) (vl (YE K) (vl (Qhn K) v0)))
def Qfb(K:Nat):FSp TD:=sg 58 (.cs dI (.cs (.ptr 0 0) .nl)) [(100,(.ptr 1 0)),(176,(dD 10))] [tI,(.st 10)] [tH,(.st 10)] (fun p=>ZY.f K (p.1) (p.2)) (.cs dH .nl) [none,some (dD 10)] []
theorem Qfc(K:Nat):VOk Tryz.prog GD (Qfb K):=vk K .n Tryz.func58 Tryz.ntmps58 (vl (ja K) v0)
def Qbn(K:Nat):FSp TD:=sg 57 (.cs (.ptr 0 0) (.cs dI (.cs dI (.cs (.fn 58 (.cs (.ptr 1 0) .nl)) .nl)))) [(176,(dD 10)),(100,(.ptr 0 0))] [tI,tI,(.st 10)] [(.sl tH),(.st 10)] (fun p=>J8.f K (p.1) (p.2.1) (p.2.2)) (.cs (.own tH 37 true) .nl) [some (dD 10),none] []
theorem Qbo(K:Nat):VOk Tryz.prog GD (Qbn K):=vk K (.s .n (.j ⟨[], [(0,(dD 10))], [(.st 10)], [], [], []⟩ .n (.s .n (.s (.s .n (.l ⟨[(9,(.own tH 37 true)),(17,dI)], [(0,(dD 10))], [(.sl tH),tI,(.st 10)], [], [], []⟩ (some ⟨[(9,(.own tH 37 true))], [(0,(dD 10))], [(.sl tH),(.st 10)], [], [], []⟩) false .n)) .n)))) Tryz.func57 Tryz.ntmps57 (vl (Yw K) (vl (YE K) (vl (Qfc K) v0)))
def Qho(K:Nat):FSp TD:=sg 56 (.cs dI (.cs (.ptr 0 0) .nl)) [(100,(.ptr 1 0)),(176,(dD 10))] [tI,(.st 10)] [(.st 6),(.st 10)] (fun p=>ZL.f K (p.1) (p.2)) (.cs (dD 6) .nl) [none,some (dD 10)] []
theorem Qhp(K:Nat):VOk Tryz.prog GD (Qho K):=vk K (.s .n (.s (.r (ob [2,20,54,16,36,42,66]) [] [1]) (.s (.r (ob [0,12,30,26,46,52,66]) [] [1]) .n))) Tryz.func56 Tryz.ntmps56 (vl (qA K) (vl (QhR K) (vl (Qbo K) v0)))
def Z8(K:Nat):FSp TD:=sg 53 (.cs (.ptr 0 0) (.cs dI (.cs dI (.cs (.fn 56 (.cs (.ptr 1 0) .nl)) .nl)))) [(176,(dD 10)),(100,(.ptr 0 0))] [tI,tI,(.st 10)] [(.sl (.st 6)),(.st 10)] (fun p=>Je.f K (p.1) (p.2.1) (p.2.2)) (.cs (.own (.st 6) 55 true) .nl) [some (dD 10),none] []
theorem Z9(K:Nat):VOk Tryz.prog GD (Z8 K):=vk K (.s .n (.j ⟨[], [(0,(dD 10))], [(.st 10)], [], [], []⟩ .n (.s .n (.s (.s .n (.l ⟨[(9,(.own (.st 6) 55 true)),(17,dI)], [(0,(dD 10))], [(.sl (.st 6)),tI,(.st 10)], [], [], []⟩ (some ⟨[(9,(.own (.st 6) 55 true))], [(0,(dD 10))], [(.sl (.st 6)),(.st 10)], [], [], []⟩) false .n)) .n)))) Tryz.func53 Tryz.ntmps53 (vl (Yw K) (vl (YE K) (vl (Qhp K) v0)))
def QdH(K:Nat):FSp TD:=sg 59 (.cs (.ptr 0 0) .nl) [(176,(dD 10))] [(.st 10)] [tI] (fun p=>Y3.f K (p)) (.cs dI .nl) [none] []
theorem QdI(K:Nat):VOk Tryz.prog GD (QdH K):=vk K .n Tryz.func59 Tryz.ntmps59 (vl (YE K) v0)
def Qb0(K:Nat):FSp TD:=sd 15 [tB] [(.st 7),tI] (fun p=>Qao.f K (p))
theorem Qkv(K:Nat):VOk Tryz.prog GD (Qb0 K):=vk K (.s .n (.s .n (.s .n (.s .n (.s .n (.s .n (.j ⟨[], [(1000000006,(dD 10))], [(.st 10)], [], [], []⟩ .n (.s .n (.s (.r (ob [0,12,30,26,46,52,62,76]) [] [6]) (.j ⟨[], [(7,(.agg (.cs dF (.cs (.agg (.cs dI (.cs dH (.cs (.own (.st 1) 107 true) .nl)))) (.cs (.own (.st 6) 55 true) .nl))))),(1000000006,(dD 10))], [.bool,tI,tH,(.sl (.st 1)),(.sl (.st 6)),(.st 10)], [], [], []⟩ (.s .n (.s .n (.r (ob [0,12,30,40,50,60,26,76,82,96]) [] [6,7]))) .n)))))))))) Tryz.func15 Tryz.ntmps15 (vl (Qee K) (vl (QlR K) (vl (ZP K) (vl (qA K) (vl (Yw K) (vl (ja K) (vl (QbX K) (vl (Qbm K) (vl (Z9 K) (vl (QdI K) (vl (Xg K) v0)))))))))))
def Qi0(K:Nat):FSp TD:=sg 178 (.cs dI (.cs (.ptr 0 0) (.cs (.ptr 1 0) (.cs (.ptr 2 0) .nl)))) [(5,(.dt (.int .u8))),(37,dH),(37,dH)] [tI,(.int .u8),tH,tH] [(.int .u8)] (fun p=>QaP.f K (p.1) (p.2.1) (p.2.2.1) (p.2.2.2)) .nl [some (.dt (.int .u8)),none,none] []
theorem Qi1(K:Nat):VOk Tryz.prog GD (Qi0 K):=vk K (.r (ob [2,12,22,32,42,52,62,72,82,96]) [] []) Tryz.func178 Tryz.ntmps178 v0
def QlU(K:Nat):FSp TD:=sd 140 [tH,tH] [.bool] (fun p=>X7.f K (p.1) (p.2))
theorem QgC(K:Nat):VOk Tryz.prog GD (QlU K):=vk K (.s .n (.s .n (.s .n (.s (.s .n (.l ⟨[(9,dI)], [(5,(.dt (.int .u8)))], [tI,(.int .u8)], [], [], []⟩ (some ⟨[], [(5,(.dt (.int .u8)))], [(.int .u8)], [], [], [2,3]⟩) false .n)) .n)))) Tryz.func140 Tryz.ntmps140 (vl (Qi1 K) v0)
def Qhq(K:Nat):FSp TD:=sd 80 [(.st 11),tH] [.bool] (fun p=>Xm.f K (p.1) (p.2))
theorem QcE(K:Nat):VOk Tryz.prog GD (Qhq K):=vk K .n Tryz.func80 Tryz.ntmps80 (vl (QgC K) v0)
def Qb1(K:Nat):FSp TD:=sd 19 [(.st 0),(.st 2)] [tI] (fun p=>Qap.f K (p.1) (p.2))
theorem Qkw(K:Nat):VOk Tryz.prog GD (Qb1 K):=vk K (.s .n (.s (.j ⟨[(17,dF)], [], [.bool], [], [], []⟩ .n .n) (.s .n (.s (.s .n (.l ⟨[(21,dI)], [(5,(.dt (.vec 4 .bool)))], [tI,(.vec 4 .bool)], [], [], []⟩ (some ⟨[], [], [], [], [], [5]⟩) true (.s .n (.s .n (.s (.s .n (.s (.j ⟨[(38,dF)], [], [.bool], [], [], []⟩ .n .n) .n)) .n))))) .n)))) Tryz.func19 Tryz.ntmps19 (vl (Qco K) (vl (XD K) (vl (Qgv K) (vl (QcE K) v0))))
def Qkx(K:Nat):FSp TD:=sd 127 [(.st 4)] [tH] (fun p=>y7.f K (p))
theorem QeM(K:Nat):VOk Tryz.prog GD (Qkx K):=vk K .n Tryz.func127 Tryz.ntmps127 (vl (QeJ K) (vl (Qgr K) v0))
def Qaa(K:Nat):FSp TD:=sg 169 (.cs (.ptr 0 0) .nl) [(189,(.agg (.cs (.agg (.cs (.own tH 37 true) .nl)) (.cs dI .nl))))] [(.sl tH),tI] [tH,(.sl tH),tI] (fun p=>qL.f K (p.1) (p.2)) (.cs dH .nl) [some (.agg (.cs (.agg (.cs (.own tH 37 true) .nl)) (.cs dI .nl)))] []
theorem Qab(K:Nat):VOk Tryz.prog GD (Qaa K):=vk K (.s .n (.s (.r (ob [2,12,22,32,42,52,62,72,82,92,102,112,124,136]) [] []) (.s (.r (ob [0,12,22,32,42,52,62,72,82,92,102,116,122,132,146]) [] []) .n))) Tryz.func169 Tryz.ntmps169 v0
def Zu(K:Nat):FSp TD:=sg 170 (.cs (.ptr 0 0) (.cs dH .nl)) [(189,(.agg (.cs (.agg (.cs (.own tH 37 true) .nl)) (.cs dI .nl))))] [tH,(.sl tH),tI] [(.sl tH),tI] (fun p=>qj.f K (p.1) (p.2.1) (p.2.2)) .nl [some (.agg (.cs (.agg (.cs (.own tH 37 true) .nl)) (.cs dI .nl)))] []
theorem Zv(K:Nat):VOk Tryz.prog GD (Zu K):=vk K (.s .n (.r (ob [0,12,22,32,42,52,64,76,82,92,106]) [] [])) Tryz.func170 Tryz.ntmps170 v0
def Qfd(K:Nat):FSp TD:=sg 126 (.cs (.ptr 0 0) (.cs dH .nl)) [(189,(.agg (.cs (.agg (.cs (.own tH 37 true) .nl)) (.cs dI .nl))))] [tH,(.sl tH),tI] [(.sl tH),tI] (fun p=>Xe.f K (p.1) (p.2.1) (p.2.2)) .nl [some (.agg (.cs (.agg (.cs (.own tH 37 true) .nl)) (.cs dI .nl)))] []
theorem Qfe(K:Nat):VOk Tryz.prog GD (Qfd K):=vk K (.s .n (.s .n (.s (.s .n (.l ⟨[(4,dI)], [(0,(.agg (.cs (.agg (.cs (.own tH 37 true) .nl)) (.cs dI .nl)))),(3,dH)], [tI,(.sl tH),tI,tH], [], [], []⟩ (some ⟨[], [(0,(.agg (.cs (.agg (.cs (.own tH 37 true) .nl)) (.cs dI .nl)))),(3,dH)], [(.sl tH),tI,tH], [], [], []⟩) false (.s .n (.s (.r (ob [2,12,22,40,36,56,66]) [] [3]) .n)))) (.s (.r (ob [2,12,22,32,46]) [] []) .n)))) Tryz.func126 Tryz.ntmps126 (vl (Qab K) (vl (Qa4 K) (vl (Zv K) v0)))
def Qeh(K:Nat):FSp TD:=sg 171 (.cs (.ptr 0 0) .nl) [(189,(.agg (.cs (.agg (.cs (.own tH 37 true) .nl)) (.cs dI .nl))))] [(.sl tH),tI] [tI,(.sl tH),tI] (fun p=>X8.f K (p.1) (p.2)) (.cs dI .nl) [some (.agg (.cs (.agg (.cs (.own tH 37 true) .nl)) (.cs dI .nl)))] []
theorem Qei(K:Nat):VOk Tryz.prog GD (Qeh K):=vk K .n Tryz.func171 Tryz.ntmps171 v0
def Zw(K:Nat):FSp TD:=sg 172 (.cs (.ptr 0 0) .nl) [(189,(.agg (.cs (.agg (.cs (.own tH 37 true) .nl)) (.cs dI .nl))))] [(.sl tH),tI] [(.sl tH),tI] (fun p=>ql.f K (p.1) (p.2)) (.cs (.fn 197 (.cs (.ptr 1 0) .nl)) .nl) [some (.agg (.cs (.agg (.cs (.own tH 37 true) .nl)) (.cs dI .nl)))] [(264,(.ptr 0 0))]
theorem Zx(K:Nat):VOk Tryz.prog GD (Zw K):=vk K .n Tryz.func172 Tryz.ntmps172 v0
def Qej(K:Nat):FSp TD:=sg 128 (.cs (.ptr 0 0) .nl) [(189,(.agg (.cs (.agg (.cs (.own tH 37 true) .nl)) (.cs dI .nl))))] [(.sl tH),tI] [tH,(.sl tH),tI] (fun p=>yH.f K (p.1) (p.2)) (.cs dH .nl) [some (.agg (.cs (.agg (.cs (.own tH 37 true) .nl)) (.cs dI .nl)))] []
theorem Qek(K:Nat):VOk Tryz.prog GD (Qej K):=vk K (.s .n (.s .n (.s .n (.s .n (.s (.s .n (.g (.s .n (.l ⟨[(3,dI)], [(1000000000003,dH),(1000000000004,dF)], [tI,tH,.bool], [], [], []⟩ (some ⟨[], [(1000000000003,dH),(1000000000004,dF)], [tH,.bool], [], [], []⟩) false (.s .n (.j ⟨[], [(1000000000003,dH),(1000000000004,dF)], [tH,.bool], [], [], []⟩ .n .n)))) .n .n)) .n))))) Tryz.func128 Tryz.ntmps128 (vl (Qei K) (vl (Qau K) (vl (Zx K) (vl (Qa4 K) v0))))
def Qky(K:Nat):FSp TD:=sd 21 [(.st 0),(.st 4)] [.bool] (fun p=>Qch.f K (p.1) (p.2))
theorem Qkz(K:Nat):VOk Tryz.prog GD (Qky K):=vk K (.s .n (.s .n (.j ⟨[(4,dF)], [], [.bool], [], [], [2,3]⟩ .n .n))) Tryz.func21 Tryz.ntmps21 (vl (QcD K) (vl (qP K) (vl (QbP K) (vl (QcE K) v0))))
def Qa6(K:Nat):FSp TD:=sp 129 (.cs (dD 12) (.cs (dD 4) .nl)) [] [(.st 12),(.st 4)] [] (120,true) (fun p=>Y6.fs K (p.1) (p.2)) [] .nl [] []
theorem yM(K:Nat):VOk Tryz.prog GD (Qa6 K):=vkP K .n Tryz.func129 Tryz.ntmps129 (vl (Qkz K) (vl (yg K) v0)) rfl
def Qi2(K:Nat):FSp TD:=sd 198 [tI,tI,tI] [.bool] (fun p=>qM.f K (p.1) (p.2.1) (p.2.2))
theorem XF(K:Nat):VOk Tryz.prog GD (Qi2 K):=vk K .n Tryz.func198 Tryz.ntmps198 v0
def QnZ(K:Nat):FSp TD:=sd 173 [(.sl (.st 3))] [.bool] (fun p=>Qci.f K (p))
theorem Qel(K:Nat):VOk Tryz.prog GD (QnZ K):=vk K (.s .n (.s .n (.s .n (.s (.s .n (.l ⟨[(3,dI),(12,dI)], [], [tI,tI], [], [], []⟩ (some ⟨[], [], [], [], [], []⟩) true (.s .n (.s .n (.j ⟨[(3,dI)], [], [tI], [], [], []⟩ (.s .n (.s (.j ⟨[(26,dF)], [], [.bool], [], [], []⟩ .n .n) .n)) .n))))) .n)))) Tryz.func173 Tryz.ntmps173 (vl (XF K) v0)
def Qn0(K:Nat):FSp TD:=sd 174 [(.sl (.st 3))] [(.st 15)] (fun p=>Qdj.f K (p))
theorem QhS(K:Nat):VOk Tryz.prog GD (Qn0 K):=vk K .n Tryz.func174 Tryz.ntmps174 (vl (Qel K) (vl (Jl K) v0))
def QkA(K:Nat):FSp TD:=sd 179 [(.st 16),(.st 4),tI] [(.st 16),.bool] (fun p=>Qcj.f K (p.1) (p.2.1) (p.2.2))
theorem QkB(K:Nat):VOk Tryz.prog GD (QkA K):=vk K (.s .n (.s (.j ⟨[(25,dF)], [], [.bool], [], [], []⟩ .n .n) (.s (.r (ob [2,12,30,40,26,56,66,76,82,96]) [] [4]) .n))) Tryz.func179 Tryz.ntmps179 (vl (Qel K) (vl (J7 K) (vl (QhS K) v0)))
def QlV(K:Nat):FSp TD:=sd 199 [(.st 15)] [.bool] (fun p=>QbF.f K (p))
theorem QgD(K:Nat):VOk Tryz.prog GD (QlV K):=vk K .n Tryz.func199 Tryz.ntmps199 (vl (XF K) v0)
def QlW(K:Nat):FSp TD:=sg 211 (.cs (.dt (.sl (.st 3))) .nl) [] [(.sl (.st 3))] [(.sl (.st 3))] (fun p=>Qdk.f K (p)) (.cs (.fn 212 (.cs (.ptr 0 0) .nl)) .nl) [] [(50,(.dt (.sl (.st 3))))]
theorem QlX(K:Nat):VOk Tryz.prog GD (QlW K):=vk K .n Tryz.func211 Tryz.ntmps211 v0
def Qi3(K:Nat):FSp TD:=sd 209 [(.st 15)] [tI] (fun p=>jR.f K (p))
theorem Qi4(K:Nat):VOk Tryz.prog GD (Qi3 K):=vk K (.s .n (.s .n (.s (.s .n (.g (.s .n (.l ⟨[(3,dI)], [], [tI], [], [], []⟩ (some ⟨[], [], [], [], [], []⟩) true .n)) .n (.j ⟨[(28,dF)], [], [.bool], [], [], []⟩ .n .n))) .n))) Tryz.func209 Tryz.ntmps209 (vl (QlX K) v0)
def QlY(K:Nat):FSp TD:=sd 203 [(.st 15)] [tI] (fun p=>JL.f K (p))
theorem Qa7(K:Nat):VOk Tryz.prog GD (QlY K):=vk K .n Tryz.func203 Tryz.ntmps203 (vl (Qi4 K) v0)
def Qn1(K:Nat):FSp TD:=sd 200 [(.st 15),tI] [(.st 4),.bool] (fun p=>Qdl.f K (p.1) (p.2))
theorem Qn2(K:Nat):VOk Tryz.prog GD (Qn1 K):=vk K (.s .n (.s (.j ⟨[(23,dF)], [], [.bool], [], [], []⟩ .n .n) (.s .n (.s (.j ⟨[(27,dF)], [], [.bool], [], [], []⟩ .n .n) .n)))) Tryz.func200 Tryz.ntmps200 (vl (QgD K) (vl (XF K) (vl (Qa7 K) v0)))
def QlZ(K:Nat):FSp TD:=sd 201 [(.st 15),(.st 15),.bool] [(.st 15),.bool] (fun p=>X9.f K (p.1) (p.2.1) (p.2.2))
theorem Ql0(K:Nat):VOk Tryz.prog GD (QlZ K):=vk K .n Tryz.func201 Tryz.ntmps201 v0
def Qp9(K:Nat):FSp TD:=sd 202 [(.st 4)] [(.st 17)] (fun p=>QcO.f K (p))
theorem Qqa(K:Nat):VOk Tryz.prog GD (Qp9 K):=vk K .n Tryz.func202 Tryz.ntmps202 v0
def Ql1(K:Nat):FSp TD:=sd 210 [(.st 15)] [(.st 15)] (fun p=>Qf4.f K (p))
theorem QgE(K:Nat):VOk Tryz.prog GD (Ql1 K):=vk K .n Tryz.func210 Tryz.ntmps210 v0
def QgF(K:Nat):FSp TD:=sd 204 [(.st 15),(.st 4)] [(.st 15)] (fun p=>XB.f K (p.1) (p.2))
theorem QgG(K:Nat):VOk Tryz.prog GD (QgF K):=vk K (.s .n (.s .n (.s .n (.j ⟨[], [(2,(dD 15))], [(.st 15)], [], [], [3]⟩ (.j ⟨[(11,dF)], [], [.bool], [], [], []⟩ .n .n) .n)))) Tryz.func204 Tryz.ntmps204 (vl (Qa7 K) (vl (QgE K) v0))
def Qi5(K:Nat):FSp TD:=sd 205 [(.st 15),tI] [(.st 15)] (fun p=>QaQ.f K (p.1) (p.2))
theorem Qi6(K:Nat):VOk Tryz.prog GD (Qi5 K):=vk K (.s .n (.s .n (.s (.s .n (.s (.s (.r (ob [2,12,22,32,42,52,66]) [] []) (.j ⟨[(29,dF)], [], [.bool], [], [], []⟩ .n .n)) .n)) .n))) Tryz.func205 Tryz.ntmps205 (vl (Qa7 K) (vl (QgE K) v0))
def Qqb(K:Nat):FSp TD:=sd 175 [(.st 15),(.st 4),tI] [(.st 15),.bool] (fun p=>Qf5.f K (p.1) (p.2.1) (p.2.2))
theorem QkC(K:Nat):VOk Tryz.prog GD (Qqb K):=vk K (.s .n (.s (.j ⟨[(30,dF)], [], [.bool], [], [], []⟩ .n .n) (.s .n (.s .n (.s .n (.s (.s .n (.j ⟨[], [], [], [], [], [9]⟩ (.s (.s (.s (.s (.s .n (.s .n (.j ⟨[(49,dF)], [], [.bool], [], [], [9]⟩ .n .n))) .n) (.s (.s (.r (ob [0,10,20,30,42,56,62,76,82,96]) [] [4]) (.s (.r (ob [0,10,22,33,42,60,56,76,82,92,106,112,122,136,142]) [] [3,4,8]) .n)) .n)) (.s (.s .n (.s (.r (ob [0,10,22,33,42,60,56,76,82,92,106,112,122,136,142]) [] [3,4,8]) .n)) .n)) (.s (.j ⟨[(111,dF)], [], [.bool], [], [], []⟩ (.r (ob [2,12,22,33,40,50,62,76,82,92,103,112,122,132,142,152,162,173,182,192,202,212,222,232]) [] [4]) .n) .n)) .n)) .n)))))) Tryz.func175 Tryz.ntmps175 (vl (QgD K) (vl (XF K) (vl (Qn2 K) (vl (Ql0 K) (vl (Qqa K) (vl (Qa7 K) (vl (QgG K) (vl (Qi6 K) v0))))))))
def Ql2(K:Nat):FSp TD:=sd 180 [(.st 16),(.st 4),tI] [(.st 16),.bool] (fun p=>Za.f K (p.1) (p.2.1) (p.2.2))
theorem QgH(K:Nat):VOk Tryz.prog GD (Ql2 K):=vk K (.s .n (.s .n (.s (.r (ob [2,12,22,32,42,52,62,72,124,86,92,102,110,136,142]) [] []) .n))) Tryz.func180 Tryz.ntmps180 (vl (QkC K) (vl (J7 K) v0))
def Qhr(K:Nat):FSp TD:=sd 181 [(.st 16),(.st 4),tI] [(.st 16),.bool] (fun p=>ZM.f K (p.1) (p.2.1) (p.2.2))
theorem Qhs(K:Nat):VOk Tryz.prog GD (Qhr K):=vk K (.s .n (.s (.j ⟨[(53,dF)], [], [.bool], [], [], []⟩ (.r (ob [2,12,22,32,42,52,63,72,82,92,102,112,122,132,142,152,162,172,182,193,202,212,222,232,242,252,262,272,282,292,302,312,322,332,342,352,363,372,382,392,402,412,422,432,442,452]) [] []) .n) .n)) Tryz.func181 Tryz.ntmps181 (vl (QgH K) v0)
def Qi7(K:Nat):FSp TD:=sd 182 [(.st 16),(.st 4),tI] [(.st 16),.bool] (fun p=>QaR.f K (p.1) (p.2.1) (p.2.2))
theorem Qi8(K:Nat):VOk Tryz.prog GD (Qi7 K):=vk K (.s .n (.s (.s (.r (ob [2,12,22,32,42,52,62,72,82]) [] []) .n) .n)) Tryz.func182 Tryz.ntmps182 v0
def Qqc(K:Nat):FSp TD:=sd 82 [(.st 16),(.st 4),tI] [(.st 16),.bool] (fun p=>Qim.f K (p.1) (p.2.1) (p.2.2))
theorem Qqd(K:Nat):VOk Tryz.prog GD (Qqc K):=vkM K (.s .n (.s (.j ⟨[(18,dF)], [], [.bool], [], [], []⟩ .n .n) (.s (.r (ob [10,20,50,60,70,6,32,42,86,92,102,116,122]) [] [3,4]) .n))) Tryz.func82 Tryz.ntmps82 (vl (qP K) (vl (QkB K) (vl (QgH K) (vl (Qhs K) (vl (Qi8 K) v0))))) Qgn (Quo Qv1 Qgo)
def Qht(K:Nat):FSp TD:=sd 90 [(.st 15)] [tI] (fun p=>Xn.f K (p))
theorem QcF(K:Nat):VOk Tryz.prog GD (Qht K):=vk K .n Tryz.func90 Tryz.ntmps90 v0
def Qi9(K:Nat):FSp TD:=sg 26 (.cs (dD 16) .nl) [] [(.st 16)] [(.sl (.st 8))] (fun p=>QaS.f K (p)) (.cs (.own (.st 8) 29 true) .nl) [] []
theorem Qja(K:Nat):VOk Tryz.prog GD (Qi9 K):=vk K (.s .n (.s .n (.s (.s .n (.l ⟨[(3,(.own (.st 8) 29 true)),(9,dI)], [], [(.sl (.st 8)),tI], [], [], [1]⟩ (some ⟨[(3,(.own (.st 8) 29 true))], [], [(.sl (.st 8))], [], [], [1]⟩) false (.s .n (.s .n (.s (.s .n (.r (ob [0,10,20,32,46,52,64,76,82]) [] [5])) .n))))) .n))) Tryz.func26 Tryz.ntmps26 (vl (QcF K) v0)
def jo(K:Nat):FSp TD:=sp 67 (.cs (dD 12) (.cs (dD 7) .nl)) [] [(.st 12),(.st 7)] [tI,(.sl tI),(.sl (.st 8))] (120,true) (fun p=>Y5.fs K (p.1) (p.2)) [] (.cs (.agg (.cs dI (.cs (.own tI 3 true) (.cs (.own (.st 8) 29 true) .nl)))) .nl) [] []
theorem Qb2(K:Nat):VOk Tryz.prog GD (jo K):=vkP K (.s .n (.s .n (.s (.s .n (.l ⟨[(17,dI)], [(5,(.agg (.cs (.agg (.cs (.own tH 37 true) .nl)) (.cs dI .nl))))], [tI,(.sl tH),tI], [], [], []⟩ (some ⟨[], [(5,(.agg (.cs (.agg (.cs (.own tH 37 true) .nl)) (.cs dI .nl))))], [(.sl tH),tI], [], [], []⟩) false .n)) (.s (.q (ob [10,20,30,6,42]) [] [3]) (.s .n (.s (.s .n (.l ⟨[(35,dI)], [(8,(dD 16))], [tI,(.st 16)], [], [], [3,5]⟩ (some ⟨[], [(8,(dD 16))], [(.st 16)], [], [], [2,3,5]⟩) true .n)) (.s .n (.s (.s .n (.l ⟨[(61,dI)], [(12,(.agg (.cs dI (.cs (.own tI 3 true) (.cs (.own (.st 8) 29 true) .nl)))))], [tI,tI,(.sl tI),(.sl (.st 8))], [], [], [8]⟩ (some ⟨[], [(12,(.agg (.cs dI (.cs (.own tI 3 true) (.cs (.own (.st 8) 29 true) .nl)))))], [tI,(.sl tI),(.sl (.st 8))], [], [], [8]⟩) false .n)) .n)))))))) Tryz.func67 Tryz.ntmps67 (vl (QeM K) (vl (Qfe K) (vl (Qek K) (vl (yg K) (vl (yM K) (vl (Qqd K) (vl (Qja K) v0))))))) rfl
def QgI(K:Nat):FSp TD:=sp 194 (.cs (.ptr 0 0) (.cs (.ptr 1 0) .nl)) [(3,dI),(33,(.dt (.sl tH)))] [tI,(.sl tH)] [tH,tI] (259,false) (fun p=>QaT.fs K (p.1) (p.2)) [true,true] (.cs dH .nl) [some dI,none] []
theorem QgJ(K:Nat):VOk Tryz.prog GD (QgI K):=vkP K .n Tryz.func194 Tryz.ntmps194 v0 rfl
def Qaw(K k:Nat):FSp TD:=sp 150 (.cs dI (.cs dI (.cs (.ptr 0 0) (.cs (.ptr 1 0) (.cs (.ptr 2 0) .nl))))) [(37,dH),(104,(.fn 194 (.cs (.ptr 3 0) (.cs (.ptr 4 0) .nl)))),(218,(.fn 150 (.cs (.ptr 0 0) (.cs (.ptr 1 0) (.cs (.ptr 2 0) .nl))))),(3,dI),(33,(.dt (.sl tH)))] [tI,tI,tH,tI,(.sl tH)] [tH,tI] (259,false) (fun p=>Yp.r K k (p.1) (p.2.1) (p.2.2.1) (p.2.2.2.1) (p.2.2.2.2)) [true,true,true,false,true] (.cs dH .nl) [none,none,none,some dI,none] []
theorem Qem(K:Nat):∀k,VOk Tryz.prog GD (Qaw K k):=by
 intro k
 induction k with
 |zero=>exact Qup Tryz.func150 rfl (by kernel_rfl) (fun _=>rfl) (fun _=>rfl)
 |succ k ih=>
  exact vkP K (.s .n (.s .n (.s (.r (ob [2,20,44,16,36,52,66]) [] [3]) (.s (.s .n (.s (.s (.r (ob [2,12,22,40,36,56,66]) [] [9]) .n) .n)) (.s (.r (ob [0,12,22,32,42,52,62,72,86,96,106]) [] [9]) .n))))) Tryz.func150 Tryz.ntmps150 (vl (QbQ K) (vl (QgJ K) (vl (Qa4 K) (vl ih v0)))) rfl
def Qen(K:Nat):FSp TD:=Qaw K K
theorem Qeo(K:Nat):VOk Tryz.prog GD (Qen K):=Qem K K
def Zl(K:Nat):FSp TD:=sp 149 (.cs (.fn 194 (.cs (.ptr 0 0) (.cs (.ptr 1 0) .nl))) (.cs (.ptr 2 0) (.cs (.ptr 3 0) (.cs (.ptr 4 0) (.cs (.ptr 5 0) .nl))))) [(3,dI),(33,(.dt (.sl tH))),(37,dH),(3,dI),(3,dI),(37,dH)] [tI,(.sl tH),tH,tI,tI,tH] [tI,tH] (259,false) (fun p=>QaU.fs K (p.1) (p.2.1) (p.2.2.1) (p.2.2.2.1) (p.2.2.2.2.1) (p.2.2.2.2.2)) [false,true,true,true,true,true] .nl [some dI,none,none,none,none,some dH] []
theorem QgK(K:Nat):VOk Tryz.prog GD (Zl K):=vkP K .n Tryz.func149 Tryz.ntmps149 (vl (Qeo K) v0) rfl
def Qa8(K:Nat):FSp TD:=sg 148 (.cs (.dt (.sl tH)) (.cs (.fn 149 (.cs (.ptr 0 0) (.cs (.ptr 1 0) (.cs (.ptr 2 0) (.cs (.ptr 3 0) .nl))))) .nl)) [(37,dH),(3,dI),(3,dI),(37,dH)] [(.sl tH),tH,tI,tI,tH] [.bool,tH] (fun p=>QaV.f K (p.1) (p.2.1) (p.2.2.1) (p.2.2.2.1) (p.2.2.2.2)) (.cs dF .nl) [none,none,none,some dH] []
theorem Qjb(K:Nat):VOk Tryz.prog GD (Qa8 K):=QpZ tbok (n:=14) Tryz.func148 rfl Tryz.ntmps148 (by kernel_rfl) (sps:= [Zl K]) (rvs:= []) (mps:= []) (ji (QgK K) QmP) Qgn Qgo (by kernel_rfl:(fun p=>(Qa8 K).fn p)=funR (T:=TD) (cx Tryz.prog GD [Zl K] K 14 [] []) (Qa8 K) Tryz.f148 .n .n .n)
def Qjc(K:Nat):FSp TD:=sd 94 [tH,tI,tI,(.sl tH)] [tH,.bool] (fun p=>QaW.f K (p.1) (p.2.1) (p.2.2.1) (p.2.2.2))
theorem Qjd(K:Nat):VOk Tryz.prog GD (Qjc K):=vk K (.s .n (.s (.j ⟨[(22,dF)], [], [.bool], [], [], []⟩ .n .n) .n)) Tryz.func94 Tryz.ntmps94 (vl (Qjb K) v0)
def Qn3(K:Nat):FSp TD:=sd 130 [tH,tI,tI,(.sl tH),tH] [.bool] (fun p=>Qfr.f K (p.1) (p.2.1) (p.2.2.1) (p.2.2.2.1) (p.2.2.2.2))
theorem Qn4(K:Nat):VOk Tryz.prog GD (Qn3 K):=vk K .n Tryz.func130 Tryz.ntmps130 (vl (Qjd K) (vl (QgC K) v0))
def QdJ(K:Nat):FSp TD:=sp 131 (.cs (.ptr 0 0) (.cs (dD 4) .nl)) [(195,(.agg (.cs (.dt (.vec 12 .bool)) (.cs (.own tI 3 true) (.cs (.dt (.vec 12 (.st 15))) .nl)))))] [(.st 4),(.vec 12 .bool),(.sl tI),(.vec 12 (.st 15))] [(.vec 12 .bool),(.sl tI),(.vec 12 (.st 15))] (120,true) (fun p=>jO.fs K (p.1) (p.2.1) (p.2.2.1) (p.2.2.2)) [false] .nl [some (.agg (.cs (.dt (.vec 12 .bool)) (.cs (.own tI 3 true) (.cs (.dt (.vec 12 (.st 15))) .nl))))] []
theorem QdK(K:Nat):VOk Tryz.prog GD (QdJ K):=vkP K (.s .n (.j ⟨[], [], [], [], [], []⟩ (.q (ob [2,12,22,32,42,52,62,72,83,92,102,116,122]) [] []) (.s (.r (ob [0,10,20,32,42,60,70,56,82,96]) [] [3]) (.r (ob [0,12,22,32,42,52,62,74,86,92,102,116]) [] [])))) Tryz.func131 Tryz.ntmps131 (vl (yg K) (vl (Qel K) (vl (QhS K) v0))) rfl
def Qep(K:Nat):FSp TD:=sp 132 (.cs (.ptr 0 0) (.cs (dD 4) (.cs dI .nl))) [(195,(.agg (.cs (.dt (.vec 12 .bool)) (.cs (.own tI 3 true) (.cs (.dt (.vec 12 (.st 15))) .nl)))))] [(.st 4),tI,(.vec 12 .bool),(.sl tI),(.vec 12 (.st 15))] [(.vec 12 .bool),(.sl tI),(.vec 12 (.st 15))] (120,true) (fun p=>yI.fs K (p.1) (p.2.1) (p.2.2.1) (p.2.2.2.1) (p.2.2.2.2)) [false] .nl [some (.agg (.cs (.dt (.vec 12 .bool)) (.cs (.own tI 3 true) (.cs (.dt (.vec 12 (.st 15))) .nl))))] []
theorem Qeq(K:Nat):VOk Tryz.prog GD (Qep K):=vkP K (.s .n (.s (.r (ob [2,12,22,32,42,52,62,74,86]) [] []) (.s .n (.s .n (.j ⟨[], [], [], [], [], [6]⟩ (.q (ob [2,13,22,32,42,53,62,72,82,92,102,112,122,132,142,152,162,172]) [] []) (.r (ob [2,12,22,32,42,52,62,76]) [] [])))))) Tryz.func132 Tryz.ntmps132 (vl (QkC K) (vl (yg K) v0)) rfl
def jG(K:Nat):FSp TD:=sp 68 (.cs (dD 12) (.cs (dD 7) .nl)) [] [(.st 12),(.st 7)] [tI,(.sl tI),(.sl (.st 8))] (120,true) (fun p=>Jg.fs K (p.1) (p.2)) [] (.cs (.agg (.cs dI (.cs (.own tI 3 true) (.cs (.own (.st 8) 29 true) .nl)))) .nl) [] []
theorem Qcz(K:Nat):VOk Tryz.prog GD (jG K):=vkP K (.s .n (.s .n (.s (.s .n (.l ⟨[(15,dI)], [(5,(.agg (.cs (.dt (.vec 12 .bool)) (.cs (.own tI 3 true) (.cs (.dt (.vec 12 (.st 15))) .nl)))))], [tI,(.vec 12 .bool),(.sl tI),(.vec 12 (.st 15))], [], [], []⟩ (some ⟨[], [(5,(.agg (.cs (.dt (.vec 12 .bool)) (.cs (.own tI 3 true) (.cs (.dt (.vec 12 (.st 15))) .nl)))))], [(.vec 12 .bool),(.sl tI),(.vec 12 (.st 15))], [], [], [2,3]⟩) true (.s .n (.s .n (.j ⟨[], [(5,(.agg (.cs (.dt (.vec 12 .bool)) (.cs (.own tI 3 true) (.cs (.dt (.vec 12 (.st 15))) .nl)))))], [(.vec 12 .bool),(.sl tI),(.vec 12 (.st 15))], [], [], []⟩ (.s .n (.s .n (.s (.q (ob [2,20,30,40,50,60,70,80,90,100,110,16,126]) [] [3,7]) (.s .n (.j ⟨[], [(5,(.agg (.cs (.dt (.vec 12 .bool)) (.cs (.own tI 3 true) (.cs (.dt (.vec 12 (.st 15))) .nl)))))], [(.vec 12 .bool),(.sl tI),(.vec 12 (.st 15))], [], [], [7]⟩ .n .n))))) .n))))) (.s .n (.s (.s .n (.l ⟨[(58,dI)], [(9,(.agg (.cs dI (.cs (.own tI 3 true) (.cs (.own (.st 8) 29 true) .nl)))))], [tI,tI,(.sl tI),(.sl (.st 8))], [56], [], []⟩ (some ⟨[], [(9,(.agg (.cs dI (.cs (.own tI 3 true) (.cs (.own (.st 8) 29 true) .nl)))))], [tI,(.sl tI),(.sl (.st 8))], [], [], [5,56]⟩) false (.s .n (.s .n (.s (.s .n (.s .n (.r (ob [0,10,20,30,40,50,60,72,82,92,102,116,122,134,146,152,166]) [] [5,9]))) .n))))) .n))))) Tryz.func68 Tryz.ntmps68 (vl (QeM K) (vl (Qn4 K) (vl (yg K) (vl (yM K) (vl (QdK K) (vl (Qeq K) (vl (QcF K) v0))))))) rfl
def yN(K:Nat):FSp TD:=sg 17 (.cs (dD 0) (.cs dI (.cs (dD 2) (.cs dB .nl)))) [] [(.st 0),tI,(.st 2),tB] [tI,(.sl tI),(.sl (.st 8))] (fun p=>J4.f K (p.1) (p.2.1) (p.2.2.1) (p.2.2.2)) (.cs (.agg (.cs dI (.cs (.own tI 3 true) (.cs (.own (.st 8) 29 true) .nl)))) .nl) [] []
theorem QdL(K:Nat):VOk Tryz.prog GD (yN K):=QpZ tbok (n:=67) Tryz.func17 rfl Tryz.ntmps17 (by kernel_rfl) (sps:= [Qd5 K,QbV K,Qb0 K,Qb1 K,jo K,jG K]) (rvs:= []) (mps:= []) (ji (Qco K) (ji (yg K) (ji (Qkv K) (ji (Qkw K) (ji (Qb2 K) (ji (Qcz K) QmP)))))) Qgn Qgo (by kernel_rfl:(fun p=>(yN K).fn p)=funR (T:=TD) (cx Tryz.prog GD [Qd5 K,QbV K,Qb0 K,Qb1 K,jo K,jG K] K 67 [] []) (yN K) Tryz.f17 .n (.j ⟨[], [], [], [], [], []⟩ .n (.s .n (.s .n (.s .n (.s .n (.j ⟨[], [], [], [], [], [6]⟩ .n .n)))))) .n)
def Qbp(K:Nat):FSp TD:=sd 40 [(.sl tI),(.sl tI)] [.bool] (fun p=>Xw.f K (p.1) (p.2))
theorem Qbq(K:Nat):VOk Tryz.prog GD (Qbp K):=vk K (.s .n (.s .n (.s (.s .n (.l ⟨[(13,dI)], [], [tI], [], [], []⟩ (some ⟨[], [], [], [], [], []⟩) true (.s .n (.s .n (.s (.s .n (.s (.r (ob [2,12,22,32,42,52,62,72,82]) [] []) .n)) .n))))) .n))) Tryz.func40 Tryz.ntmps40 v0
def yS(K:Nat):FSp TD:=sd 41 [(.sl (.st 8)),(.sl (.st 8))] [.bool] (fun p=>qC.f K (p.1) (p.2))
theorem yT(K:Nat):VOk Tryz.prog GD (yS K):=vk K (.s .n (.s .n (.s (.s .n (.l ⟨[(13,dI)], [], [tI], [], [], []⟩ (some ⟨[], [], [], [], [], []⟩) true (.s .n (.s .n (.s (.s .n (.s (.r (ob [2,12,22,32,42,52,62,72,82]) [] []) .n)) .n))))) .n))) Tryz.func41 Tryz.ntmps41 v0
def Qb3(K:Nat):FSp TD:=sd 11 [(.st 9),(.st 9)] [.bool] (fun p=>QhH.f K (p.1) (p.2))
theorem QkD(K:Nat):VOk Tryz.prog GD (Qb3 K):=vk K .n Tryz.func11 Tryz.ntmps11 (vl (Qbq K) (vl (yT K) v0))
def Qbr(K:Nat):FSp TD:=sd 44 [(.sl tI),tI] [tI] (fun p=>Xx.f K (p.1) (p.2))
theorem Qbs(K:Nat):VOk Tryz.prog GD (Qbr K):=vk K (.s .n (.s (.s .n (.l ⟨[(8,dI)], [], [tI], [], [], []⟩ (some ⟨[], [], [], [], [], []⟩) true .n)) .n)) Tryz.func44 Tryz.ntmps44 v0
def Qb4(K:Nat):FSp TD:=sd 13 [(.st 9),tI] [.bool] (fun p=>Qd2.f K (p.1) (p.2))
theorem QkE(K:Nat):VOk Tryz.prog GD (Qb4 K):=vk K (.s .n (.s .n (.j ⟨[(4,dF)], [], [.bool], [], [], [2]⟩ .n .n))) Tryz.func13 Tryz.ntmps13 (vl (Qbs K) v0)
def qQ(K:Nat):FSp TD:=sd 10 [] [.bool] (fun p=>jf.f K)
theorem Qa9(K:Nat):VOk Tryz.prog GD (qQ K):=Quw tbok (n:=127) Tryz.func10 rfl Tryz.ntmps10 (by kernel_rfl) (sps:= [jk K,Z4 K,qy K,Z7 K,Qa5 K,QbU K,yN K,Qb3 K,Qb4 K]) (rvs:= []) (mps:= []) (ji (QbO K) (ji (QcD K) (ji (Qav K) (ji (Qhh K) (ji (QiW K) (ji (Qku K) (ji (QdL K) (ji (QkD K) (ji (QkE K) QmP))))))))) Qgn Qgo (by kernel_rfl:(fun p=>(qQ K).fn p)=funC (T:=TD) (cx Tryz.prog GD [jk K,Z4 K,qy K,Z7 K,Qa5 K,QbU K,yN K,Qb3 K,Qb4 K] K 127 [] []) (qQ K) Tryz.f10 [.one .n,.one .n,.one .n,.one (.r [(0,0,false),(1,1,false),(2,1,false),(3,1,false),(4,1,false),(5,3,false),(6,1,false),(7,1,false),(8,3,false)] [] []),.beg,.one .n,.fin [1,2,3],.beg,.one .n,.one .n,.one (.r [(0,0,false),(1,0,false),(2,1,false),(5,0,false),(6,0,false),(7,0,false),(10,2,false),(11,2,false),(3,3,false),(4,3,false),(8,3,false),(9,3,false),(12,3,false),(13,3,false)] [] [1,3,6]),.fin [1,2,3,8,9]] (.s (.r [(0,1,false),(1,1,false),(2,1,false),(3,1,false),(4,1,false),(5,1,false),(6,1,false),(7,1,false),(8,1,false),(9,3,false)] [] []) (.s .n (.s .n (.s (.r [(0,0,false),(1,0,false),(2,1,false),(5,2,false),(3,3,false),(4,3,false),(6,3,false)] [] [1,10]) (.s (.r [(0,0,false),(1,0,false),(2,1,false),(5,2,false),(3,3,false),(4,3,false),(6,3,false)] [] [1,3]) (.j ⟨[(0,(.dt .bool))], [], [.bool], [8,9], [], [1,2,3,8,9,10,11,13,14]⟩ .n .n)))))))
def Qba(K:Nat):FSp TD:=sd 14 [(.st 0),tB] [.bool] (fun p=>JV.f K (p.1) (p.2))
theorem Qbb(K:Nat):VOk Tryz.prog GD (Qba K):=vk K .n Tryz.func14 Tryz.ntmps14 v0
def XG(K:Nat):FSp TD:=sd 7 [(.st 0),tI,(.st 2),tB,(.int .u16)] [.bool] (fun p=>JP.f K (p.1) (p.2.1) (p.2.2.1) (p.2.2.2.1) (p.2.2.2.2))
theorem XH(K:Nat):VOk Tryz.prog GD (XG K):=vk K (.s .n (.s .n (.s (.j ⟨[(23,dF)], [], [.bool], [], [], []⟩ .n .n) (.s .n (.s .n (.s (.r (ob [0,10,20,30,42,60,70,114,56,82,96,106,126]) [] [5,7]) (.s (.r (ob [0,10,20,32,42,52,62,72,90,100,114,144,86,126,136,156]) [] [5,7]) (.j ⟨[(10,dF)], [], [.bool], [], [], [5,7,11,12,13]⟩ .n .n)))))))) Tryz.func7 Tryz.ntmps7 (vl (Qa9 K) (vl (Qbb K) (vl (QdL K) v0)))
end Go.Proofs.YtomndohdnfebgaaGreatDoor
