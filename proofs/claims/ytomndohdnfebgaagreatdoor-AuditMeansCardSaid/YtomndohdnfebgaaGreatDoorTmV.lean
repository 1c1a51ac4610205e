/-
 Proved: calls of the cut's functions come to what their plain functions compute.
-/
import Derived.Test.YtomndohdnfebgaaGreatDoorProg
import Derived.Test.YtomndohdnfebgaaGreatDoorTmDef
import Derived.Test.YtomndohdnfebgaaGreatDoorSxTh
import Derived.Test.YtomndohdnfebgaaGreatDoorSxRv
import Derived.Test.YtomndohdnfebgaaGreatDoorTmOW0
set_option linter.unusedVariables false
set_option maxRecDepth 100000
namespace Go.Proofs.YtomndohdnfebgaaGreatDoor
open Go Go.Sep
@[reducible] def tyD : Nat → Type
 |0=>Qo
 |1=>Q4
 |2=>Qq
 |3=>Qr
 |4=>Qm
 |5=>QaK
 |6=>QF
 |7=>QO
 |8=>Qp
 |9=>Ju
 |10=>Qk
 |11=>XU
 |12=>YZ
 |13=>Jh
 |14=>QeO
 |15=>QI
 |16=>QZ
 |17=>QaL
 |_=>Unit
@[reducible] def fsD : Nat → List Ty
 |0=> [(.sl (.arr .u8 32)),(.sl (.arr .u8 32)),(.int .i64)]
 |1=> [(.int .i64),(.arr .u8 32)]
 |2=> [(.int .i64),(.arr .u8 32),(.sl (.st 1))]
 |3=> [(.int .i64),(.int .i64)]
 |4=> [(.int .i64),(.int .i64),(.int .i64),(.int .i64),(.int .i64),.bool,.bool,(.int .i64),(.int .i64),(.int .i64),(.arr .u8 32),(.sl (.st 3)),(.sl (.int .u8)),(.arr .u8 32),.bool,(.arr .u8 32)]
 |5=> [(.int .i64),(.int .i64),(.int .i64),(.int .i64),(.int .i64),.bool,.bool,.bool,(.int .i64),(.int .i64),(.int .i64)]
 |6=> [(.int .i64),(.st 4),(.sl (.arr .u8 32))]
 |7=> [.bool,(.st 2),(.sl (.st 6))]
 |8=> [(.int .i64),(.int .i64)]
 |9=> [(.int .i64),(.sl (.int .i64)),(.sl (.st 8))]
 |10=> [(.sl (.int .u8)),(.int .i64)]
 |11=> [(.arr .u8 32)]
 |12=> [(.st 0),(.int .i64)]
 |13=> [(.sl (.arr .u8 32))]
 |14=> [(.st 13),(.int .i64)]
 |15=> [(.sl (.st 3)),(.int .i64),(.int .i64),(.int .i64),.bool,.bool,(.int .i64),(.int .i64),(.int .i64),(.int .i64)]
 |16=> [(.arr .i64 4),(.sl (.st 15))]
 |17=> [(.int .i64),(.int .i64),(.int .i64),.bool,(.int .i64)]
 |_=> []
def TD:Tb where
 ty:=tyD
 fs:=fsD
 get:=fun n=>match n with
  |0=>fun x=>(x.fParts,x.fWits,x.fNeed)
  |1=>fun x=>(x.fWit,x.fTag)
  |2=>fun x=>(x.fSize,x.fRoot,x.fSigs)
  |3=>fun x=>(x.fPart,x.fKind)
  |4=>fun x=>(x.fKind,x.fSaga,x.fSeq,x.fStep,x.fTry,x.fBack,x.fGood,x.fEnd,x.fPart,x.fEpoch,x.fTag,x.fSteps,x.fData,x.fSalt,x.fGone,x.fCom)
  |5=>fun x=>(x.fKind,x.fSaga,x.fSeq,x.fStep,x.fTry,x.fBack,x.fGood,x.fGone,x.fEnd,x.fPart,x.fEpoch)
  |6=>fun x=>(x.fAt,x.fRec,x.fPath)
  |7=>fun x=>(x.fWhole,x.fPoint,x.fItems)
  |8=>fun x=>(x.fPhase,x.fMissing)
  |9=>fun x=>(x.fCode,x.fSagas,x.fLines)
  |10=>fun x=>(x.fB,x.fBad)
  |11=>fun x=>x.fTag
  |12=>fun x=>(x.fK,x.fLimit)
  |13=>fun x=>x.fL
  |14=>fun x=>(x.fTrees,x.fN)
  |15=>fun x=>(x.fSteps,x.fPhase,x.fAt,x.fTries,x.fWait,x.fBack,x.fDone,x.fUndone,x.fSome,x.fSeq)
  |16=>fun x=>(x.fEpochs,x.fSagas)
  |17=>fun x=>(x.fKind,x.fStep,x.fTry,x.fBack,x.fEnd)
  |_+18=>fun x=>x
 of:=fun n=>match n with
  |0=>fun y=>⟨y.1,y.2.1,y.2.2⟩
  |1=>fun y=>⟨y.1,y.2⟩
  |2=>fun y=>⟨y.1,y.2.1,y.2.2⟩
  |3=>fun y=>⟨y.1,y.2⟩
  |4=>fun y=>⟨y.1,y.2.1,y.2.2.1,y.2.2.2.1,y.2.2.2.2.1,y.2.2.2.2.2.1,y.2.2.2.2.2.2.1,y.2.2.2.2.2.2.2.1,y.2.2.2.2.2.2.2.2.1,y.2.2.2.2.2.2.2.2.2.1,y.2.2.2.2.2.2.2.2.2.2.1,y.2.2.2.2.2.2.2.2.2.2.2.1,y.2.2.2.2.2.2.2.2.2.2.2.2.1,y.2.2.2.2.2.2.2.2.2.2.2.2.2.1,y.2.2.2.2.2.2.2.2.2.2.2.2.2.2.1,y.2.2.2.2.2.2.2.2.2.2.2.2.2.2.2⟩
  |5=>fun y=>⟨y.1,y.2.1,y.2.2.1,y.2.2.2.1,y.2.2.2.2.1,y.2.2.2.2.2.1,y.2.2.2.2.2.2.1,y.2.2.2.2.2.2.2.1,y.2.2.2.2.2.2.2.2.1,y.2.2.2.2.2.2.2.2.2.1,y.2.2.2.2.2.2.2.2.2.2⟩
  |6=>fun y=>⟨y.1,y.2.1,y.2.2⟩
  |7=>fun y=>⟨y.1,y.2.1,y.2.2⟩
  |8=>fun y=>⟨y.1,y.2⟩
  |9=>fun y=>⟨y.1,y.2.1,y.2.2⟩
  |10=>fun y=>⟨y.1,y.2⟩
  |11=>fun y=>⟨y⟩
  |12=>fun y=>⟨y.1,y.2⟩
  |13=>fun y=>⟨y⟩
  |14=>fun y=>⟨y.1,y.2⟩
  |15=>fun y=>⟨y.1,y.2.1,y.2.2.1,y.2.2.2.1,y.2.2.2.2.1,y.2.2.2.2.2.1,y.2.2.2.2.2.2.1,y.2.2.2.2.2.2.2.1,y.2.2.2.2.2.2.2.2.1,y.2.2.2.2.2.2.2.2.2⟩
  |16=>fun y=>⟨y.1,y.2⟩
  |17=>fun y=>⟨y.1,y.2.1,y.2.2.1,y.2.2.2.1,y.2.2.2.2⟩
  |_+18=>fun x=>x
 kd:=fun n=>match n with
  |0=>QaJ
  |1=>JU
  |2=>ZX
  |3=>JV
  |4=>QeN
  |5=>Qhn
  |6=>Qdj
  |7=>Qga
  |8=>Qdk
  |9=>Qe9
  |10=>Qfa
  |11=>Qho
  |12=>Qdl
  |13=>JH
  |14=>Qgb
  |15=>qH
  |16=>QiA
  |17=>Qhp
  |_+18=>QtD
 tn:=fun t=>lookA [(25,9),(26,9),(28,8),(29,8),(34,0),(35,0),(39,2),(40,2),(45,7),(46,7),(51,4),(52,4),(54,6),(55,6),(69,16),(70,16),(89,3),(90,3),(106,1),(107,1),(124,12),(125,12),(139,11),(140,11),(151,15),(152,15),(161,5),(162,5),(175,10),(176,10),(186,13),(187,13),(188,14),(189,14),(269,17),(270,17)] t
 te:=fun t=>lookA [] t
theorem tbok:TbOk TD:=⟨fun n _ _ _=>match n with
 |0=>Iff.rfl
 |1=>Iff.rfl
 |2=>Iff.rfl
 |3=>Iff.rfl
 |4=>Iff.rfl
 |5=>Iff.rfl
 |6=>Iff.rfl
 |7=>Iff.rfl
 |8=>Iff.rfl
 |9=>Iff.rfl
 |10=>Iff.rfl
 |11=>Iff.rfl
 |12=>Iff.rfl
 |13=>Iff.rfl
 |14=>Iff.rfl
 |15=>Iff.rfl
 |16=>Iff.rfl
 |17=>Iff.rfl
 |_+18=>Iff.rfl,fun n _=>match n with
 |0=>rfl
 |1=>rfl
 |2=>rfl
 |3=>rfl
 |4=>rfl
 |5=>rfl
 |6=>rfl
 |7=>rfl
 |8=>rfl
 |9=>rfl
 |10=>rfl
 |11=>rfl
 |12=>rfl
 |13=>rfl
 |14=>rfl
 |15=>rfl
 |16=>rfl
 |17=>rfl
 |_+18=>rfl⟩
def GD:List (Nat×Dy TD):= [(0,⟨(.arr .u32 8),XB⟩),(1,⟨(.arr .u32 64),gl_K⟩)]
@[reducible] def ob : List Nat → List (Nat × Nat × Bool)
 | []=> []
 |n::l=>(n/10,n%10/2,Nat.beq (n%2) 1)::ob l
@[reducible] def tI : Ty := .int .i64
@[reducible] def tH : Ty := .arr .u8 32
@[reducible] def tB : Ty := .sl (.int .u8)
@[reducible] def dI : Pt := .dt (.int .i64)
@[reducible] def dF : Pt := .dt .bool
@[reducible] def dH : Pt := .dt (.arr .u8 32)
@[reducible] def dB : Pt := .dt (.sl (.int .u8))
@[reducible] def dD (n : Nat) : Pt := .dt (.st n)
@[reducible] def sd (fid : Nat) (pt rt : List Ty) (fn : TU TD.ty pt → Option (TU TD.ty rt)) : FSp TD := { fid := fid, args := dts pt, blks := [], pt := pt, rt := rt, fn := fn, res := dts rt, out := [], new := [] }
@[reducible] def sg (fid : Nat) (args : Pt) (blks : List (TypeId × Pt)) (pt rt : List Ty) (fn : TU TD.ty pt → Option (TU TD.ty rt)) (res : Pt) (out : List (Option Pt)) (new : List (TypeId × Pt)) : FSp TD := { fid := fid, args := args, blks := blks, pt := pt, rt := rt, fn := fn, res := res, out := out, new := new }
@[reducible] def sp (fid : Nat) (args : Pt) (blks : List (TypeId × Pt)) (pt rt : List Ty) (pv : TypeId × Bool) (fs : TU TD.ty pt → Option (Int ⊕ TU TD.ty rt)) (pk : List Bool) (res : Pt) (out : List (Option Pt)) (new : List (TypeId × Pt)) : FSp TD := { fid := fid, args := args, blks := blks, pt := pt, rt := rt, fn := fun p => sm (fs p) (fun _ => none) some, pv := some pv, fs := fs, pk := pk, res := res, out := out, new := new }
theorem v0:∀s∈([]:List (FSp TD)),VOk Tryz.prog GD s:=Qnl
theorem vl{s:FSp TD}{l:List (FSp TD)}(h:VOk Tryz.prog GD s)(h':∀x∈l,VOk Tryz.prog GD x):∀x∈s::l,VOk Tryz.prog GD x:=jq h h'
section
variable {n:Nat}{s:FSp TD}{f:Func}{c:Code}{sps:List (FSp TD)}{rvs:List (RvSp TD)}{mps:List (FuncId×(SV TD→Option (SV TD)))}
theorem vk(K:Nat)(h:Hn)(hf:Tryz.prog.funcs[s.fid]?=some f)(hn:f.ntmps=n)(hsp:∀x∈sps,VOk Tryz.prog GD x)(hb:f.body=some c:=by exact rfl)
  (hok:(Nat.ble (lenP s.args) n&&(lstP s.args&&(lstP s.res&&(!(f.name== "runtime.NumGoroutine")&&s.pv.isNone))))=true:=by kernel_rfl) (hfn:(fun p=>s.fn p)=funS (T:=TD) (cx Tryz.prog GD sps K n [] []) s f h:=by kernel_rfl):VOk Tryz.prog GD s:=Qt1 tbok hf hb hn hok hsp QgE QgF hfn
theorem vkM(K:Nat)(h:Hn)(hf:Tryz.prog.funcs[s.fid]?=some f)(hn:f.ntmps=n)(hsp:∀x∈sps,VOk Tryz.prog GD x)(hrv:∀x∈rvs,RvOk Tryz.prog x)(hmp:∀f g,lookA mps f=some g→MpOk Tryz.prog f g)(hb:f.body=some c:=by exact rfl)
  (hok:(Nat.ble (lenP s.args) n&&(lstP s.args&&(lstP s.res&&(!(f.name== "runtime.NumGoroutine")&&s.pv.isNone))))=true:=by kernel_rfl) (hfn:(fun p=>s.fn p)=funS (T:=TD) (cx Tryz.prog GD sps K n rvs mps) s f h:=by kernel_rfl):VOk Tryz.prog GD s:=Qt1 tbok hf hb hn hok hsp hrv hmp hfn
theorem vkP(K:Nat)(h:Hn)(hf:Tryz.prog.funcs[s.fid]?=some f)(hn:f.ntmps=n)(hsp:∀x∈sps,VOk Tryz.prog GD x)(hgn:(fun p=>s.fn p)=fun p=>sm (s.fs p) (fun _=>none) some)(hb:f.body=some c:=by exact rfl)
  (hok:(Nat.ble (lenP s.args) n&&(lstP s.args&&(lstP s.res&& !(f.name== "runtime.NumGoroutine"))))=true:=by kernel_rfl) (hfn:(fun p=>s.fs p)=funP (T:=TD) (cx Tryz.prog GD sps K n [] []) s f h:=by kernel_rfl):VOk Tryz.prog GD s:=Qu7 tbok hf hb hn hok hsp QgE QgF hgn hfn
end
def Qt5:SV TD→Option (SV TD):=fun l=>match l with| .nl=>some (.mp [.int .i64 1,.int .i64 2,.int .i64 3,.int .i64 4,.int .i64 5,.int .i64 6] (.cs (.agg (.cs (.fn 179 .nl) .nl)) (.cs (.agg (.cs (.fn 180 .nl) .nl)) (.cs (.agg (.cs (.fn 181 .nl) .nl)) (.cs (.agg (.cs (.fn 180 .nl) .nl)) (.cs (.agg (.cs (.fn 180 .nl) .nl)) (.cs (.agg (.cs (.fn 182 .nl) .nl)) .nl)))))))|_=>none
theorem QwT:MpOk Tryz.prog 141 Qt5:=by
 refine⟨fun ρ g w0 D l vs sv hA hf hS=> ?_,by kernel_rfl⟩
 unfold Qt5 at hf
 split at hf
 ·obtain rfl:vs= []:=hA
  cases hf
  have hS:=Stp.refl hS
  refine jB (n:=9) Tryz.func141 rfl Tryz.ntmps141 rfl (fun a hE=> ?_)
  have hE:Env a 9 [] []:=hE
  refine wpIn_seq (Qbx ?_)
  refine segN 1 (j:=1) [(0,.map none)] hE (by kernel_rfl) rfl (fun a hE=> ?_)
  refine at_end rfl ?_
  refine wpIn_seq (Qbx ?_)
  refine JQ (Qn7 rfl rfl rfl rfl hE rfl hS (fun a b w hE hS=> ?_)) rfl
  refine JQ (QaD hE (QaG ([.func (.func 179) #[] #[]]) rfl rfl rfl rfl hE rfl rfl (by kernel_rfl) (fun a hE=> ?_))) rfl
  refine JQ (Qas (kt:=3) (et:=204) (kk:= .i64) rfl rfl rfl rfl hE hS rfl rfl rfl (by kernel_rfl) (by kernel_rfl) (by kernel_rfl) (fun a w hE hS=> ?_)) rfl
  refine JQ (QaD hE (QaG ([.func (.func 180) #[] #[]]) rfl rfl rfl rfl hE rfl rfl (by kernel_rfl) (fun a hE=> ?_))) rfl
  refine JQ (Qas (kt:=3) (et:=204) (kk:= .i64) rfl rfl rfl rfl hE hS rfl rfl rfl (by kernel_rfl) (by kernel_rfl) (by kernel_rfl) (fun a w hE hS=> ?_)) rfl
  refine JQ (QaD hE (QaG ([.func (.func 181) #[] #[]]) rfl rfl rfl rfl hE rfl rfl (by kernel_rfl) (fun a hE=> ?_))) rfl
  refine JQ (Qas (kt:=3) (et:=204) (kk:= .i64) rfl rfl rfl rfl hE hS rfl rfl rfl (by kernel_rfl) (by kernel_rfl) (by kernel_rfl) (fun a w hE hS=> ?_)) rfl
  refine JQ (QaD hE (QaG ([.func (.func 180) #[] #[]]) rfl rfl rfl rfl hE rfl rfl (by kernel_rfl) (fun a hE=> ?_))) rfl
  refine JQ (Qas (kt:=3) (et:=204) (kk:= .i64) rfl rfl rfl rfl hE hS rfl rfl rfl (by kernel_rfl) (by kernel_rfl) (by kernel_rfl) (fun a w hE hS=> ?_)) rfl
  refine JQ (QaD hE (QaG ([.func (.func 180) #[] #[]]) rfl rfl rfl rfl hE rfl rfl (by kernel_rfl) (fun a hE=> ?_))) rfl
  refine JQ (Qas (kt:=3) (et:=204) (kk:= .i64) rfl rfl rfl rfl hE hS rfl rfl rfl (by kernel_rfl) (by kernel_rfl) (by kernel_rfl) (fun a w hE hS=> ?_)) rfl
  refine JQ (QaD hE (QaG ([.func (.func 182) #[] #[]]) rfl rfl rfl rfl hE rfl rfl (by kernel_rfl) (fun a hE=> ?_))) rfl
  refine JQ (Qas (kt:=3) (et:=204) (kk:= .i64) rfl rfl rfl rfl hE hS rfl rfl rfl (by kernel_rfl) (by kernel_rfl) (by kernel_rfl) (fun a w hE hS=> ?_)) rfl
  refine segN 1 (j:=14) [(8,.map (some b))] hE (by kernel_rfl) rfl (fun a hE=> ?_)
  refine segN 1 (j:=15) [(0,.map (some b))] hE (by kernel_rfl) rfl (fun a hE=> ?_)
  refine at_end rfl ?_
  refine wpIn_ret ?_
  refine Qlq ([.map (some b)]) hE (by rw[show Tryz.f141.results.toList= [.tmp 0]from rfl];exact⟨_,_,rfl,rfl,rfl⟩) ?_
  refine⟨_,rfl,_,YS rfl ⟨b,_,_,rfl,by unfold Snap.ins;rw[if_pos rfl],rfl,⟨_,_,rfl,⟨_,⟨_,_,rfl,⟨[],rfl,rfl⟩,rfl⟩,rfl⟩,⟨_,_,rfl,⟨_,⟨_,_,rfl,⟨[],rfl,rfl⟩,rfl⟩,rfl⟩,⟨_,_,rfl,⟨_,⟨_,_,rfl,⟨[],rfl,rfl⟩,rfl⟩,rfl⟩,⟨_,_,rfl,⟨_,⟨_,_,rfl,⟨[],rfl,rfl⟩,rfl⟩,rfl⟩,⟨_,_,rfl,⟨_,⟨_,_,rfl,⟨[],rfl,rfl⟩,rfl⟩,rfl⟩,⟨_,_,rfl,⟨_,⟨_,_,rfl,⟨[],rfl,rfl⟩,rfl⟩,rfl⟩,rfl⟩⟩⟩⟩⟩⟩⟩,(Stp.freezeM hS).2⟩
 ·cases hf
def Z5(K:Nat):FSp TD:=sg 133 (.cs (.dt (.sl tB)) .nl) [] [(.sl tB)] [tB] (fun p=>QU.f K (p)) (.cs (.own (.int .u8) 5 true) .nl) [] []
theorem J7(K:Nat):VOk Tryz.prog GD (Z5 K):=QbU (T:=TD) (ts:= [(.sl (.sl (.int .u8)))]) (rt:=(.int .u8)) (e:=5) (f:=true) (fn:=fun p=>QU.f K (p)) (fun g w0 D p vals r hG hv hS hr=>by
 obtain⟨v0,h0,rfl⟩:=hv
 obtain⟨A0,c0,e0,f0⟩:=h0
 cases e0
 exact CallsIn.mono (QU.calls hr hS f0) fun e w' ⟨u,h1,D1,A,c,q,h2,h3,h4⟩=>⟨u,h1,D1,A,c,q,h2,h4,h3⟩) (by kernel_rfl)
def Qau(K:Nat):FSp TD:=sg 111 (.cs dB .nl) [] [tB] [tB] (fun p=>Ye.f K (p)) (.cs (.own (.int .u8) 5 true) .nl) [] []
theorem JB(K:Nat):VOk Tryz.prog GD (Qau K):=QbU (T:=TD) (ts:= [(.sl (.int .u8))]) (rt:=(.int .u8)) (e:=5) (f:=true) (fn:=fun p=>Ye.f K (p)) (fun g w0 D p vals r hG hv hS hr=>by
 obtain⟨v0,h0,rfl⟩:=hv
 obtain⟨A0,c0,e0,f0⟩:=h0
 cases e0
 exact CallsIn.mono (Ye.calls hr hS f0) fun e w' ⟨u,h1,D1,A,c,q,h2,h3,h4⟩=>⟨u,h1,D1,A,c,q,h2,h4,h3⟩) (by kernel_rfl)
def Xq(K:Nat):FSp TD:=sg 157 (.cs (.dt (.sl (.st 1))) .nl) [] [(.sl (.st 1))] [(.sl (.st 1))] (fun p=>Yj.f K (p)) (.cs (.own (.st 1) 107 true) .nl) [] []
theorem qF(K:Nat):VOk Tryz.prog GD (Xq K):=QbU (T:=TD) (ts:= [(.sl (.st 1))]) (rt:=(.st 1)) (e:=107) (f:=true) (fn:=fun p=>Yj.f K (p)) (fun g w0 D p vals r hG hv hS hr=>by
 obtain⟨v0,h0,rfl⟩:=hv
 obtain⟨A0,c0,e0,f0⟩:=h0
 cases e0
 exact CallsIn.mono (Yj.calls hr hS f0) fun e w' ⟨u,h1,D1,A,c,q,h2,h3,h4⟩=>⟨u,h1,D1,A,c,q,h2,h4,h3⟩) (by kernel_rfl)
def yS(K:Nat):FSp TD:=sg 62 (.cs (.dt (.sl (.st 3))) .nl) [] [(.sl (.st 3))] [(.sl (.st 3))] (fun p=>QT.f K (p)) (.cs (.own (.st 3) 90 true) .nl) [] []
theorem Jp(K:Nat):VOk Tryz.prog GD (yS K):=QbU (T:=TD) (ts:= [(.sl (.st 3))]) (rt:=(.st 3)) (e:=90) (f:=true) (fn:=fun p=>QT.f K (p)) (fun g w0 D p vals r hG hv hS hr=>by
 obtain⟨v0,h0,rfl⟩:=hv
 obtain⟨A0,c0,e0,f0⟩:=h0
 cases e0
 exact CallsIn.mono (QT.calls hr hS f0) fun e w' ⟨u,h1,D1,A,c,q,h2,h3,h4⟩=>⟨u,h1,D1,A,c,q,h2,h4,h3⟩) (by kernel_rfl)
def yT(K:Nat):FSp TD:=sg 206 (.cs (.dt (.sl (.st 15))) .nl) [] [(.sl (.st 15))] [(.sl (.st 15))] (fun p=>QX.f K (p)) (.cs (.own (.st 15) 152 true) .nl) [] []
theorem J8(K:Nat):VOk Tryz.prog GD (yT K):=QbU (T:=TD) (ts:= [(.sl (.st 15))]) (rt:=(.st 15)) (e:=152) (f:=true) (fn:=fun p=>QX.f K (p)) (fun g w0 D p vals r hG hv hS hr=>by
 obtain⟨v0,h0,rfl⟩:=hv
 obtain⟨A0,c0,e0,f0⟩:=h0
 cases e0
 exact CallsIn.mono (QX.calls hr hS f0) fun e w' ⟨u,h1,D1,A,c,q,h2,h3,h4⟩=>⟨u,h1,D1,A,c,q,h2,h4,h3⟩) (by kernel_rfl)
def Zt(K:Nat):RvSp TD:=⟨134,(.int .u8),5,Q9.f K⟩
theorem Zu(K:Nat):RvOk Tryz.prog (Zt K):=⟨fun g w0 D A cap xs ys q hS hO hr=>Q9.calls hr hS hO,by kernel_rfl,fun xs ys h=>Q9.len h⟩
def jr(K:Nat):FSp TD:=sd 35 [] [(.st 0)] (fun p=>XV.f K)
theorem QbV(K:Nat):VOk Tryz.prog GD (jr K):=vk K .n Tryz.func35 Tryz.ntmps35 v0
def Qi6(K:Nat):FSp TD:=sd 78 [tI,tI,tI] [.bool] (fun p=>JD.f K (p.1) (p.2.1) (p.2.2))
theorem XF(K:Nat):VOk Tryz.prog GD (Qi6 K):=vk K .n Tryz.func78 Tryz.ntmps78 v0
def Qei(K:Nat):FSp TD:=sd 66 [(.st 0)] [.bool] (fun p=>ZE.f K (p))
theorem Qcv(K:Nat):VOk Tryz.prog GD (Qei K):=vk K .n Tryz.func66 Tryz.ntmps66 (vl (XF K) v0)
def Qks(K:Nat):FSp TD:=sd 81 [(.st 0),tI,tI] [.bool] (fun p=>XL.f K (p.1) (p.2.1) (p.2.2))
theorem QbW(K:Nat):VOk Tryz.prog GD (Qks K):=vk K .n Tryz.func81 Tryz.ntmps81 (vl (Qcv K) (vl (XF K) v0))
def Qqy(K:Nat):FSp TD:=sg 156 (.cs (.dt (.int .u64)) (.cs dI .nl)) [] [(.int .u64),tI] [tB] (fun p=>QcR.f K (p.1) (p.2)) (.cs (.own (.int .u8) 5 true) .nl) [] []
theorem Qkt(K:Nat):VOk Tryz.prog GD (Qqy K):=vk K (.s .n (.s .n (.s (.s .n (.l ⟨[(0,(.dt (.int .u64))),(5,(.own (.int .u8) 5 true)),(11,dI)], [], [(.int .u64),tB,tI], [], [], []⟩ (some ⟨[(5,(.own (.int .u8) 5 true))], [], [tB], [], [], []⟩) false .n)) .n))) Tryz.func156 Tryz.ntmps156 v0
def QlW(K:Nat):FSp TD:=sg 155 (.cs dI .nl) [] [tI] [tB] (fun p=>Qan.f K (p)) (.cs (.own (.int .u8) 5 true) .nl) [] []
theorem QlX(K:Nat):VOk Tryz.prog GD (QlW K):=vk K .n Tryz.func155 Tryz.ntmps155 (vl (Qkt K) v0)
def Qfc(K:Nat):FSp TD:=sg 154 (.cs (.dt (.sl tI)) (.cs (.fn 155 .nl) .nl)) [] [(.sl tI)] [tB] (fun p=>Xg.f K (p)) (.cs (.own (.int .u8) 5 true) .nl) [] []
theorem Qfd(K:Nat):VOk Tryz.prog GD (Qfc K):=vk K (.s .n (.s .n (.s (.s .n (.l ⟨[(5,(.own (.int .u8) 5 true)),(10,dI)], [], [tB,tI], [], [], []⟩ (some ⟨[(5,(.own (.int .u8) 5 true))], [], [tB], [], [], []⟩) false .n)) .n))) Tryz.func154 Tryz.ntmps154 (vl (QlX K) v0)
def Qoa(K:Nat):FSp TD:=sg 143 (.cs dI .nl) [] [tI] [tB] (fun p=>Qdm.f K (p)) (.cs (.own (.int .u8) 5 true) .nl) [] []
theorem Qob(K:Nat):VOk Tryz.prog GD (Qoa K):=vk K (.s .n (.s .n (.s .n (.s (.l ⟨[(3,(.own (.int .u8) 5 true))], [], [tB], [], [], []⟩ (some ⟨[(3,(.own (.int .u8) 5 true))], [], [tB], [], [], []⟩) false .n) (.s .n (.s (.s .n (.l ⟨[(3,(.own (.int .u8) 5 true)),(5,dI)], [], [tB,tI], [], [], []⟩ (some ⟨[(3,(.own (.int .u8) 5 true))], [], [tB], [], [], []⟩) false .n)) .n)))))) Tryz.func143 Tryz.ntmps143 v0
def Qku(K:Nat):FSp TD:=sg 142 (.cs dB .nl) [] [tB] [tB] (fun p=>Qec.f K (p)) (.cs (.fn 183 (.cs (.ptr 0 0) .nl)) .nl) [] [(41,dB)]
theorem Qkv(K:Nat):VOk Tryz.prog GD (Qku K):=vk K .n Tryz.func142 Tryz.ntmps142 v0
def Qav(K:Nat):FSp TD:=sd 208 [(.int .u32),tI] [(.int .u32)] (fun p=>YC.f K (p.1) (p.2))
theorem yl(K:Nat):VOk Tryz.prog GD (Qav K):=vk K .n Tryz.func208 Tryz.ntmps208 v0
def QlY(K:Nat):FSp TD:=sd 207 [(.int .u32),tI,tI,tI] [(.int .u32)] (fun p=>XW.f K (p.1) (p.2.1) (p.2.2.1) (p.2.2.2))
theorem QlZ(K:Nat):VOk Tryz.prog GD (QlY K):=vk K (.s .n (.s (.r (ob [2,12,22,40,50,60,90,100,110,36,76,82,122,132]) [] []) .n)) Tryz.func207 Tryz.ntmps207 (vl (yl K) v0)
def Qhq(K:Nat):FSp TD:=sd 184 [tB] [(.arr .u32 64)] (fun p=>Xm.f K (p))
theorem Qhr(K:Nat):VOk Tryz.prog GD (Qhq K):=vk K (.s .n (.s .n (.s (.s .n (.l ⟨[(5,dI)], [(3,(.dt (.arr .u32 64)))], [tI,(.arr .u32 64)], [], [], []⟩ (some ⟨[], [(3,(.dt (.arr .u32 64)))], [(.arr .u32 64)], [], [], []⟩) false (.s .n (.s .n (.j ⟨[], [(3,(.dt (.arr .u32 64)))], [(.arr .u32 64)], [], [], []⟩ (.s .n (.s (.s .n (.s (.s (.r (ob [0,12,22,32,42,52,80,90,100,110,120,130,140,150,170,180,190,200,210,220,230,240,260,270,280,290,300,310,320,66,72,162,252,332,342,356]) [] []) .n) .n)) (.r (ob [0,12,22,32,42,60,70,80,90,110,120,130,140,170,180,190,200,56,100,156,162,212,222,236]) [] [3]))) .n))))) .n))) Tryz.func184 Tryz.ntmps184 (vl (QlZ K) v0)
def Qkw(K:Nat):FSp TD:=sd 185 [(.int .u32),tI,tI,tI] [(.int .u32)] (fun p=>y8.f K (p.1) (p.2.1) (p.2.2.1) (p.2.2.2))
theorem Qkx(K:Nat):VOk Tryz.prog GD (Qkw K):=vk K .n Tryz.func185 Tryz.ntmps185 (vl (yl K) v0)
def Qoc(K:Nat):FSp TD:=sd 144 [(.arr .u32 8),tB] [(.arr .u32 8)] (fun p=>Qck.f K (p.1) (p.2))
theorem Qod(K:Nat):VOk Tryz.prog GD (Qoc K):=vk K (.s .n (.s .n (.s .n (.s (.s .n (.l ⟨[(18,dI)], [(5,(.dt (.arr .u32 8)))], [tI,(.arr .u32 8)], [], [], []⟩ (some ⟨[], [(5,(.dt (.arr .u32 8)))], [(.arr .u32 8)], [], [], []⟩) false (.s .n (.s .n (.s (.s .n (.s (.r (ob [0,10,22,32,60,70,80,90,100,110,120,130,140,150,160,170,190,200,210,230,46,52,182,222,242,252]) [] [5]) (.s (.r (ob [2,12,30,40,50,60,70,80,90,100,110,120,130,140,150,160,170,180,190,26,202,212]) [] [5]) (.s (.r (ob [2,12,26]) [] []) .n)))) .n))))) (.s (.s .n (.l ⟨[(81,dI)], [(2,(.dt (.arr .u32 8)))], [tI,(.arr .u32 8)], [], [], []⟩ (some ⟨[], [(2,(.dt (.arr .u32 8)))], [(.arr .u32 8)], [], [], [5]⟩) false (.s .n (.s .n (.s (.s .n (.r (ob [2,12,22,32,42,52,62,72,86]) [] [])) .n))))) .n))))) Tryz.func144 Tryz.ntmps144 (vl (Qhr K) (vl (Qkx K) v0))
def Qoe(K:Nat):FSp TD:={fid:=83,args:=(.cs (.dt (.sl (.sl (.int .u8)))) .nl),blks:= [],pt:= [(.sl (.sl (.int .u8)))],rt:= [(.arr .u8 32)],fn:=fun p=>Qed.f K (p),res:=(.cs (.dt (.arr .u8 32)) .nl),out:= [],new:= [] }
theorem Qof(K:Nat):VOk Tryz.prog GD (Qoe K):=vk K (.s .n (.s .n (.s .n (.s (.s .n (.g (.l ⟨[], [(1000000000004,(.dt (.arr .u32 8))),(1,dB)], [(.arr .u32 8),tB], [], [], []⟩ (some ⟨[], [(1000000000004,(.dt (.arr .u32 8))),(1,dB)], [(.arr .u32 8),tB], [], [], []⟩) false .n) .n .n)) (.s .n (.s (.s .n (.l ⟨[(21,dI)], [(6,dH)], [tI,tH], [], [], []⟩ (some ⟨[], [(6,dH)], [tH], [], [], [4]⟩) false .n)) .n)))))) Tryz.func83 Tryz.ntmps83 (vl (J7 K) (vl (Qob K) (vl (Qkv K) (vl (Qod K) v0))))
def Qqz(K:Nat):FSp TD:={fid:=83,args:=(.cs (.dt (.sl (.sl (.int .u8)))) .nl),blks:= [],pt:= [(.sl (.sl (.int .u8)))],rt:= [(.arr .u8 32)],fn:=fun p=>shaQ.f K (p),res:=(.cs (.dt (.arr .u8 32)) .nl),out:= [],new:= [] }
theorem Qaw(K:Nat):VOk Tryz.prog GD (Qqz K):=(congrArg (fun f=>VOk Tryz.prog GD ({fid:=83,args:=(.cs (.dt (.sl (.sl (.int .u8)))) .nl),blks:= [],pt:= [(.sl (.sl (.int .u8)))],rt:= [(.arr .u8 32)],fn:=f,res:=(.cs (.dt (.arr .u8 32)) .nl),out:= [],new:= [] }:FSp TD)) (QuL K)).mpr (Qof K)
def QqA(K:Nat):FSp TD:=sg 177 (.cs dB (.cs (.dt (.int .u8)) .nl)) [] [tB,(.int .u8)] [tB] (fun p=>Qgf.f K (p.1) (p.2)) (.cs (.own (.int .u8) 5 true) .nl) [] []
theorem QqB(K:Nat):VOk Tryz.prog GD (QqA K):=vk K (.s .n (.s .n (.s .n (.s (.s .n (.l ⟨[(5,(.own (.int .u8) 5 true)),(13,dI)], [], [tB,tI], [], [], []⟩ (some ⟨[(5,(.own (.int .u8) 5 true))], [], [tB], [], [], []⟩) false .n)) .n)))) Tryz.func177 Tryz.ntmps177 v0
def QqC(K:Nat):FSp TD:=sd 139 [tB,(.sl tB)] [tH] (fun p=>Qgg.f K (p.1) (p.2))
theorem Qky(K:Nat):VOk Tryz.prog GD (QqC K):=vk K (.s .n (.j ⟨[(0,dB)], [], [tB], [], [], []⟩ .n (.s .n (.s (.r (ob [2,20,16,36,46,56]) [6] []) .n)))) Tryz.func139 Tryz.ntmps139 (vl (Qaw K) (vl (QqB K) v0))
def QqD(K:Nat):FSp TD:=sd 103 [tH,(.sl tI)] [tH] (fun p=>Qee.f K (p.1) (p.2))
theorem Qkz(K:Nat):VOk Tryz.prog GD (QqD K):=vk K (.s .n (.s (.r (ob [0,12,26,36,46,56]) [2] []) .n)) Tryz.func103 Tryz.ntmps103 (vl (Qfd K) (vl (Qky K) v0))
def Ql0(K:Nat):FSp TD:=sd 104 [(.st 0),tI,tI] [tH] (fun p=>QbF.f K (p.1) (p.2.1) (p.2.2))
theorem Ql1(K:Nat):VOk Tryz.prog GD (Ql0 K):=vk K .n Tryz.func104 Tryz.ntmps104 (vl (QbW K) (vl (Qkz K) v0))
def Qog(K:Nat):FSp TD:=sd 105 [.bool] [tI] (fun p=>Qcl.f K (p))
theorem Qoh(K:Nat):VOk Tryz.prog GD (Qog K):=vk K .n Tryz.func105 Tryz.ntmps105 v0
def Z7(K:Nat):FSp TD:=sd 36 [(.st 0),(.st 4)] [tH] (fun p=>jh.f K (p.1) (p.2))
theorem QcJ(K:Nat):VOk Tryz.prog GD (Z7 K):=vk K (.s .n (.s (.j ⟨[(16,dF)], [], [.bool], [], [], []⟩ .n .n) (.s (.r (ob [2,12,22,32,42,60,70,80,90,100,110,130,140,56,126,156,164,176,186]) [] [3]) .n))) Tryz.func36 Tryz.ntmps36 (vl (QbW K) (vl (Ql1 K) (vl (Qoh K) (vl (Qkz K) v0))))
def QkA(K:Nat):FSp TD:=sd 164 [tI,tI,tI] [.bool] (fun p=>Jy.f K (p.1) (p.2.1) (p.2.2))
theorem QeU(K:Nat):VOk Tryz.prog GD (QkA K):=vk K .n Tryz.func164 Tryz.ntmps164 v0
def Qhs(K:Nat):FSp TD:=sd 165 [(.st 3)] [.bool] (fun p=>ZF.f K (p))
theorem Qht(K:Nat):VOk Tryz.prog GD (Qhs K):=vk K .n Tryz.func165 Tryz.ntmps165 (vl (QeU K) v0)
def jS(K:Nat):FSp TD:=sg 196 (.cs (.dt (.sl (.st 3))) (.cs (.fn 165 .nl) .nl)) [] [(.sl (.st 3))] [tI] (fun p=>Jf.f K (p)) (.cs dI .nl) [] []
theorem jT(K:Nat):VOk Tryz.prog GD (jS K):=vk K (.s .n (.s (.s .n (.l ⟨[(8,dI)], [], [tI], [], [], []⟩ (some ⟨[], [], [], [], [], []⟩) true .n)) .n)) Tryz.func196 Tryz.ntmps196 (vl (Qht K) v0)
def jv(K:Nat):FSp TD:=sg 166 (.cs (.dt (.sl (.st 3))) (.cs (.fn 165 .nl) .nl)) [] [(.sl (.st 3))] [.bool] (fun p=>YD.f K (p)) (.cs dF .nl) [] []
theorem jw(K:Nat):VOk Tryz.prog GD (jv K):=vk K .n Tryz.func166 Tryz.ntmps166 (vl (jT K) v0)
def QkB(K:Nat):FSp TD:=sd 123 [(.st 4)] [.bool] (fun p=>Qcm.f K (p))
theorem QkC(K:Nat):VOk Tryz.prog GD (QkB K):=vk K (.s .n (.s (.j ⟨[(19,dF)], [], [.bool], [], [], []⟩ .n .n) (.s (.s .n (.s .n (.s .n (.j ⟨[(41,dF)], [], [.bool], [], [], []⟩ .n .n)))) .n))) Tryz.func123 Tryz.ntmps123 (vl (QeU K) (vl (jw K) v0))
def Qoi(K:Nat):FSp TD:=sd 124 [(.st 4)] [(.st 4)] (fun p=>QfE.f K (p))
theorem Qoj(K:Nat):VOk Tryz.prog GD (Qoi K):=vk K (.s .n (.s .n (.j ⟨[], [(3,(dD 4))], [(.st 4)], [], [], [1]⟩ (.s .n (.s (.s (.j ⟨[], [(3,(dD 4))], [(.st 4)], [], [], []⟩ (.s (.s (.s (.s .n (.s .n (.s (.j ⟨[(13,dF)], [], [.bool], [], [], []⟩ .n .n) .n))) .n) (.s (.s (.r (ob [2,12,20,30,40,50,62,76,82,96,102,116]) [] [1]) (.s .n (.s .n (.r (ob [2,12,20,30,42,56,62,76]) [] [1])))) .n)) (.r (ob [2,12,20,30,40,50,60,70,82,96,102,116,122,136,142,156]) [] [1])) (.s (.r (ob [2,12,20,30,40,50,60,70,80,90,102,116,122,136,142,156,162,176,182,196]) [] [1]) .n)) (.s (.r (ob [2,12,20,30,40,50,62,76,82,96,102,116]) [] [1]) .n)) (.s (.r (ob [2,12,20,30,42,56,62,76]) [] [1]) .n))) .n))) Tryz.func124 Tryz.ntmps124 v0
def yU(K:Nat):FSp TD:=sd 97 [(.sl (.st 3)),(.sl (.st 3))] [.bool] (fun p=>Y5.f K (p.1) (p.2))
theorem yV(K:Nat):VOk Tryz.prog GD (yU K):=vk K (.s .n (.s .n (.s (.s .n (.l ⟨[(13,dI)], [], [tI], [], [], []⟩ (some ⟨[], [], [], [], [], []⟩) true (.s .n (.s .n (.s (.s .n (.s (.r (ob [2,12,22,32,42,52,62,72,82]) [] []) .n)) .n))))) .n))) Tryz.func97 Tryz.ntmps97 v0
def Qi7(K:Nat):FSp TD:=sd 96 [tB,tB] [.bool] (fun p=>bytes_Equal.f K (p.1) (p.2))
theorem QdJ(K:Nat):VOk Tryz.prog GD (Qi7 K):=vk K .n Tryz.func96 Tryz.ntmps96 v0
def Qok(K:Nat):FSp TD:=sd 98 [(.st 4)] [(.st 5)] (fun p=>QfF.f K (p))
theorem Qol(K:Nat):VOk Tryz.prog GD (Qok K):=vk K .n Tryz.func98 Tryz.ntmps98 v0
def Qom(K:Nat):FSp TD:=sd 31 [(.st 4),(.st 4)] [.bool] (fun p=>QfG.f K (p.1) (p.2))
theorem Qon(K:Nat):VOk Tryz.prog GD (Qom K):=vk K (.s .n (.s (.j ⟨[(18,dF)], [], [.bool], [], [], []⟩ .n .n) (.j ⟨[(4,dF)], [], [.bool], [], [], [2,3]⟩ (.r (ob [2,20,16,36,42,53,62,72,82,92,102,112,123,132,142,152,162,172,182,193,202,212,222,232,242,252,262]) [] [3]) .n))) Tryz.func31 Tryz.ntmps31 (vl (yV K) (vl (QdJ K) (vl (Qol K) v0)))
def Ql2(K:Nat):FSp TD:=sd 61 [(.st 4)] [.bool] (fun p=>qj.f K (p))
theorem qQ(K:Nat):VOk Tryz.prog GD (Ql2 K):=vk K (.s .n (.s (.r (ob [2,16,23,30,42,56,66,72,82]) [] [1]) .n)) Tryz.func61 Tryz.ntmps61 (vl (QkC K) (vl (Qoj K) (vl (Qon K) v0)))
def Qfe(K:Nat):FSp TD:=sd 146 [(.st 4)] [.bool] (fun p=>ZY.f K (p))
theorem Qff(K:Nat):VOk Tryz.prog GD (Qfe K):=vk K .n Tryz.func146 Tryz.ntmps146 (vl (qQ K) v0)
def yz(K:Nat):FSp TD:=sg 186 (.cs (.dt (.sl (.st 4))) (.cs (.fn 146 .nl) .nl)) [] [(.sl (.st 4))] [tI] (fun p=>Jn.f K (p)) (.cs dI .nl) [] []
theorem yA(K:Nat):VOk Tryz.prog GD (yz K):=vk K (.s .n (.s (.s .n (.l ⟨[(8,dI)], [], [tI], [], [], []⟩ (some ⟨[], [], [], [], [], []⟩) true .n)) .n)) Tryz.func186 Tryz.ntmps186 (vl (Qff K) v0)
def jJ(K:Nat):FSp TD:=sg 145 (.cs (.dt (.sl (.st 4))) (.cs (.fn 146 .nl) .nl)) [] [(.sl (.st 4))] [.bool] (fun p=>Jb.f K (p)) (.cs dF .nl) [] []
theorem jK(K:Nat):VOk Tryz.prog GD (jJ K):=vk K .n Tryz.func145 Tryz.ntmps145 (vl (yA K) v0)
def Qhu(K:Nat):FSp TD:=sd 86 [(.sl (.st 4))] [.bool] (fun p=>yg.f K (p))
theorem Z8(K:Nat):VOk Tryz.prog GD (Qhu K):=vk K .n Tryz.func86 Tryz.ntmps86 (vl (jK K) v0)
def Qoo(K:Nat):FSp TD:=sg 71 (.cs dI .nl) [] [tI] [tB] (fun p=>qI.f K (p)) (.cs (.own (.int .u8) 5 true) .nl) [] []
theorem qy(K:Nat):VOk Tryz.prog GD (Qoo K):=vkM K (.s .n (.s (.j ⟨[(9,dF)], [], [.bool], [], [], []⟩ .n .n) (.s .n (.s (.s .n (.l ⟨[(0,dI),(3,(.own (.int .u8) 5 true))], [], [tI,tB], [], [], []⟩ (some ⟨[(3,(.own (.int .u8) 5 true))], [], [tB], [], [], []⟩) false .n)) .n)))) Tryz.func71 Tryz.ntmps71 v0 (Qu8 (Zu K) QgE) QgF
def Ql3(K:Nat):FSp TD:=sg 147 .nl [] [] [] (fun p=>Qdp.f K) (.cs (.agg (.cs (.agg (.cs (.raw .nilFunc) .nl)) (.cs (.agg (.cs (.fn 187 .nl) .nl)) (.cs (.agg (.cs (.fn 188 .nl) .nl)) (.cs (.agg (.cs (.fn 189 .nl) .nl)) (.cs (.agg (.cs (.fn 188 .nl) .nl)) (.cs (.agg (.cs (.fn 191 .nl) .nl)) (.cs (.agg (.cs (.fn 192 .nl) .nl)) .nl)))))))) .nl) [] []
theorem QgG(K:Nat):VOk Tryz.prog GD (Ql3 K):=vk K .n Tryz.func147 Tryz.ntmps147 v0
def Qi8(K:Nat):FSp TD:=sg 190 (.cs (.dt (.sl tI)) .nl) [] [(.sl tI)] [tB] (fun p=>qJ.f K (p)) (.cs (.own (.int .u8) 5 true) .nl) [] []
theorem yO(K:Nat):VOk Tryz.prog GD (Qi8 K):=vk K (.s .n (.s .n (.s (.s .n (.l ⟨[(3,(.own (.int .u8) 5 true)),(8,dI)], [], [tB,tI], [], [], []⟩ (some ⟨[(3,(.own (.int .u8) 5 true))], [], [tB], [], [], []⟩) false .n)) .n))) Tryz.func190 Tryz.ntmps190 (vl (qy K) v0)
def Ql4(K:Nat):FSp TD:=sg 187 (.cs (dD 4) .nl) [] [(.st 4)] [tB] (fun p=>QbG.f K (p)) (.cs (.own (.int .u8) 5 true) .nl) [] []
theorem QgH(K:Nat):VOk Tryz.prog GD (Ql4 K):=vk K (.s .n (.s .n (.s (.s .n (.l ⟨[(3,(.own (.int .u8) 5 true)),(16,dI)], [], [tB,tI], [], [], [1]⟩ (some ⟨[(3,(.own (.int .u8) 5 true))], [], [tB], [], [], [1]⟩) false .n)) .n))) Tryz.func187 Tryz.ntmps187 (vl (yO K) v0)
def Qop(K:Nat):FSp TD:=sg 69 (.cs (.dt (.sl tB)) .nl) [] [(.sl tB)] [tB] (fun p=>Je.f K (p)) (.cs (.own (.int .u8) 5 true) .nl) [] []
theorem yu(K:Nat):VOk Tryz.prog GD (Qop K):=vk K .n Tryz.func69 Tryz.ntmps69 (vl (J7 K) v0)
def Ql5(K:Nat):FSp TD:=sg 70 (.cs dF .nl) [] [.bool] [tB] (fun p=>Xn.f K (p)) (.cs (.own (.int .u8) 5 true) .nl) [] []
theorem Qa3(K:Nat):VOk Tryz.prog GD (Ql5 K):=vk K .n Tryz.func70 Tryz.ntmps70 v0
def Qoq(K:Nat):FSp TD:=sg 188 (.cs (dD 4) .nl) [] [(.st 4)] [tB] (fun p=>ZG.f K (p)) (.cs (.own (.int .u8) 5 true) .nl) [] []
theorem Qej(K:Nat):VOk Tryz.prog GD (Qoq K):=vk K (.s .n (.s (.r (ob [2,12,22,32,42,52,62,72,84,100,110,96,126,136,146,152]) [] [1]) .n)) Tryz.func188 Tryz.ntmps188 (vl (yO K) (vl (Qa3 K) (vl (yu K) v0)))
def Ql6(K:Nat):FSp TD:=sg 72 (.cs dH .nl) [] [tH] [tB] (fun p=>jQ.f K (p)) (.cs (.own (.int .u8) 5 true) .nl) [] []
theorem Xc(K:Nat):VOk Tryz.prog GD (Ql6 K):=vk K .n Tryz.func72 Tryz.ntmps72 (vl (JB K) v0)
def Qi9(K:Nat):FSp TD:=sg 189 (.cs (dD 4) .nl) [] [(.st 4)] [tB] (fun p=>XY.f K (p)) (.cs (.own (.int .u8) 5 true) .nl) [] []
theorem QdK(K:Nat):VOk Tryz.prog GD (Qi9 K):=vk K (.s .n (.s (.r (ob [2,20,30,50,60,70,80,94,110,120,16,46,106,136,146,156,162]) [] [1]) .n)) Tryz.func189 Tryz.ntmps189 (vl (Qej K) (vl (Qa3 K) (vl (yO K) (vl (Xc K) (vl (yu K) v0)))))
def Qja(K:Nat):FSp TD:=sg 191 (.cs (dD 4) .nl) [] [(.st 4)] [tB] (fun p=>XZ.f K (p)) (.cs (.own (.int .u8) 5 true) .nl) [] []
theorem QdL(K:Nat):VOk Tryz.prog GD (Qja K):=vk K .n Tryz.func191 Tryz.ntmps191 (vl (yO K) v0)
def Qjb(K:Nat):FSp TD:=sg 192 (.cs (dD 4) .nl) [] [(.st 4)] [tB] (fun p=>X0.f K (p)) (.cs (.own (.int .u8) 5 true) .nl) [] []
theorem QdM(K:Nat):VOk Tryz.prog GD (Qjb K):=vk K .n Tryz.func192 Tryz.ntmps192 (vl (yO K) v0)
def Qor(K:Nat):FSp TD:=sg 168 (.cs dB .nl) [] [tB] [tB] (fun p=>Qcn.f K (p)) (.cs (.own (.int .u8) 5 true) .nl) [] []
theorem Qos(K:Nat):VOk Tryz.prog GD (Qor K):=vk K .n Tryz.func168 Tryz.ntmps168 (vl (Qkt K) (vl (J7 K) v0))
def Qek(K:Nat):FSp TD:=sg 167 (.cs (.dt (.sl tB)) (.cs (.fn 168 .nl) .nl)) [] [(.sl tB)] [tB] (fun p=>X4.f K (p)) (.cs (.own (.int .u8) 5 true) .nl) [] []
theorem Qel(K:Nat):VOk Tryz.prog GD (Qek K):=vk K (.s .n (.s .n (.s (.s .n (.l ⟨[(5,(.own (.int .u8) 5 true)),(10,dI)], [], [tB,tI], [], [], []⟩ (some ⟨[(5,(.own (.int .u8) 5 true))], [], [tB], [], [], []⟩) false .n)) .n))) Tryz.func167 Tryz.ntmps167 (vl (Qos K) v0)
def QsL(K:Nat):FSp TD:=sd 125 [tI,(.sl tB)] [tH] (fun p=>Qgh.f K (p.1) (p.2))
theorem Qns(K:Nat):VOk Tryz.prog GD (QsL K):=vk K .n Tryz.func125 Tryz.ntmps125 (vl (Qel K) (vl (Qaw K) v0))
def QqE(K:Nat):FSp TD:=sd 63 [(.st 4)] [tH] (fun p=>Qgi.f K (p))
theorem QkD(K:Nat):VOk Tryz.prog GD (QqE K):=vk K (.s .n (.s (.j ⟨[(3,dF)], [], [.bool], [], [], []⟩ .n .n) (.s (.r (ob [2,12,22,32,46,56,66]) [1] []) .n))) Tryz.func63 Tryz.ntmps63 (vl (qQ K) (vl (Qns K) v0))
def Qhv(K:Nat):FSp TD:=sg 93 (.cs (.ptr 0 0) .nl) [(52,(dD 4))] [(.st 4)] [tB] (fun p=>ZH.f K (p)) (.cs (.own (.int .u8) 5 true) .nl) [none] []
theorem Qhw(K:Nat):VOk Tryz.prog GD (Qhv K):=vk K .n Tryz.func93 Tryz.ntmps93 (vl (QkD K) (vl (Xc K) v0))
def QqF(K:Nat):FSp TD:=sg 92 (.cs (dD 4) (.cs (.fn 93 (.cs (.ptr 0 0) .nl)) .nl)) [(52,(dD 4))] [(.st 4),(.st 4)] [tB] (fun p=>Qlz.f K (p.1) (p.2)) (.cs (.own (.int .u8) 5 true) .nl) [none] []
theorem QqG(K:Nat):VOk Tryz.prog GD (QqF K):=vk K (.s .n (.s .n (.j ⟨[(5,(.own (.int .u8) 5 true))], [], [tB], [], [], []⟩ (.r (ob [2,12,40,50,80,26,36,62,72,96,106,116,122]) [] [2]) .n))) Tryz.func92 Tryz.ntmps92 (vl (qQ K) (vl (qy K) (vl (QgG K) (vl (QgH K) (vl (yu K) (vl (Qej K) (vl (QdK K) (vl (QdL K) (vl (QdM K) (vl (Qhw K) v0))))))))))
def QkE(K:Nat):FSp TD:=sg 28 (.cs (dD 4) .nl) [] [(.st 4)] [tB] (fun p=>Qao.f K (p)) (.cs (.own (.int .u8) 5 true) .nl) [] []
theorem QeV(K:Nat):VOk Tryz.prog GD (QkE K):=vk K .n Tryz.func28 Tryz.ntmps28 (vl (QqG K) v0)
def Ql7(K:Nat):FSp TD:=sd 87 [tB] [tH] (fun p=>Qap.f K (p))
theorem QgI(K:Nat):VOk Tryz.prog GD (Ql7 K):=vk K .n Tryz.func87 Tryz.ntmps87 (vl (Qaw K) v0)
def QgJ(K:Nat):FSp TD:=sd 24 [(.sl (.st 4))] [(.sl tH)] (fun p=>qK.f K (p))
theorem yP(K:Nat):VOk Tryz.prog GD (QgJ K):=vk K (.s .n (.s .n (.s .n (.s (.s .n (.l ⟨[(3,(.own tH 37 true)),(11,dI)], [], [(.sl tH),tI], [], [], []⟩ (some ⟨[(3,(.own tH 37 true))], [], [(.sl tH)], [], [], []⟩) false .n)) .n)))) Tryz.func24 Tryz.ntmps24 (vl (Z8 K) (vl (QeV K) (vl (QgI K) v0)))
def QkF(K:Nat):FSp TD:=sd 84 [tI] [tI] (fun p=>yh.f K (p))
theorem QbX(K:Nat):VOk Tryz.prog GD (QkF K):=vk K (.s .n (.s .n (.s .n (.s (.l ⟨[(3,dI)], [], [tI], [], [], []⟩ (some ⟨[(3,dI)], [], [tI], [], [], []⟩) false .n) .n)))) Tryz.func84 Tryz.ntmps84 v0
def Ql8(K:Nat):FSp TD:=sd 85 [tH,tH] [tH] (fun p=>jR.f K (p.1) (p.2))
theorem Qa4(K:Nat):VOk Tryz.prog GD (Ql8 K):=vk K (.s .n (.s (.r (ob [4,12,22,36,46,56]) [2,3] []) .n)) Tryz.func85 Tryz.ntmps85 (vl (Qaw K) v0)
def QgK(K k:Nat):FSp TD:=sd 23 [(.sl tH)] [tH] (fun p=>Jr.r K k (p))
theorem Ql9(K:Nat):∀k,VOk Tryz.prog GD (QgK K k):=by
 intro k
 induction k with
 |zero=>exact Qt2 Tryz.func23 rfl (by kernel_rfl) (fun _=>rfl)
 |succ k ih=>
  exact vk K (.s .n (.s .n (.s .n (.s (.r (ob [2,12,40,50,60,26,36,76,86,96]) [] []) .n)))) Tryz.func23 Tryz.ntmps23 (vl (Qaw K) (vl (QbX K) (vl (Qa4 K) (vl ih v0))))
def Qma(K:Nat):FSp TD:=QgK K K
theorem Qc0(K:Nat):VOk Tryz.prog GD (Qma K):=Ql9 K K
def Qmb(K:Nat):FSp TD:=sd 138 [(.st 2)] [tH] (fun p=>Qdq.f K (p))
theorem Qmc(K:Nat):VOk Tryz.prog GD (Qmb K):=vk K (.s .n (.s (.r (ob [2,12,30,40,26,56,66,76]) [1] []) .n)) Tryz.func138 Tryz.ntmps138 (vl (qy K) (vl (Qns K) v0))
def Qmd(K:Nat):FSp TD:=sd 79 [(.st 0),tI,(.st 2)] [tH] (fun p=>X5.f K (p.1) (p.2.1) (p.2.2))
theorem QgL(K:Nat):VOk Tryz.prog GD (Qmd K):=vk K (.s .n (.s (.j ⟨[(25,dF)], [], [.bool], [], [], []⟩ .n .n) (.s .n (.s (.r (ob [0,10,20,30,40,54,62,76,86,96]) [7] [3]) .n)))) Tryz.func79 Tryz.ntmps79 (vl (Qcv K) (vl (XF K) (vl (Qmc K) (vl (Qky K) v0))))
def qA(K:Nat):FSp TD:=sg 37 (.cs (dD 0) (.cs (.dt (.sl (.st 4))) .nl)) [] [(.st 0),(.sl (.st 4))] [tI,tH,(.sl (.st 1))] (fun p=>qZ.f K (p.1) (p.2)) (.cs (.agg (.cs dI (.cs dH (.cs (.own (.st 1) 107 true) .nl)))) .nl) [] []
theorem Qax(K:Nat):VOk Tryz.prog GD (qA K):=vk K (.s .n (.s .n (.s .n (.s (.s .n (.l ⟨[(7,dI)], [(6,(.agg (.cs dI (.cs dH (.cs (.own (.st 1) 107 true) .nl)))))], [tI,tI,tH,(.sl (.st 1))], [], [], []⟩ (some ⟨[], [(6,(.agg (.cs dI (.cs dH (.cs (.own (.st 1) 107 true) .nl)))))], [tI,tH,(.sl (.st 1))], [], [], [2,5]⟩) false (.s .n (.s (.r (ob [0,10,20,32,42,52,66,72,84,96,102,116]) [] [6]) .n)))) .n)))) Tryz.func37 Tryz.ntmps37 (vl (yP K) (vl (Qc0 K) (vl (QgL K) v0)))
def Qhx(K:Nat):FSp TD:=sg 107 (.cs dI (.cs (.fn 108 .nl) .nl)) [] [tI] [tI] (fun p=>QeP.f K (p)) (.cs (.fn 159 (.cs (.ptr 0 0) (.cs (.ptr 1 0) .nl))) .nl) [] [(3,dI),(173,(.fn 108 .nl))]
theorem Qhy(K:Nat):VOk Tryz.prog GD (Qhx K):=vk K .n Tryz.func107 Tryz.ntmps107 v0
def Qfg(K:Nat):FSp TD:=sd 108 [tI] [.bool] (fun p=>QcH.f K (p))
theorem Qfh(K:Nat):VOk Tryz.prog GD (Qfg K):=vk K .n Tryz.func108 Tryz.ntmps108 v0
def QkG(K:Nat):FSp TD:=sd 16 [(.st 4)] [(.st 4)] (fun p=>QhZ.f K (p))
theorem QkH(K:Nat):VOk Tryz.prog GD (QkG K):=vk K (.s .n (.s (.j ⟨[(10,dF)], [], [.bool], [], [], []⟩ .n .n) (.s (.r (ob [0,10,22,32,50,46,66,72,86]) [] [1]) .n))) Tryz.func16 Tryz.ntmps16 (vl (qQ K) (vl (Jp K) (vl (QkD K) v0)))
def QgM(K:Nat):FSp TD:=sd 158 [(.st 4),tI,(.int .u32)] [(.st 4)] (fun p=>QaN.f K (p.1) (p.2.1) (p.2.2))
theorem QbY(K:Nat):VOk Tryz.prog GD (QgM K):=vk K (.s .n (.s .n (.s (.r (ob [2,12,30,40,26,60,56,76,82,96]) [] [3]) .n))) Tryz.func158 Tryz.ntmps158 (vl (QkH K) (vl (Jp K) (vl (JB K) v0)))
def QeW(K k:Nat):FSp TD:=sg 91 (.cs (.dt (.sl tH)) (.cs dI .nl)) [] [(.sl tH),tI] [(.sl tH),.bool] (fun p=>yj.r K k (p.1) (p.2)) (.cs (.own tH 37 true) (.cs dF .nl)) [] []
theorem QkI(K:Nat):∀k,VOk Tryz.prog GD (QeW K k):=by
 intro k
 induction k with
 |zero=>exact Qt2 Tryz.func91 rfl (by kernel_rfl) (fun _=>rfl)
 |succ k ih=>
  exact vk K (.s .n (.s (.j ⟨[(18,dF)], [], [.bool], [], [], []⟩ .n .n) .n)) Tryz.func91 Tryz.ntmps91 (vl (QbX K) (vl (Qc0 K) (vl ih v0)))
def QkJ(K:Nat):FSp TD:=QeW K K
theorem QeX(K:Nat):VOk Tryz.prog GD (QkJ K):=QkI K K
def QgN(K:Nat):FSp TD:=sd 122 [tI,tI,tI] [.bool] (fun p=>jD.f K (p.1) (p.2.1) (p.2.2))
theorem Zj(K:Nat):VOk Tryz.prog GD (QgN K):=vk K .n Tryz.func122 Tryz.ntmps122 v0
def Qfi(K:Nat):FSp TD:=sd 162 [(.st 1)] [.bool] (fun p=>Xh.f K (p))
theorem Qfj(K:Nat):VOk Tryz.prog GD (Qfi K):=vk K .n Tryz.func162 Tryz.ntmps162 (vl (Zj K) v0)
def yB(K:Nat):FSp TD:=sg 195 (.cs (.dt (.sl (.st 1))) (.cs (.fn 162 .nl) .nl)) [] [(.sl (.st 1))] [tI] (fun p=>Jo.f K (p)) (.cs dI .nl) [] []
theorem yC(K:Nat):VOk Tryz.prog GD (yB K):=vk K (.s .n (.s (.s .n (.l ⟨[(8,dI)], [], [tI], [], [], []⟩ (some ⟨[], [], [], [], [], []⟩) true .n)) .n)) Tryz.func195 Tryz.ntmps195 (vl (Qfj K) v0)
def jL(K:Nat):FSp TD:=sg 163 (.cs (.dt (.sl (.st 1))) (.cs (.fn 162 .nl) .nl)) [] [(.sl (.st 1))] [.bool] (fun p=>YP.f K (p)) (.cs dF .nl) [] []
theorem jM(K:Nat):VOk Tryz.prog GD (jL K):=vk K .n Tryz.func163 Tryz.ntmps163 (vl (yC K) v0)
def Qhz(K:Nat):FSp TD:=sd 121 [(.st 2)] [.bool] (fun p=>ZI.f K (p))
theorem QhA(K:Nat):VOk Tryz.prog GD (Qhz K):=vk K .n Tryz.func121 Tryz.ntmps121 (vl (Zj K) (vl (jM K) v0))
def QhB(K:Nat):FSp TD:=sd 60 [(.st 7)] [.bool] (fun p=>JJ.f K (p))
theorem Xj(K:Nat):VOk Tryz.prog GD (QhB K):=vk K (.s .n (.s (.j ⟨[(31,dF)], [], [.bool], [], [], []⟩ .n .n) (.s .n (.s (.s .n (.l ⟨[(3,dI),(35,dI)], [], [tI,tI], [], [], []⟩ (some ⟨[], [], [], [], [], [1]⟩) true (.s .n (.s .n (.s (.s .n (.s (.j ⟨[(77,dF)], [], [.bool], [], [], []⟩ .n .n) .n)) .n))))) .n)))) Tryz.func60 Tryz.ntmps60 (vl (QhA K) (vl (qQ K) (vl (Zj K) v0)))
def Qjc(K:Nat):FSp TD:=sg 106 (.cs (.dt (.sl (.st 4))) (.cs (dD 2) (.cs (.dt (.int .u32)) (.cs dF (.cs (.fn 159 (.cs (.ptr 0 0) (.cs (.ptr 1 0) .nl))) .nl))))) [(3,dI),(173,(.fn 108 .nl))] [(.sl (.st 4)),(.st 2),(.int .u32),.bool,tI] [(.st 7),.bool] (fun p=>Qgj.f K (p.1) (p.2.1) (p.2.2.1) (p.2.2.2.1) (p.2.2.2.2)) (.cs (dD 7) (.cs dF .nl)) [none,none] []
theorem Qjd(K:Nat):VOk Tryz.prog GD (Qjc K):=vk K (.s .n (.s (.j ⟨[(35,dF)], [], [.bool], [], [], []⟩ .n .n) (.s .n (.s (.r (ob [0,10,20,30,40,52,62,104,76,82,92,116]) [] [6,8]) (.s (.s .n (.g (.s .n (.l ⟨[(6,dI)], [(1000000000013,(.agg (.cs dF (.cs (dD 2) (.cs (.own (.st 6) 55 false) .nl)))))], [tI,.bool,(.st 2),(.sl (.st 6))], [], [], []⟩ (some ⟨[], [(1000000000013,(.agg (.cs dF (.cs (dD 2) (.cs (.own (.st 6) 55 false) .nl)))))], [.bool,(.st 2),(.sl (.st 6))], [], [], []⟩) true (.s .n (.s .n (.j ⟨[], [(1000000000013,(.agg (.cs dF (.cs (dD 2) (.cs (.own (.st 6) 55 false) .nl)))))], [.bool,(.st 2),(.sl (.st 6))], [], [], []⟩ .n .n))))) .n (.s (.j ⟨[(61,dF)], [], [.bool], [], [], []⟩ .n .n) (.s (.r (ob [0,12,22,32,42,52,62,94,76,82,106]) [] []) (.j ⟨[(73,dF)], [(15,(.agg (.cs dI (.cs (dD 4) (.cs (.own tH 37 true) .nl)))))], [.bool,tI,(.st 4),(.sl tH)], [], [], []⟩ .n .n))))) .n))))) Tryz.func106 Tryz.ntmps106 (vl (Z8 K) (vl (yP K) (vl (qF K) (vl (Qfh K) (vl (QbY K) (vl (QeX K) (vl (Xj K) v0)))))))
def Z9(K:Nat):FSp TD:=sd 38 [(.sl (.st 4)),(.st 2),(.int .u32)] [(.st 7),.bool] (fun p=>QbH.f K (p.1) (p.2.1) (p.2.2))
theorem QhC(K:Nat):VOk Tryz.prog GD (Z9 K):=vk K (.s .n (.s (.r (ob [0,10,20,32,42,52,66,76,82,92,106,112]) [] [4]) .n)) Tryz.func38 Tryz.ntmps38 (vl (Qhy K) (vl (Qjd K) v0))
def Qem(K:Nat):FSp TD:=sg 107 (.cs dI (.cs (.fn 109 (.cs (.ptr 0 0) (.cs (.ptr 1 0) .nl))) .nl)) [(64,(.dt (.sl (.st 4)))),(3,dI)] [tI,(.sl (.st 4)),tI] [tI] (fun p=>QbI.f K (p.1) (p.2.1) (p.2.2)) (.cs (.fn 159 (.cs (.ptr 2 0) (.cs (.ptr 3 0) .nl))) .nl) [none,none] [(3,dI),(173,(.fn 109 (.cs (.ptr 0 0) (.cs (.ptr 1 0) .nl))))]
theorem Qen(K:Nat):VOk Tryz.prog GD (Qem K):=vk K .n Tryz.func107 Tryz.ntmps107 v0
def QgO(K:Nat):FSp TD:=sg 109 (.cs dI (.cs (.ptr 0 0) (.cs (.ptr 1 0) .nl))) [(64,(.dt (.sl (.st 4)))),(3,dI)] [tI,(.sl (.st 4)),tI] [.bool] (fun p=>Qdr.f K (p.1) (p.2.1) (p.2.2)) (.cs dF .nl) [none,none] []
theorem QgP(K:Nat):VOk Tryz.prog GD (QgO K):=vk K (.s .n (.s (.r (ob [2,12,22,32,42,52,63,72,82,92,102,112,122,132,142,152]) [] []) .n)) Tryz.func109 Tryz.ntmps109 v0
def Qfk(K:Nat):FSp TD:=sg 106 (.cs (.dt (.sl (.st 4))) (.cs (dD 2) (.cs (.dt (.int .u32)) (.cs dF (.cs (.fn 159 (.cs (.ptr 0 0) (.cs (.ptr 1 0) .nl))) .nl))))) [(3,dI),(173,(.fn 109 (.cs (.ptr 2 0) (.cs (.ptr 3 0) .nl)))),(64,(.dt (.sl (.st 4)))),(3,dI)] [(.sl (.st 4)),(.st 2),(.int .u32),.bool,tI,(.sl (.st 4)),tI] [(.st 7),.bool] (fun p=>QcI.f K (p.1) (p.2.1) (p.2.2.1) (p.2.2.2.1) (p.2.2.2.2.1) (p.2.2.2.2.2.1) (p.2.2.2.2.2.2)) (.cs (dD 7) (.cs dF .nl)) [none,none,none,none] []
theorem Qfl(K:Nat):VOk Tryz.prog GD (Qfk K):=vk K (.s .n (.s (.j ⟨[(35,dF)], [], [.bool], [], [], []⟩ .n .n) (.s .n (.s (.r (ob [0,10,20,30,40,52,62,104,76,82,92,116]) [] [6,8]) (.s (.s .n (.g (.s .n (.l ⟨[(6,dI)], [(1000000000013,(.agg (.cs dF (.cs (dD 2) (.cs (.own (.st 6) 55 false) .nl)))))], [tI,.bool,(.st 2),(.sl (.st 6))], [], [], []⟩ (some ⟨[], [(1000000000013,(.agg (.cs dF (.cs (dD 2) (.cs (.own (.st 6) 55 false) .nl)))))], [.bool,(.st 2),(.sl (.st 6))], [], [], []⟩) true (.s .n (.s .n (.j ⟨[], [(1000000000013,(.agg (.cs dF (.cs (dD 2) (.cs (.own (.st 6) 55 false) .nl)))))], [.bool,(.st 2),(.sl (.st 6))], [], [], []⟩ .n .n))))) .n (.s (.j ⟨[(61,dF)], [], [.bool], [], [], []⟩ .n .n) (.s (.r (ob [0,12,22,32,42,52,62,94,76,82,106]) [] []) (.j ⟨[(73,dF)], [(15,(.agg (.cs dI (.cs (dD 4) (.cs (.own tH 37 true) .nl)))))], [.bool,tI,(.st 4),(.sl tH)], [], [], []⟩ .n .n))))) .n))))) Tryz.func106 Tryz.ntmps106 (vl (Z8 K) (vl (yP K) (vl (qF K) (vl (QgP K) (vl (QbY K) (vl (QeX K) (vl (Xj K) v0)))))))
def Qa5(K:Nat):FSp TD:=sd 39 [(.sl (.st 4)),(.st 2),(.int .u32),tI] [(.st 7),.bool] (fun p=>Qgk.f K (p.1) (p.2.1) (p.2.2.1) (p.2.2.2))
theorem Qje(K:Nat):VOk Tryz.prog GD (Qa5 K):=vk K (.s .n (.s (.r (ob [0,10,20,32,42,52,62,72,82,92,106,116,122,132,146,152]) [] [4,5]) .n)) Tryz.func39 Tryz.ntmps39 (vl (Qen K) (vl (Qfl K) v0))
def QhD(K:Nat):FSp TD:=sg 74 (.cs (dD 1) .nl) [] [(.st 1)] [tB] (fun p=>QeQ.f K (p)) (.cs (.own (.int .u8) 5 true) .nl) [] []
theorem QhE(K:Nat):VOk Tryz.prog GD (QhD K):=vk K (.s .n (.s (.r (ob [2,12,30,40,26,56,66,76,82]) [] [1]) .n)) Tryz.func74 Tryz.ntmps74 (vl (qy K) (vl (Xc K) (vl (yu K) v0)))
def QbZ(K:Nat):FSp TD:=sg 73 (.cs (.dt (.sl (.st 1))) (.cs (.fn 74 .nl) .nl)) [] [(.sl (.st 1))] [tB] (fun p=>X6.f K (p)) (.cs (.own (.int .u8) 5 true) .nl) [] []
theorem Qb0(K:Nat):VOk Tryz.prog GD (QbZ K):=vk K (.s .n (.s .n (.s (.s .n (.l ⟨[(5,(.own (.int .u8) 5 true)),(13,dI)], [], [tB,tI], [], [], []⟩ (some ⟨[(5,(.own (.int .u8) 5 true))], [], [tB], [], [], []⟩) false .n)) .n))) Tryz.func73 Tryz.ntmps73 (vl (qy K) (vl (QhE K) v0))
def QkK(K:Nat):FSp TD:=sg 137 (.cs dB .nl) [] [tB] [tB] (fun p=>Qh0.f K (p)) (.cs (.own (.int .u8) 5 true) .nl) [] []
theorem QkL(K:Nat):VOk Tryz.prog GD (QkK K):=vk K .n Tryz.func137 Tryz.ntmps137 (vl (qy K) v0)
def QkM(K:Nat):FSp TD:=sg 136 (.cs (.ptr 0 0) .nl) [(52,(dD 4))] [(.st 4)] [tB] (fun p=>Qh1.f K (p)) (.cs (.own (.int .u8) 5 true) .nl) [none] []
theorem QkN(K:Nat):VOk Tryz.prog GD (QkM K):=vk K (.s .n (.s (.s .n (.s (.s (.r (ob [10,20,6,36,46,56,62]) [] [0]) .n) .n)) (.s (.r (ob [10,20,40,50,6,36,66,76,86,92]) [] [0]) .n))) Tryz.func136 Tryz.ntmps136 (vl (Qa3 K) (vl (Xc K) (vl (yu K) (vl (QkL K) v0))))
def QkO(K:Nat):FSp TD:=sg 92 (.cs (dD 4) (.cs (.fn 136 (.cs (.ptr 0 0) .nl)) .nl)) [(52,(dD 4))] [(.st 4),(.st 4)] [tB] (fun p=>Qh2.f K (p.1) (p.2)) (.cs (.own (.int .u8) 5 true) .nl) [none] []
theorem QkP(K:Nat):VOk Tryz.prog GD (QkO K):=vk K (.s .n (.s .n (.j ⟨[(5,(.own (.int .u8) 5 true))], [], [tB], [], [], []⟩ (.r (ob [2,12,40,50,80,26,36,62,72,96,106,116,122]) [] [2]) .n))) Tryz.func92 Tryz.ntmps92 (vl (qQ K) (vl (qy K) (vl (QgG K) (vl (QgH K) (vl (yu K) (vl (Qej K) (vl (QdK K) (vl (QdL K) (vl (QdM K) (vl (QkN K) v0))))))))))
def Qot(K:Nat):FSp TD:=sg 77 (.cs (dD 4) .nl) [] [(.st 4)] [tB] (fun p=>QiG.f K (p)) (.cs (.own (.int .u8) 5 true) .nl) [] []
theorem Qic(K:Nat):VOk Tryz.prog GD (Qot K):=vk K .n Tryz.func77 Tryz.ntmps77 (vl (QkP K) v0)
def Qbi(K:Nat):FSp TD:=sg 135 (.cs (.dt (.sl tH)) (.cs (.fn 72 .nl) .nl)) [] [(.sl tH)] [tB] (fun p=>Xw.f K (p)) (.cs (.own (.int .u8) 5 true) .nl) [] []
theorem Qbj(K:Nat):VOk Tryz.prog GD (Qbi K):=vk K (.s .n (.s .n (.s (.s .n (.l ⟨[(5,(.own (.int .u8) 5 true)),(13,dI)], [], [tB,tI], [], [], []⟩ (some ⟨[(5,(.own (.int .u8) 5 true))], [], [tB], [], [], []⟩) false .n)) .n))) Tryz.func135 Tryz.ntmps135 (vl (qy K) (vl (Xc K) v0))
def Qjf(K:Nat):FSp TD:=sg 76 (.cs (dD 6) .nl) [] [(.st 6)] [tB] (fun p=>Qgl.f K (p)) (.cs (.own (.int .u8) 5 true) .nl) [] []
theorem Qjg(K:Nat):VOk Tryz.prog GD (Qjf K):=vk K (.s .n (.s (.r (ob [2,12,30,40,60,70,26,56,86,96,106,112]) [] [1]) .n)) Tryz.func76 Tryz.ntmps76 (vl (qy K) (vl (Qic K) (vl (Qbj K) (vl (yu K) v0))))
def Qbk(K:Nat):FSp TD:=sg 75 (.cs (.dt (.sl (.st 6))) (.cs (.fn 76 .nl) .nl)) [] [(.sl (.st 6))] [tB] (fun p=>Xx.f K (p)) (.cs (.own (.int .u8) 5 true) .nl) [] []
theorem Qbl(K:Nat):VOk Tryz.prog GD (Qbk K):=vk K (.s .n (.s .n (.s (.s .n (.l ⟨[(5,(.own (.int .u8) 5 true)),(13,dI)], [], [tB,tI], [], [], []⟩ (some ⟨[(5,(.own (.int .u8) 5 true))], [], [tB], [], [], []⟩) false .n)) .n))) Tryz.func75 Tryz.ntmps75 (vl (qy K) (vl (Qjg K) v0))
def Qb1(K:Nat):FSp TD:=sg 18 (.cs (dD 7) .nl) [] [(.st 7)] [tB] (fun p=>Qaq.f K (p)) (.cs (.own (.int .u8) 5 true) .nl) [] []
theorem QkQ(K:Nat):VOk Tryz.prog GD (Qb1 K):=vk K (.s .n (.s .n (.s (.r (ob [4,18,22,32,50,60,70,90,100,110,130,140,150,46,86,126,166,176,186,192]) [] [1]) (.s .n (.s (.s .n (.l ⟨[(3,(.own (.int .u8) 5 true)),(39,dI)], [], [tB,tI], [], [], [1]⟩ (some ⟨[(3,(.own (.int .u8) 5 true))], [], [tB], [], [], [1]⟩) false .n)) .n))))) Tryz.func18 Tryz.ntmps18 (vl (Xj K) (vl (Qa3 K) (vl (qy K) (vl (Xc K) (vl (Qb0 K) (vl (yu K) (vl (Qbl K) (vl (Qic K) v0))))))))
def Qb2(K:Nat):FSp TD:=sp 65 (.cs dF (.cs dI .nl)) [] [.bool,tI] [] (120,true) (fun p=>Yu.fs K (p.1) (p.2)) [] .nl [] []
theorem yw(K:Nat):VOk Tryz.prog GD (Qb2 K):=vkP K .n Tryz.func65 Tryz.ntmps65 v0 rfl
def Qeo(K:Nat):FSp TD:=sd 110 [tB,tB] [.bool] (fun p=>bytes_HasPrefix.f K (p.1) (p.2))
theorem Qep(K:Nat):VOk Tryz.prog GD (Qeo K):=vk K .n Tryz.func110 Tryz.ntmps110 (vl (QdJ K) v0)
def Qeq(K:Nat):FSp TD:=sd 45 [tB,tB] [tB,.bool] (fun p=>bytes_CutPrefix.f K (p.1) (p.2))
theorem Qer(K:Nat):VOk Tryz.prog GD (Qeq K):=vk K .n Tryz.func45 Tryz.ntmps45 (vl (Qep K) v0)
def Qme(K:Nat):FSp TD:=sg 46 (.cs dB .nl) [] [tB] [(.st 10)] (fun p=>Qds.f K (p)) (.cs (.ptr 0 0) .nl) [] [(176,(dD 10))]
theorem Qmf(K:Nat):VOk Tryz.prog GD (Qme K):=vk K .n Tryz.func46 Tryz.ntmps46 (vl (JB K) v0)
def Qes(K:Nat):FSp TD:=sg 118 (.cs (.ptr 0 0) .nl) [(176,(dD 10))] [(.st 10)] [tI] (fun p=>QE.f K (p)) (.cs dI .nl) [none] []
theorem YK(K:Nat):VOk Tryz.prog GD (Qes K):=vk K .n Tryz.func118 Tryz.ntmps118 v0
def QcA(K:Nat):FSp TD:=sd 113 [tB] [.bool,tI,tI] (fun p=>JW.f K (p))
theorem QcB(K:Nat):VOk Tryz.prog GD (QcA K):=vk K .n Tryz.func113 Tryz.ntmps113 v0
def QdN(K:Nat):FSp TD:=sg 49 (.cs (.ptr 0 0) (.cs dI .nl)) [(176,(dD 10))] [tI,(.st 10)] [(.st 10)] (fun p=>Ya.f K (p.1) (p.2)) .nl [some (dD 10)] []
theorem YA(K:Nat):VOk Tryz.prog GD (QdN K):=vk K (.j ⟨[(16,dF)], [], [.bool], [], [], []⟩ .n .n) Tryz.func49 Tryz.ntmps49 v0
def Qfm(K:Nat):FSp TD:=sg 112 (.cs (.ptr 0 0) (.cs (.fn 113 .nl) .nl)) [(176,(dD 10))] [(.st 10)] [.bool,(.st 10)] (fun p=>qW.f K (p)) (.cs dF .nl) [some (dD 10)] []
theorem Qfn(K:Nat):VOk Tryz.prog GD (Qfm K):=vk K .n Tryz.func112 Tryz.ntmps112 (vl (YK K) (vl (QcB K) (vl (YA K) v0)))
def QdO(K:Nat):FSp TD:=sg 47 (.cs (.ptr 0 0) .nl) [(176,(dD 10))] [(.st 10)] [.bool,(.st 10)] (fun p=>Yy.f K (p)) (.cs dF .nl) [some (dD 10)] []
theorem ZP(K:Nat):VOk Tryz.prog GD (QdO K):=vk K .n Tryz.func47 Tryz.ntmps47 (vl (Qfn K) v0)
def Qjh(K:Nat):FSp TD:=sd 115 [tB] [tI,tI,tI] (fun p=>X7.f K (p))
theorem QdP(K:Nat):VOk Tryz.prog GD (Qjh K):=vk K (.s .n (.s .n (.s (.s .n (.l ⟨[(5,dI),(10,dI)], [], [tI,tI], [], [], []⟩ (some ⟨[], [], [], [], [], []⟩) true (.s .n (.s .n (.s (.s .n (.s (.j ⟨[(24,dF)], [], [.bool], [], [], []⟩ .n .n) .n)) .n))))) .n))) Tryz.func115 Tryz.ntmps115 v0
def QgQ(K:Nat):FSp TD:=sg 114 (.cs (.ptr 0 0) (.cs (.fn 115 .nl) .nl)) [(176,(dD 10))] [(.st 10)] [tI,(.st 10)] (fun p=>yK.f K (p)) (.cs dI .nl) [some (dD 10)] []
theorem QgR(K:Nat):VOk Tryz.prog GD (QgQ K):=vk K .n Tryz.func114 Tryz.ntmps114 (vl (YK K) (vl (QdP K) (vl (YA K) v0)))
def Qet(K:Nat):FSp TD:=sg 48 (.cs (.ptr 0 0) .nl) [(176,(dD 10))] [(.st 10)] [tI,(.st 10)] (fun p=>QB.f K (p)) (.cs dI .nl) [some (dD 10)] []
theorem qB(K:Nat):VOk Tryz.prog GD (Qet K):=vk K .n Tryz.func48 Tryz.ntmps48 (vl (QgR K) v0)
def QcC(K:Nat):FSp TD:=sd 117 [tB] [tH,tI,tI] (fun p=>jc.f K (p))
theorem QcD(K:Nat):VOk Tryz.prog GD (QcC K):=vk K .n Tryz.func117 Tryz.ntmps117 v0
def QcE(K:Nat):FSp TD:=sg 116 (.cs (.ptr 0 0) (.cs (.fn 117 .nl) .nl)) [(176,(dD 10))] [(.st 10)] [tH,(.st 10)] (fun p=>JX.f K (p)) (.cs dH .nl) [some (dD 10)] []
theorem QcF(K:Nat):VOk Tryz.prog GD (QcE K):=vk K .n Tryz.func116 Tryz.ntmps116 (vl (YK K) (vl (QcD K) (vl (YA K) v0)))
def QdQ(K:Nat):FSp TD:=sg 50 (.cs (.ptr 0 0) .nl) [(176,(dD 10))] [(.st 10)] [tH,(.st 10)] (fun p=>Ym.f K (p)) (.cs dH .nl) [some (dD 10)] []
theorem jd(K:Nat):VOk Tryz.prog GD (QdQ K):=vk K .n Tryz.func50 Tryz.ntmps50 (vl (QcF K) v0)
def QhF(K:Nat):FSp TD:=sg 52 (.cs dI (.cs (.ptr 0 0) .nl)) [(100,(.ptr 1 0)),(176,(dD 10))] [tI,(.st 10)] [(.st 1),(.st 10)] (fun p=>QbJ.f K (p.1) (p.2)) (.cs (dD 1) .nl) [none,some (dD 10)] []
theorem QhG(K:Nat):VOk Tryz.prog GD (QhF K):=vk K (.s .n (.s (.r (ob [2,20,16,36,42,56]) [] [1]) .n)) Tryz.func52 Tryz.ntmps52 (vl (qB K) (vl (jd K) v0))
def Qb3(K:Nat):FSp TD:=sg 51 (.cs (.ptr 0 0) (.cs dI (.cs dI (.cs (.fn 52 (.cs (.ptr 1 0) .nl)) .nl)))) [(176,(dD 10)),(100,(.ptr 0 0))] [tI,tI,(.st 10)] [(.sl (.st 1)),(.st 10)] (fun p=>JM.f K (p.1) (p.2.1) (p.2.2)) (.cs (.own (.st 1) 107 true) .nl) [some (dD 10),none] []
theorem Qb4(K:Nat):VOk Tryz.prog GD (Qb3 K):=vk K (.s .n (.j ⟨[], [(0,(dD 10))], [(.st 10)], [], [], []⟩ .n (.s .n (.s (.s .n (.l ⟨[(9,(.own (.st 1) 107 true)),(17,dI)], [(0,(dD 10))], [(.sl (.st 1)),tI,(.st 10)], [], [], []⟩ (some ⟨[(9,(.own (.st 1) 107 true))], [(0,(dD 10))], [(.sl (.st 1)),(.st 10)], [], [], []⟩) false .n)) .n)))) Tryz.func51 Tryz.ntmps51 (vl (YA K) (vl (YK K) (vl (QhG K) v0)))
def Qmg(K:Nat):FSp TD:=sg 119 (.cs (.ptr 0 0) .nl) [(176,(dD 10))] [(.st 10)] [(.sl (.st 3)),(.st 10)] (fun p=>QbK.f K (p)) (.cs (.own (.st 3) 90 true) .nl) [some (dD 10)] []
theorem Qmh(K:Nat):VOk Tryz.prog GD (Qmg K):=vk K (.s .n (.s .n (.j ⟨[], [(0,(dD 10))], [(.st 10)], [], [], []⟩ .n (.s .n (.s (.s .n (.l ⟨[(4,(.own (.st 3) 90 true)),(12,dI)], [(0,(dD 10))], [(.sl (.st 3)),tI,(.st 10)], [], [], []⟩ (some ⟨[(4,(.own (.st 3) 90 true))], [(0,(dD 10))], [(.sl (.st 3)),(.st 10)], [], [], []⟩) false .n)) .n))))) Tryz.func119 Tryz.ntmps119 (vl (qB K) (vl (YA K) (vl (YK K) v0)))
def Qb5(K:Nat):FSp TD:=sg 161 (.cs dB (.cs (.ptr 0 0) .nl)) [(3,dI)] [tB,tI] [tB,tI,tI] (fun p=>Jt.f K (p.1) (p.2)) (.cs (.own (.int .u8) 5 true) (.cs dI (.cs dI .nl))) [none] []
theorem Qb6(K:Nat):VOk Tryz.prog GD (Qb5 K):=vk K .n Tryz.func161 Tryz.ntmps161 (vl (QdP K) (vl (JB K) v0))
def Qfo(K:Nat):FSp TD:=sg 160 (.cs (.ptr 0 0) (.cs (.fn 161 (.cs (.ptr 1 0) .nl)) .nl)) [(176,(dD 10)),(3,dI)] [(.st 10),tI] [tB,(.st 10)] (fun p=>J6.f K (p.1) (p.2)) (.cs (.own (.int .u8) 5 true) .nl) [some (dD 10),none] []
theorem Qfp(K:Nat):VOk Tryz.prog GD (Qfo K):=vk K .n Tryz.func160 Tryz.ntmps160 (vl (YK K) (vl (Qb6 K) (vl (YA K) v0)))
def Qc1(K:Nat):FSp TD:=sg 120 (.cs (.ptr 0 0) (.cs dI .nl)) [(176,(dD 10))] [tI,(.st 10)] [tB,(.st 10)] (fun p=>YI.f K (p.1) (p.2)) (.cs (.own (.int .u8) 5 true) .nl) [some (dD 10)] []
theorem Qc2(K:Nat):VOk Tryz.prog GD (Qc1 K):=vk K .n Tryz.func120 Tryz.ntmps120 (vl (Qfp K) v0)
def Qou(K:Nat):FSp TD:=sg 55 (.cs (.ptr 0 0) .nl) [(176,(dD 10))] [(.st 10)] [(.st 4),(.st 10)] (fun p=>Qdt.f K (p)) (.cs (dD 4) .nl) [some (dD 10)] []
theorem Qid(K:Nat):VOk Tryz.prog GD (Qou K):=vk K (.s .n (.s .n (.j ⟨[], [(0,(dD 10)),(3,(.agg (.cs dI (.cs dI (.cs dI (.cs dI (.cs dI (.cs dF (.cs dF (.cs dI (.cs dI (.cs dI (.cs dH (.cs (.dt (.sl (.st 3))) (.cs dB (.cs dH (.cs dF (.cs dH .nl))))))))))))))))))], [(.st 10),tI,tI,tI,tI,tI,.bool,.bool,tI,tI,tI,tH,(.sl (.st 3)),tB,tH,.bool,tH], [], [], []⟩ (.s .n (.s .n (.s .n (.j ⟨[(33,dF)], [], [.bool], [], [], []⟩ .n .n)))) (.j ⟨[], [(0,(dD 10))], [(.st 10)], [], [], []⟩ .n .n)))) Tryz.func55 Tryz.ntmps55 (vl (qB K) (vl (Qmh K) (vl (ZP K) (vl (jd K) (vl (Qc2 K) (vl (YA K) (vl (qQ K) (vl (YK K) v0))))))))
def QhH(K:Nat):FSp TD:=sg 54 (.cs dI (.cs (.ptr 0 0) .nl)) [(100,(.ptr 1 0)),(176,(dD 10))] [tI,(.st 10)] [(.st 6),(.st 10)] (fun p=>ZJ.f K (p.1) (p.2)) (.cs (dD 6) .nl) [none,some (dD 10)] []
theorem QhI(K:Nat):VOk Tryz.prog GD (QhH K):=vk K .n Tryz.func54 Tryz.ntmps54 (vl (Qid K) v0)
def Qbm(K:Nat):FSp TD:=sg 53 (.cs (.ptr 0 0) (.cs dI (.cs dI (.cs (.fn 54 (.cs (.ptr 1 0) .nl)) .nl)))) [(176,(dD 10)),(100,(.ptr 0 0))] [tI,tI,(.st 10)] [(.sl (.st 6)),(.st 10)] (fun p=>JF.f K (p.1) (p.2.1) (p.2.2)) (.cs (.own (.st 6) 55 true) .nl) [some (dD 10),none] []
theorem Qbn(K:Nat):VOk Tryz.prog GD (Qbm K):=vk K (.s .n (.j ⟨[], [(0,(dD 10))], [(.st 10)], [], [], []⟩ .n (.s .n (.s (.s .n (.l ⟨[(9,(.own (.st 6) 55 true)),(17,dI)], [(0,(dD 10))], [(.sl (.st 6)),tI,(.st 10)], [], [], []⟩ (some ⟨[(9,(.own (.st 6) 55 true))], [(0,(dD 10))], [(.sl (.st 6)),(.st 10)], [], [], []⟩) false .n)) .n)))) Tryz.func53 Tryz.ntmps53 (vl (YA K) (vl (YK K) (vl (QhI K) v0)))
def Qfq(K:Nat):FSp TD:=sg 58 (.cs dI (.cs (.ptr 0 0) .nl)) [(100,(.ptr 1 0)),(176,(dD 10))] [tI,(.st 10)] [tH,(.st 10)] (fun p=>Z4.f K (p.1) (p.2)) (.cs dH .nl) [none,some (dD 10)] []
theorem Qfr(K:Nat):VOk Tryz.prog GD (Qfq K):=vk K .n Tryz.func58 Tryz.ntmps58 (vl (jd K) v0)
def Qbo(K:Nat):FSp TD:=sg 57 (.cs (.ptr 0 0) (.cs dI (.cs dI (.cs (.fn 58 (.cs (.ptr 1 0) .nl)) .nl)))) [(176,(dD 10)),(100,(.ptr 0 0))] [tI,tI,(.st 10)] [(.sl tH),(.st 10)] (fun p=>J9.f K (p.1) (p.2.1) (p.2.2)) (.cs (.own tH 37 true) .nl) [some (dD 10),none] []
theorem Qbp(K:Nat):VOk Tryz.prog GD (Qbo K):=vk K (.s .n (.j ⟨[], [(0,(dD 10))], [(.st 10)], [], [], []⟩ .n (.s .n (.s (.s .n (.l ⟨[(9,(.own tH 37 true)),(17,dI)], [(0,(dD 10))], [(.sl tH),tI,(.st 10)], [], [], []⟩ (some ⟨[(9,(.own tH 37 true))], [(0,(dD 10))], [(.sl tH),(.st 10)], [], [], []⟩) false .n)) .n)))) Tryz.func57 Tryz.ntmps57 (vl (YA K) (vl (YK K) (vl (Qfr K) v0)))
def QhJ(K:Nat):FSp TD:=sg 56 (.cs dI (.cs (.ptr 0 0) .nl)) [(100,(.ptr 1 0)),(176,(dD 10))] [tI,(.st 10)] [(.st 6),(.st 10)] (fun p=>ZK.f K (p.1) (p.2)) (.cs (dD 6) .nl) [none,some (dD 10)] []
theorem QhK(K:Nat):VOk Tryz.prog GD (QhJ K):=vk K (.s .n (.s (.r (ob [2,20,54,16,36,42,66]) [] [1]) (.s (.r (ob [0,12,30,26,46,52,66]) [] [1]) .n))) Tryz.func56 Tryz.ntmps56 (vl (qB K) (vl (Qid K) (vl (Qbp K) v0)))
def Qaa(K:Nat):FSp TD:=sg 53 (.cs (.ptr 0 0) (.cs dI (.cs dI (.cs (.fn 56 (.cs (.ptr 1 0) .nl)) .nl)))) [(176,(dD 10)),(100,(.ptr 0 0))] [tI,tI,(.st 10)] [(.sl (.st 6)),(.st 10)] (fun p=>Ji.f K (p.1) (p.2.1) (p.2.2)) (.cs (.own (.st 6) 55 true) .nl) [some (dD 10),none] []
theorem Qab(K:Nat):VOk Tryz.prog GD (Qaa K):=vk K (.s .n (.j ⟨[], [(0,(dD 10))], [(.st 10)], [], [], []⟩ .n (.s .n (.s (.s .n (.l ⟨[(9,(.own (.st 6) 55 true)),(17,dI)], [(0,(dD 10))], [(.sl (.st 6)),tI,(.st 10)], [], [], []⟩ (some ⟨[(9,(.own (.st 6) 55 true))], [(0,(dD 10))], [(.sl (.st 6)),(.st 10)], [], [], []⟩) false .n)) .n)))) Tryz.func53 Tryz.ntmps53 (vl (YA K) (vl (YK K) (vl (QhK K) v0)))
def QdR(K:Nat):FSp TD:=sg 59 (.cs (.ptr 0 0) .nl) [(176,(dD 10))] [(.st 10)] [tI] (fun p=>Y9.f K (p)) (.cs dI .nl) [none] []
theorem QdS(K:Nat):VOk Tryz.prog GD (QdR K):=vk K .n Tryz.func59 Tryz.ntmps59 (vl (YK K) v0)
def Qb7(K:Nat):FSp TD:=sd 15 [tB] [(.st 7),tI] (fun p=>XM.f K (p))
theorem QeY(K:Nat):VOk Tryz.prog GD (Qb7 K):=vk K (.s .n (.s .n (.s .n (.s .n (.s .n (.s .n (.j ⟨[], [(1000000006,(dD 10))], [(.st 10)], [], [], []⟩ .n (.s .n (.s (.r (ob [0,12,30,26,46,52,62,76]) [] [6]) (.j ⟨[], [(7,(.agg (.cs dF (.cs (.agg (.cs dI (.cs dH (.cs (.own (.st 1) 107 true) .nl)))) (.cs (.own (.st 6) 55 true) .nl))))),(1000000006,(dD 10))], [.bool,tI,tH,(.sl (.st 1)),(.sl (.st 6)),(.st 10)], [], [], []⟩ (.s .n (.s .n (.r (ob [0,12,30,40,50,60,26,76,82,96]) [] [6,7]))) .n)))))))))) Tryz.func15 Tryz.ntmps15 (vl (Qer K) (vl (Qmf K) (vl (ZP K) (vl (qB K) (vl (YA K) (vl (jd K) (vl (Qb4 K) (vl (Qbn K) (vl (Qab K) (vl (QdS K) (vl (Xj K) v0)))))))))))
def Qji(K:Nat):FSp TD:=sg 178 (.cs dI (.cs (.ptr 0 0) (.cs (.ptr 1 0) (.cs (.ptr 2 0) .nl)))) [(5,(.dt (.int .u8))),(37,dH),(37,dH)] [tI,(.int .u8),tH,tH] [(.int .u8)] (fun p=>QaP.f K (p.1) (p.2.1) (p.2.2.1) (p.2.2.2)) .nl [some (.dt (.int .u8)),none,none] []
theorem Qjj(K:Nat):VOk Tryz.prog GD (Qji K):=vk K (.r (ob [2,12,22,32,42,52,62,72,82,96]) [] []) Tryz.func178 Tryz.ntmps178 v0
def Qmi(K:Nat):FSp TD:=sd 140 [tH,tH] [.bool] (fun p=>X8.f K (p.1) (p.2))
theorem QgS(K:Nat):VOk Tryz.prog GD (Qmi K):=vk K (.s .n (.s .n (.s .n (.s (.s .n (.l ⟨[(9,dI)], [(5,(.dt (.int .u8)))], [tI,(.int .u8)], [], [], []⟩ (some ⟨[], [(5,(.dt (.int .u8)))], [(.int .u8)], [], [], [2,3]⟩) false .n)) .n)))) Tryz.func140 Tryz.ntmps140 (vl (Qjj K) v0)
def QhL(K:Nat):FSp TD:=sd 80 [(.st 11),tH] [.bool] (fun p=>Xo.f K (p.1) (p.2))
theorem QcK(K:Nat):VOk Tryz.prog GD (QhL K):=vk K .n Tryz.func80 Tryz.ntmps80 (vl (QgS K) v0)
def Qb8(K:Nat):FSp TD:=sd 19 [(.st 0),(.st 2)] [tI] (fun p=>XN.f K (p.1) (p.2))
theorem QeZ(K:Nat):VOk Tryz.prog GD (Qb8 K):=vk K (.s .n (.s (.j ⟨[(17,dF)], [], [.bool], [], [], []⟩ .n .n) (.s .n (.s (.s .n (.l ⟨[(21,dI)], [(5,(.dt (.vec 4 .bool)))], [tI,(.vec 4 .bool)], [], [], []⟩ (some ⟨[], [], [], [], [], [5]⟩) true (.s .n (.s .n (.s (.s .n (.s (.j ⟨[(38,dF)], [], [.bool], [], [], []⟩ .n .n) .n)) .n))))) .n)))) Tryz.func19 Tryz.ntmps19 (vl (Qcv K) (vl (XF K) (vl (QgL K) (vl (QcK K) v0))))
def QkR(K:Nat):FSp TD:=sd 127 [(.st 4)] [tH] (fun p=>jE.f K (p))
theorem Qe0(K:Nat):VOk Tryz.prog GD (QkR K):=vk K .n Tryz.func127 Tryz.ntmps127 (vl (QeV K) (vl (QgI K) v0))
def Qac(K:Nat):FSp TD:=sg 169 (.cs (.ptr 0 0) .nl) [(189,(.agg (.cs (.agg (.cs (.own tH 37 true) .nl)) (.cs dI .nl))))] [(.sl tH),tI] [tH,(.sl tH),tI] (fun p=>Jk.f K (p.1) (p.2)) (.cs dH .nl) [some (.agg (.cs (.agg (.cs (.own tH 37 true) .nl)) (.cs dI .nl)))] []
theorem Qad(K:Nat):VOk Tryz.prog GD (Qac K):=vk K (.s .n (.s (.r (ob [2,12,22,32,42,52,62,72,82,92,102,112,124,136]) [] []) (.s (.r (ob [0,12,22,32,42,52,62,72,82,92,102,116,122,132,146]) [] []) .n))) Tryz.func169 Tryz.ntmps169 v0
def Zv(K:Nat):FSp TD:=sg 170 (.cs (.ptr 0 0) (.cs dH .nl)) [(189,(.agg (.cs (.agg (.cs (.own tH 37 true) .nl)) (.cs dI .nl))))] [tH,(.sl tH),tI] [(.sl tH),tI] (fun p=>Jz.f K (p.1) (p.2.1) (p.2.2)) .nl [some (.agg (.cs (.agg (.cs (.own tH 37 true) .nl)) (.cs dI .nl)))] []
theorem Zw(K:Nat):VOk Tryz.prog GD (Zv K):=vk K (.s .n (.r (ob [0,12,22,32,42,52,64,76,82,92,106]) [] [])) Tryz.func170 Tryz.ntmps170 v0
def Qfs(K:Nat):FSp TD:=sg 126 (.cs (.ptr 0 0) (.cs dH .nl)) [(189,(.agg (.cs (.agg (.cs (.own tH 37 true) .nl)) (.cs dI .nl))))] [tH,(.sl tH),tI] [(.sl tH),tI] (fun p=>qX.f K (p.1) (p.2.1) (p.2.2)) .nl [some (.agg (.cs (.agg (.cs (.own tH 37 true) .nl)) (.cs dI .nl)))] []
theorem Qft(K:Nat):VOk Tryz.prog GD (Qfs K):=vk K (.s .n (.s .n (.s (.s .n (.l ⟨[(4,dI)], [(0,(.agg (.cs (.agg (.cs (.own tH 37 true) .nl)) (.cs dI .nl)))),(3,dH)], [tI,(.sl tH),tI,tH], [], [], []⟩ (some ⟨[], [(0,(.agg (.cs (.agg (.cs (.own tH 37 true) .nl)) (.cs dI .nl)))),(3,dH)], [(.sl tH),tI,tH], [], [], []⟩) false (.s .n (.s (.r (ob [2,12,22,40,36,56,66]) [] [3]) .n)))) (.s (.r (ob [2,12,22,32,46]) [] []) .n)))) Tryz.func126 Tryz.ntmps126 (vl (Qad K) (vl (Qa4 K) (vl (Zw K) v0)))
def Qeu(K:Nat):FSp TD:=sg 171 (.cs (.ptr 0 0) .nl) [(189,(.agg (.cs (.agg (.cs (.own tH 37 true) .nl)) (.cs dI .nl))))] [(.sl tH),tI] [tI,(.sl tH),tI] (fun p=>yL.f K (p.1) (p.2)) (.cs dI .nl) [some (.agg (.cs (.agg (.cs (.own tH 37 true) .nl)) (.cs dI .nl)))] []
theorem Qev(K:Nat):VOk Tryz.prog GD (Qeu K):=vk K .n Tryz.func171 Tryz.ntmps171 v0
def Zx(K:Nat):FSp TD:=sg 172 (.cs (.ptr 0 0) .nl) [(189,(.agg (.cs (.agg (.cs (.own tH 37 true) .nl)) (.cs dI .nl))))] [(.sl tH),tI] [(.sl tH),tI] (fun p=>JA.f K (p.1) (p.2)) (.cs (.fn 197 (.cs (.ptr 1 0) .nl)) .nl) [some (.agg (.cs (.agg (.cs (.own tH 37 true) .nl)) (.cs dI .nl)))] [(264,(.ptr 0 0))]
theorem Zy(K:Nat):VOk Tryz.prog GD (Zx K):=vk K .n Tryz.func172 Tryz.ntmps172 v0
def Qew(K:Nat):FSp TD:=sg 128 (.cs (.ptr 0 0) .nl) [(189,(.agg (.cs (.agg (.cs (.own tH 37 true) .nl)) (.cs dI .nl))))] [(.sl tH),tI] [tH,(.sl tH),tI] (fun p=>ql.f K (p.1) (p.2)) (.cs dH .nl) [some (.agg (.cs (.agg (.cs (.own tH 37 true) .nl)) (.cs dI .nl)))] []
theorem Qex(K:Nat):VOk Tryz.prog GD (Qew K):=vk K (.s .n (.s .n (.s .n (.s .n (.s (.s .n (.g (.s .n (.l ⟨[(3,dI)], [(1000000000003,dH),(1000000000004,dF)], [tI,tH,.bool], [], [], []⟩ (some ⟨[], [(1000000000003,dH),(1000000000004,dF)], [tH,.bool], [], [], []⟩) false (.s .n (.j ⟨[], [(1000000000003,dH),(1000000000004,dF)], [tH,.bool], [], [], []⟩ .n .n)))) .n .n)) .n))))) Tryz.func128 Tryz.ntmps128 (vl (Qev K) (vl (Qaw K) (vl (Zy K) (vl (Qa4 K) v0))))
def QkS(K:Nat):FSp TD:=sd 21 [(.st 0),(.st 4)] [.bool] (fun p=>Qar.f K (p.1) (p.2))
theorem Qe1(K:Nat):VOk Tryz.prog GD (QkS K):=vk K (.s .n (.s .n (.j ⟨[(4,dF)], [], [.bool], [], [], [2,3]⟩ .n .n))) Tryz.func21 Tryz.ntmps21 (vl (QcJ K) (vl (qQ K) (vl (QbW K) (vl (QcK K) v0))))
def Qa6(K:Nat):FSp TD:=sp 129 (.cs (dD 12) (.cs (dD 4) .nl)) [] [(.st 12),(.st 4)] [] (120,true) (fun p=>Jc.fs K (p.1) (p.2)) [] .nl [] []
theorem yQ(K:Nat):VOk Tryz.prog GD (Qa6 K):=vkP K .n Tryz.func129 Tryz.ntmps129 (vl (Qe1 K) (vl (yw K) v0)) rfl
def Qjk(K:Nat):FSp TD:=sd 198 [tI,tI,tI] [.bool] (fun p=>qN.f K (p.1) (p.2.1) (p.2.2))
theorem XG(K:Nat):VOk Tryz.prog GD (Qjk K):=vk K .n Tryz.func198 Tryz.ntmps198 v0
def Qov(K:Nat):FSp TD:=sd 173 [(.sl (.st 3))] [.bool] (fun p=>ZL.f K (p))
theorem Qey(K:Nat):VOk Tryz.prog GD (Qov K):=vk K (.s .n (.s .n (.s .n (.s (.s .n (.l ⟨[(3,dI),(12,dI)], [], [tI,tI], [], [], []⟩ (some ⟨[], [], [], [], [], []⟩) true (.s .n (.s .n (.j ⟨[(3,dI)], [], [tI], [], [], []⟩ (.s .n (.s (.j ⟨[(26,dF)], [], [.bool], [], [], []⟩ .n .n) .n)) .n))))) .n)))) Tryz.func173 Tryz.ntmps173 (vl (XG K) v0)
def Qow(K:Nat):FSp TD:=sd 174 [(.sl (.st 3))] [(.st 15)] (fun p=>QaQ.f K (p))
theorem Qie(K:Nat):VOk Tryz.prog GD (Qow K):=vk K .n Tryz.func174 Tryz.ntmps174 (vl (Qey K) (vl (Jp K) v0))
def QkT(K:Nat):FSp TD:=sd 179 [(.st 16),(.st 4),tI] [(.st 16),.bool] (fun p=>Qco.f K (p.1) (p.2.1) (p.2.2))
theorem QkU(K:Nat):VOk Tryz.prog GD (QkT K):=vk K (.s .n (.s (.j ⟨[(25,dF)], [], [.bool], [], [], []⟩ .n .n) (.s (.r (ob [2,12,30,40,26,56,66,76,82,96]) [] [4]) .n))) Tryz.func179 Tryz.ntmps179 (vl (Qey K) (vl (J8 K) (vl (Qie K) v0)))
def Qmj(K:Nat):FSp TD:=sd 199 [(.st 15)] [.bool] (fun p=>QbL.f K (p))
theorem QgT(K:Nat):VOk Tryz.prog GD (Qmj K):=vk K .n Tryz.func199 Tryz.ntmps199 (vl (XG K) v0)
def Qmk(K:Nat):FSp TD:=sg 211 (.cs (.dt (.sl (.st 3))) .nl) [] [(.sl (.st 3))] [(.sl (.st 3))] (fun p=>Qdu.f K (p)) (.cs (.fn 212 (.cs (.ptr 0 0) .nl)) .nl) [] [(50,(.dt (.sl (.st 3))))]
theorem Qml(K:Nat):VOk Tryz.prog GD (Qmk K):=vk K .n Tryz.func211 Tryz.ntmps211 v0
def Qjl(K:Nat):FSp TD:=sd 209 [(.st 15)] [tI] (fun p=>jW.f K (p))
theorem Qjm(K:Nat):VOk Tryz.prog GD (Qjl K):=vk K (.s .n (.s .n (.s (.s .n (.g (.s .n (.l ⟨[(3,dI)], [], [tI], [], [], []⟩ (some ⟨[], [], [], [], [], []⟩) true .n)) .n (.j ⟨[(28,dF)], [], [.bool], [], [], []⟩ .n .n))) .n))) Tryz.func209 Tryz.ntmps209 (vl (Qml K) v0)
def Qmm(K:Nat):FSp TD:=sd 203 [(.st 15)] [tI] (fun p=>JP.f K (p))
theorem Qa7(K:Nat):VOk Tryz.prog GD (Qmm K):=vk K .n Tryz.func203 Tryz.ntmps203 (vl (Qjm K) v0)
def Qox(K:Nat):FSp TD:=sd 200 [(.st 15),tI] [(.st 4),.bool] (fun p=>Qdv.f K (p.1) (p.2))
theorem Qoy(K:Nat):VOk Tryz.prog GD (Qox K):=vk K (.s .n (.s (.j ⟨[(23,dF)], [], [.bool], [], [], []⟩ .n .n) (.s .n (.s (.j ⟨[(27,dF)], [], [.bool], [], [], []⟩ .n .n) .n)))) Tryz.func200 Tryz.ntmps200 (vl (QgT K) (vl (XG K) (vl (Qa7 K) v0)))
def Qmn(K:Nat):FSp TD:=sd 201 [(.st 15),(.st 15),.bool] [(.st 15),.bool] (fun p=>X9.f K (p.1) (p.2.1) (p.2.2))
theorem Qmo(K:Nat):VOk Tryz.prog GD (Qmn K):=vk K .n Tryz.func201 Tryz.ntmps201 v0
def QqH(K:Nat):FSp TD:=sd 202 [(.st 4)] [(.st 17)] (fun p=>QcS.f K (p))
theorem QqI(K:Nat):VOk Tryz.prog GD (QqH K):=vk K .n Tryz.func202 Tryz.ntmps202 v0
def Qmp(K:Nat):FSp TD:=sd 210 [(.st 15)] [(.st 15)] (fun p=>Qgm.f K (p))
theorem QgU(K:Nat):VOk Tryz.prog GD (Qmp K):=vk K .n Tryz.func210 Tryz.ntmps210 v0
def QgV(K:Nat):FSp TD:=sd 204 [(.st 15),(.st 4)] [(.st 15)] (fun p=>XC.f K (p.1) (p.2))
theorem QgW(K:Nat):VOk Tryz.prog GD (QgV K):=vk K (.s .n (.s .n (.s .n (.j ⟨[], [(2,(dD 15))], [(.st 15)], [], [], [3]⟩ (.j ⟨[(11,dF)], [], [.bool], [], [], []⟩ .n .n) .n)))) Tryz.func204 Tryz.ntmps204 (vl (Qa7 K) (vl (QgU K) v0))
def Qjn(K:Nat):FSp TD:=sd 205 [(.st 15),tI] [(.st 15)] (fun p=>QaR.f K (p.1) (p.2))
theorem Qjo(K:Nat):VOk Tryz.prog GD (Qjn K):=vk K (.s .n (.s .n (.s (.s .n (.s (.s (.r (ob [2,12,22,32,42,52,66]) [] []) (.j ⟨[(29,dF)], [], [.bool], [], [], []⟩ .n .n)) .n)) .n))) Tryz.func205 Tryz.ntmps205 (vl (Qa7 K) (vl (QgU K) v0))
def QqJ(K:Nat):FSp TD:=sd 175 [(.st 15),(.st 4),tI] [(.st 15),.bool] (fun p=>QcT.f K (p.1) (p.2.1) (p.2.2))
theorem QkV(K:Nat):VOk Tryz.prog GD (QqJ K):=vk K (.s .n (.s (.j ⟨[(30,dF)], [], [.bool], [], [], []⟩ .n .n) (.s .n (.s .n (.s .n (.s (.s .n (.j ⟨[], [], [], [], [], [9]⟩ (.s (.s (.s (.s (.s .n (.s .n (.j ⟨[(49,dF)], [], [.bool], [], [], [9]⟩ .n .n))) .n) (.s (.s (.r (ob [0,10,20,30,42,56,62,76,82,96]) [] [4]) (.s (.r (ob [0,10,22,33,42,60,56,76,82,92,106,112,122,136,142]) [] [3,4,8]) .n)) .n)) (.s (.s .n (.s (.r (ob [0,10,22,33,42,60,56,76,82,92,106,112,122,136,142]) [] [3,4,8]) .n)) .n)) (.s (.j ⟨[(111,dF)], [], [.bool], [], [], []⟩ (.r (ob [2,12,22,33,40,50,62,76,82,92,103,112,122,132,142,152,162,173,182,192,202,212,222,232]) [] [4]) .n) .n)) .n)) .n)))))) Tryz.func175 Tryz.ntmps175 (vl (QgT K) (vl (XG K) (vl (Qoy K) (vl (Qmo K) (vl (QqI K) (vl (Qa7 K) (vl (QgW K) (vl (Qjo K) v0))))))))
def Qmq(K:Nat):FSp TD:=sd 180 [(.st 16),(.st 4),tI] [(.st 16),.bool] (fun p=>Za.f K (p.1) (p.2.1) (p.2.2))
theorem QgX(K:Nat):VOk Tryz.prog GD (Qmq K):=vk K (.s .n (.s .n (.s (.r (ob [2,12,22,32,42,52,62,72,124,86,92,102,110,136,142]) [] []) .n))) Tryz.func180 Tryz.ntmps180 (vl (QkV K) (vl (J8 K) v0))
def QhM(K:Nat):FSp TD:=sd 181 [(.st 16),(.st 4),tI] [(.st 16),.bool] (fun p=>ZM.f K (p.1) (p.2.1) (p.2.2))
theorem QhN(K:Nat):VOk Tryz.prog GD (QhM K):=vk K (.s .n (.s (.j ⟨[(53,dF)], [], [.bool], [], [], []⟩ (.r (ob [2,12,22,32,42,52,63,72,82,92,102,112,122,132,142,152,162,172,182,193,202,212,222,232,242,252,262,272,282,292,302,312,322,332,342,352,363,372,382,392,402,412,422,432,442,452]) [] []) .n) .n)) Tryz.func181 Tryz.ntmps181 (vl (QgX K) v0)
def Qjp(K:Nat):FSp TD:=sd 182 [(.st 16),(.st 4),tI] [(.st 16),.bool] (fun p=>QaS.f K (p.1) (p.2.1) (p.2.2))
theorem Qjq(K:Nat):VOk Tryz.prog GD (Qjp K):=vk K (.s .n (.s (.s (.r (ob [2,12,22,32,42,52,62,72,82]) [] []) .n) .n)) Tryz.func182 Tryz.ntmps182 v0
def QqK(K:Nat):FSp TD:=sd 82 [(.st 16),(.st 4),tI] [(.st 16),.bool] (fun p=>QcU.f K (p.1) (p.2.1) (p.2.2))
theorem QkW(K:Nat):VOk Tryz.prog GD (QqK K):=vkM K (.s .n (.s (.j ⟨[(18,dF)], [], [.bool], [], [], []⟩ .n .n) (.s (.r (ob [10,20,50,60,70,6,32,42,86,92,102,116,122]) [] [3,4]) .n))) Tryz.func82 Tryz.ntmps82 (vl (qQ K) (vl (QkU K) (vl (QgX K) (vl (QhN K) (vl (Qjq K) v0))))) QgE (Qu9 QwT QgF)
def QhO(K:Nat):FSp TD:=sd 90 [(.st 15)] [tI] (fun p=>ji.f K (p))
theorem QcL(K:Nat):VOk Tryz.prog GD (QhO K):=vk K .n Tryz.func90 Tryz.ntmps90 v0
def Qjr(K:Nat):FSp TD:=sg 26 (.cs (dD 16) .nl) [] [(.st 16)] [(.sl (.st 8))] (fun p=>jX.f K (p)) (.cs (.own (.st 8) 29 true) .nl) [] []
theorem QdT(K:Nat):VOk Tryz.prog GD (Qjr K):=vk K (.s .n (.s .n (.s (.s .n (.l ⟨[(3,(.own (.st 8) 29 true)),(9,dI)], [], [(.sl (.st 8)),tI], [], [], [1]⟩ (some ⟨[(3,(.own (.st 8) 29 true))], [], [(.sl (.st 8))], [], [], [1]⟩) false (.s .n (.s .n (.s (.s .n (.r (ob [0,10,20,32,46,52,64,76,82]) [] [5])) .n))))) .n))) Tryz.func26 Tryz.ntmps26 (vl (QcL K) v0)
def jy(K:Nat):FSp TD:=sp 67 (.cs (dD 12) (.cs (dD 7) .nl)) [] [(.st 12),(.st 7)] [tI,(.sl tI),(.sl (.st 8))] (120,true) (fun p=>YQ.fs K (p.1) (p.2)) [] (.cs (.agg (.cs dI (.cs (.own tI 3 true) (.cs (.own (.st 8) 29 true) .nl)))) .nl) [] []
theorem Qb9(K:Nat):VOk Tryz.prog GD (jy K):=vkP K (.s .n (.s .n (.s (.s .n (.l ⟨[(17,dI)], [(5,(.agg (.cs (.agg (.cs (.own tH 37 true) .nl)) (.cs dI .nl))))], [tI,(.sl tH),tI], [], [], []⟩ (some ⟨[], [(5,(.agg (.cs (.agg (.cs (.own tH 37 true) .nl)) (.cs dI .nl))))], [(.sl tH),tI], [], [], []⟩) false .n)) (.s (.q (ob [10,20,30,6,42]) [] [3]) (.s .n (.s (.s .n (.l ⟨[(35,dI)], [(8,(dD 16))], [tI,(.st 16)], [], [], [3,5]⟩ (some ⟨[], [(8,(dD 16))], [(.st 16)], [], [], [2,3,5]⟩) true .n)) (.s .n (.s (.s .n (.l ⟨[(61,dI)], [(12,(.agg (.cs dI (.cs (.own tI 3 true) (.cs (.own (.st 8) 29 true) .nl)))))], [tI,tI,(.sl tI),(.sl (.st 8))], [], [], [8]⟩ (some ⟨[], [(12,(.agg (.cs dI (.cs (.own tI 3 true) (.cs (.own (.st 8) 29 true) .nl)))))], [tI,(.sl tI),(.sl (.st 8))], [], [], [8]⟩) false .n)) .n)))))))) Tryz.func67 Tryz.ntmps67 (vl (Qe0 K) (vl (Qft K) (vl (Qex K) (vl (yw K) (vl (yQ K) (vl (QkW K) (vl (QdT K) v0))))))) rfl
def QgY(K:Nat):FSp TD:=sp 194 (.cs (.ptr 0 0) (.cs (.ptr 1 0) .nl)) [(3,dI),(33,(.dt (.sl tH)))] [tI,(.sl tH)] [tH,tI] (259,false) (fun p=>QaT.fs K (p.1) (p.2)) [true,true] (.cs dH .nl) [some dI,none] []
theorem QgZ(K:Nat):VOk Tryz.prog GD (QgY K):=vkP K .n Tryz.func194 Tryz.ntmps194 v0 rfl
def Qay(K k:Nat):FSp TD:=sp 150 (.cs dI (.cs dI (.cs (.ptr 0 0) (.cs (.ptr 1 0) (.cs (.ptr 2 0) .nl))))) [(37,dH),(104,(.fn 194 (.cs (.ptr 3 0) (.cs (.ptr 4 0) .nl)))),(218,(.fn 150 (.cs (.ptr 0 0) (.cs (.ptr 1 0) (.cs (.ptr 2 0) .nl))))),(3,dI),(33,(.dt (.sl tH)))] [tI,tI,tH,tI,(.sl tH)] [tH,tI] (259,false) (fun p=>Yv.r K k (p.1) (p.2.1) (p.2.2.1) (p.2.2.2.1) (p.2.2.2.2)) [true,true,true,false,true] (.cs dH .nl) [none,none,none,some dI,none] []
theorem Qez(K:Nat):∀k,VOk Tryz.prog GD (Qay K k):=by
 intro k
 induction k with
 |zero=>exact Qva Tryz.func150 rfl (by kernel_rfl) (fun _=>rfl) (fun _=>rfl)
 |succ k ih=>
  exact vkP K (.s .n (.s .n (.s (.r (ob [2,20,44,16,36,52,66]) [] [3]) (.s (.s .n (.s (.s (.r (ob [2,12,22,40,36,56,66]) [] [9]) .n) .n)) (.s (.r (ob [0,12,22,32,42,52,62,72,86,96,106]) [] [9]) .n))))) Tryz.func150 Tryz.ntmps150 (vl (QbX K) (vl (QgZ K) (vl (Qa4 K) (vl ih v0)))) rfl
def QeA(K:Nat):FSp TD:=Qay K K
theorem QeB(K:Nat):VOk Tryz.prog GD (QeA K):=Qez K K
def Zk(K:Nat):FSp TD:=sp 149 (.cs (.fn 194 (.cs (.ptr 0 0) (.cs (.ptr 1 0) .nl))) (.cs (.ptr 2 0) (.cs (.ptr 3 0) (.cs (.ptr 4 0) (.cs (.ptr 5 0) .nl))))) [(3,dI),(33,(.dt (.sl tH))),(37,dH),(3,dI),(3,dI),(37,dH)] [tI,(.sl tH),tH,tI,tI,tH] [tI,tH] (259,false) (fun p=>QaU.fs K (p.1) (p.2.1) (p.2.2.1) (p.2.2.2.1) (p.2.2.2.2.1) (p.2.2.2.2.2)) [false,true,true,true,true,true] .nl [some dI,none,none,none,none,some dH] []
theorem Qg0(K:Nat):VOk Tryz.prog GD (Zk K):=vkP K .n Tryz.func149 Tryz.ntmps149 (vl (QeB K) v0) rfl
def Qa8(K:Nat):FSp TD:=sg 148 (.cs (.dt (.sl tH)) (.cs (.fn 149 (.cs (.ptr 0 0) (.cs (.ptr 1 0) (.cs (.ptr 2 0) (.cs (.ptr 3 0) .nl))))) .nl)) [(37,dH),(3,dI),(3,dI),(37,dH)] [(.sl tH),tH,tI,tI,tH] [.bool,tH] (fun p=>QaV.f K (p.1) (p.2.1) (p.2.2.1) (p.2.2.2.1) (p.2.2.2.2)) (.cs dF .nl) [none,none,none,some dH] []
theorem Qjs(K:Nat):VOk Tryz.prog GD (Qa8 K):=Qqx tbok (n:=14) Tryz.func148 rfl Tryz.ntmps148 (by kernel_rfl) (sps:= [Zk K]) (rvs:= []) (mps:= []) (jq (Qg0 K) Qnl) QgE QgF (by kernel_rfl:(fun p=>(Qa8 K).fn p)=funR (T:=TD) (cx Tryz.prog GD [Zk K] K 14 [] []) (Qa8 K) Tryz.f148 .n .n .n)
def Qjt(K:Nat):FSp TD:=sd 94 [tH,tI,tI,(.sl tH)] [tH,.bool] (fun p=>QaW.f K (p.1) (p.2.1) (p.2.2.1) (p.2.2.2))
theorem Qju(K:Nat):VOk Tryz.prog GD (Qjt K):=vk K (.s .n (.s (.j ⟨[(22,dF)], [], [.bool], [], [], []⟩ .n .n) .n)) Tryz.func94 Tryz.ntmps94 (vl (Qjs K) v0)
def Qoz(K:Nat):FSp TD:=sd 130 [tH,tI,tI,(.sl tH),tH] [.bool] (fun p=>Qcp.f K (p.1) (p.2.1) (p.2.2.1) (p.2.2.2.1) (p.2.2.2.2))
theorem QoA(K:Nat):VOk Tryz.prog GD (Qoz K):=vk K .n Tryz.func130 Tryz.ntmps130 (vl (Qju K) (vl (QgS K) v0))
def QdU(K:Nat):FSp TD:=sp 131 (.cs (.ptr 0 0) (.cs (dD 4) .nl)) [(195,(.agg (.cs (.dt (.vec 12 .bool)) (.cs (.own tI 3 true) (.cs (.dt (.vec 12 (.st 15))) .nl)))))] [(.st 4),(.vec 12 .bool),(.sl tI),(.vec 12 (.st 15))] [(.vec 12 .bool),(.sl tI),(.vec 12 (.st 15))] (120,true) (fun p=>JS.fs K (p.1) (p.2.1) (p.2.2.1) (p.2.2.2)) [false] .nl [some (.agg (.cs (.dt (.vec 12 .bool)) (.cs (.own tI 3 true) (.cs (.dt (.vec 12 (.st 15))) .nl))))] []
theorem QdV(K:Nat):VOk Tryz.prog GD (QdU K):=vkP K (.s .n (.j ⟨[], [], [], [], [], []⟩ (.q (ob [2,12,22,32,42,52,62,72,83,92,102,116,122]) [] []) (.s (.r (ob [0,10,20,32,42,60,70,56,82,96]) [] [3]) (.r (ob [0,12,22,32,42,52,62,74,86,92,102,116]) [] [])))) Tryz.func131 Tryz.ntmps131 (vl (yw K) (vl (Qey K) (vl (Qie K) v0))) rfl
def QeC(K:Nat):FSp TD:=sp 132 (.cs (.ptr 0 0) (.cs (dD 4) (.cs dI .nl))) [(195,(.agg (.cs (.dt (.vec 12 .bool)) (.cs (.own tI 3 true) (.cs (.dt (.vec 12 (.st 15))) .nl)))))] [(.st 4),tI,(.vec 12 .bool),(.sl tI),(.vec 12 (.st 15))] [(.vec 12 .bool),(.sl tI),(.vec 12 (.st 15))] (120,true) (fun p=>qm.fs K (p.1) (p.2.1) (p.2.2.1) (p.2.2.2.1) (p.2.2.2.2)) [false] .nl [some (.agg (.cs (.dt (.vec 12 .bool)) (.cs (.own tI 3 true) (.cs (.dt (.vec 12 (.st 15))) .nl))))] []
theorem QeD(K:Nat):VOk Tryz.prog GD (QeC K):=vkP K (.s .n (.s (.r (ob [2,12,22,32,42,52,62,74,86]) [] []) (.s .n (.s .n (.j ⟨[], [], [], [], [], [6]⟩ (.q (ob [2,13,22,32,42,53,62,72,82,92,102,112,122,132,142,152,162,172]) [] []) (.r (ob [2,12,22,32,42,52,62,76]) [] [])))))) Tryz.func132 Tryz.ntmps132 (vl (QkV K) (vl (yw K) v0)) rfl
def jO(K:Nat):FSp TD:=sp 68 (.cs (dD 12) (.cs (dD 7) .nl)) [] [(.st 12),(.st 7)] [tI,(.sl tI),(.sl (.st 8))] (120,true) (fun p=>YW.fs K (p.1) (p.2)) [] (.cs (.agg (.cs dI (.cs (.own tI 3 true) (.cs (.own (.st 8) 29 true) .nl)))) .nl) [] []
theorem QcG(K:Nat):VOk Tryz.prog GD (jO K):=vkP K (.s .n (.s .n (.s (.s .n (.l ⟨[(15,dI)], [(5,(.agg (.cs (.dt (.vec 12 .bool)) (.cs (.own tI 3 true) (.cs (.dt (.vec 12 (.st 15))) .nl)))))], [tI,(.vec 12 .bool),(.sl tI),(.vec 12 (.st 15))], [], [], []⟩ (some ⟨[], [(5,(.agg (.cs (.dt (.vec 12 .bool)) (.cs (.own tI 3 true) (.cs (.dt (.vec 12 (.st 15))) .nl)))))], [(.vec 12 .bool),(.sl tI),(.vec 12 (.st 15))], [], [], [2,3]⟩) true (.s .n (.s .n (.j ⟨[], [(5,(.agg (.cs (.dt (.vec 12 .bool)) (.cs (.own tI 3 true) (.cs (.dt (.vec 12 (.st 15))) .nl)))))], [(.vec 12 .bool),(.sl tI),(.vec 12 (.st 15))], [], [], []⟩ (.s .n (.s .n (.s (.q (ob [2,20,30,40,50,60,70,80,90,100,110,16,126]) [] [3,7]) (.s .n (.j ⟨[], [(5,(.agg (.cs (.dt (.vec 12 .bool)) (.cs (.own tI 3 true) (.cs (.dt (.vec 12 (.st 15))) .nl)))))], [(.vec 12 .bool),(.sl tI),(.vec 12 (.st 15))], [], [], [7]⟩ .n .n))))) .n))))) (.s .n (.s (.s .n (.l ⟨[(58,dI)], [(9,(.agg (.cs dI (.cs (.own tI 3 true) (.cs (.own (.st 8) 29 true) .nl)))))], [tI,tI,(.sl tI),(.sl (.st 8))], [56], [], []⟩ (some ⟨[], [(9,(.agg (.cs dI (.cs (.own tI 3 true) (.cs (.own (.st 8) 29 true) .nl)))))], [tI,(.sl tI),(.sl (.st 8))], [], [], [5,56]⟩) false (.s .n (.s .n (.s (.s .n (.s .n (.r (ob [0,10,20,30,40,50,60,72,82,92,102,116,122,134,146,152,166]) [] [5,9]))) .n))))) .n))))) Tryz.func68 Tryz.ntmps68 (vl (Qe0 K) (vl (QoA K) (vl (yw K) (vl (yQ K) (vl (QdV K) (vl (QeD K) (vl (QcL K) v0))))))) rfl
def yR(K:Nat):FSp TD:=sg 17 (.cs (dD 0) (.cs dI (.cs (dD 2) (.cs dB .nl)))) [] [(.st 0),tI,(.st 2),tB] [tI,(.sl tI),(.sl (.st 8))] (fun p=>jk.f K (p.1) (p.2.1) (p.2.2.1) (p.2.2.2)) (.cs (.agg (.cs dI (.cs (.own tI 3 true) (.cs (.own (.st 8) 29 true) .nl)))) .nl) [] []
theorem QdW(K:Nat):VOk Tryz.prog GD (yR K):=Qqx tbok (n:=67) Tryz.func17 rfl Tryz.ntmps17 (by kernel_rfl) (sps:= [Qei K,Qb2 K,Qb7 K,Qb8 K,jy K,jO K]) (rvs:= []) (mps:= []) (jq (Qcv K) (jq (yw K) (jq (QeY K) (jq (QeZ K) (jq (Qb9 K) (jq (QcG K) Qnl)))))) QgE QgF (by kernel_rfl:(fun p=>(yR K).fn p)=funR (T:=TD) (cx Tryz.prog GD [Qei K,Qb2 K,Qb7 K,Qb8 K,jy K,jO K] K 67 [] []) (yR K) Tryz.f17 .n (.j ⟨[], [], [], [], [], []⟩ .n (.s .n (.s .n (.s .n (.s .n (.j ⟨[], [], [], [], [], [6]⟩ .n .n)))))) .n)
def Qbq(K:Nat):FSp TD:=sd 40 [(.sl tI),(.sl tI)] [.bool] (fun p=>Xy.f K (p.1) (p.2))
theorem Qbr(K:Nat):VOk Tryz.prog GD (Qbq K):=vk K (.s .n (.s .n (.s (.s .n (.l ⟨[(13,dI)], [], [tI], [], [], []⟩ (some ⟨[], [], [], [], [], []⟩) true (.s .n (.s .n (.s (.s .n (.s (.r (ob [2,12,22,32,42,52,62,72,82]) [] []) .n)) .n))))) .n))) Tryz.func40 Tryz.ntmps40 v0
def yX(K:Nat):FSp TD:=sd 41 [(.sl (.st 8)),(.sl (.st 8))] [.bool] (fun p=>qE.f K (p.1) (p.2))
theorem yY(K:Nat):VOk Tryz.prog GD (yX K):=vk K (.s .n (.s .n (.s (.s .n (.l ⟨[(13,dI)], [], [tI], [], [], []⟩ (some ⟨[], [], [], [], [], []⟩) true (.s .n (.s .n (.s (.s .n (.s (.r (ob [2,12,22,32,42,52,62,72,82]) [] []) .n)) .n))))) .n))) Tryz.func41 Tryz.ntmps41 v0
def Qca(K:Nat):FSp TD:=sd 11 [(.st 9),(.st 9)] [.bool] (fun p=>Qh3.f K (p.1) (p.2))
theorem QkX(K:Nat):VOk Tryz.prog GD (Qca K):=vk K .n Tryz.func11 Tryz.ntmps11 (vl (Qbr K) (vl (yY K) v0))
def Qbs(K:Nat):FSp TD:=sd 44 [(.sl tI),tI] [tI] (fun p=>Xz.f K (p.1) (p.2))
theorem Qbt(K:Nat):VOk Tryz.prog GD (Qbs K):=vk K (.s .n (.s (.s .n (.l ⟨[(8,dI)], [], [tI], [], [], []⟩ (some ⟨[], [], [], [], [], []⟩) true .n)) .n)) Tryz.func44 Tryz.ntmps44 v0
def Qcb(K:Nat):FSp TD:=sd 13 [(.st 9),tI] [.bool] (fun p=>Qef.f K (p.1) (p.2))
theorem QkY(K:Nat):VOk Tryz.prog GD (Qcb K):=vk K (.s .n (.s .n (.j ⟨[(4,dF)], [], [.bool], [], [], [2]⟩ .n .n))) Tryz.func13 Tryz.ntmps13 (vl (Qbt K) v0)
def qR(K:Nat):FSp TD:=sd 10 [] [.bool] (fun p=>jl.f K)
theorem Qa9(K:Nat):VOk Tryz.prog GD (qR K):=Qvh tbok (n:=127) Tryz.func10 rfl Tryz.ntmps10 (by kernel_rfl) (sps:= [jr K,Z7 K,qA K,Z9 K,Qa5 K,Qb1 K,yR K,Qca K,Qcb K]) (rvs:= []) (mps:= []) (jq (QbV K) (jq (QcJ K) (jq (Qax K) (jq (QhC K) (jq (Qje K) (jq (QkQ K) (jq (QdW K) (jq (QkX K) (jq (QkY K) Qnl))))))))) QgE QgF (by kernel_rfl:(fun p=>(qR K).fn p)=funC (T:=TD) (cx Tryz.prog GD [jr K,Z7 K,qA K,Z9 K,Qa5 K,Qb1 K,yR K,Qca K,Qcb K] K 127 [] []) (qR K) Tryz.f10 [.one .n,.one .n,.one .n,.one (.r [(0,0,false),(1,1,false),(2,1,false),(3,1,false),(4,1,false),(5,3,false),(6,1,false),(7,1,false),(8,3,false)] [] []),.beg,.one .n,.fin [1,2,3],.beg,.one .n,.one .n,.one (.r [(0,0,false),(1,0,false),(2,1,false),(5,0,false),(6,0,false),(7,0,false),(10,2,false),(11,2,false),(3,3,false),(4,3,false),(8,3,false),(9,3,false),(12,3,false),(13,3,false)] [] [1,3,6]),.fin [1,2,3,8,9]] (.s (.r [(0,1,false),(1,1,false),(2,1,false),(3,1,false),(4,1,false),(5,1,false),(6,1,false),(7,1,false),(8,1,false),(9,3,false)] [] []) (.s .n (.s .n (.s (.r [(0,0,false),(1,0,false),(2,1,false),(5,2,false),(3,3,false),(4,3,false),(6,3,false)] [] [1,10]) (.s (.r [(0,0,false),(1,0,false),(2,1,false),(5,2,false),(3,3,false),(4,3,false),(6,3,false)] [] [1,3]) (.j ⟨[(0,(.dt .bool))], [], [.bool], [], [], [1,2,3,8,9,10,11,13,14]⟩ .n .n)))))))
def Qba(K:Nat):FSp TD:=sd 14 [(.st 0),tB] [.bool] (fun p=>JY.f K (p.1) (p.2))
theorem Qbb(K:Nat):VOk Tryz.prog GD (Qba K):=vk K .n Tryz.func14 Tryz.ntmps14 v0
def Qbu(K:Nat):FSp TD:=sg 20 (.cs (dD 7) .nl) [] [(.st 7)] [(.sl (.st 4))] (fun p=>qc.f K (p)) (.cs (.own (.st 4) 52 true) .nl) [] []
theorem Qbv(K:Nat):VOk Tryz.prog GD (Qbu K):=vk K (.s .n (.s .n (.s (.s .n (.l ⟨[(3,(.own (.st 4) 52 true)),(4,dI)], [], [(.sl (.st 4)),tI], [], [], []⟩ (some ⟨[(3,(.own (.st 4) 52 true))], [], [(.sl (.st 4))], [], [], [1]⟩) false .n)) .n))) Tryz.func20 Tryz.ntmps20 v0
def QqL(K:Nat):FSp TD:=sd 22 [(.sl (.st 4)),tI] [(.st 16),tI] (fun p=>QiH.f K (p.1) (p.2))
theorem QqM(K:Nat):VOk Tryz.prog GD (QqL K):=vk K (.s .n (.s .n (.s (.s .n (.l ⟨[(12,dI)], [(6,(dD 16))], [tI,(.st 16)], [], [], []⟩ (some ⟨[], [(6,(dD 16))], [(.st 16)], [], [], []⟩) true .n)) .n))) Tryz.func22 Tryz.ntmps22 (vl (QkW K) v0)
def QhP(K:Nat):FSp TD:=sd 89 [(.st 8),(.st 8)] [.bool] (fun p=>QbM.f K (p.1) (p.2))
theorem QhQ(K:Nat):VOk Tryz.prog GD (QhP K):=vk K .n Tryz.func89 Tryz.ntmps89 v0
def Qc3(K:Nat):FSp TD:=sg 88 (.cs (.dt (.sl (.st 8))) (.cs (.dt (.sl (.st 8))) (.cs (.fn 89 .nl) .nl))) [] [(.sl (.st 8)),(.sl (.st 8))] [.bool] (fun p=>Xa.f K (p.1) (p.2)) (.cs dF .nl) [] []
theorem Qc4(K:Nat):VOk Tryz.prog GD (Qc3 K):=vk K (.s .n (.s .n (.s (.s .n (.l ⟨[(15,dI)], [], [tI], [], [], []⟩ (some ⟨[], [], [], [], [], []⟩) true (.s .n (.s .n (.s (.s .n (.s (.r (ob [2,12,22,32,42,52,62,72,82,96,102]) [] []) .n)) .n))))) .n))) Tryz.func88 Tryz.ntmps88 (vl (QhQ K) v0)
def QkZ(K:Nat):FSp TD:=sd 25 [(.sl (.st 8)),(.sl (.st 8))] [.bool] (fun p=>Qcq.f K (p.1) (p.2))
theorem Qk0(K:Nat):VOk Tryz.prog GD (QkZ K):=vk K .n Tryz.func25 Tryz.ntmps25 (vl (Qc4 K) v0)
def XH(K:Nat):FSp TD:=sd 8 [(.st 0),tI,(.st 2),tB] [.bool] (fun p=>JR.f K (p.1) (p.2.1) (p.2.2.1) (p.2.2.2))
theorem XI(K:Nat):VOk Tryz.prog GD (XH K):=vk K (.s .n (.s .n (.s .n (.s .n (.s .n (.s .n (.s (.j ⟨[(66,dF)], [], [.bool], [], [], []⟩ .n .n) (.s .n (.s (.s .n (.l ⟨[(13,dI)], [], [tI], [], [], []⟩ (some ⟨[], [], [], [], [], [4]⟩) true (.s .n (.s (.j ⟨[(89,dF)], [], [.bool], [], [], []⟩ (.r (ob [2,12,22,32,42,52,63,72,82,92,102,112,126,132,142]) [] []) .n) .n)))) (.s .n (.s .n (.s (.r (ob [2,12,22,32,43,52,80,90,66,76,102,112,123,130,140,152,166,176,182,192]) [] [6,9]) .n)))))))))))) Tryz.func8 Tryz.ntmps8 (vl (Qa9 K) (vl (Qbb K) (vl (QdW K) (vl (QeY K) (vl (QeZ K) (vl (Qbv K) (vl (Qe1 K) (vl (QqM K) (vl (yP K) (vl (Qc0 K) (vl (QdT K) (vl (Qk0 K) v0))))))))))))
end Go.Proofs.YtomndohdnfebgaaGreatDoor
