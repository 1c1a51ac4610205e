/-
 Proved: calls of the cut's functions come to what their plain functions compute.
-/
import Derived.Test.YtomndohdnfebgaaGreatDoorProg
import Derived.Test.YtomndohdnfebgaaGreatDoorTgDef
import Derived.Test.YtomndohdnfebgaaGreatDoorSxX
import Derived.Test.YtomndohdnfebgaaGreatDoorSxTh
import Derived.Test.YtomndohdnfebgaaGreatDoorSxRv
import Derived.Test.YtomndohdnfebgaaGreatDoorTgOW0
set_option linter.unusedVariables false
set_option maxRecDepth 100000
namespace Go.Proofs.YtomndohdnfebgaaGreatDoor
open Go Go.Sep
@[reducible] def tyD : Nat → Type
 |0=>Qr
 |1=>Q8
 |2=>Qo
 |3=>Qp
 |4=>Ql
 |5=>QbE
 |6=>QL
 |7=>QG
 |8=>Qq
 |9=>Jp
 |10=>Qk
 |11=>ZH
 |12=>Jd
 |13=>JA
 |14=>Qga
 |15=>QP
 |16=>Yz
 |17=>QbF
 |_=>Unit
@[reducible] def fsD : Nat → List Ty
 |0=> [(.sl (.arr .u8 32)),(.sl (.arr .u8 32)),(.int .i64)]
 |1=> [(.int .i64),(.arr .u8 32)]
 |2=> [(.int .i64),(.arr .u8 32),(.sl (.st 1))]
 |3=> [(.int .i64),(.int .i64)]
 |4=> [(.int .i64),(.int .i64),(.int .i64),(.int .i64),(.int .i64),.bool,.bool,(.int .i64),(.int .i64),(.int .i64),(.arr .u8 32),(.sl (.st 3)),(.sl (.int .u8)),(.arr .u8 32),.bool,(.arr .u8 32)]
 |5=> [(.int .i64),(.int .i64),(.int .i64),(.int .i64),(.int .i64),.bool,.bool,.bool,(.int .i64),(.int .i64),(.int .i64)]
 |6=> [(.int .i64),(.st 4),(.sl (.arr .u8 32))]
 |7=> [.bool,(.st 2),(.sl (.st 6))]
 |8=> [(.int .i64),(.int .i64)]
 |9=> [(.int .i64),(.sl (.int .i64)),(.sl (.st 8))]
 |10=> [(.sl (.int .u8)),(.int .i64)]
 |11=> [(.arr .u8 32)]
 |12=> [(.st 0),(.int .i64)]
 |13=> [(.sl (.arr .u8 32))]
 |14=> [(.st 13),(.int .i64)]
 |15=> [(.sl (.st 3)),(.int .i64),(.int .i64),(.int .i64),.bool,.bool,(.int .i64),(.int .i64),(.int .i64),(.int .i64)]
 |16=> [(.arr .i64 4),(.sl (.st 15))]
 |17=> [(.int .i64),(.int .i64),(.int .i64),.bool,(.int .i64)]
 |_=> []
def TD:Tb where
 ty:=tyD
 fs:=fsD
 get:=fun n=>match n with
  |0=>fun x=>(x.fParts,x.fWits,x.fNeed)
  |1=>fun x=>(x.fWit,x.fTag)
  |2=>fun x=>(x.fSize,x.fRoot,x.fSigs)
  |3=>fun x=>(x.fPart,x.fKind)
  |4=>fun x=>(x.fKind,x.fSaga,x.fSeq,x.fStep,x.fTry,x.fBack,x.fGood,x.fEnd,x.fPart,x.fEpoch,x.fTag,x.fSteps,x.fData,x.fSalt,x.fGone,x.fCom)
  |5=>fun x=>(x.fKind,x.fSaga,x.fSeq,x.fStep,x.fTry,x.fBack,x.fGood,x.fGone,x.fEnd,x.fPart,x.fEpoch)
  |6=>fun x=>(x.fAt,x.fRec,x.fPath)
  |7=>fun x=>(x.fWhole,x.fPoint,x.fItems)
  |8=>fun x=>(x.fPhase,x.fMissing)
  |9=>fun x=>(x.fCode,x.fSagas,x.fLines)
  |10=>fun x=>(x.fB,x.fBad)
  |11=>fun x=>x.fTag
  |12=>fun x=>(x.fK,x.fLimit)
  |13=>fun x=>x.fL
  |14=>fun x=>(x.fTrees,x.fN)
  |15=>fun x=>(x.fSteps,x.fPhase,x.fAt,x.fTries,x.fWait,x.fBack,x.fDone,x.fUndone,x.fSome,x.fSeq)
  |16=>fun x=>(x.fEpochs,x.fSagas)
  |17=>fun x=>(x.fKind,x.fStep,x.fTry,x.fBack,x.fEnd)
  |_+18=>fun x=>x
 of:=fun n=>match n with
  |0=>fun y=>⟨y.1,y.2.1,y.2.2⟩
  |1=>fun y=>⟨y.1,y.2⟩
  |2=>fun y=>⟨y.1,y.2.1,y.2.2⟩
  |3=>fun y=>⟨y.1,y.2⟩
  |4=>fun y=>⟨y.1,y.2.1,y.2.2.1,y.2.2.2.1,y.2.2.2.2.1,y.2.2.2.2.2.1,y.2.2.2.2.2.2.1,y.2.2.2.2.2.2.2.1,y.2.2.2.2.2.2.2.2.1,y.2.2.2.2.2.2.2.2.2.1,y.2.2.2.2.2.2.2.2.2.2.1,y.2.2.2.2.2.2.2.2.2.2.2.1,y.2.2.2.2.2.2.2.2.2.2.2.2.1,y.2.2.2.2.2.2.2.2.2.2.2.2.2.1,y.2.2.2.2.2.2.2.2.2.2.2.2.2.2.1,y.2.2.2.2.2.2.2.2.2.2.2.2.2.2.2⟩
  |5=>fun y=>⟨y.1,y.2.1,y.2.2.1,y.2.2.2.1,y.2.2.2.2.1,y.2.2.2.2.2.1,y.2.2.2.2.2.2.1,y.2.2.2.2.2.2.2.1,y.2.2.2.2.2.2.2.2.1,y.2.2.2.2.2.2.2.2.2.1,y.2.2.2.2.2.2.2.2.2.2⟩
  |6=>fun y=>⟨y.1,y.2.1,y.2.2⟩
  |7=>fun y=>⟨y.1,y.2.1,y.2.2⟩
  |8=>fun y=>⟨y.1,y.2⟩
  |9=>fun y=>⟨y.1,y.2.1,y.2.2⟩
  |10=>fun y=>⟨y.1,y.2⟩
  |11=>fun y=>⟨y⟩
  |12=>fun y=>⟨y.1,y.2⟩
  |13=>fun y=>⟨y⟩
  |14=>fun y=>⟨y.1,y.2⟩
  |15=>fun y=>⟨y.1,y.2.1,y.2.2.1,y.2.2.2.1,y.2.2.2.2.1,y.2.2.2.2.2.1,y.2.2.2.2.2.2.1,y.2.2.2.2.2.2.2.1,y.2.2.2.2.2.2.2.2.1,y.2.2.2.2.2.2.2.2.2⟩
  |16=>fun y=>⟨y.1,y.2⟩
  |17=>fun y=>⟨y.1,y.2.1,y.2.2.1,y.2.2.2.1,y.2.2.2.2⟩
  |_+18=>fun x=>x
 kd:=fun n=>match n with
  |0=>QbD
  |1=>qx
  |2=>QaS
  |3=>qy
  |4=>Qf9
  |5=>QiH
  |6=>Qer
  |7=>Qhs
  |8=>Qes
  |9=>Qgu
  |10=>Qgv
  |11=>QiI
  |12=>Qet
  |13=>J9
  |14=>Qht
  |15=>jh
  |16=>Qj0
  |17=>QiJ
  |_+18=>QvH
 tn:=fun t=>lookA [(25,9),(26,9),(28,8),(29,8),(34,0),(35,0),(39,2),(40,2),(45,7),(46,7),(51,4),(52,4),(54,6),(55,6),(69,16),(70,16),(89,3),(90,3),(106,1),(107,1),(124,12),(125,12),(139,11),(140,11),(151,15),(152,15),(161,5),(162,5),(175,10),(176,10),(186,13),(187,13),(188,14),(189,14),(269,17),(270,17)] t
 te:=fun t=>lookA [] t
theorem tbok:TbOk TD:=⟨fun n _ _ _=>match n with
 |0=>Iff.rfl
 |1=>Iff.rfl
 |2=>Iff.rfl
 |3=>Iff.rfl
 |4=>Iff.rfl
 |5=>Iff.rfl
 |6=>Iff.rfl
 |7=>Iff.rfl
 |8=>Iff.rfl
 |9=>Iff.rfl
 |10=>Iff.rfl
 |11=>Iff.rfl
 |12=>Iff.rfl
 |13=>Iff.rfl
 |14=>Iff.rfl
 |15=>Iff.rfl
 |16=>Iff.rfl
 |17=>Iff.rfl
 |_+18=>Iff.rfl,fun n _=>match n with
 |0=>rfl
 |1=>rfl
 |2=>rfl
 |3=>rfl
 |4=>rfl
 |5=>rfl
 |6=>rfl
 |7=>rfl
 |8=>rfl
 |9=>rfl
 |10=>rfl
 |11=>rfl
 |12=>rfl
 |13=>rfl
 |14=>rfl
 |15=>rfl
 |16=>rfl
 |17=>rfl
 |_+18=>rfl⟩
def GD:List (Nat×Dy TD):= [(0,⟨(.arr .u32 8),Zm⟩),(1,⟨(.arr .u32 64),gl_K⟩)]
@[reducible] def ob : List Nat → List (Nat × Nat × Bool)
 | []=> []
 |n::l=>(n/10,n%10/2,Nat.beq (n%2) 1)::ob l
@[reducible] def tI : Ty := .int .i64
@[reducible] def tH : Ty := .arr .u8 32
@[reducible] def tB : Ty := .sl (.int .u8)
@[reducible] def dI : Pt := .dt (.int .i64)
@[reducible] def dF : Pt := .dt .bool
@[reducible] def dH : Pt := .dt (.arr .u8 32)
@[reducible] def dB : Pt := .dt (.sl (.int .u8))
@[reducible] def dD (n : Nat) : Pt := .dt (.st n)
@[reducible] def sd (fid : Nat) (pt rt : List Ty) (fn : TU TD.ty pt → Option (TU TD.ty rt)) : FSp TD := { fid := fid, args := dts pt, blks := [], pt := pt, rt := rt, fn := fn, res := dts rt, out := [], new := [] }
@[reducible] def sg (fid : Nat) (args : Pt) (blks : List (TypeId × Pt)) (pt rt : List Ty) (fn : TU TD.ty pt → Option (TU TD.ty rt)) (res : Pt) (out : List (Option Pt)) (new : List (TypeId × Pt)) : FSp TD := { fid := fid, args := args, blks := blks, pt := pt, rt := rt, fn := fn, res := res, out := out, new := new }
@[reducible] def sp (fid : Nat) (args : Pt) (blks : List (TypeId × Pt)) (pt rt : List Ty) (pv : TypeId × Bool) (fs : TU TD.ty pt → Option (Int ⊕ TU TD.ty rt)) (pk : List Bool) (res : Pt) (out : List (Option Pt)) (new : List (TypeId × Pt)) : FSp TD := { fid := fid, args := args, blks := blks, pt := pt, rt := rt, fn := fun p => sm (fs p) (fun _ => none) some, pv := some pv, fs := fs, pk := pk, res := res, out := out, new := new }
theorem v0:∀s∈([]:List (FSp TD)),VOk Tryz.prog GD s:=Qo0
theorem vl{s:FSp TD}{l:List (FSp TD)}(h:VOk Tryz.prog GD s)(h':∀x∈l,VOk Tryz.prog GD x):∀x∈s::l,VOk Tryz.prog GD x:=jX h h'
section
variable {n:Nat}{s:FSp TD}{f:Func}{c:Code}{sps:List (FSp TD)}{rvs:List (RvSp TD)}{mps:List (FuncId×(SV TD→Option (SV TD)))}
theorem vk(K:Nat)(h:Hn)(hf:Tryz.prog.funcs[s.fid]?=some f)(hn:f.ntmps=n)(hsp:∀x∈sps,VOk Tryz.prog GD x)(hb:f.body=some c:=by exact rfl)
  (hok:(Nat.ble (lenP s.args) n&&(lstP s.args&&(lstP s.res&&(!(f.name== "runtime.NumGoroutine")&&s.pv.isNone))))=true:=by kernel_rfl) (hfn:(fun p=>s.fn p)=funS (T:=TD) (cx Tryz.prog GD sps K n [] []) s f h:=by kernel_rfl):VOk Tryz.prog GD s:=Qv5 tbok hf hb hn hok hsp Qgg Qgh hfn
theorem vkM(K:Nat)(h:Hn)(hf:Tryz.prog.funcs[s.fid]?=some f)(hn:f.ntmps=n)(hsp:∀x∈sps,VOk Tryz.prog GD x)(hrv:∀x∈rvs,RvOk Tryz.prog x)(hmp:∀f g,lookA mps f=some g→MpOk Tryz.prog f g)(hb:f.body=some c:=by exact rfl)
  (hok:(Nat.ble (lenP s.args) n&&(lstP s.args&&(lstP s.res&&(!(f.name== "runtime.NumGoroutine")&&s.pv.isNone))))=true:=by kernel_rfl) (hfn:(fun p=>s.fn p)=funS (T:=TD) (cx Tryz.prog GD sps K n rvs mps) s f h:=by kernel_rfl):VOk Tryz.prog GD s:=Qv5 tbok hf hb hn hok hsp hrv hmp hfn
theorem vkP(K:Nat)(h:Hn)(hf:Tryz.prog.funcs[s.fid]?=some f)(hn:f.ntmps=n)(hsp:∀x∈sps,VOk Tryz.prog GD x)(hgn:(fun p=>s.fn p)=fun p=>sm (s.fs p) (fun _=>none) some)(hb:f.body=some c:=by exact rfl)
  (hok:(Nat.ble (lenP s.args) n&&(lstP s.args&&(lstP s.res&& !(f.name== "runtime.NumGoroutine"))))=true:=by kernel_rfl) (hfn:(fun p=>s.fs p)=funP (T:=TD) (cx Tryz.prog GD sps K n [] []) s f h:=by kernel_rfl):VOk Tryz.prog GD s:=Qxc tbok hf hb hn hok hsp Qgg Qgh hgn hfn
end
def Qv9:SV TD→Option (SV TD):=fun l=>match l with| .nl=>some (.mp [.int .i64 1,.int .i64 2,.int .i64 3,.int .i64 4,.int .i64 5,.int .i64 6] (.cs (.agg (.cs (.fn 179 .nl) .nl)) (.cs (.agg (.cs (.fn 180 .nl) .nl)) (.cs (.agg (.cs (.fn 181 .nl) .nl)) (.cs (.agg (.cs (.fn 180 .nl) .nl)) (.cs (.agg (.cs (.fn 180 .nl) .nl)) (.cs (.agg (.cs (.fn 182 .nl) .nl)) .nl)))))))|_=>none
theorem Qy3:MpOk Tryz.prog 141 Qv9:=by
 refine⟨fun ρ g w0 D l vs sv hA hf hS=> ?_,by kernel_rfl⟩
 unfold Qv9 at hf
 split at hf
 ·obtain rfl:vs= []:=hA
  cases hf
  have hS:=Stp.refl hS
  refine qP (n:=9) Tryz.func141 rfl Tryz.ntmps141 rfl (fun a hE=> ?_)
  have hE:Env a 9 [] []:=hE
  refine wpIn_seq (QcD ?_)
  refine segN 1 (j:=1) [(0,.map none)] hE (by kernel_rfl) rfl (fun a hE=> ?_)
  refine at_end rfl ?_
  refine wpIn_seq (QcD ?_)
  refine qm (QpZ rfl rfl rfl rfl hE rfl hS (fun a b w hE hS=> ?_)) rfl
  refine qm (Qbw hE (Qbz ([.func (.func 179) #[] #[]]) rfl rfl rfl rfl hE rfl rfl (by kernel_rfl) (fun a hE=> ?_))) rfl
  refine qm (Qbk (kt:=3) (et:=204) (kk:= .i64) rfl rfl rfl rfl hE hS rfl rfl rfl (by kernel_rfl) (by kernel_rfl) (by kernel_rfl) (fun a w hE hS=> ?_)) rfl
  refine qm (Qbw hE (Qbz ([.func (.func 180) #[] #[]]) rfl rfl rfl rfl hE rfl rfl (by kernel_rfl) (fun a hE=> ?_))) rfl
  refine qm (Qbk (kt:=3) (et:=204) (kk:= .i64) rfl rfl rfl rfl hE hS rfl rfl rfl (by kernel_rfl) (by kernel_rfl) (by kernel_rfl) (fun a w hE hS=> ?_)) rfl
  refine qm (Qbw hE (Qbz ([.func (.func 181) #[] #[]]) rfl rfl rfl rfl hE rfl rfl (by kernel_rfl) (fun a hE=> ?_))) rfl
  refine qm (Qbk (kt:=3) (et:=204) (kk:= .i64) rfl rfl rfl rfl hE hS rfl rfl rfl (by kernel_rfl) (by kernel_rfl) (by kernel_rfl) (fun a w hE hS=> ?_)) rfl
  refine qm (Qbw hE (Qbz ([.func (.func 180) #[] #[]]) rfl rfl rfl rfl hE rfl rfl (by kernel_rfl) (fun a hE=> ?_))) rfl
  refine qm (Qbk (kt:=3) (et:=204) (kk:= .i64) rfl rfl rfl rfl hE hS rfl rfl rfl (by kernel_rfl) (by kernel_rfl) (by kernel_rfl) (fun a w hE hS=> ?_)) rfl
  refine qm (Qbw hE (Qbz ([.func (.func 180) #[] #[]]) rfl rfl rfl rfl hE rfl rfl (by kernel_rfl) (fun a hE=> ?_))) rfl
  refine qm (Qbk (kt:=3) (et:=204) (kk:= .i64) rfl rfl rfl rfl hE hS rfl rfl rfl (by kernel_rfl) (by kernel_rfl) (by kernel_rfl) (fun a w hE hS=> ?_)) rfl
  refine qm (Qbw hE (Qbz ([.func (.func 182) #[] #[]]) rfl rfl rfl rfl hE rfl rfl (by kernel_rfl) (fun a hE=> ?_))) rfl
  refine qm (Qbk (kt:=3) (et:=204) (kk:= .i64) rfl rfl rfl rfl hE hS rfl rfl rfl (by kernel_rfl) (by kernel_rfl) (by kernel_rfl) (fun a w hE hS=> ?_)) rfl
  refine segN 1 (j:=14) [(8,.map (some b))] hE (by kernel_rfl) rfl (fun a hE=> ?_)
  refine segN 1 (j:=15) [(0,.map (some b))] hE (by kernel_rfl) rfl (fun a hE=> ?_)
  refine at_end rfl ?_
  refine wpIn_ret ?_
  refine Qm1 ([.map (some b)]) hE (by rw[show Tryz.f141.results.toList= [.tmp 0]from rfl];exact⟨_,_,rfl,rfl,rfl⟩) ?_
  refine⟨_,rfl,_,Y5 rfl ⟨b,_,_,rfl,by unfold Snap.ins;rw[if_pos rfl],rfl,⟨_,_,rfl,⟨_,⟨_,_,rfl,⟨[],rfl,rfl⟩,rfl⟩,rfl⟩,⟨_,_,rfl,⟨_,⟨_,_,rfl,⟨[],rfl,rfl⟩,rfl⟩,rfl⟩,⟨_,_,rfl,⟨_,⟨_,_,rfl,⟨[],rfl,rfl⟩,rfl⟩,rfl⟩,⟨_,_,rfl,⟨_,⟨_,_,rfl,⟨[],rfl,rfl⟩,rfl⟩,rfl⟩,⟨_,_,rfl,⟨_,⟨_,_,rfl,⟨[],rfl,rfl⟩,rfl⟩,rfl⟩,⟨_,_,rfl,⟨_,⟨_,_,rfl,⟨[],rfl,rfl⟩,rfl⟩,rfl⟩,rfl⟩⟩⟩⟩⟩⟩⟩,(Stp.freezeM hS).2⟩
 ·cases hf
def QaX(K:Nat):FSp TD:=sg 133 (.cs (.dt (.sl tB)) .nl) [] [(.sl tB)] [tB] (fun p=>QS.f K (p)) (.cs (.own (.int .u8) 5 true) .nl) [] []
theorem Jn(K:Nat):VOk Tryz.prog GD (QaX K):=QcY (T:=TD) (ts:= [(.sl (.sl (.int .u8)))]) (rt:=(.int .u8)) (e:=5) (f:=true) (fn:=fun p=>QS.f K (p)) (fun g w0 D p vals r hG hv hS hr=>by
 obtain⟨v0,h0,rfl⟩:=hv
 obtain⟨A0,c0,e0,f0⟩:=h0
 cases e0
 exact CallsIn.mono (QS.calls hr hS f0) fun e w' ⟨u,h1,D1,A,c,q,h2,h3,h4⟩=>⟨u,h1,D1,A,c,q,h2,h4,h3⟩) (by kernel_rfl)
def Qbm(K:Nat):FSp TD:=sg 111 (.cs dB .nl) [] [tB] [tB] (fun p=>Yo.f K (p)) (.cs (.own (.int .u8) 5 true) .nl) [] []
theorem JW(K:Nat):VOk Tryz.prog GD (Qbm K):=QcY (T:=TD) (ts:= [(.sl (.int .u8))]) (rt:=(.int .u8)) (e:=5) (f:=true) (fn:=fun p=>Yo.f K (p)) (fun g w0 D p vals r hG hv hS hr=>by
 obtain⟨v0,h0,rfl⟩:=hv
 obtain⟨A0,c0,e0,f0⟩:=h0
 cases e0
 exact CallsIn.mono (Yo.calls hr hS f0) fun e w' ⟨u,h1,D1,A,c,q,h2,h3,h4⟩=>⟨u,h1,D1,A,c,q,h2,h4,h3⟩) (by kernel_rfl)
def X9(K:Nat):FSp TD:=sg 157 (.cs (.dt (.sl (.st 1))) .nl) [] [(.sl (.st 1))] [(.sl (.st 1))] (fun p=>Yu.f K (p)) (.cs (.own (.st 1) 107 true) .nl) [] []
theorem jf(K:Nat):VOk Tryz.prog GD (X9 K):=QcY (T:=TD) (ts:= [(.sl (.st 1))]) (rt:=(.st 1)) (e:=107) (f:=true) (fn:=fun p=>Yu.f K (p)) (fun g w0 D p vals r hG hv hS hr=>by
 obtain⟨v0,h0,rfl⟩:=hv
 obtain⟨A0,c0,e0,f0⟩:=h0
 cases e0
 exact CallsIn.mono (Yu.calls hr hS f0) fun e w' ⟨u,h1,D1,A,c,q,h2,h3,h4⟩=>⟨u,h1,D1,A,c,q,h2,h4,h3⟩) (by kernel_rfl)
def Xz(K:Nat):FSp TD:=sg 62 (.cs (.dt (.sl (.st 3))) .nl) [] [(.sl (.st 3))] [(.sl (.st 3))] (fun p=>QF.f K (p)) (.cs (.own (.st 3) 90 true) .nl) [] []
theorem JJ(K:Nat):VOk Tryz.prog GD (Xz K):=QcY (T:=TD) (ts:= [(.sl (.st 3))]) (rt:=(.st 3)) (e:=90) (f:=true) (fn:=fun p=>QF.f K (p)) (fun g w0 D p vals r hG hv hS hr=>by
 obtain⟨v0,h0,rfl⟩:=hv
 obtain⟨A0,c0,e0,f0⟩:=h0
 cases e0
 exact CallsIn.mono (QF.calls hr hS f0) fun e w' ⟨u,h1,D1,A,c,q,h2,h3,h4⟩=>⟨u,h1,D1,A,c,q,h2,h4,h3⟩) (by kernel_rfl)
def XA(K:Nat):FSp TD:=sg 206 (.cs (.dt (.sl (.st 15))) .nl) [] [(.sl (.st 15))] [(.sl (.st 15))] (fun p=>Q4.f K (p)) (.cs (.own (.st 15) 152 true) .nl) [] []
theorem qL(K:Nat):VOk Tryz.prog GD (XA K):=QcY (T:=TD) (ts:= [(.sl (.st 15))]) (rt:=(.st 15)) (e:=152) (f:=true) (fn:=fun p=>Q4.f K (p)) (fun g w0 D p vals r hG hv hS hr=>by
 obtain⟨v0,h0,rfl⟩:=hv
 obtain⟨A0,c0,e0,f0⟩:=h0
 cases e0
 exact CallsIn.mono (Q4.calls hr hS f0) fun e w' ⟨u,h1,D1,A,c,q,h2,h3,h4⟩=>⟨u,h1,D1,A,c,q,h2,h4,h3⟩) (by kernel_rfl)
def Qao(K:Nat):RvSp TD:=⟨134,(.int .u8),5,Yf.f K⟩
theorem Qap(K:Nat):RvOk Tryz.prog (Qao K):=⟨fun g w0 D A cap xs ys q hS hO hr=>Yf.calls hr hS hO,by kernel_rfl,fun xs ys h=>Yf.len h⟩
def Qaq(K:Nat):RvSp TD:=⟨151,.bool,4,Yg.f K⟩
theorem Qar(K:Nat):RvOk Tryz.prog (Qaq K):=⟨fun g w0 D A cap xs ys q hS hO hr=>Yg.calls hr hS hO,by kernel_rfl,fun xs ys h=>Yg.len h⟩
def Zd(K:Nat):RvSp TD:=⟨153,(.sl (.int .u8)),41,QY.f K⟩
theorem Ze(K:Nat):RvOk Tryz.prog (Zd K):=⟨fun g w0 D A cap xs ys q hS hO hr=>QY.calls hr hS hO,by kernel_rfl,fun xs ys h=>QY.len h⟩
def jY(K:Nat):FSp TD:=sd 35 [] [(.st 0)] (fun p=>ZI.f K)
theorem QcZ(K:Nat):VOk Tryz.prog GD (jY K):=vk K .n Tryz.func35 Tryz.ntmps35 v0
def Qkw(K:Nat):FSp TD:=sd 78 [tI,tI,tI] [.bool] (fun p=>JY.f K (p.1) (p.2.1) (p.2.2))
theorem Zr(K:Nat):VOk Tryz.prog GD (Qkw K):=vk K .n Tryz.func78 Tryz.ntmps78 v0
def Qfx(K:Nat):FSp TD:=sd 66 [(.st 0)] [.bool] (fun p=>QaA.f K (p))
theorem QdI(K:Nat):VOk Tryz.prog GD (Qfx K):=vk K .n Tryz.func66 Tryz.ntmps66 (vl (Zr K) v0)
def Ql1(K:Nat):FSp TD:=sd 81 [(.st 0),tI,tI] [.bool] (fun p=>Zy.f K (p.1) (p.2.1) (p.2.2))
theorem Qc0(K:Nat):VOk Tryz.prog GD (Ql1 K):=vk K .n Tryz.func81 Tryz.ntmps81 (vl (QdI K) (vl (Zr K) v0))
def Qss(K:Nat):FSp TD:=sg 156 (.cs (.dt (.int .u64)) (.cs dI .nl)) [] [(.int .u64),tI] [tB] (fun p=>Qd3.f K (p.1) (p.2)) (.cs (.own (.int .u8) 5 true) .nl) [] []
theorem Ql2(K:Nat):VOk Tryz.prog GD (Qss K):=vk K (.s .n (.s .n (.s (.s .n (.l ⟨[(0,(.dt (.int .u64))),(5,(.own (.int .u8) 5 true)),(11,dI)], [], [(.int .u64),tB,tI], [], [], []⟩ (some ⟨[(5,(.own (.int .u8) 5 true))], [], [tB], [], [], []⟩) false .n)) .n))) Tryz.func156 Tryz.ntmps156 v0
def Qnx(K:Nat):FSp TD:=sg 155 (.cs dI .nl) [] [tI] [tB] (fun p=>Qbg.f K (p)) (.cs (.own (.int .u8) 5 true) .nl) [] []
theorem Qny(K:Nat):VOk Tryz.prog GD (Qnx K):=vk K .n Tryz.func155 Tryz.ntmps155 (vl (Ql2 K) v0)
def Qgx(K:Nat):FSp TD:=sg 154 (.cs (.dt (.sl tI)) (.cs (.fn 155 .nl) .nl)) [] [(.sl tI)] [tB] (fun p=>XW.f K (p)) (.cs (.own (.int .u8) 5 true) .nl) [] []
theorem Qgy(K:Nat):VOk Tryz.prog GD (Qgx K):=vk K (.s .n (.s .n (.s (.s .n (.l ⟨[(5,(.own (.int .u8) 5 true)),(10,dI)], [], [tB,tI], [], [], []⟩ (some ⟨[(5,(.own (.int .u8) 5 true))], [], [tB], [], [], []⟩) false .n)) .n))) Tryz.func154 Tryz.ntmps154 (vl (Qny K) v0)
def Qp2(K:Nat):FSp TD:=sg 143 (.cs dI .nl) [] [tI] [tB] (fun p=>Qeu.f K (p)) (.cs (.own (.int .u8) 5 true) .nl) [] []
theorem Qp3(K:Nat):VOk Tryz.prog GD (Qp2 K):=vk K (.s .n (.s .n (.s .n (.s (.l ⟨[(3,(.own (.int .u8) 5 true))], [], [tB], [], [], []⟩ (some ⟨[(3,(.own (.int .u8) 5 true))], [], [tB], [], [], []⟩) false .n) (.s .n (.s (.s .n (.l ⟨[(3,(.own (.int .u8) 5 true)),(5,dI)], [], [tB,tI], [], [], []⟩ (some ⟨[(3,(.own (.int .u8) 5 true))], [], [tB], [], [], []⟩) false .n)) .n)))))) Tryz.func143 Tryz.ntmps143 v0
def Ql3(K:Nat):FSp TD:=sg 142 (.cs dB .nl) [] [tB] [tB] (fun p=>Qfs.f K (p)) (.cs (.fn 183 (.cs (.ptr 0 0) .nl)) .nl) [] [(41,dB)]
theorem Ql4(K:Nat):VOk Tryz.prog GD (Ql3 K):=vk K .n Tryz.func142 Tryz.ntmps142 v0
def Qbn(K:Nat):FSp TD:=sd 208 [(.int .u32),tI] [(.int .u32)] (fun p=>YP.f K (p.1) (p.2))
theorem Xa(K:Nat):VOk Tryz.prog GD (Qbn K):=vk K .n Tryz.func208 Tryz.ntmps208 v0
def Qnz(K:Nat):FSp TD:=sd 207 [(.int .u32),tI,tI,tI] [(.int .u32)] (fun p=>ZJ.f K (p.1) (p.2.1) (p.2.2.1) (p.2.2.2))
theorem QnA(K:Nat):VOk Tryz.prog GD (Qnz K):=vk K (.s .n (.s (.r (ob [2,12,22,40,50,60,90,100,110,36,76,82,122,132]) [] []) .n)) Tryz.func207 Tryz.ntmps207 (vl (Xa K) v0)
def QiK(K:Nat):FSp TD:=sd 184 [tB] [(.arr .u32 64)] (fun p=>X5.f K (p))
theorem QiL(K:Nat):VOk Tryz.prog GD (QiK K):=vk K (.s .n (.s .n (.s (.s .n (.l ⟨[(5,dI)], [(3,(.dt (.arr .u32 64)))], [tI,(.arr .u32 64)], [], [], []⟩ (some ⟨[], [(3,(.dt (.arr .u32 64)))], [(.arr .u32 64)], [], [], []⟩) false (.s .n (.s .n (.j ⟨[], [(3,(.dt (.arr .u32 64)))], [(.arr .u32 64)], [], [], []⟩ (.s .n (.s (.s .n (.s (.s (.r (ob [0,12,22,32,42,52,80,90,100,110,120,130,140,150,170,180,190,200,210,220,230,240,260,270,280,290,300,310,320,66,72,162,252,332,342,356]) [] []) .n) .n)) (.r (ob [0,12,22,32,42,60,70,80,90,110,120,130,140,170,180,190,200,56,100,156,162,212,222,236]) [] [3]))) .n))))) .n))) Tryz.func184 Tryz.ntmps184 (vl (QnA K) v0)
def Ql5(K:Nat):FSp TD:=sd 185 [(.int .u32),tI,tI,tI] [(.int .u32)] (fun p=>XK.f K (p.1) (p.2.1) (p.2.2.1) (p.2.2.2))
theorem Ql6(K:Nat):VOk Tryz.prog GD (Ql5 K):=vk K .n Tryz.func185 Tryz.ntmps185 (vl (Xa K) v0)
def Qp4(K:Nat):FSp TD:=sd 144 [(.arr .u32 8),tB] [(.arr .u32 8)] (fun p=>Qdy.f K (p.1) (p.2))
theorem Qp5(K:Nat):VOk Tryz.prog GD (Qp4 K):=vk K (.s .n (.s .n (.s .n (.s (.s .n (.l ⟨[(18,dI)], [(5,(.dt (.arr .u32 8)))], [tI,(.arr .u32 8)], [], [], []⟩ (some ⟨[], [(5,(.dt (.arr .u32 8)))], [(.arr .u32 8)], [], [], []⟩) false (.s .n (.s .n (.s (.s .n (.s (.r (ob [0,10,22,32,60,70,80,90,100,110,120,130,140,150,160,170,190,200,210,230,46,52,182,222,242,252]) [] [5]) (.s (.r (ob [2,12,30,40,50,60,70,80,90,100,110,120,130,140,150,160,170,180,190,26,202,212]) [] [5]) (.s (.r (ob [2,12,26]) [] []) .n)))) .n))))) (.s (.s .n (.l ⟨[(81,dI)], [(2,(.dt (.arr .u32 8)))], [tI,(.arr .u32 8)], [], [], []⟩ (some ⟨[], [(2,(.dt (.arr .u32 8)))], [(.arr .u32 8)], [], [], [5]⟩) false (.s .n (.s .n (.s (.s .n (.r (ob [2,12,22,32,42,52,62,72,86]) [] [])) .n))))) .n))))) Tryz.func144 Tryz.ntmps144 (vl (QiL K) (vl (Ql6 K) v0))
def Qp6(K:Nat):FSp TD:={fid:=83,args:=(.cs (.dt (.sl (.sl (.int .u8)))) .nl),blks:= [],pt:= [(.sl (.sl (.int .u8)))],rt:= [(.arr .u8 32)],fn:=fun p=>Qft.f K (p),res:=(.cs (.dt (.arr .u8 32)) .nl),out:= [],new:= [] }
theorem Qp7(K:Nat):VOk Tryz.prog GD (Qp6 K):=vk K (.s .n (.s .n (.s .n (.s (.s .n (.g (.l ⟨[], [(1000000000004,(.dt (.arr .u32 8))),(1,dB)], [(.arr .u32 8),tB], [], [], []⟩ (some ⟨[], [(1000000000004,(.dt (.arr .u32 8))),(1,dB)], [(.arr .u32 8),tB], [], [], []⟩) false .n) .n .n)) (.s .n (.s (.s .n (.l ⟨[(21,dI)], [(6,dH)], [tI,tH], [], [], []⟩ (some ⟨[], [(6,dH)], [tH], [], [], [4]⟩) false .n)) .n)))))) Tryz.func83 Tryz.ntmps83 (vl (Jn K) (vl (Qp3 K) (vl (Ql4 K) (vl (Qp5 K) v0))))
def Qst(K:Nat):FSp TD:={fid:=83,args:=(.cs (.dt (.sl (.sl (.int .u8)))) .nl),blks:= [],pt:= [(.sl (.sl (.int .u8)))],rt:= [(.arr .u8 32)],fn:=fun p=>shaQ.f K (p),res:=(.cs (.dt (.arr .u8 32)) .nl),out:= [],new:= [] }
theorem Za(K:Nat):VOk Tryz.prog GD (Qst K):=(congrArg (fun f=>VOk Tryz.prog GD ({fid:=83,args:=(.cs (.dt (.sl (.sl (.int .u8)))) .nl),blks:= [],pt:= [(.sl (.sl (.int .u8)))],rt:= [(.arr .u8 32)],fn:=f,res:=(.cs (.dt (.arr .u8 32)) .nl),out:= [],new:= [] }:FSp TD)) (QwQ K)).mpr (Qp7 K)
def Qsu(K:Nat):FSp TD:=sg 177 (.cs dB (.cs (.dt (.int .u8)) .nl)) [] [tB,(.int .u8)] [tB] (fun p=>Qhx.f K (p.1) (p.2)) (.cs (.own (.int .u8) 5 true) .nl) [] []
theorem Qsv(K:Nat):VOk Tryz.prog GD (Qsu K):=vk K (.s .n (.s .n (.s .n (.s (.s .n (.l ⟨[(5,(.own (.int .u8) 5 true)),(13,dI)], [], [tB,tI], [], [], []⟩ (some ⟨[(5,(.own (.int .u8) 5 true))], [], [tB], [], [], []⟩) false .n)) .n)))) Tryz.func177 Tryz.ntmps177 v0
def Qsw(K:Nat):FSp TD:=sd 139 [tB,(.sl tB)] [tH] (fun p=>Qhy.f K (p.1) (p.2))
theorem Ql7(K:Nat):VOk Tryz.prog GD (Qsw K):=vk K (.s .n (.j ⟨[(0,dB)], [], [tB], [], [], []⟩ .n (.s .n (.s (.r (ob [2,20,16,36,46,56]) [6] []) .n)))) Tryz.func139 Tryz.ntmps139 (vl (Za K) (vl (Qsv K) v0))
def Qsx(K:Nat):FSp TD:=sd 103 [tH,(.sl tI)] [tH] (fun p=>Qfu.f K (p.1) (p.2))
theorem Ql8(K:Nat):VOk Tryz.prog GD (Qsx K):=vk K (.s .n (.s (.r (ob [0,12,26,36,46,56]) [2] []) .n)) Tryz.func103 Tryz.ntmps103 (vl (Qgy K) (vl (Ql7 K) v0))
def QnB(K:Nat):FSp TD:=sd 104 [(.st 0),tI,tI] [tH] (fun p=>QcJ.f K (p.1) (p.2.1) (p.2.2))
theorem QnC(K:Nat):VOk Tryz.prog GD (QnB K):=vk K .n Tryz.func104 Tryz.ntmps104 (vl (Qc0 K) (vl (Ql8 K) v0))
def Qp8(K:Nat):FSp TD:=sd 105 [.bool] [tI] (fun p=>Qdz.f K (p))
theorem Qp9(K:Nat):VOk Tryz.prog GD (Qp8 K):=vk K .n Tryz.func105 Tryz.ntmps105 v0
def QaY(K:Nat):FSp TD:=sd 36 [(.st 0),(.st 4)] [tH] (fun p=>jQ.f K (p.1) (p.2))
theorem QdV(K:Nat):VOk Tryz.prog GD (QaY K):=vk K (.s .n (.s (.j ⟨[(16,dF)], [], [.bool], [], [], []⟩ .n .n) (.s (.r (ob [2,12,22,32,42,60,70,80,90,100,110,130,140,56,126,156,164,176,186]) [] [3]) .n))) Tryz.func36 Tryz.ntmps36 (vl (Qc0 K) (vl (QnC K) (vl (Qp9 K) (vl (Ql8 K) v0))))
def Ql9(K:Nat):FSp TD:=sd 164 [tI,tI,tI] [.bool] (fun p=>JR.f K (p.1) (p.2.1) (p.2.2))
theorem Qgi(K:Nat):VOk Tryz.prog GD (Ql9 K):=vk K .n Tryz.func164 Tryz.ntmps164 v0
def QiM(K:Nat):FSp TD:=sd 165 [(.st 3)] [.bool] (fun p=>QaB.f K (p))
theorem QiN(K:Nat):VOk Tryz.prog GD (QiM K):=vk K .n Tryz.func165 Tryz.ntmps165 (vl (Qgi K) v0)
def yO(K:Nat):FSp TD:=sg 196 (.cs (.dt (.sl (.st 3))) (.cs (.fn 165 .nl) .nl)) [] [(.sl (.st 3))] [tI] (fun p=>Jv.f K (p)) (.cs dI .nl) [] []
theorem yP(K:Nat):VOk Tryz.prog GD (yO K):=vk K (.s .n (.s (.s .n (.l ⟨[(8,dI)], [], [tI], [], [], []⟩ (some ⟨[], [], [], [], [], []⟩) true .n)) .n)) Tryz.func196 Tryz.ntmps196 (vl (QiN K) v0)
def jZ(K:Nat):FSp TD:=sg 166 (.cs (.dt (.sl (.st 3))) (.cs (.fn 165 .nl) .nl)) [] [(.sl (.st 3))] [.bool] (fun p=>YQ.f K (p)) (.cs dF .nl) [] []
theorem yc(K:Nat):VOk Tryz.prog GD (jZ K):=vk K .n Tryz.func166 Tryz.ntmps166 (vl (yP K) v0)
def Qma(K:Nat):FSp TD:=sd 123 [(.st 4)] [.bool] (fun p=>QdA.f K (p))
theorem Qmb(K:Nat):VOk Tryz.prog GD (Qma K):=vk K (.s .n (.s (.j ⟨[(19,dF)], [], [.bool], [], [], []⟩ .n .n) (.s (.s .n (.s .n (.s .n (.j ⟨[(41,dF)], [], [.bool], [], [], []⟩ .n .n)))) .n))) Tryz.func123 Tryz.ntmps123 (vl (Qgi K) (vl (yc K) v0))
def Qqa(K:Nat):FSp TD:=sd 124 [(.st 4)] [(.st 4)] (fun p=>QgX.f K (p))
theorem Qqb(K:Nat):VOk Tryz.prog GD (Qqa K):=vk K (.s .n (.s .n (.j ⟨[], [(3,(dD 4))], [(.st 4)], [], [], [1]⟩ (.s .n (.s (.s (.j ⟨[], [(3,(dD 4))], [(.st 4)], [], [], []⟩ (.s (.s (.s (.s .n (.s .n (.s (.j ⟨[(13,dF)], [], [.bool], [], [], []⟩ .n .n) .n))) .n) (.s (.s (.r (ob [2,12,20,30,40,50,62,76,82,96,102,116]) [] [1]) (.s .n (.s .n (.r (ob [2,12,20,30,42,56,62,76]) [] [1])))) .n)) (.r (ob [2,12,20,30,40,50,60,70,82,96,102,116,122,136,142,156]) [] [1])) (.s (.r (ob [2,12,20,30,40,50,60,70,80,90,102,116,122,136,142,156,162,176,182,196]) [] [1]) .n)) (.s (.r (ob [2,12,20,30,40,50,62,76,82,96,102,116]) [] [1]) .n)) (.s (.r (ob [2,12,20,30,42,56,62,76]) [] [1]) .n))) .n))) Tryz.func124 Tryz.ntmps124 v0
def XB(K:Nat):FSp TD:=sd 97 [(.sl (.st 3)),(.sl (.st 3))] [.bool] (fun p=>Jh.f K (p.1) (p.2))
theorem XC(K:Nat):VOk Tryz.prog GD (XB K):=vk K (.s .n (.s .n (.s (.s .n (.l ⟨[(13,dI)], [], [tI], [], [], []⟩ (some ⟨[], [], [], [], [], []⟩) true (.s .n (.s .n (.s (.s .n (.s (.r (ob [2,12,22,32,42,52,62,72,82]) [] []) .n)) .n))))) .n))) Tryz.func97 Tryz.ntmps97 v0
def Qkx(K:Nat):FSp TD:=sd 96 [tB,tB] [.bool] (fun p=>bytes_Equal.f K (p.1) (p.2))
theorem QbV(K:Nat):VOk Tryz.prog GD (Qkx K):=vk K .n Tryz.func96 Tryz.ntmps96 v0
def Qqc(K:Nat):FSp TD:=sd 98 [(.st 4)] [(.st 5)] (fun p=>QgY.f K (p))
theorem Qqd(K:Nat):VOk Tryz.prog GD (Qqc K):=vk K .n Tryz.func98 Tryz.ntmps98 v0
def Qqe(K:Nat):FSp TD:=sd 31 [(.st 4),(.st 4)] [.bool] (fun p=>Qex.f K (p.1) (p.2))
theorem Qjx(K:Nat):VOk Tryz.prog GD (Qqe K):=vk K (.s .n (.s (.j ⟨[(18,dF)], [], [.bool], [], [], []⟩ .n .n) (.j ⟨[(4,dF)], [], [.bool], [], [], [2,3]⟩ (.r (ob [2,20,16,36,42,53,62,72,82,92,102,112,123,132,142,152,162,172,182,193,202,212,222,232,242,252,262]) [] [3]) .n))) Tryz.func31 Tryz.ntmps31 (vl (XC K) (vl (QbV K) (vl (Qqd K) v0)))
def QnD(K:Nat):FSp TD:=sd 61 [(.st 4)] [.bool] (fun p=>qU.f K (p))
theorem jA(K:Nat):VOk Tryz.prog GD (QnD K):=vk K (.s .n (.s (.r (ob [2,16,23,30,42,56,66,72,82]) [] [1]) .n)) Tryz.func61 Tryz.ntmps61 (vl (Qmb K) (vl (Qqb K) (vl (Qjx K) v0)))
def Qgz(K:Nat):FSp TD:=sd 146 [(.st 4)] [.bool] (fun p=>QaT.f K (p))
theorem QgA(K:Nat):VOk Tryz.prog GD (Qgz K):=vk K .n Tryz.func146 Tryz.ntmps146 (vl (jA K) v0)
def Xd(K:Nat):FSp TD:=sg 186 (.cs (.dt (.sl (.st 4))) (.cs (.fn 146 .nl) .nl)) [] [(.sl (.st 4))] [tI] (fun p=>JH.f K (p)) (.cs dI .nl) [] []
theorem Xe(K:Nat):VOk Tryz.prog GD (Xd K):=vk K (.s .n (.s (.s .n (.l ⟨[(8,dI)], [], [tI], [], [], []⟩ (some ⟨[], [], [], [], [], []⟩) true .n)) .n)) Tryz.func186 Tryz.ntmps186 (vl (QgA K) v0)
def yF(K:Nat):FSp TD:=sg 145 (.cs (.dt (.sl (.st 4))) (.cs (.fn 146 .nl) .nl)) [] [(.sl (.st 4))] [.bool] (fun p=>Jr.f K (p)) (.cs dF .nl) [] []
theorem yG(K:Nat):VOk Tryz.prog GD (yF K):=vk K .n Tryz.func145 Tryz.ntmps145 (vl (Xe K) v0)
def QiO(K:Nat):FSp TD:=sd 86 [(.sl (.st 4))] [.bool] (fun p=>y8.f K (p))
theorem QaZ(K:Nat):VOk Tryz.prog GD (QiO K):=vk K .n Tryz.func86 Tryz.ntmps86 (vl (yG K) v0)
def Qqf(K:Nat):FSp TD:=sg 71 (.cs dI .nl) [] [tI] [tB] (fun p=>ji.f K (p)) (.cs (.own (.int .u8) 5 true) .nl) [] []
theorem ja(K:Nat):VOk Tryz.prog GD (Qqf K):=vkM K (.s .n (.s (.j ⟨[(9,dF)], [], [.bool], [], [], []⟩ .n .n) (.s .n (.s (.s .n (.l ⟨[(0,dI),(3,(.own (.int .u8) 5 true))], [], [tI,tB], [], [], []⟩ (some ⟨[(3,(.own (.int .u8) 5 true))], [], [tB], [], [], []⟩) false .n)) .n)))) Tryz.func71 Tryz.ntmps71 v0 (Qnw (Qap K) Qgg) Qgh
def QnE(K:Nat):FSp TD:=sg 147 .nl [] [] [] (fun p=>Qey.f K) (.cs (.agg (.cs (.agg (.cs (.raw .nilFunc) .nl)) (.cs (.agg (.cs (.fn 187 .nl) .nl)) (.cs (.agg (.cs (.fn 188 .nl) .nl)) (.cs (.agg (.cs (.fn 189 .nl) .nl)) (.cs (.agg (.cs (.fn 188 .nl) .nl)) (.cs (.agg (.cs (.fn 191 .nl) .nl)) (.cs (.agg (.cs (.fn 192 .nl) .nl)) .nl)))))))) .nl) [] []
theorem QhX(K:Nat):VOk Tryz.prog GD (QnE K):=vk K .n Tryz.func147 Tryz.ntmps147 v0
def Qky(K:Nat):FSp TD:=sg 190 (.cs (.dt (.sl tI)) .nl) [] [(.sl tI)] [tB] (fun p=>jk.f K (p)) (.cs (.own (.int .u8) 5 true) .nl) [] []
theorem Xu(K:Nat):VOk Tryz.prog GD (Qky K):=vk K (.s .n (.s .n (.s (.s .n (.l ⟨[(3,(.own (.int .u8) 5 true)),(8,dI)], [], [tB,tI], [], [], []⟩ (some ⟨[(3,(.own (.int .u8) 5 true))], [], [tB], [], [], []⟩) false .n)) .n))) Tryz.func190 Tryz.ntmps190 (vl (ja K) v0)
def QnF(K:Nat):FSp TD:=sg 187 (.cs (dD 4) .nl) [] [(.st 4)] [tB] (fun p=>QcK.f K (p)) (.cs (.own (.int .u8) 5 true) .nl) [] []
theorem QhY(K:Nat):VOk Tryz.prog GD (QnF K):=vk K (.s .n (.s .n (.s (.s .n (.l ⟨[(3,(.own (.int .u8) 5 true)),(16,dI)], [], [tB,tI], [], [], [1]⟩ (some ⟨[(3,(.own (.int .u8) 5 true))], [], [tB], [], [], [1]⟩) false .n)) .n))) Tryz.func187 Tryz.ntmps187 (vl (Xu K) v0)
def Qqg(K:Nat):FSp TD:=sg 69 (.cs (.dt (.sl tB)) .nl) [] [(.sl tB)] [tB] (fun p=>Ju.f K (p)) (.cs (.own (.int .u8) 5 true) .nl) [] []
theorem Xb(K:Nat):VOk Tryz.prog GD (Qqg K):=vk K .n Tryz.func69 Tryz.ntmps69 (vl (Jn K) v0)
def QnG(K:Nat):FSp TD:=sg 70 (.cs dF .nl) [] [.bool] [tB] (fun p=>X6.f K (p)) (.cs (.own (.int .u8) 5 true) .nl) [] []
theorem QbW(K:Nat):VOk Tryz.prog GD (QnG K):=vk K .n Tryz.func70 Tryz.ntmps70 v0
def Qqh(K:Nat):FSp TD:=sg 188 (.cs (dD 4) .nl) [] [(.st 4)] [tB] (fun p=>QaC.f K (p)) (.cs (.own (.int .u8) 5 true) .nl) [] []
theorem Qfy(K:Nat):VOk Tryz.prog GD (Qqh K):=vk K (.s .n (.s (.r (ob [2,12,22,32,42,52,62,72,84,100,110,96,126,136,146,152]) [] [1]) .n)) Tryz.func188 Tryz.ntmps188 (vl (Xu K) (vl (QbW K) (vl (Xb K) v0)))
def QnH(K:Nat):FSp TD:=sg 72 (.cs dH .nl) [] [tH] [tB] (fun p=>yN.f K (p)) (.cs (.own (.int .u8) 5 true) .nl) [] []
theorem XQ(K:Nat):VOk Tryz.prog GD (QnH K):=vk K .n Tryz.func72 Tryz.ntmps72 (vl (JW K) v0)
def Qkz(K:Nat):FSp TD:=sg 189 (.cs (dD 4) .nl) [] [(.st 4)] [tB] (fun p=>ZL.f K (p)) (.cs (.own (.int .u8) 5 true) .nl) [] []
theorem QeS(K:Nat):VOk Tryz.prog GD (Qkz K):=vk K (.s .n (.s (.r (ob [2,20,30,50,60,70,80,94,110,120,16,46,106,136,146,156,162]) [] [1]) .n)) Tryz.func189 Tryz.ntmps189 (vl (Qfy K) (vl (QbW K) (vl (Xu K) (vl (XQ K) (vl (Xb K) v0)))))
def QkA(K:Nat):FSp TD:=sg 191 (.cs (dD 4) .nl) [] [(.st 4)] [tB] (fun p=>ZM.f K (p)) (.cs (.own (.int .u8) 5 true) .nl) [] []
theorem QeT(K:Nat):VOk Tryz.prog GD (QkA K):=vk K .n Tryz.func191 Tryz.ntmps191 (vl (Xu K) v0)
def QkB(K:Nat):FSp TD:=sg 192 (.cs (dD 4) .nl) [] [(.st 4)] [tB] (fun p=>ZN.f K (p)) (.cs (.own (.int .u8) 5 true) .nl) [] []
theorem QeU(K:Nat):VOk Tryz.prog GD (QkB K):=vk K .n Tryz.func192 Tryz.ntmps192 (vl (Xu K) v0)
def Qqi(K:Nat):FSp TD:=sg 168 (.cs dB .nl) [] [tB] [tB] (fun p=>QdB.f K (p)) (.cs (.own (.int .u8) 5 true) .nl) [] []
theorem Qqj(K:Nat):VOk Tryz.prog GD (Qqi K):=vk K .n Tryz.func168 Tryz.ntmps168 (vl (Ql2 K) (vl (Jn K) v0))
def Qfz(K:Nat):FSp TD:=sg 167 (.cs (.dt (.sl tB)) (.cs (.fn 168 .nl) .nl)) [] [(.sl tB)] [tB] (fun p=>ZO.f K (p)) (.cs (.own (.int .u8) 5 true) .nl) [] []
theorem QfA(K:Nat):VOk Tryz.prog GD (Qfz K):=vk K (.s .n (.s .n (.s (.s .n (.l ⟨[(5,(.own (.int .u8) 5 true)),(10,dI)], [], [tB,tI], [], [], []⟩ (some ⟨[(5,(.own (.int .u8) 5 true))], [], [tB], [], [], []⟩) false .n)) .n))) Tryz.func167 Tryz.ntmps167 (vl (Qqj K) v0)
def QuL(K:Nat):FSp TD:=sd 125 [tI,(.sl tB)] [tH] (fun p=>Qhz.f K (p.1) (p.2))
theorem Qo7(K:Nat):VOk Tryz.prog GD (QuL K):=vk K .n Tryz.func125 Tryz.ntmps125 (vl (QfA K) (vl (Za K) v0))
def Qsy(K:Nat):FSp TD:=sd 63 [(.st 4)] [tH] (fun p=>QhA.f K (p))
theorem Qmc(K:Nat):VOk Tryz.prog GD (Qsy K):=vk K (.s .n (.s (.j ⟨[(3,dF)], [], [.bool], [], [], []⟩ .n .n) (.s (.r (ob [2,12,22,32,46,56,66]) [1] []) .n))) Tryz.func63 Tryz.ntmps63 (vl (jA K) (vl (Qo7 K) v0))
def QiP(K:Nat):FSp TD:=sg 93 (.cs (.ptr 0 0) .nl) [(52,(dD 4))] [(.st 4)] [tB] (fun p=>QaD.f K (p)) (.cs (.own (.int .u8) 5 true) .nl) [none] []
theorem QiQ(K:Nat):VOk Tryz.prog GD (QiP K):=vk K .n Tryz.func93 Tryz.ntmps93 (vl (Qmc K) (vl (XQ K) v0))
def Qsz(K:Nat):FSp TD:=sg 92 (.cs (dD 4) (.cs (.fn 93 (.cs (.ptr 0 0) .nl)) .nl)) [(52,(dD 4))] [(.st 4),(.st 4)] [tB] (fun p=>Qnb.f K (p.1) (p.2)) (.cs (.own (.int .u8) 5 true) .nl) [none] []
theorem QsA(K:Nat):VOk Tryz.prog GD (Qsz K):=vk K (.s .n (.s .n (.j ⟨[(5,(.own (.int .u8) 5 true))], [], [tB], [], [], []⟩ (.r (ob [2,12,40,50,80,26,36,62,72,96,106,116,122]) [] [2]) .n))) Tryz.func92 Tryz.ntmps92 (vl (jA K) (vl (ja K) (vl (QhX K) (vl (QhY K) (vl (Xb K) (vl (Qfy K) (vl (QeS K) (vl (QeT K) (vl (QeU K) (vl (QiQ K) v0))))))))))
def Qmd(K:Nat):FSp TD:=sg 28 (.cs (dD 4) .nl) [] [(.st 4)] [tB] (fun p=>XL.f K (p)) (.cs (.own (.int .u8) 5 true) .nl) [] []
theorem Qc1(K:Nat):VOk Tryz.prog GD (Qmd K):=vk K .n Tryz.func28 Tryz.ntmps28 (vl (QsA K) v0)
def QnI(K:Nat):FSp TD:=sd 87 [tB] [tH] (fun p=>jR.f K (p))
theorem QbX(K:Nat):VOk Tryz.prog GD (QnI K):=vk K .n Tryz.func87 Tryz.ntmps87 (vl (Za K) v0)
def QhZ(K:Nat):FSp TD:=sd 24 [(.sl (.st 4))] [(.sl tH)] (fun p=>jl.f K (p))
theorem Xv(K:Nat):VOk Tryz.prog GD (QhZ K):=vk K (.s .n (.s .n (.s .n (.s (.s .n (.l ⟨[(3,(.own tH 37 true)),(11,dI)], [], [(.sl tH),tI], [], [], []⟩ (some ⟨[(3,(.own tH 37 true))], [], [(.sl tH)], [], [], []⟩) false .n)) .n)))) Tryz.func24 Tryz.ntmps24 (vl (QaZ K) (vl (Qc1 K) (vl (QbX K) v0)))
def Qme(K:Nat):FSp TD:=sd 84 [tI] [tI] (fun p=>yl.f K (p))
theorem QaK(K:Nat):VOk Tryz.prog GD (Qme K):=vk K (.s .n (.s .n (.s .n (.s (.l ⟨[(3,dI)], [], [tI], [], [], []⟩ (some ⟨[(3,dI)], [], [tI], [], [], []⟩) false .n) .n)))) Tryz.func84 Tryz.ntmps84 v0
def QnJ(K:Nat):FSp TD:=sd 85 [tH,tH] [tH] (fun p=>jD.f K (p.1) (p.2))
theorem QbY(K:Nat):VOk Tryz.prog GD (QnJ K):=vk K (.s .n (.s (.r (ob [4,12,22,36,46,56]) [2,3] []) .n)) Tryz.func85 Tryz.ntmps85 (vl (Za K) v0)
def Qh0(K k:Nat):FSp TD:=sd 23 [(.sl tH)] [tH] (fun p=>JO.r K k (p))
theorem QnK(K:Nat):∀k,VOk Tryz.prog GD (Qh0 K k):=by
 intro k
 induction k with
 |zero=>exact Qv6 Tryz.func23 rfl (by kernel_rfl) (fun _=>rfl)
 |succ k ih=>
  exact vk K (.s .n (.s .n (.s .n (.s (.r (ob [2,12,40,50,60,26,36,76,86,96]) [] []) .n)))) Tryz.func23 Tryz.ntmps23 (vl (Za K) (vl (QaK K) (vl (QbY K) (vl ih v0))))
def QnL(K:Nat):FSp TD:=Qh0 K K
theorem Qh1(K:Nat):VOk Tryz.prog GD (QnL K):=QnK K K
def QnM(K:Nat):FSp TD:=sd 138 [(.st 2)] [tH] (fun p=>Qez.f K (p))
theorem QnN(K:Nat):VOk Tryz.prog GD (QnM K):=vk K (.s .n (.s (.r (ob [2,12,30,40,26,56,66,76]) [1] []) .n)) Tryz.func138 Tryz.ntmps138 (vl (ja K) (vl (Qo7 K) v0))
def QnO(K:Nat):FSp TD:=sd 79 [(.st 0),tI,(.st 2)] [tH] (fun p=>ZP.f K (p.1) (p.2.1) (p.2.2))
theorem Qh2(K:Nat):VOk Tryz.prog GD (QnO K):=vk K (.s .n (.s (.j ⟨[(25,dF)], [], [.bool], [], [], []⟩ .n .n) (.s .n (.s (.r (ob [0,10,20,30,40,54,62,76,86,96]) [7] [3]) .n)))) Tryz.func79 Tryz.ntmps79 (vl (QdI K) (vl (Zr K) (vl (QnN K) (vl (Ql7 K) v0))))
def jb(K:Nat):FSp TD:=sg 37 (.cs (dD 0) (.cs (.dt (.sl (.st 4))) .nl)) [] [(.st 0),(.sl (.st 4))] [tI,tH,(.sl (.st 1))] (fun p=>jH.f K (p.1) (p.2)) (.cs (.agg (.cs dI (.cs dH (.cs (.own (.st 1) 107 true) .nl)))) .nl) [] []
theorem Qbo(K:Nat):VOk Tryz.prog GD (jb K):=vk K (.s .n (.s .n (.s .n (.s (.s .n (.l ⟨[(7,dI)], [(6,(.agg (.cs dI (.cs dH (.cs (.own (.st 1) 107 true) .nl)))))], [tI,tI,tH,(.sl (.st 1))], [], [], []⟩ (some ⟨[], [(6,(.agg (.cs dI (.cs dH (.cs (.own (.st 1) 107 true) .nl)))))], [tI,tH,(.sl (.st 1))], [], [], [2,5]⟩) false (.s .n (.s (.r (ob [0,10,20,32,42,52,66,72,84,96,102,116]) [] [6]) .n)))) .n)))) Tryz.func37 Tryz.ntmps37 (vl (Xv K) (vl (Qh1 K) (vl (Qh2 K) v0)))
def QiR(K:Nat):FSp TD:=sg 107 (.cs dI (.cs (.fn 108 .nl) .nl)) [] [tI] [tI] (fun p=>Qgb.f K (p)) (.cs (.fn 159 (.cs (.ptr 0 0) (.cs (.ptr 1 0) .nl))) .nl) [] [(3,dI),(173,(.fn 108 .nl))]
theorem QiS(K:Nat):VOk Tryz.prog GD (QiR K):=vk K .n Tryz.func107 Tryz.ntmps107 v0
def QgB(K:Nat):FSp TD:=sd 108 [tI] [.bool] (fun p=>QdT.f K (p))
theorem QgC(K:Nat):VOk Tryz.prog GD (QgB K):=vk K .n Tryz.func108 Tryz.ntmps108 v0
def Qmf(K:Nat):FSp TD:=sd 16 [(.st 4)] [(.st 4)] (fun p=>y9.f K (p))
theorem Qgj(K:Nat):VOk Tryz.prog GD (Qmf K):=vk K (.s .n (.s (.j ⟨[(10,dF)], [], [.bool], [], [], []⟩ .n .n) (.s (.r (ob [0,10,22,32,50,46,66,72,86]) [] [1]) .n))) Tryz.func16 Tryz.ntmps16 (vl (jA K) (vl (JJ K) (vl (Qmc K) v0)))
def Qh3(K:Nat):FSp TD:=sd 158 [(.st 4),tI,(.int .u32)] [(.st 4)] (fun p=>QbH.f K (p.1) (p.2.1) (p.2.2))
theorem Qc2(K:Nat):VOk Tryz.prog GD (Qh3 K):=vk K (.s .n (.s .n (.s (.r (ob [2,12,30,40,26,60,56,76,82,96]) [] [3]) .n))) Tryz.func158 Tryz.ntmps158 (vl (Qgj K) (vl (JJ K) (vl (JW K) v0)))
def Qgk(K k:Nat):FSp TD:=sg 91 (.cs (.dt (.sl tH)) (.cs dI .nl)) [] [(.sl tH),tI] [(.sl tH),.bool] (fun p=>JS.r K k (p.1) (p.2)) (.cs (.own tH 37 true) (.cs dF .nl)) [] []
theorem Qmg(K:Nat):∀k,VOk Tryz.prog GD (Qgk K k):=by
 intro k
 induction k with
 |zero=>exact Qv6 Tryz.func91 rfl (by kernel_rfl) (fun _=>rfl)
 |succ k ih=>
  exact vk K (.s .n (.s (.j ⟨[(18,dF)], [], [.bool], [], [], []⟩ .n .n) .n)) Tryz.func91 Tryz.ntmps91 (vl (QaK K) (vl (Qh1 K) (vl ih v0)))
def Qmh(K:Nat):FSp TD:=Qgk K K
theorem Qc3(K:Nat):VOk Tryz.prog GD (Qmh K):=Qmg K K
def Qh4(K:Nat):FSp TD:=sd 122 [tI,tI,tI] [.bool] (fun p=>yu.f K (p.1) (p.2.1) (p.2.2))
theorem Qab(K:Nat):VOk Tryz.prog GD (Qh4 K):=vk K .n Tryz.func122 Tryz.ntmps122 v0
def QgD(K:Nat):FSp TD:=sd 162 [(.st 1)] [.bool] (fun p=>XX.f K (p))
theorem QgE(K:Nat):VOk Tryz.prog GD (QgD K):=vk K .n Tryz.func162 Tryz.ntmps162 (vl (Qab K) v0)
def Xf(K:Nat):FSp TD:=sg 195 (.cs (.dt (.sl (.st 1))) (.cs (.fn 162 .nl) .nl)) [] [(.sl (.st 1))] [tI] (fun p=>JI.f K (p)) (.cs dI .nl) [] []
theorem Xg(K:Nat):VOk Tryz.prog GD (Xf K):=vk K (.s .n (.s (.s .n (.l ⟨[(8,dI)], [], [tI], [], [], []⟩ (some ⟨[], [], [], [], [], []⟩) true .n)) .n)) Tryz.func195 Tryz.ntmps195 (vl (QgE K) v0)
def yH(K:Nat):FSp TD:=sg 163 (.cs (.dt (.sl (.st 1))) (.cs (.fn 162 .nl) .nl)) [] [(.sl (.st 1))] [.bool] (fun p=>Y0.f K (p)) (.cs dF .nl) [] []
theorem yI(K:Nat):VOk Tryz.prog GD (yH K):=vk K .n Tryz.func163 Tryz.ntmps163 (vl (Xg K) v0)
def QiT(K:Nat):FSp TD:=sd 121 [(.st 2)] [.bool] (fun p=>QaE.f K (p))
theorem QiU(K:Nat):VOk Tryz.prog GD (QiT K):=vk K .n Tryz.func121 Tryz.ntmps121 (vl (Qab K) (vl (yI K) v0))
def QiV(K:Nat):FSp TD:=sd 60 [(.st 7)] [.bool] (fun p=>qf.f K (p))
theorem XZ(K:Nat):VOk Tryz.prog GD (QiV K):=vk K (.s .n (.s (.j ⟨[(31,dF)], [], [.bool], [], [], []⟩ .n .n) (.s .n (.s (.s .n (.l ⟨[(3,dI),(35,dI)], [], [tI,tI], [], [], []⟩ (some ⟨[], [], [], [], [], [1]⟩) true (.s .n (.s .n (.s (.s .n (.s (.j ⟨[(77,dF)], [], [.bool], [], [], []⟩ .n .n) .n)) .n))))) .n)))) Tryz.func60 Tryz.ntmps60 (vl (QiU K) (vl (jA K) (vl (Qab K) v0)))
def QkC(K:Nat):FSp TD:=sg 106 (.cs (.dt (.sl (.st 4))) (.cs (dD 2) (.cs (.dt (.int .u32)) (.cs dF (.cs (.fn 159 (.cs (.ptr 0 0) (.cs (.ptr 1 0) .nl))) .nl))))) [(3,dI),(173,(.fn 108 .nl))] [(.sl (.st 4)),(.st 2),(.int .u32),.bool,tI] [(.st 7),.bool] (fun p=>QhB.f K (p.1) (p.2.1) (p.2.2.1) (p.2.2.2.1) (p.2.2.2.2)) (.cs (dD 7) (.cs dF .nl)) [none,none] []
theorem QkD(K:Nat):VOk Tryz.prog GD (QkC K):=vk K (.s .n (.s (.j ⟨[(35,dF)], [], [.bool], [], [], []⟩ .n .n) (.s .n (.s (.r (ob [0,10,20,30,40,52,62,104,76,82,92,116]) [] [6,8]) (.s (.s .n (.g (.s .n (.l ⟨[(6,dI)], [(1000000000013,(.agg (.cs dF (.cs (dD 2) (.cs (.own (.st 6) 55 false) .nl)))))], [tI,.bool,(.st 2),(.sl (.st 6))], [], [], []⟩ (some ⟨[], [(1000000000013,(.agg (.cs dF (.cs (dD 2) (.cs (.own (.st 6) 55 false) .nl)))))], [.bool,(.st 2),(.sl (.st 6))], [], [], []⟩) true (.s .n (.s .n (.j ⟨[], [(1000000000013,(.agg (.cs dF (.cs (dD 2) (.cs (.own (.st 6) 55 false) .nl)))))], [.bool,(.st 2),(.sl (.st 6))], [], [], []⟩ .n .n))))) .n (.s (.j ⟨[(61,dF)], [], [.bool], [], [], []⟩ .n .n) (.s (.r (ob [0,12,22,32,42,52,62,94,76,82,106]) [] []) (.j ⟨[(73,dF)], [(15,(.agg (.cs dI (.cs (dD 4) (.cs (.own tH 37 true) .nl)))))], [.bool,tI,(.st 4),(.sl tH)], [], [], []⟩ .n .n))))) .n))))) Tryz.func106 Tryz.ntmps106 (vl (QaZ K) (vl (Xv K) (vl (jf K) (vl (QgC K) (vl (Qc2 K) (vl (Qc3 K) (vl (XZ K) v0)))))))
def Qa0(K:Nat):FSp TD:=sd 38 [(.sl (.st 4)),(.st 2),(.int .u32)] [(.st 7),.bool] (fun p=>QcL.f K (p.1) (p.2.1) (p.2.2))
theorem QiW(K:Nat):VOk Tryz.prog GD (Qa0 K):=vk K (.s .n (.s (.r (ob [0,10,20,32,42,52,66,76,82,92,106,112]) [] [4]) .n)) Tryz.func38 Tryz.ntmps38 (vl (QiS K) (vl (QkD K) v0))
def QfB(K:Nat):FSp TD:=sg 107 (.cs dI (.cs (.fn 109 (.cs (.ptr 0 0) (.cs (.ptr 1 0) .nl))) .nl)) [(64,(.dt (.sl (.st 4)))),(3,dI)] [tI,(.sl (.st 4)),tI] [tI] (fun p=>QcM.f K (p.1) (p.2.1) (p.2.2)) (.cs (.fn 159 (.cs (.ptr 2 0) (.cs (.ptr 3 0) .nl))) .nl) [none,none] [(3,dI),(173,(.fn 109 (.cs (.ptr 0 0) (.cs (.ptr 1 0) .nl))))]
theorem QfC(K:Nat):VOk Tryz.prog GD (QfB K):=vk K .n Tryz.func107 Tryz.ntmps107 v0
def Qh5(K:Nat):FSp TD:=sg 109 (.cs dI (.cs (.ptr 0 0) (.cs (.ptr 1 0) .nl))) [(64,(.dt (.sl (.st 4)))),(3,dI)] [tI,(.sl (.st 4)),tI] [.bool] (fun p=>QeA.f K (p.1) (p.2.1) (p.2.2)) (.cs dF .nl) [none,none] []
theorem Qh6(K:Nat):VOk Tryz.prog GD (Qh5 K):=vk K (.s .n (.s (.r (ob [2,12,22,32,42,52,63,72,82,92,102,112,122,132,142,152]) [] []) .n)) Tryz.func109 Tryz.ntmps109 v0
def QgF(K:Nat):FSp TD:=sg 106 (.cs (.dt (.sl (.st 4))) (.cs (dD 2) (.cs (.dt (.int .u32)) (.cs dF (.cs (.fn 159 (.cs (.ptr 0 0) (.cs (.ptr 1 0) .nl))) .nl))))) [(3,dI),(173,(.fn 109 (.cs (.ptr 2 0) (.cs (.ptr 3 0) .nl)))),(64,(.dt (.sl (.st 4)))),(3,dI)] [(.sl (.st 4)),(.st 2),(.int .u32),.bool,tI,(.sl (.st 4)),tI] [(.st 7),.bool] (fun p=>QdU.f K (p.1) (p.2.1) (p.2.2.1) (p.2.2.2.1) (p.2.2.2.2.1) (p.2.2.2.2.2.1) (p.2.2.2.2.2.2)) (.cs (dD 7) (.cs dF .nl)) [none,none,none,none] []
theorem QgG(K:Nat):VOk Tryz.prog GD (QgF K):=vk K (.s .n (.s (.j ⟨[(35,dF)], [], [.bool], [], [], []⟩ .n .n) (.s .n (.s (.r (ob [0,10,20,30,40,52,62,104,76,82,92,116]) [] [6,8]) (.s (.s .n (.g (.s .n (.l ⟨[(6,dI)], [(1000000000013,(.agg (.cs dF (.cs (dD 2) (.cs (.own (.st 6) 55 false) .nl)))))], [tI,.bool,(.st 2),(.sl (.st 6))], [], [], []⟩ (some ⟨[], [(1000000000013,(.agg (.cs dF (.cs (dD 2) (.cs (.own (.st 6) 55 false) .nl)))))], [.bool,(.st 2),(.sl (.st 6))], [], [], []⟩) true (.s .n (.s .n (.j ⟨[], [(1000000000013,(.agg (.cs dF (.cs (dD 2) (.cs (.own (.st 6) 55 false) .nl)))))], [.bool,(.st 2),(.sl (.st 6))], [], [], []⟩ .n .n))))) .n (.s (.j ⟨[(61,dF)], [], [.bool], [], [], []⟩ .n .n) (.s (.r (ob [0,12,22,32,42,52,62,94,76,82,106]) [] []) (.j ⟨[(73,dF)], [(15,(.agg (.cs dI (.cs (dD 4) (.cs (.own tH 37 true) .nl)))))], [.bool,tI,(.st 4),(.sl tH)], [], [], []⟩ .n .n))))) .n))))) Tryz.func106 Tryz.ntmps106 (vl (QaZ K) (vl (Xv K) (vl (jf K) (vl (Qh6 K) (vl (Qc2 K) (vl (Qc3 K) (vl (XZ K) v0)))))))
def QbZ(K:Nat):FSp TD:=sd 39 [(.sl (.st 4)),(.st 2),(.int .u32),tI] [(.st 7),.bool] (fun p=>QhC.f K (p.1) (p.2.1) (p.2.2.1) (p.2.2.2))
theorem QkE(K:Nat):VOk Tryz.prog GD (QbZ K):=vk K (.s .n (.s (.r (ob [0,10,20,32,42,52,62,72,82,92,106,116,122,132,146,152]) [] [4,5]) .n)) Tryz.func39 Tryz.ntmps39 (vl (QfC K) (vl (QgG K) v0))
def QiX(K:Nat):FSp TD:=sg 74 (.cs (dD 1) .nl) [] [(.st 1)] [tB] (fun p=>Qgc.f K (p)) (.cs (.own (.int .u8) 5 true) .nl) [] []
theorem QiY(K:Nat):VOk Tryz.prog GD (QiX K):=vk K (.s .n (.s (.r (ob [2,12,30,40,26,56,66,76,82]) [] [1]) .n)) Tryz.func74 Tryz.ntmps74 (vl (ja K) (vl (XQ K) (vl (Xb K) v0)))
def Qc4(K:Nat):FSp TD:=sg 73 (.cs (.dt (.sl (.st 1))) (.cs (.fn 74 .nl) .nl)) [] [(.sl (.st 1))] [tB] (fun p=>ZQ.f K (p)) (.cs (.own (.int .u8) 5 true) .nl) [] []
theorem Qc5(K:Nat):VOk Tryz.prog GD (Qc4 K):=vk K (.s .n (.s .n (.s (.s .n (.l ⟨[(5,(.own (.int .u8) 5 true)),(13,dI)], [], [tB,tI], [], [], []⟩ (some ⟨[(5,(.own (.int .u8) 5 true))], [], [tB], [], [], []⟩) false .n)) .n))) Tryz.func73 Tryz.ntmps73 (vl (ja K) (vl (QiY K) v0))
def Qmi(K:Nat):FSp TD:=sg 137 (.cs dB .nl) [] [tB] [tB] (fun p=>Qjk.f K (p)) (.cs (.own (.int .u8) 5 true) .nl) [] []
theorem Qmj(K:Nat):VOk Tryz.prog GD (Qmi K):=vk K .n Tryz.func137 Tryz.ntmps137 (vl (ja K) v0)
def Qmk(K:Nat):FSp TD:=sg 136 (.cs (.ptr 0 0) .nl) [(52,(dD 4))] [(.st 4)] [tB] (fun p=>Qjl.f K (p)) (.cs (.own (.int .u8) 5 true) .nl) [none] []
theorem Qml(K:Nat):VOk Tryz.prog GD (Qmk K):=vk K (.s .n (.s (.s .n (.s (.s (.r (ob [10,20,6,36,46,56,62]) [] [0]) .n) .n)) (.s (.r (ob [10,20,40,50,6,36,66,76,86,92]) [] [0]) .n))) Tryz.func136 Tryz.ntmps136 (vl (QbW K) (vl (XQ K) (vl (Xb K) (vl (Qmj K) v0))))
def Qmm(K:Nat):FSp TD:=sg 92 (.cs (dD 4) (.cs (.fn 136 (.cs (.ptr 0 0) .nl)) .nl)) [(52,(dD 4))] [(.st 4),(.st 4)] [tB] (fun p=>Qjm.f K (p.1) (p.2)) (.cs (.own (.int .u8) 5 true) .nl) [none] []
theorem Qmn(K:Nat):VOk Tryz.prog GD (Qmm K):=vk K (.s .n (.s .n (.j ⟨[(5,(.own (.int .u8) 5 true))], [], [tB], [], [], []⟩ (.r (ob [2,12,40,50,80,26,36,62,72,96,106,116,122]) [] [2]) .n))) Tryz.func92 Tryz.ntmps92 (vl (jA K) (vl (ja K) (vl (QhX K) (vl (QhY K) (vl (Xb K) (vl (Qfy K) (vl (QeS K) (vl (QeT K) (vl (QeU K) (vl (Qml K) v0))))))))))
def Qqk(K:Nat):FSp TD:=sg 77 (.cs (dD 4) .nl) [] [(.st 4)] [tB] (fun p=>Qj6.f K (p)) (.cs (.own (.int .u8) 5 true) .nl) [] []
theorem Qjy(K:Nat):VOk Tryz.prog GD (Qqk K):=vk K .n Tryz.func77 Tryz.ntmps77 (vl (Qmn K) v0)
def Qcf(K:Nat):FSp TD:=sg 135 (.cs (.dt (.sl tH)) (.cs (.fn 72 .nl) .nl)) [] [(.sl tH)] [tB] (fun p=>Zh.f K (p)) (.cs (.own (.int .u8) 5 true) .nl) [] []
theorem Qcg(K:Nat):VOk Tryz.prog GD (Qcf K):=vk K (.s .n (.s .n (.s (.s .n (.l ⟨[(5,(.own (.int .u8) 5 true)),(13,dI)], [], [tB,tI], [], [], []⟩ (some ⟨[(5,(.own (.int .u8) 5 true))], [], [tB], [], [], []⟩) false .n)) .n))) Tryz.func135 Tryz.ntmps135 (vl (ja K) (vl (XQ K) v0))
def QkF(K:Nat):FSp TD:=sg 76 (.cs (dD 6) .nl) [] [(.st 6)] [tB] (fun p=>QhD.f K (p)) (.cs (.own (.int .u8) 5 true) .nl) [] []
theorem QkG(K:Nat):VOk Tryz.prog GD (QkF K):=vk K (.s .n (.s (.r (ob [2,12,30,40,60,70,26,56,86,96,106,112]) [] [1]) .n)) Tryz.func76 Tryz.ntmps76 (vl (ja K) (vl (Qjy K) (vl (Qcg K) (vl (Xb K) v0))))
def Qch(K:Nat):FSp TD:=sg 75 (.cs (.dt (.sl (.st 6))) (.cs (.fn 76 .nl) .nl)) [] [(.sl (.st 6))] [tB] (fun p=>Zi.f K (p)) (.cs (.own (.int .u8) 5 true) .nl) [] []
theorem Qci(K:Nat):VOk Tryz.prog GD (Qch K):=vk K (.s .n (.s .n (.s (.s .n (.l ⟨[(5,(.own (.int .u8) 5 true)),(13,dI)], [], [tB,tI], [], [], []⟩ (some ⟨[(5,(.own (.int .u8) 5 true))], [], [tB], [], [], []⟩) false .n)) .n))) Tryz.func75 Tryz.ntmps75 (vl (ja K) (vl (QkG K) v0))
def Qc6(K:Nat):FSp TD:=sg 18 (.cs (dD 7) .nl) [] [(.st 7)] [tB] (fun p=>Qbh.f K (p)) (.cs (.own (.int .u8) 5 true) .nl) [] []
theorem Qmo(K:Nat):VOk Tryz.prog GD (Qc6 K):=vk K (.s .n (.s .n (.s (.r (ob [4,18,22,32,50,60,70,90,100,110,130,140,150,46,86,126,166,176,186,192]) [] [1]) (.s .n (.s (.s .n (.l ⟨[(3,(.own (.int .u8) 5 true)),(39,dI)], [], [tB,tI], [], [], [1]⟩ (some ⟨[(3,(.own (.int .u8) 5 true))], [], [tB], [], [], [1]⟩) false .n)) .n))))) Tryz.func18 Tryz.ntmps18 (vl (XZ K) (vl (QbW K) (vl (ja K) (vl (XQ K) (vl (Qc5 K) (vl (Xb K) (vl (Qci K) (vl (Qjy K) v0))))))))
def Qc7(K:Nat):FSp TD:=sp 65 (.cs dF (.cs dI .nl)) [] [.bool,tI] [] (120,true) (fun p=>YI.fs K (p.1) (p.2)) [] .nl [] []
theorem Xc(K:Nat):VOk Tryz.prog GD (Qc7 K):=vkP K .n Tryz.func65 Tryz.ntmps65 v0 rfl
def QfD(K:Nat):FSp TD:=sd 110 [tB,tB] [.bool] (fun p=>bytes_HasPrefix.f K (p.1) (p.2))
theorem QfE(K:Nat):VOk Tryz.prog GD (QfD K):=vk K .n Tryz.func110 Tryz.ntmps110 (vl (QbV K) v0)
def QfF(K:Nat):FSp TD:=sd 45 [tB,tB] [tB,.bool] (fun p=>bytes_CutPrefix.f K (p.1) (p.2))
theorem QfG(K:Nat):VOk Tryz.prog GD (QfF K):=vk K .n Tryz.func45 Tryz.ntmps45 (vl (QfE K) v0)
def QnP(K:Nat):FSp TD:=sg 46 (.cs dB .nl) [] [tB] [(.st 10)] (fun p=>QeB.f K (p)) (.cs (.ptr 0 0) .nl) [] [(176,(dD 10))]
theorem QnQ(K:Nat):VOk Tryz.prog GD (QnP K):=vk K .n Tryz.func46 Tryz.ntmps46 (vl (JW K) v0)
def QfH(K:Nat):FSp TD:=sg 118 (.cs (.ptr 0 0) .nl) [(176,(dD 10))] [(.st 10)] [tI] (fun p=>QJ.f K (p)) (.cs dI .nl) [none] []
theorem YV(K:Nat):VOk Tryz.prog GD (QfH K):=vk K .n Tryz.func118 Tryz.ntmps118 v0
def QdM(K:Nat):FSp TD:=sd 113 [tB] [.bool,tI,tI] (fun p=>qA.f K (p))
theorem QdN(K:Nat):VOk Tryz.prog GD (QdM K):=vk K .n Tryz.func113 Tryz.ntmps113 v0
def QeV(K:Nat):FSp TD:=sg 49 (.cs (.ptr 0 0) (.cs dI .nl)) [(176,(dD 10))] [tI,(.st 10)] [(.st 10)] (fun p=>Yi.f K (p.1) (p.2)) .nl [some (dD 10)] []
theorem YN(K:Nat):VOk Tryz.prog GD (QeV K):=vk K (.j ⟨[(16,dF)], [], [.bool], [], [], []⟩ .n .n) Tryz.func49 Tryz.ntmps49 v0
def QgH(K:Nat):FSp TD:=sg 112 (.cs (.ptr 0 0) (.cs (.fn 113 .nl) .nl)) [(176,(dD 10))] [(.st 10)] [.bool,(.st 10)] (fun p=>jF.f K (p)) (.cs dF .nl) [some (dD 10)] []
theorem QgI(K:Nat):VOk Tryz.prog GD (QgH K):=vk K .n Tryz.func112 Tryz.ntmps112 (vl (YV K) (vl (QdN K) (vl (YN K) v0)))
def QeW(K:Nat):FSp TD:=sg 47 (.cs (.ptr 0 0) .nl) [(176,(dD 10))] [(.st 10)] [.bool,(.st 10)] (fun p=>YL.f K (p)) (.cs dF .nl) [some (dD 10)] []
theorem QaL(K:Nat):VOk Tryz.prog GD (QeW K):=vk K .n Tryz.func47 Tryz.ntmps47 (vl (QgI K) v0)
def QkH(K:Nat):FSp TD:=sd 115 [tB] [tI,tI,tI] (fun p=>ZR.f K (p))
theorem QeX(K:Nat):VOk Tryz.prog GD (QkH K):=vk K (.s .n (.s .n (.s (.s .n (.l ⟨[(5,dI),(10,dI)], [], [tI,tI], [], [], []⟩ (some ⟨[], [], [], [], [], []⟩) true (.s .n (.s .n (.s (.s .n (.s (.j ⟨[(24,dF)], [], [.bool], [], [], []⟩ .n .n) .n)) .n))))) .n))) Tryz.func115 Tryz.ntmps115 v0
def Qh7(K:Nat):FSp TD:=sg 114 (.cs (.ptr 0 0) (.cs (.fn 115 .nl) .nl)) [(176,(dD 10))] [(.st 10)] [tI,(.st 10)] (fun p=>Xo.f K (p)) (.cs dI .nl) [some (dD 10)] []
theorem Qh8(K:Nat):VOk Tryz.prog GD (Qh7 K):=vk K .n Tryz.func114 Tryz.ntmps114 (vl (YV K) (vl (QeX K) (vl (YN K) v0)))
def QfI(K:Nat):FSp TD:=sg 48 (.cs (.ptr 0 0) .nl) [(176,(dD 10))] [(.st 10)] [tI,(.st 10)] (fun p=>QD.f K (p)) (.cs dI .nl) [some (dD 10)] []
theorem jc(K:Nat):VOk Tryz.prog GD (QfI K):=vk K .n Tryz.func48 Tryz.ntmps48 (vl (Qh8 K) v0)
def QdO(K:Nat):FSp TD:=sd 117 [tB] [tH,tI,tI] (fun p=>jK.f K (p))
theorem QdP(K:Nat):VOk Tryz.prog GD (QdO K):=vk K .n Tryz.func117 Tryz.ntmps117 v0
def QdQ(K:Nat):FSp TD:=sg 116 (.cs (.ptr 0 0) (.cs (.fn 117 .nl) .nl)) [(176,(dD 10))] [(.st 10)] [tH,(.st 10)] (fun p=>qB.f K (p)) (.cs dH .nl) [some (dD 10)] []
theorem QdR(K:Nat):VOk Tryz.prog GD (QdQ K):=vk K .n Tryz.func116 Tryz.ntmps116 (vl (YV K) (vl (QdP K) (vl (YN K) v0)))
def QeY(K:Nat):FSp TD:=sg 50 (.cs (.ptr 0 0) .nl) [(176,(dD 10))] [(.st 10)] [tH,(.st 10)] (fun p=>YA.f K (p)) (.cs dH .nl) [some (dD 10)] []
theorem jL(K:Nat):VOk Tryz.prog GD (QeY K):=vk K .n Tryz.func50 Tryz.ntmps50 (vl (QdR K) v0)
def QiZ(K:Nat):FSp TD:=sg 52 (.cs dI (.cs (.ptr 0 0) .nl)) [(100,(.ptr 1 0)),(176,(dD 10))] [tI,(.st 10)] [(.st 1),(.st 10)] (fun p=>QcN.f K (p.1) (p.2)) (.cs (dD 1) .nl) [none,some (dD 10)] []
theorem Qi0(K:Nat):VOk Tryz.prog GD (QiZ K):=vk K (.s .n (.s (.r (ob [2,20,16,36,42,56]) [] [1]) .n)) Tryz.func52 Tryz.ntmps52 (vl (jc K) (vl (jL K) v0))
def Qc8(K:Nat):FSp TD:=sg 51 (.cs (.ptr 0 0) (.cs dI (.cs dI (.cs (.fn 52 (.cs (.ptr 1 0) .nl)) .nl)))) [(176,(dD 10)),(100,(.ptr 0 0))] [tI,tI,(.st 10)] [(.sl (.st 1)),(.st 10)] (fun p=>qi.f K (p.1) (p.2.1) (p.2.2)) (.cs (.own (.st 1) 107 true) .nl) [some (dD 10),none] []
theorem Qc9(K:Nat):VOk Tryz.prog GD (Qc8 K):=vk K (.s .n (.j ⟨[], [(0,(dD 10))], [(.st 10)], [], [], []⟩ .n (.s .n (.s (.s .n (.l ⟨[(9,(.own (.st 1) 107 true)),(17,dI)], [(0,(dD 10))], [(.sl (.st 1)),tI,(.st 10)], [], [], []⟩ (some ⟨[(9,(.own (.st 1) 107 true))], [(0,(dD 10))], [(.sl (.st 1)),(.st 10)], [], [], []⟩) false .n)) .n)))) Tryz.func51 Tryz.ntmps51 (vl (YN K) (vl (YV K) (vl (Qi0 K) v0)))
def QnR(K:Nat):FSp TD:=sg 119 (.cs (.ptr 0 0) .nl) [(176,(dD 10))] [(.st 10)] [(.sl (.st 3)),(.st 10)] (fun p=>QcO.f K (p)) (.cs (.own (.st 3) 90 true) .nl) [some (dD 10)] []
theorem QnS(K:Nat):VOk Tryz.prog GD (QnR K):=vk K (.s .n (.s .n (.j ⟨[], [(0,(dD 10))], [(.st 10)], [], [], []⟩ .n (.s .n (.s (.s .n (.l ⟨[(4,(.own (.st 3) 90 true)),(12,dI)], [(0,(dD 10))], [(.sl (.st 3)),tI,(.st 10)], [], [], []⟩ (some ⟨[(4,(.own (.st 3) 90 true))], [(0,(dD 10))], [(.sl (.st 3)),(.st 10)], [], [], []⟩) false .n)) .n))))) Tryz.func119 Tryz.ntmps119 (vl (jc K) (vl (YN K) (vl (YV K) v0)))
def Qda(K:Nat):FSp TD:=sg 161 (.cs dB (.cs (.ptr 0 0) .nl)) [(3,dI)] [tB,tI] [tB,tI,tI] (fun p=>JK.f K (p.1) (p.2)) (.cs (.own (.int .u8) 5 true) (.cs dI (.cs dI .nl))) [none] []
theorem Qdb(K:Nat):VOk Tryz.prog GD (Qda K):=vk K .n Tryz.func161 Tryz.ntmps161 (vl (QeX K) (vl (JW K) v0))
def QgJ(K:Nat):FSp TD:=sg 160 (.cs (.ptr 0 0) (.cs (.fn 161 (.cs (.ptr 1 0) .nl)) .nl)) [(176,(dD 10)),(3,dI)] [(.st 10),tI] [tB,(.st 10)] (fun p=>qJ.f K (p.1) (p.2)) (.cs (.own (.int .u8) 5 true) .nl) [some (dD 10),none] []
theorem QgK(K:Nat):VOk Tryz.prog GD (QgJ K):=vk K .n Tryz.func160 Tryz.ntmps160 (vl (YV K) (vl (Qdb K) (vl (YN K) v0)))
def Qea(K:Nat):FSp TD:=sg 120 (.cs (.ptr 0 0) (.cs dI .nl)) [(176,(dD 10))] [tI,(.st 10)] [tB,(.st 10)] (fun p=>YT.f K (p.1) (p.2)) (.cs (.own (.int .u8) 5 true) .nl) [some (dD 10)] []
theorem Qeb(K:Nat):VOk Tryz.prog GD (Qea K):=vk K .n Tryz.func120 Tryz.ntmps120 (vl (QgK K) v0)
def Qql(K:Nat):FSp TD:=sg 55 (.cs (.ptr 0 0) .nl) [(176,(dD 10))] [(.st 10)] [(.st 4),(.st 10)] (fun p=>QeC.f K (p)) (.cs (dD 4) .nl) [some (dD 10)] []
theorem Qjz(K:Nat):VOk Tryz.prog GD (Qql K):=vk K (.s .n (.s .n (.j ⟨[], [(0,(dD 10)),(3,(.agg (.cs dI (.cs dI (.cs dI (.cs dI (.cs dI (.cs dF (.cs dF (.cs dI (.cs dI (.cs dI (.cs dH (.cs (.dt (.sl (.st 3))) (.cs dB (.cs dH (.cs dF (.cs dH .nl))))))))))))))))))], [(.st 10),tI,tI,tI,tI,tI,.bool,.bool,tI,tI,tI,tH,(.sl (.st 3)),tB,tH,.bool,tH], [], [], []⟩ (.s .n (.s .n (.s .n (.j ⟨[(33,dF)], [], [.bool], [], [], []⟩ .n .n)))) (.j ⟨[], [(0,(dD 10))], [(.st 10)], [], [], []⟩ .n .n)))) Tryz.func55 Tryz.ntmps55 (vl (jc K) (vl (QnS K) (vl (QaL K) (vl (jL K) (vl (Qeb K) (vl (YN K) (vl (jA K) (vl (YV K) v0))))))))
def Qi1(K:Nat):FSp TD:=sg 54 (.cs dI (.cs (.ptr 0 0) .nl)) [(100,(.ptr 1 0)),(176,(dD 10))] [tI,(.st 10)] [(.st 6),(.st 10)] (fun p=>QaF.f K (p.1) (p.2)) (.cs (dD 6) .nl) [none,some (dD 10)] []
theorem Qi2(K:Nat):VOk Tryz.prog GD (Qi1 K):=vk K .n Tryz.func54 Tryz.ntmps54 (vl (Qjz K) v0)
def Qcj(K:Nat):FSp TD:=sg 53 (.cs (.ptr 0 0) (.cs dI (.cs dI (.cs (.fn 54 (.cs (.ptr 1 0) .nl)) .nl)))) [(176,(dD 10)),(100,(.ptr 0 0))] [tI,tI,(.st 10)] [(.sl (.st 6)),(.st 10)] (fun p=>J3.f K (p.1) (p.2.1) (p.2.2)) (.cs (.own (.st 6) 55 true) .nl) [some (dD 10),none] []
theorem Qck(K:Nat):VOk Tryz.prog GD (Qcj K):=vk K (.s .n (.j ⟨[], [(0,(dD 10))], [(.st 10)], [], [], []⟩ .n (.s .n (.s (.s .n (.l ⟨[(9,(.own (.st 6) 55 true)),(17,dI)], [(0,(dD 10))], [(.sl (.st 6)),tI,(.st 10)], [], [], []⟩ (some ⟨[(9,(.own (.st 6) 55 true))], [(0,(dD 10))], [(.sl (.st 6)),(.st 10)], [], [], []⟩) false .n)) .n)))) Tryz.func53 Tryz.ntmps53 (vl (YN K) (vl (YV K) (vl (Qi2 K) v0)))
def QgL(K:Nat):FSp TD:=sg 58 (.cs dI (.cs (.ptr 0 0) .nl)) [(100,(.ptr 1 0)),(176,(dD 10))] [tI,(.st 10)] [tH,(.st 10)] (fun p=>QaV.f K (p.1) (p.2)) (.cs dH .nl) [none,some (dD 10)] []
theorem QgM(K:Nat):VOk Tryz.prog GD (QgL K):=vk K .n Tryz.func58 Tryz.ntmps58 (vl (jL K) v0)
def Qcl(K:Nat):FSp TD:=sg 57 (.cs (.ptr 0 0) (.cs dI (.cs dI (.cs (.fn 58 (.cs (.ptr 1 0) .nl)) .nl)))) [(176,(dD 10)),(100,(.ptr 0 0))] [tI,tI,(.st 10)] [(.sl tH),(.st 10)] (fun p=>qM.f K (p.1) (p.2.1) (p.2.2)) (.cs (.own tH 37 true) .nl) [some (dD 10),none] []
theorem Qcm(K:Nat):VOk Tryz.prog GD (Qcl K):=vk K (.s .n (.j ⟨[], [(0,(dD 10))], [(.st 10)], [], [], []⟩ .n (.s .n (.s (.s .n (.l ⟨[(9,(.own tH 37 true)),(17,dI)], [(0,(dD 10))], [(.sl tH),tI,(.st 10)], [], [], []⟩ (some ⟨[(9,(.own tH 37 true))], [(0,(dD 10))], [(.sl tH),(.st 10)], [], [], []⟩) false .n)) .n)))) Tryz.func57 Tryz.ntmps57 (vl (YN K) (vl (YV K) (vl (QgM K) v0)))
def Qi3(K:Nat):FSp TD:=sg 56 (.cs dI (.cs (.ptr 0 0) .nl)) [(100,(.ptr 1 0)),(176,(dD 10))] [tI,(.st 10)] [(.st 6),(.st 10)] (fun p=>QaG.f K (p.1) (p.2)) (.cs (dD 6) .nl) [none,some (dD 10)] []
theorem Qi4(K:Nat):VOk Tryz.prog GD (Qi3 K):=vk K (.s .n (.s (.r (ob [2,20,54,16,36,42,66]) [] [1]) (.s (.r (ob [0,12,30,26,46,52,66]) [] [1]) .n))) Tryz.func56 Tryz.ntmps56 (vl (jc K) (vl (Qjz K) (vl (Qcm K) v0)))
def Qa1(K:Nat):FSp TD:=sg 53 (.cs (.ptr 0 0) (.cs dI (.cs dI (.cs (.fn 56 (.cs (.ptr 1 0) .nl)) .nl)))) [(176,(dD 10)),(100,(.ptr 0 0))] [tI,tI,(.st 10)] [(.sl (.st 6)),(.st 10)] (fun p=>JB.f K (p.1) (p.2.1) (p.2.2)) (.cs (.own (.st 6) 55 true) .nl) [some (dD 10),none] []
theorem Qa2(K:Nat):VOk Tryz.prog GD (Qa1 K):=vk K (.s .n (.j ⟨[], [(0,(dD 10))], [(.st 10)], [], [], []⟩ .n (.s .n (.s (.s .n (.l ⟨[(9,(.own (.st 6) 55 true)),(17,dI)], [(0,(dD 10))], [(.sl (.st 6)),tI,(.st 10)], [], [], []⟩ (some ⟨[(9,(.own (.st 6) 55 true))], [(0,(dD 10))], [(.sl (.st 6)),(.st 10)], [], [], []⟩) false .n)) .n)))) Tryz.func53 Tryz.ntmps53 (vl (YN K) (vl (YV K) (vl (Qi4 K) v0)))
def QeZ(K:Nat):FSp TD:=sg 59 (.cs (.ptr 0 0) .nl) [(176,(dD 10))] [(.st 10)] [tI] (fun p=>Jq.f K (p)) (.cs dI .nl) [none] []
theorem Qe0(K:Nat):VOk Tryz.prog GD (QeZ K):=vk K .n Tryz.func59 Tryz.ntmps59 (vl (YV K) v0)
def Qdc(K:Nat):FSp TD:=sd 15 [tB] [(.st 7),tI] (fun p=>XN.f K (p))
theorem Qgl(K:Nat):VOk Tryz.prog GD (Qdc K):=vk K (.s .n (.s .n (.s .n (.s .n (.s .n (.s .n (.j ⟨[], [(1000000006,(dD 10))], [(.st 10)], [], [], []⟩ .n (.s .n (.s (.r (ob [0,12,30,26,46,52,62,76]) [] [6]) (.j ⟨[], [(7,(.agg (.cs dF (.cs (.agg (.cs dI (.cs dH (.cs (.own (.st 1) 107 true) .nl)))) (.cs (.own (.st 6) 55 true) .nl))))),(1000000006,(dD 10))], [.bool,tI,tH,(.sl (.st 1)),(.sl (.st 6)),(.st 10)], [], [], []⟩ (.s .n (.s .n (.r (ob [0,12,30,40,50,60,26,76,82,96]) [] [6,7]))) .n)))))))))) Tryz.func15 Tryz.ntmps15 (vl (QfG K) (vl (QnQ K) (vl (QaL K) (vl (jc K) (vl (YN K) (vl (jL K) (vl (Qc9 K) (vl (Qck K) (vl (Qa2 K) (vl (Qe0 K) (vl (XZ K) v0)))))))))))
def QkI(K:Nat):FSp TD:=sg 178 (.cs dI (.cs (.ptr 0 0) (.cs (.ptr 1 0) (.cs (.ptr 2 0) .nl)))) [(5,(.dt (.int .u8))),(37,dH),(37,dH)] [tI,(.int .u8),tH,tH] [(.int .u8)] (fun p=>QbJ.f K (p.1) (p.2.1) (p.2.2.1) (p.2.2.2)) .nl [some (.dt (.int .u8)),none,none] []
theorem QkJ(K:Nat):VOk Tryz.prog GD (QkI K):=vk K (.r (ob [2,12,22,32,42,52,62,72,82,96]) [] []) Tryz.func178 Tryz.ntmps178 v0
def QnT(K:Nat):FSp TD:=sd 140 [tH,tH] [.bool] (fun p=>ZT.f K (p.1) (p.2))
theorem Qh9(K:Nat):VOk Tryz.prog GD (QnT K):=vk K (.s .n (.s .n (.s .n (.s (.s .n (.l ⟨[(9,dI)], [(5,(.dt (.int .u8)))], [tI,(.int .u8)], [], [], []⟩ (some ⟨[], [(5,(.dt (.int .u8)))], [(.int .u8)], [], [], [2,3]⟩) false .n)) .n)))) Tryz.func140 Tryz.ntmps140 (vl (QkJ K) v0)
def Qi5(K:Nat):FSp TD:=sd 80 [(.st 11),tH] [.bool] (fun p=>X7.f K (p.1) (p.2))
theorem QdW(K:Nat):VOk Tryz.prog GD (Qi5 K):=vk K .n Tryz.func80 Tryz.ntmps80 (vl (Qh9 K) v0)
def Qdd(K:Nat):FSp TD:=sd 19 [(.st 0),(.st 2)] [tI] (fun p=>Qbi.f K (p.1) (p.2))
theorem Qmp(K:Nat):VOk Tryz.prog GD (Qdd K):=vk K (.s .n (.s (.j ⟨[(17,dF)], [], [.bool], [], [], []⟩ .n .n) (.s .n (.s (.s .n (.l ⟨[(21,dI)], [(5,(.dt (.vec 4 .bool)))], [tI,(.vec 4 .bool)], [], [], []⟩ (some ⟨[], [], [], [], [], [5]⟩) true (.s .n (.s .n (.s (.s .n (.s (.j ⟨[(38,dF)], [], [.bool], [], [], []⟩ .n .n) .n)) .n))))) .n)))) Tryz.func19 Tryz.ntmps19 (vl (QdI K) (vl (Zr K) (vl (Qh2 K) (vl (QdW K) v0))))
def Qmq(K:Nat):FSp TD:=sd 127 [(.st 4)] [tH] (fun p=>yw.f K (p))
theorem Qgm(K:Nat):VOk Tryz.prog GD (Qmq K):=vk K .n Tryz.func127 Tryz.ntmps127 (vl (Qc1 K) (vl (QbX K) v0))
def Qa3(K:Nat):FSp TD:=sg 169 (.cs (.ptr 0 0) .nl) [(189,(.agg (.cs (.agg (.cs (.own tH 37 true) .nl)) (.cs dI .nl))))] [(.sl tH),tI] [tH,(.sl tH),tI] (fun p=>JD.f K (p.1) (p.2)) (.cs dH .nl) [some (.agg (.cs (.agg (.cs (.own tH 37 true) .nl)) (.cs dI .nl)))] []
theorem Qa4(K:Nat):VOk Tryz.prog GD (Qa3 K):=vk K (.s .n (.s (.r (ob [2,12,22,32,42,52,62,72,82,92,102,112,124,136]) [] []) (.s (.r (ob [0,12,22,32,42,52,62,72,82,92,102,116,122,132,146]) [] []) .n))) Tryz.func169 Tryz.ntmps169 v0
def Qas(K:Nat):FSp TD:=sg 170 (.cs (.ptr 0 0) (.cs dH .nl)) [(189,(.agg (.cs (.agg (.cs (.own tH 37 true) .nl)) (.cs dI .nl))))] [tH,(.sl tH),tI] [(.sl tH),tI] (fun p=>JU.f K (p.1) (p.2.1) (p.2.2)) .nl [some (.agg (.cs (.agg (.cs (.own tH 37 true) .nl)) (.cs dI .nl)))] []
theorem Qat(K:Nat):VOk Tryz.prog GD (Qas K):=vk K (.s .n (.r (ob [0,12,22,32,42,52,64,76,82,92,106]) [] [])) Tryz.func170 Tryz.ntmps170 v0
def QgN(K:Nat):FSp TD:=sg 126 (.cs (.ptr 0 0) (.cs dH .nl)) [(189,(.agg (.cs (.agg (.cs (.own tH 37 true) .nl)) (.cs dI .nl))))] [tH,(.sl tH),tI] [(.sl tH),tI] (fun p=>jG.f K (p.1) (p.2.1) (p.2.2)) .nl [some (.agg (.cs (.agg (.cs (.own tH 37 true) .nl)) (.cs dI .nl)))] []
theorem QgO(K:Nat):VOk Tryz.prog GD (QgN K):=vk K (.s .n (.s .n (.s (.s .n (.l ⟨[(4,dI)], [(0,(.agg (.cs (.agg (.cs (.own tH 37 true) .nl)) (.cs dI .nl)))),(3,dH)], [tI,(.sl tH),tI,tH], [], [], []⟩ (some ⟨[], [(0,(.agg (.cs (.agg (.cs (.own tH 37 true) .nl)) (.cs dI .nl)))),(3,dH)], [(.sl tH),tI,tH], [], [], []⟩) false (.s .n (.s (.r (ob [2,12,22,40,36,56,66]) [] [3]) .n)))) (.s (.r (ob [2,12,22,32,46]) [] []) .n)))) Tryz.func126 Tryz.ntmps126 (vl (Qa4 K) (vl (QbY K) (vl (Qat K) v0)))
def QfJ(K:Nat):FSp TD:=sg 171 (.cs (.ptr 0 0) .nl) [(189,(.agg (.cs (.agg (.cs (.own tH 37 true) .nl)) (.cs dI .nl))))] [(.sl tH),tI] [tI,(.sl tH),tI] (fun p=>Xp.f K (p.1) (p.2)) (.cs dI .nl) [some (.agg (.cs (.agg (.cs (.own tH 37 true) .nl)) (.cs dI .nl)))] []
theorem QfK(K:Nat):VOk Tryz.prog GD (QfJ K):=vk K .n Tryz.func171 Tryz.ntmps171 v0
def Qau(K:Nat):FSp TD:=sg 172 (.cs (.ptr 0 0) .nl) [(189,(.agg (.cs (.agg (.cs (.own tH 37 true) .nl)) (.cs dI .nl))))] [(.sl tH),tI] [(.sl tH),tI] (fun p=>JV.f K (p.1) (p.2)) (.cs (.fn 197 (.cs (.ptr 1 0) .nl)) .nl) [some (.agg (.cs (.agg (.cs (.own tH 37 true) .nl)) (.cs dI .nl)))] [(264,(.ptr 0 0))]
theorem Qav(K:Nat):VOk Tryz.prog GD (Qau K):=vk K .n Tryz.func172 Tryz.ntmps172 v0
def QfL(K:Nat):FSp TD:=sg 128 (.cs (.ptr 0 0) .nl) [(189,(.agg (.cs (.agg (.cs (.own tH 37 true) .nl)) (.cs dI .nl))))] [(.sl tH),tI] [tH,(.sl tH),tI] (fun p=>qV.f K (p.1) (p.2)) (.cs dH .nl) [some (.agg (.cs (.agg (.cs (.own tH 37 true) .nl)) (.cs dI .nl)))] []
theorem QfM(K:Nat):VOk Tryz.prog GD (QfL K):=vk K (.s .n (.s .n (.s .n (.s .n (.s (.s .n (.g (.s .n (.l ⟨[(3,dI)], [(1000000000003,dH),(1000000000004,dF)], [tI,tH,.bool], [], [], []⟩ (some ⟨[], [(1000000000003,dH),(1000000000004,dF)], [tH,.bool], [], [], []⟩) false (.s .n (.j ⟨[], [(1000000000003,dH),(1000000000004,dF)], [tH,.bool], [], [], []⟩ .n .n)))) .n .n)) .n))))) Tryz.func128 Tryz.ntmps128 (vl (QfK K) (vl (Za K) (vl (Qav K) (vl (QbY K) v0))))
def Qmr(K:Nat):FSp TD:=sd 21 [(.st 0),(.st 4)] [.bool] (fun p=>QdC.f K (p.1) (p.2))
theorem Qms(K:Nat):VOk Tryz.prog GD (Qmr K):=vk K (.s .n (.s .n (.j ⟨[(4,dF)], [], [.bool], [], [], [2,3]⟩ .n .n))) Tryz.func21 Tryz.ntmps21 (vl (QdV K) (vl (jA K) (vl (Qc0 K) (vl (QdW K) v0))))
def Qb0(K:Nat):FSp TD:=sp 129 (.cs (dD 12) (.cs (dD 4) .nl)) [] [(.st 12),(.st 4)] [] (120,true) (fun p=>Js.fs K (p.1) (p.2)) [] .nl [] []
theorem Xw(K:Nat):VOk Tryz.prog GD (Qb0 K):=vkP K .n Tryz.func129 Tryz.ntmps129 (vl (Qms K) (vl (Xc K) v0)) rfl
def QkK(K:Nat):FSp TD:=sd 198 [tI,tI,tI] [.bool] (fun p=>jq.f K (p.1) (p.2.1) (p.2.2))
theorem Zt(K:Nat):VOk Tryz.prog GD (QkK K):=vk K .n Tryz.func198 Tryz.ntmps198 v0
def Qqm(K:Nat):FSp TD:=sd 173 [(.sl (.st 3))] [.bool] (fun p=>yQ.f K (p))
theorem QfN(K:Nat):VOk Tryz.prog GD (Qqm K):=vk K (.s .n (.s .n (.s .n (.s (.s .n (.l ⟨[(3,dI),(12,dI)], [], [tI,tI], [], [], []⟩ (some ⟨[], [], [], [], [], []⟩) true (.s .n (.s .n (.j ⟨[(3,dI)], [], [tI], [], [], []⟩ (.s .n (.s (.j ⟨[(26,dF)], [], [.bool], [], [], []⟩ .n .n) .n)) .n))))) .n)))) Tryz.func173 Tryz.ntmps173 (vl (Zt K) v0)
def Qqn(K:Nat):FSp TD:=sd 174 [(.sl (.st 3))] [(.st 15)] (fun p=>Xq.f K (p))
theorem QjA(K:Nat):VOk Tryz.prog GD (Qqn K):=vk K .n Tryz.func174 Tryz.ntmps174 (vl (QfN K) (vl (JJ K) v0))
def Qmt(K:Nat):FSp TD:=sd 179 [(.st 16),(.st 4),tI] [(.st 16),.bool] (fun p=>QdD.f K (p.1) (p.2.1) (p.2.2))
theorem Qmu(K:Nat):VOk Tryz.prog GD (Qmt K):=vk K (.s .n (.s (.j ⟨[(25,dF)], [], [.bool], [], [], []⟩ .n .n) (.s (.r (ob [2,12,30,40,26,56,66,76,82,96]) [] [4]) .n))) Tryz.func179 Tryz.ntmps179 (vl (QfN K) (vl (qL K) (vl (QjA K) v0)))
def QnU(K:Nat):FSp TD:=sd 199 [(.st 15)] [.bool] (fun p=>QcP.f K (p))
theorem Qia(K:Nat):VOk Tryz.prog GD (QnU K):=vk K .n Tryz.func199 Tryz.ntmps199 (vl (Zt K) v0)
def QnV(K:Nat):FSp TD:=sg 211 (.cs (.dt (.sl (.st 3))) .nl) [] [(.sl (.st 3))] [(.sl (.st 3))] (fun p=>QeD.f K (p)) (.cs (.fn 212 (.cs (.ptr 0 0) .nl)) .nl) [] [(50,(.dt (.sl (.st 3))))]
theorem QnW(K:Nat):VOk Tryz.prog GD (QnV K):=vk K .n Tryz.func211 Tryz.ntmps211 v0
def QkL(K:Nat):FSp TD:=sd 209 [(.st 15)] [tI] (fun p=>yT.f K (p))
theorem QkM(K:Nat):VOk Tryz.prog GD (QkL K):=vk K (.s .n (.s .n (.s (.s .n (.g (.s .n (.l ⟨[(3,dI)], [], [tI], [], [], []⟩ (some ⟨[], [], [], [], [], []⟩) true .n)) .n (.j ⟨[(28,dF)], [], [.bool], [], [], []⟩ .n .n))) .n))) Tryz.func209 Tryz.ntmps209 (vl (QnW K) v0)
def QnX(K:Nat):FSp TD:=sd 203 [(.st 15)] [tI] (fun p=>ql.f K (p))
theorem Qb1(K:Nat):VOk Tryz.prog GD (QnX K):=vk K .n Tryz.func203 Tryz.ntmps203 (vl (QkM K) v0)
def Qqo(K:Nat):FSp TD:=sd 200 [(.st 15),tI] [(.st 4),.bool] (fun p=>QeE.f K (p.1) (p.2))
theorem Qqp(K:Nat):VOk Tryz.prog GD (Qqo K):=vk K (.s .n (.s (.j ⟨[(23,dF)], [], [.bool], [], [], []⟩ .n .n) (.s .n (.s (.j ⟨[(27,dF)], [], [.bool], [], [], []⟩ .n .n) .n)))) Tryz.func200 Tryz.ntmps200 (vl (Qia K) (vl (Zt K) (vl (Qb1 K) v0)))
def QnY(K:Nat):FSp TD:=sd 201 [(.st 15),(.st 15),.bool] [(.st 15),.bool] (fun p=>ZU.f K (p.1) (p.2.1) (p.2.2))
theorem QnZ(K:Nat):VOk Tryz.prog GD (QnY K):=vk K .n Tryz.func201 Tryz.ntmps201 v0
def QsB(K:Nat):FSp TD:=sd 202 [(.st 4)] [(.st 17)] (fun p=>Qd4.f K (p))
theorem QsC(K:Nat):VOk Tryz.prog GD (QsB K):=vk K .n Tryz.func202 Tryz.ntmps202 v0
def Qn0(K:Nat):FSp TD:=sd 210 [(.st 15)] [(.st 15)] (fun p=>QhE.f K (p))
theorem Qib(K:Nat):VOk Tryz.prog GD (Qn0 K):=vk K .n Tryz.func210 Tryz.ntmps210 v0
def Qic(K:Nat):FSp TD:=sd 204 [(.st 15),(.st 4)] [(.st 15)] (fun p=>Zn.f K (p.1) (p.2))
theorem Qid(K:Nat):VOk Tryz.prog GD (Qic K):=vk K (.s .n (.s .n (.s .n (.j ⟨[], [(2,(dD 15))], [(.st 15)], [], [], [3]⟩ (.j ⟨[(11,dF)], [], [.bool], [], [], []⟩ .n .n) .n)))) Tryz.func204 Tryz.ntmps204 (vl (Qb1 K) (vl (Qib K) v0))
def QkN(K:Nat):FSp TD:=sd 205 [(.st 15),tI] [(.st 15)] (fun p=>QbK.f K (p.1) (p.2))
theorem QkO(K:Nat):VOk Tryz.prog GD (QkN K):=vk K (.s .n (.s .n (.s (.s .n (.s (.s (.r (ob [2,12,22,32,42,52,66]) [] []) (.j ⟨[(29,dF)], [], [.bool], [], [], []⟩ .n .n)) .n)) .n))) Tryz.func205 Tryz.ntmps205 (vl (Qb1 K) (vl (Qib K) v0))
def QsD(K:Nat):FSp TD:=sd 175 [(.st 15),(.st 4),tI] [(.st 15),.bool] (fun p=>QaW.f K (p.1) (p.2.1) (p.2.2))
theorem Qmv(K:Nat):VOk Tryz.prog GD (QsD K):=vk K (.s .n (.s (.j ⟨[(30,dF)], [], [.bool], [], [], []⟩ .n .n) (.s .n (.s .n (.s .n (.s (.s .n (.j ⟨[], [], [], [], [], [9]⟩ (.s (.s (.s (.s (.s .n (.s .n (.j ⟨[(49,dF)], [], [.bool], [], [], [9]⟩ .n .n))) .n) (.s (.s (.r (ob [0,10,20,30,42,56,62,76,82,96]) [] [4]) (.s (.r (ob [0,10,22,33,42,60,56,76,82,92,106,112,122,136,142]) [] [3,4,8]) .n)) .n)) (.s (.s .n (.s (.r (ob [0,10,22,33,42,60,56,76,82,92,106,112,122,136,142]) [] [3,4,8]) .n)) .n)) (.s (.j ⟨[(111,dF)], [], [.bool], [], [], []⟩ (.r (ob [2,12,22,33,40,50,62,76,82,92,103,112,122,132,142,152,162,173,182,192,202,212,222,232]) [] [4]) .n) .n)) .n)) .n)))))) Tryz.func175 Tryz.ntmps175 (vl (Qia K) (vl (Zt K) (vl (Qqp K) (vl (QnZ K) (vl (QsC K) (vl (Qb1 K) (vl (Qid K) (vl (QkO K) v0))))))))
def Qn1(K:Nat):FSp TD:=sd 180 [(.st 16),(.st 4),tI] [(.st 16),.bool] (fun p=>ZV.f K (p.1) (p.2.1) (p.2.2))
theorem Qie(K:Nat):VOk Tryz.prog GD (Qn1 K):=vk K (.s .n (.s .n (.s (.r (ob [2,12,22,32,42,52,62,72,124,86,92,102,110,136,142]) [] []) .n))) Tryz.func180 Tryz.ntmps180 (vl (Qmv K) (vl (qL K) v0))
def Qi6(K:Nat):FSp TD:=sd 181 [(.st 16),(.st 4),tI] [(.st 16),.bool] (fun p=>QaH.f K (p.1) (p.2.1) (p.2.2))
theorem Qi7(K:Nat):VOk Tryz.prog GD (Qi6 K):=vk K (.s .n (.s (.j ⟨[(53,dF)], [], [.bool], [], [], []⟩ (.r (ob [2,12,22,32,42,52,63,72,82,92,102,112,122,132,142,152,162,172,182,193,202,212,222,232,242,252,262,272,282,292,302,312,322,332,342,352,363,372,382,392,402,412,422,432,442,452]) [] []) .n) .n)) Tryz.func181 Tryz.ntmps181 (vl (Qie K) v0)
def QkP(K:Nat):FSp TD:=sd 182 [(.st 16),(.st 4),tI] [(.st 16),.bool] (fun p=>QbL.f K (p.1) (p.2.1) (p.2.2))
theorem QkQ(K:Nat):VOk Tryz.prog GD (QkP K):=vk K (.s .n (.s (.s (.r (ob [2,12,22,32,42,52,62,72,82]) [] []) .n) .n)) Tryz.func182 Tryz.ntmps182 v0
def QsE(K:Nat):FSp TD:=sd 82 [(.st 16),(.st 4),tI] [(.st 16),.bool] (fun p=>Qd5.f K (p.1) (p.2.1) (p.2.2))
theorem QsF(K:Nat):VOk Tryz.prog GD (QsE K):=vkM K (.s .n (.s (.j ⟨[(18,dF)], [], [.bool], [], [], []⟩ .n .n) (.s (.r (ob [10,20,50,60,70,6,32,42,86,92,102,116,122]) [] [3,4]) .n))) Tryz.func82 Tryz.ntmps82 (vl (jA K) (vl (Qmu K) (vl (Qie K) (vl (Qi7 K) (vl (QkQ K) v0))))) Qgg (Qxd Qy3 Qgh)
def Qi8(K:Nat):FSp TD:=sd 90 [(.st 15)] [tI] (fun p=>jS.f K (p))
theorem QdX(K:Nat):VOk Tryz.prog GD (Qi8 K):=vk K .n Tryz.func90 Tryz.ntmps90 v0
def QkR(K:Nat):FSp TD:=sg 26 (.cs (dD 16) .nl) [] [(.st 16)] [(.sl (.st 8))] (fun p=>XO.f K (p)) (.cs (.own (.st 8) 29 true) .nl) [] []
theorem QkS(K:Nat):VOk Tryz.prog GD (QkR K):=vk K (.s .n (.s .n (.s (.s .n (.l ⟨[(3,(.own (.st 8) 29 true)),(9,dI)], [], [(.sl (.st 8)),tI], [], [], [1]⟩ (some ⟨[(3,(.own (.st 8) 29 true))], [], [(.sl (.st 8))], [], [], [1]⟩) false (.s .n (.s .n (.s (.s .n (.r (ob [0,10,20,32,46,52,64,76,82]) [] [5])) .n))))) .n))) Tryz.func26 Tryz.ntmps26 (vl (QdX K) v0)
def yf(K:Nat):FSp TD:=sp 67 (.cs (dD 12) (.cs (dD 7) .nl)) [] [(.st 12),(.st 7)] [tI,(.sl tI),(.sl (.st 8))] (120,true) (fun p=>Y3.fs K (p.1) (p.2)) [] (.cs (.agg (.cs dI (.cs (.own tI 3 true) (.cs (.own (.st 8) 29 true) .nl)))) .nl) [] []
theorem Qde(K:Nat):VOk Tryz.prog GD (yf K):=vkP K (.s .n (.s .n (.s (.s .n (.l ⟨[(17,dI)], [(5,(.agg (.cs (.agg (.cs (.own tH 37 true) .nl)) (.cs dI .nl))))], [tI,(.sl tH),tI], [], [], []⟩ (some ⟨[], [(5,(.agg (.cs (.agg (.cs (.own tH 37 true) .nl)) (.cs dI .nl))))], [(.sl tH),tI], [], [], []⟩) false .n)) (.s (.q (ob [10,20,30,6,42]) [] [3]) (.s .n (.s (.s .n (.l ⟨[(35,dI)], [(8,(dD 16))], [tI,(.st 16)], [], [], [3,5]⟩ (some ⟨[], [(8,(dD 16))], [(.st 16)], [], [], [2,3,5]⟩) true .n)) (.s .n (.s (.s .n (.l ⟨[(61,dI)], [(12,(.agg (.cs dI (.cs (.own tI 3 true) (.cs (.own (.st 8) 29 true) .nl)))))], [tI,tI,(.sl tI),(.sl (.st 8))], [], [], [8]⟩ (some ⟨[], [(12,(.agg (.cs dI (.cs (.own tI 3 true) (.cs (.own (.st 8) 29 true) .nl)))))], [tI,(.sl tI),(.sl (.st 8))], [], [], [8]⟩) false .n)) .n)))))))) Tryz.func67 Tryz.ntmps67 (vl (Qgm K) (vl (QgO K) (vl (QfM K) (vl (Xc K) (vl (Xw K) (vl (QsF K) (vl (QkS K) v0))))))) rfl
def Qif(K:Nat):FSp TD:=sp 194 (.cs (.ptr 0 0) (.cs (.ptr 1 0) .nl)) [(3,dI),(33,(.dt (.sl tH)))] [tI,(.sl tH)] [tH,tI] (259,false) (fun p=>Zo.fs K (p.1) (p.2)) [true,true] (.cs dH .nl) [some dI,none] []
theorem Qig(K:Nat):VOk Tryz.prog GD (Qif K):=vkP K .n Tryz.func194 Tryz.ntmps194 v0 rfl
def Qbp(K k:Nat):FSp TD:=sp 150 (.cs dI (.cs dI (.cs (.ptr 0 0) (.cs (.ptr 1 0) (.cs (.ptr 2 0) .nl))))) [(37,dH),(104,(.fn 194 (.cs (.ptr 3 0) (.cs (.ptr 4 0) .nl)))),(218,(.fn 150 (.cs (.ptr 0 0) (.cs (.ptr 1 0) (.cs (.ptr 2 0) .nl))))),(3,dI),(33,(.dt (.sl tH)))] [tI,tI,tH,tI,(.sl tH)] [tH,tI] (259,false) (fun p=>Q9.r K k (p.1) (p.2.1) (p.2.2.1) (p.2.2.2.1) (p.2.2.2.2)) [true,true,true,false,true] (.cs dH .nl) [none,none,none,some dI,none] []
theorem QfO(K:Nat):∀k,VOk Tryz.prog GD (Qbp K k):=by
 intro k
 induction k with
 |zero=>exact Qxe Tryz.func150 rfl (by kernel_rfl) (fun _=>rfl) (fun _=>rfl)
 |succ k ih=>
  exact vkP K (.s .n (.s .n (.s (.r (ob [2,20,44,16,36,52,66]) [] [3]) (.s (.s .n (.s (.s (.r (ob [2,12,22,40,36,56,66]) [] [9]) .n) .n)) (.s (.r (ob [0,12,22,32,42,52,62,72,86,96,106]) [] [9]) .n))))) Tryz.func150 Tryz.ntmps150 (vl (QaK K) (vl (Qig K) (vl (QbY K) (vl ih v0)))) rfl
def QfP(K:Nat):FSp TD:=Qbp K K
theorem QfQ(K:Nat):VOk Tryz.prog GD (QfP K):=QfO K K
def Qac(K:Nat):FSp TD:=sp 149 (.cs (.fn 194 (.cs (.ptr 0 0) (.cs (.ptr 1 0) .nl))) (.cs (.ptr 2 0) (.cs (.ptr 3 0) (.cs (.ptr 4 0) (.cs (.ptr 5 0) .nl))))) [(3,dI),(33,(.dt (.sl tH))),(37,dH),(3,dI),(3,dI),(37,dH)] [tI,(.sl tH),tH,tI,tI,tH] [tI,tH] (259,false) (fun p=>Zp.fs K (p.1) (p.2.1) (p.2.2.1) (p.2.2.2.1) (p.2.2.2.2.1) (p.2.2.2.2.2)) [false,true,true,true,true,true] .nl [some dI,none,none,none,none,some dH] []
theorem Qih(K:Nat):VOk Tryz.prog GD (Qac K):=vkP K .n Tryz.func149 Tryz.ntmps149 (vl (QfQ K) v0) rfl
def Qb2(K:Nat):FSp TD:=sg 148 (.cs (.dt (.sl tH)) (.cs (.fn 149 (.cs (.ptr 0 0) (.cs (.ptr 1 0) (.cs (.ptr 2 0) (.cs (.ptr 3 0) .nl))))) .nl)) [(37,dH),(3,dI),(3,dI),(37,dH)] [(.sl tH),tH,tI,tI,tH] [.bool,tH] (fun p=>ZW.f K (p.1) (p.2.1) (p.2.2.1) (p.2.2.2.1) (p.2.2.2.2)) (.cs dF .nl) [none,none,none,some dH] []
theorem QkT(K:Nat):VOk Tryz.prog GD (Qb2 K):=Qsr tbok (n:=14) Tryz.func148 rfl Tryz.ntmps148 (by kernel_rfl) (sps:= [Qac K]) (rvs:= []) (mps:= []) (jX (Qih K) Qo0) Qgg Qgh (by kernel_rfl:(fun p=>(Qb2 K).fn p)=funR (T:=TD) (cx Tryz.prog GD [Qac K] K 14 [] []) (Qb2 K) Tryz.f148 .n .n .n)
def QkU(K:Nat):FSp TD:=sd 94 [tH,tI,tI,(.sl tH)] [tH,.bool] (fun p=>jT.f K (p.1) (p.2.1) (p.2.2.1) (p.2.2.2))
theorem Qe1(K:Nat):VOk Tryz.prog GD (QkU K):=vk K (.s .n (.s (.j ⟨[(22,dF)], [], [.bool], [], [], []⟩ .n .n) .n)) Tryz.func94 Tryz.ntmps94 (vl (QkT K) v0)
def Qqq(K:Nat):FSp TD:=sd 130 [tH,tI,tI,(.sl tH),tH] [.bool] (fun p=>QbM.f K (p.1) (p.2.1) (p.2.2.1) (p.2.2.2.1) (p.2.2.2.2))
theorem Qqr(K:Nat):VOk Tryz.prog GD (Qqq K):=vk K .n Tryz.func130 Tryz.ntmps130 (vl (Qe1 K) (vl (Qh9 K) v0))
def Qe2(K:Nat):FSp TD:=sp 131 (.cs (.ptr 0 0) (.cs (dD 4) .nl)) [(195,(.agg (.cs (.dt (.vec 12 .bool)) (.cs (.own tI 3 true) (.cs (.dt (.vec 12 (.st 15))) .nl)))))] [(.st 4),(.vec 12 .bool),(.sl tI),(.vec 12 (.st 15))] [(.vec 12 .bool),(.sl tI),(.vec 12 (.st 15))] (120,true) (fun p=>qw.fs K (p.1) (p.2.1) (p.2.2.1) (p.2.2.2)) [false] .nl [some (.agg (.cs (.dt (.vec 12 .bool)) (.cs (.own tI 3 true) (.cs (.dt (.vec 12 (.st 15))) .nl))))] []
theorem Qe3(K:Nat):VOk Tryz.prog GD (Qe2 K):=vkP K (.s .n (.j ⟨[], [], [], [], [], []⟩ (.q (ob [2,12,22,32,42,52,62,72,83,92,102,116,122]) [] []) (.s (.r (ob [0,10,20,32,42,60,70,56,82,96]) [] [3]) (.r (ob [0,12,22,32,42,52,62,74,86,92,102,116]) [] [])))) Tryz.func131 Tryz.ntmps131 (vl (Xc K) (vl (QfN K) (vl (QjA K) v0))) rfl
def QfR(K:Nat):FSp TD:=sp 132 (.cs (.ptr 0 0) (.cs (dD 4) (.cs dI .nl))) [(195,(.agg (.cs (.dt (.vec 12 .bool)) (.cs (.own tI 3 true) (.cs (.dt (.vec 12 (.st 15))) .nl)))))] [(.st 4),tI,(.vec 12 .bool),(.sl tI),(.vec 12 (.st 15))] [(.vec 12 .bool),(.sl tI),(.vec 12 (.st 15))] (120,true) (fun p=>qW.fs K (p.1) (p.2.1) (p.2.2.1) (p.2.2.2.1) (p.2.2.2.2)) [false] .nl [some (.agg (.cs (.dt (.vec 12 .bool)) (.cs (.own tI 3 true) (.cs (.dt (.vec 12 (.st 15))) .nl))))] []
theorem QfS(K:Nat):VOk Tryz.prog GD (QfR K):=vkP K (.s .n (.s (.r (ob [2,12,22,32,42,52,62,74,86]) [] []) (.s .n (.s .n (.j ⟨[], [], [], [], [], [6]⟩ (.q (ob [2,13,22,32,42,53,62,72,82,92,102,112,122,132,142,152,162,172]) [] []) (.r (ob [2,12,22,32,42,52,62,76]) [] [])))))) Tryz.func132 Tryz.ntmps132 (vl (Qmv K) (vl (Xc K) v0)) rfl
def yJ(K:Nat):FSp TD:=sp 68 (.cs (dD 12) (.cs (dD 7) .nl)) [] [(.st 12),(.st 7)] [tI,(.sl tI),(.sl (.st 8))] (120,true) (fun p=>Y9.fs K (p.1) (p.2)) [] (.cs (.agg (.cs dI (.cs (.own tI 3 true) (.cs (.own (.st 8) 29 true) .nl)))) .nl) [] []
theorem QdS(K:Nat):VOk Tryz.prog GD (yJ K):=vkP K (.s .n (.s .n (.s (.s .n (.l ⟨[(15,dI)], [(5,(.agg (.cs (.dt (.vec 12 .bool)) (.cs (.own tI 3 true) (.cs (.dt (.vec 12 (.st 15))) .nl)))))], [tI,(.vec 12 .bool),(.sl tI),(.vec 12 (.st 15))], [], [], []⟩ (some ⟨[], [(5,(.agg (.cs (.dt (.vec 12 .bool)) (.cs (.own tI 3 true) (.cs (.dt (.vec 12 (.st 15))) .nl)))))], [(.vec 12 .bool),(.sl tI),(.vec 12 (.st 15))], [], [], [2,3]⟩) true (.s .n (.s .n (.j ⟨[], [(5,(.agg (.cs (.dt (.vec 12 .bool)) (.cs (.own tI 3 true) (.cs (.dt (.vec 12 (.st 15))) .nl)))))], [(.vec 12 .bool),(.sl tI),(.vec 12 (.st 15))], [], [], []⟩ (.s .n (.s .n (.s (.q (ob [2,20,30,40,50,60,70,80,90,100,110,16,126]) [] [3,7]) (.s .n (.j ⟨[], [(5,(.agg (.cs (.dt (.vec 12 .bool)) (.cs (.own tI 3 true) (.cs (.dt (.vec 12 (.st 15))) .nl)))))], [(.vec 12 .bool),(.sl tI),(.vec 12 (.st 15))], [], [], [7]⟩ .n .n))))) .n))))) (.s .n (.s (.s .n (.l ⟨[(58,dI)], [(9,(.agg (.cs dI (.cs (.own tI 3 true) (.cs (.own (.st 8) 29 true) .nl)))))], [tI,tI,(.sl tI),(.sl (.st 8))], [56], [], []⟩ (some ⟨[], [(9,(.agg (.cs dI (.cs (.own tI 3 true) (.cs (.own (.st 8) 29 true) .nl)))))], [tI,(.sl tI),(.sl (.st 8))], [], [], [5,56]⟩) false (.s .n (.s .n (.s (.s .n (.s .n (.r (ob [0,10,20,30,40,50,60,72,82,92,102,116,122,134,146,152,166]) [] [5,9]))) .n))))) .n))))) Tryz.func68 Tryz.ntmps68 (vl (Qgm K) (vl (Qqr K) (vl (Xc K) (vl (Xw K) (vl (Qe3 K) (vl (QfS K) (vl (QdX K) v0))))))) rfl
def Xx(K:Nat):FSp TD:=sg 17 (.cs (dD 0) (.cs dI (.cs (dD 2) (.cs dB .nl)))) [] [(.st 0),tI,(.st 2),tB] [tI,(.sl tI),(.sl (.st 8))] (fun p=>jr.f K (p.1) (p.2.1) (p.2.2.1) (p.2.2.2)) (.cs (.agg (.cs dI (.cs (.own tI 3 true) (.cs (.own (.st 8) 29 true) .nl)))) .nl) [] []
theorem Qe4(K:Nat):VOk Tryz.prog GD (Xx K):=Qsr tbok (n:=67) Tryz.func17 rfl Tryz.ntmps17 (by kernel_rfl) (sps:= [Qfx K,Qc7 K,Qdc K,Qdd K,yf K,yJ K]) (rvs:= []) (mps:= []) (jX (QdI K) (jX (Xc K) (jX (Qgl K) (jX (Qmp K) (jX (Qde K) (jX (QdS K) Qo0)))))) Qgg Qgh (by kernel_rfl:(fun p=>(Xx K).fn p)=funR (T:=TD) (cx Tryz.prog GD [Qfx K,Qc7 K,Qdc K,Qdd K,yf K,yJ K] K 67 [] []) (Xx K) Tryz.f17 .n (.j ⟨[], [], [], [], [], []⟩ .n (.s .n (.s .n (.s .n (.s .n (.j ⟨[], [], [], [], [], [6]⟩ .n .n)))))) .n)
def Qcn(K:Nat):FSp TD:=sd 40 [(.sl tI),(.sl tI)] [.bool] (fun p=>Zj.f K (p.1) (p.2))
theorem Qco(K:Nat):VOk Tryz.prog GD (Qcn K):=vk K (.s .n (.s .n (.s (.s .n (.l ⟨[(13,dI)], [], [tI], [], [], []⟩ (some ⟨[], [], [], [], [], []⟩) true (.s .n (.s .n (.s (.s .n (.s (.r (ob [2,12,22,32,42,52,62,72,82]) [] []) .n)) .n))))) .n))) Tryz.func40 Tryz.ntmps40 v0
def XD(K:Nat):FSp TD:=sd 41 [(.sl (.st 8)),(.sl (.st 8))] [.bool] (fun p=>je.f K (p.1) (p.2))
theorem XF(K:Nat):VOk Tryz.prog GD (XD K):=vk K (.s .n (.s .n (.s (.s .n (.l ⟨[(13,dI)], [], [tI], [], [], []⟩ (some ⟨[], [], [], [], [], []⟩) true (.s .n (.s .n (.s (.s .n (.s (.r (ob [2,12,22,32,42,52,62,72,82]) [] []) .n)) .n))))) .n))) Tryz.func41 Tryz.ntmps41 v0
def Qdf(K:Nat):FSp TD:=sd 11 [(.st 9),(.st 9)] [.bool] (fun p=>Qjn.f K (p.1) (p.2))
theorem Qmw(K:Nat):VOk Tryz.prog GD (Qdf K):=vk K .n Tryz.func11 Tryz.ntmps11 (vl (Qco K) (vl (XF K) v0))
def Qcp(K:Nat):FSp TD:=sd 44 [(.sl tI),tI] [tI] (fun p=>yB.f K (p.1) (p.2))
theorem Qcq(K:Nat):VOk Tryz.prog GD (Qcp K):=vk K (.s .n (.s (.s .n (.l ⟨[(8,dI)], [], [tI], [], [], []⟩ (some ⟨[], [], [], [], [], []⟩) true .n)) .n)) Tryz.func44 Tryz.ntmps44 v0
def Qdg(K:Nat):FSp TD:=sd 13 [(.st 9),tI] [.bool] (fun p=>Zz.f K (p.1) (p.2))
theorem Qgn(K:Nat):VOk Tryz.prog GD (Qdg K):=vk K (.s .n (.s .n (.j ⟨[(4,dF)], [], [.bool], [], [], [2]⟩ .n .n))) Tryz.func13 Tryz.ntmps13 (vl (Qcq K) v0)
def jB(K:Nat):FSp TD:=sd 10 [] [.bool] (fun p=>jU.f K)
theorem Qb3(K:Nat):VOk Tryz.prog GD (jB K):=Qxl tbok (n:=127) Tryz.func10 rfl Tryz.ntmps10 (by kernel_rfl) (sps:= [jY K,QaY K,jb K,Qa0 K,QbZ K,Qc6 K,Xx K,Qdf K,Qdg K]) (rvs:= []) (mps:= []) (jX (QcZ K) (jX (QdV K) (jX (Qbo K) (jX (QiW K) (jX (QkE K) (jX (Qmo K) (jX (Qe4 K) (jX (Qmw K) (jX (Qgn K) Qo0))))))))) Qgg Qgh (by kernel_rfl:(fun p=>(jB K).fn p)=funC (T:=TD) (cx Tryz.prog GD [jY K,QaY K,jb K,Qa0 K,QbZ K,Qc6 K,Xx K,Qdf K,Qdg K] K 127 [] []) (jB K) Tryz.f10 [.one .n,.one .n,.one .n,.one (.r [(0,0,false),(1,1,false),(2,1,false),(3,1,false),(4,1,false),(5,3,false),(6,1,false),(7,1,false),(8,3,false)] [] []),.beg,.one .n,.fin [1,2,3],.beg,.one .n,.one .n,.one (.r [(0,0,false),(1,0,false),(2,1,false),(5,0,false),(6,0,false),(7,0,false),(10,2,false),(11,2,false),(3,3,false),(4,3,false),(8,3,false),(9,3,false),(12,3,false),(13,3,false)] [] [1,3,6]),.fin [1,2,3,8,9]] (.s (.r [(0,1,false),(1,1,false),(2,1,false),(3,1,false),(4,1,false),(5,1,false),(6,1,false),(7,1,false),(8,1,false),(9,3,false)] [] []) (.s .n (.s .n (.s (.r [(0,0,false),(1,0,false),(2,1,false),(5,2,false),(3,3,false),(4,3,false),(6,3,false)] [] [1,10]) (.s (.r [(0,0,false),(1,0,false),(2,1,false),(5,2,false),(3,3,false),(4,3,false),(6,3,false)] [] [1,3]) (.j ⟨[(0,(.dt .bool))], [], [.bool], [8,9], [], [1,2,3,8,9,10,11,13,14]⟩ .n .n)))))))
def Qb4(K:Nat):FSp TD:=sd 14 [(.st 0),tB] [.bool] (fun p=>JP.f K (p.1) (p.2))
theorem Qb5(K:Nat):VOk Tryz.prog GD (Qb4 K):=vk K .n Tryz.func14 Tryz.ntmps14 v0
def Qcr(K:Nat):FSp TD:=sd 20 [(.st 7)] [(.sl (.st 4))] (fun p=>J4.f K (p))
theorem Qcs(K:Nat):VOk Tryz.prog GD (Qcr K):=vk K (.s .n (.s .n (.s (.s .n (.l ⟨[(3,(.own (.st 4) 52 true)),(4,dI)], [], [(.sl (.st 4)),tI], [], [], []⟩ (some ⟨[(3,(.own (.st 4) 52 true))], [], [(.sl (.st 4))], [], [], [1]⟩) false .n)) .n))) Tryz.func20 Tryz.ntmps20 v0
def Qct(K:Nat):FSp TD:=sg 27 (.cs (.dt (.sl tH)) (.cs dI .nl)) [] [(.sl tH),tI] [(.sl tH),.bool] (fun p=>yC.f K (p.1) (p.2)) (.cs (.own tH 37 true) (.cs dF .nl)) [] []
theorem Qcu(K:Nat):VOk Tryz.prog GD (Qct K):=vk K .n Tryz.func27 Tryz.ntmps27 (vl (Qc3 K) v0)
def Qmx(K:Nat):FSp TD:=sg 152 (.cs dH (.cs dH .nl)) [] [tH,tH] [tB] (fun p=>Qbj.f K (p.1) (p.2)) (.cs (.own (.int .u8) 5 true) .nl) [] []
theorem Qmy(K:Nat):VOk Tryz.prog GD (Qmx K):=vk K (.s .n (.s (.r (ob [4,12,22,36,46,52]) [2,3] []) .n)) Tryz.func152 Tryz.ntmps152 (vl (Jn K) v0)
def QkV(K:Nat):FSp TD:=sg 95 (.cs dB (.cs dI (.cs dI (.cs (.dt (.sl tH)) .nl)))) [] [tB,tI,tI,(.sl tH)] [(.sl tB)] (fun p=>ZX.f K (p.1) (p.2.1) (p.2.2.1) (p.2.2.2)) (.cs (.own tB 41 true) .nl) [] []
theorem QkW(K:Nat):VOk Tryz.prog GD (QkV K):=vkM K (.s .n (.s .n (.s .n (.s (.l ⟨[(1,dI),(2,dI),(10,(.own .bool 4 true))], [], [tI,tI,(.sl .bool)], [], [], []⟩ (some ⟨[(10,(.own .bool 4 true))], [], [(.sl .bool)], [], [], []⟩) false .n) (.s .n (.s .n (.s (.s .n (.l ⟨[(9,(.own tB 41 true)),(47,dI)], [(12,dH)], [(.sl tB),tI,tH], [45], [], []⟩ (some ⟨[(9,(.own tB 41 true))], [], [(.sl tB)], [], [], [10,12,45]⟩) false (.s .n (.s .n (.s (.s .n (.s (.r (ob [2,12,22,32,42,56,62]) [] []) (.j ⟨[(15,(.own (.int .u8) 5 true))], [], [tB], [], [], []⟩ (.s .n (.s (.r (ob [2,12,22,32,42,56,62]) [] []) .n)) .n))) .n))))) .n))))))) Tryz.func95 Tryz.ntmps95 (vl (Jn K) (vl (QaK K) (vl (QbX K) (vl (Qmy K) (vl (Za K) v0))))) (Qnw (Qar K) (Qnw (Ze K) Qgg)) Qgh
def Qqs(K:Nat):FSp TD:=sd 30 [tB,tB] [.bool] (fun p=>QbN.f K (p.1) (p.2))
theorem QjB(K:Nat):VOk Tryz.prog GD (Qqs K):=vk K .n Tryz.func30 Tryz.ntmps30 (vl (QbV K) (vl (Za K) v0))
def QkX(K:Nat):FSp TD:=sd 29 [tB,tB,tI,tI,(.sl tH),(.sl tH)] [tB,tB,.bool] (fun p=>QbO.f K (p.1) (p.2.1) (p.2.2.1) (p.2.2.2.1) (p.2.2.2.2.1) (p.2.2.2.2.2))
theorem QkY(K:Nat):VOk Tryz.prog GD (QkX K):=vk K (.s .n (.s .n (.s .n (.s (.j ⟨[(50,dF)], [], [.bool], [], [], [15,17]⟩ .n .n) (.s .n (.s (.s .n (.l ⟨[(63,dI)], [], [tI], [19,20], [], []⟩ (some ⟨[], [], [], [], [], [19,20]⟩) true (.s .n (.s .n (.s (.s .n (.s (.r (ob [2,12,22,32,42,52,62,72,86]) [] []) (.s (.s (.r (ob [2,12,22,32,42,52,62,72,82,92,102]) [] []) .n) .n))) .n))))) .n)))))) Tryz.func29 Tryz.ntmps29 (vl (QbX K) (vl (Qe1 K) (vl (QkW K) (vl (QjB K) v0))))
def Qcv(K:Nat):FSp TD:=sd 32 [(.sl (.st 4)),tI] [(.sl (.st 4))] (fun p=>J5.f K (p.1) (p.2))
theorem Qcw(K:Nat):VOk Tryz.prog GD (Qcv K):=vk K (.s .n (.s .n (.s (.s .n (.l ⟨[(5,(.own (.st 4) 52 true)),(6,dI)], [], [(.sl (.st 4)),tI], [], [], []⟩ (some ⟨[(5,(.own (.st 4) 52 true))], [], [(.sl (.st 4))], [], [], []⟩) false (.s .n (.j ⟨[(5,(.own (.st 4) 52 true))], [], [(.sl (.st 4))], [], [], []⟩ (.j ⟨[(35,dF)], [], [.bool], [], [], []⟩ .n .n) .n)))) .n))) Tryz.func32 Tryz.ntmps32 v0
def Qb6(K:Nat):FSp TD:=sd 99 [(.sl (.st 3)),(.sl (.st 3))] [.bool] (fun p=>qC.f K (p.1) (p.2))
theorem Qb7(K:Nat):VOk Tryz.prog GD (Qb6 K):=vk K (.s .n (.s .n (.s (.s .n (.l ⟨[(5,dI)], [], [tI], [], [], []⟩ (some ⟨[], [], [], [], [], []⟩) true (.s .n (.s (.s (.r (ob [2,12,22,32,42,52,62,72,82]) [] []) .n) .n)))) .n))) Tryz.func99 Tryz.ntmps99 v0
def Qb8(K:Nat):FSp TD:=sd 100 [tB,tB] [.bool] (fun p=>qE.f K (p.1) (p.2))
theorem Qb9(K:Nat):VOk Tryz.prog GD (Qb8 K):=vk K (.s .n (.s .n (.s (.s .n (.l ⟨[(5,dI)], [], [tI], [], [], []⟩ (some ⟨[], [], [], [], [], []⟩) true (.s .n (.s (.s (.r (ob [2,12,22,32,42,52,62,72,82]) [] []) .n) .n)))) .n))) Tryz.func100 Tryz.ntmps100 v0
def Qcx(K:Nat):FSp TD:=sd 33 [(.st 4),(.st 4)] [.bool] (fun p=>J6.f K (p.1) (p.2))
theorem XH(K:Nat):VOk Tryz.prog GD (Qcx K):=vk K (.s .n (.j ⟨[(4,dF)], [], [.bool], [], [], [2,3]⟩ .n .n)) Tryz.func33 Tryz.ntmps33 (vl (Qb7 K) (vl (Qb9 K) v0))
def Qbq(K:Nat):FSp TD:=sd 101 [(.st 2),(.st 2)] [.bool] (fun p=>XG.f K (p.1) (p.2))
theorem Qbr(K:Nat):VOk Tryz.prog GD (Qbq K):=vk K (.s .n (.s (.j ⟨[(26,dF)], [], [.bool], [], [], []⟩ .n .n) (.s (.s .n (.l ⟨[(5,dI)], [], [tI], [], [], []⟩ (some ⟨[], [], [], [], [], [2,3]⟩) true (.s .n (.s (.s (.r (ob [2,12,22,32,42,52,62,72,82,92,102]) [] []) .n) .n)))) .n))) Tryz.func101 Tryz.ntmps101 v0
def Qcy(K:Nat):FSp TD:=sd 102 [(.sl tH),(.sl tH)] [.bool] (fun p=>Zk.f K (p.1) (p.2))
theorem Qcz(K:Nat):VOk Tryz.prog GD (Qcy K):=vk K (.s .n (.s .n (.s (.s .n (.l ⟨[(5,dI)], [], [tI], [], [], []⟩ (some ⟨[], [], [], [], [], []⟩) true (.s .n (.s (.s (.r (ob [2,12,22,32,42,52,62,72,82]) [] []) .n) .n)))) .n))) Tryz.func102 Tryz.ntmps102 v0
def QcA(K:Nat):FSp TD:=sd 34 [(.st 7),(.st 7)] [.bool] (fun p=>qN.f K (p.1) (p.2))
theorem QcB(K:Nat):VOk Tryz.prog GD (QcA K):=vk K (.s .n (.s (.j ⟨[(29,dF)], [], [.bool], [], [], []⟩ .n .n) (.s (.s .n (.l ⟨[(5,dI)], [], [tI], [], [], []⟩ (some ⟨[], [], [], [], [], [2,3]⟩) true (.s .n (.s (.s (.r (ob [2,12,22,32,42,50,60,70,80,90,104,114,126,136]) [] [3]) (.j ⟨[(67,dF)], [], [.bool], [], [], [6,7]⟩ .n .n)) .n)))) .n))) Tryz.func34 Tryz.ntmps34 (vl (Qbr K) (vl (XH K) (vl (Qcz K) v0)))
def Zu(K:Nat):FSp TD:=sd 9 [(.st 0),tI,(.st 2),tB,tB,tI] [.bool] (fun p=>qo.f K (p.1) (p.2.1) (p.2.2.1) (p.2.2.2.1) (p.2.2.2.2.1) (p.2.2.2.2.2))
theorem Zv(K:Nat):VOk Tryz.prog GD (Zu K):=vk K (.s .n (.s .n (.s (.j ⟨[(42,dF)], [], [.bool], [], [], []⟩ .n .n) (.s (.r (ob [2,12,22,32,50,60,70,80,104,114,46,96,126,136]) [] [6,8]) (.s .n (.s .n (.s (.j ⟨[(85,dF)], [], [.bool], [13], [], [6,8]⟩ .n .n) (.s .n (.s .n (.s (.s .n (.l ⟨[(21,dI)], [], [tI], [], [], []⟩ (some ⟨[], [], [], [], [], []⟩) true (.s .n (.s (.s .n (.s .n (.s (.r (ob [2,12,22,32,42,52,70,80,90,100,110,120,130,140,150,66,166,172,182]) [] [15]) (.s (.r (ob [2,12,22,32,42,52,62,72,82,92,102,112,122,132,142,152,162,176,182,192,202,212,222,232,242]) [] []) (.s .n (.s (.r (ob [2,12,22,32,42,52,70,80,90,100,110,120,130,140,150,66,166,176,182]) [] [15]) .n)))))) .n)))) (.s .n (.s .n (.s (.s .n (.l ⟨[(31,dI)], [], [tI], [], [], []⟩ (some ⟨[], [], [], [], [], []⟩) true (.s .n (.s (.s (.r (ob [2,12,22,32,50,60,70,80,46,96,106,112]) [] []) .n) .n)))) (.s (.s .n (.l ⟨[(32,dI)], [], [tI], [], [], []⟩ (some ⟨[], [], [], [], [], [13,14]⟩) true (.s .n (.s (.j ⟨[(235,dF)], [], [.bool], [], [], []⟩ (.r (ob [2,12,22,32,42,52,62,73,82,92,102,112,122,133,142,152,162,172,182,192,202,212,222,232,242,252,262]) [] []) .n) .n)))) .n)))))))))))))) Tryz.func9 Tryz.ntmps9 (vl (Qb3 K) (vl (Qb5 K) (vl (Qe4 K) (vl (Qgl K) (vl (Qgn K) (vl (Qcs K) (vl (Xv K) (vl (Qcu K) (vl (Qc1 K) (vl (QkY K) (vl (QjB K) (vl (Qgj K) (vl (Qjx K) (vl (Qcw K) (vl (XH K) (vl (QcB K) v0))))))))))))))))
end Go.Proofs.YtomndohdnfebgaaGreatDoor
