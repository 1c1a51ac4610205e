/-
 Proved: calls of the cut's functions come to what their plain functions compute.
-/
import Derived.Test.YtomndohdnfebgaaGreatDoorProg
import Derived.Test.YtomndohdnfebgaaGreatDoorTtDef
import Derived.Test.YtomndohdnfebgaaGreatDoorSxTh
import Derived.Test.YtomndohdnfebgaaGreatDoorSxRv
import Derived.Test.YtomndohdnfebgaaGreatDoorTtOW0
set_option linter.unusedVariables false
set_option maxRecDepth 100000
namespace Go.Proofs.YtomndohdnfebgaaGreatDoor
open Go Go.Sep
@[reducible] def tyD : Nat → Type
 |0=>QA
 |1=>QN
 |2=>Qr
 |3=>Qo
 |4=>Qm
 |5=>Qau
 |6=>QD
 |7=>QJ
 |8=>Qv
 |9=>Jj
 |10=>Qk
 |11=>XF
 |12=>YP
 |13=>Y8
 |14=>Qek
 |15=>QF
 |16=>Yg
 |17=>Qav
 |_=>Unit
@[reducible] def fsD : Nat → List Ty
 |0=> [(.sl (.arr .u8 32)),(.sl (.arr .u8 32)),(.int .i64)]
 |1=> [(.int .i64),(.arr .u8 32)]
 |2=> [(.int .i64),(.arr .u8 32),(.sl (.st 1))]
 |3=> [(.int .i64),(.int .i64)]
 |4=> [(.int .i64),(.int .i64),(.int .i64),(.int .i64),(.int .i64),.bool,.bool,(.int .i64),(.int .i64),(.int .i64),(.arr .u8 32),(.sl (.st 3)),(.sl (.int .u8)),(.arr .u8 32),.bool,(.arr .u8 32)]
 |5=> [(.int .i64),(.int .i64),(.int .i64),(.int .i64),(.int .i64),.bool,.bool,.bool,(.int .i64),(.int .i64),(.int .i64)]
 |6=> [(.int .i64),(.st 4),(.sl (.arr .u8 32))]
 |7=> [.bool,(.st 2),(.sl (.st 6))]
 |8=> [(.int .i64),(.int .i64)]
 |9=> [(.int .i64),(.sl (.int .i64)),(.sl (.st 8))]
 |10=> [(.sl (.int .u8)),(.int .i64)]
 |11=> [(.arr .u8 32)]
 |12=> [(.st 0),(.int .i64)]
 |13=> [(.sl (.arr .u8 32))]
 |14=> [(.st 13),(.int .i64)]
 |15=> [(.sl (.st 3)),(.int .i64),(.int .i64),(.int .i64),.bool,.bool,(.int .i64),(.int .i64),(.int .i64),(.int .i64)]
 |16=> [(.arr .i64 4),(.sl (.st 15))]
 |17=> [(.int .i64),(.int .i64),(.int .i64),.bool,(.int .i64)]
 |_=> []
def TD:Tb where
 ty:=tyD
 fs:=fsD
 get:=fun n=>match n with
  |0=>fun x=>(x.fParts,x.fWits,x.fNeed)
  |1=>fun x=>(x.fWit,x.fTag)
  |2=>fun x=>(x.fSize,x.fRoot,x.fSigs)
  |3=>fun x=>(x.fPart,x.fKind)
  |4=>fun x=>(x.fKind,x.fSaga,x.fSeq,x.fStep,x.fTry,x.fBack,x.fGood,x.fEnd,x.fPart,x.fEpoch,x.fTag,x.fSteps,x.fData,x.fSalt,x.fGone,x.fCom)
  |5=>fun x=>(x.fKind,x.fSaga,x.fSeq,x.fStep,x.fTry,x.fBack,x.fGood,x.fGone,x.fEnd,x.fPart,x.fEpoch)
  |6=>fun x=>(x.fAt,x.fRec,x.fPath)
  |7=>fun x=>(x.fWhole,x.fPoint,x.fItems)
  |8=>fun x=>(x.fPhase,x.fMissing)
  |9=>fun x=>(x.fCode,x.fSagas,x.fLines)
  |10=>fun x=>(x.fB,x.fBad)
  |11=>fun x=>x.fTag
  |12=>fun x=>(x.fK,x.fLimit)
  |13=>fun x=>x.fL
  |14=>fun x=>(x.fTrees,x.fN)
  |15=>fun x=>(x.fSteps,x.fPhase,x.fAt,x.fTries,x.fWait,x.fBack,x.fDone,x.fUndone,x.fSome,x.fSeq)
  |16=>fun x=>(x.fEpochs,x.fSagas)
  |17=>fun x=>(x.fKind,x.fStep,x.fTry,x.fBack,x.fEnd)
  |_+18=>fun x=>x
 of:=fun n=>match n with
  |0=>fun y=>⟨y.1,y.2.1,y.2.2⟩
  |1=>fun y=>⟨y.1,y.2⟩
  |2=>fun y=>⟨y.1,y.2.1,y.2.2⟩
  |3=>fun y=>⟨y.1,y.2⟩
  |4=>fun y=>⟨y.1,y.2.1,y.2.2.1,y.2.2.2.1,y.2.2.2.2.1,y.2.2.2.2.2.1,y.2.2.2.2.2.2.1,y.2.2.2.2.2.2.2.1,y.2.2.2.2.2.2.2.2.1,y.2.2.2.2.2.2.2.2.2.1,y.2.2.2.2.2.2.2.2.2.2.1,y.2.2.2.2.2.2.2.2.2.2.2.1,y.2.2.2.2.2.2.2.2.2.2.2.2.1,y.2.2.2.2.2.2.2.2.2.2.2.2.2.1,y.2.2.2.2.2.2.2.2.2.2.2.2.2.2.1,y.2.2.2.2.2.2.2.2.2.2.2.2.2.2.2⟩
  |5=>fun y=>⟨y.1,y.2.1,y.2.2.1,y.2.2.2.1,y.2.2.2.2.1,y.2.2.2.2.2.1,y.2.2.2.2.2.2.1,y.2.2.2.2.2.2.2.1,y.2.2.2.2.2.2.2.2.1,y.2.2.2.2.2.2.2.2.2.1,y.2.2.2.2.2.2.2.2.2.2⟩
  |6=>fun y=>⟨y.1,y.2.1,y.2.2⟩
  |7=>fun y=>⟨y.1,y.2.1,y.2.2⟩
  |8=>fun y=>⟨y.1,y.2⟩
  |9=>fun y=>⟨y.1,y.2.1,y.2.2⟩
  |10=>fun y=>⟨y.1,y.2⟩
  |11=>fun y=>⟨y⟩
  |12=>fun y=>⟨y.1,y.2⟩
  |13=>fun y=>⟨y⟩
  |14=>fun y=>⟨y.1,y.2⟩
  |15=>fun y=>⟨y.1,y.2.1,y.2.2.1,y.2.2.2.1,y.2.2.2.2.1,y.2.2.2.2.2.1,y.2.2.2.2.2.2.1,y.2.2.2.2.2.2.2.1,y.2.2.2.2.2.2.2.2.1,y.2.2.2.2.2.2.2.2.2⟩
  |16=>fun y=>⟨y.1,y.2⟩
  |17=>fun y=>⟨y.1,y.2.1,y.2.2.1,y.2.2.2.1,y.2.2.2.2⟩
  |_+18=>fun x=>x
 kd:=fun n=>match n with
  |0=>Qat
  |1=>JI
  |2=>ZJ
  |3=>JJ
  |4=>Qej
  |5=>QgP
  |6=>QcQ
  |7=>QfB
  |8=>QcR
  |9=>QeD
  |10=>QeE
  |11=>QgQ
  |12=>QcS
  |13=>Ju
  |14=>QfC
  |15=>qw
  |16=>QhX
  |17=>QgR
  |_+18=>Qsg
 tn:=fun t=>lookA [(25,9),(26,9),(28,8),(29,8),(34,0),(35,0),(39,2),(40,2),(45,7),(46,7),(51,4),(52,4),(54,6),(55,6),(69,16),(70,16),(89,3),(90,3),(106,1),(107,1),(124,12),(125,12),(139,11),(140,11),(151,15),(152,15),(161,5),(162,5),(175,10),(176,10),(186,13),(187,13),(188,14),(189,14),(269,17),(270,17)] t
 te:=fun t=>lookA [] t
theorem tbok:TbOk TD:=⟨fun n _ _ _=>match n with
 |0=>Iff.rfl
 |1=>Iff.rfl
 |2=>Iff.rfl
 |3=>Iff.rfl
 |4=>Iff.rfl
 |5=>Iff.rfl
 |6=>Iff.rfl
 |7=>Iff.rfl
 |8=>Iff.rfl
 |9=>Iff.rfl
 |10=>Iff.rfl
 |11=>Iff.rfl
 |12=>Iff.rfl
 |13=>Iff.rfl
 |14=>Iff.rfl
 |15=>Iff.rfl
 |16=>Iff.rfl
 |17=>Iff.rfl
 |_+18=>Iff.rfl,fun n _=>match n with
 |0=>rfl
 |1=>rfl
 |2=>rfl
 |3=>rfl
 |4=>rfl
 |5=>rfl
 |6=>rfl
 |7=>rfl
 |8=>rfl
 |9=>rfl
 |10=>rfl
 |11=>rfl
 |12=>rfl
 |13=>rfl
 |14=>rfl
 |15=>rfl
 |16=>rfl
 |17=>rfl
 |_+18=>rfl⟩
def GD:List (Nat×Dy TD):= [(0,⟨(.arr .u32 8),Xn⟩),(1,⟨(.arr .u32 64),gl_K⟩)]
@[reducible] def ob : List Nat → List (Nat × Nat × Bool)
 | []=> []
 |n::l=>(n/10,n%10/2,Nat.beq (n%2) 1)::ob l
@[reducible] def tI : Ty := .int .i64
@[reducible] def tH : Ty := .arr .u8 32
@[reducible] def tB : Ty := .sl (.int .u8)
@[reducible] def dI : Pt := .dt (.int .i64)
@[reducible] def dF : Pt := .dt .bool
@[reducible] def dH : Pt := .dt (.arr .u8 32)
@[reducible] def dB : Pt := .dt (.sl (.int .u8))
@[reducible] def dD (n : Nat) : Pt := .dt (.st n)
@[reducible] def sd (fid : Nat) (pt rt : List Ty) (fn : TU TD.ty pt → Option (TU TD.ty rt)) : FSp TD := { fid := fid, args := dts pt, blks := [], pt := pt, rt := rt, fn := fn, res := dts rt, out := [], new := [] }
@[reducible] def sg (fid : Nat) (args : Pt) (blks : List (TypeId × Pt)) (pt rt : List Ty) (fn : TU TD.ty pt → Option (TU TD.ty rt)) (res : Pt) (out : List (Option Pt)) (new : List (TypeId × Pt)) : FSp TD := { fid := fid, args := args, blks := blks, pt := pt, rt := rt, fn := fn, res := res, out := out, new := new }
@[reducible] def sp (fid : Nat) (args : Pt) (blks : List (TypeId × Pt)) (pt rt : List Ty) (pv : TypeId × Bool) (fs : TU TD.ty pt → Option (Int ⊕ TU TD.ty rt)) (pk : List Bool) (res : Pt) (out : List (Option Pt)) (new : List (TypeId × Pt)) : FSp TD := { fid := fid, args := args, blks := blks, pt := pt, rt := rt, fn := fun p => sm (fs p) (fun _ => none) some, pv := some pv, fs := fs, pk := pk, res := res, out := out, new := new }
theorem v0:∀s∈([]:List (FSp TD)),VOk Tryz.prog GD s:=Qmr
theorem vl{s:FSp TD}{l:List (FSp TD)}(h:VOk Tryz.prog GD s)(h':∀x∈l,VOk Tryz.prog GD x):∀x∈s::l,VOk Tryz.prog GD x:=qZ h h'
section
variable {n:Nat}{s:FSp TD}{f:Func}{c:Code}{sps:List (FSp TD)}{rvs:List (RvSp TD)}{mps:List (FuncId×(SV TD→Option (SV TD)))}
theorem vk(K:Nat)(h:Hn)(hf:Tryz.prog.funcs[s.fid]?=some f)(hn:f.ntmps=n)(hsp:∀x∈sps,VOk Tryz.prog GD x)(hb:f.body=some c:=by exact rfl)
  (hok:(Nat.ble (lenP s.args) n&&(lstP s.args&&(lstP s.res&&(!(f.name== "runtime.NumGoroutine")&&s.pv.isNone))))=true:=by kernel_rfl) (hfn:(fun p=>s.fn p)=funS (T:=TD) (cx Tryz.prog GD sps K n [] []) s f h:=by kernel_rfl):VOk Tryz.prog GD s:=QsE tbok hf hb hn hok hsp Qf6 Qf7 hfn
theorem vkM(K:Nat)(h:Hn)(hf:Tryz.prog.funcs[s.fid]?=some f)(hn:f.ntmps=n)(hsp:∀x∈sps,VOk Tryz.prog GD x)(hrv:∀x∈rvs,RvOk Tryz.prog x)(hmp:∀f g,lookA mps f=some g→MpOk Tryz.prog f g)(hb:f.body=some c:=by exact rfl)
  (hok:(Nat.ble (lenP s.args) n&&(lstP s.args&&(lstP s.res&&(!(f.name== "runtime.NumGoroutine")&&s.pv.isNone))))=true:=by kernel_rfl) (hfn:(fun p=>s.fn p)=funS (T:=TD) (cx Tryz.prog GD sps K n rvs mps) s f h:=by kernel_rfl):VOk Tryz.prog GD s:=QsE tbok hf hb hn hok hsp hrv hmp hfn
theorem vkP(K:Nat)(h:Hn)(hf:Tryz.prog.funcs[s.fid]?=some f)(hn:f.ntmps=n)(hsp:∀x∈sps,VOk Tryz.prog GD x)(hgn:(fun p=>s.fn p)=fun p=>sm (s.fs p) (fun _=>none) some)(hb:f.body=some c:=by exact rfl)
  (hok:(Nat.ble (lenP s.args) n&&(lstP s.args&&(lstP s.res&& !(f.name== "runtime.NumGoroutine"))))=true:=by kernel_rfl) (hfn:(fun p=>s.fs p)=funP (T:=TD) (cx Tryz.prog GD sps K n [] []) s f h:=by kernel_rfl):VOk Tryz.prog GD s:=QtJ tbok hf hb hn hok hsp Qf6 Qf7 hgn hfn
end
def QsI:SV TD→Option (SV TD):=fun l=>match l with| .nl=>some (.mp [.int .i64 1,.int .i64 2,.int .i64 3,.int .i64 4,.int .i64 5,.int .i64 6] (.cs (.agg (.cs (.fn 179 .nl) .nl)) (.cs (.agg (.cs (.fn 180 .nl) .nl)) (.cs (.agg (.cs (.fn 181 .nl) .nl)) (.cs (.agg (.cs (.fn 180 .nl) .nl)) (.cs (.agg (.cs (.fn 180 .nl) .nl)) (.cs (.agg (.cs (.fn 182 .nl) .nl)) .nl)))))))|_=>none
theorem Qvj:MpOk Tryz.prog 141 QsI:=by
 refine⟨fun ρ g w0 D l vs sv hA hf hS=> ?_,by kernel_rfl⟩
 unfold QsI at hf
 split at hf
 ·obtain rfl:vs= []:=hA
  cases hf
  have hS:=Stp.refl hS
  refine jf (n:=9) Tryz.func141 rfl Tryz.ntmps141 rfl (fun a hE=> ?_)
  have hE:Env a 9 [] []:=hE
  refine wpIn_seq (Qbc ?_)
  refine segN 1 (j:=1) [(0,.map none)] hE (by kernel_rfl) rfl (fun a hE=> ?_)
  refine at_end rfl ?_
  refine wpIn_seq (Qbc ?_)
  refine JH (Qm8 rfl rfl rfl rfl hE rfl hS (fun a b w hE hS=> ?_)) rfl
  refine JH (Qam hE (Qap ([.func (.func 179) #[] #[]]) rfl rfl rfl rfl hE rfl rfl (by kernel_rfl) (fun a hE=> ?_))) rfl
  refine JH (Qab (kt:=3) (et:=204) (kk:= .i64) rfl rfl rfl rfl hE hS rfl rfl rfl (by kernel_rfl) (by kernel_rfl) (by kernel_rfl) (fun a w hE hS=> ?_)) rfl
  refine JH (Qam hE (Qap ([.func (.func 180) #[] #[]]) rfl rfl rfl rfl hE rfl rfl (by kernel_rfl) (fun a hE=> ?_))) rfl
  refine JH (Qab (kt:=3) (et:=204) (kk:= .i64) rfl rfl rfl rfl hE hS rfl rfl rfl (by kernel_rfl) (by kernel_rfl) (by kernel_rfl) (fun a w hE hS=> ?_)) rfl
  refine JH (Qam hE (Qap ([.func (.func 181) #[] #[]]) rfl rfl rfl rfl hE rfl rfl (by kernel_rfl) (fun a hE=> ?_))) rfl
  refine JH (Qab (kt:=3) (et:=204) (kk:= .i64) rfl rfl rfl rfl hE hS rfl rfl rfl (by kernel_rfl) (by kernel_rfl) (by kernel_rfl) (fun a w hE hS=> ?_)) rfl
  refine JH (Qam hE (Qap ([.func (.func 180) #[] #[]]) rfl rfl rfl rfl hE rfl rfl (by kernel_rfl) (fun a hE=> ?_))) rfl
  refine JH (Qab (kt:=3) (et:=204) (kk:= .i64) rfl rfl rfl rfl hE hS rfl rfl rfl (by kernel_rfl) (by kernel_rfl) (by kernel_rfl) (fun a w hE hS=> ?_)) rfl
  refine JH (Qam hE (Qap ([.func (.func 180) #[] #[]]) rfl rfl rfl rfl hE rfl rfl (by kernel_rfl) (fun a hE=> ?_))) rfl
  refine JH (Qab (kt:=3) (et:=204) (kk:= .i64) rfl rfl rfl rfl hE hS rfl rfl rfl (by kernel_rfl) (by kernel_rfl) (by kernel_rfl) (fun a w hE hS=> ?_)) rfl
  refine JH (Qam hE (Qap ([.func (.func 182) #[] #[]]) rfl rfl rfl rfl hE rfl rfl (by kernel_rfl) (fun a hE=> ?_))) rfl
  refine JH (Qab (kt:=3) (et:=204) (kk:= .i64) rfl rfl rfl rfl hE hS rfl rfl rfl (by kernel_rfl) (by kernel_rfl) (by kernel_rfl) (fun a w hE hS=> ?_)) rfl
  refine segN 1 (j:=14) [(8,.map (some b))] hE (by kernel_rfl) rfl (fun a hE=> ?_)
  refine segN 1 (j:=15) [(0,.map (some b))] hE (by kernel_rfl) rfl (fun a hE=> ?_)
  refine at_end rfl ?_
  refine wpIn_ret ?_
  refine QkD ([.map (some b)]) hE (by rw[show Tryz.f141.results.toList= [.tmp 0]from rfl];exact⟨_,_,rfl,rfl,rfl⟩) ?_
  refine⟨_,rfl,_,YK rfl ⟨b,_,_,rfl,by unfold Snap.ins;rw[if_pos rfl],rfl,⟨_,_,rfl,⟨_,⟨_,_,rfl,⟨[],rfl,rfl⟩,rfl⟩,rfl⟩,⟨_,_,rfl,⟨_,⟨_,_,rfl,⟨[],rfl,rfl⟩,rfl⟩,rfl⟩,⟨_,_,rfl,⟨_,⟨_,_,rfl,⟨[],rfl,rfl⟩,rfl⟩,rfl⟩,⟨_,_,rfl,⟨_,⟨_,_,rfl,⟨[],rfl,rfl⟩,rfl⟩,rfl⟩,⟨_,_,rfl,⟨_,⟨_,_,rfl,⟨[],rfl,rfl⟩,rfl⟩,rfl⟩,⟨_,_,rfl,⟨_,⟨_,_,rfl,⟨[],rfl,rfl⟩,rfl⟩,rfl⟩,rfl⟩⟩⟩⟩⟩⟩⟩,(Stp.freezeM hS).2⟩
 ·cases hf
def ZM(K:Nat):FSp TD:=sg 133 (.cs (.dt (.sl tB)) .nl) [] [(.sl tB)] [tB] (fun p=>QL.f K (p)) (.cs (.own (.int .u8) 5 true) .nl) [] []
theorem JU(K:Nat):VOk Tryz.prog GD (ZM K):=Qby (T:=TD) (ts:= [(.sl (.sl (.int .u8)))]) (rt:=(.int .u8)) (e:=5) (f:=true) (fn:=fun p=>QL.f K (p)) (fun g w0 D p vals r hG hv hS hr=>by
 obtain⟨v0,h0,rfl⟩:=hv
 obtain⟨A0,c0,e0,f0⟩:=h0
 cases e0
 exact CallsIn.mono (QL.calls hr hS f0) fun e w' ⟨u,h1,D1,A,c,q,h2,h3,h4⟩=>⟨u,h1,D1,A,c,q,h2,h4,h3⟩) (by kernel_rfl)
def Qad(K:Nat):FSp TD:=sg 111 (.cs dB .nl) [] [tB] [tB] (fun p=>Q4.f K (p)) (.cs (.own (.int .u8) 5 true) .nl) [] []
theorem Jo(K:Nat):VOk Tryz.prog GD (Qad K):=Qby (T:=TD) (ts:= [(.sl (.int .u8))]) (rt:=(.int .u8)) (e:=5) (f:=true) (fn:=fun p=>Q4.f K (p)) (fun g w0 D p vals r hG hv hS hr=>by
 obtain⟨v0,h0,rfl⟩:=hv
 obtain⟨A0,c0,e0,f0⟩:=h0
 cases e0
 exact CallsIn.mono (Q4.calls hr hS f0) fun e w' ⟨u,h1,D1,A,c,q,h2,h3,h4⟩=>⟨u,h1,D1,A,c,q,h2,h4,h3⟩) (by kernel_rfl)
def Xa(K:Nat):FSp TD:=sg 157 (.cs (.dt (.sl (.st 1))) .nl) [] [(.sl (.st 1))] [(.sl (.st 1))] (fun p=>Yc.f K (p)) (.cs (.own (.st 1) 107 true) .nl) [] []
theorem qm(K:Nat):VOk Tryz.prog GD (Xa K):=Qby (T:=TD) (ts:= [(.sl (.st 1))]) (rt:=(.st 1)) (e:=107) (f:=true) (fn:=fun p=>Yc.f K (p)) (fun g w0 D p vals r hG hv hS hr=>by
 obtain⟨v0,h0,rfl⟩:=hv
 obtain⟨A0,c0,e0,f0⟩:=h0
 cases e0
 exact CallsIn.mono (Yc.calls hr hS f0) fun e w' ⟨u,h1,D1,A,c,q,h2,h3,h4⟩=>⟨u,h1,D1,A,c,q,h2,h4,h3⟩) (by kernel_rfl)
def yx(K:Nat):FSp TD:=sg 62 (.cs (.dt (.sl (.st 3))) .nl) [] [(.sl (.st 3))] [(.sl (.st 3))] (fun p=>QK.f K (p)) (.cs (.own (.st 3) 90 true) .nl) [] []
theorem Jg(K:Nat):VOk Tryz.prog GD (yx K):=Qby (T:=TD) (ts:= [(.sl (.st 3))]) (rt:=(.st 3)) (e:=90) (f:=true) (fn:=fun p=>QK.f K (p)) (fun g w0 D p vals r hG hv hS hr=>by
 obtain⟨v0,h0,rfl⟩:=hv
 obtain⟨A0,c0,e0,f0⟩:=h0
 cases e0
 exact CallsIn.mono (QK.calls hr hS f0) fun e w' ⟨u,h1,D1,A,c,q,h2,h3,h4⟩=>⟨u,h1,D1,A,c,q,h2,h4,h3⟩) (by kernel_rfl)
def yz(K:Nat):FSp TD:=sg 206 (.cs (.dt (.sl (.st 15))) .nl) [] [(.sl (.st 15))] [(.sl (.st 15))] (fun p=>QQ.f K (p)) (.cs (.own (.st 15) 152 true) .nl) [] []
theorem JW(K:Nat):VOk Tryz.prog GD (yz K):=Qby (T:=TD) (ts:= [(.sl (.st 15))]) (rt:=(.st 15)) (e:=152) (f:=true) (fn:=fun p=>QQ.f K (p)) (fun g w0 D p vals r hG hv hS hr=>by
 obtain⟨v0,h0,rfl⟩:=hv
 obtain⟨A0,c0,e0,f0⟩:=h0
 cases e0
 exact CallsIn.mono (QQ.calls hr hS f0) fun e w' ⟨u,h1,D1,A,c,q,h2,h3,h4⟩=>⟨u,h1,D1,A,c,q,h2,h4,h3⟩) (by kernel_rfl)
def Ze(K:Nat):RvSp TD:=⟨134,(.int .u8),5,QW.f K⟩
theorem Zf(K:Nat):RvOk Tryz.prog (Ze K):=⟨fun g w0 D A cap xs ys q hS hO hr=>QW.calls hr hS hO,by kernel_rfl,fun xs ys h=>QW.len h⟩
def ja(K:Nat):FSp TD:=sd 35 [] [(.st 0)] (fun p=>XG.f K)
theorem Qbz(K:Nat):VOk Tryz.prog GD (ja K):=vk K .n Tryz.func35 Tryz.ntmps35 v0
def Qit(K:Nat):FSp TD:=sd 78 [tI,tI,tI] [.bool] (fun p=>Jq.f K (p.1) (p.2.1) (p.2.2))
theorem Xr(K:Nat):VOk Tryz.prog GD (Qit K):=vk K .n Tryz.func78 Tryz.ntmps78 v0
def QdM(K:Nat):FSp TD:=sd 66 [(.st 0)] [.bool] (fun p=>Zn.f K (p))
theorem Qca(K:Nat):VOk Tryz.prog GD (QdM K):=vk K .n Tryz.func66 Tryz.ntmps66 (vl (Xr K) v0)
def QjJ(K:Nat):FSp TD:=sd 81 [(.st 0),tI,tI] [.bool] (fun p=>Xw.f K (p.1) (p.2.1) (p.2.2))
theorem QbA(K:Nat):VOk Tryz.prog GD (QjJ K):=vk K .n Tryz.func81 Tryz.ntmps81 (vl (Qca K) (vl (Xr K) v0))
def Qpu(K:Nat):FSp TD:=sg 156 (.cs (.dt (.int .u64)) (.cs dI .nl)) [] [(.int .u64),tI] [tB] (fun p=>Qcx.f K (p.1) (p.2)) (.cs (.own (.int .u8) 5 true) .nl) [] []
theorem QjK(K:Nat):VOk Tryz.prog GD (Qpu K):=vk K (.s .n (.s .n (.s (.s .n (.l ⟨[(0,(.dt (.int .u64))),(5,(.own (.int .u8) 5 true)),(11,dI)], [], [(.int .u64),tB,tI], [], [], []⟩ (some ⟨[(5,(.own (.int .u8) 5 true))], [], [tB], [], [], []⟩) false .n)) .n))) Tryz.func156 Tryz.ntmps156 v0
def Qk8(K:Nat):FSp TD:=sg 155 (.cs dI .nl) [] [tI] [tB] (fun p=>Z7.f K (p)) (.cs (.own (.int .u8) 5 true) .nl) [] []
theorem Qk9(K:Nat):VOk Tryz.prog GD (Qk8 K):=vk K .n Tryz.func155 Tryz.ntmps155 (vl (QjK K) v0)
def QeG(K:Nat):FSp TD:=sg 154 (.cs (.dt (.sl tI)) (.cs (.fn 155 .nl) .nl)) [] [(.sl tI)] [tB] (fun p=>yN.f K (p)) (.cs (.own (.int .u8) 5 true) .nl) [] []
theorem QeH(K:Nat):VOk Tryz.prog GD (QeG K):=vk K (.s .n (.s .n (.s (.s .n (.l ⟨[(5,(.own (.int .u8) 5 true)),(10,dI)], [], [tB,tI], [], [], []⟩ (some ⟨[(5,(.own (.int .u8) 5 true))], [], [tB], [], [], []⟩) false .n)) .n))) Tryz.func154 Tryz.ntmps154 (vl (Qk9 K) v0)
def Qnb(K:Nat):FSp TD:=sg 143 (.cs dI .nl) [] [tI] [tB] (fun p=>QcT.f K (p)) (.cs (.own (.int .u8) 5 true) .nl) [] []
theorem Qnc(K:Nat):VOk Tryz.prog GD (Qnb K):=vk K (.s .n (.s .n (.s .n (.s (.l ⟨[(3,(.own (.int .u8) 5 true))], [], [tB], [], [], []⟩ (some ⟨[(3,(.own (.int .u8) 5 true))], [], [tB], [], [], []⟩) false .n) (.s .n (.s (.s .n (.l ⟨[(3,(.own (.int .u8) 5 true)),(5,dI)], [], [tB,tI], [], [], []⟩ (some ⟨[(3,(.own (.int .u8) 5 true))], [], [tB], [], [], []⟩) false .n)) .n)))))) Tryz.func143 Tryz.ntmps143 v0
def QjL(K:Nat):FSp TD:=sg 142 (.cs dB .nl) [] [tB] [tB] (fun p=>QdG.f K (p)) (.cs (.fn 183 (.cs (.ptr 0 0) .nl)) .nl) [] [(41,dB)]
theorem QjM(K:Nat):VOk Tryz.prog GD (QjL K):=vk K .n Tryz.func142 Tryz.ntmps142 v0
def Qae(K:Nat):FSp TD:=sd 208 [(.int .u32),tI] [(.int .u32)] (fun p=>Yv.f K (p.1) (p.2))
theorem jM(K:Nat):VOk Tryz.prog GD (Qae K):=vk K .n Tryz.func208 Tryz.ntmps208 v0
def Qla(K:Nat):FSp TD:=sd 207 [(.int .u32),tI,tI,tI] [(.int .u32)] (fun p=>XH.f K (p.1) (p.2.1) (p.2.2.1) (p.2.2.2))
theorem Qlb(K:Nat):VOk Tryz.prog GD (Qla K):=vk K (.s .n (.s (.r (ob [2,12,22,40,50,60,90,100,110,36,76,82,122,132]) [] []) .n)) Tryz.func207 Tryz.ntmps207 (vl (jM K) v0)
def QgS(K:Nat):FSp TD:=sd 184 [tB] [(.arr .u32 64)] (fun p=>yU.f K (p))
theorem QgT(K:Nat):VOk Tryz.prog GD (QgS K):=vk K (.s .n (.s .n (.s (.s .n (.l ⟨[(5,dI)], [(3,(.dt (.arr .u32 64)))], [tI,(.arr .u32 64)], [], [], []⟩ (some ⟨[], [(3,(.dt (.arr .u32 64)))], [(.arr .u32 64)], [], [], []⟩) false (.s .n (.s .n (.j ⟨[], [(3,(.dt (.arr .u32 64)))], [(.arr .u32 64)], [], [], []⟩ (.s .n (.s (.s .n (.s (.s (.r (ob [0,12,22,32,42,52,80,90,100,110,120,130,140,150,170,180,190,200,210,220,230,240,260,270,280,290,300,310,320,66,72,162,252,332,342,356]) [] []) .n) .n)) (.r (ob [0,12,22,32,42,60,70,80,90,110,120,130,140,170,180,190,200,56,100,156,162,212,222,236]) [] [3]))) .n))))) .n))) Tryz.func184 Tryz.ntmps184 (vl (Qlb K) v0)
def QjN(K:Nat):FSp TD:=sd 185 [(.int .u32),tI,tI,tI] [(.int .u32)] (fun p=>yG.f K (p.1) (p.2.1) (p.2.2.1) (p.2.2.2))
theorem QjO(K:Nat):VOk Tryz.prog GD (QjN K):=vk K .n Tryz.func185 Tryz.ntmps185 (vl (jM K) v0)
def Qnd(K:Nat):FSp TD:=sd 144 [(.arr .u32 8),tB] [(.arr .u32 8)] (fun p=>QbY.f K (p.1) (p.2))
theorem Qne(K:Nat):VOk Tryz.prog GD (Qnd K):=vk K (.s .n (.s .n (.s .n (.s (.s .n (.l ⟨[(18,dI)], [(5,(.dt (.arr .u32 8)))], [tI,(.arr .u32 8)], [], [], []⟩ (some ⟨[], [(5,(.dt (.arr .u32 8)))], [(.arr .u32 8)], [], [], []⟩) false (.s .n (.s .n (.s (.s .n (.s (.r (ob [0,10,22,32,60,70,80,90,100,110,120,130,140,150,160,170,190,200,210,230,46,52,182,222,242,252]) [] [5]) (.s (.r (ob [2,12,30,40,50,60,70,80,90,100,110,120,130,140,150,160,170,180,190,26,202,212]) [] [5]) (.s (.r (ob [2,12,26]) [] []) .n)))) .n))))) (.s (.s .n (.l ⟨[(81,dI)], [(2,(.dt (.arr .u32 8)))], [tI,(.arr .u32 8)], [], [], []⟩ (some ⟨[], [(2,(.dt (.arr .u32 8)))], [(.arr .u32 8)], [], [], [5]⟩) false (.s .n (.s .n (.s (.s .n (.r (ob [2,12,22,32,42,52,62,72,86]) [] [])) .n))))) .n))))) Tryz.func144 Tryz.ntmps144 (vl (QgT K) (vl (QjO K) v0))
def Qnf(K:Nat):FSp TD:={fid:=83,args:=(.cs (.dt (.sl (.sl (.int .u8)))) .nl),blks:= [],pt:= [(.sl (.sl (.int .u8)))],rt:= [(.arr .u8 32)],fn:=fun p=>QdH.f K (p),res:=(.cs (.dt (.arr .u8 32)) .nl),out:= [],new:= [] }
theorem Qng(K:Nat):VOk Tryz.prog GD (Qnf K):=vk K (.s .n (.s .n (.s .n (.s (.s .n (.g (.l ⟨[], [(1000000000004,(.dt (.arr .u32 8))),(1,dB)], [(.arr .u32 8),tB], [], [], []⟩ (some ⟨[], [(1000000000004,(.dt (.arr .u32 8))),(1,dB)], [(.arr .u32 8),tB], [], [], []⟩) false .n) .n .n)) (.s .n (.s (.s .n (.l ⟨[(21,dI)], [(6,dH)], [tI,tH], [], [], []⟩ (some ⟨[], [(6,dH)], [tH], [], [], [4]⟩) false .n)) .n)))))) Tryz.func83 Tryz.ntmps83 (vl (JU K) (vl (Qnc K) (vl (QjM K) (vl (Qne K) v0))))
def Qpv(K:Nat):FSp TD:={fid:=83,args:=(.cs (.dt (.sl (.sl (.int .u8)))) .nl),blks:= [],pt:= [(.sl (.sl (.int .u8)))],rt:= [(.arr .u8 32)],fn:=fun p=>shaQ.f K (p),res:=(.cs (.dt (.arr .u8 32)) .nl),out:= [],new:= [] }
theorem Qaf(K:Nat):VOk Tryz.prog GD (Qpv K):=(congrArg (fun f=>VOk Tryz.prog GD ({fid:=83,args:=(.cs (.dt (.sl (.sl (.int .u8)))) .nl),blks:= [],pt:= [(.sl (.sl (.int .u8)))],rt:= [(.arr .u8 32)],fn:=f,res:=(.cs (.dt (.arr .u8 32)) .nl),out:= [],new:= [] }:FSp TD)) (Qtm K)).mpr (Qng K)
def Qpw(K:Nat):FSp TD:=sg 177 (.cs dB (.cs (.dt (.int .u8)) .nl)) [] [tB,(.int .u8)] [tB] (fun p=>QfG.f K (p.1) (p.2)) (.cs (.own (.int .u8) 5 true) .nl) [] []
theorem Qpx(K:Nat):VOk Tryz.prog GD (Qpw K):=vk K (.s .n (.s .n (.s .n (.s (.s .n (.l ⟨[(5,(.own (.int .u8) 5 true)),(13,dI)], [], [tB,tI], [], [], []⟩ (some ⟨[(5,(.own (.int .u8) 5 true))], [], [tB], [], [], []⟩) false .n)) .n)))) Tryz.func177 Tryz.ntmps177 v0
def Qpy(K:Nat):FSp TD:=sd 139 [tB,(.sl tB)] [tH] (fun p=>QfH.f K (p.1) (p.2))
theorem QjP(K:Nat):VOk Tryz.prog GD (Qpy K):=vk K (.s .n (.j ⟨[(0,dB)], [], [tB], [], [], []⟩ .n (.s .n (.s (.r (ob [2,20,16,36,46,56]) [6] []) .n)))) Tryz.func139 Tryz.ntmps139 (vl (Qaf K) (vl (Qpx K) v0))
def Qpz(K:Nat):FSp TD:=sd 103 [tH,(.sl tI)] [tH] (fun p=>QdI.f K (p.1) (p.2))
theorem QjQ(K:Nat):VOk Tryz.prog GD (Qpz K):=vk K (.s .n (.s (.r (ob [0,12,26,36,46,56]) [2] []) .n)) Tryz.func103 Tryz.ntmps103 (vl (QeH K) (vl (QjP K) v0))
def Qlc(K:Nat):FSp TD:=sd 104 [(.st 0),tI,tI] [tH] (fun p=>Qbk.f K (p.1) (p.2.1) (p.2.2))
theorem Qld(K:Nat):VOk Tryz.prog GD (Qlc K):=vk K .n Tryz.func104 Tryz.ntmps104 (vl (QbA K) (vl (QjQ K) v0))
def Qnh(K:Nat):FSp TD:=sd 105 [.bool] [tI] (fun p=>QbZ.f K (p))
theorem Qni(K:Nat):VOk Tryz.prog GD (Qnh K):=vk K .n Tryz.func105 Tryz.ntmps105 v0
def ZN(K:Nat):FSp TD:=sd 36 [(.st 0),(.st 4)] [tH] (fun p=>qV.f K (p.1) (p.2))
theorem Qcp(K:Nat):VOk Tryz.prog GD (ZN K):=vk K (.s .n (.s (.j ⟨[(16,dF)], [], [.bool], [], [], []⟩ .n .n) (.s (.r (ob [2,12,22,32,42,60,70,80,90,100,110,130,140,56,126,156,164,176,186]) [] [3]) .n))) Tryz.func36 Tryz.ntmps36 (vl (QbA K) (vl (Qld K) (vl (Qni K) (vl (QjQ K) v0))))
def QjR(K:Nat):FSp TD:=sd 164 [tI,tI,tI] [.bool] (fun p=>Jn.f K (p.1) (p.2.1) (p.2.2))
theorem Qeq(K:Nat):VOk Tryz.prog GD (QjR K):=vk K .n Tryz.func164 Tryz.ntmps164 v0
def QgU(K:Nat):FSp TD:=sd 165 [(.st 3)] [.bool] (fun p=>Zo.f K (p))
theorem QgV(K:Nat):VOk Tryz.prog GD (QgU K):=vk K .n Tryz.func165 Tryz.ntmps165 (vl (Qeq K) v0)
def jA(K:Nat):FSp TD:=sg 196 (.cs (.dt (.sl (.st 3))) (.cs (.fn 165 .nl) .nl)) [] [(.sl (.st 3))] [tI] (fun p=>Y5.f K (p)) (.cs dI .nl) [] []
theorem jB(K:Nat):VOk Tryz.prog GD (jA K):=vk K (.s .n (.s (.s .n (.l ⟨[(8,dI)], [], [tI], [], [], []⟩ (some ⟨[], [], [], [], [], []⟩) true .n)) .n)) Tryz.func196 Tryz.ntmps196 (vl (QgV K) v0)
def jb(K:Nat):FSp TD:=sg 166 (.cs (.dt (.sl (.st 3))) (.cs (.fn 165 .nl) .nl)) [] [(.sl (.st 3))] [.bool] (fun p=>Yw.f K (p)) (.cs dF .nl) [] []
theorem jc(K:Nat):VOk Tryz.prog GD (jb K):=vk K .n Tryz.func166 Tryz.ntmps166 (vl (jB K) v0)
def QjS(K:Nat):FSp TD:=sd 123 [(.st 4)] [.bool] (fun p=>Qb0.f K (p))
theorem QjT(K:Nat):VOk Tryz.prog GD (QjS K):=vk K (.s .n (.s (.j ⟨[(19,dF)], [], [.bool], [], [], []⟩ .n .n) (.s (.s .n (.s .n (.s .n (.j ⟨[(41,dF)], [], [.bool], [], [], []⟩ .n .n)))) .n))) Tryz.func123 Tryz.ntmps123 (vl (Qeq K) (vl (jc K) v0))
def Qnj(K:Nat):FSp TD:=sd 124 [(.st 4)] [(.st 4)] (fun p=>Qe4.f K (p))
theorem Qnk(K:Nat):VOk Tryz.prog GD (Qnj K):=vk K (.s .n (.s .n (.j ⟨[], [(3,(dD 4))], [(.st 4)], [], [], [1]⟩ (.s .n (.s (.s (.j ⟨[], [(3,(dD 4))], [(.st 4)], [], [], []⟩ (.s (.s (.s (.s .n (.s .n (.s (.j ⟨[(13,dF)], [], [.bool], [], [], []⟩ .n .n) .n))) .n) (.s (.s (.r (ob [2,12,20,30,40,50,62,76,82,96,102,116]) [] [1]) (.s .n (.s .n (.r (ob [2,12,20,30,42,56,62,76]) [] [1])))) .n)) (.r (ob [2,12,20,30,40,50,60,70,82,96,102,116,122,136,142,156]) [] [1])) (.s (.r (ob [2,12,20,30,40,50,60,70,80,90,102,116,122,136,142,156,162,176,182,196]) [] [1]) .n)) (.s (.r (ob [2,12,20,30,40,50,62,76,82,96,102,116]) [] [1]) .n)) (.s (.r (ob [2,12,20,30,42,56,62,76]) [] [1]) .n))) .n))) Tryz.func124 Tryz.ntmps124 v0
def yA(K:Nat):FSp TD:=sd 97 [(.sl (.st 3)),(.sl (.st 3))] [.bool] (fun p=>YT.f K (p.1) (p.2))
theorem yB(K:Nat):VOk Tryz.prog GD (yA K):=vk K (.s .n (.s .n (.s (.s .n (.l ⟨[(13,dI)], [], [tI], [], [], []⟩ (some ⟨[], [], [], [], [], []⟩) true (.s .n (.s .n (.s (.s .n (.s (.r (ob [2,12,22,32,42,52,62,72,82]) [] []) .n)) .n))))) .n))) Tryz.func97 Tryz.ntmps97 v0
def Qiu(K:Nat):FSp TD:=sd 96 [tB,tB] [.bool] (fun p=>bytes_Equal.f K (p.1) (p.2))
theorem Qdi(K:Nat):VOk Tryz.prog GD (Qiu K):=vk K .n Tryz.func96 Tryz.ntmps96 v0
def Qnl(K:Nat):FSp TD:=sd 98 [(.st 4)] [(.st 5)] (fun p=>Qe5.f K (p))
theorem Qnm(K:Nat):VOk Tryz.prog GD (Qnl K):=vk K .n Tryz.func98 Tryz.ntmps98 v0
def Qnn(K:Nat):FSp TD:=sd 31 [(.st 4),(.st 4)] [.bool] (fun p=>Qe6.f K (p.1) (p.2))
theorem Qno(K:Nat):VOk Tryz.prog GD (Qnn K):=vk K (.s .n (.s (.j ⟨[(18,dF)], [], [.bool], [], [], []⟩ .n .n) (.j ⟨[(4,dF)], [], [.bool], [], [], [2,3]⟩ (.r (ob [2,20,16,36,42,53,62,72,82,92,102,112,123,132,142,152,162,172,182,193,202,212,222,232,242,252,262]) [] [3]) .n))) Tryz.func31 Tryz.ntmps31 (vl (yB K) (vl (Qdi K) (vl (Qnm K) v0)))
def Qle(K:Nat):FSp TD:=sd 61 [(.st 4)] [.bool] (fun p=>J5.f K (p))
theorem qH(K:Nat):VOk Tryz.prog GD (Qle K):=vk K (.s .n (.s (.r (ob [2,16,23,30,42,56,66,72,82]) [] [1]) .n)) Tryz.func61 Tryz.ntmps61 (vl (QjT K) (vl (Qnk K) (vl (Qno K) v0)))
def QeI(K:Nat):FSp TD:=sd 146 [(.st 4)] [.bool] (fun p=>Qcm.f K (p))
theorem QeJ(K:Nat):VOk Tryz.prog GD (QeI K):=vk K .n Tryz.func146 Tryz.ntmps146 (vl (qH K) v0)
def jR(K:Nat):FSp TD:=sg 186 (.cs (.dt (.sl (.st 4))) (.cs (.fn 146 .nl) .nl)) [] [(.sl (.st 4))] [tI] (fun p=>JV.f K (p)) (.cs dI .nl) [] []
theorem jS(K:Nat):VOk Tryz.prog GD (jR K):=vk K (.s .n (.s (.s .n (.l ⟨[(8,dI)], [], [tI], [], [], []⟩ (some ⟨[], [], [], [], [], []⟩) true .n)) .n)) Tryz.func186 Tryz.ntmps186 (vl (QeJ K) v0)
def jm(K:Nat):FSp TD:=sg 145 (.cs (.dt (.sl (.st 4))) (.cs (.fn 146 .nl) .nl)) [] [(.sl (.st 4))] [.bool] (fun p=>JA.f K (p)) (.cs dF .nl) [] []
theorem jo(K:Nat):VOk Tryz.prog GD (jm K):=vk K .n Tryz.func145 Tryz.ntmps145 (vl (jS K) v0)
def QgW(K:Nat):FSp TD:=sd 86 [(.sl (.st 4))] [.bool] (fun p=>Zp.f K (p))
theorem ZO(K:Nat):VOk Tryz.prog GD (QgW K):=vk K .n Tryz.func86 Tryz.ntmps86 (vl (jo K) v0)
def Qnp(K:Nat):FSp TD:=sg 71 (.cs dI .nl) [] [tI] [tB] (fun p=>qx.f K (p)) (.cs (.own (.int .u8) 5 true) .nl) [] []
theorem qf(K:Nat):VOk Tryz.prog GD (Qnp K):=vkM K (.s .n (.s (.j ⟨[(9,dF)], [], [.bool], [], [], []⟩ .n .n) (.s .n (.s (.s .n (.l ⟨[(0,dI),(3,(.own (.int .u8) 5 true))], [], [tI,tB], [], [], []⟩ (some ⟨[(3,(.own (.int .u8) 5 true))], [], [tB], [], [], []⟩) false .n)) .n)))) Tryz.func71 Tryz.ntmps71 v0 (QtK (Zf K) Qf6) Qf7
def Qlf(K:Nat):FSp TD:=sg 147 .nl [] [] [] (fun p=>QcW.f K) (.cs (.agg (.cs (.agg (.cs (.raw .nilFunc) .nl)) (.cs (.agg (.cs (.fn 187 .nl) .nl)) (.cs (.agg (.cs (.fn 188 .nl) .nl)) (.cs (.agg (.cs (.fn 189 .nl) .nl)) (.cs (.agg (.cs (.fn 188 .nl) .nl)) (.cs (.agg (.cs (.fn 191 .nl) .nl)) (.cs (.agg (.cs (.fn 192 .nl) .nl)) .nl)))))))) .nl) [] []
theorem Qf9(K:Nat):VOk Tryz.prog GD (Qlf K):=vk K .n Tryz.func147 Tryz.ntmps147 v0
def Qiv(K:Nat):FSp TD:=sg 190 (.cs (.dt (.sl tI)) .nl) [] [(.sl tI)] [tB] (fun p=>qy.f K (p)) (.cs (.own (.int .u8) 5 true) .nl) [] []
theorem yl(K:Nat):VOk Tryz.prog GD (Qiv K):=vk K (.s .n (.s .n (.s (.s .n (.l ⟨[(3,(.own (.int .u8) 5 true)),(8,dI)], [], [tB,tI], [], [], []⟩ (some ⟨[(3,(.own (.int .u8) 5 true))], [], [tB], [], [], []⟩) false .n)) .n))) Tryz.func190 Tryz.ntmps190 (vl (qf K) v0)
def Qlg(K:Nat):FSp TD:=sg 187 (.cs (dD 4) .nl) [] [(.st 4)] [tB] (fun p=>Qbl.f K (p)) (.cs (.own (.int .u8) 5 true) .nl) [] []
theorem Qga(K:Nat):VOk Tryz.prog GD (Qlg K):=vk K (.s .n (.s .n (.s (.s .n (.l ⟨[(3,(.own (.int .u8) 5 true)),(16,dI)], [], [tB,tI], [], [], [1]⟩ (some ⟨[(3,(.own (.int .u8) 5 true))], [], [tB], [], [], [1]⟩) false .n)) .n))) Tryz.func187 Tryz.ntmps187 (vl (yl K) v0)
def Qnq(K:Nat):FSp TD:=sg 69 (.cs (.dt (.sl tB)) .nl) [] [(.sl tB)] [tB] (fun p=>Y4.f K (p)) (.cs (.own (.int .u8) 5 true) .nl) [] []
theorem jO(K:Nat):VOk Tryz.prog GD (Qnq K):=vk K .n Tryz.func69 Tryz.ntmps69 (vl (JU K) v0)
def Qlh(K:Nat):FSp TD:=sg 70 (.cs dF .nl) [] [.bool] [tB] (fun p=>yV.f K (p)) (.cs (.own (.int .u8) 5 true) .nl) [] []
theorem QaM(K:Nat):VOk Tryz.prog GD (Qlh K):=vk K .n Tryz.func70 Tryz.ntmps70 v0
def Qnr(K:Nat):FSp TD:=sg 188 (.cs (dD 4) .nl) [] [(.st 4)] [tB] (fun p=>Zq.f K (p)) (.cs (.own (.int .u8) 5 true) .nl) [] []
theorem QdN(K:Nat):VOk Tryz.prog GD (Qnr K):=vk K (.s .n (.s (.r (ob [2,12,22,32,42,52,62,72,84,100,110,96,126,136,146,152]) [] [1]) .n)) Tryz.func188 Tryz.ntmps188 (vl (yl K) (vl (QaM K) (vl (jO K) v0)))
def Qli(K:Nat):FSp TD:=sg 72 (.cs dH .nl) [] [tH] [tB] (fun p=>jy.f K (p)) (.cs (.own (.int .u8) 5 true) .nl) [] []
theorem yJ(K:Nat):VOk Tryz.prog GD (Qli K):=vk K .n Tryz.func72 Tryz.ntmps72 (vl (Jo K) v0)
def Qiw(K:Nat):FSp TD:=sg 189 (.cs (dD 4) .nl) [] [(.st 4)] [tB] (fun p=>XJ.f K (p)) (.cs (.own (.int .u8) 5 true) .nl) [] []
theorem Qdj(K:Nat):VOk Tryz.prog GD (Qiw K):=vk K (.s .n (.s (.r (ob [2,20,30,50,60,70,80,94,110,120,16,46,106,136,146,156,162]) [] [1]) .n)) Tryz.func189 Tryz.ntmps189 (vl (QdN K) (vl (QaM K) (vl (yl K) (vl (yJ K) (vl (jO K) v0)))))
def Qix(K:Nat):FSp TD:=sg 191 (.cs (dD 4) .nl) [] [(.st 4)] [tB] (fun p=>XK.f K (p)) (.cs (.own (.int .u8) 5 true) .nl) [] []
theorem Qdk(K:Nat):VOk Tryz.prog GD (Qix K):=vk K .n Tryz.func191 Tryz.ntmps191 (vl (yl K) v0)
def Qiy(K:Nat):FSp TD:=sg 192 (.cs (dD 4) .nl) [] [(.st 4)] [tB] (fun p=>XL.f K (p)) (.cs (.own (.int .u8) 5 true) .nl) [] []
theorem Qdl(K:Nat):VOk Tryz.prog GD (Qiy K):=vk K .n Tryz.func192 Tryz.ntmps192 (vl (yl K) v0)
def Qns(K:Nat):FSp TD:=sg 168 (.cs dB .nl) [] [tB] [tB] (fun p=>Qb1.f K (p)) (.cs (.own (.int .u8) 5 true) .nl) [] []
theorem Qnt(K:Nat):VOk Tryz.prog GD (Qns K):=vk K .n Tryz.func168 Tryz.ntmps168 (vl (QjK K) (vl (JU K) v0))
def QdO(K:Nat):FSp TD:=sg 167 (.cs (.dt (.sl tB)) (.cs (.fn 168 .nl) .nl)) [] [(.sl tB)] [tB] (fun p=>XM.f K (p)) (.cs (.own (.int .u8) 5 true) .nl) [] []
theorem QdP(K:Nat):VOk Tryz.prog GD (QdO K):=vk K (.s .n (.s .n (.s (.s .n (.l ⟨[(5,(.own (.int .u8) 5 true)),(10,dI)], [], [tB,tI], [], [], []⟩ (some ⟨[(5,(.own (.int .u8) 5 true))], [], [tB], [], [], []⟩) false .n)) .n))) Tryz.func167 Tryz.ntmps167 (vl (Qnt K) v0)
def Qrv(K:Nat):FSp TD:=sd 125 [tI,(.sl tB)] [tH] (fun p=>QfI.f K (p.1) (p.2))
theorem Qmy(K:Nat):VOk Tryz.prog GD (Qrv K):=vk K .n Tryz.func125 Tryz.ntmps125 (vl (QdP K) (vl (Qaf K) v0))
def QpA(K:Nat):FSp TD:=sd 63 [(.st 4)] [tH] (fun p=>QfJ.f K (p))
theorem QjU(K:Nat):VOk Tryz.prog GD (QpA K):=vk K (.s .n (.s (.j ⟨[(3,dF)], [], [.bool], [], [], []⟩ .n .n) (.s (.r (ob [2,12,22,32,46,56,66]) [1] []) .n))) Tryz.func63 Tryz.ntmps63 (vl (qH K) (vl (Qmy K) v0))
def QgX(K:Nat):FSp TD:=sg 93 (.cs (.ptr 0 0) .nl) [(52,(dD 4))] [(.st 4)] [tB] (fun p=>Zr.f K (p)) (.cs (.own (.int .u8) 5 true) .nl) [none] []
theorem QgY(K:Nat):VOk Tryz.prog GD (QgX K):=vk K .n Tryz.func93 Tryz.ntmps93 (vl (QjU K) (vl (yJ K) v0))
def QpB(K:Nat):FSp TD:=sg 92 (.cs (dD 4) (.cs (.fn 93 (.cs (.ptr 0 0) .nl)) .nl)) [(52,(dD 4))] [(.st 4),(.st 4)] [tB] (fun p=>QkM.f K (p.1) (p.2)) (.cs (.own (.int .u8) 5 true) .nl) [none] []
theorem QpC(K:Nat):VOk Tryz.prog GD (QpB K):=vk K (.s .n (.s .n (.j ⟨[(5,(.own (.int .u8) 5 true))], [], [tB], [], [], []⟩ (.r (ob [2,12,40,50,80,26,36,62,72,96,106,116,122]) [] [2]) .n))) Tryz.func92 Tryz.ntmps92 (vl (qH K) (vl (qf K) (vl (Qf9 K) (vl (Qga K) (vl (jO K) (vl (QdN K) (vl (Qdj K) (vl (Qdk K) (vl (Qdl K) (vl (QgY K) v0))))))))))
def QjV(K:Nat):FSp TD:=sg 28 (.cs (dD 4) .nl) [] [(.st 4)] [tB] (fun p=>Z8.f K (p)) (.cs (.own (.int .u8) 5 true) .nl) [] []
theorem Qer(K:Nat):VOk Tryz.prog GD (QjV K):=vk K .n Tryz.func28 Tryz.ntmps28 (vl (QpC K) v0)
def Qlj(K:Nat):FSp TD:=sd 87 [tB] [tH] (fun p=>Qbm.f K (p))
theorem Qgb(K:Nat):VOk Tryz.prog GD (Qlj K):=vk K .n Tryz.func87 Tryz.ntmps87 (vl (Qaf K) v0)
def Qgc(K:Nat):FSp TD:=sd 24 [(.sl (.st 4))] [(.sl tH)] (fun p=>Xo.f K (p))
theorem X6(K:Nat):VOk Tryz.prog GD (Qgc K):=vk K (.s .n (.s .n (.s .n (.s (.s .n (.l ⟨[(3,(.own tH 37 true)),(11,dI)], [], [(.sl tH),tI], [], [], []⟩ (some ⟨[(3,(.own tH 37 true))], [], [(.sl tH)], [], [], []⟩) false .n)) .n)))) Tryz.func24 Tryz.ntmps24 (vl (ZO K) (vl (Qer K) (vl (Qgb K) v0)))
def QjW(K:Nat):FSp TD:=sd 84 [tI] [tI] (fun p=>Xx.f K (p))
theorem QbB(K:Nat):VOk Tryz.prog GD (QjW K):=vk K (.s .n (.s .n (.s .n (.s (.l ⟨[(3,dI)], [], [tI], [], [], []⟩ (some ⟨[(3,dI)], [], [tI], [], [], []⟩) false .n) .n)))) Tryz.func84 Tryz.ntmps84 v0
def Qlk(K:Nat):FSp TD:=sd 85 [tH,tH] [tH] (fun p=>yX.f K (p.1) (p.2))
theorem QaN(K:Nat):VOk Tryz.prog GD (Qlk K):=vk K (.s .n (.s (.r (ob [4,12,22,36,46,56]) [2,3] []) .n)) Tryz.func85 Tryz.ntmps85 (vl (Qaf K) v0)
def Qgd(K k:Nat):FSp TD:=sd 23 [(.sl tH)] [tH] (fun p=>yc.r K k (p))
theorem Qll(K:Nat):∀k,VOk Tryz.prog GD (Qgd K k):=by
 intro k
 induction k with
 |zero=>exact QsF Tryz.func23 rfl (by kernel_rfl) (fun _=>rfl)
 |succ k ih=>
  exact vk K (.s .n (.s .n (.s .n (.s (.r (ob [2,12,40,50,60,26,36,76,86,96]) [] []) .n)))) Tryz.func23 Tryz.ntmps23 (vl (Qaf K) (vl (QbB K) (vl (QaN K) (vl ih v0))))
def Qlm(K:Nat):FSp TD:=Qgd K K
theorem Qge(K:Nat):VOk Tryz.prog GD (Qlm K):=Qll K K
def Qln(K:Nat):FSp TD:=sd 138 [(.st 2)] [tH] (fun p=>QcX.f K (p))
theorem Qlo(K:Nat):VOk Tryz.prog GD (Qln K):=vk K (.s .n (.s (.r (ob [2,12,30,40,26,56,66,76]) [1] []) .n)) Tryz.func138 Tryz.ntmps138 (vl (qf K) (vl (Qmy K) v0))
def Qlp(K:Nat):FSp TD:=sd 79 [(.st 0),tI,(.st 2)] [tH] (fun p=>XN.f K (p.1) (p.2.1) (p.2.2))
theorem Qgf(K:Nat):VOk Tryz.prog GD (Qlp K):=vk K (.s .n (.s (.j ⟨[(25,dF)], [], [.bool], [], [], []⟩ .n .n) (.s .n (.s (.r (ob [0,10,20,30,40,54,62,76,86,96]) [7] [3]) .n)))) Tryz.func79 Tryz.ntmps79 (vl (Qca K) (vl (Xr K) (vl (Qlo K) (vl (QjP K) v0))))
def qg(K:Nat):FSp TD:=sg 37 (.cs (dD 0) (.cs (.dt (.sl (.st 4))) .nl)) [] [(.st 0),(.sl (.st 4))] [tI,tH,(.sl (.st 1))] (fun p=>qL.f K (p.1) (p.2)) (.cs (.agg (.cs dI (.cs dH (.cs (.own (.st 1) 107 true) .nl)))) .nl) [] []
theorem Qag(K:Nat):VOk Tryz.prog GD (qg K):=vk K (.s .n (.s .n (.s .n (.s (.s .n (.l ⟨[(7,dI)], [(6,(.agg (.cs dI (.cs dH (.cs (.own (.st 1) 107 true) .nl)))))], [tI,tI,tH,(.sl (.st 1))], [], [], []⟩ (some ⟨[], [(6,(.agg (.cs dI (.cs dH (.cs (.own (.st 1) 107 true) .nl)))))], [tI,tH,(.sl (.st 1))], [], [], [2,5]⟩) false (.s .n (.s (.r (ob [0,10,20,32,42,52,66,72,84,96,102,116]) [] [6]) .n)))) .n)))) Tryz.func37 Tryz.ntmps37 (vl (X6 K) (vl (Qge K) (vl (Qgf K) v0)))
def QgZ(K:Nat):FSp TD:=sg 107 (.cs dI (.cs (.fn 108 .nl) .nl)) [] [tI] [tI] (fun p=>Qel.f K (p)) (.cs (.fn 159 (.cs (.ptr 0 0) (.cs (.ptr 1 0) .nl))) .nl) [] [(3,dI),(173,(.fn 108 .nl))]
theorem Qg0(K:Nat):VOk Tryz.prog GD (QgZ K):=vk K .n Tryz.func107 Tryz.ntmps107 v0
def QeK(K:Nat):FSp TD:=sd 108 [tI] [.bool] (fun p=>Qcn.f K (p))
theorem QeL(K:Nat):VOk Tryz.prog GD (QeK K):=vk K .n Tryz.func108 Tryz.ntmps108 v0
def QjX(K:Nat):FSp TD:=sd 16 [(.st 4)] [(.st 4)] (fun p=>Qhm.f K (p))
theorem QjY(K:Nat):VOk Tryz.prog GD (QjX K):=vk K (.s .n (.s (.j ⟨[(10,dF)], [], [.bool], [], [], []⟩ .n .n) (.s (.r (ob [0,10,22,32,50,46,66,72,86]) [] [1]) .n))) Tryz.func16 Tryz.ntmps16 (vl (qH K) (vl (Jg K) (vl (QjU K) v0)))
def Qgg(K:Nat):FSp TD:=sd 158 [(.st 4),tI,(.int .u32)] [(.st 4)] (fun p=>Qax.f K (p.1) (p.2.1) (p.2.2))
theorem QbC(K:Nat):VOk Tryz.prog GD (Qgg K):=vk K (.s .n (.s .n (.s (.r (ob [2,12,30,40,26,60,56,76,82,96]) [] [3]) .n))) Tryz.func158 Tryz.ntmps158 (vl (QjY K) (vl (Jg K) (vl (Jo K) v0)))
def Qes(K k:Nat):FSp TD:=sg 91 (.cs (.dt (.sl tH)) (.cs dI .nl)) [] [(.sl tH),tI] [(.sl tH),.bool] (fun p=>jL.r K k (p.1) (p.2)) (.cs (.own tH 37 true) (.cs dF .nl)) [] []
theorem QjZ(K:Nat):∀k,VOk Tryz.prog GD (Qes K k):=by
 intro k
 induction k with
 |zero=>exact QsF Tryz.func91 rfl (by kernel_rfl) (fun _=>rfl)
 |succ k ih=>
  exact vk K (.s .n (.s (.j ⟨[(18,dF)], [], [.bool], [], [], []⟩ .n .n) .n)) Tryz.func91 Tryz.ntmps91 (vl (QbB K) (vl (Qge K) (vl ih v0)))
def Qj0(K:Nat):FSp TD:=Qes K K
theorem Qet(K:Nat):VOk Tryz.prog GD (Qj0 K):=QjZ K K
def Qgh(K:Nat):FSp TD:=sd 122 [tI,tI,tI] [.bool] (fun p=>jh.f K (p.1) (p.2.1) (p.2.2))
theorem X7(K:Nat):VOk Tryz.prog GD (Qgh K):=vk K .n Tryz.func122 Tryz.ntmps122 v0
def QeM(K:Nat):FSp TD:=sd 162 [(.st 1)] [.bool] (fun p=>yO.f K (p))
theorem QeN(K:Nat):VOk Tryz.prog GD (QeM K):=vk K .n Tryz.func162 Tryz.ntmps162 (vl (X7 K) v0)
def jT(K:Nat):FSp TD:=sg 195 (.cs (.dt (.sl (.st 1))) (.cs (.fn 162 .nl) .nl)) [] [(.sl (.st 1))] [tI] (fun p=>Jf.f K (p)) (.cs dI .nl) [] []
theorem jU(K:Nat):VOk Tryz.prog GD (jT K):=vk K (.s .n (.s (.s .n (.l ⟨[(8,dI)], [], [tI], [], [], []⟩ (some ⟨[], [], [], [], [], []⟩) true .n)) .n)) Tryz.func195 Tryz.ntmps195 (vl (QeN K) v0)
def jq(K:Nat):FSp TD:=sg 163 (.cs (.dt (.sl (.st 1))) (.cs (.fn 162 .nl) .nl)) [] [(.sl (.st 1))] [.bool] (fun p=>YI.f K (p)) (.cs dF .nl) [] []
theorem jr(K:Nat):VOk Tryz.prog GD (jq K):=vk K .n Tryz.func163 Tryz.ntmps163 (vl (jU K) v0)
def Qg1(K:Nat):FSp TD:=sd 121 [(.st 2)] [.bool] (fun p=>Zt.f K (p))
theorem Qg2(K:Nat):VOk Tryz.prog GD (Qg1 K):=vk K .n Tryz.func121 Tryz.ntmps121 (vl (X7 K) (vl (jr K) v0))
def Qg3(K:Nat):FSp TD:=sd 60 [(.st 7)] [.bool] (fun p=>Jw.f K (p))
theorem yR(K:Nat):VOk Tryz.prog GD (Qg3 K):=vk K (.s .n (.s (.j ⟨[(31,dF)], [], [.bool], [], [], []⟩ .n .n) (.s .n (.s (.s .n (.l ⟨[(3,dI),(35,dI)], [], [tI,tI], [], [], []⟩ (some ⟨[], [], [], [], [], [1]⟩) true (.s .n (.s .n (.s (.s .n (.s (.j ⟨[(77,dF)], [], [.bool], [], [], []⟩ .n .n) .n)) .n))))) .n)))) Tryz.func60 Tryz.ntmps60 (vl (Qg2 K) (vl (qH K) (vl (X7 K) v0)))
def Qiz(K:Nat):FSp TD:=sg 106 (.cs (.dt (.sl (.st 4))) (.cs (dD 2) (.cs (.dt (.int .u32)) (.cs dF (.cs (.fn 159 (.cs (.ptr 0 0) (.cs (.ptr 1 0) .nl))) .nl))))) [(3,dI),(173,(.fn 108 .nl))] [(.sl (.st 4)),(.st 2),(.int .u32),.bool,tI] [(.st 7),.bool] (fun p=>QfK.f K (p.1) (p.2.1) (p.2.2.1) (p.2.2.2.1) (p.2.2.2.2)) (.cs (dD 7) (.cs dF .nl)) [none,none] []
theorem QiA(K:Nat):VOk Tryz.prog GD (Qiz K):=vk K (.s .n (.s (.j ⟨[(35,dF)], [], [.bool], [], [], []⟩ .n .n) (.s .n (.s (.r (ob [0,10,20,30,40,52,62,104,76,82,92,116]) [] [6,8]) (.s (.s .n (.g (.s .n (.l ⟨[(6,dI)], [(1000000000013,(.agg (.cs dF (.cs (dD 2) (.cs (.own (.st 6) 55 false) .nl)))))], [tI,.bool,(.st 2),(.sl (.st 6))], [], [], []⟩ (some ⟨[], [(1000000000013,(.agg (.cs dF (.cs (dD 2) (.cs (.own (.st 6) 55 false) .nl)))))], [.bool,(.st 2),(.sl (.st 6))], [], [], []⟩) true (.s .n (.s .n (.j ⟨[], [(1000000000013,(.agg (.cs dF (.cs (dD 2) (.cs (.own (.st 6) 55 false) .nl)))))], [.bool,(.st 2),(.sl (.st 6))], [], [], []⟩ .n .n))))) .n (.s (.j ⟨[(61,dF)], [], [.bool], [], [], []⟩ .n .n) (.s (.r (ob [0,12,22,32,42,52,62,94,76,82,106]) [] []) (.j ⟨[(73,dF)], [(15,(.agg (.cs dI (.cs (dD 4) (.cs (.own tH 37 true) .nl)))))], [.bool,tI,(.st 4),(.sl tH)], [], [], []⟩ .n .n))))) .n))))) Tryz.func106 Tryz.ntmps106 (vl (ZO K) (vl (X6 K) (vl (qm K) (vl (QeL K) (vl (QbC K) (vl (Qet K) (vl (yR K) v0)))))))
def ZP(K:Nat):FSp TD:=sd 38 [(.sl (.st 4)),(.st 2),(.int .u32)] [(.st 7),.bool] (fun p=>Qbn.f K (p.1) (p.2.1) (p.2.2))
theorem Qg4(K:Nat):VOk Tryz.prog GD (ZP K):=vk K (.s .n (.s (.r (ob [0,10,20,32,42,52,66,76,82,92,106,112]) [] [4]) .n)) Tryz.func38 Tryz.ntmps38 (vl (Qg0 K) (vl (QiA K) v0))
def QdQ(K:Nat):FSp TD:=sg 107 (.cs dI (.cs (.fn 109 (.cs (.ptr 0 0) (.cs (.ptr 1 0) .nl))) .nl)) [(64,(.dt (.sl (.st 4)))),(3,dI)] [tI,(.sl (.st 4)),tI] [tI] (fun p=>Qbo.f K (p.1) (p.2.1) (p.2.2)) (.cs (.fn 159 (.cs (.ptr 2 0) (.cs (.ptr 3 0) .nl))) .nl) [none,none] [(3,dI),(173,(.fn 109 (.cs (.ptr 0 0) (.cs (.ptr 1 0) .nl))))]
theorem QdR(K:Nat):VOk Tryz.prog GD (QdQ K):=vk K .n Tryz.func107 Tryz.ntmps107 v0
def Qgi(K:Nat):FSp TD:=sg 109 (.cs dI (.cs (.ptr 0 0) (.cs (.ptr 1 0) .nl))) [(64,(.dt (.sl (.st 4)))),(3,dI)] [tI,(.sl (.st 4)),tI] [.bool] (fun p=>QcY.f K (p.1) (p.2.1) (p.2.2)) (.cs dF .nl) [none,none] []
theorem Qgj(K:Nat):VOk Tryz.prog GD (Qgi K):=vk K (.s .n (.s (.r (ob [2,12,22,32,42,52,63,72,82,92,102,112,122,132,142,152]) [] []) .n)) Tryz.func109 Tryz.ntmps109 v0
def QeO(K:Nat):FSp TD:=sg 106 (.cs (.dt (.sl (.st 4))) (.cs (dD 2) (.cs (.dt (.int .u32)) (.cs dF (.cs (.fn 159 (.cs (.ptr 0 0) (.cs (.ptr 1 0) .nl))) .nl))))) [(3,dI),(173,(.fn 109 (.cs (.ptr 2 0) (.cs (.ptr 3 0) .nl)))),(64,(.dt (.sl (.st 4)))),(3,dI)] [(.sl (.st 4)),(.st 2),(.int .u32),.bool,tI,(.sl (.st 4)),tI] [(.st 7),.bool] (fun p=>Qco.f K (p.1) (p.2.1) (p.2.2.1) (p.2.2.2.1) (p.2.2.2.2.1) (p.2.2.2.2.2.1) (p.2.2.2.2.2.2)) (.cs (dD 7) (.cs dF .nl)) [none,none,none,none] []
theorem QeP(K:Nat):VOk Tryz.prog GD (QeO K):=vk K (.s .n (.s (.j ⟨[(35,dF)], [], [.bool], [], [], []⟩ .n .n) (.s .n (.s (.r (ob [0,10,20,30,40,52,62,104,76,82,92,116]) [] [6,8]) (.s (.s .n (.g (.s .n (.l ⟨[(6,dI)], [(1000000000013,(.agg (.cs dF (.cs (dD 2) (.cs (.own (.st 6) 55 false) .nl)))))], [tI,.bool,(.st 2),(.sl (.st 6))], [], [], []⟩ (some ⟨[], [(1000000000013,(.agg (.cs dF (.cs (dD 2) (.cs (.own (.st 6) 55 false) .nl)))))], [.bool,(.st 2),(.sl (.st 6))], [], [], []⟩) true (.s .n (.s .n (.j ⟨[], [(1000000000013,(.agg (.cs dF (.cs (dD 2) (.cs (.own (.st 6) 55 false) .nl)))))], [.bool,(.st 2),(.sl (.st 6))], [], [], []⟩ .n .n))))) .n (.s (.j ⟨[(61,dF)], [], [.bool], [], [], []⟩ .n .n) (.s (.r (ob [0,12,22,32,42,52,62,94,76,82,106]) [] []) (.j ⟨[(73,dF)], [(15,(.agg (.cs dI (.cs (dD 4) (.cs (.own tH 37 true) .nl)))))], [.bool,tI,(.st 4),(.sl tH)], [], [], []⟩ .n .n))))) .n))))) Tryz.func106 Tryz.ntmps106 (vl (ZO K) (vl (X6 K) (vl (qm K) (vl (Qgj K) (vl (QbC K) (vl (Qet K) (vl (yR K) v0)))))))
def QaO(K:Nat):FSp TD:=sd 39 [(.sl (.st 4)),(.st 2),(.int .u32),tI] [(.st 7),.bool] (fun p=>QfL.f K (p.1) (p.2.1) (p.2.2.1) (p.2.2.2))
theorem QiB(K:Nat):VOk Tryz.prog GD (QaO K):=vk K (.s .n (.s (.r (ob [0,10,20,32,42,52,62,72,82,92,106,116,122,132,146,152]) [] [4,5]) .n)) Tryz.func39 Tryz.ntmps39 (vl (QdR K) (vl (QeP K) v0))
def Qg5(K:Nat):FSp TD:=sg 74 (.cs (dD 1) .nl) [] [(.st 1)] [tB] (fun p=>Qem.f K (p)) (.cs (.own (.int .u8) 5 true) .nl) [] []
theorem Qg6(K:Nat):VOk Tryz.prog GD (Qg5 K):=vk K (.s .n (.s (.r (ob [2,12,30,40,26,56,66,76,82]) [] [1]) .n)) Tryz.func74 Tryz.ntmps74 (vl (qf K) (vl (yJ K) (vl (jO K) v0)))
def QbD(K:Nat):FSp TD:=sg 73 (.cs (.dt (.sl (.st 1))) (.cs (.fn 74 .nl) .nl)) [] [(.sl (.st 1))] [tB] (fun p=>XO.f K (p)) (.cs (.own (.int .u8) 5 true) .nl) [] []
theorem QbE(K:Nat):VOk Tryz.prog GD (QbD K):=vk K (.s .n (.s .n (.s (.s .n (.l ⟨[(5,(.own (.int .u8) 5 true)),(13,dI)], [], [tB,tI], [], [], []⟩ (some ⟨[(5,(.own (.int .u8) 5 true))], [], [tB], [], [], []⟩) false .n)) .n))) Tryz.func73 Tryz.ntmps73 (vl (qf K) (vl (Qg6 K) v0))
def Qj1(K:Nat):FSp TD:=sg 137 (.cs dB .nl) [] [tB] [tB] (fun p=>Qhn.f K (p)) (.cs (.own (.int .u8) 5 true) .nl) [] []
theorem Qj2(K:Nat):VOk Tryz.prog GD (Qj1 K):=vk K .n Tryz.func137 Tryz.ntmps137 (vl (qf K) v0)
def Qj3(K:Nat):FSp TD:=sg 136 (.cs (.ptr 0 0) .nl) [(52,(dD 4))] [(.st 4)] [tB] (fun p=>Qho.f K (p)) (.cs (.own (.int .u8) 5 true) .nl) [none] []
theorem Qj4(K:Nat):VOk Tryz.prog GD (Qj3 K):=vk K (.s .n (.s (.s .n (.s (.s (.r (ob [10,20,6,36,46,56,62]) [] [0]) .n) .n)) (.s (.r (ob [10,20,40,50,6,36,66,76,86,92]) [] [0]) .n))) Tryz.func136 Tryz.ntmps136 (vl (QaM K) (vl (yJ K) (vl (jO K) (vl (Qj2 K) v0))))
def Qj5(K:Nat):FSp TD:=sg 92 (.cs (dD 4) (.cs (.fn 136 (.cs (.ptr 0 0) .nl)) .nl)) [(52,(dD 4))] [(.st 4),(.st 4)] [tB] (fun p=>Qhp.f K (p.1) (p.2)) (.cs (.own (.int .u8) 5 true) .nl) [none] []
theorem Qj6(K:Nat):VOk Tryz.prog GD (Qj5 K):=vk K (.s .n (.s .n (.j ⟨[(5,(.own (.int .u8) 5 true))], [], [tB], [], [], []⟩ (.r (ob [2,12,40,50,80,26,36,62,72,96,106,116,122]) [] [2]) .n))) Tryz.func92 Tryz.ntmps92 (vl (qH K) (vl (qf K) (vl (Qf9 K) (vl (Qga K) (vl (jO K) (vl (QdN K) (vl (Qdj K) (vl (Qdk K) (vl (Qdl K) (vl (Qj4 K) v0))))))))))
def Qnu(K:Nat):FSp TD:=sg 77 (.cs (dD 4) .nl) [] [(.st 4)] [tB] (fun p=>Qh3.f K (p)) (.cs (.own (.int .u8) 5 true) .nl) [] []
theorem Qhz(K:Nat):VOk Tryz.prog GD (Qnu K):=vk K .n Tryz.func77 Tryz.ntmps77 (vl (Qj6 K) v0)
def QaZ(K:Nat):FSp TD:=sg 135 (.cs (.dt (.sl tH)) (.cs (.fn 72 .nl) .nl)) [] [(.sl tH)] [tB] (fun p=>Xh.f K (p)) (.cs (.own (.int .u8) 5 true) .nl) [] []
theorem Qa0(K:Nat):VOk Tryz.prog GD (QaZ K):=vk K (.s .n (.s .n (.s (.s .n (.l ⟨[(5,(.own (.int .u8) 5 true)),(13,dI)], [], [tB,tI], [], [], []⟩ (some ⟨[(5,(.own (.int .u8) 5 true))], [], [tB], [], [], []⟩) false .n)) .n))) Tryz.func135 Tryz.ntmps135 (vl (qf K) (vl (yJ K) v0))
def QiC(K:Nat):FSp TD:=sg 76 (.cs (dD 6) .nl) [] [(.st 6)] [tB] (fun p=>QfM.f K (p)) (.cs (.own (.int .u8) 5 true) .nl) [] []
theorem QiD(K:Nat):VOk Tryz.prog GD (QiC K):=vk K (.s .n (.s (.r (ob [2,12,30,40,60,70,26,56,86,96,106,112]) [] [1]) .n)) Tryz.func76 Tryz.ntmps76 (vl (qf K) (vl (Qhz K) (vl (Qa0 K) (vl (jO K) v0))))
def Qa1(K:Nat):FSp TD:=sg 75 (.cs (.dt (.sl (.st 6))) (.cs (.fn 76 .nl) .nl)) [] [(.sl (.st 6))] [tB] (fun p=>Xi.f K (p)) (.cs (.own (.int .u8) 5 true) .nl) [] []
theorem Qa2(K:Nat):VOk Tryz.prog GD (Qa1 K):=vk K (.s .n (.s .n (.s (.s .n (.l ⟨[(5,(.own (.int .u8) 5 true)),(13,dI)], [], [tB,tI], [], [], []⟩ (some ⟨[(5,(.own (.int .u8) 5 true))], [], [tB], [], [], []⟩) false .n)) .n))) Tryz.func75 Tryz.ntmps75 (vl (qf K) (vl (QiD K) v0))
def QbF(K:Nat):FSp TD:=sg 18 (.cs (dD 7) .nl) [] [(.st 7)] [tB] (fun p=>Z9.f K (p)) (.cs (.own (.int .u8) 5 true) .nl) [] []
theorem Qj7(K:Nat):VOk Tryz.prog GD (QbF K):=vk K (.s .n (.s .n (.s (.r (ob [4,18,22,32,50,60,70,90,100,110,130,140,150,46,86,126,166,176,186,192]) [] [1]) (.s .n (.s (.s .n (.l ⟨[(3,(.own (.int .u8) 5 true)),(39,dI)], [], [tB,tI], [], [], [1]⟩ (some ⟨[(3,(.own (.int .u8) 5 true))], [], [tB], [], [], [1]⟩) false .n)) .n))))) Tryz.func18 Tryz.ntmps18 (vl (yR K) (vl (QaM K) (vl (qf K) (vl (yJ K) (vl (QbE K) (vl (jO K) (vl (Qa2 K) (vl (Qhz K) v0))))))))
def QbG(K:Nat):FSp TD:=sp 65 (.cs dF (.cs dI .nl)) [] [.bool,tI] [] (120,true) (fun p=>Yl.fs K (p.1) (p.2)) [] .nl [] []
theorem jP(K:Nat):VOk Tryz.prog GD (QbG K):=vkP K .n Tryz.func65 Tryz.ntmps65 v0 rfl
def QdS(K:Nat):FSp TD:=sd 110 [tB,tB] [.bool] (fun p=>bytes_HasPrefix.f K (p.1) (p.2))
theorem QdT(K:Nat):VOk Tryz.prog GD (QdS K):=vk K .n Tryz.func110 Tryz.ntmps110 (vl (Qdi K) v0)
def QdU(K:Nat):FSp TD:=sd 45 [tB,tB] [tB,.bool] (fun p=>bytes_CutPrefix.f K (p.1) (p.2))
theorem QdV(K:Nat):VOk Tryz.prog GD (QdU K):=vk K .n Tryz.func45 Tryz.ntmps45 (vl (QdT K) v0)
def Qlq(K:Nat):FSp TD:=sg 46 (.cs dB .nl) [] [tB] [(.st 10)] (fun p=>QcZ.f K (p)) (.cs (.ptr 0 0) .nl) [] [(176,(dD 10))]
theorem Qlr(K:Nat):VOk Tryz.prog GD (Qlq K):=vk K .n Tryz.func46 Tryz.ntmps46 (vl (Jo K) v0)
def QdW(K:Nat):FSp TD:=sg 118 (.cs (.ptr 0 0) .nl) [(176,(dD 10))] [(.st 10)] [tI] (fun p=>QC.f K (p)) (.cs dI .nl) [none] []
theorem YC(K:Nat):VOk Tryz.prog GD (QdW K):=vk K .n Tryz.func118 Tryz.ntmps118 v0
def Qce(K:Nat):FSp TD:=sd 113 [tB] [.bool,tI,tI] (fun p=>JK.f K (p))
theorem Qcf(K:Nat):VOk Tryz.prog GD (Qce K):=vk K .n Tryz.func113 Tryz.ntmps113 v0
def Qdm(K:Nat):FSp TD:=sg 49 (.cs (.ptr 0 0) (.cs dI .nl)) [(176,(dD 10))] [tI,(.st 10)] [(.st 10)] (fun p=>QX.f K (p.1) (p.2)) .nl [some (dD 10)] []
theorem Yt(K:Nat):VOk Tryz.prog GD (Qdm K):=vk K (.j ⟨[(16,dF)], [], [.bool], [], [], []⟩ .n .n) Tryz.func49 Tryz.ntmps49 v0
def QeQ(K:Nat):FSp TD:=sg 112 (.cs (.ptr 0 0) (.cs (.fn 113 .nl) .nl)) [(176,(dD 10))] [(.st 10)] [.bool,(.st 10)] (fun p=>qK.f K (p)) (.cs dF .nl) [some (dD 10)] []
theorem QeR(K:Nat):VOk Tryz.prog GD (QeQ K):=vk K .n Tryz.func112 Tryz.ntmps112 (vl (YC K) (vl (Qcf K) (vl (Yt K) v0)))
def Qdn(K:Nat):FSp TD:=sg 47 (.cs (.ptr 0 0) .nl) [(176,(dD 10))] [(.st 10)] [.bool,(.st 10)] (fun p=>Yq.f K (p)) (.cs dF .nl) [some (dD 10)] []
theorem Zz(K:Nat):VOk Tryz.prog GD (Qdn K):=vk K .n Tryz.func47 Tryz.ntmps47 (vl (QeR K) v0)
def QiE(K:Nat):FSp TD:=sd 115 [tB] [tI,tI,tI] (fun p=>XP.f K (p))
theorem Qdo(K:Nat):VOk Tryz.prog GD (QiE K):=vk K (.s .n (.s .n (.s (.s .n (.l ⟨[(5,dI),(10,dI)], [], [tI,tI], [], [], []⟩ (some ⟨[], [], [], [], [], []⟩) true (.s .n (.s .n (.s (.s .n (.s (.j ⟨[(24,dF)], [], [.bool], [], [], []⟩ .n .n) .n)) .n))))) .n))) Tryz.func115 Tryz.ntmps115 v0
def Qgk(K:Nat):FSp TD:=sg 114 (.cs (.ptr 0 0) (.cs (.fn 115 .nl) .nl)) [(176,(dD 10))] [(.st 10)] [tI,(.st 10)] (fun p=>yf.f K (p)) (.cs dI .nl) [some (dD 10)] []
theorem Qgl(K:Nat):VOk Tryz.prog GD (Qgk K):=vk K .n Tryz.func114 Tryz.ntmps114 (vl (YC K) (vl (Qdo K) (vl (Yt K) v0)))
def QdX(K:Nat):FSp TD:=sg 48 (.cs (.ptr 0 0) .nl) [(176,(dD 10))] [(.st 10)] [tI,(.st 10)] (fun p=>Qz.f K (p)) (.cs dI .nl) [some (dD 10)] []
theorem qh(K:Nat):VOk Tryz.prog GD (QdX K):=vk K .n Tryz.func48 Tryz.ntmps48 (vl (Qgl K) v0)
def Qcg(K:Nat):FSp TD:=sd 117 [tB] [tH,tI,tI] (fun p=>qO.f K (p))
theorem Qch(K:Nat):VOk Tryz.prog GD (Qcg K):=vk K .n Tryz.func117 Tryz.ntmps117 v0
def Qci(K:Nat):FSp TD:=sg 116 (.cs (.ptr 0 0) (.cs (.fn 117 .nl) .nl)) [(176,(dD 10))] [(.st 10)] [tH,(.st 10)] (fun p=>JL.f K (p)) (.cs dH .nl) [some (dD 10)] []
theorem Qcj(K:Nat):VOk Tryz.prog GD (Qci K):=vk K .n Tryz.func116 Tryz.ntmps116 (vl (YC K) (vl (Qch K) (vl (Yt K) v0)))
def Qdp(K:Nat):FSp TD:=sg 50 (.cs (.ptr 0 0) .nl) [(176,(dD 10))] [(.st 10)] [tH,(.st 10)] (fun p=>Yh.f K (p)) (.cs dH .nl) [some (dD 10)] []
theorem qP(K:Nat):VOk Tryz.prog GD (Qdp K):=vk K .n Tryz.func50 Tryz.ntmps50 (vl (Qcj K) v0)
def Qg7(K:Nat):FSp TD:=sg 52 (.cs dI (.cs (.ptr 0 0) .nl)) [(100,(.ptr 1 0)),(176,(dD 10))] [tI,(.st 10)] [(.st 1),(.st 10)] (fun p=>Qbp.f K (p.1) (p.2)) (.cs (dD 1) .nl) [none,some (dD 10)] []
theorem Qg8(K:Nat):VOk Tryz.prog GD (Qg7 K):=vk K (.s .n (.s (.r (ob [2,20,16,36,42,56]) [] [1]) .n)) Tryz.func52 Tryz.ntmps52 (vl (qh K) (vl (qP K) v0))
def QbH(K:Nat):FSp TD:=sg 51 (.cs (.ptr 0 0) (.cs dI (.cs dI (.cs (.fn 52 (.cs (.ptr 1 0) .nl)) .nl)))) [(176,(dD 10)),(100,(.ptr 0 0))] [tI,tI,(.st 10)] [(.sl (.st 1)),(.st 10)] (fun p=>JB.f K (p.1) (p.2.1) (p.2.2)) (.cs (.own (.st 1) 107 true) .nl) [some (dD 10),none] []
theorem QbI(K:Nat):VOk Tryz.prog GD (QbH K):=vk K (.s .n (.j ⟨[], [(0,(dD 10))], [(.st 10)], [], [], []⟩ .n (.s .n (.s (.s .n (.l ⟨[(9,(.own (.st 1) 107 true)),(17,dI)], [(0,(dD 10))], [(.sl (.st 1)),tI,(.st 10)], [], [], []⟩ (some ⟨[(9,(.own (.st 1) 107 true))], [(0,(dD 10))], [(.sl (.st 1)),(.st 10)], [], [], []⟩) false .n)) .n)))) Tryz.func51 Tryz.ntmps51 (vl (Yt K) (vl (YC K) (vl (Qg8 K) v0)))
def Qls(K:Nat):FSp TD:=sg 119 (.cs (.ptr 0 0) .nl) [(176,(dD 10))] [(.st 10)] [(.sl (.st 3)),(.st 10)] (fun p=>Qbq.f K (p)) (.cs (.own (.st 3) 90 true) .nl) [some (dD 10)] []
theorem Qlt(K:Nat):VOk Tryz.prog GD (Qls K):=vk K (.s .n (.s .n (.j ⟨[], [(0,(dD 10))], [(.st 10)], [], [], []⟩ .n (.s .n (.s (.s .n (.l ⟨[(4,(.own (.st 3) 90 true)),(12,dI)], [(0,(dD 10))], [(.sl (.st 3)),tI,(.st 10)], [], [], []⟩ (some ⟨[(4,(.own (.st 3) 90 true))], [(0,(dD 10))], [(.sl (.st 3)),(.st 10)], [], [], []⟩) false .n)) .n))))) Tryz.func119 Tryz.ntmps119 (vl (qh K) (vl (Yt K) (vl (YC K) v0)))
def QbJ(K:Nat):FSp TD:=sg 161 (.cs dB (.cs (.ptr 0 0) .nl)) [(3,dI)] [tB,tI] [tB,tI,tI] (fun p=>Jh.f K (p.1) (p.2)) (.cs (.own (.int .u8) 5 true) (.cs dI (.cs dI .nl))) [none] []
theorem QbK(K:Nat):VOk Tryz.prog GD (QbJ K):=vk K .n Tryz.func161 Tryz.ntmps161 (vl (Qdo K) (vl (Jo K) v0))
def QeS(K:Nat):FSp TD:=sg 160 (.cs (.ptr 0 0) (.cs (.fn 161 (.cs (.ptr 1 0) .nl)) .nl)) [(176,(dD 10)),(3,dI)] [(.st 10),tI] [tB,(.st 10)] (fun p=>JS.f K (p.1) (p.2)) (.cs (.own (.int .u8) 5 true) .nl) [some (dD 10),none] []
theorem QeT(K:Nat):VOk Tryz.prog GD (QeS K):=vk K .n Tryz.func160 Tryz.ntmps160 (vl (YC K) (vl (QbK K) (vl (Yt K) v0)))
def QcE(K:Nat):FSp TD:=sg 120 (.cs (.ptr 0 0) (.cs dI .nl)) [(176,(dD 10))] [tI,(.st 10)] [tB,(.st 10)] (fun p=>YB.f K (p.1) (p.2)) (.cs (.own (.int .u8) 5 true) .nl) [some (dD 10)] []
theorem QcF(K:Nat):VOk Tryz.prog GD (QcE K):=vk K .n Tryz.func120 Tryz.ntmps120 (vl (QeT K) v0)
def Qnv(K:Nat):FSp TD:=sg 55 (.cs (.ptr 0 0) .nl) [(176,(dD 10))] [(.st 10)] [(.st 4),(.st 10)] (fun p=>Qc0.f K (p)) (.cs (dD 4) .nl) [some (dD 10)] []
theorem QhA(K:Nat):VOk Tryz.prog GD (Qnv K):=vk K (.s .n (.s .n (.j ⟨[], [(0,(dD 10)),(3,(.agg (.cs dI (.cs dI (.cs dI (.cs dI (.cs dI (.cs dF (.cs dF (.cs dI (.cs dI (.cs dI (.cs dH (.cs (.dt (.sl (.st 3))) (.cs dB (.cs dH (.cs dF (.cs dH .nl))))))))))))))))))], [(.st 10),tI,tI,tI,tI,tI,.bool,.bool,tI,tI,tI,tH,(.sl (.st 3)),tB,tH,.bool,tH], [], [], []⟩ (.s .n (.s .n (.s .n (.j ⟨[(33,dF)], [], [.bool], [], [], []⟩ .n .n)))) (.j ⟨[], [(0,(dD 10))], [(.st 10)], [], [], []⟩ .n .n)))) Tryz.func55 Tryz.ntmps55 (vl (qh K) (vl (Qlt K) (vl (Zz K) (vl (qP K) (vl (QcF K) (vl (Yt K) (vl (qH K) (vl (YC K) v0))))))))
def Qg9(K:Nat):FSp TD:=sg 54 (.cs dI (.cs (.ptr 0 0) .nl)) [(100,(.ptr 1 0)),(176,(dD 10))] [tI,(.st 10)] [(.st 6),(.st 10)] (fun p=>Zu.f K (p.1) (p.2)) (.cs (dD 6) .nl) [none,some (dD 10)] []
theorem Qha(K:Nat):VOk Tryz.prog GD (Qg9 K):=vk K .n Tryz.func54 Tryz.ntmps54 (vl (QhA K) v0)
def Qa3(K:Nat):FSp TD:=sg 53 (.cs (.ptr 0 0) (.cs dI (.cs dI (.cs (.fn 54 (.cs (.ptr 1 0) .nl)) .nl)))) [(176,(dD 10)),(100,(.ptr 0 0))] [tI,tI,(.st 10)] [(.sl (.st 6)),(.st 10)] (fun p=>Js.f K (p.1) (p.2.1) (p.2.2)) (.cs (.own (.st 6) 55 true) .nl) [some (dD 10),none] []
theorem Qa4(K:Nat):VOk Tryz.prog GD (Qa3 K):=vk K (.s .n (.j ⟨[], [(0,(dD 10))], [(.st 10)], [], [], []⟩ .n (.s .n (.s (.s .n (.l ⟨[(9,(.own (.st 6) 55 true)),(17,dI)], [(0,(dD 10))], [(.sl (.st 6)),tI,(.st 10)], [], [], []⟩ (some ⟨[(9,(.own (.st 6) 55 true))], [(0,(dD 10))], [(.sl (.st 6)),(.st 10)], [], [], []⟩) false .n)) .n)))) Tryz.func53 Tryz.ntmps53 (vl (Yt K) (vl (YC K) (vl (Qha K) v0)))
def QeU(K:Nat):FSp TD:=sg 58 (.cs dI (.cs (.ptr 0 0) .nl)) [(100,(.ptr 1 0)),(176,(dD 10))] [tI,(.st 10)] [tH,(.st 10)] (fun p=>ZL.f K (p.1) (p.2)) (.cs dH .nl) [none,some (dD 10)] []
theorem QeV(K:Nat):VOk Tryz.prog GD (QeU K):=vk K .n Tryz.func58 Tryz.ntmps58 (vl (qP K) v0)
def Qa5(K:Nat):FSp TD:=sg 57 (.cs (.ptr 0 0) (.cs dI (.cs dI (.cs (.fn 58 (.cs (.ptr 1 0) .nl)) .nl)))) [(176,(dD 10)),(100,(.ptr 0 0))] [tI,tI,(.st 10)] [(.sl tH),(.st 10)] (fun p=>JX.f K (p.1) (p.2.1) (p.2.2)) (.cs (.own tH 37 true) .nl) [some (dD 10),none] []
theorem Qa6(K:Nat):VOk Tryz.prog GD (Qa5 K):=vk K (.s .n (.j ⟨[], [(0,(dD 10))], [(.st 10)], [], [], []⟩ .n (.s .n (.s (.s .n (.l ⟨[(9,(.own tH 37 true)),(17,dI)], [(0,(dD 10))], [(.sl tH),tI,(.st 10)], [], [], []⟩ (some ⟨[(9,(.own tH 37 true))], [(0,(dD 10))], [(.sl tH),(.st 10)], [], [], []⟩) false .n)) .n)))) Tryz.func57 Tryz.ntmps57 (vl (Yt K) (vl (YC K) (vl (QeV K) v0)))
def Qhb(K:Nat):FSp TD:=sg 56 (.cs dI (.cs (.ptr 0 0) .nl)) [(100,(.ptr 1 0)),(176,(dD 10))] [tI,(.st 10)] [(.st 6),(.st 10)] (fun p=>Zv.f K (p.1) (p.2)) (.cs (dD 6) .nl) [none,some (dD 10)] []
theorem Qhc(K:Nat):VOk Tryz.prog GD (Qhb K):=vk K (.s .n (.s (.r (ob [2,20,54,16,36,42,66]) [] [1]) (.s (.r (ob [0,12,30,26,46,52,66]) [] [1]) .n))) Tryz.func56 Tryz.ntmps56 (vl (qh K) (vl (QhA K) (vl (Qa6 K) v0)))
def ZQ(K:Nat):FSp TD:=sg 53 (.cs (.ptr 0 0) (.cs dI (.cs dI (.cs (.fn 56 (.cs (.ptr 1 0) .nl)) .nl)))) [(176,(dD 10)),(100,(.ptr 0 0))] [tI,tI,(.st 10)] [(.sl (.st 6)),(.st 10)] (fun p=>Y9.f K (p.1) (p.2.1) (p.2.2)) (.cs (.own (.st 6) 55 true) .nl) [some (dD 10),none] []
theorem ZR(K:Nat):VOk Tryz.prog GD (ZQ K):=vk K (.s .n (.j ⟨[], [(0,(dD 10))], [(.st 10)], [], [], []⟩ .n (.s .n (.s (.s .n (.l ⟨[(9,(.own (.st 6) 55 true)),(17,dI)], [(0,(dD 10))], [(.sl (.st 6)),tI,(.st 10)], [], [], []⟩ (some ⟨[(9,(.own (.st 6) 55 true))], [(0,(dD 10))], [(.sl (.st 6)),(.st 10)], [], [], []⟩) false .n)) .n)))) Tryz.func53 Tryz.ntmps53 (vl (Yt K) (vl (YC K) (vl (Qhc K) v0)))
def Qdq(K:Nat):FSp TD:=sg 59 (.cs (.ptr 0 0) .nl) [(176,(dD 10))] [(.st 10)] [tI] (fun p=>YX.f K (p)) (.cs dI .nl) [none] []
theorem Qdr(K:Nat):VOk Tryz.prog GD (Qdq K):=vk K .n Tryz.func59 Tryz.ntmps59 (vl (YC K) v0)
def QbL(K:Nat):FSp TD:=sd 15 [tB] [(.st 7),tI] (fun p=>Xy.f K (p))
theorem Qeu(K:Nat):VOk Tryz.prog GD (QbL K):=vk K (.s .n (.s .n (.s .n (.s .n (.s .n (.s .n (.j ⟨[], [(1000000006,(dD 10))], [(.st 10)], [], [], []⟩ .n (.s .n (.s (.r (ob [0,12,30,26,46,52,62,76]) [] [6]) (.j ⟨[], [(7,(.agg (.cs dF (.cs (.agg (.cs dI (.cs dH (.cs (.own (.st 1) 107 true) .nl)))) (.cs (.own (.st 6) 55 true) .nl))))),(1000000006,(dD 10))], [.bool,tI,tH,(.sl (.st 1)),(.sl (.st 6)),(.st 10)], [], [], []⟩ (.s .n (.s .n (.r (ob [0,12,30,40,50,60,26,76,82,96]) [] [6,7]))) .n)))))))))) Tryz.func15 Tryz.ntmps15 (vl (QdV K) (vl (Qlr K) (vl (Zz K) (vl (qh K) (vl (Yt K) (vl (qP K) (vl (QbI K) (vl (Qa4 K) (vl (ZR K) (vl (Qdr K) (vl (yR K) v0)))))))))))
def QiF(K:Nat):FSp TD:=sg 178 (.cs dI (.cs (.ptr 0 0) (.cs (.ptr 1 0) (.cs (.ptr 2 0) .nl)))) [(5,(.dt (.int .u8))),(37,dH),(37,dH)] [tI,(.int .u8),tH,tH] [(.int .u8)] (fun p=>Qaz.f K (p.1) (p.2.1) (p.2.2.1) (p.2.2.2)) .nl [some (.dt (.int .u8)),none,none] []
theorem QiG(K:Nat):VOk Tryz.prog GD (QiF K):=vk K (.r (ob [2,12,22,32,42,52,62,72,82,96]) [] []) Tryz.func178 Tryz.ntmps178 v0
def Qlu(K:Nat):FSp TD:=sd 140 [tH,tH] [.bool] (fun p=>XQ.f K (p.1) (p.2))
theorem Qgm(K:Nat):VOk Tryz.prog GD (Qlu K):=vk K (.s .n (.s .n (.s .n (.s (.s .n (.l ⟨[(9,dI)], [(5,(.dt (.int .u8)))], [tI,(.int .u8)], [], [], []⟩ (some ⟨[], [(5,(.dt (.int .u8)))], [(.int .u8)], [], [], [2,3]⟩) false .n)) .n)))) Tryz.func140 Tryz.ntmps140 (vl (QiG K) v0)
def Qhd(K:Nat):FSp TD:=sd 80 [(.st 11),tH] [.bool] (fun p=>yY.f K (p.1) (p.2))
theorem Qcq(K:Nat):VOk Tryz.prog GD (Qhd K):=vk K .n Tryz.func80 Tryz.ntmps80 (vl (Qgm K) v0)
def QbM(K:Nat):FSp TD:=sd 19 [(.st 0),(.st 2)] [tI] (fun p=>Qaa.f K (p.1) (p.2))
theorem Qj8(K:Nat):VOk Tryz.prog GD (QbM K):=vk K (.s .n (.s (.j ⟨[(17,dF)], [], [.bool], [], [], []⟩ .n .n) (.s .n (.s (.s .n (.l ⟨[(21,dI)], [(5,(.dt (.vec 4 .bool)))], [tI,(.vec 4 .bool)], [], [], []⟩ (some ⟨[], [], [], [], [], [5]⟩) true (.s .n (.s .n (.s (.s .n (.s (.j ⟨[(38,dF)], [], [.bool], [], [], []⟩ .n .n) .n)) .n))))) .n)))) Tryz.func19 Tryz.ntmps19 (vl (Qca K) (vl (Xr K) (vl (Qgf K) (vl (Qcq K) v0))))
def Qj9(K:Nat):FSp TD:=sd 127 [(.st 4)] [tH] (fun p=>yI.f K (p))
theorem Qev(K:Nat):VOk Tryz.prog GD (Qj9 K):=vk K .n Tryz.func127 Tryz.ntmps127 (vl (Qer K) (vl (Qgb K) v0))
def ZT(K:Nat):FSp TD:=sg 169 (.cs (.ptr 0 0) .nl) [(189,(.agg (.cs (.agg (.cs (.own tH 37 true) .nl)) (.cs dI .nl))))] [(.sl tH),tI] [tH,(.sl tH),tI] (fun p=>qC.f K (p.1) (p.2)) (.cs dH .nl) [some (.agg (.cs (.agg (.cs (.own tH 37 true) .nl)) (.cs dI .nl)))] []
theorem ZU(K:Nat):VOk Tryz.prog GD (ZT K):=vk K (.s .n (.s (.r (ob [2,12,22,32,42,52,62,72,82,92,102,112,124,136]) [] []) (.s (.r (ob [0,12,22,32,42,52,62,72,82,92,102,116,122,132,146]) [] []) .n))) Tryz.func169 Tryz.ntmps169 v0
def Zg(K:Nat):FSp TD:=sg 170 (.cs (.ptr 0 0) (.cs dH .nl)) [(189,(.agg (.cs (.agg (.cs (.own tH 37 true) .nl)) (.cs dI .nl))))] [tH,(.sl tH),tI] [(.sl tH),tI] (fun p=>J6.f K (p.1) (p.2.1) (p.2.2)) .nl [some (.agg (.cs (.agg (.cs (.own tH 37 true) .nl)) (.cs dI .nl)))] []
theorem Zh(K:Nat):VOk Tryz.prog GD (Zg K):=vk K (.s .n (.r (ob [0,12,22,32,42,52,64,76,82,92,106]) [] [])) Tryz.func170 Tryz.ntmps170 v0
def QeW(K:Nat):FSp TD:=sg 126 (.cs (.ptr 0 0) (.cs dH .nl)) [(189,(.agg (.cs (.agg (.cs (.own tH 37 true) .nl)) (.cs dI .nl))))] [tH,(.sl tH),tI] [(.sl tH),tI] (fun p=>yP.f K (p.1) (p.2.1) (p.2.2)) .nl [some (.agg (.cs (.agg (.cs (.own tH 37 true) .nl)) (.cs dI .nl)))] []
theorem QeX(K:Nat):VOk Tryz.prog GD (QeW K):=vk K (.s .n (.s .n (.s (.s .n (.l ⟨[(4,dI)], [(0,(.agg (.cs (.agg (.cs (.own tH 37 true) .nl)) (.cs dI .nl)))),(3,dH)], [tI,(.sl tH),tI,tH], [], [], []⟩ (some ⟨[], [(0,(.agg (.cs (.agg (.cs (.own tH 37 true) .nl)) (.cs dI .nl)))),(3,dH)], [(.sl tH),tI,tH], [], [], []⟩) false (.s .n (.s (.r (ob [2,12,22,40,36,56,66]) [] [3]) .n)))) (.s (.r (ob [2,12,22,32,46]) [] []) .n)))) Tryz.func126 Tryz.ntmps126 (vl (ZU K) (vl (QaN K) (vl (Zh K) v0)))
def QdY(K:Nat):FSp TD:=sg 171 (.cs (.ptr 0 0) .nl) [(189,(.agg (.cs (.agg (.cs (.own tH 37 true) .nl)) (.cs dI .nl))))] [(.sl tH),tI] [tI,(.sl tH),tI] (fun p=>XR.f K (p.1) (p.2)) (.cs dI .nl) [some (.agg (.cs (.agg (.cs (.own tH 37 true) .nl)) (.cs dI .nl)))] []
theorem QdZ(K:Nat):VOk Tryz.prog GD (QdY K):=vk K .n Tryz.func171 Tryz.ntmps171 v0
def Zi(K:Nat):FSp TD:=sg 172 (.cs (.ptr 0 0) .nl) [(189,(.agg (.cs (.agg (.cs (.own tH 37 true) .nl)) (.cs dI .nl))))] [(.sl tH),tI] [(.sl tH),tI] (fun p=>J7.f K (p.1) (p.2)) (.cs (.fn 197 (.cs (.ptr 1 0) .nl)) .nl) [some (.agg (.cs (.agg (.cs (.own tH 37 true) .nl)) (.cs dI .nl)))] [(264,(.ptr 0 0))]
theorem Zj(K:Nat):VOk Tryz.prog GD (Zi K):=vk K .n Tryz.func172 Tryz.ntmps172 v0
def Qd0(K:Nat):FSp TD:=sg 128 (.cs (.ptr 0 0) .nl) [(189,(.agg (.cs (.agg (.cs (.own tH 37 true) .nl)) (.cs dI .nl))))] [(.sl tH),tI] [tH,(.sl tH),tI] (fun p=>yg.f K (p.1) (p.2)) (.cs dH .nl) [some (.agg (.cs (.agg (.cs (.own tH 37 true) .nl)) (.cs dI .nl)))] []
theorem Qd1(K:Nat):VOk Tryz.prog GD (Qd0 K):=vk K (.s .n (.s .n (.s .n (.s .n (.s (.s .n (.g (.s .n (.l ⟨[(3,dI)], [(1000000000003,dH),(1000000000004,dF)], [tI,tH,.bool], [], [], []⟩ (some ⟨[], [(1000000000003,dH),(1000000000004,dF)], [tH,.bool], [], [], []⟩) false (.s .n (.j ⟨[], [(1000000000003,dH),(1000000000004,dF)], [tH,.bool], [], [], []⟩ .n .n)))) .n .n)) .n))))) Tryz.func128 Tryz.ntmps128 (vl (QdZ K) (vl (Qaf K) (vl (Zj K) (vl (QaN K) v0))))
def Qka(K:Nat):FSp TD:=sd 21 [(.st 0),(.st 4)] [.bool] (fun p=>Qb2.f K (p.1) (p.2))
theorem Qkb(K:Nat):VOk Tryz.prog GD (Qka K):=vk K (.s .n (.s .n (.j ⟨[(4,dF)], [], [.bool], [], [], [2,3]⟩ .n .n))) Tryz.func21 Tryz.ntmps21 (vl (Qcp K) (vl (qH K) (vl (QbA K) (vl (Qcq K) v0))))
def QaP(K:Nat):FSp TD:=sp 129 (.cs (dD 12) (.cs (dD 4) .nl)) [] [(.st 12),(.st 4)] [] (120,true) (fun p=>Y0.fs K (p.1) (p.2)) [] .nl [] []
theorem yu(K:Nat):VOk Tryz.prog GD (QaP K):=vkP K .n Tryz.func129 Tryz.ntmps129 (vl (Qkb K) (vl (jP K) v0)) rfl
def QiH(K:Nat):FSp TD:=sd 198 [tI,tI,tI] [.bool] (fun p=>qE.f K (p.1) (p.2.1) (p.2.2))
theorem Xt(K:Nat):VOk Tryz.prog GD (QiH K):=vk K .n Tryz.func198 Tryz.ntmps198 v0
def Qnw(K:Nat):FSp TD:=sd 173 [(.sl (.st 3))] [.bool] (fun p=>Qb3.f K (p))
theorem Qd2(K:Nat):VOk Tryz.prog GD (Qnw K):=vk K (.s .n (.s .n (.s .n (.s (.s .n (.l ⟨[(3,dI),(12,dI)], [], [tI,tI], [], [], []⟩ (some ⟨[], [], [], [], [], []⟩) true (.s .n (.s .n (.j ⟨[(3,dI)], [], [tI], [], [], []⟩ (.s .n (.s (.j ⟨[(26,dF)], [], [.bool], [], [], []⟩ .n .n) .n)) .n))))) .n)))) Tryz.func173 Tryz.ntmps173 (vl (Xt K) v0)
def Qnx(K:Nat):FSp TD:=sd 174 [(.sl (.st 3))] [(.st 15)] (fun p=>Qc1.f K (p))
theorem QhB(K:Nat):VOk Tryz.prog GD (Qnx K):=vk K .n Tryz.func174 Tryz.ntmps174 (vl (Qd2 K) (vl (Jg K) v0))
def Qkc(K:Nat):FSp TD:=sd 179 [(.st 16),(.st 4),tI] [(.st 16),.bool] (fun p=>Qb4.f K (p.1) (p.2.1) (p.2.2))
theorem Qkd(K:Nat):VOk Tryz.prog GD (Qkc K):=vk K (.s .n (.s (.j ⟨[(25,dF)], [], [.bool], [], [], []⟩ .n .n) (.s (.r (ob [2,12,30,40,26,56,66,76,82,96]) [] [4]) .n))) Tryz.func179 Tryz.ntmps179 (vl (Qd2 K) (vl (JW K) (vl (QhB K) v0)))
def Qlv(K:Nat):FSp TD:=sd 199 [(.st 15)] [.bool] (fun p=>Qbr.f K (p))
theorem Qgn(K:Nat):VOk Tryz.prog GD (Qlv K):=vk K .n Tryz.func199 Tryz.ntmps199 (vl (Xt K) v0)
def Qlw(K:Nat):FSp TD:=sg 211 (.cs (.dt (.sl (.st 3))) .nl) [] [(.sl (.st 3))] [(.sl (.st 3))] (fun p=>Qc2.f K (p)) (.cs (.fn 212 (.cs (.ptr 0 0) .nl)) .nl) [] [(50,(.dt (.sl (.st 3))))]
theorem Qlx(K:Nat):VOk Tryz.prog GD (Qlw K):=vk K .n Tryz.func211 Tryz.ntmps211 v0
def QiI(K:Nat):FSp TD:=sd 209 [(.st 15)] [tI] (fun p=>jF.f K (p))
theorem QiJ(K:Nat):VOk Tryz.prog GD (QiI K):=vk K (.s .n (.s .n (.s (.s .n (.g (.s .n (.l ⟨[(3,dI)], [], [tI], [], [], []⟩ (some ⟨[], [], [], [], [], []⟩) true .n)) .n (.j ⟨[(28,dF)], [], [.bool], [], [], []⟩ .n .n))) .n))) Tryz.func209 Tryz.ntmps209 (vl (Qlx K) v0)
def Qly(K:Nat):FSp TD:=sd 203 [(.st 15)] [tI] (fun p=>JD.f K (p))
theorem QaQ(K:Nat):VOk Tryz.prog GD (Qly K):=vk K .n Tryz.func203 Tryz.ntmps203 (vl (QiJ K) v0)
def Qny(K:Nat):FSp TD:=sd 200 [(.st 15),tI] [(.st 4),.bool] (fun p=>Qc3.f K (p.1) (p.2))
theorem Qnz(K:Nat):VOk Tryz.prog GD (Qny K):=vk K (.s .n (.s (.j ⟨[(23,dF)], [], [.bool], [], [], []⟩ .n .n) (.s .n (.s (.j ⟨[(27,dF)], [], [.bool], [], [], []⟩ .n .n) .n)))) Tryz.func200 Tryz.ntmps200 (vl (Qgn K) (vl (Xt K) (vl (QaQ K) v0)))
def Qlz(K:Nat):FSp TD:=sd 201 [(.st 15),(.st 15),.bool] [(.st 15),.bool] (fun p=>XT.f K (p.1) (p.2.1) (p.2.2))
theorem QlA(K:Nat):VOk Tryz.prog GD (Qlz K):=vk K .n Tryz.func201 Tryz.ntmps201 v0
def QpD(K:Nat):FSp TD:=sd 202 [(.st 4)] [(.st 17)] (fun p=>Qcy.f K (p))
theorem QpE(K:Nat):VOk Tryz.prog GD (QpD K):=vk K .n Tryz.func202 Tryz.ntmps202 v0
def QlB(K:Nat):FSp TD:=sd 210 [(.st 15)] [(.st 15)] (fun p=>QfN.f K (p))
theorem Qgo(K:Nat):VOk Tryz.prog GD (QlB K):=vk K .n Tryz.func210 Tryz.ntmps210 v0
def Qgp(K:Nat):FSp TD:=sd 204 [(.st 15),(.st 4)] [(.st 15)] (fun p=>Xp.f K (p.1) (p.2))
theorem Qgq(K:Nat):VOk Tryz.prog GD (Qgp K):=vk K (.s .n (.s .n (.s .n (.j ⟨[], [(2,(dD 15))], [(.st 15)], [], [], [3]⟩ (.j ⟨[(11,dF)], [], [.bool], [], [], []⟩ .n .n) .n)))) Tryz.func204 Tryz.ntmps204 (vl (QaQ K) (vl (Qgo K) v0))
def QiK(K:Nat):FSp TD:=sd 205 [(.st 15),tI] [(.st 15)] (fun p=>QaA.f K (p.1) (p.2))
theorem QiL(K:Nat):VOk Tryz.prog GD (QiK K):=vk K (.s .n (.s .n (.s (.s .n (.s (.s (.r (ob [2,12,22,32,42,52,66]) [] []) (.j ⟨[(29,dF)], [], [.bool], [], [], []⟩ .n .n)) .n)) .n))) Tryz.func205 Tryz.ntmps205 (vl (QaQ K) (vl (Qgo K) v0))
def QpF(K:Nat):FSp TD:=sd 175 [(.st 15),(.st 4),tI] [(.st 15),.bool] (fun p=>QfO.f K (p.1) (p.2.1) (p.2.2))
theorem Qke(K:Nat):VOk Tryz.prog GD (QpF K):=vk K (.s .n (.s (.j ⟨[(30,dF)], [], [.bool], [], [], []⟩ .n .n) (.s .n (.s .n (.s .n (.s (.s .n (.j ⟨[], [], [], [], [], [9]⟩ (.s (.s (.s (.s (.s .n (.s .n (.j ⟨[(49,dF)], [], [.bool], [], [], [9]⟩ .n .n))) .n) (.s (.s (.r (ob [0,10,20,30,42,56,62,76,82,96]) [] [4]) (.s (.r (ob [0,10,22,33,42,60,56,76,82,92,106,112,122,136,142]) [] [3,4,8]) .n)) .n)) (.s (.s .n (.s (.r (ob [0,10,22,33,42,60,56,76,82,92,106,112,122,136,142]) [] [3,4,8]) .n)) .n)) (.s (.j ⟨[(111,dF)], [], [.bool], [], [], []⟩ (.r (ob [2,12,22,33,40,50,62,76,82,92,103,112,122,132,142,152,162,173,182,192,202,212,222,232]) [] [4]) .n) .n)) .n)) .n)))))) Tryz.func175 Tryz.ntmps175 (vl (Qgn K) (vl (Xt K) (vl (Qnz K) (vl (QlA K) (vl (QpE K) (vl (QaQ K) (vl (Qgq K) (vl (QiL K) v0))))))))
def QlC(K:Nat):FSp TD:=sd 180 [(.st 16),(.st 4),tI] [(.st 16),.bool] (fun p=>XU.f K (p.1) (p.2.1) (p.2.2))
theorem Qgr(K:Nat):VOk Tryz.prog GD (QlC K):=vk K (.s .n (.s .n (.s (.r (ob [2,12,22,32,42,52,62,72,124,86,92,102,110,136,142]) [] []) .n))) Tryz.func180 Tryz.ntmps180 (vl (Qke K) (vl (JW K) v0))
def Qhe(K:Nat):FSp TD:=sd 181 [(.st 16),(.st 4),tI] [(.st 16),.bool] (fun p=>Zw.f K (p.1) (p.2.1) (p.2.2))
theorem Qhf(K:Nat):VOk Tryz.prog GD (Qhe K):=vk K (.s .n (.s (.j ⟨[(53,dF)], [], [.bool], [], [], []⟩ (.r (ob [2,12,22,32,42,52,63,72,82,92,102,112,122,132,142,152,162,172,182,193,202,212,222,232,242,252,262,272,282,292,302,312,322,332,342,352,363,372,382,392,402,412,422,432,442,452]) [] []) .n) .n)) Tryz.func181 Tryz.ntmps181 (vl (Qgr K) v0)
def QiM(K:Nat):FSp TD:=sd 182 [(.st 16),(.st 4),tI] [(.st 16),.bool] (fun p=>QaB.f K (p.1) (p.2.1) (p.2.2))
theorem QiN(K:Nat):VOk Tryz.prog GD (QiM K):=vk K (.s .n (.s (.s (.r (ob [2,12,22,32,42,52,62,72,82]) [] []) .n) .n)) Tryz.func182 Tryz.ntmps182 v0
def QpG(K:Nat):FSp TD:=sd 82 [(.st 16),(.st 4),tI] [(.st 16),.bool] (fun p=>Qh4.f K (p.1) (p.2.1) (p.2.2))
theorem QpH(K:Nat):VOk Tryz.prog GD (QpG K):=vkM K (.s .n (.s (.j ⟨[(18,dF)], [], [.bool], [], [], []⟩ .n .n) (.s (.r (ob [10,20,50,60,70,6,32,42,86,92,102,116,122]) [] [3,4]) .n))) Tryz.func82 Tryz.ntmps82 (vl (qH K) (vl (Qkd K) (vl (Qgr K) (vl (Qhf K) (vl (QiN K) v0))))) Qf6 (QtL Qvj Qf7)
def Qhg(K:Nat):FSp TD:=sd 90 [(.st 15)] [tI] (fun p=>yZ.f K (p))
theorem Qcr(K:Nat):VOk Tryz.prog GD (Qhg K):=vk K .n Tryz.func90 Tryz.ntmps90 v0
def QiO(K:Nat):FSp TD:=sg 26 (.cs (dD 16) .nl) [] [(.st 16)] [(.sl (.st 8))] (fun p=>QaC.f K (p)) (.cs (.own (.st 8) 29 true) .nl) [] []
theorem QiP(K:Nat):VOk Tryz.prog GD (QiO K):=vk K (.s .n (.s .n (.s (.s .n (.l ⟨[(3,(.own (.st 8) 29 true)),(9,dI)], [], [(.sl (.st 8)),tI], [], [], [1]⟩ (some ⟨[(3,(.own (.st 8) 29 true))], [], [(.sl (.st 8))], [], [], [1]⟩) false (.s .n (.s .n (.s (.s .n (.r (ob [0,10,20,32,46,52,64,76,82]) [] [5])) .n))))) .n))) Tryz.func26 Tryz.ntmps26 (vl (Qcr K) v0)
def jd(K:Nat):FSp TD:=sp 67 (.cs (dD 12) (.cs (dD 7) .nl)) [] [(.st 12),(.st 7)] [tI,(.sl tI),(.sl (.st 8))] (120,true) (fun p=>YZ.fs K (p.1) (p.2)) [] (.cs (.agg (.cs dI (.cs (.own tI 3 true) (.cs (.own (.st 8) 29 true) .nl)))) .nl) [] []
theorem QbN(K:Nat):VOk Tryz.prog GD (jd K):=vkP K (.s .n (.s .n (.s (.s .n (.l ⟨[(17,dI)], [(5,(.agg (.cs (.agg (.cs (.own tH 37 true) .nl)) (.cs dI .nl))))], [tI,(.sl tH),tI], [], [], []⟩ (some ⟨[], [(5,(.agg (.cs (.agg (.cs (.own tH 37 true) .nl)) (.cs dI .nl))))], [(.sl tH),tI], [], [], []⟩) false .n)) (.s (.q (ob [10,20,30,6,42]) [] [3]) (.s .n (.s (.s .n (.l ⟨[(35,dI)], [(8,(dD 16))], [tI,(.st 16)], [], [], [3,5]⟩ (some ⟨[], [(8,(dD 16))], [(.st 16)], [], [], [2,3,5]⟩) true .n)) (.s .n (.s (.s .n (.l ⟨[(61,dI)], [(12,(.agg (.cs dI (.cs (.own tI 3 true) (.cs (.own (.st 8) 29 true) .nl)))))], [tI,tI,(.sl tI),(.sl (.st 8))], [], [], [8]⟩ (some ⟨[], [(12,(.agg (.cs dI (.cs (.own tI 3 true) (.cs (.own (.st 8) 29 true) .nl)))))], [tI,(.sl tI),(.sl (.st 8))], [], [], [8]⟩) false .n)) .n)))))))) Tryz.func67 Tryz.ntmps67 (vl (Qev K) (vl (QeX K) (vl (Qd1 K) (vl (jP K) (vl (yu K) (vl (QpH K) (vl (QiP K) v0))))))) rfl
def Qgs(K:Nat):FSp TD:=sp 194 (.cs (.ptr 0 0) (.cs (.ptr 1 0) .nl)) [(3,dI),(33,(.dt (.sl tH)))] [tI,(.sl tH)] [tH,tI] (259,false) (fun p=>QaD.fs K (p.1) (p.2)) [true,true] (.cs dH .nl) [some dI,none] []
theorem Qgt(K:Nat):VOk Tryz.prog GD (Qgs K):=vkP K .n Tryz.func194 Tryz.ntmps194 v0 rfl
def Qah(K k:Nat):FSp TD:=sp 150 (.cs dI (.cs dI (.cs (.ptr 0 0) (.cs (.ptr 1 0) (.cs (.ptr 2 0) .nl))))) [(37,dH),(104,(.fn 194 (.cs (.ptr 3 0) (.cs (.ptr 4 0) .nl)))),(218,(.fn 150 (.cs (.ptr 0 0) (.cs (.ptr 1 0) (.cs (.ptr 2 0) .nl))))),(3,dI),(33,(.dt (.sl tH)))] [tI,tI,tH,tI,(.sl tH)] [tH,tI] (259,false) (fun p=>Ym.r K k (p.1) (p.2.1) (p.2.2.1) (p.2.2.2.1) (p.2.2.2.2)) [true,true,true,false,true] (.cs dH .nl) [none,none,none,some dI,none] []
theorem Qd3(K:Nat):∀k,VOk Tryz.prog GD (Qah K k):=by
 intro k
 induction k with
 |zero=>exact QtM Tryz.func150 rfl (by kernel_rfl) (fun _=>rfl) (fun _=>rfl)
 |succ k ih=>
  exact vkP K (.s .n (.s .n (.s (.r (ob [2,20,44,16,36,52,66]) [] [3]) (.s (.s .n (.s (.s (.r (ob [2,12,22,40,36,56,66]) [] [9]) .n) .n)) (.s (.r (ob [0,12,22,32,42,52,62,72,86,96,106]) [] [9]) .n))))) Tryz.func150 Tryz.ntmps150 (vl (QbB K) (vl (Qgt K) (vl (QaN K) (vl ih v0)))) rfl
def Qd4(K:Nat):FSp TD:=Qah K K
theorem Qd5(K:Nat):VOk Tryz.prog GD (Qd4 K):=Qd3 K K
def X8(K:Nat):FSp TD:=sp 149 (.cs (.fn 194 (.cs (.ptr 0 0) (.cs (.ptr 1 0) .nl))) (.cs (.ptr 2 0) (.cs (.ptr 3 0) (.cs (.ptr 4 0) (.cs (.ptr 5 0) .nl))))) [(3,dI),(33,(.dt (.sl tH))),(37,dH),(3,dI),(3,dI),(37,dH)] [tI,(.sl tH),tH,tI,tI,tH] [tI,tH] (259,false) (fun p=>QaE.fs K (p.1) (p.2.1) (p.2.2.1) (p.2.2.2.1) (p.2.2.2.2.1) (p.2.2.2.2.2)) [false,true,true,true,true,true] .nl [some dI,none,none,none,none,some dH] []
theorem Qgu(K:Nat):VOk Tryz.prog GD (X8 K):=vkP K .n Tryz.func149 Tryz.ntmps149 (vl (Qd5 K) v0) rfl
def QaR(K:Nat):FSp TD:=sg 148 (.cs (.dt (.sl tH)) (.cs (.fn 149 (.cs (.ptr 0 0) (.cs (.ptr 1 0) (.cs (.ptr 2 0) (.cs (.ptr 3 0) .nl))))) .nl)) [(37,dH),(3,dI),(3,dI),(37,dH)] [(.sl tH),tH,tI,tI,tH] [.bool,tH] (fun p=>QaF.f K (p.1) (p.2.1) (p.2.2.1) (p.2.2.2.1) (p.2.2.2.2)) (.cs dF .nl) [none,none,none,some dH] []
theorem QiQ(K:Nat):VOk Tryz.prog GD (QaR K):=Qpt tbok (n:=14) Tryz.func148 rfl Tryz.ntmps148 (by kernel_rfl) (sps:= [X8 K]) (rvs:= []) (mps:= []) (qZ (Qgu K) Qmr) Qf6 Qf7 (by kernel_rfl:(fun p=>(QaR K).fn p)=funR (T:=TD) (cx Tryz.prog GD [X8 K] K 14 [] []) (QaR K) Tryz.f148 .n .n .n)
def QiR(K:Nat):FSp TD:=sd 94 [tH,tI,tI,(.sl tH)] [tH,.bool] (fun p=>QaG.f K (p.1) (p.2.1) (p.2.2.1) (p.2.2.2))
theorem QiS(K:Nat):VOk Tryz.prog GD (QiR K):=vk K (.s .n (.s (.j ⟨[(22,dF)], [], [.bool], [], [], []⟩ .n .n) .n)) Tryz.func94 Tryz.ntmps94 (vl (QiQ K) v0)
def QnA(K:Nat):FSp TD:=sd 130 [tH,tI,tI,(.sl tH),tH] [.bool] (fun p=>Qe7.f K (p.1) (p.2.1) (p.2.2.1) (p.2.2.2.1) (p.2.2.2.2))
theorem QnB(K:Nat):VOk Tryz.prog GD (QnA K):=vk K .n Tryz.func130 Tryz.ntmps130 (vl (QiS K) (vl (Qgm K) v0))
def Qds(K:Nat):FSp TD:=sp 131 (.cs (.ptr 0 0) (.cs (dD 4) .nl)) [(195,(.agg (.cs (.dt (.vec 12 .bool)) (.cs (.own tI 3 true) (.cs (.dt (.vec 12 (.st 15))) .nl)))))] [(.st 4),(.vec 12 .bool),(.sl tI),(.vec 12 (.st 15))] [(.vec 12 .bool),(.sl tI),(.vec 12 (.st 15))] (120,true) (fun p=>jC.fs K (p.1) (p.2.1) (p.2.2.1) (p.2.2.2)) [false] .nl [some (.agg (.cs (.dt (.vec 12 .bool)) (.cs (.own tI 3 true) (.cs (.dt (.vec 12 (.st 15))) .nl))))] []
theorem Qdt(K:Nat):VOk Tryz.prog GD (Qds K):=vkP K (.s .n (.j ⟨[], [], [], [], [], []⟩ (.q (ob [2,12,22,32,42,52,62,72,83,92,102,116,122]) [] []) (.s (.r (ob [0,10,20,32,42,60,70,56,82,96]) [] [3]) (.r (ob [0,12,22,32,42,52,62,74,86,92,102,116]) [] [])))) Tryz.func131 Tryz.ntmps131 (vl (jP K) (vl (Qd2 K) (vl (QhB K) v0))) rfl
def Qd6(K:Nat):FSp TD:=sp 132 (.cs (.ptr 0 0) (.cs (dD 4) (.cs dI .nl))) [(195,(.agg (.cs (.dt (.vec 12 .bool)) (.cs (.own tI 3 true) (.cs (.dt (.vec 12 (.st 15))) .nl)))))] [(.st 4),tI,(.vec 12 .bool),(.sl tI),(.vec 12 (.st 15))] [(.vec 12 .bool),(.sl tI),(.vec 12 (.st 15))] (120,true) (fun p=>yh.fs K (p.1) (p.2.1) (p.2.2.1) (p.2.2.2.1) (p.2.2.2.2)) [false] .nl [some (.agg (.cs (.dt (.vec 12 .bool)) (.cs (.own tI 3 true) (.cs (.dt (.vec 12 (.st 15))) .nl))))] []
theorem Qd7(K:Nat):VOk Tryz.prog GD (Qd6 K):=vkP K (.s .n (.s (.r (ob [2,12,22,32,42,52,62,74,86]) [] []) (.s .n (.s .n (.j ⟨[], [], [], [], [], [6]⟩ (.q (ob [2,13,22,32,42,53,62,72,82,92,102,112,122,132,142,152,162,172]) [] []) (.r (ob [2,12,22,32,42,52,62,76]) [] [])))))) Tryz.func132 Tryz.ntmps132 (vl (Qke K) (vl (jP K) v0)) rfl
def jv(K:Nat):FSp TD:=sp 68 (.cs (dD 12) (.cs (dD 7) .nl)) [] [(.st 12),(.st 7)] [tI,(.sl tI),(.sl (.st 8))] (120,true) (fun p=>Jb.fs K (p.1) (p.2)) [] (.cs (.agg (.cs dI (.cs (.own tI 3 true) (.cs (.own (.st 8) 29 true) .nl)))) .nl) [] []
theorem Qck(K:Nat):VOk Tryz.prog GD (jv K):=vkP K (.s .n (.s .n (.s (.s .n (.l ⟨[(15,dI)], [(5,(.agg (.cs (.dt (.vec 12 .bool)) (.cs (.own tI 3 true) (.cs (.dt (.vec 12 (.st 15))) .nl)))))], [tI,(.vec 12 .bool),(.sl tI),(.vec 12 (.st 15))], [], [], []⟩ (some ⟨[], [(5,(.agg (.cs (.dt (.vec 12 .bool)) (.cs (.own tI 3 true) (.cs (.dt (.vec 12 (.st 15))) .nl)))))], [(.vec 12 .bool),(.sl tI),(.vec 12 (.st 15))], [], [], [2,3]⟩) true (.s .n (.s .n (.j ⟨[], [(5,(.agg (.cs (.dt (.vec 12 .bool)) (.cs (.own tI 3 true) (.cs (.dt (.vec 12 (.st 15))) .nl)))))], [(.vec 12 .bool),(.sl tI),(.vec 12 (.st 15))], [], [], []⟩ (.s .n (.s .n (.s (.q (ob [2,20,30,40,50,60,70,80,90,100,110,16,126]) [] [3,7]) (.s .n (.j ⟨[], [(5,(.agg (.cs (.dt (.vec 12 .bool)) (.cs (.own tI 3 true) (.cs (.dt (.vec 12 (.st 15))) .nl)))))], [(.vec 12 .bool),(.sl tI),(.vec 12 (.st 15))], [], [], [7]⟩ .n .n))))) .n))))) (.s .n (.s (.s .n (.l ⟨[(58,dI)], [(9,(.agg (.cs dI (.cs (.own tI 3 true) (.cs (.own (.st 8) 29 true) .nl)))))], [tI,tI,(.sl tI),(.sl (.st 8))], [56], [], []⟩ (some ⟨[], [(9,(.agg (.cs dI (.cs (.own tI 3 true) (.cs (.own (.st 8) 29 true) .nl)))))], [tI,(.sl tI),(.sl (.st 8))], [], [], [5,56]⟩) false (.s .n (.s .n (.s (.s .n (.s .n (.r (ob [0,10,20,30,40,50,60,72,82,92,102,116,122,134,146,152,166]) [] [5,9]))) .n))))) .n))))) Tryz.func68 Tryz.ntmps68 (vl (Qev K) (vl (QnB K) (vl (jP K) (vl (yu K) (vl (Qdt K) (vl (Qd7 K) (vl (Qcr K) v0))))))) rfl
def yw(K:Nat):FSp TD:=sg 17 (.cs (dD 0) (.cs dI (.cs (dD 2) (.cs dB .nl)))) [] [(.st 0),tI,(.st 2),tB] [tI,(.sl tI),(.sl (.st 8))] (fun p=>JE.f K (p.1) (p.2.1) (p.2.2.1) (p.2.2.2)) (.cs (.agg (.cs dI (.cs (.own tI 3 true) (.cs (.own (.st 8) 29 true) .nl)))) .nl) [] []
theorem Qdu(K:Nat):VOk Tryz.prog GD (yw K):=Qpt tbok (n:=67) Tryz.func17 rfl Tryz.ntmps17 (by kernel_rfl) (sps:= [QdM K,QbG K,QbL K,QbM K,jd K,jv K]) (rvs:= []) (mps:= []) (qZ (Qca K) (qZ (jP K) (qZ (Qeu K) (qZ (Qj8 K) (qZ (QbN K) (qZ (Qck K) Qmr)))))) Qf6 Qf7 (by kernel_rfl:(fun p=>(yw K).fn p)=funR (T:=TD) (cx Tryz.prog GD [QdM K,QbG K,QbL K,QbM K,jd K,jv K] K 67 [] []) (yw K) Tryz.f17 .n (.j ⟨[], [], [], [], [], []⟩ .n (.s .n (.s .n (.s .n (.s .n (.j ⟨[], [], [], [], [], [6]⟩ .n .n)))))) .n)
def Qa7(K:Nat):FSp TD:=sd 40 [(.sl tI),(.sl tI)] [.bool] (fun p=>Xj.f K (p.1) (p.2))
theorem Qa8(K:Nat):VOk Tryz.prog GD (Qa7 K):=vk K (.s .n (.s .n (.s (.s .n (.l ⟨[(13,dI)], [], [tI], [], [], []⟩ (some ⟨[], [], [], [], [], []⟩) true (.s .n (.s .n (.s (.s .n (.s (.r (ob [2,12,22,32,42,52,62,72,82]) [] []) .n)) .n))))) .n))) Tryz.func40 Tryz.ntmps40 v0
def yC(K:Nat):FSp TD:=sd 41 [(.sl (.st 8)),(.sl (.st 8))] [.bool] (fun p=>ql.f K (p.1) (p.2))
theorem yD(K:Nat):VOk Tryz.prog GD (yC K):=vk K (.s .n (.s .n (.s (.s .n (.l ⟨[(13,dI)], [], [tI], [], [], []⟩ (some ⟨[], [], [], [], [], []⟩) true (.s .n (.s .n (.s (.s .n (.s (.r (ob [2,12,22,32,42,52,62,72,82]) [] []) .n)) .n))))) .n))) Tryz.func41 Tryz.ntmps41 v0
def QbO(K:Nat):FSp TD:=sd 11 [(.st 9),(.st 9)] [.bool] (fun p=>Qhq.f K (p.1) (p.2))
theorem Qkf(K:Nat):VOk Tryz.prog GD (QbO K):=vk K .n Tryz.func11 Tryz.ntmps11 (vl (Qa8 K) (vl (yD K) v0))
def Qa9(K:Nat):FSp TD:=sd 44 [(.sl tI),tI] [tI] (fun p=>Xk.f K (p.1) (p.2))
theorem Qba(K:Nat):VOk Tryz.prog GD (Qa9 K):=vk K (.s .n (.s (.s .n (.l ⟨[(8,dI)], [], [tI], [], [], []⟩ (some ⟨[], [], [], [], [], []⟩) true .n)) .n)) Tryz.func44 Tryz.ntmps44 v0
def QbP(K:Nat):FSp TD:=sd 13 [(.st 9),tI] [.bool] (fun p=>QdJ.f K (p.1) (p.2))
theorem Qkg(K:Nat):VOk Tryz.prog GD (QbP K):=vk K (.s .n (.s .n (.j ⟨[(4,dF)], [], [.bool], [], [], [2]⟩ .n .n))) Tryz.func13 Tryz.ntmps13 (vl (Qba K) v0)
def qI(K:Nat):FSp TD:=sd 10 [] [.bool] (fun p=>qW.f K)
theorem QaS(K:Nat):VOk Tryz.prog GD (qI K):=QtT tbok (n:=127) Tryz.func10 rfl Tryz.ntmps10 (by kernel_rfl) (sps:= [ja K,ZN K,qg K,ZP K,QaO K,QbF K,yw K,QbO K,QbP K]) (rvs:= []) (mps:= []) (qZ (Qbz K) (qZ (Qcp K) (qZ (Qag K) (qZ (Qg4 K) (qZ (QiB K) (qZ (Qj7 K) (qZ (Qdu K) (qZ (Qkf K) (qZ (Qkg K) Qmr))))))))) Qf6 Qf7 (by kernel_rfl:(fun p=>(qI K).fn p)=funC (T:=TD) (cx Tryz.prog GD [ja K,ZN K,qg K,ZP K,QaO K,QbF K,yw K,QbO K,QbP K] K 127 [] []) (qI K) Tryz.f10 [.one .n,.one .n,.one .n,.one (.r [(0,0,false),(1,1,false),(2,1,false),(3,1,false),(4,1,false),(5,3,false),(6,1,false),(7,1,false),(8,3,false)] [] []),.beg,.one .n,.fin [1,2,3],.beg,.one .n,.one .n,.one (.r [(0,0,false),(1,0,false),(2,1,false),(5,0,false),(6,0,false),(7,0,false),(10,2,false),(11,2,false),(3,3,false),(4,3,false),(8,3,false),(9,3,false),(12,3,false),(13,3,false)] [] [1,3,6]),.fin [1,2,3,8,9]] (.s (.r [(0,1,false),(1,1,false),(2,1,false),(3,1,false),(4,1,false),(5,1,false),(6,1,false),(7,1,false),(8,1,false),(9,3,false)] [] []) (.s .n (.s .n (.s (.r [(0,0,false),(1,0,false),(2,1,false),(5,2,false),(3,3,false),(4,3,false),(6,3,false)] [] [1,10]) (.s (.r [(0,0,false),(1,0,false),(2,1,false),(5,2,false),(3,3,false),(4,3,false),(6,3,false)] [] [1,3]) (.j ⟨[(0,(.dt .bool))], [], [.bool], [], [], [1,2,3,8,9,10,11,13,14]⟩ .n .n)))))))
def QaT(K:Nat):FSp TD:=sd 14 [(.st 0),tB] [.bool] (fun p=>JM.f K (p.1) (p.2))
theorem QaU(K:Nat):VOk Tryz.prog GD (QaT K):=vk K .n Tryz.func14 Tryz.ntmps14 v0
def Xe(K:Nat):FSp TD:=sd 5 [(.st 0),tI,(.st 2),tB,tH,tI] [.bool] (fun p=>JF.f K (p.1) (p.2.1) (p.2.2.1) (p.2.2.2.1) (p.2.2.2.2.1) (p.2.2.2.2.2))
theorem Xf(K:Nat):VOk Tryz.prog GD (Xe K):=vk K (.s .n (.s .n (.s .n (.s .n (.s .n (.s .n (.s .n (.s .n (.s (.j ⟨[(70,dF)], [], [.bool], [], [], [10,13,16,17]⟩ (.r (ob [2,12,22,32,42,52,62,72,83,92,102,112,122,132,142,152,162,172]) [] []) .n) .n))))))))) Tryz.func5 Tryz.ntmps5 (vl (QaS K) (vl (QaU K) (vl (Qdu K) (vl (Qeu K) v0))))
end Go.Proofs.YtomndohdnfebgaaGreatDoor
