/-
 Proved: for every input 'inspeximus/inspeximuslaw19.AuditGone' returns true, and each argument reads behind the call as it read before it.
 Conditions: none beside those that the given row states.
-/
import Derived.Test.YtomndohdnfebgaaGreatDoorRows
import Derived.Test.YtomndohdnfebgaaGreatDoorThV
import Derived.Test.YtomndohdnfebgaaGreatDoorPureZAuditGone
import Derived.Test.YtomndohdnfebgaaGreatDoorSepK
import Derived.Test.YtomndohdnfebgaaGreatDoorTie
import Derived.Test.YtomndohdnfebgaaGreatDoorCards
import Derived.LaidMore
import Derived.Stop.Joined
import Derived.SevenTiedAt
set_option linter.unusedVariables false
namespace Go.Proofs.YtomndohdnfebgaaGreatDoor
open Go Go.Sep Go.ChangeShapes Go.WideShapes Go.ChangeAt Go.RowKit
theorem Qka:ownKnob Tryz.prog.godebug=none:=by kernel_rfl
theorem Qe0:laidOutB Tryz.prog=true:=by kernel_rfl
def Qkb(x:Qq):Prop:=((x.fParts).length≤maxLen∧∀y∈x.fParts,(∀i,i<32→inR .u8 (vget (y) i)))∧((x.fWits).length≤maxLen∧∀y∈x.fWits,(∀i,i<32→inR .u8 (vget (y) i)))∧inR .i64 x.fNeed
theorem QfM:Qdp Qa7 Tryz.prog 35 Qkb:=
 QeV (n:=3) (t:=35) (fun y=>⟨y.1,y.2.1,y.2.2⟩) (fun _=>rfl) (by kernel_rfl) (by kernel_rfl) (ZN (K:=(qc (Zh .u8 32))) (t:=35) (ft:=33) (off:=0) (off':=1) 0 (by kernel_rfl) (QbC (P:=Tryz.prog) (t:=33) (e:=37) (by kernel_rfl) (by kernel_rfl) (Qeb (P:=Tryz.prog) (t:=37) (e:=5) (k:= .u8) (N:=32) (by kernel_rfl) (by kernel_rfl) (by kernel_rfl) (by kernel_rfl))) (by kernel_rfl) (by kernel_rfl) (ZN (K:=(qc (Zh .u8 32))) (t:=35) (ft:=33) (off:=1) (off':=2) 1 (by kernel_rfl) (QbC (P:=Tryz.prog) (t:=33) (e:=37) (by kernel_rfl) (by kernel_rfl) (Qeb (P:=Tryz.prog) (t:=37) (e:=5) (k:= .u8) (N:=32) (by kernel_rfl) (by kernel_rfl) (by kernel_rfl) (by kernel_rfl))) (by kernel_rfl) (by kernel_rfl) (Qdq (n:=0) (K:=(YJ .i64)) (t:=35) (ft:=3) (off:=2) 2 (by kernel_rfl) (by kernel_rfl) (Qea (P:=Tryz.prog) (t:=3) (k:= .i64) (by kernel_rfl)) (by kernel_rfl)))) (fun _ h=>h)
def Qfn(x:QO):Prop:=inR .i64 x.fWit∧(∀i,i<32→inR .u8 (vget (x.fTag) i))
theorem QhG:Qdp J3 Tryz.prog 107 Qfn:=
 QeV (n:=2) (t:=107) (fun y=>⟨y.1,y.2⟩) (fun _=>rfl) (by kernel_rfl) (by kernel_rfl) (ZN (K:=(YJ .i64)) (t:=107) (ft:=3) (off:=0) (off':=1) 0 (by kernel_rfl) (Qea (P:=Tryz.prog) (t:=3) (k:= .i64) (by kernel_rfl)) (by kernel_rfl) (by kernel_rfl) (Qdq (n:=0) (K:=(Zh .u8 32)) (t:=107) (ft:=37) (off:=1) 1 (by kernel_rfl) (by kernel_rfl) (Qeb (P:=Tryz.prog) (t:=37) (e:=5) (k:= .u8) (N:=32) (by kernel_rfl) (by kernel_rfl) (by kernel_rfl) (by kernel_rfl)) (by kernel_rfl))) (fun _ h=>h)
def Qii(x:Qo):Prop:=inR .i64 x.fSize∧(∀i,i<32→inR .u8 (vget (x.fRoot) i))∧((x.fSigs).length≤maxLen∧∀y∈x.fSigs,Qfn (y))
theorem Qe1:Qdp Qao Tryz.prog 40 Qii:=
 QeV (n:=3) (t:=40) (fun y=>⟨y.1,y.2.1,y.2.2⟩) (fun _=>rfl) (by kernel_rfl) (by kernel_rfl) (ZN (K:=(YJ .i64)) (t:=40) (ft:=3) (off:=0) (off':=1) 0 (by kernel_rfl) (Qea (P:=Tryz.prog) (t:=3) (k:= .i64) (by kernel_rfl)) (by kernel_rfl) (by kernel_rfl) (ZN (K:=(Zh .u8 32)) (t:=40) (ft:=37) (off:=1) (off':=33) 1 (by kernel_rfl) (Qeb (P:=Tryz.prog) (t:=37) (e:=5) (k:= .u8) (N:=32) (by kernel_rfl) (by kernel_rfl) (by kernel_rfl) (by kernel_rfl)) (by kernel_rfl) (by kernel_rfl) (Qdq (n:=0) (K:=(qc J3)) (t:=40) (ft:=38) (off:=33) 2 (by kernel_rfl) (by kernel_rfl) (QbC (P:=Tryz.prog) (t:=38) (e:=107) (by kernel_rfl) (by kernel_rfl) QhG) (by kernel_rfl)))) (fun _ h=>h)
def Jl:List (String×DataW Unit):= [("inspeximus/api.K",Rows.laid_inspeximus_api_K),("inspeximus/api.First",Rows.laid_inspeximus_api_First)]
theorem Qkc(os:Os)(args:Array Value):laidMetH Tryz.prog Jl ((World.doorLaid Tryz.prog 400 os).forCall (fun _ _=>0) ⟨#[],args, []⟩).memory:=
 laidMetH_of_parts3 (fuel:=8) (laidMet_of_run' 8 (by kernel_rfl) (by kernel_rfl)) (by kernel_rfl) (by kernel_rfl)
theorem QhH{w:World}(h:laidMetH Tryz.prog Jl w):Cell (Zh .u32 8) (Qig w) 0 0 XY:=
 Qlx (t:=207) (e:=42) "inspeximus/api.First" h (by kernel_rfl) (show("inspeximus/api.First",Rows.laid_inspeximus_api_First)∈Jl by simp[Jl]) (by kernel_rfl) (by kernel_rfl) (by kernel_rfl) (by kernel_rfl) (by kernel_rfl) (by kernel_rfl) (by kernel_rfl)
theorem QhI{w:World}(h:laidMetH Tryz.prog Jl w):Cell (Zh .u32 64) (Qig w) 1 0 gl_K:=
 Qlx (t:=252) (e:=42) "inspeximus/api.K" h (by kernel_rfl) (show("inspeximus/api.K",Rows.laid_inspeximus_api_K)∈Jl by simp[Jl]) (by kernel_rfl) (by kernel_rfl) (by kernel_rfl) (by kernel_rfl) (by kernel_rfl) (by kernel_rfl) (by kernel_rfl)
set_option maxRecDepth 100000 in
theorem QfN(os:Os)(started:os.Started)(H:Type)(enc:TypeId×Value→H):
  ReturnsInHanded {} Tryz.checked os 4 .any (fun w args=>(Rows.auditGoneSpec.pre enc Tryz.prog Tryz.f4 [] false w args∧laidMetH Tryz.prog Jl w)∧sizedMet enc Tryz.prog Tryz.f4 (OpenSpec.ofChange Rows.auditGoneSpec) false w args) (Rows.auditGoneSpec.post enc Tryz.prog Tryz.f4 false true false false):=by
 refine returnsInHanded_of_change_and (C:=Tryz.checked) (X:=fun w _=>laidMetH Tryz.prog Jl w) (fun _ _ _ hh h=>h.of_heap hh) Qka started (by kernel_rfl) Tryz.func4
  (ChangeSpec.witness_shaped (enc:=enc) (C:=Tryz.checked) (os:=os) (X:=fun w _=>laidMetH Tryz.prog Jl w) false (World.doorLaid Tryz.prog 400 os) #[.agg #[.slice none 0 0,.slice none 0 0,.int .i64 0],.int .i64 0,.agg #[.int .i64 0,.int .u8 0,.int .u8 0,.int .u8 0,.int .u8 0,.int .u8 0,.int .u8 0,.int .u8 0,.int .u8 0,.int .u8 0,.int .u8 0,.int .u8 0,.int .u8 0,.int .u8 0,.int .u8 0,.int .u8 0,.int .u8 0,.int .u8 0,.int .u8 0,.int .u8 0,.int .u8 0,.int .u8 0,.int .u8 0,.int .u8 0,.int .u8 0,.int .u8 0,.int .u8 0,.int .u8 0,.int .u8 0,.int .u8 0,.int .u8 0,.int .u8 0,.int .u8 0,.slice none 0 0],.slice none 0 0,.int .u32 0] 8 rfl (World.shaped_of_RefB (by kernel_rfl) (by kernel_rfl)) (by kernel_rfl) (by kernel_rfl) (by kernel_rfl) (Qkc os _)) ?_
 intro W base args ds gs before hval0 hW _ hcnd hLaid _
 have hval:∀(j:Nat) t v,Tryz.f4.params[j]?=some t→args[j]?=some v→Value.okWide Tryz.prog W .any base t v:=hval0
 have hW':DataW.Whole enc Tryz.prog Tryz.f4.params.toList Rows.auditGoneSpec.vars false W args.toList ds gs before:=hW
 obtain⟨p,q,hA0,hV,rfl,hfz,hnd⟩:=hW
 have hA:DataW.TrodAll enc Tryz.prog W 0 (fun _=>true) true Tryz.f4.params.toList args.toList ds p:=hA0
 clear hA0 hval0 hcnd hfz hnd
 rw[Tryz.params4]at hA hval
 obtain⟨rfl,rfl⟩:=trodVars_none hV
 obtain⟨v0,vs0,d0,ds0,p0,q0,ha0,rfl,rfl,h0,hA0⟩:=Go.Sep.trodAll_cons hA
 obtain⟨v1,vs1,d1,ds1,p1,q1,rfl,rfl,rfl,h1,hA1⟩:=Go.Sep.trodAll_cons hA0
 obtain⟨v2,vs2,d2,ds2,p2,q2,rfl,rfl,rfl,h2,hA2⟩:=Go.Sep.trodAll_cons hA1
 obtain⟨v3,vs3,d3,ds3,p3,q3,rfl,rfl,rfl,h3,hA3⟩:=Go.Sep.trodAll_cons hA2
 obtain⟨v4,vs4,d4,ds4,p4,q4,rfl,rfl,rfl,h4,hA4⟩:=Go.Sep.trodAll_cons hA3
 obtain⟨rfl,rfl,rfl⟩:=Go.Sep.trodAll_nil hA4
 obtain rfl:=Qwg ha0
 clear ha0 hA
 obtain⟨x0,cs0,rfl,r0,o0⟩:=QrR QfM (by kernel_rfl) (hval 0 35 v0 rfl rfl) h0
 obtain⟨x1,rfl,o1⟩:=QrP (k:= .i64) (show Tryz.prog.underlying 3=some (.int .i64) by kernel_rfl) (hval 1 3 v1 rfl rfl) h1
 obtain⟨x2,cs2,rfl,r2,o2⟩:=QrR Qe1 (by kernel_rfl) (hval 2 40 v2 rfl rfl) h2
 obtain⟨Ar3,cr3,x3,rfl,s3,m3,o3⟩:=QrQ (e:=5) (show Tryz.prog.underlying 41=some (.slice 5) by kernel_rfl) (by kernel_rfl) (Qea (P:=Tryz.prog) (t:=5) (k:= .u8) (by kernel_rfl)) (hval 3 41 v3 rfl rfl) h3
 obtain⟨x4,rfl,o4⟩:=QrP (k:= .u32) (show Tryz.prog.underlying 42=some (.int .u32) by kernel_rfl) (hval 4 42 v4 rfl rfl) h4
 have hlaw:=Qj9 (K:=1000000000000) rfl x0 x1 x2 x3 x4 (fun x hx=>QxH (o3 x hx))
 refine(callsIn_wide.1 (QvZ (T:=TD) (P:=Tryz.prog) (G:=GD) [(.st 0),(.int .i64),(.st 2),(.sl (.int .u8)),(.int .u32)] (p:=(x0,x1,x2,x3,x4)) (ZI (K:=1000000000000)) hlaw (QnN (QhH hLaid) (QnN (QhI hLaid) QvY)) (Qjl (ag_a rfl r0) (Qjl (ag_v rfl rfl) (Qjl (ag_a rfl r2) (Qjl (ag_v rfl ⟨Ar3,cr3,rfl,s3⟩) (QxA (ag_v rfl rfl)))))) (st_start W))).mono ?_
 rintro e W' ⟨v,rfl,D1,rfl,hS⟩
 exact⟨_,rfl,Qpj hW' rfl Qe0 (by kernel_rfl) rfl rfl (fun _ _ _=>trodAll_mk1 (shut_bool (by kernel_rfl) true)) (QrT hS)⟩
theorem QhJ:Rows.AuditGoneSaid:=
 OpenClaim.holds_of_wide 4 Tryz.f4 rfl rfl rfl rfl rfl rfl rfl ⟨rfl,rfl,rfl,rfl,rfl⟩ rfl rfl rfl rfl rfl (by kernel_rfl) Tryz.func4 (by kernel_rfl)
  (of_decide_eq_true (by kernel_rfl)) (by unfold Func.isWrapper;first|(rw[if_pos (by decide+kernel)];kernel_rfl)|(rw[if_neg (by decide+kernel)];exact⟨rfl,rfl⟩))
  (fun os started H enc _=>QfN os started H enc)
theorem auditGoneCard_holds:Rows.AuditGoneCardSaid:=
 Claim7.holds_tied_plain_at .later [] [.data,.data] true (true, "f58eb9baf4613839a835c41ab4429e80f7a3e5f8eb58c59cd321303fa110546e") true
  QhJ (fun _ h=>by cases h) (by kernel_rfl) (fun _ h=>by cases h) auditGone_row_tie rfl ⟨rfl,rfl⟩ (by kernel_rfl) rfl
  (fun f fn hf hfn=>by
   obtain rfl:f=4:=Option.some.inj ((show Tryz.prog.funcNamed "inspeximus/inspeximuslaw19.AuditGone" =some 4 by kernel_rfl).symm.trans hf)|>.symm
   obtain rfl:fn=Tryz.f4:=(Option.some.inj (Tryz.func4.symm.trans hfn)).symm
   exact⟨by kernel_rfl,fun j t ht=>by
    rw[Tryz.params4]at ht
    have hm:t∈ [35,3,40,41,42]:=by simpa using Array.mem_of_getElem? ht
    have hall:([35,3,40,41,42].all fun u=> !Tryz.prog.wantsStandIn u)=true:=by kernel_rfl
    exact(show Tryz.prog.wantsStandIn t=false by simpa using List.all_eq_true.1 hall t hm)⟩)
  (by kernel_rfl)
end Go.Proofs.YtomndohdnfebgaaGreatDoor
