/-
 Proved: for every input 'inspeximus/inspeximuslaw19.AuditAlone' returns true, and each argument reads behind the call as it read before it.
 Conditions: none beside those that the given row states.
-/
import Derived.Test.YtomndohdnfebgaaGreatDoorRows
import Derived.Test.YtomndohdnfebgaaGreatDoorTgV
import Derived.Test.YtomndohdnfebgaaGreatDoorPureZAuditAlone
import Derived.Test.YtomndohdnfebgaaGreatDoorPureH
import Derived.Test.YtomndohdnfebgaaGreatDoorTie
import Derived.Test.YtomndohdnfebgaaGreatDoorCards
import Derived.LaidMore
import Derived.Stop.Joined
import Derived.SevenTiedAt
set_option linter.unusedVariables false
namespace Go.Proofs.YtomndohdnfebgaaGreatDoor
open Go Go.Sep Go.ChangeShapes Go.WideShapes Go.ChangeAt Go.RowKit
theorem Qjd:ownKnob Tryz.prog.godebug=none:=by kernel_rfl
theorem Qfl:laidOutB Tryz.prog=true:=by kernel_rfl
def Qlp(x:Qr):Prop:=((x.fParts).length≤maxLen∧∀y∈x.fParts,(∀i,i<32→inR .u8 (vget (y) i)))∧((x.fWits).length≤maxLen∧∀y∈x.fWits,(∀i,i<32→inR .u8 (vget (y) i)))∧inR .i64 x.fNeed
theorem QgR:Qed QbD Tryz.prog 35 Qlp:=
 Qf0 (n:=3) (t:=35) (fun y=>⟨y.1,y.2.1,y.2.2⟩) (fun _=>rfl) (by kernel_rfl) (by kernel_rfl) (Qai (K:=(Jj (ZE .u8 32))) (t:=35) (ft:=33) (off:=0) (off':=1) 0 (by kernel_rfl) (Qcc (P:=Tryz.prog) (t:=33) (e:=37) (by kernel_rfl) (by kernel_rfl) (Qe7 (P:=Tryz.prog) (t:=37) (e:=5) (k:= .u8) (N:=32) (by kernel_rfl) (by kernel_rfl) (by kernel_rfl) (by kernel_rfl))) (by kernel_rfl) (by kernel_rfl) (Qai (K:=(Jj (ZE .u8 32))) (t:=35) (ft:=33) (off:=1) (off':=2) 1 (by kernel_rfl) (Qcc (P:=Tryz.prog) (t:=33) (e:=37) (by kernel_rfl) (by kernel_rfl) (Qe7 (P:=Tryz.prog) (t:=37) (e:=5) (k:= .u8) (N:=32) (by kernel_rfl) (by kernel_rfl) (by kernel_rfl) (by kernel_rfl))) (by kernel_rfl) (by kernel_rfl) (Qee (n:=0) (K:=(YK .i64)) (t:=35) (ft:=3) (off:=2) 2 (by kernel_rfl) (by kernel_rfl) (Qdm (P:=Tryz.prog) (t:=3) (k:= .i64) (by kernel_rfl)) (by kernel_rfl)))) (fun _ h=>h)
def Qgr(x:Q8):Prop:=inR .i64 x.fWit∧(∀i,i<32→inR .u8 (vget (x.fTag) i))
theorem QiD:Qed qx Tryz.prog 107 Qgr:=
 Qf0 (n:=2) (t:=107) (fun y=>⟨y.1,y.2⟩) (fun _=>rfl) (by kernel_rfl) (by kernel_rfl) (Qai (K:=(YK .i64)) (t:=107) (ft:=3) (off:=0) (off':=1) 0 (by kernel_rfl) (Qdm (P:=Tryz.prog) (t:=3) (k:= .i64) (by kernel_rfl)) (by kernel_rfl) (by kernel_rfl) (Qee (n:=0) (K:=(ZE .u8 32)) (t:=107) (ft:=37) (off:=1) 1 (by kernel_rfl) (by kernel_rfl) (Qe7 (P:=Tryz.prog) (t:=37) (e:=5) (k:= .u8) (N:=32) (by kernel_rfl) (by kernel_rfl) (by kernel_rfl) (by kernel_rfl)) (by kernel_rfl))) (fun _ h=>h)
def Qje(x:Qo):Prop:=inR .i64 x.fSize∧(∀i,i<32→inR .u8 (vget (x.fRoot) i))∧((x.fSigs).length≤maxLen∧∀y∈x.fSigs,Qgr (y))
theorem Qf6:Qed QaS Tryz.prog 40 Qje:=
 Qf0 (n:=3) (t:=40) (fun y=>⟨y.1,y.2.1,y.2.2⟩) (fun _=>rfl) (by kernel_rfl) (by kernel_rfl) (Qai (K:=(YK .i64)) (t:=40) (ft:=3) (off:=0) (off':=1) 0 (by kernel_rfl) (Qdm (P:=Tryz.prog) (t:=3) (k:= .i64) (by kernel_rfl)) (by kernel_rfl) (by kernel_rfl) (Qai (K:=(ZE .u8 32)) (t:=40) (ft:=37) (off:=1) (off':=33) 1 (by kernel_rfl) (Qe7 (P:=Tryz.prog) (t:=37) (e:=5) (k:= .u8) (N:=32) (by kernel_rfl) (by kernel_rfl) (by kernel_rfl) (by kernel_rfl)) (by kernel_rfl) (by kernel_rfl) (Qee (n:=0) (K:=(Jj qx)) (t:=40) (ft:=38) (off:=33) 2 (by kernel_rfl) (by kernel_rfl) (Qcc (P:=Tryz.prog) (t:=38) (e:=107) (by kernel_rfl) (by kernel_rfl) QiD) (by kernel_rfl)))) (fun _ h=>h)
def Jo:List (String×DataW Unit):= [("inspeximus/api.K",Rows.laid_inspeximus_api_K),("inspeximus/api.First",Rows.laid_inspeximus_api_First)]
theorem Qjf(os:Os)(args:Array Value):laidMetH Tryz.prog Jo ((World.doorLaid Tryz.prog 400 os).forCall (fun _ _=>0) ⟨#[],args, []⟩).memory:=
 laidMetH_of_parts3 (fuel:=8) (laidMet_of_run' 8 (by kernel_rfl) (by kernel_rfl)) (by kernel_rfl) (by kernel_rfl)
theorem QgS{w:World}(h:laidMetH Tryz.prog Jo w):Cell (ZE .u32 8) (Qi9 w) 0 0 Zm:=
 QmH (t:=207) (e:=42) "inspeximus/api.First" h (by kernel_rfl) (show("inspeximus/api.First",Rows.laid_inspeximus_api_First)∈Jo by simp[Jo]) (by kernel_rfl) (by kernel_rfl) (by kernel_rfl) (by kernel_rfl) (by kernel_rfl) (by kernel_rfl) (by kernel_rfl)
theorem QgT{w:World}(h:laidMetH Tryz.prog Jo w):Cell (ZE .u32 64) (Qi9 w) 1 0 gl_K:=
 QmH (t:=252) (e:=42) "inspeximus/api.K" h (by kernel_rfl) (show("inspeximus/api.K",Rows.laid_inspeximus_api_K)∈Jo by simp[Jo]) (by kernel_rfl) (by kernel_rfl) (by kernel_rfl) (by kernel_rfl) (by kernel_rfl) (by kernel_rfl) (by kernel_rfl)
set_option maxRecDepth 100000 in
theorem Qf7(os:Os)(started:os.Started)(H:Type)(enc:TypeId×Value→H):
  ReturnsInHanded {} Tryz.checked os 9 .any (fun w args=>(Rows.auditAloneSpec.pre enc Tryz.prog Tryz.f9 [] false w args∧laidMetH Tryz.prog Jo w)∧sizedMet enc Tryz.prog Tryz.f9 (OpenSpec.ofChange Rows.auditAloneSpec) false w args) (Rows.auditAloneSpec.post enc Tryz.prog Tryz.f9 false true false false):=by
 refine returnsInHanded_of_change_and (C:=Tryz.checked) (X:=fun w _=>laidMetH Tryz.prog Jo w) (fun _ _ _ hh h=>h.of_heap hh) Qjd started (by kernel_rfl) Tryz.func9
  (ChangeSpec.witness_shaped (enc:=enc) (C:=Tryz.checked) (os:=os) (X:=fun w _=>laidMetH Tryz.prog Jo w) false (World.doorLaid Tryz.prog 400 os) #[.agg #[.slice none 0 0,.slice none 0 0,.int .i64 0],.int .i64 0,.agg #[.int .i64 0,.int .u8 0,.int .u8 0,.int .u8 0,.int .u8 0,.int .u8 0,.int .u8 0,.int .u8 0,.int .u8 0,.int .u8 0,.int .u8 0,.int .u8 0,.int .u8 0,.int .u8 0,.int .u8 0,.int .u8 0,.int .u8 0,.int .u8 0,.int .u8 0,.int .u8 0,.int .u8 0,.int .u8 0,.int .u8 0,.int .u8 0,.int .u8 0,.int .u8 0,.int .u8 0,.int .u8 0,.int .u8 0,.int .u8 0,.int .u8 0,.int .u8 0,.int .u8 0,.slice none 0 0],.slice none 0 0,.slice none 0 0,.int .i64 0] 8 rfl (World.shaped_of_RefB (by kernel_rfl) (by kernel_rfl)) (by kernel_rfl) (by kernel_rfl) (by kernel_rfl) (Qjf os _)) ?_
 intro W base args ds gs before hval0 hW _ hcnd hLaid _
 have hval:∀(j:Nat) t v,Tryz.f9.params[j]?=some t→args[j]?=some v→Value.okWide Tryz.prog W .any base t v:=hval0
 have hW':DataW.Whole enc Tryz.prog Tryz.f9.params.toList Rows.auditAloneSpec.vars false W args.toList ds gs before:=hW
 obtain⟨p,q,hA0,hV,rfl,hfz,hnd⟩:=hW
 have hA:DataW.TrodAll enc Tryz.prog W 0 (fun _=>true) true Tryz.f9.params.toList args.toList ds p:=hA0
 clear hA0 hval0 hcnd hfz hnd
 rw[Tryz.params9]at hA hval
 obtain⟨rfl,rfl⟩:=trodVars_none hV
 obtain⟨v0,vs0,d0,ds0,p0,q0,ha0,rfl,rfl,h0,hA0⟩:=Go.Sep.trodAll_cons hA
 obtain⟨v1,vs1,d1,ds1,p1,q1,rfl,rfl,rfl,h1,hA1⟩:=Go.Sep.trodAll_cons hA0
 obtain⟨v2,vs2,d2,ds2,p2,q2,rfl,rfl,rfl,h2,hA2⟩:=Go.Sep.trodAll_cons hA1
 obtain⟨v3,vs3,d3,ds3,p3,q3,rfl,rfl,rfl,h3,hA3⟩:=Go.Sep.trodAll_cons hA2
 obtain⟨v4,vs4,d4,ds4,p4,q4,rfl,rfl,rfl,h4,hA4⟩:=Go.Sep.trodAll_cons hA3
 obtain⟨v5,vs5,d5,ds5,p5,q5,rfl,rfl,rfl,h5,hA5⟩:=Go.Sep.trodAll_cons hA4
 obtain⟨rfl,rfl,rfl⟩:=Go.Sep.trodAll_nil hA5
 obtain rfl:=QxC ha0
 clear ha0 hA
 obtain⟨x0,cs0,rfl,r0,o0⟩:=Qta QgR (by kernel_rfl) (hval 0 35 v0 rfl rfl) h0
 obtain⟨x1,rfl,o1⟩:=Qs9 (k:= .i64) (show Tryz.prog.underlying 3=some (.int .i64) by kernel_rfl) (hval 1 3 v1 rfl rfl) h1
 obtain⟨x2,cs2,rfl,r2,o2⟩:=Qta Qf6 (by kernel_rfl) (hval 2 40 v2 rfl rfl) h2
 obtain⟨Ar3,cr3,x3,rfl,s3,m3,o3⟩:=QmG (e:=5) (show Tryz.prog.underlying 41=some (.slice 5) by kernel_rfl) (by kernel_rfl) (Qdm (P:=Tryz.prog) (t:=5) (k:= .u8) (by kernel_rfl)) (hval 3 41 v3 rfl rfl) h3
 obtain⟨Ar4,cr4,x4,rfl,s4,m4,o4⟩:=QmG (e:=5) (show Tryz.prog.underlying 41=some (.slice 5) by kernel_rfl) (by kernel_rfl) (Qdm (P:=Tryz.prog) (t:=5) (k:= .u8) (by kernel_rfl)) (hval 4 41 v4 rfl rfl) h4
 obtain⟨x5,rfl,o5⟩:=Qs9 (k:= .i64) (show Tryz.prog.underlying 3=some (.int .i64) by kernel_rfl) (hval 5 3 v5 rfl rfl) h5
 have hlaw:=Qjc (K:=1000000000000) rfl x0 x1 x2 x3 x4 x5 (fun x hx=>Qwf (o3 x hx)) (fun x hx=>Qwf (o4 x hx))
 refine(callsIn_wide.1 (Qxh (T:=TD) (P:=Tryz.prog) (G:=GD) [(.st 0),(.int .i64),(.st 2),(.sl (.int .u8)),(.sl (.int .u8)),(.int .i64)] (p:=(x0,x1,x2,x3,x4,x5)) (Zv (K:=1000000000000)) hlaw (Qo1 (QgS hLaid) (Qo1 (QgT hLaid) Qxg)) (QhW (ag_a rfl r0) (QhW (ag_v rfl rfl) (QhW (ag_a rfl r2) (QhW (ag_v rfl ⟨Ar3,cr3,rfl,s3⟩) (QhW (ag_v rfl ⟨Ar4,cr4,rfl,s4⟩) (Qy0 (ag_v rfl rfl))))))) (st_start W))).mono ?_
 rintro e W' ⟨v,rfl,D1,rfl,hS⟩
 exact⟨_,rfl,QqE hW' rfl Qfl (by kernel_rfl) rfl rfl (fun _ _ _=>trodAll_mk1 (shut_bool (by kernel_rfl) true)) (Qtc hS)⟩
theorem QgU:Rows.AuditAloneSaid:=
 OpenClaim.holds_of_wide 9 Tryz.f9 rfl rfl rfl rfl rfl rfl rfl ⟨rfl,rfl,rfl,rfl,rfl⟩ rfl rfl rfl rfl rfl (by kernel_rfl) Tryz.func9 (by kernel_rfl)
  (of_decide_eq_true (by kernel_rfl)) (by unfold Func.isWrapper;first|(rw[if_pos (by decide+kernel)];kernel_rfl)|(rw[if_neg (by decide+kernel)];exact⟨rfl,rfl⟩))
  (fun os started H enc _=>Qf7 os started H enc)
theorem auditAloneCard_holds:Rows.AuditAloneCardSaid:=
 Claim7.holds_tied_plain_at .later [] [.data,.data] true (true, "f58eb9baf4613839a835c41ab4429e80f7a3e5f8eb58c59cd321303fa110546e") true
  QgU (fun _ h=>by cases h) (by kernel_rfl) (fun _ h=>by cases h) auditAlone_row_tie rfl ⟨rfl,rfl⟩ (by kernel_rfl) rfl
  (fun f fn hf hfn=>by
   obtain rfl:f=9:=Option.some.inj ((show Tryz.prog.funcNamed "inspeximus/inspeximuslaw19.AuditAlone" =some 9 by kernel_rfl).symm.trans hf)|>.symm
   obtain rfl:fn=Tryz.f9:=(Option.some.inj (Tryz.func9.symm.trans hfn)).symm
   exact⟨by kernel_rfl,fun j t ht=>by
    rw[Tryz.params9]at ht
    have hm:t∈ [35,3,40,41,41,3]:=by simpa using Array.mem_of_getElem? ht
    have hall:([35,3,40,41,41,3].all fun u=> !Tryz.prog.wantsStandIn u)=true:=by kernel_rfl
    exact(show Tryz.prog.wantsStandIn t=false by simpa using List.all_eq_true.1 hall t hm)⟩)
  (by kernel_rfl)
end Go.Proofs.YtomndohdnfebgaaGreatDoor
