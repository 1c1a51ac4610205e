/-
 Data and plain functions, printed by a program: what the functions of the cut compute (fuel K; none: a panic, or the fuel is spent).
 Conditions: none; nothing is claimed here.
-/
import Derived.Test.YtomndohdnfebgaaGreatDoorSxB
import Derived.Test.YtomndohdnfebgaaGreatDoorTmSq
set_option linter.unusedVariables false
namespace Go.Proofs.YtomndohdnfebgaaGreatDoor
open Go Go.Sep
def qg.b(K:Nat)(x1:(List Int))(x5:Int)(l1:(List Int))(rec:((List Int)×Int)→Option ((List Int)))(y1:(List Int)×Int):Option ((List Int)):=
 (bif (decide (y1.2<((List.length ((List.take (List.length (l1)) (x1)++List.drop (List.length (x1)) (l1))):Nat):Int)))then((getI (y1.1) y1.2).bind fun x3=>((getI (y1.1) y1.2).bind fun x2=>((getI (y1.1) y1.2).bind fun x4=>(rec ((List.set (y1.1) (Int.toNat (y1.2)) ((bxor .u8 x2 x5))),(IntKind.wrap .i64 (y1.2+(1:Int))))))))else(some y1.1))
def qg.l(K:Nat)(x1:(List Int))(x5:Int)(l1:(List Int)):Nat→((List Int)×Int)→Option ((List Int)):=Je (qg.b K x1 x5 l1)
def Qf7.f(K:Nat)(x1:(List Int))(x5:Int):Option ((List Int)):=
 ((Qai 1 ((0:Int)) (64:Int)).bind fun l1=>((qg.l K x1 x5 l1 K ((List.take (List.length (l1)) (x1)++List.drop (List.length (x1)) (l1)),(0:Int))).bind fun z1=>(some z1)))
def Qf8.f(K:Nat)(x1:(List Int))(x5:(List (List Int))):Option ((Vector Int 32)):=
 (jn (fun(y1:(List Int))=>((Qf7.f K (y1) ((54:Int))).bind fun r1=>((catI 24 (([r1]:List (List Int))) (x5)).bind fun l1=>((shaQ.f K (l1)).bind fun r2=>((subI (Q9 (r2)) 0 ((32:Nat):Int)).bind fun l2=>((Qf7.f K (y1) ((92:Int))).bind fun r3=>((shaQ.f K (([r3,l2]:List (List Int)))).bind fun r4=>(some r4)))))))) (fun j1=>(bif (decide ((64:Int)<((List.length (x1):Nat):Int)))then((shaQ.f K (([x1]:List (List Int)))).bind fun r5=>((subI (Q9 (r5)) 0 ((32:Nat):Int)).bind fun l3=>(j1 l3)))else(j1 x1))))
def Qd3.f(K:Nat)(x1:(Vector Int 32))(x2:(List Int)):Option ((Vector Int 32)):=
 ((subI (Q9 (x1)) 0 ((32:Nat):Int)).bind fun l44=>((Xb.f K (x2)).bind fun r45=>((Qf8.f K (l44) (([r45]:List (List Int)))).bind fun r69=>(some r69))))
def QbB.f(K:Nat)(x1:Qw)(x8:Int)(x9:Int):Option ((Vector Int 32)):=
 ((XM.f K (x1) (x8) (x9)).bind fun r66=>(bif (!r66)then(some (vofL 32 [(0:Int),(0:Int),(0:Int),(0:Int),(0:Int),(0:Int),(0:Int),(0:Int),(0:Int),(0:Int),(0:Int),(0:Int),(0:Int),(0:Int),(0:Int),(0:Int),(0:Int),(0:Int),(0:Int),(0:Int),(0:Int),(0:Int),(0:Int),(0:Int),(0:Int),(0:Int),(0:Int),(0:Int),(0:Int),(0:Int),(0:Int),(0:Int)]))else((getI (x1.fParts) x8).bind fun x71=>((Qd3.f K (x71) (([(1:Int),x9]:List Int))).bind fun r99=>(some r99)))))
def Qcj.f(K:Nat)(x1:Bool):Option (Int):=
 (bif x1 then(some (1:Int))else(some (0:Int)))
def jd.f(K:Nat)(x1:Qw)(x8:Qm):Option ((Vector Int 32)):=
 (jn (fun(y1:Bool)=>(bif y1 then(some (vofL 32 [(0:Int),(0:Int),(0:Int),(0:Int),(0:Int),(0:Int),(0:Int),(0:Int),(0:Int),(0:Int),(0:Int),(0:Int),(0:Int),(0:Int),(0:Int),(0:Int),(0:Int),(0:Int),(0:Int),(0:Int),(0:Int),(0:Int),(0:Int),(0:Int),(0:Int),(0:Int),(0:Int),(0:Int),(0:Int),(0:Int),(0:Int),(0:Int)]))else((QbB.f K (x1) (x8.fPart) (x8.fEpoch)).bind fun r1=>((Qcj.f K (x8.fBack)).bind fun r2=>((Qcj.f K (x8.fGood)).bind fun r3=>((Qd3.f K (r1) (([(2:Int),x8.fSaga,x8.fStep,r2,r3]:List Int))).bind fun r4=>(some r4))))))) (fun j1=>(bif (!decide (x8.fKind=(3:Int)))then(j1 true)else((XM.f K (x1) (x8.fPart) (x8.fEpoch)).bind fun r5=>(j1 (!r5))))))
def Jt.f(K:Nat)(x1:Int)(x2:Int)(x3:Int):Option (Bool):=
 (bif (decide (x2≤x1))then(some (decide (x1≤x3)))else(some false))
def ZA.f(K:Nat)(x1:Qp):Option (Bool):=
 ((Jt.f K (x1.fPart) ((0:Int)) ((3:Int))).bind fun r36=>(bif (!r36)then(some true)else((Jt.f K (x1.fKind) ((1:Int)) ((3:Int))).bind fun r41=>(some (!r41)))))
def QC.b(K:Nat)(x1:(List Qp))(rec:Int→Option (Sum ((Int)) (Unit)))(y1:Int):Option (Sum ((Int)) (Unit)):=
 (bif (decide (y1<((List.length (x1):Nat):Int)))then((getI (x1) y1).bind fun x2=>((ZA.f K (x2)).bind fun r1=>(bif r1 then(some (Sum.inl y1))else(rec (IntKind.wrap .i64 (y1+(1:Int)))))))else(some (Sum.inr ())))
def QC.l(K:Nat)(x1:(List Qp)):Nat→(Int)→Option (Sum ((Int)) (Unit)):=Je (QC.b K x1)
def Jc.f(K:Nat)(x1:(List Qp)):Option (Int):=
 ((QC.l K x1 K (0:Int)).bind fun s1=>(match s1 with| .inl u1=>some u1| .inr u2=>(fun(z1:Unit)=>(some (-1:Int))) u2))
def YB.f(K:Nat)(x1:(List Qp)):Option (Bool):=
 ((Jc.f K (x1)).bind fun r10=>(some (decide ((0:Int)≤r10))))
def Qck.f(K:Nat)(x1:Qm):Option (Bool):=
 (jn (fun(y1:Bool)=>(bif y1 then(some false)else(bif (decide (x1.fKind=(1:Int)))then((Jt.f K (((List.length (x1.fSteps):Nat):Int)) ((1:Int)) ((6:Int))).bind fun r1=>(bif r1 then((YB.f K (x1.fSteps)).bind fun r2=>(bif (!r2)then(some (decide (((List.length (x1.fData):Nat):Int)≤(60:Int))))else(some false)))else(some false)))else(jn (fun(y2:Bool)=>(bif y2 then((Jt.f K (x1.fSeq) ((1:Int)) ((400:Int))).bind fun r3=>(bif r3 then((Jt.f K (x1.fStep) ((0:Int)) ((5:Int))).bind fun r4=>(bif r4 then((Jt.f K (x1.fTry) ((1:Int)) ((9:Int))).bind fun r5=>(some r5))else(some false)))else(some false)))else(bif (decide (x1.fKind=(5:Int)))then((Jt.f K (x1.fSeq) ((1:Int)) ((400:Int))).bind fun r6=>(bif r6 then((Jt.f K (x1.fEnd) ((2:Int)) ((4:Int))).bind fun r7=>(some r7))else(some false)))else(bif (decide (x1.fKind=(6:Int)))then(some (decide ((1:Int)≤x1.fEpoch)))else(some false))))) (fun j1=>(bif (decide (x1.fKind=(2:Int)))then(j1 true)else(bif (decide (x1.fKind=(4:Int)))then(j1 true)else(j1 (decide (x1.fKind=(3:Int))))))))))) (fun j2=>((Jt.f K (x1.fSaga) ((0:Int)) ((11:Int))).bind fun r8=>(bif (!r8)then(j2 true)else((Jt.f K (x1.fPart) ((0:Int)) ((3:Int))).bind fun r9=>(bif (!r9)then(j2 true)else((Jt.f K (x1.fEpoch) ((0:Int)) ((400:Int))).bind fun r10=>(j2 (!r10)))))))))
def Qfw.f(K:Nat)(x1:Qm):Option (Qm):=
 ((some {Qq with fKind:=x1.fKind}).bind fun v1=>(jn (fun(y1:Qm)=>(some y1)) (fun j1=>(jn (fun(y2:Qm)=>((some {y2 with fSaga:=x1.fSaga}).bind fun v3=>((some {v3 with fSeq:=x1.fSeq}).bind fun v4=>((some {v4 with fStep:=x1.fStep}).bind fun v5=>((some {v5 with fTry:=x1.fTry}).bind fun v6=>((some {v6 with fBack:=x1.fBack}).bind fun v7=>(j1 v7))))))) (fun j2=>(bif (decide (x1.fKind=(1:Int)))then((some {v1 with fSaga:=x1.fSaga}).bind fun v8=>((some {v8 with fSteps:=x1.fSteps}).bind fun v9=>((some {v9 with fGone:=x1.fGone}).bind fun v2=>(bif x1.fGone then((some {v2 with fCom:=x1.fCom}).bind fun v10=>(j1 v10))else((some {v2 with fData:=x1.fData}).bind fun v11=>((some {v11 with fSalt:=x1.fSalt}).bind fun v12=>(j1 v12)))))))else(bif (decide (x1.fKind=(3:Int)))then((some {v1 with fGood:=x1.fGood}).bind fun v13=>((some {v13 with fPart:=x1.fPart}).bind fun v14=>((some {v14 with fEpoch:=x1.fEpoch}).bind fun v15=>((some {v15 with fTag:=x1.fTag}).bind fun v16=>(j2 v16)))))else(jn (fun(y3:Bool)=>(bif y3 then(j2 v1)else(bif (decide (x1.fKind=(5:Int)))then((some {v1 with fSaga:=x1.fSaga}).bind fun v17=>((some {v17 with fSeq:=x1.fSeq}).bind fun v18=>((some {v18 with fEnd:=x1.fEnd}).bind fun v19=>(j1 v19))))else(bif (decide (x1.fKind=(6:Int)))then((some {v1 with fPart:=x1.fPart}).bind fun v20=>((some {v20 with fEpoch:=x1.fEpoch}).bind fun v21=>(j1 v21)))else(j1 v1))))) (fun j3=>(bif (decide (x1.fKind=(2:Int)))then(j3 true)else(j3 (decide (x1.fKind=(4:Int))))))))))))))
def QL.b(K:Nat)(x1:(List Qp))(x5:(List Qp))(rec:Int→Option (Sum ((Bool)) (Unit)))(y1:Int):Option (Sum ((Bool)) (Unit)):=
 (bif (decide (y1<((List.length (x1):Nat):Int)))then((getI (x1) y1).bind fun x2=>((getI (x5) y1).bind fun x3=>(bif (!((decide (x2.fPart=x3.fPart))&&((decide (x2.fKind=x3.fKind))&&true)))then(some (Sum.inl false))else(rec (IntKind.wrap .i64 (y1+(1:Int)))))))else(some (Sum.inr ())))
def QL.l(K:Nat)(x1:(List Qp))(x5:(List Qp)):Nat→(Int)→Option (Sum ((Bool)) (Unit)):=Je (QL.b K x1 x5)
def YZ.f(K:Nat)(x1:(List Qp))(x5:(List Qp)):Option (Bool):=
 (bif (!decide (((List.length (x1):Nat):Int)=((List.length (x5):Nat):Int)))then(some false)else((QL.l K x1 x5 K (0:Int)).bind fun s1=>(match s1 with| .inl u1=>some u1| .inr u2=>(fun(z1:Unit)=>(some true)) u2)))
def bytes_Equal.f(K:Nat)(x1:(List Int))(x5:(List Int)):Option (Bool):=
 (some (ByteArray.toList (bofL (x1))==ByteArray.toList (bofL (x5))))
def Qfx.f(K:Nat)(x1:Qm):Option (QaI):=
 ((some (QaI.mk (x1.fKind) (x1.fSaga) (x1.fSeq) (x1.fStep) (x1.fTry) (x1.fBack) (x1.fGood) (x1.fGone) (x1.fEnd) (x1.fPart) (x1.fEpoch))).bind fun v18=>(some v18))
def Qfy.f(K:Nat)(x1:Qm)(x8:Qm):Option (Bool):=
 (jn (fun(y1:Bool)=>(bif y1 then(some false)else(jn (fun(y2:Bool)=>(some y2)) (fun j1=>((Qfx.f K (x1)).bind fun r1=>((Qfx.f K (x8)).bind fun r2=>(bif ((decide (r1.fKind=r2.fKind))&&((decide (r1.fSaga=r2.fSaga))&&((decide (r1.fSeq=r2.fSeq))&&((decide (r1.fStep=r2.fStep))&&((decide (r1.fTry=r2.fTry))&&((r1.fBack==r2.fBack)&&((r1.fGood==r2.fGood)&&((r1.fGone==r2.fGone)&&((decide (r1.fEnd=r2.fEnd))&&((decide (r1.fPart=r2.fPart))&&((decide (r1.fEpoch=r2.fEpoch))&&true)))))))))))then(bif (decide (x1.fTag=x8.fTag))then(bif (decide (x1.fSalt=x8.fSalt))then(j1 (decide (x1.fCom=x8.fCom)))else(j1 false))else(j1 false))else(j1 false)))))))) (fun j2=>((YZ.f K (x1.fSteps) (x8.fSteps)).bind fun r3=>(bif (!r3)then(j2 true)else((bytes_Equal.f K (x1.fData) (x8.fData)).bind fun r4=>(j2 (!r4)))))))
def qh.f(K:Nat)(x1:Qm):Option (Bool):=
 ((Qck.f K (x1)).bind fun r75=>(bif r75 then((Qfw.f K (x1)).bind fun r80=>((Qfy.f K (x1) (r80)).bind fun r91=>(some r91)))else(some false)))
def QcG.f(K:Nat)(x1:Qm):Option (Bool):=
 ((qh.f K (x1)).bind fun r17=>(some (!r17)))
def Y7.b(K:Nat)(x1:(List Qm))(rec:Int→Option (Sum ((Int)) (Unit)))(y1:Int):Option (Sum ((Int)) (Unit)):=
 (bif (decide (y1<((List.length (x1):Nat):Int)))then((getI (x1) y1).bind fun x2=>((QcG.f K (x2)).bind fun r1=>(bif r1 then(some (Sum.inl y1))else(rec (IntKind.wrap .i64 (y1+(1:Int)))))))else(some (Sum.inr ())))
def Y7.l(K:Nat)(x1:(List Qm)):Nat→(Int)→Option (Sum ((Int)) (Unit)):=Je (Y7.b K x1)
def J5.f(K:Nat)(x1:(List Qm)):Option (Int):=
 ((Y7.l K x1 K (0:Int)).bind fun s1=>(match s1 with| .inl u1=>some u1| .inr u2=>(fun(z1:Unit)=>(some (-1:Int))) u2))
def JH.f(K:Nat)(x1:(List Qm)):Option (Bool):=
 ((J5.f K (x1)).bind fun r10=>(some (decide ((0:Int)≤r10))))
def ZB.f(K:Nat)(x1:(List Qm)):Option (Bool):=
 ((JH.f K (x1)).bind fun r10=>(some (!r10)))
def jR.b(K:Nat)(rec:(Int×(List Int))→Option ((List Int)))(y1:Int×(List Int)):Option ((List Int)):=
 (bif (decide ((0:Int)<y1.1))then((catI 1 (y1.2) (([(bor .u8 (IntKind.wrap .u8 (Int.tmod y1.1 128)) (128:Int))]:List Int))).bind fun l1=>(rec ((Int.fdiv y1.1 (2^7)),l1)))else(some y1.2))
def jR.l(K:Nat):Nat→(Int×(List Int))→Option ((List Int)):=Je (jR.b K)
def qI.f(K:Nat)(x1:Int):Option ((List Int)):=
 (jn (fun(y1:Bool)=>(bif y1 then(some ([]:List Int))else((jR.l K K ((Int.fdiv x1 (2^7)),([(IntKind.wrap .u8 (Int.tmod x1 128))]:List Int))).bind fun z1=>((QZ.f K (z1)).bind fun r1=>(some r1))))) (fun j1=>(bif (decide (x1<(0:Int)))then(j1 true)else(j1 (decide ((2147483647:Int)<x1))))))
def QbC.f(K:Nat):Option Unit:=
 (some ())
def Jd.b(K:Nat)(x1:(List Int))(rec:((List Int)×Int)→Option ((List Int)))(y1:(List Int)×Int):Option ((List Int)):=
 (bif (decide (y1.2<((List.length (x1):Nat):Int)))then((getI (x1) y1.2).bind fun x2=>((qI.f K (x2)).bind fun r1=>((catI 1 (y1.1) (r1)).bind fun l1=>(rec (l1,(IntKind.wrap .i64 (y1.2+(1:Int))))))))else(some y1.1))
def Jd.l(K:Nat)(x1:(List Int)):Nat→((List Int)×Int)→Option ((List Int)):=Je (Jd.b K x1)
def qJ.f(K:Nat)(x1:(List Int)):Option ((List Int)):=
 ((Jd.l K x1 K (([]:List Int),(0:Int))).bind fun z1=>(some z1))
def JD.b(K:Nat)(x1:Qm)(rec:((List Int)×Int)→Option ((List Int)))(y1:(List Int)×Int):Option ((List Int)):=
 (bif (decide (y1.2<((List.length (x1.fSteps):Nat):Int)))then((getI (x1.fSteps) y1.2).bind fun x2=>((qJ.f K (([x2.fPart,x2.fKind]:List Int))).bind fun r1=>((catI 1 (y1.1) (r1)).bind fun l1=>(rec (l1,(IntKind.wrap .i64 (y1.2+(1:Int))))))))else(some y1.1))
def JD.l(K:Nat)(x1:Qm):Nat→((List Int)×Int)→Option ((List Int)):=Je (JD.b K x1)
def QbD.f(K:Nat)(x1:Qm):Option ((List Int)):=
 ((qJ.f K (([x1.fSaga,((List.length (x1.fSteps):Nat):Int)]:List Int))).bind fun r1=>((JD.l K x1 K (r1,(0:Int))).bind fun z1=>(some z1)))
def Jb.f(K:Nat)(x1:(List (List Int))):Option ((List Int)):=
 ((QR.f K (x1)).bind fun r20=>(some r20))
def Xj.f(K:Nat)(x1:Bool):Option ((List Int)):=
 (bif x1 then(some ([(1:Int)]:List Int))else(some ([(0:Int)]:List Int)))
def ZC.f(K:Nat)(x1:Qm):Option ((List Int)):=
 ((qJ.f K (([x1.fSaga,x1.fSeq,x1.fStep,x1.fTry]:List Int))).bind fun r84=>((Xj.f K (x1.fBack)).bind fun r94=>((Jb.f K (([r84,r94]:List (List Int)))).bind fun r1=>(some r1))))
def jM.f(K:Nat)(x1:(Vector Int 32)):Option ((List Int)):=
 ((subI (Q9 (x1)) 0 ((32:Nat):Int)).bind fun l32=>((Q8.f K (l32)).bind fun r37=>(some r37)))
def jS.f(K:Nat)(x1:Qm):Option ((List Int)):=
 ((ZC.f K (x1)).bind fun r1=>((Xj.f K (x1.fGood)).bind fun r2=>((qJ.f K (([x1.fPart,x1.fEpoch]:List Int))).bind fun r3=>((jM.f K (x1.fTag)).bind fun r4=>((Jb.f K (([r1,r2,r3,r4]:List (List Int)))).bind fun r5=>(some r5))))))
def jT.f(K:Nat)(x1:Qm):Option ((List Int)):=
 ((qJ.f K (([x1.fSaga,x1.fSeq,x1.fEnd]:List Int))).bind fun r45=>(some r45))
def jU.f(K:Nat)(x1:Qm):Option ((List Int)):=
 ((qJ.f K (([x1.fPart,x1.fEpoch]:List Int))).bind fun r45=>(some r45))
def Qcl.f(K:Nat)(x1:(List Int)):Option ((List Int)):=
 ((QcQ.f K ((IntKind.wrap .u64 ((List.length (x1):Nat):Int))) ((4:Int))).bind fun r44=>((QR.f K (([r44,x1]:List (List Int)))).bind fun r68=>(some r68)))
def Yx.b(K:Nat)(x1:(List (List Int)))(rec:((List Int)×Int)→Option ((List Int)))(y1:(List Int)×Int):Option ((List Int)):=
 (bif (decide (y1.2<((List.length (x1):Nat):Int)))then((getI (x1) y1.2).bind fun x2=>((Qcl.f K (x2)).bind fun r1=>((catI 1 (y1.1) (r1)).bind fun l1=>(rec (l1,(IntKind.wrap .i64 (y1.2+(1:Int))))))))else(some y1.1))
def Yx.l(K:Nat)(x1:(List (List Int))):Nat→((List Int)×Int)→Option ((List Int)):=Je (Yx.b K x1)
def XZ.f(K:Nat)(x1:(List (List Int))):Option ((List Int)):=
 ((Yx.l K x1 K (([]:List Int),(0:Int))).bind fun z1=>(some z1))
def Qf9.f(K:Nat)(x1:Int)(x2:(List (List Int))):Option ((Vector Int 32)):=
 ((XZ.f K (x2)).bind fun r52=>((shaQ.f K (([([(IntKind.wrap .u8 x1)]:List Int),r52]:List (List Int)))).bind fun r81=>(some r81)))
def Qga.f(K:Nat)(x1:Qm):Option ((Vector Int 32)):=
 (jn (fun(y1:Bool)=>(bif y1 then(some (vofL 32 [(0:Int),(0:Int),(0:Int),(0:Int),(0:Int),(0:Int),(0:Int),(0:Int),(0:Int),(0:Int),(0:Int),(0:Int),(0:Int),(0:Int),(0:Int),(0:Int),(0:Int),(0:Int),(0:Int),(0:Int),(0:Int),(0:Int),(0:Int),(0:Int),(0:Int),(0:Int),(0:Int),(0:Int),(0:Int),(0:Int),(0:Int),(0:Int)]))else(bif x1.fGone then(some x1.fCom)else((subI (Q9 (x1.fSalt)) 0 ((32:Nat):Int)).bind fun l1=>((Qf9.f K ((4:Int)) (([l1,x1.fData]:List (List Int)))).bind fun r1=>(some r1)))))) (fun j1=>((qh.f K (x1)).bind fun r2=>(bif (!r2)then(j1 true)else(j1 (!decide (x1.fKind=(1:Int))))))))
def ZE.f(K:Nat)(x3:Qm):Option ((List Int)):=
 ((Qga.f K (x3)).bind fun r30=>((jM.f K (r30)).bind fun r35=>(some r35)))
def Qix.f(K:Nat)(x3:Qm)(x10:Qm):Option ((List Int)):=
 ((qh.f K (x3)).bind fun r2=>(bif (!r2)then(some ([]:List Int))else(jn (fun(y1:(List Int))=>(bif (decide (x3.fKind=(1:Int)))then((ZE.f K (x10)).bind fun r3=>((catI 1 (y1) (r3)).bind fun l1=>(some l1)))else(some y1))) (fun j1=>((qI.f K (x3.fKind)).bind fun r1=>((QbC.f K).bind fun r16=>(bif decide (x3.fKind=(0:Int))then none else(bif decide (x3.fKind=(1:Int))then((QbD.f K (x3)).bind fun r4=>((Jb.f K (([r1,r4]:List (List Int)))).bind fun r5=>(j1 r5)))else(bif decide (x3.fKind=(2:Int))then((ZC.f K (x3)).bind fun r6=>((Jb.f K (([r1,r6]:List (List Int)))).bind fun r7=>(j1 r7)))else(bif decide (x3.fKind=(3:Int))then((jS.f K (x3)).bind fun r8=>((Jb.f K (([r1,r8]:List (List Int)))).bind fun r9=>(j1 r9)))else(bif decide (x3.fKind=(4:Int))then((ZC.f K (x3)).bind fun r10=>((Jb.f K (([r1,r10]:List (List Int)))).bind fun r11=>(j1 r11)))else(bif decide (x3.fKind=(5:Int))then((jT.f K (x3)).bind fun r12=>((Jb.f K (([r1,r12]:List (List Int)))).bind fun r13=>(j1 r13)))else(bif decide (x3.fKind=(6:Int))then((jU.f K (x3)).bind fun r14=>((Jb.f K (([r1,r14]:List (List Int)))).bind fun r15=>(j1 r15)))else none)))))))))))))
def Qal.f(K:Nat)(x1:Qm):Option ((List Int)):=
 ((Qix.f K (x1) (x1)).bind fun r27=>(some r27))
def QbE.f(K:Nat)(x1:(List Int)):Option ((Vector Int 32)):=
 ((shaQ.f K (([([(0:Int)]:List Int),x1]:List (List Int)))).bind fun r50=>(some r50))
def Xr.b(K:Nat)(x1:(List Qm))(rec:((List (Vector Int 32))×Int)→Option ((List (Vector Int 32))))(y1:(List (Vector Int 32))×Int):Option ((List (Vector Int 32))):=
 (bif (decide (y1.2<((List.length (x1):Nat):Int)))then((getI (x1) y1.2).bind fun x2=>((Qal.f K (x2)).bind fun r1=>((QbE.f K (r1)).bind fun r2=>((catI 32 (y1.1) (([r2]:List (Vector Int 32)))).bind fun l1=>(rec (l1,(IntKind.wrap .i64 (y1.2+(1:Int)))))))))else(some y1.1))
def Xr.l(K:Nat)(x1:(List Qm)):Nat→((List (Vector Int 32))×Int)→Option ((List (Vector Int 32))):=Je (Xr.b K x1)
def XA.f(K:Nat)(x1:(List Qm)):Option ((List (Vector Int 32))):=
 ((ZB.f K (x1)).bind fun r1=>(bif (!r1)then(some ([]:List (Vector Int 32)))else((Xr.l K x1 K (([]:List (Vector Int 32)),(0:Int))).bind fun z1=>(some z1))))
def QaK.b(K:Nat)(x1:Int)(rec:Int→Option (Int))(y35:Int):Option (Int):=
 (bif (decide (y35<(IntKind.wrap .i64 (x1-y35))))then(rec (IntKind.wrap .i64 (y35*(2:Int))))else(some y35))
def QaK.l(K:Nat)(x1:Int):Nat→(Int)→Option (Int):=Je (QaK.b K x1)
def XN.f(K:Nat)(x1:Int):Option (Int):=
 (bif (decide (x1<(2:Int)))then(some (0:Int))else((QaK.l K x1 K (1:Int)).bind fun z41=>(some z41)))
def Xk.f(K:Nat)(x1:(Vector Int 32))(x2:(Vector Int 32)):Option ((Vector Int 32)):=
 ((subI (Q9 (x1)) 0 ((32:Nat):Int)).bind fun l44=>((subI (Q9 (x2)) 0 ((32:Nat):Int)).bind fun l45=>((shaQ.f K (([([(1:Int)]:List Int),l44,l45]:List (List Int)))).bind fun r60=>(some r60))))
def yG.b(K:Nat)(self:(List (Vector Int 32))→Option ((Vector Int 32)))(x1:(List (Vector Int 32))):Option ((Vector Int 32)):=
 (bif (decide (((List.length (x1):Nat):Int)=(0:Int)))then((shaQ.f K (([]:List (List Int)))).bind fun r2=>(some r2))else(bif (decide (((List.length (x1):Nat):Int)=(1:Int)))then((getI (x1) (0:Int)).bind fun x2=>(some x2))else((XN.f K (((List.length (x1):Nat):Int))).bind fun r1=>((subI (x1) r1 ((List.length (x1):Nat):Int)).bind fun l1=>((subI (x1) 0 r1).bind fun l2=>((self (l2)).bind fun r3=>((self (l1)).bind fun r4=>((Xk.f K (r3) (r4)).bind fun r5=>(some r5)))))))))
def yG.r(K:Nat):Nat→(List (Vector Int 32))→Option ((Vector Int 32))
 |0=>fun _=>none
 |k+1=>yG.b K (yG.r K k)
def yG.f(K:Nat)(x1:(List (Vector Int 32))):Option ((Vector Int 32)):=yG.r K K x1
def Qdh.f(K:Nat)(x1:Qo):Option ((Vector Int 32)):=
 ((subI (Q9 (x1.fRoot)) 0 ((32:Nat):Int)).bind fun l69=>((qI.f K (x1.fSize)).bind fun r70=>((Qf9.f K ((6:Int)) (([r70,l69]:List (List Int)))).bind fun r94=>(some r94))))
def X0.f(K:Nat)(x1:Qw)(x8:Int)(x9:Qo):Option ((Vector Int 32)):=
 (jn (fun(y1:Bool)=>(bif y1 then(some (vofL 32 [(0:Int),(0:Int),(0:Int),(0:Int),(0:Int),(0:Int),(0:Int),(0:Int),(0:Int),(0:Int),(0:Int),(0:Int),(0:Int),(0:Int),(0:Int),(0:Int),(0:Int),(0:Int),(0:Int),(0:Int),(0:Int),(0:Int),(0:Int),(0:Int),(0:Int),(0:Int),(0:Int),(0:Int),(0:Int),(0:Int),(0:Int),(0:Int)]))else((Qdh.f K (x9)).bind fun r1=>((getI (x1.fWits) x8).bind fun x2=>((subI (Q9 (x2)) 0 ((32:Nat):Int)).bind fun l1=>((subI (Q9 (r1)) 0 ((32:Nat):Int)).bind fun l2=>((Qf8.f K (l1) (([([(3:Int)]:List Int),l2]:List (List Int)))).bind fun r2=>(some r2)))))))) (fun j1=>((Zz.f K (x1)).bind fun r3=>(bif (!r3)then(j1 true)else((Jw.f K (x8) ((0:Int)) ((IntKind.wrap .i64 (((List.length (x1.fWits):Nat):Int)-(1:Int))))).bind fun r4=>(bif (!r4)then(j1 true)else((Jw.f K (x9.fSize) ((0:Int)) ((400:Int))).bind fun r5=>(j1 (!r5)))))))))
def JZ.b(K:Nat)(x1:Qw)(x8:(List Qm))(r1:((Vector Int 32)))(rec:(Int×Int×(Vector Int 32)×(List QW))→Option (Int×(Vector Int 32)×(List QW)))(y1:Int×Int×(Vector Int 32)×(List QW)):Option (Int×(Vector Int 32)×(List QW)):=
 (bif (decide (y1.1<((List.length (x1.fWits):Nat):Int)))then((X0.f K (x1) (y1.1) ((Qo.mk (((List.length (x8):Nat):Int)) (r1) (([]:List QW))))).bind fun r2=>((catI 40 (y1.2.2.2) (([(QW.mk (y1.1) (r2))]:List QW))).bind fun l1=>(rec ((IntKind.wrap .i64 (y1.1+(1:Int))),y1.2.1,y1.2.2.1,l1))))else(some (y1.2.1,y1.2.2.1,y1.2.2.2)))
def JZ.l(K:Nat)(x1:Qw)(x8:(List Qm))(r1:((Vector Int 32))):Nat→(Int×Int×(Vector Int 32)×(List QW))→Option (Int×(Vector Int 32)×(List QW)):=Je (JZ.b K x1 x8 r1)
def qW.f(K:Nat)(x1:Qw)(x8:(List Qm)):Option (Int×(Vector Int 32)×(List QW)):=
 ((XA.f K (x8)).bind fun r2=>((yG.f K (r2)).bind fun r1=>((JZ.l K x1 x8 r1 K ((0:Int),((List.length (x8):Nat):Int),r1,([]:List QW))).bind fun z1=>(some (z1.1,z1.2.1,z1.2.2)))))
def QeI.f(K:Nat)(x1:Int):Option (Int):=
 (some x1)
def QcH.f(K:Nat)(x1:Int):Option (Bool):=
 (some true)
def QhQ.f(K:Nat)(x1:Qm):Option (Qm):=
 (jn (fun(y96:Bool)=>(bif y96 then(some x1)else((QQ.f K (x1.fSteps)).bind fun r99=>((Qga.f K (x1)).bind fun r1=>((some {Qq with fKind:=(1:Int),fSaga:=x1.fSaga,fSteps:=r99,fGone:=true,fCom:=r1}).bind fun v1=>(some v1)))))) (fun j1=>((qh.f K (x1)).bind fun r2=>(bif (!r2)then(j1 true)else(j1 (!decide (x1.fKind=(1:Int))))))))
def QaL.f(K:Nat)(x1:Qm)(x8:Int)(x9:Int):Option (Qm):=
 (chk (!(decide ((Int.tmod x8 32)<0))) (bif (decide ((band .u32 (Int.fdiv x9 (2^(min (Int.toNat (Int.tmod x8 32)) 32))) (1:Int))=(1:Int)))then((QhQ.f K (x1)).bind fun r81=>(some r81))else((QQ.f K (x1.fSteps)).bind fun r92=>((Q8.f K (x1.fData)).bind fun r1=>(some {x1 with fSteps:=r92,fData:=r1})))))
def yf.b(K:Nat)(self:(List (Vector Int 32))→Int→Option ((List (Vector Int 32))×Bool))(x1:(List (Vector Int 32)))(x5:Int):Option ((List (Vector Int 32))×Bool):=
 (jn (fun(y1:Bool)=>(bif y1 then(some (([]:List (Vector Int 32)),false))else(bif (decide (((List.length (x1):Nat):Int)=(1:Int)))then(some (([]:List (Vector Int 32)),true))else((XN.f K (((List.length (x1):Nat):Int))).bind fun r1=>(bif (decide (x5<r1))then((subI (x1) 0 r1).bind fun l1=>((self (l1) (x5)).bind fun r2=>((subI (x1) r1 ((List.length (x1):Nat):Int)).bind fun l2=>((yG.f K (l2)).bind fun r3=>((catI 32 (r2.1) (([r3]:List (Vector Int 32)))).bind fun l3=>(some (l3,true)))))))else((subI (x1) r1 ((List.length (x1):Nat):Int)).bind fun l4=>((self (l4) ((IntKind.wrap .i64 (x5-r1)))).bind fun r4=>((subI (x1) 0 r1).bind fun l5=>((yG.f K (l5)).bind fun r5=>((catI 32 (r4.1) (([r5]:List (Vector Int 32)))).bind fun l6=>(some (l6,true)))))))))))) (fun j1=>(bif (decide (x5<(0:Int)))then(j1 true)else(j1 (decide (((List.length (x1):Nat):Int)≤x5))))))
def yf.r(K:Nat):Nat→(List (Vector Int 32))→Int→Option ((List (Vector Int 32))×Bool)
 |0=>fun _ _=>none
 |k+1=>yf.b K (yf.r K k)
def yf.f(K:Nat)(x1:(List (Vector Int 32)))(x5:Int):Option ((List (Vector Int 32))×Bool):=yf.r K K x1 x5
def jw.f(K:Nat)(x1:Int)(x2:Int)(x3:Int):Option (Bool):=
 (bif (decide (x2≤x1))then(some (decide (x1≤x3)))else(some false))
def Xc.f(K:Nat)(x1:QW):Option (Bool):=
 ((jw.f K (x1.fWit) ((0:Int)) ((3:Int))).bind fun r11=>(some (!r11)))
def QF.b(K:Nat)(x1:(List QW))(rec:Int→Option (Sum ((Int)) (Unit)))(y1:Int):Option (Sum ((Int)) (Unit)):=
 (bif (decide (y1<((List.length (x1):Nat):Int)))then((getI (x1) y1).bind fun x2=>((Xc.f K (x2)).bind fun r1=>(bif r1 then(some (Sum.inl y1))else(rec (IntKind.wrap .i64 (y1+(1:Int)))))))else(some (Sum.inr ())))
def QF.l(K:Nat)(x1:(List QW)):Nat→(Int)→Option (Sum ((Int)) (Unit)):=Je (QF.b K x1)
def Jk.f(K:Nat)(x1:(List QW)):Option (Int):=
 ((QF.l K x1 K (0:Int)).bind fun s1=>(match s1 with| .inl u1=>some u1| .inr u2=>(fun(z1:Unit)=>(some (-1:Int))) u2))
def YM.f(K:Nat)(x1:(List QW)):Option (Bool):=
 ((Jk.f K (x1)).bind fun r10=>(some (decide ((0:Int)≤r10))))
def ZF.f(K:Nat)(x1:Qo):Option (Bool):=
 ((jw.f K (x1.fSize) ((0:Int)) ((400:Int))).bind fun r39=>(bif r39 then(bif (decide (((List.length (x1.fSigs):Nat):Int)≤(4:Int)))then((YM.f K (x1.fSigs)).bind fun r44=>(some (!r44)))else(some false))else(some false)))
def YE.b(K:Nat)(x1:QP)(rec:(Int×Int)→Option (Sum ((Bool)) (Unit)))(y1:Int×Int):Option (Sum ((Bool)) (Unit)):=
 (bif (decide (y1.2<((List.length (x1.fItems):Nat):Int)))then((getI (x1.fItems) y1.2).bind fun x2=>(jn (fun(y2:Bool)=>(bif y2 then(some (Sum.inl false))else(rec (x2.fAt,(IntKind.wrap .i64 (y1.2+(1:Int))))))) (fun j1=>((qh.f K (x2.fRec)).bind fun r1=>(bif (!r1)then(j1 true)else((jw.f K (x2.fAt) ((IntKind.wrap .i64 (y1.1+(1:Int)))) ((IntKind.wrap .i64 (x1.fPoint.fSize-(1:Int))))).bind fun r2=>(bif (!r2)then(j1 true)else(bif (decide ((20:Int)<((List.length (x2.fPath):Nat):Int)))then(j1 true)else(bif x1.fWhole then(bif (!decide (x2.fAt=y1.2))then(j1 true)else(j1 (decide ((0:Int)<((List.length (x2.fPath):Nat):Int)))))else(j1 false))))))))))else(some (Sum.inr ())))
def YE.l(K:Nat)(x1:QP):Nat→(Int×Int)→Option (Sum ((Bool)) (Unit)):=Je (YE.b K x1)
def JE.f(K:Nat)(x1:QP):Option (Bool):=
 (jn (fun(y1:Bool)=>(bif y1 then(some false)else((YE.l K x1 K ((-1:Int),(0:Int))).bind fun s1=>(match s1 with| .inl u1=>some u1| .inr u2=>(fun(z1:Unit)=>(some true)) u2)))) (fun j1=>((ZF.f K (x1.fPoint)).bind fun r1=>(bif (!r1)then(j1 true)else(bif (decide (x1.fPoint.fSize<((List.length (x1.fItems):Nat):Int)))then(j1 true)else(bif x1.fWhole then(j1 (!decide (((List.length (x1.fItems):Nat):Int)=x1.fPoint.fSize)))else(j1 false)))))))
def ZY.b(K:Nat)(x5:(List Qm))(x9:Qo)(x13:Int)(x14:Bool)(x15:Int)(r2:((List (Vector Int 32))))(rec:(Int×Bool×Qo×(List QE))→Option (Sum ((QP×Bool)) (Bool×Qo×(List QE))))(y1:Int×Bool×Qo×(List QE)):Option (Sum ((QP×Bool)) (Bool×Qo×(List QE))):=
 (bif (decide (y1.1<x15))then(jn (fun(y2:Bool×Qo×(List QE))=>(rec ((IntKind.wrap .i64 (y1.1+(1:Int))),y2.1,y2.2.1,y2.2.2))) (fun j1=>((QcH.f K (y1.1)).bind fun r3=>(bif r3 then(jn (fun(y4:Bool)=>(bif y4 then(some (Sum.inl (Y3,false)))else((getI (x5) y1.1).bind fun x1=>((QaL.f K (x1) (y1.1) (x13)).bind fun r1=>(jn (fun(y3:Bool×Int×Qm×(List (Vector Int 32)))=>((catI 256 (y1.2.2.2) (([(QE.mk (y3.2.1) (y3.2.2.1) (y3.2.2.2))]:List QE))).bind fun l1=>(j1 (y1.2.1,y1.2.2.1,l1)))) (fun j2=>(bif (!x14)then((yf.f K (r2) (y1.1)).bind fun r4=>(j2 (true,y1.1,r1,r4.1)))else(j2 (false,y1.1,r1,([]:List (Vector Int 32))))))))))) (fun j3=>(bif (decide (y1.1<(0:Int)))then(j3 true)else(j3 (decide (x9.fSize≤y1.1))))))else(j1 (y1.2.1,y1.2.2.1,y1.2.2.2))))))else(some (Sum.inr (y1.2.1,y1.2.2.1,y1.2.2.2))))
def ZY.l(K:Nat)(x5:(List Qm))(x9:Qo)(x13:Int)(x14:Bool)(x15:Int)(r1:((List (Vector Int 32)))):Nat→(Int×Bool×Qo×(List QE))→Option (Sum ((QP×Bool)) (Bool×Qo×(List QE))):=Je (ZY.b K x5 x9 x13 x14 x15 r1)
def Qgb.f(K:Nat)(x5:(List Qm))(x9:Qo)(x13:Int)(x14:Bool)(x15:Int):Option (QP×Bool):=
 (jn (fun(y1:Bool)=>(bif y1 then(some (Y3,false))else((subI (x5) 0 x9.fSize).bind fun l1=>((XA.f K (l1)).bind fun r1=>((Ye.f K (x9.fSigs)).bind fun r2=>((ZY.l K x5 x9 x13 x14 x15 r1 K ((0:Int),x14,{x9 with fSigs:=r2},([]:List QE))).bind fun s1=>(match s1 with| .inl u1=>some u1| .inr u2=>(fun(z1:Bool×Qo×(List QE))=>((JE.f K ((QP.mk (z1.1) (z1.2.1) (z1.2.2)))).bind fun r3=>(bif (!r3)then(some (Y3,false))else(some ((QP.mk (z1.1) (z1.2.1) (z1.2.2)),true))))) u2))))))) (fun j1=>((ZB.f K (x5)).bind fun r4=>(bif (!r4)then(j1 true)else(bif (decide ((400:Int)<((List.length (x5):Nat):Int)))then(j1 true)else(bif (decide (x9.fSize<(0:Int)))then(j1 true)else(j1 (decide (((List.length (x5):Nat):Int)<x9.fSize)))))))))
def QbF.f(K:Nat)(x1:(List Qm))(x5:Qo)(x9:Int):Option (QP×Bool):=
 ((QeI.f K ((maxI (0:Int) x5.fSize))).bind fun r44=>((Qgb.f K (x1) (x5) (x9) (true) (r44)).bind fun r53=>(some (r53.1,r53.2))))
def QbG.f(K:Nat)(x5:Int)(x6:(List Qm))(x10:Int):Option (Int):=
 (some x5)
def Qdi.f(K:Nat)(x5:Int)(x6:(List Qm))(x10:Int):Option (Bool):=
 ((getI (x6) x5).bind fun x1=>(bif (!decide (x1.fKind=(6:Int)))then((getI (x6) x5).bind fun x2=>(some (decide (x2.fSaga=x10))))else(some false)))
def yY.b(K:Nat)(x9:(List Qm))(x13:Qo)(x17:Int)(x18:Bool)(x19:Int)(x20:(List Qm))(x24:Int)(r2:((List (Vector Int 32))))(rec:(Int×Bool×Qo×(List QE))→Option (Sum ((QP×Bool)) (Bool×Qo×(List QE))))(y1:Int×Bool×Qo×(List QE)):Option (Sum ((QP×Bool)) (Bool×Qo×(List QE))):=
 (bif (decide (y1.1<x19))then(jn (fun(y2:Bool×Qo×(List QE))=>(rec ((IntKind.wrap .i64 (y1.1+(1:Int))),y2.1,y2.2.1,y2.2.2))) (fun j1=>((Qdi.f K (y1.1) (x20) (x24)).bind fun r3=>(bif r3 then(jn (fun(y4:Bool)=>(bif y4 then(some (Sum.inl (Y3,false)))else((getI (x9) y1.1).bind fun x1=>((QaL.f K (x1) (y1.1) (x17)).bind fun r1=>(jn (fun(y3:Bool×Int×Qm×(List (Vector Int 32)))=>((catI 256 (y1.2.2.2) (([(QE.mk (y3.2.1) (y3.2.2.1) (y3.2.2.2))]:List QE))).bind fun l1=>(j1 (y1.2.1,y1.2.2.1,l1)))) (fun j2=>(bif (!x18)then((yf.f K (r2) (y1.1)).bind fun r4=>(j2 (true,y1.1,r1,r4.1)))else(j2 (false,y1.1,r1,([]:List (Vector Int 32))))))))))) (fun j3=>(bif (decide (y1.1<(0:Int)))then(j3 true)else(j3 (decide (x13.fSize≤y1.1))))))else(j1 (y1.2.1,y1.2.2.1,y1.2.2.2))))))else(some (Sum.inr (y1.2.1,y1.2.2.1,y1.2.2.2))))
def yY.l(K:Nat)(x9:(List Qm))(x13:Qo)(x17:Int)(x18:Bool)(x19:Int)(x20:(List Qm))(x24:Int)(r1:((List (Vector Int 32)))):Nat→(Int×Bool×Qo×(List QE))→Option (Sum ((QP×Bool)) (Bool×Qo×(List QE))):=Je (yY.b K x9 x13 x17 x18 x19 x20 x24 r1)
def QcI.f(K:Nat)(x9:(List Qm))(x13:Qo)(x17:Int)(x18:Bool)(x19:Int)(x20:(List Qm))(x24:Int):Option (QP×Bool):=
 (jn (fun(y1:Bool)=>(bif y1 then(some (Y3,false))else((subI (x9) 0 x13.fSize).bind fun l1=>((XA.f K (l1)).bind fun r1=>((Ye.f K (x13.fSigs)).bind fun r2=>((yY.l K x9 x13 x17 x18 x19 x20 x24 r1 K ((0:Int),x18,{x13 with fSigs:=r2},([]:List QE))).bind fun s1=>(match s1 with| .inl u1=>some u1| .inr u2=>(fun(z1:Bool×Qo×(List QE))=>((JE.f K ((QP.mk (z1.1) (z1.2.1) (z1.2.2)))).bind fun r3=>(bif (!r3)then(some (Y3,false))else(some ((QP.mk (z1.1) (z1.2.1) (z1.2.2)),true))))) u2))))))) (fun j1=>((ZB.f K (x9)).bind fun r4=>(bif (!r4)then(j1 true)else(bif (decide ((400:Int)<((List.length (x9):Nat):Int)))then(j1 true)else(bif (decide (x13.fSize<(0:Int)))then(j1 true)else(j1 (decide (((List.length (x9):Nat):Int)<x13.fSize)))))))))
def Qgc.f(K:Nat)(x1:(List Qm))(x5:Qo)(x9:Int)(x10:Int):Option (QP×Bool):=
 ((QbG.f K ((minI (maxI (0:Int) x5.fSize) ((List.length (x1):Nat):Int))) (x1) (x10)).bind fun r53=>((QcI.f K (x1) (x5) (x9) (false) (r53) (x1) (x10)).bind fun r62=>(some (r62.1,r62.2))))
def ZG.f(K:Nat)(x1:QW):Option ((List Int)):=
 ((qI.f K (x1.fWit)).bind fun r60=>((jM.f K (x1.fTag)).bind fun r70=>((Jb.f K (([r60,r70]:List (List Int)))).bind fun r99=>(some r99))))
def Yj.b(K:Nat)(x1:(List QW))(rec:((List Int)×Int)→Option ((List Int)))(y1:(List Int)×Int):Option ((List Int)):=
 (bif (decide (y1.2<((List.length (x1):Nat):Int)))then((getI (x1) y1.2).bind fun x2=>((ZG.f K (x2)).bind fun r1=>((catI 1 (y1.1) (r1)).bind fun l1=>(rec (l1,(IntKind.wrap .i64 (y1.2+(1:Int))))))))else(some y1.1))
def Yj.l(K:Nat)(x1:(List QW)):Nat→((List Int)×Int)→Option ((List Int)):=Je (Yj.b K x1)
def qK.f(K:Nat)(x1:(List QW)):Option ((List Int)):=
 ((qI.f K (((List.length (x1):Nat):Int))).bind fun r1=>((Yj.l K x1 K (r1,(0:Int))).bind fun z1=>(some z1)))
def Qcm.f(K:Nat)(x1:(List Int)):Option ((List Int)):=
 ((qI.f K (((List.length (x1):Nat):Int))).bind fun r27=>((catI 1 (r27) (x1)).bind fun l37=>(some l37)))
def Qcn.f(K:Nat)(x3:Qm):Option ((List Int)):=
 (bif x3.fGone then((Xj.f K (true)).bind fun r1=>((jM.f K (x3.fCom)).bind fun r2=>((Jb.f K (([r1,r2]:List (List Int)))).bind fun r3=>(some r3))))else((Xj.f K (false)).bind fun r4=>((jM.f K (x3.fSalt)).bind fun r5=>((Qcm.f K (x3.fData)).bind fun r6=>((Jb.f K (([r4,r5,r6]:List (List Int)))).bind fun r7=>(some r7))))))
def Qd4.f(K:Nat)(x3:Qm)(x10:Qm):Option ((List Int)):=
 ((qh.f K (x3)).bind fun r2=>(bif (!r2)then(some ([]:List Int))else(jn (fun(y1:(List Int))=>(bif (decide (x3.fKind=(1:Int)))then((Qcn.f K (x10)).bind fun r3=>((catI 1 (y1) (r3)).bind fun l1=>(some l1)))else(some y1))) (fun j1=>((qI.f K (x3.fKind)).bind fun r1=>((QbC.f K).bind fun r16=>(bif decide (x3.fKind=(0:Int))then none else(bif decide (x3.fKind=(1:Int))then((QbD.f K (x3)).bind fun r4=>((Jb.f K (([r1,r4]:List (List Int)))).bind fun r5=>(j1 r5)))else(bif decide (x3.fKind=(2:Int))then((ZC.f K (x3)).bind fun r6=>((Jb.f K (([r1,r6]:List (List Int)))).bind fun r7=>(j1 r7)))else(bif decide (x3.fKind=(3:Int))then((jS.f K (x3)).bind fun r8=>((Jb.f K (([r1,r8]:List (List Int)))).bind fun r9=>(j1 r9)))else(bif decide (x3.fKind=(4:Int))then((ZC.f K (x3)).bind fun r10=>((Jb.f K (([r1,r10]:List (List Int)))).bind fun r11=>(j1 r11)))else(bif decide (x3.fKind=(5:Int))then((jT.f K (x3)).bind fun r12=>((Jb.f K (([r1,r12]:List (List Int)))).bind fun r13=>(j1 r13)))else(bif decide (x3.fKind=(6:Int))then((jU.f K (x3)).bind fun r14=>((Jb.f K (([r1,r14]:List (List Int)))).bind fun r15=>(j1 r15)))else none)))))))))))))
def Qdj.f(K:Nat)(x1:Qm):Option ((List Int)):=
 ((Qd4.f K (x1) (x1)).bind fun r27=>(some r27))
def Yf.b(K:Nat)(x1:(List (Vector Int 32)))(rec:((List Int)×Int)→Option ((List Int)))(y1:(List Int)×Int):Option ((List Int)):=
 (bif (decide (y1.2<((List.length (x1):Nat):Int)))then((getI (x1) y1.2).bind fun x2=>((jM.f K (x2)).bind fun r1=>((catI 1 (y1.1) (r1)).bind fun l1=>(rec (l1,(IntKind.wrap .i64 (y1.2+(1:Int))))))))else(some y1.1))
def Yf.l(K:Nat)(x1:(List (Vector Int 32))):Nat→((List Int)×Int)→Option ((List Int)):=Je (Yf.b K x1)
def J7.f(K:Nat)(x1:(List (Vector Int 32))):Option ((List Int)):=
 ((qI.f K (((List.length (x1):Nat):Int))).bind fun r1=>((Yf.l K x1 K (r1,(0:Int))).bind fun z1=>(some z1)))
def QaM.f(K:Nat)(x1:QE):Option ((List Int)):=
 ((qI.f K (x1.fAt)).bind fun r84=>((Qdj.f K (x1.fRec)).bind fun r94=>((J7.f K (x1.fPath)).bind fun r1=>((Jb.f K (([r84,r94,r1]:List (List Int)))).bind fun r2=>(some r2)))))
def Yg.b(K:Nat)(x1:(List QE))(rec:((List Int)×Int)→Option ((List Int)))(y1:(List Int)×Int):Option ((List Int)):=
 (bif (decide (y1.2<((List.length (x1):Nat):Int)))then((getI (x1) y1.2).bind fun x2=>((QaM.f K (x2)).bind fun r1=>((catI 1 (y1.1) (r1)).bind fun l1=>(rec (l1,(IntKind.wrap .i64 (y1.2+(1:Int))))))))else(some y1.1))
def Yg.l(K:Nat)(x1:(List QE)):Nat→((List Int)×Int)→Option ((List Int)):=Je (Yg.b K x1)
def J8.f(K:Nat)(x1:(List QE)):Option ((List Int)):=
 ((qI.f K (((List.length (x1):Nat):Int))).bind fun r1=>((Yg.l K x1 K (r1,(0:Int))).bind fun z1=>(some z1)))
def Jq.b(K:Nat)(x1:QP)(rec:((List Int)×Int)→Option ((List Int)))(y1:(List Int)×Int):Option ((List Int)):=
 (bif (decide (y1.2<((List.length (x1.fItems):Nat):Int)))then((getI (x1.fItems) y1.2).bind fun x2=>((Qdj.f K (x2.fRec)).bind fun r1=>((catI 1 (y1.1) (r1)).bind fun l1=>(rec (l1,(IntKind.wrap .i64 (y1.2+(1:Int))))))))else(some y1.1))
def Jq.l(K:Nat)(x1:QP):Nat→((List Int)×Int)→Option ((List Int)):=Je (Jq.b K x1)
def yg.f(K:Nat)(x1:QP):Option ((List Int)):=
 ((JE.f K (x1)).bind fun r2=>(bif (!r2)then(some ([]:List Int))else((Xj.f K (x1.fWhole)).bind fun r3=>((qI.f K (x1.fPoint.fSize)).bind fun r4=>((jM.f K (x1.fPoint.fRoot)).bind fun r5=>((qK.f K (x1.fPoint.fSigs)).bind fun r6=>((Jb.f K (([([(105:Int),(110:Int),(115:Int),(112:Int)]:List Int),r3,r4,r5,r6]:List (List Int)))).bind fun r1=>(bif (!x1.fWhole)then((J8.f K (x1.fItems)).bind fun r7=>((catI 1 (r1) (r7)).bind fun l1=>(some l1)))else((Jq.l K x1 K (r1,(0:Int))).bind fun z1=>(some z1))))))))))
def Yq.fs(K:Nat)(x1:Bool)(x2:Int):Option (Sum Int Unit):=
 (bif (!x1)then(some (Sum.inl x2))else(some (Sum.inr ())))
def bytes_HasPrefix.f(K:Nat)(x1:(List Int))(x5:(List Int)):Option (Bool):=
 (bif (decide (((List.length (x5):Nat):Int)≤((List.length (x1):Nat):Int)))then((subI (x1) 0 ((List.length (x5):Nat):Int)).bind fun l39=>((bytes_Equal.f K (l39) (x5)).bind fun r44=>(some r44)))else(some false))
def bytes_CutPrefix.f(K:Nat)(x1:(List Int))(x5:(List Int)):Option ((List Int)×Bool):=
 ((bytes_HasPrefix.f K (x1) (x5)).bind fun r32=>(bif (!r32)then(some (x1,false))else((subI (x1) ((List.length (x5):Nat):Int) ((List.length (x1):Nat):Int)).bind fun l37=>(some (l37,true)))))
def Qdk.f(K:Nat)(x1:(List Int)):Option (Qk):=
 ((Q8.f K (x1)).bind fun r27=>(some (Qk.mk (r27) ((0:Int)))))
def QD.f(K:Nat)(x3:Qk):Option (Int):=
 (some x3.fBad)
def JS.f(K:Nat)(x1:(List Int)):Option (Bool×Int×Int):=
 (bif (decide (((List.length (x1):Nat):Int)=(0:Int)))then(some (false,(0:Int),(3:Int)))else((getI (x1) (0:Int)).bind fun x81=>(bif (decide ((1:Int)<x81))then(some (false,(0:Int),(2:Int)))else((getI (x1) (0:Int)).bind fun x2=>(some ((decide (x2=(1:Int))),(1:Int),(0:Int)))))))
def Q3.f(K:Nat)(x3:Int)(x4:Qk):Option (Qk):=
 (jn (fun(y20:Bool)=>(bif y20 then((some (Qk.mk (([]:List Int)) (x4.fBad))).bind fun v23=>((some (Qk.mk (([]:List Int)) (x3))).bind fun v25=>(some (Qk.mk (([]:List Int)) (v25.fBad)))))else(some x4))) (fun j27=>(bif (decide (x4.fBad=(0:Int)))then(j27 (!decide (x3=(0:Int))))else(j27 false))))
def qV.f(K:Nat)(x3:Qk):Option (Bool×Qk):=
 ((QD.f K (x3)).bind fun r54=>(bif (!decide (r54=(0:Int)))then(some (false,x3))else((JS.f K (x3.fB)).bind fun r59=>(bif (!decide (r59.2.2=(0:Int)))then((Q3.f K (r59.2.2) (x3)).bind fun r72=>(some (false,r72)))else((subI (x3.fB) r59.2.1 ((List.length (x3.fB):Nat):Int)).bind fun l80=>((some (Qk.mk (l80) (x3.fBad))).bind fun v85=>(some (r59.1,v85))))))))
def Yw.f(K:Nat)(x3:Qk):Option (Bool×Qk):=
 ((qV.f K (x3)).bind fun r18=>(some (r18.1,r18.2)))
def YI.b(K:Nat)(x1:(List Int))(rec:(Int×Int)→Option (Sum ((Int×Int×Int)) (Unit)))(y1:Int×Int):Option (Sum ((Int×Int×Int)) (Unit)):=
 (bif (decide (y1.2<((List.length (x1):Nat):Int)))then((getI (x1) y1.2).bind fun x2=>(jn (fun(y2:Bool)=>(bif y2 then(some (Sum.inl ((0:Int),(0:Int),(2:Int))))else(bif (decide (x2<(128:Int)))then(bif (decide ((2147483647:Int)<(bor .i64 (IntKind.wrap .i64 (y1.1*2^7)) (IntKind.wrap .i64 (Int.tmod x2 128)))))then(some (Sum.inl ((0:Int),(0:Int),(2:Int))))else(some (Sum.inl ((bor .i64 (IntKind.wrap .i64 (y1.1*2^7)) (IntKind.wrap .i64 (Int.tmod x2 128))),(IntKind.wrap .i64 (y1.2+(1:Int))),(0:Int)))))else(rec ((bor .i64 (IntKind.wrap .i64 (y1.1*2^7)) (IntKind.wrap .i64 (Int.tmod x2 128))),(IntKind.wrap .i64 (y1.2+(1:Int)))))))) (fun j1=>(bif (decide (y1.2=(0:Int)))then(bif (decide (x2=(128:Int)))then(j1 true)else(j1 (decide (y1.2=(5:Int)))))else(j1 (decide (y1.2=(5:Int))))))))else(some (Sum.inr ())))
def YI.l(K:Nat)(x1:(List Int)):Nat→(Int×Int)→Option (Sum ((Int×Int×Int)) (Unit)):=Je (YI.b K x1)
def X4.f(K:Nat)(x1:(List Int)):Option (Int×Int×Int):=
 ((YI.l K x1 K ((0:Int),(0:Int))).bind fun s1=>(match s1 with| .inl u1=>some u1| .inr u2=>(fun(z1:Unit)=>(some ((0:Int),(0:Int),(3:Int)))) u2))
def yH.f(K:Nat)(x3:Qk):Option (Int×Qk):=
 ((QD.f K (x3)).bind fun r54=>(bif (!decide (r54=(0:Int)))then(some ((0:Int),x3))else((X4.f K (x3.fB)).bind fun r59=>(bif (!decide (r59.2.2=(0:Int)))then((Q3.f K (r59.2.2) (x3)).bind fun r72=>(some ((0:Int),r72)))else((subI (x3.fB) r59.2.1 ((List.length (x3.fB):Nat):Int)).bind fun l80=>((some (Qk.mk (l80) (x3.fBad))).bind fun v85=>(some (r59.1,v85))))))))
def QB.f(K:Nat)(x3:Qk):Option (Int×Qk):=
 ((yH.f K (x3)).bind fun r18=>(some (r18.1,r18.2)))
def qY.f(K:Nat)(x1:(List Int)):Option ((Vector Int 32)×Int×Int):=
 (bif (decide (((List.length (x1):Nat):Int)<(32:Int)))then(some ((Vector.replicate 32 (0:Int)),(0:Int),(3:Int)))else((subI (x1) 0 (32:Int)).bind fun l36=>(chk (decide (32≤List.length (l36))) (some ((vofL 32 (l36)),(32:Int),(0:Int))))))
def JU.f(K:Nat)(x3:Qk):Option ((Vector Int 32)×Qk):=
 ((QD.f K (x3)).bind fun r64=>(bif (!decide (r64=(0:Int)))then(some ((Vector.replicate 32 (0:Int)),x3))else((qY.f K (x3.fB)).bind fun r69=>(bif (!decide (r69.2.2=(0:Int)))then((Q3.f K (r69.2.2) (x3)).bind fun r84=>(some ((Vector.replicate 32 (0:Int)),r84)))else((subI (x3.fB) r69.2.1 ((List.length (x3.fB):Nat):Int)).bind fun l92=>((some (Qk.mk (l92) (x3.fBad))).bind fun v97=>(some (r69.1,v97))))))))
def Yk.f(K:Nat)(x3:Qk):Option ((Vector Int 32)×Qk):=
 ((JU.f K (x3)).bind fun r22=>(some (r22.1,r22.2)))
def QbH.f(K:Nat)(x5:Int)(x6:Qk):Option (QW×Qk):=
 ((QB.f K (x6)).bind fun r35=>((Yk.f K (r35.2)).bind fun r43=>((some (QW.mk (r35.1) (r43.1))).bind fun v51=>(some (v51,r43.2)))))
def QX.b(K:Nat)(x5:Int)(rec:((List QW)×Int×Qk)→Option ((List QW)×Qk))(y1:(List QW)×Int×Qk):Option ((List QW)×Qk):=
 (bif (decide (y1.2.1<x5))then((QD.f K (y1.2.2)).bind fun r2=>(bif (!decide (r2=(0:Int)))then(some (y1.1,y1.2.2))else((QbH.f K (y1.2.1) (y1.2.2)).bind fun r1=>((catI 40 (y1.1) (([r1.1]:List QW))).bind fun l1=>(rec (l1,(IntKind.wrap .i64 (y1.2.1+(1:Int))),r1.2))))))else(some (y1.1,y1.2.2)))
def QX.l(K:Nat)(x5:Int):Nat→((List QW)×Int×Qk)→Option ((List QW)×Qk):=Je (QX.b K x5)
def JI.f(K:Nat)(x5:Int)(x6:Int)(x7:Qk):Option ((List QW)×Qk):=
 (jn (fun(y1:Qk)=>((QX.l K x5 K (([]:List QW),(0:Int),y1)).bind fun z1=>(some (z1.1,z1.2)))) (fun j1=>(bif (decide (x6<x5))then((Q3.f K ((4:Int)) (x7)).bind fun r1=>(j1 r1))else(j1 x7))))
def Y0.b(K:Nat)(r3:(Int×Qk))(rec:((List Qp)×Int×Qk)→Option ((List Qp)×Qk))(y1:(List Qp)×Int×Qk):Option ((List Qp)×Qk):=
 (bif (decide (y1.2.1<r3.1))then((QD.f K (y1.2.2)).bind fun r4=>(bif (!decide (r4=(0:Int)))then(some (y1.1,y1.2.2))else((QB.f K (y1.2.2)).bind fun r1=>((QB.f K (r1.2)).bind fun r2=>((catI 16 (y1.1) (([(Qp.mk (r1.1) (r2.1))]:List Qp))).bind fun l1=>(rec (l1,(IntKind.wrap .i64 (y1.2.1+(1:Int))),r2.2)))))))else(some (y1.1,y1.2.2)))
def Y0.l(K:Nat)(r1:(Int×Qk)):Nat→((List Qp)×Int×Qk)→Option ((List Qp)×Qk):=Je (Y0.b K r1)
def QbI.f(K:Nat)(x3:Qk):Option ((List Qp)×Qk):=
 ((QB.f K (x3)).bind fun r1=>(jn (fun(y1:Qk)=>((Y0.l K r1 K (([]:List Qp),(0:Int),y1)).bind fun z1=>(some (z1.1,z1.2)))) (fun j1=>(bif (decide ((6:Int)<r1.1))then((Q3.f K ((2:Int)) (r1.2)).bind fun r2=>(j1 r2))else(j1 r1.2)))))
def Jn.f(K:Nat)(x3:(List Int))(x7:Int):Option ((List Int)×Int×Int):=
 ((X4.f K (x3)).bind fun r33=>(bif (!decide (r33.2.2=(0:Int)))then(some (([]:List Int),(0:Int),r33.2.2))else(bif (decide (x7<r33.1))then(some (([]:List Int),(0:Int),(4:Int)))else(bif (decide ((IntKind.wrap .i64 (((List.length (x3):Nat):Int)-r33.2.1))<r33.1))then(some (([]:List Int),(0:Int),(3:Int)))else((subI (x3) r33.2.1 (IntKind.wrap .i64 (r33.2.1+r33.1))).bind fun l41=>((Q8.f K (l41)).bind fun r46=>(some (r46,(IntKind.wrap .i64 (r33.2.1+r33.1)),(0:Int)))))))))
def J3.f(K:Nat)(x5:Qk)(x9:Int):Option ((List Int)×Qk):=
 ((QD.f K (x5)).bind fun r67=>(bif (!decide (r67=(0:Int)))then(some (([]:List Int),x5))else((Jn.f K (x5.fB) (x9)).bind fun r73=>(bif (!decide (r73.2.2=(0:Int)))then((Q3.f K (r73.2.2) (x5)).bind fun r91=>(some (([]:List Int),r91)))else((subI (x5.fB) r73.2.1 ((List.length (x5.fB):Nat):Int)).bind fun l1=>((some (Qk.mk (l1) (x5.fBad))).bind fun v1=>(some (r73.1,v1))))))))
def YF.f(K:Nat)(x3:Int)(x4:Qk):Option ((List Int)×Qk):=
 ((J3.f K (x4) (x3)).bind fun r33=>(some (r33.1,r33.2)))
def Qdl.f(K:Nat)(x3:Qk):Option (Qm×Qk):=
 ((QB.f K (x3)).bind fun r1=>((some {Qq with fKind:=r1.1}).bind fun v1=>(jn (fun(y1:Qk×Int×Int×Int×Int×Int×Bool×Bool×Int×Int×Int×(Vector Int 32)×(List Qp)×(List Int)×(Vector Int 32)×Bool×(Vector Int 32))=>(jn (fun(y2:Qk)=>((QD.f K (y2)).bind fun r22=>(bif (!decide (r22=(0:Int)))then(some (Qq,y2))else((some (Qm.mk (y1.2.1) (y1.2.2.1) (y1.2.2.2.1) (y1.2.2.2.2.1) (y1.2.2.2.2.2.1) (y1.2.2.2.2.2.2.1) (y1.2.2.2.2.2.2.2.1) (y1.2.2.2.2.2.2.2.2.1) (y1.2.2.2.2.2.2.2.2.2.1) (y1.2.2.2.2.2.2.2.2.2.2.1) (y1.2.2.2.2.2.2.2.2.2.2.2.1) (y1.2.2.2.2.2.2.2.2.2.2.2.2.1) (y1.2.2.2.2.2.2.2.2.2.2.2.2.2.1) (y1.2.2.2.2.2.2.2.2.2.2.2.2.2.2.1) (y1.2.2.2.2.2.2.2.2.2.2.2.2.2.2.2.1) (y1.2.2.2.2.2.2.2.2.2.2.2.2.2.2.2.2))).bind fun v7=>(some (v7,y2)))))) (fun j3=>((qh.f K ((Qm.mk (y1.2.1) (y1.2.2.1) (y1.2.2.2.1) (y1.2.2.2.2.1) (y1.2.2.2.2.2.1) (y1.2.2.2.2.2.2.1) (y1.2.2.2.2.2.2.2.1) (y1.2.2.2.2.2.2.2.2.1) (y1.2.2.2.2.2.2.2.2.2.1) (y1.2.2.2.2.2.2.2.2.2.2.1) (y1.2.2.2.2.2.2.2.2.2.2.2.1) (y1.2.2.2.2.2.2.2.2.2.2.2.2.1) (y1.2.2.2.2.2.2.2.2.2.2.2.2.2.1) (y1.2.2.2.2.2.2.2.2.2.2.2.2.2.2.1) (y1.2.2.2.2.2.2.2.2.2.2.2.2.2.2.2.1) (y1.2.2.2.2.2.2.2.2.2.2.2.2.2.2.2.2)))).bind fun r23=>(bif (!r23)then((Q3.f K ((2:Int)) (y1.1)).bind fun r24=>(j3 r24))else(j3 y1.1)))))) (fun j1=>(bif (decide (v1.fKind=(1:Int)))then((QB.f K (r1.2)).bind fun r5=>((QbI.f K (r5.2)).bind fun r3=>((some {v1 with fSaga:=r5.1}).bind fun v2=>((Yw.f K (r3.2)).bind fun r2=>(bif r2.1 then((Yk.f K (r2.2)).bind fun r6=>(j1 (r6.2,v2.fKind,v2.fSaga,v2.fSeq,v2.fStep,v2.fTry,v2.fBack,v2.fGood,v2.fEnd,v2.fPart,v2.fEpoch,v2.fTag,r3.1,v2.fData,v2.fSalt,r2.1,r6.1)))else((Yk.f K (r2.2)).bind fun r7=>((YF.f K ((60:Int)) (r7.2)).bind fun r8=>(j1 (r8.2,v2.fKind,v2.fSaga,v2.fSeq,v2.fStep,v2.fTry,v2.fBack,v2.fGood,v2.fEnd,v2.fPart,v2.fEpoch,v2.fTag,r3.1,r8.1,r7.1,r2.1,v2.fCom)))))))))else(jn (fun(y3:Bool)=>(bif y3 then((QB.f K (r1.2)).bind fun r9=>((QB.f K (r9.2)).bind fun r10=>((QB.f K (r10.2)).bind fun r11=>((QB.f K (r11.2)).bind fun r12=>((Yw.f K (r12.2)).bind fun r4=>((some {v1 with fSaga:=r9.1}).bind fun v8=>((some {v8 with fSeq:=r10.1}).bind fun v9=>((some {v9 with fStep:=r11.1}).bind fun v10=>((some {v10 with fTry:=r12.1}).bind fun v11=>((some {v11 with fBack:=r4.1}).bind fun v3=>(bif (decide (v3.fKind=(3:Int)))then((Yw.f K (r4.2)).bind fun r13=>((QB.f K (r13.2)).bind fun r14=>((QB.f K (r14.2)).bind fun r15=>((Yk.f K (r15.2)).bind fun r16=>((some {v3 with fGood:=r13.1}).bind fun v12=>((some {v12 with fPart:=r14.1}).bind fun v13=>((some {v13 with fEpoch:=r15.1}).bind fun v14=>((some {v14 with fTag:=r16.1}).bind fun v4=>(j1 (r16.2,v4.fKind,v4.fSaga,v4.fSeq,v4.fStep,v4.fTry,v4.fBack,v4.fGood,v4.fEnd,v4.fPart,v4.fEpoch,v4.fTag,v4.fSteps,v4.fData,v4.fSalt,v4.fGone,v4.fCom))))))))))else(j1 (r4.2,v3.fKind,v3.fSaga,v3.fSeq,v3.fStep,v3.fTry,v3.fBack,v3.fGood,v3.fEnd,v3.fPart,v3.fEpoch,v3.fTag,v3.fSteps,v3.fData,v3.fSalt,v3.fGone,v3.fCom)))))))))))))else(bif (decide (v1.fKind=(5:Int)))then((QB.f K (r1.2)).bind fun r17=>((QB.f K (r17.2)).bind fun r18=>((QB.f K (r18.2)).bind fun r19=>((some {v1 with fSaga:=r17.1}).bind fun v15=>((some {v15 with fSeq:=r18.1}).bind fun v16=>((some {v16 with fEnd:=r19.1}).bind fun v5=>(j1 (r19.2,v5.fKind,v5.fSaga,v5.fSeq,v5.fStep,v5.fTry,v5.fBack,v5.fGood,v5.fEnd,v5.fPart,v5.fEpoch,v5.fTag,v5.fSteps,v5.fData,v5.fSalt,v5.fGone,v5.fCom))))))))else(bif (decide (v1.fKind=(6:Int)))then((QB.f K (r1.2)).bind fun r20=>((QB.f K (r20.2)).bind fun r21=>((some {v1 with fPart:=r20.1}).bind fun v17=>((some {v17 with fEpoch:=r21.1}).bind fun v6=>(j1 (r21.2,v6.fKind,v6.fSaga,v6.fSeq,v6.fStep,v6.fTry,v6.fBack,v6.fGood,v6.fEnd,v6.fPart,v6.fEpoch,v6.fTag,v6.fSteps,v6.fData,v6.fSalt,v6.fGone,v6.fCom))))))else((Q3.f K ((2:Int)) (r1.2)).bind fun r25=>(j1 (r25,v1.fKind,v1.fSaga,v1.fSeq,v1.fStep,v1.fTry,v1.fBack,v1.fGood,v1.fEnd,v1.fPart,v1.fEpoch,v1.fTag,v1.fSteps,v1.fData,v1.fSalt,v1.fGone,v1.fCom))))))) (fun j2=>(bif (decide (v1.fKind=(2:Int)))then(j2 true)else(bif (decide (v1.fKind=(4:Int)))then(j2 true)else(j2 (decide (v1.fKind=(3:Int)))))))))))))
def ZH.f(K:Nat)(x5:Int)(x6:Qk):Option (QE×Qk):=
 ((Qdl.f K (x6)).bind fun r45=>((some (QE.mk (x5) (r45.1) (([]:List (Vector Int 32))))).bind fun v59=>(some (v59,r45.2))))
def QS.b(K:Nat)(x5:Int)(rec:((List QE)×Int×Qk)→Option ((List QE)×Qk))(y1:(List QE)×Int×Qk):Option ((List QE)×Qk):=
 (bif (decide (y1.2.1<x5))then((QD.f K (y1.2.2)).bind fun r2=>(bif (!decide (r2=(0:Int)))then(some (y1.1,y1.2.2))else((ZH.f K (y1.2.1) (y1.2.2)).bind fun r1=>((catI 256 (y1.1) (([r1.1]:List QE))).bind fun l1=>(rec (l1,(IntKind.wrap .i64 (y1.2.1+(1:Int))),r1.2))))))else(some (y1.1,y1.2.2)))
def QS.l(K:Nat)(x5:Int):Nat→((List QE)×Int×Qk)→Option ((List QE)×Qk):=Je (QS.b K x5)
def Jz.f(K:Nat)(x5:Int)(x6:Int)(x7:Qk):Option ((List QE)×Qk):=
 (jn (fun(y1:Qk)=>((QS.l K x5 K (([]:List QE),(0:Int),y1)).bind fun z1=>(some (z1.1,z1.2)))) (fun j1=>(bif (decide (x6<x5))then((Q3.f K ((4:Int)) (x7)).bind fun r1=>(j1 r1))else(j1 x7))))
def ZZ.f(K:Nat)(x5:Int)(x6:Qk):Option ((Vector Int 32)×Qk):=
 ((Yk.f K (x6)).bind fun r25=>(some (r25.1,r25.2)))
def QT.b(K:Nat)(x5:Int)(rec:((List (Vector Int 32))×Int×Qk)→Option ((List (Vector Int 32))×Qk))(y1:(List (Vector Int 32))×Int×Qk):Option ((List (Vector Int 32))×Qk):=
 (bif (decide (y1.2.1<x5))then((QD.f K (y1.2.2)).bind fun r2=>(bif (!decide (r2=(0:Int)))then(some (y1.1,y1.2.2))else((ZZ.f K (y1.2.1) (y1.2.2)).bind fun r1=>((catI 32 (y1.1) (([r1.1]:List (Vector Int 32)))).bind fun l1=>(rec (l1,(IntKind.wrap .i64 (y1.2.1+(1:Int))),r1.2))))))else(some (y1.1,y1.2.2)))
def QT.l(K:Nat)(x5:Int):Nat→((List (Vector Int 32))×Int×Qk)→Option ((List (Vector Int 32))×Qk):=Je (QT.b K x5)
def J9.f(K:Nat)(x5:Int)(x6:Int)(x7:Qk):Option ((List (Vector Int 32))×Qk):=
 (jn (fun(y1:Qk)=>((QT.l K x5 K (([]:List (Vector Int 32)),(0:Int),y1)).bind fun z1=>(some (z1.1,z1.2)))) (fun j1=>(bif (decide (x6<x5))then((Q3.f K ((4:Int)) (x7)).bind fun r1=>(j1 r1))else(j1 x7))))
def ZI.f(K:Nat)(x5:Int)(x6:Qk):Option (QE×Qk):=
 ((QB.f K (x6)).bind fun r1=>((Qdl.f K (r1.2)).bind fun r2=>((some (QE.mk (r1.1) (r2.1) (([]:List (Vector Int 32))))).bind fun v1=>((QB.f K (r2.2)).bind fun r3=>((J9.f K (r3.1) ((20:Int)) (r3.2)).bind fun r4=>(some ({v1 with fPath:=r4.1},r4.2)))))))
def QN.b(K:Nat)(x5:Int)(rec:((List QE)×Int×Qk)→Option ((List QE)×Qk))(y1:(List QE)×Int×Qk):Option ((List QE)×Qk):=
 (bif (decide (y1.2.1<x5))then((QD.f K (y1.2.2)).bind fun r2=>(bif (!decide (r2=(0:Int)))then(some (y1.1,y1.2.2))else((ZI.f K (y1.2.1) (y1.2.2)).bind fun r1=>((catI 256 (y1.1) (([r1.1]:List QE))).bind fun l1=>(rec (l1,(IntKind.wrap .i64 (y1.2.1+(1:Int))),r1.2))))))else(some (y1.1,y1.2.2)))
def QN.l(K:Nat)(x5:Int):Nat→((List QE)×Int×Qk)→Option ((List QE)×Qk):=Je (QN.b K x5)
def Jg.f(K:Nat)(x5:Int)(x6:Int)(x7:Qk):Option ((List QE)×Qk):=
 (jn (fun(y1:Qk)=>((QN.l K x5 K (([]:List QE),(0:Int),y1)).bind fun z1=>(some (z1.1,z1.2)))) (fun j1=>(bif (decide (x6<x5))then((Q3.f K ((4:Int)) (x7)).bind fun r1=>(j1 r1))else(j1 x7))))
def Y6.f(K:Nat)(x3:Qk):Option (Int):=
 ((QD.f K (x3)).bind fun r22=>(bif (!decide (r22=(0:Int)))then(some r22)else(bif (decide ((0:Int)<((List.length (x3.fB):Nat):Int)))then(some (2:Int))else(some (0:Int)))))
def XO.f(K:Nat)(x1:(List Int)):Option (QP×Int):=
 ((bytes_CutPrefix.f K (x1) (([(105:Int),(110:Int),(115:Int),(112:Int)]:List Int))).bind fun r3=>(bif (!r3.2)then(some (Y3,(2:Int)))else((Qdk.f K (r3.1)).bind fun r11=>((Yw.f K (r11)).bind fun r4=>((some {Y3 with fWhole:=r4.1}).bind fun v3=>((QB.f K (r4.2)).bind fun r2=>((some {v3 with fPoint:={v3.fPoint with fSize:=r2.1} }).bind fun v2=>(jn (fun(y2:Qk)=>((Yk.f K (y2)).bind fun r5=>((some {v2 with fPoint:={v2.fPoint with fRoot:=r5.1} }).bind fun v1=>((QB.f K (r5.2)).bind fun r6=>((JI.f K (r6.1) ((4:Int)) (r6.2)).bind fun r1=>(jn (fun(y1:Bool×Int×(Vector Int 32)×(List QW)×(List QE)×Qk)=>((Y6.f K (y1.2.2.2.2.2)).bind fun r7=>(bif (!decide (r7=(0:Int)))then(some (Y3,r7))else((JE.f K ((QP.mk (y1.1) ((Qo.mk (y1.2.1) (y1.2.2.1) (y1.2.2.2.1))) (y1.2.2.2.2.1)))).bind fun r12=>(bif (!r12)then(some (Y3,(2:Int)))else(some ((QP.mk (y1.1) ((Qo.mk (y1.2.1) (y1.2.2.1) (y1.2.2.2.1))) (y1.2.2.2.2.1)),(0:Int)))))))) (fun j1=>(bif v1.fWhole then((Jz.f K (v1.fPoint.fSize) ((400:Int)) (r1.2)).bind fun r8=>(j1 (v1.fWhole,v1.fPoint.fSize,v1.fPoint.fRoot,r1.1,r8.1,r8.2)))else((QB.f K (r1.2)).bind fun r9=>((Jg.f K (r9.1) (v1.fPoint.fSize) (r9.2)).bind fun r10=>(j1 (v1.fWhole,v1.fPoint.fSize,v1.fPoint.fRoot,r1.1,r10.1,r10.2)))))))))))) (fun j2=>(bif (decide ((400:Int)<v2.fPoint.fSize))then((Q3.f K ((4:Int)) (r2.2)).bind fun r13=>(j2 r13))else(j2 r2.2)))))))))))
def QaN.f(K:Nat)(x7:Int)(x8:Int)(x9:(Vector Int 32))(x10:(Vector Int 32)):Option (Int):=
 (chk (inA 32 x7) (chk (inA 32 x7) (some (bor .u8 x8 (bxor .u8 (vget (x9) (Int.toNat (x7))) (vget (x10) (Int.toNat (x7))))))))
def Yo.b(K:Nat)(x1:(Vector Int 32))(x2:(Vector Int 32))(rec:(Int×Int)→Option (Int))(y1:Int×Int):Option (Int):=
 (bif (decide (y1.1<(32:Int)))then((QaN.f K (y1.1) (y1.2) (x1) (x2)).bind fun r1=>(rec ((IntKind.wrap .i64 (y1.1+(1:Int))),r1)))else(some y1.2))
def Yo.l(K:Nat)(x1:(Vector Int 32))(x2:(Vector Int 32)):Nat→(Int×Int)→Option (Int):=Je (Yo.b K x1 x2)
def X5.f(K:Nat)(x1:(Vector Int 32))(x2:(Vector Int 32)):Option (Bool):=
 ((Yo.l K x1 x2 K ((0:Int),(0:Int))).bind fun z1=>(some (decide (z1=(0:Int)))))
def Xl.f(K:Nat)(x1:XV)(x2:(Vector Int 32)):Option (Bool):=
 ((X5.f K (x1.fTag) (x2)).bind fun r16=>(some r16))
def Jh.b(K:Nat)(x1:Qw)(x8:Qo)(rec:(Int×(List Bool))→Option (Sum ((Int)) (Unit)))(y1:Int×(List Bool)):Option (Sum ((Int)) (Unit)):=
 (bif (decide (y1.1<((List.length (x8.fSigs):Nat):Int)))then((getI (x8.fSigs) y1.1).bind fun x2=>(jn (fun(y2:Bool)=>(bif y2 then(some (Sum.inl (8:Int)))else((X0.f K (x1) (x2.fWit) (x8)).bind fun r1=>((Xl.f K ((XV.mk (r1))) (x2.fTag)).bind fun r2=>(bif (!r2)then(some (Sum.inl (8:Int)))else(chk (inA 4 x2.fWit) ((some (List.set (y1.2) (Int.toNat (x2.fWit)) (true))).bind fun v1=>(rec ((IntKind.wrap .i64 (y1.1+(1:Int))),v1))))))))) (fun j1=>((Jw.f K (x2.fWit) ((0:Int)) ((IntKind.wrap .i64 (((List.length (x1.fWits):Nat):Int)-(1:Int))))).bind fun r3=>(bif (!r3)then(j1 true)else(chk (inA 4 x2.fWit) ((getI (y1.2) x2.fWit).bind fun x3=>(j1 x3))))))))else(some (Sum.inr ())))
def Jh.l(K:Nat)(x1:Qw)(x8:Qo):Nat→(Int×(List Bool))→Option (Sum ((Int)) (Unit)):=Je (Jh.b K x1 x8)
def Qam.f(K:Nat)(x1:Qw)(x8:Qo):Option (Int):=
 (jn (fun(y1:Bool)=>(bif y1 then(some (1:Int))else((Jh.l K x1 x8 K ((0:Int),([false,false,false,false]:List Bool))).bind fun s1=>(match s1 with| .inl u1=>some u1| .inr u2=>(fun(z1:Unit)=>(bif (decide (((List.length (x8.fSigs):Nat):Int)<x1.fNeed))then(some (8:Int))else(some (0:Int)))) u2)))) (fun j1=>((Zz.f K (x1)).bind fun r1=>(bif (!r1)then(j1 true)else((Jw.f K (x8.fSize) ((0:Int)) ((400:Int))).bind fun r2=>(j1 (!r2)))))))
def yZ.f(K:Nat)(x1:Qm):Option ((Vector Int 32)):=
 ((Qal.f K (x1)).bind fun r36=>((QbE.f K (r36)).bind fun r51=>(some r51)))
def qL.f(K:Nat)(x3:(List (Vector Int 32)))(x9:Int):Option ((Vector Int 32)×(List (Vector Int 32))×Int):=
 ((getI (x3) (IntKind.wrap .i64 (((List.length (x3):Nat):Int)-(1:Int)))).bind fun x29=>((getI (x3) (IntKind.wrap .i64 (((List.length (x3):Nat):Int)-(1:Int)))).bind fun x33=>((subI (x3) 0 (IntKind.wrap .i64 (((List.length (x3):Nat):Int)-(1:Int)))).bind fun l36=>(some (x33,l36,x9)))))
def qi.f(K:Nat)(x3:(Vector Int 32))(x4:(List (Vector Int 32)))(x10:Int):Option ((List (Vector Int 32))×Int):=
 ((catI 32 (x4) (([x3]:List (Vector Int 32)))).bind fun l55=>(some (l55,x10)))
def Jo.b(K:Nat)(rec:(Int×(List (Vector Int 32))×Int×(Vector Int 32))→Option ((List (Vector Int 32))×Int×(Vector Int 32)))(y1:Int×(List (Vector Int 32))×Int×(Vector Int 32)):Option ((List (Vector Int 32))×Int×(Vector Int 32)):=
 (bif (decide ((Int.tmod y1.1 2)=(1:Int)))then((qL.f K (y1.2.1) (y1.2.2.1)).bind fun r1=>((Xk.f K (r1.1) (y1.2.2.2)).bind fun r2=>(rec ((IntKind.wrap .i64 (Int.tdiv y1.1 2)),r1.2.1,r1.2.2,r2))))else(some (y1.2.1,y1.2.2.1,y1.2.2.2)))
def Jo.l(K:Nat):Nat→(Int×(List (Vector Int 32))×Int×(Vector Int 32))→Option ((List (Vector Int 32))×Int×(Vector Int 32)):=Je (Jo.b K)
def Xd.f(K:Nat)(x3:(Vector Int 32))(x4:(List (Vector Int 32)))(x10:Int):Option ((List (Vector Int 32))×Int):=
 ((Jo.l K K (x10,x4,x10,x3)).bind fun z1=>((qi.f K (z1.2.2) (z1.1) (z1.2.1)).bind fun r1=>(some (r1.1,(IntKind.wrap .i64 (r1.2+(1:Int)))))))
def X6.f(K:Nat)(x3:(List (Vector Int 32)))(x9:Int):Option (Int×(List (Vector Int 32))×Int):=
 (some (x9,x3,x9))
def qj.f(K:Nat)(x3:(List (Vector Int 32)))(x9:Int):Option ((List (Vector Int 32))×Int):=
 (some (x3,x9))
def YJ.b(K:Nat)(r1:((List (Vector Int 32))×Int))(rec:(Int×(Vector Int 32)×Bool)→Option ((Vector Int 32)×Bool))(y1:Int×(Vector Int 32)×Bool):Option ((Vector Int 32)×Bool):=
 (bif (decide ((0:Int)≤y1.1))then(jn (fun(y2:(Vector Int 32)×Bool)=>(rec ((IntKind.wrap .i64 (y1.1-(1:Int))),y2.1,y2.2))) (fun j1=>((getI (r1.1) y1.1).bind fun x2=>((getI (r1.1) y1.1).bind fun x1=>(bif y1.2.2 then(j1 (x1,false))else((Xk.f K (x1) (y1.2.1)).bind fun r2=>(j1 (r2,y1.2.2))))))))else(some (y1.2.1,y1.2.2)))
def YJ.l(K:Nat)(r1:((List (Vector Int 32))×Int)):Nat→(Int×(Vector Int 32)×Bool)→Option ((Vector Int 32)×Bool):=Je (YJ.b K r1)
def yI.f(K:Nat)(x3:(List (Vector Int 32)))(x9:Int):Option ((Vector Int 32)×(List (Vector Int 32))×Int):=
 ((X6.f K (x3) (x9)).bind fun r1=>(bif (decide (r1.1=(0:Int)))then((shaQ.f K (([]:List (List Int)))).bind fun r3=>(some (r3,r1.2.1,r1.2.2)))else((qj.f K (r1.2.1) (r1.2.2)).bind fun r2=>((YJ.l K r2 K ((IntKind.wrap .i64 (((List.length (r2.1):Nat):Int)-(1:Int))),(Vector.replicate 32 (0:Int)),true)).bind fun z1=>(some (z1.1,r2.1,r2.2))))))
def Qco.f(K:Nat)(x1:Qw)(x8:Qm):Option (Bool):=
 ((jd.f K (x1) (x8)).bind fun r63=>(jn (fun(y83:Bool)=>(some y83)) (fun j86=>((qh.f K (x8)).bind fun r88=>(bif r88 then(bif (decide (x8.fKind=(3:Int)))then((XM.f K (x1) (x8.fPart) (x8.fEpoch)).bind fun r93=>(bif r93 then((Xl.f K ((XV.mk (r63))) (x8.fTag)).bind fun r98=>(j86 r98))else(j86 false)))else(j86 false))else(j86 false))))))
def Y9.fs(K:Nat)(x1:YW)(x8:Qm):Option (Sum Int Unit):=
 (bif (!decide (x8.fKind=(3:Int)))then(sm (Yq.fs K (true) ((7:Int))) (fun e53=>(some (Sum.inl e53))) (fun r51=>(some (Sum.inr ()))))else((Qco.f K (x1.fK) (x8)).bind fun r40=>(sm (Yq.fs K (r40) ((7:Int))) (fun e47=>(some (Sum.inl e47))) (fun r45=>(some (Sum.inr ()))))))
def qM.f(K:Nat)(x1:Int)(x2:Int)(x3:Int):Option (Bool):=
 (bif (decide (x2≤x1))then(some (decide (x1≤x3)))else(some false))
def JJ.b(K:Nat)(x1:(List Qp))(rec:(Int×Int)→Option (Sum ((Bool)) (Unit)))(y1:Int×Int):Option (Sum ((Bool)) (Unit)):=
 (bif (decide (y1.2<((List.length (x1):Nat):Int)))then(jn (fun(y2:Int)=>(rec (y2,(IntKind.wrap .i64 (y1.2+(1:Int)))))) (fun j1=>((getI (x1) y1.2).bind fun x2=>(jn (fun(y3:Bool)=>(bif y3 then(some (Sum.inl false))else(bif (decide (x2.fKind=(2:Int)))then(j1 (3:Int))else(j1 x2.fKind)))) (fun j2=>((qM.f K (x2.fPart) ((0:Int)) ((3:Int))).bind fun r1=>(bif (!r1)then(j2 true)else((qM.f K (x2.fKind) (y1.1) ((3:Int))).bind fun r2=>(j2 (!r2))))))))))else(some (Sum.inr ())))
def JJ.l(K:Nat)(x1:(List Qp)):Nat→(Int×Int)→Option (Sum ((Bool)) (Unit)):=Je (JJ.b K x1)
def ZJ.f(K:Nat)(x1:(List Qp)):Option (Bool):=
 ((qM.f K (((List.length (x1):Nat):Int)) ((1:Int)) ((6:Int))).bind fun r1=>(bif (!r1)then(some false)else((JJ.l K x1 K ((1:Int),(0:Int))).bind fun s1=>(match s1 with| .inl u1=>some u1| .inr u2=>(fun(z1:Unit)=>(some true)) u2))))
def QaO.f(K:Nat)(x1:(List Qp)):Option (QI):=
 ((ZJ.f K (x1)).bind fun r45=>(bif (!r45)then(some QA)else((QQ.f K (x1)).bind fun r50=>((some {QA with fSteps:=r50,fSeq:=(1:Int) }).bind fun v65=>(some v65)))))
def Qcp.f(K:Nat)(x1:Yi)(x5:Qm)(x12:Int):Option (Yi×Bool):=
 (jn (fun(y1:Bool)=>(bif y1 then(some (x1,false))else((QU.f K (x1.fSagas)).bind fun r1=>((QaO.f K (x5.fSteps)).bind fun r2=>((catI 88 (r1) (([r2]:List QI))).bind fun l1=>(some ((Yi.mk (x1.fEpochs) (l1)),true))))))) (fun j1=>(bif (!decide (x5.fSaga=((List.length (x1.fSagas):Nat):Int)))then(j1 true)else(bif (decide ((12:Int)≤((List.length (x1.fSagas):Nat):Int)))then(j1 true)else((ZJ.f K (x5.fSteps)).bind fun r3=>(j1 (!r3)))))))
def QbJ.f(K:Nat)(x1:QI):Option (Bool):=
 ((qM.f K (x1.fPhase) ((2:Int)) ((4:Int))).bind fun r14=>(some r14))
def Qdm.f(K:Nat)(x1:(List Qp)):Option ((List Qp)):=
 (some x1)
def Yp.b(K:Nat)(x1:QI)(r1:((List Qp)))(rec:Int→Option (Sum ((Int)) (Unit)))(y1:Int):Option (Sum ((Int)) (Unit)):=
 (bif (decide ((0:Int)≤y1))then((getI (r1) y1).bind fun x2=>(jn (fun(y2:Bool)=>(bif y2 then(some (Sum.inl y1))else(rec (IntKind.wrap .i64 (y1-(1:Int)))))) (fun j1=>(bif (decide (x2.fKind=(1:Int)))then(chk (!(decide (y1<0))) (j1 (decide ((band .i64 (Int.fdiv (Qij .i64 (bor .i64 x1.fDone x1.fSome) x1.fUndone) (2^(min (Int.toNat y1) 64))) (1:Int))=(1:Int)))))else(j1 false)))))else(some (Sum.inr ())))
def Yp.l(K:Nat)(x1:QI)(r1:((List Qp))):Nat→(Int)→Option (Sum ((Int)) (Unit)):=Je (Yp.b K x1 r1)
def jV.f(K:Nat)(x1:QI):Option (Int):=
 ((Qdm.f K (x1.fSteps)).bind fun r1=>((Yp.l K x1 r1 K (IntKind.wrap .i64 (((List.length (r1):Nat):Int)-(1:Int)))).bind fun s1=>(match s1 with| .inl u1=>some u1| .inr u2=>(fun(z1:Unit)=>(some (-1:Int))) u2)))
def JK.f(K:Nat)(x1:QI):Option (Int):=
 (bif (decide (x1.fPhase=(1:Int)))then((jV.f K (x1)).bind fun r24=>(some r24))else(bif (decide (x1.fAt<((List.length (x1.fSteps):Nat):Int)))then(some x1.fAt)else(some (-1:Int))))
def Qdn.f(K:Nat)(x1:QI)(x5:Int):Option (Qm×Bool):=
 (jn (fun(y1:Bool)=>(bif y1 then(some (Qq,false))else((JK.f K (x1)).bind fun r1=>(jn (fun(y2:Bool)=>(bif y2 then((some {Qq with fKind:=(5:Int),fEnd:=(2:Int) }).bind fun v1=>(some (v1,true)))else(bif (decide (r1<(0:Int)))then((some {Qq with fKind:=(5:Int),fEnd:=(3:Int) }).bind fun v2=>(some (v2,true)))else(bif (decide (x1.fTries<x5))then((some {Qq with fKind:=(2:Int),fStep:=r1,fTry:=(IntKind.wrap .i64 (x1.fTries+(1:Int))),fBack:=(decide (x1.fPhase=(1:Int))) }).bind fun v3=>(some (v3,true)))else((some {Qq with fKind:=(5:Int),fEnd:=(4:Int) }).bind fun v4=>(some (v4,true))))))) (fun j2=>(bif (decide (r1<(0:Int)))then(j2 (decide (x1.fPhase=(0:Int))))else(j2 false))))))) (fun j1=>(bif x1.fWait then(j1 true)else((QbJ.f K (x1)).bind fun r2=>(bif r2 then(j1 true)else(bif (decide (((List.length (x1.fSteps):Nat):Int)=(0:Int)))then(j1 true)else((qM.f K (x5) ((1:Int)) ((9:Int))).bind fun r3=>(j1 (!r3)))))))))
def X7.f(K:Nat)(x1:QI)(x5:QI)(x9:Bool):Option (QI×Bool):=
 (bif x9 then(some (x5,true))else(some (x1,false)))
def QcR.f(K:Nat)(x1:Qm):Option (QaJ):=
 ((some (QaJ.mk (x1.fKind) (x1.fStep) (x1.fTry) (x1.fBack) (x1.fEnd))).bind fun v18=>(some v18))
def Qgd.f(K:Nat)(x1:QI):Option (QI):=
 ((some {x1 with fPhase:=(1:Int) }).bind fun v22=>((some {v22 with fTries:=(0:Int) }).bind fun v25=>(some v25)))
def XB.f(K:Nat)(x1:QI)(x5:Qm):Option (QI):=
 ((JK.f K (x1)).bind fun r1=>(chk (!(decide (r1<0))) (jn (fun(y1:QI)=>((some {y1 with fWait:=false}).bind fun v1=>((some {v1 with fBack:=false}).bind fun v2=>(some v2)))) (fun j1=>(jn (fun(y2:Bool)=>(bif y2 then((some {x1 with fUndone:=(bor .i64 x1.fUndone (IntKind.wrap .i64 ((1:Int)*2^(min (Int.toNat r1) 64)))) }).bind fun v3=>((some {v3 with fTries:=(0:Int) }).bind fun v4=>(j1 v4)))else(bif x1.fBack then(j1 x1)else(bif x5.fGood then((some {x1 with fDone:=(bor .i64 x1.fDone (IntKind.wrap .i64 ((1:Int)*2^(min (Int.toNat r1) 64)))) }).bind fun v5=>((some {v5 with fSome:=(Qij .i64 x1.fSome (IntKind.wrap .i64 ((1:Int)*2^(min (Int.toNat r1) 64)))) }).bind fun v6=>((some {v6 with fAt:=(IntKind.wrap .i64 (x1.fAt+(1:Int))) }).bind fun v7=>((some {v7 with fTries:=(0:Int) }).bind fun v8=>(j1 v8)))))else((getI (x1.fSteps) r1).bind fun x2=>(bif (!decide (x2.fKind=(3:Int)))then((some {x1 with fSome:=(Qij .i64 x1.fSome (IntKind.wrap .i64 ((1:Int)*2^(min (Int.toNat r1) 64)))) }).bind fun v9=>((Qgd.f K (v9)).bind fun r2=>(j1 r2)))else(j1 x1))))))) (fun j2=>(bif x1.fBack then(j2 x5.fGood)else(j2 false))))))))
def QaP.f(K:Nat)(x1:QI)(x5:Int):Option (QI):=
 ((JK.f K (x1)).bind fun r1=>(bif (!x1.fBack)then(chk (!(decide (r1<0))) ((some {x1 with fSome:=(bor .i64 x1.fSome (IntKind.wrap .i64 ((1:Int)*2^(min (Int.toNat r1) 64)))) }).bind fun v1=>(jn (fun(y1:Bool)=>(bif y1 then((Qgd.f K (v1)).bind fun r2=>((some {r2 with fWait:=false}).bind fun v2=>((some {v2 with fBack:=false}).bind fun v3=>(some v3))))else((some {v1 with fWait:=false}).bind fun v4=>((some {v4 with fBack:=false}).bind fun v5=>(some v5))))) (fun j1=>((getI (v1.fSteps) r1).bind fun x2=>(bif (decide (x2.fKind=(1:Int)))then(j1 (decide (v1.fTries=x5)))else(j1 false)))))))else((some {x1 with fWait:=false}).bind fun v6=>((some {v6 with fBack:=false}).bind fun v7=>(some v7)))))
def QcS.f(K:Nat)(x1:QI)(x5:Qm)(x12:Int):Option (QI×Bool):=
 (jn (fun(y1:Bool)=>(bif y1 then(some (x1,false))else((some {x1 with fSeq:=(IntKind.wrap .i64 (x1.fSeq+(1:Int))) }).bind fun v1=>((Qdn.f K (x1) (x12)).bind fun r5=>(jn (fun(y4:Unit)=>(bif (!decide (x5.fKind=(4:Int)))then(some (x1,false))else((QaP.f K (v1) (x12)).bind fun r10=>(some (r10,true))))) (fun j3=>(bif (decide (x5.fKind=(2:Int)))then((some {v1 with fWait:=true}).bind fun v4=>((some {v4 with fTries:=x5.fTry}).bind fun v5=>((some {v5 with fBack:=x5.fBack}).bind fun v2=>(bif r5.2 then((QcR.f K (r5.1)).bind fun r1=>((QcR.f K (x5)).bind fun r2=>((X7.f K (x1) (v2) (((decide (r1.fKind=r2.fKind))&&((decide (r1.fStep=r2.fStep))&&((decide (r1.fTry=r2.fTry))&&((r1.fBack==r2.fBack)&&((decide (r1.fEnd=r2.fEnd))&&true))))))).bind fun r6=>(some (r6.1,r6.2)))))else((X7.f K (x1) (v2) (false)).bind fun r7=>(some (r7.1,r7.2)))))))else(bif (decide (x5.fKind=(5:Int)))then((some {v1 with fPhase:=x5.fEnd}).bind fun v3=>(bif r5.2 then((QcR.f K (r5.1)).bind fun r3=>((QcR.f K (x5)).bind fun r4=>((X7.f K (x1) (v3) (((decide (r3.fKind=r4.fKind))&&((decide (r3.fStep=r4.fStep))&&((decide (r3.fTry=r4.fTry))&&((r3.fBack==r4.fBack)&&((decide (r3.fEnd=r4.fEnd))&&true))))))).bind fun r8=>(some (r8.1,r8.2)))))else((X7.f K (x1) (v3) (false)).bind fun r9=>(some (r9.1,r9.2)))))else(jn (fun(y2:Bool)=>(bif y2 then(jn (fun(y3:Bool)=>(bif y3 then(some (x1,false))else(bif (decide (x5.fKind=(3:Int)))then((XB.f K (v1) (x5)).bind fun r11=>(some (r11,true)))else(j3 ())))) (fun j1=>(bif (!x1.fWait)then(j1 true)else((JK.f K (x1)).bind fun r12=>(bif (!decide (x5.fStep=r12))then(j1 true)else(bif (!decide (x5.fTry=x1.fTries))then(j1 true)else(j1 (!(x5.fBack==x1.fBack)))))))))else(j3 ()))) (fun j4=>(bif (decide (x5.fKind=(3:Int)))then(j4 true)else(j4 (decide (x5.fKind=(4:Int))))))))))))))) (fun j2=>(bif (!decide (x5.fSeq=x1.fSeq))then(j2 true)else(bif (decide (((List.length (x1.fSteps):Nat):Int)=(0:Int)))then(j2 true)else((QbJ.f K (x1)).bind fun r13=>(bif r13 then(j2 true)else((qM.f K (x12) ((1:Int)) ((9:Int))).bind fun r14=>(j2 (!r14)))))))))
def X8.f(K:Nat)(x1:Yi)(x5:Qm)(x12:Int):Option (Yi×Bool):=
 (bif (decide (((List.length (x1.fSagas):Nat):Int)≤x5.fSaga))then(some (x1,false))else((getI (x1.fSagas) x5.fSaga).bind fun x2=>((QcS.f K (x2) (x5) (x12)).bind fun r1=>(bif (!r1.2)then(some (x1,false))else((QU.f K (x1.fSagas)).bind fun r2=>((getI (r2) x5.fSaga).bind fun x3=>(some ((Yi.mk (x1.fEpochs) ((List.set (r2) (Int.toNat (x5.fSaga)) (r1.1)))),true))))))))
def ZK.f(K:Nat)(x1:Yi)(x5:Qm)(x12:Int):Option (Yi×Bool):=
 (jn (fun(y1:Bool)=>(bif y1 then(some (x1,false))else((X8.f K (x1) (x5) (x12)).bind fun r1=>(some (r1.1,r1.2))))) (fun j1=>(bif (decide (((List.length (x1.fSagas):Nat):Int)≤x5.fSaga))then(j1 true)else((getI (x1.fSagas) x5.fSaga).bind fun x2=>(bif (decide (((List.length (x2.fSteps):Nat):Int)≤x5.fStep))then(j1 true)else((getI (x1.fSagas) x5.fSaga).bind fun x3=>((getI (x3.fSteps) x5.fStep).bind fun x4=>(bif (!decide (x4.fPart=x5.fPart))then(j1 true)else(chk (inA 4 x5.fPart) (j1 (!decide ((vget (x1.fEpochs) (Int.toNat (x5.fPart)))=x5.fEpoch))))))))))))
def QaQ.f(K:Nat)(x1:Yi)(x5:Qm)(x12:Int):Option (Yi×Bool):=
 (chk (inA 4 x5.fPart) (bif (!decide (x5.fEpoch=(IntKind.wrap .i64 ((vget (x1.fEpochs) (Int.toNat (x5.fPart)))+(1:Int)))))then(some (x1,false))else(chk (inA 4 x5.fPart) ((some (vset (x1.fEpochs) (Int.toNat (x5.fPart)) (x5.fEpoch))).bind fun v32=>((some (Yi.mk (v32) (x1.fSagas))).bind fun v33=>(some (v33,true)))))))
def Qiy.f(K:Nat)(x1:Yi)(x5:Qm)(x12:Int):Option (Yi×Bool):=
 (jn (fun(y1:Bool)=>(bif y1 then(some (x1,false))else(bif decide (x5.fKind=(1:Int))then((Qcp.f K (x1) (x5) (x12)).bind fun r1=>(some (r1.1,r1.2)))else(bif decide (x5.fKind=(2:Int))then((X8.f K (x1) (x5) (x12)).bind fun r2=>(some (r2.1,r2.2)))else(bif decide (x5.fKind=(3:Int))then((ZK.f K (x1) (x5) (x12)).bind fun r3=>(some (r3.1,r3.2)))else(bif decide (x5.fKind=(4:Int))then((X8.f K (x1) (x5) (x12)).bind fun r4=>(some (r4.1,r4.2)))else(bif decide (x5.fKind=(5:Int))then((X8.f K (x1) (x5) (x12)).bind fun r5=>(some (r5.1,r5.2)))else(bif decide (x5.fKind=(6:Int))then((QaQ.f K (x1) (x5) (x12)).bind fun r6=>(some (r6.1,r6.2)))else none)))))))) (fun j1=>((qh.f K (x5)).bind fun r7=>(bif (!r7)then(j1 true)else(bif (decide (x12<(1:Int)))then(j1 true)else(j1 (decide ((9:Int)<x12))))))))
def je.f(K:Nat)(x1:QI):Option (Int):=
 (bif (decide (x1.fPhase=(2:Int)))then(some (0:Int))else(some (Qij .i64 x1.fDone x1.fUndone)))
def Y4.b(K:Nat)(x1:Yi)(rec:((List Qu)×Int)→Option ((List Qu)))(y1:(List Qu)×Int):Option ((List Qu)):=
 (bif (decide (y1.2<((List.length (x1.fSagas):Nat):Int)))then((getI (x1.fSagas) y1.2).bind fun x2=>((je.f K (x2)).bind fun r1=>((catI 16 (y1.1) (([(Qu.mk (x2.fPhase) (r1))]:List Qu))).bind fun l1=>(rec (l1,(IntKind.wrap .i64 (y1.2+(1:Int))))))))else(some y1.1))
def Y4.l(K:Nat)(x1:Yi):Nat→((List Qu)×Int)→Option ((List Qu)):=Je (Y4.b K x1)
def QaR.f(K:Nat)(x1:Yi):Option ((List Qu)):=
 ((Y4.l K x1 K (([]:List Qu),(0:Int))).bind fun z1=>(some z1))
def Yb.b(K:Nat)(x8:QP)(rec:(Int×(List (Vector Int 32))×Int)→Option ((List (Vector Int 32))×Int))(y1:Int×(List (Vector Int 32))×Int):Option ((List (Vector Int 32))×Int):=
 (bif (decide (y1.1<((List.length (x8.fItems):Nat):Int)))then((getI (x8.fItems) y1.1).bind fun x1=>((yZ.f K (x1.fRec)).bind fun r2=>((Xd.f K (r2) (y1.2.1) (y1.2.2)).bind fun r1=>(rec ((IntKind.wrap .i64 (y1.1+(1:Int))),r1.1,r1.2)))))else(some (y1.2.1,y1.2.2)))
def Yb.l(K:Nat)(x8:QP):Nat→(Int×(List (Vector Int 32))×Int)→Option ((List (Vector Int 32))×Int):=Je (Yb.b K x8)
def Yc.b(K:Nat)(x1:YW)(x8:QP)(rec:(Int×Yi)→Option (Sum ((Sum Int (Int×(List Int)×(List Qu)))) (Yi)))(y1:Int×Yi):Option (Sum ((Sum Int (Int×(List Int)×(List Qu)))) (Yi)):=
 (bif (decide (y1.1<((List.length (x8.fItems):Nat):Int)))then((getI (x8.fItems) y1.1).bind fun x2=>(sm (Y9.fs K (x1) (x2.fRec)) (fun e1=>(some (Sum.inl (Sum.inl e1)))) (fun r2=>((Qiy.f K (y1.2) (x2.fRec) (x1.fLimit)).bind fun r1=>(sm (Yq.fs K (r1.2) ((9:Int))) (fun e2=>(some (Sum.inl (Sum.inl e2)))) (fun r3=>(rec ((IntKind.wrap .i64 (y1.1+(1:Int))),r1.1))))))))else(some (Sum.inr y1.2)))
def Yc.l(K:Nat)(x1:YW)(x8:QP):Nat→(Int×Yi)→Option (Sum ((Sum Int (Int×(List Int)×(List Qu)))) (Yi)):=Je (Yc.b K x1 x8)
def Yd.b(K:Nat)(z1:Yi)(rec:(Int×Int×(List Int)×(List Qu))→Option (Int×(List Int)×(List Qu)))(y1:Int×Int×(List Int)×(List Qu)):Option (Int×(List Int)×(List Qu)):=
 (bif (decide (y1.1<((List.length (z1.fSagas):Nat):Int)))then((catI 8 (y1.2.2.1) (([y1.1]:List Int))).bind fun l1=>(rec ((IntKind.wrap .i64 (y1.1+(1:Int))),y1.2.1,l1,y1.2.2.2)))else(some (y1.2.1,y1.2.2.1,y1.2.2.2)))
def Yd.l(K:Nat)(z1:Yi):Nat→(Int×Int×(List Int)×(List Qu))→Option (Int×(List Int)×(List Qu)):=Je (Yd.b K z1)
def Y8.fs(K:Nat)(x1:YW)(x8:QP):Option (Sum Int (Int×(List Int)×(List Qu))):=
 ((Yb.l K x8 K ((0:Int),([]:List (Vector Int 32)),(0:Int))).bind fun z2=>((yI.f K (z2.1) (z2.2)).bind fun r1=>(sm (Yq.fs K ((decide (r1.1=x8.fPoint.fRoot))) ((6:Int))) (fun e1=>(some (Sum.inl e1))) (fun r3=>((Yc.l K x1 x8 K ((0:Int),(Yi.mk ((Vector.replicate 4 (0:Int))) (([]:List QI))))).bind fun s1=>(match s1 with| .inl u1=>some u1| .inr u2=>(fun(z3:Yi)=>((QaR.f K (z3)).bind fun r2=>((Yd.l K z3 K ((0:Int),(0:Int),([]:List Int),r2)).bind fun z1=>(some (Sum.inr (z1.1,z1.2.1,z1.2.2)))))) u2))))))
def QaS.fs(K:Nat)(x5:Int)(x6:(List (Vector Int 32))):Option (Sum Int ((Vector Int 32)×Int)):=
 (bif (decide (x5=(0:Int)))then(some (Sum.inl (0:Int)))else((getI (x6) (IntKind.wrap .i64 (x5-(1:Int)))).bind fun x33=>(some (Sum.inr (x33,(IntKind.wrap .i64 (x5-(1:Int))))))))
def Yr.b(K:Nat)(self:Int→Int→(Vector Int 32)→Int→(List (Vector Int 32))→Option (Sum Int ((Vector Int 32)×Int)))(x11:Int)(x12:Int)(x13:(Vector Int 32))(x14:Int)(x15:(List (Vector Int 32))):Option (Sum Int ((Vector Int 32)×Int)):=
 (bif (decide (x12=(1:Int)))then(some (Sum.inr (x13,x14)))else((XN.f K (x12)).bind fun r1=>(sm (QaS.fs K (x14) (x15)) (fun e1=>(some (Sum.inl e1))) (fun r2=>(bif (decide (x11<r1))then(sm (self (x11) (r1) (x13) (r2.2) (x15)) (fun e2=>(some (Sum.inl e2))) (fun r3=>((Xk.f K (r3.1) (r2.1)).bind fun r5=>(some (Sum.inr (r5,r3.2))))))else(sm (self ((IntKind.wrap .i64 (x11-r1))) ((IntKind.wrap .i64 (x12-r1))) (x13) (r2.2) (x15)) (fun e3=>(some (Sum.inl e3))) (fun r4=>((Xk.f K (r2.1) (r4.1)).bind fun r6=>(some (Sum.inr (r6,r4.2)))))))))))
def Yr.r(K:Nat):Nat→Int→Int→(Vector Int 32)→Int→(List (Vector Int 32))→Option (Sum Int ((Vector Int 32)×Int))
 |0=>fun _ _ _ _ _=>none
 |k+1=>Yr.b K (Yr.r K k)
def Yr.fs(K:Nat)(x11:Int)(x12:Int)(x13:(Vector Int 32))(x14:Int)(x15:(List (Vector Int 32))):Option (Sum Int ((Vector Int 32)×Int)):=Yr.r K K x11 x12 x13 x14 x15
def QaT.fs(K:Nat)(x13:Int)(x14:(List (Vector Int 32)))(x18:(Vector Int 32))(x19:Int)(x20:Int)(x21:(Vector Int 32)):Option (Sum Int (Int×(Vector Int 32))):=
 (sm (Yr.fs K (x19) (x20) (x18) (x13) (x14)) (fun e38=>(some (Sum.inl e38))) (fun r36=>(some (Sum.inr (r36.2,r36.1)))))
def QaU.f(K:Nat)(x9:(List (Vector Int 32)))(x13:(Vector Int 32))(x14:Int)(x15:Int)(x16:(Vector Int 32)):Option (Bool×(Vector Int 32)):=
 (sm (QaT.fs K (((List.length (x9):Nat):Int)) (x9) (x13) (x14) (x15) (x16)) (fun e41=>(some (false,x16))) (fun r39=>(some ((decide (r39.1=(0:Int))),r39.2))))
def QaV.f(K:Nat)(x1:(Vector Int 32))(x2:Int)(x3:Int)(x4:(List (Vector Int 32))):Option ((Vector Int 32)×Bool):=
 (jn (fun(y46:Bool)=>(bif y46 then(some ((vofL 32 [(0:Int),(0:Int),(0:Int),(0:Int),(0:Int),(0:Int),(0:Int),(0:Int),(0:Int),(0:Int),(0:Int),(0:Int),(0:Int),(0:Int),(0:Int),(0:Int),(0:Int),(0:Int),(0:Int),(0:Int),(0:Int),(0:Int),(0:Int),(0:Int),(0:Int),(0:Int),(0:Int),(0:Int),(0:Int),(0:Int),(0:Int),(0:Int)]),false))else((QaU.f K (x4) (x1) (x2) (x3) ((Vector.replicate 32 (0:Int)))).bind fun r51=>(bif (!r51.1)then(some ((vofL 32 [(0:Int),(0:Int),(0:Int),(0:Int),(0:Int),(0:Int),(0:Int),(0:Int),(0:Int),(0:Int),(0:Int),(0:Int),(0:Int),(0:Int),(0:Int),(0:Int),(0:Int),(0:Int),(0:Int),(0:Int),(0:Int),(0:Int),(0:Int),(0:Int),(0:Int),(0:Int),(0:Int),(0:Int),(0:Int),(0:Int),(0:Int),(0:Int)]),false))else(some (r51.2,true)))))) (fun j56=>(bif (decide (x2<(0:Int)))then(j56 true)else(bif (decide (x3≤x2))then(j56 true)else(j56 (decide ((1048576:Int)<x3)))))))
def Qcq.f(K:Nat)(x1:(Vector Int 32))(x2:Int)(x3:Int)(x4:(List (Vector Int 32)))(x8:(Vector Int 32)):Option (Bool):=
 ((QaV.f K (x1) (x2) (x3) (x4)).bind fun r34=>(bif r34.2 then((X5.f K (r34.1) (x8)).bind fun r46=>(some r46))else(some false)))
def JP.fs(K:Nat)(x3:Qm)(x10:(List Bool))(x11:(List Int))(x17:(List QI)):Option (Sum Int ((List Bool)×(List Int)×(List QI))):=
 (jn (fun(y1:Unit)=>((QaO.f K (x3.fSteps)).bind fun r1=>(chk (inA 12 x3.fSaga) ((some (List.set (x17) (Int.toNat (x3.fSaga)) (r1))).bind fun v1=>((catI 8 (x11) (([x3.fSaga]:List Int))).bind fun l1=>(some (Sum.inr (x10,l1,v1)))))))) (fun j1=>(chk (inA 12 x3.fSaga) ((getI (x10) x3.fSaga).bind fun x1=>(bif (!x1)then((ZJ.f K (x3.fSteps)).bind fun r2=>(sm (Yq.fs K (r2) ((9:Int))) (fun e1=>(some (Sum.inl e1))) (fun r3=>(j1 ()))))else(sm (Yq.fs K (false) ((9:Int))) (fun e2=>(some (Sum.inl e2))) (fun r4=>(j1 ()))))))))
def ql.fs(K:Nat)(x3:Qm)(x10:Int)(x11:(List Bool))(x12:(List Int))(x18:(List QI)):Option (Sum Int ((List Bool)×(List Int)×(List QI))):=
 (chk (inA 12 x3.fSaga) ((getI (x18) x3.fSaga).bind fun x1=>(bif (decide (((List.length (x1.fSteps):Nat):Int)=(0:Int)))then(some (Sum.inr (x11,x12,x18)))else((QcS.f K (x1) (x3) (x10)).bind fun r1=>(jn (fun(y1:Unit)=>(chk (inA 12 x3.fSaga) ((some (List.set (x18) (Int.toNat (x3.fSaga)) (r1.1))).bind fun v1=>(some (Sum.inr (x11,x12,v1)))))) (fun j1=>(bif r1.2 then(bif (!decide (x3.fKind=(3:Int)))then(sm (Yq.fs K (true) ((9:Int))) (fun e1=>(some (Sum.inl e1))) (fun r2=>(j1 ())))else((getI (x1.fSteps) x3.fStep).bind fun x2=>(sm (Yq.fs K ((decide (x2.fPart=x3.fPart))) ((9:Int))) (fun e2=>(some (Sum.inl e2))) (fun r3=>(j1 ())))))else(sm (Yq.fs K (false) ((9:Int))) (fun e3=>(some (Sum.inl e3))) (fun r4=>(j1 ()))))))))))
def QH.b(K:Nat)(x1:YW)(x8:QP)(rec:(Int×(List Bool)×(List Int)×(List QI))→Option (Sum ((Sum Int (Int×(List Int)×(List Qu)))) ((List Bool)×(List Int)×(List QI))))(y1:Int×(List Bool)×(List Int)×(List QI)):Option (Sum ((Sum Int (Int×(List Int)×(List Qu)))) ((List Bool)×(List Int)×(List QI))):=
 (bif (decide (y1.1<((List.length (x8.fItems):Nat):Int)))then(jn (fun(y2:(List Bool)×(List Int)×(List QI))=>(rec ((IntKind.wrap .i64 (y1.1+(1:Int))),y2.1,y2.2.1,y2.2.2))) (fun j1=>((getI (x8.fItems) y1.1).bind fun x2=>((yZ.f K (x2.fRec)).bind fun r3=>((Qcq.f K (r3) (x2.fAt) (x8.fPoint.fSize) (x2.fPath) (x8.fPoint.fRoot)).bind fun r4=>(sm (Yq.fs K (r4) ((10:Int))) (fun e1=>(some (Sum.inl (Sum.inl e1)))) (fun r5=>(sm (Y9.fs K (x1) (x2.fRec)) (fun e2=>(some (Sum.inl (Sum.inl e2)))) (fun r6=>(jn (fun(y3:(List Bool)×(List Int)×(List QI))=>(chk (inA 12 x2.fRec.fSaga) ((some (List.set (y3.1) (Int.toNat (x2.fRec.fSaga)) (true))).bind fun v1=>(j1 (v1,y3.2.1,y3.2.2))))) (fun j2=>(bif (decide (x2.fRec.fKind=(1:Int)))then(sm (JP.fs K (x2.fRec) (y1.2.1) (y1.2.2.1) (y1.2.2.2)) (fun e3=>(some (Sum.inl (Sum.inl e3)))) (fun r1=>(j2 (r1.1,r1.2.1,r1.2.2))))else(bif (decide (x2.fRec.fKind=(6:Int)))then(j1 (y1.2.1,y1.2.2.1,y1.2.2.2))else(sm (ql.fs K (x2.fRec) (x1.fLimit) (y1.2.1) (y1.2.2.1) (y1.2.2.2)) (fun e4=>(some (Sum.inl (Sum.inl e4)))) (fun r2=>(j2 (r2.1,r2.2.1,r2.2.2)))))))))))))))))else(some (Sum.inr (y1.2.1,y1.2.2.1,y1.2.2.2))))
def QH.l(K:Nat)(x1:YW)(x8:QP):Nat→(Int×(List Bool)×(List Int)×(List QI))→Option (Sum ((Sum Int (Int×(List Int)×(List Qu)))) ((List Bool)×(List Int)×(List QI))):=Je (QH.b K x1 x8)
def QM.b(K:Nat)(z1:(List Bool)×(List Int)×(List QI))(rec:(Int×Int×(List Int)×(List Qu))→Option (Int×(List Int)×(List Qu)))(y1:Int×Int×(List Int)×(List Qu)):Option (Int×(List Int)×(List Qu)):=
 (bif (decide (y1.1<((List.length (z1.2.1):Nat):Int)))then((getI (z1.2.1) y1.1).bind fun x1=>((catI 8 (y1.2.2.1) (([x1]:List Int))).bind fun l1=>(chk (inA 12 x1) ((getI (z1.2.2) x1).bind fun x2=>(chk (inA 12 x1) ((getI (z1.2.2) x1).bind fun x3=>((je.f K (x3)).bind fun r1=>((catI 16 (y1.2.2.2) (([(Qu.mk (x2.fPhase) (r1))]:List Qu))).bind fun l2=>(rec ((IntKind.wrap .i64 (y1.1+(1:Int))),y1.2.1,l1,l2))))))))))else(some (y1.2.1,y1.2.2.1,y1.2.2.2)))
def QM.l(K:Nat)(z1:(List Bool)×(List Int)×(List QI)):Nat→(Int×Int×(List Int)×(List Qu))→Option (Int×(List Int)×(List Qu)):=Je (QM.b K z1)
def YT.fs(K:Nat)(x1:YW)(x8:QP):Option (Sum Int (Int×(List Int)×(List Qu))):=
 ((QH.l K x1 x8 K ((0:Int),([false,false,false,false,false,false,false,false,false,false,false,false]:List Bool),([]:List Int),([QA,QA,QA,QA,QA,QA,QA,QA,QA,QA,QA,QA]:List QI))).bind fun s1=>(match s1 with| .inl u1=>some u1| .inr u2=>(fun(z2:(List Bool)×(List Int)×(List QI))=>((QM.l K z2 K ((0:Int),(0:Int),([]:List Int),([]:List Qu))).bind fun z1=>(some (Sum.inr (z1.1,z1.2.1,z1.2.2))))) u2))
def qN.f(K:Nat)(x1:Qw)(x8:Int)(x9:Qo)(x13:(List Int)):Option (Int×(List Int)×(List Qu)):=
 (jn (fun(y1:Unit)=>((XO.f K (x13)).bind fun r1=>(sm (Yq.fs K ((decide (r1.2=(0:Int)))) (r1.2)) (fun e1=>((some {Ya with fCode:=e1}).bind fun v2=>(some (v2.fCode,([]:List Int),([]:List Qu))))) (fun r6=>((Qam.f K (x1) (r1.1.fPoint)).bind fun r4=>(sm (Yq.fs K ((decide (r4=(0:Int)))) (r4)) (fun e2=>((some {Ya with fCode:=e2}).bind fun v3=>(some (v3.fCode,([]:List Int),([]:List Qu))))) (fun r7=>(jn (fun(y2:Unit)=>((some (YW.mk (x1) (x8))).bind fun v1=>(bif r1.1.fWhole then(sm (Y8.fs K (v1) (r1.1)) (fun e3=>((some {Ya with fCode:=e3}).bind fun v4=>(some (v4.fCode,([]:List Int),([]:List Qu))))) (fun r2=>(some (r2.1,r2.2.1,r2.2.2))))else(sm (YT.fs K (v1) (r1.1)) (fun e4=>((some {Ya with fCode:=e4}).bind fun v5=>(some (v5.fCode,([]:List Int),([]:List Qu))))) (fun r3=>(some (r3.1,r3.2.1,r3.2.2))))))) (fun j2=>(bif (decide (r1.1.fPoint.fSize=x9.fSize))then(sm (Yq.fs K ((decide (r1.1.fPoint.fRoot=x9.fRoot))) ((6:Int))) (fun e5=>((some {Ya with fCode:=e5}).bind fun v6=>(some (v6.fCode,([]:List Int),([]:List Qu))))) (fun r8=>(j2 ())))else(sm (Yq.fs K (false) ((6:Int))) (fun e6=>((some {Ya with fCode:=e6}).bind fun v7=>(some (v7.fCode,([]:List Int),([]:List Qu))))) (fun r9=>(j2 ()))))))))))))) (fun j1=>((Zz.f K (x1)).bind fun r5=>(bif r5 then(bif (decide ((1:Int)≤x8))then(sm (Yq.fs K ((decide (x8≤(9:Int)))) ((1:Int))) (fun e7=>((some {Ya with fCode:=e7}).bind fun v8=>(some (v8.fCode,([]:List Int),([]:List Qu))))) (fun r10=>(j1 ())))else(sm (Yq.fs K (false) ((1:Int))) (fun e8=>((some {Ya with fCode:=e8}).bind fun v9=>(some (v9.fCode,([]:List Int),([]:List Qu))))) (fun r11=>(j1 ()))))else(sm (Yq.fs K (false) ((1:Int))) (fun e9=>((some {Ya with fCode:=e9}).bind fun v10=>(some (v10.fCode,([]:List Int),([]:List Qu))))) (fun r12=>(j1 ())))))))
def qO.b(K:Nat)(x1:(List Int))(x5:(List Int))(rec:Int→Option (Sum ((Bool)) (Unit)))(y1:Int):Option (Sum ((Bool)) (Unit)):=
 (bif (decide (y1<((List.length (x1):Nat):Int)))then((getI (x1) y1).bind fun x2=>((getI (x5) y1).bind fun x3=>(bif (!decide (x2=x3))then(some (Sum.inl false))else(rec (IntKind.wrap .i64 (y1+(1:Int)))))))else(some (Sum.inr ())))
def qO.l(K:Nat)(x1:(List Int))(x5:(List Int)):Nat→(Int)→Option (Sum ((Bool)) (Unit)):=Je (qO.b K x1 x5)
def Xv.f(K:Nat)(x1:(List Int))(x5:(List Int)):Option (Bool):=
 (bif (!decide (((List.length (x1):Nat):Int)=((List.length (x5):Nat):Int)))then(some false)else((qO.l K x1 x5 K (0:Int)).bind fun s1=>(match s1 with| .inl u1=>some u1| .inr u2=>(fun(z1:Unit)=>(some true)) u2)))
def Ji.b(K:Nat)(x1:(List Qu))(x5:(List Qu))(rec:Int→Option (Sum ((Bool)) (Unit)))(y1:Int):Option (Sum ((Bool)) (Unit)):=
 (bif (decide (y1<((List.length (x1):Nat):Int)))then((getI (x1) y1).bind fun x2=>((getI (x5) y1).bind fun x3=>(bif (!((decide (x2.fPhase=x3.fPhase))&&((decide (x2.fMissing=x3.fMissing))&&true)))then(some (Sum.inl false))else(rec (IntKind.wrap .i64 (y1+(1:Int)))))))else(some (Sum.inr ())))
def Ji.l(K:Nat)(x1:(List Qu))(x5:(List Qu)):Nat→(Int)→Option (Sum ((Bool)) (Unit)):=Je (Ji.b K x1 x5)
def qE.f(K:Nat)(x1:(List Qu))(x5:(List Qu)):Option (Bool):=
 (bif (!decide (((List.length (x1):Nat):Int)=((List.length (x5):Nat):Int)))then(some false)else((Ji.l K x1 x5 K (0:Int)).bind fun s1=>(match s1 with| .inl u1=>some u1| .inr u2=>(fun(z1:Unit)=>(some true)) u2)))
def QhR.f(K:Nat)(x1:Jp)(x8:Jp):Option (Bool):=
 (bif (decide (x1.fCode=x8.fCode))then((Xv.f K (x1.fSagas) (x8.fSagas)).bind fun r53=>(bif r53 then((qE.f K (x1.fLines) (x8.fLines)).bind fun r58=>(some r58))else(some false)))else(some false))
def qP.b(K:Nat)(x1:(List Int))(x5:Int)(rec:Int→Option (Sum ((Int)) (Unit)))(y1:Int):Option (Sum ((Int)) (Unit)):=
 (bif (decide (y1<((List.length (x1):Nat):Int)))then((getI (x1) y1).bind fun x2=>(bif (decide (x5=x2))then(some (Sum.inl y1))else(rec (IntKind.wrap .i64 (y1+(1:Int))))))else(some (Sum.inr ())))
def qP.l(K:Nat)(x1:(List Int))(x5:Int):Nat→(Int)→Option (Sum ((Int)) (Unit)):=Je (qP.b K x1 x5)
def Xw.f(K:Nat)(x1:(List Int))(x5:Int):Option (Int):=
 ((qP.l K x1 x5 K (0:Int)).bind fun s1=>(match s1 with| .inl u1=>some u1| .inr u2=>(fun(z1:Unit)=>(some (-1:Int))) u2))
def Qd5.f(K:Nat)(x1:Jp)(x8:Int):Option (Bool):=
 ((Xw.f K (x1.fSagas) (x8)).bind fun r99=>(jn (fun(y1:Bool)=>(some y1)) (fun j1=>(bif (decide ((0:Int)≤r99))then(bif (decide (r99<((List.length (x1.fLines):Nat):Int)))then((getI (x1.fLines) r99).bind fun x2=>(bif (decide ((2:Int)≤x2.fPhase))then((getI (x1.fLines) r99).bind fun x3=>(j1 (decide (x3.fPhase≤(4:Int)))))else(j1 false)))else(j1 false))else(j1 false)))))
def jf.f(K:Nat):Option (Bool):=
 ((XW.f K).bind fun r4=>((getI (([{Qq with fKind:=(1:Int),fSteps:=([(Qp.mk ((1:Int)) ((1:Int)))]:List Qp),fData:=([(97:Int)]:List Int) },{Qq with fKind:=(2:Int),fSeq:=(1:Int),fTry:=(1:Int) },{Qq with fKind:=(3:Int),fSeq:=(2:Int),fTry:=(1:Int),fGood:=true,fPart:=(1:Int) },{Qq with fKind:=(5:Int),fSeq:=(3:Int),fEnd:=(2:Int) }]:List Qm)) (2:Int)).bind fun x6=>((getI (([{Qq with fKind:=(1:Int),fSteps:=([(Qp.mk ((1:Int)) ((1:Int)))]:List Qp),fData:=([(97:Int)]:List Int) },{Qq with fKind:=(2:Int),fSeq:=(1:Int),fTry:=(1:Int) },{Qq with fKind:=(3:Int),fSeq:=(2:Int),fTry:=(1:Int),fGood:=true,fPart:=(1:Int) },{Qq with fKind:=(5:Int),fSeq:=(3:Int),fEnd:=(2:Int) }]:List Qm)) (2:Int)).bind fun x4=>((jd.f K (r4) (x4)).bind fun r3=>((getI (([{Qq with fKind:=(1:Int),fSteps:=([(Qp.mk ((1:Int)) ((1:Int)))]:List Qp),fData:=([(97:Int)]:List Int) },{Qq with fKind:=(2:Int),fSeq:=(1:Int),fTry:=(1:Int) },{Qq with fKind:=(3:Int),fSeq:=(2:Int),fTry:=(1:Int),fGood:=true,fPart:=(1:Int) },{Qq with fKind:=(5:Int),fSeq:=(3:Int),fEnd:=(2:Int) }]:List Qm)) (2:Int)).bind fun x7=>((getI (([{Qq with fKind:=(1:Int),fSteps:=([(Qp.mk ((1:Int)) ((1:Int)))]:List Qp),fData:=([(97:Int)]:List Int) },{Qq with fKind:=(2:Int),fSeq:=(1:Int),fTry:=(1:Int) },{Qq with fKind:=(3:Int),fSeq:=(2:Int),fTry:=(1:Int),fGood:=true,fPart:=(1:Int) },{Qq with fKind:=(5:Int),fSeq:=(3:Int),fEnd:=(2:Int) }]:List Qm)) (2:Int)).bind fun x1=>((qW.f K (r4) ((List.set (([{Qq with fKind:=(1:Int),fSteps:=([(Qp.mk ((1:Int)) ((1:Int)))]:List Qp),fData:=([(97:Int)]:List Int) },{Qq with fKind:=(2:Int),fSeq:=(1:Int),fTry:=(1:Int) },{Qq with fKind:=(3:Int),fSeq:=(2:Int),fTry:=(1:Int),fGood:=true,fPart:=(1:Int) },{Qq with fKind:=(5:Int),fSeq:=(3:Int),fEnd:=(2:Int) }]:List Qm)) (Int.toNat ((2:Int))) ({x1 with fTag:=r3})))).bind fun r1=>((QbF.f K ((List.set (([{Qq with fKind:=(1:Int),fSteps:=([(Qp.mk ((1:Int)) ((1:Int)))]:List Qp),fData:=([(97:Int)]:List Int) },{Qq with fKind:=(2:Int),fSeq:=(1:Int),fTry:=(1:Int) },{Qq with fKind:=(3:Int),fSeq:=(2:Int),fTry:=(1:Int),fGood:=true,fPart:=(1:Int) },{Qq with fKind:=(5:Int),fSeq:=(3:Int),fEnd:=(2:Int) }]:List Qm)) (Int.toNat ((2:Int))) ({x1 with fTag:=r3}))) ((Qo.mk (r1.1) (r1.2.1) (r1.2.2))) ((1:Int))).bind fun r8=>((Qgc.f K ((List.set (([{Qq with fKind:=(1:Int),fSteps:=([(Qp.mk ((1:Int)) ((1:Int)))]:List Qp),fData:=([(97:Int)]:List Int) },{Qq with fKind:=(2:Int),fSeq:=(1:Int),fTry:=(1:Int) },{Qq with fKind:=(3:Int),fSeq:=(2:Int),fTry:=(1:Int),fGood:=true,fPart:=(1:Int) },{Qq with fKind:=(5:Int),fSeq:=(3:Int),fEnd:=(2:Int) }]:List Qm)) (Int.toNat ((2:Int))) ({x1 with fTag:=r3}))) ((Qo.mk (r1.1) (r1.2.1) (r1.2.2))) ((0:Int)) ((0:Int))).bind fun r9=>((yg.f K (r8.1)).bind fun r10=>((qN.f K (r4) ((2:Int)) ((Qo.mk (r1.1) (r1.2.1) (r1.2.2))) (r10)).bind fun r2=>((yg.f K (r9.1)).bind fun r11=>((qN.f K (r4) ((2:Int)) ((Qo.mk (r1.1) (r1.2.1) (r1.2.2))) (r11)).bind fun r6=>((getI ((List.set (([{Qq with fKind:=(1:Int),fSteps:=([(Qp.mk ((1:Int)) ((1:Int)))]:List Qp),fData:=([(97:Int)]:List Int) },{Qq with fKind:=(2:Int),fSeq:=(1:Int),fTry:=(1:Int) },{Qq with fKind:=(3:Int),fSeq:=(2:Int),fTry:=(1:Int),fGood:=true,fPart:=(1:Int) },{Qq with fKind:=(5:Int),fSeq:=(3:Int),fEnd:=(2:Int) }]:List Qm)) (Int.toNat ((2:Int))) ({x1 with fTag:=r3}))) (2:Int)).bind fun x8=>((getI ((List.set (([{Qq with fKind:=(1:Int),fSteps:=([(Qp.mk ((1:Int)) ((1:Int)))]:List Qp),fData:=([(97:Int)]:List Int) },{Qq with fKind:=(2:Int),fSeq:=(1:Int),fTry:=(1:Int) },{Qq with fKind:=(3:Int),fSeq:=(2:Int),fTry:=(1:Int),fGood:=true,fPart:=(1:Int) },{Qq with fKind:=(5:Int),fSeq:=(3:Int),fEnd:=(2:Int) }]:List Qm)) (Int.toNat ((2:Int))) ({x1 with fTag:=r3}))) (2:Int)).bind fun x3=>((getI ((List.set (([{Qq with fKind:=(1:Int),fSteps:=([(Qp.mk ((1:Int)) ((1:Int)))]:List Qp),fData:=([(97:Int)]:List Int) },{Qq with fKind:=(2:Int),fSeq:=(1:Int),fTry:=(1:Int) },{Qq with fKind:=(3:Int),fSeq:=(2:Int),fTry:=(1:Int),fGood:=true,fPart:=(1:Int) },{Qq with fKind:=(5:Int),fSeq:=(3:Int),fEnd:=(2:Int) }]:List Qm)) (Int.toNat ((2:Int))) ({x1 with fTag:=r3}))) (2:Int)).bind fun x9=>((getI ((List.set (([{Qq with fKind:=(1:Int),fSteps:=([(Qp.mk ((1:Int)) ((1:Int)))]:List Qp),fData:=([(97:Int)]:List Int) },{Qq with fKind:=(2:Int),fSeq:=(1:Int),fTry:=(1:Int) },{Qq with fKind:=(3:Int),fSeq:=(2:Int),fTry:=(1:Int),fGood:=true,fPart:=(1:Int) },{Qq with fKind:=(5:Int),fSeq:=(3:Int),fEnd:=(2:Int) }]:List Qm)) (Int.toNat ((2:Int))) ({x1 with fTag:=r3}))) (2:Int)).bind fun x2=>((qW.f K (r4) ((List.set ((List.set (([{Qq with fKind:=(1:Int),fSteps:=([(Qp.mk ((1:Int)) ((1:Int)))]:List Qp),fData:=([(97:Int)]:List Int) },{Qq with fKind:=(2:Int),fSeq:=(1:Int),fTry:=(1:Int) },{Qq with fKind:=(3:Int),fSeq:=(2:Int),fTry:=(1:Int),fGood:=true,fPart:=(1:Int) },{Qq with fKind:=(5:Int),fSeq:=(3:Int),fEnd:=(2:Int) }]:List Qm)) (Int.toNat ((2:Int))) ({x1 with fTag:=r3}))) (Int.toNat ((2:Int))) ({x2 with fTag:=(vset (x2.fTag) 0 ((IntKind.wrap .u8 ((vget (x3.fTag) 0)+(1:Int))))) })))).bind fun r5=>((QbF.f K ((List.set ((List.set (([{Qq with fKind:=(1:Int),fSteps:=([(Qp.mk ((1:Int)) ((1:Int)))]:List Qp),fData:=([(97:Int)]:List Int) },{Qq with fKind:=(2:Int),fSeq:=(1:Int),fTry:=(1:Int) },{Qq with fKind:=(3:Int),fSeq:=(2:Int),fTry:=(1:Int),fGood:=true,fPart:=(1:Int) },{Qq with fKind:=(5:Int),fSeq:=(3:Int),fEnd:=(2:Int) }]:List Qm)) (Int.toNat ((2:Int))) ({x1 with fTag:=r3}))) (Int.toNat ((2:Int))) ({x2 with fTag:=(vset (x2.fTag) 0 ((IntKind.wrap .u8 ((vget (x3.fTag) 0)+(1:Int))))) }))) ((Qo.mk (r5.1) (r5.2.1) (r5.2.2))) ((0:Int))).bind fun r7=>((yg.f K (r7.1)).bind fun r12=>((qN.f K (r4) ((2:Int)) ((Qo.mk (r5.1) (r5.2.1) (r5.2.2))) (r12)).bind fun r13=>((yg.f K (r7.1)).bind fun r14=>((qN.f K (r4) ((2:Int)) ((Qo.mk (r1.1) (r1.2.1) (r1.2.2))) (r14)).bind fun r15=>(jn (fun(y1:Bool)=>(some y1)) (fun j1=>(bif (decide (r2.1=(0:Int)))then((QhR.f K ((Jp.mk (r2.1) (r2.2.1) (r2.2.2))) ((Jp.mk (r6.1) (r6.2.1) (r6.2.2)))).bind fun r16=>(bif r16 then(bif (decide (((List.length (r2.2.2):Nat):Int)=(1:Int)))then((getI (r2.2.2) (0:Int)).bind fun x5=>(bif (decide (x5.fPhase=(2:Int)))then((Qd5.f K ((Jp.mk (r2.1) (r2.2.1) (r2.2.2))) ((0:Int))).bind fun r17=>(bif r17 then((Qd5.f K ((Jp.mk (r2.1) (r2.2.1) (r2.2.2))) ((1:Int))).bind fun r18=>(bif (!r18)then(bif (decide (r13.1=(7:Int)))then(j1 (decide (r15.1=(6:Int))))else(j1 false))else(j1 false)))else(j1 false)))else(j1 false)))else(j1 false))else(j1 false)))else(j1 false)))))))))))))))))))))))))))
def JV.f(K:Nat)(x1:Qw)(x8:(List Int)):Option (Bool):=
 (bif (decide ((20:Int)<((List.length (x1.fParts):Nat):Int)))then(some true)else(bif (decide ((20:Int)<((List.length (x1.fWits):Nat):Int)))then(some true)else(some (decide ((4000:Int)<((List.length (x8):Nat):Int))))))
def JO.f(K:Nat)(x1:Qw)(x8:Int)(x9:Qo)(x13:(List Int))(x17:Int):Option (Bool):=
 ((jf.f K).bind fun r4=>(bif (!r4)then(some false)else((JV.f K (x1) (x13)).bind fun r5=>(bif r5 then(some true)else((qN.f K (x1) (x8) (x9) (x13)).bind fun r2=>((XO.f K (x13)).bind fun r1=>(jn (fun(y1:Bool)=>(bif y1 then(some true)else(chk (!(decide (((List.length (r1.1.fItems):Nat):Int)=0))) ((subI (r1.1.fItems) 0 (Int.tmod (IntKind.wrap .i64 x17) ((List.length (r1.1.fItems):Nat):Int))).bind fun l1=>((some {r1.1 with fItems:=l1}).bind fun v1=>((yg.f K (v1)).bind fun r6=>((qN.f K (x1) (x8) (x9) (r6)).bind fun r3=>(bif (decide (r3.1=(0:Int)))then(some (decide (((List.length (r3.2.1):Nat):Int)≤((List.length (r2.2.1):Nat):Int))))else(some false))))))))) (fun j1=>(bif (!decide (r2.1=(0:Int)))then(j1 true)else(bif r1.1.fWhole then(j1 true)else(j1 (decide (((List.length (r1.1.fItems):Nat):Int)=(0:Int))))))))))))))
end Go.Proofs.YtomndohdnfebgaaGreatDoor
