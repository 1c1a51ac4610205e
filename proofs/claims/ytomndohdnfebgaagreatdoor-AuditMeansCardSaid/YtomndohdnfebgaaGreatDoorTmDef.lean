/-
 Data and plain functions, printed by a program: what the functions of the cut compute (fuel K; none: a panic, or the fuel is spent).
 Conditions: none; nothing is claimed here.
-/
import Derived.Test.YtomndohdnfebgaaGreatDoorSxB
import Derived.Test.YtomndohdnfebgaaGreatDoorTmSq
set_option linter.unusedVariables false
namespace Go.Proofs.YtomndohdnfebgaaGreatDoor
open Go Go.Sep
def qi.b(K:Nat)(x1:(List Int))(x5:Int)(l1:(List Int))(rec:((List Int)×Int)→Option ((List Int)))(y1:(List Int)×Int):Option ((List Int)):=
 (bif (decide (y1.2<((List.length ((List.take (List.length (l1)) (x1)++List.drop (List.length (x1)) (l1))):Nat):Int)))then((getI (y1.1) y1.2).bind fun x3=>((getI (y1.1) y1.2).bind fun x2=>((getI (y1.1) y1.2).bind fun x4=>(rec ((List.set (y1.1) (Int.toNat (y1.2)) ((bxor .u8 x2 x5))),(IntKind.wrap .i64 (y1.2+(1:Int))))))))else(some y1.1))
def qi.l(K:Nat)(x1:(List Int))(x5:Int)(l1:(List Int)):Nat→((List Int)×Int)→Option ((List Int)):=Ja (qi.b K x1 x5 l1)
def Qgf.f(K:Nat)(x1:(List Int))(x5:Int):Option ((List Int)):=
 ((Qal 1 ((0:Int)) (64:Int)).bind fun l1=>((qi.l K x1 x5 l1 K ((List.take (List.length (l1)) (x1)++List.drop (List.length (x1)) (l1)),(0:Int))).bind fun z1=>(some z1)))
def Qgg.f(K:Nat)(x1:(List Int))(x5:(List (List Int))):Option ((Vector Int 32)):=
 (jn (fun(y1:(List Int))=>((Qgf.f K (y1) ((54:Int))).bind fun r1=>((catI 24 (([r1]:List (List Int))) (x5)).bind fun l1=>((shaQ.f K (l1)).bind fun r2=>((subI (Yg (r2)) 0 ((32:Nat):Int)).bind fun l2=>((Qgf.f K (y1) ((92:Int))).bind fun r3=>((shaQ.f K (([r3,l2]:List (List Int)))).bind fun r4=>(some r4)))))))) (fun j1=>(bif (decide ((64:Int)<((List.length (x1):Nat):Int)))then((shaQ.f K (([x1]:List (List Int)))).bind fun r5=>((subI (Yg (r5)) 0 ((32:Nat):Int)).bind fun l3=>(j1 l3)))else(j1 x1))))
def Qee.f(K:Nat)(x1:(Vector Int 32))(x2:(List Int)):Option ((Vector Int 32)):=
 ((subI (Yg (x1)) 0 ((32:Nat):Int)).bind fun l44=>((Xg.f K (x2)).bind fun r45=>((Qgg.f K (l44) (([r45]:List (List Int)))).bind fun r69=>(some r69))))
def QbF.f(K:Nat)(x1:Qo)(x8:Int)(x9:Int):Option ((Vector Int 32)):=
 ((XL.f K (x1) (x8) (x9)).bind fun r66=>(bif (!r66)then(some (vofL 32 [(0:Int),(0:Int),(0:Int),(0:Int),(0:Int),(0:Int),(0:Int),(0:Int),(0:Int),(0:Int),(0:Int),(0:Int),(0:Int),(0:Int),(0:Int),(0:Int),(0:Int),(0:Int),(0:Int),(0:Int),(0:Int),(0:Int),(0:Int),(0:Int),(0:Int),(0:Int),(0:Int),(0:Int),(0:Int),(0:Int),(0:Int),(0:Int)]))else((getI (x1.fParts) x8).bind fun x71=>((Qee.f K (x71) (([(1:Int),x9]:List Int))).bind fun r99=>(some r99)))))
def Qcl.f(K:Nat)(x1:Bool):Option (Int):=
 (bif x1 then(some (1:Int))else(some (0:Int)))
def jh.f(K:Nat)(x1:Qo)(x8:Qm):Option ((Vector Int 32)):=
 (jn (fun(y1:Bool)=>(bif y1 then(some (vofL 32 [(0:Int),(0:Int),(0:Int),(0:Int),(0:Int),(0:Int),(0:Int),(0:Int),(0:Int),(0:Int),(0:Int),(0:Int),(0:Int),(0:Int),(0:Int),(0:Int),(0:Int),(0:Int),(0:Int),(0:Int),(0:Int),(0:Int),(0:Int),(0:Int),(0:Int),(0:Int),(0:Int),(0:Int),(0:Int),(0:Int),(0:Int),(0:Int)]))else((QbF.f K (x1) (x8.fPart) (x8.fEpoch)).bind fun r1=>((Qcl.f K (x8.fBack)).bind fun r2=>((Qcl.f K (x8.fGood)).bind fun r3=>((Qee.f K (r1) (([(2:Int),x8.fSaga,x8.fStep,r2,r3]:List Int))).bind fun r4=>(some r4))))))) (fun j1=>(bif (!decide (x8.fKind=(3:Int)))then(j1 true)else((XL.f K (x1) (x8.fPart) (x8.fEpoch)).bind fun r5=>(j1 (!r5))))))
def Jy.f(K:Nat)(x1:Int)(x2:Int)(x3:Int):Option (Bool):=
 (bif (decide (x2≤x1))then(some (decide (x1≤x3)))else(some false))
def ZF.f(K:Nat)(x1:Qr):Option (Bool):=
 ((Jy.f K (x1.fPart) ((0:Int)) ((3:Int))).bind fun r36=>(bif (!r36)then(some true)else((Jy.f K (x1.fKind) ((1:Int)) ((3:Int))).bind fun r41=>(some (!r41)))))
def QC.b(K:Nat)(x1:(List Qr))(rec:Int→Option (Sum ((Int)) (Unit)))(y1:Int):Option (Sum ((Int)) (Unit)):=
 (bif (decide (y1<((List.length (x1):Nat):Int)))then((getI (x1) y1).bind fun x2=>((ZF.f K (x2)).bind fun r1=>(bif r1 then(some (Sum.inl y1))else(rec (IntKind.wrap .i64 (y1+(1:Int)))))))else(some (Sum.inr ())))
def QC.l(K:Nat)(x1:(List Qr)):Nat→(Int)→Option (Sum ((Int)) (Unit)):=Ja (QC.b K x1)
def Jf.f(K:Nat)(x1:(List Qr)):Option (Int):=
 ((QC.l K x1 K (0:Int)).bind fun s1=>(match s1 with| .inl u1=>some u1| .inr u2=>(fun(z1:Unit)=>(some (-1:Int))) u2))
def YD.f(K:Nat)(x1:(List Qr)):Option (Bool):=
 ((Jf.f K (x1)).bind fun r10=>(some (decide ((0:Int)≤r10))))
def Qcm.f(K:Nat)(x1:Qm):Option (Bool):=
 (jn (fun(y1:Bool)=>(bif y1 then(some false)else(bif (decide (x1.fKind=(1:Int)))then((Jy.f K (((List.length (x1.fSteps):Nat):Int)) ((1:Int)) ((6:Int))).bind fun r1=>(bif r1 then((YD.f K (x1.fSteps)).bind fun r2=>(bif (!r2)then(some (decide (((List.length (x1.fData):Nat):Int)≤(60:Int))))else(some false)))else(some false)))else(jn (fun(y2:Bool)=>(bif y2 then((Jy.f K (x1.fSeq) ((1:Int)) ((400:Int))).bind fun r3=>(bif r3 then((Jy.f K (x1.fStep) ((0:Int)) ((5:Int))).bind fun r4=>(bif r4 then((Jy.f K (x1.fTry) ((1:Int)) ((9:Int))).bind fun r5=>(some r5))else(some false)))else(some false)))else(bif (decide (x1.fKind=(5:Int)))then((Jy.f K (x1.fSeq) ((1:Int)) ((400:Int))).bind fun r6=>(bif r6 then((Jy.f K (x1.fEnd) ((2:Int)) ((4:Int))).bind fun r7=>(some r7))else(some false)))else(bif (decide (x1.fKind=(6:Int)))then(some (decide ((1:Int)≤x1.fEpoch)))else(some false))))) (fun j1=>(bif (decide (x1.fKind=(2:Int)))then(j1 true)else(bif (decide (x1.fKind=(4:Int)))then(j1 true)else(j1 (decide (x1.fKind=(3:Int))))))))))) (fun j2=>((Jy.f K (x1.fSaga) ((0:Int)) ((11:Int))).bind fun r8=>(bif (!r8)then(j2 true)else((Jy.f K (x1.fPart) ((0:Int)) ((3:Int))).bind fun r9=>(bif (!r9)then(j2 true)else((Jy.f K (x1.fEpoch) ((0:Int)) ((400:Int))).bind fun r10=>(j2 (!r10)))))))))
def QfE.f(K:Nat)(x1:Qm):Option (Qm):=
 ((some {Qu with fKind:=x1.fKind}).bind fun v1=>(jn (fun(y1:Qm)=>(some y1)) (fun j1=>(jn (fun(y2:Qm)=>((some {y2 with fSaga:=x1.fSaga}).bind fun v3=>((some {v3 with fSeq:=x1.fSeq}).bind fun v4=>((some {v4 with fStep:=x1.fStep}).bind fun v5=>((some {v5 with fTry:=x1.fTry}).bind fun v6=>((some {v6 with fBack:=x1.fBack}).bind fun v7=>(j1 v7))))))) (fun j2=>(bif (decide (x1.fKind=(1:Int)))then((some {v1 with fSaga:=x1.fSaga}).bind fun v8=>((some {v8 with fSteps:=x1.fSteps}).bind fun v9=>((some {v9 with fGone:=x1.fGone}).bind fun v2=>(bif x1.fGone then((some {v2 with fCom:=x1.fCom}).bind fun v10=>(j1 v10))else((some {v2 with fData:=x1.fData}).bind fun v11=>((some {v11 with fSalt:=x1.fSalt}).bind fun v12=>(j1 v12)))))))else(bif (decide (x1.fKind=(3:Int)))then((some {v1 with fGood:=x1.fGood}).bind fun v13=>((some {v13 with fPart:=x1.fPart}).bind fun v14=>((some {v14 with fEpoch:=x1.fEpoch}).bind fun v15=>((some {v15 with fTag:=x1.fTag}).bind fun v16=>(j2 v16)))))else(jn (fun(y3:Bool)=>(bif y3 then(j2 v1)else(bif (decide (x1.fKind=(5:Int)))then((some {v1 with fSaga:=x1.fSaga}).bind fun v17=>((some {v17 with fSeq:=x1.fSeq}).bind fun v18=>((some {v18 with fEnd:=x1.fEnd}).bind fun v19=>(j1 v19))))else(bif (decide (x1.fKind=(6:Int)))then((some {v1 with fPart:=x1.fPart}).bind fun v20=>((some {v20 with fEpoch:=x1.fEpoch}).bind fun v21=>(j1 v21)))else(j1 v1))))) (fun j3=>(bif (decide (x1.fKind=(2:Int)))then(j3 true)else(j3 (decide (x1.fKind=(4:Int))))))))))))))
def QM.b(K:Nat)(x1:(List Qr))(x5:(List Qr))(rec:Int→Option (Sum ((Bool)) (Unit)))(y1:Int):Option (Sum ((Bool)) (Unit)):=
 (bif (decide (y1<((List.length (x1):Nat):Int)))then((getI (x1) y1).bind fun x2=>((getI (x5) y1).bind fun x3=>(bif (!((decide (x2.fPart=x3.fPart))&&((decide (x2.fKind=x3.fKind))&&true)))then(some (Sum.inl false))else(rec (IntKind.wrap .i64 (y1+(1:Int)))))))else(some (Sum.inr ())))
def QM.l(K:Nat)(x1:(List Qr))(x5:(List Qr)):Nat→(Int)→Option (Sum ((Bool)) (Unit)):=Ja (QM.b K x1 x5)
def Y5.f(K:Nat)(x1:(List Qr))(x5:(List Qr)):Option (Bool):=
 (bif (!decide (((List.length (x1):Nat):Int)=((List.length (x5):Nat):Int)))then(some false)else((QM.l K x1 x5 K (0:Int)).bind fun s1=>(match s1 with| .inl u1=>some u1| .inr u2=>(fun(z1:Unit)=>(some true)) u2)))
def bytes_Equal.f(K:Nat)(x1:(List Int))(x5:(List Int)):Option (Bool):=
 (some (ByteArray.toList (bofL (x1))==ByteArray.toList (bofL (x5))))
def QfF.f(K:Nat)(x1:Qm):Option (QaK):=
 ((some (QaK.mk (x1.fKind) (x1.fSaga) (x1.fSeq) (x1.fStep) (x1.fTry) (x1.fBack) (x1.fGood) (x1.fGone) (x1.fEnd) (x1.fPart) (x1.fEpoch))).bind fun v18=>(some v18))
def QfG.f(K:Nat)(x1:Qm)(x8:Qm):Option (Bool):=
 (jn (fun(y1:Bool)=>(bif y1 then(some false)else(jn (fun(y2:Bool)=>(some y2)) (fun j1=>((QfF.f K (x1)).bind fun r1=>((QfF.f K (x8)).bind fun r2=>(bif ((decide (r1.fKind=r2.fKind))&&((decide (r1.fSaga=r2.fSaga))&&((decide (r1.fSeq=r2.fSeq))&&((decide (r1.fStep=r2.fStep))&&((decide (r1.fTry=r2.fTry))&&((r1.fBack==r2.fBack)&&((r1.fGood==r2.fGood)&&((r1.fGone==r2.fGone)&&((decide (r1.fEnd=r2.fEnd))&&((decide (r1.fPart=r2.fPart))&&((decide (r1.fEpoch=r2.fEpoch))&&true)))))))))))then(bif (decide (x1.fTag=x8.fTag))then(bif (decide (x1.fSalt=x8.fSalt))then(j1 (decide (x1.fCom=x8.fCom)))else(j1 false))else(j1 false))else(j1 false)))))))) (fun j2=>((Y5.f K (x1.fSteps) (x8.fSteps)).bind fun r3=>(bif (!r3)then(j2 true)else((bytes_Equal.f K (x1.fData) (x8.fData)).bind fun r4=>(j2 (!r4)))))))
def qj.f(K:Nat)(x1:Qm):Option (Bool):=
 ((Qcm.f K (x1)).bind fun r75=>(bif r75 then((QfE.f K (x1)).bind fun r80=>((QfG.f K (x1) (r80)).bind fun r91=>(some r91)))else(some false)))
def ZY.f(K:Nat)(x1:Qm):Option (Bool):=
 ((qj.f K (x1)).bind fun r17=>(some (!r17)))
def QG.b(K:Nat)(x1:(List Qm))(rec:Int→Option (Sum ((Int)) (Unit)))(y1:Int):Option (Sum ((Int)) (Unit)):=
 (bif (decide (y1<((List.length (x1):Nat):Int)))then((getI (x1) y1).bind fun x2=>((ZY.f K (x2)).bind fun r1=>(bif r1 then(some (Sum.inl y1))else(rec (IntKind.wrap .i64 (y1+(1:Int)))))))else(some (Sum.inr ())))
def QG.l(K:Nat)(x1:(List Qm)):Nat→(Int)→Option (Sum ((Int)) (Unit)):=Ja (QG.b K x1)
def Jn.f(K:Nat)(x1:(List Qm)):Option (Int):=
 ((QG.l K x1 K (0:Int)).bind fun s1=>(match s1 with| .inl u1=>some u1| .inr u2=>(fun(z1:Unit)=>(some (-1:Int))) u2))
def Jb.f(K:Nat)(x1:(List Qm)):Option (Bool):=
 ((Jn.f K (x1)).bind fun r10=>(some (decide ((0:Int)≤r10))))
def yg.f(K:Nat)(x1:(List Qm)):Option (Bool):=
 ((Jb.f K (x1)).bind fun r10=>(some (!r10)))
def jV.b(K:Nat)(rec:(Int×(List Int))→Option ((List Int)))(y1:Int×(List Int)):Option ((List Int)):=
 (bif (decide ((0:Int)<y1.1))then((catI 1 (y1.2) (([(bor .u8 (IntKind.wrap .u8 (Int.tmod y1.1 128)) (128:Int))]:List Int))).bind fun l1=>(rec ((Int.fdiv y1.1 (2^7)),l1)))else(some y1.2))
def jV.l(K:Nat):Nat→(Int×(List Int))→Option ((List Int)):=Ja (jV.b K)
def qI.f(K:Nat)(x1:Int):Option ((List Int)):=
 (jn (fun(y1:Bool)=>(bif y1 then(some ([]:List Int))else((jV.l K K ((Int.fdiv x1 (2^7)),([(IntKind.wrap .u8 (Int.tmod x1 128))]:List Int))).bind fun z1=>((Q9.f K (z1)).bind fun r1=>(some r1))))) (fun j1=>(bif (decide (x1<(0:Int)))then(j1 true)else(j1 (decide ((2147483647:Int)<x1))))))
def Qdp.f(K:Nat):Option Unit:=
 (some ())
def Jg.b(K:Nat)(x1:(List Int))(rec:((List Int)×Int)→Option ((List Int)))(y1:(List Int)×Int):Option ((List Int)):=
 (bif (decide (y1.2<((List.length (x1):Nat):Int)))then((getI (x1) y1.2).bind fun x2=>((qI.f K (x2)).bind fun r1=>((catI 1 (y1.1) (r1)).bind fun l1=>(rec (l1,(IntKind.wrap .i64 (y1.2+(1:Int))))))))else(some y1.1))
def Jg.l(K:Nat)(x1:(List Int)):Nat→((List Int)×Int)→Option ((List Int)):=Ja (Jg.b K x1)
def qJ.f(K:Nat)(x1:(List Int)):Option ((List Int)):=
 ((Jg.l K x1 K (([]:List Int),(0:Int))).bind fun z1=>(some z1))
def JI.b(K:Nat)(x1:Qm)(rec:((List Int)×Int)→Option ((List Int)))(y1:(List Int)×Int):Option ((List Int)):=
 (bif (decide (y1.2<((List.length (x1.fSteps):Nat):Int)))then((getI (x1.fSteps) y1.2).bind fun x2=>((qJ.f K (([x2.fPart,x2.fKind]:List Int))).bind fun r1=>((catI 1 (y1.1) (r1)).bind fun l1=>(rec (l1,(IntKind.wrap .i64 (y1.2+(1:Int))))))))else(some y1.1))
def JI.l(K:Nat)(x1:Qm):Nat→((List Int)×Int)→Option ((List Int)):=Ja (JI.b K x1)
def QbG.f(K:Nat)(x1:Qm):Option ((List Int)):=
 ((qJ.f K (([x1.fSaga,((List.length (x1.fSteps):Nat):Int)]:List Int))).bind fun r1=>((JI.l K x1 K (r1,(0:Int))).bind fun z1=>(some z1)))
def Je.f(K:Nat)(x1:(List (List Int))):Option ((List Int)):=
 ((QU.f K (x1)).bind fun r20=>(some r20))
def Xn.f(K:Nat)(x1:Bool):Option ((List Int)):=
 (bif x1 then(some ([(1:Int)]:List Int))else(some ([(0:Int)]:List Int)))
def ZG.f(K:Nat)(x1:Qm):Option ((List Int)):=
 ((qJ.f K (([x1.fSaga,x1.fSeq,x1.fStep,x1.fTry]:List Int))).bind fun r84=>((Xn.f K (x1.fBack)).bind fun r94=>((Je.f K (([r84,r94]:List (List Int)))).bind fun r1=>(some r1))))
def jQ.f(K:Nat)(x1:(Vector Int 32)):Option ((List Int)):=
 ((subI (Yg (x1)) 0 ((32:Nat):Int)).bind fun l32=>((Ye.f K (l32)).bind fun r37=>(some r37)))
def XY.f(K:Nat)(x1:Qm):Option ((List Int)):=
 ((ZG.f K (x1)).bind fun r1=>((Xn.f K (x1.fGood)).bind fun r2=>((qJ.f K (([x1.fPart,x1.fEpoch]:List Int))).bind fun r3=>((jQ.f K (x1.fTag)).bind fun r4=>((Je.f K (([r1,r2,r3,r4]:List (List Int)))).bind fun r5=>(some r5))))))
def XZ.f(K:Nat)(x1:Qm):Option ((List Int)):=
 ((qJ.f K (([x1.fSaga,x1.fSeq,x1.fEnd]:List Int))).bind fun r45=>(some r45))
def X0.f(K:Nat)(x1:Qm):Option ((List Int)):=
 ((qJ.f K (([x1.fPart,x1.fEpoch]:List Int))).bind fun r45=>(some r45))
def Qcn.f(K:Nat)(x1:(List Int)):Option ((List Int)):=
 ((QcR.f K ((IntKind.wrap .u64 ((List.length (x1):Nat):Int))) ((4:Int))).bind fun r44=>((QU.f K (([r44,x1]:List (List Int)))).bind fun r68=>(some r68)))
def Yz.b(K:Nat)(x1:(List (List Int)))(rec:((List Int)×Int)→Option ((List Int)))(y1:(List Int)×Int):Option ((List Int)):=
 (bif (decide (y1.2<((List.length (x1):Nat):Int)))then((getI (x1) y1.2).bind fun x2=>((Qcn.f K (x2)).bind fun r1=>((catI 1 (y1.1) (r1)).bind fun l1=>(rec (l1,(IntKind.wrap .i64 (y1.2+(1:Int))))))))else(some y1.1))
def Yz.l(K:Nat)(x1:(List (List Int))):Nat→((List Int)×Int)→Option ((List Int)):=Ja (Yz.b K x1)
def X4.f(K:Nat)(x1:(List (List Int))):Option ((List Int)):=
 ((Yz.l K x1 K (([]:List Int),(0:Int))).bind fun z1=>(some z1))
def Qgh.f(K:Nat)(x1:Int)(x2:(List (List Int))):Option ((Vector Int 32)):=
 ((X4.f K (x2)).bind fun r52=>((shaQ.f K (([([(IntKind.wrap .u8 x1)]:List Int),r52]:List (List Int)))).bind fun r81=>(some r81)))
def Qgi.f(K:Nat)(x1:Qm):Option ((Vector Int 32)):=
 (jn (fun(y1:Bool)=>(bif y1 then(some (vofL 32 [(0:Int),(0:Int),(0:Int),(0:Int),(0:Int),(0:Int),(0:Int),(0:Int),(0:Int),(0:Int),(0:Int),(0:Int),(0:Int),(0:Int),(0:Int),(0:Int),(0:Int),(0:Int),(0:Int),(0:Int),(0:Int),(0:Int),(0:Int),(0:Int),(0:Int),(0:Int),(0:Int),(0:Int),(0:Int),(0:Int),(0:Int),(0:Int)]))else(bif x1.fGone then(some x1.fCom)else((subI (Yg (x1.fSalt)) 0 ((32:Nat):Int)).bind fun l1=>((Qgh.f K ((4:Int)) (([l1,x1.fData]:List (List Int)))).bind fun r1=>(some r1)))))) (fun j1=>((qj.f K (x1)).bind fun r2=>(bif (!r2)then(j1 true)else(j1 (!decide (x1.fKind=(1:Int))))))))
def ZH.f(K:Nat)(x3:Qm):Option ((List Int)):=
 ((Qgi.f K (x3)).bind fun r30=>((jQ.f K (r30)).bind fun r35=>(some r35)))
def Qlz.f(K:Nat)(x3:Qm)(x10:Qm):Option ((List Int)):=
 ((qj.f K (x3)).bind fun r2=>(bif (!r2)then(some ([]:List Int))else(jn (fun(y1:(List Int))=>(bif (decide (x3.fKind=(1:Int)))then((ZH.f K (x10)).bind fun r3=>((catI 1 (y1) (r3)).bind fun l1=>(some l1)))else(some y1))) (fun j1=>((qI.f K (x3.fKind)).bind fun r1=>((Qdp.f K).bind fun r16=>(bif decide (x3.fKind=(0:Int))then none else(bif decide (x3.fKind=(1:Int))then((QbG.f K (x3)).bind fun r4=>((Je.f K (([r1,r4]:List (List Int)))).bind fun r5=>(j1 r5)))else(bif decide (x3.fKind=(2:Int))then((ZG.f K (x3)).bind fun r6=>((Je.f K (([r1,r6]:List (List Int)))).bind fun r7=>(j1 r7)))else(bif decide (x3.fKind=(3:Int))then((XY.f K (x3)).bind fun r8=>((Je.f K (([r1,r8]:List (List Int)))).bind fun r9=>(j1 r9)))else(bif decide (x3.fKind=(4:Int))then((ZG.f K (x3)).bind fun r10=>((Je.f K (([r1,r10]:List (List Int)))).bind fun r11=>(j1 r11)))else(bif decide (x3.fKind=(5:Int))then((XZ.f K (x3)).bind fun r12=>((Je.f K (([r1,r12]:List (List Int)))).bind fun r13=>(j1 r13)))else(bif decide (x3.fKind=(6:Int))then((X0.f K (x3)).bind fun r14=>((Je.f K (([r1,r14]:List (List Int)))).bind fun r15=>(j1 r15)))else none)))))))))))))
def Qao.f(K:Nat)(x1:Qm):Option ((List Int)):=
 ((Qlz.f K (x1) (x1)).bind fun r27=>(some r27))
def Qap.f(K:Nat)(x1:(List Int)):Option ((Vector Int 32)):=
 ((shaQ.f K (([([(0:Int)]:List Int),x1]:List (List Int)))).bind fun r50=>(some r50))
def YR.b(K:Nat)(x1:(List Qm))(rec:((List (Vector Int 32))×Int)→Option ((List (Vector Int 32))))(y1:(List (Vector Int 32))×Int):Option ((List (Vector Int 32))):=
 (bif (decide (y1.2<((List.length (x1):Nat):Int)))then((getI (x1) y1.2).bind fun x2=>((Qao.f K (x2)).bind fun r1=>((Qap.f K (r1)).bind fun r2=>((catI 32 (y1.1) (([r2]:List (Vector Int 32)))).bind fun l1=>(rec (l1,(IntKind.wrap .i64 (y1.2+(1:Int)))))))))else(some y1.1))
def YR.l(K:Nat)(x1:(List Qm)):Nat→((List (Vector Int 32))×Int)→Option ((List (Vector Int 32))):=Ja (YR.b K x1)
def qK.f(K:Nat)(x1:(List Qm)):Option ((List (Vector Int 32))):=
 ((yg.f K (x1)).bind fun r1=>(bif (!r1)then(some ([]:List (Vector Int 32)))else((YR.l K x1 K (([]:List (Vector Int 32)),(0:Int))).bind fun z1=>(some z1))))
def QaM.b(K:Nat)(x1:Int)(rec:Int→Option (Int))(y35:Int):Option (Int):=
 (bif (decide (y35<(IntKind.wrap .i64 (x1-y35))))then(rec (IntKind.wrap .i64 (y35*(2:Int))))else(some y35))
def QaM.l(K:Nat)(x1:Int):Nat→(Int)→Option (Int):=Ja (QaM.b K x1)
def yh.f(K:Nat)(x1:Int):Option (Int):=
 (bif (decide (x1<(2:Int)))then(some (0:Int))else((QaM.l K x1 K (1:Int)).bind fun z41=>(some z41)))
def jR.f(K:Nat)(x1:(Vector Int 32))(x2:(Vector Int 32)):Option ((Vector Int 32)):=
 ((subI (Yg (x1)) 0 ((32:Nat):Int)).bind fun l44=>((subI (Yg (x2)) 0 ((32:Nat):Int)).bind fun l45=>((shaQ.f K (([([(1:Int)]:List Int),l44,l45]:List (List Int)))).bind fun r60=>(some r60))))
def Jr.b(K:Nat)(self:(List (Vector Int 32))→Option ((Vector Int 32)))(x1:(List (Vector Int 32))):Option ((Vector Int 32)):=
 (bif (decide (((List.length (x1):Nat):Int)=(0:Int)))then((shaQ.f K (([]:List (List Int)))).bind fun r2=>(some r2))else(bif (decide (((List.length (x1):Nat):Int)=(1:Int)))then((getI (x1) (0:Int)).bind fun x2=>(some x2))else((yh.f K (((List.length (x1):Nat):Int))).bind fun r1=>((subI (x1) r1 ((List.length (x1):Nat):Int)).bind fun l1=>((subI (x1) 0 r1).bind fun l2=>((self (l2)).bind fun r3=>((self (l1)).bind fun r4=>((jR.f K (r3) (r4)).bind fun r5=>(some r5)))))))))
def Jr.r(K:Nat):Nat→(List (Vector Int 32))→Option ((Vector Int 32))
 |0=>fun _=>none
 |k+1=>Jr.b K (Jr.r K k)
def Jr.f(K:Nat)(x1:(List (Vector Int 32))):Option ((Vector Int 32)):=Jr.r K K x1
def Qdq.f(K:Nat)(x1:Qq):Option ((Vector Int 32)):=
 ((subI (Yg (x1.fRoot)) 0 ((32:Nat):Int)).bind fun l69=>((qI.f K (x1.fSize)).bind fun r70=>((Qgh.f K ((6:Int)) (([r70,l69]:List (List Int)))).bind fun r94=>(some r94))))
def X5.f(K:Nat)(x1:Qo)(x8:Int)(x9:Qq):Option ((Vector Int 32)):=
 (jn (fun(y1:Bool)=>(bif y1 then(some (vofL 32 [(0:Int),(0:Int),(0:Int),(0:Int),(0:Int),(0:Int),(0:Int),(0:Int),(0:Int),(0:Int),(0:Int),(0:Int),(0:Int),(0:Int),(0:Int),(0:Int),(0:Int),(0:Int),(0:Int),(0:Int),(0:Int),(0:Int),(0:Int),(0:Int),(0:Int),(0:Int),(0:Int),(0:Int),(0:Int),(0:Int),(0:Int),(0:Int)]))else((Qdq.f K (x9)).bind fun r1=>((getI (x1.fWits) x8).bind fun x2=>((subI (Yg (x2)) 0 ((32:Nat):Int)).bind fun l1=>((subI (Yg (r1)) 0 ((32:Nat):Int)).bind fun l2=>((Qgg.f K (l1) (([([(3:Int)]:List Int),l2]:List (List Int)))).bind fun r2=>(some r2)))))))) (fun j1=>((ZE.f K (x1)).bind fun r3=>(bif (!r3)then(j1 true)else((JD.f K (x8) ((0:Int)) ((IntKind.wrap .i64 (((List.length (x1.fWits):Nat):Int)-(1:Int))))).bind fun r4=>(bif (!r4)then(j1 true)else((JD.f K (x9.fSize) ((0:Int)) ((400:Int))).bind fun r5=>(j1 (!r5)))))))))
def J5.b(K:Nat)(x1:Qo)(x8:(List Qm))(r1:((Vector Int 32)))(rec:(Int×Int×(Vector Int 32)×(List Q4))→Option (Int×(Vector Int 32)×(List Q4)))(y1:Int×Int×(Vector Int 32)×(List Q4)):Option (Int×(Vector Int 32)×(List Q4)):=
 (bif (decide (y1.1<((List.length (x1.fWits):Nat):Int)))then((X5.f K (x1) (y1.1) ((Qq.mk (((List.length (x8):Nat):Int)) (r1) (([]:List Q4))))).bind fun r2=>((catI 40 (y1.2.2.2) (([(Q4.mk (y1.1) (r2))]:List Q4))).bind fun l1=>(rec ((IntKind.wrap .i64 (y1.1+(1:Int))),y1.2.1,y1.2.2.1,l1))))else(some (y1.2.1,y1.2.2.1,y1.2.2.2)))
def J5.l(K:Nat)(x1:Qo)(x8:(List Qm))(r1:((Vector Int 32))):Nat→(Int×Int×(Vector Int 32)×(List Q4))→Option (Int×(Vector Int 32)×(List Q4)):=Ja (J5.b K x1 x8 r1)
def qZ.f(K:Nat)(x1:Qo)(x8:(List Qm)):Option (Int×(Vector Int 32)×(List Q4)):=
 ((qK.f K (x8)).bind fun r2=>((Jr.f K (r2)).bind fun r1=>((J5.l K x1 x8 r1 K ((0:Int),((List.length (x8):Nat):Int),r1,([]:List Q4))).bind fun z1=>(some (z1.1,z1.2.1,z1.2.2)))))
def QeP.f(K:Nat)(x1:Int):Option (Int):=
 (some x1)
def QcH.f(K:Nat)(x1:Int):Option (Bool):=
 (some true)
def QhZ.f(K:Nat)(x1:Qm):Option (Qm):=
 (jn (fun(y96:Bool)=>(bif y96 then(some x1)else((QT.f K (x1.fSteps)).bind fun r99=>((Qgi.f K (x1)).bind fun r1=>((some {Qu with fKind:=(1:Int),fSaga:=x1.fSaga,fSteps:=r99,fGone:=true,fCom:=r1}).bind fun v1=>(some v1)))))) (fun j1=>((qj.f K (x1)).bind fun r2=>(bif (!r2)then(j1 true)else(j1 (!decide (x1.fKind=(1:Int))))))))
def QaN.f(K:Nat)(x1:Qm)(x8:Int)(x9:Int):Option (Qm):=
 (chk (!(decide ((Int.tmod x8 32)<0))) (bif (decide ((band .u32 (Int.fdiv x9 (2^(min (Int.toNat (Int.tmod x8 32)) 32))) (1:Int))=(1:Int)))then((QhZ.f K (x1)).bind fun r81=>(some r81))else((QT.f K (x1.fSteps)).bind fun r92=>((Ye.f K (x1.fData)).bind fun r1=>(some {x1 with fSteps:=r92,fData:=r1})))))
def yj.b(K:Nat)(self:(List (Vector Int 32))→Int→Option ((List (Vector Int 32))×Bool))(x1:(List (Vector Int 32)))(x5:Int):Option ((List (Vector Int 32))×Bool):=
 (jn (fun(y1:Bool)=>(bif y1 then(some (([]:List (Vector Int 32)),false))else(bif (decide (((List.length (x1):Nat):Int)=(1:Int)))then(some (([]:List (Vector Int 32)),true))else((yh.f K (((List.length (x1):Nat):Int))).bind fun r1=>(bif (decide (x5<r1))then((subI (x1) 0 r1).bind fun l1=>((self (l1) (x5)).bind fun r2=>((subI (x1) r1 ((List.length (x1):Nat):Int)).bind fun l2=>((Jr.f K (l2)).bind fun r3=>((catI 32 (r2.1) (([r3]:List (Vector Int 32)))).bind fun l3=>(some (l3,true)))))))else((subI (x1) r1 ((List.length (x1):Nat):Int)).bind fun l4=>((self (l4) ((IntKind.wrap .i64 (x5-r1)))).bind fun r4=>((subI (x1) 0 r1).bind fun l5=>((Jr.f K (l5)).bind fun r5=>((catI 32 (r4.1) (([r5]:List (Vector Int 32)))).bind fun l6=>(some (l6,true)))))))))))) (fun j1=>(bif (decide (x5<(0:Int)))then(j1 true)else(j1 (decide (((List.length (x1):Nat):Int)≤x5))))))
def yj.r(K:Nat):Nat→(List (Vector Int 32))→Int→Option ((List (Vector Int 32))×Bool)
 |0=>fun _ _=>none
 |k+1=>yj.b K (yj.r K k)
def yj.f(K:Nat)(x1:(List (Vector Int 32)))(x5:Int):Option ((List (Vector Int 32))×Bool):=yj.r K K x1 x5
def jD.f(K:Nat)(x1:Int)(x2:Int)(x3:Int):Option (Bool):=
 (bif (decide (x2≤x1))then(some (decide (x1≤x3)))else(some false))
def Xh.f(K:Nat)(x1:Q4):Option (Bool):=
 ((jD.f K (x1.fWit) ((0:Int)) ((3:Int))).bind fun r11=>(some (!r11)))
def QH.b(K:Nat)(x1:(List Q4))(rec:Int→Option (Sum ((Int)) (Unit)))(y1:Int):Option (Sum ((Int)) (Unit)):=
 (bif (decide (y1<((List.length (x1):Nat):Int)))then((getI (x1) y1).bind fun x2=>((Xh.f K (x2)).bind fun r1=>(bif r1 then(some (Sum.inl y1))else(rec (IntKind.wrap .i64 (y1+(1:Int)))))))else(some (Sum.inr ())))
def QH.l(K:Nat)(x1:(List Q4)):Nat→(Int)→Option (Sum ((Int)) (Unit)):=Ja (QH.b K x1)
def Jo.f(K:Nat)(x1:(List Q4)):Option (Int):=
 ((QH.l K x1 K (0:Int)).bind fun s1=>(match s1 with| .inl u1=>some u1| .inr u2=>(fun(z1:Unit)=>(some (-1:Int))) u2))
def YP.f(K:Nat)(x1:(List Q4)):Option (Bool):=
 ((Jo.f K (x1)).bind fun r10=>(some (decide ((0:Int)≤r10))))
def ZI.f(K:Nat)(x1:Qq):Option (Bool):=
 ((jD.f K (x1.fSize) ((0:Int)) ((400:Int))).bind fun r39=>(bif r39 then(bif (decide (((List.length (x1.fSigs):Nat):Int)≤(4:Int)))then((YP.f K (x1.fSigs)).bind fun r44=>(some (!r44)))else(some false))else(some false)))
def YH.b(K:Nat)(x1:QO)(rec:(Int×Int)→Option (Sum ((Bool)) (Unit)))(y1:Int×Int):Option (Sum ((Bool)) (Unit)):=
 (bif (decide (y1.2<((List.length (x1.fItems):Nat):Int)))then((getI (x1.fItems) y1.2).bind fun x2=>(jn (fun(y2:Bool)=>(bif y2 then(some (Sum.inl false))else(rec (x2.fAt,(IntKind.wrap .i64 (y1.2+(1:Int))))))) (fun j1=>((qj.f K (x2.fRec)).bind fun r1=>(bif (!r1)then(j1 true)else((jD.f K (x2.fAt) ((IntKind.wrap .i64 (y1.1+(1:Int)))) ((IntKind.wrap .i64 (x1.fPoint.fSize-(1:Int))))).bind fun r2=>(bif (!r2)then(j1 true)else(bif (decide ((20:Int)<((List.length (x2.fPath):Nat):Int)))then(j1 true)else(bif x1.fWhole then(bif (!decide (x2.fAt=y1.2))then(j1 true)else(j1 (decide ((0:Int)<((List.length (x2.fPath):Nat):Int)))))else(j1 false))))))))))else(some (Sum.inr ())))
def YH.l(K:Nat)(x1:QO):Nat→(Int×Int)→Option (Sum ((Bool)) (Unit)):=Ja (YH.b K x1)
def JJ.f(K:Nat)(x1:QO):Option (Bool):=
 (jn (fun(y1:Bool)=>(bif y1 then(some false)else((YH.l K x1 K ((-1:Int),(0:Int))).bind fun s1=>(match s1 with| .inl u1=>some u1| .inr u2=>(fun(z1:Unit)=>(some true)) u2)))) (fun j1=>((ZI.f K (x1.fPoint)).bind fun r1=>(bif (!r1)then(j1 true)else(bif (decide (x1.fPoint.fSize<((List.length (x1.fItems):Nat):Int)))then(j1 true)else(bif x1.fWhole then(j1 (!decide (((List.length (x1.fItems):Nat):Int)=x1.fPoint.fSize)))else(j1 false)))))))
def ZZ.b(K:Nat)(x5:(List Qm))(x9:Qq)(x13:Int)(x14:Bool)(x15:Int)(r2:((List (Vector Int 32))))(rec:(Int×Bool×Qq×(List QF))→Option (Sum ((QO×Bool)) (Bool×Qq×(List QF))))(y1:Int×Bool×Qq×(List QF)):Option (Sum ((QO×Bool)) (Bool×Qq×(List QF))):=
 (bif (decide (y1.1<x15))then(jn (fun(y2:Bool×Qq×(List QF))=>(rec ((IntKind.wrap .i64 (y1.1+(1:Int))),y2.1,y2.2.1,y2.2.2))) (fun j1=>((QcH.f K (y1.1)).bind fun r3=>(bif r3 then(jn (fun(y4:Bool)=>(bif y4 then(some (Sum.inl (Y7,false)))else((getI (x5) y1.1).bind fun x1=>((QaN.f K (x1) (y1.1) (x13)).bind fun r1=>(jn (fun(y3:Bool×Int×Qm×(List (Vector Int 32)))=>((catI 256 (y1.2.2.2) (([(QF.mk (y3.2.1) (y3.2.2.1) (y3.2.2.2))]:List QF))).bind fun l1=>(j1 (y1.2.1,y1.2.2.1,l1)))) (fun j2=>(bif (!x14)then((yj.f K (r2) (y1.1)).bind fun r4=>(j2 (true,y1.1,r1,r4.1)))else(j2 (false,y1.1,r1,([]:List (Vector Int 32))))))))))) (fun j3=>(bif (decide (y1.1<(0:Int)))then(j3 true)else(j3 (decide (x9.fSize≤y1.1))))))else(j1 (y1.2.1,y1.2.2.1,y1.2.2.2))))))else(some (Sum.inr (y1.2.1,y1.2.2.1,y1.2.2.2))))
def ZZ.l(K:Nat)(x5:(List Qm))(x9:Qq)(x13:Int)(x14:Bool)(x15:Int)(r1:((List (Vector Int 32)))):Nat→(Int×Bool×Qq×(List QF))→Option (Sum ((QO×Bool)) (Bool×Qq×(List QF))):=Ja (ZZ.b K x5 x9 x13 x14 x15 r1)
def Qgj.f(K:Nat)(x5:(List Qm))(x9:Qq)(x13:Int)(x14:Bool)(x15:Int):Option (QO×Bool):=
 (jn (fun(y1:Bool)=>(bif y1 then(some (Y7,false))else((subI (x5) 0 x9.fSize).bind fun l1=>((qK.f K (l1)).bind fun r1=>((Yj.f K (x9.fSigs)).bind fun r2=>((ZZ.l K x5 x9 x13 x14 x15 r1 K ((0:Int),x14,{x9 with fSigs:=r2},([]:List QF))).bind fun s1=>(match s1 with| .inl u1=>some u1| .inr u2=>(fun(z1:Bool×Qq×(List QF))=>((JJ.f K ((QO.mk (z1.1) (z1.2.1) (z1.2.2)))).bind fun r3=>(bif (!r3)then(some (Y7,false))else(some ((QO.mk (z1.1) (z1.2.1) (z1.2.2)),true))))) u2))))))) (fun j1=>((yg.f K (x5)).bind fun r4=>(bif (!r4)then(j1 true)else(bif (decide ((400:Int)<((List.length (x5):Nat):Int)))then(j1 true)else(bif (decide (x9.fSize<(0:Int)))then(j1 true)else(j1 (decide (((List.length (x5):Nat):Int)<x9.fSize)))))))))
def QbH.f(K:Nat)(x1:(List Qm))(x5:Qq)(x9:Int):Option (QO×Bool):=
 ((QeP.f K ((maxI (0:Int) x5.fSize))).bind fun r44=>((Qgj.f K (x1) (x5) (x9) (true) (r44)).bind fun r53=>(some (r53.1,r53.2))))
def QbI.f(K:Nat)(x5:Int)(x6:(List Qm))(x10:Int):Option (Int):=
 (some x5)
def Qdr.f(K:Nat)(x5:Int)(x6:(List Qm))(x10:Int):Option (Bool):=
 ((getI (x6) x5).bind fun x1=>(bif (!decide (x1.fKind=(6:Int)))then((getI (x6) x5).bind fun x2=>(some (decide (x2.fSaga=x10))))else(some false)))
def y9.b(K:Nat)(x9:(List Qm))(x13:Qq)(x17:Int)(x18:Bool)(x19:Int)(x20:(List Qm))(x24:Int)(r2:((List (Vector Int 32))))(rec:(Int×Bool×Qq×(List QF))→Option (Sum ((QO×Bool)) (Bool×Qq×(List QF))))(y1:Int×Bool×Qq×(List QF)):Option (Sum ((QO×Bool)) (Bool×Qq×(List QF))):=
 (bif (decide (y1.1<x19))then(jn (fun(y2:Bool×Qq×(List QF))=>(rec ((IntKind.wrap .i64 (y1.1+(1:Int))),y2.1,y2.2.1,y2.2.2))) (fun j1=>((Qdr.f K (y1.1) (x20) (x24)).bind fun r3=>(bif r3 then(jn (fun(y4:Bool)=>(bif y4 then(some (Sum.inl (Y7,false)))else((getI (x9) y1.1).bind fun x1=>((QaN.f K (x1) (y1.1) (x17)).bind fun r1=>(jn (fun(y3:Bool×Int×Qm×(List (Vector Int 32)))=>((catI 256 (y1.2.2.2) (([(QF.mk (y3.2.1) (y3.2.2.1) (y3.2.2.2))]:List QF))).bind fun l1=>(j1 (y1.2.1,y1.2.2.1,l1)))) (fun j2=>(bif (!x18)then((yj.f K (r2) (y1.1)).bind fun r4=>(j2 (true,y1.1,r1,r4.1)))else(j2 (false,y1.1,r1,([]:List (Vector Int 32))))))))))) (fun j3=>(bif (decide (y1.1<(0:Int)))then(j3 true)else(j3 (decide (x13.fSize≤y1.1))))))else(j1 (y1.2.1,y1.2.2.1,y1.2.2.2))))))else(some (Sum.inr (y1.2.1,y1.2.2.1,y1.2.2.2))))
def y9.l(K:Nat)(x9:(List Qm))(x13:Qq)(x17:Int)(x18:Bool)(x19:Int)(x20:(List Qm))(x24:Int)(r1:((List (Vector Int 32)))):Nat→(Int×Bool×Qq×(List QF))→Option (Sum ((QO×Bool)) (Bool×Qq×(List QF))):=Ja (y9.b K x9 x13 x17 x18 x19 x20 x24 r1)
def QcI.f(K:Nat)(x9:(List Qm))(x13:Qq)(x17:Int)(x18:Bool)(x19:Int)(x20:(List Qm))(x24:Int):Option (QO×Bool):=
 (jn (fun(y1:Bool)=>(bif y1 then(some (Y7,false))else((subI (x9) 0 x13.fSize).bind fun l1=>((qK.f K (l1)).bind fun r1=>((Yj.f K (x13.fSigs)).bind fun r2=>((y9.l K x9 x13 x17 x18 x19 x20 x24 r1 K ((0:Int),x18,{x13 with fSigs:=r2},([]:List QF))).bind fun s1=>(match s1 with| .inl u1=>some u1| .inr u2=>(fun(z1:Bool×Qq×(List QF))=>((JJ.f K ((QO.mk (z1.1) (z1.2.1) (z1.2.2)))).bind fun r3=>(bif (!r3)then(some (Y7,false))else(some ((QO.mk (z1.1) (z1.2.1) (z1.2.2)),true))))) u2))))))) (fun j1=>((yg.f K (x9)).bind fun r4=>(bif (!r4)then(j1 true)else(bif (decide ((400:Int)<((List.length (x9):Nat):Int)))then(j1 true)else(bif (decide (x13.fSize<(0:Int)))then(j1 true)else(j1 (decide (((List.length (x9):Nat):Int)<x13.fSize)))))))))
def Qgk.f(K:Nat)(x1:(List Qm))(x5:Qq)(x9:Int)(x10:Int):Option (QO×Bool):=
 ((QbI.f K ((minI (maxI (0:Int) x5.fSize) ((List.length (x1):Nat):Int))) (x1) (x10)).bind fun r53=>((QcI.f K (x1) (x5) (x9) (false) (r53) (x1) (x10)).bind fun r62=>(some (r62.1,r62.2))))
def QeQ.f(K:Nat)(x1:Q4):Option ((List Int)):=
 ((qI.f K (x1.fWit)).bind fun r60=>((jQ.f K (x1.fTag)).bind fun r70=>((Je.f K (([r60,r70]:List (List Int)))).bind fun r99=>(some r99))))
def ja.b(K:Nat)(x1:(List Q4))(rec:((List Int)×Int)→Option ((List Int)))(y1:(List Int)×Int):Option ((List Int)):=
 (bif (decide (y1.2<((List.length (x1):Nat):Int)))then((getI (x1) y1.2).bind fun x2=>((QeQ.f K (x2)).bind fun r1=>((catI 1 (y1.1) (r1)).bind fun l1=>(rec (l1,(IntKind.wrap .i64 (y1.2+(1:Int))))))))else(some y1.1))
def ja.l(K:Nat)(x1:(List Q4)):Nat→((List Int)×Int)→Option ((List Int)):=Ja (ja.b K x1)
def X6.f(K:Nat)(x1:(List Q4)):Option ((List Int)):=
 ((qI.f K (((List.length (x1):Nat):Int))).bind fun r1=>((ja.l K x1 K (r1,(0:Int))).bind fun z1=>(some z1)))
def Qh0.f(K:Nat)(x1:(List Int)):Option ((List Int)):=
 ((qI.f K (((List.length (x1):Nat):Int))).bind fun r27=>((catI 1 (r27) (x1)).bind fun l37=>(some l37)))
def Qh1.f(K:Nat)(x3:Qm):Option ((List Int)):=
 (bif x3.fGone then((Xn.f K (true)).bind fun r1=>((jQ.f K (x3.fCom)).bind fun r2=>((Je.f K (([r1,r2]:List (List Int)))).bind fun r3=>(some r3))))else((Xn.f K (false)).bind fun r4=>((jQ.f K (x3.fSalt)).bind fun r5=>((Qh0.f K (x3.fData)).bind fun r6=>((Je.f K (([r4,r5,r6]:List (List Int)))).bind fun r7=>(some r7))))))
def Qh2.f(K:Nat)(x3:Qm)(x10:Qm):Option ((List Int)):=
 ((qj.f K (x3)).bind fun r2=>(bif (!r2)then(some ([]:List Int))else(jn (fun(y1:(List Int))=>(bif (decide (x3.fKind=(1:Int)))then((Qh1.f K (x10)).bind fun r3=>((catI 1 (y1) (r3)).bind fun l1=>(some l1)))else(some y1))) (fun j1=>((qI.f K (x3.fKind)).bind fun r1=>((Qdp.f K).bind fun r16=>(bif decide (x3.fKind=(0:Int))then none else(bif decide (x3.fKind=(1:Int))then((QbG.f K (x3)).bind fun r4=>((Je.f K (([r1,r4]:List (List Int)))).bind fun r5=>(j1 r5)))else(bif decide (x3.fKind=(2:Int))then((ZG.f K (x3)).bind fun r6=>((Je.f K (([r1,r6]:List (List Int)))).bind fun r7=>(j1 r7)))else(bif decide (x3.fKind=(3:Int))then((XY.f K (x3)).bind fun r8=>((Je.f K (([r1,r8]:List (List Int)))).bind fun r9=>(j1 r9)))else(bif decide (x3.fKind=(4:Int))then((ZG.f K (x3)).bind fun r10=>((Je.f K (([r1,r10]:List (List Int)))).bind fun r11=>(j1 r11)))else(bif decide (x3.fKind=(5:Int))then((XZ.f K (x3)).bind fun r12=>((Je.f K (([r1,r12]:List (List Int)))).bind fun r13=>(j1 r13)))else(bif decide (x3.fKind=(6:Int))then((X0.f K (x3)).bind fun r14=>((Je.f K (([r1,r14]:List (List Int)))).bind fun r15=>(j1 r15)))else none)))))))))))))
def QiG.f(K:Nat)(x1:Qm):Option ((List Int)):=
 ((Qh2.f K (x1) (x1)).bind fun r27=>(some r27))
def qL.b(K:Nat)(x1:(List (Vector Int 32)))(rec:((List Int)×Int)→Option ((List Int)))(y1:(List Int)×Int):Option ((List Int)):=
 (bif (decide (y1.2<((List.length (x1):Nat):Int)))then((getI (x1) y1.2).bind fun x2=>((jQ.f K (x2)).bind fun r1=>((catI 1 (y1.1) (r1)).bind fun l1=>(rec (l1,(IntKind.wrap .i64 (y1.2+(1:Int))))))))else(some y1.1))
def qL.l(K:Nat)(x1:(List (Vector Int 32))):Nat→((List Int)×Int)→Option ((List Int)):=Ja (qL.b K x1)
def Xw.f(K:Nat)(x1:(List (Vector Int 32))):Option ((List Int)):=
 ((qI.f K (((List.length (x1):Nat):Int))).bind fun r1=>((qL.l K x1 K (r1,(0:Int))).bind fun z1=>(some z1)))
def Qgl.f(K:Nat)(x1:QF):Option ((List Int)):=
 ((qI.f K (x1.fAt)).bind fun r84=>((QiG.f K (x1.fRec)).bind fun r94=>((Xw.f K (x1.fPath)).bind fun r1=>((Je.f K (([r84,r94,r1]:List (List Int)))).bind fun r2=>(some r2)))))
def qM.b(K:Nat)(x1:(List QF))(rec:((List Int)×Int)→Option ((List Int)))(y1:(List Int)×Int):Option ((List Int)):=
 (bif (decide (y1.2<((List.length (x1):Nat):Int)))then((getI (x1) y1.2).bind fun x2=>((Qgl.f K (x2)).bind fun r1=>((catI 1 (y1.1) (r1)).bind fun l1=>(rec (l1,(IntKind.wrap .i64 (y1.2+(1:Int))))))))else(some y1.1))
def qM.l(K:Nat)(x1:(List QF)):Nat→((List Int)×Int)→Option ((List Int)):=Ja (qM.b K x1)
def Xx.f(K:Nat)(x1:(List QF)):Option ((List Int)):=
 ((qI.f K (((List.length (x1):Nat):Int))).bind fun r1=>((qM.l K x1 K (r1,(0:Int))).bind fun z1=>(some z1)))
def QaO.b(K:Nat)(x1:QO)(rec:((List Int)×Int)→Option ((List Int)))(y1:(List Int)×Int):Option ((List Int)):=
 (bif (decide (y1.2<((List.length (x1.fItems):Nat):Int)))then((getI (x1.fItems) y1.2).bind fun x2=>((QiG.f K (x2.fRec)).bind fun r1=>((catI 1 (y1.1) (r1)).bind fun l1=>(rec (l1,(IntKind.wrap .i64 (y1.2+(1:Int))))))))else(some y1.1))
def QaO.l(K:Nat)(x1:QO):Nat→((List Int)×Int)→Option ((List Int)):=Ja (QaO.b K x1)
def Qaq.f(K:Nat)(x1:QO):Option ((List Int)):=
 ((JJ.f K (x1)).bind fun r2=>(bif (!r2)then(some ([]:List Int))else((Xn.f K (x1.fWhole)).bind fun r3=>((qI.f K (x1.fPoint.fSize)).bind fun r4=>((jQ.f K (x1.fPoint.fRoot)).bind fun r5=>((X6.f K (x1.fPoint.fSigs)).bind fun r6=>((Je.f K (([([(105:Int),(110:Int),(115:Int),(112:Int)]:List Int),r3,r4,r5,r6]:List (List Int)))).bind fun r1=>(bif (!x1.fWhole)then((Xx.f K (x1.fItems)).bind fun r7=>((catI 1 (r1) (r7)).bind fun l1=>(some l1)))else((QaO.l K x1 K (r1,(0:Int))).bind fun z1=>(some z1))))))))))
def Yu.fs(K:Nat)(x1:Bool)(x2:Int):Option (Sum Int Unit):=
 (bif (!x1)then(some (Sum.inl x2))else(some (Sum.inr ())))
def bytes_HasPrefix.f(K:Nat)(x1:(List Int))(x5:(List Int)):Option (Bool):=
 (bif (decide (((List.length (x5):Nat):Int)≤((List.length (x1):Nat):Int)))then((subI (x1) 0 ((List.length (x5):Nat):Int)).bind fun l39=>((bytes_Equal.f K (l39) (x5)).bind fun r44=>(some r44)))else(some false))
def bytes_CutPrefix.f(K:Nat)(x1:(List Int))(x5:(List Int)):Option ((List Int)×Bool):=
 ((bytes_HasPrefix.f K (x1) (x5)).bind fun r32=>(bif (!r32)then(some (x1,false))else((subI (x1) ((List.length (x5):Nat):Int) ((List.length (x1):Nat):Int)).bind fun l37=>(some (l37,true)))))
def Qds.f(K:Nat)(x1:(List Int)):Option (Qk):=
 ((Ye.f K (x1)).bind fun r27=>(some (Qk.mk (r27) ((0:Int)))))
def QE.f(K:Nat)(x3:Qk):Option (Int):=
 (some x3.fBad)
def JW.f(K:Nat)(x1:(List Int)):Option (Bool×Int×Int):=
 (bif (decide (((List.length (x1):Nat):Int)=(0:Int)))then(some (false,(0:Int),(3:Int)))else((getI (x1) (0:Int)).bind fun x81=>(bif (decide ((1:Int)<x81))then(some (false,(0:Int),(2:Int)))else((getI (x1) (0:Int)).bind fun x2=>(some ((decide (x2=(1:Int))),(1:Int),(0:Int)))))))
def Ya.f(K:Nat)(x3:Int)(x4:Qk):Option (Qk):=
 (jn (fun(y20:Bool)=>(bif y20 then((some (Qk.mk (([]:List Int)) (x4.fBad))).bind fun v23=>((some (Qk.mk (([]:List Int)) (x3))).bind fun v25=>(some (Qk.mk (([]:List Int)) (v25.fBad)))))else(some x4))) (fun j27=>(bif (decide (x4.fBad=(0:Int)))then(j27 (!decide (x3=(0:Int))))else(j27 false))))
def qW.f(K:Nat)(x3:Qk):Option (Bool×Qk):=
 ((QE.f K (x3)).bind fun r54=>(bif (!decide (r54=(0:Int)))then(some (false,x3))else((JW.f K (x3.fB)).bind fun r59=>(bif (!decide (r59.2.2=(0:Int)))then((Ya.f K (r59.2.2) (x3)).bind fun r72=>(some (false,r72)))else((subI (x3.fB) r59.2.1 ((List.length (x3.fB):Nat):Int)).bind fun l80=>((some (Qk.mk (l80) (x3.fBad))).bind fun v85=>(some (r59.1,v85))))))))
def Yy.f(K:Nat)(x3:Qk):Option (Bool×Qk):=
 ((qW.f K (x3)).bind fun r18=>(some (r18.1,r18.2)))
def YL.b(K:Nat)(x1:(List Int))(rec:(Int×Int)→Option (Sum ((Int×Int×Int)) (Unit)))(y1:Int×Int):Option (Sum ((Int×Int×Int)) (Unit)):=
 (bif (decide (y1.2<((List.length (x1):Nat):Int)))then((getI (x1) y1.2).bind fun x2=>(jn (fun(y2:Bool)=>(bif y2 then(some (Sum.inl ((0:Int),(0:Int),(2:Int))))else(bif (decide (x2<(128:Int)))then(bif (decide ((2147483647:Int)<(bor .i64 (IntKind.wrap .i64 (y1.1*2^7)) (IntKind.wrap .i64 (Int.tmod x2 128)))))then(some (Sum.inl ((0:Int),(0:Int),(2:Int))))else(some (Sum.inl ((bor .i64 (IntKind.wrap .i64 (y1.1*2^7)) (IntKind.wrap .i64 (Int.tmod x2 128))),(IntKind.wrap .i64 (y1.2+(1:Int))),(0:Int)))))else(rec ((bor .i64 (IntKind.wrap .i64 (y1.1*2^7)) (IntKind.wrap .i64 (Int.tmod x2 128))),(IntKind.wrap .i64 (y1.2+(1:Int)))))))) (fun j1=>(bif (decide (y1.2=(0:Int)))then(bif (decide (x2=(128:Int)))then(j1 true)else(j1 (decide (y1.2=(5:Int)))))else(j1 (decide (y1.2=(5:Int))))))))else(some (Sum.inr ())))
def YL.l(K:Nat)(x1:(List Int)):Nat→(Int×Int)→Option (Sum ((Int×Int×Int)) (Unit)):=Ja (YL.b K x1)
def X7.f(K:Nat)(x1:(List Int)):Option (Int×Int×Int):=
 ((YL.l K x1 K ((0:Int),(0:Int))).bind fun s1=>(match s1 with| .inl u1=>some u1| .inr u2=>(fun(z1:Unit)=>(some ((0:Int),(0:Int),(3:Int)))) u2))
def yK.f(K:Nat)(x3:Qk):Option (Int×Qk):=
 ((QE.f K (x3)).bind fun r54=>(bif (!decide (r54=(0:Int)))then(some ((0:Int),x3))else((X7.f K (x3.fB)).bind fun r59=>(bif (!decide (r59.2.2=(0:Int)))then((Ya.f K (r59.2.2) (x3)).bind fun r72=>(some ((0:Int),r72)))else((subI (x3.fB) r59.2.1 ((List.length (x3.fB):Nat):Int)).bind fun l80=>((some (Qk.mk (l80) (x3.fBad))).bind fun v85=>(some (r59.1,v85))))))))
def QB.f(K:Nat)(x3:Qk):Option (Int×Qk):=
 ((yK.f K (x3)).bind fun r18=>(some (r18.1,r18.2)))
def jc.f(K:Nat)(x1:(List Int)):Option ((Vector Int 32)×Int×Int):=
 (bif (decide (((List.length (x1):Nat):Int)<(32:Int)))then(some ((Vector.replicate 32 (0:Int)),(0:Int),(3:Int)))else((subI (x1) 0 (32:Int)).bind fun l36=>(chk (decide (32≤List.length (l36))) (some ((vofL 32 (l36)),(32:Int),(0:Int))))))
def JX.f(K:Nat)(x3:Qk):Option ((Vector Int 32)×Qk):=
 ((QE.f K (x3)).bind fun r64=>(bif (!decide (r64=(0:Int)))then(some ((Vector.replicate 32 (0:Int)),x3))else((jc.f K (x3.fB)).bind fun r69=>(bif (!decide (r69.2.2=(0:Int)))then((Ya.f K (r69.2.2) (x3)).bind fun r84=>(some ((Vector.replicate 32 (0:Int)),r84)))else((subI (x3.fB) r69.2.1 ((List.length (x3.fB):Nat):Int)).bind fun l92=>((some (Qk.mk (l92) (x3.fBad))).bind fun v97=>(some (r69.1,v97))))))))
def Ym.f(K:Nat)(x3:Qk):Option ((Vector Int 32)×Qk):=
 ((JX.f K (x3)).bind fun r22=>(some (r22.1,r22.2)))
def QbJ.f(K:Nat)(x5:Int)(x6:Qk):Option (Q4×Qk):=
 ((QB.f K (x6)).bind fun r35=>((Ym.f K (r35.2)).bind fun r43=>((some (Q4.mk (r35.1) (r43.1))).bind fun v51=>(some (v51,r43.2)))))
def Q7.b(K:Nat)(x5:Int)(rec:((List Q4)×Int×Qk)→Option ((List Q4)×Qk))(y1:(List Q4)×Int×Qk):Option ((List Q4)×Qk):=
 (bif (decide (y1.2.1<x5))then((QE.f K (y1.2.2)).bind fun r2=>(bif (!decide (r2=(0:Int)))then(some (y1.1,y1.2.2))else((QbJ.f K (y1.2.1) (y1.2.2)).bind fun r1=>((catI 40 (y1.1) (([r1.1]:List Q4))).bind fun l1=>(rec (l1,(IntKind.wrap .i64 (y1.2.1+(1:Int))),r1.2))))))else(some (y1.1,y1.2.2)))
def Q7.l(K:Nat)(x5:Int):Nat→((List Q4)×Int×Qk)→Option ((List Q4)×Qk):=Ja (Q7.b K x5)
def JM.f(K:Nat)(x5:Int)(x6:Int)(x7:Qk):Option ((List Q4)×Qk):=
 (jn (fun(y1:Qk)=>((Q7.l K x5 K (([]:List Q4),(0:Int),y1)).bind fun z1=>(some (z1.1,z1.2)))) (fun j1=>(bif (decide (x6<x5))then((Ya.f K ((4:Int)) (x7)).bind fun r1=>(j1 r1))else(j1 x7))))
def Y6.b(K:Nat)(r3:(Int×Qk))(rec:((List Qr)×Int×Qk)→Option ((List Qr)×Qk))(y1:(List Qr)×Int×Qk):Option ((List Qr)×Qk):=
 (bif (decide (y1.2.1<r3.1))then((QE.f K (y1.2.2)).bind fun r4=>(bif (!decide (r4=(0:Int)))then(some (y1.1,y1.2.2))else((QB.f K (y1.2.2)).bind fun r1=>((QB.f K (r1.2)).bind fun r2=>((catI 16 (y1.1) (([(Qr.mk (r1.1) (r2.1))]:List Qr))).bind fun l1=>(rec (l1,(IntKind.wrap .i64 (y1.2.1+(1:Int))),r2.2)))))))else(some (y1.1,y1.2.2)))
def Y6.l(K:Nat)(r1:(Int×Qk)):Nat→((List Qr)×Int×Qk)→Option ((List Qr)×Qk):=Ja (Y6.b K r1)
def QbK.f(K:Nat)(x3:Qk):Option ((List Qr)×Qk):=
 ((QB.f K (x3)).bind fun r1=>(jn (fun(y1:Qk)=>((Y6.l K r1 K (([]:List Qr),(0:Int),y1)).bind fun z1=>(some (z1.1,z1.2)))) (fun j1=>(bif (decide ((6:Int)<r1.1))then((Ya.f K ((2:Int)) (r1.2)).bind fun r2=>(j1 r2))else(j1 r1.2)))))
def Jt.f(K:Nat)(x3:(List Int))(x7:Int):Option ((List Int)×Int×Int):=
 ((X7.f K (x3)).bind fun r33=>(bif (!decide (r33.2.2=(0:Int)))then(some (([]:List Int),(0:Int),r33.2.2))else(bif (decide (x7<r33.1))then(some (([]:List Int),(0:Int),(4:Int)))else(bif (decide ((IntKind.wrap .i64 (((List.length (x3):Nat):Int)-r33.2.1))<r33.1))then(some (([]:List Int),(0:Int),(3:Int)))else((subI (x3) r33.2.1 (IntKind.wrap .i64 (r33.2.1+r33.1))).bind fun l41=>((Ye.f K (l41)).bind fun r46=>(some (r46,(IntKind.wrap .i64 (r33.2.1+r33.1)),(0:Int)))))))))
def J6.f(K:Nat)(x5:Qk)(x9:Int):Option ((List Int)×Qk):=
 ((QE.f K (x5)).bind fun r67=>(bif (!decide (r67=(0:Int)))then(some (([]:List Int),x5))else((Jt.f K (x5.fB) (x9)).bind fun r73=>(bif (!decide (r73.2.2=(0:Int)))then((Ya.f K (r73.2.2) (x5)).bind fun r91=>(some (([]:List Int),r91)))else((subI (x5.fB) r73.2.1 ((List.length (x5.fB):Nat):Int)).bind fun l1=>((some (Qk.mk (l1) (x5.fBad))).bind fun v1=>(some (r73.1,v1))))))))
def YI.f(K:Nat)(x3:Int)(x4:Qk):Option ((List Int)×Qk):=
 ((J6.f K (x4) (x3)).bind fun r33=>(some (r33.1,r33.2)))
def Qdt.f(K:Nat)(x3:Qk):Option (Qm×Qk):=
 ((QB.f K (x3)).bind fun r1=>((some {Qu with fKind:=r1.1}).bind fun v1=>(jn (fun(y1:Qk×Int×Int×Int×Int×Int×Bool×Bool×Int×Int×Int×(Vector Int 32)×(List Qr)×(List Int)×(Vector Int 32)×Bool×(Vector Int 32))=>(jn (fun(y2:Qk)=>((QE.f K (y2)).bind fun r22=>(bif (!decide (r22=(0:Int)))then(some (Qu,y2))else((some (Qm.mk (y1.2.1) (y1.2.2.1) (y1.2.2.2.1) (y1.2.2.2.2.1) (y1.2.2.2.2.2.1) (y1.2.2.2.2.2.2.1) (y1.2.2.2.2.2.2.2.1) (y1.2.2.2.2.2.2.2.2.1) (y1.2.2.2.2.2.2.2.2.2.1) (y1.2.2.2.2.2.2.2.2.2.2.1) (y1.2.2.2.2.2.2.2.2.2.2.2.1) (y1.2.2.2.2.2.2.2.2.2.2.2.2.1) (y1.2.2.2.2.2.2.2.2.2.2.2.2.2.1) (y1.2.2.2.2.2.2.2.2.2.2.2.2.2.2.1) (y1.2.2.2.2.2.2.2.2.2.2.2.2.2.2.2.1) (y1.2.2.2.2.2.2.2.2.2.2.2.2.2.2.2.2))).bind fun v7=>(some (v7,y2)))))) (fun j3=>((qj.f K ((Qm.mk (y1.2.1) (y1.2.2.1) (y1.2.2.2.1) (y1.2.2.2.2.1) (y1.2.2.2.2.2.1) (y1.2.2.2.2.2.2.1) (y1.2.2.2.2.2.2.2.1) (y1.2.2.2.2.2.2.2.2.1) (y1.2.2.2.2.2.2.2.2.2.1) (y1.2.2.2.2.2.2.2.2.2.2.1) (y1.2.2.2.2.2.2.2.2.2.2.2.1) (y1.2.2.2.2.2.2.2.2.2.2.2.2.1) (y1.2.2.2.2.2.2.2.2.2.2.2.2.2.1) (y1.2.2.2.2.2.2.2.2.2.2.2.2.2.2.1) (y1.2.2.2.2.2.2.2.2.2.2.2.2.2.2.2.1) (y1.2.2.2.2.2.2.2.2.2.2.2.2.2.2.2.2)))).bind fun r23=>(bif (!r23)then((Ya.f K ((2:Int)) (y1.1)).bind fun r24=>(j3 r24))else(j3 y1.1)))))) (fun j1=>(bif (decide (v1.fKind=(1:Int)))then((QB.f K (r1.2)).bind fun r5=>((QbK.f K (r5.2)).bind fun r3=>((some {v1 with fSaga:=r5.1}).bind fun v2=>((Yy.f K (r3.2)).bind fun r2=>(bif r2.1 then((Ym.f K (r2.2)).bind fun r6=>(j1 (r6.2,v2.fKind,v2.fSaga,v2.fSeq,v2.fStep,v2.fTry,v2.fBack,v2.fGood,v2.fEnd,v2.fPart,v2.fEpoch,v2.fTag,r3.1,v2.fData,v2.fSalt,r2.1,r6.1)))else((Ym.f K (r2.2)).bind fun r7=>((YI.f K ((60:Int)) (r7.2)).bind fun r8=>(j1 (r8.2,v2.fKind,v2.fSaga,v2.fSeq,v2.fStep,v2.fTry,v2.fBack,v2.fGood,v2.fEnd,v2.fPart,v2.fEpoch,v2.fTag,r3.1,r8.1,r7.1,r2.1,v2.fCom)))))))))else(jn (fun(y3:Bool)=>(bif y3 then((QB.f K (r1.2)).bind fun r9=>((QB.f K (r9.2)).bind fun r10=>((QB.f K (r10.2)).bind fun r11=>((QB.f K (r11.2)).bind fun r12=>((Yy.f K (r12.2)).bind fun r4=>((some {v1 with fSaga:=r9.1}).bind fun v8=>((some {v8 with fSeq:=r10.1}).bind fun v9=>((some {v9 with fStep:=r11.1}).bind fun v10=>((some {v10 with fTry:=r12.1}).bind fun v11=>((some {v11 with fBack:=r4.1}).bind fun v3=>(bif (decide (v3.fKind=(3:Int)))then((Yy.f K (r4.2)).bind fun r13=>((QB.f K (r13.2)).bind fun r14=>((QB.f K (r14.2)).bind fun r15=>((Ym.f K (r15.2)).bind fun r16=>((some {v3 with fGood:=r13.1}).bind fun v12=>((some {v12 with fPart:=r14.1}).bind fun v13=>((some {v13 with fEpoch:=r15.1}).bind fun v14=>((some {v14 with fTag:=r16.1}).bind fun v4=>(j1 (r16.2,v4.fKind,v4.fSaga,v4.fSeq,v4.fStep,v4.fTry,v4.fBack,v4.fGood,v4.fEnd,v4.fPart,v4.fEpoch,v4.fTag,v4.fSteps,v4.fData,v4.fSalt,v4.fGone,v4.fCom))))))))))else(j1 (r4.2,v3.fKind,v3.fSaga,v3.fSeq,v3.fStep,v3.fTry,v3.fBack,v3.fGood,v3.fEnd,v3.fPart,v3.fEpoch,v3.fTag,v3.fSteps,v3.fData,v3.fSalt,v3.fGone,v3.fCom)))))))))))))else(bif (decide (v1.fKind=(5:Int)))then((QB.f K (r1.2)).bind fun r17=>((QB.f K (r17.2)).bind fun r18=>((QB.f K (r18.2)).bind fun r19=>((some {v1 with fSaga:=r17.1}).bind fun v15=>((some {v15 with fSeq:=r18.1}).bind fun v16=>((some {v16 with fEnd:=r19.1}).bind fun v5=>(j1 (r19.2,v5.fKind,v5.fSaga,v5.fSeq,v5.fStep,v5.fTry,v5.fBack,v5.fGood,v5.fEnd,v5.fPart,v5.fEpoch,v5.fTag,v5.fSteps,v5.fData,v5.fSalt,v5.fGone,v5.fCom))))))))else(bif (decide (v1.fKind=(6:Int)))then((QB.f K (r1.2)).bind fun r20=>((QB.f K (r20.2)).bind fun r21=>((some {v1 with fPart:=r20.1}).bind fun v17=>((some {v17 with fEpoch:=r21.1}).bind fun v6=>(j1 (r21.2,v6.fKind,v6.fSaga,v6.fSeq,v6.fStep,v6.fTry,v6.fBack,v6.fGood,v6.fEnd,v6.fPart,v6.fEpoch,v6.fTag,v6.fSteps,v6.fData,v6.fSalt,v6.fGone,v6.fCom))))))else((Ya.f K ((2:Int)) (r1.2)).bind fun r25=>(j1 (r25,v1.fKind,v1.fSaga,v1.fSeq,v1.fStep,v1.fTry,v1.fBack,v1.fGood,v1.fEnd,v1.fPart,v1.fEpoch,v1.fTag,v1.fSteps,v1.fData,v1.fSalt,v1.fGone,v1.fCom))))))) (fun j2=>(bif (decide (v1.fKind=(2:Int)))then(j2 true)else(bif (decide (v1.fKind=(4:Int)))then(j2 true)else(j2 (decide (v1.fKind=(3:Int)))))))))))))
def ZJ.f(K:Nat)(x5:Int)(x6:Qk):Option (QF×Qk):=
 ((Qdt.f K (x6)).bind fun r45=>((some (QF.mk (x5) (r45.1) (([]:List (Vector Int 32))))).bind fun v59=>(some (v59,r45.2))))
def QV.b(K:Nat)(x5:Int)(rec:((List QF)×Int×Qk)→Option ((List QF)×Qk))(y1:(List QF)×Int×Qk):Option ((List QF)×Qk):=
 (bif (decide (y1.2.1<x5))then((QE.f K (y1.2.2)).bind fun r2=>(bif (!decide (r2=(0:Int)))then(some (y1.1,y1.2.2))else((ZJ.f K (y1.2.1) (y1.2.2)).bind fun r1=>((catI 256 (y1.1) (([r1.1]:List QF))).bind fun l1=>(rec (l1,(IntKind.wrap .i64 (y1.2.1+(1:Int))),r1.2))))))else(some (y1.1,y1.2.2)))
def QV.l(K:Nat)(x5:Int):Nat→((List QF)×Int×Qk)→Option ((List QF)×Qk):=Ja (QV.b K x5)
def JF.f(K:Nat)(x5:Int)(x6:Int)(x7:Qk):Option ((List QF)×Qk):=
 (jn (fun(y1:Qk)=>((QV.l K x5 K (([]:List QF),(0:Int),y1)).bind fun z1=>(some (z1.1,z1.2)))) (fun j1=>(bif (decide (x6<x5))then((Ya.f K ((4:Int)) (x7)).bind fun r1=>(j1 r1))else(j1 x7))))
def Z4.f(K:Nat)(x5:Int)(x6:Qk):Option ((Vector Int 32)×Qk):=
 ((Ym.f K (x6)).bind fun r25=>(some (r25.1,r25.2)))
def QW.b(K:Nat)(x5:Int)(rec:((List (Vector Int 32))×Int×Qk)→Option ((List (Vector Int 32))×Qk))(y1:(List (Vector Int 32))×Int×Qk):Option ((List (Vector Int 32))×Qk):=
 (bif (decide (y1.2.1<x5))then((QE.f K (y1.2.2)).bind fun r2=>(bif (!decide (r2=(0:Int)))then(some (y1.1,y1.2.2))else((Z4.f K (y1.2.1) (y1.2.2)).bind fun r1=>((catI 32 (y1.1) (([r1.1]:List (Vector Int 32)))).bind fun l1=>(rec (l1,(IntKind.wrap .i64 (y1.2.1+(1:Int))),r1.2))))))else(some (y1.1,y1.2.2)))
def QW.l(K:Nat)(x5:Int):Nat→((List (Vector Int 32))×Int×Qk)→Option ((List (Vector Int 32))×Qk):=Ja (QW.b K x5)
def J9.f(K:Nat)(x5:Int)(x6:Int)(x7:Qk):Option ((List (Vector Int 32))×Qk):=
 (jn (fun(y1:Qk)=>((QW.l K x5 K (([]:List (Vector Int 32)),(0:Int),y1)).bind fun z1=>(some (z1.1,z1.2)))) (fun j1=>(bif (decide (x6<x5))then((Ya.f K ((4:Int)) (x7)).bind fun r1=>(j1 r1))else(j1 x7))))
def ZK.f(K:Nat)(x5:Int)(x6:Qk):Option (QF×Qk):=
 ((QB.f K (x6)).bind fun r1=>((Qdt.f K (r1.2)).bind fun r2=>((some (QF.mk (r1.1) (r2.1) (([]:List (Vector Int 32))))).bind fun v1=>((QB.f K (r2.2)).bind fun r3=>((J9.f K (r3.1) ((20:Int)) (r3.2)).bind fun r4=>(some ({v1 with fPath:=r4.1},r4.2)))))))
def QQ.b(K:Nat)(x5:Int)(rec:((List QF)×Int×Qk)→Option ((List QF)×Qk))(y1:(List QF)×Int×Qk):Option ((List QF)×Qk):=
 (bif (decide (y1.2.1<x5))then((QE.f K (y1.2.2)).bind fun r2=>(bif (!decide (r2=(0:Int)))then(some (y1.1,y1.2.2))else((ZK.f K (y1.2.1) (y1.2.2)).bind fun r1=>((catI 256 (y1.1) (([r1.1]:List QF))).bind fun l1=>(rec (l1,(IntKind.wrap .i64 (y1.2.1+(1:Int))),r1.2))))))else(some (y1.1,y1.2.2)))
def QQ.l(K:Nat)(x5:Int):Nat→((List QF)×Int×Qk)→Option ((List QF)×Qk):=Ja (QQ.b K x5)
def Ji.f(K:Nat)(x5:Int)(x6:Int)(x7:Qk):Option ((List QF)×Qk):=
 (jn (fun(y1:Qk)=>((QQ.l K x5 K (([]:List QF),(0:Int),y1)).bind fun z1=>(some (z1.1,z1.2)))) (fun j1=>(bif (decide (x6<x5))then((Ya.f K ((4:Int)) (x7)).bind fun r1=>(j1 r1))else(j1 x7))))
def Y9.f(K:Nat)(x3:Qk):Option (Int):=
 ((QE.f K (x3)).bind fun r22=>(bif (!decide (r22=(0:Int)))then(some r22)else(bif (decide ((0:Int)<((List.length (x3.fB):Nat):Int)))then(some (2:Int))else(some (0:Int)))))
def XM.f(K:Nat)(x1:(List Int)):Option (QO×Int):=
 ((bytes_CutPrefix.f K (x1) (([(105:Int),(110:Int),(115:Int),(112:Int)]:List Int))).bind fun r3=>(bif (!r3.2)then(some (Y7,(2:Int)))else((Qds.f K (r3.1)).bind fun r11=>((Yy.f K (r11)).bind fun r4=>((some {Y7 with fWhole:=r4.1}).bind fun v3=>((QB.f K (r4.2)).bind fun r2=>((some {v3 with fPoint:={v3.fPoint with fSize:=r2.1} }).bind fun v2=>(jn (fun(y2:Qk)=>((Ym.f K (y2)).bind fun r5=>((some {v2 with fPoint:={v2.fPoint with fRoot:=r5.1} }).bind fun v1=>((QB.f K (r5.2)).bind fun r6=>((JM.f K (r6.1) ((4:Int)) (r6.2)).bind fun r1=>(jn (fun(y1:Bool×Int×(Vector Int 32)×(List Q4)×(List QF)×Qk)=>((Y9.f K (y1.2.2.2.2.2)).bind fun r7=>(bif (!decide (r7=(0:Int)))then(some (Y7,r7))else((JJ.f K ((QO.mk (y1.1) ((Qq.mk (y1.2.1) (y1.2.2.1) (y1.2.2.2.1))) (y1.2.2.2.2.1)))).bind fun r12=>(bif (!r12)then(some (Y7,(2:Int)))else(some ((QO.mk (y1.1) ((Qq.mk (y1.2.1) (y1.2.2.1) (y1.2.2.2.1))) (y1.2.2.2.2.1)),(0:Int)))))))) (fun j1=>(bif v1.fWhole then((JF.f K (v1.fPoint.fSize) ((400:Int)) (r1.2)).bind fun r8=>(j1 (v1.fWhole,v1.fPoint.fSize,v1.fPoint.fRoot,r1.1,r8.1,r8.2)))else((QB.f K (r1.2)).bind fun r9=>((Ji.f K (r9.1) (v1.fPoint.fSize) (r9.2)).bind fun r10=>(j1 (v1.fWhole,v1.fPoint.fSize,v1.fPoint.fRoot,r1.1,r10.1,r10.2)))))))))))) (fun j2=>(bif (decide ((400:Int)<v2.fPoint.fSize))then((Ya.f K ((4:Int)) (r2.2)).bind fun r13=>(j2 r13))else(j2 r2.2)))))))))))
def QaP.f(K:Nat)(x7:Int)(x8:Int)(x9:(Vector Int 32))(x10:(Vector Int 32)):Option (Int):=
 (chk (inA 32 x7) (chk (inA 32 x7) (some (bor .u8 x8 (bxor .u8 (vget (x9) (Int.toNat (x7))) (vget (x10) (Int.toNat (x7))))))))
def Yr.b(K:Nat)(x1:(Vector Int 32))(x2:(Vector Int 32))(rec:(Int×Int)→Option (Int))(y1:Int×Int):Option (Int):=
 (bif (decide (y1.1<(32:Int)))then((QaP.f K (y1.1) (y1.2) (x1) (x2)).bind fun r1=>(rec ((IntKind.wrap .i64 (y1.1+(1:Int))),r1)))else(some y1.2))
def Yr.l(K:Nat)(x1:(Vector Int 32))(x2:(Vector Int 32)):Nat→(Int×Int)→Option (Int):=Ja (Yr.b K x1 x2)
def X8.f(K:Nat)(x1:(Vector Int 32))(x2:(Vector Int 32)):Option (Bool):=
 ((Yr.l K x1 x2 K ((0:Int),(0:Int))).bind fun z1=>(some (decide (z1=(0:Int)))))
def Xo.f(K:Nat)(x1:XU)(x2:(Vector Int 32)):Option (Bool):=
 ((X8.f K (x1.fTag) (x2)).bind fun r16=>(some r16))
def Jj.b(K:Nat)(x1:Qo)(x8:Qq)(rec:(Int×(List Bool))→Option (Sum ((Int)) (Unit)))(y1:Int×(List Bool)):Option (Sum ((Int)) (Unit)):=
 (bif (decide (y1.1<((List.length (x8.fSigs):Nat):Int)))then((getI (x8.fSigs) y1.1).bind fun x2=>(jn (fun(y2:Bool)=>(bif y2 then(some (Sum.inl (8:Int)))else((X5.f K (x1) (x2.fWit) (x8)).bind fun r1=>((Xo.f K ((XU.mk (r1))) (x2.fTag)).bind fun r2=>(bif (!r2)then(some (Sum.inl (8:Int)))else(chk (inA 4 x2.fWit) ((some (List.set (y1.2) (Int.toNat (x2.fWit)) (true))).bind fun v1=>(rec ((IntKind.wrap .i64 (y1.1+(1:Int))),v1))))))))) (fun j1=>((JD.f K (x2.fWit) ((0:Int)) ((IntKind.wrap .i64 (((List.length (x1.fWits):Nat):Int)-(1:Int))))).bind fun r3=>(bif (!r3)then(j1 true)else(chk (inA 4 x2.fWit) ((getI (y1.2) x2.fWit).bind fun x3=>(j1 x3))))))))else(some (Sum.inr ())))
def Jj.l(K:Nat)(x1:Qo)(x8:Qq):Nat→(Int×(List Bool))→Option (Sum ((Int)) (Unit)):=Ja (Jj.b K x1 x8)
def XN.f(K:Nat)(x1:Qo)(x8:Qq):Option (Int):=
 (jn (fun(y1:Bool)=>(bif y1 then(some (1:Int))else((Jj.l K x1 x8 K ((0:Int),([false,false,false,false]:List Bool))).bind fun s1=>(match s1 with| .inl u1=>some u1| .inr u2=>(fun(z1:Unit)=>(bif (decide (((List.length (x8.fSigs):Nat):Int)<x1.fNeed))then(some (8:Int))else(some (0:Int)))) u2)))) (fun j1=>((ZE.f K (x1)).bind fun r1=>(bif (!r1)then(j1 true)else((JD.f K (x8.fSize) ((0:Int)) ((400:Int))).bind fun r2=>(j1 (!r2)))))))
def jE.f(K:Nat)(x1:Qm):Option ((Vector Int 32)):=
 ((Qao.f K (x1)).bind fun r36=>((Qap.f K (r36)).bind fun r51=>(some r51)))
def Jk.f(K:Nat)(x3:(List (Vector Int 32)))(x9:Int):Option ((Vector Int 32)×(List (Vector Int 32))×Int):=
 ((getI (x3) (IntKind.wrap .i64 (((List.length (x3):Nat):Int)-(1:Int)))).bind fun x29=>((getI (x3) (IntKind.wrap .i64 (((List.length (x3):Nat):Int)-(1:Int)))).bind fun x33=>((subI (x3) 0 (IntKind.wrap .i64 (((List.length (x3):Nat):Int)-(1:Int)))).bind fun l36=>(some (x33,l36,x9)))))
def Jz.f(K:Nat)(x3:(Vector Int 32))(x4:(List (Vector Int 32)))(x10:Int):Option ((List (Vector Int 32))×Int):=
 ((catI 32 (x4) (([x3]:List (Vector Int 32)))).bind fun l55=>(some (l55,x10)))
def YJ.b(K:Nat)(rec:(Int×(List (Vector Int 32))×Int×(Vector Int 32))→Option ((List (Vector Int 32))×Int×(Vector Int 32)))(y1:Int×(List (Vector Int 32))×Int×(Vector Int 32)):Option ((List (Vector Int 32))×Int×(Vector Int 32)):=
 (bif (decide ((Int.tmod y1.1 2)=(1:Int)))then((Jk.f K (y1.2.1) (y1.2.2.1)).bind fun r1=>((jR.f K (r1.1) (y1.2.2.2)).bind fun r2=>(rec ((IntKind.wrap .i64 (Int.tdiv y1.1 2)),r1.2.1,r1.2.2,r2))))else(some (y1.2.1,y1.2.2.1,y1.2.2.2)))
def YJ.l(K:Nat):Nat→(Int×(List (Vector Int 32))×Int×(Vector Int 32))→Option ((List (Vector Int 32))×Int×(Vector Int 32)):=Ja (YJ.b K)
def qX.f(K:Nat)(x3:(Vector Int 32))(x4:(List (Vector Int 32)))(x10:Int):Option ((List (Vector Int 32))×Int):=
 ((YJ.l K K (x10,x4,x10,x3)).bind fun z1=>((Jz.f K (z1.2.2) (z1.1) (z1.2.1)).bind fun r1=>(some (r1.1,(IntKind.wrap .i64 (r1.2+(1:Int)))))))
def yL.f(K:Nat)(x3:(List (Vector Int 32)))(x9:Int):Option (Int×(List (Vector Int 32))×Int):=
 (some (x9,x3,x9))
def JA.f(K:Nat)(x3:(List (Vector Int 32)))(x9:Int):Option ((List (Vector Int 32))×Int):=
 (some (x3,x9))
def QR.b(K:Nat)(r1:((List (Vector Int 32))×Int))(rec:(Int×(Vector Int 32)×Bool)→Option ((Vector Int 32)×Bool))(y1:Int×(Vector Int 32)×Bool):Option ((Vector Int 32)×Bool):=
 (bif (decide ((0:Int)≤y1.1))then(jn (fun(y2:(Vector Int 32)×Bool)=>(rec ((IntKind.wrap .i64 (y1.1-(1:Int))),y2.1,y2.2))) (fun j1=>((getI (r1.1) y1.1).bind fun x2=>((getI (r1.1) y1.1).bind fun x1=>(bif y1.2.2 then(j1 (x1,false))else((jR.f K (x1) (y1.2.1)).bind fun r2=>(j1 (r2,y1.2.2))))))))else(some (y1.2.1,y1.2.2)))
def QR.l(K:Nat)(r1:((List (Vector Int 32))×Int)):Nat→(Int×(Vector Int 32)×Bool)→Option ((Vector Int 32)×Bool):=Ja (QR.b K r1)
def ql.f(K:Nat)(x3:(List (Vector Int 32)))(x9:Int):Option ((Vector Int 32)×(List (Vector Int 32))×Int):=
 ((yL.f K (x3) (x9)).bind fun r1=>(bif (decide (r1.1=(0:Int)))then((shaQ.f K (([]:List (List Int)))).bind fun r3=>(some (r3,r1.2.1,r1.2.2)))else((JA.f K (r1.2.1) (r1.2.2)).bind fun r2=>((QR.l K r2 K ((IntKind.wrap .i64 (((List.length (r2.1):Nat):Int)-(1:Int))),(Vector.replicate 32 (0:Int)),true)).bind fun z1=>(some (z1.1,r2.1,r2.2))))))
def Qar.f(K:Nat)(x1:Qo)(x8:Qm):Option (Bool):=
 ((jh.f K (x1) (x8)).bind fun r63=>(jn (fun(y83:Bool)=>(some y83)) (fun j86=>((qj.f K (x8)).bind fun r88=>(bif r88 then(bif (decide (x8.fKind=(3:Int)))then((XL.f K (x1) (x8.fPart) (x8.fEpoch)).bind fun r93=>(bif r93 then((Xo.f K ((XU.mk (r63))) (x8.fTag)).bind fun r98=>(j86 r98))else(j86 false)))else(j86 false))else(j86 false))))))
def Jc.fs(K:Nat)(x1:YZ)(x8:Qm):Option (Sum Int Unit):=
 (bif (!decide (x8.fKind=(3:Int)))then(sm (Yu.fs K (true) ((7:Int))) (fun e53=>(some (Sum.inl e53))) (fun r51=>(some (Sum.inr ()))))else((Qar.f K (x1.fK) (x8)).bind fun r40=>(sm (Yu.fs K (r40) ((7:Int))) (fun e47=>(some (Sum.inl e47))) (fun r45=>(some (Sum.inr ()))))))
def qN.f(K:Nat)(x1:Int)(x2:Int)(x3:Int):Option (Bool):=
 (bif (decide (x2≤x1))then(some (decide (x1≤x3)))else(some false))
def JO.b(K:Nat)(x1:(List Qr))(rec:(Int×Int)→Option (Sum ((Bool)) (Unit)))(y1:Int×Int):Option (Sum ((Bool)) (Unit)):=
 (bif (decide (y1.2<((List.length (x1):Nat):Int)))then(jn (fun(y2:Int)=>(rec (y2,(IntKind.wrap .i64 (y1.2+(1:Int)))))) (fun j1=>((getI (x1) y1.2).bind fun x2=>(jn (fun(y3:Bool)=>(bif y3 then(some (Sum.inl false))else(bif (decide (x2.fKind=(2:Int)))then(j1 (3:Int))else(j1 x2.fKind)))) (fun j2=>((qN.f K (x2.fPart) ((0:Int)) ((3:Int))).bind fun r1=>(bif (!r1)then(j2 true)else((qN.f K (x2.fKind) (y1.1) ((3:Int))).bind fun r2=>(j2 (!r2))))))))))else(some (Sum.inr ())))
def JO.l(K:Nat)(x1:(List Qr)):Nat→(Int×Int)→Option (Sum ((Bool)) (Unit)):=Ja (JO.b K x1)
def ZL.f(K:Nat)(x1:(List Qr)):Option (Bool):=
 ((qN.f K (((List.length (x1):Nat):Int)) ((1:Int)) ((6:Int))).bind fun r1=>(bif (!r1)then(some false)else((JO.l K x1 K ((1:Int),(0:Int))).bind fun s1=>(match s1 with| .inl u1=>some u1| .inr u2=>(fun(z1:Unit)=>(some true)) u2))))
def QaQ.f(K:Nat)(x1:(List Qr)):Option (QI):=
 ((ZL.f K (x1)).bind fun r45=>(bif (!r45)then(some QA)else((QT.f K (x1)).bind fun r50=>((some {QA with fSteps:=r50,fSeq:=(1:Int) }).bind fun v65=>(some v65)))))
def Qco.f(K:Nat)(x1:QZ)(x5:Qm)(x12:Int):Option (QZ×Bool):=
 (jn (fun(y1:Bool)=>(bif y1 then(some (x1,false))else((QX.f K (x1.fSagas)).bind fun r1=>((QaQ.f K (x5.fSteps)).bind fun r2=>((catI 88 (r1) (([r2]:List QI))).bind fun l1=>(some ((QZ.mk (x1.fEpochs) (l1)),true))))))) (fun j1=>(bif (!decide (x5.fSaga=((List.length (x1.fSagas):Nat):Int)))then(j1 true)else(bif (decide ((12:Int)≤((List.length (x1.fSagas):Nat):Int)))then(j1 true)else((ZL.f K (x5.fSteps)).bind fun r3=>(j1 (!r3)))))))
def QbL.f(K:Nat)(x1:QI):Option (Bool):=
 ((qN.f K (x1.fPhase) ((2:Int)) ((4:Int))).bind fun r14=>(some r14))
def Qdu.f(K:Nat)(x1:(List Qr)):Option ((List Qr)):=
 (some x1)
def Yt.b(K:Nat)(x1:QI)(r1:((List Qr)))(rec:Int→Option (Sum ((Int)) (Unit)))(y1:Int):Option (Sum ((Int)) (Unit)):=
 (bif (decide ((0:Int)≤y1))then((getI (r1) y1).bind fun x2=>(jn (fun(y2:Bool)=>(bif y2 then(some (Sum.inl y1))else(rec (IntKind.wrap .i64 (y1-(1:Int)))))) (fun j1=>(bif (decide (x2.fKind=(1:Int)))then(chk (!(decide (y1<0))) (j1 (decide ((band .i64 (Int.fdiv (Qis .i64 (bor .i64 x1.fDone x1.fSome) x1.fUndone) (2^(min (Int.toNat y1) 64))) (1:Int))=(1:Int)))))else(j1 false)))))else(some (Sum.inr ())))
def Yt.l(K:Nat)(x1:QI)(r1:((List Qr))):Nat→(Int)→Option (Sum ((Int)) (Unit)):=Ja (Yt.b K x1 r1)
def jW.f(K:Nat)(x1:QI):Option (Int):=
 ((Qdu.f K (x1.fSteps)).bind fun r1=>((Yt.l K x1 r1 K (IntKind.wrap .i64 (((List.length (r1):Nat):Int)-(1:Int)))).bind fun s1=>(match s1 with| .inl u1=>some u1| .inr u2=>(fun(z1:Unit)=>(some (-1:Int))) u2)))
def JP.f(K:Nat)(x1:QI):Option (Int):=
 (bif (decide (x1.fPhase=(1:Int)))then((jW.f K (x1)).bind fun r24=>(some r24))else(bif (decide (x1.fAt<((List.length (x1.fSteps):Nat):Int)))then(some x1.fAt)else(some (-1:Int))))
def Qdv.f(K:Nat)(x1:QI)(x5:Int):Option (Qm×Bool):=
 (jn (fun(y1:Bool)=>(bif y1 then(some (Qu,false))else((JP.f K (x1)).bind fun r1=>(jn (fun(y2:Bool)=>(bif y2 then((some {Qu with fKind:=(5:Int),fEnd:=(2:Int) }).bind fun v1=>(some (v1,true)))else(bif (decide (r1<(0:Int)))then((some {Qu with fKind:=(5:Int),fEnd:=(3:Int) }).bind fun v2=>(some (v2,true)))else(bif (decide (x1.fTries<x5))then((some {Qu with fKind:=(2:Int),fStep:=r1,fTry:=(IntKind.wrap .i64 (x1.fTries+(1:Int))),fBack:=(decide (x1.fPhase=(1:Int))) }).bind fun v3=>(some (v3,true)))else((some {Qu with fKind:=(5:Int),fEnd:=(4:Int) }).bind fun v4=>(some (v4,true))))))) (fun j2=>(bif (decide (r1<(0:Int)))then(j2 (decide (x1.fPhase=(0:Int))))else(j2 false))))))) (fun j1=>(bif x1.fWait then(j1 true)else((QbL.f K (x1)).bind fun r2=>(bif r2 then(j1 true)else(bif (decide (((List.length (x1.fSteps):Nat):Int)=(0:Int)))then(j1 true)else((qN.f K (x5) ((1:Int)) ((9:Int))).bind fun r3=>(j1 (!r3)))))))))
def X9.f(K:Nat)(x1:QI)(x5:QI)(x9:Bool):Option (QI×Bool):=
 (bif x9 then(some (x5,true))else(some (x1,false)))
def QcS.f(K:Nat)(x1:Qm):Option (QaL):=
 ((some (QaL.mk (x1.fKind) (x1.fStep) (x1.fTry) (x1.fBack) (x1.fEnd))).bind fun v18=>(some v18))
def Qgm.f(K:Nat)(x1:QI):Option (QI):=
 ((some {x1 with fPhase:=(1:Int) }).bind fun v22=>((some {v22 with fTries:=(0:Int) }).bind fun v25=>(some v25)))
def XC.f(K:Nat)(x1:QI)(x5:Qm):Option (QI):=
 ((JP.f K (x1)).bind fun r1=>(chk (!(decide (r1<0))) (jn (fun(y1:QI)=>((some {y1 with fWait:=false}).bind fun v1=>((some {v1 with fBack:=false}).bind fun v2=>(some v2)))) (fun j1=>(jn (fun(y2:Bool)=>(bif y2 then((some {x1 with fUndone:=(bor .i64 x1.fUndone (IntKind.wrap .i64 ((1:Int)*2^(min (Int.toNat r1) 64)))) }).bind fun v3=>((some {v3 with fTries:=(0:Int) }).bind fun v4=>(j1 v4)))else(bif x1.fBack then(j1 x1)else(bif x5.fGood then((some {x1 with fDone:=(bor .i64 x1.fDone (IntKind.wrap .i64 ((1:Int)*2^(min (Int.toNat r1) 64)))) }).bind fun v5=>((some {v5 with fSome:=(Qis .i64 x1.fSome (IntKind.wrap .i64 ((1:Int)*2^(min (Int.toNat r1) 64)))) }).bind fun v6=>((some {v6 with fAt:=(IntKind.wrap .i64 (x1.fAt+(1:Int))) }).bind fun v7=>((some {v7 with fTries:=(0:Int) }).bind fun v8=>(j1 v8)))))else((getI (x1.fSteps) r1).bind fun x2=>(bif (!decide (x2.fKind=(3:Int)))then((some {x1 with fSome:=(Qis .i64 x1.fSome (IntKind.wrap .i64 ((1:Int)*2^(min (Int.toNat r1) 64)))) }).bind fun v9=>((Qgm.f K (v9)).bind fun r2=>(j1 r2)))else(j1 x1))))))) (fun j2=>(bif x1.fBack then(j2 x5.fGood)else(j2 false))))))))
def QaR.f(K:Nat)(x1:QI)(x5:Int):Option (QI):=
 ((JP.f K (x1)).bind fun r1=>(bif (!x1.fBack)then(chk (!(decide (r1<0))) ((some {x1 with fSome:=(bor .i64 x1.fSome (IntKind.wrap .i64 ((1:Int)*2^(min (Int.toNat r1) 64)))) }).bind fun v1=>(jn (fun(y1:Bool)=>(bif y1 then((Qgm.f K (v1)).bind fun r2=>((some {r2 with fWait:=false}).bind fun v2=>((some {v2 with fBack:=false}).bind fun v3=>(some v3))))else((some {v1 with fWait:=false}).bind fun v4=>((some {v4 with fBack:=false}).bind fun v5=>(some v5))))) (fun j1=>((getI (v1.fSteps) r1).bind fun x2=>(bif (decide (x2.fKind=(1:Int)))then(j1 (decide (v1.fTries=x5)))else(j1 false)))))))else((some {x1 with fWait:=false}).bind fun v6=>((some {v6 with fBack:=false}).bind fun v7=>(some v7)))))
def QcT.f(K:Nat)(x1:QI)(x5:Qm)(x12:Int):Option (QI×Bool):=
 (jn (fun(y1:Bool)=>(bif y1 then(some (x1,false))else((some {x1 with fSeq:=(IntKind.wrap .i64 (x1.fSeq+(1:Int))) }).bind fun v1=>((Qdv.f K (x1) (x12)).bind fun r5=>(jn (fun(y4:Unit)=>(bif (!decide (x5.fKind=(4:Int)))then(some (x1,false))else((QaR.f K (v1) (x12)).bind fun r10=>(some (r10,true))))) (fun j3=>(bif (decide (x5.fKind=(2:Int)))then((some {v1 with fWait:=true}).bind fun v4=>((some {v4 with fTries:=x5.fTry}).bind fun v5=>((some {v5 with fBack:=x5.fBack}).bind fun v2=>(bif r5.2 then((QcS.f K (r5.1)).bind fun r1=>((QcS.f K (x5)).bind fun r2=>((X9.f K (x1) (v2) (((decide (r1.fKind=r2.fKind))&&((decide (r1.fStep=r2.fStep))&&((decide (r1.fTry=r2.fTry))&&((r1.fBack==r2.fBack)&&((decide (r1.fEnd=r2.fEnd))&&true))))))).bind fun r6=>(some (r6.1,r6.2)))))else((X9.f K (x1) (v2) (false)).bind fun r7=>(some (r7.1,r7.2)))))))else(bif (decide (x5.fKind=(5:Int)))then((some {v1 with fPhase:=x5.fEnd}).bind fun v3=>(bif r5.2 then((QcS.f K (r5.1)).bind fun r3=>((QcS.f K (x5)).bind fun r4=>((X9.f K (x1) (v3) (((decide (r3.fKind=r4.fKind))&&((decide (r3.fStep=r4.fStep))&&((decide (r3.fTry=r4.fTry))&&((r3.fBack==r4.fBack)&&((decide (r3.fEnd=r4.fEnd))&&true))))))).bind fun r8=>(some (r8.1,r8.2)))))else((X9.f K (x1) (v3) (false)).bind fun r9=>(some (r9.1,r9.2)))))else(jn (fun(y2:Bool)=>(bif y2 then(jn (fun(y3:Bool)=>(bif y3 then(some (x1,false))else(bif (decide (x5.fKind=(3:Int)))then((XC.f K (v1) (x5)).bind fun r11=>(some (r11,true)))else(j3 ())))) (fun j1=>(bif (!x1.fWait)then(j1 true)else((JP.f K (x1)).bind fun r12=>(bif (!decide (x5.fStep=r12))then(j1 true)else(bif (!decide (x5.fTry=x1.fTries))then(j1 true)else(j1 (!(x5.fBack==x1.fBack)))))))))else(j3 ()))) (fun j4=>(bif (decide (x5.fKind=(3:Int)))then(j4 true)else(j4 (decide (x5.fKind=(4:Int))))))))))))))) (fun j2=>(bif (!decide (x5.fSeq=x1.fSeq))then(j2 true)else(bif (decide (((List.length (x1.fSteps):Nat):Int)=(0:Int)))then(j2 true)else((QbL.f K (x1)).bind fun r13=>(bif r13 then(j2 true)else((qN.f K (x12) ((1:Int)) ((9:Int))).bind fun r14=>(j2 (!r14)))))))))
def Za.f(K:Nat)(x1:QZ)(x5:Qm)(x12:Int):Option (QZ×Bool):=
 (bif (decide (((List.length (x1.fSagas):Nat):Int)≤x5.fSaga))then(some (x1,false))else((getI (x1.fSagas) x5.fSaga).bind fun x2=>((QcT.f K (x2) (x5) (x12)).bind fun r1=>(bif (!r1.2)then(some (x1,false))else((QX.f K (x1.fSagas)).bind fun r2=>((getI (r2) x5.fSaga).bind fun x3=>(some ((QZ.mk (x1.fEpochs) ((List.set (r2) (Int.toNat (x5.fSaga)) (r1.1)))),true))))))))
def ZM.f(K:Nat)(x1:QZ)(x5:Qm)(x12:Int):Option (QZ×Bool):=
 (jn (fun(y1:Bool)=>(bif y1 then(some (x1,false))else((Za.f K (x1) (x5) (x12)).bind fun r1=>(some (r1.1,r1.2))))) (fun j1=>(bif (decide (((List.length (x1.fSagas):Nat):Int)≤x5.fSaga))then(j1 true)else((getI (x1.fSagas) x5.fSaga).bind fun x2=>(bif (decide (((List.length (x2.fSteps):Nat):Int)≤x5.fStep))then(j1 true)else((getI (x1.fSagas) x5.fSaga).bind fun x3=>((getI (x3.fSteps) x5.fStep).bind fun x4=>(bif (!decide (x4.fPart=x5.fPart))then(j1 true)else(chk (inA 4 x5.fPart) (j1 (!decide ((vget (x1.fEpochs) (Int.toNat (x5.fPart)))=x5.fEpoch))))))))))))
def QaS.f(K:Nat)(x1:QZ)(x5:Qm)(x12:Int):Option (QZ×Bool):=
 (chk (inA 4 x5.fPart) (bif (!decide (x5.fEpoch=(IntKind.wrap .i64 ((vget (x1.fEpochs) (Int.toNat (x5.fPart)))+(1:Int)))))then(some (x1,false))else(chk (inA 4 x5.fPart) ((some (vset (x1.fEpochs) (Int.toNat (x5.fPart)) (x5.fEpoch))).bind fun v32=>((some (QZ.mk (v32) (x1.fSagas))).bind fun v33=>(some (v33,true)))))))
def QcU.f(K:Nat)(x1:QZ)(x5:Qm)(x12:Int):Option (QZ×Bool):=
 (jn (fun(y1:Bool)=>(bif y1 then(some (x1,false))else(bif decide (x5.fKind=(1:Int))then((Qco.f K (x1) (x5) (x12)).bind fun r1=>(some (r1.1,r1.2)))else(bif decide (x5.fKind=(2:Int))then((Za.f K (x1) (x5) (x12)).bind fun r2=>(some (r2.1,r2.2)))else(bif decide (x5.fKind=(3:Int))then((ZM.f K (x1) (x5) (x12)).bind fun r3=>(some (r3.1,r3.2)))else(bif decide (x5.fKind=(4:Int))then((Za.f K (x1) (x5) (x12)).bind fun r4=>(some (r4.1,r4.2)))else(bif decide (x5.fKind=(5:Int))then((Za.f K (x1) (x5) (x12)).bind fun r5=>(some (r5.1,r5.2)))else(bif decide (x5.fKind=(6:Int))then((QaS.f K (x1) (x5) (x12)).bind fun r6=>(some (r6.1,r6.2)))else none)))))))) (fun j1=>((qj.f K (x5)).bind fun r7=>(bif (!r7)then(j1 true)else(bif (decide (x12<(1:Int)))then(j1 true)else(j1 (decide ((9:Int)<x12))))))))
def ji.f(K:Nat)(x1:QI):Option (Int):=
 (bif (decide (x1.fPhase=(2:Int)))then(some (0:Int))else(some (Qis .i64 x1.fDone x1.fUndone)))
def Yk.b(K:Nat)(x1:QZ)(rec:((List Qp)×Int)→Option ((List Qp)))(y1:(List Qp)×Int):Option ((List Qp)):=
 (bif (decide (y1.2<((List.length (x1.fSagas):Nat):Int)))then((getI (x1.fSagas) y1.2).bind fun x2=>((ji.f K (x2)).bind fun r1=>((catI 16 (y1.1) (([(Qp.mk (x2.fPhase) (r1))]:List Qp))).bind fun l1=>(rec (l1,(IntKind.wrap .i64 (y1.2+(1:Int))))))))else(some y1.1))
def Yk.l(K:Nat)(x1:QZ):Nat→((List Qp)×Int)→Option ((List Qp)):=Ja (Yk.b K x1)
def jX.f(K:Nat)(x1:QZ):Option ((List Qp)):=
 ((Yk.l K x1 K (([]:List Qp),(0:Int))).bind fun z1=>(some z1))
def QK.b(K:Nat)(x8:QO)(rec:(Int×(List (Vector Int 32))×Int)→Option ((List (Vector Int 32))×Int))(y1:Int×(List (Vector Int 32))×Int):Option ((List (Vector Int 32))×Int):=
 (bif (decide (y1.1<((List.length (x8.fItems):Nat):Int)))then((getI (x8.fItems) y1.1).bind fun x1=>((jE.f K (x1.fRec)).bind fun r2=>((qX.f K (r2) (y1.2.1) (y1.2.2)).bind fun r1=>(rec ((IntKind.wrap .i64 (y1.1+(1:Int))),r1.1,r1.2)))))else(some (y1.2.1,y1.2.2)))
def QK.l(K:Nat)(x8:QO):Nat→(Int×(List (Vector Int 32))×Int)→Option ((List (Vector Int 32))×Int):=Ja (QK.b K x8)
def QL.b(K:Nat)(x1:YZ)(x8:QO)(rec:(Int×QZ)→Option (Sum ((Sum Int (Int×(List Int)×(List Qp)))) (QZ)))(y1:Int×QZ):Option (Sum ((Sum Int (Int×(List Int)×(List Qp)))) (QZ)):=
 (bif (decide (y1.1<((List.length (x8.fItems):Nat):Int)))then((getI (x8.fItems) y1.1).bind fun x2=>(sm (Jc.fs K (x1) (x2.fRec)) (fun e1=>(some (Sum.inl (Sum.inl e1)))) (fun r2=>((QcU.f K (y1.2) (x2.fRec) (x1.fLimit)).bind fun r1=>(sm (Yu.fs K (r1.2) ((9:Int))) (fun e2=>(some (Sum.inl (Sum.inl e2)))) (fun r3=>(rec ((IntKind.wrap .i64 (y1.1+(1:Int))),r1.1))))))))else(some (Sum.inr y1.2)))
def QL.l(K:Nat)(x1:YZ)(x8:QO):Nat→(Int×QZ)→Option (Sum ((Sum Int (Int×(List Int)×(List Qp)))) (QZ)):=Ja (QL.b K x1 x8)
def Yi.b(K:Nat)(z1:QZ)(rec:(Int×Int×(List Int)×(List Qp))→Option (Int×(List Int)×(List Qp)))(y1:Int×Int×(List Int)×(List Qp)):Option (Int×(List Int)×(List Qp)):=
 (bif (decide (y1.1<((List.length (z1.fSagas):Nat):Int)))then((catI 8 (y1.2.2.1) (([y1.1]:List Int))).bind fun l1=>(rec ((IntKind.wrap .i64 (y1.1+(1:Int))),y1.2.1,l1,y1.2.2.2)))else(some (y1.2.1,y1.2.2.1,y1.2.2.2)))
def Yi.l(K:Nat)(z1:QZ):Nat→(Int×Int×(List Int)×(List Qp))→Option (Int×(List Int)×(List Qp)):=Ja (Yi.b K z1)
def YQ.fs(K:Nat)(x1:YZ)(x8:QO):Option (Sum Int (Int×(List Int)×(List Qp))):=
 ((QK.l K x8 K ((0:Int),([]:List (Vector Int 32)),(0:Int))).bind fun z2=>((ql.f K (z2.1) (z2.2)).bind fun r1=>(sm (Yu.fs K ((decide (r1.1=x8.fPoint.fRoot))) ((6:Int))) (fun e1=>(some (Sum.inl e1))) (fun r3=>((QL.l K x1 x8 K ((0:Int),(QZ.mk ((Vector.replicate 4 (0:Int))) (([]:List QI))))).bind fun s1=>(match s1 with| .inl u1=>some u1| .inr u2=>(fun(z3:QZ)=>((jX.f K (z3)).bind fun r2=>((Yi.l K z3 K ((0:Int),(0:Int),([]:List Int),r2)).bind fun z1=>(some (Sum.inr (z1.1,z1.2.1,z1.2.2)))))) u2))))))
def QaT.fs(K:Nat)(x5:Int)(x6:(List (Vector Int 32))):Option (Sum Int ((Vector Int 32)×Int)):=
 (bif (decide (x5=(0:Int)))then(some (Sum.inl (0:Int)))else((getI (x6) (IntKind.wrap .i64 (x5-(1:Int)))).bind fun x33=>(some (Sum.inr (x33,(IntKind.wrap .i64 (x5-(1:Int))))))))
def Yv.b(K:Nat)(self:Int→Int→(Vector Int 32)→Int→(List (Vector Int 32))→Option (Sum Int ((Vector Int 32)×Int)))(x11:Int)(x12:Int)(x13:(Vector Int 32))(x14:Int)(x15:(List (Vector Int 32))):Option (Sum Int ((Vector Int 32)×Int)):=
 (bif (decide (x12=(1:Int)))then(some (Sum.inr (x13,x14)))else((yh.f K (x12)).bind fun r1=>(sm (QaT.fs K (x14) (x15)) (fun e1=>(some (Sum.inl e1))) (fun r2=>(bif (decide (x11<r1))then(sm (self (x11) (r1) (x13) (r2.2) (x15)) (fun e2=>(some (Sum.inl e2))) (fun r3=>((jR.f K (r3.1) (r2.1)).bind fun r5=>(some (Sum.inr (r5,r3.2))))))else(sm (self ((IntKind.wrap .i64 (x11-r1))) ((IntKind.wrap .i64 (x12-r1))) (x13) (r2.2) (x15)) (fun e3=>(some (Sum.inl e3))) (fun r4=>((jR.f K (r2.1) (r4.1)).bind fun r6=>(some (Sum.inr (r6,r4.2)))))))))))
def Yv.r(K:Nat):Nat→Int→Int→(Vector Int 32)→Int→(List (Vector Int 32))→Option (Sum Int ((Vector Int 32)×Int))
 |0=>fun _ _ _ _ _=>none
 |k+1=>Yv.b K (Yv.r K k)
def Yv.fs(K:Nat)(x11:Int)(x12:Int)(x13:(Vector Int 32))(x14:Int)(x15:(List (Vector Int 32))):Option (Sum Int ((Vector Int 32)×Int)):=Yv.r K K x11 x12 x13 x14 x15
def QaU.fs(K:Nat)(x13:Int)(x14:(List (Vector Int 32)))(x18:(Vector Int 32))(x19:Int)(x20:Int)(x21:(Vector Int 32)):Option (Sum Int (Int×(Vector Int 32))):=
 (sm (Yv.fs K (x19) (x20) (x18) (x13) (x14)) (fun e38=>(some (Sum.inl e38))) (fun r36=>(some (Sum.inr (r36.2,r36.1)))))
def QaV.f(K:Nat)(x9:(List (Vector Int 32)))(x13:(Vector Int 32))(x14:Int)(x15:Int)(x16:(Vector Int 32)):Option (Bool×(Vector Int 32)):=
 (sm (QaU.fs K (((List.length (x9):Nat):Int)) (x9) (x13) (x14) (x15) (x16)) (fun e41=>(some (false,x16))) (fun r39=>(some ((decide (r39.1=(0:Int))),r39.2))))
def QaW.f(K:Nat)(x1:(Vector Int 32))(x2:Int)(x3:Int)(x4:(List (Vector Int 32))):Option ((Vector Int 32)×Bool):=
 (jn (fun(y46:Bool)=>(bif y46 then(some ((vofL 32 [(0:Int),(0:Int),(0:Int),(0:Int),(0:Int),(0:Int),(0:Int),(0:Int),(0:Int),(0:Int),(0:Int),(0:Int),(0:Int),(0:Int),(0:Int),(0:Int),(0:Int),(0:Int),(0:Int),(0:Int),(0:Int),(0:Int),(0:Int),(0:Int),(0:Int),(0:Int),(0:Int),(0:Int),(0:Int),(0:Int),(0:Int),(0:Int)]),false))else((QaV.f K (x4) (x1) (x2) (x3) ((Vector.replicate 32 (0:Int)))).bind fun r51=>(bif (!r51.1)then(some ((vofL 32 [(0:Int),(0:Int),(0:Int),(0:Int),(0:Int),(0:Int),(0:Int),(0:Int),(0:Int),(0:Int),(0:Int),(0:Int),(0:Int),(0:Int),(0:Int),(0:Int),(0:Int),(0:Int),(0:Int),(0:Int),(0:Int),(0:Int),(0:Int),(0:Int),(0:Int),(0:Int),(0:Int),(0:Int),(0:Int),(0:Int),(0:Int),(0:Int)]),false))else(some (r51.2,true)))))) (fun j56=>(bif (decide (x2<(0:Int)))then(j56 true)else(bif (decide (x3≤x2))then(j56 true)else(j56 (decide ((1048576:Int)<x3)))))))
def Qcp.f(K:Nat)(x1:(Vector Int 32))(x2:Int)(x3:Int)(x4:(List (Vector Int 32)))(x8:(Vector Int 32)):Option (Bool):=
 ((QaW.f K (x1) (x2) (x3) (x4)).bind fun r34=>(bif r34.2 then((X8.f K (r34.1) (x8)).bind fun r46=>(some r46))else(some false)))
def JS.fs(K:Nat)(x3:Qm)(x10:(List Bool))(x11:(List Int))(x17:(List QI)):Option (Sum Int ((List Bool)×(List Int)×(List QI))):=
 (jn (fun(y1:Unit)=>((QaQ.f K (x3.fSteps)).bind fun r1=>(chk (inA 12 x3.fSaga) ((some (List.set (x17) (Int.toNat (x3.fSaga)) (r1))).bind fun v1=>((catI 8 (x11) (([x3.fSaga]:List Int))).bind fun l1=>(some (Sum.inr (x10,l1,v1)))))))) (fun j1=>(chk (inA 12 x3.fSaga) ((getI (x10) x3.fSaga).bind fun x1=>(bif (!x1)then((ZL.f K (x3.fSteps)).bind fun r2=>(sm (Yu.fs K (r2) ((9:Int))) (fun e1=>(some (Sum.inl e1))) (fun r3=>(j1 ()))))else(sm (Yu.fs K (false) ((9:Int))) (fun e2=>(some (Sum.inl e2))) (fun r4=>(j1 ()))))))))
def qm.fs(K:Nat)(x3:Qm)(x10:Int)(x11:(List Bool))(x12:(List Int))(x18:(List QI)):Option (Sum Int ((List Bool)×(List Int)×(List QI))):=
 (chk (inA 12 x3.fSaga) ((getI (x18) x3.fSaga).bind fun x1=>(bif (decide (((List.length (x1.fSteps):Nat):Int)=(0:Int)))then(some (Sum.inr (x11,x12,x18)))else((QcT.f K (x1) (x3) (x10)).bind fun r1=>(jn (fun(y1:Unit)=>(chk (inA 12 x3.fSaga) ((some (List.set (x18) (Int.toNat (x3.fSaga)) (r1.1))).bind fun v1=>(some (Sum.inr (x11,x12,v1)))))) (fun j1=>(bif r1.2 then(bif (!decide (x3.fKind=(3:Int)))then(sm (Yu.fs K (true) ((9:Int))) (fun e1=>(some (Sum.inl e1))) (fun r2=>(j1 ())))else((getI (x1.fSteps) x3.fStep).bind fun x2=>(sm (Yu.fs K ((decide (x2.fPart=x3.fPart))) ((9:Int))) (fun e2=>(some (Sum.inl e2))) (fun r3=>(j1 ())))))else(sm (Yu.fs K (false) ((9:Int))) (fun e3=>(some (Sum.inl e3))) (fun r4=>(j1 ()))))))))))
def QJ.b(K:Nat)(x1:YZ)(x8:QO)(rec:(Int×(List Bool)×(List Int)×(List QI))→Option (Sum ((Sum Int (Int×(List Int)×(List Qp)))) ((List Bool)×(List Int)×(List QI))))(y1:Int×(List Bool)×(List Int)×(List QI)):Option (Sum ((Sum Int (Int×(List Int)×(List Qp)))) ((List Bool)×(List Int)×(List QI))):=
 (bif (decide (y1.1<((List.length (x8.fItems):Nat):Int)))then(jn (fun(y2:(List Bool)×(List Int)×(List QI))=>(rec ((IntKind.wrap .i64 (y1.1+(1:Int))),y2.1,y2.2.1,y2.2.2))) (fun j1=>((getI (x8.fItems) y1.1).bind fun x2=>((jE.f K (x2.fRec)).bind fun r3=>((Qcp.f K (r3) (x2.fAt) (x8.fPoint.fSize) (x2.fPath) (x8.fPoint.fRoot)).bind fun r4=>(sm (Yu.fs K (r4) ((10:Int))) (fun e1=>(some (Sum.inl (Sum.inl e1)))) (fun r5=>(sm (Jc.fs K (x1) (x2.fRec)) (fun e2=>(some (Sum.inl (Sum.inl e2)))) (fun r6=>(jn (fun(y3:(List Bool)×(List Int)×(List QI))=>(chk (inA 12 x2.fRec.fSaga) ((some (List.set (y3.1) (Int.toNat (x2.fRec.fSaga)) (true))).bind fun v1=>(j1 (v1,y3.2.1,y3.2.2))))) (fun j2=>(bif (decide (x2.fRec.fKind=(1:Int)))then(sm (JS.fs K (x2.fRec) (y1.2.1) (y1.2.2.1) (y1.2.2.2)) (fun e3=>(some (Sum.inl (Sum.inl e3)))) (fun r1=>(j2 (r1.1,r1.2.1,r1.2.2))))else(bif (decide (x2.fRec.fKind=(6:Int)))then(j1 (y1.2.1,y1.2.2.1,y1.2.2.2))else(sm (qm.fs K (x2.fRec) (x1.fLimit) (y1.2.1) (y1.2.2.1) (y1.2.2.2)) (fun e4=>(some (Sum.inl (Sum.inl e4)))) (fun r2=>(j2 (r2.1,r2.2.1,r2.2.2)))))))))))))))))else(some (Sum.inr (y1.2.1,y1.2.2.1,y1.2.2.2))))
def QJ.l(K:Nat)(x1:YZ)(x8:QO):Nat→(Int×(List Bool)×(List Int)×(List QI))→Option (Sum ((Sum Int (Int×(List Int)×(List Qp)))) ((List Bool)×(List Int)×(List QI))):=Ja (QJ.b K x1 x8)
def QN.b(K:Nat)(z1:(List Bool)×(List Int)×(List QI))(rec:(Int×Int×(List Int)×(List Qp))→Option (Int×(List Int)×(List Qp)))(y1:Int×Int×(List Int)×(List Qp)):Option (Int×(List Int)×(List Qp)):=
 (bif (decide (y1.1<((List.length (z1.2.1):Nat):Int)))then((getI (z1.2.1) y1.1).bind fun x1=>((catI 8 (y1.2.2.1) (([x1]:List Int))).bind fun l1=>(chk (inA 12 x1) ((getI (z1.2.2) x1).bind fun x2=>(chk (inA 12 x1) ((getI (z1.2.2) x1).bind fun x3=>((ji.f K (x3)).bind fun r1=>((catI 16 (y1.2.2.2) (([(Qp.mk (x2.fPhase) (r1))]:List Qp))).bind fun l2=>(rec ((IntKind.wrap .i64 (y1.1+(1:Int))),y1.2.1,l1,l2))))))))))else(some (y1.2.1,y1.2.2.1,y1.2.2.2)))
def QN.l(K:Nat)(z1:(List Bool)×(List Int)×(List QI)):Nat→(Int×Int×(List Int)×(List Qp))→Option (Int×(List Int)×(List Qp)):=Ja (QN.b K z1)
def YW.fs(K:Nat)(x1:YZ)(x8:QO):Option (Sum Int (Int×(List Int)×(List Qp))):=
 ((QJ.l K x1 x8 K ((0:Int),([false,false,false,false,false,false,false,false,false,false,false,false]:List Bool),([]:List Int),([QA,QA,QA,QA,QA,QA,QA,QA,QA,QA,QA,QA]:List QI))).bind fun s1=>(match s1 with| .inl u1=>some u1| .inr u2=>(fun(z2:(List Bool)×(List Int)×(List QI))=>((QN.l K z2 K ((0:Int),(0:Int),([]:List Int),([]:List Qp))).bind fun z1=>(some (Sum.inr (z1.1,z1.2.1,z1.2.2))))) u2))
def jk.f(K:Nat)(x1:Qo)(x8:Int)(x9:Qq)(x13:(List Int)):Option (Int×(List Int)×(List Qp)):=
 (jn (fun(y1:Unit)=>((XM.f K (x13)).bind fun r1=>(sm (Yu.fs K ((decide (r1.2=(0:Int)))) (r1.2)) (fun e1=>((some {Yh with fCode:=e1}).bind fun v2=>(some (v2.fCode,([]:List Int),([]:List Qp))))) (fun r6=>((XN.f K (x1) (r1.1.fPoint)).bind fun r4=>(sm (Yu.fs K ((decide (r4=(0:Int)))) (r4)) (fun e2=>((some {Yh with fCode:=e2}).bind fun v3=>(some (v3.fCode,([]:List Int),([]:List Qp))))) (fun r7=>(jn (fun(y2:Unit)=>((some (YZ.mk (x1) (x8))).bind fun v1=>(bif r1.1.fWhole then(sm (YQ.fs K (v1) (r1.1)) (fun e3=>((some {Yh with fCode:=e3}).bind fun v4=>(some (v4.fCode,([]:List Int),([]:List Qp))))) (fun r2=>(some (r2.1,r2.2.1,r2.2.2))))else(sm (YW.fs K (v1) (r1.1)) (fun e4=>((some {Yh with fCode:=e4}).bind fun v5=>(some (v5.fCode,([]:List Int),([]:List Qp))))) (fun r3=>(some (r3.1,r3.2.1,r3.2.2))))))) (fun j2=>(bif (decide (r1.1.fPoint.fSize=x9.fSize))then(sm (Yu.fs K ((decide (r1.1.fPoint.fRoot=x9.fRoot))) ((6:Int))) (fun e5=>((some {Yh with fCode:=e5}).bind fun v6=>(some (v6.fCode,([]:List Int),([]:List Qp))))) (fun r8=>(j2 ())))else(sm (Yu.fs K (false) ((6:Int))) (fun e6=>((some {Yh with fCode:=e6}).bind fun v7=>(some (v7.fCode,([]:List Int),([]:List Qp))))) (fun r9=>(j2 ()))))))))))))) (fun j1=>((ZE.f K (x1)).bind fun r5=>(bif r5 then(bif (decide ((1:Int)≤x8))then(sm (Yu.fs K ((decide (x8≤(9:Int)))) ((1:Int))) (fun e7=>((some {Yh with fCode:=e7}).bind fun v8=>(some (v8.fCode,([]:List Int),([]:List Qp))))) (fun r10=>(j1 ())))else(sm (Yu.fs K (false) ((1:Int))) (fun e8=>((some {Yh with fCode:=e8}).bind fun v9=>(some (v9.fCode,([]:List Int),([]:List Qp))))) (fun r11=>(j1 ()))))else(sm (Yu.fs K (false) ((1:Int))) (fun e9=>((some {Yh with fCode:=e9}).bind fun v10=>(some (v10.fCode,([]:List Int),([]:List Qp))))) (fun r12=>(j1 ())))))))
def qO.b(K:Nat)(x1:(List Int))(x5:(List Int))(rec:Int→Option (Sum ((Bool)) (Unit)))(y1:Int):Option (Sum ((Bool)) (Unit)):=
 (bif (decide (y1<((List.length (x1):Nat):Int)))then((getI (x1) y1).bind fun x2=>((getI (x5) y1).bind fun x3=>(bif (!decide (x2=x3))then(some (Sum.inl false))else(rec (IntKind.wrap .i64 (y1+(1:Int)))))))else(some (Sum.inr ())))
def qO.l(K:Nat)(x1:(List Int))(x5:(List Int)):Nat→(Int)→Option (Sum ((Bool)) (Unit)):=Ja (qO.b K x1 x5)
def Xy.f(K:Nat)(x1:(List Int))(x5:(List Int)):Option (Bool):=
 (bif (!decide (((List.length (x1):Nat):Int)=((List.length (x5):Nat):Int)))then(some false)else((qO.l K x1 x5 K (0:Int)).bind fun s1=>(match s1 with| .inl u1=>some u1| .inr u2=>(fun(z1:Unit)=>(some true)) u2)))
def Jl.b(K:Nat)(x1:(List Qp))(x5:(List Qp))(rec:Int→Option (Sum ((Bool)) (Unit)))(y1:Int):Option (Sum ((Bool)) (Unit)):=
 (bif (decide (y1<((List.length (x1):Nat):Int)))then((getI (x1) y1).bind fun x2=>((getI (x5) y1).bind fun x3=>(bif (!((decide (x2.fPhase=x3.fPhase))&&((decide (x2.fMissing=x3.fMissing))&&true)))then(some (Sum.inl false))else(rec (IntKind.wrap .i64 (y1+(1:Int)))))))else(some (Sum.inr ())))
def Jl.l(K:Nat)(x1:(List Qp))(x5:(List Qp)):Nat→(Int)→Option (Sum ((Bool)) (Unit)):=Ja (Jl.b K x1 x5)
def qE.f(K:Nat)(x1:(List Qp))(x5:(List Qp)):Option (Bool):=
 (bif (!decide (((List.length (x1):Nat):Int)=((List.length (x5):Nat):Int)))then(some false)else((Jl.l K x1 x5 K (0:Int)).bind fun s1=>(match s1 with| .inl u1=>some u1| .inr u2=>(fun(z1:Unit)=>(some true)) u2)))
def Qh3.f(K:Nat)(x1:Ju)(x8:Ju):Option (Bool):=
 (bif (decide (x1.fCode=x8.fCode))then((Xy.f K (x1.fSagas) (x8.fSagas)).bind fun r53=>(bif r53 then((qE.f K (x1.fLines) (x8.fLines)).bind fun r58=>(some r58))else(some false)))else(some false))
def qP.b(K:Nat)(x1:(List Int))(x5:Int)(rec:Int→Option (Sum ((Int)) (Unit)))(y1:Int):Option (Sum ((Int)) (Unit)):=
 (bif (decide (y1<((List.length (x1):Nat):Int)))then((getI (x1) y1).bind fun x2=>(bif (decide (x5=x2))then(some (Sum.inl y1))else(rec (IntKind.wrap .i64 (y1+(1:Int))))))else(some (Sum.inr ())))
def qP.l(K:Nat)(x1:(List Int))(x5:Int):Nat→(Int)→Option (Sum ((Int)) (Unit)):=Ja (qP.b K x1 x5)
def Xz.f(K:Nat)(x1:(List Int))(x5:Int):Option (Int):=
 ((qP.l K x1 x5 K (0:Int)).bind fun s1=>(match s1 with| .inl u1=>some u1| .inr u2=>(fun(z1:Unit)=>(some (-1:Int))) u2))
def Qef.f(K:Nat)(x1:Ju)(x8:Int):Option (Bool):=
 ((Xz.f K (x1.fSagas) (x8)).bind fun r99=>(jn (fun(y1:Bool)=>(some y1)) (fun j1=>(bif (decide ((0:Int)≤r99))then(bif (decide (r99<((List.length (x1.fLines):Nat):Int)))then((getI (x1.fLines) r99).bind fun x2=>(bif (decide ((2:Int)≤x2.fPhase))then((getI (x1.fLines) r99).bind fun x3=>(j1 (decide (x3.fPhase≤(4:Int)))))else(j1 false)))else(j1 false))else(j1 false)))))
def jl.f(K:Nat):Option (Bool):=
 ((XV.f K).bind fun r4=>((getI (([{Qu with fKind:=(1:Int),fSteps:=([(Qr.mk ((1:Int)) ((1:Int)))]:List Qr),fData:=([(97:Int)]:List Int) },{Qu with fKind:=(2:Int),fSeq:=(1:Int),fTry:=(1:Int) },{Qu with fKind:=(3:Int),fSeq:=(2:Int),fTry:=(1:Int),fGood:=true,fPart:=(1:Int) },{Qu with fKind:=(5:Int),fSeq:=(3:Int),fEnd:=(2:Int) }]:List Qm)) (2:Int)).bind fun x6=>((getI (([{Qu with fKind:=(1:Int),fSteps:=([(Qr.mk ((1:Int)) ((1:Int)))]:List Qr),fData:=([(97:Int)]:List Int) },{Qu with fKind:=(2:Int),fSeq:=(1:Int),fTry:=(1:Int) },{Qu with fKind:=(3:Int),fSeq:=(2:Int),fTry:=(1:Int),fGood:=true,fPart:=(1:Int) },{Qu with fKind:=(5:Int),fSeq:=(3:Int),fEnd:=(2:Int) }]:List Qm)) (2:Int)).bind fun x4=>((jh.f K (r4) (x4)).bind fun r3=>((getI (([{Qu with fKind:=(1:Int),fSteps:=([(Qr.mk ((1:Int)) ((1:Int)))]:List Qr),fData:=([(97:Int)]:List Int) },{Qu with fKind:=(2:Int),fSeq:=(1:Int),fTry:=(1:Int) },{Qu with fKind:=(3:Int),fSeq:=(2:Int),fTry:=(1:Int),fGood:=true,fPart:=(1:Int) },{Qu with fKind:=(5:Int),fSeq:=(3:Int),fEnd:=(2:Int) }]:List Qm)) (2:Int)).bind fun x7=>((getI (([{Qu with fKind:=(1:Int),fSteps:=([(Qr.mk ((1:Int)) ((1:Int)))]:List Qr),fData:=([(97:Int)]:List Int) },{Qu with fKind:=(2:Int),fSeq:=(1:Int),fTry:=(1:Int) },{Qu with fKind:=(3:Int),fSeq:=(2:Int),fTry:=(1:Int),fGood:=true,fPart:=(1:Int) },{Qu with fKind:=(5:Int),fSeq:=(3:Int),fEnd:=(2:Int) }]:List Qm)) (2:Int)).bind fun x1=>((qZ.f K (r4) ((List.set (([{Qu with fKind:=(1:Int),fSteps:=([(Qr.mk ((1:Int)) ((1:Int)))]:List Qr),fData:=([(97:Int)]:List Int) },{Qu with fKind:=(2:Int),fSeq:=(1:Int),fTry:=(1:Int) },{Qu with fKind:=(3:Int),fSeq:=(2:Int),fTry:=(1:Int),fGood:=true,fPart:=(1:Int) },{Qu with fKind:=(5:Int),fSeq:=(3:Int),fEnd:=(2:Int) }]:List Qm)) (Int.toNat ((2:Int))) ({x1 with fTag:=r3})))).bind fun r1=>((QbH.f K ((List.set (([{Qu with fKind:=(1:Int),fSteps:=([(Qr.mk ((1:Int)) ((1:Int)))]:List Qr),fData:=([(97:Int)]:List Int) },{Qu with fKind:=(2:Int),fSeq:=(1:Int),fTry:=(1:Int) },{Qu with fKind:=(3:Int),fSeq:=(2:Int),fTry:=(1:Int),fGood:=true,fPart:=(1:Int) },{Qu with fKind:=(5:Int),fSeq:=(3:Int),fEnd:=(2:Int) }]:List Qm)) (Int.toNat ((2:Int))) ({x1 with fTag:=r3}))) ((Qq.mk (r1.1) (r1.2.1) (r1.2.2))) ((1:Int))).bind fun r8=>((Qgk.f K ((List.set (([{Qu with fKind:=(1:Int),fSteps:=([(Qr.mk ((1:Int)) ((1:Int)))]:List Qr),fData:=([(97:Int)]:List Int) },{Qu with fKind:=(2:Int),fSeq:=(1:Int),fTry:=(1:Int) },{Qu with fKind:=(3:Int),fSeq:=(2:Int),fTry:=(1:Int),fGood:=true,fPart:=(1:Int) },{Qu with fKind:=(5:Int),fSeq:=(3:Int),fEnd:=(2:Int) }]:List Qm)) (Int.toNat ((2:Int))) ({x1 with fTag:=r3}))) ((Qq.mk (r1.1) (r1.2.1) (r1.2.2))) ((0:Int)) ((0:Int))).bind fun r9=>((Qaq.f K (r8.1)).bind fun r10=>((jk.f K (r4) ((2:Int)) ((Qq.mk (r1.1) (r1.2.1) (r1.2.2))) (r10)).bind fun r2=>((Qaq.f K (r9.1)).bind fun r11=>((jk.f K (r4) ((2:Int)) ((Qq.mk (r1.1) (r1.2.1) (r1.2.2))) (r11)).bind fun r6=>((getI ((List.set (([{Qu with fKind:=(1:Int),fSteps:=([(Qr.mk ((1:Int)) ((1:Int)))]:List Qr),fData:=([(97:Int)]:List Int) },{Qu with fKind:=(2:Int),fSeq:=(1:Int),fTry:=(1:Int) },{Qu with fKind:=(3:Int),fSeq:=(2:Int),fTry:=(1:Int),fGood:=true,fPart:=(1:Int) },{Qu with fKind:=(5:Int),fSeq:=(3:Int),fEnd:=(2:Int) }]:List Qm)) (Int.toNat ((2:Int))) ({x1 with fTag:=r3}))) (2:Int)).bind fun x8=>((getI ((List.set (([{Qu with fKind:=(1:Int),fSteps:=([(Qr.mk ((1:Int)) ((1:Int)))]:List Qr),fData:=([(97:Int)]:List Int) },{Qu with fKind:=(2:Int),fSeq:=(1:Int),fTry:=(1:Int) },{Qu with fKind:=(3:Int),fSeq:=(2:Int),fTry:=(1:Int),fGood:=true,fPart:=(1:Int) },{Qu with fKind:=(5:Int),fSeq:=(3:Int),fEnd:=(2:Int) }]:List Qm)) (Int.toNat ((2:Int))) ({x1 with fTag:=r3}))) (2:Int)).bind fun x3=>((getI ((List.set (([{Qu with fKind:=(1:Int),fSteps:=([(Qr.mk ((1:Int)) ((1:Int)))]:List Qr),fData:=([(97:Int)]:List Int) },{Qu with fKind:=(2:Int),fSeq:=(1:Int),fTry:=(1:Int) },{Qu with fKind:=(3:Int),fSeq:=(2:Int),fTry:=(1:Int),fGood:=true,fPart:=(1:Int) },{Qu with fKind:=(5:Int),fSeq:=(3:Int),fEnd:=(2:Int) }]:List Qm)) (Int.toNat ((2:Int))) ({x1 with fTag:=r3}))) (2:Int)).bind fun x9=>((getI ((List.set (([{Qu with fKind:=(1:Int),fSteps:=([(Qr.mk ((1:Int)) ((1:Int)))]:List Qr),fData:=([(97:Int)]:List Int) },{Qu with fKind:=(2:Int),fSeq:=(1:Int),fTry:=(1:Int) },{Qu with fKind:=(3:Int),fSeq:=(2:Int),fTry:=(1:Int),fGood:=true,fPart:=(1:Int) },{Qu with fKind:=(5:Int),fSeq:=(3:Int),fEnd:=(2:Int) }]:List Qm)) (Int.toNat ((2:Int))) ({x1 with fTag:=r3}))) (2:Int)).bind fun x2=>((qZ.f K (r4) ((List.set ((List.set (([{Qu with fKind:=(1:Int),fSteps:=([(Qr.mk ((1:Int)) ((1:Int)))]:List Qr),fData:=([(97:Int)]:List Int) },{Qu with fKind:=(2:Int),fSeq:=(1:Int),fTry:=(1:Int) },{Qu with fKind:=(3:Int),fSeq:=(2:Int),fTry:=(1:Int),fGood:=true,fPart:=(1:Int) },{Qu with fKind:=(5:Int),fSeq:=(3:Int),fEnd:=(2:Int) }]:List Qm)) (Int.toNat ((2:Int))) ({x1 with fTag:=r3}))) (Int.toNat ((2:Int))) ({x2 with fTag:=(vset (x2.fTag) 0 ((IntKind.wrap .u8 ((vget (x3.fTag) 0)+(1:Int))))) })))).bind fun r5=>((QbH.f K ((List.set ((List.set (([{Qu with fKind:=(1:Int),fSteps:=([(Qr.mk ((1:Int)) ((1:Int)))]:List Qr),fData:=([(97:Int)]:List Int) },{Qu with fKind:=(2:Int),fSeq:=(1:Int),fTry:=(1:Int) },{Qu with fKind:=(3:Int),fSeq:=(2:Int),fTry:=(1:Int),fGood:=true,fPart:=(1:Int) },{Qu with fKind:=(5:Int),fSeq:=(3:Int),fEnd:=(2:Int) }]:List Qm)) (Int.toNat ((2:Int))) ({x1 with fTag:=r3}))) (Int.toNat ((2:Int))) ({x2 with fTag:=(vset (x2.fTag) 0 ((IntKind.wrap .u8 ((vget (x3.fTag) 0)+(1:Int))))) }))) ((Qq.mk (r5.1) (r5.2.1) (r5.2.2))) ((0:Int))).bind fun r7=>((Qaq.f K (r7.1)).bind fun r12=>((jk.f K (r4) ((2:Int)) ((Qq.mk (r5.1) (r5.2.1) (r5.2.2))) (r12)).bind fun r13=>((Qaq.f K (r7.1)).bind fun r14=>((jk.f K (r4) ((2:Int)) ((Qq.mk (r1.1) (r1.2.1) (r1.2.2))) (r14)).bind fun r15=>(jn (fun(y1:Bool)=>(some y1)) (fun j1=>(bif (decide (r2.1=(0:Int)))then((Qh3.f K ((Ju.mk (r2.1) (r2.2.1) (r2.2.2))) ((Ju.mk (r6.1) (r6.2.1) (r6.2.2)))).bind fun r16=>(bif r16 then(bif (decide (((List.length (r2.2.2):Nat):Int)=(1:Int)))then((getI (r2.2.2) (0:Int)).bind fun x5=>(bif (decide (x5.fPhase=(2:Int)))then((Qef.f K ((Ju.mk (r2.1) (r2.2.1) (r2.2.2))) ((0:Int))).bind fun r17=>(bif r17 then((Qef.f K ((Ju.mk (r2.1) (r2.2.1) (r2.2.2))) ((1:Int))).bind fun r18=>(bif (!r18)then(bif (decide (r13.1=(7:Int)))then(j1 (decide (r15.1=(6:Int))))else(j1 false))else(j1 false)))else(j1 false)))else(j1 false)))else(j1 false))else(j1 false)))else(j1 false)))))))))))))))))))))))))))
def JY.f(K:Nat)(x1:Qo)(x8:(List Int)):Option (Bool):=
 (bif (decide ((20:Int)<((List.length (x1.fParts):Nat):Int)))then(some true)else(bif (decide ((20:Int)<((List.length (x1.fWits):Nat):Int)))then(some true)else(some (decide ((4000:Int)<((List.length (x8):Nat):Int))))))
def Yf.b(K:Nat)(x1:QO)(rec:((List Qm)×Int)→Option ((List Qm)))(y1:(List Qm)×Int):Option ((List Qm)):=
 (bif (decide (y1.2<((List.length (x1.fItems):Nat):Int)))then((getI (x1.fItems) y1.2).bind fun x2=>((catI 224 (y1.1) (([x2.fRec]:List Qm))).bind fun l1=>(rec (l1,(IntKind.wrap .i64 (y1.2+(1:Int)))))))else(some y1.1))
def Yf.l(K:Nat)(x1:QO):Nat→((List Qm)×Int)→Option ((List Qm)):=Ja (Yf.b K x1)
def qc.f(K:Nat)(x1:QO):Option ((List Qm)):=
 ((Yf.l K x1 K (([]:List Qm),(0:Int))).bind fun z1=>(some z1))
def qY.b(K:Nat)(x1:(List Qm))(x5:Int)(rec:(Int×QZ)→Option (Sum ((QZ×Int)) (QZ)))(y1:Int×QZ):Option (Sum ((QZ×Int)) (QZ)):=
 (bif (decide (y1.1<((List.length (x1):Nat):Int)))then((getI (x1) y1.1).bind fun x2=>((QcU.f K (y1.2) (x2) (x5)).bind fun r1=>(bif (!r1.2)then(some (Sum.inl (r1.1,y1.1)))else(rec ((IntKind.wrap .i64 (y1.1+(1:Int))),r1.1)))))else(some (Sum.inr y1.2)))
def qY.l(K:Nat)(x1:(List Qm))(x5:Int):Nat→(Int×QZ)→Option (Sum ((QZ×Int)) (QZ)):=Ja (qY.b K x1 x5)
def QiH.f(K:Nat)(x1:(List Qm))(x5:Int):Option (QZ×Int):=
 ((qY.l K x1 x5 K ((0:Int),(QZ.mk ((Vector.replicate 4 (0:Int))) (([]:List QI))))).bind fun s1=>(match s1 with| .inl u1=>some u1| .inr u2=>(fun(z1:QZ)=>(some (z1,((List.length (x1):Nat):Int)))) u2))
def QbM.f(K:Nat)(x1:Qp)(x2:Qp):Option (Bool):=
 (some ((decide (x1.fPhase=x2.fPhase))&&((decide (x1.fMissing=x2.fMissing))&&true)))
def Yo.b(K:Nat)(x1:(List Qp))(x5:(List Qp))(rec:Int→Option (Sum ((Bool)) (Unit)))(y1:Int):Option (Sum ((Bool)) (Unit)):=
 (bif (decide (y1<((List.length (x1):Nat):Int)))then((getI (x1) y1).bind fun x2=>((getI (x5) y1).bind fun x3=>((QbM.f K (x2) (x3)).bind fun r1=>(bif (!r1)then(some (Sum.inl false))else(rec (IntKind.wrap .i64 (y1+(1:Int))))))))else(some (Sum.inr ())))
def Yo.l(K:Nat)(x1:(List Qp))(x5:(List Qp)):Nat→(Int)→Option (Sum ((Bool)) (Unit)):=Ja (Yo.b K x1 x5)
def Xa.f(K:Nat)(x1:(List Qp))(x5:(List Qp)):Option (Bool):=
 (bif (!decide (((List.length (x1):Nat):Int)=((List.length (x5):Nat):Int)))then(some false)else((Yo.l K x1 x5 K (0:Int)).bind fun s1=>(match s1 with| .inl u1=>some u1| .inr u2=>(fun(z1:Unit)=>(some true)) u2)))
def Qcq.f(K:Nat)(x1:(List Qp))(x5:(List Qp)):Option (Bool):=
 ((Xa.f K (x1) (x5)).bind fun r14=>(some r14))
def Q5.b(K:Nat)(x1:Qo)(r1:((List Qm)))(rec:Int→Option (Sum ((Bool)) (Unit)))(y1:Int):Option (Sum ((Bool)) (Unit)):=
 (bif (decide (y1<((List.length (r1):Nat):Int)))then(jn (fun(y2:Bool)=>(bif y2 then(some (Sum.inl false))else(rec (IntKind.wrap .i64 (y1+(1:Int)))))) (fun j1=>((getI (r1) y1).bind fun x4=>((getI (r1) y1).bind fun x2=>(bif (decide (x2.fKind=(3:Int)))then((getI (r1) y1).bind fun x5=>((getI (r1) y1).bind fun x3=>((Qar.f K (x1) (x3)).bind fun r2=>(j1 (!r2)))))else(j1 false))))))else(some (Sum.inr ())))
def Q5.l(K:Nat)(x1:Qo)(r1:((List Qm))):Nat→(Int)→Option (Sum ((Bool)) (Unit)):=Ja (Q5.b K x1 r1)
def JR.f(K:Nat)(x1:Qo)(x8:Int)(x9:Qq)(x13:(List Int)):Option (Bool):=
 ((jl.f K).bind fun r5=>(bif (!r5)then(some false)else((JY.f K (x1) (x13)).bind fun r6=>(bif r6 then(some true)else((jk.f K (x1) (x8) (x9) (x13)).bind fun r1=>(bif (!decide (r1.1=(0:Int)))then(some (decide ((IntKind.wrap .i64 (((List.length (r1.2.1):Nat):Int)+((List.length (r1.2.2):Nat):Int)))=(0:Int))))else((XM.f K (x13)).bind fun r2=>(jn (fun(y1:Bool)=>(bif y1 then(some false)else((qc.f K (r2.1)).bind fun r3=>((Q5.l K x1 r3 K (0:Int)).bind fun s1=>(match s1 with| .inl u1=>some u1| .inr u2=>(fun(z1:Unit)=>(bif (!r2.1.fWhole)then(some (decide (((List.length (r1.2.1):Nat):Int)=((List.length (r1.2.2):Nat):Int))))else((QiH.f K (r3) (x8)).bind fun r4=>(bif (decide (r4.2=((List.length (r3):Nat):Int)))then((qK.f K (r3)).bind fun r7=>((Jr.f K (r7)).bind fun r8=>(bif (decide (r8=x9.fRoot))then((jX.f K (r4.1)).bind fun r9=>((Qcq.f K (r1.2.2) (r9)).bind fun r10=>(some r10)))else(some false))))else(some false))))) u2))))) (fun j1=>(bif (!decide (r2.2=(0:Int)))then(j1 true)else((XN.f K (x1) (r2.1.fPoint)).bind fun r11=>(bif (!decide (r11=(0:Int)))then(j1 true)else(bif (!decide (r2.1.fPoint.fSize=x9.fSize))then(j1 true)else(j1 (!(decide (r2.1.fPoint.fRoot=x9.fRoot)))))))))))))))))
end Go.Proofs.YtomndohdnfebgaaGreatDoor
