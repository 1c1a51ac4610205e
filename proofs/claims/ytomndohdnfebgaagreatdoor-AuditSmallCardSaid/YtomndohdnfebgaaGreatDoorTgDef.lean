/-
 Data and plain functions, printed by a program: what the functions of the cut compute (fuel K; none: a panic, or the fuel is spent).
 Conditions: none; nothing is claimed here.
-/
import Derived.Test.YtomndohdnfebgaaGreatDoorSxB
import Derived.Test.YtomndohdnfebgaaGreatDoorTgSq
set_option linter.unusedVariables false
namespace Go.Proofs.YtomndohdnfebgaaGreatDoor
open Go Go.Sep
def qh.b(K:Nat)(x1:(List Int))(x5:Int)(l1:(List Int))(rec:((List Int)×Int)→Option ((List Int)))(y1:(List Int)×Int):Option ((List Int)):=
 (bif (decide (y1.2<((List.length ((List.take (List.length (l1)) (x1)++List.drop (List.length (x1)) (l1))):Nat):Int)))then((getI (y1.1) y1.2).bind fun x3=>((getI (y1.1) y1.2).bind fun x2=>((getI (y1.1) y1.2).bind fun x4=>(rec ((List.set (y1.1) (Int.toNat (y1.2)) ((bxor .u8 x2 x5))),(IntKind.wrap .i64 (y1.2+(1:Int))))))))else(some y1.1))
def qh.l(K:Nat)(x1:(List Int))(x5:Int)(l1:(List Int)):Nat→((List Int)×Int)→Option ((List Int)):=Jc (qh.b K x1 x5 l1)
def QfX.f(K:Nat)(x1:(List Int))(x5:Int):Option ((List Int)):=
 ((Qaj 1 ((0:Int)) (64:Int)).bind fun l1=>((qh.l K x1 x5 l1 K ((List.take (List.length (l1)) (x1)++List.drop (List.length (x1)) (l1)),(0:Int))).bind fun z1=>(some z1)))
def QfY.f(K:Nat)(x1:(List Int))(x5:(List (List Int))):Option ((Vector Int 32)):=
 (jn (fun(y1:(List Int))=>((QfX.f K (y1) ((54:Int))).bind fun r1=>((catI 24 (([r1]:List (List Int))) (x5)).bind fun l1=>((shaQ.f K (l1)).bind fun r2=>((subI (Q9 (r2)) 0 ((32:Nat):Int)).bind fun l2=>((QfX.f K (y1) ((92:Int))).bind fun r3=>((shaQ.f K (([r3,l2]:List (List Int)))).bind fun r4=>(some r4)))))))) (fun j1=>(bif (decide ((64:Int)<((List.length (x1):Nat):Int)))then((shaQ.f K (([x1]:List (List Int)))).bind fun r5=>((subI (Q9 (r5)) 0 ((32:Nat):Int)).bind fun l3=>(j1 l3)))else(j1 x1))))
def Qd1.f(K:Nat)(x1:(Vector Int 32))(x2:(List Int)):Option ((Vector Int 32)):=
 ((subI (Q9 (x1)) 0 ((32:Nat):Int)).bind fun l44=>((Xc.f K (x2)).bind fun r45=>((QfY.f K (l44) (([r45]:List (List Int)))).bind fun r69=>(some r69))))
def Qby.f(K:Nat)(x1:QC)(x8:Int)(x9:Int):Option ((Vector Int 32)):=
 ((XK.f K (x1) (x8) (x9)).bind fun r66=>(bif (!r66)then(some (vofL 32 [(0:Int),(0:Int),(0:Int),(0:Int),(0:Int),(0:Int),(0:Int),(0:Int),(0:Int),(0:Int),(0:Int),(0:Int),(0:Int),(0:Int),(0:Int),(0:Int),(0:Int),(0:Int),(0:Int),(0:Int),(0:Int),(0:Int),(0:Int),(0:Int),(0:Int),(0:Int),(0:Int),(0:Int),(0:Int),(0:Int),(0:Int),(0:Int)]))else((getI (x1.fParts) x8).bind fun x71=>((Qd1.f K (x71) (([(1:Int),x9]:List Int))).bind fun r99=>(some r99)))))
def Qce.f(K:Nat)(x1:Bool):Option (Int):=
 (bif x1 then(some (1:Int))else(some (0:Int)))
def je.f(K:Nat)(x1:QC)(x8:Qm):Option ((Vector Int 32)):=
 (jn (fun(y1:Bool)=>(bif y1 then(some (vofL 32 [(0:Int),(0:Int),(0:Int),(0:Int),(0:Int),(0:Int),(0:Int),(0:Int),(0:Int),(0:Int),(0:Int),(0:Int),(0:Int),(0:Int),(0:Int),(0:Int),(0:Int),(0:Int),(0:Int),(0:Int),(0:Int),(0:Int),(0:Int),(0:Int),(0:Int),(0:Int),(0:Int),(0:Int),(0:Int),(0:Int),(0:Int),(0:Int)]))else((Qby.f K (x1) (x8.fPart) (x8.fEpoch)).bind fun r1=>((Qce.f K (x8.fBack)).bind fun r2=>((Qce.f K (x8.fGood)).bind fun r3=>((Qd1.f K (r1) (([(2:Int),x8.fSaga,x8.fStep,r2,r3]:List Int))).bind fun r4=>(some r4))))))) (fun j1=>(bif (!decide (x8.fKind=(3:Int)))then(j1 true)else((XK.f K (x1) (x8.fPart) (x8.fEpoch)).bind fun r5=>(j1 (!r5))))))
def Jr.f(K:Nat)(x1:Int)(x2:Int)(x3:Int):Option (Bool):=
 (bif (decide (x2≤x1))then(some (decide (x1≤x3)))else(some false))
def ZF.f(K:Nat)(x1:Qo):Option (Bool):=
 ((Jr.f K (x1.fPart) ((0:Int)) ((3:Int))).bind fun r36=>(bif (!r36)then(some true)else((Jr.f K (x1.fKind) ((1:Int)) ((3:Int))).bind fun r41=>(some (!r41)))))
def QA.b(K:Nat)(x1:(List Qo))(rec:Int→Option (Sum ((Int)) (Unit)))(y1:Int):Option (Sum ((Int)) (Unit)):=
 (bif (decide (y1<((List.length (x1):Nat):Int)))then((getI (x1) y1).bind fun x2=>((ZF.f K (x2)).bind fun r1=>(bif r1 then(some (Sum.inl y1))else(rec (IntKind.wrap .i64 (y1+(1:Int)))))))else(some (Sum.inr ())))
def QA.l(K:Nat)(x1:(List Qo)):Nat→(Int)→Option (Sum ((Int)) (Unit)):=Jc (QA.b K x1)
def Y9.f(K:Nat)(x1:(List Qo)):Option (Int):=
 ((QA.l K x1 K (0:Int)).bind fun s1=>(match s1 with| .inl u1=>some u1| .inr u2=>(fun(z1:Unit)=>(some (-1:Int))) u2))
def Yz.f(K:Nat)(x1:(List Qo)):Option (Bool):=
 ((Y9.f K (x1)).bind fun r10=>(some (decide ((0:Int)≤r10))))
def Qcf.f(K:Nat)(x1:Qm):Option (Bool):=
 (jn (fun(y1:Bool)=>(bif y1 then(some false)else(bif (decide (x1.fKind=(1:Int)))then((Jr.f K (((List.length (x1.fSteps):Nat):Int)) ((1:Int)) ((6:Int))).bind fun r1=>(bif r1 then((Yz.f K (x1.fSteps)).bind fun r2=>(bif (!r2)then(some (decide (((List.length (x1.fData):Nat):Int)≤(60:Int))))else(some false)))else(some false)))else(jn (fun(y2:Bool)=>(bif y2 then((Jr.f K (x1.fSeq) ((1:Int)) ((400:Int))).bind fun r3=>(bif r3 then((Jr.f K (x1.fStep) ((0:Int)) ((5:Int))).bind fun r4=>(bif r4 then((Jr.f K (x1.fTry) ((1:Int)) ((9:Int))).bind fun r5=>(some r5))else(some false)))else(some false)))else(bif (decide (x1.fKind=(5:Int)))then((Jr.f K (x1.fSeq) ((1:Int)) ((400:Int))).bind fun r6=>(bif r6 then((Jr.f K (x1.fEnd) ((2:Int)) ((4:Int))).bind fun r7=>(some r7))else(some false)))else(bif (decide (x1.fKind=(6:Int)))then(some (decide ((1:Int)≤x1.fEpoch)))else(some false))))) (fun j1=>(bif (decide (x1.fKind=(2:Int)))then(j1 true)else(bif (decide (x1.fKind=(4:Int)))then(j1 true)else(j1 (decide (x1.fKind=(3:Int))))))))))) (fun j2=>((Jr.f K (x1.fSaga) ((0:Int)) ((11:Int))).bind fun r8=>(bif (!r8)then(j2 true)else((Jr.f K (x1.fPart) ((0:Int)) ((3:Int))).bind fun r9=>(bif (!r9)then(j2 true)else((Jr.f K (x1.fEpoch) ((0:Int)) ((400:Int))).bind fun r10=>(j2 (!r10)))))))))
def Qfo.f(K:Nat)(x1:Qm):Option (Qm):=
 ((some {Qp with fKind:=x1.fKind}).bind fun v1=>(jn (fun(y1:Qm)=>(some y1)) (fun j1=>(jn (fun(y2:Qm)=>((some {y2 with fSaga:=x1.fSaga}).bind fun v3=>((some {v3 with fSeq:=x1.fSeq}).bind fun v4=>((some {v4 with fStep:=x1.fStep}).bind fun v5=>((some {v5 with fTry:=x1.fTry}).bind fun v6=>((some {v6 with fBack:=x1.fBack}).bind fun v7=>(j1 v7))))))) (fun j2=>(bif (decide (x1.fKind=(1:Int)))then((some {v1 with fSaga:=x1.fSaga}).bind fun v8=>((some {v8 with fSteps:=x1.fSteps}).bind fun v9=>((some {v9 with fGone:=x1.fGone}).bind fun v2=>(bif x1.fGone then((some {v2 with fCom:=x1.fCom}).bind fun v10=>(j1 v10))else((some {v2 with fData:=x1.fData}).bind fun v11=>((some {v11 with fSalt:=x1.fSalt}).bind fun v12=>(j1 v12)))))))else(bif (decide (x1.fKind=(3:Int)))then((some {v1 with fGood:=x1.fGood}).bind fun v13=>((some {v13 with fPart:=x1.fPart}).bind fun v14=>((some {v14 with fEpoch:=x1.fEpoch}).bind fun v15=>((some {v15 with fTag:=x1.fTag}).bind fun v16=>(j2 v16)))))else(jn (fun(y3:Bool)=>(bif y3 then(j2 v1)else(bif (decide (x1.fKind=(5:Int)))then((some {v1 with fSaga:=x1.fSaga}).bind fun v17=>((some {v17 with fSeq:=x1.fSeq}).bind fun v18=>((some {v18 with fEnd:=x1.fEnd}).bind fun v19=>(j1 v19))))else(bif (decide (x1.fKind=(6:Int)))then((some {v1 with fPart:=x1.fPart}).bind fun v20=>((some {v20 with fEpoch:=x1.fEpoch}).bind fun v21=>(j1 v21)))else(j1 v1))))) (fun j3=>(bif (decide (x1.fKind=(2:Int)))then(j3 true)else(j3 (decide (x1.fKind=(4:Int))))))))))))))
def QG.b(K:Nat)(x1:(List Qo))(x5:(List Qo))(rec:Int→Option (Sum ((Bool)) (Unit)))(y1:Int):Option (Sum ((Bool)) (Unit)):=
 (bif (decide (y1<((List.length (x1):Nat):Int)))then((getI (x1) y1).bind fun x2=>((getI (x5) y1).bind fun x3=>(bif (!((decide (x2.fPart=x3.fPart))&&((decide (x2.fKind=x3.fKind))&&true)))then(some (Sum.inl false))else(rec (IntKind.wrap .i64 (y1+(1:Int)))))))else(some (Sum.inr ())))
def QG.l(K:Nat)(x1:(List Qo))(x5:(List Qo)):Nat→(Int)→Option (Sum ((Bool)) (Unit)):=Jc (QG.b K x1 x5)
def YV.f(K:Nat)(x1:(List Qo))(x5:(List Qo)):Option (Bool):=
 (bif (!decide (((List.length (x1):Nat):Int)=((List.length (x5):Nat):Int)))then(some false)else((QG.l K x1 x5 K (0:Int)).bind fun s1=>(match s1 with| .inl u1=>some u1| .inr u2=>(fun(z1:Unit)=>(some true)) u2)))
def bytes_Equal.f(K:Nat)(x1:(List Int))(x5:(List Int)):Option (Bool):=
 (some (ByteArray.toList (bofL (x1))==ByteArray.toList (bofL (x5))))
def Qfp.f(K:Nat)(x1:Qm):Option (QaK):=
 ((some (QaK.mk (x1.fKind) (x1.fSaga) (x1.fSeq) (x1.fStep) (x1.fTry) (x1.fBack) (x1.fGood) (x1.fGone) (x1.fEnd) (x1.fPart) (x1.fEpoch))).bind fun v18=>(some v18))
def Qfq.f(K:Nat)(x1:Qm)(x8:Qm):Option (Bool):=
 (jn (fun(y1:Bool)=>(bif y1 then(some false)else(jn (fun(y2:Bool)=>(some y2)) (fun j1=>((Qfp.f K (x1)).bind fun r1=>((Qfp.f K (x8)).bind fun r2=>(bif ((decide (r1.fKind=r2.fKind))&&((decide (r1.fSaga=r2.fSaga))&&((decide (r1.fSeq=r2.fSeq))&&((decide (r1.fStep=r2.fStep))&&((decide (r1.fTry=r2.fTry))&&((r1.fBack==r2.fBack)&&((r1.fGood==r2.fGood)&&((r1.fGone==r2.fGone)&&((decide (r1.fEnd=r2.fEnd))&&((decide (r1.fPart=r2.fPart))&&((decide (r1.fEpoch=r2.fEpoch))&&true)))))))))))then(bif (decide (x1.fTag=x8.fTag))then(bif (decide (x1.fSalt=x8.fSalt))then(j1 (decide (x1.fCom=x8.fCom)))else(j1 false))else(j1 false))else(j1 false)))))))) (fun j2=>((YV.f K (x1.fSteps) (x8.fSteps)).bind fun r3=>(bif (!r3)then(j2 true)else((bytes_Equal.f K (x1.fData) (x8.fData)).bind fun r4=>(j2 (!r4)))))))
def qi.f(K:Nat)(x1:Qm):Option (Bool):=
 ((Qcf.f K (x1)).bind fun r75=>(bif r75 then((Qfo.f K (x1)).bind fun r80=>((Qfq.f K (x1) (r80)).bind fun r91=>(some r91)))else(some false)))
def QcA.f(K:Nat)(x1:Qm):Option (Bool):=
 ((qi.f K (x1)).bind fun r17=>(some (!r17)))
def Y4.b(K:Nat)(x1:(List Qm))(rec:Int→Option (Sum ((Int)) (Unit)))(y1:Int):Option (Sum ((Int)) (Unit)):=
 (bif (decide (y1<((List.length (x1):Nat):Int)))then((getI (x1) y1).bind fun x2=>((QcA.f K (x2)).bind fun r1=>(bif r1 then(some (Sum.inl y1))else(rec (IntKind.wrap .i64 (y1+(1:Int)))))))else(some (Sum.inr ())))
def Y4.l(K:Nat)(x1:(List Qm)):Nat→(Int)→Option (Sum ((Int)) (Unit)):=Jc (Y4.b K x1)
def J6.f(K:Nat)(x1:(List Qm)):Option (Int):=
 ((Y4.l K x1 K (0:Int)).bind fun s1=>(match s1 with| .inl u1=>some u1| .inr u2=>(fun(z1:Unit)=>(some (-1:Int))) u2))
def JI.f(K:Nat)(x1:(List Qm)):Option (Bool):=
 ((J6.f K (x1)).bind fun r10=>(some (decide ((0:Int)≤r10))))
def ZG.f(K:Nat)(x1:(List Qm)):Option (Bool):=
 ((JI.f K (x1)).bind fun r10=>(some (!r10)))
def jQ.b(K:Nat)(rec:(Int×(List Int))→Option ((List Int)))(y1:Int×(List Int)):Option ((List Int)):=
 (bif (decide ((0:Int)<y1.1))then((catI 1 (y1.2) (([(bor .u8 (IntKind.wrap .u8 (Int.tmod y1.1 128)) (128:Int))]:List Int))).bind fun l1=>(rec ((Int.fdiv y1.1 (2^7)),l1)))else(some y1.2))
def jQ.l(K:Nat):Nat→(Int×(List Int))→Option ((List Int)):=Jc (jQ.b K)
def qH.f(K:Nat)(x1:Int):Option ((List Int)):=
 (jn (fun(y1:Bool)=>(bif y1 then(some ([]:List Int))else((jQ.l K K ((Int.fdiv x1 (2^7)),([(IntKind.wrap .u8 (Int.tmod x1 128))]:List Int))).bind fun z1=>((QY.f K (z1)).bind fun r1=>(some r1))))) (fun j1=>(bif (decide (x1<(0:Int)))then(j1 true)else(j1 (decide ((2147483647:Int)<x1))))))
def Qde.f(K:Nat):Option Unit:=
 (some ())
def Jb.b(K:Nat)(x1:(List Int))(rec:((List Int)×Int)→Option ((List Int)))(y1:(List Int)×Int):Option ((List Int)):=
 (bif (decide (y1.2<((List.length (x1):Nat):Int)))then((getI (x1) y1.2).bind fun x2=>((qH.f K (x2)).bind fun r1=>((catI 1 (y1.1) (r1)).bind fun l1=>(rec (l1,(IntKind.wrap .i64 (y1.2+(1:Int))))))))else(some y1.1))
def Jb.l(K:Nat)(x1:(List Int)):Nat→((List Int)×Int)→Option ((List Int)):=Jc (Jb.b K x1)
def qI.f(K:Nat)(x1:(List Int)):Option ((List Int)):=
 ((Jb.l K x1 K (([]:List Int),(0:Int))).bind fun z1=>(some z1))
def JD.b(K:Nat)(x1:Qm)(rec:((List Int)×Int)→Option ((List Int)))(y1:(List Int)×Int):Option ((List Int)):=
 (bif (decide (y1.2<((List.length (x1.fSteps):Nat):Int)))then((getI (x1.fSteps) y1.2).bind fun x2=>((qI.f K (([x2.fPart,x2.fKind]:List Int))).bind fun r1=>((catI 1 (y1.1) (r1)).bind fun l1=>(rec (l1,(IntKind.wrap .i64 (y1.2+(1:Int))))))))else(some y1.1))
def JD.l(K:Nat)(x1:Qm):Nat→((List Int)×Int)→Option ((List Int)):=Jc (JD.b K x1)
def Qbz.f(K:Nat)(x1:Qm):Option ((List Int)):=
 ((qI.f K (([x1.fSaga,((List.length (x1.fSteps):Nat):Int)]:List Int))).bind fun r1=>((JD.l K x1 K (r1,(0:Int))).bind fun z1=>(some z1)))
def Y8.f(K:Nat)(x1:(List (List Int))):Option ((List Int)):=
 ((QM.f K (x1)).bind fun r20=>(some r20))
def Xk.f(K:Nat)(x1:Bool):Option ((List Int)):=
 (bif x1 then(some ([(1:Int)]:List Int))else(some ([(0:Int)]:List Int)))
def ZH.f(K:Nat)(x1:Qm):Option ((List Int)):=
 ((qI.f K (([x1.fSaga,x1.fSeq,x1.fStep,x1.fTry]:List Int))).bind fun r84=>((Xk.f K (x1.fBack)).bind fun r94=>((Y8.f K (([r84,r94]:List (List Int)))).bind fun r1=>(some r1))))
def jJ.f(K:Nat)(x1:(Vector Int 32)):Option ((List Int)):=
 ((subI (Q9 (x1)) 0 ((32:Nat):Int)).bind fun l32=>((Q7.f K (l32)).bind fun r37=>(some r37)))
def XX.f(K:Nat)(x1:Qm):Option ((List Int)):=
 ((ZH.f K (x1)).bind fun r1=>((Xk.f K (x1.fGood)).bind fun r2=>((qI.f K (([x1.fPart,x1.fEpoch]:List Int))).bind fun r3=>((jJ.f K (x1.fTag)).bind fun r4=>((Y8.f K (([r1,r2,r3,r4]:List (List Int)))).bind fun r5=>(some r5))))))
def XY.f(K:Nat)(x1:Qm):Option ((List Int)):=
 ((qI.f K (([x1.fSaga,x1.fSeq,x1.fEnd]:List Int))).bind fun r45=>(some r45))
def XZ.f(K:Nat)(x1:Qm):Option ((List Int)):=
 ((qI.f K (([x1.fPart,x1.fEpoch]:List Int))).bind fun r45=>(some r45))
def Qcg.f(K:Nat)(x1:(List Int)):Option ((List Int)):=
 ((QcN.f K ((IntKind.wrap .u64 ((List.length (x1):Nat):Int))) ((4:Int))).bind fun r44=>((QM.f K (([r44,x1]:List (List Int)))).bind fun r68=>(some r68)))
def Yv.b(K:Nat)(x1:(List (List Int)))(rec:((List Int)×Int)→Option ((List Int)))(y1:(List Int)×Int):Option ((List Int)):=
 (bif (decide (y1.2<((List.length (x1):Nat):Int)))then((getI (x1) y1.2).bind fun x2=>((Qcg.f K (x2)).bind fun r1=>((catI 1 (y1.1) (r1)).bind fun l1=>(rec (l1,(IntKind.wrap .i64 (y1.2+(1:Int))))))))else(some y1.1))
def Yv.l(K:Nat)(x1:(List (List Int))):Nat→((List Int)×Int)→Option ((List Int)):=Jc (Yv.b K x1)
def X0.f(K:Nat)(x1:(List (List Int))):Option ((List Int)):=
 ((Yv.l K x1 K (([]:List Int),(0:Int))).bind fun z1=>(some z1))
def QfZ.f(K:Nat)(x1:Int)(x2:(List (List Int))):Option ((Vector Int 32)):=
 ((X0.f K (x2)).bind fun r52=>((shaQ.f K (([([(IntKind.wrap .u8 x1)]:List Int),r52]:List (List Int)))).bind fun r81=>(some r81)))
def Qf0.f(K:Nat)(x1:Qm):Option ((Vector Int 32)):=
 (jn (fun(y1:Bool)=>(bif y1 then(some (vofL 32 [(0:Int),(0:Int),(0:Int),(0:Int),(0:Int),(0:Int),(0:Int),(0:Int),(0:Int),(0:Int),(0:Int),(0:Int),(0:Int),(0:Int),(0:Int),(0:Int),(0:Int),(0:Int),(0:Int),(0:Int),(0:Int),(0:Int),(0:Int),(0:Int),(0:Int),(0:Int),(0:Int),(0:Int),(0:Int),(0:Int),(0:Int),(0:Int)]))else(bif x1.fGone then(some x1.fCom)else((subI (Q9 (x1.fSalt)) 0 ((32:Nat):Int)).bind fun l1=>((QfZ.f K ((4:Int)) (([l1,x1.fData]:List (List Int)))).bind fun r1=>(some r1)))))) (fun j1=>((qi.f K (x1)).bind fun r2=>(bif (!r2)then(j1 true)else(j1 (!decide (x1.fKind=(1:Int))))))))
def ZI.f(K:Nat)(x3:Qm):Option ((List Int)):=
 ((Qf0.f K (x3)).bind fun r30=>((jJ.f K (r30)).bind fun r35=>(some r35)))
def Qlc.f(K:Nat)(x3:Qm)(x10:Qm):Option ((List Int)):=
 ((qi.f K (x3)).bind fun r2=>(bif (!r2)then(some ([]:List Int))else(jn (fun(y1:(List Int))=>(bif (decide (x3.fKind=(1:Int)))then((ZI.f K (x10)).bind fun r3=>((catI 1 (y1) (r3)).bind fun l1=>(some l1)))else(some y1))) (fun j1=>((qH.f K (x3.fKind)).bind fun r1=>((Qde.f K).bind fun r16=>(bif decide (x3.fKind=(0:Int))then none else(bif decide (x3.fKind=(1:Int))then((Qbz.f K (x3)).bind fun r4=>((Y8.f K (([r1,r4]:List (List Int)))).bind fun r5=>(j1 r5)))else(bif decide (x3.fKind=(2:Int))then((ZH.f K (x3)).bind fun r6=>((Y8.f K (([r1,r6]:List (List Int)))).bind fun r7=>(j1 r7)))else(bif decide (x3.fKind=(3:Int))then((XX.f K (x3)).bind fun r8=>((Y8.f K (([r1,r8]:List (List Int)))).bind fun r9=>(j1 r9)))else(bif decide (x3.fKind=(4:Int))then((ZH.f K (x3)).bind fun r10=>((Y8.f K (([r1,r10]:List (List Int)))).bind fun r11=>(j1 r11)))else(bif decide (x3.fKind=(5:Int))then((XY.f K (x3)).bind fun r12=>((Y8.f K (([r1,r12]:List (List Int)))).bind fun r13=>(j1 r13)))else(bif decide (x3.fKind=(6:Int))then((XZ.f K (x3)).bind fun r14=>((Y8.f K (([r1,r14]:List (List Int)))).bind fun r15=>(j1 r15)))else none)))))))))))))
def Qam.f(K:Nat)(x1:Qm):Option ((List Int)):=
 ((Qlc.f K (x1) (x1)).bind fun r27=>(some r27))
def QbA.f(K:Nat)(x1:(List Int)):Option ((Vector Int 32)):=
 ((shaQ.f K (([([(0:Int)]:List Int),x1]:List (List Int)))).bind fun r50=>(some r50))
def Xq.b(K:Nat)(x1:(List Qm))(rec:((List (Vector Int 32))×Int)→Option ((List (Vector Int 32))))(y1:(List (Vector Int 32))×Int):Option ((List (Vector Int 32))):=
 (bif (decide (y1.2<((List.length (x1):Nat):Int)))then((getI (x1) y1.2).bind fun x2=>((Qam.f K (x2)).bind fun r1=>((QbA.f K (r1)).bind fun r2=>((catI 32 (y1.1) (([r2]:List (Vector Int 32)))).bind fun l1=>(rec (l1,(IntKind.wrap .i64 (y1.2+(1:Int)))))))))else(some y1.1))
def Xq.l(K:Nat)(x1:(List Qm)):Nat→((List (Vector Int 32))×Int)→Option ((List (Vector Int 32))):=Jc (Xq.b K x1)
def XA.f(K:Nat)(x1:(List Qm)):Option ((List (Vector Int 32))):=
 ((ZG.f K (x1)).bind fun r1=>(bif (!r1)then(some ([]:List (Vector Int 32)))else((Xq.l K x1 K (([]:List (Vector Int 32)),(0:Int))).bind fun z1=>(some z1))))
def QaM.b(K:Nat)(x1:Int)(rec:Int→Option (Int))(y35:Int):Option (Int):=
 (bif (decide (y35<(IntKind.wrap .i64 (x1-y35))))then(rec (IntKind.wrap .i64 (y35*(2:Int))))else(some y35))
def QaM.l(K:Nat)(x1:Int):Nat→(Int)→Option (Int):=Jc (QaM.b K x1)
def XL.f(K:Nat)(x1:Int):Option (Int):=
 (bif (decide (x1<(2:Int)))then(some (0:Int))else((QaM.l K x1 K (1:Int)).bind fun z41=>(some z41)))
def Xl.f(K:Nat)(x1:(Vector Int 32))(x2:(Vector Int 32)):Option ((Vector Int 32)):=
 ((subI (Q9 (x1)) 0 ((32:Nat):Int)).bind fun l44=>((subI (Q9 (x2)) 0 ((32:Nat):Int)).bind fun l45=>((shaQ.f K (([([(1:Int)]:List Int),l44,l45]:List (List Int)))).bind fun r60=>(some r60))))
def yF.b(K:Nat)(self:(List (Vector Int 32))→Option ((Vector Int 32)))(x1:(List (Vector Int 32))):Option ((Vector Int 32)):=
 (bif (decide (((List.length (x1):Nat):Int)=(0:Int)))then((shaQ.f K (([]:List (List Int)))).bind fun r2=>(some r2))else(bif (decide (((List.length (x1):Nat):Int)=(1:Int)))then((getI (x1) (0:Int)).bind fun x2=>(some x2))else((XL.f K (((List.length (x1):Nat):Int))).bind fun r1=>((subI (x1) r1 ((List.length (x1):Nat):Int)).bind fun l1=>((subI (x1) 0 r1).bind fun l2=>((self (l2)).bind fun r3=>((self (l1)).bind fun r4=>((Xl.f K (r3) (r4)).bind fun r5=>(some r5)))))))))
def yF.r(K:Nat):Nat→(List (Vector Int 32))→Option ((Vector Int 32))
 |0=>fun _=>none
 |k+1=>yF.b K (yF.r K k)
def yF.f(K:Nat)(x1:(List (Vector Int 32))):Option ((Vector Int 32)):=yF.r K K x1
def Qdf.f(K:Nat)(x1:Qu):Option ((Vector Int 32)):=
 ((subI (Q9 (x1.fRoot)) 0 ((32:Nat):Int)).bind fun l69=>((qH.f K (x1.fSize)).bind fun r70=>((QfZ.f K ((6:Int)) (([r70,l69]:List (List Int)))).bind fun r94=>(some r94))))
def X4.f(K:Nat)(x1:QC)(x8:Int)(x9:Qu):Option ((Vector Int 32)):=
 (jn (fun(y1:Bool)=>(bif y1 then(some (vofL 32 [(0:Int),(0:Int),(0:Int),(0:Int),(0:Int),(0:Int),(0:Int),(0:Int),(0:Int),(0:Int),(0:Int),(0:Int),(0:Int),(0:Int),(0:Int),(0:Int),(0:Int),(0:Int),(0:Int),(0:Int),(0:Int),(0:Int),(0:Int),(0:Int),(0:Int),(0:Int),(0:Int),(0:Int),(0:Int),(0:Int),(0:Int),(0:Int)]))else((Qdf.f K (x9)).bind fun r1=>((getI (x1.fWits) x8).bind fun x2=>((subI (Q9 (x2)) 0 ((32:Nat):Int)).bind fun l1=>((subI (Q9 (r1)) 0 ((32:Nat):Int)).bind fun l2=>((QfY.f K (l1) (([([(3:Int)]:List Int),l2]:List (List Int)))).bind fun r2=>(some r2)))))))) (fun j1=>((ZE.f K (x1)).bind fun r3=>(bif (!r3)then(j1 true)else((Ju.f K (x8) ((0:Int)) ((IntKind.wrap .i64 (((List.length (x1.fWits):Nat):Int)-(1:Int))))).bind fun r4=>(bif (!r4)then(j1 true)else((Ju.f K (x9.fSize) ((0:Int)) ((400:Int))).bind fun r5=>(j1 (!r5)))))))))
def JZ.b(K:Nat)(x1:QC)(x8:(List Qm))(r1:((Vector Int 32)))(rec:(Int×Int×(Vector Int 32)×(List QT))→Option (Int×(Vector Int 32)×(List QT)))(y1:Int×Int×(Vector Int 32)×(List QT)):Option (Int×(Vector Int 32)×(List QT)):=
 (bif (decide (y1.1<((List.length (x1.fWits):Nat):Int)))then((X4.f K (x1) (y1.1) ((Qu.mk (((List.length (x8):Nat):Int)) (r1) (([]:List QT))))).bind fun r2=>((catI 40 (y1.2.2.2) (([(QT.mk (y1.1) (r2))]:List QT))).bind fun l1=>(rec ((IntKind.wrap .i64 (y1.1+(1:Int))),y1.2.1,y1.2.2.1,l1))))else(some (y1.2.1,y1.2.2.1,y1.2.2.2)))
def JZ.l(K:Nat)(x1:QC)(x8:(List Qm))(r1:((Vector Int 32))):Nat→(Int×Int×(Vector Int 32)×(List QT))→Option (Int×(Vector Int 32)×(List QT)):=Jc (JZ.b K x1 x8 r1)
def qW.f(K:Nat)(x1:QC)(x8:(List Qm)):Option (Int×(Vector Int 32)×(List QT)):=
 ((XA.f K (x8)).bind fun r2=>((yF.f K (r2)).bind fun r1=>((JZ.l K x1 x8 r1 K ((0:Int),((List.length (x8):Nat):Int),r1,([]:List QT))).bind fun z1=>(some (z1.1,z1.2.1,z1.2.2)))))
def QeD.f(K:Nat)(x1:Int):Option (Int):=
 (some x1)
def QcB.f(K:Nat)(x1:Int):Option (Bool):=
 (some true)
def QhD.f(K:Nat)(x1:Qm):Option (Qm):=
 (jn (fun(y96:Bool)=>(bif y96 then(some x1)else((QK.f K (x1.fSteps)).bind fun r99=>((Qf0.f K (x1)).bind fun r1=>((some {Qp with fKind:=(1:Int),fSaga:=x1.fSaga,fSteps:=r99,fGone:=true,fCom:=r1}).bind fun v1=>(some v1)))))) (fun j1=>((qi.f K (x1)).bind fun r2=>(bif (!r2)then(j1 true)else(j1 (!decide (x1.fKind=(1:Int))))))))
def QaN.f(K:Nat)(x1:Qm)(x8:Int)(x9:Int):Option (Qm):=
 (chk (!(decide ((Int.tmod x8 32)<0))) (bif (decide ((band .u32 (Int.fdiv x9 (2^(min (Int.toNat (Int.tmod x8 32)) 32))) (1:Int))=(1:Int)))then((QhD.f K (x1)).bind fun r81=>(some r81))else((QK.f K (x1.fSteps)).bind fun r92=>((Q7.f K (x1.fData)).bind fun r1=>(some {x1 with fSteps:=r92,fData:=r1})))))
def jZ.b(K:Nat)(self:(List (Vector Int 32))→Int→Option ((List (Vector Int 32))×Bool))(x1:(List (Vector Int 32)))(x5:Int):Option ((List (Vector Int 32))×Bool):=
 (jn (fun(y1:Bool)=>(bif y1 then(some (([]:List (Vector Int 32)),false))else(bif (decide (((List.length (x1):Nat):Int)=(1:Int)))then(some (([]:List (Vector Int 32)),true))else((XL.f K (((List.length (x1):Nat):Int))).bind fun r1=>(bif (decide (x5<r1))then((subI (x1) 0 r1).bind fun l1=>((self (l1) (x5)).bind fun r2=>((subI (x1) r1 ((List.length (x1):Nat):Int)).bind fun l2=>((yF.f K (l2)).bind fun r3=>((catI 32 (r2.1) (([r3]:List (Vector Int 32)))).bind fun l3=>(some (l3,true)))))))else((subI (x1) r1 ((List.length (x1):Nat):Int)).bind fun l4=>((self (l4) ((IntKind.wrap .i64 (x5-r1)))).bind fun r4=>((subI (x1) 0 r1).bind fun l5=>((yF.f K (l5)).bind fun r5=>((catI 32 (r4.1) (([r5]:List (Vector Int 32)))).bind fun l6=>(some (l6,true)))))))))))) (fun j1=>(bif (decide (x5<(0:Int)))then(j1 true)else(j1 (decide (((List.length (x1):Nat):Int)≤x5))))))
def jZ.r(K:Nat):Nat→(List (Vector Int 32))→Int→Option ((List (Vector Int 32))×Bool)
 |0=>fun _ _=>none
 |k+1=>jZ.b K (jZ.r K k)
def jZ.f(K:Nat)(x1:(List (Vector Int 32)))(x5:Int):Option ((List (Vector Int 32))×Bool):=jZ.r K K x1 x5
def jv.f(K:Nat)(x1:Int)(x2:Int)(x3:Int):Option (Bool):=
 (bif (decide (x2≤x1))then(some (decide (x1≤x3)))else(some false))
def Xd.f(K:Nat)(x1:QT):Option (Bool):=
 ((jv.f K (x1.fWit) ((0:Int)) ((3:Int))).bind fun r11=>(some (!r11)))
def QE.b(K:Nat)(x1:(List QT))(rec:Int→Option (Sum ((Int)) (Unit)))(y1:Int):Option (Sum ((Int)) (Unit)):=
 (bif (decide (y1<((List.length (x1):Nat):Int)))then((getI (x1) y1).bind fun x2=>((Xd.f K (x2)).bind fun r1=>(bif r1 then(some (Sum.inl y1))else(rec (IntKind.wrap .i64 (y1+(1:Int)))))))else(some (Sum.inr ())))
def QE.l(K:Nat)(x1:(List QT)):Nat→(Int)→Option (Sum ((Int)) (Unit)):=Jc (QE.b K x1)
def Jk.f(K:Nat)(x1:(List QT)):Option (Int):=
 ((QE.l K x1 K (0:Int)).bind fun s1=>(match s1 with| .inl u1=>some u1| .inr u2=>(fun(z1:Unit)=>(some (-1:Int))) u2))
def YK.f(K:Nat)(x1:(List QT)):Option (Bool):=
 ((Jk.f K (x1)).bind fun r10=>(some (decide ((0:Int)≤r10))))
def ZJ.f(K:Nat)(x1:Qu):Option (Bool):=
 ((jv.f K (x1.fSize) ((0:Int)) ((400:Int))).bind fun r39=>(bif r39 then(bif (decide (((List.length (x1.fSigs):Nat):Int)≤(4:Int)))then((YK.f K (x1.fSigs)).bind fun r44=>(some (!r44)))else(some false))else(some false)))
def YC.b(K:Nat)(x1:QJ)(rec:(Int×Int)→Option (Sum ((Bool)) (Unit)))(y1:Int×Int):Option (Sum ((Bool)) (Unit)):=
 (bif (decide (y1.2<((List.length (x1.fItems):Nat):Int)))then((getI (x1.fItems) y1.2).bind fun x2=>(jn (fun(y2:Bool)=>(bif y2 then(some (Sum.inl false))else(rec (x2.fAt,(IntKind.wrap .i64 (y1.2+(1:Int))))))) (fun j1=>((qi.f K (x2.fRec)).bind fun r1=>(bif (!r1)then(j1 true)else((jv.f K (x2.fAt) ((IntKind.wrap .i64 (y1.1+(1:Int)))) ((IntKind.wrap .i64 (x1.fPoint.fSize-(1:Int))))).bind fun r2=>(bif (!r2)then(j1 true)else(bif (decide ((20:Int)<((List.length (x2.fPath):Nat):Int)))then(j1 true)else(bif x1.fWhole then(bif (!decide (x2.fAt=y1.2))then(j1 true)else(j1 (decide ((0:Int)<((List.length (x2.fPath):Nat):Int)))))else(j1 false))))))))))else(some (Sum.inr ())))
def YC.l(K:Nat)(x1:QJ):Nat→(Int×Int)→Option (Sum ((Bool)) (Unit)):=Jc (YC.b K x1)
def JE.f(K:Nat)(x1:QJ):Option (Bool):=
 (jn (fun(y1:Bool)=>(bif y1 then(some false)else((YC.l K x1 K ((-1:Int),(0:Int))).bind fun s1=>(match s1 with| .inl u1=>some u1| .inr u2=>(fun(z1:Unit)=>(some true)) u2)))) (fun j1=>((ZJ.f K (x1.fPoint)).bind fun r1=>(bif (!r1)then(j1 true)else(bif (decide (x1.fPoint.fSize<((List.length (x1.fItems):Nat):Int)))then(j1 true)else(bif x1.fWhole then(j1 (!decide (((List.length (x1.fItems):Nat):Int)=x1.fPoint.fSize)))else(j1 false)))))))
def ZX.b(K:Nat)(x5:(List Qm))(x9:Qu)(x13:Int)(x14:Bool)(x15:Int)(r2:((List (Vector Int 32))))(rec:(Int×Bool×Qu×(List QD))→Option (Sum ((QJ×Bool)) (Bool×Qu×(List QD))))(y1:Int×Bool×Qu×(List QD)):Option (Sum ((QJ×Bool)) (Bool×Qu×(List QD))):=
 (bif (decide (y1.1<x15))then(jn (fun(y2:Bool×Qu×(List QD))=>(rec ((IntKind.wrap .i64 (y1.1+(1:Int))),y2.1,y2.2.1,y2.2.2))) (fun j1=>((QcB.f K (y1.1)).bind fun r3=>(bif r3 then(jn (fun(y4:Bool)=>(bif y4 then(some (Sum.inl (YY,false)))else((getI (x5) y1.1).bind fun x1=>((QaN.f K (x1) (y1.1) (x13)).bind fun r1=>(jn (fun(y3:Bool×Int×Qm×(List (Vector Int 32)))=>((catI 256 (y1.2.2.2) (([(QD.mk (y3.2.1) (y3.2.2.1) (y3.2.2.2))]:List QD))).bind fun l1=>(j1 (y1.2.1,y1.2.2.1,l1)))) (fun j2=>(bif (!x14)then((jZ.f K (r2) (y1.1)).bind fun r4=>(j2 (true,y1.1,r1,r4.1)))else(j2 (false,y1.1,r1,([]:List (Vector Int 32))))))))))) (fun j3=>(bif (decide (y1.1<(0:Int)))then(j3 true)else(j3 (decide (x9.fSize≤y1.1))))))else(j1 (y1.2.1,y1.2.2.1,y1.2.2.2))))))else(some (Sum.inr (y1.2.1,y1.2.2.1,y1.2.2.2))))
def ZX.l(K:Nat)(x5:(List Qm))(x9:Qu)(x13:Int)(x14:Bool)(x15:Int)(r1:((List (Vector Int 32)))):Nat→(Int×Bool×Qu×(List QD))→Option (Sum ((QJ×Bool)) (Bool×Qu×(List QD))):=Jc (ZX.b K x5 x9 x13 x14 x15 r1)
def Qf1.f(K:Nat)(x5:(List Qm))(x9:Qu)(x13:Int)(x14:Bool)(x15:Int):Option (QJ×Bool):=
 (jn (fun(y1:Bool)=>(bif y1 then(some (YY,false))else((subI (x5) 0 x9.fSize).bind fun l1=>((XA.f K (l1)).bind fun r1=>((Ye.f K (x9.fSigs)).bind fun r2=>((ZX.l K x5 x9 x13 x14 x15 r1 K ((0:Int),x14,{x9 with fSigs:=r2},([]:List QD))).bind fun s1=>(match s1 with| .inl u1=>some u1| .inr u2=>(fun(z1:Bool×Qu×(List QD))=>((JE.f K ((QJ.mk (z1.1) (z1.2.1) (z1.2.2)))).bind fun r3=>(bif (!r3)then(some (YY,false))else(some ((QJ.mk (z1.1) (z1.2.1) (z1.2.2)),true))))) u2))))))) (fun j1=>((ZG.f K (x5)).bind fun r4=>(bif (!r4)then(j1 true)else(bif (decide ((400:Int)<((List.length (x5):Nat):Int)))then(j1 true)else(bif (decide (x9.fSize<(0:Int)))then(j1 true)else(j1 (decide (((List.length (x5):Nat):Int)<x9.fSize)))))))))
def QbB.f(K:Nat)(x1:(List Qm))(x5:Qu)(x9:Int):Option (QJ×Bool):=
 ((QeD.f K ((maxI (0:Int) x5.fSize))).bind fun r44=>((Qf1.f K (x1) (x5) (x9) (true) (r44)).bind fun r53=>(some (r53.1,r53.2))))
def QbC.f(K:Nat)(x5:Int)(x6:(List Qm))(x10:Int):Option (Int):=
 (some x5)
def Qdg.f(K:Nat)(x5:Int)(x6:(List Qm))(x10:Int):Option (Bool):=
 ((getI (x6) x5).bind fun x1=>(bif (!decide (x1.fKind=(6:Int)))then((getI (x6) x5).bind fun x2=>(some (decide (x2.fSaga=x10))))else(some false)))
def yZ.b(K:Nat)(x9:(List Qm))(x13:Qu)(x17:Int)(x18:Bool)(x19:Int)(x20:(List Qm))(x24:Int)(r2:((List (Vector Int 32))))(rec:(Int×Bool×Qu×(List QD))→Option (Sum ((QJ×Bool)) (Bool×Qu×(List QD))))(y1:Int×Bool×Qu×(List QD)):Option (Sum ((QJ×Bool)) (Bool×Qu×(List QD))):=
 (bif (decide (y1.1<x19))then(jn (fun(y2:Bool×Qu×(List QD))=>(rec ((IntKind.wrap .i64 (y1.1+(1:Int))),y2.1,y2.2.1,y2.2.2))) (fun j1=>((Qdg.f K (y1.1) (x20) (x24)).bind fun r3=>(bif r3 then(jn (fun(y4:Bool)=>(bif y4 then(some (Sum.inl (YY,false)))else((getI (x9) y1.1).bind fun x1=>((QaN.f K (x1) (y1.1) (x17)).bind fun r1=>(jn (fun(y3:Bool×Int×Qm×(List (Vector Int 32)))=>((catI 256 (y1.2.2.2) (([(QD.mk (y3.2.1) (y3.2.2.1) (y3.2.2.2))]:List QD))).bind fun l1=>(j1 (y1.2.1,y1.2.2.1,l1)))) (fun j2=>(bif (!x18)then((jZ.f K (r2) (y1.1)).bind fun r4=>(j2 (true,y1.1,r1,r4.1)))else(j2 (false,y1.1,r1,([]:List (Vector Int 32))))))))))) (fun j3=>(bif (decide (y1.1<(0:Int)))then(j3 true)else(j3 (decide (x13.fSize≤y1.1))))))else(j1 (y1.2.1,y1.2.2.1,y1.2.2.2))))))else(some (Sum.inr (y1.2.1,y1.2.2.1,y1.2.2.2))))
def yZ.l(K:Nat)(x9:(List Qm))(x13:Qu)(x17:Int)(x18:Bool)(x19:Int)(x20:(List Qm))(x24:Int)(r1:((List (Vector Int 32)))):Nat→(Int×Bool×Qu×(List QD))→Option (Sum ((QJ×Bool)) (Bool×Qu×(List QD))):=Jc (yZ.b K x9 x13 x17 x18 x19 x20 x24 r1)
def QcC.f(K:Nat)(x9:(List Qm))(x13:Qu)(x17:Int)(x18:Bool)(x19:Int)(x20:(List Qm))(x24:Int):Option (QJ×Bool):=
 (jn (fun(y1:Bool)=>(bif y1 then(some (YY,false))else((subI (x9) 0 x13.fSize).bind fun l1=>((XA.f K (l1)).bind fun r1=>((Ye.f K (x13.fSigs)).bind fun r2=>((yZ.l K x9 x13 x17 x18 x19 x20 x24 r1 K ((0:Int),x18,{x13 with fSigs:=r2},([]:List QD))).bind fun s1=>(match s1 with| .inl u1=>some u1| .inr u2=>(fun(z1:Bool×Qu×(List QD))=>((JE.f K ((QJ.mk (z1.1) (z1.2.1) (z1.2.2)))).bind fun r3=>(bif (!r3)then(some (YY,false))else(some ((QJ.mk (z1.1) (z1.2.1) (z1.2.2)),true))))) u2))))))) (fun j1=>((ZG.f K (x9)).bind fun r4=>(bif (!r4)then(j1 true)else(bif (decide ((400:Int)<((List.length (x9):Nat):Int)))then(j1 true)else(bif (decide (x13.fSize<(0:Int)))then(j1 true)else(j1 (decide (((List.length (x9):Nat):Int)<x13.fSize)))))))))
def Qf2.f(K:Nat)(x1:(List Qm))(x5:Qu)(x9:Int)(x10:Int):Option (QJ×Bool):=
 ((QbC.f K ((minI (maxI (0:Int) x5.fSize) ((List.length (x1):Nat):Int))) (x1) (x10)).bind fun r53=>((QcC.f K (x1) (x5) (x9) (false) (r53) (x1) (x10)).bind fun r62=>(some (r62.1,r62.2))))
def QeE.f(K:Nat)(x1:QT):Option ((List Int)):=
 ((qH.f K (x1.fWit)).bind fun r60=>((jJ.f K (x1.fTag)).bind fun r70=>((Y8.f K (([r60,r70]:List (List Int)))).bind fun r99=>(some r99))))
def qX.b(K:Nat)(x1:(List QT))(rec:((List Int)×Int)→Option ((List Int)))(y1:(List Int)×Int):Option ((List Int)):=
 (bif (decide (y1.2<((List.length (x1):Nat):Int)))then((getI (x1) y1.2).bind fun x2=>((QeE.f K (x2)).bind fun r1=>((catI 1 (y1.1) (r1)).bind fun l1=>(rec (l1,(IntKind.wrap .i64 (y1.2+(1:Int))))))))else(some y1.1))
def qX.l(K:Nat)(x1:(List QT)):Nat→((List Int)×Int)→Option ((List Int)):=Jc (qX.b K x1)
def X5.f(K:Nat)(x1:(List QT)):Option ((List Int)):=
 ((qH.f K (((List.length (x1):Nat):Int))).bind fun r1=>((qX.l K x1 K (r1,(0:Int))).bind fun z1=>(some z1)))
def QhE.f(K:Nat)(x1:(List Int)):Option ((List Int)):=
 ((qH.f K (((List.length (x1):Nat):Int))).bind fun r27=>((catI 1 (r27) (x1)).bind fun l37=>(some l37)))
def QhF.f(K:Nat)(x3:Qm):Option ((List Int)):=
 (bif x3.fGone then((Xk.f K (true)).bind fun r1=>((jJ.f K (x3.fCom)).bind fun r2=>((Y8.f K (([r1,r2]:List (List Int)))).bind fun r3=>(some r3))))else((Xk.f K (false)).bind fun r4=>((jJ.f K (x3.fSalt)).bind fun r5=>((QhE.f K (x3.fData)).bind fun r6=>((Y8.f K (([r4,r5,r6]:List (List Int)))).bind fun r7=>(some r7))))))
def QhG.f(K:Nat)(x3:Qm)(x10:Qm):Option ((List Int)):=
 ((qi.f K (x3)).bind fun r2=>(bif (!r2)then(some ([]:List Int))else(jn (fun(y1:(List Int))=>(bif (decide (x3.fKind=(1:Int)))then((QhF.f K (x10)).bind fun r3=>((catI 1 (y1) (r3)).bind fun l1=>(some l1)))else(some y1))) (fun j1=>((qH.f K (x3.fKind)).bind fun r1=>((Qde.f K).bind fun r16=>(bif decide (x3.fKind=(0:Int))then none else(bif decide (x3.fKind=(1:Int))then((Qbz.f K (x3)).bind fun r4=>((Y8.f K (([r1,r4]:List (List Int)))).bind fun r5=>(j1 r5)))else(bif decide (x3.fKind=(2:Int))then((ZH.f K (x3)).bind fun r6=>((Y8.f K (([r1,r6]:List (List Int)))).bind fun r7=>(j1 r7)))else(bif decide (x3.fKind=(3:Int))then((XX.f K (x3)).bind fun r8=>((Y8.f K (([r1,r8]:List (List Int)))).bind fun r9=>(j1 r9)))else(bif decide (x3.fKind=(4:Int))then((ZH.f K (x3)).bind fun r10=>((Y8.f K (([r1,r10]:List (List Int)))).bind fun r11=>(j1 r11)))else(bif decide (x3.fKind=(5:Int))then((XY.f K (x3)).bind fun r12=>((Y8.f K (([r1,r12]:List (List Int)))).bind fun r13=>(j1 r13)))else(bif decide (x3.fKind=(6:Int))then((XZ.f K (x3)).bind fun r14=>((Y8.f K (([r1,r14]:List (List Int)))).bind fun r15=>(j1 r15)))else none)))))))))))))
def Qil.f(K:Nat)(x1:Qm):Option ((List Int)):=
 ((QhG.f K (x1) (x1)).bind fun r27=>(some r27))
def qJ.b(K:Nat)(x1:(List (Vector Int 32)))(rec:((List Int)×Int)→Option ((List Int)))(y1:(List Int)×Int):Option ((List Int)):=
 (bif (decide (y1.2<((List.length (x1):Nat):Int)))then((getI (x1) y1.2).bind fun x2=>((jJ.f K (x2)).bind fun r1=>((catI 1 (y1.1) (r1)).bind fun l1=>(rec (l1,(IntKind.wrap .i64 (y1.2+(1:Int))))))))else(some y1.1))
def qJ.l(K:Nat)(x1:(List (Vector Int 32))):Nat→((List Int)×Int)→Option ((List Int)):=Jc (qJ.b K x1)
def Xu.f(K:Nat)(x1:(List (Vector Int 32))):Option ((List Int)):=
 ((qH.f K (((List.length (x1):Nat):Int))).bind fun r1=>((qJ.l K x1 K (r1,(0:Int))).bind fun z1=>(some z1)))
def Qf3.f(K:Nat)(x1:QD):Option ((List Int)):=
 ((qH.f K (x1.fAt)).bind fun r84=>((Qil.f K (x1.fRec)).bind fun r94=>((Xu.f K (x1.fPath)).bind fun r1=>((Y8.f K (([r84,r94,r1]:List (List Int)))).bind fun r2=>(some r2)))))
def qK.b(K:Nat)(x1:(List QD))(rec:((List Int)×Int)→Option ((List Int)))(y1:(List Int)×Int):Option ((List Int)):=
 (bif (decide (y1.2<((List.length (x1):Nat):Int)))then((getI (x1) y1.2).bind fun x2=>((Qf3.f K (x2)).bind fun r1=>((catI 1 (y1.1) (r1)).bind fun l1=>(rec (l1,(IntKind.wrap .i64 (y1.2+(1:Int))))))))else(some y1.1))
def qK.l(K:Nat)(x1:(List QD)):Nat→((List Int)×Int)→Option ((List Int)):=Jc (qK.b K x1)
def Xv.f(K:Nat)(x1:(List QD)):Option ((List Int)):=
 ((qH.f K (((List.length (x1):Nat):Int))).bind fun r1=>((qK.l K x1 K (r1,(0:Int))).bind fun z1=>(some z1)))
def QaO.b(K:Nat)(x1:QJ)(rec:((List Int)×Int)→Option ((List Int)))(y1:(List Int)×Int):Option ((List Int)):=
 (bif (decide (y1.2<((List.length (x1.fItems):Nat):Int)))then((getI (x1.fItems) y1.2).bind fun x2=>((Qil.f K (x2.fRec)).bind fun r1=>((catI 1 (y1.1) (r1)).bind fun l1=>(rec (l1,(IntKind.wrap .i64 (y1.2+(1:Int))))))))else(some y1.1))
def QaO.l(K:Nat)(x1:QJ):Nat→((List Int)×Int)→Option ((List Int)):=Jc (QaO.b K x1)
def Qan.f(K:Nat)(x1:QJ):Option ((List Int)):=
 ((JE.f K (x1)).bind fun r2=>(bif (!r2)then(some ([]:List Int))else((Xk.f K (x1.fWhole)).bind fun r3=>((qH.f K (x1.fPoint.fSize)).bind fun r4=>((jJ.f K (x1.fPoint.fRoot)).bind fun r5=>((X5.f K (x1.fPoint.fSigs)).bind fun r6=>((Y8.f K (([([(105:Int),(110:Int),(115:Int),(112:Int)]:List Int),r3,r4,r5,r6]:List (List Int)))).bind fun r1=>(bif (!x1.fWhole)then((Xv.f K (x1.fItems)).bind fun r7=>((catI 1 (r1) (r7)).bind fun l1=>(some l1)))else((QaO.l K x1 K (r1,(0:Int))).bind fun z1=>(some z1))))))))))
def Yo.fs(K:Nat)(x1:Bool)(x2:Int):Option (Sum Int Unit):=
 (bif (!x1)then(some (Sum.inl x2))else(some (Sum.inr ())))
def bytes_HasPrefix.f(K:Nat)(x1:(List Int))(x5:(List Int)):Option (Bool):=
 (bif (decide (((List.length (x5):Nat):Int)≤((List.length (x1):Nat):Int)))then((subI (x1) 0 ((List.length (x5):Nat):Int)).bind fun l39=>((bytes_Equal.f K (l39) (x5)).bind fun r44=>(some r44)))else(some false))
def bytes_CutPrefix.f(K:Nat)(x1:(List Int))(x5:(List Int)):Option ((List Int)×Bool):=
 ((bytes_HasPrefix.f K (x1) (x5)).bind fun r32=>(bif (!r32)then(some (x1,false))else((subI (x1) ((List.length (x5):Nat):Int) ((List.length (x1):Nat):Int)).bind fun l37=>(some (l37,true)))))
def Qdh.f(K:Nat)(x1:(List Int)):Option (Qk):=
 ((Q7.f K (x1)).bind fun r27=>(some (Qk.mk (r27) ((0:Int)))))
def QB.f(K:Nat)(x3:Qk):Option (Int):=
 (some x3.fBad)
def JS.f(K:Nat)(x1:(List Int)):Option (Bool×Int×Int):=
 (bif (decide (((List.length (x1):Nat):Int)=(0:Int)))then(some (false,(0:Int),(3:Int)))else((getI (x1) (0:Int)).bind fun x81=>(bif (decide ((1:Int)<x81))then(some (false,(0:Int),(2:Int)))else((getI (x1) (0:Int)).bind fun x2=>(some ((decide (x2=(1:Int))),(1:Int),(0:Int)))))))
def QZ.f(K:Nat)(x3:Int)(x4:Qk):Option (Qk):=
 (jn (fun(y20:Bool)=>(bif y20 then((some (Qk.mk (([]:List Int)) (x4.fBad))).bind fun v23=>((some (Qk.mk (([]:List Int)) (x3))).bind fun v25=>(some (Qk.mk (([]:List Int)) (v25.fBad)))))else(some x4))) (fun j27=>(bif (decide (x4.fBad=(0:Int)))then(j27 (!decide (x3=(0:Int))))else(j27 false))))
def qV.f(K:Nat)(x3:Qk):Option (Bool×Qk):=
 ((QB.f K (x3)).bind fun r54=>(bif (!decide (r54=(0:Int)))then(some (false,x3))else((JS.f K (x3.fB)).bind fun r59=>(bif (!decide (r59.2.2=(0:Int)))then((QZ.f K (r59.2.2) (x3)).bind fun r72=>(some (false,r72)))else((subI (x3.fB) r59.2.1 ((List.length (x3.fB):Nat):Int)).bind fun l80=>((some (Qk.mk (l80) (x3.fBad))).bind fun v85=>(some (r59.1,v85))))))))
def Yu.f(K:Nat)(x3:Qk):Option (Bool×Qk):=
 ((qV.f K (x3)).bind fun r18=>(some (r18.1,r18.2)))
def YF.b(K:Nat)(x1:(List Int))(rec:(Int×Int)→Option (Sum ((Int×Int×Int)) (Unit)))(y1:Int×Int):Option (Sum ((Int×Int×Int)) (Unit)):=
 (bif (decide (y1.2<((List.length (x1):Nat):Int)))then((getI (x1) y1.2).bind fun x2=>(jn (fun(y2:Bool)=>(bif y2 then(some (Sum.inl ((0:Int),(0:Int),(2:Int))))else(bif (decide (x2<(128:Int)))then(bif (decide ((2147483647:Int)<(bor .i64 (IntKind.wrap .i64 (y1.1*2^7)) (IntKind.wrap .i64 (Int.tmod x2 128)))))then(some (Sum.inl ((0:Int),(0:Int),(2:Int))))else(some (Sum.inl ((bor .i64 (IntKind.wrap .i64 (y1.1*2^7)) (IntKind.wrap .i64 (Int.tmod x2 128))),(IntKind.wrap .i64 (y1.2+(1:Int))),(0:Int)))))else(rec ((bor .i64 (IntKind.wrap .i64 (y1.1*2^7)) (IntKind.wrap .i64 (Int.tmod x2 128))),(IntKind.wrap .i64 (y1.2+(1:Int)))))))) (fun j1=>(bif (decide (y1.2=(0:Int)))then(bif (decide (x2=(128:Int)))then(j1 true)else(j1 (decide (y1.2=(5:Int)))))else(j1 (decide (y1.2=(5:Int))))))))else(some (Sum.inr ())))
def YF.l(K:Nat)(x1:(List Int)):Nat→(Int×Int)→Option (Sum ((Int×Int×Int)) (Unit)):=Jc (YF.b K x1)
def X6.f(K:Nat)(x1:(List Int)):Option (Int×Int×Int):=
 ((YF.l K x1 K ((0:Int),(0:Int))).bind fun s1=>(match s1 with| .inl u1=>some u1| .inr u2=>(fun(z1:Unit)=>(some ((0:Int),(0:Int),(3:Int)))) u2))
def yG.f(K:Nat)(x3:Qk):Option (Int×Qk):=
 ((QB.f K (x3)).bind fun r54=>(bif (!decide (r54=(0:Int)))then(some ((0:Int),x3))else((X6.f K (x3.fB)).bind fun r59=>(bif (!decide (r59.2.2=(0:Int)))then((QZ.f K (r59.2.2) (x3)).bind fun r72=>(some ((0:Int),r72)))else((subI (x3.fB) r59.2.1 ((List.length (x3.fB):Nat):Int)).bind fun l80=>((some (Qk.mk (l80) (x3.fBad))).bind fun v85=>(some (r59.1,v85))))))))
def Qz.f(K:Nat)(x3:Qk):Option (Int×Qk):=
 ((yG.f K (x3)).bind fun r18=>(some (r18.1,r18.2)))
def qZ.f(K:Nat)(x1:(List Int)):Option ((Vector Int 32)×Int×Int):=
 (bif (decide (((List.length (x1):Nat):Int)<(32:Int)))then(some ((Vector.replicate 32 (0:Int)),(0:Int),(3:Int)))else((subI (x1) 0 (32:Int)).bind fun l36=>(chk (decide (32≤List.length (l36))) (some ((vofL 32 (l36)),(32:Int),(0:Int))))))
def JU.f(K:Nat)(x3:Qk):Option ((Vector Int 32)×Qk):=
 ((QB.f K (x3)).bind fun r64=>(bif (!decide (r64=(0:Int)))then(some ((Vector.replicate 32 (0:Int)),x3))else((qZ.f K (x3.fB)).bind fun r69=>(bif (!decide (r69.2.2=(0:Int)))then((QZ.f K (r69.2.2) (x3)).bind fun r84=>(some ((Vector.replicate 32 (0:Int)),r84)))else((subI (x3.fB) r69.2.1 ((List.length (x3.fB):Nat):Int)).bind fun l92=>((some (Qk.mk (l92) (x3.fBad))).bind fun v97=>(some (r69.1,v97))))))))
def Yj.f(K:Nat)(x3:Qk):Option ((Vector Int 32)×Qk):=
 ((JU.f K (x3)).bind fun r22=>(some (r22.1,r22.2)))
def QbD.f(K:Nat)(x5:Int)(x6:Qk):Option (QT×Qk):=
 ((Qz.f K (x6)).bind fun r35=>((Yj.f K (r35.2)).bind fun r43=>((some (QT.mk (r35.1) (r43.1))).bind fun v51=>(some (v51,r43.2)))))
def QV.b(K:Nat)(x5:Int)(rec:((List QT)×Int×Qk)→Option ((List QT)×Qk))(y1:(List QT)×Int×Qk):Option ((List QT)×Qk):=
 (bif (decide (y1.2.1<x5))then((QB.f K (y1.2.2)).bind fun r2=>(bif (!decide (r2=(0:Int)))then(some (y1.1,y1.2.2))else((QbD.f K (y1.2.1) (y1.2.2)).bind fun r1=>((catI 40 (y1.1) (([r1.1]:List QT))).bind fun l1=>(rec (l1,(IntKind.wrap .i64 (y1.2.1+(1:Int))),r1.2))))))else(some (y1.1,y1.2.2)))
def QV.l(K:Nat)(x5:Int):Nat→((List QT)×Int×Qk)→Option ((List QT)×Qk):=Jc (QV.b K x5)
def JJ.f(K:Nat)(x5:Int)(x6:Int)(x7:Qk):Option ((List QT)×Qk):=
 (jn (fun(y1:Qk)=>((QV.l K x5 K (([]:List QT),(0:Int),y1)).bind fun z1=>(some (z1.1,z1.2)))) (fun j1=>(bif (decide (x6<x5))then((QZ.f K ((4:Int)) (x7)).bind fun r1=>(j1 r1))else(j1 x7))))
def YW.b(K:Nat)(r3:(Int×Qk))(rec:((List Qo)×Int×Qk)→Option ((List Qo)×Qk))(y1:(List Qo)×Int×Qk):Option ((List Qo)×Qk):=
 (bif (decide (y1.2.1<r3.1))then((QB.f K (y1.2.2)).bind fun r4=>(bif (!decide (r4=(0:Int)))then(some (y1.1,y1.2.2))else((Qz.f K (y1.2.2)).bind fun r1=>((Qz.f K (r1.2)).bind fun r2=>((catI 16 (y1.1) (([(Qo.mk (r1.1) (r2.1))]:List Qo))).bind fun l1=>(rec (l1,(IntKind.wrap .i64 (y1.2.1+(1:Int))),r2.2)))))))else(some (y1.1,y1.2.2)))
def YW.l(K:Nat)(r1:(Int×Qk)):Nat→((List Qo)×Int×Qk)→Option ((List Qo)×Qk):=Jc (YW.b K r1)
def QbE.f(K:Nat)(x3:Qk):Option ((List Qo)×Qk):=
 ((Qz.f K (x3)).bind fun r1=>(jn (fun(y1:Qk)=>((YW.l K r1 K (([]:List Qo),(0:Int),y1)).bind fun z1=>(some (z1.1,z1.2)))) (fun j1=>(bif (decide ((6:Int)<r1.1))then((QZ.f K ((2:Int)) (r1.2)).bind fun r2=>(j1 r2))else(j1 r1.2)))))
def Jn.f(K:Nat)(x3:(List Int))(x7:Int):Option ((List Int)×Int×Int):=
 ((X6.f K (x3)).bind fun r33=>(bif (!decide (r33.2.2=(0:Int)))then(some (([]:List Int),(0:Int),r33.2.2))else(bif (decide (x7<r33.1))then(some (([]:List Int),(0:Int),(4:Int)))else(bif (decide ((IntKind.wrap .i64 (((List.length (x3):Nat):Int)-r33.2.1))<r33.1))then(some (([]:List Int),(0:Int),(3:Int)))else((subI (x3) r33.2.1 (IntKind.wrap .i64 (r33.2.1+r33.1))).bind fun l41=>((Q7.f K (l41)).bind fun r46=>(some (r46,(IntKind.wrap .i64 (r33.2.1+r33.1)),(0:Int)))))))))
def J3.f(K:Nat)(x5:Qk)(x9:Int):Option ((List Int)×Qk):=
 ((QB.f K (x5)).bind fun r67=>(bif (!decide (r67=(0:Int)))then(some (([]:List Int),x5))else((Jn.f K (x5.fB) (x9)).bind fun r73=>(bif (!decide (r73.2.2=(0:Int)))then((QZ.f K (r73.2.2) (x5)).bind fun r91=>(some (([]:List Int),r91)))else((subI (x5.fB) r73.2.1 ((List.length (x5.fB):Nat):Int)).bind fun l1=>((some (Qk.mk (l1) (x5.fBad))).bind fun v1=>(some (r73.1,v1))))))))
def YD.f(K:Nat)(x3:Int)(x4:Qk):Option ((List Int)×Qk):=
 ((J3.f K (x4) (x3)).bind fun r33=>(some (r33.1,r33.2)))
def Qdi.f(K:Nat)(x3:Qk):Option (Qm×Qk):=
 ((Qz.f K (x3)).bind fun r1=>((some {Qp with fKind:=r1.1}).bind fun v1=>(jn (fun(y1:Qk×Int×Int×Int×Int×Int×Bool×Bool×Int×Int×Int×(Vector Int 32)×(List Qo)×(List Int)×(Vector Int 32)×Bool×(Vector Int 32))=>(jn (fun(y2:Qk)=>((QB.f K (y2)).bind fun r22=>(bif (!decide (r22=(0:Int)))then(some (Qp,y2))else((some (Qm.mk (y1.2.1) (y1.2.2.1) (y1.2.2.2.1) (y1.2.2.2.2.1) (y1.2.2.2.2.2.1) (y1.2.2.2.2.2.2.1) (y1.2.2.2.2.2.2.2.1) (y1.2.2.2.2.2.2.2.2.1) (y1.2.2.2.2.2.2.2.2.2.1) (y1.2.2.2.2.2.2.2.2.2.2.1) (y1.2.2.2.2.2.2.2.2.2.2.2.1) (y1.2.2.2.2.2.2.2.2.2.2.2.2.1) (y1.2.2.2.2.2.2.2.2.2.2.2.2.2.1) (y1.2.2.2.2.2.2.2.2.2.2.2.2.2.2.1) (y1.2.2.2.2.2.2.2.2.2.2.2.2.2.2.2.1) (y1.2.2.2.2.2.2.2.2.2.2.2.2.2.2.2.2))).bind fun v7=>(some (v7,y2)))))) (fun j3=>((qi.f K ((Qm.mk (y1.2.1) (y1.2.2.1) (y1.2.2.2.1) (y1.2.2.2.2.1) (y1.2.2.2.2.2.1) (y1.2.2.2.2.2.2.1) (y1.2.2.2.2.2.2.2.1) (y1.2.2.2.2.2.2.2.2.1) (y1.2.2.2.2.2.2.2.2.2.1) (y1.2.2.2.2.2.2.2.2.2.2.1) (y1.2.2.2.2.2.2.2.2.2.2.2.1) (y1.2.2.2.2.2.2.2.2.2.2.2.2.1) (y1.2.2.2.2.2.2.2.2.2.2.2.2.2.1) (y1.2.2.2.2.2.2.2.2.2.2.2.2.2.2.1) (y1.2.2.2.2.2.2.2.2.2.2.2.2.2.2.2.1) (y1.2.2.2.2.2.2.2.2.2.2.2.2.2.2.2.2)))).bind fun r23=>(bif (!r23)then((QZ.f K ((2:Int)) (y1.1)).bind fun r24=>(j3 r24))else(j3 y1.1)))))) (fun j1=>(bif (decide (v1.fKind=(1:Int)))then((Qz.f K (r1.2)).bind fun r5=>((QbE.f K (r5.2)).bind fun r3=>((some {v1 with fSaga:=r5.1}).bind fun v2=>((Yu.f K (r3.2)).bind fun r2=>(bif r2.1 then((Yj.f K (r2.2)).bind fun r6=>(j1 (r6.2,v2.fKind,v2.fSaga,v2.fSeq,v2.fStep,v2.fTry,v2.fBack,v2.fGood,v2.fEnd,v2.fPart,v2.fEpoch,v2.fTag,r3.1,v2.fData,v2.fSalt,r2.1,r6.1)))else((Yj.f K (r2.2)).bind fun r7=>((YD.f K ((60:Int)) (r7.2)).bind fun r8=>(j1 (r8.2,v2.fKind,v2.fSaga,v2.fSeq,v2.fStep,v2.fTry,v2.fBack,v2.fGood,v2.fEnd,v2.fPart,v2.fEpoch,v2.fTag,r3.1,r8.1,r7.1,r2.1,v2.fCom)))))))))else(jn (fun(y3:Bool)=>(bif y3 then((Qz.f K (r1.2)).bind fun r9=>((Qz.f K (r9.2)).bind fun r10=>((Qz.f K (r10.2)).bind fun r11=>((Qz.f K (r11.2)).bind fun r12=>((Yu.f K (r12.2)).bind fun r4=>((some {v1 with fSaga:=r9.1}).bind fun v8=>((some {v8 with fSeq:=r10.1}).bind fun v9=>((some {v9 with fStep:=r11.1}).bind fun v10=>((some {v10 with fTry:=r12.1}).bind fun v11=>((some {v11 with fBack:=r4.1}).bind fun v3=>(bif (decide (v3.fKind=(3:Int)))then((Yu.f K (r4.2)).bind fun r13=>((Qz.f K (r13.2)).bind fun r14=>((Qz.f K (r14.2)).bind fun r15=>((Yj.f K (r15.2)).bind fun r16=>((some {v3 with fGood:=r13.1}).bind fun v12=>((some {v12 with fPart:=r14.1}).bind fun v13=>((some {v13 with fEpoch:=r15.1}).bind fun v14=>((some {v14 with fTag:=r16.1}).bind fun v4=>(j1 (r16.2,v4.fKind,v4.fSaga,v4.fSeq,v4.fStep,v4.fTry,v4.fBack,v4.fGood,v4.fEnd,v4.fPart,v4.fEpoch,v4.fTag,v4.fSteps,v4.fData,v4.fSalt,v4.fGone,v4.fCom))))))))))else(j1 (r4.2,v3.fKind,v3.fSaga,v3.fSeq,v3.fStep,v3.fTry,v3.fBack,v3.fGood,v3.fEnd,v3.fPart,v3.fEpoch,v3.fTag,v3.fSteps,v3.fData,v3.fSalt,v3.fGone,v3.fCom)))))))))))))else(bif (decide (v1.fKind=(5:Int)))then((Qz.f K (r1.2)).bind fun r17=>((Qz.f K (r17.2)).bind fun r18=>((Qz.f K (r18.2)).bind fun r19=>((some {v1 with fSaga:=r17.1}).bind fun v15=>((some {v15 with fSeq:=r18.1}).bind fun v16=>((some {v16 with fEnd:=r19.1}).bind fun v5=>(j1 (r19.2,v5.fKind,v5.fSaga,v5.fSeq,v5.fStep,v5.fTry,v5.fBack,v5.fGood,v5.fEnd,v5.fPart,v5.fEpoch,v5.fTag,v5.fSteps,v5.fData,v5.fSalt,v5.fGone,v5.fCom))))))))else(bif (decide (v1.fKind=(6:Int)))then((Qz.f K (r1.2)).bind fun r20=>((Qz.f K (r20.2)).bind fun r21=>((some {v1 with fPart:=r20.1}).bind fun v17=>((some {v17 with fEpoch:=r21.1}).bind fun v6=>(j1 (r21.2,v6.fKind,v6.fSaga,v6.fSeq,v6.fStep,v6.fTry,v6.fBack,v6.fGood,v6.fEnd,v6.fPart,v6.fEpoch,v6.fTag,v6.fSteps,v6.fData,v6.fSalt,v6.fGone,v6.fCom))))))else((QZ.f K ((2:Int)) (r1.2)).bind fun r25=>(j1 (r25,v1.fKind,v1.fSaga,v1.fSeq,v1.fStep,v1.fTry,v1.fBack,v1.fGood,v1.fEnd,v1.fPart,v1.fEpoch,v1.fTag,v1.fSteps,v1.fData,v1.fSalt,v1.fGone,v1.fCom))))))) (fun j2=>(bif (decide (v1.fKind=(2:Int)))then(j2 true)else(bif (decide (v1.fKind=(4:Int)))then(j2 true)else(j2 (decide (v1.fKind=(3:Int)))))))))))))
def ZK.f(K:Nat)(x5:Int)(x6:Qk):Option (QD×Qk):=
 ((Qdi.f K (x6)).bind fun r45=>((some (QD.mk (x5) (r45.1) (([]:List (Vector Int 32))))).bind fun v59=>(some (v59,r45.2))))
def QO.b(K:Nat)(x5:Int)(rec:((List QD)×Int×Qk)→Option ((List QD)×Qk))(y1:(List QD)×Int×Qk):Option ((List QD)×Qk):=
 (bif (decide (y1.2.1<x5))then((QB.f K (y1.2.2)).bind fun r2=>(bif (!decide (r2=(0:Int)))then(some (y1.1,y1.2.2))else((ZK.f K (y1.2.1) (y1.2.2)).bind fun r1=>((catI 256 (y1.1) (([r1.1]:List QD))).bind fun l1=>(rec (l1,(IntKind.wrap .i64 (y1.2.1+(1:Int))),r1.2))))))else(some (y1.1,y1.2.2)))
def QO.l(K:Nat)(x5:Int):Nat→((List QD)×Int×Qk)→Option ((List QD)×Qk):=Jc (QO.b K x5)
def Jw.f(K:Nat)(x5:Int)(x6:Int)(x7:Qk):Option ((List QD)×Qk):=
 (jn (fun(y1:Qk)=>((QO.l K x5 K (([]:List QD),(0:Int),y1)).bind fun z1=>(some (z1.1,z1.2)))) (fun j1=>(bif (decide (x6<x5))then((QZ.f K ((4:Int)) (x7)).bind fun r1=>(j1 r1))else(j1 x7))))
def ZY.f(K:Nat)(x5:Int)(x6:Qk):Option ((Vector Int 32)×Qk):=
 ((Yj.f K (x6)).bind fun r25=>(some (r25.1,r25.2)))
def QP.b(K:Nat)(x5:Int)(rec:((List (Vector Int 32))×Int×Qk)→Option ((List (Vector Int 32))×Qk))(y1:(List (Vector Int 32))×Int×Qk):Option ((List (Vector Int 32))×Qk):=
 (bif (decide (y1.2.1<x5))then((QB.f K (y1.2.2)).bind fun r2=>(bif (!decide (r2=(0:Int)))then(some (y1.1,y1.2.2))else((ZY.f K (y1.2.1) (y1.2.2)).bind fun r1=>((catI 32 (y1.1) (([r1.1]:List (Vector Int 32)))).bind fun l1=>(rec (l1,(IntKind.wrap .i64 (y1.2.1+(1:Int))),r1.2))))))else(some (y1.1,y1.2.2)))
def QP.l(K:Nat)(x5:Int):Nat→((List (Vector Int 32))×Int×Qk)→Option ((List (Vector Int 32))×Qk):=Jc (QP.b K x5)
def J8.f(K:Nat)(x5:Int)(x6:Int)(x7:Qk):Option ((List (Vector Int 32))×Qk):=
 (jn (fun(y1:Qk)=>((QP.l K x5 K (([]:List (Vector Int 32)),(0:Int),y1)).bind fun z1=>(some (z1.1,z1.2)))) (fun j1=>(bif (decide (x6<x5))then((QZ.f K ((4:Int)) (x7)).bind fun r1=>(j1 r1))else(j1 x7))))
def ZL.f(K:Nat)(x5:Int)(x6:Qk):Option (QD×Qk):=
 ((Qz.f K (x6)).bind fun r1=>((Qdi.f K (r1.2)).bind fun r2=>((some (QD.mk (r1.1) (r2.1) (([]:List (Vector Int 32))))).bind fun v1=>((Qz.f K (r2.2)).bind fun r3=>((J8.f K (r3.1) ((20:Int)) (r3.2)).bind fun r4=>(some ({v1 with fPath:=r4.1},r4.2)))))))
def QH.b(K:Nat)(x5:Int)(rec:((List QD)×Int×Qk)→Option ((List QD)×Qk))(y1:(List QD)×Int×Qk):Option ((List QD)×Qk):=
 (bif (decide (y1.2.1<x5))then((QB.f K (y1.2.2)).bind fun r2=>(bif (!decide (r2=(0:Int)))then(some (y1.1,y1.2.2))else((ZL.f K (y1.2.1) (y1.2.2)).bind fun r1=>((catI 256 (y1.1) (([r1.1]:List QD))).bind fun l1=>(rec (l1,(IntKind.wrap .i64 (y1.2.1+(1:Int))),r1.2))))))else(some (y1.1,y1.2.2)))
def QH.l(K:Nat)(x5:Int):Nat→((List QD)×Int×Qk)→Option ((List QD)×Qk):=Jc (QH.b K x5)
def Je.f(K:Nat)(x5:Int)(x6:Int)(x7:Qk):Option ((List QD)×Qk):=
 (jn (fun(y1:Qk)=>((QH.l K x5 K (([]:List QD),(0:Int),y1)).bind fun z1=>(some (z1.1,z1.2)))) (fun j1=>(bif (decide (x6<x5))then((QZ.f K ((4:Int)) (x7)).bind fun r1=>(j1 r1))else(j1 x7))))
def Y3.f(K:Nat)(x3:Qk):Option (Int):=
 ((QB.f K (x3)).bind fun r22=>(bif (!decide (r22=(0:Int)))then(some r22)else(bif (decide ((0:Int)<((List.length (x3.fB):Nat):Int)))then(some (2:Int))else(some (0:Int)))))
def Qao.f(K:Nat)(x1:(List Int)):Option (QJ×Int):=
 ((bytes_CutPrefix.f K (x1) (([(105:Int),(110:Int),(115:Int),(112:Int)]:List Int))).bind fun r3=>(bif (!r3.2)then(some (YY,(2:Int)))else((Qdh.f K (r3.1)).bind fun r11=>((Yu.f K (r11)).bind fun r4=>((some {YY with fWhole:=r4.1}).bind fun v3=>((Qz.f K (r4.2)).bind fun r2=>((some {v3 with fPoint:={v3.fPoint with fSize:=r2.1} }).bind fun v2=>(jn (fun(y2:Qk)=>((Yj.f K (y2)).bind fun r5=>((some {v2 with fPoint:={v2.fPoint with fRoot:=r5.1} }).bind fun v1=>((Qz.f K (r5.2)).bind fun r6=>((JJ.f K (r6.1) ((4:Int)) (r6.2)).bind fun r1=>(jn (fun(y1:Bool×Int×(Vector Int 32)×(List QT)×(List QD)×Qk)=>((Y3.f K (y1.2.2.2.2.2)).bind fun r7=>(bif (!decide (r7=(0:Int)))then(some (YY,r7))else((JE.f K ((QJ.mk (y1.1) ((Qu.mk (y1.2.1) (y1.2.2.1) (y1.2.2.2.1))) (y1.2.2.2.2.1)))).bind fun r12=>(bif (!r12)then(some (YY,(2:Int)))else(some ((QJ.mk (y1.1) ((Qu.mk (y1.2.1) (y1.2.2.1) (y1.2.2.2.1))) (y1.2.2.2.2.1)),(0:Int)))))))) (fun j1=>(bif v1.fWhole then((Jw.f K (v1.fPoint.fSize) ((400:Int)) (r1.2)).bind fun r8=>(j1 (v1.fWhole,v1.fPoint.fSize,v1.fPoint.fRoot,r1.1,r8.1,r8.2)))else((Qz.f K (r1.2)).bind fun r9=>((Je.f K (r9.1) (v1.fPoint.fSize) (r9.2)).bind fun r10=>(j1 (v1.fWhole,v1.fPoint.fSize,v1.fPoint.fRoot,r1.1,r10.1,r10.2)))))))))))) (fun j2=>(bif (decide ((400:Int)<v2.fPoint.fSize))then((QZ.f K ((4:Int)) (r2.2)).bind fun r13=>(j2 r13))else(j2 r2.2)))))))))))
def QaP.f(K:Nat)(x7:Int)(x8:Int)(x9:(Vector Int 32))(x10:(Vector Int 32)):Option (Int):=
 (chk (inA 32 x7) (chk (inA 32 x7) (some (bor .u8 x8 (bxor .u8 (vget (x9) (Int.toNat (x7))) (vget (x10) (Int.toNat (x7))))))))
def Ym.b(K:Nat)(x1:(Vector Int 32))(x2:(Vector Int 32))(rec:(Int×Int)→Option (Int))(y1:Int×Int):Option (Int):=
 (bif (decide (y1.1<(32:Int)))then((QaP.f K (y1.1) (y1.2) (x1) (x2)).bind fun r1=>(rec ((IntKind.wrap .i64 (y1.1+(1:Int))),r1)))else(some y1.2))
def Ym.l(K:Nat)(x1:(Vector Int 32))(x2:(Vector Int 32)):Nat→(Int×Int)→Option (Int):=Jc (Ym.b K x1 x2)
def X7.f(K:Nat)(x1:(Vector Int 32))(x2:(Vector Int 32)):Option (Bool):=
 ((Ym.l K x1 x2 K ((0:Int),(0:Int))).bind fun z1=>(some (decide (z1=(0:Int)))))
def Xm.f(K:Nat)(x1:XT)(x2:(Vector Int 32)):Option (Bool):=
 ((X7.f K (x1.fTag) (x2)).bind fun r16=>(some r16))
def Jf.b(K:Nat)(x1:QC)(x8:Qu)(rec:(Int×(List Bool))→Option (Sum ((Int)) (Unit)))(y1:Int×(List Bool)):Option (Sum ((Int)) (Unit)):=
 (bif (decide (y1.1<((List.length (x8.fSigs):Nat):Int)))then((getI (x8.fSigs) y1.1).bind fun x2=>(jn (fun(y2:Bool)=>(bif y2 then(some (Sum.inl (8:Int)))else((X4.f K (x1) (x2.fWit) (x8)).bind fun r1=>((Xm.f K ((XT.mk (r1))) (x2.fTag)).bind fun r2=>(bif (!r2)then(some (Sum.inl (8:Int)))else(chk (inA 4 x2.fWit) ((some (List.set (y1.2) (Int.toNat (x2.fWit)) (true))).bind fun v1=>(rec ((IntKind.wrap .i64 (y1.1+(1:Int))),v1))))))))) (fun j1=>((Ju.f K (x2.fWit) ((0:Int)) ((IntKind.wrap .i64 (((List.length (x1.fWits):Nat):Int)-(1:Int))))).bind fun r3=>(bif (!r3)then(j1 true)else(chk (inA 4 x2.fWit) ((getI (y1.2) x2.fWit).bind fun x3=>(j1 x3))))))))else(some (Sum.inr ())))
def Jf.l(K:Nat)(x1:QC)(x8:Qu):Nat→(Int×(List Bool))→Option (Sum ((Int)) (Unit)):=Jc (Jf.b K x1 x8)
def Qap.f(K:Nat)(x1:QC)(x8:Qu):Option (Int):=
 (jn (fun(y1:Bool)=>(bif y1 then(some (1:Int))else((Jf.l K x1 x8 K ((0:Int),([false,false,false,false]:List Bool))).bind fun s1=>(match s1 with| .inl u1=>some u1| .inr u2=>(fun(z1:Unit)=>(bif (decide (((List.length (x8.fSigs):Nat):Int)<x1.fNeed))then(some (8:Int))else(some (0:Int)))) u2)))) (fun j1=>((ZE.f K (x1)).bind fun r1=>(bif (!r1)then(j1 true)else((Ju.f K (x8.fSize) ((0:Int)) ((400:Int))).bind fun r2=>(j1 (!r2)))))))
def y7.f(K:Nat)(x1:Qm):Option ((Vector Int 32)):=
 ((Qam.f K (x1)).bind fun r36=>((QbA.f K (r36)).bind fun r51=>(some r51)))
def qL.f(K:Nat)(x3:(List (Vector Int 32)))(x9:Int):Option ((Vector Int 32)×(List (Vector Int 32))×Int):=
 ((getI (x3) (IntKind.wrap .i64 (((List.length (x3):Nat):Int)-(1:Int)))).bind fun x29=>((getI (x3) (IntKind.wrap .i64 (((List.length (x3):Nat):Int)-(1:Int)))).bind fun x33=>((subI (x3) 0 (IntKind.wrap .i64 (((List.length (x3):Nat):Int)-(1:Int)))).bind fun l36=>(some (x33,l36,x9)))))
def qj.f(K:Nat)(x3:(Vector Int 32))(x4:(List (Vector Int 32)))(x10:Int):Option ((List (Vector Int 32))×Int):=
 ((catI 32 (x4) (([x3]:List (Vector Int 32)))).bind fun l55=>(some (l55,x10)))
def Jo.b(K:Nat)(rec:(Int×(List (Vector Int 32))×Int×(Vector Int 32))→Option ((List (Vector Int 32))×Int×(Vector Int 32)))(y1:Int×(List (Vector Int 32))×Int×(Vector Int 32)):Option ((List (Vector Int 32))×Int×(Vector Int 32)):=
 (bif (decide ((Int.tmod y1.1 2)=(1:Int)))then((qL.f K (y1.2.1) (y1.2.2.1)).bind fun r1=>((Xl.f K (r1.1) (y1.2.2.2)).bind fun r2=>(rec ((IntKind.wrap .i64 (Int.tdiv y1.1 2)),r1.2.1,r1.2.2,r2))))else(some (y1.2.1,y1.2.2.1,y1.2.2.2)))
def Jo.l(K:Nat):Nat→(Int×(List (Vector Int 32))×Int×(Vector Int 32))→Option ((List (Vector Int 32))×Int×(Vector Int 32)):=Jc (Jo.b K)
def Xe.f(K:Nat)(x3:(Vector Int 32))(x4:(List (Vector Int 32)))(x10:Int):Option ((List (Vector Int 32))×Int):=
 ((Jo.l K K (x10,x4,x10,x3)).bind fun z1=>((qj.f K (z1.2.2) (z1.1) (z1.2.1)).bind fun r1=>(some (r1.1,(IntKind.wrap .i64 (r1.2+(1:Int)))))))
def X8.f(K:Nat)(x3:(List (Vector Int 32)))(x9:Int):Option (Int×(List (Vector Int 32))×Int):=
 (some (x9,x3,x9))
def ql.f(K:Nat)(x3:(List (Vector Int 32)))(x9:Int):Option ((List (Vector Int 32))×Int):=
 (some (x3,x9))
def YH.b(K:Nat)(r1:((List (Vector Int 32))×Int))(rec:(Int×(Vector Int 32)×Bool)→Option ((Vector Int 32)×Bool))(y1:Int×(Vector Int 32)×Bool):Option ((Vector Int 32)×Bool):=
 (bif (decide ((0:Int)≤y1.1))then(jn (fun(y2:(Vector Int 32)×Bool)=>(rec ((IntKind.wrap .i64 (y1.1-(1:Int))),y2.1,y2.2))) (fun j1=>((getI (r1.1) y1.1).bind fun x2=>((getI (r1.1) y1.1).bind fun x1=>(bif y1.2.2 then(j1 (x1,false))else((Xl.f K (x1) (y1.2.1)).bind fun r2=>(j1 (r2,y1.2.2))))))))else(some (y1.2.1,y1.2.2)))
def YH.l(K:Nat)(r1:((List (Vector Int 32))×Int)):Nat→(Int×(Vector Int 32)×Bool)→Option ((Vector Int 32)×Bool):=Jc (YH.b K r1)
def yH.f(K:Nat)(x3:(List (Vector Int 32)))(x9:Int):Option ((Vector Int 32)×(List (Vector Int 32))×Int):=
 ((X8.f K (x3) (x9)).bind fun r1=>(bif (decide (r1.1=(0:Int)))then((shaQ.f K (([]:List (List Int)))).bind fun r3=>(some (r3,r1.2.1,r1.2.2)))else((ql.f K (r1.2.1) (r1.2.2)).bind fun r2=>((YH.l K r2 K ((IntKind.wrap .i64 (((List.length (r2.1):Nat):Int)-(1:Int))),(Vector.replicate 32 (0:Int)),true)).bind fun z1=>(some (z1.1,r2.1,r2.2))))))
def Qch.f(K:Nat)(x1:QC)(x8:Qm):Option (Bool):=
 ((je.f K (x1) (x8)).bind fun r63=>(jn (fun(y83:Bool)=>(some y83)) (fun j86=>((qi.f K (x8)).bind fun r88=>(bif r88 then(bif (decide (x8.fKind=(3:Int)))then((XK.f K (x1) (x8.fPart) (x8.fEpoch)).bind fun r93=>(bif r93 then((Xm.f K ((XT.mk (r63))) (x8.fTag)).bind fun r98=>(j86 r98))else(j86 false)))else(j86 false))else(j86 false))))))
def Y6.fs(K:Nat)(x1:YS)(x8:Qm):Option (Sum Int Unit):=
 (bif (!decide (x8.fKind=(3:Int)))then(sm (Yo.fs K (true) ((7:Int))) (fun e53=>(some (Sum.inl e53))) (fun r51=>(some (Sum.inr ()))))else((Qch.f K (x1.fK) (x8)).bind fun r40=>(sm (Yo.fs K (r40) ((7:Int))) (fun e47=>(some (Sum.inl e47))) (fun r45=>(some (Sum.inr ()))))))
def qM.f(K:Nat)(x1:Int)(x2:Int)(x3:Int):Option (Bool):=
 (bif (decide (x2≤x1))then(some (decide (x1≤x3)))else(some false))
def JK.b(K:Nat)(x1:(List Qo))(rec:(Int×Int)→Option (Sum ((Bool)) (Unit)))(y1:Int×Int):Option (Sum ((Bool)) (Unit)):=
 (bif (decide (y1.2<((List.length (x1):Nat):Int)))then(jn (fun(y2:Int)=>(rec (y2,(IntKind.wrap .i64 (y1.2+(1:Int)))))) (fun j1=>((getI (x1) y1.2).bind fun x2=>(jn (fun(y3:Bool)=>(bif y3 then(some (Sum.inl false))else(bif (decide (x2.fKind=(2:Int)))then(j1 (3:Int))else(j1 x2.fKind)))) (fun j2=>((qM.f K (x2.fPart) ((0:Int)) ((3:Int))).bind fun r1=>(bif (!r1)then(j2 true)else((qM.f K (x2.fKind) (y1.1) ((3:Int))).bind fun r2=>(j2 (!r2))))))))))else(some (Sum.inr ())))
def JK.l(K:Nat)(x1:(List Qo)):Nat→(Int×Int)→Option (Sum ((Bool)) (Unit)):=Jc (JK.b K x1)
def Qci.f(K:Nat)(x1:(List Qo)):Option (Bool):=
 ((qM.f K (((List.length (x1):Nat):Int)) ((1:Int)) ((6:Int))).bind fun r1=>(bif (!r1)then(some false)else((JK.l K x1 K ((1:Int),(0:Int))).bind fun s1=>(match s1 with| .inl u1=>some u1| .inr u2=>(fun(z1:Unit)=>(some true)) u2))))
def Qdj.f(K:Nat)(x1:(List Qo)):Option (QF):=
 ((Qci.f K (x1)).bind fun r45=>(bif (!r45)then(some Q8)else((QK.f K (x1)).bind fun r50=>((some {Q8 with fSteps:=r50,fSeq:=(1:Int) }).bind fun v65=>(some v65)))))
def Qcj.f(K:Nat)(x1:Yi)(x5:Qm)(x12:Int):Option (Yi×Bool):=
 (jn (fun(y1:Bool)=>(bif y1 then(some (x1,false))else((QQ.f K (x1.fSagas)).bind fun r1=>((Qdj.f K (x5.fSteps)).bind fun r2=>((catI 88 (r1) (([r2]:List QF))).bind fun l1=>(some ((Yi.mk (x1.fEpochs) (l1)),true))))))) (fun j1=>(bif (!decide (x5.fSaga=((List.length (x1.fSagas):Nat):Int)))then(j1 true)else(bif (decide ((12:Int)≤((List.length (x1.fSagas):Nat):Int)))then(j1 true)else((Qci.f K (x5.fSteps)).bind fun r3=>(j1 (!r3)))))))
def QbF.f(K:Nat)(x1:QF):Option (Bool):=
 ((qM.f K (x1.fPhase) ((2:Int)) ((4:Int))).bind fun r14=>(some r14))
def Qdk.f(K:Nat)(x1:(List Qo)):Option ((List Qo)):=
 (some x1)
def Yn.b(K:Nat)(x1:QF)(r1:((List Qo)))(rec:Int→Option (Sum ((Int)) (Unit)))(y1:Int):Option (Sum ((Int)) (Unit)):=
 (bif (decide ((0:Int)≤y1))then((getI (r1) y1).bind fun x2=>(jn (fun(y2:Bool)=>(bif y2 then(some (Sum.inl y1))else(rec (IntKind.wrap .i64 (y1-(1:Int)))))) (fun j1=>(bif (decide (x2.fKind=(1:Int)))then(chk (!(decide (y1<0))) (j1 (decide ((band .i64 (Int.fdiv (Qh5 .i64 (bor .i64 x1.fDone x1.fSome) x1.fUndone) (2^(min (Int.toNat y1) 64))) (1:Int))=(1:Int)))))else(j1 false)))))else(some (Sum.inr ())))
def Yn.l(K:Nat)(x1:QF)(r1:((List Qo))):Nat→(Int)→Option (Sum ((Int)) (Unit)):=Jc (Yn.b K x1 r1)
def jR.f(K:Nat)(x1:QF):Option (Int):=
 ((Qdk.f K (x1.fSteps)).bind fun r1=>((Yn.l K x1 r1 K (IntKind.wrap .i64 (((List.length (r1):Nat):Int)-(1:Int)))).bind fun s1=>(match s1 with| .inl u1=>some u1| .inr u2=>(fun(z1:Unit)=>(some (-1:Int))) u2)))
def JL.f(K:Nat)(x1:QF):Option (Int):=
 (bif (decide (x1.fPhase=(1:Int)))then((jR.f K (x1)).bind fun r24=>(some r24))else(bif (decide (x1.fAt<((List.length (x1.fSteps):Nat):Int)))then(some x1.fAt)else(some (-1:Int))))
def Qdl.f(K:Nat)(x1:QF)(x5:Int):Option (Qm×Bool):=
 (jn (fun(y1:Bool)=>(bif y1 then(some (Qp,false))else((JL.f K (x1)).bind fun r1=>(jn (fun(y2:Bool)=>(bif y2 then((some {Qp with fKind:=(5:Int),fEnd:=(2:Int) }).bind fun v1=>(some (v1,true)))else(bif (decide (r1<(0:Int)))then((some {Qp with fKind:=(5:Int),fEnd:=(3:Int) }).bind fun v2=>(some (v2,true)))else(bif (decide (x1.fTries<x5))then((some {Qp with fKind:=(2:Int),fStep:=r1,fTry:=(IntKind.wrap .i64 (x1.fTries+(1:Int))),fBack:=(decide (x1.fPhase=(1:Int))) }).bind fun v3=>(some (v3,true)))else((some {Qp with fKind:=(5:Int),fEnd:=(4:Int) }).bind fun v4=>(some (v4,true))))))) (fun j2=>(bif (decide (r1<(0:Int)))then(j2 (decide (x1.fPhase=(0:Int))))else(j2 false))))))) (fun j1=>(bif x1.fWait then(j1 true)else((QbF.f K (x1)).bind fun r2=>(bif r2 then(j1 true)else(bif (decide (((List.length (x1.fSteps):Nat):Int)=(0:Int)))then(j1 true)else((qM.f K (x5) ((1:Int)) ((9:Int))).bind fun r3=>(j1 (!r3)))))))))
def X9.f(K:Nat)(x1:QF)(x5:QF)(x9:Bool):Option (QF×Bool):=
 (bif x9 then(some (x5,true))else(some (x1,false)))
def QcO.f(K:Nat)(x1:Qm):Option (QaL):=
 ((some (QaL.mk (x1.fKind) (x1.fStep) (x1.fTry) (x1.fBack) (x1.fEnd))).bind fun v18=>(some v18))
def Qf4.f(K:Nat)(x1:QF):Option (QF):=
 ((some {x1 with fPhase:=(1:Int) }).bind fun v22=>((some {v22 with fTries:=(0:Int) }).bind fun v25=>(some v25)))
def XB.f(K:Nat)(x1:QF)(x5:Qm):Option (QF):=
 ((JL.f K (x1)).bind fun r1=>(chk (!(decide (r1<0))) (jn (fun(y1:QF)=>((some {y1 with fWait:=false}).bind fun v1=>((some {v1 with fBack:=false}).bind fun v2=>(some v2)))) (fun j1=>(jn (fun(y2:Bool)=>(bif y2 then((some {x1 with fUndone:=(bor .i64 x1.fUndone (IntKind.wrap .i64 ((1:Int)*2^(min (Int.toNat r1) 64)))) }).bind fun v3=>((some {v3 with fTries:=(0:Int) }).bind fun v4=>(j1 v4)))else(bif x1.fBack then(j1 x1)else(bif x5.fGood then((some {x1 with fDone:=(bor .i64 x1.fDone (IntKind.wrap .i64 ((1:Int)*2^(min (Int.toNat r1) 64)))) }).bind fun v5=>((some {v5 with fSome:=(Qh5 .i64 x1.fSome (IntKind.wrap .i64 ((1:Int)*2^(min (Int.toNat r1) 64)))) }).bind fun v6=>((some {v6 with fAt:=(IntKind.wrap .i64 (x1.fAt+(1:Int))) }).bind fun v7=>((some {v7 with fTries:=(0:Int) }).bind fun v8=>(j1 v8)))))else((getI (x1.fSteps) r1).bind fun x2=>(bif (!decide (x2.fKind=(3:Int)))then((some {x1 with fSome:=(Qh5 .i64 x1.fSome (IntKind.wrap .i64 ((1:Int)*2^(min (Int.toNat r1) 64)))) }).bind fun v9=>((Qf4.f K (v9)).bind fun r2=>(j1 r2)))else(j1 x1))))))) (fun j2=>(bif x1.fBack then(j2 x5.fGood)else(j2 false))))))))
def QaQ.f(K:Nat)(x1:QF)(x5:Int):Option (QF):=
 ((JL.f K (x1)).bind fun r1=>(bif (!x1.fBack)then(chk (!(decide (r1<0))) ((some {x1 with fSome:=(bor .i64 x1.fSome (IntKind.wrap .i64 ((1:Int)*2^(min (Int.toNat r1) 64)))) }).bind fun v1=>(jn (fun(y1:Bool)=>(bif y1 then((Qf4.f K (v1)).bind fun r2=>((some {r2 with fWait:=false}).bind fun v2=>((some {v2 with fBack:=false}).bind fun v3=>(some v3))))else((some {v1 with fWait:=false}).bind fun v4=>((some {v4 with fBack:=false}).bind fun v5=>(some v5))))) (fun j1=>((getI (v1.fSteps) r1).bind fun x2=>(bif (decide (x2.fKind=(1:Int)))then(j1 (decide (v1.fTries=x5)))else(j1 false)))))))else((some {x1 with fWait:=false}).bind fun v6=>((some {v6 with fBack:=false}).bind fun v7=>(some v7)))))
def Qf5.f(K:Nat)(x1:QF)(x5:Qm)(x12:Int):Option (QF×Bool):=
 (jn (fun(y1:Bool)=>(bif y1 then(some (x1,false))else((some {x1 with fSeq:=(IntKind.wrap .i64 (x1.fSeq+(1:Int))) }).bind fun v1=>((Qdl.f K (x1) (x12)).bind fun r5=>(jn (fun(y4:Unit)=>(bif (!decide (x5.fKind=(4:Int)))then(some (x1,false))else((QaQ.f K (v1) (x12)).bind fun r10=>(some (r10,true))))) (fun j3=>(bif (decide (x5.fKind=(2:Int)))then((some {v1 with fWait:=true}).bind fun v4=>((some {v4 with fTries:=x5.fTry}).bind fun v5=>((some {v5 with fBack:=x5.fBack}).bind fun v2=>(bif r5.2 then((QcO.f K (r5.1)).bind fun r1=>((QcO.f K (x5)).bind fun r2=>((X9.f K (x1) (v2) (((decide (r1.fKind=r2.fKind))&&((decide (r1.fStep=r2.fStep))&&((decide (r1.fTry=r2.fTry))&&((r1.fBack==r2.fBack)&&((decide (r1.fEnd=r2.fEnd))&&true))))))).bind fun r6=>(some (r6.1,r6.2)))))else((X9.f K (x1) (v2) (false)).bind fun r7=>(some (r7.1,r7.2)))))))else(bif (decide (x5.fKind=(5:Int)))then((some {v1 with fPhase:=x5.fEnd}).bind fun v3=>(bif r5.2 then((QcO.f K (r5.1)).bind fun r3=>((QcO.f K (x5)).bind fun r4=>((X9.f K (x1) (v3) (((decide (r3.fKind=r4.fKind))&&((decide (r3.fStep=r4.fStep))&&((decide (r3.fTry=r4.fTry))&&((r3.fBack==r4.fBack)&&((decide (r3.fEnd=r4.fEnd))&&true))))))).bind fun r8=>(some (r8.1,r8.2)))))else((X9.f K (x1) (v3) (false)).bind fun r9=>(some (r9.1,r9.2)))))else(jn (fun(y2:Bool)=>(bif y2 then(jn (fun(y3:Bool)=>(bif y3 then(some (x1,false))else(bif (decide (x5.fKind=(3:Int)))then((XB.f K (v1) (x5)).bind fun r11=>(some (r11,true)))else(j3 ())))) (fun j1=>(bif (!x1.fWait)then(j1 true)else((JL.f K (x1)).bind fun r12=>(bif (!decide (x5.fStep=r12))then(j1 true)else(bif (!decide (x5.fTry=x1.fTries))then(j1 true)else(j1 (!(x5.fBack==x1.fBack)))))))))else(j3 ()))) (fun j4=>(bif (decide (x5.fKind=(3:Int)))then(j4 true)else(j4 (decide (x5.fKind=(4:Int))))))))))))))) (fun j2=>(bif (!decide (x5.fSeq=x1.fSeq))then(j2 true)else(bif (decide (((List.length (x1.fSteps):Nat):Int)=(0:Int)))then(j2 true)else((QbF.f K (x1)).bind fun r13=>(bif r13 then(j2 true)else((qM.f K (x12) ((1:Int)) ((9:Int))).bind fun r14=>(j2 (!r14)))))))))
def Za.f(K:Nat)(x1:Yi)(x5:Qm)(x12:Int):Option (Yi×Bool):=
 (bif (decide (((List.length (x1.fSagas):Nat):Int)≤x5.fSaga))then(some (x1,false))else((getI (x1.fSagas) x5.fSaga).bind fun x2=>((Qf5.f K (x2) (x5) (x12)).bind fun r1=>(bif (!r1.2)then(some (x1,false))else((QQ.f K (x1.fSagas)).bind fun r2=>((getI (r2) x5.fSaga).bind fun x3=>(some ((Yi.mk (x1.fEpochs) ((List.set (r2) (Int.toNat (x5.fSaga)) (r1.1)))),true))))))))
def ZM.f(K:Nat)(x1:Yi)(x5:Qm)(x12:Int):Option (Yi×Bool):=
 (jn (fun(y1:Bool)=>(bif y1 then(some (x1,false))else((Za.f K (x1) (x5) (x12)).bind fun r1=>(some (r1.1,r1.2))))) (fun j1=>(bif (decide (((List.length (x1.fSagas):Nat):Int)≤x5.fSaga))then(j1 true)else((getI (x1.fSagas) x5.fSaga).bind fun x2=>(bif (decide (((List.length (x2.fSteps):Nat):Int)≤x5.fStep))then(j1 true)else((getI (x1.fSagas) x5.fSaga).bind fun x3=>((getI (x3.fSteps) x5.fStep).bind fun x4=>(bif (!decide (x4.fPart=x5.fPart))then(j1 true)else(chk (inA 4 x5.fPart) (j1 (!decide ((vget (x1.fEpochs) (Int.toNat (x5.fPart)))=x5.fEpoch))))))))))))
def QaR.f(K:Nat)(x1:Yi)(x5:Qm)(x12:Int):Option (Yi×Bool):=
 (chk (inA 4 x5.fPart) (bif (!decide (x5.fEpoch=(IntKind.wrap .i64 ((vget (x1.fEpochs) (Int.toNat (x5.fPart)))+(1:Int)))))then(some (x1,false))else(chk (inA 4 x5.fPart) ((some (vset (x1.fEpochs) (Int.toNat (x5.fPart)) (x5.fEpoch))).bind fun v32=>((some (Yi.mk (v32) (x1.fSagas))).bind fun v33=>(some (v33,true)))))))
def Qim.f(K:Nat)(x1:Yi)(x5:Qm)(x12:Int):Option (Yi×Bool):=
 (jn (fun(y1:Bool)=>(bif y1 then(some (x1,false))else(bif decide (x5.fKind=(1:Int))then((Qcj.f K (x1) (x5) (x12)).bind fun r1=>(some (r1.1,r1.2)))else(bif decide (x5.fKind=(2:Int))then((Za.f K (x1) (x5) (x12)).bind fun r2=>(some (r2.1,r2.2)))else(bif decide (x5.fKind=(3:Int))then((ZM.f K (x1) (x5) (x12)).bind fun r3=>(some (r3.1,r3.2)))else(bif decide (x5.fKind=(4:Int))then((Za.f K (x1) (x5) (x12)).bind fun r4=>(some (r4.1,r4.2)))else(bif decide (x5.fKind=(5:Int))then((Za.f K (x1) (x5) (x12)).bind fun r5=>(some (r5.1,r5.2)))else(bif decide (x5.fKind=(6:Int))then((QaR.f K (x1) (x5) (x12)).bind fun r6=>(some (r6.1,r6.2)))else none)))))))) (fun j1=>((qi.f K (x5)).bind fun r7=>(bif (!r7)then(j1 true)else(bif (decide (x12<(1:Int)))then(j1 true)else(j1 (decide ((9:Int)<x12))))))))
def Xn.f(K:Nat)(x1:QF):Option (Int):=
 (bif (decide (x1.fPhase=(2:Int)))then(some (0:Int))else(some (Qh5 .i64 x1.fDone x1.fUndone)))
def YZ.b(K:Nat)(x1:Yi)(rec:((List Qv)×Int)→Option ((List Qv)))(y1:(List Qv)×Int):Option ((List Qv)):=
 (bif (decide (y1.2<((List.length (x1.fSagas):Nat):Int)))then((getI (x1.fSagas) y1.2).bind fun x2=>((Xn.f K (x2)).bind fun r1=>((catI 16 (y1.1) (([(Qv.mk (x2.fPhase) (r1))]:List Qv))).bind fun l1=>(rec (l1,(IntKind.wrap .i64 (y1.2+(1:Int))))))))else(some y1.1))
def YZ.l(K:Nat)(x1:Yi):Nat→((List Qv)×Int)→Option ((List Qv)):=Jc (YZ.b K x1)
def QaS.f(K:Nat)(x1:Yi):Option ((List Qv)):=
 ((YZ.l K x1 K (([]:List Qv),(0:Int))).bind fun z1=>(some z1))
def Yb.b(K:Nat)(x8:QJ)(rec:(Int×(List (Vector Int 32))×Int)→Option ((List (Vector Int 32))×Int))(y1:Int×(List (Vector Int 32))×Int):Option ((List (Vector Int 32))×Int):=
 (bif (decide (y1.1<((List.length (x8.fItems):Nat):Int)))then((getI (x8.fItems) y1.1).bind fun x1=>((y7.f K (x1.fRec)).bind fun r2=>((Xe.f K (r2) (y1.2.1) (y1.2.2)).bind fun r1=>(rec ((IntKind.wrap .i64 (y1.1+(1:Int))),r1.1,r1.2)))))else(some (y1.2.1,y1.2.2)))
def Yb.l(K:Nat)(x8:QJ):Nat→(Int×(List (Vector Int 32))×Int)→Option ((List (Vector Int 32))×Int):=Jc (Yb.b K x8)
def Yc.b(K:Nat)(x1:YS)(x8:QJ)(rec:(Int×Yi)→Option (Sum ((Sum Int (Int×(List Int)×(List Qv)))) (Yi)))(y1:Int×Yi):Option (Sum ((Sum Int (Int×(List Int)×(List Qv)))) (Yi)):=
 (bif (decide (y1.1<((List.length (x8.fItems):Nat):Int)))then((getI (x8.fItems) y1.1).bind fun x2=>(sm (Y6.fs K (x1) (x2.fRec)) (fun e1=>(some (Sum.inl (Sum.inl e1)))) (fun r2=>((Qim.f K (y1.2) (x2.fRec) (x1.fLimit)).bind fun r1=>(sm (Yo.fs K (r1.2) ((9:Int))) (fun e2=>(some (Sum.inl (Sum.inl e2)))) (fun r3=>(rec ((IntKind.wrap .i64 (y1.1+(1:Int))),r1.1))))))))else(some (Sum.inr y1.2)))
def Yc.l(K:Nat)(x1:YS)(x8:QJ):Nat→(Int×Yi)→Option (Sum ((Sum Int (Int×(List Int)×(List Qv)))) (Yi)):=Jc (Yc.b K x1 x8)
def Yd.b(K:Nat)(z1:Yi)(rec:(Int×Int×(List Int)×(List Qv))→Option (Int×(List Int)×(List Qv)))(y1:Int×Int×(List Int)×(List Qv)):Option (Int×(List Int)×(List Qv)):=
 (bif (decide (y1.1<((List.length (z1.fSagas):Nat):Int)))then((catI 8 (y1.2.2.1) (([y1.1]:List Int))).bind fun l1=>(rec ((IntKind.wrap .i64 (y1.1+(1:Int))),y1.2.1,l1,y1.2.2.2)))else(some (y1.2.1,y1.2.2.1,y1.2.2.2)))
def Yd.l(K:Nat)(z1:Yi):Nat→(Int×Int×(List Int)×(List Qv))→Option (Int×(List Int)×(List Qv)):=Jc (Yd.b K z1)
def Y5.fs(K:Nat)(x1:YS)(x8:QJ):Option (Sum Int (Int×(List Int)×(List Qv))):=
 ((Yb.l K x8 K ((0:Int),([]:List (Vector Int 32)),(0:Int))).bind fun z2=>((yH.f K (z2.1) (z2.2)).bind fun r1=>(sm (Yo.fs K ((decide (r1.1=x8.fPoint.fRoot))) ((6:Int))) (fun e1=>(some (Sum.inl e1))) (fun r3=>((Yc.l K x1 x8 K ((0:Int),(Yi.mk ((Vector.replicate 4 (0:Int))) (([]:List QF))))).bind fun s1=>(match s1 with| .inl u1=>some u1| .inr u2=>(fun(z3:Yi)=>((QaS.f K (z3)).bind fun r2=>((Yd.l K z3 K ((0:Int),(0:Int),([]:List Int),r2)).bind fun z1=>(some (Sum.inr (z1.1,z1.2.1,z1.2.2)))))) u2))))))
def QaT.fs(K:Nat)(x5:Int)(x6:(List (Vector Int 32))):Option (Sum Int ((Vector Int 32)×Int)):=
 (bif (decide (x5=(0:Int)))then(some (Sum.inl (0:Int)))else((getI (x6) (IntKind.wrap .i64 (x5-(1:Int)))).bind fun x33=>(some (Sum.inr (x33,(IntKind.wrap .i64 (x5-(1:Int))))))))
def Yp.b(K:Nat)(self:Int→Int→(Vector Int 32)→Int→(List (Vector Int 32))→Option (Sum Int ((Vector Int 32)×Int)))(x11:Int)(x12:Int)(x13:(Vector Int 32))(x14:Int)(x15:(List (Vector Int 32))):Option (Sum Int ((Vector Int 32)×Int)):=
 (bif (decide (x12=(1:Int)))then(some (Sum.inr (x13,x14)))else((XL.f K (x12)).bind fun r1=>(sm (QaT.fs K (x14) (x15)) (fun e1=>(some (Sum.inl e1))) (fun r2=>(bif (decide (x11<r1))then(sm (self (x11) (r1) (x13) (r2.2) (x15)) (fun e2=>(some (Sum.inl e2))) (fun r3=>((Xl.f K (r3.1) (r2.1)).bind fun r5=>(some (Sum.inr (r5,r3.2))))))else(sm (self ((IntKind.wrap .i64 (x11-r1))) ((IntKind.wrap .i64 (x12-r1))) (x13) (r2.2) (x15)) (fun e3=>(some (Sum.inl e3))) (fun r4=>((Xl.f K (r2.1) (r4.1)).bind fun r6=>(some (Sum.inr (r6,r4.2)))))))))))
def Yp.r(K:Nat):Nat→Int→Int→(Vector Int 32)→Int→(List (Vector Int 32))→Option (Sum Int ((Vector Int 32)×Int))
 |0=>fun _ _ _ _ _=>none
 |k+1=>Yp.b K (Yp.r K k)
def Yp.fs(K:Nat)(x11:Int)(x12:Int)(x13:(Vector Int 32))(x14:Int)(x15:(List (Vector Int 32))):Option (Sum Int ((Vector Int 32)×Int)):=Yp.r K K x11 x12 x13 x14 x15
def QaU.fs(K:Nat)(x13:Int)(x14:(List (Vector Int 32)))(x18:(Vector Int 32))(x19:Int)(x20:Int)(x21:(Vector Int 32)):Option (Sum Int (Int×(Vector Int 32))):=
 (sm (Yp.fs K (x19) (x20) (x18) (x13) (x14)) (fun e38=>(some (Sum.inl e38))) (fun r36=>(some (Sum.inr (r36.2,r36.1)))))
def QaV.f(K:Nat)(x9:(List (Vector Int 32)))(x13:(Vector Int 32))(x14:Int)(x15:Int)(x16:(Vector Int 32)):Option (Bool×(Vector Int 32)):=
 (sm (QaU.fs K (((List.length (x9):Nat):Int)) (x9) (x13) (x14) (x15) (x16)) (fun e41=>(some (false,x16))) (fun r39=>(some ((decide (r39.1=(0:Int))),r39.2))))
def QaW.f(K:Nat)(x1:(Vector Int 32))(x2:Int)(x3:Int)(x4:(List (Vector Int 32))):Option ((Vector Int 32)×Bool):=
 (jn (fun(y46:Bool)=>(bif y46 then(some ((vofL 32 [(0:Int),(0:Int),(0:Int),(0:Int),(0:Int),(0:Int),(0:Int),(0:Int),(0:Int),(0:Int),(0:Int),(0:Int),(0:Int),(0:Int),(0:Int),(0:Int),(0:Int),(0:Int),(0:Int),(0:Int),(0:Int),(0:Int),(0:Int),(0:Int),(0:Int),(0:Int),(0:Int),(0:Int),(0:Int),(0:Int),(0:Int),(0:Int)]),false))else((QaV.f K (x4) (x1) (x2) (x3) ((Vector.replicate 32 (0:Int)))).bind fun r51=>(bif (!r51.1)then(some ((vofL 32 [(0:Int),(0:Int),(0:Int),(0:Int),(0:Int),(0:Int),(0:Int),(0:Int),(0:Int),(0:Int),(0:Int),(0:Int),(0:Int),(0:Int),(0:Int),(0:Int),(0:Int),(0:Int),(0:Int),(0:Int),(0:Int),(0:Int),(0:Int),(0:Int),(0:Int),(0:Int),(0:Int),(0:Int),(0:Int),(0:Int),(0:Int),(0:Int)]),false))else(some (r51.2,true)))))) (fun j56=>(bif (decide (x2<(0:Int)))then(j56 true)else(bif (decide (x3≤x2))then(j56 true)else(j56 (decide ((1048576:Int)<x3)))))))
def Qfr.f(K:Nat)(x1:(Vector Int 32))(x2:Int)(x3:Int)(x4:(List (Vector Int 32)))(x8:(Vector Int 32)):Option (Bool):=
 ((QaW.f K (x1) (x2) (x3) (x4)).bind fun r34=>(bif r34.2 then((X7.f K (r34.1) (x8)).bind fun r46=>(some r46))else(some false)))
def jO.fs(K:Nat)(x3:Qm)(x10:(List Bool))(x11:(List Int))(x17:(List QF)):Option (Sum Int ((List Bool)×(List Int)×(List QF))):=
 (jn (fun(y1:Unit)=>((Qdj.f K (x3.fSteps)).bind fun r1=>(chk (inA 12 x3.fSaga) ((some (List.set (x17) (Int.toNat (x3.fSaga)) (r1))).bind fun v1=>((catI 8 (x11) (([x3.fSaga]:List Int))).bind fun l1=>(some (Sum.inr (x10,l1,v1)))))))) (fun j1=>(chk (inA 12 x3.fSaga) ((getI (x10) x3.fSaga).bind fun x1=>(bif (!x1)then((Qci.f K (x3.fSteps)).bind fun r2=>(sm (Yo.fs K (r2) ((9:Int))) (fun e1=>(some (Sum.inl e1))) (fun r3=>(j1 ()))))else(sm (Yo.fs K (false) ((9:Int))) (fun e2=>(some (Sum.inl e2))) (fun r4=>(j1 ()))))))))
def yI.fs(K:Nat)(x3:Qm)(x10:Int)(x11:(List Bool))(x12:(List Int))(x18:(List QF)):Option (Sum Int ((List Bool)×(List Int)×(List QF))):=
 (chk (inA 12 x3.fSaga) ((getI (x18) x3.fSaga).bind fun x1=>(bif (decide (((List.length (x1.fSteps):Nat):Int)=(0:Int)))then(some (Sum.inr (x11,x12,x18)))else((Qf5.f K (x1) (x3) (x10)).bind fun r1=>(jn (fun(y1:Unit)=>(chk (inA 12 x3.fSaga) ((some (List.set (x18) (Int.toNat (x3.fSaga)) (r1.1))).bind fun v1=>(some (Sum.inr (x11,x12,v1)))))) (fun j1=>(bif r1.2 then(bif (!decide (x3.fKind=(3:Int)))then(sm (Yo.fs K (true) ((9:Int))) (fun e1=>(some (Sum.inl e1))) (fun r2=>(j1 ())))else((getI (x1.fSteps) x3.fStep).bind fun x2=>(sm (Yo.fs K ((decide (x2.fPart=x3.fPart))) ((9:Int))) (fun e2=>(some (Sum.inl e2))) (fun r3=>(j1 ())))))else(sm (Yo.fs K (false) ((9:Int))) (fun e3=>(some (Sum.inl e3))) (fun r4=>(j1 ()))))))))))
def Yf.b(K:Nat)(x1:YS)(x8:QJ)(rec:(Int×(List Bool)×(List Int)×(List QF))→Option (Sum ((Sum Int (Int×(List Int)×(List Qv)))) ((List Bool)×(List Int)×(List QF))))(y1:Int×(List Bool)×(List Int)×(List QF)):Option (Sum ((Sum Int (Int×(List Int)×(List Qv)))) ((List Bool)×(List Int)×(List QF))):=
 (bif (decide (y1.1<((List.length (x8.fItems):Nat):Int)))then(jn (fun(y2:(List Bool)×(List Int)×(List QF))=>(rec ((IntKind.wrap .i64 (y1.1+(1:Int))),y2.1,y2.2.1,y2.2.2))) (fun j1=>((getI (x8.fItems) y1.1).bind fun x2=>((y7.f K (x2.fRec)).bind fun r3=>((Qfr.f K (r3) (x2.fAt) (x8.fPoint.fSize) (x2.fPath) (x8.fPoint.fRoot)).bind fun r4=>(sm (Yo.fs K (r4) ((10:Int))) (fun e1=>(some (Sum.inl (Sum.inl e1)))) (fun r5=>(sm (Y6.fs K (x1) (x2.fRec)) (fun e2=>(some (Sum.inl (Sum.inl e2)))) (fun r6=>(jn (fun(y3:(List Bool)×(List Int)×(List QF))=>(chk (inA 12 x2.fRec.fSaga) ((some (List.set (y3.1) (Int.toNat (x2.fRec.fSaga)) (true))).bind fun v1=>(j1 (v1,y3.2.1,y3.2.2))))) (fun j2=>(bif (decide (x2.fRec.fKind=(1:Int)))then(sm (jO.fs K (x2.fRec) (y1.2.1) (y1.2.2.1) (y1.2.2.2)) (fun e3=>(some (Sum.inl (Sum.inl e3)))) (fun r1=>(j2 (r1.1,r1.2.1,r1.2.2))))else(bif (decide (x2.fRec.fKind=(6:Int)))then(j1 (y1.2.1,y1.2.2.1,y1.2.2.2))else(sm (yI.fs K (x2.fRec) (x1.fLimit) (y1.2.1) (y1.2.2.1) (y1.2.2.2)) (fun e4=>(some (Sum.inl (Sum.inl e4)))) (fun r2=>(j2 (r2.1,r2.2.1,r2.2.2)))))))))))))))))else(some (Sum.inr (y1.2.1,y1.2.2.1,y1.2.2.2))))
def Yf.l(K:Nat)(x1:YS)(x8:QJ):Nat→(Int×(List Bool)×(List Int)×(List QF))→Option (Sum ((Sum Int (Int×(List Int)×(List Qv)))) ((List Bool)×(List Int)×(List QF))):=Jc (Yf.b K x1 x8)
def Yg.b(K:Nat)(z1:(List Bool)×(List Int)×(List QF))(rec:(Int×Int×(List Int)×(List Qv))→Option (Int×(List Int)×(List Qv)))(y1:Int×Int×(List Int)×(List Qv)):Option (Int×(List Int)×(List Qv)):=
 (bif (decide (y1.1<((List.length (z1.2.1):Nat):Int)))then((getI (z1.2.1) y1.1).bind fun x1=>((catI 8 (y1.2.2.1) (([x1]:List Int))).bind fun l1=>(chk (inA 12 x1) ((getI (z1.2.2) x1).bind fun x2=>(chk (inA 12 x1) ((getI (z1.2.2) x1).bind fun x3=>((Xn.f K (x3)).bind fun r1=>((catI 16 (y1.2.2.2) (([(Qv.mk (x2.fPhase) (r1))]:List Qv))).bind fun l2=>(rec ((IntKind.wrap .i64 (y1.1+(1:Int))),y1.2.1,l1,l2))))))))))else(some (y1.2.1,y1.2.2.1,y1.2.2.2)))
def Yg.l(K:Nat)(z1:(List Bool)×(List Int)×(List QF)):Nat→(Int×Int×(List Int)×(List Qv))→Option (Int×(List Int)×(List Qv)):=Jc (Yg.b K z1)
def Jg.fs(K:Nat)(x1:YS)(x8:QJ):Option (Sum Int (Int×(List Int)×(List Qv))):=
 ((Yf.l K x1 x8 K ((0:Int),([false,false,false,false,false,false,false,false,false,false,false,false]:List Bool),([]:List Int),([Q8,Q8,Q8,Q8,Q8,Q8,Q8,Q8,Q8,Q8,Q8,Q8]:List QF))).bind fun s1=>(match s1 with| .inl u1=>some u1| .inr u2=>(fun(z2:(List Bool)×(List Int)×(List QF))=>((Yg.l K z2 K ((0:Int),(0:Int),([]:List Int),([]:List Qv))).bind fun z1=>(some (Sum.inr (z1.1,z1.2.1,z1.2.2))))) u2))
def J4.f(K:Nat)(x1:QC)(x8:Int)(x9:Qu)(x13:(List Int)):Option (Int×(List Int)×(List Qv)):=
 (jn (fun(y1:Unit)=>((Qao.f K (x13)).bind fun r1=>(sm (Yo.fs K ((decide (r1.2=(0:Int)))) (r1.2)) (fun e1=>((some {Ya with fCode:=e1}).bind fun v2=>(some (v2.fCode,([]:List Int),([]:List Qv))))) (fun r6=>((Qap.f K (x1) (r1.1.fPoint)).bind fun r4=>(sm (Yo.fs K ((decide (r4=(0:Int)))) (r4)) (fun e2=>((some {Ya with fCode:=e2}).bind fun v3=>(some (v3.fCode,([]:List Int),([]:List Qv))))) (fun r7=>(jn (fun(y2:Unit)=>((some (YS.mk (x1) (x8))).bind fun v1=>(bif r1.1.fWhole then(sm (Y5.fs K (v1) (r1.1)) (fun e3=>((some {Ya with fCode:=e3}).bind fun v4=>(some (v4.fCode,([]:List Int),([]:List Qv))))) (fun r2=>(some (r2.1,r2.2.1,r2.2.2))))else(sm (Jg.fs K (v1) (r1.1)) (fun e4=>((some {Ya with fCode:=e4}).bind fun v5=>(some (v5.fCode,([]:List Int),([]:List Qv))))) (fun r3=>(some (r3.1,r3.2.1,r3.2.2))))))) (fun j2=>(bif (decide (r1.1.fPoint.fSize=x9.fSize))then(sm (Yo.fs K ((decide (r1.1.fPoint.fRoot=x9.fRoot))) ((6:Int))) (fun e5=>((some {Ya with fCode:=e5}).bind fun v6=>(some (v6.fCode,([]:List Int),([]:List Qv))))) (fun r8=>(j2 ())))else(sm (Yo.fs K (false) ((6:Int))) (fun e6=>((some {Ya with fCode:=e6}).bind fun v7=>(some (v7.fCode,([]:List Int),([]:List Qv))))) (fun r9=>(j2 ()))))))))))))) (fun j1=>((ZE.f K (x1)).bind fun r5=>(bif r5 then(bif (decide ((1:Int)≤x8))then(sm (Yo.fs K ((decide (x8≤(9:Int)))) ((1:Int))) (fun e7=>((some {Ya with fCode:=e7}).bind fun v8=>(some (v8.fCode,([]:List Int),([]:List Qv))))) (fun r10=>(j1 ())))else(sm (Yo.fs K (false) ((1:Int))) (fun e8=>((some {Ya with fCode:=e8}).bind fun v9=>(some (v9.fCode,([]:List Int),([]:List Qv))))) (fun r11=>(j1 ()))))else(sm (Yo.fs K (false) ((1:Int))) (fun e9=>((some {Ya with fCode:=e9}).bind fun v10=>(some (v10.fCode,([]:List Int),([]:List Qv))))) (fun r12=>(j1 ())))))))
def qN.b(K:Nat)(x1:(List Int))(x5:(List Int))(rec:Int→Option (Sum ((Bool)) (Unit)))(y1:Int):Option (Sum ((Bool)) (Unit)):=
 (bif (decide (y1<((List.length (x1):Nat):Int)))then((getI (x1) y1).bind fun x2=>((getI (x5) y1).bind fun x3=>(bif (!decide (x2=x3))then(some (Sum.inl false))else(rec (IntKind.wrap .i64 (y1+(1:Int)))))))else(some (Sum.inr ())))
def qN.l(K:Nat)(x1:(List Int))(x5:(List Int)):Nat→(Int)→Option (Sum ((Bool)) (Unit)):=Jc (qN.b K x1 x5)
def Xw.f(K:Nat)(x1:(List Int))(x5:(List Int)):Option (Bool):=
 (bif (!decide (((List.length (x1):Nat):Int)=((List.length (x5):Nat):Int)))then(some false)else((qN.l K x1 x5 K (0:Int)).bind fun s1=>(match s1 with| .inl u1=>some u1| .inr u2=>(fun(z1:Unit)=>(some true)) u2)))
def Jh.b(K:Nat)(x1:(List Qv))(x5:(List Qv))(rec:Int→Option (Sum ((Bool)) (Unit)))(y1:Int):Option (Sum ((Bool)) (Unit)):=
 (bif (decide (y1<((List.length (x1):Nat):Int)))then((getI (x1) y1).bind fun x2=>((getI (x5) y1).bind fun x3=>(bif (!((decide (x2.fPhase=x3.fPhase))&&((decide (x2.fMissing=x3.fMissing))&&true)))then(some (Sum.inl false))else(rec (IntKind.wrap .i64 (y1+(1:Int)))))))else(some (Sum.inr ())))
def Jh.l(K:Nat)(x1:(List Qv))(x5:(List Qv)):Nat→(Int)→Option (Sum ((Bool)) (Unit)):=Jc (Jh.b K x1 x5)
def qC.f(K:Nat)(x1:(List Qv))(x5:(List Qv)):Option (Bool):=
 (bif (!decide (((List.length (x1):Nat):Int)=((List.length (x5):Nat):Int)))then(some false)else((Jh.l K x1 x5 K (0:Int)).bind fun s1=>(match s1 with| .inl u1=>some u1| .inr u2=>(fun(z1:Unit)=>(some true)) u2)))
def QhH.f(K:Nat)(x1:Jp)(x8:Jp):Option (Bool):=
 (bif (decide (x1.fCode=x8.fCode))then((Xw.f K (x1.fSagas) (x8.fSagas)).bind fun r53=>(bif r53 then((qC.f K (x1.fLines) (x8.fLines)).bind fun r58=>(some r58))else(some false)))else(some false))
def qO.b(K:Nat)(x1:(List Int))(x5:Int)(rec:Int→Option (Sum ((Int)) (Unit)))(y1:Int):Option (Sum ((Int)) (Unit)):=
 (bif (decide (y1<((List.length (x1):Nat):Int)))then((getI (x1) y1).bind fun x2=>(bif (decide (x5=x2))then(some (Sum.inl y1))else(rec (IntKind.wrap .i64 (y1+(1:Int))))))else(some (Sum.inr ())))
def qO.l(K:Nat)(x1:(List Int))(x5:Int):Nat→(Int)→Option (Sum ((Int)) (Unit)):=Jc (qO.b K x1 x5)
def Xx.f(K:Nat)(x1:(List Int))(x5:Int):Option (Int):=
 ((qO.l K x1 x5 K (0:Int)).bind fun s1=>(match s1 with| .inl u1=>some u1| .inr u2=>(fun(z1:Unit)=>(some (-1:Int))) u2))
def Qd2.f(K:Nat)(x1:Jp)(x8:Int):Option (Bool):=
 ((Xx.f K (x1.fSagas) (x8)).bind fun r99=>(jn (fun(y1:Bool)=>(some y1)) (fun j1=>(bif (decide ((0:Int)≤r99))then(bif (decide (r99<((List.length (x1.fLines):Nat):Int)))then((getI (x1.fLines) r99).bind fun x2=>(bif (decide ((2:Int)≤x2.fPhase))then((getI (x1.fLines) r99).bind fun x3=>(j1 (decide (x3.fPhase≤(4:Int)))))else(j1 false)))else(j1 false))else(j1 false)))))
def jf.f(K:Nat):Option (Bool):=
 ((XU.f K).bind fun r4=>((getI (([{Qp with fKind:=(1:Int),fSteps:=([(Qo.mk ((1:Int)) ((1:Int)))]:List Qo),fData:=([(97:Int)]:List Int) },{Qp with fKind:=(2:Int),fSeq:=(1:Int),fTry:=(1:Int) },{Qp with fKind:=(3:Int),fSeq:=(2:Int),fTry:=(1:Int),fGood:=true,fPart:=(1:Int) },{Qp with fKind:=(5:Int),fSeq:=(3:Int),fEnd:=(2:Int) }]:List Qm)) (2:Int)).bind fun x6=>((getI (([{Qp with fKind:=(1:Int),fSteps:=([(Qo.mk ((1:Int)) ((1:Int)))]:List Qo),fData:=([(97:Int)]:List Int) },{Qp with fKind:=(2:Int),fSeq:=(1:Int),fTry:=(1:Int) },{Qp with fKind:=(3:Int),fSeq:=(2:Int),fTry:=(1:Int),fGood:=true,fPart:=(1:Int) },{Qp with fKind:=(5:Int),fSeq:=(3:Int),fEnd:=(2:Int) }]:List Qm)) (2:Int)).bind fun x4=>((je.f K (r4) (x4)).bind fun r3=>((getI (([{Qp with fKind:=(1:Int),fSteps:=([(Qo.mk ((1:Int)) ((1:Int)))]:List Qo),fData:=([(97:Int)]:List Int) },{Qp with fKind:=(2:Int),fSeq:=(1:Int),fTry:=(1:Int) },{Qp with fKind:=(3:Int),fSeq:=(2:Int),fTry:=(1:Int),fGood:=true,fPart:=(1:Int) },{Qp with fKind:=(5:Int),fSeq:=(3:Int),fEnd:=(2:Int) }]:List Qm)) (2:Int)).bind fun x7=>((getI (([{Qp with fKind:=(1:Int),fSteps:=([(Qo.mk ((1:Int)) ((1:Int)))]:List Qo),fData:=([(97:Int)]:List Int) },{Qp with fKind:=(2:Int),fSeq:=(1:Int),fTry:=(1:Int) },{Qp with fKind:=(3:Int),fSeq:=(2:Int),fTry:=(1:Int),fGood:=true,fPart:=(1:Int) },{Qp with fKind:=(5:Int),fSeq:=(3:Int),fEnd:=(2:Int) }]:List Qm)) (2:Int)).bind fun x1=>((qW.f K (r4) ((List.set (([{Qp with fKind:=(1:Int),fSteps:=([(Qo.mk ((1:Int)) ((1:Int)))]:List Qo),fData:=([(97:Int)]:List Int) },{Qp with fKind:=(2:Int),fSeq:=(1:Int),fTry:=(1:Int) },{Qp with fKind:=(3:Int),fSeq:=(2:Int),fTry:=(1:Int),fGood:=true,fPart:=(1:Int) },{Qp with fKind:=(5:Int),fSeq:=(3:Int),fEnd:=(2:Int) }]:List Qm)) (Int.toNat ((2:Int))) ({x1 with fTag:=r3})))).bind fun r1=>((QbB.f K ((List.set (([{Qp with fKind:=(1:Int),fSteps:=([(Qo.mk ((1:Int)) ((1:Int)))]:List Qo),fData:=([(97:Int)]:List Int) },{Qp with fKind:=(2:Int),fSeq:=(1:Int),fTry:=(1:Int) },{Qp with fKind:=(3:Int),fSeq:=(2:Int),fTry:=(1:Int),fGood:=true,fPart:=(1:Int) },{Qp with fKind:=(5:Int),fSeq:=(3:Int),fEnd:=(2:Int) }]:List Qm)) (Int.toNat ((2:Int))) ({x1 with fTag:=r3}))) ((Qu.mk (r1.1) (r1.2.1) (r1.2.2))) ((1:Int))).bind fun r8=>((Qf2.f K ((List.set (([{Qp with fKind:=(1:Int),fSteps:=([(Qo.mk ((1:Int)) ((1:Int)))]:List Qo),fData:=([(97:Int)]:List Int) },{Qp with fKind:=(2:Int),fSeq:=(1:Int),fTry:=(1:Int) },{Qp with fKind:=(3:Int),fSeq:=(2:Int),fTry:=(1:Int),fGood:=true,fPart:=(1:Int) },{Qp with fKind:=(5:Int),fSeq:=(3:Int),fEnd:=(2:Int) }]:List Qm)) (Int.toNat ((2:Int))) ({x1 with fTag:=r3}))) ((Qu.mk (r1.1) (r1.2.1) (r1.2.2))) ((0:Int)) ((0:Int))).bind fun r9=>((Qan.f K (r8.1)).bind fun r10=>((J4.f K (r4) ((2:Int)) ((Qu.mk (r1.1) (r1.2.1) (r1.2.2))) (r10)).bind fun r2=>((Qan.f K (r9.1)).bind fun r11=>((J4.f K (r4) ((2:Int)) ((Qu.mk (r1.1) (r1.2.1) (r1.2.2))) (r11)).bind fun r6=>((getI ((List.set (([{Qp with fKind:=(1:Int),fSteps:=([(Qo.mk ((1:Int)) ((1:Int)))]:List Qo),fData:=([(97:Int)]:List Int) },{Qp with fKind:=(2:Int),fSeq:=(1:Int),fTry:=(1:Int) },{Qp with fKind:=(3:Int),fSeq:=(2:Int),fTry:=(1:Int),fGood:=true,fPart:=(1:Int) },{Qp with fKind:=(5:Int),fSeq:=(3:Int),fEnd:=(2:Int) }]:List Qm)) (Int.toNat ((2:Int))) ({x1 with fTag:=r3}))) (2:Int)).bind fun x8=>((getI ((List.set (([{Qp with fKind:=(1:Int),fSteps:=([(Qo.mk ((1:Int)) ((1:Int)))]:List Qo),fData:=([(97:Int)]:List Int) },{Qp with fKind:=(2:Int),fSeq:=(1:Int),fTry:=(1:Int) },{Qp with fKind:=(3:Int),fSeq:=(2:Int),fTry:=(1:Int),fGood:=true,fPart:=(1:Int) },{Qp with fKind:=(5:Int),fSeq:=(3:Int),fEnd:=(2:Int) }]:List Qm)) (Int.toNat ((2:Int))) ({x1 with fTag:=r3}))) (2:Int)).bind fun x3=>((getI ((List.set (([{Qp with fKind:=(1:Int),fSteps:=([(Qo.mk ((1:Int)) ((1:Int)))]:List Qo),fData:=([(97:Int)]:List Int) },{Qp with fKind:=(2:Int),fSeq:=(1:Int),fTry:=(1:Int) },{Qp with fKind:=(3:Int),fSeq:=(2:Int),fTry:=(1:Int),fGood:=true,fPart:=(1:Int) },{Qp with fKind:=(5:Int),fSeq:=(3:Int),fEnd:=(2:Int) }]:List Qm)) (Int.toNat ((2:Int))) ({x1 with fTag:=r3}))) (2:Int)).bind fun x9=>((getI ((List.set (([{Qp with fKind:=(1:Int),fSteps:=([(Qo.mk ((1:Int)) ((1:Int)))]:List Qo),fData:=([(97:Int)]:List Int) },{Qp with fKind:=(2:Int),fSeq:=(1:Int),fTry:=(1:Int) },{Qp with fKind:=(3:Int),fSeq:=(2:Int),fTry:=(1:Int),fGood:=true,fPart:=(1:Int) },{Qp with fKind:=(5:Int),fSeq:=(3:Int),fEnd:=(2:Int) }]:List Qm)) (Int.toNat ((2:Int))) ({x1 with fTag:=r3}))) (2:Int)).bind fun x2=>((qW.f K (r4) ((List.set ((List.set (([{Qp with fKind:=(1:Int),fSteps:=([(Qo.mk ((1:Int)) ((1:Int)))]:List Qo),fData:=([(97:Int)]:List Int) },{Qp with fKind:=(2:Int),fSeq:=(1:Int),fTry:=(1:Int) },{Qp with fKind:=(3:Int),fSeq:=(2:Int),fTry:=(1:Int),fGood:=true,fPart:=(1:Int) },{Qp with fKind:=(5:Int),fSeq:=(3:Int),fEnd:=(2:Int) }]:List Qm)) (Int.toNat ((2:Int))) ({x1 with fTag:=r3}))) (Int.toNat ((2:Int))) ({x2 with fTag:=(vset (x2.fTag) 0 ((IntKind.wrap .u8 ((vget (x3.fTag) 0)+(1:Int))))) })))).bind fun r5=>((QbB.f K ((List.set ((List.set (([{Qp with fKind:=(1:Int),fSteps:=([(Qo.mk ((1:Int)) ((1:Int)))]:List Qo),fData:=([(97:Int)]:List Int) },{Qp with fKind:=(2:Int),fSeq:=(1:Int),fTry:=(1:Int) },{Qp with fKind:=(3:Int),fSeq:=(2:Int),fTry:=(1:Int),fGood:=true,fPart:=(1:Int) },{Qp with fKind:=(5:Int),fSeq:=(3:Int),fEnd:=(2:Int) }]:List Qm)) (Int.toNat ((2:Int))) ({x1 with fTag:=r3}))) (Int.toNat ((2:Int))) ({x2 with fTag:=(vset (x2.fTag) 0 ((IntKind.wrap .u8 ((vget (x3.fTag) 0)+(1:Int))))) }))) ((Qu.mk (r5.1) (r5.2.1) (r5.2.2))) ((0:Int))).bind fun r7=>((Qan.f K (r7.1)).bind fun r12=>((J4.f K (r4) ((2:Int)) ((Qu.mk (r5.1) (r5.2.1) (r5.2.2))) (r12)).bind fun r13=>((Qan.f K (r7.1)).bind fun r14=>((J4.f K (r4) ((2:Int)) ((Qu.mk (r1.1) (r1.2.1) (r1.2.2))) (r14)).bind fun r15=>(jn (fun(y1:Bool)=>(some y1)) (fun j1=>(bif (decide (r2.1=(0:Int)))then((QhH.f K ((Jp.mk (r2.1) (r2.2.1) (r2.2.2))) ((Jp.mk (r6.1) (r6.2.1) (r6.2.2)))).bind fun r16=>(bif r16 then(bif (decide (((List.length (r2.2.2):Nat):Int)=(1:Int)))then((getI (r2.2.2) (0:Int)).bind fun x5=>(bif (decide (x5.fPhase=(2:Int)))then((Qd2.f K ((Jp.mk (r2.1) (r2.2.1) (r2.2.2))) ((0:Int))).bind fun r17=>(bif r17 then((Qd2.f K ((Jp.mk (r2.1) (r2.2.1) (r2.2.2))) ((1:Int))).bind fun r18=>(bif (!r18)then(bif (decide (r13.1=(7:Int)))then(j1 (decide (r15.1=(6:Int))))else(j1 false))else(j1 false)))else(j1 false)))else(j1 false)))else(j1 false))else(j1 false)))else(j1 false)))))))))))))))))))))))))))
def JV.f(K:Nat)(x1:QC)(x8:(List Int)):Option (Bool):=
 (bif (decide ((20:Int)<((List.length (x1.fParts):Nat):Int)))then(some true)else(bif (decide ((20:Int)<((List.length (x1.fWits):Nat):Int)))then(some true)else(some (decide ((4000:Int)<((List.length (x8):Nat):Int))))))
def JP.f(K:Nat)(x1:QC)(x8:Int)(x9:Qu)(x13:(List Int))(x17:Int):Option (Bool):=
 ((jf.f K).bind fun r3=>(bif (!r3)then(some false)else(jn (fun(y1:Bool)=>(bif y1 then(some true)else((J4.f K (x1) (x8) (x9) (x13)).bind fun r4=>(bif (!decide (r4.1=(0:Int)))then(some true)else(chk (!(decide (((List.length (x13):Nat):Int)=0))) ((subI (x13) 0 (Int.tmod (IntKind.wrap .i64 x17) ((List.length (x13):Nat):Int))).bind fun l1=>((J4.f K (x1) (x8) (x9) (l1)).bind fun r1=>((chk (decide (((List.length (x13):Nat):Int)=((List.length (x13):Nat):Int))) (subI (x13) 0 ((List.length (x13):Nat):Int))).bind fun l2=>((catI 1 (l2) (([(IntKind.wrap .u8 x17)]:List Int))).bind fun l3=>((J4.f K (x1) (x8) (x9) (l3)).bind fun r2=>(jn (fun(y2:Bool)=>(some y2)) (fun j1=>(bif (decide (r1.1=(2:Int)))then(bif (decide (r2.1=(2:Int)))then(j1 (decide ((IntKind.wrap .i64 (((List.length (r1.2.2):Nat):Int)+((List.length (r2.2.2):Nat):Int)))=(0:Int))))else(j1 false))else(bif (decide (r1.1=(3:Int)))then(bif (decide (r2.1=(2:Int)))then(j1 (decide ((IntKind.wrap .i64 (((List.length (r1.2.2):Nat):Int)+((List.length (r2.2.2):Nat):Int)))=(0:Int))))else(j1 false))else(j1 false))))))))))))))) (fun j2=>((JV.f K (x1) (x13)).bind fun r5=>(bif r5 then(j2 true)else(j2 (decide (((List.length (x13):Nat):Int)=(0:Int))))))))))
end Go.Proofs.YtomndohdnfebgaaGreatDoor
