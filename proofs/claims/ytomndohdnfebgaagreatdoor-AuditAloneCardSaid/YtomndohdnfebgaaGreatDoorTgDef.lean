/-
 Data and plain functions, printed by a program: what the functions of the cut compute (fuel K; none: a panic, or the fuel is spent).
 Conditions: none; nothing is claimed here.
-/
import Derived.Test.YtomndohdnfebgaaGreatDoorSxB
import Derived.Test.YtomndohdnfebgaaGreatDoorTgSq
set_option linter.unusedVariables false
namespace Go.Proofs.YtomndohdnfebgaaGreatDoor
open Go Go.Sep
def qR.b(K:Nat)(x1:(List Int))(x5:Int)(l1:(List Int))(rec:((List Int)×Int)→Option ((List Int)))(y1:(List Int)×Int):Option ((List Int)):=
 (bif (decide (y1.2<((List.length ((List.take (List.length (l1)) (x1)++List.drop (List.length (x1)) (l1))):Nat):Int)))then((getI (y1.1) y1.2).bind fun x3=>((getI (y1.1) y1.2).bind fun x2=>((getI (y1.1) y1.2).bind fun x4=>(rec ((List.set (y1.1) (Int.toNat (y1.2)) ((bxor .u8 x2 x5))),(IntKind.wrap .i64 (y1.2+(1:Int))))))))else(some y1.1))
def qR.l(K:Nat)(x1:(List Int))(x5:Int)(l1:(List Int)):Nat→((List Int)×Int)→Option ((List Int)):=Jc (qR.b K x1 x5 l1)
def Qhx.f(K:Nat)(x1:(List Int))(x5:Int):Option ((List Int)):=
 ((Qbe 1 ((0:Int)) (64:Int)).bind fun l1=>((qR.l K x1 x5 l1 K ((List.take (List.length (l1)) (x1)++List.drop (List.length (x1)) (l1)),(0:Int))).bind fun z1=>(some z1)))
def Qhy.f(K:Nat)(x1:(List Int))(x5:(List (List Int))):Option ((Vector Int 32)):=
 (jn (fun(y1:(List Int))=>((Qhx.f K (y1) ((54:Int))).bind fun r1=>((catI 24 (([r1]:List (List Int))) (x5)).bind fun l1=>((shaQ.f K (l1)).bind fun r2=>((subI (Yh (r2)) 0 ((32:Nat):Int)).bind fun l2=>((Qhx.f K (y1) ((92:Int))).bind fun r3=>((shaQ.f K (([r3,l2]:List (List Int)))).bind fun r4=>(some r4)))))))) (fun j1=>(bif (decide ((64:Int)<((List.length (x1):Nat):Int)))then((shaQ.f K (([x1]:List (List Int)))).bind fun r5=>((subI (Yh (r5)) 0 ((32:Nat):Int)).bind fun l3=>(j1 l3)))else(j1 x1))))
def Qfu.f(K:Nat)(x1:(Vector Int 32))(x2:(List Int)):Option ((Vector Int 32)):=
 ((subI (Yh (x1)) 0 ((32:Nat):Int)).bind fun l44=>((XW.f K (x2)).bind fun r45=>((Qhy.f K (l44) (([r45]:List (List Int)))).bind fun r69=>(some r69))))
def QcJ.f(K:Nat)(x1:Qr)(x8:Int)(x9:Int):Option ((Vector Int 32)):=
 ((Zy.f K (x1) (x8) (x9)).bind fun r66=>(bif (!r66)then(some (vofL 32 [(0:Int),(0:Int),(0:Int),(0:Int),(0:Int),(0:Int),(0:Int),(0:Int),(0:Int),(0:Int),(0:Int),(0:Int),(0:Int),(0:Int),(0:Int),(0:Int),(0:Int),(0:Int),(0:Int),(0:Int),(0:Int),(0:Int),(0:Int),(0:Int),(0:Int),(0:Int),(0:Int),(0:Int),(0:Int),(0:Int),(0:Int),(0:Int)]))else((getI (x1.fParts) x8).bind fun x71=>((Qfu.f K (x71) (([(1:Int),x9]:List Int))).bind fun r99=>(some r99)))))
def Qdz.f(K:Nat)(x1:Bool):Option (Int):=
 (bif x1 then(some (1:Int))else(some (0:Int)))
def jQ.f(K:Nat)(x1:Qr)(x8:Ql):Option ((Vector Int 32)):=
 (jn (fun(y1:Bool)=>(bif y1 then(some (vofL 32 [(0:Int),(0:Int),(0:Int),(0:Int),(0:Int),(0:Int),(0:Int),(0:Int),(0:Int),(0:Int),(0:Int),(0:Int),(0:Int),(0:Int),(0:Int),(0:Int),(0:Int),(0:Int),(0:Int),(0:Int),(0:Int),(0:Int),(0:Int),(0:Int),(0:Int),(0:Int),(0:Int),(0:Int),(0:Int),(0:Int),(0:Int),(0:Int)]))else((QcJ.f K (x1) (x8.fPart) (x8.fEpoch)).bind fun r1=>((Qdz.f K (x8.fBack)).bind fun r2=>((Qdz.f K (x8.fGood)).bind fun r3=>((Qfu.f K (r1) (([(2:Int),x8.fSaga,x8.fStep,r2,r3]:List Int))).bind fun r4=>(some r4))))))) (fun j1=>(bif (!decide (x8.fKind=(3:Int)))then(j1 true)else((Zy.f K (x1) (x8.fPart) (x8.fEpoch)).bind fun r5=>(j1 (!r5))))))
def JR.f(K:Nat)(x1:Int)(x2:Int)(x3:Int):Option (Bool):=
 (bif (decide (x2≤x1))then(some (decide (x1≤x3)))else(some false))
def QaB.f(K:Nat)(x1:Qp):Option (Bool):=
 ((JR.f K (x1.fPart) ((0:Int)) ((3:Int))).bind fun r36=>(bif (!r36)then(some true)else((JR.f K (x1.fKind) ((1:Int)) ((3:Int))).bind fun r41=>(some (!r41)))))
def QI.b(K:Nat)(x1:(List Qp))(rec:Int→Option (Sum ((Int)) (Unit)))(y1:Int):Option (Sum ((Int)) (Unit)):=
 (bif (decide (y1<((List.length (x1):Nat):Int)))then((getI (x1) y1).bind fun x2=>((QaB.f K (x2)).bind fun r1=>(bif r1 then(some (Sum.inl y1))else(rec (IntKind.wrap .i64 (y1+(1:Int)))))))else(some (Sum.inr ())))
def QI.l(K:Nat)(x1:(List Qp)):Nat→(Int)→Option (Sum ((Int)) (Unit)):=Jc (QI.b K x1)
def Jv.f(K:Nat)(x1:(List Qp)):Option (Int):=
 ((QI.l K x1 K (0:Int)).bind fun s1=>(match s1 with| .inl u1=>some u1| .inr u2=>(fun(z1:Unit)=>(some (-1:Int))) u2))
def YQ.f(K:Nat)(x1:(List Qp)):Option (Bool):=
 ((Jv.f K (x1)).bind fun r10=>(some (decide ((0:Int)≤r10))))
def QdA.f(K:Nat)(x1:Ql):Option (Bool):=
 (jn (fun(y1:Bool)=>(bif y1 then(some false)else(bif (decide (x1.fKind=(1:Int)))then((JR.f K (((List.length (x1.fSteps):Nat):Int)) ((1:Int)) ((6:Int))).bind fun r1=>(bif r1 then((YQ.f K (x1.fSteps)).bind fun r2=>(bif (!r2)then(some (decide (((List.length (x1.fData):Nat):Int)≤(60:Int))))else(some false)))else(some false)))else(jn (fun(y2:Bool)=>(bif y2 then((JR.f K (x1.fSeq) ((1:Int)) ((400:Int))).bind fun r3=>(bif r3 then((JR.f K (x1.fStep) ((0:Int)) ((5:Int))).bind fun r4=>(bif r4 then((JR.f K (x1.fTry) ((1:Int)) ((9:Int))).bind fun r5=>(some r5))else(some false)))else(some false)))else(bif (decide (x1.fKind=(5:Int)))then((JR.f K (x1.fSeq) ((1:Int)) ((400:Int))).bind fun r6=>(bif r6 then((JR.f K (x1.fEnd) ((2:Int)) ((4:Int))).bind fun r7=>(some r7))else(some false)))else(bif (decide (x1.fKind=(6:Int)))then(some (decide ((1:Int)≤x1.fEpoch)))else(some false))))) (fun j1=>(bif (decide (x1.fKind=(2:Int)))then(j1 true)else(bif (decide (x1.fKind=(4:Int)))then(j1 true)else(j1 (decide (x1.fKind=(3:Int))))))))))) (fun j2=>((JR.f K (x1.fSaga) ((0:Int)) ((11:Int))).bind fun r8=>(bif (!r8)then(j2 true)else((JR.f K (x1.fPart) ((0:Int)) ((3:Int))).bind fun r9=>(bif (!r9)then(j2 true)else((JR.f K (x1.fEpoch) ((0:Int)) ((400:Int))).bind fun r10=>(j2 (!r10)))))))))
def QgX.f(K:Nat)(x1:Ql):Option (Ql):=
 ((some {Qu with fKind:=x1.fKind}).bind fun v1=>(jn (fun(y1:Ql)=>(some y1)) (fun j1=>(jn (fun(y2:Ql)=>((some {y2 with fSaga:=x1.fSaga}).bind fun v3=>((some {v3 with fSeq:=x1.fSeq}).bind fun v4=>((some {v4 with fStep:=x1.fStep}).bind fun v5=>((some {v5 with fTry:=x1.fTry}).bind fun v6=>((some {v6 with fBack:=x1.fBack}).bind fun v7=>(j1 v7))))))) (fun j2=>(bif (decide (x1.fKind=(1:Int)))then((some {v1 with fSaga:=x1.fSaga}).bind fun v8=>((some {v8 with fSteps:=x1.fSteps}).bind fun v9=>((some {v9 with fGone:=x1.fGone}).bind fun v2=>(bif x1.fGone then((some {v2 with fCom:=x1.fCom}).bind fun v10=>(j1 v10))else((some {v2 with fData:=x1.fData}).bind fun v11=>((some {v11 with fSalt:=x1.fSalt}).bind fun v12=>(j1 v12)))))))else(bif (decide (x1.fKind=(3:Int)))then((some {v1 with fGood:=x1.fGood}).bind fun v13=>((some {v13 with fPart:=x1.fPart}).bind fun v14=>((some {v14 with fEpoch:=x1.fEpoch}).bind fun v15=>((some {v15 with fTag:=x1.fTag}).bind fun v16=>(j2 v16)))))else(jn (fun(y3:Bool)=>(bif y3 then(j2 v1)else(bif (decide (x1.fKind=(5:Int)))then((some {v1 with fSaga:=x1.fSaga}).bind fun v17=>((some {v17 with fSeq:=x1.fSeq}).bind fun v18=>((some {v18 with fEnd:=x1.fEnd}).bind fun v19=>(j1 v19))))else(bif (decide (x1.fKind=(6:Int)))then((some {v1 with fPart:=x1.fPart}).bind fun v20=>((some {v20 with fEpoch:=x1.fEpoch}).bind fun v21=>(j1 v21)))else(j1 v1))))) (fun j3=>(bif (decide (x1.fKind=(2:Int)))then(j3 true)else(j3 (decide (x1.fKind=(4:Int))))))))))))))
def QT.b(K:Nat)(x1:(List Qp))(x5:(List Qp))(rec:Int→Option (Sum ((Bool)) (Unit)))(y1:Int):Option (Sum ((Bool)) (Unit)):=
 (bif (decide (y1<((List.length (x1):Nat):Int)))then((getI (x1) y1).bind fun x2=>((getI (x5) y1).bind fun x3=>(bif (!((decide (x2.fPart=x3.fPart))&&((decide (x2.fKind=x3.fKind))&&true)))then(some (Sum.inl false))else(rec (IntKind.wrap .i64 (y1+(1:Int)))))))else(some (Sum.inr ())))
def QT.l(K:Nat)(x1:(List Qp))(x5:(List Qp)):Nat→(Int)→Option (Sum ((Bool)) (Unit)):=Jc (QT.b K x1 x5)
def Jh.f(K:Nat)(x1:(List Qp))(x5:(List Qp)):Option (Bool):=
 (bif (!decide (((List.length (x1):Nat):Int)=((List.length (x5):Nat):Int)))then(some false)else((QT.l K x1 x5 K (0:Int)).bind fun s1=>(match s1 with| .inl u1=>some u1| .inr u2=>(fun(z1:Unit)=>(some true)) u2)))
def bytes_Equal.f(K:Nat)(x1:(List Int))(x5:(List Int)):Option (Bool):=
 (some (ByteArray.toList (bofL (x1))==ByteArray.toList (bofL (x5))))
def QgY.f(K:Nat)(x1:Ql):Option (QbE):=
 ((some (QbE.mk (x1.fKind) (x1.fSaga) (x1.fSeq) (x1.fStep) (x1.fTry) (x1.fBack) (x1.fGood) (x1.fGone) (x1.fEnd) (x1.fPart) (x1.fEpoch))).bind fun v18=>(some v18))
def Qex.f(K:Nat)(x1:Ql)(x8:Ql):Option (Bool):=
 (jn (fun(y1:Bool)=>(bif y1 then(some false)else(jn (fun(y2:Bool)=>(some y2)) (fun j1=>((QgY.f K (x1)).bind fun r1=>((QgY.f K (x8)).bind fun r2=>(bif ((decide (r1.fKind=r2.fKind))&&((decide (r1.fSaga=r2.fSaga))&&((decide (r1.fSeq=r2.fSeq))&&((decide (r1.fStep=r2.fStep))&&((decide (r1.fTry=r2.fTry))&&((r1.fBack==r2.fBack)&&((r1.fGood==r2.fGood)&&((r1.fGone==r2.fGone)&&((decide (r1.fEnd=r2.fEnd))&&((decide (r1.fPart=r2.fPart))&&((decide (r1.fEpoch=r2.fEpoch))&&true)))))))))))then(bif (decide (x1.fTag=x8.fTag))then(bif (decide (x1.fSalt=x8.fSalt))then(j1 (decide (x1.fCom=x8.fCom)))else(j1 false))else(j1 false))else(j1 false)))))))) (fun j2=>((Jh.f K (x1.fSteps) (x8.fSteps)).bind fun r3=>(bif (!r3)then(j2 true)else((bytes_Equal.f K (x1.fData) (x8.fData)).bind fun r4=>(j2 (!r4)))))))
def qU.f(K:Nat)(x1:Ql):Option (Bool):=
 ((QdA.f K (x1)).bind fun r75=>(bif r75 then((QgX.f K (x1)).bind fun r80=>((Qex.f K (x1) (r80)).bind fun r91=>(some r91)))else(some false)))
def QaT.f(K:Nat)(x1:Ql):Option (Bool):=
 ((qU.f K (x1)).bind fun r17=>(some (!r17)))
def QM.b(K:Nat)(x1:(List Ql))(rec:Int→Option (Sum ((Int)) (Unit)))(y1:Int):Option (Sum ((Int)) (Unit)):=
 (bif (decide (y1<((List.length (x1):Nat):Int)))then((getI (x1) y1).bind fun x2=>((QaT.f K (x2)).bind fun r1=>(bif r1 then(some (Sum.inl y1))else(rec (IntKind.wrap .i64 (y1+(1:Int)))))))else(some (Sum.inr ())))
def QM.l(K:Nat)(x1:(List Ql)):Nat→(Int)→Option (Sum ((Int)) (Unit)):=Jc (QM.b K x1)
def JH.f(K:Nat)(x1:(List Ql)):Option (Int):=
 ((QM.l K x1 K (0:Int)).bind fun s1=>(match s1 with| .inl u1=>some u1| .inr u2=>(fun(z1:Unit)=>(some (-1:Int))) u2))
def Jr.f(K:Nat)(x1:(List Ql)):Option (Bool):=
 ((JH.f K (x1)).bind fun r10=>(some (decide ((0:Int)≤r10))))
def y8.f(K:Nat)(x1:(List Ql)):Option (Bool):=
 ((Jr.f K (x1)).bind fun r10=>(some (!r10)))
def yS.b(K:Nat)(rec:(Int×(List Int))→Option ((List Int)))(y1:Int×(List Int)):Option ((List Int)):=
 (bif (decide ((0:Int)<y1.1))then((catI 1 (y1.2) (([(bor .u8 (IntKind.wrap .u8 (Int.tmod y1.1 128)) (128:Int))]:List Int))).bind fun l1=>(rec ((Int.fdiv y1.1 (2^7)),l1)))else(some y1.2))
def yS.l(K:Nat):Nat→(Int×(List Int))→Option ((List Int)):=Jc (yS.b K)
def ji.f(K:Nat)(x1:Int):Option ((List Int)):=
 (jn (fun(y1:Bool)=>(bif y1 then(some ([]:List Int))else((yS.l K K ((Int.fdiv x1 (2^7)),([(IntKind.wrap .u8 (Int.tmod x1 128))]:List Int))).bind fun z1=>((Yf.f K (z1)).bind fun r1=>(some r1))))) (fun j1=>(bif (decide (x1<(0:Int)))then(j1 true)else(j1 (decide ((2147483647:Int)<x1))))))
def Qey.f(K:Nat):Option Unit:=
 (some ())
def Jw.b(K:Nat)(x1:(List Int))(rec:((List Int)×Int)→Option ((List Int)))(y1:(List Int)×Int):Option ((List Int)):=
 (bif (decide (y1.2<((List.length (x1):Nat):Int)))then((getI (x1) y1.2).bind fun x2=>((ji.f K (x2)).bind fun r1=>((catI 1 (y1.1) (r1)).bind fun l1=>(rec (l1,(IntKind.wrap .i64 (y1.2+(1:Int))))))))else(some y1.1))
def Jw.l(K:Nat)(x1:(List Int)):Nat→((List Int)×Int)→Option ((List Int)):=Jc (Jw.b K x1)
def jk.f(K:Nat)(x1:(List Int)):Option ((List Int)):=
 ((Jw.l K x1 K (([]:List Int),(0:Int))).bind fun z1=>(some z1))
def qc.b(K:Nat)(x1:Ql)(rec:((List Int)×Int)→Option ((List Int)))(y1:(List Int)×Int):Option ((List Int)):=
 (bif (decide (y1.2<((List.length (x1.fSteps):Nat):Int)))then((getI (x1.fSteps) y1.2).bind fun x2=>((jk.f K (([x2.fPart,x2.fKind]:List Int))).bind fun r1=>((catI 1 (y1.1) (r1)).bind fun l1=>(rec (l1,(IntKind.wrap .i64 (y1.2+(1:Int))))))))else(some y1.1))
def qc.l(K:Nat)(x1:Ql):Nat→((List Int)×Int)→Option ((List Int)):=Jc (qc.b K x1)
def QcK.f(K:Nat)(x1:Ql):Option ((List Int)):=
 ((jk.f K (([x1.fSaga,((List.length (x1.fSteps):Nat):Int)]:List Int))).bind fun r1=>((qc.l K x1 K (r1,(0:Int))).bind fun z1=>(some z1)))
def Ju.f(K:Nat)(x1:(List (List Int))):Option ((List Int)):=
 ((QS.f K (x1)).bind fun r20=>(some r20))
def X6.f(K:Nat)(x1:Bool):Option ((List Int)):=
 (bif x1 then(some ([(1:Int)]:List Int))else(some ([(0:Int)]:List Int)))
def QaC.f(K:Nat)(x1:Ql):Option ((List Int)):=
 ((jk.f K (([x1.fSaga,x1.fSeq,x1.fStep,x1.fTry]:List Int))).bind fun r84=>((X6.f K (x1.fBack)).bind fun r94=>((Ju.f K (([r84,r94]:List (List Int)))).bind fun r1=>(some r1))))
def yN.f(K:Nat)(x1:(Vector Int 32)):Option ((List Int)):=
 ((subI (Yh (x1)) 0 ((32:Nat):Int)).bind fun l32=>((Yo.f K (l32)).bind fun r37=>(some r37)))
def ZL.f(K:Nat)(x1:Ql):Option ((List Int)):=
 ((QaC.f K (x1)).bind fun r1=>((X6.f K (x1.fGood)).bind fun r2=>((jk.f K (([x1.fPart,x1.fEpoch]:List Int))).bind fun r3=>((yN.f K (x1.fTag)).bind fun r4=>((Ju.f K (([r1,r2,r3,r4]:List (List Int)))).bind fun r5=>(some r5))))))
def ZM.f(K:Nat)(x1:Ql):Option ((List Int)):=
 ((jk.f K (([x1.fSaga,x1.fSeq,x1.fEnd]:List Int))).bind fun r45=>(some r45))
def ZN.f(K:Nat)(x1:Ql):Option ((List Int)):=
 ((jk.f K (([x1.fPart,x1.fEpoch]:List Int))).bind fun r45=>(some r45))
def QdB.f(K:Nat)(x1:(List Int)):Option ((List Int)):=
 ((Qd3.f K ((IntKind.wrap .u64 ((List.length (x1):Nat):Int))) ((4:Int))).bind fun r44=>((QS.f K (([r44,x1]:List (List Int)))).bind fun r68=>(some r68)))
def YM.b(K:Nat)(x1:(List (List Int)))(rec:((List Int)×Int)→Option ((List Int)))(y1:(List Int)×Int):Option ((List Int)):=
 (bif (decide (y1.2<((List.length (x1):Nat):Int)))then((getI (x1) y1.2).bind fun x2=>((QdB.f K (x2)).bind fun r1=>((catI 1 (y1.1) (r1)).bind fun l1=>(rec (l1,(IntKind.wrap .i64 (y1.2+(1:Int))))))))else(some y1.1))
def YM.l(K:Nat)(x1:(List (List Int))):Nat→((List Int)×Int)→Option ((List Int)):=Jc (YM.b K x1)
def ZO.f(K:Nat)(x1:(List (List Int))):Option ((List Int)):=
 ((YM.l K x1 K (([]:List Int),(0:Int))).bind fun z1=>(some z1))
def Qhz.f(K:Nat)(x1:Int)(x2:(List (List Int))):Option ((Vector Int 32)):=
 ((ZO.f K (x2)).bind fun r52=>((shaQ.f K (([([(IntKind.wrap .u8 x1)]:List Int),r52]:List (List Int)))).bind fun r81=>(some r81)))
def QhA.f(K:Nat)(x1:Ql):Option ((Vector Int 32)):=
 (jn (fun(y1:Bool)=>(bif y1 then(some (vofL 32 [(0:Int),(0:Int),(0:Int),(0:Int),(0:Int),(0:Int),(0:Int),(0:Int),(0:Int),(0:Int),(0:Int),(0:Int),(0:Int),(0:Int),(0:Int),(0:Int),(0:Int),(0:Int),(0:Int),(0:Int),(0:Int),(0:Int),(0:Int),(0:Int),(0:Int),(0:Int),(0:Int),(0:Int),(0:Int),(0:Int),(0:Int),(0:Int)]))else(bif x1.fGone then(some x1.fCom)else((subI (Yh (x1.fSalt)) 0 ((32:Nat):Int)).bind fun l1=>((Qhz.f K ((4:Int)) (([l1,x1.fData]:List (List Int)))).bind fun r1=>(some r1)))))) (fun j1=>((qU.f K (x1)).bind fun r2=>(bif (!r2)then(j1 true)else(j1 (!decide (x1.fKind=(1:Int))))))))
def QaD.f(K:Nat)(x3:Ql):Option ((List Int)):=
 ((QhA.f K (x3)).bind fun r30=>((yN.f K (r30)).bind fun r35=>(some r35)))
def Qnb.f(K:Nat)(x3:Ql)(x10:Ql):Option ((List Int)):=
 ((qU.f K (x3)).bind fun r2=>(bif (!r2)then(some ([]:List Int))else(jn (fun(y1:(List Int))=>(bif (decide (x3.fKind=(1:Int)))then((QaD.f K (x10)).bind fun r3=>((catI 1 (y1) (r3)).bind fun l1=>(some l1)))else(some y1))) (fun j1=>((ji.f K (x3.fKind)).bind fun r1=>((Qey.f K).bind fun r16=>(bif decide (x3.fKind=(0:Int))then none else(bif decide (x3.fKind=(1:Int))then((QcK.f K (x3)).bind fun r4=>((Ju.f K (([r1,r4]:List (List Int)))).bind fun r5=>(j1 r5)))else(bif decide (x3.fKind=(2:Int))then((QaC.f K (x3)).bind fun r6=>((Ju.f K (([r1,r6]:List (List Int)))).bind fun r7=>(j1 r7)))else(bif decide (x3.fKind=(3:Int))then((ZL.f K (x3)).bind fun r8=>((Ju.f K (([r1,r8]:List (List Int)))).bind fun r9=>(j1 r9)))else(bif decide (x3.fKind=(4:Int))then((QaC.f K (x3)).bind fun r10=>((Ju.f K (([r1,r10]:List (List Int)))).bind fun r11=>(j1 r11)))else(bif decide (x3.fKind=(5:Int))then((ZM.f K (x3)).bind fun r12=>((Ju.f K (([r1,r12]:List (List Int)))).bind fun r13=>(j1 r13)))else(bif decide (x3.fKind=(6:Int))then((ZN.f K (x3)).bind fun r14=>((Ju.f K (([r1,r14]:List (List Int)))).bind fun r15=>(j1 r15)))else none)))))))))))))
def XL.f(K:Nat)(x1:Ql):Option ((List Int)):=
 ((Qnb.f K (x1) (x1)).bind fun r27=>(some r27))
def jR.f(K:Nat)(x1:(List Int)):Option ((Vector Int 32)):=
 ((shaQ.f K (([([(0:Int)]:List Int),x1]:List (List Int)))).bind fun r50=>(some r50))
def Y4.b(K:Nat)(x1:(List Ql))(rec:((List (Vector Int 32))×Int)→Option ((List (Vector Int 32))))(y1:(List (Vector Int 32))×Int):Option ((List (Vector Int 32))):=
 (bif (decide (y1.2<((List.length (x1):Nat):Int)))then((getI (x1) y1.2).bind fun x2=>((XL.f K (x2)).bind fun r1=>((jR.f K (r1)).bind fun r2=>((catI 32 (y1.1) (([r2]:List (Vector Int 32)))).bind fun l1=>(rec (l1,(IntKind.wrap .i64 (y1.2+(1:Int)))))))))else(some y1.1))
def Y4.l(K:Nat)(x1:(List Ql)):Nat→((List (Vector Int 32))×Int)→Option ((List (Vector Int 32))):=Jc (Y4.b K x1)
def jl.f(K:Nat)(x1:(List Ql)):Option ((List (Vector Int 32))):=
 ((y8.f K (x1)).bind fun r1=>(bif (!r1)then(some ([]:List (Vector Int 32)))else((Y4.l K x1 K (([]:List (Vector Int 32)),(0:Int))).bind fun z1=>(some z1))))
def QbG.b(K:Nat)(x1:Int)(rec:Int→Option (Int))(y35:Int):Option (Int):=
 (bif (decide (y35<(IntKind.wrap .i64 (x1-y35))))then(rec (IntKind.wrap .i64 (y35*(2:Int))))else(some y35))
def QbG.l(K:Nat)(x1:Int):Nat→(Int)→Option (Int):=Jc (QbG.b K x1)
def yl.f(K:Nat)(x1:Int):Option (Int):=
 (bif (decide (x1<(2:Int)))then(some (0:Int))else((QbG.l K x1 K (1:Int)).bind fun z41=>(some z41)))
def jD.f(K:Nat)(x1:(Vector Int 32))(x2:(Vector Int 32)):Option ((Vector Int 32)):=
 ((subI (Yh (x1)) 0 ((32:Nat):Int)).bind fun l44=>((subI (Yh (x2)) 0 ((32:Nat):Int)).bind fun l45=>((shaQ.f K (([([(1:Int)]:List Int),l44,l45]:List (List Int)))).bind fun r60=>(some r60))))
def JO.b(K:Nat)(self:(List (Vector Int 32))→Option ((Vector Int 32)))(x1:(List (Vector Int 32))):Option ((Vector Int 32)):=
 (bif (decide (((List.length (x1):Nat):Int)=(0:Int)))then((shaQ.f K (([]:List (List Int)))).bind fun r2=>(some r2))else(bif (decide (((List.length (x1):Nat):Int)=(1:Int)))then((getI (x1) (0:Int)).bind fun x2=>(some x2))else((yl.f K (((List.length (x1):Nat):Int))).bind fun r1=>((subI (x1) r1 ((List.length (x1):Nat):Int)).bind fun l1=>((subI (x1) 0 r1).bind fun l2=>((self (l2)).bind fun r3=>((self (l1)).bind fun r4=>((jD.f K (r3) (r4)).bind fun r5=>(some r5)))))))))
def JO.r(K:Nat):Nat→(List (Vector Int 32))→Option ((Vector Int 32))
 |0=>fun _=>none
 |k+1=>JO.b K (JO.r K k)
def JO.f(K:Nat)(x1:(List (Vector Int 32))):Option ((Vector Int 32)):=JO.r K K x1
def Qez.f(K:Nat)(x1:Qo):Option ((Vector Int 32)):=
 ((subI (Yh (x1.fRoot)) 0 ((32:Nat):Int)).bind fun l69=>((ji.f K (x1.fSize)).bind fun r70=>((Qhz.f K ((6:Int)) (([r70,l69]:List (List Int)))).bind fun r94=>(some r94))))
def ZP.f(K:Nat)(x1:Qr)(x8:Int)(x9:Qo):Option ((Vector Int 32)):=
 (jn (fun(y1:Bool)=>(bif y1 then(some (vofL 32 [(0:Int),(0:Int),(0:Int),(0:Int),(0:Int),(0:Int),(0:Int),(0:Int),(0:Int),(0:Int),(0:Int),(0:Int),(0:Int),(0:Int),(0:Int),(0:Int),(0:Int),(0:Int),(0:Int),(0:Int),(0:Int),(0:Int),(0:Int),(0:Int),(0:Int),(0:Int),(0:Int),(0:Int),(0:Int),(0:Int),(0:Int),(0:Int)]))else((Qez.f K (x9)).bind fun r1=>((getI (x1.fWits) x8).bind fun x2=>((subI (Yh (x2)) 0 ((32:Nat):Int)).bind fun l1=>((subI (Yh (r1)) 0 ((32:Nat):Int)).bind fun l2=>((Qhy.f K (l1) (([([(3:Int)]:List Int),l2]:List (List Int)))).bind fun r2=>(some r2)))))))) (fun j1=>((QaA.f K (x1)).bind fun r3=>(bif (!r3)then(j1 true)else((JY.f K (x8) ((0:Int)) ((IntKind.wrap .i64 (((List.length (x1.fWits):Nat):Int)-(1:Int))))).bind fun r4=>(bif (!r4)then(j1 true)else((JY.f K (x9.fSize) ((0:Int)) ((400:Int))).bind fun r5=>(j1 (!r5)))))))))
def qI.b(K:Nat)(x1:Qr)(x8:(List Ql))(r1:((Vector Int 32)))(rec:(Int×Int×(Vector Int 32)×(List Q8))→Option (Int×(Vector Int 32)×(List Q8)))(y1:Int×Int×(Vector Int 32)×(List Q8)):Option (Int×(Vector Int 32)×(List Q8)):=
 (bif (decide (y1.1<((List.length (x1.fWits):Nat):Int)))then((ZP.f K (x1) (y1.1) ((Qo.mk (((List.length (x8):Nat):Int)) (r1) (([]:List Q8))))).bind fun r2=>((catI 40 (y1.2.2.2) (([(Q8.mk (y1.1) (r2))]:List Q8))).bind fun l1=>(rec ((IntKind.wrap .i64 (y1.1+(1:Int))),y1.2.1,y1.2.2.1,l1))))else(some (y1.2.1,y1.2.2.1,y1.2.2.2)))
def qI.l(K:Nat)(x1:Qr)(x8:(List Ql))(r1:((Vector Int 32))):Nat→(Int×Int×(Vector Int 32)×(List Q8))→Option (Int×(Vector Int 32)×(List Q8)):=Jc (qI.b K x1 x8 r1)
def jH.f(K:Nat)(x1:Qr)(x8:(List Ql)):Option (Int×(Vector Int 32)×(List Q8)):=
 ((jl.f K (x8)).bind fun r2=>((JO.f K (r2)).bind fun r1=>((qI.l K x1 x8 r1 K ((0:Int),((List.length (x8):Nat):Int),r1,([]:List Q8))).bind fun z1=>(some (z1.1,z1.2.1,z1.2.2)))))
def Qgb.f(K:Nat)(x1:Int):Option (Int):=
 (some x1)
def QdT.f(K:Nat)(x1:Int):Option (Bool):=
 (some true)
def y9.f(K:Nat)(x1:Ql):Option (Ql):=
 (jn (fun(y96:Bool)=>(bif y96 then(some x1)else((QF.f K (x1.fSteps)).bind fun r99=>((QhA.f K (x1)).bind fun r1=>((some {Qu with fKind:=(1:Int),fSaga:=x1.fSaga,fSteps:=r99,fGone:=true,fCom:=r1}).bind fun v1=>(some v1)))))) (fun j1=>((qU.f K (x1)).bind fun r2=>(bif (!r2)then(j1 true)else(j1 (!decide (x1.fKind=(1:Int))))))))
def QbH.f(K:Nat)(x1:Ql)(x8:Int)(x9:Int):Option (Ql):=
 (chk (!(decide ((Int.tmod x8 32)<0))) (bif (decide ((band .u32 (Int.fdiv x9 (2^(min (Int.toNat (Int.tmod x8 32)) 32))) (1:Int))=(1:Int)))then((y9.f K (x1)).bind fun r81=>(some r81))else((QF.f K (x1.fSteps)).bind fun r92=>((Yo.f K (x1.fData)).bind fun r1=>(some {x1 with fSteps:=r92,fData:=r1})))))
def JS.b(K:Nat)(self:(List (Vector Int 32))→Int→Option ((List (Vector Int 32))×Bool))(x1:(List (Vector Int 32)))(x5:Int):Option ((List (Vector Int 32))×Bool):=
 (jn (fun(y1:Bool)=>(bif y1 then(some (([]:List (Vector Int 32)),false))else(bif (decide (((List.length (x1):Nat):Int)=(1:Int)))then(some (([]:List (Vector Int 32)),true))else((yl.f K (((List.length (x1):Nat):Int))).bind fun r1=>(bif (decide (x5<r1))then((subI (x1) 0 r1).bind fun l1=>((self (l1) (x5)).bind fun r2=>((subI (x1) r1 ((List.length (x1):Nat):Int)).bind fun l2=>((JO.f K (l2)).bind fun r3=>((catI 32 (r2.1) (([r3]:List (Vector Int 32)))).bind fun l3=>(some (l3,true)))))))else((subI (x1) r1 ((List.length (x1):Nat):Int)).bind fun l4=>((self (l4) ((IntKind.wrap .i64 (x5-r1)))).bind fun r4=>((subI (x1) 0 r1).bind fun l5=>((JO.f K (l5)).bind fun r5=>((catI 32 (r4.1) (([r5]:List (Vector Int 32)))).bind fun l6=>(some (l6,true)))))))))))) (fun j1=>(bif (decide (x5<(0:Int)))then(j1 true)else(j1 (decide (((List.length (x1):Nat):Int)≤x5))))))
def JS.r(K:Nat):Nat→(List (Vector Int 32))→Int→Option ((List (Vector Int 32))×Bool)
 |0=>fun _ _=>none
 |k+1=>JS.b K (JS.r K k)
def JS.f(K:Nat)(x1:(List (Vector Int 32)))(x5:Int):Option ((List (Vector Int 32))×Bool):=JS.r K K x1 x5
def yu.f(K:Nat)(x1:Int)(x2:Int)(x3:Int):Option (Bool):=
 (bif (decide (x2≤x1))then(some (decide (x1≤x3)))else(some false))
def XX.f(K:Nat)(x1:Q8):Option (Bool):=
 ((yu.f K (x1.fWit) ((0:Int)) ((3:Int))).bind fun r11=>(some (!r11)))
def QN.b(K:Nat)(x1:(List Q8))(rec:Int→Option (Sum ((Int)) (Unit)))(y1:Int):Option (Sum ((Int)) (Unit)):=
 (bif (decide (y1<((List.length (x1):Nat):Int)))then((getI (x1) y1).bind fun x2=>((XX.f K (x2)).bind fun r1=>(bif r1 then(some (Sum.inl y1))else(rec (IntKind.wrap .i64 (y1+(1:Int)))))))else(some (Sum.inr ())))
def QN.l(K:Nat)(x1:(List Q8)):Nat→(Int)→Option (Sum ((Int)) (Unit)):=Jc (QN.b K x1)
def JI.f(K:Nat)(x1:(List Q8)):Option (Int):=
 ((QN.l K x1 K (0:Int)).bind fun s1=>(match s1 with| .inl u1=>some u1| .inr u2=>(fun(z1:Unit)=>(some (-1:Int))) u2))
def Y0.f(K:Nat)(x1:(List Q8)):Option (Bool):=
 ((JI.f K (x1)).bind fun r10=>(some (decide ((0:Int)≤r10))))
def QaE.f(K:Nat)(x1:Qo):Option (Bool):=
 ((yu.f K (x1.fSize) ((0:Int)) ((400:Int))).bind fun r39=>(bif r39 then(bif (decide (((List.length (x1.fSigs):Nat):Int)≤(4:Int)))then((Y0.f K (x1.fSigs)).bind fun r44=>(some (!r44)))else(some false))else(some false)))
def YS.b(K:Nat)(x1:QG)(rec:(Int×Int)→Option (Sum ((Bool)) (Unit)))(y1:Int×Int):Option (Sum ((Bool)) (Unit)):=
 (bif (decide (y1.2<((List.length (x1.fItems):Nat):Int)))then((getI (x1.fItems) y1.2).bind fun x2=>(jn (fun(y2:Bool)=>(bif y2 then(some (Sum.inl false))else(rec (x2.fAt,(IntKind.wrap .i64 (y1.2+(1:Int))))))) (fun j1=>((qU.f K (x2.fRec)).bind fun r1=>(bif (!r1)then(j1 true)else((yu.f K (x2.fAt) ((IntKind.wrap .i64 (y1.1+(1:Int)))) ((IntKind.wrap .i64 (x1.fPoint.fSize-(1:Int))))).bind fun r2=>(bif (!r2)then(j1 true)else(bif (decide ((20:Int)<((List.length (x2.fPath):Nat):Int)))then(j1 true)else(bif x1.fWhole then(bif (!decide (x2.fAt=y1.2))then(j1 true)else(j1 (decide ((0:Int)<((List.length (x2.fPath):Nat):Int)))))else(j1 false))))))))))else(some (Sum.inr ())))
def YS.l(K:Nat)(x1:QG):Nat→(Int×Int)→Option (Sum ((Bool)) (Unit)):=Jc (YS.b K x1)
def qf.f(K:Nat)(x1:QG):Option (Bool):=
 (jn (fun(y1:Bool)=>(bif y1 then(some false)else((YS.l K x1 K ((-1:Int),(0:Int))).bind fun s1=>(match s1 with| .inl u1=>some u1| .inr u2=>(fun(z1:Unit)=>(some true)) u2)))) (fun j1=>((QaE.f K (x1.fPoint)).bind fun r1=>(bif (!r1)then(j1 true)else(bif (decide (x1.fPoint.fSize<((List.length (x1.fItems):Nat):Int)))then(j1 true)else(bif x1.fWhole then(j1 (!decide (((List.length (x1.fItems):Nat):Int)=x1.fPoint.fSize)))else(j1 false)))))))
def QaU.b(K:Nat)(x5:(List Ql))(x9:Qo)(x13:Int)(x14:Bool)(x15:Int)(r2:((List (Vector Int 32))))(rec:(Int×Bool×Qo×(List QL))→Option (Sum ((QG×Bool)) (Bool×Qo×(List QL))))(y1:Int×Bool×Qo×(List QL)):Option (Sum ((QG×Bool)) (Bool×Qo×(List QL))):=
 (bif (decide (y1.1<x15))then(jn (fun(y2:Bool×Qo×(List QL))=>(rec ((IntKind.wrap .i64 (y1.1+(1:Int))),y2.1,y2.2.1,y2.2.2))) (fun j1=>((QdT.f K (y1.1)).bind fun r3=>(bif r3 then(jn (fun(y4:Bool)=>(bif y4 then(some (Sum.inl (Jk,false)))else((getI (x5) y1.1).bind fun x1=>((QbH.f K (x1) (y1.1) (x13)).bind fun r1=>(jn (fun(y3:Bool×Int×Ql×(List (Vector Int 32)))=>((catI 256 (y1.2.2.2) (([(QL.mk (y3.2.1) (y3.2.2.1) (y3.2.2.2))]:List QL))).bind fun l1=>(j1 (y1.2.1,y1.2.2.1,l1)))) (fun j2=>(bif (!x14)then((JS.f K (r2) (y1.1)).bind fun r4=>(j2 (true,y1.1,r1,r4.1)))else(j2 (false,y1.1,r1,([]:List (Vector Int 32))))))))))) (fun j3=>(bif (decide (y1.1<(0:Int)))then(j3 true)else(j3 (decide (x9.fSize≤y1.1))))))else(j1 (y1.2.1,y1.2.2.1,y1.2.2.2))))))else(some (Sum.inr (y1.2.1,y1.2.2.1,y1.2.2.2))))
def QaU.l(K:Nat)(x5:(List Ql))(x9:Qo)(x13:Int)(x14:Bool)(x15:Int)(r1:((List (Vector Int 32)))):Nat→(Int×Bool×Qo×(List QL))→Option (Sum ((QG×Bool)) (Bool×Qo×(List QL))):=Jc (QaU.b K x5 x9 x13 x14 x15 r1)
def QhB.f(K:Nat)(x5:(List Ql))(x9:Qo)(x13:Int)(x14:Bool)(x15:Int):Option (QG×Bool):=
 (jn (fun(y1:Bool)=>(bif y1 then(some (Jk,false))else((subI (x5) 0 x9.fSize).bind fun l1=>((jl.f K (l1)).bind fun r1=>((Yu.f K (x9.fSigs)).bind fun r2=>((QaU.l K x5 x9 x13 x14 x15 r1 K ((0:Int),x14,{x9 with fSigs:=r2},([]:List QL))).bind fun s1=>(match s1 with| .inl u1=>some u1| .inr u2=>(fun(z1:Bool×Qo×(List QL))=>((qf.f K ((QG.mk (z1.1) (z1.2.1) (z1.2.2)))).bind fun r3=>(bif (!r3)then(some (Jk,false))else(some ((QG.mk (z1.1) (z1.2.1) (z1.2.2)),true))))) u2))))))) (fun j1=>((y8.f K (x5)).bind fun r4=>(bif (!r4)then(j1 true)else(bif (decide ((400:Int)<((List.length (x5):Nat):Int)))then(j1 true)else(bif (decide (x9.fSize<(0:Int)))then(j1 true)else(j1 (decide (((List.length (x5):Nat):Int)<x9.fSize)))))))))
def QcL.f(K:Nat)(x1:(List Ql))(x5:Qo)(x9:Int):Option (QG×Bool):=
 ((Qgb.f K ((maxI (0:Int) x5.fSize))).bind fun r44=>((QhB.f K (x1) (x5) (x9) (true) (r44)).bind fun r53=>(some (r53.1,r53.2))))
def QcM.f(K:Nat)(x5:Int)(x6:(List Ql))(x10:Int):Option (Int):=
 (some x5)
def QeA.f(K:Nat)(x5:Int)(x6:(List Ql))(x10:Int):Option (Bool):=
 ((getI (x6) x5).bind fun x1=>(bif (!decide (x1.fKind=(6:Int)))then((getI (x6) x5).bind fun x2=>(some (decide (x2.fSaga=x10))))else(some false)))
def XM.b(K:Nat)(x9:(List Ql))(x13:Qo)(x17:Int)(x18:Bool)(x19:Int)(x20:(List Ql))(x24:Int)(r2:((List (Vector Int 32))))(rec:(Int×Bool×Qo×(List QL))→Option (Sum ((QG×Bool)) (Bool×Qo×(List QL))))(y1:Int×Bool×Qo×(List QL)):Option (Sum ((QG×Bool)) (Bool×Qo×(List QL))):=
 (bif (decide (y1.1<x19))then(jn (fun(y2:Bool×Qo×(List QL))=>(rec ((IntKind.wrap .i64 (y1.1+(1:Int))),y2.1,y2.2.1,y2.2.2))) (fun j1=>((QeA.f K (y1.1) (x20) (x24)).bind fun r3=>(bif r3 then(jn (fun(y4:Bool)=>(bif y4 then(some (Sum.inl (Jk,false)))else((getI (x9) y1.1).bind fun x1=>((QbH.f K (x1) (y1.1) (x17)).bind fun r1=>(jn (fun(y3:Bool×Int×Ql×(List (Vector Int 32)))=>((catI 256 (y1.2.2.2) (([(QL.mk (y3.2.1) (y3.2.2.1) (y3.2.2.2))]:List QL))).bind fun l1=>(j1 (y1.2.1,y1.2.2.1,l1)))) (fun j2=>(bif (!x18)then((JS.f K (r2) (y1.1)).bind fun r4=>(j2 (true,y1.1,r1,r4.1)))else(j2 (false,y1.1,r1,([]:List (Vector Int 32))))))))))) (fun j3=>(bif (decide (y1.1<(0:Int)))then(j3 true)else(j3 (decide (x13.fSize≤y1.1))))))else(j1 (y1.2.1,y1.2.2.1,y1.2.2.2))))))else(some (Sum.inr (y1.2.1,y1.2.2.1,y1.2.2.2))))
def XM.l(K:Nat)(x9:(List Ql))(x13:Qo)(x17:Int)(x18:Bool)(x19:Int)(x20:(List Ql))(x24:Int)(r1:((List (Vector Int 32)))):Nat→(Int×Bool×Qo×(List QL))→Option (Sum ((QG×Bool)) (Bool×Qo×(List QL))):=Jc (XM.b K x9 x13 x17 x18 x19 x20 x24 r1)
def QdU.f(K:Nat)(x9:(List Ql))(x13:Qo)(x17:Int)(x18:Bool)(x19:Int)(x20:(List Ql))(x24:Int):Option (QG×Bool):=
 (jn (fun(y1:Bool)=>(bif y1 then(some (Jk,false))else((subI (x9) 0 x13.fSize).bind fun l1=>((jl.f K (l1)).bind fun r1=>((Yu.f K (x13.fSigs)).bind fun r2=>((XM.l K x9 x13 x17 x18 x19 x20 x24 r1 K ((0:Int),x18,{x13 with fSigs:=r2},([]:List QL))).bind fun s1=>(match s1 with| .inl u1=>some u1| .inr u2=>(fun(z1:Bool×Qo×(List QL))=>((qf.f K ((QG.mk (z1.1) (z1.2.1) (z1.2.2)))).bind fun r3=>(bif (!r3)then(some (Jk,false))else(some ((QG.mk (z1.1) (z1.2.1) (z1.2.2)),true))))) u2))))))) (fun j1=>((y8.f K (x9)).bind fun r4=>(bif (!r4)then(j1 true)else(bif (decide ((400:Int)<((List.length (x9):Nat):Int)))then(j1 true)else(bif (decide (x13.fSize<(0:Int)))then(j1 true)else(j1 (decide (((List.length (x9):Nat):Int)<x13.fSize)))))))))
def QhC.f(K:Nat)(x1:(List Ql))(x5:Qo)(x9:Int)(x10:Int):Option (QG×Bool):=
 ((QcM.f K ((minI (maxI (0:Int) x5.fSize) ((List.length (x1):Nat):Int))) (x1) (x10)).bind fun r53=>((QdU.f K (x1) (x5) (x9) (false) (r53) (x1) (x10)).bind fun r62=>(some (r62.1,r62.2))))
def Qgc.f(K:Nat)(x1:Q8):Option ((List Int)):=
 ((ji.f K (x1.fWit)).bind fun r60=>((yN.f K (x1.fTag)).bind fun r70=>((Ju.f K (([r60,r70]:List (List Int)))).bind fun r99=>(some r99))))
def jI.b(K:Nat)(x1:(List Q8))(rec:((List Int)×Int)→Option ((List Int)))(y1:(List Int)×Int):Option ((List Int)):=
 (bif (decide (y1.2<((List.length (x1):Nat):Int)))then((getI (x1) y1.2).bind fun x2=>((Qgc.f K (x2)).bind fun r1=>((catI 1 (y1.1) (r1)).bind fun l1=>(rec (l1,(IntKind.wrap .i64 (y1.2+(1:Int))))))))else(some y1.1))
def jI.l(K:Nat)(x1:(List Q8)):Nat→((List Int)×Int)→Option ((List Int)):=Jc (jI.b K x1)
def ZQ.f(K:Nat)(x1:(List Q8)):Option ((List Int)):=
 ((ji.f K (((List.length (x1):Nat):Int))).bind fun r1=>((jI.l K x1 K (r1,(0:Int))).bind fun z1=>(some z1)))
def Qjk.f(K:Nat)(x1:(List Int)):Option ((List Int)):=
 ((ji.f K (((List.length (x1):Nat):Int))).bind fun r27=>((catI 1 (r27) (x1)).bind fun l37=>(some l37)))
def Qjl.f(K:Nat)(x3:Ql):Option ((List Int)):=
 (bif x3.fGone then((X6.f K (true)).bind fun r1=>((yN.f K (x3.fCom)).bind fun r2=>((Ju.f K (([r1,r2]:List (List Int)))).bind fun r3=>(some r3))))else((X6.f K (false)).bind fun r4=>((yN.f K (x3.fSalt)).bind fun r5=>((Qjk.f K (x3.fData)).bind fun r6=>((Ju.f K (([r4,r5,r6]:List (List Int)))).bind fun r7=>(some r7))))))
def Qjm.f(K:Nat)(x3:Ql)(x10:Ql):Option ((List Int)):=
 ((qU.f K (x3)).bind fun r2=>(bif (!r2)then(some ([]:List Int))else(jn (fun(y1:(List Int))=>(bif (decide (x3.fKind=(1:Int)))then((Qjl.f K (x10)).bind fun r3=>((catI 1 (y1) (r3)).bind fun l1=>(some l1)))else(some y1))) (fun j1=>((ji.f K (x3.fKind)).bind fun r1=>((Qey.f K).bind fun r16=>(bif decide (x3.fKind=(0:Int))then none else(bif decide (x3.fKind=(1:Int))then((QcK.f K (x3)).bind fun r4=>((Ju.f K (([r1,r4]:List (List Int)))).bind fun r5=>(j1 r5)))else(bif decide (x3.fKind=(2:Int))then((QaC.f K (x3)).bind fun r6=>((Ju.f K (([r1,r6]:List (List Int)))).bind fun r7=>(j1 r7)))else(bif decide (x3.fKind=(3:Int))then((ZL.f K (x3)).bind fun r8=>((Ju.f K (([r1,r8]:List (List Int)))).bind fun r9=>(j1 r9)))else(bif decide (x3.fKind=(4:Int))then((QaC.f K (x3)).bind fun r10=>((Ju.f K (([r1,r10]:List (List Int)))).bind fun r11=>(j1 r11)))else(bif decide (x3.fKind=(5:Int))then((ZM.f K (x3)).bind fun r12=>((Ju.f K (([r1,r12]:List (List Int)))).bind fun r13=>(j1 r13)))else(bif decide (x3.fKind=(6:Int))then((ZN.f K (x3)).bind fun r14=>((Ju.f K (([r1,r14]:List (List Int)))).bind fun r15=>(j1 r15)))else none)))))))))))))
def Qj6.f(K:Nat)(x1:Ql):Option ((List Int)):=
 ((Qjm.f K (x1) (x1)).bind fun r27=>(some r27))
def jm.b(K:Nat)(x1:(List (Vector Int 32)))(rec:((List Int)×Int)→Option ((List Int)))(y1:(List Int)×Int):Option ((List Int)):=
 (bif (decide (y1.2<((List.length (x1):Nat):Int)))then((getI (x1) y1.2).bind fun x2=>((yN.f K (x2)).bind fun r1=>((catI 1 (y1.1) (r1)).bind fun l1=>(rec (l1,(IntKind.wrap .i64 (y1.2+(1:Int))))))))else(some y1.1))
def jm.l(K:Nat)(x1:(List (Vector Int 32))):Nat→((List Int)×Int)→Option ((List Int)):=Jc (jm.b K x1)
def Zh.f(K:Nat)(x1:(List (Vector Int 32))):Option ((List Int)):=
 ((ji.f K (((List.length (x1):Nat):Int))).bind fun r1=>((jm.l K x1 K (r1,(0:Int))).bind fun z1=>(some z1)))
def QhD.f(K:Nat)(x1:QL):Option ((List Int)):=
 ((ji.f K (x1.fAt)).bind fun r84=>((Qj6.f K (x1.fRec)).bind fun r94=>((Zh.f K (x1.fPath)).bind fun r1=>((Ju.f K (([r84,r94,r1]:List (List Int)))).bind fun r2=>(some r2)))))
def jo.b(K:Nat)(x1:(List QL))(rec:((List Int)×Int)→Option ((List Int)))(y1:(List Int)×Int):Option ((List Int)):=
 (bif (decide (y1.2<((List.length (x1):Nat):Int)))then((getI (x1) y1.2).bind fun x2=>((QhD.f K (x2)).bind fun r1=>((catI 1 (y1.1) (r1)).bind fun l1=>(rec (l1,(IntKind.wrap .i64 (y1.2+(1:Int))))))))else(some y1.1))
def jo.l(K:Nat)(x1:(List QL)):Nat→((List Int)×Int)→Option ((List Int)):=Jc (jo.b K x1)
def Zi.f(K:Nat)(x1:(List QL)):Option ((List Int)):=
 ((ji.f K (((List.length (x1):Nat):Int))).bind fun r1=>((jo.l K x1 K (r1,(0:Int))).bind fun z1=>(some z1)))
def QbI.b(K:Nat)(x1:QG)(rec:((List Int)×Int)→Option ((List Int)))(y1:(List Int)×Int):Option ((List Int)):=
 (bif (decide (y1.2<((List.length (x1.fItems):Nat):Int)))then((getI (x1.fItems) y1.2).bind fun x2=>((Qj6.f K (x2.fRec)).bind fun r1=>((catI 1 (y1.1) (r1)).bind fun l1=>(rec (l1,(IntKind.wrap .i64 (y1.2+(1:Int))))))))else(some y1.1))
def QbI.l(K:Nat)(x1:QG):Nat→((List Int)×Int)→Option ((List Int)):=Jc (QbI.b K x1)
def Qbh.f(K:Nat)(x1:QG):Option ((List Int)):=
 ((qf.f K (x1)).bind fun r2=>(bif (!r2)then(some ([]:List Int))else((X6.f K (x1.fWhole)).bind fun r3=>((ji.f K (x1.fPoint.fSize)).bind fun r4=>((yN.f K (x1.fPoint.fRoot)).bind fun r5=>((ZQ.f K (x1.fPoint.fSigs)).bind fun r6=>((Ju.f K (([([(105:Int),(110:Int),(115:Int),(112:Int)]:List Int),r3,r4,r5,r6]:List (List Int)))).bind fun r1=>(bif (!x1.fWhole)then((Zi.f K (x1.fItems)).bind fun r7=>((catI 1 (r1) (r7)).bind fun l1=>(some l1)))else((QbI.l K x1 K (r1,(0:Int))).bind fun z1=>(some z1))))))))))
def YI.fs(K:Nat)(x1:Bool)(x2:Int):Option (Sum Int Unit):=
 (bif (!x1)then(some (Sum.inl x2))else(some (Sum.inr ())))
def bytes_HasPrefix.f(K:Nat)(x1:(List Int))(x5:(List Int)):Option (Bool):=
 (bif (decide (((List.length (x5):Nat):Int)≤((List.length (x1):Nat):Int)))then((subI (x1) 0 ((List.length (x5):Nat):Int)).bind fun l39=>((bytes_Equal.f K (l39) (x5)).bind fun r44=>(some r44)))else(some false))
def bytes_CutPrefix.f(K:Nat)(x1:(List Int))(x5:(List Int)):Option ((List Int)×Bool):=
 ((bytes_HasPrefix.f K (x1) (x5)).bind fun r32=>(bif (!r32)then(some (x1,false))else((subI (x1) ((List.length (x5):Nat):Int) ((List.length (x1):Nat):Int)).bind fun l37=>(some (l37,true)))))
def QeB.f(K:Nat)(x1:(List Int)):Option (Qk):=
 ((Yo.f K (x1)).bind fun r27=>(some (Qk.mk (r27) ((0:Int)))))
def QJ.f(K:Nat)(x3:Qk):Option (Int):=
 (some x3.fBad)
def qA.f(K:Nat)(x1:(List Int)):Option (Bool×Int×Int):=
 (bif (decide (((List.length (x1):Nat):Int)=(0:Int)))then(some (false,(0:Int),(3:Int)))else((getI (x1) (0:Int)).bind fun x81=>(bif (decide ((1:Int)<x81))then(some (false,(0:Int),(2:Int)))else((getI (x1) (0:Int)).bind fun x2=>(some ((decide (x2=(1:Int))),(1:Int),(0:Int)))))))
def Yi.f(K:Nat)(x3:Int)(x4:Qk):Option (Qk):=
 (jn (fun(y20:Bool)=>(bif y20 then((some (Qk.mk (([]:List Int)) (x4.fBad))).bind fun v23=>((some (Qk.mk (([]:List Int)) (x3))).bind fun v25=>(some (Qk.mk (([]:List Int)) (v25.fBad)))))else(some x4))) (fun j27=>(bif (decide (x4.fBad=(0:Int)))then(j27 (!decide (x3=(0:Int))))else(j27 false))))
def jF.f(K:Nat)(x3:Qk):Option (Bool×Qk):=
 ((QJ.f K (x3)).bind fun r54=>(bif (!decide (r54=(0:Int)))then(some (false,x3))else((qA.f K (x3.fB)).bind fun r59=>(bif (!decide (r59.2.2=(0:Int)))then((Yi.f K (r59.2.2) (x3)).bind fun r72=>(some (false,r72)))else((subI (x3.fB) r59.2.1 ((List.length (x3.fB):Nat):Int)).bind fun l80=>((some (Qk.mk (l80) (x3.fBad))).bind fun v85=>(some (r59.1,v85))))))))
def YL.f(K:Nat)(x3:Qk):Option (Bool×Qk):=
 ((jF.f K (x3)).bind fun r18=>(some (r18.1,r18.2)))
def YW.b(K:Nat)(x1:(List Int))(rec:(Int×Int)→Option (Sum ((Int×Int×Int)) (Unit)))(y1:Int×Int):Option (Sum ((Int×Int×Int)) (Unit)):=
 (bif (decide (y1.2<((List.length (x1):Nat):Int)))then((getI (x1) y1.2).bind fun x2=>(jn (fun(y2:Bool)=>(bif y2 then(some (Sum.inl ((0:Int),(0:Int),(2:Int))))else(bif (decide (x2<(128:Int)))then(bif (decide ((2147483647:Int)<(bor .i64 (IntKind.wrap .i64 (y1.1*2^7)) (IntKind.wrap .i64 (Int.tmod x2 128)))))then(some (Sum.inl ((0:Int),(0:Int),(2:Int))))else(some (Sum.inl ((bor .i64 (IntKind.wrap .i64 (y1.1*2^7)) (IntKind.wrap .i64 (Int.tmod x2 128))),(IntKind.wrap .i64 (y1.2+(1:Int))),(0:Int)))))else(rec ((bor .i64 (IntKind.wrap .i64 (y1.1*2^7)) (IntKind.wrap .i64 (Int.tmod x2 128))),(IntKind.wrap .i64 (y1.2+(1:Int)))))))) (fun j1=>(bif (decide (y1.2=(0:Int)))then(bif (decide (x2=(128:Int)))then(j1 true)else(j1 (decide (y1.2=(5:Int)))))else(j1 (decide (y1.2=(5:Int))))))))else(some (Sum.inr ())))
def YW.l(K:Nat)(x1:(List Int)):Nat→(Int×Int)→Option (Sum ((Int×Int×Int)) (Unit)):=Jc (YW.b K x1)
def ZR.f(K:Nat)(x1:(List Int)):Option (Int×Int×Int):=
 ((YW.l K x1 K ((0:Int),(0:Int))).bind fun s1=>(match s1 with| .inl u1=>some u1| .inr u2=>(fun(z1:Unit)=>(some ((0:Int),(0:Int),(3:Int)))) u2))
def Xo.f(K:Nat)(x3:Qk):Option (Int×Qk):=
 ((QJ.f K (x3)).bind fun r54=>(bif (!decide (r54=(0:Int)))then(some ((0:Int),x3))else((ZR.f K (x3.fB)).bind fun r59=>(bif (!decide (r59.2.2=(0:Int)))then((Yi.f K (r59.2.2) (x3)).bind fun r72=>(some ((0:Int),r72)))else((subI (x3.fB) r59.2.1 ((List.length (x3.fB):Nat):Int)).bind fun l80=>((some (Qk.mk (l80) (x3.fBad))).bind fun v85=>(some (r59.1,v85))))))))
def QD.f(K:Nat)(x3:Qk):Option (Int×Qk):=
 ((Xo.f K (x3)).bind fun r18=>(some (r18.1,r18.2)))
def jK.f(K:Nat)(x1:(List Int)):Option ((Vector Int 32)×Int×Int):=
 (bif (decide (((List.length (x1):Nat):Int)<(32:Int)))then(some ((Vector.replicate 32 (0:Int)),(0:Int),(3:Int)))else((subI (x1) 0 (32:Int)).bind fun l36=>(chk (decide (32≤List.length (l36))) (some ((vofL 32 (l36)),(32:Int),(0:Int))))))
def qB.f(K:Nat)(x3:Qk):Option ((Vector Int 32)×Qk):=
 ((QJ.f K (x3)).bind fun r64=>(bif (!decide (r64=(0:Int)))then(some ((Vector.replicate 32 (0:Int)),x3))else((jK.f K (x3.fB)).bind fun r69=>(bif (!decide (r69.2.2=(0:Int)))then((Yi.f K (r69.2.2) (x3)).bind fun r84=>(some ((Vector.replicate 32 (0:Int)),r84)))else((subI (x3.fB) r69.2.1 ((List.length (x3.fB):Nat):Int)).bind fun l92=>((some (Qk.mk (l92) (x3.fBad))).bind fun v97=>(some (r69.1,v97))))))))
def YA.f(K:Nat)(x3:Qk):Option ((Vector Int 32)×Qk):=
 ((qB.f K (x3)).bind fun r22=>(some (r22.1,r22.2)))
def QcN.f(K:Nat)(x5:Int)(x6:Qk):Option (Q8×Qk):=
 ((QD.f K (x6)).bind fun r35=>((YA.f K (r35.2)).bind fun r43=>((some (Q8.mk (r35.1) (r43.1))).bind fun v51=>(some (v51,r43.2)))))
def Yd.b(K:Nat)(x5:Int)(rec:((List Q8)×Int×Qk)→Option ((List Q8)×Qk))(y1:(List Q8)×Int×Qk):Option ((List Q8)×Qk):=
 (bif (decide (y1.2.1<x5))then((QJ.f K (y1.2.2)).bind fun r2=>(bif (!decide (r2=(0:Int)))then(some (y1.1,y1.2.2))else((QcN.f K (y1.2.1) (y1.2.2)).bind fun r1=>((catI 40 (y1.1) (([r1.1]:List Q8))).bind fun l1=>(rec (l1,(IntKind.wrap .i64 (y1.2.1+(1:Int))),r1.2))))))else(some (y1.1,y1.2.2)))
def Yd.l(K:Nat)(x5:Int):Nat→((List Q8)×Int×Qk)→Option ((List Q8)×Qk):=Jc (Yd.b K x5)
def qi.f(K:Nat)(x5:Int)(x6:Int)(x7:Qk):Option ((List Q8)×Qk):=
 (jn (fun(y1:Qk)=>((Yd.l K x5 K (([]:List Q8),(0:Int),y1)).bind fun z1=>(some (z1.1,z1.2)))) (fun j1=>(bif (decide (x6<x5))then((Yi.f K ((4:Int)) (x7)).bind fun r1=>(j1 r1))else(j1 x7))))
def Ji.b(K:Nat)(r3:(Int×Qk))(rec:((List Qp)×Int×Qk)→Option ((List Qp)×Qk))(y1:(List Qp)×Int×Qk):Option ((List Qp)×Qk):=
 (bif (decide (y1.2.1<r3.1))then((QJ.f K (y1.2.2)).bind fun r4=>(bif (!decide (r4=(0:Int)))then(some (y1.1,y1.2.2))else((QD.f K (y1.2.2)).bind fun r1=>((QD.f K (r1.2)).bind fun r2=>((catI 16 (y1.1) (([(Qp.mk (r1.1) (r2.1))]:List Qp))).bind fun l1=>(rec (l1,(IntKind.wrap .i64 (y1.2.1+(1:Int))),r2.2)))))))else(some (y1.1,y1.2.2)))
def Ji.l(K:Nat)(r1:(Int×Qk)):Nat→((List Qp)×Int×Qk)→Option ((List Qp)×Qk):=Jc (Ji.b K r1)
def QcO.f(K:Nat)(x3:Qk):Option ((List Qp)×Qk):=
 ((QD.f K (x3)).bind fun r1=>(jn (fun(y1:Qk)=>((Ji.l K r1 K (([]:List Qp),(0:Int),y1)).bind fun z1=>(some (z1.1,z1.2)))) (fun j1=>(bif (decide ((6:Int)<r1.1))then((Yi.f K ((2:Int)) (r1.2)).bind fun r2=>(j1 r2))else(j1 r1.2)))))
def JK.f(K:Nat)(x3:(List Int))(x7:Int):Option ((List Int)×Int×Int):=
 ((ZR.f K (x3)).bind fun r33=>(bif (!decide (r33.2.2=(0:Int)))then(some (([]:List Int),(0:Int),r33.2.2))else(bif (decide (x7<r33.1))then(some (([]:List Int),(0:Int),(4:Int)))else(bif (decide ((IntKind.wrap .i64 (((List.length (x3):Nat):Int)-r33.2.1))<r33.1))then(some (([]:List Int),(0:Int),(3:Int)))else((subI (x3) r33.2.1 (IntKind.wrap .i64 (r33.2.1+r33.1))).bind fun l41=>((Yo.f K (l41)).bind fun r46=>(some (r46,(IntKind.wrap .i64 (r33.2.1+r33.1)),(0:Int)))))))))
def qJ.f(K:Nat)(x5:Qk)(x9:Int):Option ((List Int)×Qk):=
 ((QJ.f K (x5)).bind fun r67=>(bif (!decide (r67=(0:Int)))then(some (([]:List Int),x5))else((JK.f K (x5.fB) (x9)).bind fun r73=>(bif (!decide (r73.2.2=(0:Int)))then((Yi.f K (r73.2.2) (x5)).bind fun r91=>(some (([]:List Int),r91)))else((subI (x5.fB) r73.2.1 ((List.length (x5.fB):Nat):Int)).bind fun l1=>((some (Qk.mk (l1) (x5.fBad))).bind fun v1=>(some (r73.1,v1))))))))
def YT.f(K:Nat)(x3:Int)(x4:Qk):Option ((List Int)×Qk):=
 ((qJ.f K (x4) (x3)).bind fun r33=>(some (r33.1,r33.2)))
def QeC.f(K:Nat)(x3:Qk):Option (Ql×Qk):=
 ((QD.f K (x3)).bind fun r1=>((some {Qu with fKind:=r1.1}).bind fun v1=>(jn (fun(y1:Qk×Int×Int×Int×Int×Int×Bool×Bool×Int×Int×Int×(Vector Int 32)×(List Qp)×(List Int)×(Vector Int 32)×Bool×(Vector Int 32))=>(jn (fun(y2:Qk)=>((QJ.f K (y2)).bind fun r22=>(bif (!decide (r22=(0:Int)))then(some (Qu,y2))else((some (Ql.mk (y1.2.1) (y1.2.2.1) (y1.2.2.2.1) (y1.2.2.2.2.1) (y1.2.2.2.2.2.1) (y1.2.2.2.2.2.2.1) (y1.2.2.2.2.2.2.2.1) (y1.2.2.2.2.2.2.2.2.1) (y1.2.2.2.2.2.2.2.2.2.1) (y1.2.2.2.2.2.2.2.2.2.2.1) (y1.2.2.2.2.2.2.2.2.2.2.2.1) (y1.2.2.2.2.2.2.2.2.2.2.2.2.1) (y1.2.2.2.2.2.2.2.2.2.2.2.2.2.1) (y1.2.2.2.2.2.2.2.2.2.2.2.2.2.2.1) (y1.2.2.2.2.2.2.2.2.2.2.2.2.2.2.2.1) (y1.2.2.2.2.2.2.2.2.2.2.2.2.2.2.2.2))).bind fun v7=>(some (v7,y2)))))) (fun j3=>((qU.f K ((Ql.mk (y1.2.1) (y1.2.2.1) (y1.2.2.2.1) (y1.2.2.2.2.1) (y1.2.2.2.2.2.1) (y1.2.2.2.2.2.2.1) (y1.2.2.2.2.2.2.2.1) (y1.2.2.2.2.2.2.2.2.1) (y1.2.2.2.2.2.2.2.2.2.1) (y1.2.2.2.2.2.2.2.2.2.2.1) (y1.2.2.2.2.2.2.2.2.2.2.2.1) (y1.2.2.2.2.2.2.2.2.2.2.2.2.1) (y1.2.2.2.2.2.2.2.2.2.2.2.2.2.1) (y1.2.2.2.2.2.2.2.2.2.2.2.2.2.2.1) (y1.2.2.2.2.2.2.2.2.2.2.2.2.2.2.2.1) (y1.2.2.2.2.2.2.2.2.2.2.2.2.2.2.2.2)))).bind fun r23=>(bif (!r23)then((Yi.f K ((2:Int)) (y1.1)).bind fun r24=>(j3 r24))else(j3 y1.1)))))) (fun j1=>(bif (decide (v1.fKind=(1:Int)))then((QD.f K (r1.2)).bind fun r5=>((QcO.f K (r5.2)).bind fun r3=>((some {v1 with fSaga:=r5.1}).bind fun v2=>((YL.f K (r3.2)).bind fun r2=>(bif r2.1 then((YA.f K (r2.2)).bind fun r6=>(j1 (r6.2,v2.fKind,v2.fSaga,v2.fSeq,v2.fStep,v2.fTry,v2.fBack,v2.fGood,v2.fEnd,v2.fPart,v2.fEpoch,v2.fTag,r3.1,v2.fData,v2.fSalt,r2.1,r6.1)))else((YA.f K (r2.2)).bind fun r7=>((YT.f K ((60:Int)) (r7.2)).bind fun r8=>(j1 (r8.2,v2.fKind,v2.fSaga,v2.fSeq,v2.fStep,v2.fTry,v2.fBack,v2.fGood,v2.fEnd,v2.fPart,v2.fEpoch,v2.fTag,r3.1,r8.1,r7.1,r2.1,v2.fCom)))))))))else(jn (fun(y3:Bool)=>(bif y3 then((QD.f K (r1.2)).bind fun r9=>((QD.f K (r9.2)).bind fun r10=>((QD.f K (r10.2)).bind fun r11=>((QD.f K (r11.2)).bind fun r12=>((YL.f K (r12.2)).bind fun r4=>((some {v1 with fSaga:=r9.1}).bind fun v8=>((some {v8 with fSeq:=r10.1}).bind fun v9=>((some {v9 with fStep:=r11.1}).bind fun v10=>((some {v10 with fTry:=r12.1}).bind fun v11=>((some {v11 with fBack:=r4.1}).bind fun v3=>(bif (decide (v3.fKind=(3:Int)))then((YL.f K (r4.2)).bind fun r13=>((QD.f K (r13.2)).bind fun r14=>((QD.f K (r14.2)).bind fun r15=>((YA.f K (r15.2)).bind fun r16=>((some {v3 with fGood:=r13.1}).bind fun v12=>((some {v12 with fPart:=r14.1}).bind fun v13=>((some {v13 with fEpoch:=r15.1}).bind fun v14=>((some {v14 with fTag:=r16.1}).bind fun v4=>(j1 (r16.2,v4.fKind,v4.fSaga,v4.fSeq,v4.fStep,v4.fTry,v4.fBack,v4.fGood,v4.fEnd,v4.fPart,v4.fEpoch,v4.fTag,v4.fSteps,v4.fData,v4.fSalt,v4.fGone,v4.fCom))))))))))else(j1 (r4.2,v3.fKind,v3.fSaga,v3.fSeq,v3.fStep,v3.fTry,v3.fBack,v3.fGood,v3.fEnd,v3.fPart,v3.fEpoch,v3.fTag,v3.fSteps,v3.fData,v3.fSalt,v3.fGone,v3.fCom)))))))))))))else(bif (decide (v1.fKind=(5:Int)))then((QD.f K (r1.2)).bind fun r17=>((QD.f K (r17.2)).bind fun r18=>((QD.f K (r18.2)).bind fun r19=>((some {v1 with fSaga:=r17.1}).bind fun v15=>((some {v15 with fSeq:=r18.1}).bind fun v16=>((some {v16 with fEnd:=r19.1}).bind fun v5=>(j1 (r19.2,v5.fKind,v5.fSaga,v5.fSeq,v5.fStep,v5.fTry,v5.fBack,v5.fGood,v5.fEnd,v5.fPart,v5.fEpoch,v5.fTag,v5.fSteps,v5.fData,v5.fSalt,v5.fGone,v5.fCom))))))))else(bif (decide (v1.fKind=(6:Int)))then((QD.f K (r1.2)).bind fun r20=>((QD.f K (r20.2)).bind fun r21=>((some {v1 with fPart:=r20.1}).bind fun v17=>((some {v17 with fEpoch:=r21.1}).bind fun v6=>(j1 (r21.2,v6.fKind,v6.fSaga,v6.fSeq,v6.fStep,v6.fTry,v6.fBack,v6.fGood,v6.fEnd,v6.fPart,v6.fEpoch,v6.fTag,v6.fSteps,v6.fData,v6.fSalt,v6.fGone,v6.fCom))))))else((Yi.f K ((2:Int)) (r1.2)).bind fun r25=>(j1 (r25,v1.fKind,v1.fSaga,v1.fSeq,v1.fStep,v1.fTry,v1.fBack,v1.fGood,v1.fEnd,v1.fPart,v1.fEpoch,v1.fTag,v1.fSteps,v1.fData,v1.fSalt,v1.fGone,v1.fCom))))))) (fun j2=>(bif (decide (v1.fKind=(2:Int)))then(j2 true)else(bif (decide (v1.fKind=(4:Int)))then(j2 true)else(j2 (decide (v1.fKind=(3:Int)))))))))))))
def QaF.f(K:Nat)(x5:Int)(x6:Qk):Option (QL×Qk):=
 ((QeC.f K (x6)).bind fun r45=>((some (QL.mk (x5) (r45.1) (([]:List (Vector Int 32))))).bind fun v59=>(some (v59,r45.2))))
def QZ.b(K:Nat)(x5:Int)(rec:((List QL)×Int×Qk)→Option ((List QL)×Qk))(y1:(List QL)×Int×Qk):Option ((List QL)×Qk):=
 (bif (decide (y1.2.1<x5))then((QJ.f K (y1.2.2)).bind fun r2=>(bif (!decide (r2=(0:Int)))then(some (y1.1,y1.2.2))else((QaF.f K (y1.2.1) (y1.2.2)).bind fun r1=>((catI 256 (y1.1) (([r1.1]:List QL))).bind fun l1=>(rec (l1,(IntKind.wrap .i64 (y1.2.1+(1:Int))),r1.2))))))else(some (y1.1,y1.2.2)))
def QZ.l(K:Nat)(x5:Int):Nat→((List QL)×Int×Qk)→Option ((List QL)×Qk):=Jc (QZ.b K x5)
def J3.f(K:Nat)(x5:Int)(x6:Int)(x7:Qk):Option ((List QL)×Qk):=
 (jn (fun(y1:Qk)=>((QZ.l K x5 K (([]:List QL),(0:Int),y1)).bind fun z1=>(some (z1.1,z1.2)))) (fun j1=>(bif (decide (x6<x5))then((Yi.f K ((4:Int)) (x7)).bind fun r1=>(j1 r1))else(j1 x7))))
def QaV.f(K:Nat)(x5:Int)(x6:Qk):Option ((Vector Int 32)×Qk):=
 ((YA.f K (x6)).bind fun r25=>(some (r25.1,r25.2)))
def Q3.b(K:Nat)(x5:Int)(rec:((List (Vector Int 32))×Int×Qk)→Option ((List (Vector Int 32))×Qk))(y1:(List (Vector Int 32))×Int×Qk):Option ((List (Vector Int 32))×Qk):=
 (bif (decide (y1.2.1<x5))then((QJ.f K (y1.2.2)).bind fun r2=>(bif (!decide (r2=(0:Int)))then(some (y1.1,y1.2.2))else((QaV.f K (y1.2.1) (y1.2.2)).bind fun r1=>((catI 32 (y1.1) (([r1.1]:List (Vector Int 32)))).bind fun l1=>(rec (l1,(IntKind.wrap .i64 (y1.2.1+(1:Int))),r1.2))))))else(some (y1.1,y1.2.2)))
def Q3.l(K:Nat)(x5:Int):Nat→((List (Vector Int 32))×Int×Qk)→Option ((List (Vector Int 32))×Qk):=Jc (Q3.b K x5)
def qM.f(K:Nat)(x5:Int)(x6:Int)(x7:Qk):Option ((List (Vector Int 32))×Qk):=
 (jn (fun(y1:Qk)=>((Q3.l K x5 K (([]:List (Vector Int 32)),(0:Int),y1)).bind fun z1=>(some (z1.1,z1.2)))) (fun j1=>(bif (decide (x6<x5))then((Yi.f K ((4:Int)) (x7)).bind fun r1=>(j1 r1))else(j1 x7))))
def QaG.f(K:Nat)(x5:Int)(x6:Qk):Option (QL×Qk):=
 ((QD.f K (x6)).bind fun r1=>((QeC.f K (r1.2)).bind fun r2=>((some (QL.mk (r1.1) (r2.1) (([]:List (Vector Int 32))))).bind fun v1=>((QD.f K (r2.2)).bind fun r3=>((qM.f K (r3.1) ((20:Int)) (r3.2)).bind fun r4=>(some ({v1 with fPath:=r4.1},r4.2)))))))
def QV.b(K:Nat)(x5:Int)(rec:((List QL)×Int×Qk)→Option ((List QL)×Qk))(y1:(List QL)×Int×Qk):Option ((List QL)×Qk):=
 (bif (decide (y1.2.1<x5))then((QJ.f K (y1.2.2)).bind fun r2=>(bif (!decide (r2=(0:Int)))then(some (y1.1,y1.2.2))else((QaG.f K (y1.2.1) (y1.2.2)).bind fun r1=>((catI 256 (y1.1) (([r1.1]:List QL))).bind fun l1=>(rec (l1,(IntKind.wrap .i64 (y1.2.1+(1:Int))),r1.2))))))else(some (y1.1,y1.2.2)))
def QV.l(K:Nat)(x5:Int):Nat→((List QL)×Int×Qk)→Option ((List QL)×Qk):=Jc (QV.b K x5)
def JB.f(K:Nat)(x5:Int)(x6:Int)(x7:Qk):Option ((List QL)×Qk):=
 (jn (fun(y1:Qk)=>((QV.l K x5 K (([]:List QL),(0:Int),y1)).bind fun z1=>(some (z1.1,z1.2)))) (fun j1=>(bif (decide (x6<x5))then((Yi.f K ((4:Int)) (x7)).bind fun r1=>(j1 r1))else(j1 x7))))
def Jq.f(K:Nat)(x3:Qk):Option (Int):=
 ((QJ.f K (x3)).bind fun r22=>(bif (!decide (r22=(0:Int)))then(some r22)else(bif (decide ((0:Int)<((List.length (x3.fB):Nat):Int)))then(some (2:Int))else(some (0:Int)))))
def XN.f(K:Nat)(x1:(List Int)):Option (QG×Int):=
 ((bytes_CutPrefix.f K (x1) (([(105:Int),(110:Int),(115:Int),(112:Int)]:List Int))).bind fun r3=>(bif (!r3.2)then(some (Jk,(2:Int)))else((QeB.f K (r3.1)).bind fun r11=>((YL.f K (r11)).bind fun r4=>((some {Jk with fWhole:=r4.1}).bind fun v3=>((QD.f K (r4.2)).bind fun r2=>((some {v3 with fPoint:={v3.fPoint with fSize:=r2.1} }).bind fun v2=>(jn (fun(y2:Qk)=>((YA.f K (y2)).bind fun r5=>((some {v2 with fPoint:={v2.fPoint with fRoot:=r5.1} }).bind fun v1=>((QD.f K (r5.2)).bind fun r6=>((qi.f K (r6.1) ((4:Int)) (r6.2)).bind fun r1=>(jn (fun(y1:Bool×Int×(Vector Int 32)×(List Q8)×(List QL)×Qk)=>((Jq.f K (y1.2.2.2.2.2)).bind fun r7=>(bif (!decide (r7=(0:Int)))then(some (Jk,r7))else((qf.f K ((QG.mk (y1.1) ((Qo.mk (y1.2.1) (y1.2.2.1) (y1.2.2.2.1))) (y1.2.2.2.2.1)))).bind fun r12=>(bif (!r12)then(some (Jk,(2:Int)))else(some ((QG.mk (y1.1) ((Qo.mk (y1.2.1) (y1.2.2.1) (y1.2.2.2.1))) (y1.2.2.2.2.1)),(0:Int)))))))) (fun j1=>(bif v1.fWhole then((J3.f K (v1.fPoint.fSize) ((400:Int)) (r1.2)).bind fun r8=>(j1 (v1.fWhole,v1.fPoint.fSize,v1.fPoint.fRoot,r1.1,r8.1,r8.2)))else((QD.f K (r1.2)).bind fun r9=>((JB.f K (r9.1) (v1.fPoint.fSize) (r9.2)).bind fun r10=>(j1 (v1.fWhole,v1.fPoint.fSize,v1.fPoint.fRoot,r1.1,r10.1,r10.2)))))))))))) (fun j2=>(bif (decide ((400:Int)<v2.fPoint.fSize))then((Yi.f K ((4:Int)) (r2.2)).bind fun r13=>(j2 r13))else(j2 r2.2)))))))))))
def QbJ.f(K:Nat)(x7:Int)(x8:Int)(x9:(Vector Int 32))(x10:(Vector Int 32)):Option (Int):=
 (chk (inA 32 x7) (chk (inA 32 x7) (some (bor .u8 x8 (bxor .u8 (vget (x9) (Int.toNat (x7))) (vget (x10) (Int.toNat (x7))))))))
def YF.b(K:Nat)(x1:(Vector Int 32))(x2:(Vector Int 32))(rec:(Int×Int)→Option (Int))(y1:Int×Int):Option (Int):=
 (bif (decide (y1.1<(32:Int)))then((QbJ.f K (y1.1) (y1.2) (x1) (x2)).bind fun r1=>(rec ((IntKind.wrap .i64 (y1.1+(1:Int))),r1)))else(some y1.2))
def YF.l(K:Nat)(x1:(Vector Int 32))(x2:(Vector Int 32)):Nat→(Int×Int)→Option (Int):=Jc (YF.b K x1 x2)
def ZT.f(K:Nat)(x1:(Vector Int 32))(x2:(Vector Int 32)):Option (Bool):=
 ((YF.l K x1 x2 K ((0:Int),(0:Int))).bind fun z1=>(some (decide (z1=(0:Int)))))
def X7.f(K:Nat)(x1:ZH)(x2:(Vector Int 32)):Option (Bool):=
 ((ZT.f K (x1.fTag) (x2)).bind fun r16=>(some r16))
def JC.b(K:Nat)(x1:Qr)(x8:Qo)(rec:(Int×(List Bool))→Option (Sum ((Int)) (Unit)))(y1:Int×(List Bool)):Option (Sum ((Int)) (Unit)):=
 (bif (decide (y1.1<((List.length (x8.fSigs):Nat):Int)))then((getI (x8.fSigs) y1.1).bind fun x2=>(jn (fun(y2:Bool)=>(bif y2 then(some (Sum.inl (8:Int)))else((ZP.f K (x1) (x2.fWit) (x8)).bind fun r1=>((X7.f K ((ZH.mk (r1))) (x2.fTag)).bind fun r2=>(bif (!r2)then(some (Sum.inl (8:Int)))else(chk (inA 4 x2.fWit) ((some (List.set (y1.2) (Int.toNat (x2.fWit)) (true))).bind fun v1=>(rec ((IntKind.wrap .i64 (y1.1+(1:Int))),v1))))))))) (fun j1=>((JY.f K (x2.fWit) ((0:Int)) ((IntKind.wrap .i64 (((List.length (x1.fWits):Nat):Int)-(1:Int))))).bind fun r3=>(bif (!r3)then(j1 true)else(chk (inA 4 x2.fWit) ((getI (y1.2) x2.fWit).bind fun x3=>(j1 x3))))))))else(some (Sum.inr ())))
def JC.l(K:Nat)(x1:Qr)(x8:Qo):Nat→(Int×(List Bool))→Option (Sum ((Int)) (Unit)):=Jc (JC.b K x1 x8)
def Qbi.f(K:Nat)(x1:Qr)(x8:Qo):Option (Int):=
 (jn (fun(y1:Bool)=>(bif y1 then(some (1:Int))else((JC.l K x1 x8 K ((0:Int),([false,false,false,false]:List Bool))).bind fun s1=>(match s1 with| .inl u1=>some u1| .inr u2=>(fun(z1:Unit)=>(bif (decide (((List.length (x8.fSigs):Nat):Int)<x1.fNeed))then(some (8:Int))else(some (0:Int)))) u2)))) (fun j1=>((QaA.f K (x1)).bind fun r1=>(bif (!r1)then(j1 true)else((JY.f K (x8.fSize) ((0:Int)) ((400:Int))).bind fun r2=>(j1 (!r2)))))))
def yw.f(K:Nat)(x1:Ql):Option ((Vector Int 32)):=
 ((XL.f K (x1)).bind fun r36=>((jR.f K (r36)).bind fun r51=>(some r51)))
def JD.f(K:Nat)(x3:(List (Vector Int 32)))(x9:Int):Option ((Vector Int 32)×(List (Vector Int 32))×Int):=
 ((getI (x3) (IntKind.wrap .i64 (((List.length (x3):Nat):Int)-(1:Int)))).bind fun x29=>((getI (x3) (IntKind.wrap .i64 (((List.length (x3):Nat):Int)-(1:Int)))).bind fun x33=>((subI (x3) 0 (IntKind.wrap .i64 (((List.length (x3):Nat):Int)-(1:Int)))).bind fun l36=>(some (x33,l36,x9)))))
def JU.f(K:Nat)(x3:(Vector Int 32))(x4:(List (Vector Int 32)))(x10:Int):Option ((List (Vector Int 32))×Int):=
 ((catI 32 (x4) (([x3]:List (Vector Int 32)))).bind fun l55=>(some (l55,x10)))
def YU.b(K:Nat)(rec:(Int×(List (Vector Int 32))×Int×(Vector Int 32))→Option ((List (Vector Int 32))×Int×(Vector Int 32)))(y1:Int×(List (Vector Int 32))×Int×(Vector Int 32)):Option ((List (Vector Int 32))×Int×(Vector Int 32)):=
 (bif (decide ((Int.tmod y1.1 2)=(1:Int)))then((JD.f K (y1.2.1) (y1.2.2.1)).bind fun r1=>((jD.f K (r1.1) (y1.2.2.2)).bind fun r2=>(rec ((IntKind.wrap .i64 (Int.tdiv y1.1 2)),r1.2.1,r1.2.2,r2))))else(some (y1.2.1,y1.2.2.1,y1.2.2.2)))
def YU.l(K:Nat):Nat→(Int×(List (Vector Int 32))×Int×(Vector Int 32))→Option ((List (Vector Int 32))×Int×(Vector Int 32)):=Jc (YU.b K)
def jG.f(K:Nat)(x3:(Vector Int 32))(x4:(List (Vector Int 32)))(x10:Int):Option ((List (Vector Int 32))×Int):=
 ((YU.l K K (x10,x4,x10,x3)).bind fun z1=>((JU.f K (z1.2.2) (z1.1) (z1.2.1)).bind fun r1=>(some (r1.1,(IntKind.wrap .i64 (r1.2+(1:Int)))))))
def Xp.f(K:Nat)(x3:(List (Vector Int 32)))(x9:Int):Option (Int×(List (Vector Int 32))×Int):=
 (some (x9,x3,x9))
def JV.f(K:Nat)(x3:(List (Vector Int 32)))(x9:Int):Option ((List (Vector Int 32))×Int):=
 (some (x3,x9))
def QW.b(K:Nat)(r1:((List (Vector Int 32))×Int))(rec:(Int×(Vector Int 32)×Bool)→Option ((Vector Int 32)×Bool))(y1:Int×(Vector Int 32)×Bool):Option ((Vector Int 32)×Bool):=
 (bif (decide ((0:Int)≤y1.1))then(jn (fun(y2:(Vector Int 32)×Bool)=>(rec ((IntKind.wrap .i64 (y1.1-(1:Int))),y2.1,y2.2))) (fun j1=>((getI (r1.1) y1.1).bind fun x2=>((getI (r1.1) y1.1).bind fun x1=>(bif y1.2.2 then(j1 (x1,false))else((jD.f K (x1) (y1.2.1)).bind fun r2=>(j1 (r2,y1.2.2))))))))else(some (y1.2.1,y1.2.2)))
def QW.l(K:Nat)(r1:((List (Vector Int 32))×Int)):Nat→(Int×(Vector Int 32)×Bool)→Option ((Vector Int 32)×Bool):=Jc (QW.b K r1)
def qV.f(K:Nat)(x3:(List (Vector Int 32)))(x9:Int):Option ((Vector Int 32)×(List (Vector Int 32))×Int):=
 ((Xp.f K (x3) (x9)).bind fun r1=>(bif (decide (r1.1=(0:Int)))then((shaQ.f K (([]:List (List Int)))).bind fun r3=>(some (r3,r1.2.1,r1.2.2)))else((JV.f K (r1.2.1) (r1.2.2)).bind fun r2=>((QW.l K r2 K ((IntKind.wrap .i64 (((List.length (r2.1):Nat):Int)-(1:Int))),(Vector.replicate 32 (0:Int)),true)).bind fun z1=>(some (z1.1,r2.1,r2.2))))))
def QdC.f(K:Nat)(x1:Qr)(x8:Ql):Option (Bool):=
 ((jQ.f K (x1) (x8)).bind fun r63=>(jn (fun(y83:Bool)=>(some y83)) (fun j86=>((qU.f K (x8)).bind fun r88=>(bif r88 then(bif (decide (x8.fKind=(3:Int)))then((Zy.f K (x1) (x8.fPart) (x8.fEpoch)).bind fun r93=>(bif r93 then((X7.f K ((ZH.mk (r63))) (x8.fTag)).bind fun r98=>(j86 r98))else(j86 false)))else(j86 false))else(j86 false))))))
def Js.fs(K:Nat)(x1:Jd)(x8:Ql):Option (Sum Int Unit):=
 (bif (!decide (x8.fKind=(3:Int)))then(sm (YI.fs K (true) ((7:Int))) (fun e53=>(some (Sum.inl e53))) (fun r51=>(some (Sum.inr ()))))else((QdC.f K (x1.fK) (x8)).bind fun r40=>(sm (YI.fs K (r40) ((7:Int))) (fun e47=>(some (Sum.inl e47))) (fun r45=>(some (Sum.inr ()))))))
def jq.f(K:Nat)(x1:Int)(x2:Int)(x3:Int):Option (Bool):=
 (bif (decide (x2≤x1))then(some (decide (x1≤x3)))else(some false))
def qj.b(K:Nat)(x1:(List Qp))(rec:(Int×Int)→Option (Sum ((Bool)) (Unit)))(y1:Int×Int):Option (Sum ((Bool)) (Unit)):=
 (bif (decide (y1.2<((List.length (x1):Nat):Int)))then(jn (fun(y2:Int)=>(rec (y2,(IntKind.wrap .i64 (y1.2+(1:Int)))))) (fun j1=>((getI (x1) y1.2).bind fun x2=>(jn (fun(y3:Bool)=>(bif y3 then(some (Sum.inl false))else(bif (decide (x2.fKind=(2:Int)))then(j1 (3:Int))else(j1 x2.fKind)))) (fun j2=>((jq.f K (x2.fPart) ((0:Int)) ((3:Int))).bind fun r1=>(bif (!r1)then(j2 true)else((jq.f K (x2.fKind) (y1.1) ((3:Int))).bind fun r2=>(j2 (!r2))))))))))else(some (Sum.inr ())))
def qj.l(K:Nat)(x1:(List Qp)):Nat→(Int×Int)→Option (Sum ((Bool)) (Unit)):=Jc (qj.b K x1)
def yQ.f(K:Nat)(x1:(List Qp)):Option (Bool):=
 ((jq.f K (((List.length (x1):Nat):Int)) ((1:Int)) ((6:Int))).bind fun r1=>(bif (!r1)then(some false)else((qj.l K x1 K ((1:Int),(0:Int))).bind fun s1=>(match s1 with| .inl u1=>some u1| .inr u2=>(fun(z1:Unit)=>(some true)) u2))))
def Xq.f(K:Nat)(x1:(List Qp)):Option (QP):=
 ((yQ.f K (x1)).bind fun r45=>(bif (!r45)then(some Qw)else((QF.f K (x1)).bind fun r50=>((some {Qw with fSteps:=r50,fSeq:=(1:Int) }).bind fun v65=>(some v65)))))
def QdD.f(K:Nat)(x1:Yz)(x5:Ql)(x12:Int):Option (Yz×Bool):=
 (jn (fun(y1:Bool)=>(bif y1 then(some (x1,false))else((Q4.f K (x1.fSagas)).bind fun r1=>((Xq.f K (x5.fSteps)).bind fun r2=>((catI 88 (r1) (([r2]:List QP))).bind fun l1=>(some ((Yz.mk (x1.fEpochs) (l1)),true))))))) (fun j1=>(bif (!decide (x5.fSaga=((List.length (x1.fSagas):Nat):Int)))then(j1 true)else(bif (decide ((12:Int)≤((List.length (x1.fSagas):Nat):Int)))then(j1 true)else((yQ.f K (x5.fSteps)).bind fun r3=>(j1 (!r3)))))))
def QcP.f(K:Nat)(x1:QP):Option (Bool):=
 ((jq.f K (x1.fPhase) ((2:Int)) ((4:Int))).bind fun r14=>(some r14))
def QeD.f(K:Nat)(x1:(List Qp)):Option ((List Qp)):=
 (some x1)
def YH.b(K:Nat)(x1:QP)(r1:((List Qp)))(rec:Int→Option (Sum ((Int)) (Unit)))(y1:Int):Option (Sum ((Int)) (Unit)):=
 (bif (decide ((0:Int)≤y1))then((getI (r1) y1).bind fun x2=>(jn (fun(y2:Bool)=>(bif y2 then(some (Sum.inl y1))else(rec (IntKind.wrap .i64 (y1-(1:Int)))))) (fun j1=>(bif (decide (x2.fKind=(1:Int)))then(chk (!(decide (y1<0))) (j1 (decide ((band .i64 (Int.fdiv (QjR .i64 (bor .i64 x1.fDone x1.fSome) x1.fUndone) (2^(min (Int.toNat y1) 64))) (1:Int))=(1:Int)))))else(j1 false)))))else(some (Sum.inr ())))
def YH.l(K:Nat)(x1:QP)(r1:((List Qp))):Nat→(Int)→Option (Sum ((Int)) (Unit)):=Jc (YH.b K x1 r1)
def yT.f(K:Nat)(x1:QP):Option (Int):=
 ((QeD.f K (x1.fSteps)).bind fun r1=>((YH.l K x1 r1 K (IntKind.wrap .i64 (((List.length (r1):Nat):Int)-(1:Int)))).bind fun s1=>(match s1 with| .inl u1=>some u1| .inr u2=>(fun(z1:Unit)=>(some (-1:Int))) u2)))
def ql.f(K:Nat)(x1:QP):Option (Int):=
 (bif (decide (x1.fPhase=(1:Int)))then((yT.f K (x1)).bind fun r24=>(some r24))else(bif (decide (x1.fAt<((List.length (x1.fSteps):Nat):Int)))then(some x1.fAt)else(some (-1:Int))))
def QeE.f(K:Nat)(x1:QP)(x5:Int):Option (Ql×Bool):=
 (jn (fun(y1:Bool)=>(bif y1 then(some (Qu,false))else((ql.f K (x1)).bind fun r1=>(jn (fun(y2:Bool)=>(bif y2 then((some {Qu with fKind:=(5:Int),fEnd:=(2:Int) }).bind fun v1=>(some (v1,true)))else(bif (decide (r1<(0:Int)))then((some {Qu with fKind:=(5:Int),fEnd:=(3:Int) }).bind fun v2=>(some (v2,true)))else(bif (decide (x1.fTries<x5))then((some {Qu with fKind:=(2:Int),fStep:=r1,fTry:=(IntKind.wrap .i64 (x1.fTries+(1:Int))),fBack:=(decide (x1.fPhase=(1:Int))) }).bind fun v3=>(some (v3,true)))else((some {Qu with fKind:=(5:Int),fEnd:=(4:Int) }).bind fun v4=>(some (v4,true))))))) (fun j2=>(bif (decide (r1<(0:Int)))then(j2 (decide (x1.fPhase=(0:Int))))else(j2 false))))))) (fun j1=>(bif x1.fWait then(j1 true)else((QcP.f K (x1)).bind fun r2=>(bif r2 then(j1 true)else(bif (decide (((List.length (x1.fSteps):Nat):Int)=(0:Int)))then(j1 true)else((jq.f K (x5) ((1:Int)) ((9:Int))).bind fun r3=>(j1 (!r3)))))))))
def ZU.f(K:Nat)(x1:QP)(x5:QP)(x9:Bool):Option (QP×Bool):=
 (bif x9 then(some (x5,true))else(some (x1,false)))
def Qd4.f(K:Nat)(x1:Ql):Option (QbF):=
 ((some (QbF.mk (x1.fKind) (x1.fStep) (x1.fTry) (x1.fBack) (x1.fEnd))).bind fun v18=>(some v18))
def QhE.f(K:Nat)(x1:QP):Option (QP):=
 ((some {x1 with fPhase:=(1:Int) }).bind fun v22=>((some {v22 with fTries:=(0:Int) }).bind fun v25=>(some v25)))
def Zn.f(K:Nat)(x1:QP)(x5:Ql):Option (QP):=
 ((ql.f K (x1)).bind fun r1=>(chk (!(decide (r1<0))) (jn (fun(y1:QP)=>((some {y1 with fWait:=false}).bind fun v1=>((some {v1 with fBack:=false}).bind fun v2=>(some v2)))) (fun j1=>(jn (fun(y2:Bool)=>(bif y2 then((some {x1 with fUndone:=(bor .i64 x1.fUndone (IntKind.wrap .i64 ((1:Int)*2^(min (Int.toNat r1) 64)))) }).bind fun v3=>((some {v3 with fTries:=(0:Int) }).bind fun v4=>(j1 v4)))else(bif x1.fBack then(j1 x1)else(bif x5.fGood then((some {x1 with fDone:=(bor .i64 x1.fDone (IntKind.wrap .i64 ((1:Int)*2^(min (Int.toNat r1) 64)))) }).bind fun v5=>((some {v5 with fSome:=(QjR .i64 x1.fSome (IntKind.wrap .i64 ((1:Int)*2^(min (Int.toNat r1) 64)))) }).bind fun v6=>((some {v6 with fAt:=(IntKind.wrap .i64 (x1.fAt+(1:Int))) }).bind fun v7=>((some {v7 with fTries:=(0:Int) }).bind fun v8=>(j1 v8)))))else((getI (x1.fSteps) r1).bind fun x2=>(bif (!decide (x2.fKind=(3:Int)))then((some {x1 with fSome:=(QjR .i64 x1.fSome (IntKind.wrap .i64 ((1:Int)*2^(min (Int.toNat r1) 64)))) }).bind fun v9=>((QhE.f K (v9)).bind fun r2=>(j1 r2)))else(j1 x1))))))) (fun j2=>(bif x1.fBack then(j2 x5.fGood)else(j2 false))))))))
def QbK.f(K:Nat)(x1:QP)(x5:Int):Option (QP):=
 ((ql.f K (x1)).bind fun r1=>(bif (!x1.fBack)then(chk (!(decide (r1<0))) ((some {x1 with fSome:=(bor .i64 x1.fSome (IntKind.wrap .i64 ((1:Int)*2^(min (Int.toNat r1) 64)))) }).bind fun v1=>(jn (fun(y1:Bool)=>(bif y1 then((QhE.f K (v1)).bind fun r2=>((some {r2 with fWait:=false}).bind fun v2=>((some {v2 with fBack:=false}).bind fun v3=>(some v3))))else((some {v1 with fWait:=false}).bind fun v4=>((some {v4 with fBack:=false}).bind fun v5=>(some v5))))) (fun j1=>((getI (v1.fSteps) r1).bind fun x2=>(bif (decide (x2.fKind=(1:Int)))then(j1 (decide (v1.fTries=x5)))else(j1 false)))))))else((some {x1 with fWait:=false}).bind fun v6=>((some {v6 with fBack:=false}).bind fun v7=>(some v7)))))
def QaW.f(K:Nat)(x1:QP)(x5:Ql)(x12:Int):Option (QP×Bool):=
 (jn (fun(y1:Bool)=>(bif y1 then(some (x1,false))else((some {x1 with fSeq:=(IntKind.wrap .i64 (x1.fSeq+(1:Int))) }).bind fun v1=>((QeE.f K (x1) (x12)).bind fun r5=>(jn (fun(y4:Unit)=>(bif (!decide (x5.fKind=(4:Int)))then(some (x1,false))else((QbK.f K (v1) (x12)).bind fun r10=>(some (r10,true))))) (fun j3=>(bif (decide (x5.fKind=(2:Int)))then((some {v1 with fWait:=true}).bind fun v4=>((some {v4 with fTries:=x5.fTry}).bind fun v5=>((some {v5 with fBack:=x5.fBack}).bind fun v2=>(bif r5.2 then((Qd4.f K (r5.1)).bind fun r1=>((Qd4.f K (x5)).bind fun r2=>((ZU.f K (x1) (v2) (((decide (r1.fKind=r2.fKind))&&((decide (r1.fStep=r2.fStep))&&((decide (r1.fTry=r2.fTry))&&((r1.fBack==r2.fBack)&&((decide (r1.fEnd=r2.fEnd))&&true))))))).bind fun r6=>(some (r6.1,r6.2)))))else((ZU.f K (x1) (v2) (false)).bind fun r7=>(some (r7.1,r7.2)))))))else(bif (decide (x5.fKind=(5:Int)))then((some {v1 with fPhase:=x5.fEnd}).bind fun v3=>(bif r5.2 then((Qd4.f K (r5.1)).bind fun r3=>((Qd4.f K (x5)).bind fun r4=>((ZU.f K (x1) (v3) (((decide (r3.fKind=r4.fKind))&&((decide (r3.fStep=r4.fStep))&&((decide (r3.fTry=r4.fTry))&&((r3.fBack==r4.fBack)&&((decide (r3.fEnd=r4.fEnd))&&true))))))).bind fun r8=>(some (r8.1,r8.2)))))else((ZU.f K (x1) (v3) (false)).bind fun r9=>(some (r9.1,r9.2)))))else(jn (fun(y2:Bool)=>(bif y2 then(jn (fun(y3:Bool)=>(bif y3 then(some (x1,false))else(bif (decide (x5.fKind=(3:Int)))then((Zn.f K (v1) (x5)).bind fun r11=>(some (r11,true)))else(j3 ())))) (fun j1=>(bif (!x1.fWait)then(j1 true)else((ql.f K (x1)).bind fun r12=>(bif (!decide (x5.fStep=r12))then(j1 true)else(bif (!decide (x5.fTry=x1.fTries))then(j1 true)else(j1 (!(x5.fBack==x1.fBack)))))))))else(j3 ()))) (fun j4=>(bif (decide (x5.fKind=(3:Int)))then(j4 true)else(j4 (decide (x5.fKind=(4:Int))))))))))))))) (fun j2=>(bif (!decide (x5.fSeq=x1.fSeq))then(j2 true)else(bif (decide (((List.length (x1.fSteps):Nat):Int)=(0:Int)))then(j2 true)else((QcP.f K (x1)).bind fun r13=>(bif r13 then(j2 true)else((jq.f K (x12) ((1:Int)) ((9:Int))).bind fun r14=>(j2 (!r14)))))))))
def ZV.f(K:Nat)(x1:Yz)(x5:Ql)(x12:Int):Option (Yz×Bool):=
 (bif (decide (((List.length (x1.fSagas):Nat):Int)≤x5.fSaga))then(some (x1,false))else((getI (x1.fSagas) x5.fSaga).bind fun x2=>((QaW.f K (x2) (x5) (x12)).bind fun r1=>(bif (!r1.2)then(some (x1,false))else((Q4.f K (x1.fSagas)).bind fun r2=>((getI (r2) x5.fSaga).bind fun x3=>(some ((Yz.mk (x1.fEpochs) ((List.set (r2) (Int.toNat (x5.fSaga)) (r1.1)))),true))))))))
def QaH.f(K:Nat)(x1:Yz)(x5:Ql)(x12:Int):Option (Yz×Bool):=
 (jn (fun(y1:Bool)=>(bif y1 then(some (x1,false))else((ZV.f K (x1) (x5) (x12)).bind fun r1=>(some (r1.1,r1.2))))) (fun j1=>(bif (decide (((List.length (x1.fSagas):Nat):Int)≤x5.fSaga))then(j1 true)else((getI (x1.fSagas) x5.fSaga).bind fun x2=>(bif (decide (((List.length (x2.fSteps):Nat):Int)≤x5.fStep))then(j1 true)else((getI (x1.fSagas) x5.fSaga).bind fun x3=>((getI (x3.fSteps) x5.fStep).bind fun x4=>(bif (!decide (x4.fPart=x5.fPart))then(j1 true)else(chk (inA 4 x5.fPart) (j1 (!decide ((vget (x1.fEpochs) (Int.toNat (x5.fPart)))=x5.fEpoch))))))))))))
def QbL.f(K:Nat)(x1:Yz)(x5:Ql)(x12:Int):Option (Yz×Bool):=
 (chk (inA 4 x5.fPart) (bif (!decide (x5.fEpoch=(IntKind.wrap .i64 ((vget (x1.fEpochs) (Int.toNat (x5.fPart)))+(1:Int)))))then(some (x1,false))else(chk (inA 4 x5.fPart) ((some (vset (x1.fEpochs) (Int.toNat (x5.fPart)) (x5.fEpoch))).bind fun v32=>((some (Yz.mk (v32) (x1.fSagas))).bind fun v33=>(some (v33,true)))))))
def Qd5.f(K:Nat)(x1:Yz)(x5:Ql)(x12:Int):Option (Yz×Bool):=
 (jn (fun(y1:Bool)=>(bif y1 then(some (x1,false))else(bif decide (x5.fKind=(1:Int))then((QdD.f K (x1) (x5) (x12)).bind fun r1=>(some (r1.1,r1.2)))else(bif decide (x5.fKind=(2:Int))then((ZV.f K (x1) (x5) (x12)).bind fun r2=>(some (r2.1,r2.2)))else(bif decide (x5.fKind=(3:Int))then((QaH.f K (x1) (x5) (x12)).bind fun r3=>(some (r3.1,r3.2)))else(bif decide (x5.fKind=(4:Int))then((ZV.f K (x1) (x5) (x12)).bind fun r4=>(some (r4.1,r4.2)))else(bif decide (x5.fKind=(5:Int))then((ZV.f K (x1) (x5) (x12)).bind fun r5=>(some (r5.1,r5.2)))else(bif decide (x5.fKind=(6:Int))then((QbL.f K (x1) (x5) (x12)).bind fun r6=>(some (r6.1,r6.2)))else none)))))))) (fun j1=>((qU.f K (x5)).bind fun r7=>(bif (!r7)then(j1 true)else(bif (decide (x12<(1:Int)))then(j1 true)else(j1 (decide ((9:Int)<x12))))))))
def jS.f(K:Nat)(x1:QP):Option (Int):=
 (bif (decide (x1.fPhase=(2:Int)))then(some (0:Int))else(some (QjR .i64 x1.fDone x1.fUndone)))
def Yv.b(K:Nat)(x1:Yz)(rec:((List Qq)×Int)→Option ((List Qq)))(y1:(List Qq)×Int):Option ((List Qq)):=
 (bif (decide (y1.2<((List.length (x1.fSagas):Nat):Int)))then((getI (x1.fSagas) y1.2).bind fun x2=>((jS.f K (x2)).bind fun r1=>((catI 16 (y1.1) (([(Qq.mk (x2.fPhase) (r1))]:List Qq))).bind fun l1=>(rec (l1,(IntKind.wrap .i64 (y1.2+(1:Int))))))))else(some y1.1))
def Yv.l(K:Nat)(x1:Yz):Nat→((List Qq)×Int)→Option ((List Qq)):=Jc (Yv.b K x1)
def XO.f(K:Nat)(x1:Yz):Option ((List Qq)):=
 ((Yv.l K x1 K (([]:List Qq),(0:Int))).bind fun z1=>(some z1))
def QQ.b(K:Nat)(x8:QG)(rec:(Int×(List (Vector Int 32))×Int)→Option ((List (Vector Int 32))×Int))(y1:Int×(List (Vector Int 32))×Int):Option ((List (Vector Int 32))×Int):=
 (bif (decide (y1.1<((List.length (x8.fItems):Nat):Int)))then((getI (x8.fItems) y1.1).bind fun x1=>((yw.f K (x1.fRec)).bind fun r2=>((jG.f K (r2) (y1.2.1) (y1.2.2)).bind fun r1=>(rec ((IntKind.wrap .i64 (y1.1+(1:Int))),r1.1,r1.2)))))else(some (y1.2.1,y1.2.2)))
def QQ.l(K:Nat)(x8:QG):Nat→(Int×(List (Vector Int 32))×Int)→Option ((List (Vector Int 32))×Int):=Jc (QQ.b K x8)
def QR.b(K:Nat)(x1:Jd)(x8:QG)(rec:(Int×Yz)→Option (Sum ((Sum Int (Int×(List Int)×(List Qq)))) (Yz)))(y1:Int×Yz):Option (Sum ((Sum Int (Int×(List Int)×(List Qq)))) (Yz)):=
 (bif (decide (y1.1<((List.length (x8.fItems):Nat):Int)))then((getI (x8.fItems) y1.1).bind fun x2=>(sm (Js.fs K (x1) (x2.fRec)) (fun e1=>(some (Sum.inl (Sum.inl e1)))) (fun r2=>((Qd5.f K (y1.2) (x2.fRec) (x1.fLimit)).bind fun r1=>(sm (YI.fs K (r1.2) ((9:Int))) (fun e2=>(some (Sum.inl (Sum.inl e2)))) (fun r3=>(rec ((IntKind.wrap .i64 (y1.1+(1:Int))),r1.1))))))))else(some (Sum.inr y1.2)))
def QR.l(K:Nat)(x1:Jd)(x8:QG):Nat→(Int×Yz)→Option (Sum ((Sum Int (Int×(List Int)×(List Qq)))) (Yz)):=Jc (QR.b K x1 x8)
def Yt.b(K:Nat)(z1:Yz)(rec:(Int×Int×(List Int)×(List Qq))→Option (Int×(List Int)×(List Qq)))(y1:Int×Int×(List Int)×(List Qq)):Option (Int×(List Int)×(List Qq)):=
 (bif (decide (y1.1<((List.length (z1.fSagas):Nat):Int)))then((catI 8 (y1.2.2.1) (([y1.1]:List Int))).bind fun l1=>(rec ((IntKind.wrap .i64 (y1.1+(1:Int))),y1.2.1,l1,y1.2.2.2)))else(some (y1.2.1,y1.2.2.1,y1.2.2.2)))
def Yt.l(K:Nat)(z1:Yz):Nat→(Int×Int×(List Int)×(List Qq))→Option (Int×(List Int)×(List Qq)):=Jc (Yt.b K z1)
def Y3.fs(K:Nat)(x1:Jd)(x8:QG):Option (Sum Int (Int×(List Int)×(List Qq))):=
 ((QQ.l K x8 K ((0:Int),([]:List (Vector Int 32)),(0:Int))).bind fun z2=>((qV.f K (z2.1) (z2.2)).bind fun r1=>(sm (YI.fs K ((decide (r1.1=x8.fPoint.fRoot))) ((6:Int))) (fun e1=>(some (Sum.inl e1))) (fun r3=>((QR.l K x1 x8 K ((0:Int),(Yz.mk ((Vector.replicate 4 (0:Int))) (([]:List QP))))).bind fun s1=>(match s1 with| .inl u1=>some u1| .inr u2=>(fun(z3:Yz)=>((XO.f K (z3)).bind fun r2=>((Yt.l K z3 K ((0:Int),(0:Int),([]:List Int),r2)).bind fun z1=>(some (Sum.inr (z1.1,z1.2.1,z1.2.2)))))) u2))))))
def Zo.fs(K:Nat)(x5:Int)(x6:(List (Vector Int 32))):Option (Sum Int ((Vector Int 32)×Int)):=
 (bif (decide (x5=(0:Int)))then(some (Sum.inl (0:Int)))else((getI (x6) (IntKind.wrap .i64 (x5-(1:Int)))).bind fun x33=>(some (Sum.inr (x33,(IntKind.wrap .i64 (x5-(1:Int))))))))
def Q9.b(K:Nat)(self:Int→Int→(Vector Int 32)→Int→(List (Vector Int 32))→Option (Sum Int ((Vector Int 32)×Int)))(x11:Int)(x12:Int)(x13:(Vector Int 32))(x14:Int)(x15:(List (Vector Int 32))):Option (Sum Int ((Vector Int 32)×Int)):=
 (bif (decide (x12=(1:Int)))then(some (Sum.inr (x13,x14)))else((yl.f K (x12)).bind fun r1=>(sm (Zo.fs K (x14) (x15)) (fun e1=>(some (Sum.inl e1))) (fun r2=>(bif (decide (x11<r1))then(sm (self (x11) (r1) (x13) (r2.2) (x15)) (fun e2=>(some (Sum.inl e2))) (fun r3=>((jD.f K (r3.1) (r2.1)).bind fun r5=>(some (Sum.inr (r5,r3.2))))))else(sm (self ((IntKind.wrap .i64 (x11-r1))) ((IntKind.wrap .i64 (x12-r1))) (x13) (r2.2) (x15)) (fun e3=>(some (Sum.inl e3))) (fun r4=>((jD.f K (r2.1) (r4.1)).bind fun r6=>(some (Sum.inr (r6,r4.2)))))))))))
def Q9.r(K:Nat):Nat→Int→Int→(Vector Int 32)→Int→(List (Vector Int 32))→Option (Sum Int ((Vector Int 32)×Int))
 |0=>fun _ _ _ _ _=>none
 |k+1=>Q9.b K (Q9.r K k)
def Q9.fs(K:Nat)(x11:Int)(x12:Int)(x13:(Vector Int 32))(x14:Int)(x15:(List (Vector Int 32))):Option (Sum Int ((Vector Int 32)×Int)):=Q9.r K K x11 x12 x13 x14 x15
def Zp.fs(K:Nat)(x13:Int)(x14:(List (Vector Int 32)))(x18:(Vector Int 32))(x19:Int)(x20:Int)(x21:(Vector Int 32)):Option (Sum Int (Int×(Vector Int 32))):=
 (sm (Q9.fs K (x19) (x20) (x18) (x13) (x14)) (fun e38=>(some (Sum.inl e38))) (fun r36=>(some (Sum.inr (r36.2,r36.1)))))
def ZW.f(K:Nat)(x9:(List (Vector Int 32)))(x13:(Vector Int 32))(x14:Int)(x15:Int)(x16:(Vector Int 32)):Option (Bool×(Vector Int 32)):=
 (sm (Zp.fs K (((List.length (x9):Nat):Int)) (x9) (x13) (x14) (x15) (x16)) (fun e41=>(some (false,x16))) (fun r39=>(some ((decide (r39.1=(0:Int))),r39.2))))
def jT.f(K:Nat)(x1:(Vector Int 32))(x2:Int)(x3:Int)(x4:(List (Vector Int 32))):Option ((Vector Int 32)×Bool):=
 (jn (fun(y46:Bool)=>(bif y46 then(some ((vofL 32 [(0:Int),(0:Int),(0:Int),(0:Int),(0:Int),(0:Int),(0:Int),(0:Int),(0:Int),(0:Int),(0:Int),(0:Int),(0:Int),(0:Int),(0:Int),(0:Int),(0:Int),(0:Int),(0:Int),(0:Int),(0:Int),(0:Int),(0:Int),(0:Int),(0:Int),(0:Int),(0:Int),(0:Int),(0:Int),(0:Int),(0:Int),(0:Int)]),false))else((ZW.f K (x4) (x1) (x2) (x3) ((Vector.replicate 32 (0:Int)))).bind fun r51=>(bif (!r51.1)then(some ((vofL 32 [(0:Int),(0:Int),(0:Int),(0:Int),(0:Int),(0:Int),(0:Int),(0:Int),(0:Int),(0:Int),(0:Int),(0:Int),(0:Int),(0:Int),(0:Int),(0:Int),(0:Int),(0:Int),(0:Int),(0:Int),(0:Int),(0:Int),(0:Int),(0:Int),(0:Int),(0:Int),(0:Int),(0:Int),(0:Int),(0:Int),(0:Int),(0:Int)]),false))else(some (r51.2,true)))))) (fun j56=>(bif (decide (x2<(0:Int)))then(j56 true)else(bif (decide (x3≤x2))then(j56 true)else(j56 (decide ((1048576:Int)<x3)))))))
def QbM.f(K:Nat)(x1:(Vector Int 32))(x2:Int)(x3:Int)(x4:(List (Vector Int 32)))(x8:(Vector Int 32)):Option (Bool):=
 ((jT.f K (x1) (x2) (x3) (x4)).bind fun r34=>(bif r34.2 then((ZT.f K (r34.1) (x8)).bind fun r46=>(some r46))else(some false)))
def qw.fs(K:Nat)(x3:Ql)(x10:(List Bool))(x11:(List Int))(x17:(List QP)):Option (Sum Int ((List Bool)×(List Int)×(List QP))):=
 (jn (fun(y1:Unit)=>((Xq.f K (x3.fSteps)).bind fun r1=>(chk (inA 12 x3.fSaga) ((some (List.set (x17) (Int.toNat (x3.fSaga)) (r1))).bind fun v1=>((catI 8 (x11) (([x3.fSaga]:List Int))).bind fun l1=>(some (Sum.inr (x10,l1,v1)))))))) (fun j1=>(chk (inA 12 x3.fSaga) ((getI (x10) x3.fSaga).bind fun x1=>(bif (!x1)then((yQ.f K (x3.fSteps)).bind fun r2=>(sm (YI.fs K (r2) ((9:Int))) (fun e1=>(some (Sum.inl e1))) (fun r3=>(j1 ()))))else(sm (YI.fs K (false) ((9:Int))) (fun e2=>(some (Sum.inl e2))) (fun r4=>(j1 ()))))))))
def qW.fs(K:Nat)(x3:Ql)(x10:Int)(x11:(List Bool))(x12:(List Int))(x18:(List QP)):Option (Sum Int ((List Bool)×(List Int)×(List QP))):=
 (chk (inA 12 x3.fSaga) ((getI (x18) x3.fSaga).bind fun x1=>(bif (decide (((List.length (x1.fSteps):Nat):Int)=(0:Int)))then(some (Sum.inr (x11,x12,x18)))else((QaW.f K (x1) (x3) (x10)).bind fun r1=>(jn (fun(y1:Unit)=>(chk (inA 12 x3.fSaga) ((some (List.set (x18) (Int.toNat (x3.fSaga)) (r1.1))).bind fun v1=>(some (Sum.inr (x11,x12,v1)))))) (fun j1=>(bif r1.2 then(bif (!decide (x3.fKind=(3:Int)))then(sm (YI.fs K (true) ((9:Int))) (fun e1=>(some (Sum.inl e1))) (fun r2=>(j1 ())))else((getI (x1.fSteps) x3.fStep).bind fun x2=>(sm (YI.fs K ((decide (x2.fPart=x3.fPart))) ((9:Int))) (fun e2=>(some (Sum.inl e2))) (fun r3=>(j1 ())))))else(sm (YI.fs K (false) ((9:Int))) (fun e3=>(some (Sum.inl e3))) (fun r4=>(j1 ()))))))))))
def QO.b(K:Nat)(x1:Jd)(x8:QG)(rec:(Int×(List Bool)×(List Int)×(List QP))→Option (Sum ((Sum Int (Int×(List Int)×(List Qq)))) ((List Bool)×(List Int)×(List QP))))(y1:Int×(List Bool)×(List Int)×(List QP)):Option (Sum ((Sum Int (Int×(List Int)×(List Qq)))) ((List Bool)×(List Int)×(List QP))):=
 (bif (decide (y1.1<((List.length (x8.fItems):Nat):Int)))then(jn (fun(y2:(List Bool)×(List Int)×(List QP))=>(rec ((IntKind.wrap .i64 (y1.1+(1:Int))),y2.1,y2.2.1,y2.2.2))) (fun j1=>((getI (x8.fItems) y1.1).bind fun x2=>((yw.f K (x2.fRec)).bind fun r3=>((QbM.f K (r3) (x2.fAt) (x8.fPoint.fSize) (x2.fPath) (x8.fPoint.fRoot)).bind fun r4=>(sm (YI.fs K (r4) ((10:Int))) (fun e1=>(some (Sum.inl (Sum.inl e1)))) (fun r5=>(sm (Js.fs K (x1) (x2.fRec)) (fun e2=>(some (Sum.inl (Sum.inl e2)))) (fun r6=>(jn (fun(y3:(List Bool)×(List Int)×(List QP))=>(chk (inA 12 x2.fRec.fSaga) ((some (List.set (y3.1) (Int.toNat (x2.fRec.fSaga)) (true))).bind fun v1=>(j1 (v1,y3.2.1,y3.2.2))))) (fun j2=>(bif (decide (x2.fRec.fKind=(1:Int)))then(sm (qw.fs K (x2.fRec) (y1.2.1) (y1.2.2.1) (y1.2.2.2)) (fun e3=>(some (Sum.inl (Sum.inl e3)))) (fun r1=>(j2 (r1.1,r1.2.1,r1.2.2))))else(bif (decide (x2.fRec.fKind=(6:Int)))then(j1 (y1.2.1,y1.2.2.1,y1.2.2.2))else(sm (qW.fs K (x2.fRec) (x1.fLimit) (y1.2.1) (y1.2.2.1) (y1.2.2.2)) (fun e4=>(some (Sum.inl (Sum.inl e4)))) (fun r2=>(j2 (r2.1,r2.2.1,r2.2.2)))))))))))))))))else(some (Sum.inr (y1.2.1,y1.2.2.1,y1.2.2.2))))
def QO.l(K:Nat)(x1:Jd)(x8:QG):Nat→(Int×(List Bool)×(List Int)×(List QP))→Option (Sum ((Sum Int (Int×(List Int)×(List Qq)))) ((List Bool)×(List Int)×(List QP))):=Jc (QO.b K x1 x8)
def QU.b(K:Nat)(z1:(List Bool)×(List Int)×(List QP))(rec:(Int×Int×(List Int)×(List Qq))→Option (Int×(List Int)×(List Qq)))(y1:Int×Int×(List Int)×(List Qq)):Option (Int×(List Int)×(List Qq)):=
 (bif (decide (y1.1<((List.length (z1.2.1):Nat):Int)))then((getI (z1.2.1) y1.1).bind fun x1=>((catI 8 (y1.2.2.1) (([x1]:List Int))).bind fun l1=>(chk (inA 12 x1) ((getI (z1.2.2) x1).bind fun x2=>(chk (inA 12 x1) ((getI (z1.2.2) x1).bind fun x3=>((jS.f K (x3)).bind fun r1=>((catI 16 (y1.2.2.2) (([(Qq.mk (x2.fPhase) (r1))]:List Qq))).bind fun l2=>(rec ((IntKind.wrap .i64 (y1.1+(1:Int))),y1.2.1,l1,l2))))))))))else(some (y1.2.1,y1.2.2.1,y1.2.2.2)))
def QU.l(K:Nat)(z1:(List Bool)×(List Int)×(List QP)):Nat→(Int×Int×(List Int)×(List Qq))→Option (Int×(List Int)×(List Qq)):=Jc (QU.b K z1)
def Y9.fs(K:Nat)(x1:Jd)(x8:QG):Option (Sum Int (Int×(List Int)×(List Qq))):=
 ((QO.l K x1 x8 K ((0:Int),([false,false,false,false,false,false,false,false,false,false,false,false]:List Bool),([]:List Int),([Qw,Qw,Qw,Qw,Qw,Qw,Qw,Qw,Qw,Qw,Qw,Qw]:List QP))).bind fun s1=>(match s1 with| .inl u1=>some u1| .inr u2=>(fun(z2:(List Bool)×(List Int)×(List QP))=>((QU.l K z2 K ((0:Int),(0:Int),([]:List Int),([]:List Qq))).bind fun z1=>(some (Sum.inr (z1.1,z1.2.1,z1.2.2))))) u2))
def jr.f(K:Nat)(x1:Qr)(x8:Int)(x9:Qo)(x13:(List Int)):Option (Int×(List Int)×(List Qq)):=
 (jn (fun(y1:Unit)=>((XN.f K (x13)).bind fun r1=>(sm (YI.fs K ((decide (r1.2=(0:Int)))) (r1.2)) (fun e1=>((some {Yr with fCode:=e1}).bind fun v2=>(some (v2.fCode,([]:List Int),([]:List Qq))))) (fun r6=>((Qbi.f K (x1) (r1.1.fPoint)).bind fun r4=>(sm (YI.fs K ((decide (r4=(0:Int)))) (r4)) (fun e2=>((some {Yr with fCode:=e2}).bind fun v3=>(some (v3.fCode,([]:List Int),([]:List Qq))))) (fun r7=>(jn (fun(y2:Unit)=>((some (Jd.mk (x1) (x8))).bind fun v1=>(bif r1.1.fWhole then(sm (Y3.fs K (v1) (r1.1)) (fun e3=>((some {Yr with fCode:=e3}).bind fun v4=>(some (v4.fCode,([]:List Int),([]:List Qq))))) (fun r2=>(some (r2.1,r2.2.1,r2.2.2))))else(sm (Y9.fs K (v1) (r1.1)) (fun e4=>((some {Yr with fCode:=e4}).bind fun v5=>(some (v5.fCode,([]:List Int),([]:List Qq))))) (fun r3=>(some (r3.1,r3.2.1,r3.2.2))))))) (fun j2=>(bif (decide (r1.1.fPoint.fSize=x9.fSize))then(sm (YI.fs K ((decide (r1.1.fPoint.fRoot=x9.fRoot))) ((6:Int))) (fun e5=>((some {Yr with fCode:=e5}).bind fun v6=>(some (v6.fCode,([]:List Int),([]:List Qq))))) (fun r8=>(j2 ())))else(sm (YI.fs K (false) ((6:Int))) (fun e6=>((some {Yr with fCode:=e6}).bind fun v7=>(some (v7.fCode,([]:List Int),([]:List Qq))))) (fun r9=>(j2 ()))))))))))))) (fun j1=>((QaA.f K (x1)).bind fun r5=>(bif r5 then(bif (decide ((1:Int)≤x8))then(sm (YI.fs K ((decide (x8≤(9:Int)))) ((1:Int))) (fun e7=>((some {Yr with fCode:=e7}).bind fun v8=>(some (v8.fCode,([]:List Int),([]:List Qq))))) (fun r10=>(j1 ())))else(sm (YI.fs K (false) ((1:Int))) (fun e8=>((some {Yr with fCode:=e8}).bind fun v9=>(some (v9.fCode,([]:List Int),([]:List Qq))))) (fun r11=>(j1 ()))))else(sm (YI.fs K (false) ((1:Int))) (fun e9=>((some {Yr with fCode:=e9}).bind fun v10=>(some (v10.fCode,([]:List Int),([]:List Qq))))) (fun r12=>(j1 ())))))))
def jv.b(K:Nat)(x1:(List Int))(x5:(List Int))(rec:Int→Option (Sum ((Bool)) (Unit)))(y1:Int):Option (Sum ((Bool)) (Unit)):=
 (bif (decide (y1<((List.length (x1):Nat):Int)))then((getI (x1) y1).bind fun x2=>((getI (x5) y1).bind fun x3=>(bif (!decide (x2=x3))then(some (Sum.inl false))else(rec (IntKind.wrap .i64 (y1+(1:Int)))))))else(some (Sum.inr ())))
def jv.l(K:Nat)(x1:(List Int))(x5:(List Int)):Nat→(Int)→Option (Sum ((Bool)) (Unit)):=Jc (jv.b K x1 x5)
def Zj.f(K:Nat)(x1:(List Int))(x5:(List Int)):Option (Bool):=
 (bif (!decide (((List.length (x1):Nat):Int)=((List.length (x5):Nat):Int)))then(some false)else((jv.l K x1 x5 K (0:Int)).bind fun s1=>(match s1 with| .inl u1=>some u1| .inr u2=>(fun(z1:Unit)=>(some true)) u2)))
def JE.b(K:Nat)(x1:(List Qq))(x5:(List Qq))(rec:Int→Option (Sum ((Bool)) (Unit)))(y1:Int):Option (Sum ((Bool)) (Unit)):=
 (bif (decide (y1<((List.length (x1):Nat):Int)))then((getI (x1) y1).bind fun x2=>((getI (x5) y1).bind fun x3=>(bif (!((decide (x2.fPhase=x3.fPhase))&&((decide (x2.fMissing=x3.fMissing))&&true)))then(some (Sum.inl false))else(rec (IntKind.wrap .i64 (y1+(1:Int)))))))else(some (Sum.inr ())))
def JE.l(K:Nat)(x1:(List Qq))(x5:(List Qq)):Nat→(Int)→Option (Sum ((Bool)) (Unit)):=Jc (JE.b K x1 x5)
def je.f(K:Nat)(x1:(List Qq))(x5:(List Qq)):Option (Bool):=
 (bif (!decide (((List.length (x1):Nat):Int)=((List.length (x5):Nat):Int)))then(some false)else((JE.l K x1 x5 K (0:Int)).bind fun s1=>(match s1 with| .inl u1=>some u1| .inr u2=>(fun(z1:Unit)=>(some true)) u2)))
def Qjn.f(K:Nat)(x1:Jp)(x8:Jp):Option (Bool):=
 (bif (decide (x1.fCode=x8.fCode))then((Zj.f K (x1.fSagas) (x8.fSagas)).bind fun r53=>(bif r53 then((je.f K (x1.fLines) (x8.fLines)).bind fun r58=>(some r58))else(some false)))else(some false))
def Yw.b(K:Nat)(x1:(List Int))(x5:Int)(rec:Int→Option (Sum ((Int)) (Unit)))(y1:Int):Option (Sum ((Int)) (Unit)):=
 (bif (decide (y1<((List.length (x1):Nat):Int)))then((getI (x1) y1).bind fun x2=>(bif (decide (x5=x2))then(some (Sum.inl y1))else(rec (IntKind.wrap .i64 (y1+(1:Int))))))else(some (Sum.inr ())))
def Yw.l(K:Nat)(x1:(List Int))(x5:Int):Nat→(Int)→Option (Sum ((Int)) (Unit)):=Jc (Yw.b K x1 x5)
def yB.f(K:Nat)(x1:(List Int))(x5:Int):Option (Int):=
 ((Yw.l K x1 x5 K (0:Int)).bind fun s1=>(match s1 with| .inl u1=>some u1| .inr u2=>(fun(z1:Unit)=>(some (-1:Int))) u2))
def Zz.f(K:Nat)(x1:Jp)(x8:Int):Option (Bool):=
 ((yB.f K (x1.fSagas) (x8)).bind fun r99=>(jn (fun(y1:Bool)=>(some y1)) (fun j1=>(bif (decide ((0:Int)≤r99))then(bif (decide (r99<((List.length (x1.fLines):Nat):Int)))then((getI (x1.fLines) r99).bind fun x2=>(bif (decide ((2:Int)≤x2.fPhase))then((getI (x1.fLines) r99).bind fun x3=>(j1 (decide (x3.fPhase≤(4:Int)))))else(j1 false)))else(j1 false))else(j1 false)))))
def jU.f(K:Nat):Option (Bool):=
 ((ZI.f K).bind fun r4=>((getI (([{Qu with fKind:=(1:Int),fSteps:=([(Qp.mk ((1:Int)) ((1:Int)))]:List Qp),fData:=([(97:Int)]:List Int) },{Qu with fKind:=(2:Int),fSeq:=(1:Int),fTry:=(1:Int) },{Qu with fKind:=(3:Int),fSeq:=(2:Int),fTry:=(1:Int),fGood:=true,fPart:=(1:Int) },{Qu with fKind:=(5:Int),fSeq:=(3:Int),fEnd:=(2:Int) }]:List Ql)) (2:Int)).bind fun x6=>((getI (([{Qu with fKind:=(1:Int),fSteps:=([(Qp.mk ((1:Int)) ((1:Int)))]:List Qp),fData:=([(97:Int)]:List Int) },{Qu with fKind:=(2:Int),fSeq:=(1:Int),fTry:=(1:Int) },{Qu with fKind:=(3:Int),fSeq:=(2:Int),fTry:=(1:Int),fGood:=true,fPart:=(1:Int) },{Qu with fKind:=(5:Int),fSeq:=(3:Int),fEnd:=(2:Int) }]:List Ql)) (2:Int)).bind fun x4=>((jQ.f K (r4) (x4)).bind fun r3=>((getI (([{Qu with fKind:=(1:Int),fSteps:=([(Qp.mk ((1:Int)) ((1:Int)))]:List Qp),fData:=([(97:Int)]:List Int) },{Qu with fKind:=(2:Int),fSeq:=(1:Int),fTry:=(1:Int) },{Qu with fKind:=(3:Int),fSeq:=(2:Int),fTry:=(1:Int),fGood:=true,fPart:=(1:Int) },{Qu with fKind:=(5:Int),fSeq:=(3:Int),fEnd:=(2:Int) }]:List Ql)) (2:Int)).bind fun x7=>((getI (([{Qu with fKind:=(1:Int),fSteps:=([(Qp.mk ((1:Int)) ((1:Int)))]:List Qp),fData:=([(97:Int)]:List Int) },{Qu with fKind:=(2:Int),fSeq:=(1:Int),fTry:=(1:Int) },{Qu with fKind:=(3:Int),fSeq:=(2:Int),fTry:=(1:Int),fGood:=true,fPart:=(1:Int) },{Qu with fKind:=(5:Int),fSeq:=(3:Int),fEnd:=(2:Int) }]:List Ql)) (2:Int)).bind fun x1=>((jH.f K (r4) ((List.set (([{Qu with fKind:=(1:Int),fSteps:=([(Qp.mk ((1:Int)) ((1:Int)))]:List Qp),fData:=([(97:Int)]:List Int) },{Qu with fKind:=(2:Int),fSeq:=(1:Int),fTry:=(1:Int) },{Qu with fKind:=(3:Int),fSeq:=(2:Int),fTry:=(1:Int),fGood:=true,fPart:=(1:Int) },{Qu with fKind:=(5:Int),fSeq:=(3:Int),fEnd:=(2:Int) }]:List Ql)) (Int.toNat ((2:Int))) ({x1 with fTag:=r3})))).bind fun r1=>((QcL.f K ((List.set (([{Qu with fKind:=(1:Int),fSteps:=([(Qp.mk ((1:Int)) ((1:Int)))]:List Qp),fData:=([(97:Int)]:List Int) },{Qu with fKind:=(2:Int),fSeq:=(1:Int),fTry:=(1:Int) },{Qu with fKind:=(3:Int),fSeq:=(2:Int),fTry:=(1:Int),fGood:=true,fPart:=(1:Int) },{Qu with fKind:=(5:Int),fSeq:=(3:Int),fEnd:=(2:Int) }]:List Ql)) (Int.toNat ((2:Int))) ({x1 with fTag:=r3}))) ((Qo.mk (r1.1) (r1.2.1) (r1.2.2))) ((1:Int))).bind fun r8=>((QhC.f K ((List.set (([{Qu with fKind:=(1:Int),fSteps:=([(Qp.mk ((1:Int)) ((1:Int)))]:List Qp),fData:=([(97:Int)]:List Int) },{Qu with fKind:=(2:Int),fSeq:=(1:Int),fTry:=(1:Int) },{Qu with fKind:=(3:Int),fSeq:=(2:Int),fTry:=(1:Int),fGood:=true,fPart:=(1:Int) },{Qu with fKind:=(5:Int),fSeq:=(3:Int),fEnd:=(2:Int) }]:List Ql)) (Int.toNat ((2:Int))) ({x1 with fTag:=r3}))) ((Qo.mk (r1.1) (r1.2.1) (r1.2.2))) ((0:Int)) ((0:Int))).bind fun r9=>((Qbh.f K (r8.1)).bind fun r10=>((jr.f K (r4) ((2:Int)) ((Qo.mk (r1.1) (r1.2.1) (r1.2.2))) (r10)).bind fun r2=>((Qbh.f K (r9.1)).bind fun r11=>((jr.f K (r4) ((2:Int)) ((Qo.mk (r1.1) (r1.2.1) (r1.2.2))) (r11)).bind fun r6=>((getI ((List.set (([{Qu with fKind:=(1:Int),fSteps:=([(Qp.mk ((1:Int)) ((1:Int)))]:List Qp),fData:=([(97:Int)]:List Int) },{Qu with fKind:=(2:Int),fSeq:=(1:Int),fTry:=(1:Int) },{Qu with fKind:=(3:Int),fSeq:=(2:Int),fTry:=(1:Int),fGood:=true,fPart:=(1:Int) },{Qu with fKind:=(5:Int),fSeq:=(3:Int),fEnd:=(2:Int) }]:List Ql)) (Int.toNat ((2:Int))) ({x1 with fTag:=r3}))) (2:Int)).bind fun x8=>((getI ((List.set (([{Qu with fKind:=(1:Int),fSteps:=([(Qp.mk ((1:Int)) ((1:Int)))]:List Qp),fData:=([(97:Int)]:List Int) },{Qu with fKind:=(2:Int),fSeq:=(1:Int),fTry:=(1:Int) },{Qu with fKind:=(3:Int),fSeq:=(2:Int),fTry:=(1:Int),fGood:=true,fPart:=(1:Int) },{Qu with fKind:=(5:Int),fSeq:=(3:Int),fEnd:=(2:Int) }]:List Ql)) (Int.toNat ((2:Int))) ({x1 with fTag:=r3}))) (2:Int)).bind fun x3=>((getI ((List.set (([{Qu with fKind:=(1:Int),fSteps:=([(Qp.mk ((1:Int)) ((1:Int)))]:List Qp),fData:=([(97:Int)]:List Int) },{Qu with fKind:=(2:Int),fSeq:=(1:Int),fTry:=(1:Int) },{Qu with fKind:=(3:Int),fSeq:=(2:Int),fTry:=(1:Int),fGood:=true,fPart:=(1:Int) },{Qu with fKind:=(5:Int),fSeq:=(3:Int),fEnd:=(2:Int) }]:List Ql)) (Int.toNat ((2:Int))) ({x1 with fTag:=r3}))) (2:Int)).bind fun x9=>((getI ((List.set (([{Qu with fKind:=(1:Int),fSteps:=([(Qp.mk ((1:Int)) ((1:Int)))]:List Qp),fData:=([(97:Int)]:List Int) },{Qu with fKind:=(2:Int),fSeq:=(1:Int),fTry:=(1:Int) },{Qu with fKind:=(3:Int),fSeq:=(2:Int),fTry:=(1:Int),fGood:=true,fPart:=(1:Int) },{Qu with fKind:=(5:Int),fSeq:=(3:Int),fEnd:=(2:Int) }]:List Ql)) (Int.toNat ((2:Int))) ({x1 with fTag:=r3}))) (2:Int)).bind fun x2=>((jH.f K (r4) ((List.set ((List.set (([{Qu with fKind:=(1:Int),fSteps:=([(Qp.mk ((1:Int)) ((1:Int)))]:List Qp),fData:=([(97:Int)]:List Int) },{Qu with fKind:=(2:Int),fSeq:=(1:Int),fTry:=(1:Int) },{Qu with fKind:=(3:Int),fSeq:=(2:Int),fTry:=(1:Int),fGood:=true,fPart:=(1:Int) },{Qu with fKind:=(5:Int),fSeq:=(3:Int),fEnd:=(2:Int) }]:List Ql)) (Int.toNat ((2:Int))) ({x1 with fTag:=r3}))) (Int.toNat ((2:Int))) ({x2 with fTag:=(vset (x2.fTag) 0 ((IntKind.wrap .u8 ((vget (x3.fTag) 0)+(1:Int))))) })))).bind fun r5=>((QcL.f K ((List.set ((List.set (([{Qu with fKind:=(1:Int),fSteps:=([(Qp.mk ((1:Int)) ((1:Int)))]:List Qp),fData:=([(97:Int)]:List Int) },{Qu with fKind:=(2:Int),fSeq:=(1:Int),fTry:=(1:Int) },{Qu with fKind:=(3:Int),fSeq:=(2:Int),fTry:=(1:Int),fGood:=true,fPart:=(1:Int) },{Qu with fKind:=(5:Int),fSeq:=(3:Int),fEnd:=(2:Int) }]:List Ql)) (Int.toNat ((2:Int))) ({x1 with fTag:=r3}))) (Int.toNat ((2:Int))) ({x2 with fTag:=(vset (x2.fTag) 0 ((IntKind.wrap .u8 ((vget (x3.fTag) 0)+(1:Int))))) }))) ((Qo.mk (r5.1) (r5.2.1) (r5.2.2))) ((0:Int))).bind fun r7=>((Qbh.f K (r7.1)).bind fun r12=>((jr.f K (r4) ((2:Int)) ((Qo.mk (r5.1) (r5.2.1) (r5.2.2))) (r12)).bind fun r13=>((Qbh.f K (r7.1)).bind fun r14=>((jr.f K (r4) ((2:Int)) ((Qo.mk (r1.1) (r1.2.1) (r1.2.2))) (r14)).bind fun r15=>(jn (fun(y1:Bool)=>(some y1)) (fun j1=>(bif (decide (r2.1=(0:Int)))then((Qjn.f K ((Jp.mk (r2.1) (r2.2.1) (r2.2.2))) ((Jp.mk (r6.1) (r6.2.1) (r6.2.2)))).bind fun r16=>(bif r16 then(bif (decide (((List.length (r2.2.2):Nat):Int)=(1:Int)))then((getI (r2.2.2) (0:Int)).bind fun x5=>(bif (decide (x5.fPhase=(2:Int)))then((Zz.f K ((Jp.mk (r2.1) (r2.2.1) (r2.2.2))) ((0:Int))).bind fun r17=>(bif r17 then((Zz.f K ((Jp.mk (r2.1) (r2.2.1) (r2.2.2))) ((1:Int))).bind fun r18=>(bif (!r18)then(bif (decide (r13.1=(7:Int)))then(j1 (decide (r15.1=(6:Int))))else(j1 false))else(j1 false)))else(j1 false)))else(j1 false)))else(j1 false))else(j1 false)))else(j1 false)))))))))))))))))))))))))))
def JP.f(K:Nat)(x1:Qr)(x8:(List Int)):Option (Bool):=
 (bif (decide ((20:Int)<((List.length (x1.fParts):Nat):Int)))then(some true)else(bif (decide ((20:Int)<((List.length (x1.fWits):Nat):Int)))then(some true)else(some (decide ((4000:Int)<((List.length (x8):Nat):Int))))))
def Yp.b(K:Nat)(x1:QG)(rec:((List Ql)×Int)→Option ((List Ql)))(y1:(List Ql)×Int):Option ((List Ql)):=
 (bif (decide (y1.2<((List.length (x1.fItems):Nat):Int)))then((getI (x1.fItems) y1.2).bind fun x2=>((catI 224 (y1.1) (([x2.fRec]:List Ql))).bind fun l1=>(rec (l1,(IntKind.wrap .i64 (y1.2+(1:Int)))))))else(some y1.1))
def Yp.l(K:Nat)(x1:QG):Nat→((List Ql)×Int)→Option ((List Ql)):=Jc (Yp.b K x1)
def J4.f(K:Nat)(x1:QG):Option ((List Ql)):=
 ((Yp.l K x1 K (([]:List Ql),(0:Int))).bind fun z1=>(some z1))
def yC.f(K:Nat)(x1:(List (Vector Int 32)))(x5:Int):Option ((List (Vector Int 32))×Bool):=
 ((JS.f K (x1) (x5)).bind fun r21=>(some (r21.1,r21.2)))
def Qbj.f(K:Nat)(x1:(Vector Int 32))(x2:(Vector Int 32)):Option ((List Int)):=
 ((subI (Yh (x1)) 0 ((32:Nat):Int)).bind fun l50=>((subI (Yh (x2)) 0 ((32:Nat):Int)).bind fun l51=>((QS.f K (([([(1:Int)]:List Int),l50,l51]:List (List Int)))).bind fun r66=>(some r66))))
def Jy.b(K:Nat)(rec:(Int×Int×(List Bool))→Option ((List Bool)))(y1:Int×Int×(List Bool)):Option ((List Bool)):=
 (bif (decide ((1:Int)<y1.2.1))then((yl.f K (y1.2.1)).bind fun r1=>((catI 1 (y1.2.2) (([(decide (y1.1<r1))]:List Bool))).bind fun l1=>(bif (decide (y1.1<r1))then(rec (y1.1,r1,l1))else(rec ((IntKind.wrap .i64 (y1.1-r1)),(IntKind.wrap .i64 (y1.2.1-r1)),l1)))))else(some y1.2.2))
def Jy.l(K:Nat):Nat→(Int×Int×(List Bool))→Option ((List Bool)):=Jc (Jy.b K)
def Jl.b(K:Nat)(x7:(List (Vector Int 32)))(r1:(List Bool))(rec:((List (List Int))×Int×(Vector Int 32))→Option ((List (List Int))))(y1:(List (List Int))×Int×(Vector Int 32)):Option ((List (List Int))):=
 (bif (decide (y1.2.1<((List.length (r1):Nat):Int)))then((getI (r1) y1.2.1).bind fun x1=>((getI (x7) y1.2.1).bind fun x2=>((Qbj.f K (x2) (y1.2.2)).bind fun r2=>(jn (fun(y2:(List Int))=>((catI 24 (y1.1) (([y2]:List (List Int)))).bind fun l1=>((shaQ.f K (([y2]:List (List Int)))).bind fun r3=>(rec (l1,(IntKind.wrap .i64 (y1.2.1+(1:Int))),r3))))) (fun j1=>(bif x1 then((getI (x7) y1.2.1).bind fun x3=>((Qbj.f K (y1.2.2) (x3)).bind fun r4=>(j1 r4)))else(j1 r2)))))))else(some y1.1))
def Jl.l(K:Nat)(x7:(List (Vector Int 32)))(r1:(List Bool)):Nat→((List (List Int))×Int×(Vector Int 32))→Option ((List (List Int))):=Jc (Jl.b K x7 r1)
def ZX.f(K:Nat)(x1:(List Int))(x5:Int)(x6:Int)(x7:(List (Vector Int 32))):Option ((List (List Int))):=
 ((QS.f K (([([(0:Int)]:List Int),x1]:List (List Int)))).bind fun r1=>((Jy.l K K (x5,x6,([]:List Bool))).bind fun z1=>((Yg.f K (z1)).bind fun r2=>((jR.f K (x1)).bind fun r3=>((Jl.l K x7 r2 K (([r1]:List (List Int)),(0:Int),r3)).bind fun z2=>((QY.f K (z2)).bind fun r4=>(some r4)))))))
def QbN.f(K:Nat)(x1:(List Int))(x5:(List Int)):Option (Bool):=
 ((bytes_Equal.f K (x1) (x5)).bind fun r1=>(bif (!r1)then((shaQ.f K (([x1]:List (List Int)))).bind fun r2=>((shaQ.f K (([x5]:List (List Int)))).bind fun r3=>(some (decide (r2=r3)))))else(some false)))
def Jm.b(K:Nat)(r1:((List (List Int))))(r2:((List (List Int))))(rec:Int→Option (Sum (((List Int)×(List Int)×Bool)) (Unit)))(y1:Int):Option (Sum (((List Int)×(List Int)×Bool)) (Unit)):=
 (bif (decide (y1<((List.length (r1):Nat):Int)))then((getI (r1) y1).bind fun x1=>((getI (r2) y1).bind fun x2=>((QbN.f K (x1) (x2)).bind fun r3=>(bif r3 then((getI (r1) y1).bind fun x3=>((getI (r2) y1).bind fun x4=>(some (Sum.inl (x3,x4,true)))))else(rec (IntKind.wrap .i64 (y1+(1:Int))))))))else(some (Sum.inr ())))
def Jm.l(K:Nat)(r1:((List (List Int))))(r2:((List (List Int)))):Nat→(Int)→Option (Sum (((List Int)×(List Int)×Bool)) (Unit)):=Jc (Jm.b K r1 r2)
def QbO.f(K:Nat)(x1:(List Int))(x5:(List Int))(x9:Int)(x10:Int)(x11:(List (Vector Int 32)))(x15:(List (Vector Int 32))):Option ((List Int)×(List Int)×Bool):=
 ((jR.f K (x1)).bind fun r3=>((jT.f K (r3) (x9) (x10) (x11)).bind fun r1=>((jR.f K (x5)).bind fun r4=>((jT.f K (r4) (x9) (x10) (x15)).bind fun r2=>(jn (fun(y1:Bool)=>(bif y1 then(some (([]:List Int),([]:List Int),false))else((ZX.f K (x1) (x9) (x10) (x11)).bind fun r5=>((ZX.f K (x5) (x9) (x10) (x15)).bind fun r6=>((Jm.l K r5 r6 K (0:Int)).bind fun s1=>(match s1 with| .inl u1=>some u1| .inr u2=>(fun(z1:Unit)=>(some (([]:List Int),([]:List Int),false))) u2)))))) (fun j1=>(bif (!r1.2)then(j1 true)else(bif (!r2.2)then(j1 true)else(j1 (!(decide (r1.1=r2.1))))))))))))
def Ye.b(K:Nat)(x1:(List Ql))(x5:Int)(rec:((List Ql)×Int)→Option ((List Ql)))(y1:(List Ql)×Int):Option ((List Ql)):=
 (bif (decide (y1.2<((List.length (x1):Nat):Int)))then(jn (fun(y2:(List Ql))=>(rec (y2,(IntKind.wrap .i64 (y1.2+(1:Int)))))) (fun j2=>(jn (fun(y3:Bool)=>(bif y3 then((getI (x1) y1.2).bind fun x2=>((catI 224 (y1.1) (([x2]:List Ql))).bind fun l1=>(j2 l1)))else(j2 y1.1))) (fun j1=>((getI (x1) y1.2).bind fun x3=>(bif (decide ((0:Int)<x3.fKind))then((getI (x1) y1.2).bind fun x4=>(bif (decide (x4.fKind<(6:Int)))then((getI (x1) y1.2).bind fun x6=>(j1 (decide (x6.fSaga=x5))))else(j1 false)))else(j1 false)))))))else(some y1.1))
def Ye.l(K:Nat)(x1:(List Ql))(x5:Int):Nat→((List Ql)×Int)→Option ((List Ql)):=Jc (Ye.b K x1 x5)
def J5.f(K:Nat)(x1:(List Ql))(x5:Int):Option ((List Ql)):=
 ((Ye.l K x1 x5 K (([]:List Ql),(0:Int))).bind fun z1=>(some z1))
def Yl.b(K:Nat)(x1:(List Qp))(x5:(List Qp))(rec:Int→Option (Sum ((Bool)) (Unit)))(y1:Int):Option (Sum ((Bool)) (Unit)):=
 (bif (decide (y1<((List.length (x1):Nat):Int)))then((getI (x1) y1).bind fun x2=>((getI (x5) y1).bind fun x3=>(bif (!((decide (x2.fPart=x3.fPart))&&((decide (x2.fKind=x3.fKind))&&true)))then(some (Sum.inl false))else(rec (IntKind.wrap .i64 (y1+(1:Int)))))))else(some (Sum.inr ())))
def Yl.l(K:Nat)(x1:(List Qp))(x5:(List Qp)):Nat→(Int)→Option (Sum ((Bool)) (Unit)):=Jc (Yl.b K x1 x5)
def qC.f(K:Nat)(x1:(List Qp))(x5:(List Qp)):Option (Bool):=
 (bif (!decide (((List.length (x1):Nat):Int)=((List.length (x5):Nat):Int)))then(some false)else((Yl.l K x1 x5 K (0:Int)).bind fun s1=>(match s1 with| .inl u1=>some u1| .inr u2=>(fun(z1:Unit)=>(some true)) u2)))
def Ym.b(K:Nat)(x1:(List Int))(x5:(List Int))(rec:Int→Option (Sum ((Bool)) (Unit)))(y1:Int):Option (Sum ((Bool)) (Unit)):=
 (bif (decide (y1<((List.length (x1):Nat):Int)))then((getI (x1) y1).bind fun x2=>((getI (x5) y1).bind fun x3=>(bif (!decide (x2=x3))then(some (Sum.inl false))else(rec (IntKind.wrap .i64 (y1+(1:Int)))))))else(some (Sum.inr ())))
def Ym.l(K:Nat)(x1:(List Int))(x5:(List Int)):Nat→(Int)→Option (Sum ((Bool)) (Unit)):=Jc (Ym.b K x1 x5)
def qE.f(K:Nat)(x1:(List Int))(x5:(List Int)):Option (Bool):=
 (bif (!decide (((List.length (x1):Nat):Int)=((List.length (x5):Nat):Int)))then(some false)else((Ym.l K x1 x5 K (0:Int)).bind fun s1=>(match s1 with| .inl u1=>some u1| .inr u2=>(fun(z1:Unit)=>(some true)) u2)))
def J6.f(K:Nat)(x1:Ql)(x8:Ql):Option (Bool):=
 (jn (fun(y58:Bool)=>(some y58)) (fun j61=>(bif (decide (x1.fKind=x8.fKind))then(bif (decide (x1.fSaga=x8.fSaga))then(bif (decide (x1.fSeq=x8.fSeq))then(bif (decide (x1.fStep=x8.fStep))then(bif (decide (x1.fTry=x8.fTry))then(bif (x1.fBack==x8.fBack)then(bif (x1.fGood==x8.fGood)then(bif (decide (x1.fEnd=x8.fEnd))then(bif (decide (x1.fPart=x8.fPart))then(bif (decide (x1.fEpoch=x8.fEpoch))then(bif (decide (x1.fTag=x8.fTag))then((qC.f K (x1.fSteps) (x8.fSteps)).bind fun r63=>(bif r63 then((qE.f K (x1.fData) (x8.fData)).bind fun r68=>(bif r68 then(bif (decide (x1.fSalt=x8.fSalt))then(bif (x1.fGone==x8.fGone)then(j61 (decide (x1.fCom=x8.fCom)))else(j61 false))else(j61 false))else(j61 false)))else(j61 false)))else(j61 false))else(j61 false))else(j61 false))else(j61 false))else(j61 false))else(j61 false))else(j61 false))else(j61 false))else(j61 false))else(j61 false))else(j61 false))))
def qK.b(K:Nat)(x1:Qo)(x5:Qo)(rec:Int→Option (Sum ((Bool)) (Unit)))(y1:Int):Option (Sum ((Bool)) (Unit)):=
 (bif (decide (y1<((List.length (x1.fSigs):Nat):Int)))then((getI (x1.fSigs) y1).bind fun x2=>((getI (x5.fSigs) y1).bind fun x3=>(bif (!((decide (x2.fWit=x3.fWit))&&((decide (x2.fTag=x3.fTag))&&true)))then(some (Sum.inl false))else(rec (IntKind.wrap .i64 (y1+(1:Int)))))))else(some (Sum.inr ())))
def qK.l(K:Nat)(x1:Qo)(x5:Qo):Nat→(Int)→Option (Sum ((Bool)) (Unit)):=Jc (qK.b K x1 x5)
def XG.f(K:Nat)(x1:Qo)(x5:Qo):Option (Bool):=
 (jn (fun(y1:Bool)=>(bif y1 then(some false)else((qK.l K x1 x5 K (0:Int)).bind fun s1=>(match s1 with| .inl u1=>some u1| .inr u2=>(fun(z1:Unit)=>(some true)) u2)))) (fun j1=>(bif (!decide (x1.fSize=x5.fSize))then(j1 true)else(bif (!(decide (x1.fRoot=x5.fRoot)))then(j1 true)else(j1 (!decide (((List.length (x1.fSigs):Nat):Int)=((List.length (x5.fSigs):Nat):Int))))))))
def jw.b(K:Nat)(x1:(List (Vector Int 32)))(x5:(List (Vector Int 32)))(rec:Int→Option (Sum ((Bool)) (Unit)))(y1:Int):Option (Sum ((Bool)) (Unit)):=
 (bif (decide (y1<((List.length (x1):Nat):Int)))then((getI (x1) y1).bind fun x2=>((getI (x5) y1).bind fun x3=>(bif (!(decide (x2=x3)))then(some (Sum.inl false))else(rec (IntKind.wrap .i64 (y1+(1:Int)))))))else(some (Sum.inr ())))
def jw.l(K:Nat)(x1:(List (Vector Int 32)))(x5:(List (Vector Int 32))):Nat→(Int)→Option (Sum ((Bool)) (Unit)):=Jc (jw.b K x1 x5)
def Zk.f(K:Nat)(x1:(List (Vector Int 32)))(x5:(List (Vector Int 32))):Option (Bool):=
 (bif (!decide (((List.length (x1):Nat):Int)=((List.length (x5):Nat):Int)))then(some false)else((jw.l K x1 x5 K (0:Int)).bind fun s1=>(match s1 with| .inl u1=>some u1| .inr u2=>(fun(z1:Unit)=>(some true)) u2)))
def jy.b(K:Nat)(x1:QG)(x8:QG)(rec:Int→Option (Sum ((Bool)) (Unit)))(y1:Int):Option (Sum ((Bool)) (Unit)):=
 (bif (decide (y1<((List.length (x1.fItems):Nat):Int)))then((getI (x1.fItems) y1).bind fun x2=>((getI (x8.fItems) y1).bind fun x3=>(jn (fun(y2:Bool)=>(bif y2 then(some (Sum.inl false))else(rec (IntKind.wrap .i64 (y1+(1:Int)))))) (fun j1=>(bif (!decide (x2.fAt=x3.fAt))then(j1 true)else((J6.f K (x2.fRec) (x3.fRec)).bind fun r1=>(bif (!r1)then(j1 true)else((Zk.f K (x2.fPath) (x3.fPath)).bind fun r2=>(j1 (!r2))))))))))else(some (Sum.inr ())))
def jy.l(K:Nat)(x1:QG)(x8:QG):Nat→(Int)→Option (Sum ((Bool)) (Unit)):=Jc (jy.b K x1 x8)
def qN.f(K:Nat)(x1:QG)(x8:QG):Option (Bool):=
 (jn (fun(y1:Bool)=>(bif y1 then(some false)else((jy.l K x1 x8 K (0:Int)).bind fun s1=>(match s1 with| .inl u1=>some u1| .inr u2=>(fun(z1:Unit)=>(some true)) u2)))) (fun j1=>(bif (!(x1.fWhole==x8.fWhole))then(j1 true)else((XG.f K (x1.fPoint) (x8.fPoint)).bind fun r1=>(bif (!r1)then(j1 true)else(j1 (!decide (((List.length (x1.fItems):Nat):Int)=((List.length (x8.fItems):Nat):Int)))))))))
def Ya.b(K:Nat)(r1:(QG×Int))(r2:((List Ql)))(r5:((List (Vector Int 32))))(rec:Int→Option (Sum ((Bool)) (Unit)))(y1:Int):Option (Sum ((Bool)) (Unit)):=
 (bif (decide (y1<((List.length (r1.1.fItems):Nat):Int)))then((getI (r1.1.fItems) y1).bind fun x1=>((yC.f K (r5) (x1.fAt)).bind fun r4=>(bif (!r4.2)then(some (Sum.inl false))else((getI (r1.1.fItems) y1).bind fun x2=>((getI (r1.1.fItems) y1).bind fun x3=>((getI (r2) x3.fAt).bind fun x4=>((XL.f K (x2.fRec)).bind fun r6=>((XL.f K (x4)).bind fun r7=>((getI (r1.1.fItems) y1).bind fun x5=>((getI (r1.1.fItems) y1).bind fun x6=>((QbO.f K (r6) (r7) (x5.fAt) (((List.length (r2):Nat):Int)) (x6.fPath) (r4.1)).bind fun r3=>(bif r3.2.2 then((QbN.f K (r3.1) (r3.2.1)).bind fun r8=>(some (Sum.inl r8)))else((getI (r1.1.fItems) y1).bind fun x7=>((getI (r1.1.fItems) y1).bind fun x8=>((getI (r2) x8.fAt).bind fun x9=>((y9.f K (x7.fRec)).bind fun r9=>((y9.f K (x9)).bind fun r10=>((Qex.f K (r9) (r10)).bind fun r11=>(bif (!r11)then(some (Sum.inl false))else(rec (IntKind.wrap .i64 (y1+(1:Int)))))))))))))))))))))))else(some (Sum.inr ())))
def Ya.l(K:Nat)(r1:(QG×Int))(r2:((List Ql)))(r3:((List (Vector Int 32)))):Nat→(Int)→Option (Sum ((Bool)) (Unit)):=Jc (Ya.b K r1 r2 r3)
def Yb.b(K:Nat)(r1:((List Ql)))(r2:((List Ql)))(rec:Int→Option (Sum ((Bool)) (Unit)))(y1:Int):Option (Sum ((Bool)) (Unit)):=
 (bif (decide (y1<((List.length (r1):Nat):Int)))then((getI (r1) y1).bind fun x1=>((getI (r2) y1).bind fun x2=>((y9.f K (x1)).bind fun r3=>((y9.f K (x2)).bind fun r4=>((J6.f K (r3) (r4)).bind fun r5=>(bif (!r5)then(some (Sum.inl false))else(rec (IntKind.wrap .i64 (y1+(1:Int))))))))))else(some (Sum.inr ())))
def Yb.l(K:Nat)(r1:((List Ql)))(r2:((List Ql))):Nat→(Int)→Option (Sum ((Bool)) (Unit)):=Jc (Yb.b K r1 r2)
def Yc.b(K:Nat)(x21:Int)(r1:(Int×(List Int)×(List Qq)))(r2:(Int×(List Int)×(List Qq)))(rec:Int→Option (Sum ((Bool)) (Unit)))(y1:Int):Option (Sum ((Bool)) (Unit)):=
 (bif (decide (y1<((List.length (r1.2.1):Nat):Int)))then(jn (fun(y2:Bool)=>(bif y2 then(some (Sum.inl false))else(rec (IntKind.wrap .i64 (y1+(1:Int)))))) (fun j1=>((getI (r1.2.1) y1).bind fun x3=>(bif (decide (x3=x21))then(bif (decide (((List.length (r2.2.2):Nat):Int)≤x21))then(j1 true)else((getI (r1.2.2) y1).bind fun x1=>((getI (r2.2.2) x21).bind fun x4=>((getI (r2.2.2) x21).bind fun x2=>(j1 (!((decide (x1.fPhase=x2.fPhase))&&((decide (x1.fMissing=x2.fMissing))&&true))))))))else(j1 false)))))else(some (Sum.inr ())))
def Yc.l(K:Nat)(x21:Int)(r1:(Int×(List Int)×(List Qq)))(r2:(Int×(List Int)×(List Qq))):Nat→(Int)→Option (Sum ((Bool)) (Unit)):=Jc (Yc.b K x21 r1 r2)
def qo.f(K:Nat)(x1:Qr)(x8:Int)(x9:Qo)(x13:(List Int))(x17:(List Int))(x21:Int):Option (Bool):=
 ((jU.f K).bind fun r8=>(bif (!r8)then(some false)else(jn (fun(y1:Bool)=>(bif y1 then(some true)else((jr.f K (x1) (x8) (x9) (x13)).bind fun r1=>((jr.f K (x1) (x8) (x9) (x17)).bind fun r5=>((XN.f K (x13)).bind fun r2=>((XN.f K (x17)).bind fun r3=>(jn (fun(y2:Bool)=>(bif y2 then(some true)else((J4.f K (r3.1)).bind fun r4=>((jl.f K (r4)).bind fun r9=>((Ya.l K r2 r4 r9 K (0:Int)).bind fun s1=>(match s1 with| .inl u1=>some u1| .inr u2=>(fun(z1:Unit)=>((J4.f K (r2.1)).bind fun r10=>((J5.f K (r10) (x21)).bind fun r6=>((J5.f K (r4) (x21)).bind fun r7=>(bif (!decide (((List.length (r6):Nat):Int)=((List.length (r7):Nat):Int)))then(some false)else((Yb.l K r6 r7 K (0:Int)).bind fun s2=>(match s2 with| .inl u3=>some u3| .inr u4=>(fun(z2:Unit)=>((Yc.l K x21 r1 r5 K (0:Int)).bind fun s3=>(match s3 with| .inl u5=>some u5| .inr u6=>(fun(z3:Unit)=>((qN.f K (r2.1) (r3.1)).bind fun r11=>(some (!r11)))) u6))) u4))))))) u2)))))) (fun j1=>(bif (!decide (r1.1=(0:Int)))then(j1 true)else(bif (!decide (r5.1=(0:Int)))then(j1 true)else(bif (!r3.1.fWhole)then(j1 true)else(bif r2.1.fWhole then(j1 true)else((Zz.f K ((Jp.mk (r1.1) (r1.2.1) (r1.2.2))) (x21)).bind fun r12=>(j1 (!r12))))))))))))))) (fun j2=>((JP.f K (x1) (x13)).bind fun r13=>(bif r13 then(j2 true)else((JP.f K (x1) (x17)).bind fun r14=>(j2 r14))))))))
end Go.Proofs.YtomndohdnfebgaaGreatDoor
