/-
 Plain: what a path comes to, the texts on the way, and that two leaves under one root are the same, or there is a clash.
-/
import Derived.Test.YtomndohdnfebgaaGreatDoorPureAy
namespace Go.Proofs.YtomndohdnfebgaaGreatDoor
open Go Go.Sep
theorem Qpp{K:Nat}(k:Qr)(b:List Int):JP.f K k b=some (decide ((20:Int)<((k.fParts.length:Nat):Int))||(decide ((20:Int)<((k.fWits.length:Nat):Int))||decide ((4000:Int)<((b.length:Nat):Int)))):=by
 unfold JP.f
 cases decide ((20:Int)<((k.fParts.length:Nat):Int))with
 |true=>rfl
 |false=>cases decide ((20:Int)<((k.fWits.length:Nat):Int))<;>rfl
theorem QiC{k:Qr}{b:List Int}(h:(decide ((20:Int)<((k.fParts.length:Nat):Int))||(decide ((20:Int)<((k.fWits.length:Nat):Int))||decide ((4000:Int)<((b.length:Nat):Int))))=false):k.fParts.length≤20∧k.fWits.length≤20∧b.length≤4000:=by
 simp only[Bool.or_eq_false_iff,decide_eq_false_iff_not]at h
 omega
structure vldA(k:Qr)(limit size:Int)(root:H32)(b:List Int):Prop where
 may:mayK k=true
 lim:inn limit 1 9=true
 get:(getS b).2=0
 chk:chkK k (getS b).1.fPoint=0
 size:(getS b).1.fPoint.fSize=size
 root:(getS b).1.fPoint.fRoot=root
 run:(outA (runA k limit (getS b).1)).1=0
theorem Qwm{k:Qr}{limit size:Int}{root:H32}{b:List Int}(h:(Qbv k limit size root b).1=0):vldA k limit size root b:=by
 unfold Qbv at h
 cases h1:(mayK k&&inn limit 1 9)with
 |false=>rw[h1]at h;cases h
 | true=>
  rw[h1]at h
  simp only[Qd]at h1
  simp only[Qg]at h
  by_cases h2:(getS b).2=0
  ·rw [Qj (QK h2)]at h
   by_cases h3:chkK k (getS b).1.fPoint=0
   ·rw[Qj (QK h3)]at h
    by_cases h4:(getS b).1.fPoint.fSize=size
    ·by_cases h5:(getS b).1.fPoint.fRoot=root
     ·rw[QK h4,QK h5]at h
      exact⟨h1.1,h1.2,h2,h3,h4,h5,h⟩
     ·rw[QE h5,Bool.and_false]at h;cases h
    ·rw[QE h4,Bool.false_and]at h;cases h
   ·rw[Qi (QE h3)]at h
    exact absurd h h3
  ·rw[Qi (QE h2)]at h
   exact absurd h h2
theorem vldA.eq{k:Qr}{limit size:Int}{root:H32}{b:List Int}(h:vldA k limit size root b):Qbv k limit size root b=outA (runA k limit (getS b).1):=by
 unfold Qbv
 rw[h.may,h.lim,QK h.get,QK h.chk,QK h.size,QK h.root]
 rfl
theorem QtK{k:Qr}{limit:Int}{x:Bun}(hv:vBun x)(hw:x.fWhole=false):runA k limit x=match runI k limit x.fPoint x.fItems st0 with
  | .inl e=> .inl e
  | .inr z=> .inr (0,z.2.1,QaP z):=by
 unfold runA
 rw[hw]
 simp only[Qh]
 rw[QxR hv];rfl
theorem QxW{k:Qr}{limit:Int}{p:Qo}:∀{l:List It} {st:StT} {e:Int},runI k limit p l st= .inl e→e≠0:=by
 intro l
 induction l with
 |nil=>intro st e h;cases h
 | cons y l ih=>
  intro st e h
  unfold runI at h
  cases hi:QgQ k limit p y st with
  |inr s=>rw[hi]at h;exact ih h
  | inl e'=>
   rw[hi]at h
   cases h
   unfold QgQ at hi
   cases h1:inP p y with
   |false=>rw[h1]at hi;cases hi;decide
   | true=>
    rw[h1]at hi
    cases h2:rcK k y.fRec with
    |false=>rw[h2]at hi;cases hi;decide
    | true=>
     rw[h2]at hi
     simp only[Qg]at hi
     cases h3:decide (y.fRec.fKind=1)with
     |true=>
      rw[h3]at hi
      unfold begA at hi
      simp only[Qg]at hi
      cases h4:(!(st.1.getD y.fRec.fSaga.toNat false)&&Qoe y.fRec.fSteps)with
      |true=>rw[h4]at hi;cases hi
      |false=>rw[h4]at hi;cases hi;decide
     | false=>
      rw[h3]at hi
      simp only[Qh]at hi
      cases h5:decide (y.fRec.fKind=6)with
      |true=>rw[h5]at hi;cases hi
      | false=>
       rw[h5]at hi
       unfold Qjb at hi
       simp only[Qh]at hi
       cases h6:decide ((sagA y.fRec st).fSteps.length=0)with
       |true=>rw[h6]at hi;cases hi
       |false=>
        rw[h6]at hi
        simp only[Qh]at hi
        cases h7:((goSt (sagA y.fRec st) y.fRec limit).2&&Qtz (sagA y.fRec st) y.fRec)with
        |true=>rw[h7]at hi;cases hi
        |false=>rw[h7]at hi;cases hi;decide
theorem vldA.some{k:Qr}{limit size:Int}{root:H32}{b:List Int}(hb:isB b)(hl:b.length<1000000000)(h:vldA k limit size root b)(hw:(getS b).1.fWhole=false):∃z,runI k limit (getS b).1.fPoint (getS b).1.fItems st0= .inr z∧Qbv k limit size root b=(0,z.2.1,QaP z):=by
 have hr:=h.run
 have he:=h.eq
 rw[QtK (Qtx hb hl h.get) hw]at hr he
 cases hi:runI k limit (getS b).1.fPoint (getS b).1.fItems st0 with
 |inl e=>rw[hi]at hr;exact absurd hr (QxW hi)
 |inr z=>rw[hi]at he;exact⟨z,rfl,he⟩
theorem Qzh{k:Qr}{limit:Int}{x:Bun}{v:VdT}(h:runW k limit x= .inr v):yK (Qaj x)=x.fPoint.fRoot∧∃b,runB k limit x.fItems bk0= .inr b∧v=(0,QxV b.fSagas.length,b.fSagas.map Qdq):=by
 unfold runW at h
 by_cases hr:yK (Qaj x)=x.fPoint.fRoot
 ·rw[QK hr]at h
  cases hb:runB k limit x.fItems bk0 with
  |inl e=>rw[hb]at h;cases h
  |inr b=>rw[hb]at h;cases h;exact⟨hr,b,rfl,rfl⟩
 ·rw[QE hr]at h;cases h
theorem QxX{k:Qr}{limit:Int}{x:Bun}{e:Int}(h:runW k limit x= .inl e):e≠0:=by
 unfold runW at h
 cases hr:decide (yK (Qaj x)=x.fPoint.fRoot)with
 |false=>rw[hr]at h;cases h;decide
 |true=>
  rw[hr]at h
  cases hb:runB k limit x.fItems bk0 with
  |inl e=>rw[hb]at h;cases h;exact QxU hb
  |inr b=>rw[hb]at h;cases h
theorem vldA.whole{k:Qr}{limit size:Int}{root:H32}{b:List Int}(hb:isB b)(hl:b.length<1000000000)(h:vldA k limit size root b)(hw:(getS b).1.fWhole=true):∃z,runB k limit (getS b).1.fItems bk0= .inr z∧Qbv k limit size root b=(0,QxV z.fSagas.length,z.fSagas.map Qdq)∧yK (Qaj (getS b).1)=root:=by
 have hr:=h.run
 have he:=h.eq
 rw[QqN (Qtx hb hl h.get) hw]at hr he
 cases hi:runW k limit (getS b).1 with
 |inl e=>rw[hi]at hr;exact absurd hr (QxX hi)
 |inr v=>
  rw[hi]at he
  obtain⟨h1,z,h2,h3⟩:=Qzh hi
  exact⟨z,h2,by rw[he,h3];rfl,by rw[h1,h.root]⟩
theorem QtL{x:Bun}(hv:vBun x):okR (JM x)∧(JM x).all Yy=true:=by
 refine⟨⟨by have:=hv.r.len;simp[JM];omega,fun y hy=> ?_⟩,List.all_eq_true.2 fun y hy=> ?_⟩
 ·obtain⟨w,hw,rfl⟩:=List.mem_map.1 hy
  exact hv.d w hw
 ·obtain⟨w,hw,rfl⟩:=List.mem_map.1 hy
  exact(hv.r.items w hw).1
theorem Qvq{K:Nat}{l m:List Int}(hK:l.length<K)(hl:l.length<1000000000000):qE.f K l m=some (decide (l=m)):=by
 unfold qE.f
 by_cases hlm:l.length=m.length
 ·rw[Qi (by simp[hlm])]
  have hz:(l.zip m).length=l.length:=by simp[hlm]
  have hL:=QbC (L:=Ym.l K l m) (fun(_:Unit) (i:Nat)=>(i:Int)) (l.zip m) (fun _ i x=>some (bif decide (x.1=x.2)then .inr ()else .inl (.inl false))) (fun _=>some (.inr ())) () (by rw[hz];exact hK)
   (fun k s=>by
    show Ym.b K l m (Ym.l K l m k) _=_
    unfold Ym.b
    rw[Qi (QE (by rw[hz];simp))])
   (fun k s i x hi hx=>by
    obtain⟨hx1,hx2⟩:=Qna hx
    show Ym.b K l m (Ym.l K l m k) _=_
    unfold Ym.b
    rw[Qj (QK (by omega)),Yq hx1,Yq hx2]
    simp only[Qb]
    rw[wrap_succ (by omega)]
    cases decide (x.1=x.2)<;>rfl)
  have hL:Ym.l K l m K 0=_:=hL
  obtain⟨r1,r2⟩:=Qdx (good:=fun(x:Int×Int)=>decide (x.1=x.2)) (v:=fun _=>false) (l:=l.zip m) (s:=()) (i:=0) (f:=fun _ i x=>some (bif decide (x.1=x.2)then .inr ()else .inl (.inl false))) (fun s i x _=>rfl)
  rw[Qfr hlm]at r1 r2
  cases hg:decide (l=m)with
  |true=>rw[hL,r1 hg];rfl
  |false=>
   obtain⟨j,_,_,hj⟩:=r2 hg
   rw[hL,hj];rfl
 ·rw[Qj (by simp;omega),QE (fun e=>hlm (by rw[e]))]
theorem Qoj{K:Nat}{l m:List Sp}(hK:l.length<K)(hl:l.length<1000000000000):qC.f K l m=some (decide (l=m)):=by
 unfold qC.f
 by_cases hlm:l.length=m.length
 ·rw [Qi (by simp[hlm])]
  have hz:(l.zip m).length=l.length:=by simp[hlm]
  have hL:=QbC (L:=Yl.l K l m) (fun(_:Unit) (i:Nat)=>(i:Int)) (l.zip m) (fun _ i x=>some (bif decide (x.1=x.2)then .inr ()else .inl (.inl false))) (fun _=>some (.inr ())) () (by rw[hz];exact hK)
   (fun k s=>by
    show Yl.b K l m (Yl.l K l m k) _=_
    unfold Yl.b
    rw[Qi (QE (by rw[hz];simp))])
   (fun k s i x hi hx=>by
    obtain⟨hx1,hx2⟩:=Qna hx
    show Yl.b K l m (Yl.l K l m k) _=_
    unfold Yl.b
    rw[Qj (QK (by omega)),Yq hx1,Yq hx2]
    try simp only[Qb]
    rw[wrap_succ (by omega)]
    have:(decide (x.1.fPart=x.2.fPart)&&(decide (x.1.fKind=x.2.fKind)&&true))=decide (x.1=x.2):=by
     rw[Bool.eq_iff_iff]
     obtain⟨⟨a,b⟩,⟨c,d⟩⟩:=x
     simp
    rw[this]
    cases decide (x.1=x.2)<;>rfl)
  have hL:Yl.l K l m K 0=_:=hL
  obtain⟨r1,r2⟩:=Qdx (good:=fun(x:Sp×Sp)=>decide (x.1=x.2)) (v:=fun _=>false) (l:=l.zip m) (s:=()) (i:=0) (f:=fun _ i x=>some (bif decide (x.1=x.2)then .inr ()else .inl (.inl false))) (fun s i x _=>rfl)
  rw[Qfr hlm]at r1 r2
  cases hg:decide (l=m)with
  |true=>rw[hL,r1 hg];rfl
  |false=>
   obtain⟨j,_,_,hj⟩:=r2 hg
   rw[hL,hj];rfl
 ·rw[Qj (by simp;omega),QE (fun e=>hlm (by rw[e]))]
theorem QtM{K:Nat}(hK:1000000000000≤K){a b:Rc}(ha:okD a):J6.f K a b=some (decide (a=b)):=by
 unfold J6.f jn
 rw[Qoj (by have:=ha.2.2;omega) (by have:=ha.2.2;omega),Qvq (by have:=ha.2.1;omega) (by have:=ha.2.1;omega)]
 try simp only[Qb]
 obtain⟨a1,a2,a3,a4,a5,a6,a7,a8,a9,a10,a11,a12,a13,a14,a15,a16⟩:=a
 obtain⟨b1,b2,b3,b4,b5,b6,b7,b8,b9,b10,b11,b12,b13,b14,b15,b16⟩:=b
 simp only
 have key:∀c d:Bool,(bif c then some d else some false)=some (c&&d):=fun c d=>by cases c<;>rfl
 simp only[key]
 congr 1
 rw[Bool.eq_iff_iff]
 simp only[Qd,decide_eq_true_eq,beq_iff_eq,Ql.mk.injEq]
def ovL(l:List Qq)(i:Nat):Bool:=
 match l[i]? with
 |some x=>decide (2≤x.fPhase)&&decide (x.fPhase≤4)
 |none=>false
def ovD(sg:List Int)(l:List Qq)(n:Int)(o:Bool)(j:Nat):Bool:=
 match(sg.take j).findIdx? (fun s=>decide (s=n))with
 |some i=>ovL l i
 |none=>o
theorem QqO{K:Nat}{l:List Int}{n:Int}(hs:l.length<1000):∀(m i k:Nat),i+m=l.length→m<k→Yw.l K l n k (i:Int)=some (match(l.drop i).findIdx? (fun s=>decide (s=n))with|some d=> .inl ((i+d:Nat):Int)|none=> .inr ()):=by
 intro m
 induction m with
 |zero=>
  intro i k hi hk
  obtain⟨k,rfl⟩:∃j,k=j+1:=⟨k-1,by omega⟩
  show Yw.b K l n (Yw.l K l n k) (i:Int)=_
  unfold Yw.b
  rw[Qi (by simp;omega),List.drop_eq_nil_of_le (by omega)]
  rfl
 | succ m ih=>
  intro i k hi hk
  obtain⟨k,rfl⟩:∃j,k=j+1:=⟨k-1,by omega⟩
  show Yw.b K l n (Yw.l K l n k) (i:Int)=_
  unfold Yw.b
  rw[Qj (by simp;omega),Yq (List.getElem?_eq_getElem (l:=l) (i:=i) (by omega)),wrap_succ (by omega)]
  simp only[Qb]
  rw[List.drop_eq_getElem_cons (by omega),List.findIdx?_cons]
  by_cases e:l[i]=n
  ·rw[Qj (by simp[e])]
   simp[e]
  ·rw[Qi (by simp;exact fun h=>e h.symm),ih (i+1) k (by omega) (by omega)]
   simp only[e,decide_false,Bool.false_eq_true,if_false]
   cases (l.drop (i+1)).findIdx? (fun s=>decide (s=n))with
   |none=>rfl
   |some d=>simp only[Option.map_some];congr 2;omega
theorem QxY{K:Nat}(hK:K=1000000000000){x:Jp}{n:Int}(hs:x.fSagas.length<1000):Zz.f K x n=some (ovD x.fSagas x.fLines n false x.fSagas.length):=by
 unfold Zz.f yB.f
 have h:=QqO (K:=K) (n:=n) hs x.fSagas.length 0 K (by omega) (by omega)
 rw[show((0:Nat):Int)=0 from rfl]at h
 rw[h]
 unfold ovD
 rw[List.take_length,List.drop_zero]
 cases x.fSagas.findIdx? (fun s=>decide (s=n))with
 |none=>rfl
 | some d=>
  simp only[Qb,jn,Nat.zero_add]
  rw[Qj (by simp)]
  by_cases e2:d<x.fLines.length
  ·rw[Qj (by simp;omega),Yq (List.getElem?_eq_getElem (l:=x.fLines) (i:=d) e2)]
   simp only[Qb]
   have e3:ovL x.fLines d=(decide (2≤x.fLines[d].fPhase)&&decide (x.fLines[d].fPhase≤4)):=by unfold ovL;rw[List.getElem?_eq_getElem e2]
   rw[e3]
   cases decide (2≤x.fLines[d].fPhase)<;>rfl
  ·rw[Qi (by simp;omega)]
   have e3:ovL x.fLines d=false:=by unfold ovL;rw[List.getElem?_eq_none (by omega)]
   rw[e3]
theorem Qfg{K:Nat}(hK:1000000000000≤K){x:Rc}(h:okB x):isB (QcC K x):=by
 have ho:=Qte h
 have h1:=(Jf.1 ho).1
 have h2:=(Jf.1 ho).2
 refine Jf.2 ⟨h1,?_⟩
 unfold Qcd
 by_cases hk:x.fKind=1
 ·rw[Qj (QK hk)]
  rw[hk]at h2
  unfold Zg at h2
  rw[if_pos rfl]at h2
  have h3:=Jf.1 h2
  exact Jf.2 ⟨h3.1,Jf.2 ⟨(Jf.1 h3.2).1,Qpd hK h⟩⟩
 ·rw[Qi (QE hk)];exact h2
theorem Qll{x:Rc}(h:Yy x=true):begS x=decide (x.fKind=1):=by
 unfold begS;rw[h];rfl
theorem Qvr{K:Nat}(hK:1000000000000≤K){x y:Rc}(hx:Yy x=true)(hy:Yy y=true)(bx:okB x)(by_:okB y)(h:QcC K x=QcC K y):redS K x=redS K y:=by
 have lx:=Xy (K:=K) hx
 have ly:=Xy (K:=K) hy
 have gx:Good ⟨QcC K x,0⟩:=⟨Qfg hK bx,by simp;omega⟩
 have gy:Good ⟨QcC K y,0⟩:=⟨Qfg hK by_,by simp;omega⟩
 have e1:=YD.ok x.fKind (Qcd K x) (QjE hx) gx
 have e2:=YD.ok y.fKind (Qcd K y) (QjE hy) gy
 have h':numS x.fKind.toNat++Qcd K x=numS y.fKind.toNat++Qcd K y:=h
 rw[h']at e1
 have e3:=e1.symm.trans e2
 simp only[Qe,Qk.mk.injEq,and_true]at e3
 obtain⟨hk,hb⟩:=e3
 have gbx:Good ⟨Qcd K x,0⟩:=Good.tail gx
 have gby:Good ⟨Qcd K y,0⟩:=Good.tail gy
 by_cases h1:x.fKind=1
 ·have h2:y.fKind=1:=by omega
  have ux:begS x=true:=by rw[Qll hx];exact QK h1
  have uy:begS y=true:=by rw[Qll hy];exact QK h2
  have sx:Qcd K x=numS x.fSaga.toNat++(QaN x.fSteps++Yh (comS K x)):=by unfold Qcd;rw[Qj (QK h1)];rfl
  have sy:Qcd K y=numS y.fSaga.toNat++(QaN y.fSteps++Yh (comS K y)):=by unfold Qcd;rw[Qj (QK h2)];rfl
  have spec:=YD.seq (fun _=>Qec.seq (fun _=>yz))
  have okOf:∀{z:Rc},Yy z=true→z.fKind=1→okB z→inN z.fSaga∧((z.fSteps.length:Int)≤6∧∀s∈z.fSteps,inN s.fPart∧inN s.fKind)∧isB (Yh (comS K z)):=fun hz k bz=>by
   have hd:=Qag hz
   obtain⟨b1,b2,b3⟩:=hd.beg k
   exact⟨hd.saga,⟨(J8.1 b1).2,fun s hs=>Qpa (List.all_eq_true.1 b2 s hs)⟩,Qpd hK bz⟩
  rw[sx]at gbx
  rw[sy]at gby
  have r1:=spec.ok (x.fSaga,x.fSteps,comS K x) [] (okOf hx h1 bx) (by rw[List.append_nil];exact gbx)
  have r2:=spec.ok (y.fSaga,y.fSteps,comS K y) [] (okOf hy h2 by_) (by rw[List.append_nil];exact gby)
  rw[List.append_nil]at r1 r2
  have hb':numS x.fSaga.toNat++(QaN x.fSteps++Yh (comS K x))=numS y.fSaga.toNat++(QaN y.fSteps++Yh (comS K y)):=by rw[←sx,←sy];exact hb
  simp only at r1 r2
  rw[hb']at r1
  have e3:=r1.symm.trans r2
  simp only[Qe,and_true]at e3
  rw[Qob ux,Qob uy,e3.1,e3.2.1,e3.2.2]
 ·have h2: ¬y.fKind=1:=by omega
  have ux:begS x=false:=by rw[Qll hx];exact QE h1
  have uy:begS y=false:=by rw[Qll hy];exact QE h2
  have sx:Qcd K x=Zg x.fKind x:=by unfold Qcd;rw[Qi (QE h1)]
  have sy:Qcd K y=Zg y.fKind y:=by unfold Qcd;rw[Qi (QE h2)]
  rw[sx]at gbx hb
  rw[sy]at gby hb
  have r1:=(QfW x.fKind).ok x [] (Qip hx bx) (by rw[List.append_nil];exact gbx)
  have r2:=(QfW y.fKind).ok y [] (Qip hy by_) (by rw[List.append_nil];exact gby)
  rw[List.append_nil]at r1 r2
  rw[hb,hk]at r1
  have e3:=r1.symm.trans r2
  simp only[Qe,and_true]at e3
  rw[Qlb ux,Qlb uy,e3]
def sumE(x:List Int):H32:=(shaQ.f 1000000000000 [x]).getD zH
theorem Qds{x:List Int}(h:x.length<1000000):shaQ.f 1000000000000 [x]=some (sumE x)∧byH (sumE x):=by
 obtain⟨r,hr,hb⟩:=Qdn (K:=1000000000000) (Nat.le_refl _) (x:= [x]) (by simp) (by simpa using h)
 have:sumE x=r:=by unfold sumE;rw[hr];rfl
 rw[this];exact⟨hr,hb⟩
theorem Qpq{x:List (List Int)}(hx:x.length<1000)(h:x.flatten.length<1000000):shaQ.f 1000000000000 x=shaQ.f 1000000000000 [x.flatten]:=by
 unfold shaQ.f
 rw[Qdo (Nat.le_refl _) (by omega) (by omega),Qdo (x:= [x.flatten]) (Nat.le_refl _) (by rw[List.flatten_cons,List.flatten_nil,List.append_nil];omega) (by simp)]
 simp only[List.flatten_cons,List.flatten_nil,List.append_nil]
def Qa8(a b:H32):List Int:=1::(Yh a++Yh b)
theorem Qdt(a b:H32):(Qa8 a b).length=65:=by simp[Qa8,QX]
theorem Qak(a b:H32):Qf2 a b=sumE (Qa8 a b):=by
 have h:=Qf3 a b
 have h2:jD.f 1000000000000 a b=some (sumE (Qa8 a b)):=by
  unfold jD.f
  refine Qz (Qlf a) (Qz (Qlf b) ?_)
  rw[Qpq (by simp) (by simp[QX])]
  exact Qz (Qds (x:=Qa8 a b) (by rw[Qdt];omega)).1 rfl
 rw[h]at h2
 exact Option.some.inj h2
def Qfh(b:List Int):H32:=sumE (0::b)
theorem Qhb{b:List Int}(h:b.length<900000):jR.f 1000000000000 b=some (Qfh b):=by
 unfold jR.f Qfh
 rw[Qpq (by simp) (by simp;omega),show([[0],b]:List (List Int)).flatten=0::b by simp]
 exact Qz (Qds (x:=0::b) (by simp;omega)).1 rfl
theorem QtN(a b:H32):Qbj.f 1000000000000 a b=some (Qa8 a b):=by
 unfold Qbj.f
 refine Qz (Qlf a) (Qz (Qlf b) ?_)
 rw[Qdo (Nat.le_refl _) (by simp[QX]) (by simp)]
 simp[Qa8]
def Qal:List H32→Nat→Nat→H32→Option (H32×List H32)
 | [],n,_,h=>if n<2 then some (h, [])else none
 | x::P,n,i,h=>if n<2 then some (h,x::P)else
   if i<splN n then(match Qal P (splN n) i h with|some (g,Q)=>some (Qf2 g x,Q)|none=>none)
   else(match Qal P (n-splN n) (i-splN n) h with|some (g,Q)=>some (Qf2 x g,Q)|none=>none)
theorem up_eq{W:List H32}(hW:W.length<1000000):∀(P:List H32) (a k n i:Nat) (leaf:H32),(W.take a).reverse=P→a≤W.length→1≤n→n≤401→i<n→a<k→
  Q9.r 1000000000000 k (i:Int) (n:Int) leaf (a:Int) W=some (match Qal P n i leaf with|none=> .inl 0|some z=> .inr (z.1,((z.2.length:Nat):Int))):=by
 intro P
 induction P with
 | nil=>
  intro a k n i leaf hP ha h1 hn hi hk
  obtain⟨k,rfl⟩:∃j,k=j+1:=⟨k-1,by omega⟩
  have a0:a=0:=by
   have:=congrArg List.length hP
   rw[List.length_reverse,List.length_take,List.length_nil]at this
   omega
  subst a0
  show Q9.b 1000000000000 (Q9.r 1000000000000 k) (i:Int) (n:Int) leaf 0 W=_
  unfold Q9.b Qal
  by_cases e:n=1
  ·subst e
   rw[Qj (by rfl),if_pos (by omega)];rfl
  ·rw[Qi (QE (by omega)),if_neg (by omega),bnd (QmM (by omega) hn)]
   rfl
 | cons x P ih=>
  intro a k n i leaf hP ha h1 hn hi hk
  obtain⟨k,rfl⟩:∃j,k=j+1:=⟨k-1,by omega⟩
  have hal:=congrArg List.length hP
  simp only[List.length_reverse,List.length_take,List.length_cons]at hal
  obtain⟨a,rfl⟩:∃j,a=j+1:=⟨a-1,by omega⟩
  have hlt:a<W.length:=by omega
  rw[List.take_add_one,List.getElem?_eq_getElem hlt,Option.toList,List.reverse_append,List.reverse_singleton]at hP
  obtain⟨hx,hP2⟩:=List.cons.inj (show W[a]::(W.take a).reverse=x::P from hP)
  have hPl:P.length=a:=by rw[←hP2];simp;omega
  show Q9.b 1000000000000 (Q9.r 1000000000000 k) (i:Int) (n:Int) leaf ((a+1:Nat):Int) W=_
  unfold Q9.b Qal
  by_cases e:n=1
  ·subst e
   rw[Qj (by rfl),if_pos (by omega)]
   simp[hPl]
  have hs:=Qei (n:=n) (by omega)
  rw[Qi (QE (by omega)),if_neg (by omega),bnd (QmM (by omega) hn)]
  unfold Zo.fs
  rw[Qi (QE (by omega))]
  have ew:IntKind.wrap .i64 (((a+1:Nat):Int)-1)=(a:Int):=by rw[wrap64 (by omega) (by omega)];omega
  rw[ew,bnd (Yq (List.getElem?_eq_getElem hlt)),hx]
  simp only[sm]
  by_cases hc:i<splN n
  ·rw[Qj (QK (by omega)),if_pos hc,ih a k (splN n) i leaf hP2 (by omega) (by omega) (by omega) hc (by omega)]
   cases Qal P (splN n) i leaf with
   |none=>rfl
   |some z=>simp only;rw[bnd (Qf3 _ _)]
  ·rw[Qi (QE (by omega)),if_neg hc]
   have e1:IntKind.wrap .i64 ((i:Int)-((splN n:Nat):Int))=((i-splN n:Nat):Int):=by rw[wrap64 (by omega) (by omega)];omega
   have e2:IntKind.wrap .i64 ((n:Int)-((splN n:Nat):Int))=((n-splN n:Nat):Int):=by rw[wrap64 (by omega) (by omega)];omega
   rw[e1,e2,ih a k (n-splN n) (i-splN n) leaf hP2 (by omega) (by omega) (by omega) (by omega) (by omega)]
   cases Qal P (n-splN n) (i-splN n) leaf with
   |none=>rfl
   |some z=>simp only;rw[bnd (Qf3 _ _)]
theorem Qlm{W:List H32}(hW:W.length<1000000){n i:Nat}(hi:i<n)(hn:n≤401)(leaf:H32):∃r,jT.f 1000000000000 leaf (i:Int) (n:Int) W=some r∧∀g,r=(g,true)↔Qal W.reverse n i leaf=some (g, []):=by
 unfold jT.f
 simp only[jn]
 rw[Qi (QE (by omega)),Qi (QE (by omega)),QE (show¬(1048576:Int)<(n:Int) by omega)]
 simp only[Qh]
 have h:=up_eq hW W.reverse W.length 1000000000000 n i leaf (by rw[List.take_length]) (Nat.le_refl _) (by omega) hn hi (by omega)
 have h:Q9.fs 1000000000000 (i:Int) (n:Int) leaf ((W.length:Nat):Int) W=_:=h
 unfold ZW.f Zp.fs
 rw[h]
 cases hc:Qal W.reverse n i leaf with
 |none=>exact⟨_,rfl,fun g=>⟨fun e=>(by cases e),fun e=>(by cases e)⟩⟩
 | some z=>
  obtain⟨g0,Q⟩:=z
  simp only[sm,Qb]
  by_cases hQ:Q= []
  ·subst hQ
   rw[show decide ((((([]:List H32).length:Nat):Int))=0)=true from rfl]
   exact⟨_,rfl,fun g=>⟨fun e=>(by cases e;rfl),fun e=>(by cases e;rfl)⟩⟩
  ·have:decide (((Q.length:Nat):Int)=0)=false:=QE (fun e=>hQ (List.eq_nil_of_length_eq_zero (by omega)))
   rw[this]
   exact⟨_,rfl,fun g=>⟨fun e=>(by cases e),fun e=>(by cases e;exact absurd rfl hQ)⟩⟩
theorem Qfi(a b:H32):byH (Qf2 a b):=by
 rw[Qak]
 exact(Qds (by have:=Qdt a b;omega)).2
theorem Qpr{l:List H32}(h:∀x∈l,byH x)(h0:0<l.length):byH (yK l):=by
 by_cases h2:2≤l.length
 ·rw[Qdr h2];exact Qfi _ _
 ·cases l with
  |nil=>simp at h0
  |cons x l=>
   have:l= []:=List.eq_nil_of_length_eq_zero (by rw[List.length_cons]at h2;omega)
   subst this
   rw[Qfe]
   exact h x List.mem_cons_self
theorem QqP:∀(m:Nat) (l:List H32) (i k:Nat),l.length≤m→l.length≤401→m<k→(∀x∈l,byH x)→∀x,l[i]?=some x→∃r,JS.r 1000000000000 k l (i:Int)=some (r,true)∧r.length<l.length∧Qal r.reverse l.length i x=some (yK l, [])∧∀x∈r,byH x:=by
 intro m
 induction m with
 |zero=>
  intro l i k hm _ _ _ x hx
  have:=(List.getElem?_eq_some_iff.1 hx).1;omega
 | succ m ih=>
  intro l i k hm h4 hk hby y hy
  have hi:=(List.getElem?_eq_some_iff.1 hy).1
  obtain⟨k,rfl⟩:∃j,k=j+1:=⟨k-1,by omega⟩
  show ∃r,JS.b 1000000000000 (JS.r 1000000000000 k) l (i:Int)=_∧_
  unfold JS.b
  try simp only[jn]
  rw[Qi (QE (show¬(i:Int)<0 by omega)),QE (show¬(l.length:Int)≤(i:Int) by omega)]
  simp only[Qh]
  by_cases h1:l.length=1
  ·rw[Qj (QK (by omega))]
   obtain⟨x,rfl⟩:∃x,l= [x]:=by
    cases l with
    |nil=>cases h1
    |cons x l=>exact⟨x,by simp at h1;rw[h1]⟩
   refine⟨[],rfl,by simp,?_,fun _ h=>by cases h⟩
   have:i=0:=by simp at hi;omega
   subst this
   cases hy
   rw[Qfe];rfl
  rw[Qi (QE (by omega))]
  have hs:=Qei (n:=l.length) (by omega)
  have ht:(l.take (splN l.length)).length=splN l.length:=by simp;omega
  have hdl:(l.drop (splN l.length)).length=l.length-splN l.length:=by simp
  rw[bnd (QmM (by omega) h4)]
  by_cases hc:i<splN l.length
  ·rw[Qj (QK (by omega)),bnd (Qaz (by omega))]
   obtain⟨r,hr,hrl,hr2,hr3⟩:=ih (l.take (splN l.length)) i k (by omega) (by omega) (by omega) (fun x hx=>hby x (List.mem_of_mem_take hx)) y (by rw[List.getElem?_take_of_lt hc];exact hy)
   rw[bnd hr,bnd (XV (by omega)),bnd (QtB (by omega)),bnd (YX (by simp only[List.length_singleton];omega))]
   refine⟨_,rfl,by simp;omega,?_,fun x hx=> ?_⟩
   rotate_left
   ·rcases List.mem_append.1 hx with hx|hx
    ·exact hr3 x hx
    ·rw[List.mem_singleton]at hx
     subst hx
     exact Qpr (fun x hx=>hby x (List.mem_of_mem_drop hx)) (by omega)
   rw[List.reverse_append,List.reverse_singleton]
   rw[ht]at hr2
   simp only[List.cons_append,List.nil_append,Qal]
   rw[if_neg (by omega),if_pos hc,hr2,Qdr (l:=l) (by omega)]
  ·have e:IntKind.wrap .i64 ((i:Int)-((splN l.length:Nat):Int))=((i-splN l.length:Nat):Int):=by rw[wrap64 (by omega) (by omega)];omega
   obtain⟨r,hr,hrl,hr2,hr3⟩:=ih (l.drop (splN l.length)) (i-splN l.length) k (by omega) (by omega) (by omega) (fun x hx=>hby x (List.mem_of_mem_drop hx)) y (by rw[List.getElem?_drop,show splN l.length+(i-splN l.length)=i by omega];exact hy)
   rw[Qi (QE (by omega)),bnd (XV (by omega)),e,bnd hr,bnd (Qaz (by omega)),bnd (QtB (by omega)),bnd (YX (by simp only[List.length_singleton];omega))]
   refine⟨_,rfl,by simp;omega,?_,fun x hx=> ?_⟩
   rotate_left
   ·rcases List.mem_append.1 hx with hx|hx
    ·exact hr3 x hx
    ·rw[List.mem_singleton]at hx
     subst hx
     exact Qpr (fun x hx=>hby x (List.mem_of_mem_take hx)) (by omega)
   rw[List.reverse_append,List.reverse_singleton]
   rw[hdl]at hr2
   simp only[List.cons_append,List.nil_append,Qal]
   rw[if_neg (by omega),if_neg hc,hr2,Qdr (l:=l) (by omega)]
def okU:List H32→Nat→Nat→Prop
 | [],n,_=>n=1
 |_::P,n,i=>2≤n∧(if i<splN n then okU P (splN n) i else okU P (n-splN n) (i-splN n))
def txU:List H32→Nat→Nat→List Int→List (List Int)×H32
 | [],_,_,b=>([0::b],Qfh b)
 | x::P,n,i,b=>if i<splN n then(Qa8 (txU P (splN n) i b).2 x::(txU P (splN n) i b).1,Qf2 (txU P (splN n) i b).2 x)
   else(Qa8 x (txU P (n-splN n) (i-splN n) b).2::(txU P (n-splN n) (i-splN n) b).1,Qf2 x (txU P (n-splN n) (i-splN n) b).2)
theorem Qps:∀{P:List H32} {n i:Nat} {b:List Int} {g:H32},1≤n→i<n→Qal P n i (Qfh b)=some (g, [])→okU P n i∧g=(txU P n i b).2:=by
 intro P
 induction P with
 |nil=>
  intro n i b g h1 hi h
  simp only[Qal]at h
  split at h
  ·cases h;exact⟨by show n=1;omega,rfl⟩
  ·cases h
 | cons x P ih=>
  intro n i b g h1 hi h
  simp only[Qal]at h
  split at h
  ·cases h
  ·rename_i h2
   have hs:=Qei (n:=n) (by omega)
   by_cases hc:i<splN n
   ·rw[if_pos hc]at h
    cases hz:Qal P (splN n) i (Qfh b)with
    |none=>rw[hz]at h;cases h
    |some z=>
     rw[hz]at h
     simp only[Qa,Qe]at h
     obtain⟨h3,h4⟩:=h
     obtain⟨z1,z2⟩:=z
     simp only at h3 h4
     subst h4
     obtain⟨h5,h6⟩:=ih (by omega) hc hz
     exact⟨⟨by omega,by rw[if_pos hc];exact h5⟩,by simp only[txU];rw[if_pos hc,←h3,←h6]⟩
   ·rw[if_neg hc]at h
    cases hz:Qal P (n-splN n) (i-splN n) (Qfh b)with
    |none=>rw[hz]at h;cases h
    |some z=>
     rw[hz]at h
     simp only[Qa,Qe]at h
     obtain⟨h3,h4⟩:=h
     obtain⟨z1,z2⟩:=z
     simp only at h3 h4
     subst h4
     obtain⟨h5,h6⟩:=ih (by omega) (by omega) hz
     exact⟨⟨by omega,by rw[if_neg hc];exact h5⟩,by simp only[txU];rw[if_neg hc,←h3,←h6]⟩
def sdU:List H32→Nat→Nat→List Bool
 | [],_,_=> []
 |_::P,n,i=>decide (i<splN n)::(if i<splN n then sdU P (splN n) i else sdU P (n-splN n) (i-splN n))
theorem QtO:∀(P:List H32) (n i:Nat),(sdU P n i).length=P.length
 | [],_,_=>rfl
 |_::P,n,i=>by
  simp only[sdU,List.length_cons]
  split<;>rw[QtO P]
theorem Qvs:∀(P:List H32) (n i k:Nat) (acc:List Bool),okU P n i→i<n→n≤401→P.length<k→acc.length+P.length<1000→Jy.l 1000000000000 k ((i:Int),(n:Int),acc)=some (acc++sdU P n i):=by
 intro P
 induction P with
 |nil=>
  intro n i k acc ho hi hn hk ha
  obtain⟨k,rfl⟩:∃j,k=j+1:=⟨k-1,by omega⟩
  have ho:n=1:=ho
  show Jy.b 1000000000000 (Jy.l 1000000000000 k) _=_
  unfold Jy.b
  rw[Qi (QE (by simp only;omega))]
  simp[sdU]
 | cons x P ih=>
  intro n i k acc ho hi hn hk ha
  obtain⟨k,rfl⟩:∃j,k=j+1:=⟨k-1,by omega⟩
  obtain⟨h2,ho⟩:=ho
  have hs:=Qei (n:=n) h2
  rw[List.length_cons]at hk ha
  show Jy.b 1000000000000 (Jy.l 1000000000000 k) _=_
  unfold Jy.b
  rw[Qj (QK (by simp only;omega)),bnd (QmM h2 hn)]
  simp only
  rw[bnd (YX (by simp only[List.length_singleton];omega))]
  simp only[sdU]
  by_cases hc:i<splN n
  ·rw[if_pos hc]at ho
   have hd:decide ((i:Int)<((splN n:Nat):Int))=true:=QK (by omega)
   rw[hd,if_pos hc,Qj rfl,QK hc,ih (splN n) i k _ ho hc (by omega) (by omega) (by simp;omega),List.append_assoc];rfl
  ·rw[if_neg hc]at ho
   have hd:decide ((i:Int)<((splN n:Nat):Int))=false:=QE (by omega)
   have e1:IntKind.wrap .i64 ((i:Int)-((splN n:Nat):Int))=((i-splN n:Nat):Int):=by rw[wrap64 (by omega) (by omega)];omega
   have e2:IntKind.wrap .i64 ((n:Int)-((splN n:Nat):Int))=((n-splN n:Nat):Int):=by rw[wrap64 (by omega) (by omega)];omega
   rw[hd,if_neg hc,Qi rfl,QE hc,e1,e2,ih (n-splN n) (i-splN n) k _ ho (by omega) (by omega) (by omega) (by simp;omega),List.append_assoc];rfl
def Qok(st:List (List Int)×H32)(z:Bool×H32):List (List Int)×H32:=
 (st.1++ [if z.1=true then Qa8 st.2 z.2 else Qa8 z.2 st.2],sumE (if z.1=true then Qa8 st.2 z.2 else Qa8 z.2 st.2))
theorem Qol(b:List Int):∀(P:List H32) (n i:Nat),((sdU P n i).zip P).foldr (fun z st=>Qok st z) ([0::b],Qfh b)=((txU P n i b).1.reverse,(txU P n i b).2)
 | [],_,_=>rfl
 | x::P,n,i=>by
  simp only[sdU,List.zip_cons_cons,List.foldr_cons,txU]
  by_cases hc:i<splN n
  ·rw[if_pos hc,if_pos hc,Qol b P,QK hc]
   simp[Qok,Qak]
  ·rw[if_neg hc,if_neg hc,Qol b P,QE hc]
   simp[Qok,Qak]
theorem Qvt{W:List H32}{R:List Bool}(hR:R.length<500):∀(Z:List (Bool×H32)) (j k:Nat) (out:List (List Int)) (h:H32),R.drop j=Z.map (·.1)→(W.drop j).take Z.length=Z.map (·.2)→j≤R.length→Z.length<k→out.length+Z.length<1000→
  Jl.l 1000000000000 W R k (out,(j:Int),h)=some (Z.foldl Qok (out,h)).1:=by
 intro Z
 induction Z with
 |nil=>
  intro j k out h h1 _ hj hk _
  obtain⟨k,rfl⟩:∃n,k=n+1:=⟨k-1,by omega⟩
  have:R.length≤j:=by simpa using h1
  show Jl.b 1000000000000 W R (Jl.l 1000000000000 W R k) _=_
  unfold Jl.b
  rw[Qi (QE (by simp only;omega))];rfl
 | cons z Z ih=>
  intro j k out h h1 h2 hj hk ho
  obtain⟨k,rfl⟩:∃n,k=n+1:=⟨k-1,by omega⟩
  rw[List.length_cons]at hk ho
  have hlt:j<R.length:=by
   have:=congrArg List.length h1
   simp at this;omega
  have hx:R[j]?=some z.1:=by
   have:=congrArg (fun(l:List Bool)=>l[0]?) h1
   simpa using this
  have hy:W[j]?=some z.2:=by
   have:=congrArg (fun(l:List H32)=>l[0]?) h2
   simpa using this
  have hd1:R.drop (j+1)=Z.map (·.1):=by rw[←List.drop_drop,h1];rfl
  have hd2:(W.drop (j+1)).take Z.length=Z.map (·.2):=by
   have h3:=congrArg (List.drop 1) h2
   rw[List.length_cons,List.drop_take,List.drop_drop]at h3
   simpa using h3
  show Jl.b 1000000000000 W R (Jl.l 1000000000000 W R k) _=_
  unfold Jl.b
  rw[Qj (QK (by simp only;omega))]
  simp only[jn]
  rw[bnd (Yq hx),bnd (Yq hy),bnd (QtN _ _)]
  have main:∀t:List Int,t.length=65→t=(if z.1=true then Qa8 h z.2 else Qa8 z.2 h)→((catI 24 out [t]).bind fun l1=>(shaQ.f 1000000000000 [t]).bind fun r3=>Jl.l 1000000000000 W R k (l1,IntKind.wrap .i64 ((j:Int)+1),r3))=some ((z::Z).foldl Qok (out,h)).1:=fun t ht e=>by
   rw[bnd (YX (by simp only[List.length_singleton];omega)),bnd (Qds (by omega)).1,wrap_succ (by omega),ih (j+1) k _ _ hd1 hd2 (by omega) (by omega) (by simp;omega),List.foldl_cons]
   unfold Qok
   rw[←e]
  cases hz:z.1 with
  |true=>
   simp only[Qg]
   rw[bnd (Yq hy),bnd (QtN _ _)]
   exact main _ (Qdt _ _) (by rw[hz];rfl)
  |false=>
   simp only[Qh]
   exact main _ (Qdt _ _) (by rw[hz];rfl)
end Go.Proofs.YtomndohdnfebgaaGreatDoor
