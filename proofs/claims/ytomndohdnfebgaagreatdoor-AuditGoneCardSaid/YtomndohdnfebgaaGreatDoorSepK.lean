/-
 The arguments of a row as data; the row's end.
-/
import Derived.Test.YtomndohdnfebgaaGreatDoorPureV
import Derived.Test.YtomndohdnfebgaaGreatDoorSepQ
import Derived.ProofKit
import Derived.Deep.Slices
import Derived.OpenShut
import Derived.MakeChecks
set_option linter.unusedVariables false
set_option linter.unusedSimpArgs false
namespace Go.Proofs.YtomndohdnfebgaaGreatDoor
open Go Go.Sep
theorem QrM{K:Nat}(hK:1000000000000≤K){r:Rd}(hr:Good r)(i:Int):Qad.f K i r=some (QrI r):=by
 unfold Qad.f
 try simp only[jn]
 have g1:=YD.good r hr
 have g2:=Qhq.good _ g1
 refine QD (ZK hK hr) ?_
 refine QD (QrD hK g1) ?_
 try simp only[Qb]
 have hp:=QrL hK g2
 rw[ZK hK g2]at hp⊢
 simp only[Qb]at hp⊢
 rw[hp]
 rfl
theorem Qpg{K:Nat}(hK:1000000000000≤K){r:Rd}(hr:Good r)(i:Nat):Qac.f K (i:Int) r=some (QiF i r):=by
 unfold Qac.f
 refine QD (QrD hK hr) ?_
 rfl
theorem Qlv{K:Nat}(hK:1000000000000≤K){N:Nat}(hN:N<2147483648){r:Rd}(hr:Good r):QR.l K (N:Int) K ([],0,r)=some (Xz (fun _=>QrI) N 0 r):=by
 have:=Qcy (L:=QR.l K (N:Int)) (one:=fun _=>QrI) (N:=N) (by omega) (fun _ r hr=>QiE.good r hr)
  (fun k out r'=>by
   show QR.b K (N:Int) (QR.l K (N:Int) k) _=_
   unfold QR.b
   rw[Qi (QG (by simp))])
  (fun k out i r' hi hb=>by
   show QR.b K (N:Int) (QR.l K (N:Int) k) _=_
   unfold QR.b
   rw[Qj (QT (by simp only;omega)),XV]
   try simp only[Qb]
   rw[Qj (by simp[hb])])
  (fun k out i r' hi hb hg ho=>by
   show QR.b K (N:Int) (QR.l K (N:Int) k) _=_
   unfold QR.b
   rw[Qj (QT (by simp only;omega)),XV]
   try simp only[Qb]
   rw[Qi (by simp[hb]),QrM hK hg]
   try simp only[Qb]
   rw[YQ (by simp;omega)]
   try simp only[Qb]
   rw[wrap_succ (by omega)])
  N 0 [] r K (by omega) (by omega) hr (by simp)
 simpa using this
theorem QiG{K:Nat}(hK:1000000000000≤K){N:Nat}(hN:N<2147483648){r:Rd}(hr:Good r):QX.l K (N:Int) K ([],0,r)=some (Xz QiF N 0 r):=by
 have:=Qcy (L:=QX.l K (N:Int)) (one:=QiF) (N:=N) (by omega) (fun i r hr=>(Qhs i).good r hr)
  (fun k out r'=>by
   show QX.b K (N:Int) (QX.l K (N:Int) k) _=_
   unfold QX.b
   rw[Qi (QG (by simp))])
  (fun k out i r' hi hb=>by
   show QX.b K (N:Int) (QX.l K (N:Int) k) _=_
   unfold QX.b
   rw[Qj (QT (by simp only;omega)),XV]
   try simp only[Qb]
   rw[Qj (by simp[hb])])
  (fun k out i r' hi hb hg ho=>by
   show QX.b K (N:Int) (QX.l K (N:Int) k) _=_
   unfold QX.b
   rw[Qj (QT (by simp only;omega)),XV]
   try simp only[Qb]
   rw[Qi (by simp[hb]),Qpg hK hg]
   try simp only[Qb]
   rw[YQ (by simp;omega)]
   try simp only[Qb]
   rw[wrap_succ (by omega)])
  N 0 [] r K (by omega) (by omega) hr (by simp)
 simpa using this
def endS(t:Bun×Rd):Bun×Int:=
 let e:=if t.2.fBad≠0 then t.2.fBad else if t.2.fB= []then 0 else 2
 if e≠0 then(zBun,e)else if XQ t.1 then(t.1,0)else(zBun,2)
def getS(b:List Int):Bun×Int:=if b.take 4=mark then endS (bunR ⟨b.drop 4,0⟩)else(zBun,2)
theorem QiH{x:Rc}(h:Yx x=true)(hb:okB x):okD x:=by
 have hd:=QaX h
 have hk:=hd.kept
 by_cases k:x.fKind=1
 ·obtain⟨b1,_,b3⟩:=hd.beg k
  have b1:=qm.1 b1
  exact⟨hb.data,by omega,by omega⟩
 ·have e:x.fSteps= []:=by
   rw[hk];unfold QeQ
   rw[if_neg k]
   repeat' split
   all_goals rfl
  have e2:x.fData= []:=by
   rw[hk];unfold QeQ
   rw[if_neg k]
   repeat' split
   all_goals rfl
  exact⟨hb.data,by rw[e2];simp,by rw[e];simp⟩
theorem QjW{x:Bun}(h:QjV x):Qwc x:=by
 have hi:=h.items
 have hs:=h.size
 have h1:=h.sigs.1
 unfold Qal at hi
 cases hw:x.fWhole with
 |true=>
  rw[hw]at hi
  simp only[Qg]at hi
  refine⟨by omega,by omega,fun y hy=> ?_⟩
  obtain⟨j,hj⟩:=List.getElem?_of_mem hy
  have:=hi.2.2 j y hj
  refine⟨QiH this.1.1 this.1.2,?_⟩
  rw[←this.2];simp
 |false=>
  rw[hw]at hi
  simp only[Qh]at hi
  refine⟨by omega,by omega,fun y hy=> ?_⟩
  obtain⟨_,h2,h3,_⟩:=hi.2 y hy
  exact⟨QiH h2.1 h2.2,by omega⟩
theorem Qwe{K:Nat}(r:Rd):Y6.f K r=some (if r.fBad≠0 then r.fBad else if r.fB= []then 0 else 2):=by
 obtain⟨b,e⟩:=r
 by_cases h:e=0
 ·subst h
  cases b with
  |nil=>rfl
  |cons c l=>
   unfold Y6.f QF.f
   try simp only[Qb]
   rw[Qi (by simp),Qj (by simp)]
   simp
 ·rw[Qrq h];simp[h]
theorem QxG{K:Nat}{b:List Int}(hb:isB b)(hl:b.length<1000000000):bytes_CutPrefix.f K b mark=some (if b.take 4=mark then(b.drop 4,true)else(b,false)):=by
 unfold bytes_CutPrefix.f bytes_HasPrefix.f
 have hm:mark.length=4:=rfl
 have hmB:isB mark:=by unfold isB mark;decide
 by_cases h4:4≤b.length
 ·rw[Qj (QT (by rw[hm];omega)),hm,QbD h4]
  try simp only[Qb]
  rw[Qiz (fun x hx=>hb x (List.mem_of_mem_take hx)) hmB]
  try simp only[Qb]
  by_cases he:b.take 4=mark
  ·rw[Qi (by simp[he]),ZZ h4]
   simp[he]
  ·rw[Qj (by simp[he])]
   simp[he]
 ·rw[Qi (QG (by rw[hm];omega))]
  have he: ¬b.take 4=mark:=fun e=>by
   have:=congrArg List.length e
   rw[hm]at this
   simp at this;omega
  simp[he]
theorem QrN{K:Nat}(hK:1000000000000≤K){x:Bun}{r:Rd}(h:r.fBad=0→QjV x):
  ((Y6.f K r).bind fun(e:Int)=>(bif (!decide (e=(0:Int)))then(some (zBun,e))else((JB.f K x).bind fun(q:Bool)=>(bif (!q)then(some (zBun,(2:Int)))else(some (x,(0:Int)))))))=some (endS (x,r)):=by
 rw[Qwe]
 try simp only[Qb]
 unfold endS
 simp only
 generalize he:(if r.fBad≠0 then r.fBad else if r.fB= []then 0 else 2)=e
 by_cases h0:e=0
 ·subst h0
  have hb:r.fBad=0:=by
   by_cases hb:r.fBad=0
   ·exact hb
   ·rw[if_pos hb]at he;exact he
  rw[Qi (by simp),Qlm hK (QjW (h hb))]
  try simp only[Qb]
  cases XQ x<;>simp
 ·rw[Qj (by simp[h0]),if_pos h0]
theorem Qph{K:Nat}(hK:1000000000000≤K){N:Nat}(hN:N<2147483648){r:Rd}(hr:Good r)(w:Bool):
  (bif w then Jr.f K (N:Int) 400 r else(Qy.f K r).bind (fun t=>Y9.f K t.1 (N:Int) t.2))=some (Qde w (N:Int) r):=by
 cases w with
 | true=>
  simp only[Qg]
  unfold Jr.f Qde
  simp only[jn,Qg,Int.toNat_natCast]
  by_cases h6:(400:Int)<N
  ·rw[Qj (QT h6),Qai (by omega)]
   try simp only[Qb]
   rw[QiG hK hN (qO hr)]
   simp[h6]
  ·rw[Qi (QG h6),QiG hK hN hr]
   simp[h6]
 | false=>
  simp only[Qh]
  have hg:=YD.good r hr
  rw[ZK hK hr]
  obtain⟨M,hM,hM2⟩:=Qf1 hr
  unfold Y9.f Qde cntR mapR seqR capR
  simp only[Qb,jn,hM,Int.toNat_natCast,Qh]
  by_cases h6:(N:Int)<M
  ·rw[Qj (QT h6),Qai (by omega)]
   try simp only[Qb]
   rw[Qlv hK hM2 (qO hg)]
   simp[h6]
  ·rw[Qi (QG h6),Qlv hK hM2 hg]
   simp[h6]
theorem QuX{K:Nat}(hK:1000000000000≤K){b:List Int}(hb:isB b)(hl:b.length<1000000000):Xr.f K b=some (getS b):=by
 unfold Xr.f getS
 refine QD (QxG hb hl) ?_
 by_cases hm:b.take 4=mark
 ·rw [if_pos hm,if_pos hm]
  simp only[Bool.not_true,Qh]
  have hg:Good ⟨b.drop 4,0⟩:=Good.drop (b:=b) (e:=0) ⟨hb,hl⟩ 4
  have hl2:(b.drop 4).length<1000000000000:=by have:=hg.2;simp only at this;omega
  refine QD (Qv6 hl2) ?_
  have hs:=Qht.back ⟨b.drop 4,0⟩ hg
  generalize (⟨b.drop 4,0⟩:Rd)=r at hg hs
  obtain⟨w,r1,e1,q1,g1⟩:=QeS (K:=K) hg
  refine QD q1 ?_
  try simp only[Qb]
  obtain⟨N,hN,hN2⟩:=Qf1 g1
  obtain⟨n,r2,e2,q2,g2⟩:=jE hK g1
  have hn:n=(N:Int):=by rw[e2]at hN;exact hN
  subst hn
  refine QD q2 ?_
  try simp only[jn,Qb]
  obtain⟨r3,e3,g3⟩:∃r3,(capR 400 4 r1)=((N:Int),r3)∧Good r3:=by
   refine⟨(capR 400 4 r1).2,?_,(Qhi (by omega) (by omega)).good _ g1⟩
   simp only[capR,e2]
  have key:∀r3,capR 400 4 r1=((N:Int),r3)→Good r3→
    ((Yi.f K r3).bind fun(r376:(H32×Rd))=>(Qy.f K r376.2).bind fun(r409:(Int×Rd))=>(Jv.f K r409.1 4 r409.2).bind fun(r417:(List Sg×Rd))=>
     (bif w then(Jr.f K (N:Int) 400 r417.2).bind fun(r538:(List It×Rd))=>((Y6.f K r538.2).bind fun(e:Int)=>(bif (!decide (e=(0:Int)))then(some (zBun,e))else((JB.f K ⟨w,⟨(N:Int),r376.1,r417.1⟩,r538.1⟩).bind fun(q:Bool)=>(bif (!q)then(some (zBun,(2:Int)))else(some ((⟨w,⟨(N:Int),r376.1,r417.1⟩,r538.1⟩:Bun),(0:Int)))))))
      else(Qy.f K r417.2).bind fun(r572:(Int×Rd))=>(Y9.f K r572.1 (N:Int) r572.2).bind fun(r538:(List It×Rd))=>((Y6.f K r538.2).bind fun(e:Int)=>(bif (!decide (e=(0:Int)))then(some (zBun,e))else((JB.f K ⟨w,⟨(N:Int),r376.1,r417.1⟩,r538.1⟩).bind fun(q:Bool)=>(bif (!q)then(some (zBun,(2:Int)))else(some ((⟨w,⟨(N:Int),r376.1,r417.1⟩,r538.1⟩:Bun),(0:Int)))))))))
    =some (endS (bunR r)):=by
   intro r3 e3 g3
   obtain⟨h,r4,e4,q4,g4⟩:=QjT (K:=K) g3
   refine QD q4 ?_
   simp only
   have hsig:=QrK hK g4
   have g5:=QiD.good _ g4
   obtain⟨sg,r5,e5⟩:∃sg r5,QrH r4=(sg,r5):=⟨_,_,rfl⟩
   rw[e5]at hsig g5
   replace g5:Good r5:=g5
   obtain⟨m,r4',e4',q4',g4'⟩:=jE hK g4
   rw[q4']at hsig
   simp only[Qb]at hsig
   refine QD q4' ?_
   simp only
   refine QD hsig ?_
   simp only
   have hit:=Qph hK hN2 g5 w
   obtain⟨l,r6,e6⟩:∃l r6,Qde w (N:Int) r5=(l,r6):=⟨_,_,rfl⟩
   rw[e6]at hit
   have hB:bunR r=(⟨w,⟨(N:Int),h,sg⟩,l⟩,r6):=by
    have hc:capN (N:Int)=(N:Int):=by simp only[capN];rw[if_pos (by omega)]
    simp only[bunR,mapR,seqR,e1,e3,e4,e5,hc,e6,bunE]
   rw[hB]at hs⊢
   have hs:r6.fBad=0→QjV ⟨w,⟨(N:Int),h,sg⟩,l⟩:=fun h0=>(hs h0).2.2
   cases w with
   |true=>
    simp only[Qg]at hit⊢
    refine QD hit ?_
    exact QrN hK hs
   |false=>
    simp only[Qh]at hit⊢
    obtain⟨m2,r7,e7,q7,g7⟩:=jE hK g5
    rw[q7]at hit
    simp only[Qb]at hit
    refine QD q7 ?_
    simp only
    refine QD hit ?_
    exact QrN hK hs
  by_cases h4:(400:Int)<(N:Int)
  ·simp only[h4,decide_true,Qg]
   refine QD (Qai (by omega) r2) ?_
   exact key _ (by simp only[capR,e2,h4,if_true]) (qO g2)
  ·simp only[h4,decide_false,Qh]
   exact key _ (by simp only[capR,e2,h4,if_false]) g2
 ·rw[if_neg hm,if_neg hm]
  rfl
end Go.Proofs.YtomndohdnfebgaaGreatDoor
namespace Go.Sep
open Go.ChangeShapes Go.WideShapes Go.ChangeAt Go.RowKit Go.Deep
def Qig(w:World):Snap:=fun b=>w.heap[b]?
def Qdp{α:Type}(K:Kd α)(P:Program)(t:TypeId)(ok:α→Prop):Prop:=
 ∀(H:Type) (enc:TypeId×Value→H) (w:World) (fuel:Nat) (cs:List Value) (x:DataW H×List MemPlace),
  DataW.trod enc P w 0 (fun _=>true) true fuel t cs=some x→∃y,K.r (Qig w) y cs∧ok y
def inR(k:IntKind)(n:Int):Prop:=k.min≤n∧n≤k.max
theorem QxH{x:Int}(h:inR .u8 x):0≤x∧x<256:=by
 unfold inR at h
 simp[IntKind.min,IntKind.max,IntKind.signed,IntKind.bits]at h
 omega
theorem QrO{k:IntKind}{n:Int}:(Lit.int k n).wf=true↔inR k n:=by simp[Lit.wf,inR]
section
variable {α β:Type}{K:Kd α}{M:Kd β}{P:Program}{ok:α→Prop}{ok':β→Prop}
theorem Qea{t:TypeId}{k:IntKind}(ht:P.underlying t=some (.int k)):Qdp (YJ k) P t (inR k):=by
 intro H enc w fuel cs x h
 obtain⟨n,rfl,_,hw⟩:=DataW.trod_int ht h
 exact⟨n,rfl,QrO.1 hw⟩
theorem Qwf{D:Snap}:∀{l:List α} {cs c:List Value} {y:α},RL K D l cs→K.r D y c→RL K D (l++ [y]) (cs++c):=by
 intro l
 induction l with
 |nil=>intro cs c y h hy;cases h;exact⟨c, [],by simp,hy,rfl⟩
 |cons x l ih=>
  rintro cs c y ⟨c1,c2,rfl,h1,h2⟩ hy
  exact⟨c1,c2++c,by simp,h1,ih h2 hy⟩
theorem QbC{t e:TypeId}(ht:P.underlying t=some (.slice e))(hn:P.cellsOf e=K.n)(he:Qdp K P e ok):Qdp (qc K) P t (fun l=>l.length≤maxLen∧∀y∈l,ok y):=by
 intro H enc w fuel cs x h
 rcases open_slice ht h with⟨rfl,_⟩|⟨a,len,cap,m,n,Dt,Pl,rfl,_,hlc,hcm,hm,_,hx⟩
 ·exact⟨[],⟨none,0,rfl,Sl.nil _ _⟩,by simp,by simp⟩
 have hlm:len≤m:=by simp at hm;omega
 have key:∀k,k≤len→∃(l:List α) (cs:List Value),l.length=k∧RL K (Qig w) l cs∧(∀y∈l,ok y)∧∀j u,cs[j]?=some u→w.cell? (a.add j)=some u:=by
  intro k
  induction k with
  |zero=>intro _;exact⟨[], [],rfl,rfl,by simp,by simp⟩
  | succ k ih=>
   intro hk
   obtain⟨l,cs,h1,h2,h3,h4⟩:=ih (by omega)
   obtain⟨c,hc1,hc2⟩:=hx k (by omega)
   obtain⟨y,hy,hyo⟩:=he H enc w n c _ hc2
   obtain⟨_,hcl,hcc⟩:=World.cells?_some hc1
   refine⟨l++ [y],cs++c,by simp[h1],Qwf h2 hy,?_,?_⟩
   ·intro z hz
    rcases List.mem_append.1 hz with hz|hz
    ·exact h3 z hz
    ·simp at hz;subst hz;exact hyo
   ·intro j u hj
    have hcsl:cs.length=k*K.n:=by rw[h2.len,h1]
    by_cases hjc:j<cs.length
    ·rw[List.getElem?_append_left hjc]at hj;exact h4 j u hj
    ·rw[List.getElem?_append_right (by omega)]at hj
     have hlt:=(List.getElem?_eq_some_iff.1 hj).1
     have:=hcc (j-cs.length) (by omega)
     rw[hj,hn]at this
     rw[←this]
     congr 1
     rw[show(a.add (k*K.n)).add (j-cs.length)=a.add (k*K.n+(j-cs.length))from ?_]
     ·congr 1;omega
     ·unfold Addr.add
      by_cases hi:k*K.n=0<;>by_cases hj:j-cs.length=0<;>simp[hi,hj,Nat.add_assoc]
 obtain⟨l,cs,h1,h2,h3,h4⟩:=key len (Nat.le_refl _)
 refine⟨l,⟨some a,cap,by rw[h1],by omega,hcm,cs,h2,?_⟩,by omega,h3⟩
 cases hcs:cs with
 |nil=>exact .inl rfl
 | cons u us=>
  right
  have h0:=h4 0 u (by simp[hcs])
  have e0:a.add 0=a:=by simp[Addr.add]
  rw[e0]at h0
  obtain⟨b,off,spot⟩:=a
  unfold World.cell? at h0
  split at h0
  ·rename_i C T fr hb
   cases spot with
   |some z=>simp at h0
   |none=>
    refine⟨b,off,C,T,fr,rfl,hb,fun j v hv=> ?_⟩
    have hj:=h4 j v (by rw[hcs];exact hv)
    have ej:(⟨b,off,none⟩:Addr).add j=⟨b,off+j,none⟩:=by unfold Addr.add;split<;>simp_all
    rw[ej]at hj
    unfold World.cell? at hj
    have hb':w.heap[b]?=some (.cells C T fr):=hb
    simpa[hb'] using hj
  ·cases h0
theorem Qeb{t e:TypeId}{k:IntKind}{N:Nat}(ht:P.underlying t=some (.array N e))(he:P.underlying e=some (.int k))(hc:P.cellsOf e=1)(hct:P.cellsOf t=N):Qdp (Zh k N) P t (fun v=>∀i,i<N→inR k (vget v i)):=by
 intro H enc w fuel cs x h
 obtain⟨xs,m,_,_,hl,hxs,hx⟩:=DataW.trod_array ht h
 rw[hct]at hl
 have each:∀i,i<N→∃n,cs[i]?=some (.int k n)∧inR k n:=by
  intro i hi
  have h1:=hx i hi
  rw[List.getElem?_eq_getElem (by omega)]at h1
  rw[hc,Nat.mul_one]at h1
  obtain⟨n,hn,_,hw⟩:=DataW.trod_int he h1
  refine⟨n,?_,QrO.1 hw⟩
  have:=congrArg (fun(l:List Value)=>l[0]?) hn
  simpa using this
 let f:Nat→Int:=fun i=>match cs[i]? with|some (.int _ n)=>n|_=>0
 have hf:∀i,i<N→vget (Vector.ofFn (fun(j:Fin N)=>f j)) i=f i:=by intro i hi;simp[vget,hi]
 refine⟨Vector.ofFn (fun(j:Fin N)=>f j),?_,?_⟩
 ·apply List.ext_getElem?
  intro i
  by_cases hi:i<N
  ·obtain⟨n,hn,_⟩:=each i hi
   simp[Ya,hi,hf i hi,f,hn]
  ·simp[Ya,hi];omega
 ·intro i hi
  obtain⟨n,hn,hr⟩:=each i hi
  rw[hf i hi]
  simpa[f,hn] using hr
def Qfk{α:Type}(K:Kd α)(P:Program)(fs:List Field)(off:Nat)(ok:α→Prop):Prop:=
 ∀(H:Type) (enc:TypeId×Value→H) (w:World) (fuel:Nat) (cs:List Value),cs.length=off+K.n→
  (∀f∈fs,∃x,DataW.trod enc P w 0 (fun _=>true) true fuel f.type ((cs.drop f.offset).take (P.cellsOf f.type))=some x)→∃y,K.r (Qig w) y (cs.drop off)∧ok y
theorem Qpi{f:Field}{off:Nat}(h:Qdp K P f.type ok)(ho:f.offset=off)(hc:P.cellsOf f.type=K.n):Qfk K P [f] off ok:=by
 intro H enc w fuel cs hl hx
 obtain⟨x,hx⟩:=hx f (by simp)
 rw[ho,hc,List.take_of_length_le (by simp;omega)]at hx
 exact h H enc w fuel _ x hx
theorem QmX{f:Field}{fs:List Field}{off off':Nat}(h:Qdp K P f.type ok)(ho:f.offset=off)(hc:P.cellsOf f.type=K.n)(ho':off+K.n=off')(hs:Qfk M P fs off' ok'):Qfk (YF K M) P (f::fs) off (fun y=>ok y.1∧ok' y.2):=by
 intro H enc w fuel cs hl hx
 obtain⟨x,hx0⟩:=hx f (by simp)
 rw[ho,hc]at hx0
 obtain⟨y1,h1,o1⟩:=h H enc w fuel _ x hx0
 obtain⟨y2,h2,o2⟩:=hs H enc w fuel cs (by rw[hl];show off+(K.n+M.n)=_;omega) (fun g hg=>hx g (by simp[hg]))
 refine⟨(y1,y2),⟨_,_,?_,h1,h2⟩,o1,o2⟩
 rw[←ho',←List.drop_drop,List.take_append_drop]
theorem Qlw{t:TypeId}{fs:List Field}{f:β→α}(inv:α→β)(hi:∀y,f (inv y)=y)(ht:P.underlying t=some (.struct fs.toArray))(hc:P.cellsOf t=K.n)(h:Qfk K P fs 0 ok)(hok:∀y,ok y→ok' (inv y)):Qdp (QaC f K) P t ok':=by
 intro H enc w fuel cs x hx
 obtain⟨xs,n,_,_,hl,hlen,hf⟩:=DataW.trod_struct ht hx
 obtain⟨y,hy,ho⟩:=h H enc w n cs (by rw[hl,hc];omega) (fun g hg=>by
  obtain⟨i,hi⟩:=List.getElem?_of_mem hg
  have:=hf i g (by simpa using hi)
  have hlt:i<xs.length:=by rw[hlen];simpa using (List.getElem?_eq_some_iff.1 hi).1
  rw[List.getElem?_eq_getElem hlt]at this
  exact⟨_,this⟩)
 exact⟨inv y,by rw[List.drop_zero]at hy;show K.r _ (f (inv y)) cs;rw[hi];exact hy,hok y ho⟩
def fieldsOf(P:Program)(t:TypeId):List Field:=match P.underlying t with|some (.struct fs)=>fs.toList|_=> []
def QjX(P:Program)(t:TypeId)(j:Nat)(ft:TypeId)(off:Nat):Bool:=match(fieldsOf P t)[j]? with|some f=>Nat.beq f.type ft&&Nat.beq f.offset off|none=>false
def QjY(P:Program)(t:TypeId)(n:Nat):Bool:=match P.underlying t with|some (.struct fs)=>Nat.beq fs.toList.length n|_=>false
theorem Qfl{t ft:TypeId}{j off:Nat}(h:QjX P t j ft off=true):∃f,(fieldsOf P t)[j]?=some f∧f.type=ft∧f.offset=off:=by
 unfold QjX at h
 split at h
 ·rename_i f hf
  simp only[Qd]at h
  exact⟨f,hf,Qc h.1,Qc h.2⟩
 ·cases h
theorem Qfm{t:TypeId}{n:Nat}(h:QjY P t n=true):P.underlying t=some (.struct (fieldsOf P t).toArray)∧(fieldsOf P t).length=n:=by
 unfold QjY at h
 unfold fieldsOf
 split at h
 ·rename_i fs hf
  rw[hf]
  exact⟨by simp,Qc h⟩
 ·cases h
theorem drop_at{l:List Field}{j:Nat}{f:Field}(h:l[j]?=some f):l.drop j=f::l.drop (j+1):=by
 obtain⟨hlt,he⟩:=List.getElem?_eq_some_iff.1 h
 rw[←he,List.getElem_cons_drop]
theorem ZN{t ft:TypeId}{off off':Nat}(j:Nat)(hf:QjX P t j ft off=true)(h:Qdp K P ft ok)(hc:P.cellsOf ft=K.n)(ho':off+K.n=off')(hs:Qfk M P ((fieldsOf P t).drop (j+1)) off' ok'):Qfk (YF K M) P ((fieldsOf P t).drop j) off (fun y=>ok y.1∧ok' y.2):=by
 obtain⟨f,h1,rfl,rfl⟩:=Qfl hf
 rw[drop_at h1]
 exact QmX h rfl hc ho' hs
theorem Qdq{t ft:TypeId}{off n:Nat}(j:Nat)(hn:QjY P t (j+1)=true)(hf:QjX P t j ft off=true)(h:Qdp K P ft ok)(hc:P.cellsOf ft=K.n):Qfk K P ((fieldsOf P t).drop j) off ok:=by
 obtain⟨f,h1,rfl,rfl⟩:=Qfl hf
 obtain⟨_,h2⟩:=Qfm hn
 rw[drop_at h1,List.drop_of_length_le (by omega)]
 exact Qpi h rfl hc
theorem QeV{t:TypeId}{n:Nat}{f:β→α}(inv:α→β)(hi:∀y,f (inv y)=y)(ht:QjY P t n=true)(hc:P.cellsOf t=K.n)(h:Qfk K P ((fieldsOf P t).drop 0) 0 ok)(hok:∀y,ok y→ok' (inv y)):Qdp (QaC f K) P t ok':=
 Qlw inv hi (Qfm ht).1 hc (by rw[List.drop_zero]at h;exact h) hok
def aggT(P:Program)(t:TypeId):Bool:=match P.underlying t with|some (.struct _)=>true|some (.array _ _)=>true|_=>false
variable {H:Type}{enc:TypeId×Value→H}{W:World}{r:Reach}{b0:Nat}{v:Value}{d:DataW H}{ps:List MemPlace}
theorem QrP{t:TypeId}{k:IntKind}(ht:P.underlying t=some (.int k))(hval:Value.okWide P W r b0 t v)(hd:DataW.Trod enc P W 0 (fun _=>true) true t v d ps):∃n,v= .int k n∧inR k n:=by
 obtain⟨n,rfl,_,_,hw⟩:=open_int ht hval hd
 exact⟨n,rfl,QrO.1 hw⟩
theorem QrQ{t e:TypeId}(ht:P.underlying t=some (.slice e))(hn:P.cellsOf e=K.n)(he:Qdp K P e ok)(hval:Value.okWide P W r b0 t v)(hd:DataW.Trod enc P W 0 (fun _=>true) true t v d ps):
  ∃(A:Option Addr) (cap:Nat) (l:List α),v= .slice A l.length cap∧Sl K (Qig W) A cap l∧l.length≤maxLen∧∀y∈l,ok y:=by
 obtain⟨a,len,cap,rfl⟩:=okWide_slice ht hval
 obtain⟨fuel,hf⟩:=hd
 obtain⟨y,⟨A,c,hy,hs⟩,ho⟩:=QbC ht hn he H enc W fuel _ _ hf
 have:(Value.slice a len cap)= .slice A y.length c:=by simpa[Value.cells] using hy
 exact⟨A,c,y,this,hs,ho⟩
theorem QrR{t:TypeId}(ho:Qdp K P t ok)(hagg:aggT P t=true)(hval:Value.okWide P W r b0 t v)(hd:DataW.Trod enc P W 0 (fun _=>true) true t v d ps):
  ∃(y:α) (cs:List Value),v= .agg cs.toArray∧K.r (Qig W) y cs∧ok y:=by
 obtain⟨fuel,hf⟩:=hd
 have hv:∃cs,v= .agg cs:=by
  unfold aggT at hagg
  split at hagg
  ·rename_i hu;obtain⟨cs,h,_⟩:=okWide_struct hu hval;exact⟨cs,h⟩
  ·rename_i hu;simp only[Value.okWide,hu]at hval;obtain⟨cs,h1,_⟩:=hval;exact⟨cs,h1⟩
  ·cases hagg
 obtain⟨cs,rfl⟩:=hv
 obtain⟨y,hy,ho⟩:=ho H enc W fuel _ _ hf
 exact⟨y,cs.toList,by simp,by simpa[Value.cells] using hy,ho⟩
end
theorem trodAll_cons{H:Type}{enc:TypeId×Value→H}{P:Program}{w:World}{b:Nat}{sp:Nat→Bool}{hd:Bool}{t:TypeId}{ts:List TypeId}{vs:List Value}{ds:List (DataW H)}{ps:List MemPlace}
  (h:DataW.TrodAll enc P w b sp hd (t::ts) vs ds ps):∃v vs' d ds' p q,vs=v::vs'∧ds=d::ds'∧ps=p++q∧DataW.Trod enc P w b sp hd t v d p∧DataW.TrodAll enc P w b sp hd ts vs' ds' q:=by
 match vs,ds,h with
 |v::vs,d::ds,h=>
  obtain⟨p,q,h1,h2,h3⟩:=h
  exact⟨v,vs,d,ds,p,q,rfl,rfl,h3,h1,h2⟩
theorem trodAll_nil{H:Type}{enc:TypeId×Value→H}{P:Program}{w:World}{b:Nat}{sp:Nat→Bool}{hd:Bool}{vs:List Value}{ds:List (DataW H)}{ps:List MemPlace}
  (h:DataW.TrodAll enc P w b sp hd [] vs ds ps):vs= []∧ds= []∧ps= []:=by
 match vs,ds,h with
 | [], [],h=>exact⟨rfl,rfl,h⟩
theorem Qwg{args:Array Value}{l:List Value}(h:args.toList=l):args=l.toArray:=by subst h;simp
def QrS(P:Program)(ts:List TypeId):Bool:=ts.all fun t=>P.readableRec t&&decide (t<P.types.size)
theorem QjZ{H:Type}{enc:TypeId×Value→H}{P:Program}(hl:laidOutB P=true){W W':World}(hb:Below W.heap.size W W'):∀{ts:List TypeId} {vs:List Value} {ds:List (DataW H)} {ps:List MemPlace},
  QrS P ts=true→(∀x∈ps,x.block<W.heap.size)→DataW.TrodAll enc P W 0 (fun _=>true) true ts vs ds ps→DataW.TrodAll enc P W' 0 (fun b=>decide (b<W.heap.size)) true ts vs ds ps:=by
 intro ts
 induction ts with
 |nil=>
  intro vs ds ps _ _ h
  obtain⟨rfl,rfl,rfl⟩:=trodAll_nil h
  exact rfl
 |cons t ts ih=>
  intro vs ds ps ht hlt h
  obtain⟨v,vs,d,ds,p,q,rfl,rfl,rfl,h1,h2⟩:=trodAll_cons h
  simp only[QrS,List.all_cons,Qd,decide_eq_true_eq]at ht
  exact⟨p,q,Below.trod hl ht.1.1 ht.1.2 h1 hb (fun x hx=>hlt x (List.mem_append_left _ hx)),ih ht.2 (fun x hx=>hlt x (List.mem_append_right _ hx)) h2,rfl⟩
theorem Qpj{H:Type}{enc:TypeId×Value→H}{P:Program}{f:Func}{s:ChangeSpec}{apart fresh:Bool}{W W':World}{args:Array Value}{v:Value}{ds gs:List (DataW H)}{before:List MemPlace}
  (hW:DataW.Whole enc P f.params.toList s.vars apart W args.toList ds gs before) (hv:s.vars= []) (hl:laidOutB P=true) (ht:QrS P f.params.toList=true)
  (hargs:(s.fn H (ds++gs)).args=ds) (hvs:(s.fn H (ds++gs)).vars= [])
  (hres:∀(b:Nat) (sp:Nat→Bool) (hd:Bool),DataW.TrodAll enc P W' b sp hd f.resultTypes.toList (v.resultList f.resultTypes.size) (s.fn H (ds++gs)).results [])
  (hb:Below W.heap.size W W'):s.post enc P f apart fresh false false W args v W':=by
 have hlt:=hW.lt
 have hW0:=hW
 obtain⟨p,q,hA,hV,rfl,_,_⟩:=hW
 refine⟨ds,gs,p++q, [],p, [],hW0,hres _ _ _,?_,?_,hb.frame _,fun h=>by cases h⟩
 ·rw[hargs]
  exact QjZ hl hb ht (fun x hx=>by simpa using hlt x (List.mem_append_left _ hx)) hA
 ·rw[hvs,hv];exact rfl
theorem st_start(W:World):St W W (Qig W) []:=⟨rfl,rfl,rfl,fun _ o h=>⟨o,h,QbQ o⟩,fun _ _ h=>absurd h List.not_mem_nil,List.nodup_nil⟩
theorem QrT{W w':World}{D1:Snap}{L':List Blk}(h:Stp W W (Qig W) [] w' D1 L'):Below W.heap.size W w':=
 ⟨h.st.os,h.st.tape,h.st.output,h.size,fun k hk=>h.keep k hk List.not_mem_nil⟩
theorem Qwh{P:Program}{w:World}:∀{l:List (String×DataW Unit)} {ps:List MemPlace} {nm:String} {d:DataW Unit},DataW.LaidVars P w l ps→(nm,d)∈l→
  ∃g t cs fuel p,P.globalNamed nm=some g∧(P.globals[g]?).map (·.type)=some t∧w.var? P nm=some cs∧DataW.trod (fun _=>()) P w 0 (fun _=>true) false fuel t cs.toList=some (d,p):=by
 intro l
 induction l with
 |nil=>intro ps nm d _ h;cases h
 |cons x l ih=>
  rintro ps nm d ⟨g,t,cs,fuel,p,q,h1,h2,h3,h4,h5,_⟩ hm
  rcases List.mem_cons.1 hm with rfl|hm
  ·exact⟨g,t,cs,fuel,p,h1,h2,h3,h4⟩
  ·exact ih h5 hm
theorem Qlx{P:Program}{w:World}{l:List (String×DataW Unit)}{g:Nat}{t e:TypeId}{k:IntKind}{N:Nat}{v:Vector Int N}(nm:String){d:DataW Unit}(hl:laidMetH P l w)(hp:(l.all fun x=>x.2.handleName?.isNone)=true)(hm:(nm,d)∈l)
  (gn:P.globalNamed nm=some g) (gt:(P.globals[g]?).map (·.type)=some t) (ht:P.underlying t=some (.array N e)) (he:P.underlying e=some (.int k)) (hc:P.cellsOf e=1) (hct:P.cellsOf t=N)
  (hd:d= .agg ((Ye v).map fun n=> .lit (.int k n))):Cell (Zh k N) (Qig w) g 0 v:=by
 rw[MakeChecks.laidMetH_plain _ _ _ hp]at hl
 obtain⟨ps,hv,_⟩:=hl
 obtain⟨g',t',cs,fuel,p,h1,h2,h3,h4⟩:=Qwh hv hm
 obtain rfl:=Option.some.inj (gn.symm.trans h1)
 obtain rfl:=Option.some.inj (gt.symm.trans h2)
 obtain⟨xs,m,_,hx1,hlen,hn,hel⟩:=DataW.trod_array ht h4
 rw[hct]at hlen
 simp only[Qe]at hx1
 rw[hd,DataW.agg.injEq]at hx1
 have hx1:=hx1.1
 have each:∀i,i<N→cs[i]?=some (.int k (vget v i)):=by
  intro i hi
  have h5:=hel i hi
  have hxi:i<xs.length:=by omega
  rw[List.getElem?_eq_getElem hxi,hc,Nat.mul_one]at h5
  have hcs:i<cs.toList.length:=by omega
  have e5:(cs.toList.drop i).take 1= [cs.toList[i]]:=by
   rw[List.drop_eq_getElem_cons hcs];rfl
  rw[e5]at h5
  obtain⟨n,hn1,hn2,_⟩:=DataW.trod_int he h5
  have h6:(xs.map (·.1))[i]?=((Ye v).map fun n=>(DataW.lit (.int k n):DataW Unit))[i]?:=by rw[hx1]
  rw[List.getElem?_map,List.getElem?_map,List.getElem?_eq_getElem hxi,hn2]at h6
  have hvi:(Ye v)[i]?=some (vget v i):=by simp[Ye,hi]
  rw[hvi]at h6
  simp only[Option.map_some,Qa,DataW.lit.injEq,Lit.int.injEq]at h6
  have h7:cs.toList[i]= .int k n:=by simpa using hn1
  have h8:cs.toList[i]?=some (.int k n):=by rw[List.getElem?_eq_getElem hcs,h7]
  rw[h6.2]at h8
  simpa using h8
 simp only[World.var?,gn,Qb]at h3
 split at h3
 ·rename_i C T fr hb
  cases h3
  refine⟨Ya k N v,cs,T,fr,rfl,hb,fun j u hu=> ?_⟩
  simp only[Ya,List.getElem?_map]at hu
  by_cases hj:j<N
  ·rw[List.getElem?_range hj]at hu
   simp only[Option.map_some]at hu
   rw[Nat.zero_add,each j hj,hu]
  ·rw[List.getElem?_eq_none (by simp;omega)]at hu
   cases hu
 ·cases h3
end Go.Sep
