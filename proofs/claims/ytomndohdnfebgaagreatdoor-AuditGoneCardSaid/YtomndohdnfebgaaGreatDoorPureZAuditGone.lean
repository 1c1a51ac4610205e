/-
 Plain: AuditGone.
-/
import Derived.Test.YtomndohdnfebgaaGreatDoorPureAw
namespace Go.Proofs.YtomndohdnfebgaaGreatDoor
open Go Go.Sep
def splN(n:Nat):Nat:=max 1 (min (n-1) (2^Nat.log2 (n-1)))
theorem Qm1{n:Nat}(h:2≤n):0<splN n∧splN n<n:=by unfold splN;omega
theorem QwA:((List.range 402).all fun n=>decide (n<2)||decide (yE.f 1000000000000 (n:Int)=some ((splN n:Nat):Int)))=true:=by kernel_rfl
theorem QxN{n:Nat}(h1:2≤n)(h2:n≤401):yE.f 1000000000000 (n:Int)=some ((splN n:Nat):Int):=by
 have h:=List.all_eq_true.1 QwA n (List.mem_range.2 (by omega))
 simp only[Bool.or_eq_true,decide_eq_true_eq]at h
 exact h.resolve_left (by omega)
theorem Que{n j:Nat}(h1:2^j<n)(h2:n≤2^(j+1)):splN n=2^j:=by
 have hp:0<2^j:=Nat.pow_pos (by omega)
 have:Nat.log2 (n-1)=j:=(Nat.log2_eq_iff (by omega)).2 ⟨by omega,by omega⟩
 unfold splN
 rw[this]
 omega
def Qm2(a b:H32):H32:=(jZ.f 1000000000000 a b).getD zH
theorem Qm3(a b:H32):jZ.f 1000000000000 a b=some (Qm2 a b):=gd (Qef a b)
def QwB:H32:=(shaQ.f 1000000000000 []).getD zH
theorem Qm4:shaQ.f 1000000000000 []=some QwB:=by
 obtain⟨r,hr,_⟩:=Qdr (K:=1000000000000) (Nat.le_refl _) (x:= []) (by simp) (by simp)
 exact gd ⟨r,hr⟩
def XR(l:List H32):H32:=
 if l.length<2 then l.headD QwB else Qm2 (XR (l.take (splN l.length))) (XR (l.drop (splN l.length)))
termination_by l.length
decreasing_by
 ·have:=Qm1 (n:=l.length) (by omega);simp only[List.length_take];omega
 ·have:=Qm1 (n:=l.length) (by omega);simp only[List.length_drop];omega
theorem QhB:XR []=QwB:=by rw[XR];rfl
theorem QlE(x:H32):XR [x]=x:=by rw[XR];rfl
theorem QlF{l:List H32}(h:2≤l.length):XR l=Qm2 (XR (l.take (splN l.length))) (XR (l.drop (splN l.length))):=by
 conv=>lhs;rw[XR]
 rw[if_neg (by omega)]
theorem root_r:∀(n:Nat) (l:List H32) (k:Nat),l.length≤n→l.length≤401→n<k→JM.r 1000000000000 k l=some (XR l):=by
 intro n
 induction n with
 |zero=>
  intro l k h _ hk
  obtain⟨k,rfl⟩:∃j,k=j+1:=⟨k-1,by omega⟩
  have e:l= []:=List.eq_nil_of_length_eq_zero (by omega)
  subst e
  show JM.b 1000000000000 (JM.r 1000000000000 k) []=_
  unfold JM.b
  rw[Qj (by rfl),QhB,bnd Qm4]
 | succ n ih=>
  intro l k h h50 hk
  obtain⟨k,rfl⟩:∃j,k=j+1:=⟨k-1,by omega⟩
  show JM.b 1000000000000 (JM.r 1000000000000 k) l=_
  unfold JM.b
  by_cases h0:l.length=0
  ·have e:l= []:=List.eq_nil_of_length_eq_zero h0
   subst e
   rw[Qj (by rfl),QhB,bnd Qm4]
  rw[Qi (QG (by omega))]
  by_cases h1:l.length=1
  ·obtain⟨x,rfl⟩:∃x,l= [x]:=by
    cases l with
    |nil=>cases h1
    |cons x l=>exact⟨x,by simp at h1;rw[h1]⟩
   rw[QlE];rfl
  rw[Qi (QG (by omega))]
  have hs:=Qm1 (n:=l.length) (by omega)
  rw[bnd (QxN (by omega) h50),bnd (ZZ (by omega)),bnd (QbD (by omega)),bnd (ih (l.take (splN l.length)) k (by simp;omega) (by simp;omega) (by omega)),bnd (ih (l.drop (splN l.length)) k (by simp;omega) (by simp;omega) (by omega)),bnd (Qm3 _ _),←QlF (l:=l) (by omega)]
theorem QlG{b m:List H32}{j:Nat}(hb:b.length=2^j)(h1:0<m.length)(h2:m.length≤2^j):XR (b++m)=Qm2 (XR b) (XR m):=by
 have hp:0<2^j:=Nat.pow_pos (by omega)
 have hl:splN (b++m).length=2^j:=Que (by simp;omega) (by rw[Nat.pow_succ];simp;omega)
 rw[QlF (by simp;omega),hl,←hb,List.take_left,List.drop_left]
def frS(j c:Nat)(l:List H32):List H32:=
 if c=0 then []else if c%2=1 then frS (j+1) (c/2) (l.take ((c-1)*2^j))++ [XR (l.drop ((c-1)*2^j))]else frS (j+1) (c/2) l
termination_by c
decreasing_by
 ·omega
 ·omega
theorem Qsq(j:Nat)(l:List H32):frS j 0 l= []:=by rw[frS];rfl
theorem QhC{j c:Nat}{l:List H32}(h:c%2=1):frS j c l=frS (j+1) (c/2) (l.take ((c-1)*2^j))++ [XR (l.drop ((c-1)*2^j))]:=by
 conv=>lhs;rw[frS]
 rw[if_neg (by omega),if_pos h]
theorem Qei{j c:Nat}{l:List H32}(h:c%2=0):frS j c l=frS (j+1) (c/2) l:=by
 by_cases h0:c=0
 ·subst h0;rw[Qsq,show 0/2=0 from rfl,Qsq]
 ·conv=>lhs;rw[frS]
  rw[if_neg h0,if_neg (by omega)]
theorem Qj7{c j:Nat}(h:c%2=1):(c-1)*2^j=c/2*2^(j+1):=by
 rw[Nat.pow_succ,show c-1=c/2*2 by omega,Nat.mul_assoc,Nat.mul_comm 2]
theorem Qj8{c j:Nat}(h:0<c):c*2^j=(c-1)*2^j+2^j:=by
 conv=>lhs;rw[show c=(c-1)+1 by omega]
 rw[Nat.add_mul,Nat.one_mul]
theorem Qm5:∀(c j:Nat) (l:List H32),(frS j c l).length≤c:=by
 intro c
 induction c using Nat.strongRecOn with
 | _ c ih=>
  intro j l
  by_cases h0:c=0
  ·subst h0;rw[Qsq];simp
  ·by_cases h2:c%2=1
   ·rw[QhC h2]
    have:=ih (c/2) (by omega) (j+1) (l.take ((c-1)*2^j))
    simp;omega
   ·rw[Qei (by omega)]
    have:=ih (c/2) (by omega) (j+1) l
    omega
theorem Qpq:∀(c j k:Nat) (l m:List H32) (n:Int),l.length=c*2^j→m.length=2^j→l.length+m.length≤401→c<k→c<1000000→
  ∃S h,YN.l 1000000000000 k ((c:Int),frS j c l,n,XR m)=some (S,n,h)∧S++ [h]=frS j (c+1) (l++m):=by
 intro c
 induction c using Nat.strongRecOn with
 | _ c ih=>
  intro j k l m n hl hm h4 hk hc
  obtain⟨k,rfl⟩:∃j,k=j+1:=⟨k-1,by omega⟩
  have hp:0<2^j:=Nat.pow_pos (by omega)
  show ∃S h,YN.b 1000000000000 (YN.l 1000000000000 k) ((c:Int),frS j c l,n,XR m)=some (S,n,h)∧_
  unfold YN.b
  have e1:Int.tmod (c:Int) 2=((c%2:Nat):Int):=rfl
  have e2:Int.tdiv (c:Int) 2=((c/2:Nat):Int):=rfl
  simp only[e1,e2]
  by_cases h2:c%2=1
  ·rw[Qj (QT (by omega)),QhC h2]
   have h5:=Qj8 (c:=c) (j:=j) (by omega)
   generalize hb:l.drop ((c-1)*2^j)=b
   generalize hq:l.take ((c-1)*2^j)=l'
   have hlb:l'++b=l:=by rw[←hb,←hq,List.take_append_drop]
   have hb1:b.length=2^j:=by rw[←hb,List.length_drop];omega
   have hq1:l'.length=c/2*2^(j+1):=by rw[←Qj7 h2,←hq,List.length_take];omega
   have hfr:∀(S:List H32) (h:H32),(S++ [h]).length<100000→Jp.f 1000000000000 (S++ [h]) n=some (h,S,n):=fun S h hS=>by
    unfold Jp.f
    have ew:IntKind.wrap .i64 ((((S++ [h]).length:Nat):Int)-1)=((S.length:Nat):Int):=by
     rw[wrap64 (by simp<;>omega) (by omega)];simp
    rw[ew,bnd (JJ (x:=h) (by simp)),bnd (JJ (x:=h) (by simp)),bnd (QbD (by simp)),List.take_left]
   have hcl:c≤l.length:=by rw[hl];exact Nat.le_mul_of_pos_right c hp
   rw[bnd (hfr _ _ (by have:=Qm5 (c/2) (j+1) l';simp;omega)),bnd (Qm3 _ _),←QlG hb1 (by omega) (by omega),wrap64 (by omega) (by omega)]
   obtain⟨S,h,r1,r2⟩:=ih (c/2) (by omega) (j+1) k l' (b++m) n hq1 (by rw[Nat.pow_succ];simp;omega) (by have:=congrArg List.length hlb;simp at this⊢;omega) (by omega) (by omega)
   refine⟨S,h,r1,?_⟩
   rw[r2,Qei (c:=c+1) (by omega),show(c+1)/2=c/2+1 by omega,←hlb,List.append_assoc]
  ·rw[Qi (QG (by omega))]
   refine⟨_,_,rfl,?_⟩
   rw[QhC (c:=c+1) (by omega),Nat.add_sub_cancel,←hl,List.take_left,List.drop_left,Qei (by omega),show(c+1)/2=c/2 by omega]
theorem Qsr{l:List H32}(h:H32)(hl:l.length≤400):je.f 1000000000000 h (frS 0 l.length l) ((l.length:Nat):Int)=some (frS 0 (l.length+1) (l++ [h]),((l.length+1:Nat):Int)):=by
 unfold je.f
 obtain⟨S,g,h1,h2⟩:=Qpq l.length 0 1000000000000 l [h] ((l.length:Nat):Int) (by simp) (by simp) (by simp;omega) (by omega) (by omega)
 rw[QlE]at h1
 rw[bnd h1]
 unfold JF.f
 have h3:=Qm5 (l.length+1) 0 (l++ [h])
 rw[←h2]at h3
 rw[bnd (YQ (by simp at h3⊢;omega)),h2]
 simp only[Qb]
 rw[wrap_succ (by omega)]
theorem Quf:∀(c j:Nat) (l m:List H32),l.length=c*2^j→0<m.length→m.length≤2^j→(frS j c l).foldr Qm2 (XR m)=XR (l++m):=by
 intro c
 induction c using Nat.strongRecOn with
 | _ c ih=>
  intro j l m hl h1 h2
  have hp:0<2^j:=Nat.pow_pos (by omega)
  by_cases h0:c=0
  ·subst h0
   have:l= []:=List.eq_nil_of_length_eq_zero (by omega)
   rw[Qsq,this];rfl
  by_cases h3:c%2=1
  ·have h5:=Qj8 (c:=c) (j:=j) (by omega)
   rw[QhC h3,List.foldr_append]
   generalize hb:l.drop ((c-1)*2^j)=b
   generalize hq:l.take ((c-1)*2^j)=l'
   have hlb:l'++b=l:=by rw[←hb,←hq,List.take_append_drop]
   have hb1:b.length=2^j:=by rw[←hb,List.length_drop];omega
   have hq1:l'.length=c/2*2^(j+1):=by rw[←Qj7 h3,←hq,List.length_take];omega
   simp only[List.foldr_cons,List.foldr_nil]
   rw[←QlG hb1 h1 h2,ih (c/2) (by omega) (j+1) l' (b++m) hq1 (by simp;omega) (by rw[Nat.pow_succ];simp;omega),←hlb,List.append_assoc]
  ·rw[Qei (by omega)]
   refine ih (c/2) (by omega) (j+1) l m ?_ h1 (by rw[Nat.pow_succ];omega)
   rw[hl,Nat.pow_succ,Nat.mul_comm (2^j) 2,←Nat.mul_assoc,show c/2*2=c by omega]
theorem Qug:∀(c j:Nat) (l:List H32),l.length=c*2^j→0<c→∃S t,frS j c l=S++ [t]∧S.foldr Qm2 t=XR l:=by
 intro c
 induction c using Nat.strongRecOn with
 | _ c ih=>
  intro j l hl h0
  have hp:0<2^j:=Nat.pow_pos (by omega)
  by_cases h3:c%2=1
  ·have h5:=Qj8 (c:=c) (j:=j) (by omega)
   refine⟨_,_,QhC h3,?_⟩
   have hb1:(l.drop ((c-1)*2^j)).length=2^j:=by rw[List.length_drop];omega
   rw[Quf (c/2) (j+1) _ _ (by rw[←Qj7 h3,List.length_take];omega) (by omega) (by rw[Nat.pow_succ];omega),List.take_append_drop]
  ·rw[Qei (by omega)]
   refine ih (c/2) (by omega) (j+1) l ?_ (by omega)
   rw[hl,Nat.pow_succ,Nat.mul_comm (2^j) 2,←Nat.mul_assoc,show c/2*2=c by omega]
theorem Qpr{S:List H32}{n:Int}(hS:S.length<100000):∀(j k:Nat) (h:H32),j≤S.length→j<k→QU.l 1000000000000 (S,n) k ((j:Int)-1,h,false)=some ((S.take j).foldr Qm2 h,false):=by
 intro j
 induction j with
 |zero=>
  intro k h hj hk
  obtain⟨k,rfl⟩:∃j,k=j+1:=⟨k-1,by omega⟩
  show QU.b 1000000000000 (S,n) (QU.l 1000000000000 (S,n) k) (((0:Nat):Int)-1,h,false)=_
  unfold QU.b
  rw[Qi (by simp)];rfl
 |succ j ih=>
  intro k h hj hk
  obtain⟨k,rfl⟩:∃j,k=j+1:=⟨k-1,by omega⟩
  show QU.b 1000000000000 (S,n) (QU.l 1000000000000 (S,n) k) (((j+1:Nat):Int)-1,h,false)=_
  have e:(((j+1:Nat):Int)-1)=(j:Int):=by omega
  rw[e]
  unfold QU.b
  have hx:S[j]?=some S[j]:=List.getElem?_eq_getElem (by omega)
  rw[Qj (QT (by simp only;omega))]
  simp only[jn]
  rw[bnd (JJ hx),bnd (JJ hx)]
  simp only[Qh]
  rw[bnd (Qm3 _ _),wrap64 (by omega) (by omega),ih k _ (by omega) (by omega),List.take_add_one,hx,List.foldr_append]
  simp only[Option.toList,List.foldr_cons,List.foldr_nil]
theorem Qps{l:List H32}(h400:l.length≤401):qH.f 1000000000000 (frS 0 l.length l) ((l.length:Nat):Int)=some (XR l,frS 0 l.length l,((l.length:Nat):Int)):=by
 unfold qH.f yX.f JG.f
 simp only[Qb]
 by_cases h0:l.length=0
 ·have e:l= []:=List.eq_nil_of_length_eq_zero h0
  subst e
  rw[Qj (by rfl),QhB,bnd Qm4]
 rw[Qi (QG (by omega))]
 obtain⟨S,t,h1,h2⟩:=Qug l.length 0 l (by simp) (by omega)
 have h3:=Qm5 l.length 0 l
 rw[h1]at h3⊢
 have hS:S.length<401:=by simp at h3;omega
 have e:IntKind.wrap .i64 ((((S++ [t]).length:Nat):Int)-1)=((S.length:Nat):Int):=by
  rw[wrap64 (by simp<;>omega) (by simp<;>omega)];simp
 have hb:∀k,500<k→QU.l 1000000000000 (S++ [t],((l.length:Nat):Int)) k (((S.length:Nat):Int),Vector.replicate 32 0,true)=some (XR l,false):=fun k hk=>by
  obtain⟨k,rfl⟩:∃j,k=j+1:=⟨k-1,by omega⟩
  show QU.b 1000000000000 (S++ [t],((l.length:Nat):Int)) (QU.l 1000000000000 (S++ [t],((l.length:Nat):Int)) k) (((S.length:Nat):Int),Vector.replicate 32 0,true)=_
  unfold QU.b
  rw[Qj (QT (by simp only;omega))]
  simp only[jn]
  rw[bnd (JJ (x:=t) (by simp)),bnd (JJ (x:=t) (by simp))]
  simp only[Qg]
  rw[wrap64 (by omega) (by omega),Qpr (by simp;omega) S.length _ _ (by simp) (by omega),List.take_left,h2]
 rw[e]
 exact QD (hb 1000000000000 (by omega)) rfl
def goB(b:Bk)(x:Rc)(limit:Int):Bk×Bool:=(Qb6.f 1000000000000 b x limit).getD (b,false)
theorem Qu2{b:Bk}{x:Rc}{limit:Int}(hb:okK b)(hx:okD x):Qb6.f 1000000000000 b x limit=some (goB b x limit)∧okK (goB b x limit).1:=by
 obtain⟨r,h1,h2⟩:=Qsg (limit:=limit) hb hx
 have:goB b x limit=r:=by unfold goB;rw[h1];rfl
 rw[this];exact⟨h1,h2⟩
def runB(k:Qq)(limit:Int):List It→Bk→Sum Int Bk
 | [],b=> .inr b
 |y::l,b=>bif rcK k y.fRec then(bif (goB b y.fRec limit).2 then runB k limit l (goB b y.fRec limit).1 else .inl 9)else .inl 7
def lftB:Sum Int Bk→Sum (Sum Int VdT) Bk
 | .inl e=> .inl (.inl e)
 | .inr b=> .inr b
theorem Qss{x:Bun}(hv:vBun x){k0:Qq}{limit:Int}:∀(l:List It) (i k:Nat) (b:Bk),x.fItems.drop i=l→i≤x.fItems.length→l.length<k→okK b→
  QN.l 1000000000000 ⟨k0,limit⟩ x k ((i:Int),b)=some (lftB (runB k0 limit l b)):=by
 have h400:=hv.r.len
 intro l
 induction l with
 |nil=>
  intro i k b hl hi hk hb
  obtain⟨k,rfl⟩:∃j,k=j+1:=⟨k-1,by simp at hk;omega⟩
  have hi2:x.fItems.length≤i:=by simpa using hl
  show QN.b 1000000000000 ⟨k0,limit⟩ x (QN.l 1000000000000 ⟨k0,limit⟩ x k) ((i:Int),b)=_
  unfold QN.b
  rw[Qi (QG (by simp only;omega))]
  rfl
 | cons y l ih=>
  intro i k b hl hi hk hb
  obtain⟨k,rfl⟩:∃j,k=j+1:=⟨k-1,by simp at hk;omega⟩
  have hlt:i<x.fItems.length:=by
   have:=congrArg List.length hl
   simp at this;omega
  have hy:x.fItems[i]?=some y:=by
   have:=congrArg (fun(l:List It)=>l[0]?) hl
   simpa using this
  have hd:x.fItems.drop (i+1)=l:=by rw[←List.drop_drop,hl];rfl
  have hm:y∈x.fItems:=List.mem_of_getElem? hy
  show QN.b 1000000000000 ⟨k0,limit⟩ x (QN.l 1000000000000 ⟨k0,limit⟩ x k) ((i:Int),b)=_
  unfold QN.b runB
  rw[Qj (QT (by simp only;omega)),bnd (JJ hy),QeX (hv.d y hm) (Qhz (hv.b y hm).tag)]
  cases rcK k0 y.fRec with
  |false=>rfl
  | true=>
   obtain⟨h1,h2⟩:=Qu2 (limit:=limit) hb (hv.d y hm)
   simp only[Qg,sm]
   rw[bnd h1]
   have:=ih (i+1) k (goB b y.fRec limit).1 hd (by omega) (by simp at hk;omega) h2
   cases (goB b y.fRec limit).2 with
   |false=>rfl
   |true=>
    rw[wrap_succ (by omega)]
    exact this
theorem Qm6{k:Qq}{limit:Int}:∀(l:List It) (b z:Bk),(∀y∈l,okD y.fRec)→okK b→runB k limit l b= .inr z→okK z∧∀y∈l,rcK k y.fRec=true
 | [],b,z,_,hb,h=>by cases h;exact⟨hb,fun _ h=>by cases h⟩
 | y::l,b,z,hd,hb,h=>by
  unfold runB at h
  cases h1:rcK k y.fRec with
  |false=>rw[h1]at h;cases h
  | true=>
   rw[h1]at h
   simp only[Qg]at h
   cases h2:(goB b y.fRec limit).2 with
   |false=>rw[h2]at h;cases h
   |true=>
    rw[h2]at h
    obtain⟨h3,h4⟩:=Qm6 l _ z (fun y hy=>hd y (List.mem_cons_of_mem _ hy)) (Qu2 hb (hd y List.mem_cons_self)).2 h
    refine⟨h3,fun x hx=> ?_⟩
    rcases List.mem_cons.1 hx with rfl|hx
    ·exact h1
    ·exact h4 x hx
theorem Qm7{x:Bun}(hv:vBun x):∀(m i k:Nat),i+m=x.fItems.length→m<k→
  QM.l 1000000000000 x k ((i:Int),frS 0 i ((x.fItems.take i).map fun y=>Qa0 y.fRec),(i:Int))=some (frS 0 x.fItems.length (x.fItems.map fun y=>Qa0 y.fRec),((x.fItems.length:Nat):Int)):=by
 have h400:=hv.r.len
 intro m
 induction m with
 |zero=>
  intro i k hi hk
  obtain⟨k,rfl⟩:∃j,k=j+1:=⟨k-1,by omega⟩
  have e:i=x.fItems.length:=by omega
  subst e
  show QM.b 1000000000000 x (QM.l 1000000000000 x k) _=_
  unfold QM.b
  rw[Qi (QG (by simp only;omega)),List.take_length]
 |succ m ih=>
  intro i k hi hk
  obtain⟨k,rfl⟩:∃j,k=j+1:=⟨k-1,by omega⟩
  show QM.b 1000000000000 x (QM.l 1000000000000 x k) _=_
  unfold QM.b
  have hy:x.fItems[i]?=some x.fItems[i]:=List.getElem?_eq_getElem (by omega)
  have hm:x.fItems[i]∈x.fItems:=List.getElem_mem (by omega)
  rw[Qj (QT (by simp only;omega)),bnd (JJ hy),bnd (Qf5 (hv.d _ hm) (hv.r.items _ hm).1)]
  have hl:((x.fItems.take i).map fun y=>Qa0 y.fRec).length=i:=by simp;omega
  have h1:=Qsr (l:=(x.fItems.take i).map fun y=>Qa0 y.fRec) (Qa0 x.fItems[i].fRec) (by omega)
  rw[hl]at h1
  rw[bnd h1]
  have h2:=ih (i+1) k (by omega) (by omega)
  rw[List.take_add_one,hy,List.map_append]at h2
  rw[wrap_succ (by omega)]
  exact h2
theorem Qst{b:Bk}(hb:b.fSagas.length≤12):Xu.f 1000000000000 b=some (b.fSagas.map Qih):=by
 unfold Xu.f
 have key:∀(m i k:Nat) (l:List Qu),i+m=b.fSagas.length→m<k→l=(b.fSagas.map Qih).take i→Yl.l 1000000000000 b k (l,(i:Int))=some (b.fSagas.map Qih):=by
  intro m
  induction m with
  |zero=>
   intro i k l hi hk hl
   obtain⟨k,rfl⟩:∃j,k=j+1:=⟨k-1,by omega⟩
   show Yl.b 1000000000000 b (Yl.l 1000000000000 b k) (l,(i:Int))=_
   unfold Yl.b
   rw[Qi (QG (by simp only;omega)),hl,List.take_of_length_le (by simp;omega)]
  |succ m ih=>
   intro i k l hi hk hl
   obtain⟨k,rfl⟩:∃j,k=j+1:=⟨k-1,by omega⟩
   have hll:l.length=i:=by rw[hl];simp;omega
   show Yl.b 1000000000000 b (Yl.l 1000000000000 b k) (l,(i:Int))=_
   unfold Yl.b
   have hx:b.fSagas[i]?=some b.fSagas[i]:=List.getElem?_eq_getElem (by omega)
   rw[Qj (QT (by simp only;omega)),bnd (JJ hx),bnd (Qn9 _),bnd (YQ (by simp only[List.length_singleton];omega)),wrap_succ (by omega)]
   refine ih (i+1) k _ (by omega) (by omega) ?_
   rw[hl,List.take_add_one,List.getElem?_map,hx];rfl
 have ht:Yl.l 1000000000000 b 1000000000000 ([],0)=some (b.fSagas.map Qih):=key b.fSagas.length 0 1000000000000 [] (by omega) (by omega) rfl
 exact QD ht rfl
def bk0:Bk:=⟨Vector.replicate 4 0, []⟩
def QwC(n:Nat):List Int:=(List.range n).map fun n=>((n:Nat):Int)
def QcE(x:Bun):List H32:=x.fItems.map fun y=>Qa0 y.fRec
def runW(k:Qq)(limit:Int)(x:Bun):Sum Int VdT:=
 bif decide (XR (QcE x)=x.fPoint.fRoot)then(match runB k limit x.fItems bk0 with
  | .inl e=> .inl e
  | .inr b=> .inr (0,QwC b.fSagas.length,b.fSagas.map Qih))else .inl 6
theorem Quh{x:Bun}(hv:vBun x)(k0:Qq)(limit:Int):YU.fs 1000000000000 ⟨k0,limit⟩ x=some (runW k0 limit x):=by
 have h400:=hv.r.len
 unfold YU.fs runW
 have h1:=Qm7 hv x.fItems.length 0 1000000000000 (by omega) (by omega)
 rw[List.take_zero,List.map_nil,Qsq]at h1
 refine QD h1 ?_
 have h2:=Qps (l:=QcE x) (by unfold QcE;simp;omega)
 have hll:(QcE x).length=x.fItems.length:=by unfold QcE;simp
 rw[hll]at h2
 refine QD h2 ?_
 refine Qdt (fun h=>by rw[h];rfl) (fun h=> ?_)
 rw[h]
 simp only[Qg]
 have h3:=Qss hv (k0:=k0) (limit:=limit) x.fItems 0 1000000000000 bk0 rfl (by omega) (by omega) Qf4
 refine QD h3 ?_
 cases hr:runB k0 limit x.fItems bk0 with
 |inl e=>rfl
 |inr b=>
  obtain⟨hb,_⟩:=Qm6 _ _ _ (fun y hy=>hv.d y hy) Qf4 hr
  refine QD (Qst hb.n) ?_
  have h5:=Qn6 hb.n (c:=0) (r:=b.fSagas.map Qih) b.fSagas.length 0 1000000000000 [] (by omega) (by have:=hb.n;omega) rfl
  exact QD h5 rfl
theorem QeZ{k:Qq}{limit:Int}{x:Bun}(hv:vBun x)(hw:x.fWhole=true):runA k limit x=runW k limit x:=by
 unfold runA
 rw[hw]
 simp only[Qg]
 rw[Quh hv];rfl
theorem QiJ{x:Rc}(hx:okD x)(hr:Yx x=true){q:H32}(h:QaI.f 1000000000000 (Qee 1000000000000 x)=some q):Qa0 x=q:=by
 have hse:=Qr3 (K:=1000000000000) (Nat.le_refl _) hx
 rw[hr]at hse
 have:jJ.f 1000000000000 x=some q:=by
  unfold jJ.f
  exact QD (x:=Qee 1000000000000 x) hse (QD h rfl)
 unfold Qa0
 rw[this];rfl
theorem Qui{K:Nat}(k:Qq)(b:List Int):J7.f K k b=some (decide ((20:Int)<((k.fParts.length:Nat):Int))||(decide ((20:Int)<((k.fWits.length:Nat):Int))||decide ((4000:Int)<((b.length:Nat):Int)))):=by
 unfold J7.f
 cases decide ((20:Int)<((k.fParts.length:Nat):Int))with
 |true=>rfl
 |false=>cases decide ((20:Int)<((k.fWits.length:Nat):Int))<;>rfl
theorem Qm8{k:Qq}{b:List Int}(h:(decide ((20:Int)<((k.fParts.length:Nat):Int))||(decide ((20:Int)<((k.fWits.length:Nat):Int))||decide ((4000:Int)<((b.length:Nat):Int))))=false):k.fParts.length≤20∧k.fWits.length≤20∧b.length≤4000:=by
 simp only[Bool.or_eq_false_iff,decide_eq_false_iff_not]at h
 omega
theorem QhD{k:Qq}{limit:Int}{x:Bun}(hv:vBun x)(hw:x.fWhole=false):runA k limit x=match runI k limit x.fPoint x.fItems st0 with
  | .inl e=> .inl e
  | .inr z=> .inr (0,z.2.1,Qeh z):=by
 unfold runA
 rw[hw]
 simp only[Qh]
 rw[Qwz hv];rfl
theorem QxO{k:Qq}{limit:Int}{x:Bun}{v:VdT}(h:runW k limit x= .inr v):XR (QcE x)=x.fPoint.fRoot∧∃b,runB k limit x.fItems bk0= .inr b∧v=(0,QwC b.fSagas.length,b.fSagas.map Qih):=by
 unfold runW at h
 by_cases hr:XR (QcE x)=x.fPoint.fRoot
 ·rw[QT hr]at h
  cases hb:runB k limit x.fItems bk0 with
  |inl e=>rw[hb]at h;cases h
  |inr b=>rw[hb]at h;cases h;exact⟨hr,b,rfl,rfl⟩
 ·rw[QG hr]at h;cases h
theorem Quj{α β:Type}{c:Bool}{x y:Option α}{g:α→Option β}:(bif c then x else y).bind g=bif c then x.bind g else y.bind g:=by cases c<;>rfl
theorem Qsu{K:Nat}(b:List Int):X5.f K b=(Xr.f K b).bind fun t=>some (t.1.fWhole,t.1.fPoint.fSize,t.1.fPoint.fRoot,t.1.fPoint.fSigs,t.1.fItems,t.2):=by
 unfold X5.f Xr.f
 simp only[jn,Option.bind_assoc,Quj,Qb]
theorem Qob{x:Rc}(hx:okD x)(hr:Yx x=true):Qa0 (redS 1000000000000 x)=Qa0 x:=by
 have hl:=Qhv (K:=1000000000000) hr
 obtain⟨q,hq⟩:=Qn1 (b:=Qee 1000000000000 x) (by omega)
 rw[QiJ (Qr0 hx) (Qed hr) (by rw[Qr2];exact hq),QiJ hx hr hq]
theorem QwD{x:Rc}:(redS 1000000000000 x).fKind=x.fKind∧(redS 1000000000000 x).fSaga=x.fSaga∧(redS 1000000000000 x).fSteps=x.fSteps:=by
 unfold redS
 cases h:begS x with
 |false=>exact⟨rfl,rfl,rfl⟩
 |true=>exact⟨(begD h).2.symm,rfl,rfl⟩
theorem redk{x:Rc}:(redS 1000000000000 x).fKind=x.fKind∧(redS 1000000000000 x).fSaga=x.fSaga∧(redS 1000000000000 x).fSteps=x.fSteps∧(x.fKind≠1→redS 1000000000000 x=x):=
 ⟨QwD.1,QwD.2.1,QwD.2.2,fun h=>Qhu (by unfold begS;rw[QG h,Bool.and_false])⟩
theorem Qu3{k:Qq}{x:Rc}:rcK k (redS 1000000000000 x)=rcK k x:=by
 by_cases h:x.fKind=1
 ·unfold rcK
  rw[redk.1,QG (show¬x.fKind=3 by omega),Bool.not_false,Bool.true_or,Bool.true_or]
 ·rw[redk.2.2.2 h]
theorem Quk{k:Qq}{limit:Int}{p:Qo}{y:It}{st:StT}(hd:okD y.fRec)(hr:Yx y.fRec=true):QeY k limit p {y with fRec:=redS 1000000000000 y.fRec} st=QeY k limit p y st:=by
 by_cases h:y.fRec.fKind=1
 ·unfold QeY inP begA Qt9 hadA
  simp only[Qob hd hr,Qu3,redk.1,redk.2.1,redk.2.2.1,QT h,Qg]
 ·rw[redk.2.2.2 h]
theorem QxP{b:Bk}{limit:Int}{x:Rc}(hd:okD x)(hr:Yx x=true):goB b (redS 1000000000000 x) limit=goB b x limit:=by
 by_cases h:x.fKind=1
 ·unfold goB Qb6.f
  rw[right_eq (Nat.le_refl _) hd,right_eq (Nat.le_refl _) (Qr0 hd),hr,Qed hr,redk.1]
  simp only[jn,QT h,Qg]
  have:Xt.f 1000000000000 b (redS 1000000000000 x) limit=Xt.f 1000000000000 b x limit:=by
   unfold Xt.f
   rw[redk.2.1,redk.2.2.1]
  rw[this]
 ·rw[redk.2.2.2 h]
def bitG(mask:Int)(i:Nat):Bool:=decide ((band .u32 (Int.fdiv mask (2^(min (Int.toNat (IntKind.wrap .u64 (Int.tmod (i:Int) 32))) 32))) (1:Int))=(1:Int))
def Qc4(mask:Int)(i:Nat)(y:It):It:=bif bitG mask i then{y with fRec:=redS 1000000000000 y.fRec} else y
def Qc5(mask:Int):Nat→List It→List It
 |_, []=> []
 |i,y::l=>Qc4 mask i y::Qc5 mask (i+1) l
theorem QlH(mask:Int):∀(l:List It) (i:Nat),(Qc5 mask i l).length=l.length
 | [],_=>rfl
 |y::l,i=>by simp only[Qc5,List.length_cons,QlH mask l]
theorem QhE(mask:Int):∀(l:List It) (i:Nat),∀z∈Qc5 mask i l,∃y∈l,z.fAt=y.fAt∧z.fPath=y.fPath∧(z.fRec=y.fRec∨z.fRec=redS 1000000000000 y.fRec)
 | [],_,z,hz=>by cases hz
 | y::l,i,z,hz=>by
  rcases List.mem_cons.1 hz with rfl|hz
  ·refine⟨y,List.mem_cons_self,?_⟩
   unfold Qc4
   cases bitG mask i with
   |true=>exact⟨rfl,rfl,.inr rfl⟩
   |false=>exact⟨rfl,rfl,.inl rfl⟩
  ·obtain⟨w,hw,h⟩:=QhE mask l (i+1) z hz
   exact⟨w,List.mem_cons_of_mem _ hw,h⟩
theorem Qoc{mask:Int}{whole:Bool}{size:Int}:∀(l:List It) (last:Int) (i j:Nat),jF whole size last i l=true→jF whole size last i (Qc5 mask j l)=true
 | [],_,_,_,_=>rfl
 | y::l,last,i,j,h=>by
  unfold jF Qfj at h
  simp only[Qc5]
  unfold jF Qfj
  rw[Qd,Qd]at h⊢
  obtain⟨⟨h1,h2⟩,h3⟩:=h
  have e:(Qc4 mask j y).fAt=y.fAt∧(Qc4 mask j y).fPath=y.fPath∧Yx (Qc4 mask j y).fRec=true:=by
   unfold Qc4
   cases bitG mask j with
   |true=>exact⟨rfl,rfl,Qed h1⟩
   |false=>exact⟨rfl,rfl,h1⟩
  rw[e.1,e.2.1]
  exact⟨⟨e.2.2,h2⟩,Qoc l _ _ _ h3⟩
theorem QlI{k:Qq}{limit:Int}{p:Qo}{mask:Int}:∀(l:List It) (i:Nat) (st:StT),(∀y∈l,okD y.fRec∧Yx y.fRec=true)→runI k limit p (Qc5 mask i l) st=runI k limit p l st
 | [],_,_,_=>rfl
 | y::l,i,st,h=>by
  simp only[Qc5,runI]
  have hy:=h y List.mem_cons_self
  have e:QeY k limit p (Qc4 mask i y) st=QeY k limit p y st:=by
   unfold Qc4
   cases bitG mask i with
   |true=>exact Quk hy.1 hy.2
   |false=>rfl
  rw[e]
  cases QeY k limit p y st with
  |inl _=>rfl
  |inr s=>exact QlI l (i+1) s fun z hz=>h z (List.mem_cons_of_mem _ hz)
theorem QlJ{k:Qq}{limit:Int}{mask:Int}:∀(l:List It) (i:Nat) (b:Bk),(∀y∈l,okD y.fRec∧Yx y.fRec=true)→runB k limit (Qc5 mask i l) b=runB k limit l b
 | [],_,_,_=>rfl
 | y::l,i,b,h=>by
  simp only[Qc5,runB]
  have hy:=h y List.mem_cons_self
  have e:rcK k (Qc4 mask i y).fRec=rcK k y.fRec∧goB b (Qc4 mask i y).fRec limit=goB b y.fRec limit:=by
   unfold Qc4
   cases bitG mask i with
   |true=>exact⟨Qu3,QxP hy.1 hy.2⟩
   |false=>exact⟨rfl,rfl⟩
  rw[e.1,e.2,QlJ l (i+1) _ fun z hz=>h z (List.mem_cons_of_mem _ hz)]
theorem QhF{mask:Int}:∀(l:List It) (i:Nat),(∀y∈l,okD y.fRec∧Yx y.fRec=true)→(Qc5 mask i l).map (fun y=>Qa0 y.fRec)=l.map (fun y=>Qa0 y.fRec)
 | [],_,_=>rfl
 | y::l,i,h=>by
  simp only[Qc5,List.map_cons]
  have hy:=h y List.mem_cons_self
  have e:Qa0 (Qc4 mask i y).fRec=Qa0 y.fRec:=by
   unfold Qc4
   cases bitG mask i with
   |true=>exact Qob hy.1 hy.2
   |false=>rfl
  rw[e,QhF l (i+1) fun z hz=>h z (List.mem_cons_of_mem _ hz)]
theorem Qsv{mask:Int}{w:Bool}{n:Int}{h:H32}{sg:List Sg}:∀(l A:List It) (k:Nat),(∀y∈l,okD y.fRec)→A.length+l.length<1000→l.length<k→QZ.l 1000000000000 mask k (((A.length:Nat):Int),w,n,h,sg,A++l)=some (w,n,h,sg,A++Qc5 mask A.length l):=by
 intro l
 induction l with
 |nil=>
  intro A k hd hl hk
  obtain⟨k,rfl⟩:∃j,k=j+1:=⟨k-1,by simp at hk;omega⟩
  show QZ.b 1000000000000 mask (QZ.l 1000000000000 mask k) _=_
  unfold QZ.b
  rw[Qi (QG (by simp))]
  rfl
 | cons y l ih=>
  intro A k hd hl hk
  rw[List.length_cons]at hl hk
  obtain⟨k,rfl⟩:∃j,k=j+1:=⟨k-1,by omega⟩
  show QZ.b 1000000000000 mask (QZ.l 1000000000000 mask k) _=_
  unfold QZ.b
  rw[Qj (QT (by simp only[List.length_append,List.length_cons];omega))]
  simp only[jn]
  have hc:(!decide (IntKind.wrap .u64 (Int.tmod ((A.length:Nat):Int) 32)<0))=true:=by
   have:0≤IntKind.wrap .u64 (Int.tmod ((A.length:Nat):Int) 32):=by
    simp only[IntKind.wrap,IntKind.bits,IntKind.signed]
    simp
    omega
   simp;omega
  rw[hc]
  simp only[chk,Qg]
  have hg:(A++y::l)[A.length]?=some y:=by simp
  have next:∀z:It,z=Qc4 mask A.length y→QZ.l 1000000000000 mask k (IntKind.wrap .i64 (((A.length:Nat):Int)+1),w,n,h,sg,A++z::l)=some (w,n,h,sg,A++Qc5 mask A.length (y::l)):=fun z hz=>by
   have:=ih (A++ [z]) k (fun v hv=>hd v (List.mem_cons_of_mem _ hv)) (by simp;omega) (by omega)
   rw[wrap_succ (by omega)]
   rw[show(((A++ [z]).length:Nat):Int)=((A.length+1:Nat):Int) by simp,List.append_assoc,show(A++ [z]).length=A.length+1 by simp,List.append_assoc]at this
   simp only[Qc5]
   rw[←hz]
   exact this
  show(bif bitG mask A.length then _ else _)=_
  cases hb:bitG mask A.length with
  |true=>
   simp only[Qg]
   rw[bnd (JJ hg),bnd (JJ hg),bnd (QxI (Nat.le_refl _) (hd y List.mem_cons_self)),bnd (JJ hg),bnd (JJ hg),Int.toNat_natCast]
   rw[show(A++y::l).set A.length {y with fRec:=redS 1000000000000 y.fRec}=A++{y with fRec:=redS 1000000000000 y.fRec}::l by rw[List.set_append_right _ _ (Nat.le_refl _),Nat.sub_self];rfl]
   exact next _ (by unfold Qc4;rw[hb];rfl)
  |false=>
   simp only[Qh]
   exact next y (by unfold Qc4;rw[hb];rfl)
theorem Qm9{l:List Int}(hl:l.length<1000000):qB.f 1000000000000 l l=some true:=by
 unfold qB.f
 have key:∀(m i j:Nat),i+m=l.length→m<j→Ym.l 1000000000000 l l j ((i:Nat):Int)=some (.inr ()):=by
  intro m
  induction m with
  |zero=>
   intro i j hi hj
   obtain⟨j,rfl⟩:∃n,j=n+1:=⟨j-1,by omega⟩
   show Ym.b 1000000000000 l l (Ym.l 1000000000000 l l j) ((i:Nat):Int)=_
   unfold Ym.b
   rw[Qi (QG (by omega))]
  |succ m ih=>
   intro i j hi hj
   obtain⟨j,rfl⟩:∃n,j=n+1:=⟨j-1,by omega⟩
   show Ym.b 1000000000000 l l (Ym.l 1000000000000 l l j) ((i:Nat):Int)=_
   unfold Ym.b
   have hx:l[i]?=some l[i]:=List.getElem?_eq_getElem (by omega)
   rw[Qj (QT (by omega)),bnd (JJ hx),bnd (JJ hx)]
   simp only[decide_true,Bool.not_true,Qh]
   rw[wrap_succ (by omega)]
   exact ih (i+1) j (by omega) (by omega)
 have h:=key l.length 0 1000000000000 (by omega) (by omega)
 rw[Qi (by simp)]
 exact QD h rfl
theorem QlK{l:List Qu}(hl:l.length<1000000):Jc.f 1000000000000 l l=some true:=by
 unfold Jc.f
 have key:∀(m i j:Nat),i+m=l.length→m<j→QV.l 1000000000000 l l j ((i:Nat):Int)=some (.inr ()):=by
  intro m
  induction m with
  |zero=>
   intro i j hi hj
   obtain⟨j,rfl⟩:∃n,j=n+1:=⟨j-1,by omega⟩
   show QV.b 1000000000000 l l (QV.l 1000000000000 l l j) ((i:Nat):Int)=_
   unfold QV.b
   rw[Qi (QG (by omega))]
  |succ m ih=>
   intro i j hi hj
   obtain⟨j,rfl⟩:∃n,j=n+1:=⟨j-1,by omega⟩
   show QV.b 1000000000000 l l (QV.l 1000000000000 l l j) ((i:Nat):Int)=_
   unfold QV.b
   have hx:l[i]?=some l[i]:=List.getElem?_eq_getElem (by omega)
   rw[Qj (QT (by omega)),bnd (JJ hx),bnd (JJ hx)]
   simp only[decide_true,Bool.and_self,Bool.not_true,Qh]
   rw[wrap_succ (by omega)]
   exact ih (i+1) j (by omega) (by omega)
 have h:=key l.length 0 1000000000000 (by omega) (by omega)
 rw[Qi (by simp)]
 exact QD h rfl
theorem Qsw{x:Y7}(h1:x.fSagas.length<1000000)(h2:x.fLines.length<1000000):QaL.f 1000000000000 x x=some true:=by
 unfold QaL.f
 rw[Qj (by simp)]
 refine QD (Qm9 h1) ?_
 simp only[Qg]
 exact QD (QlK h2) rfl
theorem Qul{k:Qq}{limit:Int}{x:Bun}(hv:vBun x):(outA (runA k limit x)).2.1.length<1000∧(outA (runA k limit x)).2.2.length<1000:=by
 have h400:=hv.r.len
 rcases Bool.eq_false_or_eq_true x.fWhole with hw|hw
 ·rw[QeZ hv hw]
  cases h:runW k limit x with
  |inl e=>exact⟨by simp[outA],by simp[outA]⟩
  |inr v=>
   obtain⟨_,b,hb,h2⟩:=QxO h
   have:=(Qm6 _ _ _ hv.d Qf4 hb).1.n
   subst h2
   exact⟨by simp[outA,QwC];omega,by simp[outA];omega⟩
 ·rw[QhD hv hw]
  cases h:runI k limit x.fPoint x.fItems st0 with
  |inl e=>exact⟨by simp[outA],by simp[outA]⟩
  |inr z=>
   obtain⟨_,⟨q,h3,h4⟩,_⟩:=Qm0 _ _ _ (fun y hy=>(hv.r.items y hy).1) Qf6 h
   have:z.2.1.length<1000:=by rw[h3];simp[st0];omega
   exact⟨by simp[outA];omega,by simp[outA,Qeh];omega⟩
def QlL(mask:Int)(x:Bun):Bun:=⟨x.fWhole,x.fPoint,Qc5 mask 0 x.fItems⟩
theorem Qna{mask:Int}{x:Bun}(h:XQ x=true):XQ (QlL mask x)=true:=by
 unfold XQ QlL at*
 simp only[Qd,QlH]at h⊢
 exact⟨h.1,h.2.1,h.2.2.1,Qoc _ _ _ _ h.2.2.2⟩
theorem Qsx{mask:Int}{x:Bun}(h:Qhr x):Qhr (QlL mask x):=by
 refine⟨h.root,h.tags,fun z hz=> ?_,fun z hz=> ?_⟩
 ·obtain⟨y,hy,_,_,e⟩:=QhE mask x.fItems 0 z hz
  rcases e with e|e<;>rw[e]
  ·exact h.recs y hy
  ·exact Qwm (Nat.le_refl _) (h.recs y hy)
 ·obtain⟨y,hy,_,e,_⟩:=QhE mask x.fItems 0 z hz
  rw[e];exact h.path y hy
theorem Qsy{k:Qq}{limit mask:Int}{x:Bun}(hv:vBun x)(hg:vBun (QlL mask x)):runA k limit (QlL mask x)=runA k limit x:=by
 have hd:∀y∈x.fItems,okD y.fRec∧Yx y.fRec=true:=fun y hy=>⟨hv.d y hy,(hv.r.items y hy).1⟩
 rcases Bool.eq_false_or_eq_true x.fWhole with hw|hw
 ·rw[QeZ hv hw,QeZ hg hw]
  unfold runW QcE QlL
  simp only[QhF x.fItems 0 hd,QlJ x.fItems 0 bk0 hd]
 ·rw[QhD hv hw,QhD hg hw]
  unfold QlL
  simp only[QlI x.fItems 0 st0 hd]
theorem Qj9{K:Nat}(hK:K=1000000000000)(k:Qq)(limit:Int)(p:Qo)(b:List Int)(mask:Int)(hb:isB b):qi.f K k limit p b mask=some true:=by
 unfold qi.f
 rw[Qwv hK]
 subst hK
 simp only[Qb,Bool.not_true,Qh]
 rw[Qui]
 simp only[Qb]
 cases hg:(decide ((20:Int)<((k.fParts.length:Nat):Int))||(decide ((20:Int)<((k.fWits.length:Nat):Int))||decide ((4000:Int)<((b.length:Nat):Int))))with
 |true=>rfl
 | false=>
  obtain⟨g1,g2,g3⟩:=Qm8 hg
  have hl:b.length<1000000000:=by omega
  simp only[Qh]
  rw[Qsu,QuX (Nat.le_refl _) hb hl]
  simp only[Qb]
  by_cases h0:(getS b).2=0
  ·rw [Qi (by simp[h0])]
   obtain⟨_,ho,hr⟩:=QrX hb hl h0
   have hv:=QxL hb hl h0
   have ha:=QaZ ho
   have h400:=hv.r.len
   have hr2:=Qna (mask:=mask) hr
   have ha2:=Qsx (mask:=mask) ha
   have hv2:=Qsh (Qj0 hr2 ha2) hr2
   have hlp:=Qsv (mask:=mask) (w:=(getS b).1.fWhole) (n:=(getS b).1.fPoint.fSize) (h:=(getS b).1.fPoint.fRoot) (sg:=(getS b).1.fPoint.fSigs) (getS b).1.fItems [] 1000000000000 hv.d (by simp;omega) (by omega)
   refine QD hlp ?_
   simp only[List.nil_append,List.length_nil]
   have hput:=put_eq (K:=1000000000000) (Nat.le_refl _) (QjW (Qj0 hr2 ha2))
   rw[hr2]at hput
   refine QD hput ?_
   simp only[Qg]
   rw[bnd (Qn7 (Qwj ha2) (by have:=Qwi hr2;omega)),bnd (Qn7 hb hl)]
   have he:QcD k limit p.fSize p.fRoot (mark++bunW (QlL mask (getS b).1))=QcD k limit p.fSize p.fRoot b:=by
    unfold QcD
    rw[get_put hr2 ha2,h0,Qsy hv hv2]
    rfl
   rw[he]
   have hlen:(QcD k limit p.fSize p.fRoot b).2.1.length<1000∧(QcD k limit p.fSize p.fRoot b).2.2.length<1000:=by
    have:=Qul (k:=k) (limit:=limit) hv
    unfold QcD
    cases (mayK k&&inn limit 1 9)with
    |false=>exact⟨by simp,by simp⟩
    | true=>
     simp only[Qg]
     rw[Qj (QT h0)]
     cases decide (chkK k (getS b).1.fPoint=0)with
     |false=>exact⟨by simp,by simp⟩
     |true=>
      simp only[Qg]
      cases (decide ((getS b).1.fPoint.fSize=p.fSize)&&decide ((getS b).1.fPoint.fRoot=p.fRoot))with
      |false=>exact⟨by simp,by simp⟩
      |true=>exact this
   rw[bnd (Qsw (x:=⟨_,_,_⟩) (by simp only;omega) (by simp only;omega))]
  ·rw[Qj (by simp[h0])]
end Go.Proofs.YtomndohdnfebgaaGreatDoor
