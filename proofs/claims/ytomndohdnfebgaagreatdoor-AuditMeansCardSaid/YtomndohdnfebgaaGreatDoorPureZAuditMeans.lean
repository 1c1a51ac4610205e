/-
 Plain: AuditMeans.
-/
import Derived.Test.YtomndohdnfebgaaGreatDoorPureAw
namespace Go.Proofs.YtomndohdnfebgaaGreatDoor
open Go Go.Sep
def splN(n:Nat):Nat:=max 1 (min (n-1) (2^Nat.log2 (n-1)))
theorem QmD{n:Nat}(h:2≤n):0<splN n∧splN n<n:=by unfold splN;omega
theorem QvM:((List.range 402).all fun n=>decide (n<2)||decide (yh.f 1000000000000 (n:Int)=some ((splN n:Nat):Int)))=true:=by kernel_rfl
theorem Qxa{n:Nat}(h1:2≤n)(h2:n≤401):yh.f 1000000000000 (n:Int)=some ((splN n:Nat):Int):=by
 have h:=List.all_eq_true.1 QvM n (List.mem_range.2 (by omega))
 simp only[Bool.or_eq_true,decide_eq_true_eq]at h
 exact h.resolve_left (by omega)
theorem Qtq{n j:Nat}(h1:2^j<n)(h2:n≤2^(j+1)):splN n=2^j:=by
 have hp:0<2^j:=Nat.pow_pos (by omega)
 have:Nat.log2 (n-1)=j:=(Nat.log2_eq_iff (by omega)).2 ⟨by omega,by omega⟩
 unfold splN
 rw[this]
 omega
def QmE(a b:H32):H32:=(jR.f 1000000000000 a b).getD zH
theorem QmF(a b:H32):jR.f 1000000000000 a b=some (QmE a b):=gd (Qd2 a b)
def QvN:H32:=(shaQ.f 1000000000000 []).getD zH
theorem QmG:shaQ.f 1000000000000 []=some QvN:=by
 obtain⟨r,hr,_⟩:=Qc8 (K:=1000000000000) (Nat.le_refl _) (x:= []) (by simp) (by simp)
 exact gd ⟨r,hr⟩
def yD(l:List H32):H32:=
 if l.length<2 then l.headD QvN else QmE (yD (l.take (splN l.length))) (yD (l.drop (splN l.length)))
termination_by l.length
decreasing_by
 ·have:=QmD (n:=l.length) (by omega);simp only[List.length_take];omega
 ·have:=QmD (n:=l.length) (by omega);simp only[List.length_drop];omega
theorem Qhh:yD []=QvN:=by rw[yD];rfl
theorem Qle(x:H32):yD [x]=x:=by rw[yD];rfl
theorem Qlf{l:List H32}(h:2≤l.length):yD l=QmE (yD (l.take (splN l.length))) (yD (l.drop (splN l.length))):=by
 conv=>lhs;rw[yD]
 rw[if_neg (by omega)]
theorem Qxb:∀(n:Nat) (l:List H32) (k:Nat),l.length≤n→l.length≤401→n<k→Jr.r 1000000000000 k l=some (yD l):=by
 intro n
 induction n with
 |zero=>
  intro l k h _ hk
  obtain⟨k,rfl⟩:∃j,k=j+1:=⟨k-1,by omega⟩
  have e:l= []:=List.eq_nil_of_length_eq_zero (by omega)
  subst e
  show Jr.b 1000000000000 (Jr.r 1000000000000 k) []=_
  unfold Jr.b
  rw[Qj (by rfl),Qhh,bnd QmG]
 | succ n ih=>
  intro l k h h50 hk
  obtain⟨k,rfl⟩:∃j,k=j+1:=⟨k-1,by omega⟩
  show Jr.b 1000000000000 (Jr.r 1000000000000 k) l=_
  unfold Jr.b
  by_cases h0:l.length=0
  ·have e:l= []:=List.eq_nil_of_length_eq_zero h0
   subst e
   rw[Qj (by rfl),Qhh,bnd QmG]
  rw[Qi (QP (by omega))]
  by_cases h1:l.length=1
  ·obtain⟨x,rfl⟩:∃x,l= [x]:=by
    cases l with
    |nil=>cases h1
    |cons x l=>exact⟨x,by simp at h1;rw[h1]⟩
   rw[Qle];rfl
  rw[Qi (QP (by omega))]
  have hs:=QmD (n:=l.length) (by omega)
  rw[bnd (Qxa (by omega) h50),bnd (ZC (by omega)),bnd (Qbg (by omega)),bnd (ih (l.take (splN l.length)) k (by simp;omega) (by simp;omega) (by omega)),bnd (ih (l.drop (splN l.length)) k (by simp;omega) (by simp;omega) (by omega)),bnd (QmF _ _),←Qlf (l:=l) (by omega)]
theorem QvO{l:List H32}(h:l.length≤401):Jr.f 1000000000000 l=some (yD l):=Qxb 401 l _ h h (by omega)
theorem Qlg{b m:List H32}{j:Nat}(hb:b.length=2^j)(h1:0<m.length)(h2:m.length≤2^j):yD (b++m)=QmE (yD b) (yD m):=by
 have hp:0<2^j:=Nat.pow_pos (by omega)
 have hl:splN (b++m).length=2^j:=Qtq (by simp;omega) (by rw[Nat.pow_succ];simp;omega)
 rw[Qlf (by simp;omega),hl,←hb,List.take_left,List.drop_left]
def frS(j c:Nat)(l:List H32):List H32:=
 if c=0 then []else if c%2=1 then frS (j+1) (c/2) (l.take ((c-1)*2^j))++ [yD (l.drop ((c-1)*2^j))]else frS (j+1) (c/2) l
termination_by c
decreasing_by
 ·omega
 ·omega
theorem QrK(j:Nat)(l:List H32):frS j 0 l= []:=by rw[frS];rfl
theorem Qhi{j c:Nat}{l:List H32}(h:c%2=1):frS j c l=frS (j+1) (c/2) (l.take ((c-1)*2^j))++ [yD (l.drop ((c-1)*2^j))]:=by
 conv=>lhs;rw[frS]
 rw[if_neg (by omega),if_pos h]
theorem Qd4{j c:Nat}{l:List H32}(h:c%2=0):frS j c l=frS (j+1) (c/2) l:=by
 by_cases h0:c=0
 ·subst h0;rw[QrK,show 0/2=0 from rfl,QrK]
 ·conv=>lhs;rw[frS]
  rw[if_neg h0,if_neg (by omega)]
theorem QjM{c j:Nat}(h:c%2=1):(c-1)*2^j=c/2*2^(j+1):=by
 rw[Nat.pow_succ,show c-1=c/2*2 by omega,Nat.mul_assoc,Nat.mul_comm 2]
theorem QjN{c j:Nat}(h:0<c):c*2^j=(c-1)*2^j+2^j:=by
 conv=>lhs;rw[show c=(c-1)+1 by omega]
 rw[Nat.add_mul,Nat.one_mul]
theorem QmH:∀(c j:Nat) (l:List H32),(frS j c l).length≤c:=by
 intro c
 induction c using Nat.strongRecOn with
 | _ c ih=>
  intro j l
  by_cases h0:c=0
  ·subst h0;rw[QrK];simp
  ·by_cases h2:c%2=1
   ·rw[Qhi h2]
    have:=ih (c/2) (by omega) (j+1) (l.take ((c-1)*2^j))
    simp;omega
   ·rw[Qd4 (by omega)]
    have:=ih (c/2) (by omega) (j+1) l
    omega
theorem QoT:∀(c j k:Nat) (l m:List H32) (n:Int),l.length=c*2^j→m.length=2^j→l.length+m.length≤401→c<k→c<1000000→
  ∃S h,YJ.l 1000000000000 k ((c:Int),frS j c l,n,yD m)=some (S,n,h)∧S++ [h]=frS j (c+1) (l++m):=by
 intro c
 induction c using Nat.strongRecOn with
 | _ c ih=>
  intro j k l m n hl hm h4 hk hc
  obtain⟨k,rfl⟩:∃j,k=j+1:=⟨k-1,by omega⟩
  have hp:0<2^j:=Nat.pow_pos (by omega)
  show ∃S h,YJ.b 1000000000000 (YJ.l 1000000000000 k) ((c:Int),frS j c l,n,yD m)=some (S,n,h)∧_
  unfold YJ.b
  have e1:Int.tmod (c:Int) 2=((c%2:Nat):Int):=rfl
  have e2:Int.tdiv (c:Int) 2=((c/2:Nat):Int):=rfl
  simp only[e1,e2]
  by_cases h2:c%2=1
  ·rw[Qj (QS (by omega)),Qhi h2]
   have h5:=QjN (c:=c) (j:=j) (by omega)
   generalize hb:l.drop ((c-1)*2^j)=b
   generalize hq:l.take ((c-1)*2^j)=l'
   have hlb:l'++b=l:=by rw[←hb,←hq,List.take_append_drop]
   have hb1:b.length=2^j:=by rw[←hb,List.length_drop];omega
   have hq1:l'.length=c/2*2^(j+1):=by rw[←QjM h2,←hq,List.length_take];omega
   have hfr:∀(S:List H32) (h:H32),(S++ [h]).length<100000→Jk.f 1000000000000 (S++ [h]) n=some (h,S,n):=fun S h hS=>by
    unfold Jk.f
    have ew:IntKind.wrap .i64 ((((S++ [h]).length:Nat):Int)-1)=((S.length:Nat):Int):=by
     rw[wrap64 (by simp<;>omega) (by omega)];simp
    rw[ew,bnd (Js (x:=h) (by simp)),bnd (Js (x:=h) (by simp)),bnd (Qbg (by simp)),List.take_left]
   have hcl:c≤l.length:=by rw[hl];exact Nat.le_mul_of_pos_right c hp
   rw[bnd (hfr _ _ (by have:=QmH (c/2) (j+1) l';simp;omega)),bnd (QmF _ _),←Qlg hb1 (by omega) (by omega),wrap64 (by omega) (by omega)]
   obtain⟨S,h,r1,r2⟩:=ih (c/2) (by omega) (j+1) k l' (b++m) n hq1 (by rw[Nat.pow_succ];simp;omega) (by have:=congrArg List.length hlb;simp at this⊢;omega) (by omega) (by omega)
   refine⟨S,h,r1,?_⟩
   rw[r2,Qd4 (c:=c+1) (by omega),show(c+1)/2=c/2+1 by omega,←hlb,List.append_assoc]
  ·rw[Qi (QP (by omega))]
   refine⟨_,_,rfl,?_⟩
   rw[Qhi (c:=c+1) (by omega),Nat.add_sub_cancel,←hl,List.take_left,List.drop_left,Qd4 (by omega),show(c+1)/2=c/2 by omega]
theorem QrL{l:List H32}(h:H32)(hl:l.length≤400):qX.f 1000000000000 h (frS 0 l.length l) ((l.length:Nat):Int)=some (frS 0 (l.length+1) (l++ [h]),((l.length+1:Nat):Int)):=by
 unfold qX.f
 obtain⟨S,g,h1,h2⟩:=QoT l.length 0 1000000000000 l [h] ((l.length:Nat):Int) (by simp) (by simp) (by simp;omega) (by omega) (by omega)
 rw[Qle]at h1
 rw[bnd h1]
 unfold Jz.f
 have h3:=QmH (l.length+1) 0 (l++ [h])
 rw[←h2]at h3
 rw[bnd (Y4 (by simp at h3⊢;omega)),h2]
 simp only[Qb]
 rw[wrap_succ (by omega)]
theorem Qtr:∀(c j:Nat) (l m:List H32),l.length=c*2^j→0<m.length→m.length≤2^j→(frS j c l).foldr QmE (yD m)=yD (l++m):=by
 intro c
 induction c using Nat.strongRecOn with
 | _ c ih=>
  intro j l m hl h1 h2
  have hp:0<2^j:=Nat.pow_pos (by omega)
  by_cases h0:c=0
  ·subst h0
   have:l= []:=List.eq_nil_of_length_eq_zero (by omega)
   rw[QrK,this];rfl
  by_cases h3:c%2=1
  ·have h5:=QjN (c:=c) (j:=j) (by omega)
   rw[Qhi h3,List.foldr_append]
   generalize hb:l.drop ((c-1)*2^j)=b
   generalize hq:l.take ((c-1)*2^j)=l'
   have hlb:l'++b=l:=by rw[←hb,←hq,List.take_append_drop]
   have hb1:b.length=2^j:=by rw[←hb,List.length_drop];omega
   have hq1:l'.length=c/2*2^(j+1):=by rw[←QjM h3,←hq,List.length_take];omega
   simp only[List.foldr_cons,List.foldr_nil]
   rw[←Qlg hb1 h1 h2,ih (c/2) (by omega) (j+1) l' (b++m) hq1 (by simp;omega) (by rw[Nat.pow_succ];simp;omega),←hlb,List.append_assoc]
  ·rw[Qd4 (by omega)]
   refine ih (c/2) (by omega) (j+1) l m ?_ h1 (by rw[Nat.pow_succ];omega)
   rw[hl,Nat.pow_succ,Nat.mul_comm (2^j) 2,←Nat.mul_assoc,show c/2*2=c by omega]
theorem Qts:∀(c j:Nat) (l:List H32),l.length=c*2^j→0<c→∃S t,frS j c l=S++ [t]∧S.foldr QmE t=yD l:=by
 intro c
 induction c using Nat.strongRecOn with
 | _ c ih=>
  intro j l hl h0
  have hp:0<2^j:=Nat.pow_pos (by omega)
  by_cases h3:c%2=1
  ·have h5:=QjN (c:=c) (j:=j) (by omega)
   refine⟨_,_,Qhi h3,?_⟩
   have hb1:(l.drop ((c-1)*2^j)).length=2^j:=by rw[List.length_drop];omega
   rw[Qtr (c/2) (j+1) _ _ (by rw[←QjM h3,List.length_take];omega) (by omega) (by rw[Nat.pow_succ];omega),List.take_append_drop]
  ·rw[Qd4 (by omega)]
   refine ih (c/2) (by omega) (j+1) l ?_ (by omega)
   rw[hl,Nat.pow_succ,Nat.mul_comm (2^j) 2,←Nat.mul_assoc,show c/2*2=c by omega]
theorem QoU{S:List H32}{n:Int}(hS:S.length<100000):∀(j k:Nat) (h:H32),j≤S.length→j<k→QR.l 1000000000000 (S,n) k ((j:Int)-1,h,false)=some ((S.take j).foldr QmE h,false):=by
 intro j
 induction j with
 |zero=>
  intro k h hj hk
  obtain⟨k,rfl⟩:∃j,k=j+1:=⟨k-1,by omega⟩
  show QR.b 1000000000000 (S,n) (QR.l 1000000000000 (S,n) k) (((0:Nat):Int)-1,h,false)=_
  unfold QR.b
  rw[Qi (by simp)];rfl
 |succ j ih=>
  intro k h hj hk
  obtain⟨k,rfl⟩:∃j,k=j+1:=⟨k-1,by omega⟩
  show QR.b 1000000000000 (S,n) (QR.l 1000000000000 (S,n) k) (((j+1:Nat):Int)-1,h,false)=_
  have e:(((j+1:Nat):Int)-1)=(j:Int):=by omega
  rw[e]
  unfold QR.b
  have hx:S[j]?=some S[j]:=List.getElem?_eq_getElem (by omega)
  rw[Qj (QS (by simp only;omega))]
  simp only[jn]
  rw[bnd (Js hx),bnd (Js hx)]
  simp only[Qh]
  rw[bnd (QmF _ _),wrap64 (by omega) (by omega),ih k _ (by omega) (by omega),List.take_add_one,hx,List.foldr_append]
  simp only[Option.toList,List.foldr_cons,List.foldr_nil]
theorem QoV{l:List H32}(h400:l.length≤401):ql.f 1000000000000 (frS 0 l.length l) ((l.length:Nat):Int)=some (yD l,frS 0 l.length l,((l.length:Nat):Int)):=by
 unfold ql.f yL.f JA.f
 simp only[Qb]
 by_cases h0:l.length=0
 ·have e:l= []:=List.eq_nil_of_length_eq_zero h0
  subst e
  rw[Qj (by rfl),Qhh,bnd QmG]
 rw[Qi (QP (by omega))]
 obtain⟨S,t,h1,h2⟩:=Qts l.length 0 l (by simp) (by omega)
 have h3:=QmH l.length 0 l
 rw[h1]at h3⊢
 have hS:S.length<401:=by simp at h3;omega
 have e:IntKind.wrap .i64 ((((S++ [t]).length:Nat):Int)-1)=((S.length:Nat):Int):=by
  rw[wrap64 (by simp<;>omega) (by simp<;>omega)];simp
 have hb:∀k,500<k→QR.l 1000000000000 (S++ [t],((l.length:Nat):Int)) k (((S.length:Nat):Int),Vector.replicate 32 0,true)=some (yD l,false):=fun k hk=>by
  obtain⟨k,rfl⟩:∃j,k=j+1:=⟨k-1,by omega⟩
  show QR.b 1000000000000 (S++ [t],((l.length:Nat):Int)) (QR.l 1000000000000 (S++ [t],((l.length:Nat):Int)) k) (((S.length:Nat):Int),Vector.replicate 32 0,true)=_
  unfold QR.b
  rw[Qj (QS (by simp only;omega))]
  simp only[jn]
  rw[bnd (Js (x:=t) (by simp)),bnd (Js (x:=t) (by simp))]
  simp only[Qg]
  rw[wrap64 (by omega) (by omega),QoU (by simp;omega) S.length _ _ (by simp) (by omega),List.take_left,h2]
 rw[e]
 exact QD (hb 1000000000000 (by omega)) rfl
end Go.Proofs.YtomndohdnfebgaaGreatDoor
namespace Go.Proofs.YtomndohdnfebgaaGreatDoor
open Go Go.Sep
def goB(b:Bk)(x:Rc)(limit:Int):Bk×Bool:=(QcU.f 1000000000000 b x limit).getD (b,false)
theorem QrM{b:Bk}{x:Rc}{limit:Int}(hb:okK b)(hx:okD x):QcU.f 1000000000000 b x limit=some (goB b x limit)∧okK (goB b x limit).1:=by
 obtain⟨r,h1,h2⟩:=QrA (limit:=limit) hb hx
 have:goB b x limit=r:=by unfold goB;rw[h1];rfl
 rw[this];exact⟨h1,h2⟩
def runB(k:Qo)(limit:Int):List It→Bk→Sum Int Bk
 | [],b=> .inr b
 |y::l,b=>bif rcK k y.fRec then(bif (goB b y.fRec limit).2 then runB k limit l (goB b y.fRec limit).1 else .inl 9)else .inl 7
def lftB:Sum Int Bk→Sum (Sum Int VdT) Bk
 | .inl e=> .inl (.inl e)
 | .inr b=> .inr b
theorem QrN{x:Bun}(hv:vBun x){k0:Qo}{limit:Int}:∀(l:List It) (i k:Nat) (b:Bk),x.fItems.drop i=l→i≤x.fItems.length→l.length<k→okK b→
  QL.l 1000000000000 ⟨k0,limit⟩ x k ((i:Int),b)=some (lftB (runB k0 limit l b)):=by
 have h400:=hv.r.len
 intro l
 induction l with
 |nil=>
  intro i k b hl hi hk hb
  obtain⟨k,rfl⟩:∃j,k=j+1:=⟨k-1,by simp at hk;omega⟩
  have hi2:x.fItems.length≤i:=by simpa using hl
  show QL.b 1000000000000 ⟨k0,limit⟩ x (QL.l 1000000000000 ⟨k0,limit⟩ x k) ((i:Int),b)=_
  unfold QL.b
  rw[Qi (QP (by simp only;omega))]
  rfl
 | cons y l ih=>
  intro i k b hl hi hk hb
  obtain⟨k,rfl⟩:∃j,k=j+1:=⟨k-1,by simp at hk;omega⟩
  have hlt:i<x.fItems.length:=by
   have:=congrArg List.length hl
   simp at this;omega
  have hy:x.fItems[i]?=some y:=by
   have:=congrArg (fun(l:List It)=>l[0]?) hl
   simpa using this
  have hd:x.fItems.drop (i+1)=l:=by rw[←List.drop_drop,hl];rfl
  have hm:y∈x.fItems:=List.mem_of_getElem? hy
  show QL.b 1000000000000 ⟨k0,limit⟩ x (QL.l 1000000000000 ⟨k0,limit⟩ x k) ((i:Int),b)=_
  unfold QL.b runB
  rw[Qj (QS (by simp only;omega)),bnd (Js hy),QeJ (hv.d y hm) (Qe5 (hv.b y hm).tag)]
  cases rcK k0 y.fRec with
  |false=>rfl
  | true=>
   obtain⟨h1,h2⟩:=QrM (limit:=limit) hb (hv.d y hm)
   simp only[Qg,sm]
   rw[bnd h1]
   have:=ih (i+1) k (goB b y.fRec limit).1 hd (by omega) (by simp at hk;omega) h2
   cases (goB b y.fRec limit).2 with
   |false=>rfl
   |true=>
    rw[wrap_succ (by omega)]
    exact this
theorem QjO{k:Qo}{limit:Int}:∀(l:List It) (b z:Bk),(∀y∈l,okD y.fRec)→okK b→runB k limit l b= .inr z→okK z∧∀y∈l,rcK k y.fRec=true
 | [],b,z,_,hb,h=>by cases h;exact⟨hb,fun _ h=>by cases h⟩
 | y::l,b,z,hd,hb,h=>by
  unfold runB at h
  cases h1:rcK k y.fRec with
  |false=>rw[h1]at h;cases h
  | true=>
   rw[h1]at h
   simp only[Qg]at h
   cases h2:(goB b y.fRec limit).2 with
   |false=>rw[h2]at h;cases h
   |true=>
    rw[h2]at h
    obtain⟨h3,h4⟩:=QjO l _ z (fun y hy=>hd y (List.mem_cons_of_mem _ hy)) (QrM hb (hd y List.mem_cons_self)).2 h
    refine⟨h3,fun x hx=> ?_⟩
    rcases List.mem_cons.1 hx with rfl|hx
    ·exact h1
    ·exact h4 x hx
theorem QvP{k:Qo}{limit:Int}:∀{l:List It} {b:Bk} {e:Int},runB k limit l b= .inl e→e≠0:=by
 intro l
 induction l with
 |nil=>intro b e h;cases h
 | cons y l ih=>
  intro b e h
  unfold runB at h
  cases h1:rcK k y.fRec with
  |false=>rw[h1]at h;cases h;decide
  |true=>
   rw[h1]at h
   simp only[Qg]at h
   cases h2:(goB b y.fRec limit).2 with
   |false=>rw[h2]at h;cases h;decide
   |true=>rw[h2]at h;exact ih h
theorem QmI{x:Bun}(hv:vBun x):∀(m i k:Nat),i+m=x.fItems.length→m<k→
  QK.l 1000000000000 x k ((i:Int),frS 0 i ((x.fItems.take i).map fun y=>Qbf y.fRec),(i:Int))=some (frS 0 x.fItems.length (x.fItems.map fun y=>Qbf y.fRec),((x.fItems.length:Nat):Int)):=by
 have h400:=hv.r.len
 intro m
 induction m with
 |zero=>
  intro i k hi hk
  obtain⟨k,rfl⟩:∃j,k=j+1:=⟨k-1,by omega⟩
  have e:i=x.fItems.length:=by omega
  subst e
  show QK.b 1000000000000 x (QK.l 1000000000000 x k) _=_
  unfold QK.b
  rw[Qi (QP (by simp only;omega)),List.take_length]
 |succ m ih=>
  intro i k hi hk
  obtain⟨k,rfl⟩:∃j,k=j+1:=⟨k-1,by omega⟩
  show QK.b 1000000000000 x (QK.l 1000000000000 x k) _=_
  unfold QK.b
  have hy:x.fItems[i]?=some x.fItems[i]:=List.getElem?_eq_getElem (by omega)
  have hm:x.fItems[i]∈x.fItems:=List.getElem_mem (by omega)
  rw[Qj (QS (by simp only;omega)),bnd (Js hy),bnd (QfR (hv.d _ hm) (hv.r.items _ hm).1)]
  have hl:((x.fItems.take i).map fun y=>Qbf y.fRec).length=i:=by simp;omega
  have h1:=QrL (l:=(x.fItems.take i).map fun y=>Qbf y.fRec) (Qbf x.fItems[i].fRec) (by omega)
  rw[hl]at h1
  rw[bnd h1]
  have h2:=ih (i+1) k (by omega) (by omega)
  rw[List.take_add_one,hy,List.map_append]at h2
  rw[wrap_succ (by omega)]
  exact h2
theorem Qlh{b:Bk}(hb:b.fSagas.length≤12):jX.f 1000000000000 b=some (b.fSagas.map Qhg):=by
 unfold jX.f
 have key:∀(m i k:Nat) (l:List Qp),i+m=b.fSagas.length→m<k→l=(b.fSagas.map Qhg).take i→Yk.l 1000000000000 b k (l,(i:Int))=some (b.fSagas.map Qhg):=by
  intro m
  induction m with
  |zero=>
   intro i k l hi hk hl
   obtain⟨k,rfl⟩:∃j,k=j+1:=⟨k-1,by omega⟩
   show Yk.b 1000000000000 b (Yk.l 1000000000000 b k) (l,(i:Int))=_
   unfold Yk.b
   rw[Qi (QP (by simp only;omega)),hl,List.take_of_length_le (by simp;omega)]
  |succ m ih=>
   intro i k l hi hk hl
   obtain⟨k,rfl⟩:∃j,k=j+1:=⟨k-1,by omega⟩
   have hll:l.length=i:=by rw[hl];simp;omega
   show Yk.b 1000000000000 b (Yk.l 1000000000000 b k) (l,(i:Int))=_
   unfold Yk.b
   have hx:b.fSagas[i]?=some b.fSagas[i]:=List.getElem?_eq_getElem (by omega)
   rw[Qj (QS (by simp only;omega)),bnd (Js hx),bnd (QnF _),bnd (Y4 (by simp only[List.length_singleton];omega)),wrap_succ (by omega)]
   refine ih (i+1) k _ (by omega) (by omega) ?_
   rw[hl,List.take_add_one,List.getElem?_map,hx];rfl
 have ht:Yk.l 1000000000000 b 1000000000000 ([],0)=some (b.fSagas.map Qhg):=key b.fSagas.length 0 1000000000000 [] (by omega) (by omega) rfl
 exact QD ht rfl
def bk0:Bk:=⟨Vector.replicate 4 0, []⟩
def QvQ(n:Nat):List Int:=(List.range n).map fun n=>((n:Nat):Int)
def Qaf(x:Bun):List H32:=x.fItems.map fun y=>Qbf y.fRec
def runW(k:Qo)(limit:Int)(x:Bun):Sum Int VdT:=
 bif decide (yD (Qaf x)=x.fPoint.fRoot)then(match runB k limit x.fItems bk0 with
  | .inl e=> .inl e
  | .inr b=> .inr (0,QvQ b.fSagas.length,b.fSagas.map Qhg))else .inl 6
theorem Qtt{x:Bun}(hv:vBun x)(k0:Qo)(limit:Int):YQ.fs 1000000000000 ⟨k0,limit⟩ x=some (runW k0 limit x):=by
 have h400:=hv.r.len
 unfold YQ.fs runW
 have h1:=QmI hv x.fItems.length 0 1000000000000 (by omega) (by omega)
 rw[List.take_zero,List.map_nil,QrK]at h1
 refine QD h1 ?_
 have h2:=QoV (l:=Qaf x) (by unfold Qaf;simp;omega)
 have hll:(Qaf x).length=x.fItems.length:=by unfold Qaf;simp
 rw[hll]at h2
 refine QD h2 ?_
 refine Qda (fun h=>by rw[h];rfl) (fun h=> ?_)
 rw[h]
 simp only[Qg]
 have h3:=QrN hv (k0:=k0) (limit:=limit) x.fItems 0 1000000000000 bk0 rfl (by omega) (by omega) Qcz
 refine QD h3 ?_
 cases hr:runB k0 limit x.fItems bk0 with
 |inl e=>rfl
 |inr b=>
  obtain⟨hb,_⟩:=QjO _ _ _ (fun y hy=>hv.d y hy) Qcz hr
  refine QD (Qlh hb.n) ?_
  have h5:=QnD hb.n (c:=0) (r:=b.fSagas.map Qhg) b.fSagas.length 0 1000000000000 [] (by omega) (by have:=hb.n;omega) rfl
  exact QD h5 rfl
theorem Qiq{k:Qo}{limit:Int}{x:Bun}(hv:vBun x)(hw:x.fWhole=true):runA k limit x=runW k limit x:=by
 unfold runA
 rw[hw]
 simp only[Qg]
 rw[Qtt hv];rfl
def Xv(x:Bun):List Rc:=x.fItems.map (·.fRec)
theorem QvR{x:Bun}(h400:x.fItems.length≤400):qc.f 1000000000000 x=some (Xv x):=by
 unfold qc.f
 have key:∀(m i k:Nat) (l:List Rc),i+m=x.fItems.length→m<k→l=(Xv x).take i→Yf.l 1000000000000 x k (l,(i:Int))=some (Xv x):=by
  intro m
  induction m with
  |zero=>
   intro i k l hi hk hl
   obtain⟨k,rfl⟩:∃j,k=j+1:=⟨k-1,by omega⟩
   show Yf.b 1000000000000 x (Yf.l 1000000000000 x k) (l,(i:Int))=_
   unfold Yf.b
   rw[Qi (QP (by simp only;omega)),hl,List.take_of_length_le (by simp[Xv];omega)]
  |succ m ih=>
   intro i k l hi hk hl
   obtain⟨k,rfl⟩:∃j,k=j+1:=⟨k-1,by omega⟩
   have hll:l.length=i:=by rw[hl];simp[Xv];omega
   show Yf.b 1000000000000 x (Yf.l 1000000000000 x k) (l,(i:Int))=_
   unfold Yf.b
   have hx:x.fItems[i]?=some x.fItems[i]:=List.getElem?_eq_getElem (by omega)
   rw[Qj (QS (by simp only;omega)),bnd (Js hx),bnd (Y4 (by simp only[List.length_singleton];omega)),wrap_succ (by omega)]
   refine ih (i+1) k _ (by omega) (by omega) ?_
   rw[hl,List.take_add_one]
   unfold Xv
   rw[List.getElem?_map,hx];rfl
 have ht:Yf.l 1000000000000 x 1000000000000 ([],0)=some (Xv x):=key x.fItems.length 0 1000000000000 [] (by omega) (by omega) rfl
 exact QD ht rfl
theorem QoW{x:Rc}(hx:okD x)(hr:YM x=true){q:H32}(h:Qap.f 1000000000000 (Qfw 1000000000000 x)=some q):Qbf x=q:=by
 have hse:=QmA (K:=1000000000000) (Nat.le_refl _) hx
 rw[hr]at hse
 have:jE.f 1000000000000 x=some q:=by
  unfold jE.f
  exact QD (x:=Qfw 1000000000000 x) hse (QD h rfl)
 unfold Qbf
 rw[this];rfl
theorem QrO{l:List Rc}(h:okR l)(hr:l.all YM=true):qK.f 1000000000000 l=some (l.map Qbf):=by
 unfold qK.f
 have h50:=h.1
 refine QD (Qrp h) ?_
 rw[hr,Qi (by rfl)]
 have key:∀(m i:Nat) (out:List H32) (k:Nat),i+m=l.length→m<k→out=(l.map Qbf).take i→YR.l 1000000000000 l k (out,(i:Int))=some (l.map Qbf):=by
  intro m
  induction m with
  |zero=>
   intro i out k hi hk ho
   obtain⟨k,rfl⟩:∃j,k=j+1:=⟨k-1,by omega⟩
   show YR.b 1000000000000 l (YR.l 1000000000000 l k) _=_
   unfold YR.b
   rw[Qi (QP (by simp only;omega)),ho,List.take_of_length_le (by simp;omega)]
  |succ m ih=>
   intro i out k hi hk ho
   obtain⟨k,rfl⟩:∃j,k=j+1:=⟨k-1,by omega⟩
   have hx:l[i]?=some l[i]:=List.getElem?_eq_getElem (by omega)
   have hm:l[i]∈l:=List.getElem_mem (by omega)
   have hxr:=List.all_eq_true.1 hr _ hm
   have hse:=QmA (K:=1000000000000) (Nat.le_refl _) (h.2 _ hm)
   rw[hxr]at hse
   have hsl:=Qhb (K:=1000000000000) hxr
   obtain⟨q,hq⟩:=Qnx (b:=Qfw 1000000000000 l[i]) (by omega)
   have hlen:out.length=i:=by rw[ho];simp;omega
   show YR.b 1000000000000 l (YR.l 1000000000000 l k) _=_
   unfold YR.b
   rw[Qj (QS (by simp only;omega)),bnd (Js hx)]
   refine QD (x:=Qfw 1000000000000 l[i]) hse ?_
   rw[bnd hq,bnd (Y4 (by simp only[List.length_singleton];omega)),wrap_succ (by omega)]
   refine ih (i+1) _ k (by omega) (by omega) ?_
   rw[ho,List.take_add_one,List.getElem?_map,hx,←QoW (h.2 _ hm) hxr hq];rfl
 have ht:YR.l 1000000000000 l 1000000000000 ([],0)=some (l.map Qbf):=key l.length 0 [] 1000000000000 (by omega) (by omega) rfl
 exact QD ht rfl
theorem of_run{k:Qo}{limit:Int}{L:List Rc}(hL:L.length<1000)(hd:∀x∈L,okD x):∀(l:List It) (i j:Nat) (b z:Bk),L.drop i=l.map (·.fRec)→i≤L.length→l.length<j→okK b→runB k limit l b= .inr z→
  qY.l 1000000000000 L limit j ((i:Int),b)=some (.inr z):=by
 intro l
 induction l with
 |nil=>
  intro i j b z hl hi hj hb hr
  obtain⟨j,rfl⟩:∃n,j=n+1:=⟨j-1,by simp at hj;omega⟩
  cases hr
  have hi2:L.length≤i:=by simpa using hl
  show qY.b 1000000000000 L limit (qY.l 1000000000000 L limit j) ((i:Int),b)=_
  unfold qY.b
  rw[Qi (QP (by simp only;omega))]
 | cons y l ih=>
  intro i j b z hl hi hj hb hr
  obtain⟨j,rfl⟩:∃n,j=n+1:=⟨j-1,by simp at hj;omega⟩
  rw[List.map_cons]at hl
  have hlt:i<L.length:=by
   have:=congrArg List.length hl
   simp at this;omega
  have hy:L[i]?=some y.fRec:=by
   have:=congrArg (fun(l:List Rc)=>l[0]?) hl
   simpa using this
  have hdr:L.drop (i+1)=l.map (·.fRec):=by rw[←List.drop_drop,hl];rfl
  obtain⟨h1,h2⟩:=QrM (limit:=limit) hb (hd _ (List.mem_of_getElem? hy))
  unfold runB at hr
  cases h3:rcK k y.fRec with
  |false=>rw[h3]at hr;cases hr
  | true=>
   rw[h3]at hr
   simp only[Qg]at hr
   cases h4:(goB b y.fRec limit).2 with
   |false=>rw[h4]at hr;cases hr
   |true=>
    rw[h4]at hr
    show qY.b 1000000000000 L limit (qY.l 1000000000000 L limit j) ((i:Int),b)=_
    unfold qY.b
    rw[Qj (QS (by simp only;omega)),bnd (Js hy),bnd h1,h4,wrap_succ (by omega)]
    exact ih (i+1) j _ z hdr (by omega) (by simp at hj;omega) h2 hr
theorem Qxc{k:Qo}{limit:Int}{x:Bun}(hv:vBun x){z:Bk}(hr:runB k limit x.fItems bk0= .inr z):QiH.f 1000000000000 (Xv x) limit=some (z,(((Xv x).length:Nat):Int)):=by
 have h400:=hv.r.len
 unfold QiH.f
 have h:=of_run (L:=Xv x) (k:=k) (limit:=limit) (by simp[Xv];omega) (fun y hy=>by
  obtain⟨w,hw,rfl⟩:=List.mem_map.1 hy
  exact hv.d w hw) x.fItems 0 1000000000000 bk0 z rfl (by omega) (by omega) Qcz hr
 exact QD h rfl
end Go.Proofs.YtomndohdnfebgaaGreatDoor
namespace Go.Proofs.YtomndohdnfebgaaGreatDoor
open Go Go.Sep
theorem Qtu{K:Nat}(k:Qo)(b:List Int):JY.f K k b=some (decide ((20:Int)<((k.fParts.length:Nat):Int))||(decide ((20:Int)<((k.fWits.length:Nat):Int))||decide ((4000:Int)<((b.length:Nat):Int)))):=by
 unfold JY.f
 cases decide ((20:Int)<((k.fParts.length:Nat):Int))with
 |true=>rfl
 |false=>cases decide ((20:Int)<((k.fWits.length:Nat):Int))<;>rfl
theorem QmJ{k:Qo}{b:List Int}(h:(decide ((20:Int)<((k.fParts.length:Nat):Int))||(decide ((20:Int)<((k.fWits.length:Nat):Int))||decide ((4000:Int)<((b.length:Nat):Int))))=false):k.fParts.length≤20∧k.fWits.length≤20∧b.length≤4000:=by
 simp only[Bool.or_eq_false_iff,decide_eq_false_iff_not]at h
 omega
structure vldA(k:Qo)(limit size:Int)(root:H32)(b:List Int):Prop where
 may:mayK k=true
 lim:inn limit 1 9=true
 get:(getS b).2=0
 chk:chkK k (getS b).1.fPoint=0
 size:(getS b).1.fPoint.fSize=size
 root:(getS b).1.fPoint.fRoot=root
 run:(outA (runA k limit (getS b).1)).1=0
theorem Qxd{k:Qo}{limit size:Int}{root:H32}{b:List Int}(h:(Zq k limit size root b).1=0):vldA k limit size root b:=by
 unfold Zq at h
 cases h1:(mayK k&&inn limit 1 9)with
 |false=>rw[h1]at h;cases h
 | true=>
  rw[h1]at h
  simp only[Qd]at h1
  simp only[Qg]at h
  by_cases h2:(getS b).2=0
  ·rw [Qj (QS h2)]at h
   by_cases h3:chkK k (getS b).1.fPoint=0
   ·rw[Qj (QS h3)]at h
    by_cases h4:(getS b).1.fPoint.fSize=size
    ·by_cases h5:(getS b).1.fPoint.fRoot=root
     ·rw[QS h4,QS h5]at h
      exact⟨h1.1,h1.2,h2,h3,h4,h5,h⟩
     ·rw[QP h5,Bool.and_false]at h;cases h
    ·rw[QP h4,Bool.false_and]at h;cases h
   ·rw[Qi (QP h3)]at h
    exact absurd h h3
  ·rw[Qi (QP h2)]at h
   exact absurd h h2
theorem vldA.eq{k:Qo}{limit size:Int}{root:H32}{b:List Int}(h:vldA k limit size root b):Zq k limit size root b=outA (runA k limit (getS b).1):=by
 unfold Zq
 rw[h.may,h.lim,QS h.get,QS h.chk,QS h.size,QS h.root]
 rfl
end Go.Proofs.YtomndohdnfebgaaGreatDoor
namespace Go.Proofs.YtomndohdnfebgaaGreatDoor
open Go Go.Sep
theorem Qli{k:Qo}{limit:Int}{x:Bun}(hv:vBun x)(hw:x.fWhole=false):runA k limit x=match runI k limit x.fPoint x.fItems st0 with
  | .inl e=> .inl e
  | .inr z=> .inr (0,z.2.1,QcP z):=by
 unfold runA
 rw[hw]
 simp only[Qh]
 rw[QvL hv];rfl
theorem QvS{k:Qo}{limit:Int}{p:Qq}:∀{l:List It} {st:StT} {e:Int},runI k limit p l st= .inl e→e≠0:=by
 intro l
 induction l with
 |nil=>intro st e h;cases h
 | cons y l ih=>
  intro st e h
  unfold runI at h
  cases hi:QjL k limit p y st with
  |inr s=>rw[hi]at h;exact ih h
  | inl e'=>
   rw[hi]at h
   cases h
   unfold QjL at hi
   cases h1:inP p y with
   |false=>rw[h1]at hi;cases hi;decide
   | true=>
    rw[h1]at hi
    cases h2:rcK k y.fRec with
    |false=>rw[h2]at hi;cases hi;decide
    | true=>
     rw[h2]at hi
     simp only[Qg]at hi
     cases h3:decide (y.fRec.fKind=1)with
     |true=>
      rw[h3]at hi
      unfold begA at hi
      simp only[Qg]at hi
      cases h4:(!(st.1.getD y.fRec.fSaga.toNat false)&&QrG y.fRec.fSteps)with
      |true=>rw[h4]at hi;cases hi
      |false=>rw[h4]at hi;cases hi;decide
     | false=>
      rw[h3]at hi
      simp only[Qh]at hi
      cases h5:decide (y.fRec.fKind=6)with
      |true=>rw[h5]at hi;cases hi
      | false=>
       rw[h5]at hi
       unfold QjK at hi
       simp only[Qh]at hi
       cases h6:decide ((sagA y.fRec st).fSteps.length=0)with
       |true=>rw[h6]at hi;cases hi
       |false=>
        rw[h6]at hi
        simp only[Qh]at hi
        cases h7:((goSt (sagA y.fRec st) y.fRec limit).2&&Qtl (sagA y.fRec st) y.fRec)with
        |true=>rw[h7]at hi;cases hi
        |false=>rw[h7]at hi;cases hi;decide
theorem vldA.some{k:Qo}{limit size:Int}{root:H32}{b:List Int}(hb:isB b)(hl:b.length<1000000000)(h:vldA k limit size root b)(hw:(getS b).1.fWhole=false):∃z,runI k limit (getS b).1.fPoint (getS b).1.fItems st0= .inr z∧Zq k limit size root b=(0,z.2.1,QcP z):=by
 have hr:=h.run
 have he:=h.eq
 rw[Qli (QoR hb hl h.get) hw]at hr he
 cases hi:runI k limit (getS b).1.fPoint (getS b).1.fItems st0 with
 |inl e=>rw[hi]at hr;exact absurd hr (QvS hi)
 |inr z=>rw[hi]at he;exact⟨z,rfl,he⟩
end Go.Proofs.YtomndohdnfebgaaGreatDoor
namespace Go.Proofs.YtomndohdnfebgaaGreatDoor
open Go Go.Sep
theorem Qug{k:Qo}{limit:Int}{x:Bun}{v:VdT}(h:runW k limit x= .inr v):yD (Qaf x)=x.fPoint.fRoot∧∃b,runB k limit x.fItems bk0= .inr b∧v=(0,QvQ b.fSagas.length,b.fSagas.map Qhg):=by
 unfold runW at h
 by_cases hr:yD (Qaf x)=x.fPoint.fRoot
 ·rw[QS hr]at h
  cases hb:runB k limit x.fItems bk0 with
  |inl e=>rw[hb]at h;cases h
  |inr b=>rw[hb]at h;cases h;exact⟨hr,b,rfl,rfl⟩
 ·rw[QP hr]at h;cases h
theorem QvT{k:Qo}{limit:Int}{x:Bun}{e:Int}(h:runW k limit x= .inl e):e≠0:=by
 unfold runW at h
 cases hr:decide (yD (Qaf x)=x.fPoint.fRoot)with
 |false=>rw[hr]at h;cases h;decide
 |true=>
  rw[hr]at h
  cases hb:runB k limit x.fItems bk0 with
  |inl e=>rw[hb]at h;cases h;exact QvP hb
  |inr b=>rw[hb]at h;cases h
theorem Qtv{k:Qo}{limit:Int}{x:Bun}(hv:vBun x):(∃e,runA k limit x= .inl e)∨∃v,runA k limit x= .inr v∧v.1=0:=by
 rcases Bool.eq_false_or_eq_true x.fWhole with hw|hw
 ·rw[Qiq hv hw]
  cases h:runW k limit x with
  |inl e=>exact .inl ⟨e,rfl⟩
  |inr v=>
   obtain⟨_,b,_,h2⟩:=Qug h
   exact .inr ⟨v,rfl,by rw[h2]⟩
 ·rw[Qli hv hw]
  cases h:runI k limit x.fPoint x.fItems st0 with
  |inl e=>exact .inl ⟨e,rfl⟩
  |inr z=>exact .inr ⟨_,rfl,rfl⟩
theorem QrP{k:Qo}{limit size:Int}{root:H32}{b:List Int}(hb:isB b)(hl:b.length<1000000000)(h:(Zq k limit size root b).1≠0):(Zq k limit size root b).2=([], []):=by
 unfold Zq at h⊢
 cases h1:(mayK k&&inn limit 1 9)with
 |false=>rfl
 | true=>
  rw[h1]at h
  simp only[Qg]at h⊢
  by_cases h2:(getS b).2=0
  ·rw[Qj (QS h2)]at h⊢
   cases h3:decide (chkK k (getS b).1.fPoint=0)with
   |false=>rfl
   | true=>
    rw[h3]at h
    simp only[Qg]at h⊢
    cases h4:(decide ((getS b).1.fPoint.fSize=size)&&decide ((getS b).1.fPoint.fRoot=root))with
    |false=>rfl
    |true=>
     rw[h4]at h
     simp only[Qg]at h⊢
     rcases Qtv (k:=k) (limit:=limit) (QoR hb hl h2)with⟨e,h5⟩|⟨v,h5,h6⟩
     ·rw[h5];rfl
     ·rw[h5]at h;exact absurd h6 h
  ·rw[Qi (QP h2)]
theorem vldA.whole{k:Qo}{limit size:Int}{root:H32}{b:List Int}(hb:isB b)(hl:b.length<1000000000)(h:vldA k limit size root b)(hw:(getS b).1.fWhole=true):∃z,runB k limit (getS b).1.fItems bk0= .inr z∧Zq k limit size root b=(0,QvQ z.fSagas.length,z.fSagas.map Qhg)∧yD (Qaf (getS b).1)=root:=by
 have hr:=h.run
 have he:=h.eq
 rw[Qiq (QoR hb hl h.get) hw]at hr he
 cases hi:runW k limit (getS b).1 with
 |inl e=>rw[hi]at hr;exact absurd hr (QvT hi)
 |inr v=>
  rw[hi]at he
  obtain⟨h1,z,h2,h3⟩:=Qug hi
  exact⟨z,h2,by rw[he,h3];rfl,by rw[h1,h.root]⟩
theorem vldA.rcpts{k:Qo}{limit size:Int}{root:H32}{b:List Int}(hb:isB b)(hl:b.length<1000000000)(h:vldA k limit size root b):∀y∈(getS b).1.fItems,rcK k y.fRec=true:=by
 have hv:=QoR hb hl h.get
 rcases Bool.eq_false_or_eq_true (getS b).1.fWhole with hw|hw
 ·obtain⟨z,h1,_⟩:=h.whole hb hl hw
  exact(QjO _ _ _ hv.d Qcz h1).2
 ·obtain⟨z,h1,_⟩:=h.some hb hl hw
  exact fun y hy=>((QmC _ _ _ (fun y hy=>(hv.r.items y hy).1) QfS h1).2.2 y hy).2
theorem Qtw{k:Qo}{x:Bun}(hv:vBun x)(hr:∀y∈x.fItems,rcK k y.fRec=true):∀(m i j:Nat),i+m=x.fItems.length→m<j→Q5.l 1000000000000 k (Xv x) j ((i:Nat):Int)=some (.inr ()):=by
 have h400:=hv.r.len
 have hll:(Xv x).length=x.fItems.length:=by simp[Xv]
 intro m
 induction m with
 |zero=>
  intro i j hi hj
  obtain⟨j,rfl⟩:∃n,j=n+1:=⟨j-1,by omega⟩
  show Q5.b 1000000000000 k (Xv x) (Q5.l 1000000000000 k (Xv x) j) ((i:Nat):Int)=_
  unfold Q5.b
  rw[Qi (QP (by omega))]
 | succ m ih=>
  intro i j hi hj
  obtain⟨j,rfl⟩:∃n,j=n+1:=⟨j-1,by omega⟩
  show Q5.b 1000000000000 k (Xv x) (Q5.l 1000000000000 k (Xv x) j) ((i:Nat):Int)=_
  unfold Q5.b
  have hlt:i<x.fItems.length:=by omega
  have hx:(Xv x)[i]?=some x.fItems[i].fRec:=by unfold Xv;rw[List.getElem?_map,List.getElem?_eq_getElem hlt];rfl
  have hm:x.fItems[i]∈x.fItems:=List.getElem_mem hlt
  have h1:=hr _ hm
  have ho:=hv.d _ hm
  have ht:=Qe5 (hv.b _ hm).tag
  generalize x.fItems[i].fRec=y at hx h1 ho ht
  rw[Qj (QS (by omega))]
  simp only[jn]
  rw[bnd (Js hx),bnd (Js hx)]
  by_cases h3:y.fKind=3
  ·rw[Qj (QS h3),bnd (Js hx),bnd (Js hx),bnd (QnC ho ht)]
   unfold rcK at h1
   rw[QS h3]at h1
   simp only[Bool.not_true,Bool.false_or]at h1
   rw[h1]
   simp only[Bool.not_true,Qh]
   rw[wrap_succ (by omega)]
   exact ih (i+1) j (by omega) (by omega)
  ·rw[Qi (QP h3)]
   simp only[Qh]
   rw[wrap_succ (by omega)]
   exact ih (i+1) j (by omega) (by omega)
theorem QoX{l:List Qp}(hl:l.length<1000):Qcq.f 1000000000000 l l=some true:=by
 unfold Qcq.f Xa.f
 have key:∀(m i j:Nat),i+m=l.length→m<j→Yo.l 1000000000000 l l j ((i:Nat):Int)=some (.inr ()):=by
  intro m
  induction m with
  |zero=>
   intro i j hi hj
   obtain⟨j,rfl⟩:∃n,j=n+1:=⟨j-1,by omega⟩
   show Yo.b 1000000000000 l l (Yo.l 1000000000000 l l j) ((i:Nat):Int)=_
   unfold Yo.b
   rw[Qi (QP (by omega))]
  |succ m ih=>
   intro i j hi hj
   obtain⟨j,rfl⟩:∃n,j=n+1:=⟨j-1,by omega⟩
   show Yo.b 1000000000000 l l (Yo.l 1000000000000 l l j) ((i:Nat):Int)=_
   unfold Yo.b QbM.f
   have hx:l[i]?=some l[i]:=List.getElem?_eq_getElem (by omega)
   rw[Qj (QS (by omega)),bnd (Js hx),bnd (Js hx)]
   simp only[decide_true,Bool.and_self,Qb,Bool.not_true,Qh]
   rw[wrap_succ (by omega)]
   exact ih (i+1) j (by omega) (by omega)
 have h:=key l.length 0 1000000000000 (by omega) (by omega)
 have h:Yo.l 1000000000000 l l 1000000000000 0=some (.inr ()):=h
 rw[Qi (by simp),h]
 rfl
theorem QrQ{x:Bun}(hv:vBun x):okR (Xv x)∧(Xv x).all YM=true:=by
 refine⟨⟨by have:=hv.r.len;simp[Xv];omega,fun y hy=> ?_⟩,List.all_eq_true.2 fun y hy=> ?_⟩
 ·obtain⟨w,hw,rfl⟩:=List.mem_map.1 hy
  exact hv.d w hw
 ·obtain⟨w,hw,rfl⟩:=List.mem_map.1 hy
  exact(hv.r.items w hw).1
theorem QhS{K:Nat}(hK:K=1000000000000)(k:Qo)(limit:Int)(p:Qq)(b:List Int)(hb:isB b):JR.f K k limit p b=some true:=by
 unfold JR.f
 rw[QvH hK]
 subst hK
 simp only[Qb,Bool.not_true,Qh,jn]
 rw[Qtu]
 simp only[Qb]
 cases hg:(decide ((20:Int)<((k.fParts.length:Nat):Int))||(decide ((20:Int)<((k.fWits.length:Nat):Int))||decide ((4000:Int)<((b.length:Nat):Int))))with
 |true=>rfl
 | false=>
  obtain⟨g1,g2,g3⟩:=QmJ hg
  have hl:b.length<1000000000:=by omega
  simp only[Qh]
  rw[bnd (Qtj hb hl)]
  by_cases h0:(Zq k limit p.fSize p.fRoot b).1=0
  ·rw[Qi (by simp[h0])]
   have hv:=Qxd h0
   have hvb:=QoR hb hl hv.get
   have h400:=hvb.r.len
   rw[bnd (Qub (Nat.le_refl _) hb hl),Qi (by simp[hv.get]),bnd (Que (by have:=hvb.r.sigs;omega) hvb.s),Qi (by simp[hv.chk]),Qi (by simp[hv.size]),Qi (by simp[hv.root]),bnd (QvR h400)]
   refine QD (Qtw hvb (hv.rcpts hb hl) (getS b).1.fItems.length 0 1000000000000 (by omega) (by omega)) ?_
   rcases Bool.eq_false_or_eq_true (getS b).1.fWhole with hw|hw
   ·obtain⟨z,h1,h2,h3⟩:=hv.whole hb hl hw
    obtain⟨hz,_⟩:=QjO _ _ _ hvb.d Qcz h1
    have hz:=hz.n
    obtain⟨a1,a2⟩:=QrQ hvb
    simp only
    rw[Qi (by simp[hw]),bnd (Qxc hvb h1),Qj (by simp),bnd (QrO a1 a2),bnd (QvO (by have:=a1.1;simp;omega))]
    have hroot:yD ((Xv (getS b).1).map Qbf)=p.fRoot:=by
     rw[←h3]
     unfold Xv Qaf
     rw[List.map_map];rfl
    rw[Qj (QS hroot),bnd (Qlh hz),h2,bnd (QoX (by simp;omega))]
   ·obtain⟨z,h1,h2⟩:=hv.some hb hl hw
    simp only
    rw[Qj (by simp[hw]),h2]
    exact congrArg some (QS (by simp[QcP]))
  ·rw[Qj (by simp[h0]),QrP hb hl h0]
   rfl
end Go.Proofs.YtomndohdnfebgaaGreatDoor
