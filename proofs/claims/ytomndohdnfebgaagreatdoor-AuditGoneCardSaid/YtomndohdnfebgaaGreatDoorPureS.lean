/-
 What the functions of wire's reader come to.
-/
import Derived.Test.YtomndohdnfebgaaGreatDoorThDh
import Derived.Test.YtomndohdnfebgaaGreatDoorThDef
namespace Go.Proofs.YtomndohdnfebgaaGreatDoor
open Go Go.Sep
theorem Qts{K:Nat}:∀(n:Nat) (pre mid suf:List Int) (k:Nat),mid.length=n→n<k→pre.length+mid.length+suf.length<1000000000000→
  Qw.l K k (pre++mid++suf,(pre.length:Int),(pre.length:Int)+mid.length-1)=some (pre++mid.reverse++suf):=by
 intro n
 induction n using Nat.strongRecOn with
 | _ n ih=>
  intro pre mid suf k hn hk hb
  obtain⟨k,rfl⟩:∃j,k=j+1:=⟨k-1,by omega⟩
  show Qw.b K (Qw.l K k) _=_
  unfold Qw.b
  match mid,hn with
  | [],_=>rw[Qi (QG (by simp;omega))];simp
  | [x],_=>rw[Qi (QG (by simp))];simp
  | a::y::l,hn=>
   obtain⟨m,b,hm⟩:∃m b,y::l=m++ [b]:=⟨(y::l).dropLast,(y::l).getLast (by simp),(List.dropLast_concat_getLast (by simp)).symm⟩
   rw[hm]at hn hb⊢
   have hl:(a::(m++ [b])).length=m.length+2:=by simp
   rw[hl]at hn hb
   have e1:(pre.length:Int)+(a::(m++ [b])).length-1=((pre.length+m.length+1:Nat):Int):=by rw[hl];omega
   rw[e1]
   rw[Qj (QT (by show(pre.length:Int)<((pre.length+m.length+1:Nat):Int);omega))]
   have g1:getI (pre++a::(m++ [b])++suf) ((pre.length+m.length+1:Nat):Int)=some b:=by
    rw[Jm,List.append_assoc,List.getElem?_append_right (by omega)]
    rw[show pre.length+m.length+1-pre.length=m.length+1 by omega]
    simp
   have g0:getI (pre++a::(m++ [b])++suf) (pre.length:Int)=some a:=by
    rw[Jm,List.append_assoc,List.getElem?_append_right (by omega)]
    simp
   have s1:List.set (pre++a::(m++ [b])++suf) (Int.toNat (pre.length:Int)) b=pre++b::(m++ [b])++suf:=by
    simp
   have g2:getI (pre++b::(m++ [b])++suf) ((pre.length+m.length+1:Nat):Int)=some b:=by
    rw[Jm,List.append_assoc,List.getElem?_append_right (by omega)]
    rw[show pre.length+m.length+1-pre.length=m.length+1 by omega]
    simp
   have s2:List.set (pre++b::(m++ [b])++suf) (Int.toNat ((pre.length+m.length+1:Nat):Int)) a=(pre++ [b])++m++(a::suf):=by
    rw[Int.toNat_natCast,List.append_assoc,List.set_append_right _ _ (by omega)]
    rw[show pre.length+m.length+1-pre.length=m.length+1 by omega]
    simp
   simp only[g1,g0,Qb,s1,g2,s2]
   rw[wrap64 (by omega) (by omega),wrap64 (by omega) (by omega)]
   have:=ih m.length (by omega) (pre++ [b]) m (a::suf) k rfl (by omega) (by simp;omega)
   rw[show((pre++ [b]).length:Int)+(m.length:Int)-1=((pre.length+m.length+1:Nat):Int)-1 by simp;omega]at this
   rw[show((pre++ [b]).length:Int)=(pre.length:Int)+1 by simp]at this
   rw[this]
   simp
theorem Qo8{K:Nat}{l:List Int}(hK:l.length<K)(hb:l.length<1000000000000):Q8.f K l=some l.reverse:=by
 unfold Q8.f
 rw[wrap64 (by omega) (by omega)]
 have:=Qts (K:=K) l.length [] l [] K rfl hK (by simp;omega)
 simp at this
 rw[this];rfl
theorem QjR{K:Nat}{l:List Int}(hb:l.length<1000000000000):Yd.f K l=some l:=by
 unfold Yd.f
 rw[YQ (by simp;omega)];rfl
def hiB(n:Nat):List Int:=if n=0 then []else hiB (n/128)++ [((n%128:Nat):Int)+128]
termination_by n
decreasing_by omega
def numS(n:Nat):List Int:=hiB (n/128)++ [((n%128:Nat):Int)]
theorem X9:hiB 0= []:=by rw[hiB];simp
theorem QeO{n:Nat}(h:0<n):hiB n=hiB (n/128)++ [((n%128:Nat):Int)+128]:=by rw[hiB];simp[Nat.ne_of_gt h]
theorem QmP:∀(j n:Nat),n<128^j→(hiB n).length≤j:=by
 intro j
 induction j with
 | zero => intro n h;have:n=0:=by simpa using h
           subst this;simp[X9]
 | succ j ih=>
  intro n h
  by_cases hn:n=0
  ·subst hn;simp[X9]
  ·rw[QeO (by omega)]
   have:=ih (n/128) (by rw[Nat.pow_succ]at h;omega)
   simp;omega
theorem Qv3:∀n,isB (hiB n):=by
 intro n
 induction n using Nat.strongRecOn with
 | _ n ih=>
  by_cases hn:n=0
  ·subst hn;rw[X9];exact JA
  ·rw[QeO (by omega),YW]
   refine⟨ih _ (by omega),?_⟩
   simp only[QdB,JA,and_true]
   omega
theorem QcU(n:Nat):isB (numS n):=by
 unfold numS
 rw[YW]
 refine⟨Qv3 _,?_⟩
 simp only[QdB,JA,and_true]
 omega
theorem jL{n:Nat}(h:n<2147483648):(numS n).length≤5∧0<(numS n).length:=by
 have:=QmP 4 (n/128) (by omega)
 simp[numS];omega
theorem Qtt{K:Nat}:∀(n:Nat) (out:List Int) (k:Nat),n<k→out.length+n<1000000000000→yl.l K k ((n:Int),out)=some (out++(hiB n).reverse):=by
 intro n
 induction n using Nat.strongRecOn with
 | _ n ih=>
  intro out k hk hb
  obtain⟨k,rfl⟩:∃j,k=j+1:=⟨k-1,by omega⟩
  show yl.b K (yl.l K k) _=_
  unfold yl.b
  by_cases hn:n=0
  ·subst hn
   rw[Qi (QG (by simp))];simp[X9]
  ·rw[Qj (QT (by show(0:Int)<(n:Int);omega))]
   have e1:Int.tmod (n:Int) 128=((n%128:Nat):Int):=by rw[Int.tmod_eq_emod_of_nonneg (by omega)];omega
   have e2:Int.fdiv (n:Int) (2^7)=((n/128:Nat):Int):=by rw[Int.fdiv_eq_ediv_of_nonneg _ (by omega)];omega
   simp only[e1,e2]
   rw[Qp3 (by omega) (by omega),QwT _ (by omega),YQ (by simp;omega)]
   simp only[Qb]
   rw[ih (n/128) (by omega) _ _ (by omega) (by simp;omega),QeO (n:=n) (by omega)]
   simp
theorem Qlk{K n:Nat}(hK:1000000000000≤K)(h:n<2147483648):qU.f K (n:Int)=some (numS n):=by
 unfold qU.f
 simp only[jn]
 rw[Qi (QG (by omega)),Qi (QG (by omega))]
 have e1:Int.tmod (n:Int) 128=((n%128:Nat):Int):=by rw[Int.tmod_eq_emod_of_nonneg (by omega)];omega
 have e2:Int.fdiv (n:Int) (2^7)=((n/128:Nat):Int):=by rw[Int.fdiv_eq_ediv_of_nonneg _ (by omega)];omega
 simp only[e1,e2]
 rw[Qp3 (by omega) (by omega),Qtt _ _ _ (by omega) (by simp;omega)]
 have hl:=QmP 4 (n/128) (by omega)
 simp only[Qb]
 rw[Qo8 (by simp;omega) (by simp;omega)]
 simp[numS]
theorem Qrk{K:Nat}(x:List (List Int)):∀(l:List (List Int)) (i:Nat) (s:Int) (k:Nat),x.drop i=l→i≤x.length→l.length<k→0≤s→s+l.flatten.length<1000000000000→x.length<1000000000000→
  QA.l K x k (s,(i:Int))=some (s+l.flatten.length):=by
 intro l
 induction l with
 |nil=>
  intro i s k hx hi hk hs hb hxl
  obtain⟨k,rfl⟩:∃j,k=j+1:=⟨k-1,by simp at hk;omega⟩
  show QA.b K x (QA.l K x k) _=_
  unfold QA.b
  have:x.length≤i:=by simpa using hx
  rw[Qi (QG (by show¬((i:Int)<_);omega))];simp
 | cons a l ih=>
  intro i s k hx hi hk hs hb hxl
  obtain⟨k,rfl⟩:∃j,k=j+1:=⟨k-1,by simp at hk;omega⟩
  show QA.b K x (QA.l K x k) _=_
  unfold QA.b
  have hlt:i<x.length:=by
   have:=congrArg List.length hx
   simp at this;omega
  have hg:x[i]?=some a:=by
   have:=congrArg (fun(l:List (List Int))=>l[0]?) hx
   simpa using this
  have hd:x.drop (i+1)=l:=by rw[←List.drop_drop,hx];rfl
  simp only[List.flatten_cons,List.length_append]at hb⊢
  rw[Qj (QT (by show(i:Int)<_;omega)),Jm,hg]
  simp only[Qb]
  rw[wrap64 (by omega) (by omega),Qi (QG (by omega)),wrap64 (by omega) (by omega)]
  have:=ih (i+1) (s+a.length) k hd (by omega) (by simp at hk;omega) (by omega) (by omega) hxl
  rw[show(i:Int)+1=((i+1:Nat):Int) by omega,this]
  congr 1;omega
theorem Qrl{K:Nat}(x:List (List Int)):∀(l:List (List Int)) (i:Nat) (o:List Int) (k:Nat),x.drop i=l→i≤x.length→l.length<k→o.length+l.flatten.length<1000000000000→x.length<1000000000000→
  QB.l K x k (o,(i:Int))=some (o++l.flatten):=by
 intro l
 induction l with
 |nil=>
  intro i o k hx hi hk hb hxl
  obtain⟨k,rfl⟩:∃j,k=j+1:=⟨k-1,by simp at hk;omega⟩
  show QB.b K x (QB.l K x k) _=_
  unfold QB.b
  have:x.length≤i:=by simpa using hx
  rw[Qi (QG (by show¬((i:Int)<_);omega))];simp
 | cons a l ih=>
  intro i o k hx hi hk hb hxl
  obtain⟨k,rfl⟩:∃j,k=j+1:=⟨k-1,by simp at hk;omega⟩
  show QB.b K x (QB.l K x k) _=_
  unfold QB.b
  have hlt:i<x.length:=by
   have:=congrArg List.length hx
   simp at this;omega
  have hg:x[i]?=some a:=by
   have:=congrArg (fun(l:List (List Int))=>l[0]?) hx
   simpa using this
  have hd:x.drop (i+1)=l:=by rw[←List.drop_drop,hx];rfl
  simp only[List.flatten_cons,List.length_append]at hb⊢
  rw[Qj (QT (by show(i:Int)<_;omega)),Jm,hg]
  simp only[Qb]
  rw[YQ (by omega)]
  simp only[Qb]
  rw[wrap64 (by omega) (by omega)]
  have:=ih (i+1) (o++a) k hd (by omega) (by simp at hk;omega) (by simp only[List.length_append];omega) hxl
  rw[show(i:Int)+1=((i+1:Nat):Int) by omega,this]
  simp
theorem Qv4{K:Nat}{n:Int}(h0:0≤n)(h:n<1000000000000):Y5.f K n=some []:=by
 unfold Y5.f
 rw[Qi (QG (by omega))]
 have e:IntKind.wrap .i64 (n-IntKind.wrap .i64 (((0:Nat):Int)-((0:Nat):Int)))=n:=by
  rw[wrap64 (n:=((0:Nat):Int)-((0:Nat):Int)) (by omega) (by omega),wrap64 (by omega) (by omega)];omega
 rw[e]
 by_cases hn:0<n
 ·rw[Qj (QT hn)]
  have:QaE 1 (0:Int) n=some (List.replicate n.toNat 0):=by
   unfold QaE
   rw[Qj]
   simp;omega
  rw[this]
  simp only[Qb]
  rw[QbD (by simp)]
  rfl
 ·rw[Qi (QG hn)]
theorem jO{K:Nat}{x:List (List Int)}(hK:1000000000000≤K)(h:x.flatten.length<1000000000000)(hx:x.length<1000000000000):Jh.f K x=some x.flatten:=by
 unfold Jh.f QW.f
 have h1:QA.l K x K (0,0)=_:=Qrk (K:=K) x x 0 0 K rfl (by omega) (by omega) (by omega) (by omega) hx
 have h2:QB.l K x K ([],0)=_:=Qrl (K:=K) x x 0 [] K rfl (by omega) (by omega) (by simp only[List.length_nil];omega) hx
 rw[h1]
 simp only[Qb]
 rw[Qv4 (by omega) (by omega)]
 simp only[Qb]
 rw[h2]
 simp
def ZJ(b:Bool):Int:=bif b then 1 else 0
theorem QeP{K:Nat}{b:Bool}:XJ.f K b=some [ZJ b]:=by
 unfold XJ.f;cases b<;>rfl
theorem Qv5(b:Bool):0≤ZJ b∧ZJ b<256:=by cases b<;>decide
theorem bytes_eq{K:Nat}{b:List Int}(hK:1000000000000≤K)(h:b.length<2147483648):QcL.f K b=some (numS b.length++b):=by
 unfold QcL.f
 rw[Qlk hK h]
 have:=(jL h).1
 simp only[Qb]
 rw[YQ (by omega)];rfl
theorem Qcv{K:Nat}{h:Vector Int 32}:jY.f K h=some (Ye h):=by
 unfold jY.f
 have hl:=QI h
 rw[QbD (by rw[hl];omega)]
 simp only[Qb]
 rw[QjR (by simp[hl])]
 rw[List.take_of_length_le (by rw[hl];omega)];rfl
theorem Qv6{K:Nat}{b:List Int}(h:b.length<1000000000000):Qb2.f K b=some ⟨b,0⟩:=by
 unfold Qb2.f
 rw[QjR h];rfl
def pN:Int→Nat→List Int→Int×Int×Int
 |_,_, []=>(0,0,3)
 |a,i,c::l=>if(i=0∧c=128)∨i=5 then(0,0,2)else if c<128 then(if 2147483647<a*128+c then(0,0,2)else(a*128+c,((i+1:Nat):Int),0))else pN (a*128+(c-128)) (i+1) l
def Qv7:Sum (Int×Int×Int) Unit→Option (Int×Int×Int):=fun s=>match s with| .inl u=>some u| .inr u=>(fun(_:Unit)=>some (0,0,3)) u
theorem QmQ{K:Nat}(b:List Int)(hb:isB b):∀(l:List Int) (a:Int) (i k:Nat),b.drop i=l→i≤b.length→l.length<k→0≤a→i≤5→a<128^i→
  (YP.l K b k (a,(i:Int))).bind Qv7=some (pN a i l):=by
 intro l
 induction l with
 |nil=>
  intro a i k hx hi hk ha h5 hai
  obtain⟨k,rfl⟩:∃j,k=j+1:=⟨k-1,by simp at hk;omega⟩
  show(YP.b K b (YP.l K b k) _).bind Qv7=_
  unfold YP.b
  have:b.length≤i:=by simpa using hx
  rw[Qi (QG (by show¬((i:Int)<_);omega))];rfl
 | cons c l ih=>
  intro a i k hx hi hk ha h5 hai
  obtain⟨k,rfl⟩:∃j,k=j+1:=⟨k-1,by simp at hk;omega⟩
  show(YP.b K b (YP.l K b k) _).bind Qv7=_
  unfold YP.b
  have hlt:i<b.length:=by
   have:=congrArg List.length hx
   simp at this;omega
  have hg:b[i]?=some c:=by
   have:=congrArg (fun(l:List Int)=>l[0]?) hx
   simpa using this
  have hd:b.drop (i+1)=l:=by rw[←List.drop_drop,hx];rfl
  have hc:0≤c∧c<256:=hb c (List.mem_of_getElem? hg)
  have h35:(128:Int)^i≤128^5:=by
   have:=Nat.pow_le_pow_right (n:=128) (by omega) h5
   exact_mod_cast this
  have ha35:a<34359738368:=by
   have:(128:Int)^5=34359738368:=by decide
   omega
  rw[Qj (QT (by show(i:Int)<_;omega)),Jm,hg]
  simp only[Qb,jn]
  have e1:IntKind.wrap .i64 (Int.tmod c 128)=c%128:=by
   rw[Int.tmod_eq_emod_of_nonneg hc.1,wrap64 (by omega) (by omega)]
  have e2:bor .i64 (IntKind.wrap .i64 (a*2^7)) (c%128)=a*128+c%128:=by
   rw[wrap64 (by omega) (by omega),Qvo (k:=7) ha (by omega) (by omega) (by omega)]
   rw[show(2:Int)^7=128 by decide]
  have e3:IntKind.wrap .i64 ((i:Int)+1)=((i+1:Nat):Int):=by rw[wrap64 (by omega) (by omega)];rfl
  simp only[e1,e2,e3]
  unfold pN
  by_cases h1:(i=0∧c=128)∨i=5
  ·rw[if_pos h1]
   rcases h1 with⟨rfl,rfl⟩|rfl
   ·rw[Qj (QT (by rfl)),Qj (QT (by rfl))];rfl
   ·rw[Qi (QG (by decide))]
    rw[QT (p:=((5:Nat):Int)=5) rfl];rfl
  ·rw[if_neg h1]
   have h1':(bif decide ((i:Int)=0)then bif decide (c=128)then(bif true then(some (Sum.inl (0,0,2)):Option (Sum (Int×Int×Int) Unit))else bif decide (c<128)then bif decide (2147483647<a*128+c%128)then some (Sum.inl (0,0,2))else some (Sum.inl (a*128+c%128,((i+1:Nat):Int),0))else YP.l K b k (a*128+c%128,((i+1:Nat):Int)))else bif decide ((i:Int)=5)then some (Sum.inl (0,0,2))else bif decide (c<128)then bif decide (2147483647<a*128+c%128)then some (Sum.inl (0,0,2))else some (Sum.inl (a*128+c%128,((i+1:Nat):Int),0))else YP.l K b k (a*128+c%128,((i+1:Nat):Int))else bif decide ((i:Int)=5)then some (Sum.inl (0,0,2))else bif decide (c<128)then bif decide (2147483647<a*128+c%128)then some (Sum.inl (0,0,2))else some (Sum.inl (a*128+c%128,((i+1:Nat):Int),0))else YP.l K b k (a*128+c%128,((i+1:Nat):Int)))=
     (bif decide (c<128)then bif decide (2147483647<a*128+c%128)then some (Sum.inl (0,0,2))else some (Sum.inl (a*128+c%128,((i+1:Nat):Int),0))else YP.l K b k (a*128+c%128,((i+1:Nat):Int))):=by
    rw[QG (p:=(i:Int)=5) (by omega)]
    by_cases hi0:i=0
    ·rw[QG (p:=c=128) (by omega)];cases decide ((i:Int)=0)<;>rfl
    ·rw[QG (p:=(i:Int)=0) (by omega)];rfl
   rw[h1']
   by_cases hc128:c<128
   ·rw[if_pos hc128,Qj (QT hc128)]
    have:c%128=c:=by omega
    rw[this]
    by_cases hbig:2147483647<a*128+c
    ·rw[if_pos hbig,Qj (QT hbig)];rfl
    ·rw[if_neg hbig,Qi (QG hbig)];rfl
   ·rw[if_neg hc128,Qi (QG hc128)]
    have:c%128=c-128:=by omega
    rw[this]
    refine ih _ (i+1) k hd (by omega) (by simp at hk;omega) (by omega) (by omega) ?_
    rw[Int.pow_succ];omega
theorem number_eq{K:Nat}{b:List Int}(hK:1000000000000≤K)(hb:isB b)(hbl:b.length<1000000000000):Zp.f K b=some (pN 0 0 b):=by
 unfold Zp.f
 exact QmQ b hb b 0 0 K rfl (by omega) (by omega) (by omega) (by omega) (by omega)
theorem pN_hi:∀(m:Nat) (l:List Int),(hiB m).length≤5→0<m→pN 0 0 (hiB m++l)=pN (m:Int) (hiB m).length l:=by
 intro m
 induction m using Nat.strongRecOn with
 | _ m ih=>
  intro l h5 hm
  rw[QeO hm]at h5⊢
  simp only[List.length_append,List.length_cons,List.length_nil]at h5⊢
  rw[List.append_assoc]
  have step:∀(i:Nat),i≤4→(i=0→m/128=0)→pN ((m/128:Nat):Int) i ([((m%128:Nat):Int)+128]++l)=pN (m:Int) (i+1) l:=by
   intro i hi h0
   have e:((m/128:Nat):Int)*128+(((m%128:Nat):Int)+128-128)=(m:Int):=by omega
   rw[List.singleton_append,pN,if_neg (by omega),if_neg (by omega),e]
  by_cases h0:m/128=0
  ·rw[h0,X9]
   have:=step 0 (by omega) (fun _=>h0)
   rw[h0]at this
   exact this
  ·rw[ih (m/128) (by omega) _ (by omega) (by omega)]
   refine step _ (by omega) (fun h=> ?_)
   rw[QeO (by omega)]at h
   simp at h
theorem QnV{n:Nat}(h:n<2147483648)(l:List Int):pN 0 0 (numS n++l)=((n:Int),((numS n).length:Int),0):=by
 have hl:=QmP 4 (n/128) (by omega)
 unfold numS
 rw[List.append_assoc,List.singleton_append]
 have step:∀i,i≤4→pN ((n/128:Nat):Int) i (((n%128:Nat):Int)::l)=((n:Int),((i+1:Nat):Int),0):=by
  intro i hi
  rw[pN,if_neg (by omega),if_pos (by omega),if_neg (by omega)]
  congr 1
  omega
 by_cases h0:n/128=0
 ·rw[h0,X9]
  have:=step 0 (by omega)
  rw[h0]at this
  exact this
 ·rw[pN_hi _ _ (by omega) (by omega),step _ (by omega)]
  simp
theorem Qv8:∀(l:List Int) (a:Nat) (i:Nat) (n k:Int),isB l→(hiB a).length=i→pN a i l=(n,k,0)→
  ∃(n' j:Nat),n=n'∧k=((i+j:Nat):Int)∧n'<2147483648∧0<j∧j≤l.length∧hiB a++l.take j=numS n'∧∀m,m<j→pN a i (l.take m)=(0,0,3):=by
 intro l
 induction l with
 |nil=>intro a i n k _ _ h;simp[pN]at h
 | cons c l ih=>
  intro a i n k hb hi h
  rw[QdB]at hb
  unfold pN at h
  split at h
  ·simp at h
  ·rename_i hc
   split at h
   ·rename_i hc128
    split at h
    ·simp at h
    ·rename_i hbig
     simp only[Qe]at h
     obtain⟨h1,h2,_⟩:=h
     refine⟨a*128+c.toNat,1,by omega,by omega,by omega,by omega,by simp,?_,?_⟩
     ·unfold numS
      rw[show(a*128+c.toNat)/128=a by omega,show(a*128+c.toNat)%128=c.toNat by omega]
      simp;omega
     ·intro m hm
      have:m=0:=by omega
      subst this;rfl
   ·rename_i hc128
    have e:(a:Int)*128+(c-128)=((a*128+(c-128).toNat:Nat):Int):=by omega
    rw[e]at h
    have hpos:0<a*128+(c-128).toNat:=by
     by_cases ha:a=0
     ·subst ha
      rw[X9]at hi
      simp at hi
      omega
     ·omega
    have hh:hiB (a*128+(c-128).toNat)=hiB a++ [c]:=by
     rw[QeO hpos,show(a*128+(c-128).toNat)/128=a by omega]
     congr 2
     omega
    obtain⟨n',j,h1,h2,h3,h4,h5,h6,h7⟩:=ih _ (i+1) n k hb.2 (by rw[hh];simp[hi]) h
    refine⟨n',j+1,h1,by omega,h3,by omega,by simp;omega,?_,?_⟩
    ·rw[←h6,hh];simp
    ·intro m hm
     cases m with
     |zero=>rfl
     |succ m=>
      rw[List.take_succ_cons,pN,if_neg hc,if_neg hc128,e]
      exact h7 m (by omega)
theorem QuU:∀(l:List Int) (a:Int) (i:Nat),(pN a i l).2.2=0∨(pN a i l=(0,0,2))∨pN a i l=(0,0,3):=by
 intro l
 induction l with
 |nil=>intro a i;right;right;rfl
 | cons c l ih=>
  intro a i
  unfold pN
  split
  ·right;left;rfl
  ·split
   ·split
    ·right;left;rfl
    ·left;rfl
   ·exact ih _ _
abbrev Rd:=Qk
theorem Qcw{K:Nat}{e:Int}{b:List Int}(he:e≠0):Q9.f K e ⟨b,0⟩=some ⟨[],e⟩:=by
 unfold Q9.f
 simp only[jn]
 rw[Qj (by simp),QG he];rfl
theorem Qtu{K:Nat}{e e':Int}{b:List Int}(he:e'≠0):Q9.f K e ⟨b,e'⟩=some ⟨b,e'⟩:=by
 unfold Q9.f
 simp only[jn]
 rw[Qi (QG he)];rfl
theorem Qv9{K:Nat}{b:List Int}{n:Nat}{rest:List Int}(hK:1000000000000≤K)(hb:isB b)(hbl:b.length<1000000000000)(h:n<2147483648)(e:b=numS n++rest):Qy.f K ⟨b,0⟩=some ((n:Int),⟨rest,0⟩):=by
 unfold Qy.f yV.f QF.f
 simp only[Qb]
 rw[Qi (by simp),number_eq hK hb hbl,e,QnV h]
 simp only[Qb]
 rw[Qi (by simp),ZZ (by simp)]
 simp
theorem Qtv{K:Nat}{b:List Int}{e:Int}(he:e≠0):Qy.f K ⟨b,e⟩=some (0,⟨b,e⟩):=by
 unfold Qy.f yV.f QF.f
 simp only[Qb]
 rw[Qj (by simp[he])]
 rfl
theorem Qrm{K:Nat}{b:List Int}{e:Int}(hK:1000000000000≤K)(hb:isB b)(hbl:b.length<1000000000000)(h:pN 0 0 b=(0,0,e))(he:e≠0):Qy.f K ⟨b,0⟩=some (0,⟨[],e⟩):=by
 unfold Qy.f yV.f QF.f
 simp only[Qb]
 rw[Qi (by simp),number_eq hK hb hbl,h]
 simp only[Qb]
 rw[Qj (by simp[he]),Qcw he]
 rfl
theorem Qtw{K:Nat}{b:Bool}{rest:List Int}:Yz.f K ⟨ZJ b::rest,0⟩=some (b,⟨rest,0⟩):=by
 unfold Yz.f jd.f QF.f J5.f
 simp only[Qb]
 rw[Qi (by simp),Qi (QG (by simp;omega)),Quw]
 simp only[List.getElem?_cons_zero,Qb]
 rw[Qi (QG (by cases b<;>decide))]
 simp only[Qb]
 rw[Qi (by simp)]
 have:subI (ZJ b::rest) 1 (((ZJ b::rest).length:Nat):Int)=some rest:=by
  have:=ZZ (l:=ZJ b::rest) (a:=1) (by simp)
  simpa using this
 rw[this]
 cases b<;>rfl
theorem Qrn{K:Nat}{b:List Int}{e:Int}(he:e≠0):Yz.f K ⟨b,e⟩=some (false,⟨b,e⟩):=by
 unfold Yz.f jd.f QF.f
 simp only[Qb]
 rw[Qj (by simp[he])]
 rfl
theorem Qro{K:Nat}{most:Int}{b bs rest:List Int}(hK:1000000000000≤K)(hb:isB b)(hbl:b.length<1000000000000)(h:bs.length<2147483648)(hm:(bs.length:Int)≤most)(e:b=numS bs.length++(bs++rest)):
  YM.f K most ⟨b,0⟩=some (bs,⟨rest,0⟩):=by
 unfold YM.f qh.f QF.f Jw.f
 simp only[Qb]
 have hl:=jL h
 have hlen:b.length=(numS bs.length).length+(bs.length+rest.length):=by rw[e];simp
 rw[Qi (by simp),number_eq hK hb hbl]
 have hp:pN 0 0 b=((bs.length:Int),((numS bs.length).length:Int),0):=by rw[e];exact QnV h _
 rw[hp]
 simp only[Qb]
 rw[Qi (by simp),Qi (QG (by omega)),wrap64 (by omega) (by omega),Qi (QG (by omega)),wrap64 (by omega) (by omega)]
 have s1:subI b ((numS bs.length).length:Int) (((numS bs.length).length:Int)+(bs.length:Int))=some bs:=by
  have:=QiR (l:=b) (a:=(numS bs.length).length) (b:=(numS bs.length).length+bs.length) (by omega) (by omega)
  rw[show(((numS bs.length).length+bs.length:Nat):Int)=((numS bs.length).length:Int)+(bs.length:Int) by omega]at this
  rw[this,e]
  congr 1
  rw[List.take_append,List.take_of_length_le (by omega)]
  simp
 rw[s1]
 simp only[Qb]
 rw[QjR (by omega)]
 simp only[Qb]
 rw[Qi (by simp)]
 have s2:subI b (((numS bs.length).length:Int)+(bs.length:Int)) ((b.length:Nat):Int)=some rest:=by
  have:=ZZ (l:=b) (a:=(numS bs.length).length+bs.length) (by omega)
  rw[show(((numS bs.length).length+bs.length:Nat):Int)=((numS bs.length).length:Int)+(bs.length:Int) by omega]at this
  rw[this,e]
  congr 1
  rw[←List.drop_drop]
  simp
 rw[s2]
 simp
theorem Qo9{K:Nat}{most:Int}{b:List Int}{e:Int}(he:e≠0):YM.f K most ⟨b,e⟩=some ([],⟨b,e⟩):=by
 unfold YM.f qh.f QF.f
 simp only[Qb]
 rw[Qj (by simp[he])]
 rfl
theorem Qix{n:Nat}(v:Vector Int n):vofL n (Ye v)=v:=by
 apply Vector.ext
 intro i hi
 simp[vofL,Ye,vget]
theorem Qtx{K:Nat}{h:Vector Int 32}{rest:List Int}(hr:rest.length<1000000000000):Yi.f K ⟨Ye h++rest,0⟩=some (h,⟨rest,0⟩):=by
 unfold Yi.f J6.f QF.f ji.f
 simp only[Qb]
 have hl:=QI h
 rw[Qi (by simp),Qi (QG (by simp[hl];omega))]
 have s1:subI (Ye h++rest) 0 32=some (Ye h):=by
  have:=QbD (l:=Ye h++rest) (b:=32) (by simp[hl])
  rw[show((32:Nat):Int)=32 by rfl]at this
  rw[this,List.take_append_of_le_length (by omega),List.take_of_length_le (by omega)]
 rw[s1]
 simp only[Qb,chk]
 rw[Qj (QT (by omega))]
 simp only[Qb]
 rw[Qi (by simp)]
 have s2:subI (Ye h++rest) 32 (((Ye h++rest).length:Nat):Int)=some rest:=by
  have:=ZZ (l:=Ye h++rest) (a:=32) (by simp[hl])
  rw[show((32:Nat):Int)=32 by rfl]at this
  rw[this]
  exact congrArg some (List.drop_left' hl)
 rw[s2]
 simp[Qix]
theorem Qrp{K:Nat}{b:List Int}{e:Int}(he:e≠0):Yi.f K ⟨b,e⟩=some (Vector.replicate 32 0,⟨b,e⟩):=by
 unfold Yi.f J6.f QF.f
 simp only[Qb]
 rw[Qj (by simp[he])]
 rfl
theorem XV{K:Nat}{r:Rd}:QF.f K r=some r.fBad:=rfl
theorem Qrq{K:Nat}{b:List Int}{e:Int}(he:e≠0):Y6.f K ⟨b,e⟩=some e:=by
 unfold Y6.f QF.f
 simp only[Qb]
 rw[Qj (by simp[he])]
end Go.Proofs.YtomndohdnfebgaaGreatDoor
