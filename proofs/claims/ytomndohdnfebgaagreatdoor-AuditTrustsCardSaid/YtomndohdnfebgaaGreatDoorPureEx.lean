/-
 Plain: exported bundles: hashes, roots and paths are there, items, what a bundle of places comes to.
-/
import Derived.Test.YtomndohdnfebgaaGreatDoorSepK
namespace Go.Proofs.YtomndohdnfebgaaGreatDoor
open Go Go.Sep
theorem Qdy{x:Bun}(h:QlJ x):Qvp x:=by
 have hi:=h.items
 unfold QaW at hi
 refine⟨h.root,fun s hs=>(h.sigs.2 s hs).2,fun y hy=> ?_,fun y hy z hz=> ?_⟩
 ·cases hw:x.fWhole with
  |true=>
   rw[hw]at hi
   obtain⟨j,hj⟩:=List.getElem?_of_mem hy
   exact(hi.2.2 j y hj).1.2
  |false=>rw[hw]at hi;exact(hi.2 y hy).2.1.2
 ·cases hw:x.fWhole with
  |true=>
   rw[hw]at hi
   obtain⟨j,hj⟩:=List.getElem?_of_mem hy
   have:=(hi.2.2 j y hj).2
   rw[←this]at hz
   cases hz
  |false=>rw[hw]at hi;exact(hi.2 y hy).2.2.2 z hz
theorem QsP{b:List Int}(hb:isB b)(hl:b.length<1000000000)(h:(getS b).2=0):b=mark++bunW (getS b).1∧QlJ (getS b).1∧Qdw (getS b).1=true:=by
 unfold getS at h⊢
 split
 ·rename_i hm
  rw[if_pos hm]at h
  have hg:Good ⟨b.drop 4,0⟩:=Good.drop (b:=b) (e:=0) ⟨hb,hl⟩ 4
  have hs:=Qkk.back ⟨b.drop 4,0⟩ hg
  generalize bunR ⟨b.drop 4,0⟩=t at h hs
  obtain⟨x,r⟩:=t
  unfold endS at h⊢
  simp only at h hs⊢
  by_cases h1:r.fBad=0
  ·simp only[h1,ne_eq,not_true_eq_false,if_false]at h⊢
   by_cases h2:r.fB= []
   ·simp only[h2,if_true,not_true_eq_false,if_false]at h⊢
    cases h3:Qdw x with
    |true=>
     simp only[if_true]
     obtain⟨_,e,o⟩:=hs h1
     refine⟨?_,o,h3⟩
     rw[h2,List.append_nil]at e
     rw[←e,←hm,List.take_append_drop]
    |false=>simp[h3]at h
   ·simp[h2]at h
  ·simp[h1]at h
 ·rename_i hm
  rw[if_neg hm]at h
  simp at h
end Go.Proofs.YtomndohdnfebgaaGreatDoor
namespace Go.Proofs.YtomndohdnfebgaaGreatDoor
open Go Go.Sep
theorem Qi2{Y R:Type}{L:Nat→Y→Option R}(I:Nat→Y→Prop)(h0:∀k y,I 0 y→∃r,L (k+1) y=some r)
  (hs:∀k n y,I (n+1) y→∃y',I n y'∧L (k+1) y=L k y'):∀(n:Nat) (y:Y) (k:Nat),I n y→n<k→∃r,L k y=some r:=by
 intro n
 induction n with
 |zero=>
  intro y k hi hk
  obtain⟨k,rfl⟩:∃j,k=j+1:=⟨k-1,by omega⟩
  exact h0 k y hi
 |succ n ih=>
  intro y k hi hk
  obtain⟨k,rfl⟩:∃j,k=j+1:=⟨k-1,by omega⟩
  obtain⟨y',h1,h2⟩:=hs k n y hi
  rw[h2]
  exact ih y' k h1 (by omega)
theorem Qi3{α β:Type}{o:Option α}{x:α}{f:α→Option β}(h:o=some x)(h2:∃r,f x=some r):∃r,o.bind f=some r:=by rw[h];exact h2
theorem Qq{α β:Type}{o:Option α}{x:α}{f:α→Option β}{P:β→Prop}(h:o=some x)(h2:∃r,f x=some r∧P r):∃r,o.bind f=some r∧P r:=by rw[h];exact h2
theorem Yz{N i:Nat}(h:i<N):inA N (i:Int)=true:=by
 unfold inA
 rw[QS (by omega),QS (by omega)];rfl
theorem Qkq{K:Nat}(x:Int):(∃r,XH.f K x 17 19 10=some r)∧(∃r,XH.f K x 7 18 3=some r):=⟨⟨_,rfl⟩,⟨_,rfl⟩⟩
theorem QhM{K:Nat}(x:Int):(∃r,yG.f K x 6 11 25=some r)∧(∃r,yG.f K x 2 13 22=some r):=⟨⟨_,rfl⟩,⟨_,rfl⟩⟩
theorem Jd{α:Type}{l:List α}{i:Nat}(h:i<l.length):∃x,getI l (i:Int)=some x:=⟨l[i],by rw[JG,List.getElem?_eq_getElem h]⟩
theorem Qkr{K:Nat}(hK:100<K){b:List Int}(hb:b.length=64):∃w,yU.f K b=some w:=by
 unfold yU.f
 have:=Qi2 (L:=QZ.l K b) (fun n y=>∃i:Nat,y.1=(i:Int)∧i+n=64)
  (fun k y ⟨i,hy,hi⟩=>by
   obtain⟨y1,y2⟩:=y
   simp only at hy
   subst hy
   refine⟨y2,?_⟩
   show QZ.b K b (QZ.l K b k) _=_
   unfold QZ.b
   rw[Qi (QM (by simp only;omega))])
  (fun k n y ⟨i,hy,hi⟩=>by
   obtain⟨y1,y2⟩:=y
   simp only at hy
   subst hy
   show ∃y',_∧QZ.b K b (QZ.l K b k) _=_
   unfold QZ.b
   try simp only[jn]
   rw[Qj (QS (by omega)),wrap_succ (by omega)]
   by_cases h16:(i:Int)<16
   ·rw[Qj (QS h16)]
    have w4:IntKind.wrap .i64 (4*(i:Int))=((4*i:Nat):Int):=by rw[wrap64 (by omega) (by omega)];push_cast;rfl
    have wj:∀j:Nat,j<4→IntKind.wrap .i64 (((4*i:Nat):Int)+(j:Int))=((4*i+j:Nat):Int):=fun j hj=>by rw[wrap64 (by omega) (by omega)];push_cast;rfl
    obtain⟨x0,e0⟩:=Jd (l:=b) (i:=4*i) (by omega)
    obtain⟨x1,e1⟩:=Jd (l:=b) (i:=4*i+1) (by omega)
    obtain⟨x2,e2⟩:=Jd (l:=b) (i:=4*i+2) (by omega)
    obtain⟨x3,e3⟩:=Jd (l:=b) (i:=4*i+3) (by omega)
    rw[w4,e0]
    try simp only[Qb]
    rw[show(1:Int)=((1:Nat):Int) by rfl,wj 1 (by omega),e1]
    try simp only[Qb]
    rw[show(2:Int)=((2:Nat):Int) by rfl,wj 2 (by omega),e2]
    try simp only[Qb]
    rw[show(3:Int)=((3:Nat):Int) by rfl,wj 3 (by omega),e3]
    simp only[Qb,chk]
    rw[Qj (Yz (by omega))]
    exact⟨(_,_),⟨i+1,rfl,by omega⟩,rfl⟩
   ·rw[Qi (QM h16)]
    have wj:∀j:Nat,j≤16→IntKind.wrap .i64 ((i:Int)-(j:Int))=((i-j:Nat):Int):=fun j hj=>by rw[wrap64 (by omega) (by omega)];omega
    have h2:=wj 2 (by omega)
    have h7:=wj 7 (by omega)
    have h15:=wj 15 (by omega)
    have h16':=wj 16 (by omega)
    simp only[Int.cast_ofNat_Int]at h2 h7 h15 h16'
    rw[h2,h7,h15,h16']
    simp only[chk]
    rw[Qj (Yz (by omega)),Qj (Yz (by omega)),Qj (Yz (by omega)),Qj (Yz (by omega))]
    obtain⟨r1,e1⟩:=(Qkq (K:=K) (vget y2 (Int.toNat ((i-2:Nat):Int)))).1
    obtain⟨r2,e2⟩:=(Qkq (K:=K) (vget y2 (Int.toNat ((i-15:Nat):Int)))).2
    rw[e1]
    try simp only[Qb]
    rw[e2]
    try simp only[Qb]
    rw[Qj (Yz (by omega))]
    exact⟨(_,_),⟨i+1,rfl,by omega⟩,rfl⟩)
  64 (0,Vector.replicate 64 0) K ⟨0,rfl,rfl⟩ (by omega)
 obtain⟨w,hw⟩:=this
 rw[hw]
 exact⟨w,rfl⟩
theorem QrM{K:Nat}(hK:100<K)(h:Vector Int 8){b:List Int}(hb:b.length=64):∃r,QbY.f K h b=some r:=by
 unfold QbY.f
 rw[Qi (by simp[hb])]
 obtain⟨w,hw⟩:=Qkr hK hb
 rw[hw]
 try simp only[Qb]
 have h1:=Qi2 (L:=YF.l K w) (fun n y=>∃i:Nat,y.1=(i:Int)∧i+n=64)
  (fun k y ⟨i,hy,hi⟩=>by
   obtain⟨y1,y2⟩:=y
   simp only at hy
   subst hy
   refine⟨y2,?_⟩
   show YF.b K w (YF.l K w k) _=_
   unfold YF.b
   rw[Qi (QM (by simp only;omega))])
  (fun k n y ⟨i,hy,hi⟩=>by
   obtain⟨y1,y2⟩:=y
   simp only at hy
   subst hy
   show ∃y',_∧YF.b K w (YF.l K w k) _=_
   unfold YF.b
   rw[Qj (QS (by simp only;omega))]
   obtain⟨x,ex⟩:=Jd (l:=Q7 w) (i:=i) (by rw[QV];omega)
   obtain⟨r1,e1⟩:=(QhM (K:=K) (vget y2 (Int.toNat 4))).1
   obtain⟨r2,e2⟩:=(QhM (K:=K) (vget y2 (Int.toNat 0))).2
   simp only
   rw[ex]
   simp only[Qb,chk]
   rw[Qj (Yz (by omega)),e1]
   try simp only[Qb]
   rw[e2]
   try simp only[Qb]
   rw[wrap_succ (by omega)]
   exact⟨(_,_),⟨i+1,rfl,by omega⟩,rfl⟩)
  64 (0,h) K ⟨0,rfl,rfl⟩ (by omega)
 obtain⟨z,hz⟩:=h1
 rw[hz]
 try simp only[Qb]
 have h2:=Qi2 (L:=YH.l K z) (fun n y=>∃i:Nat,y.1=(i:Int)∧i+n=8)
  (fun k y ⟨i,hy,hi⟩=>by
   obtain⟨y1,y2⟩:=y
   simp only at hy
   subst hy
   refine⟨y2,?_⟩
   show YH.b K z (YH.l K z k) _=_
   unfold YH.b
   rw[Qi (QM (by simp only;omega))])
  (fun k n y ⟨i,hy,hi⟩=>by
   obtain⟨y1,y2⟩:=y
   simp only at hy
   subst hy
   show ∃y',_∧YH.b K z (YH.l K z k) _=_
   unfold YH.b
   rw[Qj (QS (by simp only;omega))]
   simp only[Qb,chk]
   rw[Qj (Yz (by omega)),Qj (Yz (by omega)),Qj (Yz (by omega)),wrap_succ (by omega)]
   exact⟨(_,_),⟨i+1,rfl,by omega⟩,rfl⟩)
  8 (0,h) K ⟨0,rfl,rfl⟩ (by omega)
 obtain⟨r,hr⟩:=h2
 rw[hr]
 exact⟨r,rfl⟩
theorem QrN{K:Nat}(hK:100<K){n:Nat}(hn:n<1000000000):∃r:List Int,QcT.f K (n:Int)=some r∧r.length<200:=by
 unfold QcT.f
 rw[Qi (QM (by omega))]
 have h1:∃r,Jz.l K (n:Int) K [128]=some r∧r.length<100:=by
  have key:∀(m:Nat) (out:List Int) (k:Nat),out.length+m≤65→(n+out.length+m)%64=56→m<k→∃r,Jz.l K (n:Int) k out=some r∧r.length<100:=by
   intro m
   induction m with
   |zero=>
    intro out k ho hm hk
    obtain⟨k,rfl⟩:∃j,k=j+1:=⟨k-1,by omega⟩
    refine⟨out,?_,by omega⟩
    show Jz.b K (n:Int) (Jz.l K (n:Int) k) _=_
    unfold Jz.b
    rw[wrap64 (by omega) (by omega)]
    have:Int.tmod ((n:Int)+(out.length:Int)) 64=((n+out.length)%64:Nat):=rfl
    rw[this,Qi (by simp;omega)]
   | succ m ih=>
    intro out k ho hm hk
    obtain⟨k,rfl⟩:∃j,k=j+1:=⟨k-1,by omega⟩
    show ∃r,Jz.b K (n:Int) (Jz.l K (n:Int) k) _=_∧_
    unfold Jz.b
    rw[wrap64 (by omega) (by omega)]
    have:Int.tmod ((n:Int)+(out.length:Int)) 64=((n+out.length)%64:Nat):=rfl
    rw[this]
    by_cases hc:(n+out.length)%64=56
    ·rw[Qi (by simp;omega)]
     exact⟨out,rfl,by omega⟩
    ·rw[Qj (by simp;omega),Jk (by simp;omega)]
     try simp only[Qb]
     exact ih (out++ [0]) k (by simp;omega) (by simp;omega) (by omega)
  exact key ((56+64*20000000-(n+1))%64) [128] K (by simp;omega) (by simp;omega) (by omega)
 obtain⟨z,hz,hzl⟩:=h1
 rw[hz]
 try simp only[Qb]
 have key:∀(m:Nat) (out:List Int) (k:Nat),m≤8→out.length+m<200→m<k→∃r,JQ.l K (n:Int) k (out,(m:Int)-1)=some r∧r.length<200:=by
  intro m
  induction m with
  |zero=>
   intro out k _ ho hk
   obtain⟨k,rfl⟩:∃j,k=j+1:=⟨k-1,by omega⟩
   refine⟨out,?_,by omega⟩
   show JQ.b K (n:Int) (JQ.l K (n:Int) k) (out,((0:Nat):Int)-1)=some out
   unfold JQ.b
   rw[Qi (QM (by simp))]
  |succ m ih=>
   intro out k h8 ho hk
   obtain⟨k,rfl⟩:∃j,k=j+1:=⟨k-1,by omega⟩
   show ∃r,JQ.b K (n:Int) (JQ.l K (n:Int) k) (out,((m+1:Nat):Int)-1)=some r∧r.length<200
   unfold JQ.b
   rw[Qj (QS (by simp only;omega))]
   simp only[chk]
   rw[wrap64 (n:=8*(((m+1:Nat):Int)-1)) (by omega) (by omega),Qj (by simp;omega),Jk (by simp;omega)]
   try simp only[Qb]
   rw[wrap64 (by omega) (by omega)]
   have:(((m+1:Nat):Int)-1-1)=(m:Int)-1:=by omega
   rw[this]
   exact ih _ k (by omega) (by simp;omega) (by omega)
 obtain⟨r,hr,hrl⟩:=key 8 z K (by omega) (by omega) (by omega)
 have e7:(((8:Nat):Int)-1)=7:=by decide
 rw[e7]at hr
 rw[hr]
 exact⟨r,rfl,hrl⟩
theorem QrO{K:Nat}(hK:1000000000000≤K){x:List (List Int)}(hx:x.length<1000)(hl:x.flatten.length<1000000):∃r,QdH.f K x=some r∧∀j,j<32→0≤vget r j∧vget r j<256:=by
 unfold QdH.f QdG.f
 have hc:QL.f K x=some x.flatten:=by
  have:=Qcs (K:=K) (x:=x) hK (by omega) (by omega)
  unfold Y4.f at this
  cases h:QL.f K x with
  |none=>rw[h]at this;cases this
  |some y=>rw[h]at this;exact this
 obtain⟨f,hf,hfl⟩:=QrN (K:=K) (n:=x.flatten.length) (by omega) (by omega)
 refine Qq hc ?_
 refine Qq hf ?_
 refine Qq (Jk (by omega)) ?_
 try simp only[Qb]
 have key:∀(n:Nat) (y:Vector Int 8×List Int) (k:Nat),y.2.length≤n→n<k→y.2.length<2000000→∃r,Jy.l K k y=some r:=by
  intro n
  induction n using Nat.strongRecOn with
  | _ n ih=>
   intro y k hy hk hb
   obtain⟨k,rfl⟩:∃j,k=j+1:=⟨k-1,by omega⟩
   obtain⟨y1,y2⟩:=y
   simp only at hy hb
   show ∃r,Jy.b K (Jy.l K k) _=_
   unfold Jy.b
   by_cases h64:64≤y2.length
   ·rw[Qj (QS (by simp only;omega))]
    simp only
    have s1:=Qcl (l:=y2) (b:=64) (by omega)
    have s2:=Qas (l:=y2) (a:=64) (by omega)
    simp only[Int.cast_ofNat_Int]at s1 s2
    refine Qi3 s1 ?_
    obtain⟨t,ht⟩:=QrM (K:=K) (by omega) y1 (b:=y2.take 64) (by simp;omega)
    refine Qi3 ht ?_
    refine Qi3 s2 ?_
    exact ih (n-64) (by omega) _ k (by simp;omega) (by omega) (by simp;omega)
   ·rw[Qi (QM (by simp only;omega))]
    exact⟨_,rfl⟩
 obtain⟨z,hz⟩:=key (x.flatten++f).length (Xn,x.flatten++f) K (Nat.le_refl _) (by simp at*;omega) (by simp at*;omega)
 refine Qq hz ?_
 have key2:∀(n i:Nat) (v:Vector Int 32) (k:Nat),i+n=32→n<k→(∀j,j<32→0≤vget v j∧vget v j<256)→∃r,YJ.l K z k ((i:Int),v)=some r∧∀j,j<32→0≤vget r j∧vget r j<256:=by
  intro n
  induction n with
  |zero=>
   intro i v k hi hk hv
   obtain⟨k,rfl⟩:∃j,k=j+1:=⟨k-1,by omega⟩
   refine⟨v,?_,hv⟩
   show YJ.b K z (YJ.l K z k) _=_
   unfold YJ.b
   rw[Qi (QM (by simp only;omega))]
  | succ n ih=>
   intro i v k hi hk hv
   obtain⟨k,rfl⟩:∃j,k=j+1:=⟨k-1,by omega⟩
   show ∃r,YJ.b K z (YJ.l K z k) _=_∧_
   unfold YJ.b
   rw[Qj (QS (by simp only;omega))]
   have e1:Int.tdiv (i:Int) 4=((i/4:Nat):Int):=rfl
   have e2:Int.tmod (i:Int) 4=((i%4:Nat):Int):=rfl
   simp only[chk]
   rw[e1,e2,wrap64 (n:=((i/4:Nat):Int)) (by omega) (by omega),Qj (Yz (by omega)),wrap64 (n:=8*((i%4:Nat):Int)) (by omega) (by omega),wrap64 (n:=24-8*((i%4:Nat):Int)) (by omega) (by omega),Qj (by simp;omega),Qj (Yz (by omega)),wrap_succ (by omega)]
   try simp only[Qb]
   refine ih (i+1) _ k (by omega) (by omega) (fun j hj=> ?_)
   rw[yT _ _ hj]
   split
   ·simp only[IntKind.wrap,IntKind.bits,IntKind.signed]
    simp
    omega
   ·exact hv j hj
 obtain⟨r,hr,hrr⟩:=key2 32 0 (Vector.replicate 32 0) K (by omega) (by omega) (fun j hj=>by
  have hz0:∀j,j<32→vget (Vector.replicate 32 (0:Int)) j=0:=by decide
  have:=hz0 j hj
  omega)
 have hr:YJ.l K z K (0,Vector.replicate 32 0)=some r:=hr
 obtain⟨r',h',hp⟩:∃r',((YJ.l K z K (0,Vector.replicate 32 0)).bind fun(z844:Vector Int 32)=>some z844)=some r'∧∀j,j<32→0≤vget r' j∧vget r' j<256:=⟨r,by rw[hr];rfl,hrr⟩
 exact⟨r',h',hp⟩
theorem Qed{K:Nat}(hK:1000000000000≤K){x:List (List Int)}(hx:x.length<1000)(hl:x.flatten.length<1000000):∃r,shaQ.f K x=some r∧∀j,j<32→0≤vget r j∧vget r j<256:=by
 rw[Qoy]
 exact QrO hK hx hl
end Go.Proofs.YtomndohdnfebgaaGreatDoor
namespace Go.Proofs.YtomndohdnfebgaaGreatDoor
open Go Go.Sep
theorem Qt9{K:Nat}(hK:1000000000000≤K){n:Int}:∃r:List Int,Qcx.f K n 4=some r∧r.length=4:=by
 unfold Qcx.f
 have hz:Z4 1 (0:Int) 4=some [0,0,0,0]:=rfl
 refine Qq hz ?_
 have key:∀(m i:Nat) (v:Int) (l:List Int) (k:Nat),i+m=4→m<k→l.length=4→∃r,YS.l K 4 [0,0,0,0] k (v,l,(i:Int))=some r∧r.length=4:=by
  intro m
  induction m with
  |zero=>
   intro i v l k hi hk hl
   obtain⟨k,rfl⟩:∃j,k=j+1:=⟨k-1,by omega⟩
   refine⟨l,?_,hl⟩
   show YS.b K 4 [0,0,0,0] (YS.l K 4 [0,0,0,0] k) _=_
   unfold YS.b
   rw[Qi (QM (by simp;omega))]
  |succ m ih=>
   intro i v l k hi hk hl
   obtain⟨k,rfl⟩:∃j,k=j+1:=⟨k-1,by omega⟩
   show ∃r,YS.b K 4 [0,0,0,0] (YS.l K 4 [0,0,0,0] k) _=_∧_
   unfold YS.b
   rw[Qj (QS (by simp;omega))]
   have e1:IntKind.wrap .i64 ((4:Int)-1)=((3:Nat):Int):=by rw[wrap64 (by omega) (by omega)];rfl
   have e2:IntKind.wrap .i64 (((3:Nat):Int)-(i:Int))=((3-i:Nat):Int):=by rw[wrap64 (by omega) (by omega)];omega
   simp only
   rw[e1,e2]
   obtain⟨x,hx⟩:=Jd (l:=l) (i:=3-i) (by omega)
   refine Qq hx ?_
   rw[wrap_succ (by omega)]
   exact ih (i+1) _ _ k (by omega) (by omega) (by simp[hl])
 obtain⟨r,hr,hl⟩:=key 4 0 n [0,0,0,0] K (by omega) (by omega) rfl
 have hr:YS.l K 4 [0,0,0,0] K (n, [0,0,0,0],0)=some r:=hr
 rw[hr]
 exact⟨r,rfl,hl⟩
theorem Qqh{K:Nat}(hK:1000000000000≤K){x:List (List Int)}(h:x.flatten.length<1000000000000)(hx:x.length<1000000000000):QL.f K x=some x.flatten:=by
 have:=Qcs (K:=K) (x:=x) hK h hx
 unfold Y4.f at this
 cases h:QL.f K x with
 |none=>rw[h]at this;cases this
 |some y=>rw[h]at this;exact this
theorem QrP{K:Nat}(hK:1000000000000≤K){x:List Int}(h:x.length<100000):∃r:List Int,Qb1.f K x=some r∧r.length=x.length+4:=by
 unfold Qb1.f
 obtain⟨r,hr,hl⟩:=Qt9 hK (n:=IntKind.wrap .u64 ((x.length:Nat):Int))
 refine Qq hr ?_
 refine Qq (Qqh hK (by simp;omega) (by simp)) ?_
 exact⟨_,rfl,by simp;omega⟩
def QlM(K:Nat)(x:List Int):List Int:=(Qb1.f K x).getD []
theorem QmC{K:Nat}(hK:1000000000000≤K){x:List Int}(h:x.length<100000):Qb1.f K x=some (QlM K x)∧(QlM K x).length=x.length+4:=by
 obtain⟨r,hr,hl⟩:=QrP hK h
 unfold QlM
 rw[hr]
 exact⟨rfl,hl⟩
theorem QsQ{K:Nat}(hK:1000000000000≤K){d:Int}{l:List (List Int)}(hl:l.length≤5)(h:∀x∈l,x.length≤10000):∃r,QfI.f K d l=some r∧∀j,j<32→0≤vget r j∧vget r j<256:=by
 unfold QfI.f XM.f
 have hfl:(l.map (QlM K)).flatten.length≤10004*l.length:=QiW (fun x hx=>by
  have:=h x hx
  rw[(QmC hK (x:=x) (by omega)).2];omega)
 have hj:=Qff (L:=Yr.l K l) l (QlM K) [] (k:=K) (by omega)
  (fun k s=>by
   show Yr.b K l (Yr.l K l k) _=_
   unfold Yr.b
   rw[Qi (QM (by simp))])
  (fun k s i x hi hx hm hs=>by
   show Yr.b K l (Yr.l K l k) _=_
   unfold Yr.b
   rw[Qj (QS (by simp only;omega))]
   simp only
   rw[hx]
   try simp only[Qb]
   have:=h x hm
   rw[(QmC hK (x:=x) (by omega)).1]
   try simp only[Qb]
   rw[Jk (by omega)]
   try simp only[Qb]
   rw[wrap_succ (by omega)])
  (by simp only[List.length_nil];omega)
 have hj:Yr.l K l K ([],0)=some ((l.map (QlM K)).flatten):=hj
 rw[hj]
 try simp only[Qb]
 obtain⟨r,hr,hp⟩:=Qed (K:=K) hK (x:= [[IntKind.wrap .u8 d],(l.map (QlM K)).flatten]) (by simp) (by simp only[List.flatten_cons,List.flatten_nil,List.append_nil,List.length_append,List.length_singleton];omega)
 refine Qq hr ?_
 exact⟨r,rfl,hp⟩
def ofS(K:Nat)(s:H32)(d:List Int):H32:=(QfI.f K 4 [Q7 s,d]).getD zH
theorem Qqi{h:H32}(hr:∀i,i<32→0≤vget h i∧vget h i<256):isB (Q7 h):=by
 intro x hx
 simp only[Q7,List.mem_map,List.mem_range]at hx
 obtain⟨i,hi,rfl⟩:=hx
 exact hr i hi
theorem Qvw{K:Nat}(hK:1000000000000≤K){s:H32}{d:List Int}(h:d.length≤10000):QfI.f K 4 [Q7 s,d]=some (ofS K s d)∧isB (Q7 (ofS K s d)):=by
 obtain⟨r,hr,hp⟩:=QsQ hK (d:=4) (l:= [Q7 s,d]) (by simp) (fun x hx=>by
  simp at hx
  rcases hx with rfl|rfl
  ·rw[QV];omega
  ·exact h)
 unfold ofS
 rw[hr]
 exact⟨rfl,Qqi hp⟩
def begS(x:Rc):Bool:=Je x&&decide (x.fKind=1)
def comS(K:Nat)(x:Rc):H32:=bif begS x then(bif x.fGone then x.fCom else ofS K x.fSalt x.fData)else zH
theorem vz:vofL 32 [(0:Int),(0:Int),(0:Int),(0:Int),(0:Int),(0:Int),(0:Int),(0:Int),(0:Int),(0:Int),(0:Int),(0:Int),(0:Int),(0:Int),(0:Int),(0:Int),(0:Int),(0:Int),(0:Int),(0:Int),(0:Int),(0:Int),(0:Int),(0:Int),(0:Int),(0:Int),(0:Int),(0:Int),(0:Int),(0:Int),(0:Int),(0:Int)]=zH:=by decide
theorem Qvx{K:Nat}(hK:1000000000000≤K){x:Rc}(ho:okD x):QfJ.f K x=some (comS K x):=by
 unfold QfJ.f comS
 try simp only[jn]
 rw[right_eq hK ho,vz]
 try simp only[Qb]
 cases hr:Je x with
 |false=>
  have:begS x=false:=by unfold begS;rw[hr];rfl
  rw[this];rfl
 | true=>
  simp only[Bool.not_true,Qh]
  by_cases hk:x.fKind=1
  ·have hb:begS x=true:=by unfold begS;rw[hr,QS hk];rfl
   rw[hb,QS hk]
   simp only[Bool.not_true,Qh,Qg]
   cases hg:x.fGone with
   |true=>rfl
   |false=>
    simp only[Qh]
    have h3:=((Qct hr).beg hk).2.2
    have hs:=Qcl (l:=Q7 x.fSalt) (b:=32) (by rw[QV];omega)
    rw[List.take_of_length_le (by rw[QV];omega)]at hs
    refine QI hs ?_
    rw[(Qvw hK (s:=x.fSalt) (d:=x.fData) (by omega)).1]
    rfl
  ·have hb:begS x=false:=by unfold begS;rw[QM hk];simp
   rw[hb,QM hk];rfl
def QrQ(K:Nat)(x:Rc):List Int:=bif decide (x.fKind=1)then numW x.fSaga++(Qdv x.fSteps++Q7 (comS K x))else Qal x.fKind x
def Qks(K:Nat)(x:Rc):List Int:=numW x.fKind++QrQ K x
theorem Qkt{K:Nat}{x:Rc}(h:Je x=true):(Qks K x).length≤400:=by
 have h2:=YO (QmA h)
 unfold Qks QrQ
 by_cases hk:x.fKind=1
 ·rw[Qj (QS hk)]
  have hd:=Qct h
  obtain⟨b1,b2,b3⟩:=hd.beg hk
  have b1:=qj.1 b1
  have h4:=Qcc b2 (by omega)
  have h1:=YO hd.saga
  simp only[List.length_append,QV];omega
 ·rw[Qi (QM hk)]
  have h1:=Qkh h
  simp only[List.length_append];omega
end Go.Proofs.YtomndohdnfebgaaGreatDoor
namespace Go.Proofs.YtomndohdnfebgaaGreatDoor
open Go Go.Sep
theorem Qua{K:Nat}(hK:1000000000000≤K){x:Rc}(ho:okD x):Z8.f K x=some (bif Je x then Qks K x else []):=by
 unfold Z8.f QkM.f
 rw[right_eq hK ho]
 try simp only[Qb,jn]
 cases hr:Je x with
 |false=>rfl
 |true=>
 rw[Qi (by rfl)]
 have hd:=Qct hr
 rw[Qt1 hK (QmA hr)]
 try simp only[Qb]
 have hb:=Qkh hr
 have hk:=YO (QmA hr)
 have w1:=YO hd.saga
 have w2:=YO hd.part
 have w3:=YO hd.epoch
 rw[show QcW.f K=some ()from rfl]
 try simp only[Qb]
 have e:∀k,x.fKind=k→k≠1→Qks K x=numW x.fKind++Qal k x:=fun k hk h1=>by
  unfold Qks QrQ
  rw[Qi (QM (by rw[hk];exact h1)),hk]
 rcases hd.kind with k|k|k|k|k|k
 ·obtain⟨b1,b2,b3⟩:=hd.beg k
  have b1:=qj.1 b1
  have hl:=Qcc b2 (by omega)
  rw[Qi (QM (by omega)),Qj (QS k),QrF hK hd.saga (by omega) b2]
  try simp only[Qb]
  rw[Qcs hK (by simp;omega) (by simp)]
  try simp only[Qb]
  rw[Qj (QS k)]
  have hL:Zr.f K x=some (Q7 (comS K x)):=by
   unfold Zr.f
   refine QI (Qvx hK ho) ?_
   rw[QpL]
   rfl
  rw[hL]
  simp only[Qb,Qg]
  have hsl:=Qkt (K:=K) hr
  unfold Qks QrQ at hsl⊢
  rw[Qj (QS k)]at hsl⊢
  simp only[List.length_append,QV]at hsl
  rw[Jk (by simp[QV];omega)]
  simp
 ·have h4:=hd.call (.inl k)
  rw[Qi (QM (by omega)),Qi (QM (by omega)),Qj (QS k),QlF hK hd.saga h4.1 h4.2.1 h4.2.2]
  try simp only[Qb]
  rw[e 2 k (by decide)]
  simp only[Qal,k]at hb⊢
  simp at hb
  rw[Qcs hK (by simp[k]at hk⊢;omega) (by simp)]
  simp
 ·have h4:=hd.call (.inr (.inr k))
  rw[Qi (QM (by omega)),Qi (QM (by omega)),Qi (QM (by omega)),Qj (QS k)]
  have hL:XJ.f K x=some (Qal 3 x):=by
   unfold XJ.f
   rw[QlF hK hd.saga h4.1 h4.2.1 h4.2.2]
   try simp only[Qb]
   rw[QpK]
   try simp only[Qb]
   rw[Qd8 hK (by simp) (by intro n hn;simp at hn;rcases hn with rfl|rfl;exact hd.part;exact hd.epoch)]
   try simp only[Qb]
   rw[QpL]
   try simp only[Qb]
   simp only[k,Qal]at hb
   simp[QV]at hb
   rw[Qcs hK (by simp[QV];omega) (by simp)]
   simp[Qal]
  rw[hL]
  try simp only[Qb]
  rw[e 3 k (by decide)]
  simp only[k]at hb hk⊢
  rw[Qcs hK (by simp;omega) (by simp)]
  simp
 ·have h4:=hd.call (.inr (.inl k))
  rw[Qi (QM (by omega)),Qi (QM (by omega)),Qi (QM (by omega)),Qi (QM (by omega)),Qj (QS k),QlF hK hd.saga h4.1 h4.2.1 h4.2.2]
  try simp only[Qb]
  rw[e 4 k (by decide)]
  simp only[Qal,k]at hb⊢
  simp at hb
  rw[Qcs hK (by simp[k]at hk⊢;omega) (by simp)]
  simp
 ·have h4:=hd.clo k
  rw[Qi (QM (by omega)),Qi (QM (by omega)),Qi (QM (by omega)),Qi (QM (by omega)),Qi (QM (by omega)),Qj (QS k)]
  have hL:XK.f K x=some (Qal 5 x):=by
   unfold XK.f
   rw[Qd8 hK (by simp) (by intro n hn;simp at hn;rcases hn with rfl|rfl|rfl;exact hd.saga;exact h4.1;exact h4.2)]
   simp[Qal]
  rw[hL]
  try simp only[Qb]
  rw[e 5 k (by decide)]
  simp only[k]at hb hk⊢
  rw[Qcs hK (by simp;omega) (by simp)]
  simp
 ·rw[Qi (QM (by omega)),Qi (QM (by omega)),Qi (QM (by omega)),Qi (QM (by omega)),Qi (QM (by omega)),Qi (QM (by omega)),Qj (QS k)]
  have hL:XL.f K x=some (Qal 6 x):=by
   unfold XL.f
   rw[Qd8 hK (by simp) (by intro n hn;simp at hn;rcases hn with rfl|rfl;exact hd.part;exact hd.epoch)]
   simp[Qal]
  rw[hL]
  try simp only[Qb]
  rw[e 6 k (by decide)]
  simp only[k]at hb hk⊢
  rw[Qcs hK (by simp;omega) (by simp)]
  simp
end Go.Proofs.YtomndohdnfebgaaGreatDoor
namespace Go.Proofs.YtomndohdnfebgaaGreatDoor
open Go Go.Sep
theorem bnd{α β:Type}{o:Option α}{x:α}{f:α→Option β}(h:o=some x):o.bind f=f x:=by rw[h];rfl
def dpt(n:Nat):Nat:=Nat.log2 (2*n-1)
theorem QrR{b:List Int}(h:b.length<900000):∃r,Qbm.f 1000000000000 b=some r:=by
 unfold Qbm.f
 obtain⟨r,hr,_⟩:=Qed (K:=1000000000000) (Nat.le_refl _) (x:= [[0],b]) (by simp) (by simp;omega)
 exact⟨r,QI hr rfl⟩
theorem Qfh(a b:H32):∃r,yX.f 1000000000000 a b=some r:=by
 unfold yX.f
 have hs:∀v:H32,subI (Q7 v) 0 ((32:Nat):Int)=some (Q7 v):=fun v=>by
  have:=Qcl (l:=Q7 v) (b:=32) (by rw[QV];omega)
  rw[List.take_of_length_le (by rw[QV];omega)]at this
  exact this
 obtain⟨r,hr,_⟩:=Qed (K:=1000000000000) (Nat.le_refl _) (x:= [[1],Q7 a,Q7 b]) (by simp) (by simp[QV])
 exact⟨r,QI (hs a) (QI (hs b) (QI hr rfl))⟩
end Go.Proofs.YtomndohdnfebgaaGreatDoor
