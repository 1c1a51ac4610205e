/-
 Plain: exported bundles: hashes, roots and paths are there, items, what a bundle of places comes to.
-/
import Derived.Test.YtomndohdnfebgaaGreatDoorSepK
namespace Go.Proofs.YtomndohdnfebgaaGreatDoor
open Go Go.Sep
theorem Qd1{x:Bun}(h:Qmx x):QwZ x:=by
 have hi:=h.items
 unfold Qbd at hi
 refine⟨h.root,fun s hs=>(h.sigs.2 s hs).2,fun y hy=> ?_,fun y hy z hz=> ?_⟩
 ·cases hw:x.fWhole with
  |true=>
   rw[hw]at hi
   obtain⟨j,hj⟩:=List.getElem?_of_mem hy
   exact(hi.2.2 j y hj).1.2
  |false=>rw[hw]at hi;exact(hi.2 y hy).2.1.2
 ·cases hw:x.fWhole with
  |true=>
   rw[hw]at hi
   obtain⟨j,hj⟩:=List.getElem?_of_mem hy
   have:=(hi.2.2 j y hj).2
   rw[←this]at hz
   cases hz
  |false=>rw[hw]at hi;exact(hi.2 y hy).2.2.2 z hz
theorem Quc{b:List Int}(hb:isB b)(hl:b.length<1000000000)(h:(getS b).2=0):b=mark++bunW (getS b).1∧Qmx (getS b).1∧QdY (getS b).1=true:=by
 unfold getS at h⊢
 split
 ·rename_i hm
  rw[if_pos hm]at h
  have hg:Good ⟨b.drop 4,0⟩:=Good.drop (b:=b) (e:=0) ⟨hb,hl⟩ 4
  have hs:=Qk4.back ⟨b.drop 4,0⟩ hg
  generalize bunR ⟨b.drop 4,0⟩=t at h hs
  obtain⟨x,r⟩:=t
  unfold endS at h⊢
  simp only at h hs⊢
  by_cases h1:r.fBad=0
  ·simp only[h1,ne_eq,not_true_eq_false,if_false]at h⊢
   by_cases h2:r.fB= []
   ·simp only[h2,if_true,not_true_eq_false,if_false]at h⊢
    cases h3:QdY x with
    |true=>
     simp only[if_true]
     obtain⟨_,e,o⟩:=hs h1
     refine⟨?_,o,h3⟩
     rw[h2,List.append_nil]at e
     rw[←e,←hm,List.take_append_drop]
    |false=>simp[h3]at h
   ·simp[h2]at h
  ·simp[h1]at h
 ·rename_i hm
  rw[if_neg hm]at h
  simp at h
end Go.Proofs.YtomndohdnfebgaaGreatDoor
namespace Go.Proofs.YtomndohdnfebgaaGreatDoor
open Go Go.Sep
theorem QjE{Y R:Type}{L:Nat→Y→Option R}(I:Nat→Y→Prop)(h0:∀k y,I 0 y→∃r,L (k+1) y=some r)
  (hs:∀k n y,I (n+1) y→∃y',I n y'∧L (k+1) y=L k y'):∀(n:Nat) (y:Y) (k:Nat),I n y→n<k→∃r,L k y=some r:=by
 intro n
 induction n with
 |zero=>
  intro y k hi hk
  obtain⟨k,rfl⟩:∃j,k=j+1:=⟨k-1,by omega⟩
  exact h0 k y hi
 |succ n ih=>
  intro y k hi hk
  obtain⟨k,rfl⟩:∃j,k=j+1:=⟨k-1,by omega⟩
  obtain⟨y',h1,h2⟩:=hs k n y hi
  rw[h2]
  exact ih y' k h1 (by omega)
theorem QjF{α β:Type}{o:Option α}{x:α}{f:α→Option β}(h:o=some x)(h2:∃r,f x=some r):∃r,o.bind f=some r:=by rw[h];exact h2
theorem Qv{α β:Type}{o:Option α}{x:α}{f:α→Option β}{P:β→Prop}(h:o=some x)(h2:∃r,f x=some r∧P r):∃r,o.bind f=some r∧P r:=by rw[h];exact h2
theorem Yn{N i:Nat}(h:i<N):inA N (i:Int)=true:=by
 unfold inA
 rw[QS (by omega),QS (by omega)];rfl
theorem Qla{K:Nat}(x:Int):(∃r,XW.f K x 17 19 10=some r)∧(∃r,XW.f K x 7 18 3=some r):=⟨⟨_,rfl⟩,⟨_,rfl⟩⟩
theorem Qip{K:Nat}(x:Int):(∃r,y8.f K x 6 11 25=some r)∧(∃r,y8.f K x 2 13 22=some r):=⟨⟨_,rfl⟩,⟨_,rfl⟩⟩
theorem Jm{α:Type}{l:List α}{i:Nat}(h:i<l.length):∃x,getI l (i:Int)=some x:=⟨l[i],by rw[Jq,List.getElem?_eq_getElem h]⟩
theorem Qlb{K:Nat}(hK:100<K){b:List Int}(hb:b.length=64):∃w,Xm.f K b=some w:=by
 unfold Xm.f
 have:=QjE (L:=Yc.l K b) (fun n y=>∃i:Nat,y.1=(i:Int)∧i+n=64)
  (fun k y ⟨i,hy,hi⟩=>by
   obtain⟨y1,y2⟩:=y
   simp only at hy
   subst hy
   refine⟨y2,?_⟩
   show Yc.b K b (Yc.l K b k) _=_
   unfold Yc.b
   rw[Qi (QP (by simp only;omega))])
  (fun k n y ⟨i,hy,hi⟩=>by
   obtain⟨y1,y2⟩:=y
   simp only at hy
   subst hy
   show ∃y',_∧Yc.b K b (Yc.l K b k) _=_
   unfold Yc.b
   try simp only[jn]
   rw[Qj (QS (by omega)),wrap_succ (by omega)]
   by_cases h16:(i:Int)<16
   ·rw[Qj (QS h16)]
    have w4:IntKind.wrap .i64 (4*(i:Int))=((4*i:Nat):Int):=by rw[wrap64 (by omega) (by omega)];push_cast;rfl
    have wj:∀j:Nat,j<4→IntKind.wrap .i64 (((4*i:Nat):Int)+(j:Int))=((4*i+j:Nat):Int):=fun j hj=>by rw[wrap64 (by omega) (by omega)];push_cast;rfl
    obtain⟨x0,e0⟩:=Jm (l:=b) (i:=4*i) (by omega)
    obtain⟨x1,e1⟩:=Jm (l:=b) (i:=4*i+1) (by omega)
    obtain⟨x2,e2⟩:=Jm (l:=b) (i:=4*i+2) (by omega)
    obtain⟨x3,e3⟩:=Jm (l:=b) (i:=4*i+3) (by omega)
    rw[w4,e0]
    try simp only[Qb]
    rw[show(1:Int)=((1:Nat):Int) by rfl,wj 1 (by omega),e1]
    try simp only[Qb]
    rw[show(2:Int)=((2:Nat):Int) by rfl,wj 2 (by omega),e2]
    try simp only[Qb]
    rw[show(3:Int)=((3:Nat):Int) by rfl,wj 3 (by omega),e3]
    simp only[Qb,chk]
    rw[Qj (Yn (by omega))]
    exact⟨(_,_),⟨i+1,rfl,by omega⟩,rfl⟩
   ·rw[Qi (QP h16)]
    have wj:∀j:Nat,j≤16→IntKind.wrap .i64 ((i:Int)-(j:Int))=((i-j:Nat):Int):=fun j hj=>by rw[wrap64 (by omega) (by omega)];omega
    have h2:=wj 2 (by omega)
    have h7:=wj 7 (by omega)
    have h15:=wj 15 (by omega)
    have h16':=wj 16 (by omega)
    simp only[Int.cast_ofNat_Int]at h2 h7 h15 h16'
    rw[h2,h7,h15,h16']
    simp only[chk]
    rw[Qj (Yn (by omega)),Qj (Yn (by omega)),Qj (Yn (by omega)),Qj (Yn (by omega))]
    obtain⟨r1,e1⟩:=(Qla (K:=K) (vget y2 (Int.toNat ((i-2:Nat):Int)))).1
    obtain⟨r2,e2⟩:=(Qla (K:=K) (vget y2 (Int.toNat ((i-15:Nat):Int)))).2
    rw[e1]
    try simp only[Qb]
    rw[e2]
    try simp only[Qb]
    rw[Qj (Yn (by omega))]
    exact⟨(_,_),⟨i+1,rfl,by omega⟩,rfl⟩)
  64 (0,Vector.replicate 64 0) K ⟨0,rfl,rfl⟩ (by omega)
 obtain⟨w,hw⟩:=this
 rw[hw]
 exact⟨w,rfl⟩
theorem Qs2{K:Nat}(hK:100<K)(h:Vector Int 8){b:List Int}(hb:b.length=64):∃r,Qck.f K h b=some r:=by
 unfold Qck.f
 rw[Qi (by simp[hb])]
 obtain⟨w,hw⟩:=Qlb hK hb
 rw[hw]
 try simp only[Qb]
 have h1:=QjE (L:=YN.l K w) (fun n y=>∃i:Nat,y.1=(i:Int)∧i+n=64)
  (fun k y ⟨i,hy,hi⟩=>by
   obtain⟨y1,y2⟩:=y
   simp only at hy
   subst hy
   refine⟨y2,?_⟩
   show YN.b K w (YN.l K w k) _=_
   unfold YN.b
   rw[Qi (QP (by simp only;omega))])
  (fun k n y ⟨i,hy,hi⟩=>by
   obtain⟨y1,y2⟩:=y
   simp only at hy
   subst hy
   show ∃y',_∧YN.b K w (YN.l K w k) _=_
   unfold YN.b
   rw[Qj (QS (by simp only;omega))]
   obtain⟨x,ex⟩:=Jm (l:=Yg w) (i:=i) (by rw[Q8];omega)
   obtain⟨r1,e1⟩:=(Qip (K:=K) (vget y2 (Int.toNat 4))).1
   obtain⟨r2,e2⟩:=(Qip (K:=K) (vget y2 (Int.toNat 0))).2
   simp only
   rw[ex]
   simp only[Qb,chk]
   rw[Qj (Yn (by omega)),e1]
   try simp only[Qb]
   rw[e2]
   try simp only[Qb]
   rw[wrap_succ (by omega)]
   exact⟨(_,_),⟨i+1,rfl,by omega⟩,rfl⟩)
  64 (0,h) K ⟨0,rfl,rfl⟩ (by omega)
 obtain⟨z,hz⟩:=h1
 rw[hz]
 try simp only[Qb]
 have h2:=QjE (L:=YO.l K z) (fun n y=>∃i:Nat,y.1=(i:Int)∧i+n=8)
  (fun k y ⟨i,hy,hi⟩=>by
   obtain⟨y1,y2⟩:=y
   simp only at hy
   subst hy
   refine⟨y2,?_⟩
   show YO.b K z (YO.l K z k) _=_
   unfold YO.b
   rw[Qi (QP (by simp only;omega))])
  (fun k n y ⟨i,hy,hi⟩=>by
   obtain⟨y1,y2⟩:=y
   simp only at hy
   subst hy
   show ∃y',_∧YO.b K z (YO.l K z k) _=_
   unfold YO.b
   rw[Qj (QS (by simp only;omega))]
   simp only[Qb,chk]
   rw[Qj (Yn (by omega)),Qj (Yn (by omega)),Qj (Yn (by omega)),wrap_succ (by omega)]
   exact⟨(_,_),⟨i+1,rfl,by omega⟩,rfl⟩)
  8 (0,h) K ⟨0,rfl,rfl⟩ (by omega)
 obtain⟨r,hr⟩:=h2
 rw[hr]
 exact⟨r,rfl⟩
theorem Qs3{K:Nat}(hK:100<K){n:Nat}(hn:n<1000000000):∃r:List Int,Qdm.f K (n:Int)=some r∧r.length<200:=by
 unfold Qdm.f
 rw[Qi (QP (by omega))]
 have h1:∃r,JL.l K (n:Int) K [128]=some r∧r.length<100:=by
  have key:∀(m:Nat) (out:List Int) (k:Nat),out.length+m≤65→(n+out.length+m)%64=56→m<k→∃r,JL.l K (n:Int) k out=some r∧r.length<100:=by
   intro m
   induction m with
   |zero=>
    intro out k ho hm hk
    obtain⟨k,rfl⟩:∃j,k=j+1:=⟨k-1,by omega⟩
    refine⟨out,?_,by omega⟩
    show JL.b K (n:Int) (JL.l K (n:Int) k) _=_
    unfold JL.b
    rw[wrap64 (by omega) (by omega)]
    have:Int.tmod ((n:Int)+(out.length:Int)) 64=((n+out.length)%64:Nat):=rfl
    rw[this,Qi (by simp;omega)]
   | succ m ih=>
    intro out k ho hm hk
    obtain⟨k,rfl⟩:∃j,k=j+1:=⟨k-1,by omega⟩
    show ∃r,JL.b K (n:Int) (JL.l K (n:Int) k) _=_∧_
    unfold JL.b
    rw[wrap64 (by omega) (by omega)]
    have:Int.tmod ((n:Int)+(out.length:Int)) 64=((n+out.length)%64:Nat):=rfl
    rw[this]
    by_cases hc:(n+out.length)%64=56
    ·rw[Qi (by simp;omega)]
     exact⟨out,rfl,by omega⟩
    ·rw[Qj (by simp;omega),Y4 (by simp;omega)]
     try simp only[Qb]
     exact ih (out++ [0]) k (by simp;omega) (by simp;omega) (by omega)
  exact key ((56+64*20000000-(n+1))%64) [128] K (by simp;omega) (by simp;omega) (by omega)
 obtain⟨z,hz,hzl⟩:=h1
 rw[hz]
 try simp only[Qb]
 have key:∀(m:Nat) (out:List Int) (k:Nat),m≤8→out.length+m<200→m<k→∃r,J4.l K (n:Int) k (out,(m:Int)-1)=some r∧r.length<200:=by
  intro m
  induction m with
  |zero=>
   intro out k _ ho hk
   obtain⟨k,rfl⟩:∃j,k=j+1:=⟨k-1,by omega⟩
   refine⟨out,?_,by omega⟩
   show J4.b K (n:Int) (J4.l K (n:Int) k) (out,((0:Nat):Int)-1)=some out
   unfold J4.b
   rw[Qi (QP (by simp))]
  |succ m ih=>
   intro out k h8 ho hk
   obtain⟨k,rfl⟩:∃j,k=j+1:=⟨k-1,by omega⟩
   show ∃r,J4.b K (n:Int) (J4.l K (n:Int) k) (out,((m+1:Nat):Int)-1)=some r∧r.length<200
   unfold J4.b
   rw[Qj (QS (by simp only;omega))]
   simp only[chk]
   rw[wrap64 (n:=8*(((m+1:Nat):Int)-1)) (by omega) (by omega),Qj (by simp;omega),Y4 (by simp;omega)]
   try simp only[Qb]
   rw[wrap64 (by omega) (by omega)]
   have:(((m+1:Nat):Int)-1-1)=(m:Int)-1:=by omega
   rw[this]
   exact ih _ k (by omega) (by simp;omega) (by omega)
 obtain⟨r,hr,hrl⟩:=key 8 z K (by omega) (by omega) (by omega)
 have e7:(((8:Nat):Int)-1)=7:=by decide
 rw[e7]at hr
 rw[hr]
 exact⟨r,rfl,hrl⟩
theorem Qs4{K:Nat}(hK:1000000000000≤K){x:List (List Int)}(hx:x.length<1000)(hl:x.flatten.length<1000000):∃r,Qed.f K x=some r∧∀j,j<32→0≤vget r j∧vget r j<256:=by
 unfold Qed.f Qec.f
 have hc:QU.f K x=some x.flatten:=by
  have:=QcM (K:=K) (x:=x) hK (by omega) (by omega)
  unfold Je.f at this
  cases h:QU.f K x with
  |none=>rw[h]at this;cases this
  |some y=>rw[h]at this;exact this
 obtain⟨f,hf,hfl⟩:=Qs3 (K:=K) (n:=x.flatten.length) (by omega) (by omega)
 refine Qv hc ?_
 refine Qv hf ?_
 refine Qv (Y4 (by omega)) ?_
 try simp only[Qb]
 have key:∀(n:Nat) (y:Vector Int 8×List Int) (k:Nat),y.2.length≤n→n<k→y.2.length<2000000→∃r,JK.l K k y=some r:=by
  intro n
  induction n using Nat.strongRecOn with
  | _ n ih=>
   intro y k hy hk hb
   obtain⟨k,rfl⟩:∃j,k=j+1:=⟨k-1,by omega⟩
   obtain⟨y1,y2⟩:=y
   simp only at hy hb
   show ∃r,JK.b K (JK.l K k) _=_
   unfold JK.b
   by_cases h64:64≤y2.length
   ·rw[Qj (QS (by simp only;omega))]
    simp only
    have s1:=Qbg (l:=y2) (b:=64) (by omega)
    have s2:=ZC (l:=y2) (a:=64) (by omega)
    simp only[Int.cast_ofNat_Int]at s1 s2
    refine QjF s1 ?_
    obtain⟨t,ht⟩:=Qs2 (K:=K) (by omega) y1 (b:=y2.take 64) (by simp;omega)
    refine QjF ht ?_
    refine QjF s2 ?_
    exact ih (n-64) (by omega) _ k (by simp;omega) (by omega) (by simp;omega)
   ·rw[Qi (QP (by simp only;omega))]
    exact⟨_,rfl⟩
 obtain⟨z,hz⟩:=key (x.flatten++f).length (XB,x.flatten++f) K (Nat.le_refl _) (by simp at*;omega) (by simp at*;omega)
 refine Qv hz ?_
 have key2:∀(n i:Nat) (v:Vector Int 32) (k:Nat),i+n=32→n<k→(∀j,j<32→0≤vget v j∧vget v j<256)→∃r,YT.l K z k ((i:Int),v)=some r∧∀j,j<32→0≤vget r j∧vget r j<256:=by
  intro n
  induction n with
  |zero=>
   intro i v k hi hk hv
   obtain⟨k,rfl⟩:∃j,k=j+1:=⟨k-1,by omega⟩
   refine⟨v,?_,hv⟩
   show YT.b K z (YT.l K z k) _=_
   unfold YT.b
   rw[Qi (QP (by simp only;omega))]
  | succ n ih=>
   intro i v k hi hk hv
   obtain⟨k,rfl⟩:∃j,k=j+1:=⟨k-1,by omega⟩
   show ∃r,YT.b K z (YT.l K z k) _=_∧_
   unfold YT.b
   rw[Qj (QS (by simp only;omega))]
   have e1:Int.tdiv (i:Int) 4=((i/4:Nat):Int):=rfl
   have e2:Int.tmod (i:Int) 4=((i%4:Nat):Int):=rfl
   simp only[chk]
   rw[e1,e2,wrap64 (n:=((i/4:Nat):Int)) (by omega) (by omega),Qj (Yn (by omega)),wrap64 (n:=8*((i%4:Nat):Int)) (by omega) (by omega),wrap64 (n:=24-8*((i%4:Nat):Int)) (by omega) (by omega),Qj (by simp;omega),Qj (Yn (by omega)),wrap_succ (by omega)]
   try simp only[Qb]
   refine ih (i+1) _ k (by omega) (by omega) (fun j hj=> ?_)
   rw[Xl _ _ hj]
   split
   ·simp only[IntKind.wrap,IntKind.bits,IntKind.signed]
    simp
    omega
   ·exact hv j hj
 obtain⟨r,hr,hrr⟩:=key2 32 0 (Vector.replicate 32 0) K (by omega) (by omega) (fun j hj=>by
  have hz0:∀j,j<32→vget (Vector.replicate 32 (0:Int)) j=0:=by decide
  have:=hz0 j hj
  omega)
 have hr:YT.l K z K (0,Vector.replicate 32 0)=some r:=hr
 obtain⟨r',h',hp⟩:∃r',((YT.l K z K (0,Vector.replicate 32 0)).bind fun(z844:Vector Int 32)=>some z844)=some r'∧∀j,j<32→0≤vget r' j∧vget r' j<256:=⟨r,by rw[hr];rfl,hrr⟩
 exact⟨r',h',hp⟩
theorem Qc8{K:Nat}(hK:1000000000000≤K){x:List (List Int)}(hx:x.length<1000)(hl:x.flatten.length<1000000):∃r,shaQ.f K x=some r∧∀j,j<32→0≤vget r j∧vget r j<256:=by
 rw[QpC]
 exact Qs4 hK hx hl
end Go.Proofs.YtomndohdnfebgaaGreatDoor
namespace Go.Proofs.YtomndohdnfebgaaGreatDoor
open Go Go.Sep
theorem Qvy{K:Nat}(hK:1000000000000≤K){n:Int}:∃r:List Int,QcR.f K n 4=some r∧r.length=4:=by
 unfold QcR.f
 have hz:Qal 1 (0:Int) 4=some [0,0,0,0]:=rfl
 refine Qv hz ?_
 have key:∀(m i:Nat) (v:Int) (l:List Int) (k:Nat),i+m=4→m<k→l.length=4→∃r,Y3.l K 4 [0,0,0,0] k (v,l,(i:Int))=some r∧r.length=4:=by
  intro m
  induction m with
  |zero=>
   intro i v l k hi hk hl
   obtain⟨k,rfl⟩:∃j,k=j+1:=⟨k-1,by omega⟩
   refine⟨l,?_,hl⟩
   show Y3.b K 4 [0,0,0,0] (Y3.l K 4 [0,0,0,0] k) _=_
   unfold Y3.b
   rw[Qi (QP (by simp;omega))]
  |succ m ih=>
   intro i v l k hi hk hl
   obtain⟨k,rfl⟩:∃j,k=j+1:=⟨k-1,by omega⟩
   show ∃r,Y3.b K 4 [0,0,0,0] (Y3.l K 4 [0,0,0,0] k) _=_∧_
   unfold Y3.b
   rw[Qj (QS (by simp;omega))]
   have e1:IntKind.wrap .i64 ((4:Int)-1)=((3:Nat):Int):=by rw[wrap64 (by omega) (by omega)];rfl
   have e2:IntKind.wrap .i64 (((3:Nat):Int)-(i:Int))=((3-i:Nat):Int):=by rw[wrap64 (by omega) (by omega)];omega
   simp only
   rw[e1,e2]
   obtain⟨x,hx⟩:=Jm (l:=l) (i:=3-i) (by omega)
   refine Qv hx ?_
   rw[wrap_succ (by omega)]
   exact ih (i+1) _ _ k (by omega) (by omega) (by simp[hl])
 obtain⟨r,hr,hl⟩:=key 4 0 n [0,0,0,0] K (by omega) (by omega) rfl
 have hr:Y3.l K 4 [0,0,0,0] K (n, [0,0,0,0],0)=some r:=hr
 rw[hr]
 exact⟨r,rfl,hl⟩
theorem Qrm{K:Nat}(hK:1000000000000≤K){x:List (List Int)}(h:x.flatten.length<1000000000000)(hx:x.length<1000000000000):QU.f K x=some x.flatten:=by
 have:=QcM (K:=K) (x:=x) hK h hx
 unfold Je.f at this
 cases h:QU.f K x with
 |none=>rw[h]at this;cases this
 |some y=>rw[h]at this;exact this
theorem Qs5{K:Nat}(hK:1000000000000≤K){x:List Int}(h:x.length<100000):∃r:List Int,Qcn.f K x=some r∧r.length=x.length+4:=by
 unfold Qcn.f
 obtain⟨r,hr,hl⟩:=Qvy hK (n:=IntKind.wrap .u64 ((x.length:Nat):Int))
 refine Qv hr ?_
 refine Qv (Qrm hK (by simp;omega) (by simp)) ?_
 exact⟨_,rfl,by simp;omega⟩
def Qmz(K:Nat)(x:List Int):List Int:=(Qcn.f K x).getD []
theorem Qnw{K:Nat}(hK:1000000000000≤K){x:List Int}(h:x.length<100000):Qcn.f K x=some (Qmz K x)∧(Qmz K x).length=x.length+4:=by
 obtain⟨r,hr,hl⟩:=Qs5 hK h
 unfold Qmz
 rw[hr]
 exact⟨rfl,hl⟩
theorem Qud{K:Nat}(hK:1000000000000≤K){d:Int}{l:List (List Int)}(hl:l.length≤5)(h:∀x∈l,x.length≤10000):∃r,Qgh.f K d l=some r∧∀j,j<32→0≤vget r j∧vget r j<256:=by
 unfold Qgh.f X4.f
 have hfl:(l.map (Qmz K)).flatten.length≤10004*l.length:=Qjy (fun x hx=>by
  have:=h x hx
  rw[(Qnw hK (x:=x) (by omega)).2];omega)
 have hj:=QfO (L:=Yz.l K l) l (Qmz K) [] (k:=K) (by omega)
  (fun k s=>by
   show Yz.b K l (Yz.l K l k) _=_
   unfold Yz.b
   rw[Qi (QP (by simp))])
  (fun k s i x hi hx hm hs=>by
   show Yz.b K l (Yz.l K l k) _=_
   unfold Yz.b
   rw[Qj (QS (by simp only;omega))]
   simp only
   rw[hx]
   try simp only[Qb]
   have:=h x hm
   rw[(Qnw hK (x:=x) (by omega)).1]
   try simp only[Qb]
   rw[Y4 (by omega)]
   try simp only[Qb]
   rw[wrap_succ (by omega)])
  (by simp only[List.length_nil];omega)
 have hj:Yz.l K l K ([],0)=some ((l.map (Qmz K)).flatten):=hj
 rw[hj]
 try simp only[Qb]
 obtain⟨r,hr,hp⟩:=Qc8 (K:=K) hK (x:= [[IntKind.wrap .u8 d],(l.map (Qmz K)).flatten]) (by simp) (by simp only[List.flatten_cons,List.flatten_nil,List.append_nil,List.length_append,List.length_singleton];omega)
 refine Qv hr ?_
 exact⟨r,rfl,hp⟩
def ofS(K:Nat)(s:H32)(d:List Int):H32:=(Qgh.f K 4 [Yg s,d]).getD zH
theorem Qrn{h:H32}(hr:∀i,i<32→0≤vget h i∧vget h i<256):isB (Yg h):=by
 intro x hx
 simp only[Yg,List.mem_map,List.mem_range]at hx
 obtain⟨i,hi,rfl⟩:=hx
 exact hr i hi
theorem Qw6{K:Nat}(hK:1000000000000≤K){s:H32}{d:List Int}(h:d.length≤10000):Qgh.f K 4 [Yg s,d]=some (ofS K s d)∧isB (Yg (ofS K s d)):=by
 obtain⟨r,hr,hp⟩:=Qud hK (d:=4) (l:= [Yg s,d]) (by simp) (fun x hx=>by
  simp at hx
  rcases hx with rfl|rfl
  ·rw[Q8];omega
  ·exact h)
 unfold ofS
 rw[hr]
 exact⟨rfl,Qrn hp⟩
def begS(x:Rc):Bool:=YM x&&decide (x.fKind=1)
def comS(K:Nat)(x:Rc):H32:=bif begS x then(bif x.fGone then x.fCom else ofS K x.fSalt x.fData)else zH
theorem vz:vofL 32 [(0:Int),(0:Int),(0:Int),(0:Int),(0:Int),(0:Int),(0:Int),(0:Int),(0:Int),(0:Int),(0:Int),(0:Int),(0:Int),(0:Int),(0:Int),(0:Int),(0:Int),(0:Int),(0:Int),(0:Int),(0:Int),(0:Int),(0:Int),(0:Int),(0:Int),(0:Int),(0:Int),(0:Int),(0:Int),(0:Int),(0:Int),(0:Int)]=zH:=by decide
theorem Qw7{K:Nat}(hK:1000000000000≤K){x:Rc}(ho:okD x):Qgi.f K x=some (comS K x):=by
 unfold Qgi.f comS
 try simp only[jn]
 rw[right_eq hK ho,vz]
 try simp only[Qb]
 cases hr:YM x with
 |false=>
  have:begS x=false:=by unfold begS;rw[hr];rfl
  rw[this];rfl
 | true=>
  simp only[Bool.not_true,Qh]
  by_cases hk:x.fKind=1
  ·have hb:begS x=true:=by unfold begS;rw[hr,QS hk];rfl
   rw[hb,QS hk]
   simp only[Bool.not_true,Qh,Qg]
   cases hg:x.fGone with
   |true=>rfl
   |false=>
    simp only[Qh]
    have h3:=((QcN hr).beg hk).2.2
    have hs:=Qbg (l:=Yg x.fSalt) (b:=32) (by rw[Q8];omega)
    rw[List.take_of_length_le (by rw[Q8];omega)]at hs
    refine QD hs ?_
    rw[(Qw6 hK (s:=x.fSalt) (d:=x.fData) (by omega)).1]
    rfl
  ·have hb:begS x=false:=by unfold begS;rw[QP hk];simp
   rw[hb,QP hk];rfl
def Qs6(K:Nat)(x:Rc):List Int:=bif decide (x.fKind=1)then numW x.fSaga++(QdX x.fSteps++Yg (comS K x))else QaC x.fKind x
def Qfw(K:Nat)(x:Rc):List Int:=numW x.fKind++Qs6 K x
theorem Qhb{K:Nat}{x:Rc}(h:YM x=true):(Qfw K x).length≤400:=by
 have h2:=YY (Qnu h)
 unfold Qfw Qs6
 by_cases hk:x.fKind=1
 ·rw[Qj (QS hk)]
  have hd:=QcN h
  obtain⟨b1,b2,b3⟩:=hd.beg hk
  have b1:=qU.1 b1
  have h4:=Qcx b2 (by omega)
  have h1:=YY hd.saga
  simp only[List.length_append,Q8];omega
 ·rw[Qi (QP hk)]
  have h1:=Qk1 h
  simp only[List.length_append];omega
end Go.Proofs.YtomndohdnfebgaaGreatDoor
namespace Go.Proofs.YtomndohdnfebgaaGreatDoor
open Go Go.Sep
theorem QmA{K:Nat}(hK:1000000000000≤K){x:Rc}(ho:okD x):Qao.f K x=some (bif YM x then Qfw K x else []):=by
 unfold Qao.f Qlz.f
 rw[right_eq hK ho]
 try simp only[Qb,jn]
 cases hr:YM x with
 |false=>rfl
 |true=>
 rw[Qi (by rfl)]
 have hd:=QcN hr
 rw[Qvp hK (Qnu hr)]
 try simp only[Qb]
 have hb:=Qk1 hr
 have hk:=YY (Qnu hr)
 have w1:=YY hd.saga
 have w2:=YY hd.part
 have w3:=YY hd.epoch
 rw[show Qdp.f K=some ()from rfl]
 try simp only[Qb]
 have e:∀k,x.fKind=k→k≠1→Qfw K x=numW x.fKind++QaC k x:=fun k hk h1=>by
  unfold Qfw Qs6
  rw[Qi (QP (by rw[hk];exact h1)),hk]
 rcases hd.kind with k|k|k|k|k|k
 ·obtain⟨b1,b2,b3⟩:=hd.beg k
  have b1:=qU.1 b1
  have hl:=Qcx b2 (by omega)
  rw[Qi (QP (by omega)),Qj (QS k),QsV hK hd.saga (by omega) b2]
  try simp only[Qb]
  rw[QcM hK (by simp;omega) (by simp)]
  try simp only[Qb]
  rw[Qj (QS k)]
  have hL:ZH.f K x=some (Yg (comS K x)):=by
   unfold ZH.f
   refine QD (Qw7 hK ho) ?_
   rw[QqQ]
   rfl
  rw[hL]
  simp only[Qb,Qg]
  have hsl:=Qhb (K:=K) hr
  unfold Qfw Qs6 at hsl⊢
  rw[Qj (QS k)]at hsl⊢
  simp only[List.length_append,Q8]at hsl
  rw[Y4 (by simp[Q8];omega)]
  simp
 ·have h4:=hd.call (.inl k)
  rw[Qi (QP (by omega)),Qi (QP (by omega)),Qj (QS k),Qmt hK hd.saga h4.1 h4.2.1 h4.2.2]
  try simp only[Qb]
  rw[e 2 k (by decide)]
  simp only[QaC,k]at hb⊢
  simp at hb
  rw[QcM hK (by simp[k]at hk⊢;omega) (by simp)]
  simp
 ·have h4:=hd.call (.inr (.inr k))
  rw[Qi (QP (by omega)),Qi (QP (by omega)),Qi (QP (by omega)),Qj (QS k)]
  have hL:XY.f K x=some (QaC 3 x):=by
   unfold XY.f
   rw[Qmt hK hd.saga h4.1 h4.2.1 h4.2.2]
   try simp only[Qb]
   rw[QqP]
   try simp only[Qb]
   rw[QeE hK (by simp) (by intro n hn;simp at hn;rcases hn with rfl|rfl;exact hd.part;exact hd.epoch)]
   try simp only[Qb]
   rw[QqQ]
   try simp only[Qb]
   simp only[k,QaC]at hb
   simp[Q8]at hb
   rw[QcM hK (by simp[Q8];omega) (by simp)]
   simp[QaC]
  rw[hL]
  try simp only[Qb]
  rw[e 3 k (by decide)]
  simp only[k]at hb hk⊢
  rw[QcM hK (by simp;omega) (by simp)]
  simp
 ·have h4:=hd.call (.inr (.inl k))
  rw[Qi (QP (by omega)),Qi (QP (by omega)),Qi (QP (by omega)),Qi (QP (by omega)),Qj (QS k),Qmt hK hd.saga h4.1 h4.2.1 h4.2.2]
  try simp only[Qb]
  rw[e 4 k (by decide)]
  simp only[QaC,k]at hb⊢
  simp at hb
  rw[QcM hK (by simp[k]at hk⊢;omega) (by simp)]
  simp
 ·have h4:=hd.clo k
  rw[Qi (QP (by omega)),Qi (QP (by omega)),Qi (QP (by omega)),Qi (QP (by omega)),Qi (QP (by omega)),Qj (QS k)]
  have hL:XZ.f K x=some (QaC 5 x):=by
   unfold XZ.f
   rw[QeE hK (by simp) (by intro n hn;simp at hn;rcases hn with rfl|rfl|rfl;exact hd.saga;exact h4.1;exact h4.2)]
   simp[QaC]
  rw[hL]
  try simp only[Qb]
  rw[e 5 k (by decide)]
  simp only[k]at hb hk⊢
  rw[QcM hK (by simp;omega) (by simp)]
  simp
 ·rw[Qi (QP (by omega)),Qi (QP (by omega)),Qi (QP (by omega)),Qi (QP (by omega)),Qi (QP (by omega)),Qi (QP (by omega)),Qj (QS k)]
  have hL:X0.f K x=some (QaC 6 x):=by
   unfold X0.f
   rw[QeE hK (by simp) (by intro n hn;simp at hn;rcases hn with rfl|rfl;exact hd.part;exact hd.epoch)]
   simp[QaC]
  rw[hL]
  try simp only[Qb]
  rw[e 6 k (by decide)]
  simp only[k]at hb hk⊢
  rw[QcM hK (by simp;omega) (by simp)]
  simp
end Go.Proofs.YtomndohdnfebgaaGreatDoor
namespace Go.Proofs.YtomndohdnfebgaaGreatDoor
open Go Go.Sep
theorem bnd{α β:Type}{o:Option α}{x:α}{f:α→Option β}(h:o=some x):o.bind f=f x:=by rw[h];rfl
def dpt(n:Nat):Nat:=Nat.log2 (2*n-1)
def chkS(n:Nat):Bool:=match yh.f 1000000000000 (n:Int)with
 |some k=>decide (0<k)&&(decide (k<(n:Int))&&(decide (dpt k.toNat<dpt n)&&(decide (dpt (n-k.toNat)<dpt n)&&decide (dpt n≤20))))
 |none=>false
theorem Qro:((List.range 402).all fun n=>decide (n<2)||chkS n)=true:=by kernel_rfl
theorem QjG{n:Nat}(h1:2≤n)(h2:n≤401):∃k:Nat,yh.f 1000000000000 (n:Int)=some (k:Int)∧0<k∧k<n∧dpt k<dpt n∧dpt (n-k)<dpt n∧dpt n≤20:=by
 have h:=List.all_eq_true.1 Qro n (List.mem_range.2 (by omega))
 simp only[Bool.or_eq_true,decide_eq_true_eq]at h
 rcases h with h|h
 ·omega
 unfold chkS at h
 split at h
 ·rename_i k hk
  simp only[Qd,decide_eq_true_eq]at h
  obtain⟨a,b,c,d,e⟩:=h
  obtain⟨m,rfl⟩:=Int.eq_ofNat_of_zero_le (show 0≤k by omega)
  simp only[Int.toNat_natCast]at c d
  exact⟨m,hk,by omega,by omega,c,d,e⟩
 ·cases h
theorem Qnx{b:List Int}(h:b.length<900000):∃r,Qap.f 1000000000000 b=some r:=by
 unfold Qap.f
 obtain⟨r,hr,_⟩:=Qc8 (K:=1000000000000) (Nat.le_refl _) (x:= [[0],b]) (by simp) (by simp;omega)
 exact⟨r,QD hr rfl⟩
theorem Qd2(a b:H32):∃r,jR.f 1000000000000 a b=some r:=by
 unfold jR.f
 have hs:∀v:H32,subI (Yg v) 0 ((32:Nat):Int)=some (Yg v):=fun v=>by
  have:=Qbg (l:=Yg v) (b:=32) (by rw[Q8];omega)
  rw[List.take_of_length_le (by rw[Q8];omega)]at this
  exact this
 obtain⟨r,hr,_⟩:=Qc8 (K:=1000000000000) (Nat.le_refl _) (x:= [[1],Yg a,Yg b]) (by simp) (by simp[Q8])
 exact⟨r,QD (hs a) (QD (hs b) (QD hr rfl))⟩
def okR(l:List Rc):Prop:=l.length≤401∧∀x∈l,okD x
theorem Qrp{l:List Rc}(h:okR l):yg.f 1000000000000 l=some (l.all YM):=by
 unfold yg.f Jb.f Jn.f
 have h50:=h.1
 have hL:=Qdi (L:=QG.l 1000000000000 l) (fun(_:Unit) (i:Nat)=>(i:Int)) l (fun _ i x=>some (bif YM x then .inr ()else .inl (.inl ((i:Nat):Int)))) (fun _=>some (.inr ())) () (k:=1000000000000) (by omega)
  (fun k s=>by
   show QG.b 1000000000000 l (QG.l 1000000000000 l k) _=_
   unfold QG.b
   rw[Qi (QP (by simp))])
  (fun k s i x hi hx=>by
   show QG.b 1000000000000 l (QG.l 1000000000000 l k) _=_
   unfold QG.b ZY.f
   rw[Qj (QS (by omega)),bnd (Js hx),right_eq (Nat.le_refl _) (h.2 x (List.mem_of_getElem? hx))]
   try simp only[Qb]
   rw[wrap_succ (by omega)]
   cases YM x<;>rfl)
 have hL:QG.l 1000000000000 l 1000000000000 0=_:=hL
 obtain⟨r1,r2⟩:=QfC (good:=YM) (v:=fun i=>((i:Nat):Int)) (l:=l) (s:=()) (i:=0) (f:=fun _ i x=>some (bif YM x then .inr ()else .inl (.inl ((i:Nat):Int)))) (fun s i x _=>rfl)
 cases hg:l.all YM with
 |true=>rw[hL,r1 hg];rfl
 |false=>
  obtain⟨j,_,_,hj⟩:=r2 hg
  rw[hL,hj]
  simp
end Go.Proofs.YtomndohdnfebgaaGreatDoor
