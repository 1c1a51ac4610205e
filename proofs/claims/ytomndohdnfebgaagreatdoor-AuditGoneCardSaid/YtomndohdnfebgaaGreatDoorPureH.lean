/-
 Plain: the digest of parts is always there.
-/
import Derived.Test.YtomndohdnfebgaaGreatDoorSepK
namespace Go.Proofs.YtomndohdnfebgaaGreatDoor
open Go Go.Sep
theorem JX(n:Int):isB (numW n):=QcU _
theorem Qec{α:Type}{p:α→List Int}{l:List α}(h:∀x∈l,isB (p x)):isB (l.map p).flatten:=by
 intro b hb
 obtain⟨m,hm,hb⟩:=List.mem_flatten.1 hb
 obtain⟨x,hx,rfl⟩:=List.mem_map.1 hm
 exact h x hx b hb
theorem Qf2(b:Bool):isB [ZJ b]:=by
 intro x hx
 rw[List.mem_singleton]at hx
 subst hx
 exact Qv5 b
theorem QrU{k:Int}{x:Rc}(h:okB x):isB (jW k x):=by
 unfold jW
 have hc:isB (Qhk x):=by
  unfold Qhk
  simp only[YW]
  exact⟨JX _,JX _,JX _,JX _,Qf2 _⟩
 split
 ·simp only[YW,Qdc,Qru]
  refine⟨JX _,⟨QcU _,Qec (fun s _=>by unfold stepW;exact YW.2 ⟨JX _,JX _⟩)⟩,Qf2 _,?_⟩
  cases x.fGone
  ·exact YW.2 ⟨h.salt,YW.2 ⟨QcU _,h.data⟩⟩
  ·exact h.com
 ·split
  ·exact hc
  ·split
   ·simp only[YW]
    exact⟨hc,Qf2 _,JX _,JX _,h.tag⟩
   ·split
    ·simp only[YW]
     exact⟨JX _,JX _,JX _⟩
    ·simp only[YW]
     exact⟨JX _,JX _⟩
theorem Qly{x:Rc}(h:okB x):isB (Qhl x):=YW.2 ⟨JX _,QrU h⟩
theorem QnZ{x:Bun}(h:Qhr x):isB (bunW x):=by
 unfold bunW
 simp only[YW]
 refine⟨Qf2 _,JX _,h.root,YW.2 ⟨QcU _,Qec (fun s hs=>YW.2 ⟨JX _,h.tags s hs⟩)⟩,?_⟩
 unfold Qdd
 cases x.fWhole
 ·exact YW.2 ⟨QcU _,Qec (fun y hy=>YW.2 ⟨JX _,YW.2 ⟨Qly (h.recs y hy),YW.2 ⟨QcU _,Qec (fun z hz=>h.path y hy z hz)⟩⟩⟩)⟩
 ·exact Qec (fun y hy=>Qly (h.recs y hy))
theorem QtL:isB mark:=by unfold isB mark;decide
theorem Qpk{size:Int}:∀{l:List It} {last:Int} {i:Nat},jF true size last i l=true→∀(j:Nat) x,l[j]?=some x→x.fAt=((i+j:Nat):Int)∧x.fPath= []:=by
 intro l
 induction l with
 |nil=>intro last i _ j x hx;simp at hx
 | cons y l ih=>
  intro last i h j x hx
  unfold jF Qfj at h
  simp only[Qd,Bool.not_true,Bool.false_or]at h
  obtain⟨⟨_,_,_,h4⟩,h5⟩:=h
  cases j with
  |zero=>
   simp at hx
   subst hx
   exact⟨by simpa using h4.1,List.length_eq_zero_iff.1 (by simpa using h4.2)⟩
  |succ j=>
   have:=ih h5 j x (by simpa using hx)
   rw[this.1,this.2]
   exact⟨by congr 1;omega,rfl⟩
theorem Qj0{x:Bun}(h:XQ x=true)(ha:Qhr x):QjV x:=by
 have hp:=Qlp h
 refine⟨hp.size,ha.root,⟨by have:=hp.sigs;omega,fun s hs=>⟨hp.wits s hs,ha.tags s hs⟩⟩,?_⟩
 unfold Qal
 cases hw:x.fWhole with
 |true=>
  have h1:=hp.whole hw
  have h2:=hp.ok
  rw[hw]at h2
  have h3:=Qpk h2
  have h4:=hp.size
  refine⟨h4.2,by omega,fun j y hy=> ?_⟩
  have hy2:=List.mem_of_getElem? hy
  obtain⟨e1,e2⟩:=h3 j y hy
  refine⟨⟨(hp.items y hy2).1,ha.recs y hy2⟩,?_⟩
  obtain⟨a,b,c⟩:=y
  simp at e1 e2
  rw[e1,e2]
 |false=>
  refine⟨hp.lens,fun y hy=> ?_⟩
  obtain⟨e1,e2,e3⟩:=hp.items y hy
  exact⟨e2,⟨e1,ha.recs y hy⟩,by omega,ha.path y hy⟩
theorem QaZ{x:Bun}(h:QjV x):Qhr x:=by
 have hi:=h.items
 unfold Qal at hi
 refine⟨h.root,fun s hs=>(h.sigs.2 s hs).2,fun y hy=> ?_,fun y hy z hz=> ?_⟩
 ·cases hw:x.fWhole with
  |true=>
   rw[hw]at hi
   obtain⟨j,hj⟩:=List.getElem?_of_mem hy
   exact(hi.2.2 j y hj).1.2
  |false=>rw[hw]at hi;exact(hi.2 y hy).2.1.2
 ·cases hw:x.fWhole with
  |true=>
   rw[hw]at hi
   obtain⟨j,hj⟩:=List.getElem?_of_mem hy
   have:=(hi.2.2 j y hj).2
   rw[←this]at hz
   cases hz
  |false=>rw[hw]at hi;exact(hi.2 y hy).2.2.2 z hz
theorem QtM{x:Bun}(h:QjV x){rest:List Int}(hb:isB rest)(hl:(bunW x).length+rest.length<1000000000):bunR ⟨bunW x++rest,0⟩=(x,⟨rest,0⟩):=
 Qht.ok x rest h ⟨YW.2 ⟨QnZ (QaZ h),hb⟩,by simp;omega⟩
theorem QrV(l:List Int):(mark++l).take 4=mark:=List.take_left' rfl
theorem QrW(l:List Int):(mark++l).drop 4=l:=List.drop_left' rfl
theorem get_put{x:Bun}(h:XQ x=true)(ha:Qhr x):getS (mark++bunW x)=(x,0):=by
 unfold getS
 rw[QrV,QrW,if_pos rfl]
 have hl:=QnY (Qlp h)
 have:=QtM (Qj0 h ha) (rest:= []) JA (by simp;omega)
 rw[List.append_nil]at this
 rw[this]
 simp[endS,h]
theorem QrX{b:List Int}(hb:isB b)(hl:b.length<1000000000)(h:(getS b).2=0):b=mark++bunW (getS b).1∧QjV (getS b).1∧XQ (getS b).1=true:=by
 unfold getS at h⊢
 split
 ·rename_i hm
  rw[if_pos hm]at h
  have hg:Good ⟨b.drop 4,0⟩:=Good.drop (b:=b) (e:=0) ⟨hb,hl⟩ 4
  have hs:=Qht.back ⟨b.drop 4,0⟩ hg
  generalize bunR ⟨b.drop 4,0⟩=t at h hs
  obtain⟨x,r⟩:=t
  unfold endS at h⊢
  simp only at h hs⊢
  by_cases h1:r.fBad=0
  ·simp only[h1,ne_eq,not_true_eq_false,if_false]at h⊢
   by_cases h2:r.fB= []
   ·simp only[h2,if_true,not_true_eq_false,if_false]at h⊢
    cases h3:XQ x with
    |true=>
     simp only[if_true]
     obtain⟨_,e,o⟩:=hs h1
     refine⟨?_,o,h3⟩
     rw[h2,List.append_nil]at e
     rw[←e,←hm,List.take_append_drop]
    |false=>simp[h3]at h
   ·simp[h2]at h
  ·simp[h1]at h
 ·rename_i hm
  rw[if_neg hm]at h
  simp at h
theorem Qwi{x:Bun}(h:XQ x=true):(mark++bunW x).length<1000000:=by
 have:=QnY (Qlp h)
 simp[mark];omega
theorem Qwj{x:Bun}(ha:Qhr x):isB (mark++bunW x):=YW.2 ⟨QtL,QnZ ha⟩
theorem Qj1{Y R:Type}{L:Nat→Y→Option R}(I:Nat→Y→Prop)(h0:∀k y,I 0 y→∃r,L (k+1) y=some r)
  (hs:∀k n y,I (n+1) y→∃y',I n y'∧L (k+1) y=L k y'):∀(n:Nat) (y:Y) (k:Nat),I n y→n<k→∃r,L k y=some r:=by
 intro n
 induction n with
 |zero=>
  intro y k hi hk
  obtain⟨k,rfl⟩:∃j,k=j+1:=⟨k-1,by omega⟩
  exact h0 k y hi
 |succ n ih=>
  intro y k hi hk
  obtain⟨k,rfl⟩:∃j,k=j+1:=⟨k-1,by omega⟩
  obtain⟨y',h1,h2⟩:=hs k n y hi
  rw[h2]
  exact ih y' k h1 (by omega)
theorem Qj2{α β:Type}{o:Option α}{x:α}{f:α→Option β}(h:o=some x)(h2:∃r,f x=some r):∃r,o.bind f=some r:=by rw[h];exact h2
theorem Qv{α β:Type}{o:Option α}{x:α}{f:α→Option β}{P:β→Prop}(h:o=some x)(h2:∃r,f x=some r∧P r):∃r,o.bind f=some r∧P r:=by rw[h];exact h2
theorem Yq{N i:Nat}(h:i<N):inA N (i:Int)=true:=by
 unfold inA
 rw[QT (by omega),QT (by omega)];rfl
theorem Qlz{K:Nat}(x:Int):(∃r,Zl.f K x 17 19 10=some r)∧(∃r,Zl.f K x 7 18 3=some r):=⟨⟨_,rfl⟩,⟨_,rfl⟩⟩
theorem QiI{K:Nat}(x:Int):(∃r,Xp.f K x 6 11 25=some r)∧(∃r,Xp.f K x 2 13 22=some r):=⟨⟨_,rfl⟩,⟨_,rfl⟩⟩
theorem Jq{α:Type}{l:List α}{i:Nat}(h:i<l.length):∃x,getI l (i:Int)=some x:=⟨l[i],by rw[Jm,List.getElem?_eq_getElem h]⟩
theorem QlA{K:Nat}(hK:100<K){b:List Int}(hb:b.length=64):∃w,XI.f K b=some w:=by
 unfold XI.f
 have:=Qj1 (L:=Yb.l K b) (fun n y=>∃i:Nat,y.1=(i:Int)∧i+n=64)
  (fun k y ⟨i,hy,hi⟩=>by
   obtain⟨y1,y2⟩:=y
   simp only at hy
   subst hy
   refine⟨y2,?_⟩
   show Yb.b K b (Yb.l K b k) _=_
   unfold Yb.b
   rw[Qi (QG (by simp only;omega))])
  (fun k n y ⟨i,hy,hi⟩=>by
   obtain⟨y1,y2⟩:=y
   simp only at hy
   subst hy
   show ∃y',_∧Yb.b K b (Yb.l K b k) _=_
   unfold Yb.b
   try simp only[jn]
   rw[Qj (QT (by omega)),wrap_succ (by omega)]
   by_cases h16:(i:Int)<16
   ·rw[Qj (QT h16)]
    have w4:IntKind.wrap .i64 (4*(i:Int))=((4*i:Nat):Int):=by rw[wrap64 (by omega) (by omega)];push_cast;rfl
    have wj:∀j:Nat,j<4→IntKind.wrap .i64 (((4*i:Nat):Int)+(j:Int))=((4*i+j:Nat):Int):=fun j hj=>by rw[wrap64 (by omega) (by omega)];push_cast;rfl
    obtain⟨x0,e0⟩:=Jq (l:=b) (i:=4*i) (by omega)
    obtain⟨x1,e1⟩:=Jq (l:=b) (i:=4*i+1) (by omega)
    obtain⟨x2,e2⟩:=Jq (l:=b) (i:=4*i+2) (by omega)
    obtain⟨x3,e3⟩:=Jq (l:=b) (i:=4*i+3) (by omega)
    rw[w4,e0]
    try simp only[Qb]
    rw[show(1:Int)=((1:Nat):Int) by rfl,wj 1 (by omega),e1]
    try simp only[Qb]
    rw[show(2:Int)=((2:Nat):Int) by rfl,wj 2 (by omega),e2]
    try simp only[Qb]
    rw[show(3:Int)=((3:Nat):Int) by rfl,wj 3 (by omega),e3]
    simp only[Qb,chk]
    rw[Qj (Yq (by omega))]
    exact⟨(_,_),⟨i+1,rfl,by omega⟩,rfl⟩
   ·rw[Qi (QG h16)]
    have wj:∀j:Nat,j≤16→IntKind.wrap .i64 ((i:Int)-(j:Int))=((i-j:Nat):Int):=fun j hj=>by rw[wrap64 (by omega) (by omega)];omega
    have h2:=wj 2 (by omega)
    have h7:=wj 7 (by omega)
    have h15:=wj 15 (by omega)
    have h16':=wj 16 (by omega)
    simp only[Int.cast_ofNat_Int]at h2 h7 h15 h16'
    rw[h2,h7,h15,h16']
    simp only[chk]
    rw[Qj (Yq (by omega)),Qj (Yq (by omega)),Qj (Yq (by omega)),Qj (Yq (by omega))]
    obtain⟨r1,e1⟩:=(Qlz (K:=K) (vget y2 (Int.toNat ((i-2:Nat):Int)))).1
    obtain⟨r2,e2⟩:=(Qlz (K:=K) (vget y2 (Int.toNat ((i-15:Nat):Int)))).2
    rw[e1]
    try simp only[Qb]
    rw[e2]
    try simp only[Qb]
    rw[Qj (Yq (by omega))]
    exact⟨(_,_),⟨i+1,rfl,by omega⟩,rfl⟩)
  64 (0,Vector.replicate 64 0) K ⟨0,rfl,rfl⟩ (by omega)
 obtain⟨w,hw⟩:=this
 rw[hw]
 exact⟨w,rfl⟩
theorem QtN{K:Nat}(hK:100<K)(h:Vector Int 8){b:List Int}(hb:b.length=64):∃r,QcH.f K h b=some r:=by
 unfold QcH.f
 rw[Qi (by simp[hb])]
 obtain⟨w,hw⟩:=QlA hK hb
 rw[hw]
 try simp only[Qb]
 have h1:=Qj1 (L:=YR.l K w) (fun n y=>∃i:Nat,y.1=(i:Int)∧i+n=64)
  (fun k y ⟨i,hy,hi⟩=>by
   obtain⟨y1,y2⟩:=y
   simp only at hy
   subst hy
   refine⟨y2,?_⟩
   show YR.b K w (YR.l K w k) _=_
   unfold YR.b
   rw[Qi (QG (by simp only;omega))])
  (fun k n y ⟨i,hy,hi⟩=>by
   obtain⟨y1,y2⟩:=y
   simp only at hy
   subst hy
   show ∃y',_∧YR.b K w (YR.l K w k) _=_
   unfold YR.b
   rw[Qj (QT (by simp only;omega))]
   obtain⟨x,ex⟩:=Jq (l:=Ye w) (i:=i) (by rw[QI];omega)
   obtain⟨r1,e1⟩:=(QiI (K:=K) (vget y2 (Int.toNat 4))).1
   obtain⟨r2,e2⟩:=(QiI (K:=K) (vget y2 (Int.toNat 0))).2
   simp only
   rw[ex]
   simp only[Qb,chk]
   rw[Qj (Yq (by omega)),e1]
   try simp only[Qb]
   rw[e2]
   try simp only[Qb]
   rw[wrap_succ (by omega)]
   exact⟨(_,_),⟨i+1,rfl,by omega⟩,rfl⟩)
  64 (0,h) K ⟨0,rfl,rfl⟩ (by omega)
 obtain⟨z,hz⟩:=h1
 rw[hz]
 try simp only[Qb]
 have h2:=Qj1 (L:=YS.l K z) (fun n y=>∃i:Nat,y.1=(i:Int)∧i+n=8)
  (fun k y ⟨i,hy,hi⟩=>by
   obtain⟨y1,y2⟩:=y
   simp only at hy
   subst hy
   refine⟨y2,?_⟩
   show YS.b K z (YS.l K z k) _=_
   unfold YS.b
   rw[Qi (QG (by simp only;omega))])
  (fun k n y ⟨i,hy,hi⟩=>by
   obtain⟨y1,y2⟩:=y
   simp only at hy
   subst hy
   show ∃y',_∧YS.b K z (YS.l K z k) _=_
   unfold YS.b
   rw[Qj (QT (by simp only;omega))]
   simp only[Qb,chk]
   rw[Qj (Yq (by omega)),Qj (Yq (by omega)),Qj (Yq (by omega)),wrap_succ (by omega)]
   exact⟨(_,_),⟨i+1,rfl,by omega⟩,rfl⟩)
  8 (0,h) K ⟨0,rfl,rfl⟩ (by omega)
 obtain⟨r,hr⟩:=h2
 rw[hr]
 exact⟨r,rfl⟩
theorem QtO{K:Nat}(hK:100<K){n:Nat}(hn:n<1000000000):∃r:List Int,QdF.f K (n:Int)=some r∧r.length<200:=by
 unfold QdF.f
 rw[Qi (QG (by omega))]
 have h1:∃r,JS.l K (n:Int) K [128]=some r∧r.length<100:=by
  have key:∀(m:Nat) (out:List Int) (k:Nat),out.length+m≤65→(n+out.length+m)%64=56→m<k→∃r,JS.l K (n:Int) k out=some r∧r.length<100:=by
   intro m
   induction m with
   |zero=>
    intro out k ho hm hk
    obtain⟨k,rfl⟩:∃j,k=j+1:=⟨k-1,by omega⟩
    refine⟨out,?_,by omega⟩
    show JS.b K (n:Int) (JS.l K (n:Int) k) _=_
    unfold JS.b
    rw[wrap64 (by omega) (by omega)]
    have:Int.tmod ((n:Int)+(out.length:Int)) 64=((n+out.length)%64:Nat):=rfl
    rw[this,Qi (by simp;omega)]
   | succ m ih=>
    intro out k ho hm hk
    obtain⟨k,rfl⟩:∃j,k=j+1:=⟨k-1,by omega⟩
    show ∃r,JS.b K (n:Int) (JS.l K (n:Int) k) _=_∧_
    unfold JS.b
    rw[wrap64 (by omega) (by omega)]
    have:Int.tmod ((n:Int)+(out.length:Int)) 64=((n+out.length)%64:Nat):=rfl
    rw[this]
    by_cases hc:(n+out.length)%64=56
    ·rw[Qi (by simp;omega)]
     exact⟨out,rfl,by omega⟩
    ·rw[Qj (by simp;omega),YQ (by simp;omega)]
     try simp only[Qb]
     exact ih (out++ [0]) k (by simp;omega) (by simp;omega) (by omega)
  exact key ((56+64*20000000-(n+1))%64) [128] K (by simp;omega) (by simp;omega) (by omega)
 obtain⟨z,hz,hzl⟩:=h1
 rw[hz]
 try simp only[Qb]
 have key:∀(m:Nat) (out:List Int) (k:Nat),m≤8→out.length+m<200→m<k→∃r,qf.l K (n:Int) k (out,(m:Int)-1)=some r∧r.length<200:=by
  intro m
  induction m with
  |zero=>
   intro out k _ ho hk
   obtain⟨k,rfl⟩:∃j,k=j+1:=⟨k-1,by omega⟩
   refine⟨out,?_,by omega⟩
   show qf.b K (n:Int) (qf.l K (n:Int) k) (out,((0:Nat):Int)-1)=some out
   unfold qf.b
   rw[Qi (QG (by simp))]
  |succ m ih=>
   intro out k h8 ho hk
   obtain⟨k,rfl⟩:∃j,k=j+1:=⟨k-1,by omega⟩
   show ∃r,qf.b K (n:Int) (qf.l K (n:Int) k) (out,((m+1:Nat):Int)-1)=some r∧r.length<200
   unfold qf.b
   rw[Qj (QT (by simp only;omega))]
   simp only[chk]
   rw[wrap64 (n:=8*(((m+1:Nat):Int)-1)) (by omega) (by omega),Qj (by simp;omega),YQ (by simp;omega)]
   try simp only[Qb]
   rw[wrap64 (by omega) (by omega)]
   have:(((m+1:Nat):Int)-1-1)=(m:Int)-1:=by omega
   rw[this]
   exact ih _ k (by omega) (by simp;omega) (by omega)
 obtain⟨r,hr,hrl⟩:=key 8 z K (by omega) (by omega) (by omega)
 have e7:(((8:Nat):Int)-1)=7:=by decide
 rw[e7]at hr
 rw[hr]
 exact⟨r,rfl,hrl⟩
theorem QtP{K:Nat}(hK:1000000000000≤K){x:List (List Int)}(hx:x.length<1000)(hl:x.flatten.length<1000000):∃r,Qep.f K x=some r∧∀j,j<32→0≤vget r j∧vget r j<256:=by
 unfold Qep.f Qeo.f
 have hc:QW.f K x=some x.flatten:=by
  have:=jO (K:=K) (x:=x) hK (by omega) (by omega)
  unfold Jh.f at this
  cases h:QW.f K x with
  |none=>rw[h]at this;cases this
  |some y=>rw[h]at this;exact this
 obtain⟨f,hf,hfl⟩:=QtO (K:=K) (n:=x.flatten.length) (by omega) (by omega)
 refine Qv hc ?_
 refine Qv hf ?_
 refine Qv (YQ (by omega)) ?_
 try simp only[Qb]
 have key:∀(n:Nat) (y:Vector Int 8×List Int) (k:Nat),y.2.length≤n→n<k→y.2.length<2000000→∃r,JQ.l K k y=some r:=by
  intro n
  induction n using Nat.strongRecOn with
  | _ n ih=>
   intro y k hy hk hb
   obtain⟨k,rfl⟩:∃j,k=j+1:=⟨k-1,by omega⟩
   obtain⟨y1,y2⟩:=y
   simp only at hy hb
   show ∃r,JQ.b K (JQ.l K k) _=_
   unfold JQ.b
   by_cases h64:64≤y2.length
   ·rw[Qj (QT (by simp only;omega))]
    simp only
    have s1:=QbD (l:=y2) (b:=64) (by omega)
    have s2:=ZZ (l:=y2) (a:=64) (by omega)
    simp only[Int.cast_ofNat_Int]at s1 s2
    refine Qj2 s1 ?_
    obtain⟨t,ht⟩:=QtN (K:=K) (by omega) y1 (b:=y2.take 64) (by simp;omega)
    refine Qj2 ht ?_
    refine Qj2 s2 ?_
    exact ih (n-64) (by omega) _ k (by simp;omega) (by omega) (by simp;omega)
   ·rw[Qi (QG (by simp only;omega))]
    exact⟨_,rfl⟩
 obtain⟨z,hz⟩:=key (x.flatten++f).length (XY,x.flatten++f) K (Nat.le_refl _) (by simp at*;omega) (by simp at*;omega)
 refine Qv hz ?_
 have key2:∀(n i:Nat) (v:Vector Int 32) (k:Nat),i+n=32→n<k→(∀j,j<32→0≤vget v j∧vget v j<256)→∃r,YX.l K z k ((i:Int),v)=some r∧∀j,j<32→0≤vget r j∧vget r j<256:=by
  intro n
  induction n with
  |zero=>
   intro i v k hi hk hv
   obtain⟨k,rfl⟩:∃j,k=j+1:=⟨k-1,by omega⟩
   refine⟨v,?_,hv⟩
   show YX.b K z (YX.l K z k) _=_
   unfold YX.b
   rw[Qi (QG (by simp only;omega))]
  | succ n ih=>
   intro i v k hi hk hv
   obtain⟨k,rfl⟩:∃j,k=j+1:=⟨k-1,by omega⟩
   show ∃r,YX.b K z (YX.l K z k) _=_∧_
   unfold YX.b
   rw[Qj (QT (by simp only;omega))]
   have e1:Int.tdiv (i:Int) 4=((i/4:Nat):Int):=rfl
   have e2:Int.tmod (i:Int) 4=((i%4:Nat):Int):=rfl
   simp only[chk]
   rw[e1,e2,wrap64 (n:=((i/4:Nat):Int)) (by omega) (by omega),Qj (Yq (by omega)),wrap64 (n:=8*((i%4:Nat):Int)) (by omega) (by omega),wrap64 (n:=24-8*((i%4:Nat):Int)) (by omega) (by omega),Qj (by simp;omega),Qj (Yq (by omega)),wrap_succ (by omega)]
   try simp only[Qb]
   refine ih (i+1) _ k (by omega) (by omega) (fun j hj=> ?_)
   rw[XH _ _ hj]
   split
   ·simp only[IntKind.wrap,IntKind.bits,IntKind.signed]
    simp
    omega
   ·exact hv j hj
 obtain⟨r,hr,hrr⟩:=key2 32 0 (Vector.replicate 32 0) K (by omega) (by omega) (fun j hj=>by
  have hz0:∀j,j<32→vget (Vector.replicate 32 (0:Int)) j=0:=by decide
  have:=hz0 j hj
  omega)
 have hr:YX.l K z K (0,Vector.replicate 32 0)=some r:=hr
 obtain⟨r',h',hp⟩:∃r',((YX.l K z K (0,Vector.replicate 32 0)).bind fun(z844:Vector Int 32)=>some z844)=some r'∧∀j,j<32→0≤vget r' j∧vget r' j<256:=⟨r,by rw[hr];rfl,hrr⟩
 exact⟨r',h',hp⟩
theorem Qdr{K:Nat}(hK:1000000000000≤K){x:List (List Int)}(hx:x.length<1000)(hl:x.flatten.length<1000000):∃r,shaQ.f K x=some r∧∀j,j<32→0≤vget r j∧vget r j<256:=by
 rw[Qp8]
 exact QtP hK hx hl
end Go.Proofs.YtomndohdnfebgaaGreatDoor
