/-
 Plain: two paths that come to one root; the records of one saga.
-/
import Derived.Test.YtomndohdnfebgaaGreatDoorPureBa
namespace Go.Proofs.YtomndohdnfebgaaGreatDoor
open Go Go.Sep
theorem set_mid{α:Type}(A M B:List α)(a c x:α):(A++a::(M++c::B)).set A.length x=A++x::(M++c::B):=by
 rw[List.set_append_right _ _ (Nat.le_refl _),Nat.sub_self];rfl
theorem QtP{α:Type}{L:Nat→(List α×Int×Int)→Option (List α)}(hL:∀k y,L (k+1) y=bif decide (y.2.1<y.2.2)then(getI y.1 y.2.2).bind fun x1=>(getI y.1 y.2.1).bind fun x2=>(getI y.1 y.2.1).bind fun _=>(getI (List.set y.1 (Int.toNat y.2.1) x1) y.2.2).bind fun _=>L k (List.set (List.set y.1 (Int.toNat y.2.1) x1) (Int.toNat y.2.2) x2,IntKind.wrap .i64 (y.2.1+1),IntKind.wrap .i64 (y.2.2-1))else some y.1):∀(m:Nat) (A M B:List α) (k:Nat),M.length≤m→m<k→(A++(M++B)).length<100000→L k (A++(M++B),((A.length:Nat):Int),((A.length+M.length:Nat):Int)-1)=some (A++(M.reverse++B)):=by
 intro m
 induction m with
 |zero=>
  intro A M B k hM hk hl
  obtain⟨k,rfl⟩:∃j,k=j+1:=⟨k-1,by omega⟩
  have:M= []:=List.eq_nil_of_length_eq_zero (by omega)
  subst this
  rw[hL]
  rw[Qi (QE (by simp only[List.length_nil];omega))];rfl
 | succ m ih=>
  intro A M B k hM hk hl
  obtain⟨k,rfl⟩:∃j,k=j+1:=⟨k-1,by omega⟩
  rw[hL]
  by_cases h2:M.length<2
  ·rw[Qi (QE (by simp only;omega))]
   match M,h2 with
   | [],_=>rfl
   | [_],_=>rfl
  obtain⟨a,M1,c,rfl⟩:∃a M1 c,M=a::(M1++ [c]):=by
   cases M with
   |nil=>simp at h2
   |cons a M=>
    have hne:M≠ []:=by intro e;subst e;simp at h2
    exact⟨a,M.dropLast,M.getLast hne,by rw[List.dropLast_concat_getLast]⟩
  have hf:A++(a::(M1++ [c])++B)=A++a::(M1++c::B):=by simp
  have hf2:A++a::(M1++c::B)=(A++a::M1)++c::B:=by simp
  rw[hf]at hl⊢
  simp only[List.length_cons,List.length_append,List.length_nil]at hM hl
  have ej:((A.length+(a::(M1++ [c])).length:Nat):Int)-1=((A.length+M1.length+1:Nat):Int):=by simp;omega
  rw[ej,Qj (QK (by simp only;omega))]
  have g1:(A++a::(M1++c::B))[A.length]?=some a:=by simp
  have g2:(A++a::(M1++c::B))[A.length+M1.length+1]?=some c:=by
   rw[hf2,List.getElem?_append_right (by simp;omega)]
   simp[show A.length+M1.length+1-(A.length+(M1.length+1))=0 by omega]
  have g3:(A++c::(M1++c::B))[A.length+M1.length+1]?=some c:=by
   rw[show A++c::(M1++c::B)=(A++c::M1)++c::B by simp,List.getElem?_append_right (by simp;omega)]
   simp[show A.length+M1.length+1-(A.length+(M1.length+1))=0 by omega]
  simp only
  rw[bnd (Yq g2),bnd (Yq g1),bnd (Yq g1),Int.toNat_natCast,set_mid,bnd (Yq g3),Int.toNat_natCast]
  have hset:(A++c::(M1++c::B)).set (A.length+M1.length+1) a=(A++ [c])++(M1++(a::B)):=by
   have:=set_mid (A++c::M1) [] B c a a
   rw[show A++c::(M1++c::B)=(A++c::M1)++c::B by simp,List.set_append_right _ _ (by simp;omega)]
   simp[show A.length+M1.length+1-(A.length+(M1.length+1))=0 by omega]
  rw[hset,wrap64 (by omega) (by omega),wrap64 (by omega) (by omega)]
  have:=ih (A++ [c]) M1 (a::B) k (by omega) (by omega) (by simp;omega)
  rw[show(((A++ [c]).length:Nat):Int)=(A.length:Int)+1 by simp,show(((A++ [c]).length+M1.length:Nat):Int)-1=((A.length+M1.length+1:Nat):Int)-1 by simp;omega]at this
  rw[this]
  simp
theorem QxZ{l:List Bool}(h:l.length<10000):Yg.f 1000000000000 l=some l.reverse:=by
 unfold Yg.f
 have:=QtP (L:=QH.l 1000000000000) (fun _ _=>rfl) l.length [] l [] 1000000000000 (Nat.le_refl _) (by omega) (by simp;omega)
 simp only[List.nil_append,List.append_nil,List.length_nil,Nat.zero_add]at this
 rw[wrap64 (by omega) (by omega)]
 exact Qz this rfl
theorem Qx0{l:List (List Int)}(h:l.length<10000):QY.f 1000000000000 l=some l.reverse:=by
 unfold QY.f
 have:=QtP (L:=QC.l 1000000000000) (fun _ _=>rfl) l.length [] l [] 1000000000000 (Nat.le_refl _) (by omega) (by simp;omega)
 simp only[List.nil_append,List.append_nil,List.length_nil,Nat.zero_add]at this
 rw[wrap64 (by omega) (by omega)]
 exact Qz this rfl
def isC(x y:List Int):Bool:= !decide (x=y)&&decide (sumE x=sumE y)
theorem is_eq{x y:List Int}(hx:isB x)(hy:isB y)(h1:x.length<1000000)(h2:y.length<1000000):QbN.f 1000000000000 x y=some (isC x y):=by
 unfold QbN.f isC
 rw[bnd (QfV hx hy)]
 cases decide (x=y)with
 |true=>rfl
 |false=>
  simp only[Bool.not_false,Qg,Bool.true_and]
  rw[bnd (Qds h1).1,bnd (Qds h2).1]
theorem Qpt(a b:H32):(Qa8 a b).length<950000:=by
 have:=Qdt a b
 omega
theorem QmO{a b:H32}(ha:byH a)(hb:byH b):isB (Qa8 a b):=by
 intro x hx
 unfold Qa8 at hx
 rcases List.mem_cons.1 hx with rfl|hx
 ·omega
 ·rcases List.mem_append.1 hx with hx|hx
  ·exact Qit ha x hx
  ·exact Qit hb x hx
theorem Qpu{b:List Int}(hb:isB b)(hl:b.length<900000):∀(P:List H32) (n i:Nat),(∀x∈P,byH x)→(∀t∈(txU P n i b).1,isB t∧t.length<950000)∧byH (txU P n i b).2
 | [],_,_,_=>⟨fun t ht=>by
   have ht:t∈ [0::b]:=ht
   rw[List.mem_singleton]at ht
   subst ht
   exact⟨fun x hx=>by
    rcases List.mem_cons.1 hx with rfl|hx
    ·omega
    ·exact hb x hx,by simp;omega⟩,(Qds (by simp;omega)).2⟩
 | x::P,n,i,hP=>by
  have hx:=hP x List.mem_cons_self
  have hP:=fun y hy=>hP y (List.mem_cons_of_mem _ hy)
  simp only[txU]
  by_cases hc:i<splN n
  ·rw[if_pos hc]
   dsimp only
   obtain⟨h1,h2⟩:=Qpu hb hl P (splN n) i hP
   refine⟨fun t ht=> ?_,Qfi _ _⟩
   rcases List.mem_cons.1 ht with rfl|ht
   ·exact⟨QmO h2 hx,Qpt _ _⟩
   ·exact h1 t ht
  ·rw[if_neg hc]
   dsimp only
   obtain⟨h1,h2⟩:=Qpu hb hl P (n-splN n) (i-splN n) hP
   refine⟨fun t ht=> ?_,Qfi _ _⟩
   rcases List.mem_cons.1 ht with rfl|ht
   ·exact⟨QmO hx h2,Qpt _ _⟩
   ·exact h1 t ht
theorem Qln{b:List Int}:∀(P:List H32) (n i:Nat),(txU P n i b).1.length=P.length+1
 | [],_,_=>rfl
 |x::P,n,i=>by
  simp only[txU]
  split<;>rw[List.length_cons,Qln P,List.length_cons]
theorem texts_eq{b:List Int}(hl:b.length<900000){W:List H32}{n i:Nat}(ho:okU W.reverse n i)(hi:i<n)(hn:n≤401)(hW:W.length<400):ZX.f 1000000000000 b (i:Int) (n:Int) W=some (txU W.reverse n i b).1:=by
 unfold ZX.f
 rw[Qdo (x:= [[0],b]) (Nat.le_refl _) (by rw[show([[0],b]:List (List Int)).flatten=0::b by simp];simp;omega) (by simp),show([[0],b]:List (List Int)).flatten=0::b by simp]
 simp only[Qb]
 have hP:W.reverse.length=W.length:=List.length_reverse
 refine Qz (Qvs W.reverse n i 1000000000000 [] ho hi hn (by omega) (by simp;omega)) ?_
 rw[List.nil_append]
 have hs:=QtO W.reverse n i
 refine Qz (QxZ (by omega)) ?_
 refine Qz (Qhb hl) ?_
 have hz:((sdU W.reverse n i).reverse.zip W).reverse=(sdU W.reverse n i).zip W.reverse:=by
  have:=List.reverse_zipWith (f:=fun(a:Bool) (b:H32)=>(a,b)) (l:=(sdU W.reverse n i).reverse) (l':=W) (by rw[List.length_reverse,hs,hP])
  rw[List.reverse_reverse]at this
  simpa[List.zip] using this
 have hzl:((sdU W.reverse n i).reverse.zip W).length=W.length:=by rw[List.length_zip,List.length_reverse,hs,hP,Nat.min_self]
 have h2:=Qvt (W:=W) (R:=(sdU W.reverse n i).reverse) (by rw[List.length_reverse,hs,hP];omega) ((sdU W.reverse n i).reverse.zip W) 0 1000000000000 [0::b] (Qfh b)
  (by rw[List.drop_zero,List.map_fst_zip (by rw[List.length_reverse,hs,hP];omega)]) (by rw[List.drop_zero,hzl,List.take_length,List.map_snd_zip (by rw[List.length_reverse,hs,hP];omega)]) (by omega) (by omega) (by simp;omega)
 refine Qz h2 ?_
 have h3:((sdU W.reverse n i).reverse.zip W).foldl Qok ([0::b],Qfh b)=((txU W.reverse n i b).1.reverse,(txU W.reverse n i b).2):=by
  rw[←Qol b W.reverse n i,←hz,List.foldr_reverse]
 rw[h3]
 have:=Qln (b:=b) W.reverse n i
 refine Qz (Qx0 (by rw[List.length_reverse];omega)) ?_
 rw[List.reverse_reverse]
theorem Qvu{X Y:List (List Int)}(he:X.length=Y.length)(hl:X.length<1000)(hX:∀t∈X,isB t∧t.length<950000)(hY:∀t∈Y,isB t∧t.length<950000):∀(m j k:Nat),j+m=X.length→m<k→
  ∃r,Jm.l 1000000000000 X Y k (j:Int)=some r∧((∃a b,r= .inl (a,b,true)∧QbN.f 1000000000000 a b=some true)∨(r= .inr ()∧∀t,j≤t→∀a b,X[t]?=some a→Y[t]?=some b→isC a b=false)):=by
 intro m
 induction m with
 | zero=>
  intro j k hj hk
  obtain⟨k,rfl⟩:∃n,k=n+1:=⟨k-1,by omega⟩
  refine⟨.inr (),?_,.inr ⟨rfl,fun t ht a b ha _=> ?_⟩⟩
  ·show Jm.b 1000000000000 X Y (Jm.l 1000000000000 X Y k) _=_
   unfold Jm.b
   rw[Qi (QE (by omega))]
  ·have:=(List.getElem?_eq_some_iff.1 ha).1;omega
 | succ m ih=>
  intro j k hj hk
  obtain⟨k,rfl⟩:∃n,k=n+1:=⟨k-1,by omega⟩
  have hx:X[j]?=some X[j]:=List.getElem?_eq_getElem (by omega)
  have hy:Y[j]?=some Y[j]:=List.getElem?_eq_getElem (by omega)
  obtain⟨x1,x2⟩:=hX X[j] (List.getElem_mem _)
  obtain⟨y1,y2⟩:=hY Y[j] (List.getElem_mem _)
  show ∃r,Jm.b 1000000000000 X Y (Jm.l 1000000000000 X Y k) _=_∧_
  unfold Jm.b
  have hi:=is_eq x1 y1 (by omega) (by omega)
  rw[Qj (QK (by omega)),bnd (Yq hx),bnd (Yq hy),bnd hi]
  cases hc:isC X[j] Y[j]with
  |true=>
   rw[hc]at hi
   simp only[Qg]
   rw[bnd (Yq hx),bnd (Yq hy)]
   exact⟨_,rfl,.inl ⟨_,_,rfl,hi⟩⟩
  | false=>
   simp only[Qh]
   rw[wrap_succ (by omega)]
   obtain⟨r,h1,h2⟩:=ih (j+1) k (by omega) (by omega)
   refine⟨r,h1,h2.imp_right fun h2=>⟨h2.1,fun t ht a b ha hb=> ?_⟩⟩
   by_cases e:t=j
   ·subst e
    rw[hx]at ha
    rw[hy]at hb
    cases ha;cases hb
    exact hc
   ·exact h2.2 t (by omega) a b ha hb
theorem QjO{a b:H32}(h:Yh a=Yh b):a=b:=QmK fun j hj=>by
 have e:∀v:H32,(Yh v)[j]?=some (vget v j):=fun v=>by simp[Yh,hj]
 have h1:=e a
 rw[h,e b]at h1
 exact(Option.some.inj h1).symm
theorem QmP{a b c d:H32}(h:Qa8 a b=Qa8 c d):a=c∧b=d:=by
 unfold Qa8 at h
 obtain⟨h1,h2⟩:=List.append_inj (List.cons.inj h).2 (by rw[QX,QX])
 exact⟨QjO h1,QjO h2⟩
theorem QtQ{x y:List Int}(h:isC x y=false)(he:sumE x=sumE y):x=y:=by
 unfold isC at h
 rw[QK he,Bool.and_true]at h
 simpa using h
theorem Qx1{b c:List Int}:∀(P Q:List H32) (n i:Nat),okU P n i→okU Q n i→(txU P n i b).2=(txU Q n i c).2→(∀(t:Nat) (x y:List Int),(txU P n i b).1[t]?=some x→(txU Q n i c).1[t]?=some y→isC x y=false)→b=c:=by
 intro P
 induction P with
 | nil=>
  intro Q n i ho hq he hn
  have ho:n=1:=ho
  cases Q with
  |cons q Q=>have:=hq.1;omega
  |nil=>
   have:=QtQ (hn 0 (0::b) (0::c) rfl rfl) he
   exact(List.cons.inj this).2
 | cons p P ih=>
  intro Q n i ho hq he hn
  obtain⟨h2,ho⟩:=ho
  cases Q with
  |nil=>have hq:n=1:=hq;omega
  | cons q Q=>
   obtain⟨_,hq⟩:=hq
   simp only[txU]at he hn
   by_cases hc:i<splN n
   ·rw[if_pos hc]at ho hq
    simp only[if_pos hc]at he hn
    rw[Qak,Qak]at he
    have h3:=QmP (QtQ (hn 0 _ _ rfl rfl) he)
    exact ih Q (splN n) i ho hq h3.1 fun t x y hx hy=>hn (t+1) x y (by simpa using hx) (by simpa using hy)
   ·rw[if_neg hc]at ho hq
    simp only[if_neg hc]at he hn
    rw[Qak,Qak]at he
    have h3:=QmP (QtQ (hn 0 _ _ rfl rfl) he)
    exact ih Q (n-splN n) (i-splN n) ho hq h3.2 fun t x y hx hy=>hn (t+1) x y (by simpa using hx) (by simpa using hy)
theorem Qx2:∀(P Q:List H32) (n i:Nat),okU P n i→okU Q n i→P.length=Q.length:=by
 intro P
 induction P with
 |nil=>
  intro Q n i ho hq
  have ho:n=1:=ho
  cases Q with
  |nil=>rfl
  |cons q Q=>have:=hq.1;omega
 | cons p P ih=>
  intro Q n i ho hq
  obtain⟨h2,ho⟩:=ho
  cases Q with
  |nil=>have hq:n=1:=hq;omega
  | cons q Q=>
   obtain⟨_,hq⟩:=hq
   by_cases hc:i<splN n
   ·rw[if_pos hc]at ho hq
    rw[List.length_cons,List.length_cons,ih Q _ _ ho hq]
   ·rw[if_neg hc]at ho hq
    rw[List.length_cons,List.length_cons,ih Q _ _ ho hq]
theorem Qvv{s t:List Int}(hs:isB s)(ht:isB t)(ls:s.length<900000)(lt:t.length<900000){V W:List H32}(hV:V.length<400)(hW:W.length<400)(bV:∀x∈V,byH x)(bW:∀x∈W,byH x){n i:Nat}(hi:i<n)(hn:n≤401){g:H32}
  (h1:Qal V.reverse n i (Qfh s)=some (g, [])) (h2:Qal W.reverse n i (Qfh t)=some (g, [])):
  ∃r,QbO.f 1000000000000 s t (i:Int) (n:Int) V W=some r∧((r.2.2=true∧QbN.f 1000000000000 r.1 r.2.1=some true)∨(r.2.2=false∧s=t)):=by
 unfold QbO.f
 obtain⟨r1,c1,d1⟩:=Qlm (W:=V) (by omega) hi hn (Qfh s)
 obtain⟨r2,c2,d2⟩:=Qlm (W:=W) (by omega) hi hn (Qfh t)
 have e1:=(d1 g).2 h1
 have e2:=(d2 g).2 h2
 obtain⟨o1,f1⟩:=Qps (by omega) hi h1
 obtain⟨o2,f2⟩:=Qps (by omega) hi h2
 rw[bnd (Qhb ls),bnd c1,bnd (Qhb lt),bnd c2,e1,e2]
 simp only[jn,Bool.not_true,Qh,decide_true]
 rw[bnd (texts_eq ls o1 hi hn hV),bnd (texts_eq lt o2 hi hn hW)]
 have bV':∀x∈V.reverse,byH x:=fun x hx=>bV x (List.mem_reverse.1 hx)
 have bW':∀x∈W.reverse,byH x:=fun x hx=>bW x (List.mem_reverse.1 hx)
 have l1:=Qln (b:=s) V.reverse n i
 have l2:=Qln (b:=t) W.reverse n i
 have l3:=Qx2 _ _ _ _ o1 o2
 simp only[List.length_reverse]at l1 l2 l3
 obtain⟨r,p1,p2⟩:=Qvu (X:=(txU V.reverse n i s).1) (Y:=(txU W.reverse n i t).1) (by omega) (by omega) (Qpu hs ls _ n i bV').1 (Qpu ht lt _ n i bW').1 (V.length+1) 0 1000000000000 (by omega) (by omega)
 have p1:Jm.l 1000000000000 (txU V.reverse n i s).1 (txU W.reverse n i t).1 1000000000000 0=some r:=p1
 rw[bnd p1]
 rcases p2 with⟨a,b,rfl,q2⟩|⟨rfl,q2⟩
 ·exact⟨_,rfl,.inl ⟨rfl,q2⟩⟩
 ·exact⟨_,rfl,.inr ⟨rfl,Qx1 _ _ n i o1 o2 (by rw[←f1,←f2]) fun t x y hx hy=>q2 t (by omega) x y hx hy⟩⟩
def ownP(sg:Int)(x:Rc):Bool:=decide (0<x.fKind)&&(decide (x.fKind<6)&&decide (x.fSaga=sg))
theorem QtR{l:List Rc}(hl:l.length<1000)(sg:Int):J5.f 1000000000000 l sg=some (l.filter (ownP sg)):=by
 unfold J5.f
 have key:∀(m i k:Nat) (out:List Rc),i+m=l.length→m<k→out=(l.take i).filter (ownP sg)→Ye.l 1000000000000 l sg k (out,(i:Int))=some (l.filter (ownP sg)):=by
  intro m
  induction m with
  |zero=>
   intro i k out hi hk ho
   obtain⟨k,rfl⟩:∃j,k=j+1:=⟨k-1,by omega⟩
   show Ye.b 1000000000000 l sg (Ye.l 1000000000000 l sg k) _=_
   unfold Ye.b
   rw[Qi (QE (by simp only;omega)),ho,List.take_of_length_le (by omega)]
  | succ m ih=>
   intro i k out hi hk ho
   obtain⟨k,rfl⟩:∃j,k=j+1:=⟨k-1,by omega⟩
   have hx:l[i]?=some l[i]:=List.getElem?_eq_getElem (by omega)
   have hol:out.length≤i:=by
    rw[ho]
    exact Nat.le_trans (List.length_filter_le _ _) (by simp;omega)
   have hto:((l.take (i+1)).filter (ownP sg))=out++(bif ownP sg l[i]then [l[i]]else []):=by
    rw[List.take_add_one,hx,List.filter_append,ho]
    congr 1
   show Ye.b 1000000000000 l sg (Ye.l 1000000000000 l sg k) _=_
   unfold Ye.b
   rw[Qj (QK (by simp only;omega))]
   simp only[jn]
   rw[wrap_succ (by omega),bnd (Yq hx)]
   have yes:ownP sg l[i]=true→((getI l (i:Int)).bind fun x2=>(catI 224 out [x2]).bind fun l1=>Ye.l 1000000000000 l sg k (l1,((i+1:Nat):Int)))=some (l.filter (ownP sg)):=fun h=>by
    rw[bnd (Yq hx),bnd (YX (by simp only[List.length_singleton];omega))]
    exact ih (i+1) k _ (by omega) (by omega) (by rw[hto,h];rfl)
   have no:ownP sg l[i]=false→Ye.l 1000000000000 l sg k (out,((i+1:Nat):Int))=some (l.filter (ownP sg)):=fun h=>
    ih (i+1) k _ (by omega) (by omega) (by rw[hto,h];simp)
   unfold ownP at yes no
   by_cases h1:0<l[i].fKind
   ·rw[Qj (QK h1),bnd (Yq hx)]
    rw[QK h1]at yes no
    by_cases h2:l[i].fKind<6
    ·rw[Qj (QK h2),bnd (Yq hx)]
     rw[QK h2]at yes no
     by_cases h3:l[i].fSaga=sg
     ·rw[Qj (QK h3)]
      rw[QK h3]at yes
      exact yes rfl
     ·rw[Qi (QE h3)]
      rw[QE h3]at no
      exact no rfl
    ·rw[Qi (QE h2)]
     rw[QE h2]at no
     exact no rfl
   ·rw[Qi (QE h1)]
    rw[QE h1]at no
    exact no rfl
 have ht:Ye.l 1000000000000 l sg 1000000000000 ([],0)=some (l.filter (ownP sg)):=key l.length 0 1000000000000 [] (by omega) (by omega) rfl
 exact Qz ht rfl
def Qf4(limit:Int):Sa→List Rc→Option Sa
 |s, []=>some s
 |s,r::rs=>if(goSt s r limit).2=true then Qf4 limit (goSt s r limit).1 rs else none
theorem QmQ{limit:Int}{r:Rc}:∀(rs:List Rc) (s t:Sa),Qf4 limit s rs=some t→(goSt t r limit).2=true→Qf4 limit s (rs++ [r])=some (goSt t r limit).1
 | [],s,t,h,h2=>by
  cases h
  show(if(goSt s r limit).2=true then Qf4 limit (goSt s r limit).1 []else none)=_
  rw[if_pos h2];rfl
 | x::rs,s,t,h,h2=>by
  simp only[Qf4]at h
  split at h
  ·rename_i h3
   show(if(goSt s x limit).2=true then Qf4 limit (goSt s x limit).1 (rs++ [r])else none)=_
   rw[if_pos h3]
   exact QmQ rs _ t h h2
  ·cases h
theorem Qlo{s:Sa}{x:Rc}{limit:Int}(h:s.fSteps.length<1000)(h0:0≤x.fStep)(hg:(goSt s x limit).2=true):x.fSeq=s.fSeq∧inn s.fPhase 2 4=false∧(goSt s x limit).1.fSeq=IntKind.wrap .i64 (s.fSeq+1):=by
 obtain⟨r,h1,_,_,h2⟩:=Qto s x limit h h0
 have:goSt s x limit=r:=by unfold goSt;rw[h1];rfl
 rw[this]at hg⊢
 exact h2 hg
def Qvw(x:Rc):Prop:=0≤x.fStep∧0≤x.fSeq∧x.fSeq<1000000
theorem QmR{limit:Int}:∀(rs:List Rc) (s t:Sa),s.fSteps.length<1000→(∀x∈rs,Qvw x)→Qf4 limit s rs=some t→∀x∈rs,s.fSeq≤x.fSeq
 | [],_,_,_,_,_,x,hx=>by cases hx
 | r::rs,s,t,hs,ho,h,x,hx=>by
  simp only[Qf4]at h
  split at h
  ·rename_i h3
   obtain⟨a0,a1,a2⟩:=ho r List.mem_cons_self
   obtain⟨q1,q2,q3⟩:=Qlo hs a0 h3
   have hst:=(Qiz (limit:=limit) hs a0).2.1
   rcases List.mem_cons.1 hx with rfl|hx
   ·omega
   ·have:=QmR rs _ t (by rw[hst];exact hs) (fun y hy=>ho y (List.mem_cons_of_mem _ hy)) h x hx
    rw[q3,wrap64 (by omega) (by omega)]at this
    omega
  ·cases h
theorem QmS{limit:Int}:∀(qs rs:List Rc) (s t u:Sa),s.fSteps.length<1000→(∀x∈qs,Qvw x)→rs.Sublist qs→Qf4 limit s rs=some t→Qf4 limit s qs=some u→inn t.fPhase 2 4=true→rs=qs
 | [],rs,s,t,u,hs,ho,hsub,h1,h2,hp=>List.sublist_nil.1 hsub
 | q ::qs,rs,s,t,u,hs,ho,hsub,h1,h2,hp=>by
  simp only[Qf4]at h2
  split at h2
  ·rename_i h3
   obtain⟨a0,a1,a2⟩:=ho q List.mem_cons_self
   obtain⟨q1,q2,q3⟩:=Qlo hs a0 h3
   have hst:=(Qiz (limit:=limit) hs a0).2.1
   have ho2:=fun y hy=>ho y (List.mem_cons_of_mem _ hy)
   cases rs with
   |nil=>
    cases h1
    rw[hp]at q2
    cases q2
   | cons r rs=>
    have h1':=h1
    simp only[Qf4]at h1
    split at h1
    ·rename_i h4
     cases hsub with
     |cons _ hsub=>
      have hr:r∈qs:=hsub.subset List.mem_cons_self
      have h5:=QmR qs _ u (by rw[hst];exact hs) ho2 h2 r hr
      obtain⟨p1,_,_⟩:=Qlo hs (ho2 r hr).1 h4
      rw[q3,wrap64 (by omega) (by omega)]at h5
      omega
     |cons_cons _ hsub=>
      rw[QmS qs rs _ t u (by rw[hst];exact hs) ho2 hsub h1 h2 hp]
    ·cases h1
  ·cases h2
end Go.Proofs.YtomndohdnfebgaaGreatDoor
