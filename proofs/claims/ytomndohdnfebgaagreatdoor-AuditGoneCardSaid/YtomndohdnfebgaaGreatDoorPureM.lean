/-
 Plain: records' open bytes, and how they are read.
-/
import Derived.Test.YtomndohdnfebgaaGreatDoorPureS
namespace Go.Proofs.YtomndohdnfebgaaGreatDoor
open Go Go.Sep
def Good(r:Rd):Prop:=isB r.fB∧r.fB.length<1000000000
theorem Good.nil{e:Int}:Good ⟨[],e⟩:=⟨JA,by simp⟩
theorem Good.drop{b:List Int}{e e':Int}(h:Good ⟨b,e⟩)(n:Nat):Good ⟨b.drop n,e'⟩:=
 ⟨fun x hx=>h.1 x (List.mem_of_mem_drop hx),by have:=h.2;simp at this⊢;omega⟩
theorem Good.tail{a b:List Int}{e e':Int}(h:Good ⟨a++b,e⟩):Good ⟨b,e'⟩:=
 ⟨(YW.1 h.1).2,by have:=h.2;simp at this⊢;omega⟩
structure Jg{α:Type}(p:Rd→α×Rd)(W:α→List Int)(Ok:α→Prop):Prop where
 good:∀r,Good r→Good (p r).2
 ok:∀a rest,Ok a→Good ⟨W a++rest,0⟩→p ⟨W a++rest,0⟩=(a,⟨rest,0⟩)
 back:∀r,Good r→(p r).2.fBad=0→r.fBad=0∧r.fB=W (p r).1++(p r).2.fB∧Ok (p r).1
def Qhg(e:Int)(r:Rd):Rd:=if r.fBad=0 then⟨[],e⟩else r
theorem Qai{K:Nat}{e:Int}(he:e≠0)(r:Rd):Q9.f K e r=some (Qhg e r):=by
 obtain⟨b,x⟩:=r
 by_cases h:x=0
 ·subst h;rw[Qcw he];rfl
 ·rw[Qtu h];simp[Qhg,h]
theorem qO{e:Int}{r:Rd}(h:Good r):Good (Qhg e r):=by
 unfold Qhg;split
 ·exact Good.nil
 ·exact h
theorem QaU{e:Int}(he:e≠0)(r:Rd):(Qhg e r).fBad≠0:=by
 unfold Qhg;split
 ·exact he
 ·assumption
def numR(r:Rd):Int×Rd:=
 if r.fBad=0 then
  (if(pN 0 0 r.fB).2.2=0 then((pN 0 0 r.fB).1,⟨r.fB.drop (pN 0 0 r.fB).2.1.toNat,0⟩)else(0,⟨[],(pN 0 0 r.fB).2.2⟩))
 else(0,r)
theorem QaV{b:List Int}(hb:isB b)(h:(pN 0 0 b).2.2=0):∃(n:Nat) (rest:List Int),n<2147483648∧b=numS n++rest∧pN 0 0 b=((n:Int),((numS n).length:Int),0):=by
 obtain⟨n,k,e,he⟩:∃n k e,pN 0 0 b=(n,k,e):=⟨_,_,_,rfl⟩
 rw[he]at h
 simp only at h
 subst h
 obtain⟨n',j,h1,h2,h3,h4,h5,h6,_⟩:=Qv8 b 0 0 n k hb (by rw[X9];rfl) he
 rw[X9,List.nil_append]at h6
 refine⟨n',b.drop j,h3,?_,?_⟩
 ·rw[←h6,List.take_append_drop]
 ·have hl:(numS n').length=j:=by rw[←h6];simp;omega
  rw[he,h1,h2,hl];simp
theorem ZK{K:Nat}(hK:1000000000000≤K){r:Rd}(hr:Good r):Qy.f K r=some (numR r):=by
 obtain⟨b,x⟩:=r
 have hl:b.length<1000000000000:=by have:=hr.2;simp at this;omega
 by_cases h:x=0
 ·subst h
  by_cases h2:(pN 0 0 b).2.2=0
  ·obtain⟨n,rest,h3,h4,h5⟩:=QaV hr.1 h2
   simp only at h4 h5
   rw[Qv9 hK hr.1 hl h3 h4]
   simp only[numR,if_true,h5]
   rw[h4];simp
  ·have:pN 0 0 b=(0,0,(pN 0 0 b).2.2):=by
    rcases QuU b 0 0 with e|e|e
    ·exact absurd e h2
    ·rw[e]
    ·rw[e]
   rw[Qrm hK hr.1 hl this h2]
   simp[numR,h2]
 ·rw[Qtv h];simp[numR,h]
theorem YD:Jg numR (fun n=>numS n.toNat) (fun n=>0≤n∧n<2147483648):=by
 refine⟨fun r hr=> ?_,fun a rest ha hg=> ?_,fun r hr hb=> ?_⟩
 ·unfold numR;split
  ·split
   ·exact Good.drop (b:=r.fB) (e:=r.fBad) hr _
   ·exact Good.nil
  ·exact hr
 ·have hp:=QnV (n:=a.toNat) (by omega) rest
  simp only[numR,hp,if_true]
  simp
  omega
 ·unfold numR at hb⊢
  by_cases h:r.fBad=0
  ·by_cases h2:(pN 0 0 r.fB).2.2=0
   ·obtain⟨n,rest,h3,h4,h5⟩:=QaV hr.1 h2
    simp only[h,h2,if_true]
    rw[h5]
    simp only[Int.toNat_natCast]
    refine⟨trivial,?_,by omega,by omega⟩
    rw[h4];simp
   ·simp[h,h2]at hb
  ·simp[h]at hb
def QbA(r:Rd):Bool×Rd:=
 if r.fBad=0 then(match r.fB with| []=>(false,⟨[],3⟩)|c::l=>if 1<c then(false,⟨[],2⟩)else(decide (c=1),⟨l,0⟩))else(false,r)
theorem Qtz{K:Nat}{r:Rd}(hr:Good r):Yz.f K r=some (QbA r):=by
 obtain⟨b,x⟩:=r
 by_cases h:x=0
 ·subst h
  cases b with
  |nil=>
   unfold Yz.f jd.f QF.f J5.f
   simp only[Qb]
   rw[Qi (by simp),Qj (by simp)]
   simp only[Qb]
   rw[Qj (by simp),Qcw (by omega)]
   simp[QbA]
  | cons c l=>
   have hc:=hr.1 c (by simp)
   by_cases h1:1<c
   ·unfold Yz.f jd.f QF.f J5.f
    simp only[Qb]
    rw[Qi (by simp),Qi (QG (by simp;omega)),Quw]
    simp only[List.getElem?_cons_zero,Qb]
    rw[Qj (QT h1)]
    simp only[Qb]
    rw[Qj (by simp),Qcw (by omega)]
    simp[QbA,h1]
   ·have:c=ZJ (decide (c=1)):=by
     by_cases h2:c=1
     ·simp[h2,ZJ]
     ·have:c=0:=by omega
      simp[this,ZJ]
    rw[this,Qtw]
    simp only[QbA,if_true]
    rw[←this]
    simp[h1]
 ·rw[Qrn h];simp[QbA,h]
theorem QaW:Jg QbA (fun b=> [ZJ b]) (fun _=>True):=by
 refine⟨fun r hr=> ?_,fun a rest _ hg=> ?_,fun r hr hb=> ?_⟩
 ·obtain⟨b,x⟩:=r
  by_cases h:x=0
  ·subst h
   cases b with
   |nil=>simp only[QbA,if_true];exact Good.nil
   |cons c l=>
    simp only[QbA,if_true]
    split
    ·exact Good.nil
    ·exact Good.tail (a:= [c]) (e:=0) hr
  ·simp only[QbA,h,if_false];exact hr
 ·cases a<;>simp[QbA,ZJ]
 ·obtain⟨b,x⟩:=r
  by_cases h:x=0
  ·subst h
   cases b with
   |nil=>simp[QbA]at hb
   | cons c l=>
    have hc:=hr.1 c (by simp)
    by_cases h1:1<c
    ·simp[QbA,h1]at hb
    ·simp only[QbA,if_true,h1,if_false]
     refine⟨trivial,?_,trivial⟩
     by_cases h2:c=1
     ·simp[h2,ZJ]
     ·have:c=0:=by omega
      simp[this,ZJ]
  ·simp[QbA,h]at hb
theorem Qiy{n:Nat}{l:List Int}(h:l.length=n):Ye (vofL n l)=l:=by
 apply List.ext_getElem?
 intro i
 by_cases hi:i<n
 ·simp[Ye,vofL,hi,h,vget]
 ·simp[Ye,vofL,hi,h]
def Qcx(r:Rd):Vector Int 32×Rd:=
 if r.fBad=0 then(if r.fB.length<32 then(Vector.replicate 32 0,⟨[],3⟩)else(vofL 32 (r.fB.take 32),⟨r.fB.drop 32,0⟩))else(Vector.replicate 32 0,r)
theorem QjS{K:Nat}{r:Rd}(hr:Good r):Yi.f K r=some (Qcx r):=by
 obtain⟨b,x⟩:=r
 by_cases h:x=0
 ·subst h
  by_cases hl:b.length<32
  ·unfold Yi.f J6.f QF.f ji.f
   simp only[Qb]
   rw[Qi (by simp),Qj (QT (by omega))]
   simp only[Qb]
   rw[Qj (by simp),Qcw (by omega)]
   simp[Qcx,hl]
  ·have e:b=Ye (vofL 32 (b.take 32))++b.drop 32:=by
    rw[Qiy (by simp;omega),List.take_append_drop]
   have hb2:=hr.2
   simp only at hb2
   have:=Qtx (K:=K) (h:=vofL 32 (b.take 32)) (rest:=b.drop 32) (by simp;omega)
   rw[←e]at this
   rw[this]
   simp[Qcx,hl]
 ·rw[Qrp h];simp[Qcx,h]
theorem yK:Jg Qcx (fun h=>Ye h) (fun h=>isB (Ye h)):=by
 refine⟨fun r hr=> ?_,fun a rest _ hg=> ?_,fun r hr hb=> ?_⟩
 ·unfold Qcx;split
  ·split
   ·exact Good.nil
   ·exact Good.drop (b:=r.fB) (e:=r.fBad) hr _
  ·exact hr
 ·have hl:=QI a
  have h1:(Ye a++rest).take 32=Ye a:=by rw[List.take_append_of_le_length (by omega),List.take_of_length_le (by omega)]
  have h2:(Ye a++rest).drop 32=rest:=List.drop_left' hl
  simp only[Qcx,if_true,h1,h2,Qix]
  rw[if_neg (by simp[hl])]
 ·unfold Qcx at hb⊢
  by_cases h:r.fBad=0
  ·by_cases hl:r.fB.length<32
   ·simp[h,hl]at hb
   ·simp only[h,hl,if_true,if_false]
    rw[Qiy (by simp;omega)]
    exact⟨trivial,(List.take_append_drop _ _).symm,fun x hx=>hr.1 x (List.mem_of_mem_take hx)⟩
  ·simp[h]at hb
def ZL(most:Int)(r:Rd):List Int×Rd:=
 if r.fBad=0 then
  (if(pN 0 0 r.fB).2.2≠0 then([],⟨[],(pN 0 0 r.fB).2.2⟩)
   else if most<(pN 0 0 r.fB).1 then([],⟨[],4⟩)
   else if(r.fB.length:Int)-(pN 0 0 r.fB).2.1<(pN 0 0 r.fB).1 then([],⟨[],3⟩)
   else((r.fB.drop (pN 0 0 r.fB).2.1.toNat).take (pN 0 0 r.fB).1.toNat,⟨r.fB.drop ((pN 0 0 r.fB).2.1.toNat+(pN 0 0 r.fB).1.toNat),0⟩))
 else([],r)
theorem Qrr{K:Nat}(hK:1000000000000≤K){most:Int}{r:Rd}(hr:Good r):YM.f K most r=some (ZL most r):=by
 obtain⟨b,x⟩:=r
 have hl2:=hr.2
 simp only at hl2
 have hl:b.length<1000000000000:=by omega
 by_cases h:x=0
 ·subst h
  by_cases h2:(pN 0 0 b).2.2=0
  ·obtain⟨n,rest,h3,h4,h5⟩:=QaV hr.1 h2
   simp only at h4 h5
   by_cases hm:most<(n:Int)
   ·unfold YM.f qh.f QF.f Jw.f
    simp only[Qb]
    rw[Qi (by simp),number_eq hK hr.1 hl,h5]
    simp only[Qb]
    rw[Qi (by simp),Qj (QT hm)]
    simp only[Qb]
    rw[Qj (by simp),Qcw (by omega)]
    simp[ZL,h5,hm]
   ·have hnl:=jL h3
    have hbl:b.length=(numS n).length+rest.length:=by rw[h4];simp
    by_cases hs:(b.length:Int)-((numS n).length:Int)<n
    ·unfold YM.f qh.f QF.f Jw.f
     simp only[Qb]
     rw[Qi (by simp),number_eq hK hr.1 hl,h5]
     simp only[Qb]
     rw[Qi (by simp),Qi (QG hm),wrap64 (by omega) (by omega),Qj (QT hs)]
     simp only[Qb]
     rw[Qj (by simp),Qcw (by omega)]
     simp[ZL,h5,hm,hs]
    ·have e1:(rest.take n).length=n:=by simp;omega
     have:=Qro (K:=K) (most:=most) (b:=b) (bs:=rest.take n) (rest:=rest.drop n) hK hr.1 hl (by omega) (by omega) (by rw[e1,List.take_append_drop];exact h4)
     rw[this]
     simp only[ZL,h5,if_true,ne_eq,not_true_eq_false,if_false,hm,hs]
     rw[h4]
     simp
  ·have hp:pN 0 0 b=(0,0,(pN 0 0 b).2.2):=by
    rcases QuU b 0 0 with e|e|e
    ·exact absurd e h2
    ·rw[e]
    ·rw[e]
   generalize (pN 0 0 b).2.2=e at hp h2
   unfold YM.f qh.f QF.f Jw.f
   simp only[Qb]
   rw[Qi (by simp),number_eq hK hr.1 hl,hp]
   simp only[Qb]
   rw[Qj (by simp[h2])]
   simp only[Qb]
   rw[Qj (by simp[h2]),Qcw h2]
   simp[ZL,hp,h2]
 ·rw[Qo9 h];simp[ZL,h]
theorem Qhh{most:Int}(hm:most<2147483648):Jg (ZL most) (fun b=>numS b.length++b) (fun b=>(b.length:Int)≤most∧isB b):=by
 refine⟨fun r hr=> ?_,fun a rest ha hg=> ?_,fun r hr hb=> ?_⟩
 ·unfold ZL;split
  ·split
   ·exact Good.nil
   ·split
    ·exact Good.nil
    ·split
     ·exact Good.nil
     ·exact Good.drop (b:=r.fB) (e:=r.fBad) hr _
  ·exact hr
 ·have hp:=QnV (n:=a.length) (by omega) (a++rest)
  rw[List.append_assoc]
  simp only[ZL,hp,if_true,ne_eq,not_true_eq_false,if_false]
  rw[if_neg (by omega),if_neg (by simp;omega)]
  simp
 ·unfold ZL at hb⊢
  by_cases h:r.fBad=0
  ·by_cases h2:(pN 0 0 r.fB).2.2=0
   ·obtain⟨n,rest,h3,h4,h5⟩:=QaV hr.1 h2
    have hbl:r.fB.length=(numS n).length+rest.length:=by rw[h4];simp
    by_cases h6:most<(n:Int)
    ·simp[h,h5,h6]at hb
    ·by_cases hs:(r.fB.length:Int)-((numS n).length:Int)<n
     ·simp[h,h5,h6,hs]at hb
     ·simp only[h,h5,h6,hs,if_true,ne_eq,not_true_eq_false,if_false]
      have e1:(rest.take n).length=n:=by simp;omega
      have e2:(r.fB.drop (numS n).length).take n=rest.take n:=by rw[h4];simp
      simp only[Int.toNat_natCast]
      rw[e2,e1]
      refine⟨trivial,?_,by omega,?_⟩
      ·rw[h4];simp
      ·intro x hx
       exact hr.1 x (by rw[h4];exact List.mem_append_right _ (List.mem_of_mem_take hx))
   ·simp[h,h2]at hb
  ·simp[h]at hb
def seqR{α β:Type}(p:Rd→α×Rd)(q:α→Rd→β×Rd)(r:Rd):(α×β)×Rd:=(((p r).1,(q (p r).1 (p r).2).1),(q (p r).1 (p r).2).2)
theorem Jg.seq{α β:Type}{p:Rd→α×Rd}{q:α→Rd→β×Rd}{W:α→List Int}{Ok:α→Prop}{W':α→β→List Int}{Ok':α→β→Prop}(h:Jg p W Ok)(h':∀a,Jg (q a) (W' a) (Ok' a)):
  Jg (seqR p q) (fun x=>W x.1++W' x.1 x.2) (fun x=>Ok x.1∧Ok' x.1 x.2):=by
 refine⟨fun r hr=>(h' _).good _ (h.good _ hr),fun a rest ha hg=> ?_,fun r hr hb=> ?_⟩
 ·rw[List.append_assoc]at hg⊢
  have e:=h.ok a.1 _ ha.1 hg
  simp only[seqR,e]
  rw[(h' a.1).ok a.2 rest ha.2 hg.tail]
 ·obtain⟨h1,h2,h3⟩:=(h' _).back _ (h.good _ hr) hb
  obtain⟨h4,h5,h6⟩:=h.back _ hr h1
  refine⟨h4,?_,h6,h3⟩
  show r.fB=(W (p r).1++W' (p r).1 (q (p r).1 (p r).2).1)++(q (p r).1 (p r).2).2.fB
  rw[List.append_assoc,←h2];exact h5
def mapR{α β:Type}(e:α→β)(p:Rd→α×Rd)(r:Rd):β×Rd:=(e (p r).1,(p r).2)
theorem Jg.map{α β:Type}{p:Rd→α×Rd}{W:α→List Int}{Ok:α→Prop}{e:α→β}(hp:Jg p W Ok)(h:β→α)(he:∀a,h (e a)=a):Jg (mapR e p) (fun b=>W (h b)) (fun b=>Ok (h b)∧e (h b)=b):=by
 refine⟨fun r hr=>hp.good _ hr,fun b rest hb hg=> ?_,fun r hr hb=> ?_⟩
 ·simp only[mapR];rw[hp.ok _ _ hb.1 hg,hb.2]
 ·obtain⟨h1,h2,h3⟩:=hp.back _ hr hb
  simp only[mapR]
  rw[he]
  exact⟨h1,h2,h3,rfl⟩
theorem Jg.conv{α:Type}{p:Rd→α×Rd}{W W':α→List Int}{Ok Ok':α→Prop}(hp:Jg p W Ok)(h1:∀a,Ok a→W a=W' a)(h2:∀a,Ok' a↔Ok a):Jg p W' Ok':=by
 refine⟨hp.good,fun a rest ha hg=> ?_,fun r hr hb=> ?_⟩
 ·rw[←h1 a ((h2 a).1 ha)]at hg⊢;exact hp.ok a rest ((h2 a).1 ha) hg
 ·obtain⟨e1,e2,e3⟩:=hp.back r hr hb
  exact⟨e1,by rw[←h1 _ e3];exact e2,(h2 _).2 e3⟩
def capR(most code:Int)(r:Rd):Int×Rd:=((numR r).1,if most<(numR r).1 then Qhg code (numR r).2 else(numR r).2)
theorem Qhi{most code:Int}(hm:most<2147483648)(hc:code≠0):Jg (capR most code) (fun n=>numS n.toNat) (fun n=>0≤n∧n≤most):=by
 refine⟨fun r hr=> ?_,fun a rest ha hg=> ?_,fun r hr hb=> ?_⟩
 ·unfold capR
  simp only
  split
  ·exact qO (YD.good _ hr)
  ·exact YD.good _ hr
 ·simp only[capR];rw[YD.ok a rest (by omega) hg]
  simp only
  rw[if_neg (by omega)]
 ·simp only[capR]at hb⊢
  by_cases h:most<(numR r).1
  ·rw[if_pos h]at hb;exact absurd hb (QaU hc _)
  ·rw[if_neg h]at hb⊢
   obtain⟨h1,h2,h3⟩:=YD.back r hr hb
   exact⟨h1,h2,h3.1,by omega⟩
def Xz{α:Type}(one:Nat→Rd→α×Rd):Nat→Nat→Rd→List α×Rd
 |0,_,r=>([],r)
 |n+1,i,r=>if r.fBad=0 then((one i r).1::(Xz one n (i+1) (one i r).2).1,(Xz one n (i+1) (one i r).2).2)else([],r)
theorem Jg.list{α:Type}{one:Nat→Rd→α×Rd}{W:α→List Int}{Ok:Nat→α→Prop}(h:∀i,Jg (one i) W (Ok i)):∀(n i:Nat),Jg (Xz one n i) (fun l=>(l.map W).flatten) (fun l=>l.length=n∧∀j x,l[j]?=some x→Ok (i+j) x):=by
 intro n
 induction n with
 | zero=>
  intro i
  refine⟨fun r hr=>hr,fun a rest ha hg=> ?_,fun r hr hb=> ?_⟩
  ·have:a= []:=List.length_eq_zero_iff.1 ha.1
   subst this;rfl
  ·exact⟨hb,by simp[Xz],rfl,by simp[Xz]⟩
 | succ n ih=>
  intro i
  refine⟨fun r hr=> ?_,fun a rest ha hg=> ?_,fun r hr hb=> ?_⟩
  ·unfold Xz;split
   ·exact(ih _).good _ ((h i).good _ hr)
   ·exact hr
  ·cases a with
   |nil=>exact absurd ha.1 (by simp)
   |cons x l=>
    simp only[List.map_cons,List.flatten_cons,List.append_assoc]at hg⊢
    have e:=(h i).ok x _ (ha.2 0 x rfl) hg
    simp only[Xz,if_true]
    rw[e]
    simp only
    rw[(ih (i+1)).ok l rest ⟨by have:=ha.1;simp at this;exact this,fun j y hy=>by have:=ha.2 (j+1) y (by simpa using hy);rwa [Nat.add_assoc,Nat.add_comm 1 j]⟩ hg.tail]
  ·unfold Xz at hb⊢
   by_cases h0:r.fBad=0
   ·rw[if_pos h0]at hb⊢
    obtain⟨e1,e2,e3⟩:=(ih (i+1)).back _ ((h i).good _ hr) hb
    obtain⟨e4,e5,e6⟩:=(h i).back _ hr e1
    refine⟨h0,?_,by simp[e3.1],fun j y hy=> ?_⟩
    ·simp only[List.map_cons,List.flatten_cons,List.append_assoc]
     rw[←e2];exact e5
    ·cases j with
     |zero=>simp at hy;subst hy;exact e6
     |succ j=>have:=e3.2 j y (by simpa using hy);rwa [Nat.add_assoc,Nat.add_comm 1 j]at this
   ·rw[if_neg h0]at hb;exact absurd hb h0
theorem Jg.counted{α:Type}{one:Nat→Rd→α×Rd}{W:α→List Int}{Ok:Nat→α→Prop}{most code:Int}(hm:most<2147483648)(hc:code≠0)(h:∀i,Jg (one i) W (Ok i)):
  Jg (mapR Prod.snd (seqR (capR most code) (fun n=>Xz one n.toNat 0))) (fun l=>numS l.length++(l.map W).flatten) (fun l=>(l.length:Int)≤most∧∀j x,l[j]?=some x→Ok j x):=by
 have hs:=(Qhi hm hc).seq (fun n=>Jg.list h n.toNat 0)
 refine⟨fun r hr=>hs.good r hr,fun a rest ha hg=> ?_,fun r hr hb=> ?_⟩
 ·have:=hs.ok ((a.length:Int),a) rest ⟨⟨by omega,ha.1⟩,rfl,fun j x hx=>by rw[Nat.zero_add];exact ha.2 j x hx⟩ hg
  simp only[mapR]
  simp only[Int.toNat_natCast]at this
  rw[this]
 ·obtain⟨h1,h2,⟨h3,h4⟩,h5,h6⟩:=hs.back r hr hb
  refine⟨h1,?_,?_,fun j x hx=> ?_⟩
  ·simp only[mapR]
   rw[h5];exact h2
  ·simp only[mapR];omega
  ·have:=h6 j x hx;rwa [Nat.zero_add]at this
theorem Qcy{α:Type}{L:Nat→(List α×Int×Rd)→Option (List α×Rd)}{one:Nat→Rd→α×Rd}{N:Nat}(hN:N<3000000000)(good:∀i r,Good r→Good (one i r).2)
  (h0:∀k out r,L (k+1) (out,(N:Int),r)=some (out,r))
  (h1:∀k out (i:Nat) r,i<N→r.fBad≠0→L (k+1) (out,(i:Int),r)=some (out,r))
  (h2:∀k out (i:Nat) r,i<N→r.fBad=0→Good r→out.length≤i→L (k+1) (out,(i:Int),r)=L k (out++ [(one i r).1],((i+1:Nat):Int),(one i r).2)):
  ∀(n i:Nat) (out:List α) (r:Rd) (k:Nat),i+n=N→n<k→Good r→out.length≤i→L k (out,(i:Int),r)=some (out++(Xz one n i r).1,(Xz one n i r).2):=by
 intro n
 induction n with
 |zero=>
  intro i out r k hi hk hr ho
  obtain⟨k,rfl⟩:∃j,k=j+1:=⟨k-1,by omega⟩
  have:i=N:=by omega
  subst this
  rw[h0];simp[Xz]
 | succ n ih=>
  intro i out r k hi hk hr ho
  obtain⟨k,rfl⟩:∃j,k=j+1:=⟨k-1,by omega⟩
  unfold Xz
  by_cases hb:r.fBad=0
  ·rw[if_pos hb,h2 k out i r (by omega) hb hr ho,ih (i+1) _ _ k (by omega) (by omega) (good i r hr) (by simp;omega)]
   simp
  ·rw[if_neg hb,h1 k out i r (by omega) hb];simp
abbrev Rc:=Qm
abbrev Sp:=Qp
abbrev zRc:Rc:=Qr
abbrev H32:=Vector Int 32
theorem Qaj{α:Type}{L:Nat→(List Int×Int)→Option (List Int)}(l:List α)(p:α→List Int)(s:List Int){k:Nat}(hk:l.length<k)
  (h0:∀k s,L (k+1) (s,(l.length:Int))=some s)
  (h1:∀k s (i:Nat) x,i<l.length→getI l (i:Int)=some x→x∈l→s.length+(p x).length<1000000000000→L (k+1) (s,(i:Int))=L k (s++p x,((i+1:Nat):Int)))
  (hn:s.length+(l.map p).flatten.length<1000000000000):L k (s,0)=some (s++(l.map p).flatten):=by
 have key:∀(m:List α) (i:Nat) (s:List Int) (k:Nat),l.drop i=m→i≤l.length→m.length<k→s.length+(m.map p).flatten.length<1000000000000→L k (s,(i:Int))=some (s++(m.map p).flatten):=by
  intro m
  induction m with
  | nil=>
   intro i s k hm hi hk hn
   obtain⟨k,rfl⟩:∃j,k=j+1:=⟨k-1,by simp at hk;omega⟩
   have:i=l.length:=by
    have:=congrArg List.length hm
    simp at this;omega
   subst this
   rw[h0];simp
  | cons x m ih=>
   intro i s k hm hi hk hn
   obtain⟨k,rfl⟩:∃j,k=j+1:=⟨k-1,by simp at hk;omega⟩
   have hlt:i<l.length:=by
    have:=congrArg List.length hm
    simp at this;omega
   have hx:l[i]?=some x:=by
    have:=congrArg (fun(l:List α)=>l[0]?) hm
    simpa using this
   have hd:l.drop (i+1)=m:=by rw[←List.drop_drop,hm];rfl
   simp only[List.map_cons,List.flatten_cons,List.length_append]at hn⊢
   rw[h1 k s i x hlt (JJ hx) (List.mem_of_getElem? hx) (by omega),ih (i+1) _ k hd (by omega) (by simp at hk;omega) (by rw[List.length_append];omega)]
   simp
 exact key l 0 s k rfl (by omega) hk hn
def numW(n:Int):List Int:=numS n.toNat
theorem QmR{K:Nat}(hK:1000000000000≤K){n:Int}(h:0≤n∧n<2147483648):qU.f K n=some (numW n):=by
 have:=Qlk (K:=K) (n:=n.toNat) hK (by omega)
 rw[Int.toNat_of_nonneg h.1]at this
 exact this
theorem Yu{n:Int}(h:0≤n∧n<2147483648):(numW n).length≤5∧0<(numW n).length:=jL (by omega)
theorem QbB{K:Nat}(hK:1000000000000≤K){l:List Int}(hl:l.length<1000)(h:∀n∈l,0≤n∧n<2147483648):qV.f K l=some (l.map numW).flatten:=by
 unfold qV.f
 have hlen:∀(l:List Int),(∀n∈l,0≤n∧n<2147483648)→(l.map numW).flatten.length≤5*l.length:=by
  intro l
  induction l with
  |nil=>intro _;simp
  |cons a l ih=>
   intro h
   have h1:=ih (fun n hn=>h n (by simp[hn]))
   have h2:=Yu (h a (by simp))
   simp only[List.map_cons,List.flatten_cons,List.length_append,List.length_cons]
   omega
 have hl2:=hlen l h
 have:=Qaj (L:=Jk.l K l) l numW [] (k:=K) (by omega)
  (fun k s=>by
   show Jk.b K l (Jk.l K l k) _=_
   unfold Jk.b
   rw[Qi (QG (by simp))])
  (fun k s i x hi hx hm hs=>by
   show Jk.b K l (Jk.l K l k) _=_
   unfold Jk.b
   rw[Qj (QT (by simp;omega))]
   simp only
   rw[hx]
   simp only[Qb]
   rw[QmR hK (h x hm)]
   simp only[Qb]
   rw[YQ (by omega)]
   simp only[Qb]
   rw[wrap_succ (by omega)])
  (by simp only[List.length_nil];omega)
 rw[this]
 rfl
def inn(n lo hi:Int):Bool:=decide (lo≤n)&&decide (n≤hi)
theorem qm{n lo hi:Int}:inn n lo hi=true↔lo≤n∧n≤hi:=by simp[inn]
theorem Qhj{K:Nat}(a b c:Int):JE.f K a b c=some (inn a b c):=by
 unfold JE.f inn
 cases decide (b≤a)<;>rfl
def ZM(s:Sp):Bool:=inn s.fPart 0 3&&inn s.fKind 1 3
theorem step_bad{K:Nat}(s:Sp):Z5.f K s=some (!ZM s):=by
 unfold Z5.f ZM
 rw[Qhj,Qhj]
 simp only[Qb]
 cases inn s.fPart 0 3<;>rfl
theorem Qrs{K:Nat}{l:List Sp}(hK:l.length<K)(hl:l.length<1000000000000):YI.f K l=some (!l.all ZM):=by
 unfold YI.f Ji.f
 have hL:=QfP (L:=QE.l K l) (fun(_:Unit) (i:Nat)=>(i:Int)) l (fun _ i x=>some (bif ZM x then .inr ()else .inl (.inl ((i:Nat):Int)))) (fun _=>some (.inr ())) () hK
  (fun k s=>by
   show QE.b K l (QE.l K l k) _=_
   unfold QE.b
   rw[Qi (QG (by simp))])
  (fun k s i x hi hx=>by
   show QE.b K l (QE.l K l k) _=_
   unfold QE.b
   rw[Qj (QT (by omega)),JJ hx]
   simp only[Qb]
   rw[step_bad]
   simp only[Qb]
   rw[wrap_succ (by omega)]
   cases ZM x<;>rfl)
 have hL:QE.l K l K 0=_:=hL
 obtain⟨r1,r2⟩:=QiS (good:=ZM) (v:=fun i=>((i:Nat):Int)) (l:=l) (s:=()) (i:=0) (f:=fun _ i x=>some (bif ZM x then .inr ()else .inl (.inl ((i:Nat):Int)))) (fun s i x _=>rfl)
 cases hg:l.all ZM with
 |true=>rw[hL,r1 hg];rfl
 |false=>
  obtain⟨j,_,_,hj⟩:=r2 hg
  rw[hL,hj]
  simp only[Qb,Bool.not_false]
  rw[QT (by omega)]
def Qcz(x:Rc):Bool:=
 inn x.fSaga 0 11&&(inn x.fPart 0 3&&(inn x.fEpoch 0 400&&
  (bif decide (x.fKind=1)then inn (x.fSteps.length:Int) 1 6&&(x.fSteps.all ZM&&decide ((x.fData.length:Int)≤60))
   else bif decide (x.fKind=2)||(decide (x.fKind=4)||decide (x.fKind=3))then inn x.fSeq 1 400&&(inn x.fStep 0 5&&inn x.fTry 1 9)
   else bif decide (x.fKind=5)then inn x.fSeq 1 400&&inn x.fEnd 2 4
   else decide (x.fKind=6)&&decide (1≤x.fEpoch))))
theorem Qrt{K:Nat}{x:Rc}(hK:x.fSteps.length<K)(hl:x.fSteps.length<1000000000000):QcJ.f K x=some (Qcz x):=by
 unfold QcJ.f Qcz
 simp only[jn,Qhj,Qrs hK hl,Qb]
 cases inn x.fSaga 0 11
 ·rfl
 cases inn x.fPart 0 3
 ·rfl
 cases inn x.fEpoch 0 400
 ·rfl
 cases decide (x.fKind=1)
 ·cases decide (x.fKind=2)
  ·cases decide (x.fKind=4)
   ·cases decide (x.fKind=3)
    ·cases decide (x.fKind=5)
     ·cases decide (x.fKind=6)<;>rfl
     ·cases inn x.fSeq 1 400<;>rfl
    ·cases inn x.fSeq 1 400
     ·rfl
     ·cases inn x.fStep 0 5<;>rfl
   ·cases inn x.fSeq 1 400
    ·rfl
    ·cases inn x.fStep 0 5<;>rfl
  ·cases inn x.fSeq 1 400
   ·rfl
   ·cases inn x.fStep 0 5<;>rfl
 ·cases inn (x.fSteps.length:Int) 1 6
  ·rfl
  cases x.fSteps.all ZM<;>rfl
def QeQ(x:Rc):Rc:=
 if x.fKind=1 then
  (bif x.fGone then{zRc with fKind:=x.fKind,fSaga:=x.fSaga,fSteps:=x.fSteps,fGone:=x.fGone,fCom:=x.fCom}
   else{zRc with fKind:=x.fKind,fSaga:=x.fSaga,fSteps:=x.fSteps,fGone:=x.fGone,fData:=x.fData,fSalt:=x.fSalt})
 else if x.fKind=3 then{zRc with fKind:=x.fKind,fGood:=x.fGood,fPart:=x.fPart,fEpoch:=x.fEpoch,fTag:=x.fTag,fSaga:=x.fSaga,fSeq:=x.fSeq,fStep:=x.fStep,fTry:=x.fTry,fBack:=x.fBack}
 else if x.fKind=2∨x.fKind=4 then{zRc with fKind:=x.fKind,fSaga:=x.fSaga,fSeq:=x.fSeq,fStep:=x.fStep,fTry:=x.fTry,fBack:=x.fBack}
 else if x.fKind=5 then{zRc with fKind:=x.fKind,fSaga:=x.fSaga,fSeq:=x.fSeq,fEnd:=x.fEnd}
 else if x.fKind=6 then{zRc with fKind:=x.fKind,fPart:=x.fPart,fEpoch:=x.fEpoch}
 else{zRc with fKind:=x.fKind}
theorem Qwa{K:Nat}(x:Rc):QfR.f K x=some (QeQ x):=by
 unfold QfR.f QeQ
 simp only[jn,Qb]
 by_cases h1:x.fKind=1
 ·rw[Qj (QT h1),if_pos h1]
  cases x.fGone<;>rfl
 rw[Qi (QG h1),if_neg h1]
 by_cases h3:x.fKind=3
 ·rw[Qj (QT h3),if_pos h3]
 rw[Qi (QG h3),if_neg h3]
 by_cases h2:x.fKind=2
 ·rw[QT h2];simp only[Qg];rw[if_pos (.inl h2)]
 rw[Qi (QG h2)]
 by_cases h4:x.fKind=4
 ·rw[QT h4];simp only[Qg];rw[if_pos (.inr h4)]
 rw[Qi (QG h4),if_neg (by simp[h2,h4])]
 by_cases h5:x.fKind=5
 ·rw[Qj (QT h5),if_pos h5]
 rw[Qi (QG h5),if_neg h5]
 by_cases h6:x.fKind=6
 ·rw[Qj (QT h6),if_pos h6]
 rw[Qi (QG h6),if_neg h6]
theorem Qpa{K:Nat}{l m:List Sp}(hK:l.length<K)(hl:l.length<1000000000000):Ja.f K l m=some (decide (l=m)):=by
 unfold Ja.f
 by_cases hlm:l.length=m.length
 ·rw [Qi (by simp[hlm])]
  have hz:(l.zip m).length=l.length:=by simp[hlm]
  have hL:=QfP (L:=QP.l K l m) (fun(_:Unit) (i:Nat)=>(i:Int)) (l.zip m) (fun _ i x=>some (bif decide (x.1=x.2)then .inr ()else .inl (.inl false))) (fun _=>some (.inr ())) () (by rw[hz];exact hK)
   (fun k s=>by
    show QP.b K l m (QP.l K l m k) _=_
    unfold QP.b
    rw[Qi (QG (by rw[hz];simp))])
   (fun k s i x hi hx=>by
    obtain⟨hx1,hx2⟩:=Qvq hx
    show QP.b K l m (QP.l K l m k) _=_
    unfold QP.b
    rw[Qj (QT (by omega)),JJ hx1,JJ hx2]
    simp only[Qb]
    rw[wrap_succ (by omega)]
    have:(decide (x.1.fPart=x.2.fPart)&&(decide (x.1.fKind=x.2.fKind)&&true))=decide (x.1=x.2):=by
     rw[Bool.eq_iff_iff]
     obtain⟨⟨a,b⟩,⟨c,d⟩⟩:=x
     simp
    rw[this]
    cases decide (x.1=x.2)<;>rfl)
  have hL:QP.l K l m K 0=_:=hL
  obtain⟨r1,r2⟩:=QiS (good:=fun(x:Sp×Sp)=>decide (x.1=x.2)) (v:=fun _=>false) (l:=l.zip m) (s:=()) (i:=0) (f:=fun _ i x=>some (bif decide (x.1=x.2)then .inr ()else .inl (.inl false))) (fun s i x _=>rfl)
  rw[Qoz hlm]at r1 r2
  cases hg:decide (l=m)with
  |true=>rw[hL,r1 hg];rfl
  |false=>
   obtain⟨j,_,_,hj⟩:=r2 hg
   rw[hL,hj];rfl
 ·rw[Qj (by simp;omega),QG (fun e=>hlm (by rw[e]))]
theorem Qiz{K:Nat}{l m:List Int}(hl:isB l)(hm:isB m):bytes_Equal.f K l m=some (decide (l=m)):=by
 unfold bytes_Equal.f
 rw[Qgn,Qgn]
 congr 1
 rw[Bool.eq_iff_iff]
 simp only[beq_iff_eq,decide_eq_true_eq]
 exact⟨fun h=>Qvp hl hm h,fun h=>by rw[h]⟩
def okD(x:Rc):Prop:=isB x.fData∧x.fData.length<1000000000∧x.fSteps.length<1000000000
theorem QtA{K:Nat}(hK:1000000000000≤K){a b:Rc}(ha:okD a)(hb:okD b):QfT.f K a b=some (decide (a=b)):=by
 unfold QfT.f QfS.f
 simp only[jn,Qb]
 rw[Qpa (by have:=ha.2.2;omega) (by have:=ha.2.2;omega),Qiz ha.1 hb.1]
 simp only[Qb]
 obtain⟨a1,a2,a3,a4,a5,a6,a7,a8,a9,a10,a11,a12,a13,a14,a15,a16⟩:=a
 obtain⟨b1,b2,b3,b4,b5,b6,b7,b8,b9,b10,b11,b12,b13,b14,b15,b16⟩:=b
 simp only
 rw[Bool.and_true]
 by_cases h12:a12=b12
 ·subst h12
  rw[Qi (by simp)]
  by_cases h13:a13=b13
  ·subst h13
   rw[Qi (by simp)]
   by_cases h11:a11=b11
   ·subst h11
    by_cases h14:a14=b14
    ·subst h14
     simp only[decide_true,Qg]
     rw[cond_eq_ite]
     split
     ·rename_i h
      simp only[Qd,decide_eq_true_eq,beq_iff_eq]at h
      congr 1
      rw[Bool.eq_iff_iff]
      simp only[decide_eq_true_eq,Qm.mk.injEq,true_and]
      simp only[h,true_and]
     ·rename_i h
      congr 1
      symm
      apply QG
      intro he
      simp only[Qm.mk.injEq]at he
      apply h
      simp[he]
    ·rw[QG h14]
     have: ¬(Qm.mk a1 a2 a3 a4 a5 a6 a7 a8 a9 a10 a11 a12 a13 a14 a15 a16=Qm.mk b1 b2 b3 b4 b5 b6 b7 b8 b9 b10 a11 a12 a13 b14 b15 b16):=fun e=>h14 (by simp only[Qm.mk.injEq]at e;exact e.2.2.2.2.2.2.2.2.2.2.2.2.2.1)
     rw[QG this]
     simp
   ·rw[QG h11]
    have: ¬(Qm.mk a1 a2 a3 a4 a5 a6 a7 a8 a9 a10 a11 a12 a13 a14 a15 a16=Qm.mk b1 b2 b3 b4 b5 b6 b7 b8 b9 b10 b11 a12 a13 b14 b15 b16):=fun e=>h11 (by simp only[Qm.mk.injEq]at e;exact e.2.2.2.2.2.2.2.2.2.2.1)
    rw[QG this]
    simp
  ·rw[Qj (by simp[h13])]
   exact congrArg some (QG (fun e=>h13 (by simp only[Qm.mk.injEq]at e;exact e.2.2.2.2.2.2.2.2.2.2.2.2.1))).symm
 ·rw[Qj (by simp[h12])]
  exact congrArg some (QG (fun e=>h12 (by simp only[Qm.mk.injEq]at e;exact e.2.2.2.2.2.2.2.2.2.2.2.1))).symm
def Yx(x:Rc):Bool:=Qcz x&&decide (x=QeQ x)
theorem QtB{x:Rc}(h:okD x):okD (QeQ x):=by
 unfold QeQ okD
 split
 ·cases x.fGone
  ·exact h
  ·exact⟨JA,by simp,h.2.2⟩
 all_goals (repeat' split)
 all_goals exact⟨JA,by simp,by simp⟩
theorem right_eq{K:Nat}(hK:1000000000000≤K){x:Rc}(h:okD x):qG.f K x=some (Yx x):=by
 unfold qG.f Yx
 rw[Qrt (by have:=h.2.2;omega) (by have:=h.2.2;omega)]
 simp only[Qb]
 cases Qcz x
 ·rfl
 ·rw[Qwa]
  simp only[Qb,Qg]
  rw[QtA hK h (QtB h)]
  rfl
abbrev Qwb:=Int×Int×Int×Int×Bool
def Qhk(x:Rc):List Int:=numW x.fSaga++(numW x.fSeq++(numW x.fStep++(numW x.fTry++ [ZJ x.fBack])))
def stepW(s:Sp):List Int:=numW s.fPart++numW s.fKind
def Qdc(l:List Sp):List Int:=numS l.length++(l.map stepW).flatten
def Qru(x:Rc):List Int:= [ZJ x.fGone]++(bif x.fGone then Ye x.fCom else Ye x.fSalt++(numS x.fData.length++x.fData))
def jW(k:Int)(x:Rc):List Int:=
 if k=1 then numW x.fSaga++(Qdc x.fSteps++Qru x)
 else if k=2∨k=4 then Qhk x
 else if k=3 then Qhk x++([ZJ x.fGood]++(numW x.fPart++(numW x.fEpoch++Ye x.fTag)))
 else if k=5 then numW x.fSaga++(numW x.fSeq++numW x.fEnd)
 else numW x.fPart++numW x.fEpoch
def Qhl(x:Rc):List Int:=numW x.fKind++jW x.fKind x
abbrev inN(n:Int):Prop:=0≤n∧n<2147483648
theorem Qhm{n lo hi:Int}(h:inn n lo hi=true)(hl:0≤lo)(hh:hi<2147483648):inN n:=by
 have:=qm.1 h;omega
structure QxF(x:Rc):Prop where
 kind:x.fKind=1∨x.fKind=2∨x.fKind=3∨x.fKind=4∨x.fKind=5∨x.fKind=6
 saga:inN x.fSaga
 part:inN x.fPart
 epoch:inN x.fEpoch
 beg:x.fKind=1→inn (x.fSteps.length:Int) 1 6=true∧x.fSteps.all ZM=true∧(x.fData.length:Int)≤60
 call:x.fKind=2∨x.fKind=4∨x.fKind=3→inN x.fSeq∧inN x.fStep∧inN x.fTry
 clo:x.fKind=5→inN x.fSeq∧inN x.fEnd
 kept:x=QeQ x
theorem QaX{x:Rc}(h:Yx x=true):QxF x:=by
 unfold Yx Qcz at h
 simp only[Qd]at h
 obtain⟨⟨h1,h2,h3,h4⟩,h5⟩:=h
 have h5:=of_decide_eq_true h5
 refine⟨?_,Qhm h1 (by omega) (by omega),Qhm h2 (by omega) (by omega),Qhm h3 (by omega) (by omega),?_,?_,?_,h5⟩
 ·by_cases k1:x.fKind=1
  ·exact .inl k1
  rw[Qi (QG k1)]at h4
  by_cases k2:x.fKind=2
  ·exact .inr (.inl k2)
  by_cases k4:x.fKind=4
  ·simp[k4]
  by_cases k3:x.fKind=3
  ·simp[k3]
  rw[Qi (by simp[k2,k3,k4])]at h4
  by_cases k5:x.fKind=5
  ·simp[k5]
  rw[Qi (QG k5)]at h4
  simp at h4
  simp[h4.1]
 ·intro k
  rw[Qj (QT k)]at h4
  simp only[Qd,decide_eq_true_eq]at h4
  exact h4
 ·intro k
  rw[Qi (QG (by omega)),Qj (by rcases k with k|k|k<;>simp[k])]at h4
  simp only[Qd]at h4
  exact⟨Qhm h4.1 (by omega) (by omega),Qhm h4.2.1 (by omega) (by omega),Qhm h4.2.2 (by omega) (by omega)⟩
 ·intro k
  rw[Qi (QG (by omega)),Qi (by simp[k]),Qj (QT k)]at h4
  simp only[Qd]at h4
  exact⟨Qhm h4.1 (by omega) (by omega),Qhm h4.2 (by omega) (by omega)⟩
theorem Qrv{s:Sp}(h:ZM s=true):inN s.fPart∧inN s.fKind:=by
 unfold ZM at h
 simp only[Qd]at h
 exact⟨Qhm h.1 (by omega) (by omega),Qhm h.2 (by omega) (by omega)⟩
theorem Za{α β:Type}{p:α→List β}{c:Nat}:∀{l:List α},(∀x∈l,(p x).length≤c)→(l.map p).flatten.length≤c*l.length:=by
 intro l
 induction l with
 |nil=>intro _;simp
 |cons a l ih=>
  intro h
  have h1:=ih (fun x hx=>h x (by simp[hx]))
  have h2:=h a (by simp)
  simp only[List.map_cons,List.flatten_cons,List.length_append,List.length_cons,Nat.mul_add]
  omega
theorem QaY{l:List Sp}(h:l.all ZM=true)(hl:l.length≤6):(Qdc l).length≤65:=by
 unfold Qdc
 have h1:=jL (n:=l.length) (by omega)
 have h2:(l.map stepW).flatten.length≤10*l.length:=Za (fun s hs=>by
  have:=Qrv (List.all_eq_true.1 h s hs)
  have h3:=Yu this.1
  have h4:=Yu this.2
  simp only[stepW,List.length_append];omega)
 simp only[List.length_append];omega
theorem Qd9{x:Rc}(h:Yx x=true):(jW x.fKind x).length≤300:=by
 have hd:=QaX h
 have h1:=Yu hd.saga
 have h2:=Yu hd.part
 have h3:=Yu hd.epoch
 unfold jW
 rcases hd.kind with k|k|k|k|k|k
 ·obtain⟨b1,b2,b3⟩:=hd.beg k
  have b1:=qm.1 b1
  have h4:=QaY b2 (by omega)
  have h5:=jL (n:=x.fData.length) (by omega)
  simp only[k,if_true,Qru,List.length_append]
  cases x.fGone<;>simp[QI]<;>omega
 ·have h4:=hd.call (.inl k)
  have h5:=Yu h4.1
  have h6:=Yu h4.2.1
  have h7:=Yu h4.2.2
  simp[k,Qhk];omega
 ·have h4:=hd.call (.inr (.inr k))
  have h5:=Yu h4.1
  have h6:=Yu h4.2.1
  have h7:=Yu h4.2.2
  simp[k,Qhk,QI];omega
 ·have h4:=hd.call (.inr (.inl k))
  have h5:=Yu h4.1
  have h6:=Yu h4.2.1
  have h7:=Yu h4.2.2
  simp[k,Qhk];omega
 ·have h4:=hd.clo k
  have h5:=Yu h4.1
  have h6:=Yu h4.2
  simp[k];omega
 ·simp[k];omega
theorem Qhn{x:Rc}(h:Yx x=true):inN x.fKind:=by
 have:=(QaX h).kind;omega
theorem Qll{x:Rc}(h:Yx x=true):(Qhl x).length≤305∧0<(Qhl x).length:=by
 have h1:=Qd9 h
 have h2:=Yu (Qhn h)
 simp only[Qhl,List.length_append];omega
theorem QnW{K:Nat}(hK:1000000000000≤K){x:Rc}(hs:inN x.fSaga)(h1:x.fSteps.length≤6)(h2:x.fSteps.all ZM=true):QbZ.f K x=some (numW x.fSaga++Qdc x.fSteps):=by
 unfold QbZ.f
 rw[QbB hK (by simp) (by intro n hn;simp at hn;rcases hn with rfl|rfl;exact hs;omega)]
 simp only[Qb]
 have hw:=Yu hs
 have hn:=jL (n:=x.fSteps.length) (by omega)
 have hl:=QaY h2 h1
 simp only[Qdc,List.length_append]at hl
 have:=Qaj (L:=JP.l K x) x.fSteps stepW (([x.fSaga,((x.fSteps.length:Nat):Int)].map numW).flatten) (k:=K) (by omega)
  (fun k s=>by
   show JP.b K x (JP.l K x k) _=_
   unfold JP.b
   rw[Qi (QG (by simp))])
  (fun k s i y hi hx hm hs=>by
   show JP.b K x (JP.l K x k) _=_
   unfold JP.b
   rw[Qj (QT (by simp;omega))]
   simp only
   rw[hx]
   simp only[Qb]
   have hy:=Qrv (List.all_eq_true.1 h2 y hm)
   rw[QbB hK (by simp) (by intro n hn;simp at hn;rcases hn with rfl|rfl;exact hy.1;exact hy.2)]
   simp only[Qb]
   have e:([y.fPart,y.fKind].map numW).flatten=stepW y:=by simp[stepW]
   rw[e,YQ (by omega)]
   simp only[Qb]
   rw[wrap_succ (by omega)])
  (by simp[numW]at*;omega)
 rw[this]
 simp[Qdc,numW]
theorem QeR{K:Nat}(hK:1000000000000≤K){x:Rc}(h1:inN x.fSaga)(h2:inN x.fSeq)(h3:inN x.fStep)(h4:inN x.fTry):Z8.f K x=some (Qhk x):=by
 unfold Z8.f
 rw[QbB hK (by simp) (by intro n hn;simp at hn;rcases hn with rfl|rfl|rfl|rfl<;>assumption)]
 simp only[Qb]
 rw[QeP]
 simp only[Qb]
 have w1:=Yu h1
 have w2:=Yu h2
 have w3:=Yu h3
 have w4:=Yu h4
 rw[jO hK (by simp;omega) (by simp)]
 simp[Qhk]
theorem Qrw{K:Nat}(hK:1000000000000≤K){x:Rc}(ho:okD x):QdK.f K x=some (bif Yx x then Qhl x else []):=by
 unfold QdK.f
 first|unfold Qer.f|unfold Qi0.f
 rw[right_eq hK ho]
 simp only[Qb,jn]
 cases hr:Yx x with
 |false=>rfl
 |true=>
 rw[Qi (by rfl)]
 have hd:=QaX hr
 rw[QmR hK (Qhn hr)]
 simp only[Qb]
 have hb:=Qd9 hr
 have hk:=Yu (Qhn hr)
 have w1:=Yu hd.saga
 have w2:=Yu hd.part
 have w3:=Yu hd.epoch
 rw[show QbY.f K=some ()from rfl]
 simp only[Qb]
 have e:Qhl x=numW x.fKind++jW x.fKind x:=rfl
 rcases hd.kind with k|k|k|k|k|k
 ·obtain⟨b1,b2,b3⟩:=hd.beg k
  have b1:=qm.1 b1
  have hl:=QaY b2 (by omega)
  rw[Qi (QG (by omega)),Qj (QT k),QnW hK hd.saga (by omega) b2]
  simp only[Qb]
  rw[jO hK (by simp;omega) (by simp)]
  simp only[Qb]
  rw[Qj (QT k)]
  have hL:QcM.f K x=some (Qru x):=by
   unfold QcM.f Qru
   cases hg:x.fGone
   ·rw[Qi (by rfl),QeP]
    simp only[Qb]
    rw[Qcv]
    simp only[Qb]
    have hn:=jL (n:=x.fData.length) (by omega)
    rw[bytes_eq hK (by omega)]
    simp only[Qb]
    rw[jO hK (by simp[QI];omega) (by simp)]
    simp
   ·rw[Qj (by rfl),QeP]
    simp only[Qb]
    rw[Qcv]
    simp only[Qb]
    rw[jO hK (by simp[QI]) (by simp)]
    simp
  rw[hL]
  simp only[Qb]
  rw[e]
  simp only[k,jW,if_true]at hb⊢
  simp only[List.length_append]at hb
  rw[YQ (by simp[k]at hk⊢;omega)]
  simp
 ·have h4:=hd.call (.inl k)
  rw[Qi (QG (by omega)),Qi (QG (by omega)),Qj (QT k),QeR hK hd.saga h4.1 h4.2.1 h4.2.2]
  simp only[Qb]
  rw[e]
  simp only[jW,k]at hb⊢
  simp at hb
  rw[jO hK (by simp[k]at hk⊢;omega) (by simp)]
  simp
 ·have h4:=hd.call (.inr (.inr k))
  rw[Qi (QG (by omega)),Qi (QG (by omega)),Qi (QG (by omega)),Qj (QT k)]
  have hL:yu.f K x=some (jW 3 x):=by
   unfold yu.f
   rw[QeR hK hd.saga h4.1 h4.2.1 h4.2.2]
   simp only[Qb]
   rw[QeP]
   simp only[Qb]
   rw[QbB hK (by simp) (by intro n hn;simp at hn;rcases hn with rfl|rfl;exact hd.part;exact hd.epoch)]
   simp only[Qb]
   rw[Qcv]
   simp only[Qb]
   simp only[k,jW]at hb
   simp[QI]at hb
   rw[jO hK (by simp[QI];omega) (by simp)]
   simp[jW]
  rw[hL]
  simp only[Qb]
  rw[e]
  simp only[k]at hb hk⊢
  rw[jO hK (by simp;omega) (by simp)]
  simp
 ·have h4:=hd.call (.inr (.inl k))
  rw[Qi (QG (by omega)),Qi (QG (by omega)),Qi (QG (by omega)),Qi (QG (by omega)),Qj (QT k),QeR hK hd.saga h4.1 h4.2.1 h4.2.2]
  simp only[Qb]
  rw[e]
  simp only[jW,k]at hb⊢
  simp at hb
  rw[jO hK (by simp[k]at hk⊢;omega) (by simp)]
  simp
 ·have h4:=hd.clo k
  rw[Qi (QG (by omega)),Qi (QG (by omega)),Qi (QG (by omega)),Qi (QG (by omega)),Qi (QG (by omega)),Qj (QT k)]
  have hL:yw.f K x=some (jW 5 x):=by
   unfold yw.f
   rw[QbB hK (by simp) (by intro n hn;simp at hn;rcases hn with rfl|rfl|rfl;exact hd.saga;exact h4.1;exact h4.2)]
   simp[jW]
  rw[hL]
  simp only[Qb]
  rw[e]
  simp only[k]at hb hk⊢
  rw[jO hK (by simp;omega) (by simp)]
  simp
 ·rw[Qi (QG (by omega)),Qi (QG (by omega)),Qi (QG (by omega)),Qi (QG (by omega)),Qi (QG (by omega)),Qi (QG (by omega)),Qj (QT k)]
  have hL:yx.f K x=some (jW 6 x):=by
   unfold yx.f
   rw[QbB hK (by simp) (by intro n hn;simp at hn;rcases hn with rfl|rfl;exact hd.part;exact hd.epoch)]
   simp[jW]
  rw[hL]
  simp only[Qb]
  rw[e]
  simp only[k]at hb hk⊢
  rw[jO hK (by simp;omega) (by simp)]
  simp
end Go.Proofs.YtomndohdnfebgaaGreatDoor
