/-
 Plain: records' open bytes, and how they are read.
-/
import Derived.Test.YtomndohdnfebgaaGreatDoorPureS
namespace Go.Proofs.YtomndohdnfebgaaGreatDoor
open Go Go.Sep
def Good(r:Rd):Prop:=isB r.fB∧r.fB.length<1000000000
theorem Good.nil{e:Int}:Good ⟨[],e⟩:=⟨qh,by simp⟩
theorem Good.drop{b:List Int}{e e':Int}(h:Good ⟨b,e⟩)(n:Nat):Good ⟨b.drop n,e'⟩:=
 ⟨fun x hx=>h.1 x (List.mem_of_mem_drop hx),by have:=h.2;simp at this⊢;omega⟩
theorem Good.tail{a b:List Int}{e e':Int}(h:Good ⟨a++b,e⟩):Good ⟨b,e'⟩:=
 ⟨(Qn2.1 h.1).2,by have:=h.2;simp at this⊢;omega⟩
structure Jd{α:Type}(p:Rd→α×Rd)(W:α→List Int)(Ok:α→Prop):Prop where
 good:∀r,Good r→Good (p r).2
 ok:∀a rest,Ok a→Good ⟨W a++rest,0⟩→p ⟨W a++rest,0⟩=(a,⟨rest,0⟩)
 back:∀r,Good r→(p r).2.fBad=0→r.fBad=0∧r.fB=W (p r).1++(p r).2.fB∧Ok (p r).1
def Qg2(e:Int)(r:Rd):Rd:=if r.fBad=0 then⟨[],e⟩else r
theorem ZR{K:Nat}{e:Int}(he:e≠0)(r:Rd):Ya.f K e r=some (Qg2 e r):=by
 obtain⟨b,x⟩:=r
 by_cases h:x=0
 ·subst h;rw[Qcc he];rfl
 ·rw[QsO h];simp[Qg2,h]
theorem qC{e:Int}{r:Rd}(h:Good r):Good (Qg2 e r):=by
 unfold Qg2;split
 ·exact Good.nil
 ·exact h
theorem Qaz{e:Int}(he:e≠0)(r:Rd):(Qg2 e r).fBad≠0:=by
 unfold Qg2;split
 ·exact he
 ·assumption
def numR(r:Rd):Int×Rd:=
 if r.fBad=0 then
  (if(pN 0 0 r.fB).2.2=0 then((pN 0 0 r.fB).1,⟨r.fB.drop (pN 0 0 r.fB).2.1.toNat,0⟩)else(0,⟨[],(pN 0 0 r.fB).2.2⟩))
 else(0,r)
theorem QaA{b:List Int}(hb:isB b)(h:(pN 0 0 b).2.2=0):∃(n:Nat) (rest:List Int),n<2147483648∧b=numS n++rest∧pN 0 0 b=((n:Int),((numS n).length:Int),0):=by
 obtain⟨n,k,e,he⟩:∃n k e,pN 0 0 b=(n,k,e):=⟨_,_,_,rfl⟩
 rw[he]at h
 simp only at h
 subst h
 obtain⟨n',j,h1,h2,h3,h4,h5,h6,_⟩:=Qvn b 0 0 n k hb (by rw[ZQ];rfl) he
 rw[ZQ,List.nil_append]at h6
 refine⟨n',b.drop j,h3,?_,?_⟩
 ·rw[←h6,List.take_append_drop]
 ·have hl:(numS n').length=j:=by rw[←h6];simp;omega
  rw[he,h1,h2,hl];simp
theorem Zl{K:Nat}(hK:1000000000000≤K){r:Rd}(hr:Good r):QB.f K r=some (numR r):=by
 obtain⟨b,x⟩:=r
 have hl:b.length<1000000000000:=by have:=hr.2;simp at this;omega
 by_cases h:x=0
 ·subst h
  by_cases h2:(pN 0 0 b).2.2=0
  ·obtain⟨n,rest,h3,h4,h5⟩:=QaA hr.1 h2
   simp only at h4 h5
   rw[Qvo hK hr.1 hl h3 h4]
   simp only[numR,if_true,h5]
   rw[h4];simp
  ·have:pN 0 0 b=(0,0,(pN 0 0 b).2.2):=by
    rcases Qt6 b 0 0 with e|e|e
    ·exact absurd e h2
    ·rw[e]
    ·rw[e]
   rw[QqR hK hr.1 hl this h2]
   simp[numR,h2]
 ·rw[QsP h];simp[numR,h]
theorem Yx:Jd numR (fun n=>numS n.toNat) (fun n=>0≤n∧n<2147483648):=by
 refine⟨fun r hr=> ?_,fun a rest ha hg=> ?_,fun r hr hb=> ?_⟩
 ·unfold numR;split
  ·split
   ·exact Good.drop (b:=r.fB) (e:=r.fBad) hr _
   ·exact Good.nil
  ·exact hr
 ·have hp:=Qnt (n:=a.toNat) (by omega) rest
  simp only[numR,hp,if_true]
  simp
  omega
 ·unfold numR at hb⊢
  by_cases h:r.fBad=0
  ·by_cases h2:(pN 0 0 r.fB).2.2=0
   ·obtain⟨n,rest,h3,h4,h5⟩:=QaA hr.1 h2
    simp only[h,h2,if_true]
    rw[h5]
    simp only[Int.toNat_natCast]
    refine⟨trivial,?_,by omega,by omega⟩
    rw[h4];simp
   ·simp[h,h2]at hb
  ·simp[h]at hb
def Qbc(r:Rd):Bool×Rd:=
 if r.fBad=0 then(match r.fB with| []=>(false,⟨[],3⟩)|c::l=>if 1<c then(false,⟨[],2⟩)else(decide (c=1),⟨l,0⟩))else(false,r)
theorem QsS{K:Nat}{r:Rd}(hr:Good r):Yy.f K r=some (Qbc r):=by
 obtain⟨b,x⟩:=r
 by_cases h:x=0
 ·subst h
  cases b with
  |nil=>
   unfold Yy.f qW.f QE.f JW.f
   simp only[Qb]
   rw[Qi (by simp),Qj (by simp)]
   simp only[Qb]
   rw[Qj (by simp),Qcc (by omega)]
   simp[Qbc]
  | cons c l=>
   have hc:=hr.1 c (by simp)
   by_cases h1:1<c
   ·unfold Yy.f qW.f QE.f JW.f
    simp only[Qb]
    rw[Qi (by simp),Qi (QP (by simp;omega)),QtI]
    simp only[List.getElem?_cons_zero,Qb]
    rw[Qj (QS h1)]
    simp only[Qb]
    rw[Qj (by simp),Qcc (by omega)]
    simp[Qbc,h1]
   ·have:c=Qbw (decide (c=1)):=by
     by_cases h2:c=1
     ·simp[h2,Qbw]
     ·have:c=0:=by omega
      simp[this,Qbw]
    rw[this,QsQ]
    simp only[Qbc,if_true]
    rw[←this]
    simp[h1]
 ·rw[QqS h];simp[Qbc,h]
theorem QaB:Jd Qbc (fun b=> [Qbw b]) (fun _=>True):=by
 refine⟨fun r hr=> ?_,fun a rest _ hg=> ?_,fun r hr hb=> ?_⟩
 ·obtain⟨b,x⟩:=r
  by_cases h:x=0
  ·subst h
   cases b with
   |nil=>simp only[Qbc,if_true];exact Good.nil
   |cons c l=>
    simp only[Qbc,if_true]
    split
    ·exact Good.nil
    ·exact Good.tail (a:= [c]) (e:=0) hr
  ·simp only[Qbc,h,if_false];exact hr
 ·cases a<;>simp[Qbc,Qbw]
 ·obtain⟨b,x⟩:=r
  by_cases h:x=0
  ·subst h
   cases b with
   |nil=>simp[Qbc]at hb
   | cons c l=>
    have hc:=hr.1 c (by simp)
    by_cases h1:1<c
    ·simp[Qbc,h1]at hb
    ·simp only[Qbc,if_true,h1,if_false]
     refine⟨trivial,?_,trivial⟩
     by_cases h2:c=1
     ·simp[h2,Qbw]
     ·have:c=0:=by omega
      simp[this,Qbw]
  ·simp[Qbc,h]at hb
theorem Qig{n:Nat}{l:List Int}(h:l.length=n):Yg (vofL n l)=l:=by
 apply List.ext_getElem?
 intro i
 by_cases hi:i<n
 ·simp[Yg,vofL,hi,h,vget]
 ·simp[Yg,vofL,hi,h]
def Qcd(r:Rd):Vector Int 32×Rd:=
 if r.fBad=0 then(if r.fB.length<32 then(Vector.replicate 32 0,⟨[],3⟩)else(vofL 32 (r.fB.take 32),⟨r.fB.drop 32,0⟩))else(Vector.replicate 32 0,r)
theorem Qjw{K:Nat}{r:Rd}(hr:Good r):Ym.f K r=some (Qcd r):=by
 obtain⟨b,x⟩:=r
 by_cases h:x=0
 ·subst h
  by_cases hl:b.length<32
  ·unfold Ym.f JX.f QE.f jc.f
   simp only[Qb]
   rw[Qi (by simp),Qj (QS (by omega))]
   simp only[Qb]
   rw[Qj (by simp),Qcc (by omega)]
   simp[Qcd,hl]
  ·have e:b=Yg (vofL 32 (b.take 32))++b.drop 32:=by
    rw[Qig (by simp;omega),List.take_append_drop]
   have hb2:=hr.2
   simp only at hb2
   have:=QsR (K:=K) (h:=vofL 32 (b.take 32)) (rest:=b.drop 32) (by simp;omega)
   rw[←e]at this
   rw[this]
   simp[Qcd,hl]
 ·rw[QqU h];simp[Qcd,h]
theorem yx:Jd Qcd (fun h=>Yg h) (fun h=>isB (Yg h)):=by
 refine⟨fun r hr=> ?_,fun a rest _ hg=> ?_,fun r hr hb=> ?_⟩
 ·unfold Qcd;split
  ·split
   ·exact Good.nil
   ·exact Good.drop (b:=r.fB) (e:=r.fBad) hr _
  ·exact hr
 ·have hl:=Q8 a
  have h1:(Yg a++rest).take 32=Yg a:=by rw[List.take_append_of_le_length (by omega),List.take_of_length_le (by omega)]
  have h2:(Yg a++rest).drop 32=rest:=List.drop_left' hl
  simp only[Qcd,if_true,h1,h2,Qif]
  rw[if_neg (by simp[hl])]
 ·unfold Qcd at hb⊢
  by_cases h:r.fBad=0
  ·by_cases hl:r.fB.length<32
   ·simp[h,hl]at hb
   ·simp only[h,hl,if_true,if_false]
    rw[Qig (by simp;omega)]
    exact⟨trivial,(List.take_append_drop _ _).symm,fun x hx=>hr.1 x (List.mem_of_mem_take hx)⟩
  ·simp[h]at hb
def Zm(most:Int)(r:Rd):List Int×Rd:=
 if r.fBad=0 then
  (if(pN 0 0 r.fB).2.2≠0 then([],⟨[],(pN 0 0 r.fB).2.2⟩)
   else if most<(pN 0 0 r.fB).1 then([],⟨[],4⟩)
   else if(r.fB.length:Int)-(pN 0 0 r.fB).2.1<(pN 0 0 r.fB).1 then([],⟨[],3⟩)
   else((r.fB.drop (pN 0 0 r.fB).2.1.toNat).take (pN 0 0 r.fB).1.toNat,⟨r.fB.drop ((pN 0 0 r.fB).2.1.toNat+(pN 0 0 r.fB).1.toNat),0⟩))
 else([],r)
theorem QqW{K:Nat}(hK:1000000000000≤K){most:Int}{r:Rd}(hr:Good r):YI.f K most r=some (Zm most r):=by
 obtain⟨b,x⟩:=r
 have hl2:=hr.2
 simp only at hl2
 have hl:b.length<1000000000000:=by omega
 by_cases h:x=0
 ·subst h
  by_cases h2:(pN 0 0 b).2.2=0
  ·obtain⟨n,rest,h3,h4,h5⟩:=QaA hr.1 h2
   simp only at h4 h5
   by_cases hm:most<(n:Int)
   ·unfold YI.f J6.f QE.f Jt.f
    simp only[Qb]
    rw[Qi (by simp),number_eq hK hr.1 hl,h5]
    simp only[Qb]
    rw[Qi (by simp),Qj (QS hm)]
    simp only[Qb]
    rw[Qj (by simp),Qcc (by omega)]
    simp[Zm,h5,hm]
   ·have hnl:=Qcw h3
    have hbl:b.length=(numS n).length+rest.length:=by rw[h4];simp
    by_cases hs:(b.length:Int)-((numS n).length:Int)<n
    ·unfold YI.f J6.f QE.f Jt.f
     simp only[Qb]
     rw[Qi (by simp),number_eq hK hr.1 hl,h5]
     simp only[Qb]
     rw[Qi (by simp),Qi (QP hm),wrap64 (by omega) (by omega),Qj (QS hs)]
     simp only[Qb]
     rw[Qj (by simp),Qcc (by omega)]
     simp[Zm,h5,hm,hs]
    ·have e1:(rest.take n).length=n:=by simp;omega
     have:=QqT (K:=K) (most:=most) (b:=b) (bs:=rest.take n) (rest:=rest.drop n) hK hr.1 hl (by omega) (by omega) (by rw[e1,List.take_append_drop];exact h4)
     rw[this]
     simp only[Zm,h5,if_true,ne_eq,not_true_eq_false,if_false,hm,hs]
     rw[h4]
     simp
  ·have hp:pN 0 0 b=(0,0,(pN 0 0 b).2.2):=by
    rcases Qt6 b 0 0 with e|e|e
    ·exact absurd e h2
    ·rw[e]
    ·rw[e]
   generalize (pN 0 0 b).2.2=e at hp h2
   unfold YI.f J6.f QE.f Jt.f
   simp only[Qb]
   rw[Qi (by simp),number_eq hK hr.1 hl,hp]
   simp only[Qb]
   rw[Qj (by simp[h2])]
   simp only[Qb]
   rw[Qj (by simp[h2]),Qcc h2]
   simp[Zm,hp,h2]
 ·rw[QoC h];simp[Zm,h]
theorem Qg3{most:Int}(hm:most<2147483648):Jd (Zm most) (fun b=>numS b.length++b) (fun b=>(b.length:Int)≤most∧isB b):=by
 refine⟨fun r hr=> ?_,fun a rest ha hg=> ?_,fun r hr hb=> ?_⟩
 ·unfold Zm;split
  ·split
   ·exact Good.nil
   ·split
    ·exact Good.nil
    ·split
     ·exact Good.nil
     ·exact Good.drop (b:=r.fB) (e:=r.fBad) hr _
  ·exact hr
 ·have hp:=Qnt (n:=a.length) (by omega) (a++rest)
  rw[List.append_assoc]
  simp only[Zm,hp,if_true,ne_eq,not_true_eq_false,if_false]
  rw[if_neg (by omega),if_neg (by simp;omega)]
  simp
 ·unfold Zm at hb⊢
  by_cases h:r.fBad=0
  ·by_cases h2:(pN 0 0 r.fB).2.2=0
   ·obtain⟨n,rest,h3,h4,h5⟩:=QaA hr.1 h2
    have hbl:r.fB.length=(numS n).length+rest.length:=by rw[h4];simp
    by_cases h6:most<(n:Int)
    ·simp[h,h5,h6]at hb
    ·by_cases hs:(r.fB.length:Int)-((numS n).length:Int)<n
     ·simp[h,h5,h6,hs]at hb
     ·simp only[h,h5,h6,hs,if_true,ne_eq,not_true_eq_false,if_false]
      have e1:(rest.take n).length=n:=by simp;omega
      have e2:(r.fB.drop (numS n).length).take n=rest.take n:=by rw[h4];simp
      simp only[Int.toNat_natCast]
      rw[e2,e1]
      refine⟨trivial,?_,by omega,?_⟩
      ·rw[h4];simp
      ·intro x hx
       exact hr.1 x (by rw[h4];exact List.mem_append_right _ (List.mem_of_mem_take hx))
   ·simp[h,h2]at hb
  ·simp[h]at hb
def seqR{α β:Type}(p:Rd→α×Rd)(q:α→Rd→β×Rd)(r:Rd):(α×β)×Rd:=(((p r).1,(q (p r).1 (p r).2).1),(q (p r).1 (p r).2).2)
theorem Jd.seq{α β:Type}{p:Rd→α×Rd}{q:α→Rd→β×Rd}{W:α→List Int}{Ok:α→Prop}{W':α→β→List Int}{Ok':α→β→Prop}(h:Jd p W Ok)(h':∀a,Jd (q a) (W' a) (Ok' a)):
  Jd (seqR p q) (fun x=>W x.1++W' x.1 x.2) (fun x=>Ok x.1∧Ok' x.1 x.2):=by
 refine⟨fun r hr=>(h' _).good _ (h.good _ hr),fun a rest ha hg=> ?_,fun r hr hb=> ?_⟩
 ·rw[List.append_assoc]at hg⊢
  have e:=h.ok a.1 _ ha.1 hg
  simp only[seqR,e]
  rw[(h' a.1).ok a.2 rest ha.2 hg.tail]
 ·obtain⟨h1,h2,h3⟩:=(h' _).back _ (h.good _ hr) hb
  obtain⟨h4,h5,h6⟩:=h.back _ hr h1
  refine⟨h4,?_,h6,h3⟩
  show r.fB=(W (p r).1++W' (p r).1 (q (p r).1 (p r).2).1)++(q (p r).1 (p r).2).2.fB
  rw[List.append_assoc,←h2];exact h5
def mapR{α β:Type}(e:α→β)(p:Rd→α×Rd)(r:Rd):β×Rd:=(e (p r).1,(p r).2)
theorem Jd.map{α β:Type}{p:Rd→α×Rd}{W:α→List Int}{Ok:α→Prop}{e:α→β}(hp:Jd p W Ok)(h:β→α)(he:∀a,h (e a)=a):Jd (mapR e p) (fun b=>W (h b)) (fun b=>Ok (h b)∧e (h b)=b):=by
 refine⟨fun r hr=>hp.good _ hr,fun b rest hb hg=> ?_,fun r hr hb=> ?_⟩
 ·simp only[mapR];rw[hp.ok _ _ hb.1 hg,hb.2]
 ·obtain⟨h1,h2,h3⟩:=hp.back _ hr hb
  simp only[mapR]
  rw[he]
  exact⟨h1,h2,h3,rfl⟩
theorem Jd.conv{α:Type}{p:Rd→α×Rd}{W W':α→List Int}{Ok Ok':α→Prop}(hp:Jd p W Ok)(h1:∀a,Ok a→W a=W' a)(h2:∀a,Ok' a↔Ok a):Jd p W' Ok':=by
 refine⟨hp.good,fun a rest ha hg=> ?_,fun r hr hb=> ?_⟩
 ·rw[←h1 a ((h2 a).1 ha)]at hg⊢;exact hp.ok a rest ((h2 a).1 ha) hg
 ·obtain⟨e1,e2,e3⟩:=hp.back r hr hb
  exact⟨e1,by rw[←h1 _ e3];exact e2,(h2 _).2 e3⟩
def capR(most code:Int)(r:Rd):Int×Rd:=((numR r).1,if most<(numR r).1 then Qg2 code (numR r).2 else(numR r).2)
theorem Qg4{most code:Int}(hm:most<2147483648)(hc:code≠0):Jd (capR most code) (fun n=>numS n.toNat) (fun n=>0≤n∧n≤most):=by
 refine⟨fun r hr=> ?_,fun a rest ha hg=> ?_,fun r hr hb=> ?_⟩
 ·unfold capR
  simp only
  split
  ·exact qC (Yx.good _ hr)
  ·exact Yx.good _ hr
 ·simp only[capR];rw[Yx.ok a rest (by omega) hg]
  simp only
  rw[if_neg (by omega)]
 ·simp only[capR]at hb⊢
  by_cases h:most<(numR r).1
  ·rw[if_pos h]at hb;exact absurd hb (Qaz hc _)
  ·rw[if_neg h]at hb⊢
   obtain⟨h1,h2,h3⟩:=Yx.back r hr hb
   exact⟨h1,h2,h3.1,by omega⟩
def Xd{α:Type}(one:Nat→Rd→α×Rd):Nat→Nat→Rd→List α×Rd
 |0,_,r=>([],r)
 |n+1,i,r=>if r.fBad=0 then((one i r).1::(Xd one n (i+1) (one i r).2).1,(Xd one n (i+1) (one i r).2).2)else([],r)
theorem Jd.list{α:Type}{one:Nat→Rd→α×Rd}{W:α→List Int}{Ok:Nat→α→Prop}(h:∀i,Jd (one i) W (Ok i)):∀(n i:Nat),Jd (Xd one n i) (fun l=>(l.map W).flatten) (fun l=>l.length=n∧∀j x,l[j]?=some x→Ok (i+j) x):=by
 intro n
 induction n with
 | zero=>
  intro i
  refine⟨fun r hr=>hr,fun a rest ha hg=> ?_,fun r hr hb=> ?_⟩
  ·have:a= []:=List.length_eq_zero_iff.1 ha.1
   subst this;rfl
  ·exact⟨hb,by simp[Xd],rfl,by simp[Xd]⟩
 | succ n ih=>
  intro i
  refine⟨fun r hr=> ?_,fun a rest ha hg=> ?_,fun r hr hb=> ?_⟩
  ·unfold Xd;split
   ·exact(ih _).good _ ((h i).good _ hr)
   ·exact hr
  ·cases a with
   |nil=>exact absurd ha.1 (by simp)
   |cons x l=>
    simp only[List.map_cons,List.flatten_cons,List.append_assoc]at hg⊢
    have e:=(h i).ok x _ (ha.2 0 x rfl) hg
    simp only[Xd,if_true]
    rw[e]
    simp only
    rw[(ih (i+1)).ok l rest ⟨by have:=ha.1;simp at this;exact this,fun j y hy=>by have:=ha.2 (j+1) y (by simpa using hy);rwa [Nat.add_assoc,Nat.add_comm 1 j]⟩ hg.tail]
  ·unfold Xd at hb⊢
   by_cases h0:r.fBad=0
   ·rw[if_pos h0]at hb⊢
    obtain⟨e1,e2,e3⟩:=(ih (i+1)).back _ ((h i).good _ hr) hb
    obtain⟨e4,e5,e6⟩:=(h i).back _ hr e1
    refine⟨h0,?_,by simp[e3.1],fun j y hy=> ?_⟩
    ·simp only[List.map_cons,List.flatten_cons,List.append_assoc]
     rw[←e2];exact e5
    ·cases j with
     |zero=>simp at hy;subst hy;exact e6
     |succ j=>have:=e3.2 j y (by simpa using hy);rwa [Nat.add_assoc,Nat.add_comm 1 j]at this
   ·rw[if_neg h0]at hb;exact absurd hb h0
theorem Jd.counted{α:Type}{one:Nat→Rd→α×Rd}{W:α→List Int}{Ok:Nat→α→Prop}{most code:Int}(hm:most<2147483648)(hc:code≠0)(h:∀i,Jd (one i) W (Ok i)):
  Jd (mapR Prod.snd (seqR (capR most code) (fun n=>Xd one n.toNat 0))) (fun l=>numS l.length++(l.map W).flatten) (fun l=>(l.length:Int)≤most∧∀j x,l[j]?=some x→Ok j x):=by
 have hs:=(Qg4 hm hc).seq (fun n=>Jd.list h n.toNat 0)
 refine⟨fun r hr=>hs.good r hr,fun a rest ha hg=> ?_,fun r hr hb=> ?_⟩
 ·have:=hs.ok ((a.length:Int),a) rest ⟨⟨by omega,ha.1⟩,rfl,fun j x hx=>by rw[Nat.zero_add];exact ha.2 j x hx⟩ hg
  simp only[mapR]
  simp only[Int.toNat_natCast]at this
  rw[this]
 ·obtain⟨h1,h2,⟨h3,h4⟩,h5,h6⟩:=hs.back r hr hb
  refine⟨h1,?_,?_,fun j x hx=> ?_⟩
  ·simp only[mapR]
   rw[h5];exact h2
  ·simp only[mapR];omega
  ·have:=h6 j x hx;rwa [Nat.zero_add]at this
theorem Qce{α:Type}{L:Nat→(List α×Int×Rd)→Option (List α×Rd)}{one:Nat→Rd→α×Rd}{N:Nat}(hN:N<3000000000)(good:∀i r,Good r→Good (one i r).2)
  (h0:∀k out r,L (k+1) (out,(N:Int),r)=some (out,r))
  (h1:∀k out (i:Nat) r,i<N→r.fBad≠0→L (k+1) (out,(i:Int),r)=some (out,r))
  (h2:∀k out (i:Nat) r,i<N→r.fBad=0→Good r→out.length≤i→L (k+1) (out,(i:Int),r)=L k (out++ [(one i r).1],((i+1:Nat):Int),(one i r).2)):
  ∀(n i:Nat) (out:List α) (r:Rd) (k:Nat),i+n=N→n<k→Good r→out.length≤i→L k (out,(i:Int),r)=some (out++(Xd one n i r).1,(Xd one n i r).2):=by
 intro n
 induction n with
 |zero=>
  intro i out r k hi hk hr ho
  obtain⟨k,rfl⟩:∃j,k=j+1:=⟨k-1,by omega⟩
  have:i=N:=by omega
  subst this
  rw[h0];simp[Xd]
 | succ n ih=>
  intro i out r k hi hk hr ho
  obtain⟨k,rfl⟩:∃j,k=j+1:=⟨k-1,by omega⟩
  unfold Xd
  by_cases hb:r.fBad=0
  ·rw[if_pos hb,h2 k out i r (by omega) hb hr ho,ih (i+1) _ _ k (by omega) (by omega) (good i r hr) (by simp;omega)]
   simp
  ·rw[if_neg hb,h1 k out i r (by omega) hb];simp
end Go.Proofs.YtomndohdnfebgaaGreatDoor
namespace Go.Proofs.YtomndohdnfebgaaGreatDoor
open Go Go.Sep
abbrev Rc:=Qm
abbrev Sp:=Qr
abbrev zRc:Rc:=Qu
abbrev H32:=Vector Int 32
theorem QfO{α:Type}{L:Nat→(List Int×Int)→Option (List Int)}(l:List α)(p:α→List Int)(s:List Int){k:Nat}(hk:l.length<k)
  (h0:∀k s,L (k+1) (s,(l.length:Int))=some s)
  (h1:∀k s (i:Nat) x,i<l.length→getI l (i:Int)=some x→x∈l→s.length+(p x).length<1000000000000→L (k+1) (s,(i:Int))=L k (s++p x,((i+1:Nat):Int)))
  (hn:s.length+(l.map p).flatten.length<1000000000000):L k (s,0)=some (s++(l.map p).flatten):=by
 have key:∀(m:List α) (i:Nat) (s:List Int) (k:Nat),l.drop i=m→i≤l.length→m.length<k→s.length+(m.map p).flatten.length<1000000000000→L k (s,(i:Int))=some (s++(m.map p).flatten):=by
  intro m
  induction m with
  | nil=>
   intro i s k hm hi hk hn
   obtain⟨k,rfl⟩:∃j,k=j+1:=⟨k-1,by simp at hk;omega⟩
   have:i=l.length:=by
    have:=congrArg List.length hm
    simp at this;omega
   subst this
   rw[h0];simp
  | cons x m ih=>
   intro i s k hm hi hk hn
   obtain⟨k,rfl⟩:∃j,k=j+1:=⟨k-1,by simp at hk;omega⟩
   have hlt:i<l.length:=by
    have:=congrArg List.length hm
    simp at this;omega
   have hx:l[i]?=some x:=by
    have:=congrArg (fun(l:List α)=>l[0]?) hm
    simpa using this
   have hd:l.drop (i+1)=m:=by rw[←List.drop_drop,hm];rfl
   simp only[List.map_cons,List.flatten_cons,List.length_append]at hn⊢
   rw[h1 k s i x hlt (Js hx) (List.mem_of_getElem? hx) (by omega),ih (i+1) _ k hd (by omega) (by simp at hk;omega) (by rw[List.length_append];omega)]
   simp
 exact key l 0 s k rfl (by omega) hk hn
def numW(n:Int):List Int:=numS n.toNat
theorem Qvp{K:Nat}(hK:1000000000000≤K){n:Int}(h:0≤n∧n<2147483648):qI.f K n=some (numW n):=by
 have:=QwU (K:=K) (n:=n.toNat) hK (by omega)
 rw[Int.toNat_of_nonneg h.1]at this
 exact this
theorem YY{n:Int}(h:0≤n∧n<2147483648):(numW n).length≤5∧0<(numW n).length:=Qcw (by omega)
theorem QeE{K:Nat}(hK:1000000000000≤K){l:List Int}(hl:l.length<1000)(h:∀n∈l,0≤n∧n<2147483648):qJ.f K l=some (l.map numW).flatten:=by
 unfold qJ.f
 have hlen:∀(l:List Int),(∀n∈l,0≤n∧n<2147483648)→(l.map numW).flatten.length≤5*l.length:=by
  intro l
  induction l with
  |nil=>intro _;simp
  |cons a l ih=>
   intro h
   have h1:=ih (fun n hn=>h n (by simp[hn]))
   have h2:=YY (h a (by simp))
   simp only[List.map_cons,List.flatten_cons,List.length_append,List.length_cons]
   omega
 have hl2:=hlen l h
 have:=QfO (L:=Jg.l K l) l numW [] (k:=K) (by omega)
  (fun k s=>by
   show Jg.b K l (Jg.l K l k) _=_
   unfold Jg.b
   rw[Qi (QP (by simp))])
  (fun k s i x hi hx hm hs=>by
   show Jg.b K l (Jg.l K l k) _=_
   unfold Jg.b
   rw[Qj (QS (by simp;omega))]
   simp only
   rw[hx]
   simp only[Qb]
   rw[Qvp hK (h x hm)]
   simp only[Qb]
   rw[Y4 (by omega)]
   simp only[Qb]
   rw[wrap_succ (by omega)])
  (by simp only[List.length_nil];omega)
 rw[this]
 rfl
def inn(n lo hi:Int):Bool:=decide (lo≤n)&&decide (n≤hi)
theorem qU{n lo hi:Int}:inn n lo hi=true↔lo≤n∧n≤hi:=by simp[inn]
theorem Qg5{K:Nat}(a b c:Int):Jy.f K a b c=some (inn a b c):=by
 unfold Jy.f inn
 cases decide (b≤a)<;>rfl
def Zn(s:Sp):Bool:=inn s.fPart 0 3&&inn s.fKind 1 3
theorem step_bad{K:Nat}(s:Sp):ZF.f K s=some (!Zn s):=by
 unfold ZF.f Zn
 rw[Qg5,Qg5]
 simp only[Qb]
 cases inn s.fPart 0 3<;>rfl
theorem QqX{K:Nat}{l:List Sp}(hK:l.length<K)(hl:l.length<1000000000000):YD.f K l=some (!l.all Zn):=by
 unfold YD.f Jf.f
 have hL:=Qdi (L:=QC.l K l) (fun(_:Unit) (i:Nat)=>(i:Int)) l (fun _ i x=>some (bif Zn x then .inr ()else .inl (.inl ((i:Nat):Int)))) (fun _=>some (.inr ())) () hK
  (fun k s=>by
   show QC.b K l (QC.l K l k) _=_
   unfold QC.b
   rw[Qi (QP (by simp))])
  (fun k s i x hi hx=>by
   show QC.b K l (QC.l K l k) _=_
   unfold QC.b
   rw[Qj (QS (by omega)),Js hx]
   simp only[Qb]
   rw[step_bad]
   simp only[Qb]
   rw[wrap_succ (by omega)]
   cases Zn x<;>rfl)
 have hL:QC.l K l K 0=_:=hL
 obtain⟨r1,r2⟩:=QfC (good:=Zn) (v:=fun i=>((i:Nat):Int)) (l:=l) (s:=()) (i:=0) (f:=fun _ i x=>some (bif Zn x then .inr ()else .inl (.inl ((i:Nat):Int)))) (fun s i x _=>rfl)
 cases hg:l.all Zn with
 |true=>rw[hL,r1 hg];rfl
 |false=>
  obtain⟨j,_,_,hj⟩:=r2 hg
  rw[hL,hj]
  simp only[Qb,Bool.not_false]
  rw[QS (by omega)]
def Qc5(x:Rc):Bool:=
 inn x.fSaga 0 11&&(inn x.fPart 0 3&&(inn x.fEpoch 0 400&&
  (bif decide (x.fKind=1)then inn (x.fSteps.length:Int) 1 6&&(x.fSteps.all Zn&&decide ((x.fData.length:Int)≤60))
   else bif decide (x.fKind=2)||(decide (x.fKind=4)||decide (x.fKind=3))then inn x.fSeq 1 400&&(inn x.fStep 0 5&&inn x.fTry 1 9)
   else bif decide (x.fKind=5)then inn x.fSeq 1 400&&inn x.fEnd 2 4
   else decide (x.fKind=6)&&decide (1≤x.fEpoch))))
theorem QqY{K:Nat}{x:Rc}(hK:x.fSteps.length<K)(hl:x.fSteps.length<1000000000000):Qcm.f K x=some (Qc5 x):=by
 unfold Qcm.f Qc5
 simp only[jn,Qg5,QqX hK hl,Qb]
 cases inn x.fSaga 0 11
 ·rfl
 cases inn x.fPart 0 3
 ·rfl
 cases inn x.fEpoch 0 400
 ·rfl
 cases decide (x.fKind=1)
 ·cases decide (x.fKind=2)
  ·cases decide (x.fKind=4)
   ·cases decide (x.fKind=3)
    ·cases decide (x.fKind=5)
     ·cases decide (x.fKind=6)<;>rfl
     ·cases inn x.fSeq 1 400<;>rfl
    ·cases inn x.fSeq 1 400
     ·rfl
     ·cases inn x.fStep 0 5<;>rfl
   ·cases inn x.fSeq 1 400
    ·rfl
    ·cases inn x.fStep 0 5<;>rfl
  ·cases inn x.fSeq 1 400
   ·rfl
   ·cases inn x.fStep 0 5<;>rfl
 ·cases inn (x.fSteps.length:Int) 1 6
  ·rfl
  cases x.fSteps.all Zn<;>rfl
def Qfu(x:Rc):Rc:=
 if x.fKind=1 then
  (bif x.fGone then{zRc with fKind:=x.fKind,fSaga:=x.fSaga,fSteps:=x.fSteps,fGone:=x.fGone,fCom:=x.fCom}
   else{zRc with fKind:=x.fKind,fSaga:=x.fSaga,fSteps:=x.fSteps,fGone:=x.fGone,fData:=x.fData,fSalt:=x.fSalt})
 else if x.fKind=3 then{zRc with fKind:=x.fKind,fGood:=x.fGood,fPart:=x.fPart,fEpoch:=x.fEpoch,fTag:=x.fTag,fSaga:=x.fSaga,fSeq:=x.fSeq,fStep:=x.fStep,fTry:=x.fTry,fBack:=x.fBack}
 else if x.fKind=2∨x.fKind=4 then{zRc with fKind:=x.fKind,fSaga:=x.fSaga,fSeq:=x.fSeq,fStep:=x.fStep,fTry:=x.fTry,fBack:=x.fBack}
 else if x.fKind=5 then{zRc with fKind:=x.fKind,fSaga:=x.fSaga,fSeq:=x.fSeq,fEnd:=x.fEnd}
 else if x.fKind=6 then{zRc with fKind:=x.fKind,fPart:=x.fPart,fEpoch:=x.fEpoch}
 else{zRc with fKind:=x.fKind}
theorem Qvq{K:Nat}(x:Rc):QfE.f K x=some (Qfu x):=by
 unfold QfE.f Qfu
 simp only[jn,Qb]
 by_cases h1:x.fKind=1
 ·rw[Qj (QS h1),if_pos h1]
  cases x.fGone<;>rfl
 rw[Qi (QP h1),if_neg h1]
 by_cases h3:x.fKind=3
 ·rw[Qj (QS h3),if_pos h3]
 rw[Qi (QP h3),if_neg h3]
 by_cases h2:x.fKind=2
 ·rw[QS h2];simp only[Qg];rw[if_pos (.inl h2)]
 rw[Qi (QP h2)]
 by_cases h4:x.fKind=4
 ·rw[QS h4];simp only[Qg];rw[if_pos (.inr h4)]
 rw[Qi (QP h4),if_neg (by simp[h2,h4])]
 by_cases h5:x.fKind=5
 ·rw[Qj (QS h5),if_pos h5]
 rw[Qi (QP h5),if_neg h5]
 by_cases h6:x.fKind=6
 ·rw[Qj (QS h6),if_pos h6]
 rw[Qi (QP h6),if_neg h6]
theorem QoD{K:Nat}{l m:List Sp}(hK:l.length<K)(hl:l.length<1000000000000):Y5.f K l m=some (decide (l=m)):=by
 unfold Y5.f
 by_cases hlm:l.length=m.length
 ·rw [Qi (by simp[hlm])]
  have hz:(l.zip m).length=l.length:=by simp[hlm]
  have hL:=Qdi (L:=QM.l K l m) (fun(_:Unit) (i:Nat)=>(i:Int)) (l.zip m) (fun _ i x=>some (bif decide (x.1=x.2)then .inr ()else .inl (.inl false))) (fun _=>some (.inr ())) () (by rw[hz];exact hK)
   (fun k s=>by
    show QM.b K l m (QM.l K l m k) _=_
    unfold QM.b
    rw[Qi (QP (by rw[hz];simp))])
   (fun k s i x hi hx=>by
    obtain⟨hx1,hx2⟩:=QuE hx
    show QM.b K l m (QM.l K l m k) _=_
    unfold QM.b
    rw[Qj (QS (by omega)),Js hx1,Js hx2]
    simp only[Qb]
    rw[wrap_succ (by omega)]
    have:(decide (x.1.fPart=x.2.fPart)&&(decide (x.1.fKind=x.2.fKind)&&true))=decide (x.1=x.2):=by
     rw[Bool.eq_iff_iff]
     obtain⟨⟨a,b⟩,⟨c,d⟩⟩:=x
     simp
    rw[this]
    cases decide (x.1=x.2)<;>rfl)
  have hL:QM.l K l m K 0=_:=hL
  obtain⟨r1,r2⟩:=QfC (good:=fun(x:Sp×Sp)=>decide (x.1=x.2)) (v:=fun _=>false) (l:=l.zip m) (s:=()) (i:=0) (f:=fun _ i x=>some (bif decide (x.1=x.2)then .inr ()else .inl (.inl false))) (fun s i x _=>rfl)
  rw[Qn3 hlm]at r1 r2
  cases hg:decide (l=m)with
  |true=>rw[hL,r1 hg];rfl
  |false=>
   obtain⟨j,_,_,hj⟩:=r2 hg
   rw[hL,hj];rfl
 ·rw[Qj (by simp;omega),QP (fun e=>hlm (by rw[e]))]
theorem Qih{K:Nat}{l m:List Int}(hl:isB l)(hm:isB m):bytes_Equal.f K l m=some (decide (l=m)):=by
 unfold bytes_Equal.f
 rw[Qf9,Qf9]
 congr 1
 rw[Bool.eq_iff_iff]
 simp only[beq_iff_eq,decide_eq_true_eq]
 exact⟨fun h=>QuD hl hm h,fun h=>by rw[h]⟩
def okD(x:Rc):Prop:=isB x.fData∧x.fData.length<1000000000∧x.fSteps.length<1000000000
theorem QsT{K:Nat}(hK:1000000000000≤K){a b:Rc}(ha:okD a)(hb:okD b):QfG.f K a b=some (decide (a=b)):=by
 unfold QfG.f QfF.f
 simp only[jn,Qb]
 rw[QoD (by have:=ha.2.2;omega) (by have:=ha.2.2;omega),Qih ha.1 hb.1]
 simp only[Qb]
 obtain⟨a1,a2,a3,a4,a5,a6,a7,a8,a9,a10,a11,a12,a13,a14,a15,a16⟩:=a
 obtain⟨b1,b2,b3,b4,b5,b6,b7,b8,b9,b10,b11,b12,b13,b14,b15,b16⟩:=b
 simp only
 rw[Bool.and_true]
 by_cases h12:a12=b12
 ·subst h12
  rw[Qi (by simp)]
  by_cases h13:a13=b13
  ·subst h13
   rw[Qi (by simp)]
   by_cases h11:a11=b11
   ·subst h11
    by_cases h14:a14=b14
    ·subst h14
     simp only[decide_true,Qg]
     rw[cond_eq_ite]
     split
     ·rename_i h
      simp only[Qd,decide_eq_true_eq,beq_iff_eq]at h
      congr 1
      rw[Bool.eq_iff_iff]
      simp only[decide_eq_true_eq,Qm.mk.injEq,true_and]
      simp only[h,true_and]
     ·rename_i h
      congr 1
      symm
      apply QP
      intro he
      simp only[Qm.mk.injEq]at he
      apply h
      simp[he]
    ·rw[QP h14]
     have: ¬(Qm.mk a1 a2 a3 a4 a5 a6 a7 a8 a9 a10 a11 a12 a13 a14 a15 a16=Qm.mk b1 b2 b3 b4 b5 b6 b7 b8 b9 b10 a11 a12 a13 b14 b15 b16):=fun e=>h14 (by simp only[Qm.mk.injEq]at e;exact e.2.2.2.2.2.2.2.2.2.2.2.2.2.1)
     rw[QP this]
     simp
   ·rw[QP h11]
    have: ¬(Qm.mk a1 a2 a3 a4 a5 a6 a7 a8 a9 a10 a11 a12 a13 a14 a15 a16=Qm.mk b1 b2 b3 b4 b5 b6 b7 b8 b9 b10 b11 a12 a13 b14 b15 b16):=fun e=>h11 (by simp only[Qm.mk.injEq]at e;exact e.2.2.2.2.2.2.2.2.2.2.1)
    rw[QP this]
    simp
  ·rw[Qj (by simp[h13])]
   exact congrArg some (QP (fun e=>h13 (by simp only[Qm.mk.injEq]at e;exact e.2.2.2.2.2.2.2.2.2.2.2.2.1))).symm
 ·rw[Qj (by simp[h12])]
  exact congrArg some (QP (fun e=>h12 (by simp only[Qm.mk.injEq]at e;exact e.2.2.2.2.2.2.2.2.2.2.2.1))).symm
def YM(x:Rc):Bool:=Qc5 x&&decide (x=Qfu x)
theorem QsU{x:Rc}(h:okD x):okD (Qfu x):=by
 unfold Qfu okD
 split
 ·cases x.fGone
  ·exact h
  ·exact⟨qh,by simp,h.2.2⟩
 all_goals (repeat' split)
 all_goals exact⟨qh,by simp,by simp⟩
theorem right_eq{K:Nat}(hK:1000000000000≤K){x:Rc}(h:okD x):qj.f K x=some (YM x):=by
 unfold qj.f YM
 rw[QqY (by have:=h.2.2;omega) (by have:=h.2.2;omega)]
 simp only[Qb]
 cases Qc5 x
 ·rfl
 ·rw[Qvq]
  simp only[Qb,Qg]
  rw[QsT hK h (QsU h)]
  rfl
end Go.Proofs.YtomndohdnfebgaaGreatDoor
namespace Go.Proofs.YtomndohdnfebgaaGreatDoor
open Go Go.Sep
abbrev Qvr:=Int×Int×Int×Int×Bool
def Qjx(x:Rc):List Int:=numW x.fSaga++(numW x.fSeq++(numW x.fStep++(numW x.fTry++ [Qbw x.fBack])))
def stepW(s:Sp):List Int:=numW s.fPart++numW s.fKind
def QdX(l:List Sp):List Int:=numS l.length++(l.map stepW).flatten
def QwV(x:Rc):List Int:= [Qbw x.fGone]++(bif x.fGone then Yg x.fCom else Yg x.fSalt++(numS x.fData.length++x.fData))
def QaC(k:Int)(x:Rc):List Int:=
 if k=1 then numW x.fSaga++(QdX x.fSteps++QwV x)
 else if k=2∨k=4 then Qjx x
 else if k=3 then Qjx x++([Qbw x.fGood]++(numW x.fPart++(numW x.fEpoch++Yg x.fTag)))
 else if k=5 then numW x.fSaga++(numW x.fSeq++numW x.fEnd)
 else numW x.fPart++numW x.fEpoch
def QqZ(x:Rc):List Int:=numW x.fKind++QaC x.fKind x
abbrev inN(n:Int):Prop:=0≤n∧n<2147483648
theorem Qg6{n lo hi:Int}(h:inn n lo hi=true)(hl:0≤lo)(hh:hi<2147483648):inN n:=by
 have:=qU.1 h;omega
structure QwW(x:Rc):Prop where
 kind:x.fKind=1∨x.fKind=2∨x.fKind=3∨x.fKind=4∨x.fKind=5∨x.fKind=6
 saga:inN x.fSaga
 part:inN x.fPart
 epoch:inN x.fEpoch
 beg:x.fKind=1→inn (x.fSteps.length:Int) 1 6=true∧x.fSteps.all Zn=true∧(x.fData.length:Int)≤60
 call:x.fKind=2∨x.fKind=4∨x.fKind=3→inN x.fSeq∧inN x.fStep∧inN x.fTry
 clo:x.fKind=5→inN x.fSeq∧inN x.fEnd
 kept:x=Qfu x
theorem QcN{x:Rc}(h:YM x=true):QwW x:=by
 unfold YM Qc5 at h
 simp only[Qd]at h
 obtain⟨⟨h1,h2,h3,h4⟩,h5⟩:=h
 have h5:=of_decide_eq_true h5
 refine⟨?_,Qg6 h1 (by omega) (by omega),Qg6 h2 (by omega) (by omega),Qg6 h3 (by omega) (by omega),?_,?_,?_,h5⟩
 ·by_cases k1:x.fKind=1
  ·exact .inl k1
  rw[Qi (QP k1)]at h4
  by_cases k2:x.fKind=2
  ·exact .inr (.inl k2)
  by_cases k4:x.fKind=4
  ·simp[k4]
  by_cases k3:x.fKind=3
  ·simp[k3]
  rw[Qi (by simp[k2,k3,k4])]at h4
  by_cases k5:x.fKind=5
  ·simp[k5]
  rw[Qi (QP k5)]at h4
  simp at h4
  simp[h4.1]
 ·intro k
  rw[Qj (QS k)]at h4
  simp only[Qd,decide_eq_true_eq]at h4
  exact h4
 ·intro k
  rw[Qi (QP (by omega)),Qj (by rcases k with k|k|k<;>simp[k])]at h4
  simp only[Qd]at h4
  exact⟨Qg6 h4.1 (by omega) (by omega),Qg6 h4.2.1 (by omega) (by omega),Qg6 h4.2.2 (by omega) (by omega)⟩
 ·intro k
  rw[Qi (QP (by omega)),Qi (by simp[k]),Qj (QS k)]at h4
  simp only[Qd]at h4
  exact⟨Qg6 h4.1 (by omega) (by omega),Qg6 h4.2 (by omega) (by omega)⟩
theorem Qq0{s:Sp}(h:Zn s=true):inN s.fPart∧inN s.fKind:=by
 unfold Zn at h
 simp only[Qd]at h
 exact⟨Qg6 h.1 (by omega) (by omega),Qg6 h.2 (by omega) (by omega)⟩
theorem Qjy{α β:Type}{p:α→List β}{c:Nat}:∀{l:List α},(∀x∈l,(p x).length≤c)→(l.map p).flatten.length≤c*l.length:=by
 intro l
 induction l with
 |nil=>intro _;simp
 |cons a l ih=>
  intro h
  have h1:=ih (fun x hx=>h x (by simp[hx]))
  have h2:=h a (by simp)
  simp only[List.map_cons,List.flatten_cons,List.length_append,List.length_cons,Nat.mul_add]
  omega
theorem Qcx{l:List Sp}(h:l.all Zn=true)(hl:l.length≤6):(QdX l).length≤65:=by
 unfold QdX
 have h1:=Qcw (n:=l.length) (by omega)
 have h2:(l.map stepW).flatten.length≤10*l.length:=Qjy (fun s hs=>by
  have:=Qq0 (List.all_eq_true.1 h s hs)
  have h3:=YY this.1
  have h4:=YY this.2
  simp only[stepW,List.length_append];omega)
 simp only[List.length_append];omega
theorem Qk1{x:Rc}(h:YM x=true):(QaC x.fKind x).length≤300:=by
 have hd:=QcN h
 have h1:=YY hd.saga
 have h2:=YY hd.part
 have h3:=YY hd.epoch
 unfold QaC
 rcases hd.kind with k|k|k|k|k|k
 ·obtain⟨b1,b2,b3⟩:=hd.beg k
  have b1:=qU.1 b1
  have h4:=Qcx b2 (by omega)
  have h5:=Qcw (n:=x.fData.length) (by omega)
  simp only[k,if_true,QwV,List.length_append]
  cases x.fGone<;>simp[Q8]<;>omega
 ·have h4:=hd.call (.inl k)
  have h5:=YY h4.1
  have h6:=YY h4.2.1
  have h7:=YY h4.2.2
  simp[k,Qjx];omega
 ·have h4:=hd.call (.inr (.inr k))
  have h5:=YY h4.1
  have h6:=YY h4.2.1
  have h7:=YY h4.2.2
  simp[k,Qjx,Q8];omega
 ·have h4:=hd.call (.inr (.inl k))
  have h5:=YY h4.1
  have h6:=YY h4.2.1
  have h7:=YY h4.2.2
  simp[k,Qjx];omega
 ·have h4:=hd.clo k
  have h5:=YY h4.1
  have h6:=YY h4.2
  simp[k];omega
 ·simp[k];omega
theorem Qnu{x:Rc}(h:YM x=true):inN x.fKind:=by
 have:=(QcN h).kind;omega
theorem QsV{K:Nat}(hK:1000000000000≤K){x:Rc}(hs:inN x.fSaga)(h1:x.fSteps.length≤6)(h2:x.fSteps.all Zn=true):QbG.f K x=some (numW x.fSaga++QdX x.fSteps):=by
 unfold QbG.f
 rw[QeE hK (by simp) (by intro n hn;simp at hn;rcases hn with rfl|rfl;exact hs;omega)]
 simp only[Qb]
 have hw:=YY hs
 have hn:=Qcw (n:=x.fSteps.length) (by omega)
 have hl:=Qcx h2 h1
 simp only[QdX,List.length_append]at hl
 have:=QfO (L:=JI.l K x) x.fSteps stepW (([x.fSaga,((x.fSteps.length:Nat):Int)].map numW).flatten) (k:=K) (by omega)
  (fun k s=>by
   show JI.b K x (JI.l K x k) _=_
   unfold JI.b
   rw[Qi (QP (by simp))])
  (fun k s i y hi hx hm hs=>by
   show JI.b K x (JI.l K x k) _=_
   unfold JI.b
   rw[Qj (QS (by simp;omega))]
   simp only
   rw[hx]
   simp only[Qb]
   have hy:=Qq0 (List.all_eq_true.1 h2 y hm)
   rw[QeE hK (by simp) (by intro n hn;simp at hn;rcases hn with rfl|rfl;exact hy.1;exact hy.2)]
   simp only[Qb]
   have e:([y.fPart,y.fKind].map numW).flatten=stepW y:=by simp[stepW]
   rw[e,Y4 (by omega)]
   simp only[Qb]
   rw[wrap_succ (by omega)])
  (by simp[numW]at*;omega)
 rw[this]
 simp[QdX,numW]
theorem Qmt{K:Nat}(hK:1000000000000≤K){x:Rc}(h1:inN x.fSaga)(h2:inN x.fSeq)(h3:inN x.fStep)(h4:inN x.fTry):ZG.f K x=some (Qjx x):=by
 unfold ZG.f
 rw[QeE hK (by simp) (by intro n hn;simp at hn;rcases hn with rfl|rfl|rfl|rfl<;>assumption)]
 simp only[Qb]
 rw[QqP]
 simp only[Qb]
 have w1:=YY h1
 have w2:=YY h2
 have w3:=YY h3
 have w4:=YY h4
 rw[QcM hK (by simp;omega) (by simp)]
 simp[Qjx]
end Go.Proofs.YtomndohdnfebgaaGreatDoor
