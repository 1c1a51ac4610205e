/-
 Plain: AuditSmall.
-/
import Derived.Test.YtomndohdnfebgaaGreatDoorPureAu
import Derived.Test.YtomndohdnfebgaaGreatDoorTgDef
namespace Go.Proofs.YtomndohdnfebgaaGreatDoor
open Go Go.Sep
theorem Qu1{K:Nat}(hK:K=1000000000000):jf.f K=some true:=by
 subst hK
 kernel_rfl
end Go.Proofs.YtomndohdnfebgaaGreatDoor
namespace Go.Proofs.YtomndohdnfebgaaGreatDoor
open Go Go.Sep
structure PreR{α:Type}(p:Rd→α×Rd):Prop where
 stay:∀r,r.fBad≠0→(p r).2=r
 pre:∀a c,(p ⟨a++c,0⟩).2.fBad=0→(∃a',p ⟨a,0⟩=((p ⟨a++c,0⟩).1,⟨a',0⟩)∧(p ⟨a++c,0⟩).2=⟨a'++c,0⟩)∨(p ⟨a,0⟩).2.fBad=3
theorem QaA{e:Int}{r:Rd}(h:r.fBad≠0):QcW e r=r:=by unfold QcW;rw[if_neg h]
theorem Qtt(c:List Int):∀(a:List Int) (x:Int) (i:Nat) (n k:Int),pN x i (a++c)=(n,k,0)→(pN x i a=(n,k,0)∧∃j:Nat,k=((i+j:Nat):Int)∧j≤a.length)∨(pN x i a).2.2=3:=by
 intro a
 induction a with
 |nil=>intro x i n k _;exact .inr rfl
 | cons y a ih=>
  intro x i n k h
  rw[List.cons_append]at h
  unfold pN at h⊢
  by_cases h1:(i=0∧y=128)∨i=5
  ·rw[if_pos h1]at h;simp at h
  rw[if_neg h1]at h⊢
  by_cases h2:y<128
  ·rw[if_pos h2]at h⊢
   by_cases h3:2147483647<x*128+y
   ·rw[if_pos h3]at h;simp at h
   ·rw[if_neg h3]at h⊢
    simp only[Qe,and_true]at h
    exact .inl ⟨by rw[h.1,h.2],1,h.2.symm,by simp⟩
  ·rw[if_neg h2]at h⊢
   rcases ih _ _ _ _ h with⟨e,j,h4,h5⟩|e
   ·exact .inl ⟨e,j+1,by rw[h4];congr 1;omega,by simp;omega⟩
   ·exact .inr e
theorem JB:PreR numR:=by
 refine⟨fun r h=>by unfold numR;rw[if_neg h],fun a c h=> ?_⟩
 unfold numR at h⊢
 simp only[if_true]at h⊢
 obtain⟨n,k,e,he⟩:∃n k e,pN 0 0 (a++c)=(n,k,e):=⟨_,_,_,rfl⟩
 rw[he]at h⊢
 simp only at h⊢
 by_cases h0:e=0
 ·subst h0
  simp only[if_true]
  rcases Qtt c a 0 0 n k he with⟨e1,j,h1,h2⟩|e1
  ·rw[e1]
   simp only[if_true]
   refine .inl ⟨_,rfl,?_⟩
   rw[h1]
   simp only[Nat.zero_add,Int.toNat_natCast]
   rw[List.drop_append_of_le_length h2]
  ·exact .inr (by rw[e1];rfl)
 ·rw[if_neg h0]at h
  exact absurd h h0
theorem QdR:PreR Zy:=by
 refine⟨fun r h=>by unfold Zy;rw[if_neg h],fun a c h=> ?_⟩
 unfold Zy at h⊢
 simp only[if_true]at h⊢
 cases a with
 |nil=>exact .inr rfl
 | cons y a=>
  simp only[List.cons_append]at h⊢
  by_cases h1:1<y
  ·rw[if_pos h1]at h;simp at h
  ·rw[if_neg h1,if_neg h1]
   exact .inl ⟨_,rfl,rfl⟩
theorem QaB:PreR Qaz:=by
 refine⟨fun r h=>by unfold Qaz;rw[if_neg h],fun a c h=> ?_⟩
 unfold Qaz at h⊢
 simp only[if_true]at h⊢
 by_cases h1:a.length<32
 ·exact .inr (by rw[if_pos h1])
 ·rw[if_neg h1,if_neg (by simp;omega)]
  refine .inl ⟨_,?_,by rw[List.drop_append_of_le_length (by omega)]⟩
  rw[List.take_append_of_le_length (by omega)]
theorem Qon(most:Int):PreR (yU most):=by
 refine⟨fun r h=>by unfold yU;rw[if_neg h],fun a c h=> ?_⟩
 unfold yU at h⊢
 simp only[if_true]at h⊢
 obtain⟨n,k,e,he⟩:∃n k e,pN 0 0 (a++c)=(n,k,e):=⟨_,_,_,rfl⟩
 rw[he]at h⊢
 simp only at h⊢
 by_cases h0:e=0
 ·subst h0
  have hz: ¬((0:Int)≠0):=by simp
  simp only[if_neg hz]at h⊢
  by_cases h1:most<n
  ·rw[if_pos h1]at h;simp at h
  simp only[if_neg h1]at h⊢
  by_cases h2:((a++c).length:Int)-k<n
  ·rw[if_pos h2]at h;simp at h
  simp only[if_neg h2]at h⊢
  rcases Qtt c a 0 0 n k he with⟨e1,j,h3,h4⟩|e1
  ·rw[e1]
   simp only[if_neg hz,if_neg h1]
   by_cases h5:(a.length:Int)-k<n
   ·exact .inr (by rw[if_pos h5])
   ·simp only[if_neg h5]
    rw[Nat.zero_add]at h3
    have hj:k.toNat=j:=by omega
    have hn:j+n.toNat≤a.length:=by omega
    refine .inl ⟨_,?_,by rw[hj,List.drop_append_of_le_length hn]⟩
    rw[hj,List.drop_append_of_le_length h4,List.take_append_of_le_length (by simp;omega)]
  ·exact .inr (by rw[if_pos (by rw[e1];omega)];exact e1)
 ·rw[if_pos h0]at h
  exact absurd h h0
theorem PreR.seq{α β:Type}{p:Rd→α×Rd}{q:α→Rd→β×Rd}(hp:PreR p)(hq:∀a,PreR (q a)):PreR (seqR p q):=by
 refine⟨fun r h=> ?_,fun a c h=> ?_⟩
 ·show(q (p r).1 (p r).2).2=r
  rw[hp.stay r h,(hq _).stay r h]
 ·have h:(q (p ⟨a++c,0⟩).1 (p ⟨a++c,0⟩).2).2.fBad=0:=h
  have h0:(p ⟨a++c,0⟩).2.fBad=0:=by
   by_cases h1:(p ⟨a++c,0⟩).2.fBad=0
   ·exact h1
   ·rw[(hq _).stay _ h1]at h;exact h
  rcases hp.pre a c h0 with⟨a',e1,e2⟩|e1
  ·rw[e2]at h
   rcases (hq _).pre a' c h with⟨a2,e3,e4⟩|e3
   ·refine .inl ⟨a2,?_,?_⟩
    ·simp only[seqR]
     rw[e1,e2]
     simp only
     rw[e3]
    ·simp only[seqR]
     rw[e2]
     exact e4
   ·refine .inr ?_
    simp only[seqR]
    rw[e1]
    exact e3
  ·refine .inr ?_
   simp only[seqR]
   rw[(hq _).stay _ (by rw[e1];omega)]
   exact e1
theorem PreR.map{α β:Type}{e:α→β}{p:Rd→α×Rd}(hp:PreR p):PreR (mapR e p):=by
 refine⟨fun r h=>hp.stay r h,fun a c h=> ?_⟩
 rcases hp.pre a c h with⟨a',e1,e2⟩|e1
 ·exact .inl ⟨a',by simp only[mapR];rw[e1],e2⟩
 ·exact .inr e1
theorem QsK{α:Type}(v:α){e:Int}(he:e≠0):PreR (fun r=>(v,QcW e r)):=
 ⟨fun _ h=>QaA h,fun _ _ h=>absurd h (jM he _)⟩
theorem Qm8{most code:Int}(hc:code≠0):PreR (capR most code):=by
 refine⟨fun r h=> ?_,fun a c h=> ?_⟩
 ·unfold capR
  simp only
  rw[JB.stay r h,QaA h]
  simp
 ·unfold capR at h⊢
  simp only at h⊢
  by_cases h1:most<(numR ⟨a++c,0⟩).1
  ·rw[if_pos h1]at h
   exact absurd h (jM hc _)
  rw[if_neg h1]at h⊢
  rcases JB.pre a c h with⟨a',e1,e2⟩|e1
  ·refine .inl ⟨a',?_,e2⟩
   rw[e1]
   simp only
   rw[if_neg h1]
  ·refine .inr ?_
   split
   ·rw[QaA (by rw[e1];omega)];exact e1
   ·exact e1
theorem PreR.list{α:Type}{one:Nat→Rd→α×Rd}(h1:∀i,PreR (one i)):∀(n i:Nat),PreR (jV one n i):=by
 intro n
 induction n with
 |zero=>exact fun i=>⟨fun r _=>rfl,fun a c _=> .inl ⟨a,rfl,rfl⟩⟩
 | succ n ih=>
  intro i
  refine⟨fun r h=>by unfold jV;rw[if_neg h],fun a c h=> ?_⟩
  unfold jV at h⊢
  simp only[if_true]at h⊢
  have h0:(one i ⟨a++c,0⟩).2.fBad=0:=by
   by_cases h2:(one i ⟨a++c,0⟩).2.fBad=0
   ·exact h2
   ·rw[(ih _).stay _ h2]at h;exact h
  rcases (h1 i).pre a c h0 with⟨a',e1,e2⟩|e1
  ·rw[e2]at h⊢
   rw[e1]
   simp only
   rcases (ih (i+1)).pre a' c h with⟨a2,e3,e4⟩|e3
   ·exact .inl ⟨a2,by rw[e3],e4⟩
   ·exact .inr e3
  ·refine .inr ?_
   rw[(ih (i+1)).stay _ (by rw[e1];omega)]
   exact e1
theorem QfC{α:Type}{most code:Int}{one:Nat→Rd→α×Rd}(hc:code≠0)(h1:∀i,PreR (one i)):PreR (mapR Prod.snd (seqR (capR most code) (fun n=>jV one n.toNat 0))):=
 ((Qm8 hc).seq (fun _=>PreR.list h1 _ _)).map
theorem Qoo:PreR QeN:=QfC (by omega) (fun _=>(JB.seq (fun _=>JB)).map)
theorem Qq8:∀g,PreR (Ql6 g)
 |true=>by unfold Ql6;exact QaB.map
 |false=>by unfold Ql6;exact(QaB.seq (fun _=>Qon 60)).map
theorem QkX:PreR callR:=JB.seq (fun _=>JB.seq (fun _=>JB.seq (fun _=>JB.seq (fun _=>QdR))))
theorem Qq9(k:Int):PreR (jW k):=by
 unfold jW
 by_cases h1:k=1
 ·simp only[h1,if_true]
  exact(JB.seq (fun _=>Qoo.seq (fun _=>QdR.seq Qq8))).map
 simp only[h1,if_false]
 by_cases h2:k=2∨k=4
 ·simp only[h2,if_true]
  exact QkX.map
 simp only[h2,if_false]
 by_cases h3:k=3
 ·simp only[h3,if_true]
  exact(QkX.seq (fun _=>QdR.seq (fun _=>JB.seq (fun _=>JB.seq (fun _=>QaB))))).map
 simp only[h3,if_false]
 by_cases h5:k=5
 ·simp only[h5,if_true]
  exact(JB.seq (fun _=>JB.seq (fun _=>JB))).map
 simp only[h5,if_false]
 by_cases h6:k=6
 ·simp only[h6,if_true]
  exact(JB.seq (fun _=>JB)).map
 simp only[h6,if_false]
 exact QsK _ (by omega)
theorem Qm9:PreR recR:=by
 have hs:=JB.seq Qq9
 have hf:∀(x:Rc) (r:Rd),r.fBad≠0→(finR x r).2=r:=fun x r h=>by
  unfold finR
  simp only
  cases Ja x with
  |true=>simp only[Qg];rw[if_neg h]
  |false=>simp only[Qh];rw[QaA h,if_neg h]
 refine⟨fun r h=> ?_,fun a c h=> ?_⟩
 ·unfold recR
  rw[hs.stay r h]
  exact hf _ _ h
 ·unfold recR at h⊢
  have h0:(seqR numR jW ⟨a++c,0⟩).2.fBad=0:=by
   by_cases h2:(seqR numR jW ⟨a++c,0⟩).2.fBad=0
   ·exact h2
   ·rw[hf _ _ h2]at h;exact h
  rcases hs.pre a c h0 with⟨a',e1,e2⟩|e1
  ·rw[e2]at h⊢
   rw[e1]
   simp only
   generalize (seqR numR jW ⟨a++c,0⟩).1.2=x at h⊢
   unfold finR at h⊢
   simp only at h⊢
   cases hr:Ja x with
   |true=>exact .inl ⟨a',rfl,rfl⟩
   |false=>
    rw[hr]at h
    simp[QcW]at h
  ·refine .inr ?_
   rw[hf _ _ (by rw[e1];omega)]
   exact e1
theorem Qop(w:Bool)(n:Int):PreR (Qbf w n):=by
 cases w with
 |false=>exact QfC (by omega) (fun _=>(JB.seq (fun _=>Qm9.seq (fun _=>QfC (by omega) (fun _=>QaB)))).map)
 | true=>
  have hl:=PreR.list (one:=QgS) (fun _=>Qm9.map) n.toNat 0
  simp only[Qbf,Qg]
  by_cases h4:400<n
  ·simp only[h4,if_true]
   refine⟨fun r h=>by rw[QaA h];exact hl.stay r h,fun a c h=> ?_⟩
   rw[hl.stay _ (jM (by omega) _)]at h
   exact absurd h (jM (by omega) _)
  ·simp only[h4,if_false]
   exact hl
theorem QsL:PreR bunR:=
 (QdR.seq (fun w=>(Qm8 (by omega)).seq (fun n=>QaB.seq (fun _=>PreR.seq (QfC (by omega) (fun _=>(JB.seq (fun _=>QaB)).map)) (fun _=>Qop w (capN n)))))).map
theorem Qra{b:List Int}(hb:isB b)(hl:b.length<1000000000)(h:(getS b).2=0){m:Nat}(hm:m<b.length):(getS (b.take m)).2=2∨(getS (b.take m)).2=3:=by
 obtain⟨e1,e2,_⟩:=Qm1 hb hl h
 have hd:b.drop 4=bunW (getS b).1:=by
  have:=congrArg (fun l=>List.drop 4 l) e1
  rw[QkQ]at this
  exact this
 have ht:b.take 4=mark:=by
  have:=congrArg (fun l=>List.take 4 l) e1
  rw[QkP]at this
  exact this
 generalize (getS b).1=x at e1 e2 hd
 have hlen:(bunW x).length+4=b.length:=by rw[e1];simp[mark]
 unfold getS
 by_cases h4:(b.take m).take 4=mark
 ·rw[if_pos h4]
  have hm4:4≤m:=by
   have:=congrArg List.length h4
   simp[mark]at this
   omega
  have hs:(b.take m).drop 4++b.drop m=bunW x:=by
   rw[←hd]
   conv=>rhs;rw[←List.take_append_drop m b]
   rw[List.drop_append_of_le_length (by simp;omega)]
  have hr:=Qm0 e2 (rest:= []) Jz (by simp;omega)
  rw[List.append_nil,←hs]at hr
  rcases QsL.pre ((b.take m).drop 4) (b.drop m) (by rw[hr])with⟨a',_,e4⟩|e4
  ·rw[hr]at e4
   simp only[Qk.mk.injEq]at e4
   have:=congrArg List.length e4.1
   simp at this
   omega
  ·refine .inr ?_
   unfold endS
   simp[e4]
 ·rw[if_neg h4]
  exact .inl rfl
theorem QsM{b:List Int}(hb:isB b)(hl:b.length<1000000)(h:(getS b).2=0){c:Int}(hc:isB [c]):(getS (b++ [c])).2=2:=by
 obtain⟨e1,e2,_⟩:=Qm1 hb (by omega) h
 generalize (getS b).1=x at e1 e2
 have hlen:(bunW x).length+4=b.length:=by rw[e1];simp[mark]
 have:b++ [c]=mark++(bunW x++ [c]):=by rw[←List.append_assoc,←e1]
 rw[this]
 unfold getS
 rw[QkP,QkQ,if_pos rfl,Qm0 e2 hc (by simp;omega)]
 simp[endS]
end Go.Proofs.YtomndohdnfebgaaGreatDoor
namespace Go.Proofs.YtomndohdnfebgaaGreatDoor
open Go Go.Sep
abbrev StT:=List Bool×List Int×List Sa
theorem gd{α:Type}{o:Option α}{d:α}(h:∃r,o=some r):o=some (o.getD d):=by
 obtain⟨r,h⟩:=h;rw[h];rfl
theorem getD_at{α:Type}{l:List α}{n:Nat}{d:α}(h:n<l.length):getI l (n:Int)=some (l.getD n d):=by
 rw[Jy,List.getElem?_eq_getElem h,List.getD_eq_getElem?_getD,List.getElem?_eq_getElem h];rfl
end Go.Proofs.YtomndohdnfebgaaGreatDoor
namespace Go.Proofs.YtomndohdnfebgaaGreatDoor
open Go Go.Sep
end Go.Proofs.YtomndohdnfebgaaGreatDoor
namespace Go.Proofs.YtomndohdnfebgaaGreatDoor
open Go Go.Sep
end Go.Proofs.YtomndohdnfebgaaGreatDoor
namespace Go.Proofs.YtomndohdnfebgaaGreatDoor
open Go Go.Sep
theorem QsN{K:Nat}(k:QC)(b:List Int):JV.f K k b=some (decide ((20:Int)<((k.fParts.length:Nat):Int))||(decide ((20:Int)<((k.fWits.length:Nat):Int))||decide ((4000:Int)<((b.length:Nat):Int)))):=by
 unfold JV.f
 cases decide ((20:Int)<((k.fParts.length:Nat):Int))with
 |true=>rfl
 |false=>cases decide ((20:Int)<((k.fWits.length:Nat):Int))<;>rfl
theorem Qme{k:QC}{b:List Int}(h:(decide ((20:Int)<((k.fParts.length:Nat):Int))||(decide ((20:Int)<((k.fWits.length:Nat):Int))||decide ((4000:Int)<((b.length:Nat):Int))))=false):k.fParts.length≤20∧k.fWits.length≤20∧b.length≤4000:=by
 simp only[Bool.or_eq_false_iff,decide_eq_false_iff_not]at h
 omega
structure vldA(k:QC)(limit size:Int)(root:H32)(b:List Int):Prop where
 may:mayK k=true
 lim:inn limit 1 9=true
 get:(getS b).2=0
 chk:chkK k (getS b).1.fPoint=0
 size:(getS b).1.fPoint.fSize=size
 root:(getS b).1.fPoint.fRoot=root
 run:(outA (runA k limit (getS b).1)).1=0
theorem Qwi{k:QC}{limit size:Int}{root:H32}{b:List Int}(h:(QcJ k limit size root b).1=0):vldA k limit size root b:=by
 unfold QcJ at h
 cases h1:(mayK k&&inn limit 1 9)with
 |false=>rw[h1]at h;cases h
 | true=>
  rw[h1]at h
  simp only[Qd]at h1
  simp only[Qg]at h
  by_cases h2:(getS b).2=0
  ·rw [Qj (QX h2)]at h
   by_cases h3:chkK k (getS b).1.fPoint=0
   ·rw[Qj (QX h3)]at h
    by_cases h4:(getS b).1.fPoint.fSize=size
    ·by_cases h5:(getS b).1.fPoint.fRoot=root
     ·rw[QX h4,QX h5]at h
      exact⟨h1.1,h1.2,h2,h3,h4,h5,h⟩
     ·rw[QN h5,Bool.and_false]at h;cases h
    ·rw[QN h4,Bool.false_and]at h;cases h
   ·rw[Qi (QN h3)]at h
    exact absurd h h3
  ·rw[Qi (QN h2)]at h
   exact absurd h h2
end Go.Proofs.YtomndohdnfebgaaGreatDoor
namespace Go.Proofs.YtomndohdnfebgaaGreatDoor
open Go Go.Sep
end Go.Proofs.YtomndohdnfebgaaGreatDoor
namespace Go.Proofs.YtomndohdnfebgaaGreatDoor
open Go Go.Sep
theorem Qh3{k:QC}{limit size:Int}{root:H32}{b:List Int}(h1:mayK k=true)(h2:inn limit 1 9=true)(h3:(getS b).2≠0):QcJ k limit size root b=((getS b).2, [], []):=by
 unfold QcJ
 rw[h1,h2,QN h3]
 rfl
theorem Qhv{K:Nat}(hK:K=1000000000000)(k:QC)(limit:Int)(p:Qu)(b:List Int)(n:Int)(hb:isB b)(hn:0≤n∧n<65536):JP.f K k limit p b n=some true:=by
 unfold JP.f
 rw[Qu1 hK]
 subst hK
 simp only[Qb,Bool.not_true,Qh,jn]
 rw[QsN]
 simp only[Qb]
 cases hg:(decide ((20:Int)<((k.fParts.length:Nat):Int))||(decide ((20:Int)<((k.fWits.length:Nat):Int))||decide ((4000:Int)<((b.length:Nat):Int))))with
 |true=>rfl
 | false=>
  obtain⟨g1,g2,g3⟩:=Qme hg
  have hl:b.length<1000000000:=by omega
  simp only[Qh]
  by_cases hz:((b.length:Nat):Int)=0
  ·rw[Qj (QX hz)]
  rw[Qi (QN hz),bnd (Qjt hb hl)]
  by_cases h0:(QcJ k limit p.fSize p.fRoot b).1=0
  ·rw[Qi (by simp[h0]),QN hz]
   have hv:=Qwi h0
   simp only[Bool.not_false,chk,Qg]
   have hw:IntKind.wrap .i64 n=n:=wrap64 (by omega) (by omega)
   rw[hw,Qsl hn.1]
   have hml:n.toNat%b.length<b.length:=Nat.mod_lt _ (by omega)
   generalize n.toNat%b.length=m at hml
   have hm:∀x∈b.take m,0≤x∧x<256:=fun x hx=>hb x (List.mem_of_mem_take hx)
   rw[bnd (Qbe (by omega)),bnd (Qjt hm (by simp;omega))]
   have hs:=Qbe (l:=b) (b:=b.length) (by omega)
   rw[List.take_length]at hs
   refine QI (x:=b) (by first|exact hs|simp[hs]) ?_
   have hB8:isB [IntKind.wrap .u8 n]:=by
    intro x hx
    rw[List.mem_singleton]at hx
    subst hx
    simp only[IntKind.wrap,IntKind.bits,IntKind.signed]
    simp
    omega
   rw[bnd (Jm (by simp;omega)),bnd (Qjt (YM.2 ⟨hb,hB8⟩) (by simp;omega))]
   have h1:=Qra hb hl hv.get hml
   have h2:=QsM hb (by omega) hv.get hB8
   rw[Qh3 hv.may hv.lim (by omega),Qh3 hv.may hv.lim (by omega),h2]
   rcases h1 with h1|h1<;>rw[h1]<;>rfl
  ·rw[Qj (by simp[h0])]
end Go.Proofs.YtomndohdnfebgaaGreatDoor
