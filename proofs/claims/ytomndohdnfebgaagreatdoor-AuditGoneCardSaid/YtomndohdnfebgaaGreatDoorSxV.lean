/-
 Symbolic execution: regions that draw their order, to the end.
-/
import Derived.Test.YtomndohdnfebgaaGreatDoorSxU
set_option linter.unusedVariables false
set_option linter.unusedSimpArgs false
namespace Go.Sep
section
variable {T:Tb}{C:Cx T}{ops:Array Oper}{c:Dc T}{M M':Nat→Bool}{ct:Ct}{ρ:Rho}{D:Snap}{Lv R:List Blk}{a:Act}{w:World}{tr:List (Rc T)}{rc:Rc T}{s:SS T}
variable {rd:Option Nat}{Q:Exit→Act→World→Prop}{Cn:Act→World→Prop}
def Ml(listed:Array Bool):Nat→Bool:=fun k=>listed.getD k false
theorem QnJ{listed:Array Bool}{i:Nat}(hi:i<listed.size):(∀k,k≠i→Ml (listed.setIfInBounds i true) k=Ml listed k)∧Ml (listed.setIfInBounds i true) i=true:=by
 unfold Ml
 refine⟨fun k hk=> ?_,?_⟩
 ·simp only[Array.getD_eq_getD_getElem?]
  rw[Array.getElem?_setIfInBounds_ne (fun e=>hk e.symm)]
 ·simp[Array.getD_eq_getD_getElem?,hi]
theorem QgO(listed:Array Bool)(hsz:listed.size=ops.size)(hr:Region.ready .any ops listed= []):∀{l:List (Rc T)},TrOk C ops c l→∀rc∈l,Ml listed rc.i=true:=by
  intro l hl
  induction hl with
  |nil=>intro rc h;cases h
  | @cons x l h1 h2 ih=>
   intro rc hrc
   rcases List.mem_cons.1 hrc with rfl|hrc
   ·cases hb:Ml listed rc.i with
    |true=>rfl
    | false=>
     have:rc.i∈Region.ready .any ops listed:=by
      refine mem_ready.2 ⟨?_,rc.o,h1.ho,fun e he hbd=> ?_⟩
      ·have hlt:rc.i<listed.size:=by rw[hsz];exact(Array.getElem?_eq_some_iff.1 h1.ho).1
       unfold Ml at hb
       simp only[Array.getD_eq_getD_getElem?,Array.getElem?_eq_getElem hlt,Option.getD_some]at hb⊢
       exact hb
      ·obtain⟨x,hx,hxe⟩:=QaN h1.dep e (by simpa using he) hbd
       have:=ih x hx
       rw[hxe]at this
       exact this
     rw[hr]at this
     cases this
   ·exact ih rc hrc
theorem Qth(hS:DSt C ops c ct tr)(hfin:∀ρ D Lv R a w M,(∀rc∈tr,M rc.i=true)→DI c ct tr M ρ D Lv R a w→Q .normal a w)(hall:∀i<ops.size,∃rc∈tr,rc.i=i):
  ∀(fuel:Nat) (listed:Array Bool) (a:Act) (w:World),listed.size=ops.size→listed.toList.count false≤fuel→(∀x∈tr,Ml listed x.i=true→∀k,x.dm.testBit k=true→Ml listed k=true)→
   (∃ρ D Lv R,DI c ct tr (Ml listed) ρ D Lv R a w)→wpAnyIn (Fw rd) 0 C.P .any ops Q fuel listed a w:=by
 have hdone:∀(listed:Array Bool),listed.size=ops.size→Region.ready .any ops listed= []→∀{l:List (Rc T)},TrOk C ops c l→∀rc∈l,Ml listed rc.i=true:=fun listed h1 h2=>QgO listed h1 h2
 intro fuel
 induction fuel with
 | zero=>
  intro listed a w hsz hct _ ⟨ρ,D,Lv,R,hD⟩
  have hr:Region.ready .any ops listed= []:=by
   cases hr:Region.ready .any ops listed with
   |nil=>rfl
   |cons i l=>
    have hi:i∈Region.ready .any ops listed:=by rw[hr];simp
    obtain⟨h1,o,h2,_⟩:=mem_ready.1 hi
    have hlt:i<listed.size:=by rw[hsz];exact(Array.getElem?_eq_some_iff.1 h2).1
    simp only[Array.getD_eq_getD_getElem?,Array.getElem?_eq_getElem hlt,Option.getD_some]at h1
    have h3:false∈listed.toList:=by rw[←h1];simp
    have:=List.count_pos_iff.2 h3
    omega
  exact⟨hr,hfin _ _ _ _ _ _ _ (hdone listed hsz hr hS.ok) hD⟩
 | succ fuel ih=>
  intro listed a w hsz hct hcl ⟨ρ,D,Lv,R,hD⟩
  refine⟨fun hr=>hfin _ _ _ _ _ _ _ (hdone listed hsz hr hS.ok) hD,fun i hi=> ?_⟩
  obtain⟨h1,o,h2,h3⟩:=mem_ready.1 hi
  have hlt':=(Array.getElem?_eq_some_iff.1 h2).1
  have hlt:i<listed.size:=by rw[hsz];exact hlt'
  obtain⟨rc,hm,rfl⟩:=hall i hlt'
  obtain⟨l1,l2,htr,hrc,hl2⟩:=hS.ok.split hm
  have hTr:=hS.ok
  rw[htr]at hTr
  rw[hrc.ho]at h2
  simp only[Qa]at h2
  subst h2
  have h4:listed[rc.i]=false:=by simpa only[Array.getD_eq_getD_getElem?,Array.getElem?_eq_getElem hlt,Option.getD_some] using h1
  have hi0:Ml listed rc.i=false:=by
   unfold Ml
   simp only[Array.getD_eq_getD_getElem?,Array.getElem?_eq_getElem hlt,Option.getD_some]
   exact h4
  have hdep:∀k,rc.dm.testBit k=true→Ml listed k=true:=fun k hk=>by
   obtain⟨e,he,hb,x,hx,hxe,hkk⟩:=X6 hrc.dep k hk
   have h5:=h3 e (by simpa using he) hb
   rcases hkk with rfl|hkk
   ·rw[hxe];exact h5
   ·exact hcl x (by rw[htr];simp[hx]) (by rw[hxe];exact h5) k hkk
  obtain⟨hM,hMi⟩:=QnJ hlt
  refine QgN (M':=Ml (listed.setIfInBounds rc.i true)) hS hD hcl hm hi0 hdep hM hMi fun ρ' D' Lv' R' a' w' hD'=>ih _ a' w' (by simpa using hsz) ?_ ?_ ⟨ρ',D',Lv',R',hD'⟩
  ·rw[Array.toList_setIfInBounds,List.count_set (by simpa using hlt)]
   have h6:(listed.toList[rc.i]'(by simpa using hlt)==false)=true:=by simp[h4]
   rw[if_pos h6,if_neg (by simp)]
   omega
  ·intro x hx hxM k hk
   by_cases hkr:k=rc.i
   ·rw[hkr];exact hMi
   ·rw [hM k hkr]
    by_cases hxr:x.i=rc.i
    ·have:x=rc:=by
      rw[htr]at hx
      rcases List.mem_append.1 hx with hx|hx
      ·obtain⟨l4,h7,_⟩:=hTr.later hx
       exact absurd hxr fun e=>(ZB h7.frs (rc:=rc) (by simp)).1 e.symm
      ·rcases List.mem_cons.1 hx with rfl|hx
       ·rfl
       ·exact absurd hxr (ZB hrc.frs hx).1
     subst this
     exact hdep k hk
    ·exact hcl x hx (by rw[←hM _ hxr];exact hxM) k hk
theorem QqP{o:Oper}{j:Nat}(hS:DSt C ops c ct tr)(ho:ops[j]?=some o)(hlo:Qox tr j o=true)
  (hfin:∀ρ D Lv R a w M,(∀rc∈tr,M rc.i=true)→DI c ct tr M ρ D Lv R a w→Op1 C.P rd ops Q j (fun a' w'=>Q .normal a' w') a w) (hall:∀i<ops.size,i≠j→∃rc∈tr,rc.i=i):
  ∀(fuel:Nat) (listed:Array Bool) (a:Act) (w:World),listed.size=ops.size→Ml listed j=false→listed.toList.count false≤fuel→(∀x∈tr,Ml listed x.i=true→∀k,x.dm.testBit k=true→Ml listed k=true)→
   (∃ρ D Lv R,DI c ct tr (Ml listed) ρ D Lv R a w)→wpAnyIn (Fw rd) 0 C.P .any ops Q fuel listed a w:=by
 have hdone:∀(listed:Array Bool),listed.size=ops.size→Region.ready .any ops listed= []→∀{l:List (Rc T)},TrOk C ops c l→∀rc∈l,Ml listed rc.i=true:=fun listed h1 h2=>QgO listed h1 h2
 intro fuel
 induction fuel with
 |zero=>
  intro listed a w hsz hj hct _ _
  exfalso
  have hlt:j<listed.size:=by rw[hsz];exact(Array.getElem?_eq_some_iff.1 ho).1
  unfold Ml at hj
  simp only[Array.getD_eq_getD_getElem?,Array.getElem?_eq_getElem hlt,Option.getD_some]at hj
  have h3:false∈listed.toList:=by rw[←hj];simp
  have:=List.count_pos_iff.2 h3
  omega
 | succ fuel ih=>
  intro listed a w hsz hj hct hcl ⟨ρ,D,Lv,R,hD⟩
  have hltj':j<ops.size:=(Array.getElem?_eq_some_iff.1 ho).1
  have hltj:j<listed.size:=by rw[hsz];exact hltj'
  have hj0:listed[j]=false:=by
   unfold Ml at hj
   simpa only[Array.getD_eq_getD_getElem?,Array.getElem?_eq_getElem hltj,Option.getD_some] using hj
  unfold Qox at hlo
  split at hlo
  ·rename_i hgd
   split at hlo
   ·rename_i dm hdm
    rw[List.all_eq_true]at hlo
    refine⟨fun hr=> ?_,fun i hi=> ?_⟩
    ·exfalso
     have hd:=hdone listed hsz hr hS.ok
     have:j∈Region.ready .any ops listed:=by
      refine mem_ready.2 ⟨?_,o,ho,fun e he hbd=> ?_⟩
      ·simp only[Array.getD_eq_getD_getElem?,Array.getElem?_eq_getElem hltj,Option.getD_some]
       exact hj0
      ·obtain⟨x,hx,hxe⟩:=QaN hdm e (by simpa using he) hbd
       have:=hd x hx
       rw[hxe]at this
       exact this
     rw[hr]at this
     cases this
    obtain⟨h1,o',h2,h3⟩:=mem_ready.1 hi
    have hlt':=(Array.getElem?_eq_some_iff.1 h2).1
    have hlt:i<listed.size:=by rw[hsz];exact hlt'
    by_cases hij:i=j
    ·subst hij
     rw[ho]at h2
     simp only[Qa]at h2
     subst h2
     have hMall:∀rc∈tr,Ml listed rc.i=true:=fun rc hrc=>by
      have h4:=hlo rc hrc
      simp only[Qd]at h4
      obtain⟨e,he,hb,x,hx,hxe,hkk⟩:=X6 hdm rc.i h4.1
      have h5:=h3 e (by simpa using he) hb
      rcases hkk with hk|hkk
      ·rw[hk,hxe];exact h5
      ·exact hcl x hx (by rw[hxe];exact h5) _ hkk
     refine wpOpIn_mono (fun a' w' hq=> ?_) (hfin _ _ _ _ _ _ _ hMall hD)
     obtain⟨hM,hMi⟩:=QnJ hlt
     have hnone:Region.ready .any ops (listed.setIfInBounds i true)= []:=by
      cases hr:Region.ready .any ops (listed.setIfInBounds i true)with
      |nil=>rfl
      | cons k l=>
       exfalso
       have hk:k∈Region.ready .any ops (listed.setIfInBounds i true):=by rw[hr];simp
       obtain⟨g1,o2,g2,_⟩:=mem_ready.1 hk
       have hk':=(Array.getElem?_eq_some_iff.1 g2).1
       have g3:Ml (listed.setIfInBounds i true) k=false:=by
        have hks:k<(listed.setIfInBounds i true).size:=by rw[Array.size_setIfInBounds,hsz];exact hk'
        unfold Ml
        simp only[Array.getD_eq_getD_getElem?,Array.getElem?_eq_getElem hks,Option.getD_some]at g1⊢
        exact g1
       by_cases e:k=i
       ·subst e;rw[hMi]at g3;cases g3
       ·obtain⟨rc,hrc,hrk⟩:=hall k hk' e
        rw[hM k e,←hrk,hMall rc hrc]at g3
        cases g3
     cases fuel with
     |zero=>exact⟨hnone,hq⟩
     |succ f=>exact⟨fun _=>hq,fun k hk=>by rw[hnone]at hk;cases hk⟩
    obtain⟨rc,hm,rfl⟩:=hall i hlt' hij
    obtain⟨l1,l2,htr,hrc,hl2⟩:=hS.ok.split hm
    have hTr:=hS.ok
    rw[htr]at hTr
    rw[hrc.ho]at h2
    simp only[Qa]at h2
    subst h2
    have h4:listed[rc.i]=false:=by simpa only[Array.getD_eq_getD_getElem?,Array.getElem?_eq_getElem hlt,Option.getD_some] using h1
    have hi0:Ml listed rc.i=false:=by
     unfold Ml
     simp only[Array.getD_eq_getD_getElem?,Array.getElem?_eq_getElem hlt,Option.getD_some]
     exact h4
    have hdep:∀k,rc.dm.testBit k=true→Ml listed k=true:=fun k hk=>by
     obtain⟨e,he,hb,x,hx,hxe,hkk⟩:=X6 hrc.dep k hk
     have h5:=h3 e (by simpa using he) hb
     rcases hkk with rfl|hkk
     ·rw[hxe];exact h5
     ·exact hcl x (by rw[htr];simp[hx]) (by rw[hxe];exact h5) k hkk
    obtain⟨hM,hMi⟩:=QnJ hlt
    refine QgN (M':=Ml (listed.setIfInBounds rc.i true)) hS hD hcl hm hi0 hdep hM hMi fun ρ' D' Lv' R' a' w' hD'=>ih _ a' w' (by simpa using hsz) (by rw[hM j (fun e=>hij e.symm)];exact hj) ?_ ?_ ⟨ρ',D',Lv',R',hD'⟩
    ·rw[Array.toList_setIfInBounds,List.count_set (by simpa using hlt)]
     have h6:(listed.toList[rc.i]'(by simpa using hlt)==false)=true:=by simp[h4]
     rw[if_pos h6,if_neg (by simp)]
     omega
    ·intro x hx hxM k hk
     by_cases hkr:k=rc.i
     ·rw[hkr];exact hMi
     ·rw [hM k hkr]
      by_cases hxr:x.i=rc.i
      ·have:x=rc:=by
        rw[htr]at hx
        rcases List.mem_append.1 hx with hx|hx
        ·obtain⟨l4,h7,_⟩:=hTr.later hx
         exact absurd hxr fun e=>(ZB h7.frs (rc:=rc) (by simp)).1 e.symm
        ·rcases List.mem_cons.1 hx with rfl|hx
         ·rfl
         ·exact absurd hxr (ZB hrc.frs hx).1
       subst this
       exact hdep k hk
      ·exact hcl x hx (by rw[←hM _ hxr];exact hxM) k hk
   ·cases hlo
  ·cases hlo
theorem QqQ:∀{ord:List (Nat×Nat×Bool)} {S:List Nat},Qov ops S ord=true→∀x∈ord,∃o,ops[x.1]?=some o∧∃e∈o.after.toList,Region.binds .any e=true∧(e.on∈S∨∃y∈ord,y.1=e.on)
 | [],_,_,_,h=>by cases h
 | (j,kd,sp)::ord,S,h,x,hx=>by
  unfold Qov at h
  rw[Qd]at h
  rcases List.mem_cons.1 hx with rfl|hx
  ·have h1:=h.1
   split at h1
   ·rename_i o ho
    rw[List.any_eq_true]at h1
    obtain⟨e,he,hb⟩:=h1
    rw[Qd]at hb
    exact⟨o,ho,e,he,hb.1,.inl (by simpa using hb.2)⟩
   ·cases h1
  ·obtain⟨o,h1,e,h2,h3,h4⟩:=QqQ h.2 x hx
   refine⟨o,h1,e,h2,h3,?_⟩
   rcases h4 with h4|⟨y,hy,he⟩
   ·rcases List.mem_cons.1 h4 with h5|h5
    ·exact .inr ⟨_,List.mem_cons_self,h5.symm⟩
    ·exact .inl h5
   ·exact .inr ⟨y,List.mem_cons_of_mem _ hy,he⟩
theorem QqR{l:List (Rc T)}{i:Nat}{ord:List (Nat×Nat×Bool)}:∀{m:Nat},covO l i ord m=true→∀n<m,(∃rc∈l,rc.i=n)∨n=i∨∃x∈ord,x.1=n
 |0,_,n,h=>absurd h (Nat.not_lt_zero n)
 | m+1,h,n,hn=>by
  unfold covO at h
  rw[Qd]at h
  by_cases e:n=m
  ·subst e
   have h1:=h.1
   rw[Bool.or_eq_true,Bool.or_eq_true]at h1
   rcases h1 with h1|h1|h1
   ·obtain⟨rc,h2⟩:=Option.isSome_iff_exists.1 h1
    obtain⟨h3,h4⟩:=Qcd h2
    exact .inl ⟨rc,h3,h4⟩
   ·exact .inr (.inl (Qc h1))
   ·rw[List.any_eq_true]at h1
    obtain⟨x,hx,hb⟩:=h1
    exact .inr (.inr ⟨x,hx,Qc hb⟩)
  ·exact QqR h.2 n (by omega)
theorem Qti{i:Nat}{o:Oper}{dm:Nat}{q:POut T}{e:Int}{ord:List (Nat×Nat×Bool)}{E0:List (Nat×SV T)}(hS:DSt C ops c ct tr)(hp:PnO C ops ops.size c tr i o dm q e ord)
  (hE:∀t sv,lookA E0 t=some sv→lookA c.E0 t=some sv∧∀x∈tr,x.o.dst≠some t) (hL0:(c.L0.map (·.1)).Nodup) (hV0:∀e∈c.L0,e.2.1<c.n0) (hk:∀a w',RS ct ⟨E0,Qow c q,c.nb,c.md⟩ a w'→Q (.panic [{v:=pvV q.v e,recovered:=false}]) a w'):
  ∀(fuel:Nat) (listed:Array Bool) (a:Act) (w:World),listed.size=ops.size→Ml listed i=false→(∀x∈ord,Ml listed x.1=false)→listed.toList.count false≤fuel→(∀x∈tr,Ml listed x.i=true→∀k,x.dm.testBit k=true→Ml listed k=true)→
   (∃ρ D Lv R,DI c ct tr (Ml listed) ρ D Lv R a w)→wpAnyIn (Fw rd) 0 C.P .any ops Q fuel listed a w:=by
 intro fuel
 have hltj':i<ops.size:=hp.im
 induction fuel with
 |zero=>
  intro listed a w hsz hj _ hct _ _
  exfalso
  have hlt:i<listed.size:=by rw[hsz];exact hltj'
  unfold Ml at hj
  simp only[Array.getD_eq_getD_getElem?,Array.getElem?_eq_getElem hlt,Option.getD_some]at hj
  have h3:false∈listed.toList:=by rw[←hj];simp
  have:=List.count_pos_iff.2 h3
  omega
 | succ fuel ih=>
  intro listed a w hsz hj hord hct hcl ⟨ρ,D,Lv,R,hD⟩
  have hltj:i<listed.size:=by rw[hsz];exact hltj'
  have hj0:listed[i]=false:=by
   unfold Ml at hj
   simpa only[Array.getD_eq_getD_getElem?,Array.getElem?_eq_getElem hltj,Option.getD_some] using hj
  refine⟨fun hr=> ?_,fun j hi=> ?_⟩
  ·exfalso
   have hd:=QgO listed hsz hr hS.ok
   have:i∈Region.ready .any ops listed:=by
    refine mem_ready.2 ⟨?_,o,hp.ho,fun e he hbd=> ?_⟩
    ·simp only[Array.getD_eq_getD_getElem?,Array.getElem?_eq_getElem hltj,Option.getD_some]
     exact hj0
    ·obtain⟨x,hx,hxe⟩:=QaN hp.dep e (by simpa using he) hbd
     have:=hd x hx
     rw[hxe]at this
     exact this
   rw[hr]at this
   cases this
  obtain⟨h1,o',h2,h3⟩:=mem_ready.1 hi
  have hlt':=(Array.getElem?_eq_some_iff.1 h2).1
  have hlt:j<listed.size:=by rw[hsz];exact hlt'
  have hno:∀x∈ord,x.1≠j:=fun x hx hxj=>by
   obtain⟨o2,g1,e2,g2,g3,g4⟩:=QqQ hp.late x hx
   rw[hxj,h2]at g1
   simp only[Qa]at g1
   subst g1
   have h5:Ml listed e2.on=true:=h3 e2 (by simpa using g2) g3
   rcases g4 with g4|⟨y,hy,g4⟩
   ·rw[List.mem_singleton.1 g4,hj]at h5;cases h5
   ·rw[←g4,hord y hy]at h5;cases h5
  by_cases hij:j=i
  ·subst hij
   refine Qtg hS hD hp (fun k hk=> ?_) (fun t sv ht=> ?_) hL0 hV0 (hk a)
   ·obtain⟨e,he,hb,x,hx,hxe,hkk⟩:=X6 hp.dep k hk
    rw[hp.ho]at h2
    simp only[Qa]at h2
    subst h2
    have h5:=h3 e (by simpa using he) hb
    rcases hkk with hkk|hkk
    ·rw[hkk,hxe];exact h5
    ·exact hcl x hx (by rw[hxe];exact h5) _ hkk
   ·obtain⟨g1,g2⟩:=hE t sv ht
    obtain⟨v,h5,h6⟩:=hD.base t sv g1 fun x hx hxd=>absurd hxd (g2 x hx)
    exact⟨v,h5,JL (Rho.cut_le _ _) (Snap.le.refl _) h6⟩
  ·obtain⟨rc,hm,rfl⟩:∃rc∈tr,rc.i=j:=by
    rcases QqR hp.cov j hlt' with h|h|⟨x,hx,h⟩
    ·exact h
    ·exact absurd h hij
    ·exact absurd h (hno x hx)
   obtain⟨l1,l2,htr,hrc,hl2⟩:=hS.ok.split hm
   have hTr:=hS.ok
   rw[htr]at hTr
   rw[hrc.ho]at h2
   simp only[Qa]at h2
   subst h2
   have h4:listed[rc.i]=false:=by simpa only[Array.getD_eq_getD_getElem?,Array.getElem?_eq_getElem hlt,Option.getD_some] using h1
   have hi0:Ml listed rc.i=false:=by
    unfold Ml
    simp only[Array.getD_eq_getD_getElem?,Array.getElem?_eq_getElem hlt,Option.getD_some]
    exact h4
   have hdep:∀k,rc.dm.testBit k=true→Ml listed k=true:=fun k hk=>by
    obtain⟨e,he,hb,x,hx,hxe,hkk⟩:=X6 hrc.dep k hk
    have h5:=h3 e (by simpa using he) hb
    rcases hkk with rfl|hkk
    ·rw[hxe];exact h5
    ·exact hcl x (by rw[htr];simp[hx]) (by rw[hxe];exact h5) k hkk
   obtain⟨hM,hMi⟩:=QnJ hlt
   refine QgN (M':=Ml (listed.setIfInBounds rc.i true)) hS hD hcl hm hi0 hdep hM hMi fun ρ' D' Lv' R' a' w' hD'=>ih _ a' w' (by simpa using hsz) (by rw[hM i (fun e=>hij e.symm)];exact hj) (fun x hx=>by rw[hM _ (hno x hx)];exact hord x hx) ?_ ?_ ⟨ρ',D',Lv',R',hD'⟩
   ·rw[Array.toList_setIfInBounds,List.count_set (by simpa using hlt)]
    have h6:(listed.toList[rc.i]'(by simpa using hlt)==false)=true:=by simp[h4]
    rw[if_pos h6,if_neg (by simp)]
    omega
   ·intro x hx hxM k hk
    by_cases hkr:k=rc.i
    ·rw[hkr];exact hMi
    ·rw [hM k hkr]
     by_cases hxr:x.i=rc.i
     ·have:x=rc:=by
       rw[htr]at hx
       rcases List.mem_append.1 hx with hx|hx
       ·obtain⟨l4,h7,_⟩:=hTr.later hx
        exact absurd hxr fun e=>(ZB h7.frs (rc:=rc) (by simp)).1 e.symm
       ·rcases List.mem_cons.1 hx with rfl|hx
        ·rfl
        ·exact absurd hxr (ZB hrc.frs hx).1
      subst this
      exact hdep k hk
     ·exact hcl x hx (by rw[←hM _ hxr];exact hxM) k hk
theorem QnK(t:Nat):∀(l:List Oper) (m:Nat),(l.foldl (fun m o=>match o.dst with|some d=>m|||2^d|none=>m) m).testBit t=false→m.testBit t=false∧∀o∈l,o.dst≠some t
 | [],m,h=>⟨h,fun _ h=>by cases h⟩
 | o::l,m,h=>by
  obtain⟨h1,h2⟩:=QnK t l _ h
  cases hd:o.dst with
  |none=>
   simp only[hd]at h1
   refine⟨h1,fun o' ho=> ?_⟩
   rcases List.mem_cons.1 ho with rfl|ho
   ·rw[hd];exact fun h=>by cases h
   ·exact h2 o' ho
  |some d=>
   simp only[hd,Nat.testBit_or,Nat.testBit_two_pow,Bool.or_eq_false_iff,decide_eq_false_iff_not]at h1
   refine⟨h1.1,fun o' ho=> ?_⟩
   rcases List.mem_cons.1 ho with rfl|ho
   ·rw[hd];exact fun h=>h1.2 (by simpa using h)
   ·exact h2 o' ho
theorem QvR{id:Nat}{d:Bool}{t:Nat}(h:(wrM (.region id ops d)).testBit t=false){i:Nat}{o:Oper}(ho:ops[i]?=some o):o.dst≠some t:=by
 refine(QnK t ops.toList 0 h).2 o ?_
 rw[←Array.getElem?_toList]at ho
 exact List.mem_of_getElem? ho
theorem Qjf{m t:Nat}(h:m.testBit t=false):∀{E:List (Nat×SV T)},lookA (Ql0 m E) t=lookA E t
 | []=>rfl
 | (k,v)::E=>by
  have ih:=Qjf h (E:=E)
  unfold Ql0 at ih⊢
  rw[List.filter_cons]
  by_cases e:k=t
  ·subst e
   rw[if_pos (by show(!m.testBit k)=true;rw[h];rfl)]
   simp only[lookA,ih]
  ·split
   ·simp only[lookA,ih]
   ·rw[ih]
    have:Nat.beq k t=false:=by
     cases hb:Nat.beq k t with
     |false=>rfl
     |true=>exact absurd (Qc hb) e
    simp only[lookA,this,Qh]
theorem QnL{m t:Nat}{E:List (Nat×SV T)}{sv:SV T}(h:lookA (Ql0 m E) t=some sv):m.testBit t=false∧lookA E t=some sv:=by
 have h1:=Yr h
 unfold Ql0 at h1
 rw[List.mem_filter]at h1
 have h2:m.testBit t=false:=by simpa using h1.2
 rw[Qjf h2]at h
 exact⟨h2,h⟩
theorem Qtj(hC:QcW C ct){id:Nat}{m:Nat}{pr:List (Nat×Nat×SB T)}{ord:List (Nat×Nat×Bool)}{α:Type}{kp:TypeId×Bool→Int→List (Nat×Nat×SB T)→Option α}{k:List (Rc T)→Nat→Option α}{r:α}(hf:C.P.follows .mixedOrders=true)(hS:RS ct s a w)(hpr:pr.Sublist s.L)
  (hs:QhM C ops ops.size ⟨s.E,s.L,pr,s.nx,s.nx+1000000,s.md⟩ kp k ord [] s.nx=some r)
  (hk:∀l n a' w',k l n=some r→XE m s (endD s.E s.md s.L l n)∨(preA l).all (fun e=>m.testBit e.1)=false→RS ct (endD s.E s.md s.L l n) a' w'→Q .normal a' w')
  (hkp:∀x e K a' w',kp x e K=some r→K.Sublist s.L→RS ct ⟨Ql0 (wrM (.region id ops true)) s.E,K,s.nx+1000000,s.md⟩ a' w'→Q (.panic [{v:=pvV x e,recovered:=false}]) a' w'):(Code.region id ops true).wpIn (Fw rd) 0 C.P Q a w:=by
 obtain⟨ρ,D,Lv,R,h⟩:=hS
 obtain⟨tr,h1,h3,h2⟩:=Qje ord [] s.nx hs .nil rfl (fun _ h=>by cases h)
 have hn0:=(h1.mono).1
 have hst:DSt C ops ⟨s.E,s.L,pr,s.nx,s.nx+1000000,s.md⟩ ct tr:=⟨h1,h3,h.nd.sublist (hpr.map _),fun id n t x hi=>h.dom _ _ (h.ini id n t x hi).1,h.ex.1,hC.toCxSp,hC.fr,fun e he=>h.ver e (hpr.subset he)⟩
 have hTag:∀k (L:List (Nat×Nat×SB T)),(tag k L).map (·.2)=L:=fun k L=>by unfold tag;rw[List.map_map];exact List.map_id' L
 have hMl0:∀k,Ml (Array.replicate ops.size false) k=false:=fun k=>by
  unfold Ml
  simp[Array.getD_eq_getD_getElem?,Array.getElem?_replicate]
  split<;>rfl
 have hoR:∀x∈tr,ops[x.i]?=some x.o:=fun x hx=>by obtain⟨_,_,_,h9,_⟩:=h1.split hx;exact h9.ho
 rcases h2 with⟨h2,h4⟩|⟨i,o,dm,q,e,ord',hp,h4⟩
 ·refine wpIn_region_any hf (Qth hst (fun ρ' D' Lv' R' a' w' M hM hD=> ?_) (Qmd h2) ops.size _ a _ (by simp) (by simp[List.count_replicate]) (fun x hx hxM=> ?_) ⟨ρ,D,Lv,R,?_⟩)
  ·have hl:lmL s.L (fun _=>true) tr=lmL s.L M tr:=ZA tr fun rc hrc=>(hM rc hrc).symm
   have hcore:=hD.core
   have hver:=hD.ver
   refine hk tr _ a' w' h4 ?_ ⟨ρ',D',Lv',R',hcore.rb,fun i p hp=> ?_,fun e he=> ?_,?_,hcore.size,hcore.ds,fun t sv ht=> ?_,?_,hcore.st,hcore.fr,?_,?_,hcore.o⟩
   ·cases hb:(preA tr).all (fun e=>m.testBit e.1)with
    |false=>exact .inr rfl
    | true=>
     rw[List.all_eq_true]at hb
     refine .inl ⟨fun t ht sv hl=>⟨sv,?_,fun _ _ _ h=>h⟩,hn0,fun id v sb hlk hv=> ?_⟩
     ·show lookA (preA tr++s.E) t=some sv
      rw[jv,hl]
      cases hp:lookA (preA tr) t with
      |none=>rfl
      |some x=>
       have:=hb _ (Yr hp)
       simp only at this
       rw[ht]at this
       cases this
     ·have hlk:lookA ((lmL s.L (fun _=>true) tr).map (·.2)) id=some (v,sb):=hlk
      rw[hl]at hlk
      have h5:=(hver _ (Yr hlk)).2 hv
      exact Yc h5 h.nd
   ·show i<nxO s.nx tr
    rcases hD.nam i p hp with h5|⟨rc,h5,_,_,h6⟩
    ·exact Nat.lt_of_lt_of_le h5 hn0
    ·have:=(h1.mono.2 rc h5).2.2
     exact Nat.lt_of_lt_of_le h6 this
   ·have he:e∈(lmL s.L (fun _=>true) tr).map (·.2):=he
    rw[hl]at he
    exact(hver e he).1
   ·show(((lmL s.L (fun _=>true) tr).map (·.2)).map (·.1)).Nodup
    rw[hl];exact hcore.nd
   ·have ht:lookA (preA tr++s.E) t=some sv:=ht
    rw[jv]at ht
    cases hp:lookA (preA tr) t with
    |some x=>
     rw[hp]at ht
     simp only[Option.some_or,Qa]at ht
     subst ht
     obtain⟨rc,h5,h6,h7⟩:=Qmf hp
     rw[←h7]
     exact hD.fct rc h5 (hM rc h5) t h6
    |none=>
     rw[hp,Option.none_or]at ht
     obtain⟨v,h5,h6⟩:=hD.base t sv ht fun x hx hxd=>absurd hp (QdW hx hxd)
     exact⟨v,h5,JL (Rho.cut_le _ _) (Snap.le.refl _) h6⟩
   ·show RLs ρ' D' ((lmL s.L (fun _=>true) tr).map (·.2)) Lv'
    rw[hl];exact hcore.l
   ·intro id n t x hi
    obtain⟨h5,h6⟩:=hcore.ini id n t x hi
    refine⟨h5,fun b hb=>h6 b ?_⟩
    have hb:lookA ((lmL s.L (fun _=>true) tr).map (·.2)) id=some (id,b):=hb
    rw[hl]at hb
    exact hb
   ·exact⟨Nat.le_trans h.ex.1 hn0,hcore.ex.2⟩
  ·exfalso
   have:Ml (Array.replicate ops.size false) x.i=false:=by
    unfold Ml
    simp[Array.getD_eq_getD_getElem?,Array.getElem?_replicate]
    split<;>rfl
   rw[this]at hxM
   cases hxM
  ·have hlm:∀(l:List (Rc T)),lmL s.L (Ml (Array.replicate ops.size false)) l=tag 0 s.L:=by
    intro l
    induction l with
    |nil=>rfl
    | cons x l ih=>
     have:Ml (Array.replicate ops.size false) x.i=false:=by
      unfold Ml
      simp[Array.getD_eq_getD_getElem?,Array.getElem?_replicate]
      split<;>rfl
     rw[Y3,this,Qh];exact ih
   have hlm':(lmL s.L (Ml (Array.replicate ops.size false)) tr).map (·.2)=s.L:=by rw[hlm,hTag]
   have hb:s.nx≤s.nx+1000000:=Nat.le_add_right _ _
   refine⟨?_,fun t sv ht _=> ?_,fun rc hrc hM=> ?_,fun id p hp=> .inl (h.dom id p hp),fun _ e he=> ?_,fun e he=> ?_⟩
   ·simp only
    rw[hlm']
    exact⟨h.rb,fun i p hp=>Nat.lt_of_lt_of_le (h.dom i p hp) hb,fun e he=>Nat.lt_of_lt_of_le (h.ver e he) hb,h.nd,h.size,h.ds,fun t sv ht=>(by cases ht),h.l,h.st.drew,h.fr,h.ini,⟨Nat.le_trans h.ex.1 hb,h.ex.2⟩,h.o⟩
   ·obtain⟨v,h5,h6⟩:=h.e t sv ht
    exact⟨v,h5,by show RV (ρ.cut s.nx) D sv v;rw[Rho.cut_id h.dom];exact h6⟩
   ·exfalso
    have:Ml (Array.replicate ops.size false) rc.i=false:=by
     unfold Ml
     simp[Array.getD_eq_getD_getElem?,Array.getElem?_replicate]
     split<;>rfl
    rw[this]at hM
    cases hM
   ·simp only
    rw[hlm']
    exact hpr.subset he
   ·simp only at he
    rw[hlm']at he
    exact⟨Nat.lt_of_lt_of_le (h.ver e he) hn0,fun _=>he⟩
 ·refine wpIn_region_any hf (Qti hst hp (E0:=Ql0 (wrM (.region id ops true)) s.E) (fun t sv ht=>⟨(QnL ht).2,fun x hx=>QvR (QnL ht).1 (hoR x hx)⟩) h.nd h.ver (fun a w' h'=>hkp q.v e _ a w' h4 List.filter_sublist h') ops.size _ a _ (by simp) (hMl0 _) (fun x _=>hMl0 _) (by simp[List.count_replicate]) (fun x hx hxM=> ?_) ⟨ρ,D,Lv,R,?_⟩)
  ·exfalso
   have:Ml (Array.replicate ops.size false) x.i=false:=by
    unfold Ml
    simp[Array.getD_eq_getD_getElem?,Array.getElem?_replicate]
    split<;>rfl
   rw[this]at hxM
   cases hxM
  ·have hlm:∀(l:List (Rc T)),lmL s.L (Ml (Array.replicate ops.size false)) l=tag 0 s.L:=by
    intro l
    induction l with
    |nil=>rfl
    | cons x l ih=>
     have:Ml (Array.replicate ops.size false) x.i=false:=by
      unfold Ml
      simp[Array.getD_eq_getD_getElem?,Array.getElem?_replicate]
      split<;>rfl
     rw[Y3,this,Qh];exact ih
   have hlm':(lmL s.L (Ml (Array.replicate ops.size false)) tr).map (·.2)=s.L:=by rw[hlm,hTag]
   have hb:s.nx≤s.nx+1000000:=Nat.le_add_right _ _
   refine⟨?_,fun t sv ht _=> ?_,fun rc hrc hM=> ?_,fun id p hp=> .inl (h.dom id p hp),fun _ e he=> ?_,fun e he=> ?_⟩
   ·simp only
    rw[hlm']
    exact⟨h.rb,fun i p hp=>Nat.lt_of_lt_of_le (h.dom i p hp) hb,fun e he=>Nat.lt_of_lt_of_le (h.ver e he) hb,h.nd,h.size,h.ds,fun t sv ht=>(by cases ht),h.l,h.st.drew,h.fr,h.ini,⟨Nat.le_trans h.ex.1 hb,h.ex.2⟩,h.o⟩
   ·obtain⟨v,h5,h6⟩:=h.e t sv ht
    exact⟨v,h5,by show RV (ρ.cut s.nx) D sv v;rw[Rho.cut_id h.dom];exact h6⟩
   ·exfalso
    have:Ml (Array.replicate ops.size false) rc.i=false:=by
     unfold Ml
     simp[Array.getD_eq_getD_getElem?,Array.getElem?_replicate]
     split<;>rfl
    rw[this]at hM
    cases hM
   ·simp only
    rw[hlm']
    exact hpr.subset he
   ·simp only at he
    rw[hlm']at he
    exact⟨Nat.lt_of_lt_of_le (h.ver e he) hn0,fun _=>he⟩
theorem Qtk(hC:QcW C ct)(hrd:rd=none∨C.Y=none∧C.rg=false){id:Nat}{m:Nat}{pr:List (Nat×Nat×SB T)}{ord:List (Nat×Nat×Bool)}{α:Type}{o:Oper}{kp:List (Rc T)→Nat→TypeId×Bool→Int→SS T→Option α}{kk:List (Rc T)→Nat→SS T→Option α}{r:α}(ho:ops[ops.size-1]?=some o)(hf:C.P.follows .mixedOrders=true)(hS:RS ct s a w)(hpr:pr.Sublist s.L)
  (hs:QhM C ops (ops.size-1) ⟨s.E,s.L,pr,s.nx,s.nx+1000000,s.md⟩ (fun _ _ _=>none) (fun l n=>bif JI C.n o.dst&&(Qox l (ops.size-1) o&&(preA l).all (fun e=>m.testBit e.1))then exP C o (endD s.E s.md s.L l n) (kp l n) (kk l n)else none) ord [] s.nx=some r)
  (hk:∀l n s' a' w',XE m s (endD s.E s.md s.L l n)→Ext (endD s.E s.md s.L l n) s'→kk l n s'=some r→RS ct s' a' w'→Q .normal a' w')
  (hp:∀l n x e s' a' w',XE m s (endD s.E s.md s.L l n)→Ext (endD s.E s.md s.L l n) s'→kp l n x e s'=some r→RS ct s' a' w'→Q (.panic [{v:=pvV x e,recovered:=false}]) a' w'):(Code.region id ops true).wpIn (Fw rd) 0 C.P Q a w:=by
 obtain⟨ρ,D,Lv,R,h⟩:=hS
 obtain⟨tr,h1,h3,h2⟩:=Qje ord [] s.nx hs .nil rfl (fun _ h=>by cases h)
 obtain⟨h2,h4⟩:=h2.resolve_right (fun⟨_,_,_,_,_,_,_,h⟩=>by cases h)
 have hn0:=(h1.mono).1
 cases hbb:(JI C.n o.dst&&(Qox tr (ops.size-1) o&&(preA tr).all (fun e=>m.testBit e.1)))with
 |false=>rw[hbb]at h4;cases h4
 |true=>
 rw[hbb]at h4
 simp only[Qg]at h4
 rw[Qd,Qd]at hbb
 obtain⟨hdo,hlo,hall⟩:=hbb
 have hst:DSt C ops ⟨s.E,s.L,pr,s.nx,s.nx+1000000,s.md⟩ ct tr:=⟨h1,h3,h.nd.sublist (hpr.map _),fun id n t x hi=>h.dom _ _ (h.ini id n t x hi).1,h.ex.1,hC.toCxSp,hC.fr,fun e he=>h.ver e (hpr.subset he)⟩
 have hTag:∀k (L:List (Nat×Nat×SB T)),(tag k L).map (·.2)=L:=fun k L=>by unfold tag;rw[List.map_map];exact List.map_id' L
 refine wpIn_region_any hf (QqP hst ho hlo (fun ρ' D' Lv' R' a' w' M hM hD=> ?_) (fun i hi hij=>Qmd h2 i (by omega)) ops.size _ a _ (by simp) (by unfold Ml;simp[Array.getD_eq_getD_getElem?,Array.getElem?_replicate];split<;>rfl) (by simp[List.count_replicate]) (fun x hx hxM=> ?_) ⟨ρ,D,Lv,R,?_⟩)
 ·have hl:lmL s.L (fun _=>true) tr=lmL s.L M tr:=ZA tr fun rc hrc=>(hM rc hrc).symm
  have hcore:=hD.core
  have hver:=hD.ver
  have hg:o.guard=none:=by
   unfold Qox at hlo
   split at hlo
   ·rename_i h;exact h
   ·cases hlo
  have hX:XE m s (endD s.E s.md s.L tr (nxO s.nx tr)):=by
   rw[List.all_eq_true]at hall
   refine⟨fun t ht sv hl=>⟨sv,?_,fun _ _ _ h=>h⟩,hn0,fun id v sb hlk hv=> ?_⟩
   ·show lookA (preA tr++s.E) t=some sv
    rw[jv,hl]
    cases hp:lookA (preA tr) t with
    |none=>rfl
    |some x=>
     have:=hall _ (Yr hp)
     simp only at this
     rw[ht]at this
     cases this
   ·have hlk:lookA ((lmL s.L (fun _=>true) tr).map (·.2)) id=some (v,sb):=hlk
    rw[hl]at hlk
    have h5:=(hver _ (Yr hlk)).2 hv
    exact Yc h5 h.nd
  have hR:RSx ct ρ' D' Lv' R' (endD s.E s.md s.L tr (nxO s.nx tr)) a' w':=by
   refine⟨hcore.rb,fun i p hp=> ?_,fun e he=> ?_,?_,hcore.size,hcore.ds,fun t sv ht=> ?_,?_,hcore.st,hcore.fr,?_,?_,hcore.o⟩
   ·show i<nxO s.nx tr
    rcases hD.nam i p hp with h5|⟨rc,h5,_,_,h6⟩
    ·exact Nat.lt_of_lt_of_le h5 hn0
    ·have:=(h1.mono.2 rc h5).2.2
     exact Nat.lt_of_lt_of_le h6 this
   ·have he:e∈(lmL s.L (fun _=>true) tr).map (·.2):=he
    rw[hl]at he
    exact(hver e he).1
   ·show(((lmL s.L (fun _=>true) tr).map (·.2)).map (·.1)).Nodup
    rw[hl];exact hcore.nd
   ·have ht:lookA (preA tr++s.E) t=some sv:=ht
    rw[jv]at ht
    cases hp:lookA (preA tr) t with
    |some x=>
     rw[hp]at ht
     simp only[Option.some_or,Qa]at ht
     subst ht
     obtain⟨rc,h5,h6,h7⟩:=Qmf hp
     rw[←h7]
     exact hD.fct rc h5 (hM rc h5) t h6
    |none=>
     rw[hp,Option.none_or]at ht
     obtain⟨v,h5,h6⟩:=hD.base t sv ht fun x hx hxd=>absurd hp (QdW hx hxd)
     exact⟨v,h5,JL (Rho.cut_le _ _) (Snap.le.refl _) h6⟩
   ·show RLs ρ' D' ((lmL s.L (fun _=>true) tr).map (·.2)) Lv'
    rw[hl];exact hcore.l
   ·intro id n t x hi
    obtain⟨h5,h6⟩:=hcore.ini id n t x hi
    refine⟨h5,fun b hb=>h6 b ?_⟩
    have hb:lookA ((lmL s.L (fun _=>true) tr).map (·.2)) id=some (id,b):=hb
    rw[hl]at hb
    exact hb
   ·exact⟨Nat.le_trans h.ex.1 hn0,hcore.ex.2⟩
  exact QnD hC.toCxSp hC.yo hrd (fun x _=>hC.fr x) hR ho (by unfold guardOf;rw[hg]) (by rw[←hC.n];exact hdo) h4 (fun s' a2 w2 hx h5 h6=>hk tr _ s' a2 w2 hX hx h5 h6) (fun x e s' w2 hx h5 h6=>hp tr _ x e s' a' w2 hX hx h5 h6)
 ·exfalso
  have:Ml (Array.replicate ops.size false) x.i=false:=by
   unfold Ml
   simp[Array.getD_eq_getD_getElem?,Array.getElem?_replicate]
   split<;>rfl
  rw[this]at hxM
  cases hxM
 ·have hlm:∀(l:List (Rc T)),lmL s.L (Ml (Array.replicate ops.size false)) l=tag 0 s.L:=by
   intro l
   induction l with
   |nil=>rfl
   | cons x l ih=>
    have:Ml (Array.replicate ops.size false) x.i=false:=by
     unfold Ml
     simp[Array.getD_eq_getD_getElem?,Array.getElem?_replicate]
     split<;>rfl
    rw[Y3,this,Qh];exact ih
  have hlm':(lmL s.L (Ml (Array.replicate ops.size false)) tr).map (·.2)=s.L:=by rw[hlm,hTag]
  have hb:s.nx≤s.nx+1000000:=Nat.le_add_right _ _
  refine⟨?_,fun t sv ht _=> ?_,fun rc hrc hM=> ?_,fun id p hp=> .inl (h.dom id p hp),fun _ e he=> ?_,fun e he=> ?_⟩
  ·simp only
   rw[hlm']
   exact⟨h.rb,fun i p hp=>Nat.lt_of_lt_of_le (h.dom i p hp) hb,fun e he=>Nat.lt_of_lt_of_le (h.ver e he) hb,h.nd,h.size,h.ds,fun t sv ht=>(by cases ht),h.l,h.st.drew,h.fr,h.ini,⟨Nat.le_trans h.ex.1 hb,h.ex.2⟩,h.o⟩
  ·obtain⟨v,h5,h6⟩:=h.e t sv ht
   exact⟨v,h5,by show RV (ρ.cut s.nx) D sv v;rw[Rho.cut_id h.dom];exact h6⟩
  ·exfalso
   have:Ml (Array.replicate ops.size false) rc.i=false:=by
    unfold Ml
    simp[Array.getD_eq_getD_getElem?,Array.getElem?_replicate]
    split<;>rfl
   rw[this]at hM
   cases hM
  ·simp only
   rw[hlm']
   exact hpr.subset he
  ·simp only at he
   rw[hlm']at he
   exact⟨Nat.lt_of_lt_of_le (h.ver e he) hn0,fun _=>he⟩
end
end Go.Sep
