/-
 Symbolic execution: one operation of a region that draws its order, on what is sure to be there.
-/
import Derived.Test.YtomndohdnfebgaaGreatDoorSxN
set_option linter.unusedVariables false
set_option linter.unusedSimpArgs false
namespace Go.Sep
section
variable {T:Tb}{C:Cx T}{ct:Ct}{ρ:Rho}{D:Snap}{Lv R:List Blk}{s:SS T}{a:Act}{w:World}
theorem QdS:∀{is:List Nat} {L:List (Nat×Nat×SB T)},(Qvk is L).Sublist L
 | [],_=>List.Sublist.refl _
 |i::is,L=>(QdS (is:=is) (L:=delB i L)).trans jK
theorem QqF{m:Nat}:∀{l:List (Nat×Pt)},tmIn m l=true→∀t∈l.map (·.1),m.testBit t=true
 | [],_,t,ht=>by cases ht
 |(x,p)::l,h,t,ht=>by
  simp only[tmIn,Qd]at h
  simp only[List.map_cons,List.mem_cons]at ht
  rcases ht with rfl|ht
  ·exact h.1
  ·exact QqF h.2 t ht
theorem QcR{m:Nat}{t:Nat}:∀{E:List (Nat×SV T)},lookA (filE m E) t=if m.testBit t=true then none else lookA E t
 | []=>by simp[filE,lookA]
 | (j,v)::E=>by
  simp only[filE]
  cases hj:m.testBit j with
  |true=>
   simp only[Qg,lookA]
   rw[QcR]
   cases hb:Nat.beq j t with
   |true=>have:=Qc hb;subst this;simp[hj]
   |false=>rfl
  |false=>
   simp only[Qh,lookA]
   rw[QcR]
   cases hb:Nat.beq j t with
   |true=>have:=Qc hb;subst this;simp[hj]
   |false=>rfl
theorem Qir{α β:Type}{f:α→β}:∀{l l':List α},l.map f=l'.map f→(∀x∈l,∀y∈l',f x=f y→x=y)→l=l'
 | [], [],_,_=>rfl
 | [],_::_,h,_=>by cases h
 |_::_, [],h,_=>by cases h
 |x::l,y::l',h,hi=>by
  simp only[List.map_cons,List.cons.injEq]at h
  rw[hi x List.mem_cons_self y List.mem_cons_self h.1,Qir h.2 fun x hx y hy=>hi x (List.mem_cons_of_mem _ hx) y (List.mem_cons_of_mem _ hy)]
theorem QdT:∀{L L':List (Nat×Nat×SB T)} {Ls:List Blk},RLs ρ D (L++L') Ls→∃X Y,Ls=X++Y∧RLs ρ D L X∧RLs ρ D L' Y
 | [],_,Ls,h=>⟨[],Ls,rfl,rfl,h⟩
 |_::_,_,_,⟨q,Ls',e,h1,h2⟩=>by
  obtain⟨X,Y,e2,h3,h4⟩:=QdT h2
  exact⟨q::X,Y,by rw[e,e2];rfl,⟨q,X,rfl,h1,h3⟩,h4⟩
theorem QdU{ρ:Rho}{D:Snap}:∀(v:SV T) (m:Bool) (c:List Value),RX ρ D v m c→∀i∈QbV v,ρ i≠none:=by
 intro v
 induction v with
 |ptr b off=>rintro m c ⟨n,h,_⟩ i hi;simp only[QbV,List.mem_singleton]at hi;subst hi;rw[h];simp
 |agg l ih=>exact fun m c h i hi=>ih false c h i hi
 |tup l ih=>exact fun m c ⟨vs,h,_⟩ i hi=>ih true vs h i hi
 |fn f l ih=>exact fun m c ⟨vs,h,_⟩ i hi=>ih true vs h i hi
 | cs h t ih1 ih2=>
  intro m c hc i hi
  simp only[QbV,List.mem_append]at hi
  cases m with
  |false=>
   obtain⟨c1,c2,_,h1,h2⟩:=hc
   rcases hi with hi|hi
   ·exact ih1 _ _ h1 i hi
   ·exact ih2 _ _ h2 i hi
  | true=>
   obtain⟨v,c2,_,h1,h2⟩:=hc
   rcases hi with hi|hi
   ·cases ha:agS h with
    |true=>rw[ha]at h1;obtain⟨c1,h3,_⟩:=h1;exact ih1 _ _ h3 i hi
    |false=>rw[ha]at h1;exact ih1 _ _ h1 i hi
   ·exact ih2 _ _ h2 i hi
 |_=>intro m c _ i hi;cases hi
theorem QdV{i:Nat}:∀{l:List Nat} {n:Nat},nthN l n=some i→i∈l
 |x::l,0,h=>by simp only[nthN,Qa]at h;subst h;exact List.mem_cons_self
 |x::l,n+1,h=>List.mem_cons_of_mem _ (QdV h)
theorem QvP(h:RSx ct ρ D Lv R s a w){t j:Nat}(hj:blk1 s t=some j):ρ j≠none:=by
 unfold blk1 at hj
 cases hb:Nat.blt t 1000000 with
 | true=>
  rw[hb]at hj
  simp only[Qg]at hj
  split at hj
  ·rename_i k off hk
   simp only[Qa]at hj
   subst hj
   obtain⟨v,_,h2⟩:=h.e _ _ hk
   obtain⟨n,h3,_⟩:=Yn rfl h2
   rw[h3];simp
  ·cases hj
 | false=>
  rw[hb]at hj
  simp only[Qh]at hj
  split at hj
  ·rename_i sv hk
   obtain⟨v,_,h2⟩:=h.e _ _ hk
   unfold RV at h2
   cases ha:agS sv with
   |true=>rw[ha]at h2;obtain⟨c1,h3,_⟩:=h2;exact QdU sv false c1 h3 j (QdV hj)
   |false=>rw[ha]at h2;exact QdU sv false [v] h2 j (QdV hj)
  ·cases hj
theorem Qtc(h:RSx ct ρ D Lv R s a w){t j:Nat}(hj:Qkt s t=some j):ρ j≠none:=by
 unfold Qkt at hj
 cases hb0:Nat.ble 1000000000000 t with
 | true=>
  rw[hb0]at hj
  simp only[Qg]at hj
  split at hj
  ·rename_i v hv
   have h1:=h.o _ _ hv j (QdV hj)
   intro h2
   cases hr:ct.rb j with
   |none=>exact h1 hr
   |some p=>rw[h.rb _ _ hr]at h2;cases h2
  ·cases hj
 |false=>
 rw[hb0]at hj
 simp only[Qh]at hj
 cases hb:Nat.blt t 1000000000 with
 |true=>rw[hb]at hj;exact QvP h hj
 | false=>
  rw[hb]at hj
  simp only[Qh]at hj
  split at hj
  ·split at hj
   ·rename_i hl
    obtain⟨X,q,Y,_,⟨m,c,_,h3,_⟩,_⟩:=qJ h.l hl
    exact QdU _ false c h3 j (QdV hj)
   ·cases hj
  ·cases hj
theorem Qmb(h:RSx ct ρ D Lv R s a w):∀{ts:List Nat} {b i:Nat},lookA (ptBd s ts) b=some i→ρ i≠none
 | [],_,_,h1=>by cases h1
 | t::ts,b,i,h1=>by
  simp only[ptBd]at h1
  split at h1
  ·rename_i j hj
   simp only[lookA]at h1
   cases hb:Nat.beq t b with
   |true=>
    rw[hb]at h1
    simp only[Qg,Qa]at h1
    subst h1
    exact Qtc h hj
   |false=>rw[hb]at h1;exact Qmb h h1
  ·exact Qmb h h1
theorem Qcc(hT:TbOk T){ρ0:Rho}{D0:Snap}{Lv0 R0:List Blk}{s0:SS T}{a0:Act}{w0':World}{q:Pj}{mask:Nat}{s2:SS T}{y:TU T.ty q.ty}
  (h0:RSx ct ρ0 D0 Lv0 R0 s0 a0 w0') (hx:XE mask s0 s) (h:RSx ct ρ D Lv R s a w) (ha:absJ q s0 s=some y) (hi:Qdg q mask s0 y=some s2):RS ct s2 a w∧XE mask s0 s2:=by
 unfold absJ at ha
 split at ha
 ·rename_i m1 hm1
  split at ha
  ·rename_i m2 bw hm2
   split at ha
   ·rename_i L1 hL1
    split at ha
    ·rename_i pk hpick
     obtain⟨es,L2⟩:=pk
     cases hmd:Nat.beq m2.s.md.m s0.md.m with
     |false=>rw[hmd]at ha;cases ha
     |true=>
     rw[hmd]at ha
     simp only[Qg]at ha
     unfold Qdg at hi
     cases htm:tmIn mask q.tm with
     |false=>rw[htm]at hi;cases hi
     |true=>
     rw[htm]at hi
     simp only[Qg]at hi
     split at hi
     ·rename_i E1 i1 hi1
      split at hi
      ·rename_i N1 i2 hi2
       simp only[Qa]at hi
       obtain⟨ρ1,D1,Lv1,dn1,on1,os1,M1,E1',P1⟩:=QqB hT q.tm _ m1 ρ D Lv hm1 h
       obtain⟨ρ2,D2,Lv2,dn2,on2,os2,Bs,M2,E2,P2,B2⟩:=QqD hT q.bl m1 m2 bw ρ1 D1 Lv1 hm2 M1.rs
       have H:=M2.rs
       have hext:Ext s m2.s:=M1.ext.trans M2.ext
       have hdy:m2.dy.reverse=dn1++dn2:=by rw[M2.dy,M1.dy];simp
       have how:m2.ow.reverse=on1++on2:=by rw[M2.ow,M1.ow];simp
       rw[hdy]at ha
       rw[how]at hL1
       have hpu:=QgH ha
       have hr2:ρ.le ρ2:=M1.rho.trans M2.rho
       have hd2:D.le D2:=M1.le.trans M2.le
       obtain⟨Qs,Ls1,q1,q2,q3,q4,q5⟩:=QdQ _ _ _ _ hL1 H.l H.nd
       have hn1:(L1.map (·.1)).Nodup:=H.nd.sublist (q3.map _)
       obtain⟨Bq,Ls2,b1,b2,b3,b4,b5,b6⟩:=QcQ _ _ _ _ _ hpick q2 hn1
       obtain⟨es1,es2,rfl,f1,f2⟩:=List.map_eq_append_iff.1 b5
       have hesm:∀e∈es1++es2,e∈m2.s.L:=fun e he=>q3.subset (b6.symm.subset (List.mem_append_left _ he))
       have hk2:es2=Qgm q s0:=by
        refine Qir f2 fun x hx' y hy hxy=> ?_
        have hx1:=Yc (hesm x (List.mem_append_right _ hx')) H.nd
        have hy0:y∈s0.L:=QdS.subset hy
        have hy1:=Yc hy0 h0.nd
        obtain⟨i,v,b⟩:=x
        obtain⟨i',v',b'⟩:=y
        simp only[Qe]at hxy
        obtain⟨rfl,rfl⟩:=hxy
        have hv:=h0.ver _ hy0
        have:=hx.l _ _ _ (hext.l _ _ _ hx1 (Nat.lt_of_lt_of_le hv hx.nx)) hv
        rw[hy1]at this
        simp only[Qa,Qe,true_and]at this
        rw[this]
       subst hk2
       obtain⟨Bq1,Bq2,rfl,r1,r2⟩:∃X Y,Bq=X++Y∧RLs ρ2 D2 es1 X∧RLs ρ2 D2 (Qgm q s0) Y:=QdT b4
       have hperm:(Lv2++R).Perm (Ls2++((Bq1++(Qs.reverse++Bq2))++R)):=by
        have h1:Lv2.Perm (Qs++((Bq1++Bq2)++Ls2)):=q1.trans (List.Perm.append_left _ b1)
        have h2:(Qs++((Bq1++Bq2)++Ls2)).Perm (Ls2++(Bq1++(Qs.reverse++Bq2))):=by
         have z1:(Qs++((Bq1++Bq2)++Ls2))=(Qs++(Bq1++Bq2))++Ls2:=by simp
         rw[z1]
         refine List.perm_append_comm.trans (List.Perm.append_left _ ?_)
         have z2:Qs++(Bq1++Bq2)=(Qs++Bq1)++Bq2:=by simp
         have z3:Bq1++(Qs.reverse++Bq2)=(Bq1++Qs.reverse)++Bq2:=by simp
         rw[z2,z3]
         refine List.Perm.append_right _ (List.perm_append_comm.trans (List.Perm.append_left _ (List.reverse_perm Qs).symm))
        have:=List.Perm.append_right R (h1.trans h2)
        rwa [List.append_assoc]at this
       have hS:=(H.st.prm hperm)
       have hBq:Bq1=Bs:=Qqr (L:=L1) hS H.nd (fun e he=>q3.subset he) B2 r1 f1 (fun e he=>b6.symm.subset (List.mem_append_left _ (List.mem_append_left _ he))) (fun q hq=>by simp[hq])
       subst hBq
       have hS2:=hS.drops
       have hren:Ren (OwS ρ2 m2.s m2.ow) (OwQ Qs D2) (os1++os2) (idx 0 (os1++os2)):=by
        refine QgK _ 0 fun k x hx t e f xl A cap ex ho=> ?_
        rw[Nat.zero_add]
        have hon:((on1++on2).map (·.1))[k]?=some x.1:=by
         rw[List.map_append,←E1',←E2,←List.map_append,List.getElem?_map,hx];rfl
        rw[List.getElem?_map]at hon
        obtain⟨y,hy,hyx⟩:=Option.map_eq_some_iff.1 hon
        obtain⟨b,q,z1,z2,z3⟩:=q5 k y hy
        obtain⟨s1,ver,f0,w1,w2,w3,w4,w5,w6⟩:=ho
        have hmem:(x.1,ver)∈on1++on2:=by rw[←how];simpa using w6
        obtain⟨k2,hk2⟩:=List.mem_iff_getElem?.1 hmem
        obtain⟨b',q',z4,_,_⟩:=q5 k2 _ hk2
        rw[hyx]at z1 z3
        rw[z4]at z1
        simp only[Qa,Qe]at z1
        obtain⟨z5,z6⟩:=z1
        subst z6
        have z7:=w1.l _ _ _ z4 w3
        rw[w2]at z7
        simp only[Qa,Qe]at z7
        rw[←z7.2]at z3
        obtain⟨A',cap',z8,z9⟩:=z3
        rw[w5]at z8
        cases z8
        exact⟨q,z2,z9.of w4⟩
       obtain⟨y1,y2,hy,rn1,rn2⟩:=XU hren
       have PA:=QqA (QnE (y7 M2.rho M2.bd) M2.le (fun _ _ _ _ _ _ _ ho=>XF M2.rho M2.ext (fun x hx=>by rw[M2.ow];exact List.mem_append_right _ hx) ho) P1) rn1
       have PB:=QqC P2 rn2
       have hlen:(os1++os2).length=Qs.length:=by
        rw[q4]
        have:((os1++os2).map (·.1)).length=((on1++on2).map (·.1)).length:=by simp[E1',E2]
        simpa using this
       have hidx:(y1++y2).map (·.1)=List.range' 0 Qs.length:=by
        rw[←hy,QgJ,hlen]
       have hyl:(y1++y2).length=Qs.length:=by
        have:=congrArg List.length hidx
        simpa using this
       let oA:=y1++y2
       let ρ':Rho:=fun id=>if id<s0.nx then ρ2 id else(oA[id-s0.nx]?).map (·.2)
       have hag:∀i,ρ0 i≠none→ρ' i=ρ2 i:=fun i hi=>by
        cases hp:ρ0 i with
        |none=>exact absurd hp hi
        |some p=>simp only[ρ'];rw[if_pos (h0.dom i p hp)]
       have hin:∀i,i∈s0.L.map (·.1)→ρ' i=ρ2 i:=fun i hi=>by
        obtain⟨e,he,rfl⟩:=List.mem_map.1 hi
        simp only[ρ'];rw[if_pos (h0.idlt he)]
       have hbd:∀b n i,bet ρ2 m2.bd b=some n→lookA (ptBd s0 q.pt) b=some i→ρ' i=some (.blk n):=by
        intro b n i hb hi
        rw[hag i (Qmb h0 hi)]
        unfold bet at hb
        rw[M2.bd _ _ (M1.bd _ _ hi)]at hb
        simp only at hb
        split at hb
        ·rename_i m hm;cases hb;exact hm
        ·cases hb
       have hown:∀k x,oA[k]?=some x→ρ' (s0.nx+k)=some x.2:=by
        intro k x hx
        simp only[ρ']
        rw[if_neg (by omega),Nat.add_sub_cancel_left,hx]
        rfl
       obtain⟨I1,X1,X2⟩:=QnF q.tm _ i1 E1 dn1 y1 dn2 hi1 (by rw[hpu]) PA
       obtain⟨I2,Y1,Y2⟩:=QnG q.bl i1 i2 N1 dn2 y2 Bq1 [] hi2 (by rw[I1.dy];simp) PB
       have R1:=X2 ρ' hbd (fun k x hx=>hown k x (by simp only[oA];rw[List.getElem?_append_left (List.getElem?_eq_some_iff.1 hx).1];exact hx))
       have hI1:i1.nx=s0.nx+y1.length:=I1.nx
       have R2:=Y2 ρ' hbd (fun k x hx=>by
        rw[hI1,Nat.add_assoc]
        exact hown _ x (by simp only[oA];rw[List.getElem?_append_right (Nat.le_add_right _ _),Nat.add_sub_cancel_left];exact hx)) hin
       have hI2:i2.nx=s0.nx+oA.length:=by rw[I2.nx,hI1];simp only[oA,List.length_append];omega
       obtain⟨eo,eoL,eoO⟩:=(I1.trans I2).L
       have eoL:i2.L=eo.reverse:=by rw[eoL];simp
       have eoO:OEs (OwQ Qs D2) s0.nx oA eo:=eoO
       obtain⟨eid1,eid2⟩:=Qi8 eoO
       have R4:RLs ρ' D2 eo Qs:=by
        have:=Qi7 (ρ:=ρ') (j:=0) eoO (by rw[show oA.map (·.1)=List.range' 0 Qs.length from hidx,hyl]) (by rw[Nat.zero_add];exact hyl) hown
        simpa using this
       have R5:RLs ρ' D2 (Qgm q s0) Bq2:=QkG hag (fun e he=>Qjb h0.l (QdS.subset he)) r2
       subst hi
       have hLL:RLs ρ' D2 (N1++(i2.L++Qgm q s0)) (Bq1++(Qs.reverse++Bq2)):=by
        rw[eoL]
        exact Zx R2 (Zx (Qi6 R4) R5)
       have hNid:N1.map (·.1)=es1.map (·.1):=by
        rw[QqE (ρ:=ρ) (w:=w) (m:=s) hm2 N1 i1 _ i2 hi2,←f1]
        simp
       have hkl:∀e∈Qgm q s0,e∈s0.L:=fun e he=>QdS.subset he
       have hall:∀e∈N1++(i2.L++Qgm q s0),e∈s0.L∨(s0.nx≤e.2.1∧e.2.1<i2.nx+1):=by
        intro e he
        rcases List.mem_append.1 he with he|he
        ·have:=(Y1 e he).1;exact .inr ⟨by omega,by omega⟩
        rcases List.mem_append.1 he with he|he
        ·rw[eoL,List.mem_reverse]at he
         have h1:=eid2 e he
         have h2:e.1∈eo.map (·.1):=List.mem_map.2 ⟨e,he,rfl⟩
         rw[eid1,List.mem_range'_1]at h2
         exact .inr ⟨by omega,by omega⟩
        ·exact .inl (hkl e he)
       have hnd:((N1++(i2.L++Qgm q s0)).map (·.1)).Nodup:=by
        have n1:(es1.map (·.1)++(Qgm q s0).map (·.1)).Nodup:=by
         rw[←List.map_append]
         exact(((b6.map (·.1)).nodup_iff.1 hn1).sublist ((List.sublist_append_left _ _).map _))
        rw[List.nodup_append]at n1
        have n2:∀x∈N1.map (·.1),x<s0.nx:=fun x hx=>by
         obtain⟨e,he,rfl⟩:=List.mem_map.1 hx
         obtain⟨e',he',h2⟩:=List.mem_map.1 (Y1 e he).2
         rw[←h2];exact h0.idlt he'
        have n3:∀x∈(Qgm q s0).map (·.1),x<s0.nx:=fun x hx=>by obtain⟨e,he,rfl⟩:=List.mem_map.1 hx;exact h0.idlt (hkl e he)
        rw[List.map_append,List.map_append,eoL,List.map_reverse,eid1]
        rw[List.nodup_append,List.nodup_append]
        refine⟨by rw[hNid];exact n1.1,⟨(List.reverse_perm _).nodup_iff.2 List.nodup_range',n1.2.1,?_⟩,?_⟩
        ·intro x hx y hy
         rw[List.mem_reverse,List.mem_range'_1]at hx
         have:=n3 y hy
         omega
        ·intro x hx y hy
         have:=n2 x hx
         rcases List.mem_append.1 hy with hy|hy
         ·rw[List.mem_reverse,List.mem_range'_1]at hy;omega
         ·rw[hNid]at hx;exact n1.2.2 x hx y hy
       have hE1:∀t sv,lookA E1 t=some sv→mask.testBit t=true:=fun t sv ht=>by
        have:t∈E1.map (·.1):=List.mem_map.2 ⟨_,Yr ht,rfl⟩
        rw[X1]at this
        exact QqF htm t this
       refine⟨⟨ρ',D2,_,R,⟨fun i p hp=> ?_,fun j p hj=> ?_,fun e he=> ?_,hnd,H.size,H.ds,fun t sv ht=> ?_,hLL,hS2,(by have e:=Qc hmd;show ct.fr.p s0.md.m D2 a R;rw[←e];exact H.fr),fun id n t c hid=> ?_,⟨by show ct.nb≤i2.nx+1;have:=h0.ex.1;omega,fun i hi hn=>by have:=h0.ex.1;simp only[ρ'];rw[if_pos (by omega)];exact H.ex.2 i hi hn⟩,h0.o⟩⟩,⟨fun t ht sv hl=> ?_,?_,fun id v sb hl hv=> ?_⟩⟩
       ·have h3:=h0.rb i p hp
        rw[hag i (by rw[h3];simp)]
        exact H.rb i p hp
       ·show j<i2.nx+1
        simp only[ρ']at hj
        split at hj
        ·omega
        ·obtain⟨x,hx,_⟩:=Option.map_eq_some_iff.1 hj
         have:=(List.getElem?_eq_some_iff.1 hx).1
         omega
       ·show e.2.1<i2.nx+1
        rcases hall e he with h1|h1
        ·have:=h0.ver e h1;omega
        ·exact h1.2
       ·simp only[jv]at ht
        cases h1:lookA E1 t with
        |some sv1=>
         rw[h1]at ht
         simp only[Option.some_or,Qa]at ht
         subst ht
         exact R1 t _ h1
        | none=>
         rw[h1,Option.none_or,QcR]at ht
         split at ht
         ·cases ht
         ·rename_i hb
          obtain⟨sv',g1,g2⟩:=hx.e t (by simpa using hb) sv ht
          obtain⟨v,g3,g4⟩:=h.e t sv' g1
          obtain⟨v0,_,g5⟩:=h0.e t sv ht
          exact⟨v,g3,Qtb hag g5 (JL hr2 hd2 (g2 _ _ _ g4))⟩
       ·have k0:=(h0.ini id n t c hid).1
        have hlt:=h0.dom _ _ k0
        obtain⟨k1,k2⟩:=H.ini id n t c hid
        refine⟨by rw[hag id (by rw[k0];simp)];exact k1,fun b hl=> ?_⟩
        have hmem:=Yr hl
        rcases List.mem_append.1 hmem with he|he
        ·have h1:id=s0.nx:=(Y1 _ he).1
         omega
        rcases List.mem_append.1 he with he|he
        ·rw[eoL,List.mem_reverse]at he
         have h2:id∈eo.map (·.1):=List.mem_map.2 ⟨_,he,rfl⟩
         rw[eid1,List.mem_range'_1]at h2
         omega
        ·exact k2 b (Yc (hesm _ (List.mem_append_right _ he)) H.nd)
       ·refine⟨sv,?_,fun _ _ _ h=>h⟩
        show lookA (E1++filE mask s0.E) t=some sv
        rw[jv,QcR,if_neg (by simp[ht]),hl]
        cases h1:lookA E1 t with
        |some sv1=>rw[hE1 t sv1 h1]at ht;cases ht
        |none=>rfl
       ·show s0.nx≤i2.nx+1;omega
       ·rcases hall _ (Yr hl)with h1|h1
        ·exact Yc h1 h0.nd
        ·have h2:s0.nx≤v:=h1.1
         omega
      ·cases hi
     ·cases hi
    ·cases ha
   ·cases ha
  ·cases ha
 ·cases ha
end
section
variable {T:Tb}{C:Cx T}{ct:Ct}{ρ:Rho}{D:Snap}{Lv R:List Blk}{s:SS T}{a:Act}{w:World}
variable {rd:Option Nat}{ops:Array Oper}{Q:Exit→Act→World→Prop}{i:Nat}{o:Oper}{Cn:Act→World→Prop}
theorem Qbq{a b:Nat}(h:Nat.blt a b=true):a<b:=by rw[Nat.blt_eq]at h;exact h
def Rho.cut(ρ:Rho)(n:Nat):Rho:=fun i=>if i<n then ρ i else none
theorem Rho.cut_le(ρ:Rho)(n:Nat):(ρ.cut n).le ρ:=fun i p h=>by
 unfold Rho.cut at h
 split at h
 ·exact h
 ·cases h
theorem Rho.cut_at{ρ:Rho}{n i:Nat}(h:i<n):ρ.cut n i=ρ i:=if_pos h
theorem Rho.cut_mono{ρ ρ':Rho}{n m:Nat}(h:∀i p,i<n→ρ i=some p→ρ' i=some p)(hn:n≤m):(ρ.cut n).le (ρ'.cut m):=fun i p hp=>by
 unfold Rho.cut at hp
 split at hp
 ·rename_i hi
  rw[Rho.cut_at (by omega)]
  exact h i p hi hp
 ·cases hp
theorem Rho.cut_id{ρ:Rho}{n:Nat}(h:∀i p,ρ i=some p→i<n):ρ.cut n=ρ:=funext fun i=>by
 unfold Rho.cut
 split
 ·rfl
 ·rename_i hi
  cases hp:ρ i with
  |none=>rfl
  |some p=>exact absurd (h i p hp) hi
theorem QqG{n:Nat}:∀(sv:SV T) (m:Bool) (c:List Value),idB n sv=true→RX ρ D sv m c→RX (ρ.cut n) D sv m c:=by
 intro sv
 induction sv with
 |dt t x=>exact fun m c _ h=>h
 |kb b=>exact fun _ _ _ h=>h
 |raw v=>exact fun _ _ _ h=>h
 |nils=>exact fun _ _ _ h=>h
 |agg l ih=>exact fun m c hi h=>ih false c hi h
 |tup l ih=>exact fun m c hi ⟨vs,h,e⟩=>⟨vs,ih true vs hi h,e⟩
 |fn f l ih=>exact fun m c hi ⟨vs,h,e⟩=>⟨vs,ih true vs hi h,e⟩
 |nl=>exact fun _ _ _ h=>h
 | cs h t ih1 ih2=>
  intro m c hi hc
  have hi:(idB n h&&idB n t)=true:=hi
  rw[Qd]at hi
  cases m with
  |false=>obtain⟨c1,c2,e,h1,h2⟩:=hc;exact⟨c1,c2,e,ih1 _ _ hi.1 h1,ih2 _ _ hi.2 h2⟩
  |true=>
   obtain⟨v,c2,e,h1,h2⟩:=hc
   refine⟨v,c2,e,?_,ih2 _ _ hi.2 h2⟩
   cases ha:agS h with
   |true=>rw[ha]at h1;obtain⟨c1,h3,h4⟩:=h1;exact⟨c1,ih1 _ _ hi.1 h3,h4⟩
   |false=>rw[ha]at h1;exact ih1 _ _ hi.1 h1
 |ptr b off=>exact fun _ _ hi ⟨m,h,e⟩=>⟨m,by rw[Rho.cut_at (Qbq hi)];exact h,e⟩
 |cell t x=>exact fun _ _ _ h=>h
 |own o=>exact fun _ _ hi ⟨A,cap,len,h,e⟩=>⟨A,cap,len,by rw[Rho.cut_at (Qbq hi)];exact h,e⟩
 |elt o i off es=>exact fun _ _ hi ⟨b,cap,len,h,e⟩=>⟨b,cap,len,by rw[Rho.cut_at (Qbq hi)];exact h,e⟩
 |ela b off i n' k=>exact fun _ _ hi ⟨m,h,e⟩=>⟨m,by rw[Rho.cut_at (Qbq hi)];exact h,e⟩
 |eva b off i n' y fo=>exact fun _ _ hi ⟨m,h,e⟩=>⟨m,by rw[Rho.cut_at (Qbq hi)];exact h,e⟩
 |sla b p k n'=>exact fun _ _ hi ⟨m,h,e⟩=>⟨m,by rw[Rho.cut_at (Qbq hi)];exact h,e⟩
 |yld i=>exact fun _ _ hi ⟨m,h,e⟩=>⟨m,by rw[Rho.cut_at (Qbq hi)];exact h,e⟩
 |mp ks l ih=>exact fun m c hi ⟨r,es,clk,e,h1,h2,h3⟩=>⟨r,es,clk,e,h1,h2,ih _ _ hi h3⟩
theorem QqH{n:Nat}{sv:SV T}{v:Value}(hi:idB n sv=true)(h:RV ρ D sv v):RV (ρ.cut n) D sv v:=by
 unfold RV at h⊢
 cases ha:agS sv with
 |true=>rw[ha]at h;obtain⟨c,h1,h2⟩:=h;exact⟨c,QqG _ _ _ hi h1,h2⟩
 |false=>rw[ha]at h;exact QqG _ _ _ hi h
theorem Qmc{n id:Nat}{b:SB T}{q:Blk}(hn:id<n)(hi:idBB n b=true)(h:RBk ρ D id b q):RBk (ρ.cut n) D id b q:=by
 cases b with
 |var t v=>obtain⟨m,c,h1,h2,h3⟩:=h;exact⟨m,c,by rw[Rho.cut_at hn];exact h1,QqG _ _ _ hi h2,h3⟩
 |own t e xs f=>obtain⟨A,cap,h1,h2⟩:=h;exact⟨A,cap,by rw[Rho.cut_at hn];exact h1,h2⟩
 |lnt t xs=>obtain⟨A,cap,h1,h2⟩:=h;exact⟨A,cap,by rw[Rho.cut_at hn];exact h1,h2⟩
theorem QqI{n:Nat}:∀{L:List (Nat×Nat×SB T)} {Ls:List Blk},(∀e∈L,∀q,RBk ρ D e.1 e.2.2 q→RBk (ρ.cut n) D e.1 e.2.2 q)→RLs ρ D L Ls→RLs (ρ.cut n) D L Ls
 | [],_,_,h=>h
 |e::_,_,hc,⟨q,Ls',h1,h2,h3⟩=>⟨q,Ls',h1,hc e List.mem_cons_self q h2,QqI (fun e' he=>hc e' (List.mem_cons_of_mem _ he)) h3⟩
theorem Qjc{L L':List (Nat×Nat×SB T)}(hp:L.Perm L'):∀{Ls:List Blk},RLs ρ D L Ls→∃Ls',Ls.Perm Ls'∧RLs ρ D L' Ls':=by
 induction hp with
 |nil=>exact fun h=>⟨_,List.Perm.refl _,h⟩
 |cons x _ ih=>rintro Ls ⟨q,Ls',rfl,h2,h3⟩;obtain⟨Z,h4,h5⟩:=ih h3;exact⟨q::Z,h4.cons q,q,Z,rfl,h2,h5⟩
 |swap x y l=>rintro Ls ⟨q,Ls',rfl,h2,q1,Ls1,rfl,h4,h5⟩;exact⟨q1::q::Ls1,List.Perm.swap _ _ _,q1,_,rfl,h4,q,Ls1,rfl,h2,h5⟩
 |trans _ _ ih1 ih2=>intro Ls h;obtain⟨Z,h1,h2⟩:=ih1 h;obtain⟨Z',h3,h4⟩:=ih2 h2;exact⟨Z',h1.trans h3,h4⟩
theorem QoE{L L':List (Nat×Nat×SB T)}(hp:L.Perm L')(hn:(L.map (·.1)).Nodup){id:Nat}{x:Nat×SB T}(h:lookA L' id=some x):lookA L id=some x:=
 Yc (x:=(id,x)) (hp.symm.subset (Yr h)) hn
theorem RSx.perm{L':List (Nat×Nat×SB T)}(h:RSx ct ρ D Lv R s a w)(hp:s.L.Perm L'):∃Lv',RSx ct ρ D Lv' R {s with L:=L'} a w:=by
 obtain⟨Lv',h1,h2⟩:=Qjc hp h.l
 exact⟨Lv',h.rb,h.dom,fun e he=>h.ver e (hp.symm.subset he),(hp.map _).nodup_iff.1 h.nd,h.size,h.ds,h.e,h2,h.st.prm (List.Perm.append_right R h1),h.fr,
  fun id n t c hi=>⟨(h.ini id n t c hi).1,fun b hl=>(h.ini id n t c hi).2 b (QoE hp h.nd hl)⟩,h.ex,h.o⟩
def frD(ct:Ct)(md:Nat)(D0:Snap)(dst:Option Tmp)(a0:Act)(Lh Rh:List Blk):Frm where
 p:=fun _ D' a' R'=>D0.le D'∧(∀x,dst≠some x→a'.tmps[x]?=a0.tmps[x]?)∧a'.defers=a0.defers∧∃R0,R'=Lh++R0∧(∀q∈Rh,q∈R0)∧ct.fr.p md D' a' R0
 t:=fun x=>dst≠some x∨ct.fr.t x
 mono:=fun hd ⟨h1,h2,h5,R0,h3,h6,h4⟩=>⟨h1.trans hd,h2,h5,R0,h3,h6,ct.fr.mono hd h4⟩
 put:=fun{_ _ _ _ _ d} ht hs he ⟨h1,h2,h5,R0,h3,h6,h4⟩=>by
  refine⟨h1,fun x hx=> ?_,he.trans h5,R0,h3,h6,ct.fr.put (fun x hx hn=>ht x hx (.inr hn)) hs he h4⟩
  rw[hs x fun e=>ht x e (.inl hx)]
  exact h2 x hx
theorem Qxo(hC:CxSp C ct)(hfr:∀x,o.dst=some x→ ¬ct.fr.t x){α:Type}{k:SS T→Option α}{r:α}(h:RSx ct ρ D Lv R s a w)(ho:ops[i]?=some o)(hd:JI ct.n o.dst=true)(hs:exD C ops o s k=some r)
  (hk:∀s' a' w',Ext s s'→k s'=some r→RS ct s' a' w'→Cn a' w'):Op1 C.P rd ops Q i Cn a w:=by
 have hgd:=QkE (ops:=ops) h o
 unfold exD at hs
 split at hs
 ·rename_i hgs
  rw[hgs]at hgd
  exact QnC hC hfr h ho hgd hd hs hk
 ·rename_i hgs
  rw[hgs]at hgd
  exact Qet hfr h ho hgd hd fun a' h'=>hk _ a' w (Ext.put _ _ _) hs h'
 ·rename_i t b wt hgs
  rw[hgs]at hgd
  obtain⟨hl,hgd⟩:=hgd
  cases b with
  |true=>
   simp only[Qg]at hs
   have h1:=h.know hl rfl
   cases wt with
   |true=>exact QnC hC hfr h1 ho hgd hd hs fun s' a' w' hx=>hk s' a' w' ((Ext.know _ _ _).trans hx)
   |false=>exact Qet hfr h1 ho hgd hd fun a' h'=>hk _ a' w ((Ext.know _ _ _).trans (Ext.put _ _ _)) hs h'
  |false=>
   simp only[Qh]at hs
   have h1:=h.know hl rfl
   cases wt with
   |true=>exact Qet hfr h1 ho hgd hd fun a' h'=>hk _ a' w ((Ext.know _ _ _).trans (Ext.put _ _ _)) hs h'
   |false=>exact QnC hC hfr h1 ho hgd hd hs fun s' a' w' hx=>hk s' a' w' ((Ext.know _ _ _).trans hx)
 ·cases hs
def EvO(C:Cx T)(ops:Array Oper)(o:Oper)(kd:Nat)(r r':SS T):Prop:=exD C ops o r some=some r'∨∃q y,panD C o kd r=some q∧q.x=some (.inr y)∧q.f y=some r'
theorem Qxp(hC:CxSp C ct)(hfr:∀x,o.dst=some x→ ¬ct.fr.t x){kd:Nat}{r':SS T}(h:RSx ct ρ D Lv R s a w)(ho:ops[i]?=some o)(hd:JI ct.n o.dst=true)(hs:EvO C ops o kd s r')
  (hk:∀a' w',Ext s r'→RS ct r' a' w'→Cn a' w'):Op1 C.P rd ops Q i Cn a w:=by
 rcases hs with h1|⟨q,y,h1,h2,h3⟩
 ·exact Qxo hC hfr h ho hd h1 fun s' a' w' hx hs'=>by cases hs';exact hk a' w' hx
 ·unfold panD at h1
  split at h1
  ·rename_i hg
   exact Qma (kp:=fun _ _ _=>none) (k:=some) (r:=r') hC hfr h ho (by unfold guardOf;rw[hg]) hd h1 (by unfold POut.run sm;rw[h2];simp only[h3]) (fun s' a' w' hx hs'=>by cases hs';exact hk a' w' hx) (fun _ _ _ _ _ h=>by cases h)
  ·cases h1
theorem Qjd{β:Type}:∀{X Y:List β},X.Nodup→(∀e∈X,e∈Y)→∃H,Y.Perm (X++H)
 | [],Y,_,_=>⟨Y,List.Perm.refl _⟩
 | x::X,Y,hn,h=>by
  rw[List.nodup_cons]at hn
  obtain⟨A,B,rfl⟩:=List.append_of_mem (h x List.mem_cons_self)
  obtain⟨H,hH⟩:=Qjd (X:=X) (Y:=A++B) hn.2 fun e he=>by
   have h1:=h e (List.mem_cons_of_mem _ he)
   rcases List.mem_append.1 h1 with h2|h2
   ·exact List.mem_append_left _ h2
   ·rcases List.mem_cons.1 h2 with rfl|h2
    ·exact absurd he hn.1
    ·exact List.mem_append_right _ h2
  exact⟨H,List.perm_middle.trans (hH.cons x)⟩
theorem Zy{L:List (Nat×Nat×SB T)}(h:(L.map (·.1)).Nodup):L.Nodup:=by
 unfold List.Nodup at h⊢
 rw[List.pairwise_map]at h
 exact h.imp fun hx e=>hx (by rw[e])
theorem QnH(hC:CxSp C ct)(hfr:∀x,o.dst=some x→ ¬ct.fr.t x){L H:List (Nat×Nat×SB T)}{N:Nat}{md:Md T}{r s':SS T}{G:Prop}(h:RSx ct ρ D Lv R ⟨[],L,N,md⟩ a w)(hL:L.Perm (r.L++H))
  (hE:∀t sv,lookA r.E t=some sv→∃v,a.tmps[t]?=some v∧RV (ρ.cut r.nx) D sv v)
  (hcL:∀e∈r.L,∀q,RBk ρ D e.1 e.2.2 q→RBk (ρ.cut r.nx) D e.1 e.2.2 q) (hver:∀e∈r.L,e.2.1<r.nx) (hro:∀t sv,lookA r.md.O t=some sv→∀b∈QbV sv,(ρ.cut r.nx) b≠none)
  (hini:∀id n t c,ct.ini id=some (n,t,c)→id<r.nx) (hnb:ct.nb≤r.nx) (hfree:∀id,r.nx≤id→id<s'.nx→ρ id=none) (hN:s'.nx≤N)
  (hid:∀e∈s'.L,r.nx≤e.1∨∃x,lookA r.L e.1=some x)
  (hrun:∀ct':Ct,CxSp C ct'→(∀x,o.dst=some x→ ¬ct'.fr.t x)→ct'.n=ct.n→(∃Lr Rr,RSx ct' (ρ.cut r.nx) D Lr Rr r a w)→(∀a' w',Ext r s'→RS ct' s' a' w'→Cn a' w')→G)
  (hk:∀ρ' D' Lv' R' a' w',ρ.le ρ'→D.le D'→(∀id p,ρ' id=some p→ρ id=some p∨(r.nx≤id∧id<s'.nx))→RSx ct ρ' D' Lv' R' ⟨[],s'.L++H,N,md⟩ a' w'→(∀x,o.dst≠some x→a'.tmps[x]?=a.tmps[x]?)→
   (∀t sv,lookA s'.E t=some sv→∃v,a'.tmps[t]?=some v∧RV ρ' D' sv v)→Ext r s'→(∀e∈s'.L,e.2.1<s'.nx)→Cn a' w'):G:=by
 obtain⟨Lp,hp1,hp2⟩:=Qjc hL h.l
 obtain⟨Lr,Lh,rfl,hl1,hl2⟩:=QdT hp2
 have hnd:((r.L++H).map (·.1)).Nodup:=(hL.map _).nodup_iff.1 h.nd
 have hnd':(r.L.map (·.1)).Nodup∧(H.map (·.1)).Nodup∧∀x∈r.L.map (·.1),∀y∈H.map (·.1),x≠y:=by rw[List.map_append,List.nodup_append]at hnd;exact hnd
 let ct':Ct:={ct with rb:=ρ.cut r.nx,nb:=r.nx,fr:=frD ct md.m D o.dst a Lh R}
 have hC':CxSp C ct':=⟨⟨hC.tb,hC.gl⟩,hC.sp,hC.n,hC.rv,hC.mp⟩
 have hS1:Stp ct.g ct.w0 ct.D0 ct.L0 w D (Lr++(Lh++R)):=by
  have:=h.st.prm (List.Perm.append_right R hp1)
  rwa [List.append_assoc]at this
 have hR:RSx ct' (ρ.cut r.nx) D Lr (Lh++R) r a w:=by
  refine⟨Rho.le.refl _,fun j p hj=> ?_,hver,hnd'.1,h.size,DsOk.mono h.ds (fun q hq=>List.mem_append_right _ hq),hE,QqI hcL hl1,hS1,⟨Snap.le.refl _,fun _ _=>rfl,rfl,R,rfl,fun _ hq=>hq,h.fr⟩,fun id n t c hi=> ?_,⟨Nat.le_refl _,fun j _ hj=>hj⟩,hro⟩
  ·unfold Rho.cut at hj
   split at hj
   ·assumption
   ·cases hj
  ·obtain⟨h1,h2⟩:=h.ini id n t c hi
   refine⟨by rw[Rho.cut_at (hini id n t c hi)];exact h1,fun b hb=>h2 b ?_⟩
   exact Yc (x:=(id,id,b)) (hL.symm.subset (List.mem_append_left _ (Yr hb))) h.nd
 refine hrun ct' hC' (fun x hx hn=>hn.elim (fun e=>e hx) (hfr x hx)) rfl ⟨Lr,_,hR⟩ fun a' w' hx hS'=> ?_
 obtain⟨ρ2,D2,Lv2,R2,H2⟩:=hS'
 obtain⟨hd2,hslot,hdf,R0,rfl,hR0,hfr2⟩:=H2.fr
 let ρ':Rho:=fun id=>if r.nx≤id∧id<s'.nx then ρ2 id else ρ id
 have hle:ρ.le ρ':=fun id p hp=>by
  simp only[ρ']
  split
  ·rename_i hh;rw[hfree id hh.1 hh.2]at hp;cases hp
  ·exact hp
 have hlow:∀id,id<r.nx→ρ2 id=ρ id:=fun id hlt=>by
  cases hc:ρ id with
  |none=>exact H2.ex.2 id hlt (by show ρ.cut r.nx id=none;rw[Rho.cut_at hlt];exact hc)
  |some p=>exact H2.rb id p (by show ρ.cut r.nx id=some p;rw[Rho.cut_at hlt];exact hc)
 have hle2:ρ2.le ρ':=fun id p hp=>by
  have hlt:=H2.dom id p hp
  simp only[ρ']
  by_cases hh:r.nx≤id
  ·rw[if_pos ⟨hh,hlt⟩];exact hp
  ·rw[if_neg (fun e=>hh e.1),←hlow id (by omega)];exact hp
 have hnx:=hx.nx
 refine hk ρ' D2 (Lv2++Lh) R0 a' w' hle hd2 (fun id p hp=> ?_) ?_ hslot (fun t sv ht=> ?_) hx (fun e he=>H2.ver e he)
 ·simp only[ρ']at hp
  split at hp
  ·rename_i hh;exact .inr hh
  ·exact .inl hp
 ·have hdis:∀e∈s'.L,e.1∉H.map (·.1):=by
   intro e he hm
   rcases hid e he with h1|⟨x,hx1⟩
   ·obtain⟨p,hp⟩:=Qi2 H2.l he
    have hlt:=H2.dom _ _ hp
    obtain⟨f,hf,hfe⟩:=List.mem_map.1 hm
    obtain⟨p2,hp2⟩:=Qi2 h.l (hL.symm.subset (List.mem_append_right _ hf))
    rw[hfe,hfree _ h1 hlt]at hp2
    cases hp2
   ·exact hnd'.2.2 e.1 (List.mem_map.2 ⟨_,Yr hx1,rfl⟩) _ hm rfl
  have hndn:((s'.L++H).map (·.1)).Nodup:=by
   rw[List.map_append,List.nodup_append]
   refine⟨H2.nd,hnd'.2.1,fun x hx y hy e=> ?_⟩
   subst e
   obtain⟨e,he,rfl⟩:=List.mem_map.1 hx
   exact hdis e he hy
  have hS2:Stp ct.g ct.w0 ct.D0 ct.L0 w' D2 ((Lv2++Lh)++R0):=by
   rw[List.append_assoc];exact H2.st
  have hiniH:IniQ ct ρ' ⟨[],H,N,md⟩ w':=IniQ.mv (s:=⟨[],L,N,md⟩) h.ini hle hS1.st H2.st.st fun id b p hp hl=>by
   refine⟨Yc (x:=(id,id,b)) (hL.symm.subset (List.mem_append_right _ (Yr hl))) h.nd,?_⟩
   obtain⟨X,q,Y,e1,h1,_⟩:=qJ hl2 hl
   exact⟨q,D,h1,by rw[e1];simp,by rw[e1];simp⟩
  refine⟨h.rb.trans hle,fun j p hj=> ?_,fun e he=> ?_,hndn,H2.size,(by rw[hdf];exact DsOk.mono h.ds hR0),fun t sv ht=>(by cases ht),Zx (yj hle2 (Snap.le.refl _) H2.l) (yj hle hd2 hl2),hS2,ct.fr.mono (Snap.le.refl _) hfr2,fun id n t c hi=> ?_,⟨h.ex.1,fun j hj hn=> ?_⟩,h.o⟩
  ·show j<N
   simp only[ρ']at hj
   split at hj
   ·omega
   ·exact h.dom j p hj
  ·show e.2.1<N
   rcases List.mem_append.1 he with he|he
   ·have:=H2.ver e he;omega
   ·exact h.ver e (hL.symm.subset (List.mem_append_right _ he))
  ·refine⟨(hiniH id n t c hi).1,fun b hl=> ?_⟩
   have hl:lookA (s'.L++H) id=some (id,b):=hl
   rw[jv]at hl
   cases h1:lookA s'.L id with
   |some x=>
    rw[h1]at hl
    simp only[Option.some_or,Qa]at hl
    subst hl
    exact(H2.ini id n t c hi).2 b h1
   |none=>
    rw[h1,Option.none_or]at hl
    exact(hiniH id n t c hi).2 b hl
  ·have h1:ct.nb≤r.nx:=hnb
   simp only[ρ']
   rw[if_neg (by omega)]
   exact h.ex.2 j hj hn
 ·obtain⟨v,h1,h2⟩:=H2.e t sv ht
  exact⟨v,h1,JL hle2 (Snap.le.refl _) h2⟩
theorem QvQ(hC:CxSp C ct)(hfr:∀x,o.dst=some x→ ¬ct.fr.t x){L H:List (Nat×Nat×SB T)}{N:Nat}{md:Md T}{kd:Nat}{r r':SS T}(h:RSx ct ρ D Lv R ⟨[],L,N,md⟩ a w)(hL:L.Perm (r.L++H))
  (hE:∀t sv,lookA r.E t=some sv→∃v,a.tmps[t]?=some v∧RV (ρ.cut r.nx) D sv v)
  (hcL:∀e∈r.L,∀q,RBk ρ D e.1 e.2.2 q→RBk (ρ.cut r.nx) D e.1 e.2.2 q) (hver:∀e∈r.L,e.2.1<r.nx) (hro:∀t sv,lookA r.md.O t=some sv→∀b∈QbV sv,(ρ.cut r.nx) b≠none)
  (hini:∀id n t c,ct.ini id=some (n,t,c)→id<r.nx) (hnb:ct.nb≤r.nx) (hfree:∀id,r.nx≤id→id<r'.nx→ρ id=none) (hN:r'.nx≤N)
  (ho:ops[i]?=some o) (hd:JI ct.n o.dst=true) (hev:EvO C ops o kd r r') (hid:∀e∈r'.L,r.nx≤e.1∨∃x,lookA r.L e.1=some x)
  (hk:∀ρ' D' Lv' R' a' w',ρ.le ρ'→D.le D'→(∀id p,ρ' id=some p→ρ id=some p∨(r.nx≤id∧id<r'.nx))→RSx ct ρ' D' Lv' R' ⟨[],r'.L++H,N,md⟩ a' w'→(∀x,o.dst≠some x→a'.tmps[x]?=a.tmps[x]?)→
   (∀t sv,lookA r'.E t=some sv→∃v,a'.tmps[t]?=some v∧RV ρ' D' sv v)→Ext r r'→(∀e∈r'.L,e.2.1<r'.nx)→Cn a' w'):Op1 C.P rd ops Q i Cn a w:=
 QnH hC hfr h hL hE hcL hver hro hini hnb hfree hN hid (fun ct' hC' hfr' hn ⟨_,_,hR⟩ hk'=>Qxp hC' hfr' hR ho (by rw[hn];exact hd) hev hk') hk
theorem Qtd(hC:CxSp C ct)(hfr:∀x,o.dst=some x→ ¬ct.fr.t x){L H K:List (Nat×Nat×SB T)}{N:Nat}{md:Md T}{r:SS T}{E0:List (Nat×SV T)}(hE0:∀t sv,lookA E0 t=some sv→∃v,a.tmps[t]?=some v∧RV ρ D sv v)(h:RSx ct ρ D Lv R ⟨[],L,N,md⟩ a w)(hL:L.Perm (r.L++H))
  (hE:∀t sv,lookA r.E t=some sv→∃v,a.tmps[t]?=some v∧RV (ρ.cut r.nx) D sv v)
  (hcL:∀e∈r.L,∀q,RBk ρ D e.1 e.2.2 q→RBk (ρ.cut r.nx) D e.1 e.2.2 q) (hver:∀e∈r.L,e.2.1<r.nx) (hro:∀t sv,lookA r.md.O t=some sv→∀b∈QbV sv,(ρ.cut r.nx) b≠none)
  (hini:∀id n t c,ct.ini id=some (n,t,c)→id<r.nx) (hnb:ct.nb≤r.nx) {q:POut T} (hfree:∀id,r.nx≤id→id<q.s.nx→ρ id=none) (hN:q.s.nx≤N)
  (hid:∀e∈q.s.L,r.nx≤e.1∨∃x,lookA r.L e.1=some x) (hgd:o.guard=none) (ho:ops[i]?=some o) (hd:JI ct.n o.dst=true) {e:Int} (hq:panS C r o=some q) (hqe:q.x=some (.inl e)) (hK:(K.map (·.1)).Nodup) (hKs:Ext r q.s→∀e∈K,e∈q.s.L)
  (hp:∀w',RS ct ⟨E0,K,N,md⟩ a w'→Q (.panic [{v:=pvV q.v e,recovered:=false}]) a w'):Op1 C.P rd ops Q i Cn a w:=by
 refine QnH (s':=q.s) (Cn:=fun a' w'=>a'=a→Q (.panic [{v:=pvV q.v e,recovered:=false}]) a' w') hC hfr h hL hE hcL hver hro hini hnb hfree hN hid (fun ct' hC' hfr' hn ⟨_,_,hR⟩ hk'=> ?_) fun ρ' D' Lv' R' a' w' hle hd' _ hcore hslot _ hx _ ha=> ?_
 ·refine Qma (k:=fun _=>(none:Option ((TypeId×Bool)×Int×SS T))) (r:=(q.v,e,q.s)) (kp:=fun x e' s'=>some (x,e',s')) hC' hfr' hR ho (by unfold guardOf;rw[hgd]) (by rw[hn];exact hd) hq (by unfold POut.run sm;rw[hqe]) (fun _ _ _ _ h=>by cases h) fun x e' s' w' hx hke hS'=> ?_
  simp only[Qa,Qe]at hke
  obtain⟨rfl,rfl,rfl⟩:=hke
  exact hk' a w' hx hS' rfl
 ·subst ha
  obtain⟨X,hX⟩:=Qjd (Zy hK) fun e he=>List.mem_append_left H (hKs hx e he)
  obtain⟨Lw,h1,h2⟩:=Qjc hX hcore.l
  obtain⟨Y,Z,rfl,h3,h4⟩:=QdT h2
  have hS2:=hcore.st.prm (List.Perm.append_right R' (h1.trans List.perm_append_comm))
  rw[List.append_assoc]at hS2
  refine hp w' ⟨ρ',D',Y,R',hcore.rb,hcore.dom,fun e he=>hcore.ver e (hX.symm.subset (List.mem_append_left _ he)),hK,hcore.size,hcore.ds,fun t sv ht=>(hE0 t sv ht).imp fun v hv=>⟨hv.1,JL hle hd' hv.2⟩,h3,hS2.drops,hcore.fr,fun id n t c hi=> ?_,hcore.ex,hcore.o⟩
  obtain⟨g1,g2⟩:=hcore.ini id n t c hi
  exact⟨g1,fun b hb=>g2 b (Yc (x:=(id,id,b)) (hX.symm.subset (List.mem_append_left _ (Yr hb))) hcore.nd)⟩
end
end Go.Sep
