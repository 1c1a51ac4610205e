/-
 Symbolic execution: what was lent for a while lies free again, when nothing is left that speaks of it.
-/
import Derived.Test.YtomndohdnfebgaaGreatDoorSxX
set_option linter.unusedVariables false
set_option linter.unusedSimpArgs false
namespace Go.Sep
theorem Stp.thaw{g w0 w w1:World}{D0 Df D1:Snap}{L0 L1 L L':List Blk}(h:Stp g w0 D0 L0 w1 Df L1)(h':Stp g w0 D0 L0 w D1 L)(hd:Df.le D1)
  (hL:∀b o,some (b,o)∈L'→∃o',some (b,o')∈L∧o'.1=o.1) (hn:(ids L').Nodup) (hl:∀b o p,some (b,o)∈L'→Df b=some p→Qf9 o.2 p):Stp g w0 D0 L0 w Df L':=by
 refine⟨h'.keep,h'.size,h.dle,h.dnew,⟨h'.st.os,h'.st.tape,h'.st.output,fun b o hb=> ?_,fun b o hb=>⟨?_,fun p hp=>hl b o p hb hp⟩,hn⟩,fun b hb=>h'.lnew b ?_⟩
 ·obtain⟨o1,h1,h2⟩:=hd b o hb
  obtain⟨o2,h3,h4⟩:=h'.st.d b o1 h1
  exact⟨o2,h3,Qij h2 h4⟩
 ·obtain⟨o',h1,h2⟩:=hL b o hb
  rw[←h2]
  exact(h'.st.l b o' h1).1
 ·obtain⟨o,ho⟩:=Qa3.1 hb
  obtain⟨o',h1,_⟩:=hL b o ho
  exact Qa3.2 ⟨o',h1⟩
theorem Qq1{n:Nat}{p p1:Obj}(h:Qf9 n p1)(hp:opre p p1):Qf9 n p:=by
 cases p with
 |cells C T fr=>
  obtain⟨C',T',fr',rfl,h1⟩:=hp
  obtain⟨C2,T2,fr2,e,h2⟩:=h
  cases e
  refine⟨C,T,fr,rfl,?_⟩
  apply Nat.le_of_not_lt
  intro hlt
  have h3:=h1 n C[n] (by rw[Array.getElem?_eq_getElem])
  have h4:=(Array.getElem?_eq_some_iff.1 h3).1
  omega
 |_=>have hp:p1=_:=hp;rw[hp]at h;exact h
def QxB:Blk→Blk→Prop
 |none,q'=>q'=none
 |some (b,o),q'=>∃k,q'=some (b,(o.1,k))
theorem Stp.lentQ{f:Bool}{α:Type}{K:Kd α}{T:TypeId}{A:Option Addr}{cap:Nat}{l:List α}{q:Blk}{g w w0:World}{D D0 Da:Snap}{L L0:List Blk}
  (hS:Stp g w0 D0 L0 w D (q::L)) (h:OwnX f K T Da A cap l q) (hd:Da.le D):∃D' q',D.le D'∧Stp g w0 D0 L0 w D' (q'::L)∧QxB q q'∧Sl K D' A cap l:=by
 have h:=h.mono hd
 have hlc:=h.lc
 obtain⟨cs,h,hr⟩:=h
 cases q with
 |none=>exact⟨D,none,Snap.le.refl D,hS,rfl,hlc.1,hlc.2,cs,hr,h.2.2.1⟩
 |some p=>
  obtain⟨b,o⟩:=p
  obtain⟨rfl,h1,h2,h3,c,k,rfl,h4,_,h5,h6⟩:=h
  obtain⟨hle,hS'⟩:=hS.lend (l.length*K.n) h4
  refine⟨_,_,hle,hS',⟨_,rfl⟩,h1,h2,cs,hr.mono hle,.inr ⟨b,0,(c.toList.take (l.length*K.n)).toArray,T,(0,0),rfl,by simp[Snap.ins],?_⟩⟩
  intro j u hu
  rw[h6,Nat.zero_add]
  simpa using hu
section
variable {T:Tb}{C:Cx T}{ct:Ct}{ρ:Rho}{D:Snap}{Lv R:List Blk}{s:SS T}{a:Act}{w:World}
def plT(T:Tb):Nat→Ty→Bool
 |0,_=>false
 |_+1,.sl _=>false
 |f+1,.st n=>(T.fs n).all (plT T f)
 |f+1,.vec _ t=>plT T f t
 |_+1,_=>true
theorem Qv0{α:Type}{K:Kd α}{D D':Snap}(hK:∀x c,K.r D x c→K.r D' x c):∀(l:List α) (c:List Value),RL K D l c→RL K D' l c
 | [],_,h=>h
 |_::l,_,⟨c1,c2,e,h1,h2⟩=>⟨c1,c2,e,hK _ _ h1,Qv0 hK l c2 h2⟩
theorem QuR{D D':Snap}{f:Ty→Bool}(hf:∀t,f t=true→∀(x:den T.ty t) (c:List Value),(kdT T t).r D x c→(kdT T t).r D' x c):∀(ts:List Ty),ts.all f=true→∀(p:TU T.ty ts) (c:List Value),(kdU T ts).r D p c→(kdU T ts).r D' p c
 | [],_,_,_,h=>h
 | [t],ht,x,c,h=>hf t (by simpa using ht) x c h
 |t::t'::ts,ht,p,c,⟨c1,c2,e,h1,h2⟩=>by
  simp only[List.all_cons,Qd]at ht
  exact⟨c1,c2,e,hf t ht.1 _ _ h1,QuR hf (t'::ts) (by simpa using ht.2) _ _ h2⟩
theorem Qtp(hT:TbOk T){D D':Snap}:∀(f:Nat) (t:Ty),plT T f t=true→∀(x:den T.ty t) (c:List Value),(kdT T t).r D x c→(kdT T t).r D' x c
 |0,_,h,_,_,_=>by cases h
 |f+1,.st n,h,x,c,hc=>(hT.kdE n D' x c).2 (QuR (fun t ht=>Qtp hT f t ht) _ h _ _ ((hT.kdE n D x c).1 hc))
 |f+1,.vec n t,h,x,c,hc=>⟨hc.1,Qv0 (Qtp hT f t h) _ _ hc.2⟩
 |f+1,.sl _,h,_,_,_=>by cases h
 |f+1,.int _,_,_,_,hc=>hc
 |f+1,.bool,_,_,_,hc=>hc
 |f+1,.str,_,_,_,hc=>hc
 |f+1,.arr _ _,_,_,_,hc=>hc
def plV:SV T→Bool
 | .dt t _=>plT T 20 t
 | .cell _ _=>false
 | .mp _ _=>false
 | .agg l=>plV l
 | .tup l=>plV l
 | .fn _ l=>plV l
 | .cs h t=>plV h&&plV t
 |_=>true
theorem Qq2(hT:TbOk T){D D':Snap}:∀(sv:SV T) (m:Bool) (c:List Value),plV sv=true→RX ρ D sv m c→RX ρ D' sv m c:=by
 intro sv
 induction sv with
 |dt t x=>exact fun _ c h hc=>Qtp hT 20 t h x c hc
 |cell t x=>exact fun _ c h=>by cases h
 |mp ks l ih=>exact fun _ c h=>by cases h
 |agg l ih=>exact fun m c h hc=>ih false c h hc
 |tup l ih=>rintro m c h ⟨vs,h1,e⟩;exact⟨vs,ih _ _ h h1,e⟩
 |fn f l ih=>rintro m c h ⟨vs,h1,e⟩;exact⟨vs,ih _ _ h h1,e⟩
 | cs x y ih1 ih2=>
  intro m c h hc
  unfold plV at h
  rw[Qd]at h
  cases m with
  |false=>
   obtain⟨c1,c2,e,h1,h2⟩:=hc
   exact⟨c1,c2,e,ih1 _ _ h.1 h1,ih2 _ _ h.2 h2⟩
  |true=>
   obtain⟨v,c2,e,h1,h2⟩:=hc
   refine⟨v,c2,e,?_,ih2 _ _ h.2 h2⟩
   cases ha:agS x with
   |true=>rw[ha]at h1;obtain⟨c1,h3,h4⟩:=h1;exact⟨c1,ih1 _ _ h.1 h3,h4⟩
   |false=>rw[ha]at h1;exact ih1 _ _ h.1 h1
 |_=>exact fun _ _ _ hc=>hc
theorem QxC(hT:TbOk T){D D':Snap}{sv:SV T}{v:Value}(h:plV sv=true)(hv:RV ρ D sv v):RV ρ D' sv v:=by
 unfold RV at hv⊢
 cases ha:agS sv with
 |true=>rw[ha]at hv;obtain⟨c1,h3,h4⟩:=hv;exact⟨c1,Qq2 hT _ _ _ h h3,h4⟩
 |false=>rw[ha]at hv;exact Qq2 hT _ _ _ h hv
def lntL:List (Nat×Nat×SB T)→List (Nat×Nat×SB T)
 | []=> []
 |(id,_,.own t _ xs _)::L=>(id,id,.lnt t xs)::lntL L
 |(id,_,b)::L=>(id,id,b)::lntL L
def scIn(s:SS T):SS T:={s with L:=lntL s.L}
def HdL(ρ:Rho)(D:Snap):List (Nat×Nat×SB T)→List Blk→List Blk→List Blk→Prop
 | [],A,B,H=>A= []∧B= []∧H= []
 |(id,_,.own t e xs f)::L,A,B,H=>∃q A' B' H' q',A=q::A'∧B=none::B'∧H=q'::H'∧QxB q q'∧RBk ρ D id (.own t e xs f) q∧HdL ρ D L A' B' H'
 |(id,_,b)::L,A,B,H=>∃q A' B',A=q::A'∧B=q::B'∧RBk ρ D id b q∧HdL ρ D L A' B' H
theorem QdZ:∀(L:List (Nat×Nat×SB T)),(lntL L).map (·.1)=L.map (·.1)
 | []=>rfl
 |(_,_,.own _ _ _ _)::L=>by simp[lntL,QdZ L]
 |(_,_,.var _ _)::L=>by simp[lntL,QdZ L]
 |(_,_,.lnt _ _)::L=>by simp[lntL,QdZ L]
theorem QfZ:∀(L:List (Nat×Nat×SB T)),∀e∈lntL L,e.2.1=e.1
 | [],_,h=>by cases h
 |(_,_,.own _ _ _ _)::L,e,h=>by
  rcases List.mem_cons.1 h with rfl|h
  ·rfl
  ·exact QfZ L e h
 |(_,_,.var _ _)::L,e,h=>by
  rcases List.mem_cons.1 h with rfl|h
  ·rfl
  ·exact QfZ L e h
 |(_,_,.lnt _ _)::L,e,h=>by
  rcases List.mem_cons.1 h with rfl|h
  ·rfl
  ·exact QfZ L e h
theorem QnO{g w0:World}{D0 Df:Snap}{L0:List Blk}:∀(L:List (Nat×Nat×SB T)) (A M:List Blk) (D:Snap),Df.le D→RLs ρ Df L A→Stp g w0 D0 L0 w D (A++M)→
  ∃D' B H,D.le D'∧Stp g w0 D0 L0 w D' (B++(H++M))∧RLs ρ D' (lntL L) B∧HdL ρ Df L A B H
 | [],A,M,D,hd,hl,hS=>by
  have hl:A= []:=hl
  subst hl
  exact⟨D, [], [],Snap.le.refl D,hS,rfl,rfl,rfl,rfl⟩
 |(id,ver,.own t e xs f)::L,A,M,D,hd,⟨q,A',e1,h1,h2⟩,hS=>by
  subst e1
  obtain⟨Aa,cap,h3,h4⟩:=h1
  obtain⟨D1,q',hd1,hS1,hq,hsl⟩:=hS.lentQ h4 hd
  obtain⟨D2,B,H,hd2,hS2,hl2,hh⟩:=QnO L A' (q'::M) D1 (hd.trans hd1) h2 (hS1.prm (List.perm_middle (l₁:=A')).symm)
  refine⟨D2,none::B,q'::H,hd1.trans hd2,(hS2.prm ?_).nils,⟨none,B,rfl,⟨Aa,cap,h3,hsl.mono hd2,rfl⟩,hl2⟩,⟨q,A',B,H,q',rfl,rfl,rfl,hq,⟨Aa,cap,h3,h4⟩,hh⟩⟩
  exact List.Perm.append_left B List.perm_middle
 |(id,ver,.var t v)::L,A,M,D,hd,⟨q,A',e1,h1,h2⟩,hS=>by
  subst e1
  obtain⟨D2,B,H,hd2,hS2,hl2,hh⟩:=QnO L A' (q::M) D hd h2 (hS.prm (List.perm_middle (l₁:=A')).symm)
  refine⟨D2,q::B,H,hd2,hS2.prm ?_,⟨q,B,rfl,QcP (Rho.le.refl _) (hd.trans hd2) h1,hl2⟩,⟨q,A',B,rfl,rfl,h1,hh⟩⟩
  refine(List.Perm.append_left B List.perm_middle).trans ?_
  exact List.perm_middle
 |(id,ver,.lnt t xs)::L,A,M,D,hd,⟨q,A',e1,h1,h2⟩,hS=>by
  subst e1
  obtain⟨D2,B,H,hd2,hS2,hl2,hh⟩:=QnO L A' (q::M) D hd h2 (hS.prm (List.perm_middle (l₁:=A')).symm)
  refine⟨D2,q::B,H,hd2,hS2.prm ?_,⟨q,B,rfl,QcP (Rho.le.refl _) (hd.trans hd2) h1,hl2⟩,⟨q,A',B,rfl,rfl,h1,hh⟩⟩
  refine(List.Perm.append_left B List.perm_middle).trans ?_
  exact List.perm_middle
def iniL:List (Nat×Nat×SB T)→List Blk→Nat→Option (Nat×TypeId×List Value)
 |(id,_,.var t _)::L,some (n,(.cells c _ _,_))::Ls,i=>if id=i then some (n,t,c.toList)else iniL L Ls i
 |_::L,_::Ls,i=>iniL L Ls i
 |_,_,_=>none
theorem Qjm:∀(L:List (Nat×Nat×SB T)) (Ls:List Blk) {i n:Nat} {t:TypeId} {c:List Value},RLs ρ D L Ls→iniL L Ls i=some (n,t,c)→ρ i=some (.blk n)∧bx n t c∈Ls
 | [],Ls,_,_,_,_,h,hi=>by
  have h:Ls= []:=h
  subst h
  cases hi
 | (id,ver,.var t v)::L,_,i,n,t',c,⟨q,Ls,e,⟨m,c',h1,h2,h3⟩,h4⟩,hi=>by
  subst e h3
  simp only[iniL]at hi
  split at hi
  ·rename_i e
   subst e
   simp only[Qa,Qe]at hi
   obtain⟨rfl,rfl,rfl⟩:=hi
   exact⟨h1,by simp⟩
  ·obtain⟨g1,g2⟩:=Qjm L Ls h4 hi
   exact⟨g1,List.mem_cons_of_mem _ g2⟩
 |(id,ver,.own t e' xs f)::L,_,i,n,t',c,⟨q,Ls,e,h1,h4⟩,hi=>by
  subst e
  have hi:iniL L Ls i=some (n,t',c):=by rw[←hi];rfl
  obtain⟨g1,g2⟩:=Qjm L Ls h4 hi
  exact⟨g1,List.mem_cons_of_mem _ g2⟩
 |(id,ver,.lnt t xs)::L,_,i,n,t',c,⟨q,Ls,e,h1,h4⟩,hi=>by
  subst e
  have hi:iniL L Ls i=some (n,t',c):=by rw[←hi];rfl
  obtain⟨g1,g2⟩:=Qjm L Ls h4 hi
  exact⟨g1,List.mem_cons_of_mem _ g2⟩
theorem Qjn:∀(L:List (Nat×Nat×SB T)) (Ls:List Blk) {i ver:Nat} {t:TypeId} {v:SV T},RLs ρ D L Ls→lookA L i=some (ver,.var t v)→∃n c,iniL L Ls i=some (n,t,c)∧ρ i=some (.blk n)∧RX ρ D v false c
 | [],Ls,_,_,_,_,h,hi=>by cases hi
 | (id,ver,.var t v)::L,_,i,ver',t',v',⟨q,Ls,e,⟨m,c',h1,h2,h3⟩,h4⟩,hi=>by
  subst e h3
  simp only[lookA]at hi
  simp only[iniL]
  cases hb:Nat.beq id i with
  |true=>
   rw[hb]at hi
   obtain rfl:=Qc hb
   simp only[Qg,Qa,Qe,SB.var.injEq]at hi
   obtain⟨_,rfl,rfl⟩:=hi
   rw[if_pos rfl]
   exact⟨m,c',by simp,h1,h2⟩
  |false=>
   rw[hb]at hi
   rw[if_neg (fun e=>by subst e;simp at hb)]
   exact Qjn L Ls h4 hi
 |(id,ver,.own t e' xs f)::L,_,i,ver',t',v',⟨q,Ls,e,h1,h4⟩,hi=>by
  subst e
  simp only[lookA]at hi
  cases hb:Nat.beq id i with
  |true=>rw[hb]at hi;cases hi
  |false=>rw[hb]at hi;exact Qjn L Ls h4 hi
 |(id,ver,.lnt t xs)::L,_,i,ver',t',v',⟨q,Ls,e,h1,h4⟩,hi=>by
  subst e
  simp only[lookA]at hi
  cases hb:Nat.beq id i with
  |true=>rw[hb]at hi;cases hi
  |false=>rw[hb]at hi;exact Qjn L Ls h4 hi
def frH(H:List Blk):Frm where
 p:=fun _ _ _ R=>∃R',R=H++R'
 t:=fun _=>False
 mono:=fun _ h=>h
 put:=fun _ _ _ h=>h
def ctS(ct:Ct)(ρ:Rho)(D':Snap)(A B H R:List Blk)(s:SS T)(a:Act)(w:World):Ct:=
 {n:=ct.n,ds:=a.defers,g:=ct.g,w0:=w,D0:=D',L0:=B++(H++R),rb:=ρ,fr:=frH (H++R),ini:=iniL s.L A,nb:=s.nx,mks:=false}
def InSc(ct:Ct)(s0 s:SS T)(a:Act)(w:World):Prop:=∃ρ Df A R a0 w' D' B H,RSx ct ρ Df A R s0 a0 w'∧Df.le D'∧Stp ct.g ct.w0 ct.D0 ct.L0 w' D' (B++(H++R))∧HdL ρ Df s0.L A B H∧DsOk ct a0.defers R∧RS (ctS ct ρ D' A B H R s0 a0 w') s a w
theorem Qq3(h:RS ct s a w):InSc ct s (scIn s) a w:=by
 obtain⟨ρ,D,Lv,R,h⟩:=h
 obtain⟨D',B,H,hd,hS,hl,hh⟩:=QnO s.L Lv R D (Snap.le.refl D) h.l h.st
 refine⟨ρ,D,Lv,R,a,w,D',B,H,h,hd,hS,hh,h.ds,ρ,D',B,H++R,Rho.le.refl _,h.dom,fun e he=> ?_,?_,h.size,⟨[],rfl,.inl rfl,List.nodup_nil,fun _ h=>by cases h⟩,fun t sv ht=> ?_,hl,Stp.refl hS.st,⟨[],by simp⟩,fun id n t c hi=> ?_,⟨Nat.le_refl _,fun _ _ h=>h⟩,fun t sv ht b hb=> ?_⟩
 ·have h1:e.1∈(lntL s.L).map (·.1):=List.mem_map.2 ⟨e,he,rfl⟩
  rw[QdZ]at h1
  obtain⟨e',he',h2⟩:=List.mem_map.1 h1
  have:=h.idlt he'
  have h3:=QfZ s.L e he
  show e.2.1<s.nx
  omega
 ·show((lntL s.L).map (·.1)).Nodup
  rw[QdZ]
  exact h.nd
 ·obtain⟨v,h1,h2⟩:=h.e t sv ht
  exact⟨v,h1,JL (Rho.le.refl _) hd h2⟩
 ·obtain⟨h1,h2⟩:=Qjm s.L Lv h.l hi
  exact⟨h1,fun b _=>(h.st.st.l n _ (List.mem_append_left _ h2)).1⟩
 ·have h1:=h.o t sv ht b hb
  cases hr:ct.rb b with
  |none=>exact absurd hr h1
  |some p=>
   show ρ b≠none
   rw[h.rb _ _ hr]
   simp
def ownR(n:Nat):List (Nat×Nat×SB T)→List (Nat×Nat×SB T)
 | []=> []
 |(id,_,.own t e xs f)::L=>(id,n,.own t e xs f)::ownR n L
 |_::L=>ownR n L
def thL(L0:List (Nat×Nat×SB T))(n:Nat):List (Nat×Nat×SB T)→List (Nat×Nat×SB T)
 | []=> []
 |(id,ver,.var t v)::L=>match(bif Nat.beq ver id then lookA L0 id else none)with
  |some (_,.var t0 v0)=>(id,n,.var t0 v0)::thL L0 n L
  |_=>bif plV v then(id,n,.var t v)::thL L0 n L else thL L0 n L
 |(id,_,.own t e xs true)::L=>bif plT T 20 t&&(lookA L0 id).isNone then(id,n,.own t e xs true)::thL L0 n L else thL L0 n L
 |_::L=>thL L0 n L
def thE(E:List (Nat×SV T)):List Nat→List (Nat×SV T)
 | []=> []
 |t::ts=>match lookA E t with
  |some v=>bif plV v then(t,v)::thE E ts else thE E ts
  |none=>thE E ts
def QoG(ks:List Nat)(s0 s:SS T):SS T:={E:=thE s.E ks,L:=ownR s.nx s0.L++thL s0.L s.nx s.L,nx:=s.nx+1,md:=s0.md}
theorem QnP{E:List (Nat×SV T)}{t:Nat}{sv:SV T}:∀(ks:List Nat),lookA (thE E ks) t=some sv→lookA E t=some sv∧plV sv=true
 | [],h=>by cases h
 | k ::ks,h=>by
  simp only[thE]at h
  split at h
  ·rename_i v hv
   cases hp:plV v with
   |false=>rw[hp]at h;exact QnP ks h
   | true=>
    rw[hp]at h
    simp only[Qg,lookA]at h
    cases hb:Nat.beq k t with
    |false=>rw[hb]at h;exact QnP ks h
    |true=>
     rw[hb]at h
     obtain rfl:=Qc hb
     simp only[Qg,Qa]at h
     subst h
     exact⟨hv,hp⟩
  ·exact QnP ks h
theorem Qf0(n:Nat):∀(L:List (Nat×Nat×SB T)),((ownR n L).map (·.1)).Sublist (L.map (·.1))
 | []=> .slnil
 |(_,_,.own _ _ _ _)::L=> .cons_cons _ (Qf0 n L)
 |(_,_,.var _ _)::L=> .cons _ (Qf0 n L)
 |(_,_,.lnt _ _)::L=> .cons _ (Qf0 n L)
theorem QnQ{x y:Nat×Nat×SB T}{L M:List (Nat×Nat×SB T)}(b:Bool)(hx:x.1=y.1)(h:(L.map (·.1)).Sublist (M.map (·.1))):((bif b then x::L else L).map (·.1)).Sublist ((y::M).map (·.1)):=by
 cases b with
 |true=>show(x.1::L.map (·.1)).Sublist (y.1::M.map (·.1));rw[hx];exact .cons_cons _ h
 |false=>exact .cons _ h
theorem Qeu(L0:List (Nat×Nat×SB T))(n:Nat):∀(L:List (Nat×Nat×SB T)),((thL L0 n L).map (·.1)).Sublist (L.map (·.1))
 | []=> .slnil
 |(_,_,.own _ _ _ true)::L=>QnQ _ rfl (Qeu L0 n L)
 |(_,_,.own _ _ _ false)::L=> .cons _ (Qeu L0 n L)
 |(_,_,.var _ _)::L=>by
  simp only[thL]
  split
  ·exact .cons_cons _ (Qeu L0 n L)
  ·exact QnQ _ rfl (Qeu L0 n L)
 |(_,_,.lnt _ _)::L=> .cons _ (Qeu L0 n L)
theorem QnR{P:Nat×Nat×SB T→Prop}{x:Nat×Nat×SB T}{L:List (Nat×Nat×SB T)}(b:Bool)(h1:b=true→P x)(h2:∀e∈L,P e):∀e∈(bif b then x::L else L),P e:=by
 cases b with
 |true=>
  intro e he
  rcases List.mem_cons.1 he with rfl|he
  ·exact h1 rfl
  ·exact h2 e he
 |false=>exact h2
theorem Qdl(L0:List (Nat×Nat×SB T))(n:Nat):∀(L:List (Nat×Nat×SB T)),∀e∈thL L0 n L,e.2.1=n∧((∃t v,e.2.2= .var t v)∨lookA L0 e.1=none)
 | [],_,h=>by cases h
 |(_,_,.own _ _ _ true)::L,e,h=>QnR _ (fun hb=>⟨rfl,.inr (by rw[Qd]at hb;simpa using hb.2)⟩) (Qdl L0 n L) e h
 |(_,_,.own _ _ _ false)::L,e,h=>Qdl L0 n L e h
 | (_,_,.var _ _)::L,e,h=>by
  simp only[thL]at h
  split at h
  ·rcases List.mem_cons.1 h with rfl|h
   ·exact⟨rfl,.inl ⟨_,_,rfl⟩⟩
   ·exact Qdl L0 n L e h
  ·exact QnR _ (fun _=>⟨rfl,.inl ⟨_,_,rfl⟩⟩) (Qdl L0 n L) e h
 |(_,_,.lnt _ _)::L,e,h=>Qdl L0 n L e h
theorem Qd0(n:Nat):∀(L:List (Nat×Nat×SB T)),∀e∈ownR n L,e.2.1=n∧e.1∈L.map (·.1)∧∃t e' xs f,e.2.2= .own t e' xs f
 | [],_,h=>by cases h
 | (_,_,.own _ _ _ _)::L,e,h=>by
  rcases List.mem_cons.1 h with rfl|h
  ·exact⟨rfl,by simp,_,_,_,_,rfl⟩
  ·obtain⟨h1,h2,h3⟩:=Qd0 n L e h
   exact⟨h1,List.mem_cons_of_mem _ h2,h3⟩
 |(_,_,.var _ _)::L,e,h=>by
  obtain⟨h1,h2,h3⟩:=Qd0 n L e h
  exact⟨h1,List.mem_cons_of_mem _ h2,h3⟩
 |(_,_,.lnt _ _)::L,e,h=>by
  obtain⟨h1,h2,h3⟩:=Qd0 n L e h
  exact⟨h1,List.mem_cons_of_mem _ h2,h3⟩
theorem Qjo{ρ0 ρ1:Rho}{Df:Snap}(hr:ρ0.le ρ1)(n:Nat):∀(L:List (Nat×Nat×SB T)) (A B H:List Blk),HdL ρ0 Df L A B H→∃Q,RLs ρ1 Df (ownR n L) Q∧ids Q=ids H∧(∀q∈Q,q∈A)∧∀b o,some (b,o)∈Q→∃k,some (b,(o.1,k))∈H
 | [],A,B,H,⟨_,_,h⟩=>⟨[],rfl,by rw[h],fun _ h=>(by cases h),fun _ _ h=>(by cases h)⟩
 | (id,v,.own t e xs f)::L,_,_,_,⟨q,A,B,H,q',e1,e2,e3,h1,h2,h3⟩=>by
  subst e1 e2 e3
  obtain⟨Q,g1,g2,g3,g4⟩:=Qjo hr n L A B H h3
  refine⟨q::Q,⟨q,Q,rfl,QcP hr (Snap.le.refl _) h2,g1⟩,?_,fun x hx=> ?_,fun b o hb=> ?_⟩
  ·cases q with
   |none=>have h1:q'=none:=h1;subst h1;exact g2
   |some p=>obtain⟨b,o⟩:=p;obtain⟨k,rfl⟩:=h1;rw[YZ,YZ,g2]
  ·rcases List.mem_cons.1 hx with rfl|hx
   ·exact List.mem_cons_self
   ·exact List.mem_cons_of_mem _ (g3 x hx)
  ·rcases List.mem_cons.1 hb with rfl|hb
   ·obtain⟨k,rfl⟩:=h1;exact⟨k,List.mem_cons_self⟩
   ·obtain⟨k,hk⟩:=g4 b o hb
    exact⟨k,List.mem_cons_of_mem _ hk⟩
 |(id,v,.var t x)::L,_,_,H,⟨q,A,B,e1,e2,h2,h3⟩=>by
  subst e1 e2
  obtain⟨Q,g1,g2,g3,g4⟩:=Qjo hr n L A B H h3
  exact⟨Q,g1,g2,fun x hx=>List.mem_cons_of_mem _ (g3 x hx),g4⟩
 |(id,v,.lnt t x)::L,_,_,H,⟨q,A,B,e1,e2,h2,h3⟩=>by
  subst e1 e2
  obtain⟨Q,g1,g2,g3,g4⟩:=Qjo hr n L A B H h3
  exact⟨Q,g1,g2,fun x hx=>List.mem_cons_of_mem _ (g3 x hx),g4⟩
theorem QkL(hT:TbOk T){ρ0 ρ1:Rho}{Df D1:Snap}{L0:List (Nat×Nat×SB T)}{A:List Blk}(hA:RLs ρ0 Df L0 A)(hr:ρ0.le ρ1)(n:Nat):∀(L:List (Nat×Nat×SB T)) (Ls:List Blk),RLs ρ1 D1 L Ls→
  (∀id t v,(id,id,.var t v)∈L→∀n t0 c,iniL L0 A id=some (n,t0,c)→w.heap[n]?=some (.cells c.toArray t0 (0,0)))→(∀m t c,bx m t c∈Ls→w.heap[m]?=some (.cells c.toArray t (0,0)))→∃K,K.Sublist Ls∧RLs ρ1 Df (thL L0 n L) K
 | [],Ls,h,_,_=>⟨[],List.nil_sublist _,rfl⟩
 | (id,ver,.own t e xs true)::L,_,⟨q,Ls,e1,h1,h2⟩,hi,hh=>by
  subst e1
  obtain⟨K,g1,g2⟩:=QkL hT hA hr n L Ls h2 (fun id t v hm=>hi id t v (List.mem_cons_of_mem _ hm)) fun m t c hm=>hh m t c (List.mem_cons_of_mem _ hm)
  simp only[thL]
  cases hb:(plT T 20 t&&(lookA L0 id).isNone)with
  |false=>exact⟨K,.cons _ g1,g2⟩
  | true=>
   rw[Qd]at hb
   obtain⟨Aa,cap,h3,cs,h4,h5⟩:=h1
   refine⟨q::K,.cons_cons _ g1,q,K,rfl,⟨Aa,cap,h3,cs,?_,Qv0 (Qtp hT 20 t hb.1) _ _ h5⟩,g2⟩
   cases q with
   |some p=>exact h4
   |none=>
    obtain⟨k1,k2,k3,k4,k5⟩:=h4
    refine⟨k1,k2,?_,k4,k5⟩
    obtain⟨k6,k7⟩:=k5 rfl
    have:cs= []:=List.eq_nil_of_length_eq_zero (by rw[k4,k7];simp)
    exact .inl this
 |(id,ver,.own t e xs false)::L,_,⟨q,Ls,e1,h1,h2⟩,hi,hh=>by
  subst e1
  obtain⟨K,g1,g2⟩:=QkL hT hA hr n L Ls h2 (fun id t v hm=>hi id t v (List.mem_cons_of_mem _ hm)) fun m t c hm=>hh m t c (List.mem_cons_of_mem _ hm)
  exact⟨K,.cons _ g1,g2⟩
 |(id,ver,.lnt t xs)::L,_,⟨q,Ls,e1,h1,h2⟩,hi,hh=>by
  subst e1
  obtain⟨K,g1,g2⟩:=QkL hT hA hr n L Ls h2 (fun id t v hm=>hi id t v (List.mem_cons_of_mem _ hm)) fun m t c hm=>hh m t c (List.mem_cons_of_mem _ hm)
  exact⟨K,.cons _ g1,g2⟩
 | (id,ver,.var t v)::L,_,⟨q,Ls,e1,h1,h2⟩,hi,hh=>by
  subst e1
  obtain⟨K,g1,g2⟩:=QkL hT hA hr n L Ls h2 (fun id t v hm=>hi id t v (List.mem_cons_of_mem _ hm)) fun m t c hm=>hh m t c (List.mem_cons_of_mem _ hm)
  obtain⟨m,c,h3,h4,rfl⟩:=h1
  simp only[thL]
  split
  ·rename_i ver' t0 v0 hl
   cases hb:Nat.beq ver id with
   |false=>rw[hb]at hl;cases hl
   |true=>
    rw[hb]at hl
    simp only[Qg]at hl
    obtain rfl:=Qc hb
    obtain⟨n0,c0,k1,k2,k3⟩:=Qjn L0 A hA hl
    have k4:=hr _ _ k2
    rw[h3]at k4
    cases k4
    have k5:=hi ver t v List.mem_cons_self m t0 c0 k1
    rw[hh m t c List.mem_cons_self]at k5
    simp only[Qa,Obj.cells.injEq,and_true]at k5
    obtain⟨k6,rfl⟩:=k5
    have k6:c=c0:=List.toArray_inj k6
    subst k6
    exact⟨bx m t c::K,.cons_cons _ g1,bx m t c,K,rfl,⟨m,c,h3,yA hr (Snap.le.refl _) _ _ _ k3,rfl⟩,g2⟩
  ·cases hb:plV v with
   |false=>exact⟨K,.cons _ g1,g2⟩
   |true=>exact⟨bx m t c::K,.cons_cons _ g1,bx m t c,K,rfl,⟨m,c,h3,Qq2 hT _ _ _ hb h4,rfl⟩,g2⟩
theorem Qjp{ρ:Rho}{D:Snap}:∀(L:List (Nat×Nat×SB T)) (A B H:List Blk),HdL ρ D L A B H→RLs ρ D L A
 | [],_,_,_,⟨h,_,_⟩=>h
 |(_,_,.own _ _ _ _)::L,_,_,_,⟨q,A,B,H,q',e1,e2,e3,h1,h2,h3⟩=>⟨q,A,e1,h2,Qjp L A B H h3⟩
 |(_,_,.var _ _)::L,_,_,H,⟨q,A,B,e1,e2,h2,h3⟩=>⟨q,A,e1,h2,Qjp L A B H h3⟩
 |(_,_,.lnt _ _)::L,_,_,H,⟨q,A,B,e1,e2,h2,h3⟩=>⟨q,A,e1,h2,Qjp L A B H h3⟩
theorem QnS(hT:TbOk T)(hfr:∀m D a R,ct.fr.p m D a R)(ks:List Nat){s0:SS T}(h:InSc ct s0 s a w):RS ct (QoG ks s0 s) a w:=by
 obtain⟨ρ0,Df,A,R,a0,w',D',B,H,h0,hd,hS,hH,hds,ρ1,D1,Lv1,R1,h1⟩:=h
 obtain⟨R',hR⟩:∃R',R1=(H++R)++R':=h1.fr
 have hr:ρ0.le ρ1:=h1.rb
 have hc:=Stp.call (R:= []) (by rw[List.append_nil];exact hS) h1.st
 rw[List.append_nil]at hc
 have hd1:Df.le D1:=hd.trans h1.st.dle
 obtain⟨Q,q1,q2,q3,q4⟩:=Qjo hr s.nx s0.L A B H hH
 have hdef:a.defers=a0.defers:=by
  obtain⟨ms,z1,z2,_,_⟩:=h1.ds
  have z3:ms= []:=z2.resolve_right (by intro e;cases e)
  subst z3
  exact z1
 obtain⟨K,k1,k2⟩:=QkL (w:=w) hT (Qjp _ _ _ _ hH) hr s.nx s.L Lv1 h1.l (fun id t v hm n t0 c hi=>(h1.ini id n t0 c hi).2 _ (Yc hm h1.nd)) fun m t c hm=>(h1.st.st.l m _ (List.mem_append_left _ hm)).1
 have hmem:∀q,q∈K++(R++R')→q∈Lv1++R1:=fun q hq=>by
  rw[hR]
  rcases List.mem_append.1 hq with hq|hq
  ·exact List.mem_append_left _ (k1.subset hq)
  ·rcases List.mem_append.1 hq with hq|hq<;>simp[hq]
 have hmem2:∀q,q∈(Q++K)++(R++R')→q∈Q∨q∈K++(R++R'):=fun q hq=>by
  rw[List.append_assoc]at hq
  exact List.mem_append.1 hq
 have hst:Stp ct.g ct.w0 ct.D0 ct.L0 w Df ((Q++K)++(R++R')):=by
  refine Stp.thaw h0.st hc hd1 (fun b o hb=> ?_) ?_ fun b o p hb hp=> ?_
  ·rcases hmem2 _ hb with hb|hb
   ·obtain⟨k,hk⟩:=q4 b o hb
    refine⟨(o.1,k),?_,rfl⟩
    rw[hR]
    exact List.mem_append_right _ (by simp[hk])
   ·exact⟨o,hmem _ hb,rfl⟩
  ·have z1:=h1.st.st.nd
   rw[hR]at z1
   have z2:(ids (K++((H++R)++R'))).Nodup:=z1.sublist ((k1.append (List.Sublist.refl _)).filterMap bid)
   simp only[jc]at z2⊢
   rw[q2]
   refine(List.Perm.nodup_iff ?_).1 z2
   rw[←List.append_assoc,←List.append_assoc,←List.append_assoc]
   exact List.Perm.append_right _ (List.Perm.append_right _ List.perm_append_comm)
  ·rcases hmem2 _ hb with hb|hb
   ·exact(h0.st.st.l b o (List.mem_append_left _ (q3 _ hb))).2 p hp
   ·obtain⟨p1,z1,z2⟩:=hd1 b p hp
    exact Qq1 ((h1.st.st.l b o (hmem _ hb)).2 p1 z1) z2
 have hver:∀e∈ownR s.nx s0.L++thL s0.L s.nx s.L,e.2.1=s.nx:=fun e he=>by
  rcases List.mem_append.1 he with he|he
  ·exact(Qd0 _ _ e he).1
  ·exact(Qdl _ _ _ e he).1
 refine⟨ρ1,Df,Q++K,R++R',h0.rb.trans hr,fun i p hp=>Nat.lt_succ_of_lt (h1.dom i p hp),fun e he=> ?_,?_,h1.size,?_,fun t sv ht=> ?_,Zx q1 k2,hst,hfr _ _ _ _,fun id n t c hi=> ?_,⟨?_,fun i hi hn=> ?_⟩,h0.o⟩
 ·have:=hver e he
  show e.2.1<s.nx+1
  omega
 ·show((ownR s.nx s0.L++thL s0.L s.nx s.L).map (·.1)).Nodup
  rw[List.map_append,List.nodup_append]
  refine⟨h0.nd.sublist (Qf0 _ _),h1.nd.sublist (Qeu _ _ _),?_⟩
  rintro x hx y hy rfl
  obtain⟨e,he,rfl⟩:=List.mem_map.1 hx
  obtain⟨e',he',hee⟩:=List.mem_map.1 hy
  obtain⟨_,g2,t,e2,xs,f,g3⟩:=Qd0 _ _ e he
  rcases (Qdl _ _ _ e' he').2 with⟨t',v',g4⟩|g4
  ·obtain⟨q,hq⟩:=Qjb q1 he
   obtain⟨q',hq'⟩:=Qjb k2 he'
   rw[g3]at hq
   rw[g4]at hq'
   obtain⟨Aa,cap,z1,_⟩:=hq
   obtain⟨m,c,z2,_⟩:=hq'
   rw[hee,z1]at z2
   cases z2
  ·rw[hee]at g4
   obtain⟨e0,g5,g6⟩:=List.mem_map.1 g2
   have:=Yc g5 h0.nd
   rw[g6,g4]at this
   cases this
 ·rw[hdef]
  exact hds.mono fun q hq=>List.mem_append_left _ hq
 ·obtain⟨z1,z2⟩:=QnP ks ht
  obtain⟨v,z3,z4⟩:=h1.e t sv z1
  exact⟨v,z3,QxC hT z2 z4⟩
 ·have z1:=hr _ _ (h0.ini id n t c hi).1
  refine⟨z1,fun b hl=> ?_⟩
  have z2:=hver _ (Yr hl)
  have z3:=h1.dom _ _ z1
  have z2:id=s.nx:=z2
  omega
 ·have z1:=h0.ex.1
  have z2:s0.nx≤s.nx:=h1.ex.1
  show ct.nb≤s.nx+1
  omega
 ·have z1:=h0.ex.1
  exact h1.ex.2 i (show i<s0.nx by omega) (h0.ex.2 i hi hn)
inductive TS where
 |one (h:Hn)
 |jn (q:Pj) (h:Hn)
 |sc (ks:List Nat) (h1 h2:Hn)
 |beg
 |fin (ks:List Nat)
def sxC{R:Type}(C:Cx T):Option (SS T)→List TS→Hn→Code→SS T→(Ke→SS T→Option R)→Option R
 |none, [],h,c,s,k=>sx C c h s k
 |none,.beg::l,h,c,s,k=>sxC C (some s) l h c (scIn s) k
 |some s0,.fin ks::l,h,c,s,k=>sxC C none l h c (QoG ks s0 s) k
 | none,.one h1::l,h,.seq a b,s,k=>sx C a h1 s fun e s'=>match e with
   | .nm=>sxC C none l h b s' k
   |e=>k e s'
 | none,.jn q h1::l,h,.seq a b,s,k=>oE (Ql1 q.pre s) fun s=>
   Go.Sep.jn (fun y=>oE (Qdg q (mJ q a h1) s y) fun s'=>sxC C none l h b s' k)
    (fun j=>sx C a h1 s fun e s'=>match e with
     | .nm=>oE (absJ q s s') j
     |e=>k e s')
 | none,.sc ks h1 h2::l,h,.seq (.seq x y) b,s,k=>sx {C with rg:=false} x h1 (scIn s) fun e s1=>match e with
   | .nm=>sx C y h2 (QoG ks s s1) fun e s2=>match e with
    | .nm=>sxC C none l h b s2 k
    |e=>k e s2
   |_=>none
 | some s0,.one h1::l,h,.seq a b,s,k=>sx {C with rg:=false} a h1 s fun e s'=>match e with
   | .nm=>sxC C (some s0) l h b s' k
   |_=>none
 |_,_,_,_,_,_=>none
def StT(ct:Ct):Option (SS T)→SS T→Act→World→Prop
 |none,s,a,w=>RS ct s a w
 |some s0,s,a,w=>InSc ct s0 s a w
theorem QxD{R:Type}{C:Cx T}{ks:List Nat}{h1 h2 h:Hn}{l:List TS}{c:Code}{s:SS T}{k:Ke→SS T→Option R}{r:R}(hs:sxC C none (.sc ks h1 h2::l) h c s k=some r):∃x y b,c= .seq (.seq x y) b∧(sx {C with rg:=false} x h1 (scIn s) fun e s1=>match e with
   | .nm=>sx C y h2 (QoG ks s s1) fun e s2=>match e with
    | .nm=>sxC C none l h b s2 k
    |e=>k e s2
   |_=>none)=some r:=by
 cases c<;>first|(cases hs;done)|skip
 rename_i xy b
 cases xy<;>first|(cases hs;done)|exact⟨_,_,_,rfl,hs⟩
theorem QgR(hC:QcW C ct)(hY:C.Y=none)(hrg:C.rg=true){α:Type}(k:Ke→SS T→Option α)(r:α)(Q:Exit→Act→World→Prop)(hk:∀e s' a' w',k e s'=some r→RS ct s' a' w'→Q (exK e) a' w'):∀(l:List TS) (m:Option (SS T)) (h:Hn) (c:Code) (s:SS T) (a:Act) (w:World),
  sxC C m l h c s k=some r→StT ct m s a w→c.wpIn (Fw none) 0 C.P Q a w
 | [],none,h,c,s,a,w,hs,hS=>QhQ hC c h s k r Q a w hs hS fun e s' a' w' _=>hk e s' a' w'
 | [],some _,h,c,s,a,w,hs,hS=>by cases hs
 | .beg::l,none,h,c,s,a,w,hs,hS=>QgR hC hY hrg k r Q hk l (some s) h c (scIn s) a w hs (Qq3 hS)
 | .beg::l,some _,h,c,s,a,w,hs,hS=>by cases hs
 | .fin ks::l,none,h,c,s,a,w,hs,hS=>by cases hs
 | .fin ks::l,some s0,h,c,s,a,w,hs,hS=>QgR hC hY hrg k r Q hk l none h c (QoG ks s0 s) a w hs (QnS hC.tb (hC.rg hrg).2 ks hS)
 | .one h1::l,none,h,c,s,a,w,hs,hS=>by
  cases c<;>simp only[sxC,reduceCtorEq]at hs
  rename_i x y
  refine wpIn_seq (QhQ hC x h1 s _ r _ a w hs hS fun e s' a' w' hx hk' hS'=> ?_)
  cases e with
  |nm=>exact QgR hC hY hrg k r Q hk l none h y s' a' w' hk' hS'
  |rt=>exact hk .rt s' a' w' hk' hS'
  |ex i=>exact hk (.ex i) s' a' w' hk' hS'
  |pn x e=>exact hk (.pn x e) s' a' w' hk' hS'
 | .jn q h1::l,some s0,h,c,s,a,w,hs,hS=>by cases hs
 | .sc ks h1 h2::l,some s0,h,c,s,a,w,hs,hS=>by cases hs
 | .sc ks h1 h2::l,none,h,c,s,a,w,hs,hS=>by
  obtain⟨x,y,b,rfl,hs⟩:=QxD hs
  obtain⟨ρ0,Df,A,R,a0,w0,D',B,H,h0,hd,hSt,hH,hds,hS⟩:=Qq3 hS
  have hC':QcW ({C with rg:=false}:Cx T) (ctS ct ρ0 D' A B H R s a0 w0):=⟨⟨⟨hC.tb,fun g d hg=>(hC.gl g d hg).mono hSt.dle⟩,hC.sp,hC.n,hC.rv,hC.mp⟩,fun _ h=>h,(fun Y hy=>by rw[show({C with rg:=false}:Cx T).Y=C.Y from rfl,hY]at hy;cases hy),fun h=>by cases h⟩
  refine wpIn_seq (wpIn_seq (QhQ hC' x h1 (scIn s) _ r _ a w hs hS fun e s' a' w' hx hk' hS'=> ?_))
  cases e with
  |nm=>
   refine QhQ hC y h2 (QoG ks s s') _ r _ a' w' hk' (QnS hC.tb (hC.rg hrg).2 ks ⟨ρ0,Df,A,R,a0,w0,D',B,H,h0,hd,hSt,hH,hds,hS'⟩) fun e s2 a2 w2 _ hk2 hS2=> ?_
   cases e with
   |nm=>exact QgR hC hY hrg k r Q hk l none h b s2 a2 w2 hk2 hS2
   |rt=>exact hk .rt s2 a2 w2 hk2 hS2
   |ex i=>exact hk (.ex i) s2 a2 w2 hk2 hS2
   |pn x e=>exact hk (.pn x e) s2 a2 w2 hk2 hS2
  |rt=>cases hk'
  |ex i=>cases hk'
  |pn x e=>cases hk'
 | .jn q h1::l,none,h,c,s,a,w,hs,hS=>by
  cases c<;>simp only[sxC,reduceCtorEq]at hs
  rename_i x y
  obtain⟨s0,hl,hs⟩:=Jy hs
  obtain⟨hS,_⟩:=QfY 0 _ _ _ hl hS
  obtain⟨j,hj,hs⟩:=QpD hs
  obtain⟨ρ0,D0,Lv0,R0,hS0⟩:=hS
  refine Qne (fun a w=>∃y',(oE (Qdg q (mJ q x h1) s0 y') fun s'=>sxC C none l h y s' k)=some r∧Tn ct q (mJ q x h1) s0 y' a w) (QhQ hC x h1 s0 _ r _ a w hs ⟨ρ0,D0,Lv0,R0,hS0⟩ fun e s' a' w' hx hk' hS'=> ?_) fun a' w' hX=> ?_
  ·cases e with
   |nm=>
    obtain⟨y',h1,h2⟩:=Jy hk'
    obtain⟨ρ,D,Lv,R,hS'⟩:=hS'
    exact⟨y',hj y' h2,fun s1 h3=>Qcc hC.tb hS0 (hx.mono fun t ht=>mJ_W ht) hS' h1 h3⟩
   |rt=>exact hk .rt s' a' w' hk' hS'
   |ex i=>exact hk (.ex i) s' a' w' hk' hS'
   |pn x e=>exact hk (.pn x e) s' a' w' hk' hS'
  ·obtain⟨y',h1,h2⟩:=hX
   obtain⟨s1,h3,h4⟩:=Jy h1
   exact QgR hC hY hrg k r Q hk l none h y s1 a' w' h4 (h2 s1 h3).1
 | .one h1::l,some s0,h,c,s,a,w,hs,hS=>by
  cases c<;>simp only[sxC,reduceCtorEq]at hs
  rename_i x y
  obtain⟨ρ0,Df,A,R,a0,w0,D',B,H,h0,hd,hSt,hH,hds,hS⟩:=hS
  have hC':QcW ({C with rg:=false}:Cx T) (ctS ct ρ0 D' A B H R s0 a0 w0):=⟨⟨⟨hC.tb,fun g d hg=>(hC.gl g d hg).mono hSt.dle⟩,hC.sp,hC.n,hC.rv,hC.mp⟩,fun _ h=>h,(fun Y hy=>by rw[show({C with rg:=false}:Cx T).Y=C.Y from rfl,hY]at hy;cases hy),fun h=>by cases h⟩
  refine wpIn_seq (QhQ hC' x h1 s _ r _ a w hs hS fun e s' a' w' hx hk' hS'=> ?_)
  cases e with
  |nm=>exact QgR hC hY hrg k r Q hk l (some s0) h y s' a' w' hk' ⟨ρ0,Df,A,R,a0,w0,D',B,H,h0,hd,hSt,hH,hds,hS'⟩
  |rt=>cases hk'
  |ex i=>cases hk'
  |pn x e=>cases hk'
def funC(C:Cx T)(sp:FSp T)(f:Func)(l:List TS)(h:Hn)(p:TU T.ty sp.pt):Option (TU T.ty sp.rt):=
 match f.body with
 |some c=>oE (start sp p) fun s0=>sxC C none l h c s0 fun e s=>match e with
  | .ex _=>none
  | .pn _ _=>none
  |_=>finS C.P sp f.results.toList s0 s
 |none=>none
theorem Qq4(hT:TbOk T){P:Program}{G:List (Nat×Dy T)}{sps:List (FSp T)}{rvs:List (RvSp T)}{mps:List (FuncId×(SV T→Option (SV T)))}{K n:Nat}{sp:FSp T}{f:Func}{c:Code}{l:List TS}{h:Hn}(hf:P.funcs[sp.fid]?=some f)(hb:f.body=some c)(hn:f.ntmps=n)
  (hok:(Nat.ble (lenP sp.args) n&&(lstP sp.args&&(lstP sp.res&&(!(f.name== "runtime.NumGoroutine")&&sp.pv.isNone))))=true)
  (hsp:∀sp∈sps,VOk P G sp) (hrv:∀x∈rvs,RvOk P x) (hmp:∀f g,lookA mps f=some g→MpOk P f g) (hfn:(fun p=>sp.fn p)=funC (cx P G sps K n rvs mps) sp f l h):VOk P G sp:=by
 rw[Qd,Qd,Qd,Qd]at hok
 refine⟨fun g w0 D β p dA dB oA oB vals Bs Qs r hG hp hA hB hidx hSt hr=> ?_,?_,hok.2.2.1,fun x hx=> ?_,fun x hx=> ?_⟩
 ·have hr:funC (cx P G sps K n rvs mps) sp f l h p=some r:=by rw[←hfn];exact hr
  unfold funC at hr
  rw[hb]at hr
  obtain⟨s0,hs0,hr⟩:=Jy hr
  refine QgQ true hf hb hn hok.1 hok.2.1 hp hA hB hidx hSt hs0 fun ct a e1 e2 e3 e4 e5 e6 e7 e8 hrb hBl hini hsl hS0=> ?_
  have hC:QcW (cx P G sps K n rvs mps:Cx T) ct:=⟨⟨⟨hT,by rw[e7];exact hG⟩,hsp,e1.symm,hrv,hmp⟩,e3,(by intro Y hY;cases hY),fun _=>⟨e2,e4.2⟩⟩
  refine QgR hC rfl rfl _ r _ (fun e s' a' w' hk hS'=> ?_) l none h c s0 a w0 hr hS0
  obtain⟨ρ',D',Lv',R',hS'⟩:=hS'
  subst e5 e6 e7
  have fin:finS P sp f.results.toList s0 s'=some r→bodyPostM (Fw none) 0 P f (FinP sp ct.g ct.w0 ct.D0 β Bs Qs r) .ret a' w':=fun hfi=>
   Qmk (C:=(cx P G sps K n rvs mps)) (ct:=ct) hT hS' hfi e4 e8 hrb hBl hini hsl
  cases e with
  |nm=>exact fin hk
  |rt=>exact fin hk
  |ex i=>cases hk
  |pn x e=>cases hk
 ·rw[hf]
  simp only[Option.map_some,hb,Option.isNone_some,Qa,Qe,and_true]
  simpa using hok.2.2.2.1
 ·rw[hx]at hok;simp at hok
 ·rw[hx]at hok;simp at hok
end
end Go.Sep
