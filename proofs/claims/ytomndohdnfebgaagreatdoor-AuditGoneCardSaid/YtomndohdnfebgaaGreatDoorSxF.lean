/-
 Symbolic execution: variables are made, read and written.
-/
import Derived.Test.YtomndohdnfebgaaGreatDoorSxE
set_option linter.unusedVariables false
set_option linter.unusedSimpArgs false
namespace Go.Sep
theorem Stp.prm{g w0 w:World}{D0 D:Snap}{L0 L L':List Blk}(h:Stp g w0 D0 L0 w D L)(hp:L.Perm L'):Stp g w0 D0 L0 w D L':=
 h.with_st (h.st.perm hp) (fun _ hb=>(hp.filterMap bid).mem_iff.2 hb)
theorem J8{α:Type}(X Y R:List α)(q:α):((X++q::Y)++R).Perm (q::((X++Y)++R)):=by
 rw[List.append_assoc,List.append_assoc]
 exact List.perm_middle
section
variable {T:Tb}{C:Cx T}{ct:Ct}{ρ:Rho}{D:Snap}{Lv R:List Blk}{s:SS T}{a:Act}{w:World}
variable {rd:Option Nat}{ops:Array Oper}{Q:Exit→Act→World→Prop}{i:Nat}{o:Oper}{d:Tmp}{Cn:Act→World→Prop}{α:Type}{k:SS T→Option α}{r:α}
theorem Qi2:∀{L:List (Nat×Nat×SB T)} {Ls:List Blk} {e:Nat×Nat×SB T},RLs ρ D L Ls→e∈L→∃p,ρ e.1=some p
 | [],_,_,_,h=>by cases h
 | x::L,_,e,⟨q,Ls',_,h2,h3⟩,h=>by
  rcases List.mem_cons.1 h with rfl|h
  ·obtain⟨id,ver,b⟩:=e
   cases b with
   |var t v=>obtain⟨m,c,h4,_⟩:=h2;exact⟨_,h4⟩
   |own t e xs f=>obtain⟨A,cap,h4,_⟩:=h2;exact⟨_,h4⟩
   |lnt t xs=>obtain⟨A,cap,h4,_⟩:=h2;exact⟨_,h4⟩
  ·exact Qi2 h3 h
theorem RSx.fresh(h:RSx ct ρ D Lv R s a w):ρ s.nx=none:=by
 cases hr:ρ s.nx with
 |none=>rfl
 |some p=>have:=h.dom _ _ hr;omega
theorem RSx.idlt(h:RSx ct ρ D Lv R s a w){e:Nat×Nat×SB T}(he:e∈s.L):e.1<s.nx:=by
 obtain⟨p,hp⟩:=Qi2 h.l he
 exact h.dom _ _ hp
theorem RSx.exIns{p:Pl}(h:RSx ct ρ D Lv R s a w):ct.nb≤s.nx+1∧∀i,i<ct.nb→ct.rb i=none→ρ.ins s.nx p i=none:=
 ⟨Nat.le_succ_of_le h.ex.1,fun i hi hn=>by
  have:=h.ex.1
  unfold Rho.ins
  rw[if_neg (by omega)]
  exact h.ex.2 i hi hn⟩
theorem RSx.nw{w':World}{D':Snap}{q:Blk}{p:Pl}{b:SB T}(h:RSx ct ρ D Lv R s a w)(hS:Stp ct.g ct.w0 ct.D0 ct.L0 w' D' (q::(Lv++R)))(hd:D.le D')(hb:RBk (ρ.ins s.nx p) D' s.nx b q):
  RSx ct (ρ.ins s.nx p) D' (q::Lv) R (s.nw b) a w':=by
 have hr:=Rho.le_ins (p:=p) h.fresh
 refine⟨h.rb.trans hr,fun i x hx=> ?_,fun e he=> ?_,?_,h.size,h.ds,fun t sv ht=> ?_,⟨q,Lv,rfl,hb,yj hr hd h.l⟩,hS,ct.fr.mono hd h.fr,?_,h.exIns,h.o⟩
 ·unfold Rho.ins at hx
  show i<s.nx+1
  split at hx
  ·omega
  ·have:=h.dom _ _ hx;omega
 ·show e.2.1<s.nx+1
  rcases List.mem_cons.1 he with rfl|he
  ·exact Nat.lt_succ_self _
  ·have:=h.ver e he;omega
 ·show((s.nx,s.nx,b)::s.L|>.map (·.1)).Nodup
  rw[List.map_cons,List.nodup_cons]
  refine⟨fun hm=> ?_,h.nd⟩
  obtain⟨e,he,h1⟩:=List.mem_map.1 hm
  have:=h.idlt he
  have h1:e.1=s.nx:=h1
  omega
 ·obtain⟨v,h1,h2⟩:=h.e t sv ht
  exact⟨v,h1,JL hr hd h2⟩
 ·refine h.ini.mv hr h.st.st hS.st fun id b' p' hp hl=> ?_
  have hlt:=h.dom _ _ hp
  have hb:Nat.beq s.nx id=false:=by
   cases hb:Nat.beq s.nx id with
   |true=>have:=Qc hb;omega
   |false=>rfl
  simp only[SS.nw,lookA,hb,Qh]at hl
  obtain⟨X,q1,Y,e1,h1,_⟩:=qJ h.l hl
  exact⟨hl,q1,D,h1,by rw[e1];simp,by rw[e1];simp⟩
theorem Ext.nw(s:SS T)(b:SB T):Ext s (s.nw b):=⟨⟨[],rfl⟩,Nat.le_succ _,fun id v sb hl hv=>by
 simp only[SS.nw,lookA]at hl
 cases hb:Nat.beq s.nx id with
 |true=>rw[hb]at hl;simp only[Qg,Qa,Qe]at hl;omega
 |false=>rw[hb]at hl;exact hl⟩
theorem Ext.wr(s:SS T)(id:Nat)(b:SB T):Ext s (s.wr id b):=⟨⟨[],rfl⟩,Nat.le_succ _,fun j v sb hl hv=>by
 simp only[SS.wr]at hl
 rw[QgE]at hl
 split at hl
 ·cases hx:lookA s.L id with
  |none=>rw[hx]at hl;cases hl
  |some x=>rw[hx]at hl;simp only[Option.map_some,Qa,Qe]at hl;omega
 ·exact hl⟩
theorem RSx.wr{w':World}{D':Snap}{Lv':List Blk}{id:Nat}{b:SB T}(h:RSx ct ρ D Lv R s a w)(hS:Stp ct.g ct.w0 ct.D0 ct.L0 w' D' (Lv'++R))(hd:D.le D')(hl:RLs ρ D' (putB id (s.nx,b) s.L) Lv'){Z:List Blk}(hz:RLs ρ D (delB id s.L) Z)(hz1:∀q∈Z,q∈Lv)(hz2:∀q∈Z,q∈Lv'):RSx ct ρ D' Lv' R (s.wr id b) a w':=by
 refine⟨h.rb,fun i x hx=> ?_,fun e he=> ?_,?_,h.size,h.ds,fun t sv ht=> ?_,hl,hS,ct.fr.mono hd h.fr,?_,⟨Nat.le_succ_of_le h.ex.1,h.ex.2⟩,h.o⟩
 ·have:=h.dom i x hx
  show i<s.nx+1;omega
 ·show e.2.1<s.nx+1
  rcases Qnt he with h1|h1
  ·rw[h1];exact Nat.lt_succ_self _
  ·have:=h.ver e h1;omega
 ·show((putB id (s.nx,b) s.L).map (·.1)).Nodup
  rw[Qns];exact h.nd
 ·obtain⟨v,h1,h2⟩:=h.e t sv ht
  exact⟨v,h1,JL (Rho.le.refl _) hd h2⟩
 ·refine h.ini.mv (Rho.le.refl _) h.st.st hS.st fun k b' p' hp hk=> ?_
  have hlt:=h.dom _ _ hp
  simp only[SS.wr]at hk
  rw[QgE]at hk
  split at hk
  ·cases hx:lookA s.L id with
   |none=>rw[hx]at hk;cases hk
   |some x=>rw[hx]at hk;simp only[Option.map_some,Qa,Qe]at hk;omega
  ·rename_i hne
   obtain⟨q,h1,h2⟩:=Qqa hz hne hk
   exact⟨hk,q,D,h1,List.mem_append_left _ (hz1 q h2),List.mem_append_left _ (hz2 q h2)⟩
theorem RSx.var{id ver:Nat}{tid:TypeId}{v:SV T}(h:RSx ct ρ D Lv R s a w)(hl:lookA s.L id=some (ver,.var tid v)):
  ∃X Y m c,Lv=X++bx m tid c::Y∧ρ id=some (.blk m)∧RX ρ D v false c∧w.heap[m]?=some (.cells c.toArray tid (0,0))∧RLs ρ D (delB id s.L) (X++Y)∧
   ∀v' c',RX ρ D v' false c'→RLs ρ D (putB id (s.nx,.var tid v') s.L) (X++bx m tid c'::Y):=by
 obtain⟨X,q,Y,e,h1,h2,h3⟩:=qJ h.l hl
 obtain⟨m,c,h4,h5,rfl⟩:=h1
 refine⟨X,Y,m,c,e,h4,h5,?_,h2,fun v' c' hv=>h3 ρ D _ _ _ (Rho.le.refl _) (Snap.le.refl _) ⟨m,c',h4,hv,rfl⟩⟩
 refine h.st.heapAt (j:=X.length) (o:=(.cells c.toArray tid (0,0),0)) ?_
 rw[e]
 simp
theorem RSx.setv{id:Nat}{tid:TypeId}{v':SV T}{X Y:List Blk}{m:Nat}{c c':List Value}(h:RSx ct ρ D (X++bx m tid c::Y) R s a w)(hh:w.heap[m]?=some (.cells c.toArray tid (0,0)))
  (hz:RLs ρ D (delB id s.L) (X++Y)) (hl:RLs ρ D (putB id (s.nx,.var tid v') s.L) (X++bx m tid c'::Y)):RSx ct ρ D (X++bx m tid c'::Y) R (s.wr id (.var tid v')) a (w.setRow m c'.toArray):=by
 refine h.wr ?_ (Snap.le.refl _) hl hz (fun q hq=>by rcases List.mem_append.1 hq with h|h<;>simp[h]) (fun q hq=>by rcases List.mem_append.1 hq with h|h<;>simp[h])
 have h1:=h.st.prm (J8 X Y R (bx m tid c))
 have h2:=h1.put0 (w':=w.setRow m c'.toArray) (C':=c'.toArray) (T':=tid) (fr':=(0,0)) (by simp) rfl rfl rfl (setRow_heap w m c.toArray _ tid _ hh) (fun k hk=>setRow_other w m k _ hk)
 exact h2.prm (J8 X Y R (bx m tid c')).symm
theorem Qxa(hC:CxOk C ct)(h:RSx ct ρ D Lv R s a w)(du:Du ct ops i o a (some d)){t:TypeId}{x:Operand}{ty:TypeId}(hop:o.op= .box t x)(hs:(sopD C s d ty (.box t x)).run k=some r)
  (hk:∀s' a' w',Ext s s'→k s'=some r→RS ct s' a' w'→Cn a' w'):Op1 C.P rd ops Q i Cn a w:=by
 simp only[sopD]at hs
 split at hs
 ·rename_i sv hsv
  cases hb:okSt sv with
  |false=>rw[hb]at hs;cases hs
  | true=>
   rw[hb]at hs
   obtain⟨v,e1,r1⟩:=YC hC h hsv
   refine Zf (v:= .pointer (some ⟨w.heap.size,0,none⟩)) (w':=w.alloc (.cells (Q4 v).toArray t)) h.env du.ho du.hg (by rw[du.hd];exact du.ok) (by simp[hop,Q5]) ?_ fun a' hE=> ?_
   ·simp[execOp,hop,h.env.eval e1,Instr.box,newVar,newRow,qE]
   ·rw[du.hd]at hE
    refine hk _ a' _ ((Ext.nw _ _).trans (Ext.put _ _ _)) hs ⟨ρ.ins s.nx (.blk w.heap.size),D,bx w.heap.size t (Q4 v)::Lv,R,?_⟩
    have hS:=h.st.alloc (.cells (Q4 v).toArray t)
    have h1:=h.nw (p:= .blk w.heap.size) (b:= .var t sv) hS (Snap.le.refl _) ⟨_,_,Rho.ins_at _ _ _,yA (Rho.le_ins h.fresh) (Snap.le.refl _) _ _ _ (Qbl r1),rfl⟩
    exact h1.put (fun _ _=>YV rfl ⟨_,Rho.ins_at _ _ _,rfl⟩) du.fr hE
 ·cases hs
theorem QsY(h:RSx ct ρ D Lv R s a w)(du:Du ct ops i o a (some d)){t:TypeId}{ty:TypeId}(hop:o.op= .alloc t)(hs:(sopD C s d ty (.alloc t)).run k=some r)
  (hk:∀s' a' w',Ext s s'→k s'=some r→RS ct s' a' w'→Cn a' w'):Op1 C.P rd ops Q i Cn a w:=by
 simp only[sopD]at hs
 split at hs
 ·rename_i sv hsv
  obtain⟨z,hz,r1⟩:=Qbo ρ D hsv
  obtain⟨ii,hi,hzz⟩:=Option.bind_eq_some_iff.1 hz
  refine Zf (v:= .pointer (some ⟨w.heap.size,0,none⟩)) (w':=w.alloc (.cells (Q4 z).toArray t)) h.env du.ho du.hg (by rw[du.hd];exact du.ok) (by simp[hop,Q5]) ?_ fun a' hE=> ?_
  ·simp[execOp,hop,Instr.alloc,zeroValue,typeInfo,hi,hzz,newVar,newRow,qE]
  ·rw[du.hd]at hE
   refine hk _ a' _ ((Ext.nw _ _).trans (Ext.put _ _ _)) hs ⟨ρ.ins s.nx (.blk w.heap.size),D,bx w.heap.size t (Q4 z)::Lv,R,?_⟩
   have hS:=h.st.alloc (.cells (Q4 z).toArray t)
   have h1:=h.nw (p:= .blk w.heap.size) (b:= .var t sv) hS (Snap.le.refl _) ⟨_,_,Rho.ins_at _ _ _,yA (Rho.le_ins h.fresh) (Snap.le.refl _) _ _ _ r1,rfl⟩
   exact h1.put (fun _ _=>YV rfl ⟨_,Rho.ins_at _ _ _,rfl⟩) du.fr hE
 ·cases hs
theorem Qnu(hT:TbOk T)(h:RSx ct ρ D Lv R s a w){t:TypeId}{p u:SV T}{v:Value}(hl:QsR C.P s t p=some u)(hp:RV ρ D p v):
  ∃b off z,v= .pointer (some ⟨b,off,none⟩)∧(loadVar t ⟨b,off,none⟩).run C.P w= .ok z w∧RV ρ D u z:=by
 unfold QsR at hl
 split at hl
 ·rename_i sz ag hts
  split at hl
  ·rename_i b off
   split at hl
   ·rename_i ver tid c hlk
    obtain⟨X,Y,m,cs,_,h2,h3,h4,_⟩:=h.var hlk
    obtain⟨m',h5,h6⟩:=Yn rfl hp
    rw[h2]at h5
    cases h5
    cases h6
    obtain⟨u',hl2,e0⟩:=QdO hl
    subst e0
    obtain⟨h7,h8,h9,_⟩:=Qbm hT _ _ _ _ _ _ _ hl2 h3
    obtain⟨h8,h91⟩:=QgD hT (y:=tyOf T C.P 20 t) 5 u' h8
    obtain⟨z,h10,h11⟩:=Qbn (cu:= []) hts h7 h8 (h91.trans h9)
    exact⟨m,off,z,rfl,QlO h4 h10,h11⟩
   ·cases hl
  ·rename_i y x
   cases hb:(Nat.beq (szT T y) sz&&(agT y==ag))with
   |false=>rw[hb]at hl;cases hl
   |true=>
    rw[hb]at hl
    simp only[Qg,Qa]at hl
    subst hl
    simp only[Qd,beq_iff_eq]at hb
    have hsz:=Qc hb.1
    obtain⟨b,off,e,cs,c,T0,fr,h1,h2,h3⟩:=Yn rfl hp
    cases e
    obtain⟨o',h4,h5⟩:=h.st.st.d _ _ h2
    obtain⟨C',T',fr',rfl,h6⟩:=Zb h5
    have hlen:cs.length=sz:=by rw[(kdT T y).len _ _ _ h1,←QbE];exact hsz
    obtain⟨z,h10,h11⟩:=Qbn (ρ:=ρ) (D:=D) (u:= .dt y x) (c:=cs) (cu:= []) (off:=0) hts (by omega) (by rw[List.drop_zero,List.take_of_length_le (by omega)];exact h1) hb.2
    exact⟨b,off,z,rfl,QcF (off0:=off) (off:=0) h4 (fun j u hu=>h6 _ _ (h3 j u hu)) h10,h11⟩
  ·rename_i b off i n k
   split at hl
   ·rename_i ver tid c hlk
    cases hb:(Nat.beq sz 1&& !ag)with
    |false=>rw[hb]at hl;cases hl
    | true=>
     rw[hb]at hl
     simp only[Qg]at hl
     simp only[Qd,Bool.not_eq_true']at hb
     obtain rfl:=Qc hb.1
     obtain rfl:=hb.2
     split at hl
     ·rename_i k' n' x hsub
      cases hb2:(Nat.beq n n'&&sameKind k k')with
      |false=>rw[hb2]at hl;cases hl
      | true=>
       rw[hb2]at hl
       simp only[Qg,Qa]at hl
       subst hl
       simp only[Qd]at hb2
       obtain rfl:=Qc hb2.1
       obtain⟨X,Y,m,cs,_,h2,h3,h4,_⟩:=h.var hlk
       obtain⟨m',h5,h6,h61⟩:=Yn rfl hp
       rw[h2]at h5
       cases h5
       cases h6
       obtain⟨m0,m1,m2⟩:=ZX h61
       obtain⟨h7,h8,_,_⟩:=Qbm hT _ _ _ _ _ _ _ hsub h3
       have h8:(cs.drop off).take n=Ya k' n x:=h8
       have e:(cs.drop (off+i.toNat)).take 1= [.int k' (vget x i.toNat)]:=by
        have hlt:off+i.toNat<cs.length:=by omega
        rw[List.drop_eq_getElem_cons hlt]
        simp only[List.take_succ_cons,List.take_zero,List.cons.injEq,and_true]
        have h9:((cs.drop off).take n)[i.toNat]?=some cs[off+i.toNat]:=by
         rw[List.getElem?_take,if_pos m2,List.getElem?_drop,List.getElem?_eq_getElem hlt]
        rw[h8]at h9
        simp[Ya,m2]at h9
        exact h9.symm
       obtain⟨z,h10,h11⟩:=Qbn (ρ:=ρ) (D:=D) (u:=(.dt (.int k') (vget x i.toNat):SV T)) (c:=cs) (off:=off+i.toNat) (cu:= []) hts (by omega) (by rw[e];rfl) rfl
       exact⟨m,off+i.toNat,z,rfl,QlO h4 h10,h11⟩
     ·cases hl
   ·cases hl
  ·cases hl
 ·cases hl
theorem jP{β:Type}{x:Option β}{f:β→Option (SS T)}(h:(Out.dem x f).run k=some r):∃y s',x=some y∧f y=some s'∧k s'=some r:=by
 obtain⟨y,h1,h2⟩:=bind_some h
 split at h2
 ·rename_i s' hs;exact⟨y,s',h1,hs,h2⟩
 ·cases h2
theorem QvE(hC:CxOk C ct)(h:RSx ct ρ D Lv R s a w)(du:Du ct ops i o a (some d)){t:TypeId}{x:Operand}{ty:TypeId}(hop:o.op= .load t x)(hs:(sopD C s d ty (.load t x)).run k=some r)
  (hv:∀b off i' n y fo,evS C s 0 x=some (.eva b off i' n y fo)→(QsS C.P s (some d) t b off i' n y fo).run k=some r→Op1 C.P rd ops Q i Cn a w)
  (hk:∀s' a',Ext s s'→k s'=some r→RS ct s' a' w→Cn a' w):Op1 C.P rd ops Q i Cn a w:=by
 simp only[sopD]at hs
 unfold QwN at hs
 split at hs
 ·rename_i o' i' off es hp
  obtain⟨v,e1,r1⟩:=YC hC h hp
  obtain⟨b,cap,len,h3,h4,h5⟩:=Yn rfl r1
  cases h4
  unfold QwM at hs
  split at hs
  ·rename_i sz ag ver t' e' xs hts hl
   cases hb:Nat.beq (szT T t') es with
   |false=>rw[hb]at hs;cases hs
   | true=>
    rw[hb]at hs
    simp only[Qg]at hs
    obtain rfl:=Qc hb
    obtain⟨z,s',hz,hs',hkk⟩:=jP hs
    split at hs'
    ·rename_i u hu
     simp only[Qa]at hs'
     subst hs'
     obtain⟨X,q,Y,e2,⟨A,cap',g1,g2⟩,_,_⟩:=qJ h.l hl
     rw[h3]at g1
     simp only[Qa,Pl.own.injEq]at g1
     obtain⟨rfl,rfl,rfl⟩:=g1
     obtain⟨cs,hO,hrl⟩:=g2
     obtain⟨hz0,hz1⟩:=jX hz
     have hlt:=(List.getElem?_eq_some_iff.1 hz1).1
     cases q with
     |none=>have:=(hO.2.2.2.2 rfl).2;omega
     | some qp=>
      obtain⟨b',ob⟩:=qp
      obtain⟨hA,_,_,hcl,Cl,k0,rfl,_,_,_,ht⟩:=hO
      cases hA
      obtain⟨cz,hcz,hj⟩:=hrl.at_ hz1
      have hheap:=(h.st.st.l b (.cells Cl e' (0,0),k0) (by rw[e2];simp)).1
      have hRX:RX ρ D (.dt t' z:SV T) false cz:=hcz
      obtain⟨u',hu2,e0⟩:=QdO hu
      subst e0
      obtain⟨h7,h8,h9,_⟩:=Qbm hC.tb _ _ _ _ _ _ _ hu2 hRX
      obtain⟨h8,h91⟩:=QgD hC.tb (y:=tyOf T C.P 20 t) 5 u' h8
      obtain⟨zv,h10,h11⟩:=Qbn (cu:= []) hts h7 h8 (h91.trans h9)
      refine val_ok h du (by simp[hop,Q5]) (v:=zv) ?_ h11 fun a' h'=>hk _ _ (Ext.put _ _ _) hkk h'
      have hld:=QcF (P:=C.P) (w:=w) (off0:=i'.toNat*szT T t') (off:=off) hheap (fun j u hu=>by
       have h12:=hj j u hu
       rw[←QbE,←ht,List.getElem?_take]at h12
       split at h12
       ·simpa using h12
       ·cases h12) h10
      simp[execOp,hop,h.env.eval e1,Instr.loadAt,Instr.sureAddr,hld]
    ·cases hs'
  ·cases hs
 ·rename_i b off i' n y fo hp
  exact hv b off i' n y fo hp hs
 ·rename_i p _ _ hp
  obtain⟨v,e1,r1⟩:=YC hC h hp
  obtain⟨sv,h1,h2⟩:=Zv hs
  obtain⟨b,off,z,rfl,h3,h4⟩:=Qnu hC.tb h h1 r1
  refine val_ok h du (by simp[hop,Q5]) (v:=z) ?_ h4 fun a' h'=>hk _ _ (Ext.put _ _ _) h2 h'
  simp[execOp,hop,h.env.eval e1,Instr.loadAt,Instr.sureAddr,h3]
 ·cases hs
theorem QvF(hC:CxOk C ct)(h:RSx ct ρ D Lv R s a w)(du:Du ct ops i o a (some d)){t m:Nat}{x:Operand}{ty:TypeId}(hop:o.op= .fieldAddr t x m)(hs:(sopD C s d ty (.fieldAddr t x m)).run k=some r)
  (hk:∀s' a',Ext s s'→k s'=some r→RS ct s' a' w→Cn a' w):Op1 C.P rd ops Q i Cn a w:=by
 simp only[sopD]at hs
 split at hs
 ·rename_i p hp
  obtain⟨v,e1,r1⟩:=YC hC h hp
  obtain⟨sv,h1,h2⟩:=Zv hs
  unfold fadS at h1
  split at h1
  ·rename_i fo ft hT
   split at h1
   ·rename_i b off
    simp only[Qa]at h1
    subst h1
    obtain⟨n,h3,h4⟩:=Yn rfl r1
    cases h4
    exact Xv h (Qa5 (off+fo) du.ho hop du.hg du.hd h.env du.lt e1 hT rfl fun a' hE=>hk _ a' (Ext.put _ _ _) h2 (h.slot du (YV rfl ⟨n,h3,rfl⟩) hE))
   ·rename_i n x'
    split at h1
    ·rename_i sz ag hts
     split at h1
     ·rename_i y z hsub
      simp only[Qa]at h1
      subst h1
      obtain⟨b,off,e,cs,c,T0,fr,h3,h4,h5⟩:=Yn rfl r1
      cases e
      obtain⟨h6,h7,_,_⟩:=Qdj hC.tb _ _ _ _ _ _ _ hsub (QuA (ρ:=ρ) hC.tb h3)
      refine Xv h (Qa5 (off+fo) du.ho hop du.hg du.hd h.env du.lt e1 hT rfl fun a' hE=>hk _ a' (Ext.put _ _ _) h2 (h.slot du (YV rfl ⟨b,off+fo,rfl,_,c,T0,fr,h7,h4,fun j u hu=> ?_⟩) hE))
      rw[List.getElem?_take]at hu
      split at hu
      ·rw[List.getElem?_drop]at hu
       rw[Nat.add_assoc]
       exact h5 _ _ hu
      ·cases hu
     ·cases h1
    ·cases h1
   ·rename_i o' i' off es
    simp only[Qa]at h1
    subst h1
    obtain⟨b,cap,len,h3,h4,h5⟩:=Yn rfl r1
    cases h4
    exact Xv h (Qa5 (i'.toNat*es+off+fo) du.ho hop du.hg du.hd h.env du.lt e1 hT rfl fun a' hE=>hk _ a' (Ext.put _ _ _) h2 (h.slot du (YV rfl ⟨b,cap,len,h3,by rw[Nat.add_assoc],h5⟩) hE))
   ·rename_i b off i' n y f
    simp only[Qa]at h1
    subst h1
    obtain⟨m,h3,h4,h5⟩:=Yn rfl r1
    cases h4
    exact Xv h (Qa5 (off+i'.toNat*szT T y+f+fo) du.ho hop du.hg du.hd h.env du.lt e1 hT rfl fun a' hE=>hk _ a' (Ext.put _ _ _) h2 (h.slot du (YV rfl ⟨m,h3,by rw[Nat.add_assoc],h5⟩) hE))
   ·cases h1
  ·cases h1
 ·cases hs
theorem Qnv{v l:SV T}(h:Qem v=some l):agS v=true:=by
 cases v with
 |agg u=>rfl
 |dt t x=>cases t<;>first|rfl|cases h
 |_=>cases h
theorem QsZ(hC:CxOk C ct)(h:RSx ct ρ D Lv R s a w)(du:Du ct ops i o a (some d)){t m:Nat}{x:Operand}{ty:TypeId}(hop:o.op= .field t x m)(hs:(sopD C s d ty (.field t x m)).run k=some r)
  (hk:∀s' a',Ext s s'→k s'=some r→RS ct s' a' w→Cn a' w):Op1 C.P rd ops Q i Cn a w:=by
 simp only[sopD]at hs
 split at hs
 ·rename_i p hp
  obtain⟨v,e1,r1⟩:=YC hC h hp
  obtain⟨sv,h1,h2⟩:=Zv hs
  unfold fldS at h1
  split at h1
  ·rename_i fo ft l hT hl
   split at h1
   ·rename_i sz ag hts
    unfold RV at r1
    rw[Qnv hl]at r1
    obtain⟨c,h3,rfl⟩:=r1
    obtain⟨u',h12,e0⟩:=QdO h1
    subst e0
    obtain⟨h6,h7,h8,_⟩:=Qdj hC.tb _ _ _ _ _ _ _ h12 (Qaf hC.tb hl h3)
    obtain⟨h7,h81⟩:=QgD hC.tb (y:=tyOf T C.P 20 ft) 5 u' h7
    obtain⟨z,h9,h10⟩:=Qbn (cu:= []) hts h6 h7 (h81.trans h8)
    exact Xv h (Qu9 z du.ho hop du.hg du.hd h.env du.lt e1 hT h9 fun a' hE=>hk _ a' (Ext.put _ _ _) h2 (h.slot du h10 hE))
   ·cases h1
  ·cases h1
 ·cases hs
end
end Go.Sep
