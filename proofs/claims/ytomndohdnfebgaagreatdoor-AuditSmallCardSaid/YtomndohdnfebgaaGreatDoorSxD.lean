/-
 Symbolic execution: states, and what an operation's operands are.
-/
import Derived.Test.YtomndohdnfebgaaGreatDoorSxC
set_option linter.unusedVariables false
set_option linter.unusedSimpArgs false
namespace Go.Sep
structure Frm where
 p:Nat→Snap→Act→List Blk→Prop
 t:Nat→Prop
 mono:∀{m:Nat} {D D':Snap} {a:Act} {R:List Blk},D.le D'→p m D a R→p m D' a R
 put:∀{m:Nat} {D:Snap} {a a':Act} {R:List Blk} {d:Option Tmp},(∀x,d=some x→ ¬t x)→(∀x,d≠some x→a'.tmps[x]?=a.tmps[x]?)→a'.defers=a.defers→p m D a R→p m D a' R
structure Ct where
 n:Nat
 ds:List Deferred
 g:World
 w0:World
 D0:Snap
 L0:List Blk
 rb:Rho
 fr:Frm
 ini:Nat→Option (Nat×TypeId×List Value)
 nb:Nat:=0
 mks:Bool:=false
def DsOk(ct:Ct)(ds:List Deferred)(R:List Blk):Prop:=∃ms:List Nat,ds=ms.map XR++ct.ds∧(ms= []∨ct.mks=true)∧ms.Nodup∧∀m∈ms,dk m∈R
theorem DsOk.nil{ct:Ct}{R:List Blk}:DsOk ct ct.ds R:=⟨[],rfl,.inl rfl,List.nodup_nil,fun _ h=>by cases h⟩
theorem DsOk.mono{ct:Ct}{ds:List Deferred}{R R':List Blk}(h:DsOk ct ds R)(hr:∀q∈R,q∈R'):DsOk ct ds R':=by
 obtain⟨ms,h1,h2,h3,h4⟩:=h
 exact⟨ms,h1,h2,h3,fun m hm=>hr _ (h4 m hm)⟩
section
variable {T:Tb}
def RBk(ρ:Rho)(D:Snap)(id:Nat):SB T→Blk→Prop
 | .var t v,q=>∃m c,ρ id=some (.blk m)∧RX ρ D v false c∧q=bx m t c
 | .own t e xs f,q=>∃A cap,ρ id=some (.own A cap xs.length)∧OwnX f (kdT T t) e D A cap xs q
 | .lnt t xs,q=>∃A cap,ρ id=some (.own A cap xs.length)∧Sl (kdT T t) D A cap xs∧q=none
def RLs(ρ:Rho)(D:Snap):List (Nat×Nat×SB T)→List Blk→Prop
 | [],Ls=>Ls= []
 |e::L,Ls=>∃q Ls',Ls=q::Ls'∧RBk ρ D e.1 e.2.2 q∧RLs ρ D L Ls'
def IniQ(ct:Ct)(ρ:Rho)(s:SS T)(w:World):Prop:=∀id n t c,ct.ini id=some (n,t,c)→ρ id=some (.blk n)∧∀b,lookA s.L id=some (id,b)→w.heap[n]?=some (.cells c.toArray t (0,0))
structure RSx(ct:Ct)(ρ:Rho)(D:Snap)(Lv R:List Blk)(s:SS T)(a:Act)(w:World):Prop where
 rb:ct.rb.le ρ
 dom:∀i p,ρ i=some p→i<s.nx
 ver:∀e∈s.L,e.2.1<s.nx
 nd:(s.L.map (·.1)).Nodup
 size:a.tmps.size=ct.n
 ds:DsOk ct a.defers R
 e:∀t sv,lookA s.E t=some sv→∃v,a.tmps[t]?=some v∧RV ρ D sv v
 l:RLs ρ D s.L Lv
 st:Stp ct.g ct.w0 ct.D0 ct.L0 w D (Lv++R)
 fr:ct.fr.p s.md.m D a R
 ini:IniQ ct ρ s w
 ex:ct.nb≤s.nx∧∀i,i<ct.nb→ct.rb i=none→ρ i=none
 o:∀t sv,lookA s.md.O t=some sv→∀b∈Qbx sv,ct.rb b≠none
def RS(ct:Ct)(s:SS T)(a:Act)(w:World):Prop:=∃ρ D Lv R,RSx ct ρ D Lv R s a w
structure Ext(s s':SS T):Prop where
 e:∃pre,s'.E=pre++s.E
 nx:s.nx≤s'.nx
 l:∀id v sb,lookA s'.L id=some (v,sb)→v<s.nx→lookA s.L id=some (v,sb)
theorem Ext.refl(s:SS T):Ext s s:=⟨⟨[],rfl⟩,Nat.le_refl _,fun _ _ _ h _=>h⟩
theorem Ext.trans{s s1 s2:SS T}(h:Ext s s1)(h':Ext s1 s2):Ext s s2:=by
 obtain⟨p,hp⟩:=h.e
 obtain⟨q,hq⟩:=h'.e
 exact⟨⟨q++p,by rw[hq,hp];simp⟩,Nat.le_trans h.nx h'.nx,fun id v sb hl hv=>h.l id v sb (h'.l id v sb hl (Nat.lt_of_lt_of_le hv h.nx)) hv⟩
theorem Qck{ρ ρ':Rho}{D D':Snap}(hr:ρ.le ρ')(hd:D.le D'){id:Nat}:∀{b:SB T} {q:Blk},RBk ρ D id b q→RBk ρ' D' id b q
 | .var _ _,_,⟨m,c,h1,h2,h3⟩=>⟨m,c,hr _ _ h1,jS hr hd _ _ _ h2,h3⟩
 | .own _ _ _ _,_,⟨A,cap,h1,h2⟩=>⟨A,cap,hr _ _ h1,h2.mono hd⟩
 | .lnt _ _,_,⟨A,cap,h1,h2,h3⟩=>⟨A,cap,hr _ _ h1,h2.mono hd,h3⟩
theorem jP{ρ ρ':Rho}{D D':Snap}(hr:ρ.le ρ')(hd:D.le D'):∀{L:List (Nat×Nat×SB T)} {Ls:List Blk},RLs ρ D L Ls→RLs ρ' D' L Ls
 | [],_,h=>h
 |_::_,_,⟨q,Ls',h1,h2,h3⟩=>⟨q,Ls',h1,Qck hr hd h2,jP hr hd h3⟩
theorem qm{ρ:Rho}{D:Snap}{id ver:Nat}{b:SB T}:∀{L:List (Nat×Nat×SB T)} {Ls:List Blk},RLs ρ D L Ls→lookA L id=some (ver,b)→
  ∃X q Y,Ls=X++q::Y∧RBk ρ D id b q∧RLs ρ D (delB id L) (X++Y)∧(∀ρ' D' ver' b' q',ρ.le ρ'→D.le D'→RBk ρ' D' id b' q'→RLs ρ' D' (putB id (ver',b') L) (X++q'::Y))
 | [],_,_,h=>by cases h
 | e::L,_,⟨q,Ls',h1,h2,h3⟩,h=>by
  obtain⟨k,d⟩:=e
  subst h1
  simp only[lookA]at h
  cases hb:Nat.beq k id with
  |true=>
   rw[hb]at h
   have:=Qc hb
   subst this
   simp only[Qg,Qa]at h
   subst h
   refine⟨[],q,Ls',rfl,h2,?_,fun ρ' D' ver' b' q' hr hd hq=> ?_⟩
   ·unfold delB;rw[hb];exact h3
   ·unfold putB;rw[hb];exact⟨q',Ls',rfl,hq,jP hr hd h3⟩
  |false=>
   rw[hb]at h
   obtain⟨X,q1,Y,e1,e2,e3,e4⟩:=qm h3 h
   subst e1
   refine⟨q::X,q1,Y,rfl,e2,?_,fun ρ' D' ver' b' q' hr hd hq=> ?_⟩
   ·unfold delB;rw[hb];exact⟨q,_,rfl,h2,e3⟩
   ·unfold putB;rw[hb];exact⟨q,_,rfl,Qck hr hd h2,e4 _ _ _ _ _ hr hd hq⟩
theorem Qga{id:Nat}{c:Nat×SB T}:∀{L:List (Nat×Nat×SB T)} (k:Nat),lookA (putB id c L) k=if k=id then(lookA L id).map (fun _=>c)else lookA L k
 | [],k=>by simp[putB,lookA]
 | e ::L,k=>by
  obtain⟨j,d⟩:=e
  unfold putB
  cases hb:Nat.beq j id with
  | true=>
   have:=Qc hb
   subst this
   simp only[Qg,lookA]
   by_cases hk:k=j
   ·subst hk;simp
   ·have:Nat.beq j k=false:=by
     cases h:Nat.beq j k with
     |true=>exact absurd (Qc h).symm hk
     |false=>rfl
    simp[this,hk]
  | false=>
   simp only[Qh,lookA,hb]
   rw[Qga k]
   cases hj:Nat.beq j k with
   |true=>
    have:=Qc hj
    subst this
    have:j≠id:=fun e=>by subst e;simp at hb
    simp[this]
   |false=>simp
theorem Yk{α:Type}{x:α}{id:Nat}:∀{L:List (Nat×α)},lookA L id=some x→(id,x)∈L
 | [],h=>by cases h
 | e::L,h=>by
  obtain⟨j,d⟩:=e
  simp only[lookA]at h
  cases hb:Nat.beq j id with
  |true=>
   rw[hb]at h
   have:=Qc hb
   subst this
   simp only[Qg,Qa]at h
   subst h
   exact List.mem_cons_self
  |false=>rw[hb]at h;exact List.mem_cons_of_mem _ (Yk h)
theorem QhI{α:Type}{id:Nat}:∀{L:List (Nat×α)},id∉L.map (·.1)→lookA L id=none
 | [],_=>rfl
 | e::L,h=>by
  obtain⟨j,d⟩:=e
  simp only[List.map_cons,List.mem_cons,not_or]at h
  have:Nat.beq j id=false:=by
   cases hb:Nat.beq j id with
   |true=>exact absurd (Qc hb).symm h.1
   |false=>rfl
  simp only[lookA,this,Qh]
  exact QhI h.2
theorem Qmu{id:Nat}{c:Nat×SB T}:∀{L:List (Nat×Nat×SB T)},(putB id c L).map (·.1)=L.map (·.1)
 | []=>rfl
 |e::L=>by
  obtain⟨j,d⟩:=e
  unfold putB
  cases hb:Nat.beq j id with
  |true=>rfl
  |false=>simp[Qmu (L:=L)]
theorem Qmv{id:Nat}{c:Nat×SB T}{e:Nat×Nat×SB T}:∀{L:List (Nat×Nat×SB T)},e∈putB id c L→e.2=c∨e∈L
 | [],h=>by cases h
 | d::L,h=>by
  obtain⟨j,d⟩:=d
  unfold putB at h
  cases hb:Nat.beq j id with
  |true=>
   rw[hb]at h
   rcases List.mem_cons.1 h with h|h
   ·left;rw[h]
   ·right;exact List.mem_cons_of_mem _ h
  | false=>
   rw[hb]at h
   rcases List.mem_cons.1 h with h|h
   ·right;rw[h];exact List.mem_cons_self
   ·rcases Qmv h with h|h
    ·exact .inl h
    ·exact .inr (List.mem_cons_of_mem _ h)
theorem jw{id:Nat}:∀{L:List (Nat×Nat×SB T)},(delB id L).Sublist L
 | []=> .slnil
 |e::L=>by
  obtain⟨j,d⟩:=e
  unfold delB
  cases hb:Nat.beq j id with
  |true=>exact .cons _ (List.Sublist.refl _)
  |false=>exact .cons_cons _ jw
theorem Zb{id:Nat}:∀{L:List (Nat×Nat×SB T)} (k:Nat) {x:Nat×SB T},(L.map (·.1)).Nodup→lookA (delB id L) k=some x→k≠id∧lookA L k=some x
 | [],_,_,_,h=>by cases h
 | e::L,k,x,hn,h=>by
  obtain⟨j,d⟩:=e
  simp only[List.map_cons,List.nodup_cons]at hn
  unfold delB at h
  cases hb:Nat.beq j id with
  | true=>
   rw[hb]at h
   have h0:lookA L k=some x:=h
   clear h
   have:=Qc hb
   subst this
   have hkj:k≠j:=fun e=>by rw[e,QhI hn.1]at h0;cases h0
   have:Nat.beq j k=false:=by
    cases hh:Nat.beq j k with
    |true=>exact absurd (Qc hh).symm hkj
    |false=>rfl
   exact⟨hkj,by simp only[lookA,this,Qh];exact h0⟩
  | false=>
   rw[hb]at h
   simp only[Qh,lookA]at h
   cases hj:Nat.beq j k with
   |true=>
    rw[hj]at h
    have:=Qc hj
    subst this
    exact⟨fun e=>by subst e;simp at hb,by simp only[lookA,hj];exact h⟩
   |false=>
    rw[hj]at h
    obtain⟨h1,h2⟩:=Zb k hn.2 h
    exact⟨h1,by simp only[lookA,hj];exact h2⟩
theorem QhJ{id k:Nat}(hk:k≠id){x:Nat×SB T}:∀{L:List (Nat×Nat×SB T)},lookA L k=some x→lookA (delB id L) k=some x
 | [],h=>by cases h
 | e::L,h=>by
  obtain⟨j,d⟩:=e
  unfold delB
  simp only[lookA]at h
  cases hb:Nat.beq j id with
  | true=>
   have:=Qc hb
   subst this
   have:Nat.beq j k=false:=by
    cases hh:Nat.beq j k with
    |true=>exact absurd (Qc hh).symm hk
    |false=>rfl
   rw[this]at h
   exact h
  |false=>
   simp only[Qh,lookA]
   cases hj:Nat.beq j k with
   |true=>rw[hj]at h;exact h
   |false=>rw[hj]at h;exact QhJ hk h
theorem Qo6{ρ:Rho}{D:Snap}{id k ver:Nat}{b:SB T}{L:List (Nat×Nat×SB T)}{Z:List Blk}(h:RLs ρ D (delB id L) Z)(hk:k≠id)(hl:lookA L k=some (ver,b)):∃q,RBk ρ D k b q∧q∈Z:=by
 obtain⟨X,q,Y,e,h1,_⟩:=qm h (QhJ hk hl)
 exact⟨q,h1,by rw[e];simp⟩
theorem IniQ.mv{ct:Ct}{ρ ρ':Rho}{s s':SS T}{w w' g g':World}{Da Da':Snap}{Z Z':List Blk}(h:IniQ ct ρ s w)(hr:ρ.le ρ')(hS:St g w Da Z)(hS':St g' w' Da' Z')
  (hb:∀id b p,ρ id=some p→lookA s'.L id=some (id,b)→lookA s.L id=some (id,b)∧∃q D,RBk ρ D id b q∧q∈Z∧q∈Z'):IniQ ct ρ' s' w':=fun id n t c hi=>by
 obtain⟨h1,h2⟩:=h id n t c hi
 refine⟨hr _ _ h1,fun b hl=> ?_⟩
 obtain⟨h3,q,D,h4,h5,h6⟩:=hb id b _ h1 hl
 have h7:=h2 b h3
 cases b with
 |own t' e' xs' f'=>obtain⟨A,cap,h8,_⟩:=h4;rw[h1]at h8;cases h8
 |lnt t' xs'=>obtain⟨A,cap,h8,_⟩:=h4;rw[h1]at h8;cases h8
 |var t' v'=>
  obtain⟨m,c',h8,_,rfl⟩:=h4
  rw[h1]at h8
  cases h8
  have h9:=(hS.l _ _ h5).1
  rw[h7]at h9
  rw[(hS'.l _ _ h6).1,h9]
def EvA(a:Act):List (Nat×Value):=a.tmps.toList.zipIdx.map fun p=>(p.2,p.1)
theorem Qrz(l:List Value):∀(k t:Nat),look ((l.zipIdx k).map fun p=>(p.2,p.1)) t=if k≤t then l[t-k]? else none:=by
 induction l with
 |nil=>intro k t;simp[look]
 | cons v l ih=>
  intro k t
  simp only[List.zipIdx_cons,List.map_cons,look]
  cases hb:Nat.beq k t with
  |true=>have:=Qc hb;subst this;simp
  |false=>
   have hne:k≠t:=fun e=>by subst e;simp at hb
   rw[Qh,ih]
   by_cases h:k≤t
   ·rw[if_pos h,if_pos (by omega),show t-k=(t-(k+1))+1 by omega,List.getElem?_cons_succ]
   ·rw[if_neg h,if_neg (by omega)]
theorem ZO(a:Act)(t:Nat):look (EvA a) t=a.tmps[t]?:=by
 unfold EvA
 rw[Qrz]
 simp
theorem Qt4{a:Act}{n:Nat}{ds:List Deferred}(h1:a.tmps.size=n)(h2:a.defers=ds):Env a n ds (EvA a):=⟨h1,h2,fun t v h=>by rw[ZO]at h;exact h⟩
variable {ct:Ct}{ρ:Rho}{D:Snap}{Lv R:List Blk}{s:SS T}{a a':Act}{w:World}
theorem RSx.env(h:RSx ct ρ D Lv R s a w):Env a ct.n a.defers (EvA a):=Qt4 h.size rfl
theorem RSx.put{d:Option Tmp}{sv:SV T}{v:Value}(h:RSx ct ρ D Lv R s a w)(hv:∀x,d=some x→RV ρ D sv v)(hfr:∀x,d=some x→ ¬ct.fr.t x)(hE:Env a' ct.n a.defers (upd (EvA a) d v)):RSx ct ρ D Lv R (s.put d sv) a' w:=by
 have hold:∀x,d≠some x→∀u,a.tmps[x]?=some u→a'.tmps[x]?=some u:=by
  intro x hx u hu
  refine hE.at_ x u ?_
  cases d with
  |none=>rw[upd,ZO];exact hu
  | some d=>
   simp only[upd,look]
   have:Nat.beq d x=false:=by
    cases hb:Nat.beq d x with
    |true=>exact absurd (by rw[Qc hb]) hx
    |false=>rfl
   rw[this,Qh,ZO];exact hu
 have hsame:∀x,d≠some x→a'.tmps[x]?=a.tmps[x]?:=by
  intro x hx
  cases hu:a.tmps[x]? with
  |some u=>exact hold x hx u hu
  |none=>
   rw[Array.getElem?_eq_none_iff]at hu⊢
   rw[hE.size,←h.size];exact hu
 have hfr':=ct.fr.put hfr hsame hE.ds h.fr
 cases d with
 | none=>exact⟨h.rb,h.dom,h.ver,h.nd,hE.size,(by rw[hE.ds];exact h.ds),fun t u hu=>by
   obtain⟨x,h1,h2⟩:=h.e t u hu
   exact⟨x,by rw[hsame t (by simp)];exact h1,h2⟩,h.l,h.st,hfr',h.ini,h.ex,h.o⟩
 | some d=>
  refine⟨h.rb,h.dom,h.ver,h.nd,hE.size,(by rw[hE.ds];exact h.ds),fun t u hu=> ?_,h.l,h.st,hfr',h.ini,h.ex,h.o⟩
  simp only[SS.put,lookA]at hu
  cases hb:Nat.beq d t with
  |true=>
   rw[hb]at hu
   have:=Qc hb
   subst this
   simp only[Qg,Qa]at hu
   subst hu
   exact⟨v,hE.at_ d v (by simp[upd,look]),hv d rfl⟩
  |false=>
   rw[hb]at hu
   obtain⟨x,h1,h2⟩:=h.e t u hu
   refine⟨x,?_,h2⟩
   rw[hsame t (fun e=>by simp only[Qa]at e;subst e;simp at hb)]
   exact h1
theorem Ext.put(s:SS T)(d:Option Tmp)(v:SV T):Ext s (s.put d v):=by
 cases d with
 |none=>exact Ext.refl s
 |some d=>exact⟨⟨[(d,v)],rfl⟩,Nat.le_refl _,fun _ _ _ h _=>h⟩
theorem RSx.at_{t:Nat}{sv:SV T}(h:RSx ct ρ D Lv R s a w)(ht:lookA s.E t=some sv):∃v,look (EvA a) t=some v∧RV ρ D sv v:=by
 obtain⟨v,h1,h2⟩:=h.e t sv ht
 exact⟨v,by rw[ZO];exact h1,h2⟩
theorem Qo7{k:IntKind}:∀(n:Nat) (cs:List Value) (l:List Int) (cs':List Value),ints k n cs=some (l,cs')→cs=l.map (.int k)++cs'∧l.length=n
 |0,cs,l,cs',h=>by simp only[ints,Qa,Qe]at h;obtain⟨rfl,rfl⟩:=h;exact⟨rfl,rfl⟩
 |n+1, [],_,_,h=>by cases h
 | n+1,v::cs,l,cs',h=>by
  cases v<;>simp only[ints,reduceCtorEq]at h
  rename_i k' x
  cases hk:sameKind k k' with
  |false=>rw[hk]at h;cases h
  | true=>
   rw[hk]at h
   obtain rfl:=YO hk
   simp only[Qg]at h
   split at h
   ·rename_i l2 cs2 h2
    simp only[Qa,Qe]at h
    obtain⟨rfl,rfl⟩:=h
    obtain⟨e1,e2⟩:=Qo7 n cs l2 cs2 h2
    exact⟨by rw[e1];rfl,by simp[e2]⟩
   ·cases h
mutual
theorem QjT{P:Program}(ρ:Rho)(D:Snap):∀(f:Nat) (t:TypeId) (cs:List Value) (v:SV T) (cs':List Value),ofC P f t cs=some (v,cs')→∃c,cs=c++cs'∧RX ρ D v false c
 |0,_,_,_,_,h=>by cases h
 | f +1,t,cs,v,cs',h=>by
  unfold ofC at h
  split at h
  ·split at h
   ·rename_i l cs2 h2
    simp only[Qa,Qe]at h
    obtain⟨rfl,rfl⟩:=h
    exact Qs3 ρ D f _ cs l cs2 h2
   ·cases h
  ·split at h
   ·split at h
    ·rename_i n e _ k _ _ l cs2 h2
     simp only[Qa,Qe]at h
     obtain⟨rfl,rfl⟩:=h
     obtain⟨e1,e2⟩:=Qo7 _ _ _ _ h2
     refine⟨_,e1,?_⟩
     show _=Q3 _ _ _
     rw[QdT (by omega),List.take_of_length_le (by omega)]
    ·cases h
   ·split at h
    ·rename_i l cs2 h2
     simp only[Qa,Qe]at h
     obtain⟨rfl,rfl⟩:=h
     exact Qs4 ρ D f _ _ cs l cs2 h2
    ·cases h
  ·split at h
   ·simp only[Qa,Qe]at h;obtain⟨rfl,rfl⟩:=h;exact⟨[_],rfl,rfl⟩
   ·simp only[Qa,Qe]at h;obtain⟨rfl,rfl⟩:=h;exact⟨[_],rfl,rfl⟩
   ·simp only[Qa,Qe]at h;obtain⟨rfl,rfl⟩:=h;exact⟨[_],rfl,rfl⟩
   ·simp only[Qa,Qe]at h;obtain⟨rfl,rfl⟩:=h;exact⟨[_],rfl,rfl⟩
   ·rename_i u cs2 _ _ _ _
    cases ho:u.oneCell' with
    |false=>rw[ho]at h;cases h
    |true=>
     rw[ho]at h
     simp only[Qg,Qa,Qe]at h
     obtain⟨rfl,rfl⟩:=h
     refine⟨[u],rfl,?_⟩
     show [u]=QR u
     cases u<;>first|rfl|(simp[Value.oneCell']at ho)
   ·cases h
  ·cases h
theorem Qs3{P:Program}(ρ:Rho)(D:Snap):∀(f:Nat) (fs:List Field) (cs:List Value) (v:SV T) (cs':List Value),ofF P f fs cs=some (v,cs')→∃c,cs=c++cs'∧RX ρ D v false c
 |0,_,_,_,_,h=>by cases h
 |_+1, [],cs,v,cs',h=>by
  simp only[ofF,Qa,Qe]at h
  obtain⟨rfl,rfl⟩:=h
  exact⟨[],rfl,rfl⟩
 | f+1,x::fs,cs,v,cs',h=>by
  unfold ofF at h
  split at h
  ·rename_i u cs1 h1
   split at h
   ·rename_i l cs2 h2
    simp only[Qa,Qe]at h
    obtain⟨rfl,rfl⟩:=h
    obtain⟨c1,e1,r1⟩:=QjT ρ D f x.type cs u cs1 h1
    obtain⟨c2,e2,r2⟩:=Qs3 ρ D f fs cs1 l cs2 h2
    exact⟨c1++c2,by rw[e1,e2];simp,c1,c2,rfl,r1,r2⟩
   ·cases h
  ·cases h
theorem Qs4{P:Program}(ρ:Rho)(D:Snap):∀(f n:Nat) (e:TypeId) (cs:List Value) (v:SV T) (cs':List Value),ofN P f n e cs=some (v,cs')→∃c,cs=c++cs'∧RX ρ D v false c
 |0,_,_,_,_,_,h=>by cases h
 |_+1,0,_,cs,v,cs',h=>by
  simp only[ofN,Qa,Qe]at h
  obtain⟨rfl,rfl⟩:=h
  exact⟨[],rfl,rfl⟩
 | f+1,n+1,e,cs,v,cs',h=>by
  unfold ofN at h
  split at h
  ·rename_i u cs1 h1
   split at h
   ·rename_i l cs2 h2
    simp only[Qa,Qe]at h
    obtain⟨rfl,rfl⟩:=h
    obtain⟨c1,e1,r1⟩:=QjT ρ D f e cs u cs1 h1
    obtain⟨c2,e2,r2⟩:=Qs4 ρ D f n e cs1 l cs2 h2
    exact⟨c1++c2,by rw[e1,e2];simp,c1,c2,rfl,r1,r2⟩
   ·cases h
  ·cases h
end
theorem Qa0{P:Program}(ρ:Rho)(D:Snap){t:TypeId}{v:SV T}(h:zeroS P t=some v):∃z,(P.info? t).bind (·.zero)=some z∧RX ρ D v false (QR z):=by
 unfold zeroS at h
 split at h
 ·rename_i z hz
  split at h
  ·rename_i u h1
   simp only[Qa]at h
   subst h
   obtain⟨c,e,r⟩:=QjT ρ D 200 t _ _ _ h1
   simp only[List.append_nil]at e
   exact⟨z,hz,by rw[e];exact r⟩
  ·cases h
 ·cases h
theorem Qvo{v:Value}{sv:SV T}(h:svC v=some sv):RV ρ D sv v:=by
 unfold svC at h
 split at h<;>first|(simp only[Qa]at h;subst h;exact rfl)|cases h
structure CxOk(C:Cx T)(ct:Ct):Prop where
 tb:TbOk T
 gl:∀g d,lookA C.G g=some d→Cell (kdT T d.t) ct.D0 g 0 d.x
theorem Yq{C:Cx T}(hC:CxOk C ct)(h:RSx ct ρ D Lv R s a w){t:TypeId}{x:Operand}{sv:SV T}(hx:evS C s t x=some sv):∃v,Yl (EvA a) x=some v∧RV ρ D sv v:=by
 unfold evS at hx
 split at hx
 ·exact h.at_ hx
 ·rename_i cs
  split at hx
  ·rename_i u h1
   cases ha:agS u with
   |false=>rw[ha]at hx;cases hx
   |true=>
    rw[ha]at hx
    simp only[Qg,Qa]at hx
    subst hx
    obtain⟨c,e,r⟩:=QjT ρ D 200 t _ _ _ h1
    simp only[List.append_nil]at e
    refine⟨_,rfl,?_⟩
    have:cs=c.toArray:=by rw[←e]
    rw[this]
    exact QjS ha r
  ·cases hx
 ·exact⟨_,rfl,Qvo hx⟩
 ·rename_i g
  split at hx
  ·rename_i d hd
   simp only[Qa]at hx
   subst hx
   exact⟨_,rfl,YL rfl ⟨g,0,rfl,(hC.gl g d hd).mono h.st.dle⟩⟩
  ·cases hx
 ·rename_i f
  cases hb:Nat.ble 1000000000 f with
  |true=>rw[hb]at hx;cases hx
  |false=>
   rw[hb]at hx
   simp only[Qh,Qa]at hx
   subst hx
   exact⟨_,rfl,YL rfl ⟨[],rfl,by unfold fnV;rw[hb];rfl⟩⟩
theorem QhK{C:Cx T}(hC:CxOk C ct)(h:RSx ct ρ D Lv R s a w):∀{xs:List Operand} {ts:List TypeId} {l:SV T},evL C s xs ts=some l→∃vs,Jq (EvA a) xs=some vs∧RX ρ D l true vs
 | [],_,l,hx=>by simp only[evL,Qa]at hx;subst hx;exact⟨[],rfl,rfl⟩
 | x::xs,ts,l,hx=>by
  unfold evL at hx
  split at hx
  ·rename_i u l' h1 h2
   simp only[Qa]at hx
   subst hx
   obtain⟨v,e1,r1⟩:=Yq hC h h1
   obtain⟨vs,e2,r2⟩:=QhK hC h h2
   exact⟨v::vs,by simp only[Jq,e1,e2],v,vs,rfl,r1,r2⟩
  ·cases hx
end
end Go.Sep
