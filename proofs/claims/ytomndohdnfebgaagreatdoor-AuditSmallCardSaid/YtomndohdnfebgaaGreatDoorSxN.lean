/-
 Symbolic execution: states where ways meet.
-/
import Derived.Test.YtomndohdnfebgaaGreatDoorSxM
set_option linter.unusedVariables false
set_option linter.unusedSimpArgs false
namespace Go.Sep
section
variable {T:Tb}{C:Cx T}{ct:Ct}{ρ:Rho}{D:Snap}{Lv R:List Blk}{s:SS T}{a:Act}{w:World}
structure XE(m:Nat)(s s':SS T):Prop where
 e:∀t,m.testBit t=false→∀sv,lookA s.E t=some sv→∃sv',lookA s'.E t=some sv'∧∀ρ D v,RV ρ D sv' v→RV ρ D sv v
 nx:s.nx≤s'.nx
 l:∀id v sb,lookA s'.L id=some (v,sb)→v<s.nx→lookA s.L id=some (v,sb)
theorem XE.refl(m:Nat)(s:SS T):XE m s s:=⟨fun _ _ sv h=>⟨sv,h,fun _ _ _ h=>h⟩,Nat.le_refl _,fun _ _ _ h _=>h⟩
theorem XE.trans{m m1 m2:Nat}{s s1 s2:SS T}(h:XE m1 s s1)(h':XE m2 s1 s2)(hm:∀t,m.testBit t=false→m1.testBit t=false∧m2.testBit t=false):XE m s s2:=
 ⟨fun t ht sv hl=>by
  obtain⟨sv1,h1,h2⟩:=h.e t (hm t ht).1 sv hl
  obtain⟨sv2,h3,h4⟩:=h'.e t (hm t ht).2 sv1 h1
  exact⟨sv2,h3,fun ρ D v hv=>h2 _ _ _ (h4 _ _ _ hv)⟩,Nat.le_trans h.nx h'.nx,fun id v sb hl hv=>h.l id v sb (h'.l id v sb hl (Nat.lt_of_lt_of_le hv h.nx)) hv⟩
theorem XE.mono{m m':Nat}{s s':SS T}(h:XE m s s')(hm:∀t,m'.testBit t=false→m.testBit t=false):XE m' s s':=⟨fun t ht=>h.e t (hm t ht),h.nx,h.l⟩
theorem jg{β:Type}(t:Nat):∀(E F:List (Nat×β)),lookA (E++F) t=(lookA E t).or (lookA F t)
 | [],F=>by simp[lookA]
 |e::E,F=>by
  obtain⟨j,d⟩:=e
  simp only[List.cons_append,lookA]
  cases Nat.beq j t with
  |true=>rfl
  |false=>exact jg t E F
theorem QjX{m:Nat}:∀(pre E:List (Nat×SV T)),ZC m pre.length (pre++E)=true→∀t,m.testBit t=false→lookA pre t=none
 | [],_,_,_,_=>rfl
 |(j,d)::pre,E,h,t,ht=>by
  simp only[List.length_cons,List.cons_append,ZC,Qd]at h
  simp only[lookA]
  cases hb:Nat.beq j t with
  |true=>have:=Qc hb;subst this;rw[h.1]at ht;cases ht
  |false=>exact QjX pre E h.2 t ht
theorem Ext.xe{m:Nat}{s s':SS T}(h:Ext s s')(hk:ZC m (s'.E.length-s.E.length) s'.E=true):XE m s s':=by
 obtain⟨pre,hp⟩:=h.e
 refine⟨fun t ht sv hl=> ?_,h.nx,h.l⟩
 rw[hp]at hk
 have:=QjX pre s.E (by simpa using hk) t ht
 exact⟨sv,by rw[hp,jg,this];exact hl,fun _ _ _ h=>h⟩
theorem XE.know{m:Nat}{s:SS T}{t:Nat}{b b':Bool}(ht:lookA s.E t=some (.dt .bool b))(hb:b=b'):XE m s (s.know t b'):=by
 subst hb
 refine⟨fun x _ sv hl=> ?_,Nat.le_refl _,fun _ _ _ h _=>h⟩
 simp only[SS.know,SS.put,lookA]
 cases hb:Nat.beq t x with
 |true=>
  have:=Qc hb
  subst this
  rw[ht]at hl
  cases hl
  exact⟨.kb b,rfl,fun ρ D v hv=>hv⟩
 |false=>exact⟨sv,hl,fun _ _ _ h=>h⟩
theorem Qiw{ρ0 ρ ρ':Rho}{D0 D:Snap}(ha:∀i,ρ0 i≠none→ρ' i=ρ i):∀(sv:SV T) (m:Bool) (c0 c:List Value),RX ρ0 D0 sv m c0→RX ρ D sv m c→RX ρ' D sv m c:=by
 intro sv
 induction sv with
 |dt t x=>exact fun m c0 c _ h=>h
 |kb b=>exact fun m c0 c _ h=>h
 |raw v=>exact fun m c0 c _ h=>h
 |nils=>exact fun m c0 c _ h=>h
 |agg l ih=>exact fun m c0 c h0 h=>ih false c0 c h0 h
 |tup l ih=>exact fun m c0 c ⟨v0,h0,_⟩ ⟨vs,h,e⟩=>⟨vs,ih true _ _ h0 h,e⟩
 |fn f l ih=>exact fun m c0 c ⟨v0,h0,_⟩ ⟨vs,h,e⟩=>⟨vs,ih true _ _ h0 h,e⟩
 |nl=>exact fun m c0 c _ h=>h
 | cs x l ih1 ih2=>
  intro m c0 c h0 h
  cases m with
  |false=>
   obtain⟨a1,a2,_,g1,g2⟩:=h0
   obtain⟨c1,c2,e,h1,h2⟩:=h
   exact⟨c1,c2,e,ih1 _ _ _ g1 h1,ih2 _ _ _ g2 h2⟩
  |true=>
   obtain⟨a1,a2,_,g1,g2⟩:=h0
   obtain⟨v,c2,e,h1,h2⟩:=h
   refine⟨v,c2,e,?_,ih2 _ _ _ g2 h2⟩
   cases hag:agS x with
   |true=>rw[hag]at g1 h1;obtain⟨b1,g1,_⟩:=g1;obtain⟨c1,h1,e1⟩:=h1;exact⟨c1,ih1 _ _ _ g1 h1,e1⟩
   |false=>rw[hag]at g1 h1;exact ih1 _ _ _ g1 h1
 |ptr b off=>rintro m c0 c ⟨n0,h0,_⟩ ⟨n,h,e⟩;exact⟨n,by rw[ha b (by rw[h0];simp)];exact h,e⟩
 |cell t x=>exact fun m c0 c _ h=>h
 |own o=>rintro m c0 c ⟨A0,p0,l0,h0,_⟩ ⟨A,cap,len,h,e⟩;exact⟨A,cap,len,by rw[ha o (by rw[h0];simp)];exact h,e⟩
 |elt o i off es=>rintro m c0 c ⟨b0,p0,l0,h0,_⟩ ⟨b,cap,len,h,e⟩;exact⟨b,cap,len,by rw[ha o (by rw[h0];simp)];exact h,e⟩
 |ela b off i n k=>rintro m c0 c ⟨n0,h0,_⟩ ⟨n,h,e⟩;exact⟨n,by rw[ha b (by rw[h0];simp)];exact h,e⟩
 |eva b off i n y fo=>rintro m c0 c ⟨n0,h0,_⟩ ⟨n,h,e⟩;exact⟨n,by rw[ha b (by rw[h0];simp)];exact h,e⟩
 |sla b p k n'=>rintro m c0 c ⟨n0,h0,_⟩ ⟨n,h,e⟩;exact⟨n,by rw[ha b (by rw[h0];simp)];exact h,e⟩
 |yld i=>rintro m c0 c ⟨n0,h0,_⟩ ⟨n,h,e⟩;exact⟨n,by rw[ha i (by rw[h0];simp)];exact h,e⟩
 |mp ks l ih=>rintro m c0 c ⟨_,_,_,_,_,_,g⟩ ⟨r,es,clk,e,h1,h2,h3⟩;exact⟨r,es,clk,e,h1,h2,ih _ _ _ g h3⟩
theorem QrN{ρ0 ρ ρ':Rho}{D0 D:Snap}(ha:∀i,ρ0 i≠none→ρ' i=ρ i){sv:SV T}{v0 v:Value}(h0:RV ρ0 D0 sv v0)(h:RV ρ D sv v):RV ρ' D sv v:=by
 unfold RV at*
 cases hag:agS sv with
 |true=>rw[hag]at h0 h;obtain⟨c0,h0,_⟩:=h0;obtain⟨c,h,e⟩:=h;exact⟨c,Qiw ha _ _ _ _ h0 h,e⟩
 |false=>rw[hag]at h0 h;exact Qiw ha _ _ _ _ h0 h
theorem Qpu{ρ0 ρ ρ':Rho}{D0 D:Snap}(ha:∀i,ρ0 i≠none→ρ' i=ρ i){id:Nat}:∀{b:SB T} {q0 q:Blk},RBk ρ0 D0 id b q0→RBk ρ D id b q→RBk ρ' D id b q
 | .var _ _,_,_,⟨m0,c0,h1,h2,_⟩,⟨m,c,g1,g2,g3⟩=>⟨m,c,by rw[ha id (by rw[h1];simp)];exact g1,Qiw ha _ _ _ _ h2 g2,g3⟩
 | .own _ _ _ _,_,_,⟨A0,p0,h1,_⟩,⟨A,cap,g1,g2⟩=>⟨A,cap,by rw[ha id (by rw[h1];simp)];exact g1,g2⟩
 | .lnt _ _,_,_,⟨A0,p0,h1,_⟩,⟨A,cap,g1,g2⟩=>⟨A,cap,by rw[ha id (by rw[h1];simp)];exact g1,g2⟩
theorem Qix{ρ:Rho}{D:Snap}:∀{L:List (Nat×Nat×SB T)} {Ls:List Blk} {e:Nat×Nat×SB T},RLs ρ D L Ls→e∈L→∃q,RBk ρ D e.1 e.2.2 q
 | [],_,_,_,h=>by cases h
 |x::L,_,e,⟨q,Ls',_,h2,h3⟩,h=>by
  rcases List.mem_cons.1 h with rfl|h
  ·exact⟨q,h2⟩
  ·exact Qix h3 h
theorem QjY{ρ0 ρ ρ':Rho}{D0 D:Snap}(ha:∀i,ρ0 i≠none→ρ' i=ρ i):∀{L:List (Nat×Nat×SB T)} {Ls:List Blk},(∀e∈L,∃q,RBk ρ0 D0 e.1 e.2.2 q)→RLs ρ D L Ls→RLs ρ' D L Ls
 | [],_,_,h=>h
 |e::L,_,h0,⟨q,Ls',h1,h2,h3⟩=>by
  obtain⟨q0,hq0⟩:=h0 e List.mem_cons_self
  exact⟨q,Ls',h1,Qpu ha hq0 h2,QjY ha (fun x hx=>h0 x (List.mem_cons_of_mem _ hx)) h3⟩
def PV(β:Nat→Option Nat)(D:Snap)(O:OwT T)(p:Pt)(ds:List (Dy T))(os:List (Nat×Pl))(v:Value):Prop:=bif agP p then ∃c,PR β D O p false ds os c∧v= .agg c.toArray else PR β D O p false ds os [v]
def PRT(β:Nat→Option Nat)(D:Snap)(O:OwT T)(a:Act):List (Nat×Pt)→List (Dy T)→List (Nat×Pl)→Prop
 | [],ds,os=>ds= []∧os= []
 |tp::l,ds,os=>∃d1 d2 o1 o2 v,ds=d1++d2∧os=o1++o2∧a.tmps[tp.1]?=some v∧PV β D O tp.2 d1 o1 v∧PRT β D O a l d2 o2
theorem Qpv{β β':Nat→Option Nat}{D D':Snap}{O O':OwT T}(hb:∀b n,β b=some n→β' b=some n)(hd:D.le D')(ho:∀o t e f xs A cap,O o t e f xs A cap→O' o t e f xs A cap){p:Pt}{ds:List (Dy T)}{os:List (Nat×Pl)}{v:Value}(h:PV β D O p ds os v):PV β' D' O' p ds os v:=by
 unfold PV at*
 cases ha:agP p with
 |true=>rw[ha]at h;obtain⟨c,h1,h2⟩:=h;exact⟨c,Zd hb hd ho _ _ _ _ _ h1,h2⟩
 |false=>rw[ha]at h;exact Zd hb hd ho _ _ _ _ _ h
theorem QvL{β:Nat→Option Nat}{D:Snap}{O O':OwT T}{p:Pt}{ds:List (Dy T)}{os os':List (Nat×Pl)}{v:Value}(h:PV β D O p ds os v)(hr:Ren O O' os os'):PV β D O' p ds os' v:=by
 unfold PV at*
 cases ha:agP p with
 |true=>rw[ha]at h;obtain⟨c,h1,h2⟩:=h;exact⟨c,QeG _ _ _ _ _ _ h1 hr,h2⟩
 |false=>rw[ha]at h;exact QeG _ _ _ _ _ _ h hr
theorem QmG{β β':Nat→Option Nat}{D D':Snap}{O O':OwT T}{a:Act}(hb:∀b n,β b=some n→β' b=some n)(hd:D.le D')(ho:∀o t e f xs A cap,O o t e f xs A cap→O' o t e f xs A cap):∀{l:List (Nat×Pt)} {ds:List (Dy T)} {os:List (Nat×Pl)},PRT β D O a l ds os→PRT β' D' O' a l ds os
 | [],_,_,h=>h
 |_::_,_,_,⟨d1,d2,o1,o2,v,e1,e2,h1,h2,h3⟩=>⟨d1,d2,o1,o2,v,e1,e2,h1,Qpv hb hd ho h2,QmG hb hd ho h3⟩
theorem Qpw{β:Nat→Option Nat}{D:Snap}{O O':OwT T}{a:Act}:∀{l:List (Nat×Pt)} {ds:List (Dy T)} {os os':List (Nat×Pl)},PRT β D O a l ds os→Ren O O' os os'→PRT β D O' a l ds os'
 | [],_,_,_,⟨h1,h2⟩,hr=>by subst h2;exact⟨h1,hr⟩
 |_::_,_,_,_,⟨d1,d2,o1,o2,v,e1,e2,h1,h2,h3⟩,hr=>by
  subst e2
  obtain⟨y1,y2,rfl,r1,r2⟩:=Xr hr
  exact⟨d1,d2,y1,y2,v,e1,rfl,h1,QvL h2 r1,Qpw h3 r2⟩
theorem Quh(hT:TbOk T){p:Pt}{v:SV T}{m m':Mt T}{u:Value}(h:mat p v m=some m')(hS:RSx ct ρ D Lv R m.s a w)(hu:RV ρ D v u):
  ∃ρ' D' Lv' dn on os,MatR ct ρ D R m m' a w ρ' D' Lv' dn on∧os.map (·.1)=on.map (·.1)∧PV (bet ρ' m'.bd) D' (OwS ρ' m'.s m'.ow) p dn os u:=by
 have hag:=Qta h
 unfold RV at hu
 unfold PV
 cases ha:agS v with
 |true=>
  rw[ha]at hu
  obtain⟨c,r1,rfl⟩:=hu
  obtain⟨ρ',D',Lv',dn,on,os,M,E1,P1⟩:=QeF hT p v m m' ρ D Lv false c h hS r1
  exact⟨ρ',D',Lv',dn,on,os,M,E1,by rw[←hag,ha];exact⟨c,P1,rfl⟩⟩
 |false=>
  rw[ha]at hu
  obtain⟨ρ',D',Lv',dn,on,os,M,E1,P1⟩:=QeF hT p v m m' ρ D Lv false [u] h hS hu
  exact⟨ρ',D',Lv',dn,on,os,M,E1,by rw[←hag,ha];exact P1⟩
theorem Qpx(hT:TbOk T):∀(l:List (Nat×Pt)) (m m':Mt T) (ρ:Rho) (D:Snap) (Lv:List Blk),matT l m=some m'→RSx ct ρ D Lv R m.s a w→
  ∃ρ' D' Lv' dn on os,MatR ct ρ D R m m' a w ρ' D' Lv' dn on∧os.map (·.1)=on.map (·.1)∧PRT (bet ρ' m'.bd) D' (OwS ρ' m'.s m'.ow) a l dn os
 | [],m,m',ρ,D,Lv,h,hS=>by
  simp only[matT,Qa]at h
  subst h
  exact⟨ρ,D,Lv, [], [], [],⟨Rho.le.refl _,Snap.le.refl _,hS,Ext.refl _,rfl,rfl,fun _ _ h=>h⟩,rfl,rfl,rfl⟩
 | (t,p)::l,m,m',ρ,D,Lv,h,hS=>by
  simp only[matT]at h
  split at h
  ·rename_i v hv
   split at h
   ·rename_i m1 hm1
    obtain⟨u,hu1,hu2⟩:=hS.e t v hv
    obtain⟨ρ1,D1,Lv1,dn1,on1,os1,M1,E1,P1⟩:=Quh hT hm1 hS hu2
    obtain⟨ρ2,D2,Lv2,dn2,on2,os2,M2,E2,P2⟩:=Qpx hT l m1 m' ρ1 D1 Lv1 h M1.rs
    exact⟨ρ2,D2,Lv2,dn1++dn2,on1++on2,os1++os2,⟨M1.rho.trans M2.rho,M1.le.trans M2.le,M2.rs,M1.ext.trans M2.ext,by rw[M2.dy,M1.dy];simp,by rw[M2.ow,M1.ow];simp,fun b i hb=>M2.bd _ _ (M1.bd _ _ hb)⟩,by simp[E1,E2],dn1,dn2,os1,os2,u,rfl,rfl,hu1,
     Qpv (yK M2.rho M2.bd) M2.le (fun _ _ _ _ _ _ _ ho=>Xf M2.rho M2.ext (fun x hx=>by rw[M2.ow];exact List.mem_append_right _ hx) ho) P1,P2⟩
   ·cases h
  ·cases h
def PRC(s0:SS T)(ρ:Rho)(β:Nat→Option Nat)(D:Snap)(O:OwT T):List (Nat×Pt)→List (Dy T)→List (Nat×Pl)→List Blk→Prop
 | [],ds,os,Bs=>ds= []∧os= []∧Bs= []
 |tp::l,ds,os,Bs=>∃d1 d2 o1 o2 id tid v0 ver n c Bs',ds=d1++d2∧os=o1++o2∧QjL s0 tp.1=some id∧lookA s0.L id=some (ver,.var tid v0)∧ρ id=some (.blk n)∧Bs=bx n tid c::Bs'∧PR β D O tp.2 false d1 o1 c∧PRC s0 ρ β D O l d2 o2 Bs'
theorem Qpy{s0:SS T}{ρ:Rho}{β:Nat→Option Nat}{D:Snap}{O O':OwT T}:∀{l:List (Nat×Pt)} {ds:List (Dy T)} {os os':List (Nat×Pl)} {Bs:List Blk},PRC s0 ρ β D O l ds os Bs→Ren O O' os os'→PRC s0 ρ β D O' l ds os' Bs
 | [],_,_,_,_,⟨h1,h2,h3⟩,hr=>by subst h2;exact⟨h1,hr,h3⟩
 |_::_,_,_,_,_,⟨d1,d2,o1,o2,id,tid,v0,ver,n,c,Bs',e1,e2,h1,h2,h3,e3,h4,h5⟩,hr=>by
  subst e2
  obtain⟨y1,y2,rfl,r1,r2⟩:=Xr hr
  exact⟨d1,d2,y1,y2,id,tid,v0,ver,n,c,Bs',e1,rfl,h1,h2,h3,e3,QeG _ _ _ _ _ _ h4 r1,Qpy h5 r2⟩
theorem Qpz(hT:TbOk T){s0:SS T}:∀(l:List (Nat×Pt)) (m m':Mt T) (bw:List (Nat×Nat)) (ρ:Rho) (D:Snap) (Lv:List Blk),matC s0 l m=some (m',bw)→RSx ct ρ D Lv R m.s a w→
  ∃ρ' D' Lv' dn on os Bs,MatR ct ρ D R m m' a w ρ' D' Lv' dn on∧os.map (·.1)=on.map (·.1)∧PRC s0 ρ' (bet ρ' m'.bd) D' (OwS ρ' m'.s m'.ow) l dn os Bs∧BwS ρ' w m'.s bw Bs
 | [],m,m',bw,ρ,D,Lv,h,hS=>by
  simp only[matC,Qa,Qe]at h
  obtain⟨rfl,rfl⟩:=h
  exact⟨ρ,D,Lv, [], [], [], [],⟨Rho.le.refl _,Snap.le.refl _,hS,Ext.refl _,rfl,rfl,fun _ _ h=>h⟩,rfl,⟨rfl,rfl,rfl⟩,rfl⟩
 | (t, p)::l,m,m',bw,ρ,D,Lv,h,hS=>by
  simp only[matC]at h
  split at h
  ·rename_i id hid
   split at h
   ·rename_i ver t1 v ver0 t2 v0 hl hl0
    cases ht:Nat.beq t1 t2 with
    |false=>rw[ht]at h;cases h
    | true=>
     rw[ht]at h
     obtain rfl:=Qc ht
     simp only[Qg]at h
     split at h
     ·rename_i m1 hm1
      split at h
      ·rename_i m2 bw2 hm2
       simp only[Qa,Qe]at h
       obtain⟨rfl,rfl⟩:=h
       obtain⟨X,Y,n,c,e,g1,g2,g3,_⟩:=hS.var hl
       obtain⟨ρ1,D1,Lv1,dn1,on1,os1,M1,E1,P1⟩:=QeF hT p v m m1 ρ D Lv false c hm1 hS g2
       obtain⟨ρ2,D2,Lv2,dn2,on2,os2,Bs2,M2,E2,P2,B2⟩:=Qpz hT l m1 m2 bw2 ρ1 D1 Lv1 hm2 M1.rs
       have hr:=M1.rho.trans M2.rho
       refine⟨ρ2,D2,Lv2,dn1++dn2,on1++on2,os1++os2,bx n t1 c::Bs2,⟨hr,M1.le.trans M2.le,M2.rs,M1.ext.trans M2.ext,by rw[M2.dy,M1.dy];simp,by rw[M2.ow,M1.ow];simp,fun b i hb=>M2.bd _ _ (M1.bd _ _ hb)⟩,by simp[E1,E2],⟨dn1,dn2,os1,os2,id,t1,v0,ver0,n,c,Bs2,rfl,rfl,hid,hl0,hr _ _ g1,rfl,?_,P2⟩,⟨m.s,t1,v,n,c,Bs2,M1.ext.trans M2.ext,hl,hS.ver _ (Yk hl),hr _ _ g1,rfl,g3,B2⟩⟩
       exact Zd (yK M2.rho M2.bd) M2.le (fun _ _ _ _ _ _ _ ho=>Xf M2.rho M2.ext (fun x hx=>by rw[M2.ow];exact List.mem_append_right _ hx) ho) _ _ _ _ _ P1
      ·cases h
     ·cases h
   ·cases h
  ·cases h
theorem QmH{β:Nat→Option Nat}{O:OwT T}{bd:List (Nat×Nat)}{a:Act}:∀(l:List (Nat×Pt)) (m m':Im T) (E:List (Nat×SV T)) (ds:List (Dy T)) (os:List (Nat×Pl)) (rest:List (Dy T)),QoY bd l m=some (E,m')→m.dy=ds++rest→PRT β D O a l ds os→
  InsR O m m' rest os∧E.map (·.1)=l.map (·.1)∧∀ρ':Rho,(∀b n i,β b=some n→lookA bd b=some i→ρ' i=some (.blk n))→(∀k x,os[k]?=some x→ρ' (m.nx+k)=some x.2)→∀t sv,lookA E t=some sv→∃v,a.tmps[t]?=some v∧RV ρ' D sv v
 | [],m,m',E,ds,os,rest,h,hm,⟨e1,e2⟩=>by
  subst e1 e2
  simp only[QoY,Qa,Qe]at h
  obtain⟨rfl,rfl⟩:=h
  exact⟨⟨hm,rfl, [],rfl,rfl⟩,rfl,fun _ _ _ t sv h=>by cases h⟩
 | (t,p)::l,m,m',E,ds,os,rest,h,hm,⟨d1,d2,o1,o2,v,e1,e2,h1,h2,h3⟩=>by
  subst e1 e2
  simp only[QoY]at h
  split at h
  ·rename_i u m1 hi
   split at h
   ·rename_i E1 m2 hn
    simp only[Qa,Qe]at h
    obtain⟨rfl,rfl⟩:=h
    have key:∃i1:InsR O m m1 (d2++rest) o1,∀ρ':Rho,(∀b n i,β b=some n→lookA bd b=some i→ρ' i=some (.blk n))→(∀k x,o1[k]?=some x→ρ' (m.nx+k)=some x.2)→RV ρ' D u v:=by
     unfold PV at h2
     cases ha:agP p with
     |true=>
      rw[ha]at h2
      obtain⟨c,h2,rfl⟩:=h2
      obtain⟨g1,i1,r1⟩:=QbK p false m m1 u d1 o1 c (d2++rest) hi (by rw[hm];simp) h2
      exact⟨i1,fun ρ' hb ho=>QjS (by rw[g1,ha]) (r1 ρ' hb ho)⟩
     |false=>
      rw[ha]at h2
      obtain⟨g1,i1,r1⟩:=QbK p false m m1 u d1 o1 [v] (d2++rest) hi (by rw[hm];simp) h2
      exact⟨i1,fun ρ' hb ho=>YL (by rw[g1,ha]) (r1 ρ' hb ho)⟩
    obtain⟨i1,r1⟩:=key
    obtain⟨i2,v2,r2⟩:=QmH l m1 m2 E1 d2 o2 rest hn i1.dy h3
    refine⟨i1.trans i2,by simp[v2],fun ρ' hb ho t' sv hl=> ?_⟩
    simp only[lookA]at hl
    cases hbt:Nat.beq t t' with
    |true=>
     rw[hbt]at hl
     have:=Qc hbt
     subst this
     simp only[Qg,Qa]at hl
     subst hl
     exact⟨v,h1,r1 ρ' hb fun k x hx=>ho k x (by rw[List.getElem?_append_left (List.getElem?_eq_some_iff.1 hx).1];exact hx)⟩
    |false=>
     rw[hbt]at hl
     refine r2 ρ' hb (fun k x hx=> ?_) t' sv hl
     rw[i1.nx,Nat.add_assoc]
     exact ho _ x (by rw[List.getElem?_append_right (Nat.le_add_right _ _),Nat.add_sub_cancel_left];exact hx)
   ·cases h
  ·cases h
theorem QmI{s0:SS T}{ρ:Rho}{β:Nat→Option Nat}{O:OwT T}{bd:List (Nat×Nat)}:∀(l:List (Nat×Pt)) (m m':Im T) (N:List (Nat×Nat×SB T)) (ds:List (Dy T)) (os:List (Nat×Pl)) (Bs:List Blk) (rest:List (Dy T)),QjM s0 bd l m=some (N,m')→m.dy=ds++rest→PRC s0 ρ β D O l ds os Bs→
  InsR O m m' rest os∧(∀e∈N,e.2.1=s0.nx∧e.1∈s0.L.map (·.1))∧∀ρ':Rho,(∀b n i,β b=some n→lookA bd b=some i→ρ' i=some (.blk n))→(∀k x,os[k]?=some x→ρ' (m.nx+k)=some x.2)→(∀i,i∈s0.L.map (·.1)→ρ' i=ρ i)→RLs ρ' D N Bs
 | [],m,m',N,ds,os,Bs,rest,h,hm,⟨e1,e2,e3⟩=>by
  subst e1 e2 e3
  simp only[QjM,Qa,Qe]at h
  obtain⟨rfl,rfl⟩:=h
  exact⟨⟨hm,rfl, [],rfl,rfl⟩,fun e he=>(by cases he),fun _ _ _ _=>rfl⟩
 | (t,p)::l,m,m',N,ds,os,Bs,rest,h,hm,⟨d1,d2,o1,o2,id,tid,v0,ver,n,c,Bs',e1,e2,h1,h2,h3,e3,h4,h5⟩=>by
  subst e1 e2 e3
  simp only[QjM,h1,h2]at h
  split at h
  ·rename_i u m1 hi
   split at h
   ·rename_i N1 m2 hn
    simp only[Qa,Qe]at h
    obtain⟨rfl,rfl⟩:=h
    obtain⟨_,i1,r1⟩:=QbK p false m m1 u d1 o1 c (d2++rest) hi (by rw[hm];simp) h4
    obtain⟨i2,v2,r2⟩:=QmI l m1 m2 N1 d2 o2 Bs' rest hn i1.dy h5
    have hmem:id∈s0.L.map (·.1):=List.mem_map.2 ⟨_,Yk h2,rfl⟩
    refine⟨i1.trans i2,fun e he=> ?_,fun ρ' hb ho hs=>⟨_,Bs',rfl,⟨n,c,by rw[hs id hmem];exact h3,r1 ρ' hb fun k x hx=>ho k x (by rw[List.getElem?_append_left (List.getElem?_eq_some_iff.1 hx).1];exact hx),rfl⟩,r2 ρ' hb (fun k x hx=> ?_) hs⟩⟩
    ·rcases List.mem_cons.1 he with rfl|he
     ·exact⟨rfl,hmem⟩
     ·exact v2 e he
    ·rw[i1.nx,Nat.add_assoc]
     exact ho _ x (by rw[List.getElem?_append_right (Nat.le_add_right _ _),Nat.add_sub_cancel_left];exact hx)
   ·cases h
  ·cases h
theorem QpA{ρ:Rho}{w:World}{s0:SS T}{m:SS T}:∀{l:List (Nat×Pt)} {bw:List (Nat×Nat)} {m1 m2:Mt T},matC s0 l m1=some (m2,bw)→∀N m3 bd m4,QjM s0 bd l m3=some (N,m4)→N.map (·.1)=bw.map (·.1)
 | [],bw,m1,m2,h,N,m3,bd,m4,h2=>by
  simp only[matC,Qa,Qe]at h
  simp only[QjM,Qa,Qe]at h2
  obtain⟨_,rfl⟩:=h
  obtain⟨rfl,_⟩:=h2
  rfl
 | (t, p)::l,bw,m1,m2,h,N,m3,bd,m4,h2=>by
  simp only[matC]at h
  split at h
  ·rename_i id hid
   split at h
   ·rename_i ver t1 v ver0 t2 v0 hl hl0
    cases ht:Nat.beq t1 t2 with
    |false=>rw[ht]at h;cases h
    | true=>
     rw[ht]at h
     simp only[Qg]at h
     split at h
     ·rename_i m5 hm5
      split at h
      ·rename_i m6 bw2 hm6
       simp only[Qa,Qe]at h
       obtain⟨_,rfl⟩:=h
       simp only[QjM,hid,hl0]at h2
       split at h2
       ·rename_i u m7 hi
        split at h2
        ·rename_i N1 m8 hn
         simp only[Qa,Qe]at h2
         obtain⟨rfl,_⟩:=h2
         simp[QpA (ρ:=ρ) (w:=w) (m:=m) hm6 N1 m7 bd m8 hn]
        ·cases h2
       ·cases h2
      ·cases h
     ·cases h
   ·cases h
  ·cases h
end
end Go.Sep
