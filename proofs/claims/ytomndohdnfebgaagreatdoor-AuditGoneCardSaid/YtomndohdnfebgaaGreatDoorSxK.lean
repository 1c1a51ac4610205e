/-
 Symbolic execution: calls.
-/
import Derived.Test.YtomndohdnfebgaaGreatDoorSxI
set_option linter.unusedVariables false
set_option linter.unusedSimpArgs false
namespace Go.Sep
section
variable {T:Tb}{C:Cx T}{ct:Ct}{ρ:Rho}{D:Snap}{Lv R:List Blk}{s:SS T}{a:Act}{w:World}
def OEs(O:OwT T):Nat→List (Nat×Pl)→List (Nat×Nat×SB T)→Prop
 |_, [],es=>es= []
 |n,x::os,es=>∃(t:Ty) (e:TypeId) (f:Bool) (xs:List (den T.ty t)) (A:Option Addr) (cap:Nat) (es':List (Nat×Nat×SB T)),es=(n,n,.own t e xs f)::es'∧x.2= .own A cap xs.length∧O x.1 t e f xs A cap∧OEs O (n+1) os es'
theorem Ql6{O:OwT T}:∀{n:Nat} {o1 o2:List (Nat×Pl)} {e1 e2:List (Nat×Nat×SB T)},OEs O n o1 e1→OEs O (n+o1.length) o2 e2→OEs O n (o1++o2) (e1++e2)
 |n, [],o2,e1,e2,h1,h2=>by
  have h1:e1= []:=h1
  subst h1
  simpa using h2
 |n,x::o1,o2,e1,e2,⟨t,e,f,xs,A,cap,es',h3,h4,h5,h6⟩,h2=>by
  subst h3
  refine⟨t,e,f,xs,A,cap,es'++e2,rfl,h4,h5,Ql6 h6 ?_⟩
  rw[show n+1+o1.length=n+(x::o1).length by simp;omega]
  exact h2
structure InsR(O:OwT T)(m m':Im T)(rest:List (Dy T))(os:List (Nat×Pl)):Prop where
 dy:m'.dy=rest
 nx:m'.nx=m.nx+os.length
 L:∃es,m'.L=es.reverse++m.L∧OEs O m.nx os es
theorem Qcb{β:Nat→Option Nat}{O:OwT T}{bd:List (Nat×Nat)}:∀(p:Pt) (md:Bool) (m m':Im T) (v:SV T) (ds:List (Dy T)) (os:List (Nat×Pl)) (c:List Value) (rest:List (Dy T)),inst bd p m=some (v,m')→m.dy=ds++rest→PR β D O p md ds os c→
  agS v=agP p∧InsR O m m' rest os∧∀ρ':Rho,(∀b n i,β b=some n→lookA bd b=some i→ρ' i=some (.blk n))→(∀k x,os[k]?=some x→ρ' (m.nx+k)=some x.2)→RX ρ' D v md c:=by
 intro p
 induction p with
 |dt t=>
  rintro md m m' v ds os c rest h hm ⟨x,rfl,rfl,h3⟩
  simp only[inst,hm,List.cons_append,List.nil_append,Qa,Qe]at h
  obtain⟨rfl,rfl⟩:=h
  exact⟨rfl,⟨rfl,rfl, [],rfl,rfl⟩,fun _ _ _=>h3⟩
 |own t e f=>
  rintro md m m' v ds os c rest h hm ⟨xs,o,A,cap,rfl,rfl,rfl,h4⟩
  simp only[inst,hm,List.cons_append,List.nil_append,Qa,Qe]at h
  obtain⟨rfl,rfl⟩:=h
  exact⟨rfl,⟨rfl,rfl, [(m.nx,m.nx,.own t e xs f)],rfl,t,e,f,xs,A,cap, [],rfl,rfl,h4,rfl⟩,fun ρ' _ ho=>⟨A,cap,xs.length,ho 0 _ rfl,rfl⟩⟩
 | agg l ih=>
  intro md m m' v ds os c rest h hm hp
  simp only[inst]at h
  split at h
  ·rename_i u m1 h1
   simp only[Qa,Qe]at h
   obtain⟨rfl,rfl⟩:=h
   obtain⟨_,h2,h3⟩:=ih false m m1 u ds os c rest h1 hm hp
   exact⟨rfl,h2,h3⟩
  ·cases h
 |nl=>
  rintro md m m' v ds os c rest h hm ⟨rfl,rfl,rfl⟩
  simp only[inst,Qa,Qe]at h
  obtain⟨rfl,rfl⟩:=h
  exact⟨rfl,⟨hm,rfl, [],rfl,rfl⟩,fun _ _ _=>rfl⟩
 | cs p q ih1 ih2=>
  intro md m m' v ds os c rest h hm hp
  simp only[inst]at h
  split at h
  ·rename_i u m1 h1
   split at h
   ·rename_i l m2 h2
    simp only[Qa,Qe]at h
    obtain⟨rfl,rfl⟩:=h
    have comb:∀{d1 d2:List (Dy T)} {o1 o2:List (Nat×Pl)},InsR O m m1 (d2++rest) o1→InsR O m1 m2 rest o2→InsR O m m2 rest (o1++o2):=by
     intro d1 d2 o1 o2 i1 i2
     obtain⟨e1,g1,g2⟩:=i1.L
     obtain⟨e2,g3,g4⟩:=i2.L
     refine⟨i2.dy,by rw[i2.nx,i1.nx];simp;omega,e1++e2,by rw[g3,g1];simp,Ql6 g2 ?_⟩
     rw[←i1.nx];exact g4
    cases md with
    |false=>
     obtain⟨d1,d2,o1,o2,c1,c2,rfl,rfl,rfl,p1,p2⟩:=hp
     obtain⟨_,i1,r1⟩:=ih1 false m m1 u d1 o1 c1 (d2++rest) h1 (by rw[hm];simp) p1
     obtain⟨_,i2,r2⟩:=ih2 false m1 m2 l d2 o2 c2 rest h2 i1.dy p2
     refine⟨rfl,comb (d1:=d1) i1 i2,fun ρ' hb ho=>⟨c1,c2,rfl,r1 ρ' hb fun k x hx=>ho k x (by rw[List.getElem?_append_left (List.getElem?_eq_some_iff.1 hx).1];exact hx),r2 ρ' hb fun k x hx=> ?_⟩⟩
     rw[i1.nx,Nat.add_assoc]
     exact ho _ x (by rw[List.getElem?_append_right (Nat.le_add_right _ _),Nat.add_sub_cancel_left];exact hx)
    | true=>
     obtain⟨d1,d2,o1,o2,vv,c2,rfl,rfl,rfl,p1,p2⟩:=hp
     cases ha:agP p with
     | true=>
      rw[ha]at p1
      obtain⟨c1,p1,rfl⟩:=p1
      obtain⟨a1,i1,r1⟩:=ih1 false m m1 u d1 o1 c1 (d2++rest) h1 (by rw[hm];simp) p1
      obtain⟨_,i2,r2⟩:=ih2 true m1 m2 l d2 o2 c2 rest h2 i1.dy p2
      refine⟨rfl,comb (d1:=d1) i1 i2,fun ρ' hb ho=>⟨_,c2,rfl,?_,r2 ρ' hb fun k x hx=> ?_⟩⟩
      ·rw[a1,ha]
       exact⟨c1,r1 ρ' hb fun k x hx=>ho k x (by rw[List.getElem?_append_left (List.getElem?_eq_some_iff.1 hx).1];exact hx),rfl⟩
      ·rw[i1.nx,Nat.add_assoc]
       exact ho _ x (by rw[List.getElem?_append_right (Nat.le_add_right _ _),Nat.add_sub_cancel_left];exact hx)
     | false=>
      rw[ha]at p1
      obtain⟨a1,i1,r1⟩:=ih1 false m m1 u d1 o1 [vv] (d2++rest) h1 (by rw[hm];simp) p1
      obtain⟨_,i2,r2⟩:=ih2 true m1 m2 l d2 o2 c2 rest h2 i1.dy p2
      refine⟨rfl,comb (d1:=d1) i1 i2,fun ρ' hb ho=>⟨_,c2,rfl,?_,r2 ρ' hb fun k x hx=> ?_⟩⟩
      ·rw[a1,ha]
       exact r1 ρ' hb fun k x hx=>ho k x (by rw[List.getElem?_append_left (List.getElem?_eq_some_iff.1 hx).1];exact hx)
      ·rw[i1.nx,Nat.add_assoc]
       exact ho _ x (by rw[List.getElem?_append_right (Nat.le_add_right _ _),Nat.add_sub_cancel_left];exact hx)
   ·cases h
  ·cases h
 | ptr b off=>
  rintro md m m' v ds os c rest h hm ⟨rfl,rfl,n,h3,rfl⟩
  simp only[inst]at h
  split at h
  ·rename_i i hi
   simp only[Qa,Qe]at h
   obtain⟨rfl,rfl⟩:=h
   exact⟨rfl,⟨hm,rfl, [],rfl,rfl⟩,fun ρ' hb _=>⟨n,hb _ _ _ h3 hi,rfl⟩⟩
  ·cases h
 | fn f l ih=>
  rintro md m m' v ds os c rest h hm ⟨vs,hp,rfl⟩
  simp only[inst]at h
  split at h
  ·rename_i u m1 h1
   simp only[Qa,Qe]at h
   obtain⟨rfl,rfl⟩:=h
   obtain⟨_,h2,h3⟩:=ih true m m1 u ds os vs rest h1 hm hp
   exact⟨rfl,h2,fun ρ' hb ho=>⟨vs,h3 ρ' hb ho,rfl⟩⟩
  ·cases h
 |raw x=>
  rintro md m m' v ds os c rest h hm ⟨rfl,rfl,rfl⟩
  simp only[inst,Qa,Qe]at h
  obtain⟨rfl,rfl⟩:=h
  exact⟨Qqp,⟨hm,rfl, [],rfl,rfl⟩,fun _ _ _=>rfl⟩
 |nils=>
  rintro md m m' v ds os c rest h hm ⟨rfl,rfl,rfl⟩
  simp only[inst,Qa,Qe]at h
  obtain⟨rfl,rfl⟩:=h
  exact⟨rfl,⟨hm,rfl, [],rfl,rfl⟩,fun _ _ _=>rfl⟩
 |kb b=>
  rintro md m m' v ds os c rest h hm ⟨rfl,rfl,rfl⟩
  simp only[inst,Qa,Qe]at h
  obtain⟨rfl,rfl⟩:=h
  exact⟨rfl,⟨hm,rfl, [],rfl,rfl⟩,fun _ _ _=>rfl⟩
theorem Qs3:∀(t:Ty) (ts:List Ty) (x:den T.ty t) (p:TU T.ty ts),ofU (t::ts) (QpY t ts x p)=(⟨t,x⟩:Dy T)::ofU ts p
 |_, [],_,_=>rfl
 |_,_::_,_,_=>rfl
theorem QgH:∀{ts:List Ty} {ds:List (Dy T)} {p:TU T.ty ts},toU ts ds=some p→ofU ts p=ds
 | [], [],_,_=>rfl
 | [],_::_,_,h=>by simp only[toU,reduceCtorEq]at h
 |_::_, [],_,h=>by simp only[toU,reduceCtorEq]at h
 | t::ts,d::ds,p,h=>by
  simp only[toU]at h
  split at h
  ·rename_i x q hx hq
   simp only[Qa]at h
   subst h
   obtain⟨e,rfl⟩:=qK hx
   obtain⟨t',y⟩:=d
   cases e
   rw[Qs3,QgH hq]
  ·cases h
def PRB(β:Nat→Option Nat)(D:Snap)(O:OwT T):List (TypeId×Pt)→Nat→List (Dy T)→List (Nat×Pl)→List Blk→Prop
 | [],_,ds,os,Bs=>ds= []∧os= []∧Bs= []
 |tp::bs,i,ds,os,Bs=>∃d1 d2 o1 o2 n c Bs',ds=d1++d2∧os=o1++o2∧β i=some n∧Bs=bx n tp.1 c::Bs'∧PR β D O tp.2 false d1 o1 c∧PRB β D O bs (i+1) d2 o2 Bs'
def PRO(β:Nat→Option Nat)(D:Snap)(O:OwT T):List (TypeId×Pt)→List (Option Pt)→Nat→List (Dy T)→List (Nat×Pl)→List Blk→List Blk→Prop
 | [], [],_,ds,os,B,B'=>ds= []∧os= []∧B= []∧B'= []
 |_::bs,none::ps,i,ds,os,B,B'=>∃q B1 B1',B=q::B1∧B'=q::B1'∧PRO β D O bs ps (i+1) ds os B1 B1'
 |tp::bs,some p::ps,i,ds,os,B,B'=>∃d1 d2 o1 o2 n c q B1 B1',ds=d1++d2∧os=o1++o2∧β i=some n∧B=q::B1∧B'=bx n tp.1 c::B1'∧PR β D O p false d1 o1 c∧PRO β D O bs ps (i+1) d2 o2 B1 B1'
 |_,_,_,_,_,_,_=>False
def BwS(ρ:Rho)(w:World)(s:SS T):List (Nat×Nat)→List Blk→Prop
 | [],Bs=>Bs= []
 |x::bw,Bs=>∃(s1:SS T) (t:TypeId) (v:SV T) (n:Nat) (c:List Value) (Bs':List Blk),Ext s1 s∧lookA s1.L x.1=some (x.2,.var t v)∧x.2<s1.nx∧ρ x.1=some (.blk n)∧Bs=bx n t c::Bs'∧w.heap[n]?=some (.cells c.toArray t (0,0))∧BwS ρ w s bw Bs'
theorem Qny{ρ ρ':Rho}{w:World}{s s':SS T}(hr:ρ.le ρ')(hx:Ext s s'):∀{bw:List (Nat×Nat)} {Bs:List Blk},BwS ρ w s bw Bs→BwS ρ' w s' bw Bs
 | [],_,h=>h
 |_::_,_,⟨s1,t,v,n,c,Bs',h1,h2,h3,h4,h5,h6,h7⟩=>⟨s1,t,v,n,c,Bs',h1.trans hx,h2,h3,hr _ _ h4,h5,h6,Qny hr hx h7⟩
theorem Qi3(hT:TbOk T):∀(bs:List (TypeId×Pt)) (i:Nat) (m m':Mt T) (bw:List (Nat×Nat)) (ρ:Rho) (D:Snap) (Lv:List Blk),matB bs i m=some (m',bw)→RSx ct ρ D Lv R m.s a w→
  ∃ρ' D' Lv' dn on os Bs,MatR ct ρ D R m m' a w ρ' D' Lv' dn on∧os.map (·.1)=on.map (·.1)∧PRB (bet ρ' m'.bd) D' (OwS ρ' m'.s m'.ow) bs i dn os Bs∧BwS ρ' w m'.s bw Bs∧(∀k x,bw[k]?=some x→lookA m'.bd (i+k)=some x.1)∧bw.length=bs.length
 | [],i,m,m',bw,ρ,D,Lv,h,hS=>by
  simp only[matB,Qa,Qe]at h
  obtain⟨rfl,rfl⟩:=h
  exact⟨ρ,D,Lv, [], [], [], [],⟨Rho.le.refl _,Snap.le.refl _,hS,Ext.refl _,rfl,rfl,fun _ _ h=>h⟩,rfl,⟨rfl,rfl,rfl⟩,rfl,fun k x hx=>by simp at hx,rfl⟩
 | (t, p)::bs,i,m,m',bw,ρ,D,Lv,h,hS=>by
  simp only[matB]at h
  split at h
  ·rename_i id hid
   split at h
   ·rename_i ver t' v hl
    cases ht:Nat.beq t t' with
    |false=>rw[ht]at h;cases h
    | true=>
     rw[ht]at h
     obtain rfl:=Qc ht
     simp only[Qg]at h
     split at h
     ·rename_i m1 hm1
      split at h
      ·rename_i m2 bw2 hm2
       simp only[Qa,Qe]at h
       obtain⟨rfl,rfl⟩:=h
       obtain⟨X,Y,n,c,e,g1,g2,g3,_⟩:=hS.var hl
       obtain⟨ρ1,D1,Lv1,dn1,on1,os1,M1,E1,P1⟩:=Qe6 hT p v m m1 ρ D Lv false c hm1 hS g2
       obtain⟨ρ2,D2,Lv2,dn2,on2,os2,Bs2,M2,E2,P2,B2,K2,N2⟩:=Qi3 hT bs (i+1) m1 m2 bw2 ρ1 D1 Lv1 hm2 M1.rs
       have hr:=M1.rho.trans M2.rho
       refine⟨ρ2,D2,Lv2,dn1++dn2,on1++on2,os1++os2,bx n t c::Bs2,⟨hr,M1.le.trans M2.le,M2.rs,M1.ext.trans M2.ext,by rw[M2.dy,M1.dy];simp,by rw[M2.ow,M1.ow];simp,fun b i hb=>M2.bd _ _ (M1.bd _ _ hb)⟩,by simp[E1,E2],⟨dn1,dn2,os1,os2,n,c,Bs2,rfl,rfl,?_,rfl,?_,P2⟩,⟨m.s,t,v,n,c,Bs2,M1.ext.trans M2.ext,hl,hS.ver _ (Yr hl),hr _ _ g1,rfl,g3,B2⟩,fun k x hx=> ?_,by simp[N2]⟩
       ·unfold bet
        rw[M2.bd _ _ (M1.bd _ _ hid)]
        simp only[hr _ _ g1]
       ·exact Zw (y7 M2.rho M2.bd) M2.le (fun _ _ _ _ _ _ _ ho=>XF M2.rho M2.ext (fun x hx=>by rw[M2.ow];exact List.mem_append_right _ hx) ho) _ _ _ _ _ P1
       ·cases k with
        |zero=>simp only[List.getElem?_cons_zero,Qa]at hx;subst hx;exact M2.bd _ _ (M1.bd _ _ hid)
        |succ k=>rw[show i+(k+1)=i+1+k by omega];exact K2 k x (by simpa using hx)
      ·cases h
     ·cases h
   ·cases h
  ·cases h
theorem QkD{id:Nat}{x:Nat×SB T}:∀{L:List (Nat×Nat×SB T)},lookA L id=some x→L.Perm ((id,x)::delB id L)
 | [],h=>by cases h
 | e::L,h=>by
  obtain⟨j,d⟩:=e
  simp only[lookA]at h
  unfold delB
  cases hb:Nat.beq j id with
  |true=>
   rw[hb]at h
   simp only[Qg,Qa]at h
   rw[←Qc hb,h]
   exact .refl _
  |false=>
   rw[hb]at h
   exact(List.Perm.cons _ (QkD h)).trans (List.Perm.swap _ _ _)
theorem QdQ:∀(ow:List (Nat×Nat)) (L L1:List (Nat×Nat×SB T)) (Ls:List Blk),takeB ow L=some L1→RLs ρ D L Ls→(L.map (·.1)).Nodup→
  ∃Qs Ls1,Ls.Perm (Qs++Ls1)∧RLs ρ D L1 Ls1∧L1.Sublist L∧Qs.length=ow.length∧∀(k:Nat) (x:Nat×Nat),ow[k]?=some x→∃b q,lookA L x.1=some (x.2,b)∧Qs[k]?=some q∧RBk ρ D x.1 b q
 | [],L,L1,Ls,h,hL,_=>by
  simp only[takeB,Qa]at h
  subst h
  exact⟨[],Ls,.refl _,hL,List.Sublist.refl _,rfl,fun k x hx=>by simp at hx⟩
 | (i,ver)::ow,L,L1,Ls,h,hL,hn=>by
  simp only[takeB]at h
  split at h
  ·rename_i ver' b hl
   cases hv:Nat.beq ver ver' with
   |false=>rw[hv]at h;cases h
   | true=>
    rw[hv]at h
    obtain rfl:=Qc hv
    simp only[Qg]at h
    obtain⟨X,q,Y,rfl,h1,h2,_⟩:=qJ hL hl
    obtain⟨Qs,Ls1,g1,g2,g3,g4,g5⟩:=QdQ ow _ L1 _ h h2 (hn.sublist (jK.map _))
    refine⟨q::Qs,Ls1,List.perm_middle.trans (List.Perm.cons q g1),g2,g3.trans jK,by simp[g4],fun k x hx=> ?_⟩
    cases k with
    |zero=>simp only[List.getElem?_cons_zero,Qa]at hx;subst hx;exact⟨b,q,hl,rfl,h1⟩
    |succ k=>
     obtain⟨b',q',k1,k2,k3⟩:=g5 k x (by simpa using hx)
     exact⟨b',q',(Zu _ hn k1).2,by simpa using k2,k3⟩
  ·cases h
theorem QcQ:∀(bw:List (Nat×Nat)) (L es L1:List (Nat×Nat×SB T)) (Ls:List Blk),Qgk bw L=some (es,L1)→RLs ρ D L Ls→(L.map (·.1)).Nodup→
  ∃Qs Ls1,Ls.Perm (Qs++Ls1)∧RLs ρ D L1 Ls1∧L1.Sublist L∧RLs ρ D es Qs∧es.map (fun e=>(e.1,e.2.1))=bw∧L.Perm (es++L1)
 | [],L,es,L1,Ls,h,hL,_=>by
  simp only[Qgk,Qa,Qe]at h
  obtain⟨rfl,rfl⟩:=h
  exact⟨[],Ls,.refl _,hL,List.Sublist.refl _,rfl,rfl,.refl _⟩
 | (i,ver)::bw,L,es,L1,Ls,h,hL,hn=>by
  simp only[Qgk]at h
  split at h
  ·rename_i ver' b hl
   cases hv:Nat.beq ver ver' with
   |false=>rw[hv]at h;cases h
   | true=>
    rw[hv]at h
    obtain rfl:=Qc hv
    simp only[Qg]at h
    split at h
    ·rename_i es' L' hp
     simp only[Qa,Qe]at h
     obtain⟨rfl,rfl⟩:=h
     obtain⟨X,q,Y,rfl,h1,h2,_⟩:=qJ hL hl
     obtain⟨Qs,Ls1,g1,g2,g3,g4,g5,g6⟩:=QcQ bw _ es' L' _ hp h2 (hn.sublist (jK.map _))
     refine⟨q::Qs,Ls1,List.perm_middle.trans (List.Perm.cons q g1),g2,g3.trans jK,⟨q,Qs,rfl,h1,g4⟩,by simp[g5],?_⟩
     exact(QkD hl).trans (List.Perm.cons _ g6)
    ·cases h
  ·cases h
def OwQ(Qs:List Blk)(D:Snap):OwT T:=fun o t e f xs A cap=>∃q,Qs[o]?=some q∧OwnX f (kdT T t) e D A cap xs q
def lstP:Pt→Bool
 | .nl=>true
 | .cs _ l=>lstP l
 |_=>false
def GlO(G:List (Nat×Dy T))(D:Snap):Prop:=∀g d,lookA G g=some d→Cell (kdT T d.t) D g 0 d.x
def Qxe(P:Program)(G:List (Nat×Dy T))(sp:FSp T):Prop:=∀(g w0:World) (D:Snap) (β:Nat→Option Nat) (p:TU T.ty sp.pt) (dA dB:List (Dy T)) (oA oB:List (Nat×Pl)) (vals:List Value) (Bs Qs:List Blk) (r:TU T.ty sp.rt),
 GlO G D→ofU sp.pt p=dA++dB→PR β D (OwQ Qs D) sp.args true dA oA vals→PRB β D (OwQ Qs D) sp.blks 0 dB oB Bs→(oA++oB).map (·.1)=List.range Qs.length→St g w0 D (Bs++Qs)→sp.fn p=some r→
 CallsIn (Fw none) 0 P sp.fid vals.toArray w0 fun e w'=>∃v,e= .returned v∧∃(D':Snap) (β':Nat→Option Nat) (Bs' Ns Qs':List Blk) (dR dO dN:List (Dy T)) (oR oO oN:List (Nat×Pl)) (vs:List Value),
  (∀b n,b<sp.blks.length→β b=some n→β' b=some n)∧ofU sp.rt r=dR++(dO++dN)∧PR β' D' (OwQ Qs' D') sp.res true dR oR vs∧v=retV vs∧PRO β' D' (OwQ Qs' D') sp.blks sp.out 0 dO oO Bs Bs'∧PRB β' D' (OwQ Qs' D') sp.new sp.blks.length dN oN Ns∧
  (oR++(oO++oN)).map (·.1)=List.range Qs'.length∧Stp g w0 D (Bs++Qs) w' D' (Bs'++(Ns++Qs'))
structure RvOk(P:Program)(rv:RvSp T):Prop where
 v:∀(g w0:World) (D:Snap) (A:Option Addr) (cap:Nat) (xs ys:List (den T.ty rv.t)) (q:Blk),St g w0 D [q]→OwnD (kdT T rv.t) rv.e D A cap xs q→rv.fn xs=some ys→
  CallsIn (Fw none) 0 P rv.fid #[.slice A xs.length cap] w0 fun e w'=>∃v,e= .returned v∧∃(D1:Snap) (q3:Blk),v= .tuple #[]∧Stp g w0 D [q] w' D1 [q3]∧OwnD (kdT T rv.t) rv.e D1 A cap ys q3
 fn:(P.funcs[rv.fid]?).map (fun F=>(F.name== "runtime.NumGoroutine",F.body.isNone))=some (false,false)
 len:∀xs ys,rv.fn xs=some ys→ys.length=xs.length
theorem QdR{α:Type}:∀(bs:List Bool) (l:List α),(Qan bs l).Sublist l
 | [],l=>by unfold Qan;exact List.nil_sublist _
 |true::_, []=>List.Sublist.refl _
 |false::_, []=>List.Sublist.refl _
 |true::bs,x::l=>(QdR bs l).cons_cons x
 |false::bs,x::l=>(QdR bs l).cons x
theorem Qi4{ρ:Rho}{D:Snap}:∀(bs:List Bool) {L:List (Nat×Nat×SB T)} {Ls:List Blk},RLs ρ D L Ls→RLs ρ D (Qan bs L) (Qan bs Ls)
 | [],_,_,_=>by unfold Qan;rfl
 |b::_, [],_,h=>by cases h;cases b<;>rfl
 |true::bs,_::_,_,⟨q,Ls',h1,h2,h3⟩=>by subst h1;exact⟨q,_,rfl,h2,Qi4 bs h3⟩
 |false::bs,_::_,_,⟨q,Ls',h1,h2,h3⟩=>by subst h1;exact Qi4 bs h3
def PanP(P:Program)(G:List (Nat×Dy T))(sp:FSp T)(x:TypeId×Bool):Prop:=∀(g w0:World) (D:Snap) (β:Nat→Option Nat) (p:TU T.ty sp.pt) (dA dB:List (Dy T)) (oA oB:List (Nat×Pl)) (vals:List Value) (Bs Qs:List Blk) (e:Int),
 GlO G D→ofU sp.pt p=dA++dB→PR β D (OwQ Qs D) sp.args true dA oA vals→PRB β D (OwQ Qs D) sp.blks 0 dB oB Bs→(oA++oB).map (·.1)=List.range Qs.length→St g w0 D (Bs++Qs)→sp.fs p=some (.inl e)→
 CallsIn (Fw none) 0 P sp.fid vals.toArray w0 fun en w'=>en= .panicked [{v:=pvV x e,recovered:=false}]∧∃D',Stp g w0 D (Bs++Qs) w' D' (Qan sp.pk Bs)
structure VOk(P:Program)(G:List (Nat×Dy T))(sp:FSp T):Prop where
 v:Qxe P G sp
 fn:(P.funcs[sp.fid]?).map (fun F=>(F.name== "runtime.NumGoroutine",F.body.isNone))=some (false,false)
 l:lstP sp.res=true
 fs:∀x,sp.pv=some x→∀p r,sp.fs p=some (.inr r)→sp.fn p=some r
 pn:∀x,sp.pv=some x→PanP P G sp x
end
section
variable {T:Tb}{C:Cx T}{ct:Ct}{ρ:Rho}{D:Snap}{Lv R:List Blk}{s:SS T}{a:Act}{w:World}
variable {rd:Option Nat}{ops:Array Oper}{Q:Exit→Act→World→Prop}{i:Nat}{o:Oper}{d:Tmp}{Cn:Act→World→Prop}{α:Type}{k:SS T→Option α}{r:α}
theorem QgI{C:Cx T}(hC:CxOk C ct)(h:RSx ct ρ D Lv R s a w){l2:SV T}{v2:List Value}(h2:RX ρ D l2 true v2):∀{xs:List Operand} {ts:List TypeId} {l:SV T},evL C s xs ts=some l→∃vs,JC (EvA a) xs=some vs∧RX ρ D (appL l l2) true (vs++v2)
 | [],_,l,hx=>by simp only[evL,Qa]at hx;subst hx;exact⟨[],rfl,h2⟩
 | x::xs,ts,l,hx=>by
  unfold evL at hx
  split at hx
  ·rename_i u l' h1 h2'
   simp only[Qa]at hx
   subst hx
   obtain⟨v,e1,r1⟩:=YC hC h h1
   obtain⟨vs,e2,r2⟩:=QgI hC h h2 h2'
   exact⟨v::vs,by simp only[JC,e1,e2],v,vs++v2,rfl,r1,r2⟩
  ·cases hx
theorem Yc{β:Type}{x:Nat×β}:∀{L:List (Nat×β)},x∈L→(L.map (·.1)).Nodup→lookA L x.1=some x.2
 | [],h,_=>by cases h
 | e::L,h,hn=>by
  simp only[List.map_cons,List.nodup_cons]at hn
  rcases List.mem_cons.1 h with rfl|h1
  ·simp[lookA]
  ·have:Nat.beq e.1 x.1=false:=by
    cases hb:Nat.beq e.1 x.1 with
    |true=>exact absurd (List.mem_map.2 ⟨x,h1,(Qc hb).symm⟩) hn.1
    |false=>rfl
   have h2:=Yc h1 hn.2
   obtain⟨e1,e2⟩:=e
   simp only[lookA,this,Qh]
   exact h2
def Ren(O O':OwT T):List (Nat×Pl)→List (Nat×Pl)→Prop
 | [],ys=>ys= []
 |x::xs,ys=>∃y ys',ys=y::ys'∧x.2=y.2∧(∀t e f l A cap,x.2= .own A cap l.length→O x.1 t e f l A cap→O' y.1 t e f l A cap)∧Ren O O' xs ys'
theorem XU{O O':OwT T}:∀{x1 x2 ys:List (Nat×Pl)},Ren O O' (x1++x2) ys→∃y1 y2,ys=y1++y2∧Ren O O' x1 y1∧Ren O O' x2 y2
 | [],x2,ys,h=>⟨[],ys,rfl,rfl,h⟩
 |x::x1,x2,ys,⟨y,ys',e,h1,h2,h3⟩=>by
  obtain⟨y1,y2,e2,h4,h5⟩:=XU h3
  exact⟨y::y1,y2,by rw[e,e2];rfl,⟨y,y1,rfl,h1,h2,h4⟩,h5⟩
theorem Qe7{β:Nat→Option Nat}{D:Snap}{O O':OwT T}:∀(p:Pt) (md:Bool) (ds:List (Dy T)) (os os':List (Nat×Pl)) (c:List Value),PR β D O p md ds os c→Ren O O' os os'→PR β D O' p md ds os' c:=by
 intro p
 induction p with
 |dt t=>rintro md ds os os' c ⟨x,h1,rfl,h3⟩ hr;exact⟨x,h1,hr,h3⟩
 |own t e f=>
  rintro md ds os os' c ⟨xs,o,A,cap,h1,rfl,h3,h4⟩ ⟨y,ys',rfl,h5,h6,h7⟩
  have h7:ys'= []:=h7
  subst h7
  obtain⟨y1,y2⟩:=y
  exact⟨xs,y1,A,cap,h1,by rw[←(show _=y2 from h5)],h3,h6 _ _ _ _ _ _ rfl h4⟩
 |agg l ih=>exact fun md ds os os' c h hr=>ih false ds os os' c h hr
 |nl=>rintro md ds os os' c ⟨h1,rfl,h3⟩ hr;exact⟨h1,hr,h3⟩
 | cs h l ih1 ih2=>
  intro md ds os os' c hc hr
  cases md with
  |false=>
   obtain⟨d1,d2,o1,o2,c1,c2,e1,rfl,e3,h1,h2⟩:=hc
   obtain⟨y1,y2,rfl,r1,r2⟩:=XU hr
   exact⟨d1,d2,y1,y2,c1,c2,e1,rfl,e3,ih1 _ _ _ _ _ h1 r1,ih2 _ _ _ _ _ h2 r2⟩
  |true=>
   obtain⟨d1,d2,o1,o2,v,c2,e1,rfl,e3,h1,h2⟩:=hc
   obtain⟨y1,y2,rfl,r1,r2⟩:=XU hr
   refine⟨d1,d2,y1,y2,v,c2,e1,rfl,e3,?_,ih2 _ _ _ _ _ h2 r2⟩
   cases ha:agP h with
   |true=>rw[ha]at h1;obtain⟨c1,h3,h4⟩:=h1;exact⟨c1,ih1 _ _ _ _ _ h3 r1,h4⟩
   |false=>rw[ha]at h1;exact ih1 _ _ _ _ _ h1 r1
 |ptr b off=>rintro md ds os os' c ⟨h1,rfl,h3⟩ hr;exact⟨h1,hr,h3⟩
 |fn f l ih=>rintro md ds os os' c ⟨vs,h1,h2⟩ hr;exact⟨vs,ih _ _ _ _ _ h1 hr,h2⟩
 |raw v=>rintro md ds os os' c ⟨h1,rfl,h3⟩ hr;exact⟨h1,hr,h3⟩
 |nils=>rintro md ds os os' c ⟨h1,rfl,h3⟩ hr;exact⟨h1,hr,h3⟩
 |kb b=>rintro md ds os os' c ⟨h1,rfl,h3⟩ hr;exact⟨h1,hr,h3⟩
theorem Qi5{β:Nat→Option Nat}{D:Snap}{O O':OwT T}:∀{bs:List (TypeId×Pt)} {i:Nat} {ds:List (Dy T)} {os os':List (Nat×Pl)} {Bs:List Blk},PRB β D O bs i ds os Bs→Ren O O' os os'→PRB β D O' bs i ds os' Bs
 | [],_,_,_,_,_,⟨h1,h2,h3⟩,hr=>by subst h2;exact⟨h1,hr,h3⟩
 |_::_,_,_,_,_,_,⟨d1,d2,o1,o2,n,c,Bs',e1,e2,h1,e3,h2,h3⟩,hr=>by
  subst e2
  obtain⟨y1,y2,rfl,r1,r2⟩:=XU hr
  exact⟨d1,d2,y1,y2,n,c,Bs',e1,rfl,h1,e3,Qe7 _ _ _ _ _ _ h2 r1,Qi5 h3 r2⟩
def idx:Nat→List (Nat×Pl)→List (Nat×Pl)
 |_, []=> []
 |j,x::l=>(j,x.2)::idx (j+1) l
theorem QgJ:∀(j:Nat) (l:List (Nat×Pl)),(idx j l).map (·.1)=List.range' j l.length
 |_, []=>rfl
 |j,x::l=>by simp[idx,QgJ (j+1) l,List.range'_succ]
theorem QgK{O O':OwT T}:∀(os:List (Nat×Pl)) (j:Nat),(∀k x,os[k]?=some x→∀t e f l A cap,x.2= .own A cap l.length→O x.1 t e f l A cap→O' (j+k) t e f l A cap)→Ren O O' os (idx j os)
 | [],_,_=>rfl
 | x::os,j,h=>⟨(j,x.2),idx (j+1) os,rfl,rfl,fun t e f l A cap e1=>h 0 x rfl t e f l A cap e1,QgK os (j+1) fun k y hy=>by
   rw[show j+1+k=j+(k+1) by omega]
   exact h (k+1) y (by simpa using hy)⟩
theorem OwnX.of{f f0:Bool}{α:Type}{K:Kd α}{E:TypeId}{D:Snap}{A:Option Addr}{cap:Nat}{l:List α}{q:Blk}(h:OwnX f0 K E D A cap l q)(hf:(!f||f0)=true):OwnX f K E D A cap l q:=by
 cases f with
 |false=>exact h.weak
 |true=>cases f0 with
  |true=>exact h
  |false=>cases hf
theorem Zx:∀{L L':List (Nat×Nat×SB T)} {Ls Ls':List Blk},RLs ρ D L Ls→RLs ρ D L' Ls'→RLs ρ D (L++L') (Ls++Ls')
 | [],_,_,_,h,h'=>by have h:_=_:=h;subst h;exact h'
 |_::_,_,_,_,⟨q,Ls',e,h1,h2⟩,h'=>by subst e;exact⟨q,_,rfl,h1,Zx h2 h'⟩
theorem Qi6:∀{L:List (Nat×Nat×SB T)} {Ls:List Blk},RLs ρ D L Ls→RLs ρ D L.reverse Ls.reverse
 | [],_,h=>by have h:_=_:=h;subst h;exact rfl
 |e::L,_,⟨q,Ls',e1,h1,h2⟩=>by
  subst e1
  rw[List.reverse_cons,List.reverse_cons]
  exact Zx (Qi6 h2) ⟨q, [],rfl,h1,rfl⟩
theorem Qi7{Qs:List Blk}:∀{n j:Nat} {os:List (Nat×Pl)} {es:List (Nat×Nat×SB T)},OEs (OwQ Qs D) n os es→os.map (·.1)=List.range' j os.length→j+os.length=Qs.length→(∀k x,os[k]?=some x→ρ (n+k)=some x.2)→RLs ρ D es (Qs.drop j)
 |n,j, [],es,h,_,hl,_=>by
  have h:es= []:=h
  subst h
  exact List.drop_of_length_le (by simp at hl;omega)
 | n,j,x::os,es,⟨t,e,f,xs,A,cap,es',h1,h2,h3,h4⟩,hm,hl,hr=>by
  subst h1
  simp only[List.map_cons,List.length_cons,List.range'_succ,List.cons.injEq]at hm
  obtain⟨q,hq,hO⟩:=h3
  rw[hm.1]at hq
  have hd:Qs.drop j=q::Qs.drop (j+1):=by
   rw[List.drop_eq_getElem_cons (by simp at hl;omega)]
   congr 1
   rw[List.getElem?_eq_getElem (by simp at hl;omega)]at hq
   exact Option.some.inj hq
  refine⟨q,Qs.drop (j+1),hd,⟨A,cap,by have h5:=hr 0 x rfl;rw[h2]at h5;exact h5,hO⟩,Qi7 h4 hm.2 (by simp at hl;omega) fun k y hy=> ?_⟩
  rw[show n+1+k=n+(k+1) by omega]
  exact hr (k+1) y (by simpa using hy)
theorem Qi8{O:OwT T}:∀{n:Nat} {os:List (Nat×Pl)} {es:List (Nat×Nat×SB T)},OEs O n os es→es.map (·.1)=List.range' n os.length∧∀e∈es,e.2.1=e.1
 |n, [],es,h=>by have h:es= []:=h;subst h;exact⟨rfl,fun e he=>by cases he⟩
 |n,x::os,es,⟨t,e,f,xs,A,cap,es',h1,h2,h3,h4⟩=>by
  subst h1
  obtain⟨g1,g2⟩:=Qi8 h4
  refine⟨by simp[g1,List.range'_succ],fun e he=> ?_⟩
  rcases List.mem_cons.1 he with rfl|he
  ·rfl
  ·exact g2 e he
theorem InsR.trans{O:OwT T}{m m1 m2:Im T}{r1 r2:List (Dy T)}{o1 o2:List (Nat×Pl)}(i1:InsR O m m1 r1 o1)(i2:InsR O m1 m2 r2 o2):InsR O m m2 r2 (o1++o2):=by
 obtain⟨e1,g1,g2⟩:=i1.L
 obtain⟨e2,g3,g4⟩:=i2.L
 refine⟨i2.dy,by rw[i2.nx,i1.nx];simp;omega,e1++e2,by rw[g3,g1];simp,Ql6 g2 ?_⟩
 rw[←i1.nx];exact g4
theorem Qqq{β:Nat→Option Nat}{O:OwT T}{bd:List (Nat×Nat)}{nv:Nat}:∀(bs:List (TypeId×Pt)) (i:Nat) (m m':Im T) (L:List (Nat×Nat×SB T)) (ds:List (Dy T)) (os:List (Nat×Pl)) (Bs:List Blk) (rest:List (Dy T)),newE bd nv bs i m=some (L,m')→m.dy=ds++rest→PRB β D O bs i ds os Bs→
  InsR O m m' rest os∧(∀e∈L,e.2.1=nv)∧(L.map (fun e=>some e.1)=(List.range' i bs.length).map (fun b=>lookA bd b))∧∀ρ':Rho,(∀b n i,β b=some n→lookA bd b=some i→ρ' i=some (.blk n))→(∀k x,os[k]?=some x→ρ' (m.nx+k)=some x.2)→RLs ρ' D L Bs
 | [],i,m,m',L,ds,os,Bs,rest,h,hm,⟨e1,e2,e3⟩=>by
  subst e1 e2 e3
  simp only[newE,Qa,Qe]at h
  obtain⟨rfl,rfl⟩:=h
  exact⟨⟨hm,rfl, [],rfl,rfl⟩,fun e he=>(by cases he),rfl,fun _ _ _=>rfl⟩
 | (t,p)::bs,i,m,m',L,ds,os,Bs,rest,h,hm,⟨d1,d2,o1,o2,n,c,Bs',e1,e2,h1,e3,h2,h3⟩=>by
  subst e1 e2 e3
  simp only[newE]at h
  split at h
  ·rename_i id v m1 hid hi
   split at h
   ·rename_i L1 m2 hn
    simp only[Qa,Qe]at h
    obtain⟨rfl,rfl⟩:=h
    obtain⟨_,i1,r1⟩:=Qcb p false m m1 v d1 o1 c (d2++rest) hi (by rw[hm];simp) h2
    obtain⟨i2,v2,l2,r2⟩:=Qqq bs (i+1) m1 m2 L1 d2 o2 Bs' rest hn i1.dy h3
    refine⟨i1.trans i2,fun e he=> ?_,by simp[l2,List.range'_succ,hid],fun ρ' hb ho=>⟨_,Bs',rfl,⟨n,c,hb _ _ _ h1 hid,r1 ρ' hb fun k x hx=>ho k x (by rw[List.getElem?_append_left (List.getElem?_eq_some_iff.1 hx).1];exact hx),rfl⟩,r2 ρ' hb fun k x hx=> ?_⟩⟩
    ·rcases List.mem_cons.1 he with rfl|he
     ·rfl
     ·exact v2 e he
    ·rw[i1.nx,Nat.add_assoc]
     exact ho _ x (by rw[List.getElem?_append_right (Nat.le_add_right _ _),Nat.add_sub_cancel_left];exact hx)
   ·cases h
  ·cases h
theorem Ql7{β:Nat→Option Nat}{O:OwT T}{bd:List (Nat×Nat)}{nv:Nat}{D0:Snap}(hd:D0.le D):∀(bs:List (TypeId×Pt)) (ps:List (Option Pt)) (i:Nat) (es:List (Nat×Nat×SB T)) (m m':Im T) (L:List (Nat×Nat×SB T)) (ds:List (Dy T)) (os:List (Nat×Pl)) (Bs Bs':List Blk) (rest:List (Dy T)),outE bd nv es ps m=some (L,m')→m.dy=ds++rest→PRO β D O bs ps i ds os Bs Bs'→RLs ρ D0 es Bs→
  (∀k tp,bs[k]?=some tp→∀q,Bs[k]?=some q→∃n c,q=bx n tp.1 c∧∀n',β (i+k)=some n'→n'=n)→
  InsR O m m' rest os∧L.map (·.1)=es.map (·.1)∧(∀e∈L,e.2.1=nv∨(e∈es∧∃q,RBk ρ D0 e.1 e.2.2 q∧q∈Bs∧q∈Bs'))∧∀ρ':Rho,ρ.le ρ'→(∀b n i,β b=some n→lookA bd b=some i→ρ' i=some (.blk n))→(∀k x,os[k]?=some x→ρ' (m.nx+k)=some x.2)→RLs ρ' D L Bs'
 | [], [],i,es,m,m',L,ds,os,Bs,Bs',rest,h,hm,⟨e1,e2,e3,e4⟩,hL,_=>by
  subst e1 e2 e3 e4
  cases es with
  |nil=>
   simp only[outE,Qa,Qe]at h
   obtain⟨rfl,rfl⟩:=h
   exact⟨⟨hm,rfl, [],rfl,rfl⟩,rfl,fun e he=>(by cases he),fun _ _ _ _=>rfl⟩
  |cons e es=>obtain⟨q,_,e5,_⟩:=hL;cases e5
 | tp::bs,none::ps,i,es,m,m',L,ds,os,Bs,Bs',rest,h,hm,⟨q,B1,B1',e1,e2,h1⟩,hL,hk=>by
  subst e1 e2
  cases es with
  |nil=>have hL:_=_:=hL;cases hL
  | cons e es=>
   obtain⟨q',Ls',e3,h2,h3⟩:=hL
   cases e3
   simp only[outE]at h
   split at h
   ·rename_i L1 m1 ho
    simp only[Qa,Qe]at h
    obtain⟨rfl,rfl⟩:=h
    obtain⟨i1,g1,g2,g3⟩:=Ql7 hd bs ps (i+1) es m m1 L1 ds os B1 B1' rest ho hm h1 h3 (fun k tp ht q hq=>by
     obtain⟨n,c,k1,k2⟩:=hk (k+1) tp (by simpa using ht) q (by simpa using hq)
     exact⟨n,c,k1,fun n' hn'=>k2 n' (by rw[show i+(k+1)=i+1+k by omega];exact hn')⟩)
    refine⟨i1,by simp[g1],fun x hx=> ?_,fun ρ' hr hb ho=>⟨q,B1',rfl,QcP hr hd h2,g3 ρ' hr hb ho⟩⟩
    rcases List.mem_cons.1 hx with rfl|hx
    ·exact .inr ⟨List.mem_cons_self,q,h2,List.mem_cons_self,List.mem_cons_self⟩
    ·rcases g2 x hx with h|⟨h,q',k1,k2,k3⟩
     ·exact .inl h
     ·exact .inr ⟨List.mem_cons_of_mem _ h,q',k1,List.mem_cons_of_mem _ k2,List.mem_cons_of_mem _ k3⟩
   ·cases h
 | tp ::bs,some p::ps,i,es,m,m',L,ds,os,Bs,Bs',rest,h,hm,⟨d1,d2,o1,o2,n,c,q,B1,B1',e1,e2,h1,e3,e4,h2,h3⟩,hL,hk=>by
  subst e1 e2 e3 e4
  cases es with
  |nil=>have hL:_=_:=hL;cases hL
  | cons e es=>
   obtain⟨q',Ls',e5,k1,k2⟩:=hL
   cases e5
   obtain⟨id,ver,b⟩:=e
   cases b with
   |own t' e' xs' f'=>simp only[outE,reduceCtorEq]at h
   |lnt t' xs'=>simp only[outE,reduceCtorEq]at h
   | var t v0=>
    simp only[outE]at h
    split at h
    ·rename_i v m1 hi
     split at h
     ·rename_i L1 m2 ho
      simp only[Qa,Qe]at h
      obtain⟨rfl,rfl⟩:=h
      obtain⟨_,i1,r1⟩:=Qcb p false m m1 v d1 o1 c (d2++rest) hi (by rw[hm];simp) h2
      obtain⟨i2,g1,g2,g3⟩:=Ql7 hd bs ps (i+1) es m1 m2 L1 d2 o2 B1 B1' rest ho i1.dy h3 k2 (fun k tp ht q hq=>by
       obtain⟨n,c,k1,k2⟩:=hk (k+1) tp (by simpa using ht) q (by simpa using hq)
       exact⟨n,c,k1,fun n' hn'=>k2 n' (by rw[show i+(k+1)=i+1+k by omega];exact hn')⟩)
      obtain⟨n0,c0,z1,z2⟩:=hk 0 tp rfl q rfl
      have hn:=z2 n h1
      subst hn
      obtain⟨mm,cc,y1,y2,y3⟩:=k1
      rw[z1]at y3
      have y4:n=mm:=by cases y3;rfl
      have y5:tp.1=t:=by cases y3;rfl
      subst y4 y5
      refine⟨i1.trans i2,by simp[g1],fun x hx=> ?_,fun ρ' hr hb ho=>⟨_,B1',rfl,⟨n,c,hr _ _ y1,r1 ρ' hb fun k x hx=>ho k x (by rw[List.getElem?_append_left (List.getElem?_eq_some_iff.1 hx).1];exact hx),rfl⟩,g3 ρ' hr hb fun k x hx=> ?_⟩⟩
      ·rcases List.mem_cons.1 hx with rfl|hx
       ·exact .inl rfl
       ·rcases g2 x hx with h|⟨h,q',k1,k2,k3⟩
        ·exact .inl h
        ·exact .inr ⟨List.mem_cons_of_mem _ h,q',k1,List.mem_cons_of_mem _ k2,List.mem_cons_of_mem _ k3⟩
      ·rw[i1.nx,Nat.add_assoc]
       exact ho _ x (by rw[List.getElem?_append_right (Nat.le_add_right _ _),Nat.add_sub_cancel_left];exact hx)
     ·cases h
    ·cases h
 | [],_::_,_,_,_,_,_,_,_,_,_,_,_,_,h,_,_=>h.elim
 |_::_, [],_,_,_,_,_,_,_,_,_,_,_,_,h,_,_=>h.elim
end
end Go.Sep
