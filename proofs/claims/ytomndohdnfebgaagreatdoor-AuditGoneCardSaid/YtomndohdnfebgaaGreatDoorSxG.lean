/-
 Symbolic execution: what is owned is lent; variables are written; slices.
-/
import Derived.Test.YtomndohdnfebgaaGreatDoorSxF
set_option linter.unusedVariables false
set_option linter.unusedSimpArgs false
namespace Go.Sep
section
variable {T:Tb}{C:Cx T}{ct:Ct}{ρ:Rho}{D:Snap}{Lv R:List Blk}{s:SS T}{a:Act}{w:World}
variable {rd:Option Nat}{ops:Array Oper}{Q:Exit→Act→World→Prop}{i:Nat}{o:Oper}{d:Tmp}{Cn:Act→World→Prop}{α:Type}{k:SS T→Option α}{r:α}
theorem qK{t t':Ty}{x:den T.ty t}{y:den T.ty t'}(h:Qdz t t' x=some y):∃e:t=t',y=e▸x:=by
 unfold Qdz at h
 split at h
 ·rename_i hb
  simp only[Qa]at h
  exact⟨Ty.eq_of_beq hb,h.symm⟩
 ·cases h
theorem QkC{id:Nat}{c:Nat×SB T}:∀{L:List (Nat×Nat×SB T)},lookA L id=some c→putB id c L=L
 | [],h=>by cases h
 |e::L,h=>by
  obtain⟨j,d⟩:=e
  simp only[lookA]at h
  unfold putB
  cases hb:Nat.beq j id with
  |true=>rw[hb]at h;simp only[Qg,Qa]at h;rw[h];rfl
  |false=>rw[hb]at h;rw[Qh,QkC h]
theorem RSx.lend{id ver:Nat}{t:Ty}{e:TypeId}{xs:List (den T.ty t)}{f:Bool}(h:RSx ct ρ D Lv R s a w)(hl:lookA s.L id=some (ver,.own t e xs f)):
  ∃D' Lv' A cap,D.le D'∧RSx ct ρ D' Lv' R (bif f then s.wr id (.own t e xs false)else s) a w∧ρ id=some (.own A cap xs.length)∧Sl (kdT T t) D' A cap xs:=by
 obtain⟨X,q,Y,e1,h1,hz,h3⟩:=qJ h.l hl
 obtain⟨A,cap,h4,h5⟩:=h1
 subst e1
 have hS:=h.st.prm (J8 X Y R q)
 obtain⟨D',q',hd,hS',hO,hSl⟩:=hS.lent h5
 have hS2:=hS'.prm (J8 X Y R q').symm
 have hb:RBk ρ D' id (.own t e xs false) q':=⟨A,cap,h4,hO⟩
 refine⟨D',X++q'::Y,A,cap,hd,?_,h4,hSl⟩
 cases f with
 |true=>exact h.wr hS2 hd (h3 ρ D' _ _ _ (Rho.le.refl _) hd hb) hz (fun q hq=>by rcases List.mem_append.1 hq with h|h<;>simp[h]) (fun q hq=>by rcases List.mem_append.1 hq with h|h<;>simp[h])
 | false=>
  have h6:=h3 ρ D' ver _ _ (Rho.le.refl _) hd hb
  rw[QkC hl]at h6
  exact⟨h.rb,h.dom,h.ver,h.nd,h.size,h.ds,fun t sv ht=>by
   obtain⟨v,g1,g2⟩:=h.e t sv ht
   exact⟨v,g1,JL (Rho.le.refl _) hd g2⟩,h6,hS2,ct.fr.mono hd h.fr,h.ini,h.ex,h.o⟩
theorem Ext.cond{s s1:SS T}{b:Bool}(h:Ext s s1):Ext s (bif b then s1 else s):=by
 cases b with
 |true=>exact h
 |false=>exact Ext.refl s
theorem Qqg{D:Snap}:∀(t:Ty) (ts:List Ty) (x:den T.ty t) (p:TU T.ty ts) (c1 c2:List Value),(kdT T t).r D x c1→(kdU T ts).r D p c2→(kdU T (t::ts)).r D (QpY t ts x p) (c1++c2)
 |t, [],x,p,c1,c2,h1,h2=>by
  have h2:c2= []:=h2
  subst h2
  show(kdT T t).r D x (c1++ [])
  rw[List.append_nil]
  exact h1
 |t,_::_,x,p,c1,c2,h1,h2=>⟨c1,c2,rfl,h1,h2⟩
mutual
theorem Qb7(hT:TbOk T):∀(f:Nat) (s:SS T) (v:SV T) (t:Ty) (x:den T.ty t) (s':SS T) (D:Snap) (Lv:List Blk) (c:List Value),frz f s v t=some (x,s')→RSx ct ρ D Lv R s a w→RX ρ D v false c→
  ∃D' Lv',D.le D'∧RSx ct ρ D' Lv' R s' a w∧(kdT T t).r D' x c∧Ext s s'
 |0,_,_,_,_,_,_,_,_,h,_,_=>by cases h
 | f+1,s,.dt t' x',t,x,s',D,Lv,c,h,hS,hc=>by
  simp only[frz]at h
  split at h
  ·rename_i hx
   simp only[Qa,Qe]at h
   obtain⟨rfl,rfl⟩:=h
   obtain⟨rfl,rfl⟩:=qK hx
   exact⟨D,Lv,Snap.le.refl D,hS,hc,Ext.refl _⟩
  ·cases h
 |f+1,s,.kb b,t,x,s',D,Lv,c,h,hS,hc=>by
  cases t<;>simp only[frz,reduceCtorEq,Qa,Qe]at h
  obtain⟨rfl,rfl⟩:=h
  exact⟨D,Lv,Snap.le.refl D,hS,hc,Ext.refl _⟩
 |f+1,s,.nils,t,x,s',D,Lv,c,h,hS,hc=>by
  cases t<;>simp only[frz,reduceCtorEq,Qa,Qe]at h
  obtain⟨rfl,rfl⟩:=h
  exact⟨D,Lv,Snap.le.refl D,hS,⟨none,0,hc,Sl.nil _ _⟩,Ext.refl _⟩
 | f+1,s,.own o,t,x,s',D,Lv,c,h,hS,hc=>by
  cases t<;>simp only[frz,reduceCtorEq]at h
  split at h
  ·rename_i hl
   split at h
   ·rename_i ys hy
    simp only[Qa,Qe]at h
    obtain⟨rfl,rfl⟩:=h
    obtain⟨e,rfl⟩:=qK hy
    cases e
    obtain⟨D',Lv',A,cap,hd,h1,h2,h3⟩:=hS.lend hl
    obtain⟨A',cap',len',h4,h5⟩:=hc
    rw[h2]at h4
    cases h4
    exact⟨D',Lv',hd,h1,⟨A,cap,h5,h3⟩,Ext.cond (Ext.wr _ _ _)⟩
   ·cases h
  ·rename_i hl
   split at h
   ·rename_i ys hy
    simp only[Qa,Qe]at h
    obtain⟨rfl,rfl⟩:=h
    obtain⟨e,rfl⟩:=qK hy
    cases e
    obtain⟨q,⟨A,cap,h1,h2,_⟩,_⟩:=hS.blk hl
    obtain⟨A',cap',len',h4,h5⟩:=hc
    rw[h1]at h4
    cases h4
    exact⟨D,Lv,Snap.le.refl D,hS,⟨A,cap,h5,h2⟩,Ext.refl _⟩
   ·cases h
  ·cases h
 | f +1,s,.agg l,t,x,s',D,Lv,c,h,hS,hc=>by
  cases t<;>simp only[frz,reduceCtorEq]at h
  ·split at h
   ·rename_i p s1 hp
    simp only[Qa,Qe]at h
    obtain⟨rfl,rfl⟩:=h
    obtain⟨D',Lv',hd,h1,h2,h3⟩:=Qqh hT f _ _ _ _ _ D Lv c hp hS hc
    refine⟨D',Lv',hd,h1,?_,h3⟩
    refine(hT.kdE _ _ _ _).2 ?_
    rw[hT.go]
    exact h2
   ·cases h
  ·split at h
   ·rename_i n y _ xs s1 hp
    cases hb:Nat.beq (List.length xs) n with
    |false=>rw[hb]at h;cases h
    |true=>
     rw[hb]at h
     simp only[Qg,Qa,Qe]at h
     obtain⟨rfl,rfl⟩:=h
     obtain⟨D',Lv',hd,h1,h2,h3⟩:=Qqi hT f _ _ _ _ _ D Lv c hp hS hc
     exact⟨D',Lv',hd,h1,⟨Qc hb,h2⟩,h3⟩
   ·cases h
 |f+1,s,.raw _,t,x,s',D,Lv,c,h,hS,hc=>by cases t<;>simp only[frz,reduceCtorEq]at h
 |f+1,s,.tup _,t,x,s',D,Lv,c,h,hS,hc=>by cases t<;>simp only[frz,reduceCtorEq]at h
 |f+1,s,.fn _ _,t,x,s',D,Lv,c,h,hS,hc=>by cases t<;>simp only[frz,reduceCtorEq]at h
 |f+1,s,.nl,t,x,s',D,Lv,c,h,hS,hc=>by cases t<;>simp only[frz,reduceCtorEq]at h
 |f+1,s,.cs _ _,t,x,s',D,Lv,c,h,hS,hc=>by cases t<;>simp only[frz,reduceCtorEq]at h
 |f+1,s,.ptr _ _,t,x,s',D,Lv,c,h,hS,hc=>by cases t<;>simp only[frz,reduceCtorEq]at h
 |f+1,s,.cell _ _,t,x,s',D,Lv,c,h,hS,hc=>by cases t<;>simp only[frz,reduceCtorEq]at h
 |f+1,s,.elt _ _ _ _,t,x,s',D,Lv,c,h,hS,hc=>by cases t<;>simp only[frz,reduceCtorEq]at h
 |f+1,s,.ela _ _ _ _ _,t,x,s',D,Lv,c,h,hS,hc=>by cases t<;>simp only[frz,reduceCtorEq]at h
 |f+1,s,.eva _ _ _ _ _ _,t,x,s',D,Lv,c,h,hS,hc=>by cases t<;>simp only[frz,reduceCtorEq]at h
 |f+1,s,.sla _ _ _ _,t,x,s',D,Lv,c,h,hS,hc=>by cases t<;>simp only[frz,reduceCtorEq]at h
theorem Qqh(hT:TbOk T):∀(f:Nat) (s:SS T) (v:SV T) (ts:List Ty) (x:TU T.ty ts) (s':SS T) (D:Snap) (Lv:List Blk) (c:List Value),frzL f s v ts=some (x,s')→RSx ct ρ D Lv R s a w→RX ρ D v false c→
  ∃D' Lv',D.le D'∧RSx ct ρ D' Lv' R s' a w∧(kdU T ts).r D' x c∧Ext s s'
 |0,_,_,_,_,_,_,_,_,h,_,_=>by cases h
 |f+1,s,.nl,ts,x,s',D,Lv,c,h,hS,hc=>by
  cases ts<;>simp only[frzL,reduceCtorEq,Qa,Qe]at h
  obtain⟨_,rfl⟩:=h
  exact⟨D,Lv,Snap.le.refl D,hS,hc,Ext.refl _⟩
 | f+1,s,.cs u l,ts,x,s',D,Lv,c,h,hS,hc=>by
  cases ts<;>simp only[frzL,reduceCtorEq]at h
  split at h
  ·rename_i x1 s1 h1
   split at h
   ·rename_i p s2 h2
    simp only[Qa,Qe]at h
    obtain⟨rfl,rfl⟩:=h
    obtain⟨c1,c2,rfl,r1,r2⟩:=hc
    obtain⟨D1,Lv1,d1,g1,g2,g3⟩:=Qb7 hT f _ _ _ _ _ D Lv c1 h1 hS r1
    obtain⟨D2,Lv2,d2,k1,k2,k3⟩:=Qqh hT f _ _ _ _ _ D1 Lv1 c2 h2 g1 (yA (Rho.le.refl _) d1 _ _ _ r2)
    exact⟨D2,Lv2,d1.trans d2,k1,Qqg _ _ _ _ _ _ ((kdT T _).mono _ _ _ _ d2 g2) k2,g3.trans k3⟩
   ·cases h
  ·cases h
 |f+1,s,.dt _ _,ts,x,s',D,Lv,c,h,hS,hc=>by cases ts<;>simp only[frzL,reduceCtorEq]at h
 |f+1,s,.kb _,ts,x,s',D,Lv,c,h,hS,hc=>by cases ts<;>simp only[frzL,reduceCtorEq]at h
 |f+1,s,.nils,ts,x,s',D,Lv,c,h,hS,hc=>by cases ts<;>simp only[frzL,reduceCtorEq]at h
 |f+1,s,.own _,ts,x,s',D,Lv,c,h,hS,hc=>by cases ts<;>simp only[frzL,reduceCtorEq]at h
 |f+1,s,.agg _,ts,x,s',D,Lv,c,h,hS,hc=>by cases ts<;>simp only[frzL,reduceCtorEq]at h
 |f+1,s,.raw _,ts,x,s',D,Lv,c,h,hS,hc=>by cases ts<;>simp only[frzL,reduceCtorEq]at h
 |f+1,s,.tup _,ts,x,s',D,Lv,c,h,hS,hc=>by cases ts<;>simp only[frzL,reduceCtorEq]at h
 |f+1,s,.fn _ _,ts,x,s',D,Lv,c,h,hS,hc=>by cases ts<;>simp only[frzL,reduceCtorEq]at h
 |f+1,s,.ptr _ _,ts,x,s',D,Lv,c,h,hS,hc=>by cases ts<;>simp only[frzL,reduceCtorEq]at h
 |f+1,s,.cell _ _,ts,x,s',D,Lv,c,h,hS,hc=>by cases ts<;>simp only[frzL,reduceCtorEq]at h
 |f+1,s,.elt _ _ _ _,ts,x,s',D,Lv,c,h,hS,hc=>by cases ts<;>simp only[frzL,reduceCtorEq]at h
 |f+1,s,.ela _ _ _ _ _,ts,x,s',D,Lv,c,h,hS,hc=>by cases ts<;>simp only[frzL,reduceCtorEq]at h
 |f+1,s,.eva _ _ _ _ _ _,ts,x,s',D,Lv,c,h,hS,hc=>by cases ts<;>simp only[frzL,reduceCtorEq]at h
 |f+1,s,.sla _ _ _ _,ts,x,s',D,Lv,c,h,hS,hc=>by cases ts<;>simp only[frzL,reduceCtorEq]at h
theorem Qqi(hT:TbOk T):∀(f:Nat) (s:SS T) (v:SV T) (t:Ty) (x:List (den T.ty t)) (s':SS T) (D:Snap) (Lv:List Blk) (c:List Value),frzW f s v t=some (x,s')→RSx ct ρ D Lv R s a w→RX ρ D v false c→
  ∃D' Lv',D.le D'∧RSx ct ρ D' Lv' R s' a w∧RL (kdT T t) D' x c∧Ext s s'
 |0,_,_,_,_,_,_,_,_,h,_,_=>by cases h
 |f+1,s,.nl,t,x,s',D,Lv,c,h,hS,hc=>by
  simp only[frzW,Qa,Qe]at h
  obtain⟨rfl,rfl⟩:=h
  exact⟨D,Lv,Snap.le.refl D,hS,hc,Ext.refl _⟩
 | f+1,s,.cs u l,t,x,s',D,Lv,c,h,hS,hc=>by
  simp only[frzW]at h
  split at h
  ·rename_i x1 s1 h1
   split at h
   ·rename_i p s2 h2
    simp only[Qa,Qe]at h
    obtain⟨rfl,rfl⟩:=h
    obtain⟨c1,c2,rfl,r1,r2⟩:=hc
    obtain⟨D1,Lv1,d1,g1,g2,g3⟩:=Qb7 hT f _ _ _ _ _ D Lv c1 h1 hS r1
    obtain⟨D2,Lv2,d2,k1,k2,k3⟩:=Qqi hT f _ _ _ _ _ D1 Lv1 c2 h2 g1 (yA (Rho.le.refl _) d1 _ _ _ r2)
    exact⟨D2,Lv2,d1.trans d2,k1,⟨c1,c2,rfl,(kdT T t).mono _ _ _ _ d2 g2,k2⟩,g3.trans k3⟩
   ·cases h
  ·cases h
 |f+1,s,.dt _ _,t,x,s',D,Lv,c,h,hS,hc=>by simp only[frzW,reduceCtorEq]at h
 |f+1,s,.kb _,t,x,s',D,Lv,c,h,hS,hc=>by simp only[frzW,reduceCtorEq]at h
 |f+1,s,.nils,t,x,s',D,Lv,c,h,hS,hc=>by simp only[frzW,reduceCtorEq]at h
 |f+1,s,.own _,t,x,s',D,Lv,c,h,hS,hc=>by simp only[frzW,reduceCtorEq]at h
 |f+1,s,.agg _,t,x,s',D,Lv,c,h,hS,hc=>by simp only[frzW,reduceCtorEq]at h
 |f+1,s,.raw _,t,x,s',D,Lv,c,h,hS,hc=>by simp only[frzW,reduceCtorEq]at h
 |f+1,s,.tup _,t,x,s',D,Lv,c,h,hS,hc=>by simp only[frzW,reduceCtorEq]at h
 |f+1,s,.fn _ _,t,x,s',D,Lv,c,h,hS,hc=>by simp only[frzW,reduceCtorEq]at h
 |f+1,s,.ptr _ _,t,x,s',D,Lv,c,h,hS,hc=>by simp only[frzW,reduceCtorEq]at h
 |f+1,s,.cell _ _,t,x,s',D,Lv,c,h,hS,hc=>by simp only[frzW,reduceCtorEq]at h
 |f+1,s,.elt _ _ _ _,t,x,s',D,Lv,c,h,hS,hc=>by simp only[frzW,reduceCtorEq]at h
 |f+1,s,.ela _ _ _ _ _,t,x,s',D,Lv,c,h,hS,hc=>by simp only[frzW,reduceCtorEq]at h
 |f+1,s,.eva _ _ _ _ _ _,t,x,s',D,Lv,c,h,hS,hc=>by simp only[frzW,reduceCtorEq]at h
 |f+1,s,.sla _ _ _ _,t,x,s',D,Lv,c,h,hS,hc=>by simp only[frzW,reduceCtorEq]at h
end
theorem Qbp(hT:TbOk T){v:SV T}{t:Ty}{xs:List (den T.ty t)}{s':SS T}{u:Value}(h:Qen s v t=some (xs,s'))(hS:RSx ct ρ D Lv R s a w)(hu:RV ρ D v u):
  ∃D' Lv' A cap,D.le D'∧RSx ct ρ D' Lv' R s' a w∧u= .slice A xs.length cap∧Sl (kdT T t) D' A cap xs∧Ext s s':=by
 obtain⟨D',Lv',hd,h1,⟨A,cap,h2,h3⟩,h4⟩:=Qb7 hT 60 s v (.sl t) xs s' D Lv _ h hS (Qbl hu)
 refine⟨D',Lv',A,cap,hd,h1,?_,h3,h4⟩
 cases u with
 | agg cs=>
  exfalso
  unfold RV at hu
  cases ha:agS v with
  |false=>
   rw[ha]at hu
   have h5:=Qnr ha hu
   rw[h2]at h5
   cases h5
  | true=>
   cases v with
   | dt t' x=>
    simp only[Qen,frz]at h
    split at h
    ·rename_i hx
     obtain⟨e,_⟩:=qK hx
     subst e
     cases ha
    ·cases h
   |raw u=>simp only[Qen,frz,reduceCtorEq]at h
   |agg u=>simp only[Qen,frz,reduceCtorEq]at h
   |nl=>simp only[Qen,frz,reduceCtorEq]at h
   |cs u l=>simp only[Qen,frz,reduceCtorEq]at h
   |_=>cases ha
 |slice A' l' c'=>cases h2;rfl
 |_=>cases h2
mutual
theorem QuF(hT:TbOk T):∀(f:Nat) (v:SV T) (t:Ty) (x:den T.ty t) (c:List Value),pur f v t=some x→RX ρ D v false c→(kdT T t).r D x c
 |0,_,_,_,_,h,_=>by cases h
 |f+1,.dt t' x',t,x,c,h,hc=>by
  simp only[pur]at h
  obtain⟨rfl,rfl⟩:=qK h
  exact hc
 |f+1,.kb b,t,x,c,h,hc=>by
  cases t<;>simp only[pur,reduceCtorEq,Qa]at h
  subst h
  exact hc
 | f+1,.agg l,t,x,c,h,hc=>by
  cases t<;>simp only[pur,reduceCtorEq]at h
  split at h
  ·rename_i p hp
   simp only[Qa]at h
   subst h
   refine(hT.kdE _ _ _ _).2 ?_
   rw[hT.go]
   exact Qqj hT f _ _ _ c hp hc
  ·cases h
 |f+1,.nils,t,x,c,h,hc=>by cases t<;>simp only[pur,reduceCtorEq]at h
 |f+1,.own _,t,x,c,h,hc=>by cases t<;>simp only[pur,reduceCtorEq]at h
 |f+1,.raw _,t,x,c,h,hc=>by cases t<;>simp only[pur,reduceCtorEq]at h
 |f+1,.tup _,t,x,c,h,hc=>by cases t<;>simp only[pur,reduceCtorEq]at h
 |f+1,.fn _ _,t,x,c,h,hc=>by cases t<;>simp only[pur,reduceCtorEq]at h
 |f+1,.nl,t,x,c,h,hc=>by cases t<;>simp only[pur,reduceCtorEq]at h
 |f+1,.cs _ _,t,x,c,h,hc=>by cases t<;>simp only[pur,reduceCtorEq]at h
 |f+1,.ptr _ _,t,x,c,h,hc=>by cases t<;>simp only[pur,reduceCtorEq]at h
 |f+1,.cell _ _,t,x,c,h,hc=>by cases t<;>simp only[pur,reduceCtorEq]at h
 |f+1,.elt _ _ _ _,t,x,c,h,hc=>by cases t<;>simp only[pur,reduceCtorEq]at h
 |f+1,.ela _ _ _ _ _,t,x,c,h,hc=>by cases t<;>simp only[pur,reduceCtorEq]at h
 |f+1,.eva _ _ _ _ _ _,t,x,c,h,hc=>by cases t<;>simp only[pur,reduceCtorEq]at h
 |f+1,.sla _ _ _ _,t,x,c,h,hc=>by cases t<;>simp only[pur,reduceCtorEq]at h
 |f+1,.yld _,t,x,c,h,hc=>by cases t<;>simp only[pur,reduceCtorEq]at h
 |f+1,.mp _ _,t,x,c,h,hc=>by cases t<;>simp only[pur,reduceCtorEq]at h
theorem Qqj(hT:TbOk T):∀(f:Nat) (v:SV T) (ts:List Ty) (x:TU T.ty ts) (c:List Value),purL f v ts=some x→RX ρ D v false c→(kdU T ts).r D x c
 |0,_,_,_,_,h,_=>by cases h
 |f+1,.nl,ts,x,c,h,hc=>by
  cases ts<;>simp only[purL,reduceCtorEq]at h
  exact hc
 | f+1,.cs u l,ts,x,c,h,hc=>by
  cases ts<;>simp only[purL,reduceCtorEq]at h
  split at h
  ·rename_i x1 p h1 h2
   simp only[Qa]at h
   subst h
   obtain⟨c1,c2,rfl,r1,r2⟩:=hc
   exact Qqg _ _ _ _ _ _ (QuF hT f _ _ _ c1 h1 r1) (Qqj hT f _ _ _ c2 h2 r2)
  ·cases h
 |f+1,.dt _ _,ts,x,c,h,hc=>by cases ts<;>simp only[purL,reduceCtorEq]at h
 |f+1,.kb _,ts,x,c,h,hc=>by cases ts<;>simp only[purL,reduceCtorEq]at h
 |f+1,.agg _,ts,x,c,h,hc=>by cases ts<;>simp only[purL,reduceCtorEq]at h
 |f+1,.nils,ts,x,c,h,hc=>by cases ts<;>simp only[purL,reduceCtorEq]at h
 |f+1,.own _,ts,x,c,h,hc=>by cases ts<;>simp only[purL,reduceCtorEq]at h
 |f+1,.raw _,ts,x,c,h,hc=>by cases ts<;>simp only[purL,reduceCtorEq]at h
 |f+1,.tup _,ts,x,c,h,hc=>by cases ts<;>simp only[purL,reduceCtorEq]at h
 |f+1,.fn _ _,ts,x,c,h,hc=>by cases ts<;>simp only[purL,reduceCtorEq]at h
 |f+1,.ptr _ _,ts,x,c,h,hc=>by cases ts<;>simp only[purL,reduceCtorEq]at h
 |f+1,.cell _ _,ts,x,c,h,hc=>by cases ts<;>simp only[purL,reduceCtorEq]at h
 |f+1,.elt _ _ _ _,ts,x,c,h,hc=>by cases ts<;>simp only[purL,reduceCtorEq]at h
 |f+1,.ela _ _ _ _ _,ts,x,c,h,hc=>by cases ts<;>simp only[purL,reduceCtorEq]at h
 |f+1,.eva _ _ _ _ _ _,ts,x,c,h,hc=>by cases ts<;>simp only[purL,reduceCtorEq]at h
 |f+1,.sla _ _ _ _,ts,x,c,h,hc=>by cases ts<;>simp only[purL,reduceCtorEq]at h
 |f+1,.yld _,ts,x,c,h,hc=>by cases ts<;>simp only[purL,reduceCtorEq]at h
 |f+1,.mp _ _,ts,x,c,h,hc=>by cases ts<;>simp only[purL,reduceCtorEq]at h
end
theorem Qb8{c cu:List Value}{off:Nat}(h:off+cu.length≤c.length)(j:Nat):(setCells c off cu)[j]?=if off≤j∧j<off+cu.length then cu[j-off]? else c[j]?:=by
 unfold setCells
 have e:min off c.length=off:=by omega
 by_cases h1:j<off
 ·rw[if_neg (by omega),List.append_assoc,List.getElem?_append_left (by simp;omega),List.getElem?_take,if_pos h1]
 ·by_cases h2:j<off+cu.length
  ·rw[if_pos ⟨by omega,h2⟩,List.getElem?_append_left (by simp;omega),List.getElem?_append_right (by simp;omega)]
   simp[e]
  ·rw[if_neg (by omega),List.getElem?_append_right (by simp;omega),List.getElem?_drop]
   congr 1
   simp[e]
   omega
theorem Qb9{c cu:List Value}{off:Nat}(h:off+cu.length≤c.length):(setCells c off cu).length=c.length:=by
 unfold setCells
 simp
 omega
theorem Qqk{α:Type}{K:Kd α}{g w0:World}{D0:Snap}{L0 L:List Blk}{P:Program}{n:Nat}{ds:List Deferred}{E:List (Nat×Value)}{t:TypeId}{yo x:Operand}{Ty':TypeId}{A:Option Addr}{cap:Nat}{l:List α}{b:Nat}{u:OB}{m:Int}{off:Nat}(x0 xd:α){v:Value}(ho:ops[i]?=some o)(hop:o.op= .store t yo x)(hg:guardOf ops E o=some true)(hd:o.dst=none)(hE:Env a n ds E)
  (hS:Stp g w0 D0 L0 w D (some (b,u)::L)) (hown:OwnD K Ty' D A cap l (some (b,u))) (hyo:Yt E yo=some (.pointer (some ⟨b,m.toNat*K.n+off,none⟩))) (hx:Yt E x=some v) (hin:getI l m=some x0) (hr:∀c0,K.r D x0 c0→off+(Q4 v).length≤c0.length∧K.r D xd (setCells c0 off (Q4 v))) (hone:∀z∈Q4 v,z.oneCell'=true) (hsz:P.cellsOf t=(Q4 v).length) (hty:(P.info? t).isSome=true)
  (k:∀a u' w',qC [b] w w'→Env a n ds E→OwnD K Ty' D A cap (l.set m.toNat xd) (some (b,u'))→Stp g w0 D0 L0 w' D (some (b,u')::L)→Cn a w'):Op1 P rd ops Q i Cn a w:=by
 obtain⟨cs,⟨hA,h1,h2,hcl,Cl,k0,rfl,_,hk0,hC,ht⟩,hrl⟩:=hown
 obtain rfl:=hk0 rfl
 obtain⟨h0,hgi⟩:=jX hin
 have hlt:=(List.getElem?_eq_some_iff.1 hgi).1
 obtain⟨c0,hc0,hat⟩:=hrl.at_ hgi
 obtain⟨hf,hxd⟩:=hr c0 hc0
 have hcl0:=K.len _ _ _ hc0
 have hN:(m.toNat+1)*K.n≤l.length*K.n:=Nat.mul_le_mul_right _ (by omega)
 rw[Nat.succ_mul]at hN
 have hCl:l.length*K.n≤Cl.size:=by rw[hC];exact Nat.mul_le_mul_right _ h1
 have hfit:m.toNat*K.n+off+(Q4 v).length≤Cl.size:=by omega
 obtain⟨ii,hi⟩:=Option.isSome_iff_exists.1 hty
 have hs:ii.size=(Q4 v).length:=by simpa[Program.cellsOf,hi] using hsz
 have hst:=run_storeCells_at P b (m.toNat*K.n+off) Ty' (Q4 v) 0 Cl w hS.heap0 (by simpa using hfit) hone
 simp only[Nat.add_zero]at hst
 refine Qf8 (w':=w.setRow b (setCells Cl.toList (m.toNat*K.n+off) (Q4 v)).toArray) hE ho hg (by simp[hd,JI]) (by simp[hop,Q5]) ?_ ?_
 ·simp[execOp,hop,hE.eval hx,hE.eval hyo,Instr.storeAt,Instr.sureAddr,storeVar,sizeOf,typeInfo,hi,hs,qE,hst,setCells]
 ·rw [hd]
  intro a' h'
  have hsl:(setCells Cl.toList (m.toNat*K.n+off) (Q4 v)).length=Cl.size:=by rw[Qb9 (by simpa using hfit)];simp
  have hcsl:(setCells c0 off (Q4 v)).length=K.n:=by rw[Qb9 hf,hcl0]
  have hfc:m.toNat*K.n+(setCells c0 off (Q4 v)).length≤cs.length:=by rw[hcsl,hcl];exact hN
  refine k a' _ _ ⟨by simp,fun k _ hk=>setRow_other w b k _ (by simpa using hk)⟩ h' ⟨setCells cs (m.toNat*K.n) (setCells c0 off (Q4 v)),⟨hA,by simpa using h1,h2,?_,_,0,rfl,Nat.zero_le _,fun _=>rfl,?_,?_⟩,hrl.set hlt hxd⟩ (hS.put0 (by simp) rfl rfl rfl (setRow_heap w b Cl _ Ty' _ hS.heap0) (fun k hk=>setRow_other w b k _ hk))
  ·rw[Qb9 hfc,hcl,List.length_set]
  ·simp[hsl,hC]
  ·rw [List.length_set]
   apply List.ext_getElem?
   intro j
   show((setCells Cl.toList (m.toNat*K.n+off) (Q4 v)).take (l.length*K.n))[j]?=_
   rw[List.getElem?_take,Qb8 (by simpa using hfit),Qb8 hfc,hcsl]
   have hcs:∀j,j<l.length*K.n→cs[j]?=Cl.toList[j]?:=fun j hj=>by rw[←ht,List.getElem?_take,if_pos hj]
   by_cases c1:j<l.length*K.n
   ·rw[if_pos c1]
    by_cases c2:m.toNat*K.n≤j∧j<m.toNat*K.n+K.n
    ·rw[if_pos c2,Qb8 hf]
     by_cases c3:off≤j-m.toNat*K.n∧j-m.toNat*K.n<off+(Q4 v).length
     ·rw[if_pos c3,if_pos (by omega)]
      congr 1
      omega
     ·rw[if_neg c3,if_neg (by omega),←hcs j c1]
      have hj:j-m.toNat*K.n<c0.length:=by omega
      have:=hat (j-m.toNat*K.n) _ (List.getElem?_eq_getElem hj)
      rw[show m.toNat*K.n+(j-m.toNat*K.n)=j by omega]at this
      rw[this,List.getElem?_eq_getElem hj]
    ·rw[if_neg c2,if_neg (by omega),hcs j c1]
   ·rw[if_neg c1,if_neg (by omega)]
    rw[List.getElem?_eq_none (by omega)]
theorem Qs0 (hC:CxOk C ct)(h:RSx ct ρ D Lv R s a w)(du:Du ct ops i o a none){t:TypeId}{x y:Operand}(hop:o.op= .store t x y){p u:SV T}(hp:evS C s 0 x=some p)(hu:evS C s t y=some u)(hs:(Qp0 C.P s t p u).run k=some r)
  (hk:∀s' a' w',Ext s s'→k s'=some r→RS ct s' a' w'→Cn a' w'):Op1 C.P rd ops Q i Cn a w:=by
 obtain⟨pv,e1,r1⟩:=YC hC h hp
 obtain⟨uv,e2,r2⟩:=YC hC h hu
 have fin:∀(id ver:Nat) (tid:TypeId) (v v':SV T) (m off sz:Nat) (ag:Bool),tsz C.P t=some (sz,ag)→lookA s.L id=some (ver,.var tid v)→ρ id=some (.blk m)→pv= .pointer (some ⟨m,off,none⟩)→(Q4 uv).length=sz→(∀z∈Q4 uv,z.oneCell'=true)→
   (∀c,RX ρ D v false c→off+sz≤c.length∧RX ρ D v' false (setCells c off (Q4 uv)))→k (s.wr id (.var tid v'))=some r→Op1 C.P rd ops Q i Cn a w:=by
  intro id ver tid v v' m off sz ag hts hlk hm hpv hlen hone hset hkk
  obtain⟨X,Y,m',c,rfl,h2,h3,h4,hz,h5⟩:=h.var hlk
  rw[hm]at h2
  cases h2
  subst hpv
  obtain⟨h6,h7⟩:=hset c h3
  obtain⟨t1,t2⟩:=QfU hts
  refine Qf8 (w':=w.setRow m (setCells c off (Q4 uv)).toArray) h.env du.ho du.hg (by rw[du.hd];exact du.ok) (by simp[hop,Q5]) ?_ fun a' hE=> ?_
  ·simp[execOp,hop,h.env.eval e1,h.env.eval e2,Instr.storeAt,Instr.sureAddr,Qpy h4 (by rw[t1,hlen]) t2 (Qfs (by rw[hlen];exact h6)) (List.all_eq_true.2 hone)]
  ·rw[du.hd]at hE
   have h8:=RSx.setv h h4 hz (h5 v' _ h7)
   have h9:=h8.put (d:=none) (sv:= .nl) (v:=undef) (fun _ e=>by cases e) du.fr hE
   exact hk _ a' _ (Ext.wr _ _ _) hkk ⟨ρ,D,_,R,h9⟩
 unfold Qp0 at hs
 split at hs
 ·rename_i sz ag hts
  split at hs
  ·rename_i b off
   split at hs
   ·rename_i ver tid v hlk
    cases hb:(okSt u&&(Nat.beq (szS u) sz&&(agS u==ag)))with
    |false=>rw[hb]at hs;cases hs
    | true=>
     rw[hb]at hs
     simp only[Qg]at hs
     simp only[Qd,beq_iff_eq]at hb
     split at hs
     ·rename_i v' hv'
      obtain⟨m,h2,h3⟩:=Yn rfl r1
      simp only[List.cons.injEq,and_true]at h3
      have hc:=Qbl r2
      have hl:=QgB _ _ hc
      have hsz:=Qc hb.2.1
      exact fin b ver tid v v' m off sz ag hts hlk h2 h3 (by omega) (Quy _ _ hb.1 hc) (fun c hcc=>QgC hC.tb _ _ _ _ _ _ _ _ _ hv' hcc hc (by omega)) hs
     ·cases hs
   ·cases hs
  ·rename_i o' i' off es
   cases hof:Nat.beq off 0 with
   | false=>
    rw[hof]at hs
    simp only[Qh]at hs
    unfold Qus at hs
    split at hs
    ·rename_i ver t' e' xs hl
     generalize hb:(okSt u&&(Nat.beq (szS u) sz&&(agS u==ag&&Nat.beq (szT T t') es)))=bb at hs
     cases bb with
     |false=>cases hs
     | true=>
      simp only[Qg]at hs
      simp only[Qd,beq_iff_eq]at hb
      obtain⟨b1,b2,b3,b4⟩:=hb
      obtain rfl:=Qc b4
      obtain⟨z,s',hz,hs',hkk⟩:=jP hs
      split at hs'
      ·rename_i v' hv'
       split at hs'
       ·rename_i z' hz'
        simp only[Qa]at hs'
        subst hs'
        obtain⟨X,q,Y,e3,⟨A,cap,g1,g2⟩,hzz,e4⟩:=qJ h.l hl
        obtain⟨b,cap0,len0,g3,g4,g5⟩:=Yn rfl r1
        rw[g1]at g3
        simp only[Qa,Pl.own.injEq]at g3
        obtain⟨rfl,rfl,rfl⟩:=g3
        cases g4
        subst e3
        have hq:∃ub,q=some (b,ub):=by
         obtain⟨cs,hO,_⟩:=g2
         cases q with
         |none=>have:=(hO.2.2.2.2 rfl).1;cases this
         |some qp=>
          obtain⟨b',ub⟩:=qp
          have:=hO.1
          cases this
          exact⟨ub,rfl⟩
        obtain⟨ub,rfl⟩:=hq
        obtain⟨t1,t2⟩:=QfU hts
        have hcu:=Qbl r2
        have hlu:=QgB _ _ hcu
        have hsu:=Qc b2
        refine Qqk (K:=kdT T t') (m:=i') z z' du.ho hop du.hg du.hd h.env (h.st.prm (J8 X Y R _)) g2 (by rw[e1,QbE]) e2 hz (fun c0 hc0=> ?_) (Quy _ _ b1 hcu) (by rw[t1];omega) t2 fun a' u' w' _ hE hO' hS'=> ?_
        ·obtain⟨y1,y2⟩:=QgC hC.tb 200 (.dt t' z) off sz ag u v' c0 _ hv' hc0 hcu (by omega)
         exact⟨by omega,QuF hC.tb 60 _ _ _ _ hz' y2⟩
        ·have hS2:=hS'.prm (J8 X Y R (some (b,u'))).symm
         have h8:=h.wr (id:=o') (b:= .own t' e' (xs.set i'.toNat z') true) hS2 (Snap.le.refl _) (e4 ρ D s.nx _ _ (Rho.le.refl _) (Snap.le.refl _) ⟨_,cap,by rw[List.length_set];exact g1,hO'⟩) hzz (fun q hq=>by rcases List.mem_append.1 hq with h|h<;>simp[h]) (fun q hq=>by rcases List.mem_append.1 hq with h|h<;>simp[h])
         have h9:=h8.put (d:=none) (sv:= .nl) (v:=undef) (fun _ e=>by cases e) du.fr hE
         exact hk _ a' _ (Ext.wr _ _ _) hkk ⟨ρ,D,_,R,h9⟩
       ·cases hs'
      ·cases hs'
    ·cases hs
   | true =>
    rw[hof]at hs
    simp only[Qg]at hs
    obtain rfl:=Qc hof
    split at hs
    ·rename_i ver0 t0 e0 xs0 f0 hl0
     split at hs
     ·rename_i z s1 hf
      split at hs
      ·rename_i ver t' e' xs hl
       split at hs
       ·rename_i z' hz'
        cases hb:(Nat.beq (szT T t') es&&(Nat.beq es sz&&(agT t'==ag)))with
        |false=>rw[hb]at hs;cases hs
        | true=>
         rw[hb]at hs
         simp only[Qg]at hs
         simp only[Qd,beq_iff_eq]at hb
         obtain rfl:=Qc hb.1
         have hsz:=Qc hb.2.1
         obtain⟨rfl,rfl⟩:=qK hz'
         obtain⟨D1,Lv1,hd1,h1,hr,hx⟩:=Qb7 hC.tb 60 _ _ _ _ _ _ _ _ hf h (Qbl r2)
         obtain⟨X,q,Y,e3,⟨A,cap,g1,g2⟩,hzz,e4⟩:=qJ h1.l hl
         obtain⟨b,cap0,len0,g3,g4,g5⟩:=Yn rfl r1
         rw[g1]at g3
         simp only[Qa,Pl.own.injEq]at g3
         obtain⟨rfl,rfl,rfl⟩:=g3
         cases g4
         subst e3
         have hq:∃ub,q=some (b,ub):=by
          obtain⟨cs,hO,_⟩:=g2
          cases q with
          |none=>have:=(hO.2.2.2.2 rfl).1;cases this
          |some qp=>
           obtain⟨b',ub⟩:=qp
           have:=hO.1
           cases this
           exact⟨ub,rfl⟩
         obtain⟨ub,rfl⟩:=hq
         obtain⟨m0,m1,m2⟩:=ZX g5
         obtain⟨t1,t2⟩:=QfU hts
         refine Qgf (K:=kdT T t0) (m:=i') z' du.ho hop du.hg du.hd h1.env (h1.st.prm (J8 X Y R _)) g2 (by rw[e1,QbE,Nat.add_zero]) e2 ⟨m0,m2⟩ hr (by rw[t1,←hsz,QbE]) t2 fun a' u' w' _ hE hO' hS'=> ?_
         have hS2:=hS'.prm (J8 X Y R (some (b,u'))).symm
         have h8:=h1.wr (id:=o') (b:= .own t0 e' (xs.set i'.toNat z') true) hS2 (Snap.le.refl _) (e4 ρ D1 s1.nx _ _ (Rho.le.refl _) (Snap.le.refl _) ⟨_,cap,by rw[List.length_set];exact g1,hO'⟩) hzz (fun q hq=>by rcases List.mem_append.1 hq with h|h<;>simp[h]) (fun q hq=>by rcases List.mem_append.1 hq with h|h<;>simp[h])
         have h9:=h8.put (d:=none) (sv:= .nl) (v:=undef) (fun _ e=>by cases e) du.fr hE
         exact hk _ a' _ (hx.trans (Ext.wr _ _ _)) hs ⟨ρ,D1,_,R,h9⟩
       ·cases hs
      ·cases hs
     ·cases hs
    ·cases hs
  ·rename_i b off i' n kk
   split at hs
   ·rename_i ver tid v hlk
    cases hb:(Nat.beq sz 1&& !ag)with
    |false=>rw[hb]at hs;cases hs
    | true =>
     rw[hb]at hs
     simp only[Qg]at hs
     simp only[Qd,Bool.not_eq_true']at hb
     obtain rfl:=Qc hb.1
     obtain rfl:=hb.2
     split at hs
     ·rename_i k' n' x' k2 z hsub
      cases hb2:(Nat.beq n n'&&(sameKind kk k'&&sameKind kk k2))with
      |false=>rw[hb2]at hs;cases hs
      | true =>
       rw[hb2]at hs
       simp only[Qg]at hs
       simp only[Qd]at hb2
       obtain rfl:=Qc hb2.1
       obtain rfl:=YY hb2.2.1
       obtain rfl:=YY hb2.2.2
       split at hs
       ·rename_i v' hv'
        obtain⟨m,h2,h3,h31⟩:=Yn rfl r1
        simp only[List.cons.injEq,and_true]at h3
        obtain⟨m0,m1,m2⟩:=ZX h31
        obtain rfl:=XL r2
        refine fin b ver tid v v' m (off+i'.toNat) 1 false hts hlk h2 h3 rfl (fun z hz=>by simp[Q4]at hz;subst hz;rfl) (fun c hcc=> ?_) hs
        obtain⟨g1,g2,_,_⟩:=Qbm hC.tb _ _ _ _ _ _ _ hsub hcc
        have g2:(c.drop off).take n=Ya kk n x':=g2
        obtain⟨g3,g4⟩:=QgC hC.tb _ _ _ _ _ _ _ _ (Ya kk n (vset x' i'.toNat z)) hv' hcc rfl (by simp[Ya])
        refine⟨by omega,?_⟩
        have e:setCells c (off+i'.toNat) (Q4 (.int kk z))=setCells c off (Ya kk n (vset x' i'.toNat z)):=by
         rw[Qgi x' z m2,←g2]
         unfold setCells Q4
         apply List.ext_getElem?
         intro j
         simp only[List.append_assoc,List.getElem?_append,List.length_take,List.getElem?_take,List.getElem?_drop,List.length_singleton,List.length_set,List.getElem?_set,List.length_drop]
         have e1:min (off+i'.toNat) c.length=off+i'.toNat:=by omega
         have e2:min off c.length=off:=by omega
         have e3:min n (c.length-off)=n:=by omega
         rw[e1,e2,e3]
         by_cases c1:j<off
         ·simp[c1,show j<off+i'.toNat by omega]
         ·by_cases c2:j<off+i'.toNat
          ·have c3:j-off<n:=by omega
           simp only[c1,c2,c3,if_true,if_false]
           rw[if_neg (by omega),show off+(j-off)=j by omega]
          ·by_cases c4:j=off+i'.toNat
           ·subst c4
            simp[show off+i'.toNat-off=i'.toNat by omega,m2,c1]
           ·simp only[c1,c2,if_false]
            rw[if_neg (by omega)]
            by_cases c5:j-off<n
            ·simp only[c5,if_true]
             rw[if_neg (by omega),show off+i'.toNat+1+(j-(off+i'.toNat)-1)=j by omega,show off+(j-off)=j by omega]
            ·simp only[c5,if_false]
             congr 1
             omega
        rw[e];exact g4
       ·cases hs
     ·cases hs
   ·cases hs
  ·cases hs
 ·cases hs
end
end Go.Sep
