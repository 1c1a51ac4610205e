/-
 Symbolic execution: 'copy' and 'make', slices of arrays.
-/
import Derived.Test.YtomndohdnfebgaaGreatDoorSxL
set_option linter.unusedVariables false
set_option linter.unusedSimpArgs false
namespace Go.Sep
section
variable {P:Program}{ρ:Option Nat}{ops:Array Oper}{Q:Exit→Act→World→Prop}{a:Act}{n:Nat}{ds:List Deferred}{E:List (Nat×Value)}
variable {g w w0:World}{D D0:Snap}{L L0:List Blk}{i:Nat}{o:Oper}{d:Nat}{C:Act→World→Prop}{α:Type}{K:Kd α}
theorem Qqs:∀{l:List α} {cs:List Value},RL K D l cs→∀z∈cs,z.oneCell'=true
 | [],_,h,z,hz=>by simp only[RL]at h;subst h;cases hz
 |x::l,_,⟨c1,c2,e,h1,h2⟩,z,hz=>by
  subst e
  rcases List.mem_append.1 hz with h|h
  ·exact K.one _ _ _ h1 z h
  ·exact Qqs h2 z h
theorem Qs6{t T by_ zl:Nat}{x y:Operand}{A A2:Option Addr}{cap c2:Nat}{l m:List α}{q:Blk}{ts:Array TypeId}(ho:ops[i]?=some o)(hop:o.op= .call {callee:= .builtin .copy,args:= #[x,y],argTypes:=ts})(hts:ts[0]?=some t)(hg:guardOf ops E o=some true)(hd:o.dst=some d)(hE:Env a n ds E)(hn:Nat.blt d n=true)
  (hS:Stp g w0 D0 L0 w D (q::L)) (hx:Yt E x=some (.slice A l.length cap)) (hy:Yt E y=some (.slice A2 m.length c2)) (hT:slT P t=some (T,K.n,by_,zl)) (hown:OwnD K T D A cap l q) (hm:Sl K D A2 c2 m)
  (c:∀a q' w',Env a n ds ((d,.int .i64 ((Nat.min m.length l.length:Nat):Int))::E)→OwnD K T D A cap (m.take l.length++l.drop m.length) q'→Stp g w0 D0 L0 w' D (q'::L)→C a w'):Op1 P ρ ops Q i C a w:=by
 obtain⟨h1,ii,z0,h2,_,h4,_⟩:=yT hT
 obtain⟨hm1,hm2,c0,hr2,hcell⟩:=hm
 by_cases h0:m= []∨l= []
 ·-- nothing is copied
  have hmin:Nat.min m.length l.length=0:=by rcases h0 with rfl|rfl<;>simp
  have hl:m.take l.length++l.drop m.length=l:=by rcases h0 with rfl|rfl<;>simp
  have hload:(Builtin.firstCells ii.size 0 (.slice A2 m.length c2)).run P w= .ok #[] w:=by
   cases A2 with
   |none=>simp[Builtin.firstCells]
   |some p=>simp[Builtin.firstCells,loadCells,loadCellsFrom]
  refine Zf (v:= .int .i64 ((Nat.min m.length l.length:Nat):Int)) (w':=w) hE ho hg (by simp[hd,JI,hn]) (by simp[hop,Q5]) ?_ ?_
  ·rw[hmin]
   cases A with
   |none=>simp[execOp,hop,hE.eval hx,hE.eval hy,resolve,invoke,builtin,Builtin.copy_,hts,Ql h1,Builtin.lenOf,hmin,sizeOf,typeInfo,h2,hload,goInt]
   |some p=>simp[execOp,hop,hE.eval hx,hE.eval hy,resolve,invoke,builtin,Builtin.copy_,hts,Ql h1,Builtin.lenOf,hmin,sizeOf,typeInfo,h2,hload,goInt,storeCells]
  ·rw[hd]
   intro a' h'
   exact c a' q w h' (by rw[hl];exact hown) hS
 ·have hmn:m≠ []:=fun e=>h0 (.inl e)
  have hln:l≠ []:=fun e=>h0 (.inr e)
  obtain⟨cs,hO,hr⟩:=hown
  have hlpos:0<l.length:=List.length_pos_iff.2 hln
  have hmpos:0<m.length:=List.length_pos_iff.2 hmn
  cases q with
  |none=>have:=(hO.2.2.2.2 rfl).2;omega
  | some p=>
   obtain⟨b,u⟩:=p
   obtain⟨hA,hc1,hc2,hcl,Cl,k0,rfl,_,hk0,hC,ht⟩:=hO
   subst hA
   obtain rfl:=hk0 rfl
   let nn:=Nat.min m.length l.length
   have hnn1:nn≤m.length:=Nat.min_le_left _ _
   have hnn2:nn≤l.length:=Nat.min_le_right _ _
   have e1:m.take l.length=m.take nn:=by
    rcases Nat.le_total m.length l.length with h|h
    ·rw[List.take_of_length_le h,List.take_of_length_le (by show m.length≤Nat.min m.length l.length;simp[Nat.min_eq_left h])]
    ·have:nn=l.length:=Nat.min_eq_right h
     rw[this]
   have e2:l.drop m.length=l.drop nn:=by
    rcases Nat.le_total m.length l.length with h|h
    ·have:nn=m.length:=Nat.min_eq_left h
     rw[this]
    ·have:nn=l.length:=Nat.min_eq_right h
     rw[this,List.drop_length,List.drop_of_length_le h]
   rw[←List.take_append_drop nn m]at hr2
   obtain⟨v1,v2,rfl,hv1,hv2⟩:=hr2.split
   rw[←List.take_append_drop nn l]at hr
   obtain⟨d1,d2,rfl,hd1,hd2⟩:=hr.split
   have lv1:=hv1.len
   have ld1:=hd1.len
   have lv1':v1.length=nn*K.n:=by rw[lv1,List.length_take];congr 1;omega
   have ld1':d1.length=nn*K.n:=by rw[ld1,List.length_take];congr 1;omega
   have hnpos:0<nn:=by show 0<Nat.min m.length l.length;simp[Nat.lt_min,hlpos,hmpos]
   have hload:(Builtin.firstCells ii.size nn (.slice A2 m.length c2)).run P w= .ok v1.toArray w:=by
    by_cases hz:v1= []
    ·subst hz
     have h0:nn*K.n=0:=by rw[←lv1'];rfl
     cases A2 with
     |none=>simp[Builtin.firstCells]
     |some p=>simp[Builtin.firstCells,h4,h0,loadCells,loadCellsFrom]
    ·rcases hcell with hnil|⟨b2,off2,cc,T2,fr2,rfl,hb2,hcell⟩
     ·have:v1= []:=List.append_eq_nil_iff.1 hnil|>.1
      exact absurd this hz
     ·obtain⟨y0,v1',hv1'⟩:=List.exists_cons_of_ne_nil hz
      obtain⟨C',T',fr',hne,hpre⟩:=hS.st.sees b2 cc T2 fr2 hb2 off2 y0 (by simpa using hcell 0 y0 (by rw[hv1'];rfl))
      have hl:=run_loadCells_list (P:=P) (w:=w) ⟨b2,off2,none⟩ v1 (fun j u hu=>by
       rw[addr_add,cell_of_row w b2 (off2+j) C' T' fr' hne]
       exact hpre _ _ (hcell j u (by rw[List.getElem?_append_left (List.getElem?_eq_some_iff.1 hu).1];exact hu)))
      rw[lv1']at hl
      simp[Builtin.firstCells,h4,hl]
   have hfit:0+0+v1.length≤Cl.size:=by
    rw[lv1',hC]
    have:=Nat.mul_le_mul_right K.n (Nat.le_trans hnn2 hc1)
    omega
   have hst:=run_storeCells_at P b 0 T v1 0 Cl w hS.heap0 hfit (Qqs hv1)
   simp only[Nat.add_zero,Nat.zero_add,List.take_zero,List.nil_append]at hst
   refine Zf (v:= .int .i64 ((Nat.min m.length l.length:Nat):Int)) (w':=w.setRow b (v1++Cl.toList.drop v1.length).toArray) hE ho hg (by simp[hd,JI,hn]) (by simp[hop,Q5]) ?_ ?_
   ·have hmin:Nat.min m.length l.length=nn:=rfl
    simp[execOp,hop,hE.eval hx,hE.eval hy,resolve,invoke,builtin,Builtin.copy_,hts,Ql h1,Builtin.lenOf,hmin,sizeOf,typeInfo,h2,hload,goInt,hst]
   ·rw[hd]
    intro a' h'
    have hlen2:(m.take l.length++l.drop m.length).length=l.length:=by
     rw[e1,e2,List.length_append,List.length_take,List.length_drop];omega
    refine c a' (some (b,(.cells (v1++Cl.toList.drop v1.length).toArray T (0,0),0))) _ h' ⟨v1++d2,⟨rfl,by rw[hlen2];exact hc1,hc2,?_,_,0,rfl,Nat.zero_le _,fun _=>rfl,?_,?_⟩,by rw[e1,e2];exact hv1.append hd2⟩ (hS.put0 (by simp) rfl rfl rfl (setRow_heap w b Cl _ T _ hS.heap0) (fun k hk=>setRow_other w b k _ hk))
    ·rw[hlen2,←hcl,List.length_append,List.length_append,lv1',ld1']
    ·have h9:nn*K.n≤Cl.size:=by rw[←lv1'];omega
     rw[←hC]
     simp only[List.size_toArray,List.length_append,List.length_drop,Array.length_toList,lv1']
     omega
    ·have hd12:Cl.toList.take (l.length*K.n)=d1++d2:=ht
     have hlen3:l.length*K.n=d1.length+d2.length:=by rw[←List.length_append];exact hcl.symm
     have hdrop:(Cl.toList.drop v1.length).take d2.length=d2:=by
      have h5:(Cl.toList.take (l.length*K.n)).drop d1.length=d2:=by rw[hd12,List.drop_left]
      rw[List.drop_take,hlen3,Nat.add_sub_cancel_left]at h5
      rw[lv1',←ld1'];exact h5
     show((v1++Cl.toList.drop v1.length).toArray.toList).take _=_
     rw[hlen2,hlen3,←show v1.length=d1.length by omega]
     simp only[List.take_length_add_append,hdrop]
end
section
variable {T:Tb}{C:Cx T}{ct:Ct}{ρ:Rho}{D:Snap}{Lv R:List Blk}{s:SS T}{a:Act}{w:World}
variable {rd:Option Nat}{ops:Array Oper}{Q:Exit→Act→World→Prop}{i:Nat}{o:Oper}{d:Tmp}{Cn:Act→World→Prop}{α:Type}{k:SS T→Option α}{r:α}
theorem QvJ{x y:Operand}{E:List (Nat×Value)}{v:Value}(h:opEq x y=true)(hx:Yt E x=some v):Yt E y=some v:=by
 unfold opEq at h
 split at h
 ·rw[←Qc h];exact hx
 ·simp only[Qd,decide_eq_true_eq]at h
  rw[←YY h.1,←h.2];exact hx
 ·cases h
theorem mk_ok(hC:CxOk C ct)(h:RSx ct ρ D Lv R s a w)(du:Du ct ops i o a (some d)){t:TypeId}{x y:Operand}(hop:o.op= .makeSlice t x y)(hs:(mkS C s d t x y).run k=some r)
  (hk:∀s' a' w',Ext s s'→k s'=some r→RS ct s' a' w'→Cn a' w'):Op1 C.P rd ops Q i Cn a w:=by
 unfold mkS at hs
 split at hs
 ·rename_i m e ty by_ hm hT
  cases hb:opEq x y with
  |false=>rw[hb]at hs;cases hs
  | true=>
   rw[hb]at hs
   simp only[Qg]at hs
   obtain⟨vm,e1,r1⟩:=YC hC h hm
   obtain rfl:=XL r1
   split at hs
   ·rename_i z hz
    split at hs
    ·rename_i zd s1 hf
     obtain⟨l,s',hl,hs',hkk⟩:=jP hs
     simp only[Qa]at hs'
     subst hs'
     obtain⟨zv,hz1,hz2⟩:=Qbo ρ D hz
     obtain⟨D1,Lv1,hd1,h1,hr,hx⟩:=Qb7 hC.tb 60 _ _ _ _ _ _ _ _ hf h hz2
     obtain⟨hT1,hT2,hT3⟩:=yZ hT
     refine Qkr (K:=kdT T ty) (z:=zd) (cz:=Q4 zv) du.ho hop du.hg du.hd h1.env du.lt h1.st e1 (QvJ hb e1) hT1 (by rw[hz1];rfl) hr hT2 hT3 hl fun a' A' cap' q' w' _ hE hO hS'=> ?_
     have h2:=h1.nw (p:= .own A' cap' l.length) (b:= .own ty e l true) hS' (Snap.le.refl _) ⟨A',cap',Rho.ins_at _ _ _,hO⟩
     have h3:=h2.put (d:=some d) (sv:= .own s1.nx) (fun _ _=>YV rfl ⟨A',cap',l.length,Rho.ins_at _ _ _,rfl⟩) du.fr hE
     exact hk _ a' w' (hx.trans ((Ext.nw _ _).trans (Ext.put _ _ _))) hkk ⟨_,_,_,R,h3⟩
    ·cases hs
   ·cases hs
 ·cases hs
theorem QvK(hC:CxOk C ct)(h:RSx ct ρ D Lv R s a w)(du:Du ct ops i o a (some d)){xs:Array Operand}{ts:Array TypeId}{x y:Operand}{t:TypeId}{tl:List TypeId}(hop:o.op= .call {callee:= .builtin .copy,args:=xs,argTypes:=ts})(hxs:xs.toList= [x,y])(hts:ts.toList=t::tl)
  {u v:SV T} (hu:evS C s t x=some u) (hv:evS C s t y=some v) (hs:(cpS C.P s (some d) t u v).run k=some r)
  (hk:∀s' a' w',Ext s s'→k s'=some r→RS ct s' a' w'→Cn a' w'):Op1 C.P rd ops Q i Cn a w:=by
 obtain⟨uu,e1,r1⟩:=YC hC h hu
 obtain⟨vv,e2,r2⟩:=YC hC h hv
 have hxs':xs= #[x,y]:=by rw[←Array.toList_inj];simpa using hxs
 have hts':ts[0]?=some t:=by rw[←Array.getElem?_toList,hts];rfl
 subst hxs'
 unfold cpS at hs
 split at hs
 ·rename_i e ty by_ hT
  obtain⟨hT1,hT2,hT3⟩:=yZ hT
  split at hs
  ·rename_i ys s1 hf
   obtain⟨D',Lv',A2,c2,hd,h1,rfl,hSl,hx⟩:=Qbp hC.tb hf h r2
   split at hs
   ·rename_i oid
    split at hs
    ·rename_i ver ty' e' l0 hlk
     split at hs
     ·rename_i l1 hcast
      obtain⟨ec,rfl⟩:=qK hcast
      cases ec
      cases hb:Nat.beq e e' with
      |false=>rw[hb]at hs;cases hs
      |true=>
       rw[hb]at hs
       obtain rfl:=Qc hb
       simp only[Qg]at hs
       obtain⟨A,cap,len,h5,e5⟩:=Yn rfl r1
       cases e5
       obtain⟨X,q,Y,rfl,⟨A',cap',h6,hO⟩,hz,hback⟩:=qJ h1.l hlk
       rw[h5]at h6
       cases h6
       refine Qs6 (K:=kdT T ty) (l:=l0) (m:=ys) du.ho hop hts' du.hg du.hd h1.env du.lt (h1.st.prm (J8 X Y R q)) e1 e2 hT1 hO hSl fun a' q' w' hE hO' hS'=> ?_
       have hS2:=hS'.prm (J8 X Y R q').symm
       have hlen:(ys.take l0.length++l0.drop ys.length).length=l0.length:=by rw[List.length_append,List.length_take,List.length_drop];omega
       have h8:=h1.wr (id:=oid) (b:= .own ty e (ys.take l0.length++l0.drop ys.length) true) hS2 (Snap.le.refl _) (hback ρ D' s1.nx _ _ (Rho.le.refl _) (Snap.le.refl _) ⟨A,cap,by rw[hlen];exact h5,hO'⟩) hz (fun q hq=>by rcases List.mem_append.1 hq with h|h<;>simp[h]) (fun q hq=>by rcases List.mem_append.1 hq with h|h<;>simp[h])
       have h9:=h8.put (d:=some d) (sv:= .dt (.int .i64) ((Nat.min ys.length l0.length:Nat):Int)) (fun _ _=>RV_i _ _) du.fr hE
       exact hk _ a' _ (hx.trans ((Ext.wr _ _ _).trans (Ext.put _ _ _))) hs ⟨ρ,D',_,R,h9⟩
     ·cases hs
    ·cases hs
   ·cases hs
  ·cases hs
 ·cases hs
theorem Qs7(hC:CxOk C ct)(h:RSx ct ρ D Lv R s a w)(du:Du ct ops i o a (some d)){xs:Array Operand}{ts:Array TypeId}{x y:Operand}{t:TypeId}{tl:List TypeId}(hop:o.op= .call {callee:= .builtin .copy,args:=xs,argTypes:=ts})(hxs:xs.toList= [x,y])(hts:ts.toList=t::tl)
  {u v:SV T} (hu:evS C s t x=some u) (hv:evS C s t y=some v) (hs:(cpD C.P s (some d) t u v).run k=some r)
  (hk:∀s' a' w',Ext s s'→k s'=some r→RS ct s' a' w'→Cn a' w'):Op1 C.P rd ops Q i Cn a w:=by
 unfold cpD at hs
 split at hs
 ·rename_i b p c n
  obtain⟨uu,e1,r1⟩:=YC hC h hu
  split at hs
  ·rename_i b' q c' n'
   obtain⟨vv,e2,r2⟩:=YC hC h hv
   have hxs':xs= #[x,y]:=by rw[←Array.toList_inj];simpa using hxs
   have hts':ts[0]?=some t:=by rw[←Array.getElem?_toList,hts];rfl
   subst hxs'
   cases hb:Nat.beq b b' with
   |false=>rw[hb]at hs;cases hs
   | true=>
    rw[hb]at hs
    obtain rfl:=Qc hb
    simp only[Qg]at hs
    unfold cpkS at hs
    split at hs
    ·rename_i ver tid kk N xv e hlk hT
     split at hs
     ·rename_i k' hI
      cases hb2:(decide (kk=k')&&(Nat.ble (p+Nat.min c' c) N&&Nat.ble (q+Nat.min c' c) N))with
      |false=>rw[hb2]at hs;cases hs
      |true=>
       rw[hb2]at hs
       simp only[Qg]at hs
       rw[Qd]at hb2
       have hkk:kk=k':=of_decide_eq_true hb2.1
       subst hkk
       obtain⟨X,Y,m,cs,rfl,h2,h3,h4,h5,h6⟩:=h.var hlk
       obtain⟨m1,g1,g2⟩:=Yn rfl r1
       obtain⟨m2,g3,g4⟩:=Yn rfl r2
       rw[h2]at g1 g3
       cases g1
       cases g3
       cases g2
       cases g4
       have hcs:cs=Ya kk N xv:=h3
       subst hcs
       refine QpX (v:=xv) du.ho hop hts' du.hg du.hd h.env du.lt (h.st.prm (J8 X Y R _)) e1 e2 hT hI rfl hb2.2 fun a' w' _ hE hS'=> ?_
       have hS2:=hS'.prm (J8 X Y R (bx m tid (Ya kk N (Qgj xv p q (Nat.min c' c))))).symm
       have h8:=h.wr (id:=b) (b:= .var tid (.dt (.arr kk N) (Qgj xv p q (Nat.min c' c)))) hS2 (Snap.le.refl _) (h6 _ _ rfl) h5 (fun q hq=>by rcases List.mem_append.1 hq with h|h<;>simp[h]) (fun q hq=>by rcases List.mem_append.1 hq with h|h<;>simp[h])
       have h9:=h8.put (d:=some d) (sv:= .dt (.int .i64) ((Nat.min c' c:Nat):Int)) (fun _ _=>RV_i _ _) du.fr hE
       exact hk _ a' _ ((Ext.wr _ _ _).trans (Ext.put _ _ _)) hs ⟨ρ,D,_,R,h9⟩
     ·cases hs
    ·cases hs
  ·cases hs
 ·exact QvK hC h du hop hxs hts hu hv hs hk
theorem Qxf(hC:CxOk C ct)(h:RSx ct ρ D Lv R s a w)(du:Du ct ops i o a (some d)){t:TypeId}{x:Operand}{lo hi:Option Operand}(hop:o.op= .slice t x lo hi none){b:Nat}(hx:evS C s t x=some (.ptr b 0))(hs:(slkS C s d t b lo hi).run k=some r)
  (hk:∀s' a',Ext s s'→k s'=some r→RS ct s' a' w→Cn a' w):Op1 C.P rd ops Q i Cn a w:=by
 obtain⟨uu,e1,r1⟩:=YC hC h hx
 unfold slkS at hs
 split at hs
 ·rename_i N kk hT
  split at hs
  ·rename_i zl zh hl hh
   cases hb:(decide (0≤zl)&&(decide (zl≤zh)&&(decide (zh≤(N:Int))&&decide (zl<(N:Int)))))with
   |false=>rw[hb]at hs;cases hs
   |true=>
    rw[hb]at hs
    simp only[Qg]at hs
    obtain⟨m,h6,h7⟩:=Yn rfl r1
    cases h7
    refine Xv h (Qoq du.ho hop du.hg du.hd h.env du.lt e1 hT (Qca hC h hl) (Qca hC h hh) hb fun a' hE=>hk _ a' (Ext.put _ _ _) hs ⟨ρ,D,_,R,h.put (fun _ _=>YV rfl ⟨m,h6,rfl⟩) du.fr hE⟩)
  ·cases hs
 ·cases hs
theorem RSx.gone{id:Nat}{tid:TypeId}{m:Nat}{c:List Value}{X Y:List Blk}(h:RSx ct ρ D (X++bx m tid c::Y) R s a w)(hz:RLs ρ D (delB id s.L) (X++Y)):
  ∃D',D.le D'∧D' m=some (.cells c.toArray tid (0,0))∧RSx ct ρ D' (X++Y) R {s with L:=delB id s.L} a w:=by
 obtain⟨D',hd,hm,hS⟩:=(h.st.prm (J8 X Y R (bx m tid c))).freezeB
 refine⟨D',hd,hm,h.rb,h.dom,fun e he=>h.ver e (jK.subset he),h.nd.sublist (jK.map _),h.size,h.ds,fun t sv ht=> ?_,yj (Rho.le.refl _) hd hz,hS,ct.fr.mono hd h.fr,?_,h.ex,h.o⟩
 ·obtain⟨v,h1,h2⟩:=h.e t sv ht
  exact⟨v,h1,JL (Rho.le.refl _) hd h2⟩
 ·refine h.ini.mv (Rho.le.refl _) h.st.st hS.st fun k b2 p' hp hk=> ?_
  obtain⟨X1,q1,Y1,e1,h5,_⟩:=qJ hz hk
  refine⟨(Zu k h.nd hk).2,q1,D,h5,?_,?_⟩
  ·have:q1∈X++Y:=by rw[e1];simp
   rcases List.mem_append.1 this with h|h<;>simp[h]
  ·rw[e1];simp
theorem Qxg(hC:CxOk C ct)(h:RSx ct ρ D Lv R s a w)(du:Du ct ops i o a (some d)){t:TypeId}{x:Operand}{lo hi:Option Operand}(hop:o.op= .slice t x lo hi none){b off:Nat}(hx:evS C s t x=some (.ptr b off))(hs:(slaS C s d t b off lo hi).run k=some r)
  (hk:∀s' a',Ext s s'→k s'=some r→RS ct s' a' w→Cn a' w):Op1 C.P rd ops Q i Cn a w:=by
 obtain⟨uu,e1,r1⟩:=YC hC h hx
 unfold slaS at hs
 split at hs
 ·rename_i ver tid cv N e hlk hT
  split at hs
  ·rename_i kk N' v hsub
   cases hb:(Nat.beq N N'&&Nat.ble N 1000000)with
   |false=>rw[hb]at hs;cases hs
   | true=>
    rw[hb]at hs
    simp only[Qg]at hs
    rw[Qd]at hb
    obtain rfl:=Qc hb.1
    split at hs
    ·rename_i zl zh hl hh
     obtain⟨l,s',hz,hs',hkk⟩:=jP hs
     simp only[Qa]at hs'
     subst hs'
     obtain⟨X,Y,m,c,rfl,h2,h3,h4,h5,_⟩:=h.var hlk
     obtain⟨m',h6,h7⟩:=Yn rfl r1
     rw[h2]at h6
     cases h6
     cases h7
     obtain⟨h8,h9,_,_⟩:=Qbm hC.tb _ _ _ _ _ _ _ hsub h3
     have h9:(c.drop off).take N=Ya kk N v:=h9
     obtain⟨D',hd,hm,hR⟩:=h.gone h5
     refine Xv hR (Qdy (kk:=kk) (N:=N) (v:=v) du.ho hop du.hg du.hd h.env du.lt e1 hT (Qca hC h hl) (Qca hC h hh) hm h9 hb.2 hz fun a' A' cap' hE hc=>hk _ a' ((Ext.del h.nd b).trans (Ext.put _ _ _)) hkk ⟨ρ,D',_,R,hR.put (fun _ _=>YV rfl ⟨A',cap',rfl,hc⟩) du.fr hE⟩)
    ·cases hs
  ·cases hs
 ·cases hs
theorem rv_ok(hC:CxOk C ct){rv:RvSp T}(hV:RvOk C.P rv)(h:RSx ct ρ D Lv R s a w)(du:Du ct ops i o a (some d)){f:Operand}{xs:Array Operand}{ts:Array TypeId}(hop:o.op= .call {callee:= .value f,args:=xs,argTypes:=ts}){cs l:SV T}
  (hf:evS C s 0 f=some (.fn rv.fid cs)) (hf0:Nat.ble 1000000000 rv.fid=false) (hl:evL C s xs.toList ts.toList=some l) (hs:(rvS rv s (some d) (appL l cs)).run k=some r)
  (hk:∀s' a' w',Ext s s'→k s'=some r→RS ct s' a' w'→Cn a' w'):Op1 C.P rd ops Q i Cn a w:=by
 obtain⟨fv,e1,r1⟩:=YC hC h hf
 obtain⟨cv,r2,e2⟩:=Yn rfl r1
 unfold fnV at e2
 rw[hf0]at e2
 cases e2
 obtain⟨vs,e3,r3⟩:=QgI hC h r2 hl
 generalize appL l cs=as at hs r3
 unfold rvS at hs
 split at hs
 ·rename_i oid
  split at hs
  ·rename_i ver ty' e' l0 hlk
   split at hs
   ·rename_i l1 hcast
    obtain⟨ec,rfl⟩:=qK hcast
    cases hb:Nat.beq e' rv.e with
    |false=>rw[hb]at hs;cases hs
    |true=>
     rw[hb]at hs
     obtain rfl:=Qc hb
     simp only[Qg]at hs
     obtain⟨rid,rt,re,rfn⟩:=rv
     simp only at ec hs hV hlk hf
     cases ec
     obtain⟨ys,s',hys,hs',hkk⟩:=jP hs
     simp only[Qa]at hs'
     subst hs'
     obtain⟨v,c2,e4,⟨A0,cap0,len0,h5,e5⟩,e6⟩:=r3
     have e6:c2= []:=e6
     subst e6
     simp only[List.cons.injEq,and_true]at e5
     subst e5
     obtain⟨X,q,Y,rfl,⟨A',cap',h6,hO⟩,hz,hback⟩:=qJ h.l hlk
     rw[h5]at h6
     cases h6
     have hS:=h.st.prm (J8 X Y R q)
     have hS1:Stp ct.g ct.w0 ct.D0 ct.L0 w D ([q]++((X++Y)++R)):=hS
     have hcalls:=hV.v ct.g w D A0 cap0 l0 ys q hS1.st.fore hO hys
     have hlen:=hV.len _ _ hys
     refine QlP (all:= [.slice A0 l0.length cap0]) du.ho hop du.hg du.hd h.env du.lt e1 e3 (by simpa using e4) hV.fn hcalls fun a' v w' hR hE=> ?_
     obtain⟨D1,q3,rfl,g1,g2⟩:=hR
     have hS2:=(hS1.call g1).prm (show([q3]++((X++Y)++R)).Perm ((X++q3::Y)++R)from(J8 X Y R q3).symm)
     have hd1:D.le D1:=g1.dle
     have h8:=h.wr (id:=oid) (b:= .own ty' re ys true) hS2 hd1 (hback ρ D1 s.nx _ _ (Rho.le.refl _) hd1 ⟨A0,cap0,by rw[hlen];exact h5,g2⟩) hz (fun q hq=>by rcases List.mem_append.1 hq with h|h<;>simp[h]) (fun q hq=>by rcases List.mem_append.1 hq with h|h<;>simp[h])
     have h9:=h8.put (d:=some d) (sv:= .tup .nl) (fun _ _=>YV rfl ⟨[],rfl,rfl⟩) du.fr hE
     exact hk _ a' _ ((Ext.wr _ _ _).trans (Ext.put _ _ _)) hkk ⟨ρ,D1,_,R,h9⟩
   ·cases hs
  ·cases hs
 ·cases hs
theorem QnA{f:FuncId}{as:SV T}{dst:Option Tmp}{ou:Out T}:∀{l:List (RvSp T)},QsQ f s dst as l=some ou→∃rv∈l,rv.fid=f∧ou=rvS rv s dst as
 | [],h=>by cases h
 |rv::l,h=>by
  unfold QsQ at h
  cases hb:Nat.beq rv.fid f with
  |false=>rw[hb]at h;obtain⟨x,h1,h2⟩:=QnA h;exact⟨x,List.mem_cons_of_mem _ h1,h2⟩
  |true=>rw[hb]at h;simp only[Qg,Qa]at h;exact⟨rv,List.mem_cons_self,Qc hb,h.symm⟩
theorem Qxh(hC:CxOk C ct)(h:RSx ct ρ D Lv R s a w)(du:Du ct ops i o a (some d)){t:TypeId}{x:Operand}{lo hi:Option Operand}(hop:o.op= .slice t x lo hi none){kk:IntKind}{N:Nat}{v:Vector Int N}(hx:evS C s t x=some (.cell (.arr kk N) v))(hs:(slcS C s d t kk N v lo hi).run k=some r)
  (hk:∀s' a',Ext s s'→k s'=some r→RS ct s' a' w→Cn a' w):Op1 C.P rd ops Q i Cn a w:=by
 obtain⟨uu,e1,r1⟩:=YC hC h hx
 unfold slcS at hs
 split at hs
 ·rename_i N' e hT
  cases hb:(Nat.beq N N'&&Nat.ble N 1000000)with
  |false=>rw[hb]at hs;cases hs
  | true=>
   rw[hb]at hs
   simp only[Qg]at hs
   rw[Qd]at hb
   obtain rfl:=Qc hb.1
   split at hs
   ·rename_i zl zh hl hh
    obtain⟨l,s',hz,hs',hkk⟩:=jP hs
    simp only[Qa]at hs'
    subst hs'
    obtain⟨b,off,e2,cs,c,T0,fr,h1,h2,h3⟩:=Yn rfl r1
    cases e2
    have h1:cs=Ya kk N v:=h1
    subst h1
    have hcs:(c.toList.drop off).take N=Ya kk N v:=by
     have hl:(Ya kk N v).length=N:=by simp[Ya]
     apply List.ext_getElem?
     intro j
     rw[List.getElem?_take,List.getElem?_drop]
     split
     ·rename_i hj
      have h4:=h3 j _ (List.getElem?_eq_getElem (by rw[hl];exact hj))
      rw[Array.getElem?_toList,h4,List.getElem?_eq_getElem (by rw[hl];exact hj)]
     ·rename_i hj
      rw[List.getElem?_eq_none (by omega)]
    refine Xv h (Qdy (kk:=kk) (N:=N) (v:=v) (cs:=c.toList) du.ho hop du.hg du.hd h.env du.lt e1 hT (Qca hC h hl) (Qca hC h hh) (by simpa using h2) hcs hb.2 hz fun a' A' cap' hE hc=>hk _ a' (Ext.put _ _ _) hkk ⟨ρ,D,_,R,h.put (fun _ _=>YV rfl ⟨A',cap',rfl,hc⟩) du.fr hE⟩)
   ·cases hs
 ·cases hs
theorem Qqt{m:Int}{f:Nat→Option (SS T)}:∀(n j:Nat),ixR m f k n j=some r→∃i s',j≤i∧i<j+n∧m=((i:Nat):Int)∧f i=some s'∧k s'=some r
 |0,_,h=>by cases h
 | n+1,j,h=>by
  unfold ixR at h
  cases hb:decide (m=((j:Nat):Int))with
  |true=>
   rw[hb]at h
   simp only[Qg]at h
   split at h
   ·rename_i s' hs;exact⟨j,s',Nat.le_refl _,by omega,of_decide_eq_true hb,hs,h⟩
   ·cases h
  |false=>
   rw[hb]at h
   obtain⟨i,s',h1,h2,h3⟩:=Qqt n (j+1) h
   exact⟨i,s',by omega,by omega,h3⟩
theorem ix_ok(hC:CxOk C ct)(h:RSx ct ρ D Lv R s a w)(du:Du ct ops i o a (some d)){t:TypeId}{x ix:Operand}{ty:TypeId}(hop:o.op= .index t x ix)(hs:(sopD C s d ty (.index t x ix)).run k=some r)
  (hk:∀s' a',Ext s s'→k s'=some r→RS ct s' a' w→Cn a' w):Op1 C.P rd ops Q i Cn a w:=by
 simp only[sopD]at hs
 split at hs
 ·rename_i u kk m hu hm
  obtain⟨uu,e1,r1⟩:=YC hC h hu
  obtain⟨vv,e2,r2⟩:=YC hC h hm
  obtain rfl:=XL r2
  unfold ixS at hs
  split at hs
  ·rename_i k' N v
   split at hs
   ·rename_i N' k2 hT
    cases hb:(Nat.beq N N'&&sameKind k' k2)with
    |false=>rw[hb]at hs;cases hs
    |true=>
     rw[hb]at hs
     rw[Qd]at hb
     obtain rfl:=Qc hb.1
     obtain rfl:=YY hb.2
     simp only[Qg]at hs
     obtain⟨y,s',hy,hs',hkk⟩:=jP hs
     simp only[Qa]at hs'
     subst hs'
     obtain⟨c,h1,rfl⟩:=(show ∃c1,RX ρ D (.dt (.arr k' N) v:SV T) false c1∧uu= .agg c1.toArray from r1)
     have h1:c=Ya k' N v:=h1
     subst h1
     exact Xv h (QpO du.ho hop du.hg du.hd h.env du.lt e1 e2 hT hy fun a' hE=>hk _ a' (Ext.put _ _ _) hkk (h.slot du (RV_i _ _) hE))
   ·cases hs
  ·rename_i l
   split at hs
   ·rename_i N e es hT
    split at hs
    ·rename_i sz ag hts
     cases hb:(Nat.beq sz es&&Nat.beq (szS (.agg l)) (N*es))with
     |false=>rw[hb]at hs;cases hs
     | true=>
      rw[hb]at hs
      rw[Qd]at hb
      obtain rfl:=Qc hb.1
      simp only[Qg]at hs
      obtain⟨j,s',_,h3,h4,h5,hkk⟩:=Qqt N 0 hs
      split at h5
      ·rename_i u hu'
       simp only[Qa]at h5
       subst h5
       obtain⟨c,h1,rfl⟩:=(show ∃c1,RX ρ D (.agg l:SV T) false c1∧uu= .agg c1.toArray from r1)
       obtain⟨h6,h7,h8,_⟩:=Qdj hC.tb _ _ _ _ _ _ _ hu' (show RX ρ D l false c from h1)
       obtain⟨z,h10,h11⟩:=Qbn (cu:= []) hts h6 h7 h8
       exact Xv h (QpP j z du.ho hop du.hg du.hd h.env du.lt e1 e2 h4 hT (Ql2 (by omega)) h10 fun a' hE=>hk _ a' (Ext.put _ _ _) hkk (h.slot du h11 hE))
      ·cases h5
    ·cases hs
   ·cases hs
  ·cases hs
 ·cases hs
theorem Qxi(hC:CxOk C ct)(h:RSx ct ρ D Lv R s a w)(du:Du ct ops i o a (some d)){t:TypeId}{x:Operand}(hop:o.op= .sliceToArrayPointer t x)(hs:(s2aS C s d t (evS C s 0 x)).run k=some r)
  (hk:∀s' a',Ext s s'→k s'=some r→RS ct s' a' w→Cn a' w):Op1 C.P rd ops Q i Cn a w:=by
 unfold s2aS at hs
 split at hs
 ·rename_i v N kk hv hT
  obtain⟨vv,e1,r1⟩:=YC hC h hv
  split at hs
  ·rename_i l s1 hf
   cases hb:Nat.blt 0 N with
   |false=>rw[hb]at hs;cases hs
   |true=>
    rw[hb]at hs
    simp only[Qg]at hs
    obtain⟨hN,hkk⟩:=XB hs
    obtain⟨D',Lv',A,cap,hd,h1,rfl,hSl,hx⟩:=Qbp hC.tb hf h r1
    obtain⟨e,ii,g1,g2,g3,g4⟩:=XG hT
    exact Xv h1 (QwG (kk:=kk) du.ho hop du.hg du.hd h1.env du.lt e1 g1 hb hSl (of_decide_eq_true hN) fun a' b off hE hc=>hk _ a' (hx.trans (Ext.put _ _ _)) hkk ⟨ρ,D',Lv',R,h1.put (fun _ _=>YV rfl ⟨b,off,rfl,hc⟩) du.fr hE⟩)
  ·cases hs
 ·cases hs
theorem Qxj(hC:CxOk C ct)(h:RSx ct ρ D Lv R s a w)(du:Du ct ops i o a (some d)){t:TypeId}{x:Operand}{hi:Option Operand}(hop:o.op= .slice t x none hi none){oid:Nat}(hx:evS C s t x=some (.own oid))(hs:(prfS C s d t oid hi).run k=some r)
  (hk:∀s' a',Ext s s'→k s'=some r→RS ct s' a' w→Cn a' w):Op1 C.P rd ops Q i Cn a w:=by
 obtain⟨uu,e1,r1⟩:=YC hC h hx
 unfold prfS at hs
 split at hs
 ·rename_i ver t' e' xs e y by_ hl hT
  cases hb:(Nat.beq (szT T t') (szT T y)&&Nat.beq e e')with
  |false=>rw[hb]at hs;cases hs
  | true=>
   rw[hb]at hs
   simp only[Qg]at hs
   rw[Qd]at hb
   have hsz:=Qc hb.1
   obtain rfl:=Qc hb.2
   obtain⟨hT1,hT2,hT3⟩:=yZ hT
   have hn:(kdT T t').n=(kdT T y).n:=by rw[←QbE,←QbE];exact hsz
   split at hs
   ·rename_i zh hh
    obtain⟨m,s',hm,hs',hkk⟩:=jP hs
    simp only[Qa]at hs'
    subst hs'
    obtain⟨A,cap,len,h5,e5⟩:=Yn rfl r1
    cases e5
    obtain⟨X,q,Y,_,⟨A',cap',h6,hO⟩,hS,hback⟩:=h.del hl
    rw[h5]at h6
    cases h6
    refine Xv h (Qik (K:=kdT T t') du.ho hop du.hg du.hd h.env du.lt e1 (by rw[hn];exact hT1) (Qca hC h hh) hO hm fun a' hE hO'=> ?_)
    have h2:=hback (p:= .own A cap m.length) (b':= .own t' e m true) hS (Snap.le.refl _) ⟨A,cap,Rho.ins_at _ _ _,hO'⟩
    have h3:=h2.put (d:=some d) (sv:= .own s.nx) (fun _ _=>YV rfl ⟨A,cap,m.length,Rho.ins_at _ _ _,rfl⟩) du.fr hE
    exact hk _ a' ((Ext.del h.nd oid).trans ((Ext.nw _ _).trans (Ext.put _ _ _))) hkk ⟨_,_,_,R,h3⟩
   ·cases hs
 ·cases hs
theorem Qxk(hC:CxOk C ct)(h:RSx ct ρ D Lv R s a w)(du:Du ct ops i o a (some d)){t:TypeId}{x:Operand}(hop:o.op= .convert t t x){oid:Nat}(hx:evS C s t x=some (.own oid))(hs:(litS C s d t oid).run k=some r)
  (hk:∀s' a' w',Ext s s'→k s'=some r→RS ct s' a' w'→Cn a' w'):Op1 C.P rd ops Q i Cn a w:=by
 obtain⟨uu,e1,r1⟩:=YC hC h hx
 unfold litS at hs
 split at hs
 ·rename_i ver e xs hl
  cases hb:(s2sT C.P t&&Nat.blt 0 (List.length xs))with
  |false=>rw[hb]at hs;cases hs
  | true=>
   rw[hb]at hs
   rw[Qd]at hb
   simp only[Qg]at hs
   obtain⟨A,cap,len,h5,e5⟩:=Yn rfl r1
   cases e5
   obtain⟨X,q,Y,rfl,⟨A',cap',h6,hO⟩,hz,_⟩:=qJ h.l hl
   rw[h5]at h6
   cases h6
   have hS:=h.st.prm (J8 X Y R q)
   refine QwL du.ho hop du.hg du.hd h.env du.lt hS e1 hb.1 hO hb.2 fun a' D' w' _ hd hE hSl hS'=> ?_
   have h2:RSx ct ρ D' (X++Y) R {s with L:=delB oid s.L} a w':=by
    refine⟨h.rb,h.dom,fun e he=>h.ver e (jK.subset he),h.nd.sublist (jK.map _),h.size,h.ds,fun t sv ht=> ?_,yj (Rho.le.refl _) hd hz,hS',ct.fr.mono hd h.fr,?_,h.ex,h.o⟩
    ·obtain⟨v,h1,h2⟩:=h.e t sv ht
     exact⟨v,h1,JL (Rho.le.refl _) hd h2⟩
    ·refine h.ini.mv (Rho.le.refl _) h.st.st hS'.st fun k b2 p' hp hk=> ?_
     obtain⟨X1,q1,Y1,e1,h5,_⟩:=qJ hz hk
     refine⟨(Zu k h.nd hk).2,q1,D,h5,?_,?_⟩
     ·have:q1∈X++Y:=by rw[e1];simp
      rcases List.mem_append.1 this with h|h<;>simp[h]
     ·rw[e1];simp
   have h3:=h2.put (d:=some d) (sv:= .dt (.sl (.int .u8)) xs) (fun _ _=>YV rfl ⟨A,cap,rfl,hSl⟩) du.fr hE
   exact hk _ a' w' ((Ext.del h.nd oid).trans (Ext.put _ _ _)) hs ⟨ρ,D',_,R,h3⟩
 ·cases hs
theorem Qs8(hC:CxOk C ct)(h:RSx ct ρ D Lv R s a w)(du:Du ct ops i o a (some d)){t:TypeId}{x:Operand}(hop:o.op= .load t x){b off n fo:Nat}{m:Int}{y:Ty}(hx:evS C s 0 x=some (.eva b off m n y fo))(hs:(QsS C.P s (some d) t b off m n y fo).run k=some r)
  (hk:∀s' a',Ext s s'→k s'=some r→RS ct s' a' w→Cn a' w):Op1 C.P rd ops Q i Cn a w:=by
 obtain⟨uu,e1,r1⟩:=YC hC h hx
 obtain⟨mb,h2,h3,h4⟩:=Yn rfl r1
 cases h3
 unfold QsS at hs
 split at hs
 ·rename_i sz ag ver tid v hts hl
  split at hs
  ·rename_i u hu
   split at hs
   ·rename_i xs s1 hf
    obtain⟨z,s',hz,hs',hkk⟩:=jP hs
    split at hs'
    ·rename_i sv hsv
     simp only[Qa]at hs'
     subst hs'
     obtain⟨X,Y,mb',c,_,g1,g2,g3,_,_⟩:=h.var hl
     rw[h2]at g1
     cases g1
     obtain⟨g4,g5,_,_⟩:=Qbm hC.tb _ _ _ _ _ _ _ hu g2
     obtain⟨D1,Lv1,hd1,h1,hr,hxt⟩:=Qb7 hC.tb 60 _ _ _ _ _ _ _ _ hf h g5
     obtain⟨hlen,hrl⟩:=(show List.length (show List (den T.ty y)from xs)=n∧RL (kdT T y) D1 xs ((c.drop off).take (n*szT T y))from hr)
     obtain⟨hz0,hz1⟩:=jX hz
     obtain⟨cz,hcz,hj⟩:=hrl.at_ hz1
     obtain⟨sv',hsv2,e0⟩:=QdO hsv
     subst e0
     obtain⟨k1,k2,k3,_⟩:=Qbm hC.tb _ _ _ _ _ _ _ hsv2 (show RX ρ D1 (.dt y z:SV T) false cz from hcz)
     obtain⟨k2,k4⟩:=QgD hC.tb (y:=tyOf T C.P 20 t) 5 sv' k2
     obtain⟨zv,k5,k6⟩:=Qbn (cu:= []) hts k1 k2 (k4.trans k3)
     have hld:=QcF (P:=C.P) (w:=w) (off0:=off+m.toNat*szT T y) (off:=fo) g3 (fun j u hu=>by
      have h12:=hj j u hu
      rw[←QbE,List.getElem?_take]at h12
      split at h12
      ·rw[List.getElem?_drop]at h12
       rw[Nat.add_assoc]
       simpa using h12
      ·cases h12) k5
     refine val_ok h1 du (by simp[hop,Q5]) (v:=zv) ?_ k6 fun a' h'=>hk _ _ (hxt.trans (Ext.put _ _ _)) hkk h'
     simp[execOp,hop,h.env.eval e1,Instr.loadAt,Instr.sureAddr,hld]
    ·cases hs'
   ·cases hs
  ·cases hs
 ·cases hs
theorem Qqu (hC:CxOk C ct)(h:RSx ct ρ D Lv R s a w)(du:Du ct ops i o a none){t:TypeId}{x yo:Operand}(hop:o.op= .store t x yo){b off n fo:Nat}{m:Int}{y:Ty}{u:SV T}(hx:evS C s 0 x=some (.eva b off m n y fo))(hu:evS C s t yo=some u)(hs:(Qp1 C.P s t b off m n y fo u).run k=some r)
  (hk:∀s' a' w',Ext s s'→k s'=some r→RS ct s' a' w'→Cn a' w'):Op1 C.P rd ops Q i Cn a w:=by
 obtain⟨pv,e1,r1⟩:=YC hC h hx
 obtain⟨uv,e2,r2⟩:=YC hC h hu
 obtain⟨mb,h2,h3,hin⟩:=Yn rfl r1
 cases h3
 unfold Qp1 at hs
 split at hs
 ·rename_i sz ag ver tid v hts hl
  split at hs
  ·rename_i u0 hu0
   split at hs
   ·rename_i xs s1 hf
    split at hs
    ·rename_i z s2 hf2
     split at hs
     ·rename_i ver2 tid2 v2 hl2
      cases hb:(Nat.beq fo 0&&(Nat.beq (szT T y) sz&&(agT y==ag)))with
      |false=>rw[hb]at hs;cases hs
      | true =>
       rw[hb]at hs
       simp only[Qd,beq_iff_eq]at hb
       simp only[Qg]at hs
       obtain rfl:=Qc hb.1
       have hsz:=Qc hb.2.1
       split at hs
       ·rename_i v' hv'
        obtain⟨X,Y,mb',c,_,g1,g2,g3,_,_⟩:=h.var hl
        rw[h2]at g1
        cases g1
        obtain⟨g4,g5,_,_⟩:=Qbm hC.tb _ _ _ _ _ _ _ hu0 g2
        obtain⟨D1,Lv1,hd1,h1,hr,hxt⟩:=Qb7 hC.tb 60 _ _ _ _ _ _ _ _ hf h g5
        obtain⟨D2,Lv2,hd2,h1',hr2,hxt2⟩:=Qb7 hC.tb 60 _ _ _ _ _ _ _ _ hf2 h1 (yA (Rho.le.refl _) hd1 _ _ _ (Qbl r2))
        obtain⟨X2,Y2,mb2,c2,rfl,k1,k2,k3,kz,k5⟩:=h1'.var hl2
        rw[h2]at k1
        cases k1
        rw[g3]at k3
        simp only[Qa,Obj.cells.injEq,and_true]at k3
        obtain⟨k3,rfl⟩:=k3
        have hcc:c=c2:=by simpa using congrArg Array.toList k3
        subst hcc
        obtain⟨hlen,hrl⟩:=(show List.length (show List (den T.ty y)from xs)=n∧RL (kdT T y) D1 xs ((c.drop off).take (n*szT T y))from hr)
        obtain⟨m0,m1,m2⟩:=ZX hin
        have hzl:(Q4 uv).length=szT T y:=by rw[QbE];exact(kdT T y).len _ _ _ hr2
        have hset:=(hrl.mono hd2).set (m:=m.toNat) (x:=z) (by rw[hlen];exact m2) hr2
        rw[←QbE]at hset
        have hm1:(m.toNat+1)*szT T y≤n*szT T y:=Nat.mul_le_mul_right _ m2
        rw[Nat.succ_mul]at hm1
        have hdt:((c.drop off).take (n*szT T y)).length=n*szT T y:=by simp;omega
        have hRX:RX ρ D2 (.dt (.vec n y) (List.set (show List (den T.ty y)from xs) m.toNat z):SV T) false (((c.drop off).take (n*szT T y)).take (m.toNat*szT T y)++Q4 uv++((c.drop off).take (n*szT T y)).drop (m.toNat*szT T y+(Q4 uv).length)):=⟨by rw[List.length_set];exact hlen,hset⟩
        obtain⟨j1,j2⟩:=QgC hC.tb _ _ _ _ _ _ _ _ _ hv' k2 hRX (by simp[hzl];omega)
        obtain⟨t1,t2⟩:=QfU hts
        have hone:∀z∈Q4 uv,z.oneCell'=true:=(kdT T y).one _ _ _ hr2
        have hce:setCells c (off+m.toNat*szT T y) (Q4 uv)=setCells c off (((c.drop off).take (n*szT T y)).take (m.toNat*szT T y)++Q4 uv++((c.drop off).take (n*szT T y)).drop (m.toNat*szT T y+(Q4 uv).length)):=by
         unfold setCells
         have hL:(((c.drop off).take (n*szT T y)).take (m.toNat*szT T y)++Q4 uv++((c.drop off).take (n*szT T y)).drop (m.toNat*szT T y+(Q4 uv).length)).length=n*szT T y:=by simp[hzl];omega
         rw[hL]
         apply List.ext_getElem?
         intro j
         simp only[List.append_assoc,List.getElem?_append,List.length_take,List.getElem?_take,List.getElem?_drop,List.length_drop,List.length_append,hzl]
         have q1:min (off+m.toNat*szT T y) c.length=off+m.toNat*szT T y:=by omega
         have q2:min off c.length=off:=by omega
         have q3:min (m.toNat*szT T y) (min (n*szT T y) (c.length-off))=m.toNat*szT T y:=by omega
         have q4:min (n*szT T y) (c.length-off)=n*szT T y:=by omega
         rw[q1,q2,q3,q4]
         by_cases c1:j<off
         ·simp[c1,show j<off+m.toNat*szT T y by omega]
         ·by_cases c2:j<off+m.toNat*szT T y
          ·have c3:j-off<m.toNat*szT T y:=by omega
           simp only[c1,c2,c3,if_true,if_false]
           rw[if_pos (by omega),show off+(j-off)=j by omega]
          ·have c3: ¬j-off<m.toNat*szT T y:=by omega
           simp only[c1,c2,c3,if_false]
           by_cases c4:j-(off+m.toNat*szT T y)<szT T y
           ·rw[if_pos c4,if_pos (by omega)]
            congr 1;omega
           ·rw[if_neg c4]
            by_cases c5:j<off+n*szT T y
            ·rw[if_neg (by omega),if_pos (by omega),if_pos (by omega)]
             congr 1;omega
            ·rw[if_neg (by omega),if_neg (by omega)]
             congr 1;omega
        have hfit:(off+m.toNat*szT T y)+(Q4 uv).length≤c.length:=by omega
        refine Qf8 (w':=w.setRow mb (setCells c (off+m.toNat*szT T y) (Q4 uv)).toArray) h1'.env du.ho du.hg (by rw[du.hd];exact du.ok) (by simp[hop,Q5]) ?_ fun a' hE=> ?_
        ·simp[execOp,hop,h.env.eval e1,h.env.eval e2,Instr.storeAt,Instr.sureAddr,Qpy g3 (by rw[t1,←hsz,hzl]) t2 (Qfs hfit) (List.all_eq_true.2 hone)]
        ·rw[du.hd]at hE
         have h8:=RSx.setv h1' g3 kz (k5 v' _ j2)
         rw[←hce]at h8
         have h9:=h8.put (d:=none) (sv:= .nl) (v:=undef) (fun _ e=>by cases e) du.fr hE
         exact hk _ a' _ (hxt.trans (hxt2.trans (Ext.wr _ _ _))) hs ⟨ρ,D2,_,R,h9⟩
       ·cases hs
     ·cases hs
    ·cases hs
   ·cases hs
  ·cases hs
 ·cases hs
end
end Go.Sep
