/-
 Symbolic execution: states where ways meet.
-/
import Derived.Test.YtomndohdnfebgaaGreatDoorSxZ
set_option linter.unusedVariables false
set_option linter.unusedSimpArgs false
namespace Go.Sep
section
variable {T:Tb}{C:Cx T}{ct:Ct}{ρ:Rho}{D:Snap}{Lv R:List Blk}{s:SS T}{a:Act}{w:World}
variable {rd:Option Nat}{ops:Array Oper}{Q:Exit→Act→World→Prop}{i:Nat}{o:Oper}{d:Tmp}{Cn:Act→World→Prop}{α:Type}{k:SS T→Option α}{r:α}
theorem QfW{f:FuncId}{as:SV T}{dst:Option Tmp}:∀{l:List (FSp T)},(Qos f s dst as l).run k=some r→∃sp ou,sp∈l∧sp.fid=f∧QpZ sp s dst as=some ou∧ou.run k=some r
 | [],h=>by cases h
 | sp::l,h=>by
  unfold Qos at h
  cases hb:Nat.beq sp.fid f with
  |false=>
   rw[hb]at h
   obtain⟨sp',ou,h1,h2⟩:=QfW h
   exact⟨sp',ou,List.mem_cons_of_mem _ h1,h2⟩
  | true=>
   rw[hb]at h
   simp only[Qg]at h
   split at h
   ·rename_i ou ho
    exact⟨sp,ou,List.mem_cons_self,Qc hb,ho,h⟩
   ·obtain⟨sp',ou,h1,h2⟩:=QfW h
    exact⟨sp',ou,List.mem_cons_of_mem _ h1,h2⟩
theorem QvN{l2:SV T}{v2:List Value}(h2:RX ρ D l2 true v2):∀{l1:SV T} {v1:List Value},isL l1=true→RX ρ D l1 true v1→RX ρ D (appL l1 l2) true (v1++v2):=by
 intro l1
 induction l1 with
 |nl=>intro v1 _ h;have h:v1= []:=h;subst h;exact h2
 |cs h t _ ih=>
  rintro v1 hl ⟨v,c2,rfl,h3,h4⟩
  exact⟨v,c2++v2,rfl,h3,ih hl h4⟩
 |_=>intro v1 hl;cases hl
structure CxSp(C:Cx T)(ct:Ct):Prop extends CxOk C ct where
 sp:∀sp∈C.sp,VOk C.P C.G sp
 n:C.n=ct.n
 rv:∀x∈C.rv,RvOk C.P x
 mp:∀f g,lookA C.mps f=some g→MpOk C.P f g
def YOk(C:Cx T)(ct:Ct):Prop:=∀Y,C.Y=some Y→∀{α:Type} {ops:Array Oper} {Q:Exit→Act→World→Prop} {i:Nat} {o:Oper} {d:Tmp} {Cn:Act→World→Prop} {s:SS T} {ρ:Rho} {D:Snap} {Lv R:List Blk} {a:Act} {w:World} {kk:Bool→SS T→Option α} {r:α} {fv:Operand} {xs:Array Operand} {ts:Array TypeId} {id:Nat} {as:SV T},
 RSx ct ρ D Lv R s a w→Du ct ops i o a (some d)→o.op= .call {callee:= .value fv,args:=xs,argTypes:=ts}→evS C s 0 fv=some (.yld id)→evL C s xs.toList ts.toList=some as→Y α id as s kk=some r→
 (∀b s' a' w',s'.E=s.E→s.nx≤s'.nx→(∀id v sb,lookA s'.L id=some (v,sb)→v<s.nx→lookA s.L id=some (v,sb))→kk b s'=some r→RS ct (s'.put (some d) (.kb b)) a' w'→Cn a' w')→Op1 C.P none ops Q i Cn a w
structure QcW(C:Cx T)(ct:Ct):Prop extends CxSp C ct where
 fr:∀x,¬ct.fr.t x
 yo:YOk C ct
 rg:C.rg=true→ct.mks=true∧∀m D a R,ct.fr.p m D a R
theorem QnB (hC : CxSp C ct) (hfr:∀x,o.dst=some x→ ¬ct.fr.t x)(h:RSx ct ρ D Lv R s a w)(ho:ops[i]?=some o)(hg:guardOf ops (EvA a) o=some true)(hd:JI ct.n o.dst=true)(hs:(sop C s o).run k=some r)
  (hk:∀s' a' w',Ext s s'→k s'=some r→RS ct s' a' w'→Cn a' w'):Op1 C.P rd ops Q i Cn a w:=by
 have hC0:=hC.toCxOk
 have hk1:∀s' a',Ext s s'→k s'=some r→RS ct s' a' w→Cn a' w:=fun s' a'=>hk s' a' w
 have hdu:∀{d},o.dst=some d→Du ct ops i o a (some d):=fun e=>⟨ho,hg,e,by rw[←e];exact hd,fun x hx=>hfr x (e.trans hx)⟩
 have hdn:o.dst=none→Du ct ops i o a none:=fun e=>⟨ho,hg,e,rfl,fun x hx=>by cases hx⟩
 unfold sop at hs
 cases hop:o.op with
 |panic x=>rw[hop]at hs;cases hs
 | store t x v=>
  rw[hop]at hs
  simp only at hs
  split at hs
  ·rename_i b off i' n y fo u hd0 hp hu
   exact Qqu hC0 h (hdn hd0) hop hp hu hs hk
  ·rename_i p u _ hd0 hp hu
   exact Qs0 hC0 h (hdn hd0) hop hp hu hs hk
  ·cases hs
 | call c=>
  rw[hop]at hs
  simp only at hs
  split at hs
  ·rename_i d hd0
   have du:=hdu hd0
   obtain⟨ce,xs,ts⟩:=c
   cases ce with
   |invoke x m=>simp only[sopD]at hs;cases hs
   | value f=>
    simp only[sopD]at hs
    split at hs
    ·rename_i f' cs l hf hl
     obtain⟨fv,e1,r1⟩:=YC hC0 h hf
     obtain⟨cv,r2,e2⟩:=Yn rfl r1
     simp only[List.cons.injEq,and_true]at e2
     unfold fnV at e2
     cases hb:Nat.ble 1000000000 f' with
     | true=>
      rw[hb]at hs e2
      simp only[Qg]at hs e2
      subst e2
      cases hL:isL cs with
      |false=>rw[hL]at hs;cases hs
      |true=>
       rw[hL]at hs
       simp only[Qg]at hs
       obtain⟨sp,ou,h1,h2,h3,h4⟩:=QfW hs
       rw[←h2]at e1
       obtain⟨vs,e3,r3⟩:=Qio hC0 h hl
       exact Ql8 hC0 (hC.sp sp h1) h du hop e1 e3 (by simpa using QvN r3 hL r2) h3 h4 hk
     | false=>
      rw[hb]at hs e2
      simp only[Qh]at hs e2
      subst e2
      split at hs
      ·rename_i mg hmg
       obtain⟨vs,e3,r3⟩:=QgI hC0 h r2 hl
       exact mp_ok (hC.mp _ _ hmg) h du hop e1 e3 r3 hs hk
      ·split at hs
       ·rename_i ou hou
        obtain⟨rv,h1,h2,h3⟩:=QnA hou
        subst h2 h3
        exact rv_ok hC0 (hC.rv rv h1) h du hop hf hb hl hs hk
       ·obtain⟨sp,ou,h1,h2,h3,h4⟩:=QfW hs
        subst h2
        obtain⟨vs,e3,r3⟩:=QgI hC0 h r2 hl
        exact Ql8 hC0 (hC.sp sp h1) h du hop e1 e3 (by simpa using r3) h3 h4 hk
    ·cases hs
    ·cases hs
   | builtin b=>
    simp only[sopD]at hs
    unfold biS at hs
    split at hs
    ·rename_i x t hxs hts
     split at hs
     ·rename_i u hu
      exact Qw7 hC0 h du hop hxs hts hu hs hk1
     ·cases hs
    ·rename_i x y hxs
     split at hs
     ·rename_i k1 m k2 n hx hy
      exact Qw8 hC0 h du hop hxs hx hy hs hk1
     ·cases hs
    ·rename_i x y hxs
     split at hs
     ·rename_i k1 m k2 n hx hy
      exact Qw9 hC0 h du hop hxs hx hy hs hk1
     ·cases hs
    ·rename_i x y t tl hxs hts
     split at hs
     ·rename_i u v hu hv
      exact Qs7 hC0 h du hop hxs hts hu hv hs hk
     ·cases hs
    ·rename_i x y t t' hxs hts
     cases hb:Nat.beq t t' with
     |false=>rw[hb]at hs;cases hs
     | true=>
      rw[hb]at hs
      obtain rfl:=Qc hb
      simp only[Qg]at hs
      split at hs
      ·rename_i u v hu hv
       exact Qql hC0 h du hop hxs hts hu hv hs hk
      ·cases hs
    ·cases hs
  ·cases hs
 | move x => rw[hop]at hs;simp only at hs;split at hs
             · rename_i d hd0;exact Qqc hC0 h (hdu hd0) (.inl hop) hs hk1
             · cases hs
 | assign x => rw[hop]at hs;simp only at hs;split at hs
               · rename_i d hd0;exact Qqc hC0 h (hdu hd0) (.inr hop) hs hk1
               · cases hs
 | pick c x y => rw[hop]at hs;simp only at hs;split at hs
                 · rename_i d hd0;exact QvC hC0 h (hdu hd0) hop hs hk1
                 · cases hs
 | alloc t => rw[hop]at hs;simp only at hs;split at hs
              · rename_i d hd0;exact QsY h (hdu hd0) hop hs hk
              · cases hs
 | box t x => rw[hop]at hs;simp only at hs;split at hs
              · rename_i d hd0;exact Qxa hC0 h (hdu hd0) hop hs hk
              · cases hs
 | build t ps => rw[hop]at hs;simp only at hs;split at hs
                 · rename_i d hd0;exact Qs2 hC0 h (hdu hd0) hop hs hk1
                 · cases hs
 | buildSlice t n ps => rw[hop]at hs;simp only at hs;split at hs
                        · rename_i d hd0;simp only[sopD]at hs;exact Qxd hC0 h (hdu hd0) hop hs hk
                        · cases hs
 | load t x => rw[hop]at hs;simp only at hs;split at hs
               · rename_i d hd0;exact QvE hC0 h (hdu hd0) hop hs (fun b off i' n y fo hp hs'=>Qs8 hC0 h (hdu hd0) hop hp hs' hk1) hk1
               · cases hs
 | nilCheck x => rw[hop]at hs;simp only at hs;split at hs
                 · rename_i d hd0;exact Qw6 hC0 h (hdu hd0) hop hs hk1
                 · cases hs
 | binOp op t x y t' => rw[hop]at hs;simp only at hs;split at hs
                        · rename_i d hd0
                          simp only[sopD]at hs
                          cases hb:Qnj y with
                          |true=>rw[hb]at hs;exact QvM hC0 h (hdu hd0) hop hb hs hk1
                          |false=>rw[hb]at hs;exact Qw3 hC0 h (hdu hd0) hop hs hk1
                        · cases hs
 | makeInterface t x => rw[hop]at hs;simp only at hs;split at hs
                        · rename_i d hd0;simp only[sopD]at hs;exact mi_ok hC0 h (hdu hd0) hop hs hk1
                        · cases hs
 | typeAssert x xt t ok => rw[hop]at hs;simp only at hs;split at hs
                           · rename_i d hd0;simp only[sopD]at hs;exact ta_ok hC0 h (hdu hd0) hop hs hk1
                           · cases hs
 | lookup t x ix ok => rw[hop]at hs;simp only at hs;split at hs
                       · rename_i d hd0;simp only[sopD]at hs;exact lk_ok hC0 h (hdu hd0) hop hs hk1
                       · cases hs
 | unOp op t x => rw[hop]at hs;simp only at hs;split at hs
                  · rename_i d hd0;exact un_ok hC0 h (hdu hd0) hop hs hk1
                  · cases hs
 | convert t0 t x => rw[hop]at hs;simp only at hs;split at hs
                     · rename_i d hd0
                       simp only[sopD]at hs
                       unfold cvD at hs
                       split at hs
                       · rename_i oid hv
                         cases hb:Nat.beq t0 t with
                         | true=>
                           rw[hb]at hs
                           obtain rfl:=Qc hb
                           exact Qxk hC0 h (hdu hd0) hop hv hs hk
                         |false=>rw[hb]at hs;exact Qxc hC0 h (hdu hd0) hop hv hs hk1
                       · rename_i v _ hv;exact Qxc hC0 h (hdu hd0) hop hv hs hk1
                       · cases hs
                     · cases hs
 | makeFunc f fs cs => rw[hop]at hs;simp only at hs;split at hs
                       · rename_i d hd0;exact Qw5 hC0 h (hdu hd0) hop hs hk1
                       · cases hs
 | slice t x lo hi mx => rw[hop]at hs;simp only at hs;split at hs
                         · rename_i d hd0
                           cases mx with
                           | none=>
                             simp only[sopD]at hs
                             unfold sldS at hs
                             split at hs
                             · rename_i b off hv
                               cases hb:(Nat.beq off 0&&cstB lo hi)with
                               | true=>
                                 rw[hb]at hs
                                 rw[Qd]at hb
                                 obtain rfl:=Qc hb.1
                                 exact Qxf hC0 h (hdu hd0) hop hv hs hk1
                               | false=>
                                 rw[hb]at hs
                                 exact Qxg hC0 h (hdu hd0) hop hv hs hk1
                             · rename_i kk N v hv;exact Qxh hC0 h (hdu hd0) hop hv hs hk1
                             · rename_i oid hv
                               cases hb:(QwO s oid&&lo.isNone)with
                               | true=>
                                 rw[hb]at hs
                                 rw[Qd]at hb
                                 obtain rfl:lo=none:=by simpa using hb.2
                                 exact Qxj hC0 h (hdu hd0) hop hv hs hk1
                               |false=>rw[hb]at hs;exact Qnw hC0 h (hdu hd0) hop hv hs hk1
                             · rename_i v _ _ _ hv;exact Qnw hC0 h (hdu hd0) hop hv hs hk1
                             · cases hs
                           | some m=>cases lo with
                             |some _=>cases hi<;>simp only[sopD]at hs<;>cases hs
                             | none=>cases hi with
                               |none=>simp only[sopD]at hs;cases hs
                               |some _=>simp only[sopD]at hs;exact Qxb hC0 h (hdu hd0) hop hs hk1
                         · cases hs
 | sliceToArrayPointer t x => rw[hop]at hs;simp only at hs;split at hs
                              · rename_i d hd0;simp only[sopD]at hs;exact Qxi hC0 h (hdu hd0) hop hs hk1
                              · cases hs
 | index t x ix => rw[hop]at hs;simp only at hs;split at hs
                   · rename_i d hd0;exact ix_ok hC0 h (hdu hd0) hop hs hk1
                   · cases hs
 | makeSlice t x y => rw[hop]at hs;simp only at hs;split at hs
                      · rename_i d hd0;simp only[sopD]at hs;exact mk_ok hC0 h (hdu hd0) hop hs hk
                      · cases hs
 | fieldAddr t x m => rw[hop]at hs;simp only at hs;split at hs
                      · rename_i d hd0;exact QvF hC0 h (hdu hd0) hop hs hk1
                      · cases hs
 | field t x m => rw[hop]at hs;simp only at hs;split at hs
                  · rename_i d hd0;exact QsZ hC0 h (hdu hd0) hop hs hk1
                  · cases hs
 | indexAddr t x ix => rw[hop]at hs;simp only at hs;split at hs
                       · rename_i d hd0;exact Qs1 hC0 h (hdu hd0) hop hs hk1
                       · cases hs
 | extract x n => rw[hop]at hs;simp only at hs;split at hs
                  · rename_i d hd0;exact Qw4 hC0 h (hdu hd0) hop hs hk1
                  · cases hs
 |_=>rw[hop]at hs;simp only[sopD]at hs;split at hs<;>cases hs
theorem RSx.know{t:Nat}{b b':Bool}(h:RSx ct ρ D Lv R s a w)(ht:lookA s.E t=some (.dt .bool b))(hb:b=b'):RSx ct ρ D Lv R (s.know t b') a w:=by
 subst hb
 refine⟨h.rb,h.dom,h.ver,h.nd,h.size,h.ds,fun x sv hx=> ?_,h.l,h.st,h.fr,h.ini,h.ex,h.o⟩
 simp only[SS.know,SS.put,lookA]at hx
 cases hb:Nat.beq t x with
 |true=>
  rw[hb]at hx
  have:=Qc hb
  subst this
  simp only[Qg,Qa]at hx
  subst hx
  obtain⟨v,h1,h2⟩:=h.e _ _ ht
  exact⟨v,h1,h2⟩
 |false=>rw[hb]at hx;exact h.e x sv hx
theorem Ext.know(s:SS T)(t:Nat)(b:Bool):Ext s (s.know t b):=Ext.put _ _ _
theorem QkE(h:RSx ct ρ D Lv R s a w)(o:Oper):match Qnk ops s.E o with
  | .run=>guardOf ops (EvA a) o=some true
  | .skip=>guardOf ops (EvA a) o=some false
  | .split t b wt=>lookA s.E t=some (.dt .bool b)∧guardOf ops (EvA a) o=some (b==wt)
  | .no=>True:=by
 unfold Qnk guardOf
 cases o.guard with
 |none=>trivial
 | some p=>
  obtain⟨j,want⟩:=p
  simp only
  cases (ops[j]?).bind (·.dst)with
  |none=>trivial
  | some t=>
   simp only
   cases hl:lookA s.E t with
   |none=>trivial
   | some sv=>
    obtain⟨v,h1,h2⟩:=h.at_ hl
    rw[h1]
    cases sv with
    |kb b=>
     obtain rfl:=Ql4 h2
     simp only
     cases hb:(b==want)with
     |true=>rfl
     |false=>rfl
    |dt ty x=>
     cases ty with
     |bool=>obtain rfl:=Qi1 h2;exact⟨hl,rfl⟩
     |_=>trivial
    | raw u=>
     cases u with
     |tuple vs=>
      have h2: [v]= [Value.tuple vs]:=h2
      cases h2
      rfl
     |_=>trivial
    |_=>trivial
theorem QnC(hC:CxSp C ct)(hfr:∀x,o.dst=some x→ ¬ct.fr.t x)(h:RSx ct ρ D Lv R s a w)(ho:ops[i]?=some o)(hg:guardOf ops (EvA a) o=some true)(hd:JI ct.n o.dst=true)(hs:exO C o s k=some r)
  (hk:∀s' a' w',Ext s s'→k s'=some r→RS ct s' a' w'→Cn a' w'):Op1 C.P rd ops Q i Cn a w:=by
 unfold exO at hs
 split at hs
 ·rename_i t b hp
  have ht:lookA s.E t=some (.dt .bool b):=by
   unfold QwP at hp
   split at hp
   ·split at hp
    ·rename_i hl
     simp only[Qa,Qe]at hp
     obtain⟨rfl,rfl⟩:=hp
     exact hl
    ·cases hp
   ·cases hp
  cases b with
  |true=>exact QnB hC hfr (h.know ht rfl) ho hg hd hs fun s' a' w' hx=>hk s' a' w' ((Ext.know _ _ _).trans hx)
  |false=>exact QnB hC hfr (h.know ht rfl) ho hg hd hs fun s' a' w' hx=>hk s' a' w' ((Ext.know _ _ _).trans hx)
 ·exact QnB hC hfr h ho hg hd hs hk
theorem Qet(hfr:∀x,o.dst=some x→ ¬ct.fr.t x)(h:RSx ct ρ D Lv R s a w)(ho:ops[i]?=some o)(hg:guardOf ops (EvA a) o=some false)(hd:JI ct.n o.dst=true)
  (hk:∀a',RS ct (s.put o.dst (.raw undef)) a' w→Cn a' w):Op1 C.P rd ops Q i Cn a w:=
 Qpt h.env ho hg hd fun a' hE=>hk a' ⟨ρ,D,Lv,R,h.put (fun _ _=>rfl) hfr hE⟩
theorem Ql9{f:FuncId}{as:SV T}{dst:Option Tmp}{q:POut T}:∀{l:List (FSp T)},tryP f s dst as l=some q→∃sp,sp∈l∧sp.fid=f∧QsP sp s dst as=some q
 | [],h=>by cases h
 | sp::l,h=>by
  unfold tryP at h
  cases hb:Nat.beq sp.fid f with
  |false=>
   rw[hb]at h
   obtain⟨sp',h1,h2⟩:=Ql9 h
   exact⟨sp',List.mem_cons_of_mem _ h1,h2⟩
  | true=>
   rw[hb]at h
   simp only[Qg]at h
   split at h
   ·rename_i ou ho
    simp only[Qa]at h
    subst h
    exact⟨sp,List.mem_cons_self,Qc hb,ho⟩
   ·obtain⟨sp',h1,h2⟩:=Ql9 h
    exact⟨sp',List.mem_cons_of_mem _ h1,h2⟩
theorem Qma{kp:TypeId×Bool→Int→SS T→Option α}{q:POut T}(hC:CxSp C ct)(hfr:∀x,o.dst=some x→ ¬ct.fr.t x)(h:RSx ct ρ D Lv R s a w)(ho:ops[i]?=some o)(hg:guardOf ops (EvA a) o=some true)(hd:JI ct.n o.dst=true)(hq:panS C s o=some q)(hs:q.run kp k=some r)
  (hk:∀s' a' w',Ext s s'→k s'=some r→RS ct s' a' w'→Cn a' w')
  (hp:∀x e s' w',Ext s s'→kp x e s'=some r→RS ct s' a w'→Q (.panic [{v:=pvV x e,recovered:=false}]) a w'):Op1 C.P rd ops Q i Cn a w:=by
 unfold panS at hq
 split at hq
 ·rename_i d f xs ts hd0 hop
  split at hq
  ·rename_i f' cs l hf hl
   cases hb:Nat.ble 1000000000 f' with
   |true=>rw[hb]at hq;cases hq
   |false=>
    rw[hb]at hq
    simp only[Qh]at hq
    obtain⟨sp,h1,h2,h3⟩:=Ql9 hq
    obtain⟨fv,e1,r1⟩:=YC hC.toCxOk h hf
    obtain⟨cv,r2,e2⟩:=Yn rfl r1
    simp only[List.cons.injEq,and_true]at e2
    unfold fnV at e2
    rw[hb]at e2
    simp only[Qh]at e2
    subst e2 h2
    obtain⟨vs,e3,r3⟩:=QgI hC.toCxOk h r2 hl
    exact Qs5 hC.toCxOk (hC.sp sp h1) h ⟨ho,hg,hd0,by rw[←hd0];exact hd,fun x hx=>hfr x (hd0.trans hx)⟩ hop e1 e3 (by simpa using r3) h3 hs hk hp
  ·cases hq
 ·rename_i x hd0 hop
  split at hq
  ·rename_i t cs hx
   obtain⟨v,e1,r1⟩:=YC hC.toCxOk h hx
   have r1: [v]= [Value.iface t (.agg cs)]:=Yn rfl r1
   simp only[List.cons.injEq,and_true]at r1
   subst r1
   split at hq
   ·rename_i hcs
    simp only[Qa]at hq
    subst hq
    have e:Value.iface t (.agg cs)=pvV (t,false) 0:=by
     have:cs= #[]:=by apply Array.ext';exact hcs
     rw[this];rfl
    rw[e]at e1
    exact QuL ho hop hg h.env e1 (hp (t,false) 0 s w (Ext.refl _) hs ⟨ρ,D,Lv,R,h⟩)
   ·rename_i e' hcs
    simp only[Qa]at hq
    subst hq
    have e:Value.iface t (.agg cs)=pvV (t,true) e':=by
     have:cs= #[.int .i64 e']:=by apply Array.ext';exact hcs
     rw[this];rfl
    rw[e]at e1
    exact QuL ho hop hg h.env e1 (hp (t,true) e' s w (Ext.refl _) hs ⟨ρ,D,Lv,R,h⟩)
   ·cases hq
  ·cases hq
 ·cases hq
theorem QnD{kp:TypeId×Bool→Int→SS T→Option α}(hC:CxSp C ct)(hY:YOk C ct)(hrd:rd=none∨C.Y=none∧C.rg=false)(hfr:∀x,o.dst=some x→ ¬ct.fr.t x)(h:RSx ct ρ D Lv R s a w)(ho:ops[i]?=some o)(hg:guardOf ops (EvA a) o=some true)(hd:JI ct.n o.dst=true)(hs:exP C o s kp k=some r)
  (hk:∀s' a' w',Ext s s'→k s'=some r→RS ct s' a' w'→Cn a' w')
  (hp:∀x e s' w',Ext s s'→kp x e s'=some r→RS ct s' a w'→Q (.panic [{v:=pvV x e,recovered:=false}]) a w'):Op1 C.P rd ops Q i Cn a w:=by
 unfold exP at hs
 split at hs
 ·rename_i Y d id l hY1 hy
  have hrd:rd=none:=by
   rcases hrd with h|h
   ·exact h
   ·rw[hY1]at h;cases h.1
  subst hrd
  unfold yldS at hy
  split at hy
  ·rename_i d' f xs ts hd0 hop
   split at hy
   ·rename_i id' l' hf hl
    simp only[Qa,Qe]at hy
    obtain⟨rfl,rfl,rfl⟩:=hy
    refine hY _ hY1 h ⟨ho,hg,hd0,by rw[←hd0];exact hd,fun x hx=>hfr x (hd0.trans hx)⟩ hop hf hl hs fun b s' a' w' g1 g2 g3 g4 g5=>hk (s'.put (some d') (.kb b)) a' w' ⟨⟨[(d',.kb b)],by show(d',SV.kb b)::s'.E=_;rw[g1];rfl⟩,g2,g3⟩ g4 g5
   ·cases hy
  ·cases hy
 split at hs
 ·rename_i q hq
  exact Qma hC hfr h ho hg hd hq hs hk hp
 ·exact QnC hC hfr h ho hg hd hs hk
theorem Qqx(hC:QcW C ct)(hrd:rd=none∨C.Y=none∧C.rg=false){kp:TypeId×Bool→Int→SS T→Option α}:∀(m i:Nat) (s:SS T) (a:Act) (w:World),opsS C ops kp k m i s=some r→RS ct s a w→i+m=ops.size→
  (∀s' a' w',Ext s s'→k s'=some r→RS ct s' a' w'→Q .normal a' w')→
  (∀x e s' a' w',Ext s s'→kp x e s'=some r→RS ct s' a' w'→Q (.panic [{v:=pvV x e,recovered:=false}]) a' w')→At C.P rd ops Q i a w
 |0,i,s,a,w,hs,h,hi,hk,hp=>at_end (Qfs (by omega)) (hk s a w (Ext.refl _) hs h)
 | m +1,i,s,a,w,hs,h,hi,hk,hp=>by
  obtain⟨ρ,D,Lv,R,h⟩:=h
  unfold opsS at hs
  split at hs
  ·cases hs
  ·rename_i o ho
   cases hd:JI C.n o.dst with
   |false=>rw[hd]at hs;cases hs
   | true=>
    rw[hd]at hs
    rw[hC.n]at hd
    simp only[Qg]at hs
    have hlt:Nat.blt i ops.size=true:=Ql2 (by omega)
    have next:∀{s1:SS T},Ext s s1→∀s' a' w',Ext s1 s'→opsS C ops kp k m (i+1) s'=some r→RS ct s' a' w'→At C.P rd ops Q (i+1) a' w':=fun hx s' a' w' hx' hs' h'=>
     Qqx hC hrd m (i+1) s' a' w' hs' h' (by omega) (fun s2 a2 w2 hx2=>hk s2 a2 w2 ((hx.trans hx').trans hx2)) fun x e s2 a2 w2 hx2=>hp x e s2 a2 w2 ((hx.trans hx').trans hx2)
    have pan:∀{s1:SS T},Ext s s1→∀x e s' w',Ext s1 s'→kp x e s'=some r→RS ct s' a w'→Q (.panic [{v:=pvV x e,recovered:=false}]) a w':=fun hx x e s' w' hx'=>hp x e s' a w' (hx.trans hx')
    have hgd:=QkE (ops:=ops) h o
    split at hs
    ·rename_i hgs
     rw[hgs]at hgd
     exact JY (QnD hC.toCxSp hC.yo hrd (fun x _=>hC.fr x) h ho hgd hd hs (next (Ext.refl _)) (pan (Ext.refl _))) hlt
    ·rename_i hgs
     rw[hgs]at hgd
     exact JY (Qet (fun x _=>hC.fr x) h ho hgd hd fun a' h'=>next (Ext.refl _) _ a' w (Ext.put _ _ _) hs h') hlt
    ·rename_i t b wt hgs
     rw[hgs]at hgd
     obtain⟨hl,hgd⟩:=hgd
     cases b with
     |true=>
      simp only[Qg]at hs
      have h1:=h.know hl rfl
      cases wt with
      |true=>exact JY (QnD hC.toCxSp hC.yo hrd (fun x _=>hC.fr x) h1 ho hgd hd hs (next (Ext.know _ _ _)) (pan (Ext.know _ _ _))) hlt
      |false=>exact JY (Qet (fun x _=>hC.fr x) h1 ho hgd hd fun a' h'=>next (Ext.know _ _ _) _ a' w (Ext.put _ _ _) hs h') hlt
     |false=>
      simp only[Qh]at hs
      have h1:=h.know hl rfl
      cases wt with
      |true=>exact JY (Qet (fun x _=>hC.fr x) h1 ho hgd hd fun a' h'=>next (Ext.know _ _ _) _ a' w (Ext.put _ _ _) hs h') hlt
      |false=>exact JY (QnD hC.toCxSp hC.yo hrd (fun x _=>hC.fr x) h1 ho hgd hd hs (next (Ext.know _ _ _)) (pan (Ext.know _ _ _))) hlt
    ·cases hs
end
section
variable {T:Tb}{C:Cx T}{ct:Ct}{ρ:Rho}{D:Snap}{Lv R:List Blk}{s:SS T}{a:Act}{w:World}
structure XE(m:Nat)(s s':SS T):Prop where
 e:∀t,m.testBit t=false→∀sv,lookA s.E t=some sv→∃sv',lookA s'.E t=some sv'∧∀ρ D v,RV ρ D sv' v→RV ρ D sv v
 nx:s.nx≤s'.nx
 l:∀id v sb,lookA s'.L id=some (v,sb)→v<s.nx→lookA s.L id=some (v,sb)
theorem XE.refl(m:Nat)(s:SS T):XE m s s:=⟨fun _ _ sv h=>⟨sv,h,fun _ _ _ h=>h⟩,Nat.le_refl _,fun _ _ _ h _=>h⟩
theorem XE.trans{m m1 m2:Nat}{s s1 s2:SS T}(h:XE m1 s s1)(h':XE m2 s1 s2)(hm:∀t,m.testBit t=false→m1.testBit t=false∧m2.testBit t=false):XE m s s2:=
 ⟨fun t ht sv hl=>by
  obtain⟨sv1,h1,h2⟩:=h.e t (hm t ht).1 sv hl
  obtain⟨sv2,h3,h4⟩:=h'.e t (hm t ht).2 sv1 h1
  exact⟨sv2,h3,fun ρ D v hv=>h2 _ _ _ (h4 _ _ _ hv)⟩,Nat.le_trans h.nx h'.nx,fun id v sb hl hv=>h.l id v sb (h'.l id v sb hl (Nat.lt_of_lt_of_le hv h.nx)) hv⟩
theorem XE.mono{m m':Nat}{s s':SS T}(h:XE m s s')(hm:∀t,m'.testBit t=false→m.testBit t=false):XE m' s s':=⟨fun t ht=>h.e t (hm t ht),h.nx,h.l⟩
theorem jv{β:Type}(t:Nat):∀(E F:List (Nat×β)),lookA (E++F) t=(lookA E t).or (lookA F t)
 | [],F=>by simp[lookA]
 |e::E,F=>by
  obtain⟨j,d⟩:=e
  simp only[List.cons_append,lookA]
  cases Nat.beq j t with
  |true=>rfl
  |false=>exact jv t E F
theorem QkF{m:Nat}:∀(pre E:List (Nat×SV T)),ZY m pre.length (pre++E)=true→∀t,m.testBit t=false→lookA pre t=none
 | [],_,_,_,_=>rfl
 |(j,d)::pre,E,h,t,ht=>by
  simp only[List.length_cons,List.cons_append,ZY,Qd]at h
  simp only[lookA]
  cases hb:Nat.beq j t with
  |true=>have:=Qc hb;subst this;rw[h.1]at ht;cases ht
  |false=>exact QkF pre E h.2 t ht
theorem Ext.xe{m:Nat}{s s':SS T}(h:Ext s s')(hk:ZY m (s'.E.length-s.E.length) s'.E=true):XE m s s':=by
 obtain⟨pre,hp⟩:=h.e
 refine⟨fun t ht sv hl=> ?_,h.nx,h.l⟩
 rw[hp]at hk
 have:=QkF pre s.E (by simpa using hk) t ht
 exact⟨sv,by rw[hp,jv,this];exact hl,fun _ _ _ h=>h⟩
theorem XE.know{m:Nat}{s:SS T}{t:Nat}{b b':Bool}(ht:lookA s.E t=some (.dt .bool b))(hb:b=b'):XE m s (s.know t b'):=by
 subst hb
 refine⟨fun x _ sv hl=> ?_,Nat.le_refl _,fun _ _ _ h _=>h⟩
 simp only[SS.know,SS.put,lookA]
 cases hb:Nat.beq t x with
 |true=>
  have:=Qc hb
  subst this
  rw[ht]at hl
  cases hl
  exact⟨.kb b,rfl,fun ρ D v hv=>hv⟩
 |false=>exact⟨sv,hl,fun _ _ _ h=>h⟩
theorem Qja{ρ0 ρ ρ':Rho}{D0 D:Snap}(ha:∀i,ρ0 i≠none→ρ' i=ρ i):∀(sv:SV T) (m:Bool) (c0 c:List Value),RX ρ0 D0 sv m c0→RX ρ D sv m c→RX ρ' D sv m c:=by
 intro sv
 induction sv with
 |dt t x=>exact fun m c0 c _ h=>h
 |kb b=>exact fun m c0 c _ h=>h
 |raw v=>exact fun m c0 c _ h=>h
 |nils=>exact fun m c0 c _ h=>h
 |agg l ih=>exact fun m c0 c h0 h=>ih false c0 c h0 h
 |tup l ih=>exact fun m c0 c ⟨v0,h0,_⟩ ⟨vs,h,e⟩=>⟨vs,ih true _ _ h0 h,e⟩
 |fn f l ih=>exact fun m c0 c ⟨v0,h0,_⟩ ⟨vs,h,e⟩=>⟨vs,ih true _ _ h0 h,e⟩
 |nl=>exact fun m c0 c _ h=>h
 | cs x l ih1 ih2=>
  intro m c0 c h0 h
  cases m with
  |false=>
   obtain⟨a1,a2,_,g1,g2⟩:=h0
   obtain⟨c1,c2,e,h1,h2⟩:=h
   exact⟨c1,c2,e,ih1 _ _ _ g1 h1,ih2 _ _ _ g2 h2⟩
  |true=>
   obtain⟨a1,a2,_,g1,g2⟩:=h0
   obtain⟨v,c2,e,h1,h2⟩:=h
   refine⟨v,c2,e,?_,ih2 _ _ _ g2 h2⟩
   cases hag:agS x with
   |true=>rw[hag]at g1 h1;obtain⟨b1,g1,_⟩:=g1;obtain⟨c1,h1,e1⟩:=h1;exact⟨c1,ih1 _ _ _ g1 h1,e1⟩
   |false=>rw[hag]at g1 h1;exact ih1 _ _ _ g1 h1
 |ptr b off=>rintro m c0 c ⟨n0,h0,_⟩ ⟨n,h,e⟩;exact⟨n,by rw[ha b (by rw[h0];simp)];exact h,e⟩
 |cell t x=>exact fun m c0 c _ h=>h
 |own o=>rintro m c0 c ⟨A0,p0,l0,h0,_⟩ ⟨A,cap,len,h,e⟩;exact⟨A,cap,len,by rw[ha o (by rw[h0];simp)];exact h,e⟩
 |elt o i off es=>rintro m c0 c ⟨b0,p0,l0,h0,_⟩ ⟨b,cap,len,h,e⟩;exact⟨b,cap,len,by rw[ha o (by rw[h0];simp)];exact h,e⟩
 |ela b off i n k=>rintro m c0 c ⟨n0,h0,_⟩ ⟨n,h,e⟩;exact⟨n,by rw[ha b (by rw[h0];simp)];exact h,e⟩
 |eva b off i n y fo=>rintro m c0 c ⟨n0,h0,_⟩ ⟨n,h,e⟩;exact⟨n,by rw[ha b (by rw[h0];simp)];exact h,e⟩
 |sla b p k n'=>rintro m c0 c ⟨n0,h0,_⟩ ⟨n,h,e⟩;exact⟨n,by rw[ha b (by rw[h0];simp)];exact h,e⟩
 |yld i=>rintro m c0 c ⟨n0,h0,_⟩ ⟨n,h,e⟩;exact⟨n,by rw[ha i (by rw[h0];simp)];exact h,e⟩
 |mp ks l ih=>rintro m c0 c ⟨_,_,_,_,_,_,g⟩ ⟨r,es,clk,e,h1,h2,h3⟩;exact⟨r,es,clk,e,h1,h2,ih _ _ _ g h3⟩
theorem Qtb{ρ0 ρ ρ':Rho}{D0 D:Snap}(ha:∀i,ρ0 i≠none→ρ' i=ρ i){sv:SV T}{v0 v:Value}(h0:RV ρ0 D0 sv v0)(h:RV ρ D sv v):RV ρ' D sv v:=by
 unfold RV at*
 cases hag:agS sv with
 |true=>rw[hag]at h0 h;obtain⟨c0,h0,_⟩:=h0;obtain⟨c,h,e⟩:=h;exact⟨c,Qja ha _ _ _ _ h0 h,e⟩
 |false=>rw[hag]at h0 h;exact Qja ha _ _ _ _ h0 h
theorem Qqy{ρ0 ρ ρ':Rho}{D0 D:Snap}(ha:∀i,ρ0 i≠none→ρ' i=ρ i){id:Nat}:∀{b:SB T} {q0 q:Blk},RBk ρ0 D0 id b q0→RBk ρ D id b q→RBk ρ' D id b q
 | .var _ _,_,_,⟨m0,c0,h1,h2,_⟩,⟨m,c,g1,g2,g3⟩=>⟨m,c,by rw[ha id (by rw[h1];simp)];exact g1,Qja ha _ _ _ _ h2 g2,g3⟩
 | .own _ _ _ _,_,_,⟨A0,p0,h1,_⟩,⟨A,cap,g1,g2⟩=>⟨A,cap,by rw[ha id (by rw[h1];simp)];exact g1,g2⟩
 | .lnt _ _,_,_,⟨A0,p0,h1,_⟩,⟨A,cap,g1,g2⟩=>⟨A,cap,by rw[ha id (by rw[h1];simp)];exact g1,g2⟩
theorem Qjb{ρ:Rho}{D:Snap}:∀{L:List (Nat×Nat×SB T)} {Ls:List Blk} {e:Nat×Nat×SB T},RLs ρ D L Ls→e∈L→∃q,RBk ρ D e.1 e.2.2 q
 | [],_,_,_,h=>by cases h
 |x::L,_,e,⟨q,Ls',_,h2,h3⟩,h=>by
  rcases List.mem_cons.1 h with rfl|h
  ·exact⟨q,h2⟩
  ·exact Qjb h3 h
theorem QkG{ρ0 ρ ρ':Rho}{D0 D:Snap}(ha:∀i,ρ0 i≠none→ρ' i=ρ i):∀{L:List (Nat×Nat×SB T)} {Ls:List Blk},(∀e∈L,∃q,RBk ρ0 D0 e.1 e.2.2 q)→RLs ρ D L Ls→RLs ρ' D L Ls
 | [],_,_,h=>h
 |e::L,_,h0,⟨q,Ls',h1,h2,h3⟩=>by
  obtain⟨q0,hq0⟩:=h0 e List.mem_cons_self
  exact⟨q,Ls',h1,Qqy ha hq0 h2,QkG ha (fun x hx=>h0 x (List.mem_cons_of_mem _ hx)) h3⟩
def PV(β:Nat→Option Nat)(D:Snap)(O:OwT T)(p:Pt)(ds:List (Dy T))(os:List (Nat×Pl))(v:Value):Prop:=bif agP p then ∃c,PR β D O p false ds os c∧v= .agg c.toArray else PR β D O p false ds os [v]
def PRT(β:Nat→Option Nat)(D:Snap)(O:OwT T)(a:Act):List (Nat×Pt)→List (Dy T)→List (Nat×Pl)→Prop
 | [],ds,os=>ds= []∧os= []
 |tp::l,ds,os=>∃d1 d2 o1 o2 v,ds=d1++d2∧os=o1++o2∧a.tmps[tp.1]?=some v∧PV β D O tp.2 d1 o1 v∧PRT β D O a l d2 o2
theorem Qqz{β β':Nat→Option Nat}{D D':Snap}{O O':OwT T}(hb:∀b n,β b=some n→β' b=some n)(hd:D.le D')(ho:∀o t e f xs A cap,O o t e f xs A cap→O' o t e f xs A cap){p:Pt}{ds:List (Dy T)}{os:List (Nat×Pl)}{v:Value}(h:PV β D O p ds os v):PV β' D' O' p ds os v:=by
 unfold PV at*
 cases ha:agP p with
 |true=>rw[ha]at h;obtain⟨c,h1,h2⟩:=h;exact⟨c,Zw hb hd ho _ _ _ _ _ h1,h2⟩
 |false=>rw[ha]at h;exact Zw hb hd ho _ _ _ _ _ h
theorem Qxn{β:Nat→Option Nat}{D:Snap}{O O':OwT T}{p:Pt}{ds:List (Dy T)}{os os':List (Nat×Pl)}{v:Value}(h:PV β D O p ds os v)(hr:Ren O O' os os'):PV β D O' p ds os' v:=by
 unfold PV at*
 cases ha:agP p with
 |true=>rw[ha]at h;obtain⟨c,h1,h2⟩:=h;exact⟨c,Qe7 _ _ _ _ _ _ h1 hr,h2⟩
 |false=>rw[ha]at h;exact Qe7 _ _ _ _ _ _ h hr
theorem QnE{β β':Nat→Option Nat}{D D':Snap}{O O':OwT T}{a:Act}(hb:∀b n,β b=some n→β' b=some n)(hd:D.le D')(ho:∀o t e f xs A cap,O o t e f xs A cap→O' o t e f xs A cap):∀{l:List (Nat×Pt)} {ds:List (Dy T)} {os:List (Nat×Pl)},PRT β D O a l ds os→PRT β' D' O' a l ds os
 | [],_,_,h=>h
 |_::_,_,_,⟨d1,d2,o1,o2,v,e1,e2,h1,h2,h3⟩=>⟨d1,d2,o1,o2,v,e1,e2,h1,Qqz hb hd ho h2,QnE hb hd ho h3⟩
theorem QqA{β:Nat→Option Nat}{D:Snap}{O O':OwT T}{a:Act}:∀{l:List (Nat×Pt)} {ds:List (Dy T)} {os os':List (Nat×Pl)},PRT β D O a l ds os→Ren O O' os os'→PRT β D O' a l ds os'
 | [],_,_,_,⟨h1,h2⟩,hr=>by subst h2;exact⟨h1,hr⟩
 |_::_,_,_,_,⟨d1,d2,o1,o2,v,e1,e2,h1,h2,h3⟩,hr=>by
  subst e2
  obtain⟨y1,y2,rfl,r1,r2⟩:=XU hr
  exact⟨d1,d2,y1,y2,v,e1,rfl,h1,Qxn h2 r1,QqA h3 r2⟩
theorem QvO(hT:TbOk T){p:Pt}{v:SV T}{m m':Mt T}{u:Value}(h:mat p v m=some m')(hS:RSx ct ρ D Lv R m.s a w)(hu:RV ρ D v u):
  ∃ρ' D' Lv' dn on os,MatR ct ρ D R m m' a w ρ' D' Lv' dn on∧os.map (·.1)=on.map (·.1)∧PV (bet ρ' m'.bd) D' (OwS ρ' m'.s m'.ow) p dn os u:=by
 have hag:=QuI h
 unfold RV at hu
 unfold PV
 cases ha:agS v with
 |true=>
  rw[ha]at hu
  obtain⟨c,r1,rfl⟩:=hu
  obtain⟨ρ',D',Lv',dn,on,os,M,E1,P1⟩:=Qe6 hT p v m m' ρ D Lv false c h hS r1
  exact⟨ρ',D',Lv',dn,on,os,M,E1,by rw[←hag,ha];exact⟨c,P1,rfl⟩⟩
 |false=>
  rw[ha]at hu
  obtain⟨ρ',D',Lv',dn,on,os,M,E1,P1⟩:=Qe6 hT p v m m' ρ D Lv false [u] h hS hu
  exact⟨ρ',D',Lv',dn,on,os,M,E1,by rw[←hag,ha];exact P1⟩
theorem QqB(hT:TbOk T):∀(l:List (Nat×Pt)) (m m':Mt T) (ρ:Rho) (D:Snap) (Lv:List Blk),matT l m=some m'→RSx ct ρ D Lv R m.s a w→
  ∃ρ' D' Lv' dn on os,MatR ct ρ D R m m' a w ρ' D' Lv' dn on∧os.map (·.1)=on.map (·.1)∧PRT (bet ρ' m'.bd) D' (OwS ρ' m'.s m'.ow) a l dn os
 | [],m,m',ρ,D,Lv,h,hS=>by
  simp only[matT,Qa]at h
  subst h
  exact⟨ρ,D,Lv, [], [], [],⟨Rho.le.refl _,Snap.le.refl _,hS,Ext.refl _,rfl,rfl,fun _ _ h=>h⟩,rfl,rfl,rfl⟩
 | (t,p)::l,m,m',ρ,D,Lv,h,hS=>by
  simp only[matT]at h
  split at h
  ·rename_i v hv
   split at h
   ·rename_i m1 hm1
    obtain⟨u,hu1,hu2⟩:=hS.e t v hv
    obtain⟨ρ1,D1,Lv1,dn1,on1,os1,M1,E1,P1⟩:=QvO hT hm1 hS hu2
    obtain⟨ρ2,D2,Lv2,dn2,on2,os2,M2,E2,P2⟩:=QqB hT l m1 m' ρ1 D1 Lv1 h M1.rs
    exact⟨ρ2,D2,Lv2,dn1++dn2,on1++on2,os1++os2,⟨M1.rho.trans M2.rho,M1.le.trans M2.le,M2.rs,M1.ext.trans M2.ext,by rw[M2.dy,M1.dy];simp,by rw[M2.ow,M1.ow];simp,fun b i hb=>M2.bd _ _ (M1.bd _ _ hb)⟩,by simp[E1,E2],dn1,dn2,os1,os2,u,rfl,rfl,hu1,
     Qqz (y7 M2.rho M2.bd) M2.le (fun _ _ _ _ _ _ _ ho=>XF M2.rho M2.ext (fun x hx=>by rw[M2.ow];exact List.mem_append_right _ hx) ho) P1,P2⟩
   ·cases h
  ·cases h
def PRC(s0:SS T)(ρ:Rho)(β:Nat→Option Nat)(D:Snap)(O:OwT T):List (Nat×Pt)→List (Dy T)→List (Nat×Pl)→List Blk→Prop
 | [],ds,os,Bs=>ds= []∧os= []∧Bs= []
 |tp::l,ds,os,Bs=>∃d1 d2 o1 o2 id tid v0 ver n c Bs',ds=d1++d2∧os=o1++o2∧Qkt s0 tp.1=some id∧lookA s0.L id=some (ver,.var tid v0)∧ρ id=some (.blk n)∧Bs=bx n tid c::Bs'∧PR β D O tp.2 false d1 o1 c∧PRC s0 ρ β D O l d2 o2 Bs'
theorem QqC{s0:SS T}{ρ:Rho}{β:Nat→Option Nat}{D:Snap}{O O':OwT T}:∀{l:List (Nat×Pt)} {ds:List (Dy T)} {os os':List (Nat×Pl)} {Bs:List Blk},PRC s0 ρ β D O l ds os Bs→Ren O O' os os'→PRC s0 ρ β D O' l ds os' Bs
 | [],_,_,_,_,⟨h1,h2,h3⟩,hr=>by subst h2;exact⟨h1,hr,h3⟩
 |_::_,_,_,_,_,⟨d1,d2,o1,o2,id,tid,v0,ver,n,c,Bs',e1,e2,h1,h2,h3,e3,h4,h5⟩,hr=>by
  subst e2
  obtain⟨y1,y2,rfl,r1,r2⟩:=XU hr
  exact⟨d1,d2,y1,y2,id,tid,v0,ver,n,c,Bs',e1,rfl,h1,h2,h3,e3,Qe7 _ _ _ _ _ _ h4 r1,QqC h5 r2⟩
theorem QqD(hT:TbOk T){s0:SS T}:∀(l:List (Nat×Pt)) (m m':Mt T) (bw:List (Nat×Nat)) (ρ:Rho) (D:Snap) (Lv:List Blk),matC s0 l m=some (m',bw)→RSx ct ρ D Lv R m.s a w→
  ∃ρ' D' Lv' dn on os Bs,MatR ct ρ D R m m' a w ρ' D' Lv' dn on∧os.map (·.1)=on.map (·.1)∧PRC s0 ρ' (bet ρ' m'.bd) D' (OwS ρ' m'.s m'.ow) l dn os Bs∧BwS ρ' w m'.s bw Bs
 | [],m,m',bw,ρ,D,Lv,h,hS=>by
  simp only[matC,Qa,Qe]at h
  obtain⟨rfl,rfl⟩:=h
  exact⟨ρ,D,Lv, [], [], [], [],⟨Rho.le.refl _,Snap.le.refl _,hS,Ext.refl _,rfl,rfl,fun _ _ h=>h⟩,rfl,⟨rfl,rfl,rfl⟩,rfl⟩
 | (t, p)::l,m,m',bw,ρ,D,Lv,h,hS=>by
  simp only[matC]at h
  split at h
  ·rename_i id hid
   split at h
   ·rename_i ver t1 v ver0 t2 v0 hl hl0
    cases ht:Nat.beq t1 t2 with
    |false=>rw[ht]at h;cases h
    | true=>
     rw[ht]at h
     obtain rfl:=Qc ht
     simp only[Qg]at h
     split at h
     ·rename_i m1 hm1
      split at h
      ·rename_i m2 bw2 hm2
       simp only[Qa,Qe]at h
       obtain⟨rfl,rfl⟩:=h
       obtain⟨X,Y,n,c,e,g1,g2,g3,_⟩:=hS.var hl
       obtain⟨ρ1,D1,Lv1,dn1,on1,os1,M1,E1,P1⟩:=Qe6 hT p v m m1 ρ D Lv false c hm1 hS g2
       obtain⟨ρ2,D2,Lv2,dn2,on2,os2,Bs2,M2,E2,P2,B2⟩:=QqD hT l m1 m2 bw2 ρ1 D1 Lv1 hm2 M1.rs
       have hr:=M1.rho.trans M2.rho
       refine⟨ρ2,D2,Lv2,dn1++dn2,on1++on2,os1++os2,bx n t1 c::Bs2,⟨hr,M1.le.trans M2.le,M2.rs,M1.ext.trans M2.ext,by rw[M2.dy,M1.dy];simp,by rw[M2.ow,M1.ow];simp,fun b i hb=>M2.bd _ _ (M1.bd _ _ hb)⟩,by simp[E1,E2],⟨dn1,dn2,os1,os2,id,t1,v0,ver0,n,c,Bs2,rfl,rfl,hid,hl0,hr _ _ g1,rfl,?_,P2⟩,⟨m.s,t1,v,n,c,Bs2,M1.ext.trans M2.ext,hl,hS.ver _ (Yr hl),hr _ _ g1,rfl,g3,B2⟩⟩
       exact Zw (y7 M2.rho M2.bd) M2.le (fun _ _ _ _ _ _ _ ho=>XF M2.rho M2.ext (fun x hx=>by rw[M2.ow];exact List.mem_append_right _ hx) ho) _ _ _ _ _ P1
      ·cases h
     ·cases h
   ·cases h
  ·cases h
theorem QnF{β:Nat→Option Nat}{O:OwT T}{bd:List (Nat×Nat)}{a:Act}:∀(l:List (Nat×Pt)) (m m':Im T) (E:List (Nat×SV T)) (ds:List (Dy T)) (os:List (Nat×Pl)) (rest:List (Dy T)),Qp2 bd l m=some (E,m')→m.dy=ds++rest→PRT β D O a l ds os→
  InsR O m m' rest os∧E.map (·.1)=l.map (·.1)∧∀ρ':Rho,(∀b n i,β b=some n→lookA bd b=some i→ρ' i=some (.blk n))→(∀k x,os[k]?=some x→ρ' (m.nx+k)=some x.2)→∀t sv,lookA E t=some sv→∃v,a.tmps[t]?=some v∧RV ρ' D sv v
 | [],m,m',E,ds,os,rest,h,hm,⟨e1,e2⟩=>by
  subst e1 e2
  simp only[Qp2,Qa,Qe]at h
  obtain⟨rfl,rfl⟩:=h
  exact⟨⟨hm,rfl, [],rfl,rfl⟩,rfl,fun _ _ _ t sv h=>by cases h⟩
 | (t,p)::l,m,m',E,ds,os,rest,h,hm,⟨d1,d2,o1,o2,v,e1,e2,h1,h2,h3⟩=>by
  subst e1 e2
  simp only[Qp2]at h
  split at h
  ·rename_i u m1 hi
   split at h
   ·rename_i E1 m2 hn
    simp only[Qa,Qe]at h
    obtain⟨rfl,rfl⟩:=h
    have key:∃i1:InsR O m m1 (d2++rest) o1,∀ρ':Rho,(∀b n i,β b=some n→lookA bd b=some i→ρ' i=some (.blk n))→(∀k x,o1[k]?=some x→ρ' (m.nx+k)=some x.2)→RV ρ' D u v:=by
     unfold PV at h2
     cases ha:agP p with
     |true=>
      rw[ha]at h2
      obtain⟨c,h2,rfl⟩:=h2
      obtain⟨g1,i1,r1⟩:=Qcb p false m m1 u d1 o1 c (d2++rest) hi (by rw[hm];simp) h2
      exact⟨i1,fun ρ' hb ho=>QkA (by rw[g1,ha]) (r1 ρ' hb ho)⟩
     |false=>
      rw[ha]at h2
      obtain⟨g1,i1,r1⟩:=Qcb p false m m1 u d1 o1 [v] (d2++rest) hi (by rw[hm];simp) h2
      exact⟨i1,fun ρ' hb ho=>YV (by rw[g1,ha]) (r1 ρ' hb ho)⟩
    obtain⟨i1,r1⟩:=key
    obtain⟨i2,v2,r2⟩:=QnF l m1 m2 E1 d2 o2 rest hn i1.dy h3
    refine⟨i1.trans i2,by simp[v2],fun ρ' hb ho t' sv hl=> ?_⟩
    simp only[lookA]at hl
    cases hbt:Nat.beq t t' with
    |true=>
     rw[hbt]at hl
     have:=Qc hbt
     subst this
     simp only[Qg,Qa]at hl
     subst hl
     exact⟨v,h1,r1 ρ' hb fun k x hx=>ho k x (by rw[List.getElem?_append_left (List.getElem?_eq_some_iff.1 hx).1];exact hx)⟩
    |false=>
     rw[hbt]at hl
     refine r2 ρ' hb (fun k x hx=> ?_) t' sv hl
     rw[i1.nx,Nat.add_assoc]
     exact ho _ x (by rw[List.getElem?_append_right (Nat.le_add_right _ _),Nat.add_sub_cancel_left];exact hx)
   ·cases h
  ·cases h
theorem QnG{s0:SS T}{ρ:Rho}{β:Nat→Option Nat}{O:OwT T}{bd:List (Nat×Nat)}:∀(l:List (Nat×Pt)) (m m':Im T) (N:List (Nat×Nat×SB T)) (ds:List (Dy T)) (os:List (Nat×Pl)) (Bs:List Blk) (rest:List (Dy T)),Qku s0 bd l m=some (N,m')→m.dy=ds++rest→PRC s0 ρ β D O l ds os Bs→
  InsR O m m' rest os∧(∀e∈N,e.2.1=s0.nx∧e.1∈s0.L.map (·.1))∧∀ρ':Rho,(∀b n i,β b=some n→lookA bd b=some i→ρ' i=some (.blk n))→(∀k x,os[k]?=some x→ρ' (m.nx+k)=some x.2)→(∀i,i∈s0.L.map (·.1)→ρ' i=ρ i)→RLs ρ' D N Bs
 | [],m,m',N,ds,os,Bs,rest,h,hm,⟨e1,e2,e3⟩=>by
  subst e1 e2 e3
  simp only[Qku,Qa,Qe]at h
  obtain⟨rfl,rfl⟩:=h
  exact⟨⟨hm,rfl, [],rfl,rfl⟩,fun e he=>(by cases he),fun _ _ _ _=>rfl⟩
 | (t,p)::l,m,m',N,ds,os,Bs,rest,h,hm,⟨d1,d2,o1,o2,id,tid,v0,ver,n,c,Bs',e1,e2,h1,h2,h3,e3,h4,h5⟩=>by
  subst e1 e2 e3
  simp only[Qku,h1,h2]at h
  split at h
  ·rename_i u m1 hi
   split at h
   ·rename_i N1 m2 hn
    simp only[Qa,Qe]at h
    obtain⟨rfl,rfl⟩:=h
    obtain⟨_,i1,r1⟩:=Qcb p false m m1 u d1 o1 c (d2++rest) hi (by rw[hm];simp) h4
    obtain⟨i2,v2,r2⟩:=QnG l m1 m2 N1 d2 o2 Bs' rest hn i1.dy h5
    have hmem:id∈s0.L.map (·.1):=List.mem_map.2 ⟨_,Yr h2,rfl⟩
    refine⟨i1.trans i2,fun e he=> ?_,fun ρ' hb ho hs=>⟨_,Bs',rfl,⟨n,c,by rw[hs id hmem];exact h3,r1 ρ' hb fun k x hx=>ho k x (by rw[List.getElem?_append_left (List.getElem?_eq_some_iff.1 hx).1];exact hx),rfl⟩,r2 ρ' hb (fun k x hx=> ?_) hs⟩⟩
    ·rcases List.mem_cons.1 he with rfl|he
     ·exact⟨rfl,hmem⟩
     ·exact v2 e he
    ·rw[i1.nx,Nat.add_assoc]
     exact ho _ x (by rw[List.getElem?_append_right (Nat.le_add_right _ _),Nat.add_sub_cancel_left];exact hx)
   ·cases h
  ·cases h
theorem QqE{ρ:Rho}{w:World}{s0:SS T}{m:SS T}:∀{l:List (Nat×Pt)} {bw:List (Nat×Nat)} {m1 m2:Mt T},matC s0 l m1=some (m2,bw)→∀N m3 bd m4,Qku s0 bd l m3=some (N,m4)→N.map (·.1)=bw.map (·.1)
 | [],bw,m1,m2,h,N,m3,bd,m4,h2=>by
  simp only[matC,Qa,Qe]at h
  simp only[Qku,Qa,Qe]at h2
  obtain⟨_,rfl⟩:=h
  obtain⟨rfl,_⟩:=h2
  rfl
 | (t, p)::l,bw,m1,m2,h,N,m3,bd,m4,h2=>by
  simp only[matC]at h
  split at h
  ·rename_i id hid
   split at h
   ·rename_i ver t1 v ver0 t2 v0 hl hl0
    cases ht:Nat.beq t1 t2 with
    |false=>rw[ht]at h;cases h
    | true=>
     rw[ht]at h
     simp only[Qg]at h
     split at h
     ·rename_i m5 hm5
      split at h
      ·rename_i m6 bw2 hm6
       simp only[Qa,Qe]at h
       obtain⟨_,rfl⟩:=h
       simp only[Qku,hid,hl0]at h2
       split at h2
       ·rename_i u m7 hi
        split at h2
        ·rename_i N1 m8 hn
         simp only[Qa,Qe]at h2
         obtain⟨rfl,_⟩:=h2
         simp[QqE (ρ:=ρ) (w:=w) (m:=m) hm6 N1 m7 bd m8 hn]
        ·cases h2
       ·cases h2
      ·cases h
     ·cases h
   ·cases h
  ·cases h
end
end Go.Sep
