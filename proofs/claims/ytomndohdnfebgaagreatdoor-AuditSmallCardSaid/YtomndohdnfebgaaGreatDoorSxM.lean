/-
 Symbolic execution: every operation; regions in their order.
-/
import Derived.Test.YtomndohdnfebgaaGreatDoorSxZ
set_option linter.unusedVariables false
set_option linter.unusedSimpArgs false
namespace Go.Sep
section
variable {T:Tb}{C:Cx T}{ct:Ct}{ρ:Rho}{D:Snap}{Lv R:List Blk}{s:SS T}{a:Act}{w:World}
variable {rd:Option Nat}{ops:Array Oper}{Q:Exit→Act→World→Prop}{i:Nat}{o:Oper}{d:Tmp}{Cn:Act→World→Prop}{α:Type}{k:SS T→Option α}{r:α}
theorem Qfu{f:FuncId}{as:SV T}{dst:Option Tmp}:∀{l:List (FSp T)},(Qnp f s dst as l).run k=some r→∃sp ou,sp∈l∧sp.fid=f∧QoV sp s dst as=some ou∧ou.run k=some r
 | [],h=>by cases h
 | sp::l,h=>by
  unfold Qnp at h
  cases hb:Nat.beq sp.fid f with
  |false=>
   rw[hb]at h
   obtain⟨sp',ou,h1,h2⟩:=Qfu h
   exact⟨sp',ou,List.mem_cons_of_mem _ h1,h2⟩
  | true=>
   rw[hb]at h
   simp only[Qg]at h
   split at h
   ·rename_i ou ho
    exact⟨sp,ou,List.mem_cons_self,Qc hb,ho,h⟩
   ·obtain⟨sp',ou,h1,h2⟩:=Qfu h
    exact⟨sp',ou,List.mem_cons_of_mem _ h1,h2⟩
theorem Qug{l2:SV T}{v2:List Value}(h2:RX ρ D l2 true v2):∀{l1:SV T} {v1:List Value},isL l1=true→RX ρ D l1 true v1→RX ρ D (appL l1 l2) true (v1++v2):=by
 intro l1
 induction l1 with
 |nl=>intro v1 _ h;have h:v1= []:=h;subst h;exact h2
 |cs h t _ ih=>
  rintro v1 hl ⟨v,c2,rfl,h3,h4⟩
  exact⟨v,c2++v2,rfl,h3,ih hl h4⟩
 |_=>intro v1 hl;cases hl
structure CxSp(C:Cx T)(ct:Ct):Prop extends CxOk C ct where
 sp:∀sp∈C.sp,VOk C.P C.G sp
 n:C.n=ct.n
 rv:∀x∈C.rv,RvOk C.P x
 mp:∀f g,lookA C.mps f=some g→MpOk C.P f g
def YOk(C:Cx T)(ct:Ct):Prop:=∀Y,C.Y=some Y→∀{α:Type} {ops:Array Oper} {Q:Exit→Act→World→Prop} {i:Nat} {o:Oper} {d:Tmp} {Cn:Act→World→Prop} {s:SS T} {ρ:Rho} {D:Snap} {Lv R:List Blk} {a:Act} {w:World} {kk:Bool→SS T→Option α} {r:α} {fv:Operand} {xs:Array Operand} {ts:Array TypeId} {id:Nat} {as:SV T},
 RSx ct ρ D Lv R s a w→Du ct ops i o a (some d)→o.op= .call {callee:= .value fv,args:=xs,argTypes:=ts}→evS C s 0 fv=some (.yld id)→evL C s xs.toList ts.toList=some as→Y α id as s kk=some r→
 (∀b s' a' w',s'.E=s.E→s.nx≤s'.nx→(∀id v sb,lookA s'.L id=some (v,sb)→v<s.nx→lookA s.L id=some (v,sb))→kk b s'=some r→RS ct (s'.put (some d) (.kb b)) a' w'→Cn a' w')→Op1 C.P none ops Q i Cn a w
structure QcR(C:Cx T)(ct:Ct):Prop extends CxSp C ct where
 fr:∀x,¬ct.fr.t x
 yo:YOk C ct
 rg:C.rg=true→ct.mks=true∧∀m D a R,ct.fr.p m D a R
theorem QmD (hC : CxSp C ct) (hfr:∀x,o.dst=some x→ ¬ct.fr.t x)(h:RSx ct ρ D Lv R s a w)(ho:ops[i]?=some o)(hg:guardOf ops (EvA a) o=some true)(hd:Jt ct.n o.dst=true)(hs:(sop C s o).run k=some r)
  (hk:∀s' a' w',Ext s s'→k s'=some r→RS ct s' a' w'→Cn a' w'):Op1 C.P rd ops Q i Cn a w:=by
 have hC0:=hC.toCxOk
 have hk1:∀s' a',Ext s s'→k s'=some r→RS ct s' a' w→Cn a' w:=fun s' a'=>hk s' a' w
 have hdu:∀{d},o.dst=some d→Du ct ops i o a (some d):=fun e=>⟨ho,hg,e,by rw[←e];exact hd,fun x hx=>hfr x (e.trans hx)⟩
 have hdn:o.dst=none→Du ct ops i o a none:=fun e=>⟨ho,hg,e,rfl,fun x hx=>by cases hx⟩
 unfold sop at hs
 cases hop:o.op with
 |panic x=>rw[hop]at hs;cases hs
 | store t x v=>
  rw[hop]at hs
  simp only at hs
  split at hs
  ·rename_i b off i' n y fo u hd0 hp hu
   exact Qpq hC0 h (hdn hd0) hop hp hu hs hk
  ·rename_i p u _ hd0 hp hu
   exact QrC hC0 h (hdn hd0) hop hp hu hs hk
  ·cases hs
 | call c=>
  rw[hop]at hs
  simp only at hs
  split at hs
  ·rename_i d hd0
   have du:=hdu hd0
   obtain⟨ce,xs,ts⟩:=c
   cases ce with
   |invoke x m=>simp only[sopD]at hs;cases hs
   | value f=>
    simp only[sopD]at hs
    split at hs
    ·rename_i f' cs l hf hl
     obtain⟨fv,e1,r1⟩:=Yq hC0 h hf
     obtain⟨cv,r2,e2⟩:=Yh rfl r1
     simp only[List.cons.injEq,and_true]at e2
     unfold fnV at e2
     cases hb:Nat.ble 1000000000 f' with
     | true=>
      rw[hb]at hs e2
      simp only[Qg]at hs e2
      subst e2
      cases hL:isL cs with
      |false=>rw[hL]at hs;cases hs
      |true=>
       rw[hL]at hs
       simp only[Qg]at hs
       obtain⟨sp,ou,h1,h2,h3,h4⟩:=Qfu hs
       rw[←h2]at e1
       obtain⟨vs,e3,r3⟩:=QhK hC0 h hl
       exact Qlj hC0 (hC.sp sp h1) h du hop e1 e3 (by simpa using Qug r3 hL r2) h3 h4 hk
     | false=>
      rw[hb]at hs e2
      simp only[Qh]at hs e2
      subst e2
      split at hs
      ·rename_i mg hmg
       obtain⟨vs,e3,r3⟩:=Qge hC0 h r2 hl
       exact mp_ok (hC.mp _ _ hmg) h du hop e1 e3 r3 hs hk
      ·split at hs
       ·rename_i ou hou
        obtain⟨rv,h1,h2,h3⟩:=QmC hou
        subst h2 h3
        exact rv_ok hC0 (hC.rv rv h1) h du hop hf hb hl hs hk
       ·obtain⟨sp,ou,h1,h2,h3,h4⟩:=Qfu hs
        subst h2
        obtain⟨vs,e3,r3⟩:=Qge hC0 h r2 hl
        exact Qlj hC0 (hC.sp sp h1) h du hop e1 e3 (by simpa using r3) h3 h4 hk
    ·cases hs
    ·cases hs
   | builtin b=>
    simp only[sopD]at hs
    unfold biS at hs
    split at hs
    ·rename_i x t hxs hts
     split at hs
     ·rename_i u hu
      exact Qvv hC0 h du hop hxs hts hu hs hk1
     ·cases hs
    ·rename_i x y hxs
     split at hs
     ·rename_i k1 m k2 n hx hy
      exact Qvw hC0 h du hop hxs hx hy hs hk1
     ·cases hs
    ·rename_i x y hxs
     split at hs
     ·rename_i k1 m k2 n hx hy
      exact Qvx hC0 h du hop hxs hx hy hs hk1
     ·cases hs
    ·rename_i x y t tl hxs hts
     split at hs
     ·rename_i u v hu hv
      exact QrJ hC0 h du hop hxs hts hu hv hs hk
     ·cases hs
    ·rename_i x y t t' hxs hts
     cases hb:Nat.beq t t' with
     |false=>rw[hb]at hs;cases hs
     | true=>
      rw[hb]at hs
      obtain rfl:=Qc hb
      simp only[Qg]at hs
      split at hs
      ·rename_i u v hu hv
       exact Qph hC0 h du hop hxs hts hu hv hs hk
      ·cases hs
    ·cases hs
  ·cases hs
 | move x => rw[hop]at hs;simp only at hs;split at hs
             · rename_i d hd0;exact Qo8 hC0 h (hdu hd0) (.inl hop) hs hk1
             · cases hs
 | assign x => rw[hop]at hs;simp only at hs;split at hs
               · rename_i d hd0;exact Qo8 hC0 h (hdu hd0) (.inr hop) hs hk1
               · cases hs
 | pick c x y => rw[hop]at hs;simp only at hs;split at hs
                 · rename_i d hd0;exact Qt5 hC0 h (hdu hd0) hop hs hk1
                 · cases hs
 | alloc t => rw[hop]at hs;simp only at hs;split at hs
              · rename_i d hd0;exact QrA h (hdu hd0) hop hs hk
              · cases hs
 | box t x => rw[hop]at hs;simp only at hs;split at hs
              · rename_i d hd0;exact Qvy hC0 h (hdu hd0) hop hs hk
              · cases hs
 | build t ps => rw[hop]at hs;simp only at hs;split at hs
                 · rename_i d hd0;exact QrE hC0 h (hdu hd0) hop hs hk1
                 · cases hs
 | buildSlice t n ps => rw[hop]at hs;simp only at hs;split at hs
                        · rename_i d hd0;simp only[sopD]at hs;exact QvB hC0 h (hdu hd0) hop hs hk
                        · cases hs
 | load t x => rw[hop]at hs;simp only at hs;split at hs
               · rename_i d hd0;exact Qt7 hC0 h (hdu hd0) hop hs (fun b off i' n y fo hp hs'=>QrK hC0 h (hdu hd0) hop hp hs' hk1) hk1
               · cases hs
 | nilCheck x => rw[hop]at hs;simp only at hs;split at hs
                 · rename_i d hd0;exact Qvu hC0 h (hdu hd0) hop hs hk1
                 · cases hs
 | binOp op t x y t' => rw[hop]at hs;simp only at hs;split at hs
                        · rename_i d hd0
                          simp only[sopD]at hs
                          cases hb:Qml y with
                          |true=>rw[hb]at hs;exact Quf hC0 h (hdu hd0) hop hb hs hk1
                          |false=>rw[hb]at hs;exact Qvr hC0 h (hdu hd0) hop hs hk1
                        · cases hs
 | makeInterface t x => rw[hop]at hs;simp only at hs;split at hs
                        · rename_i d hd0;simp only[sopD]at hs;exact mi_ok hC0 h (hdu hd0) hop hs hk1
                        · cases hs
 | typeAssert x xt t ok => rw[hop]at hs;simp only at hs;split at hs
                           · rename_i d hd0;simp only[sopD]at hs;exact ta_ok hC0 h (hdu hd0) hop hs hk1
                           · cases hs
 | lookup t x ix ok => rw[hop]at hs;simp only at hs;split at hs
                       · rename_i d hd0;simp only[sopD]at hs;exact lk_ok hC0 h (hdu hd0) hop hs hk1
                       · cases hs
 | unOp op t x => rw[hop]at hs;simp only at hs;split at hs
                  · rename_i d hd0;exact un_ok hC0 h (hdu hd0) hop hs hk1
                  · cases hs
 | convert t0 t x => rw[hop]at hs;simp only at hs;split at hs
                     · rename_i d hd0
                       simp only[sopD]at hs
                       unfold cvD at hs
                       split at hs
                       · rename_i oid hv
                         cases hb:Nat.beq t0 t with
                         | true=>
                           rw[hb]at hs
                           obtain rfl:=Qc hb
                           exact QvI hC0 h (hdu hd0) hop hv hs hk
                         |false=>rw[hb]at hs;exact QvA hC0 h (hdu hd0) hop hv hs hk1
                       · rename_i v _ hv;exact QvA hC0 h (hdu hd0) hop hv hs hk1
                       · cases hs
                     · cases hs
 | makeFunc f fs cs => rw[hop]at hs;simp only at hs;split at hs
                       · rename_i d hd0;exact Qvt hC0 h (hdu hd0) hop hs hk1
                       · cases hs
 | slice t x lo hi mx => rw[hop]at hs;simp only at hs;split at hs
                         · rename_i d hd0
                           cases mx with
                           | none=>
                             simp only[sopD]at hs
                             unfold sldS at hs
                             split at hs
                             · rename_i b off hv
                               cases hb:(Nat.beq off 0&&cstB lo hi)with
                               | true=>
                                 rw[hb]at hs
                                 rw[Qd]at hb
                                 obtain rfl:=Qc hb.1
                                 exact QvD hC0 h (hdu hd0) hop hv hs hk1
                               | false=>
                                 rw[hb]at hs
                                 exact QvE hC0 h (hdu hd0) hop hv hs hk1
                             · rename_i kk N v hv;exact QvF hC0 h (hdu hd0) hop hv hs hk1
                             · rename_i oid hv
                               cases hb:(Qvc s oid&&lo.isNone)with
                               | true=>
                                 rw[hb]at hs
                                 rw[Qd]at hb
                                 obtain rfl:lo=none:=by simpa using hb.2
                                 exact QvH hC0 h (hdu hd0) hop hv hs hk1
                               |false=>rw[hb]at hs;exact Qmy hC0 h (hdu hd0) hop hv hs hk1
                             · rename_i v _ _ _ hv;exact Qmy hC0 h (hdu hd0) hop hv hs hk1
                             · cases hs
                           | some m=>cases lo with
                             |some _=>cases hi<;>simp only[sopD]at hs<;>cases hs
                             | none=>cases hi with
                               |none=>simp only[sopD]at hs;cases hs
                               |some _=>simp only[sopD]at hs;exact Qvz hC0 h (hdu hd0) hop hs hk1
                         · cases hs
 | sliceToArrayPointer t x => rw[hop]at hs;simp only at hs;split at hs
                              · rename_i d hd0;simp only[sopD]at hs;exact QvG hC0 h (hdu hd0) hop hs hk1
                              · cases hs
 | index t x ix => rw[hop]at hs;simp only at hs;split at hs
                   · rename_i d hd0;exact ix_ok hC0 h (hdu hd0) hop hs hk1
                   · cases hs
 | makeSlice t x y => rw[hop]at hs;simp only at hs;split at hs
                      · rename_i d hd0;simp only[sopD]at hs;exact mk_ok hC0 h (hdu hd0) hop hs hk
                      · cases hs
 | fieldAddr t x m => rw[hop]at hs;simp only at hs;split at hs
                      · rename_i d hd0;exact Qt8 hC0 h (hdu hd0) hop hs hk1
                      · cases hs
 | field t x m => rw[hop]at hs;simp only at hs;split at hs
                  · rename_i d hd0;exact QrB hC0 h (hdu hd0) hop hs hk1
                  · cases hs
 | indexAddr t x ix => rw[hop]at hs;simp only at hs;split at hs
                       · rename_i d hd0;exact QrD hC0 h (hdu hd0) hop hs hk1
                       · cases hs
 | extract x n => rw[hop]at hs;simp only at hs;split at hs
                  · rename_i d hd0;exact Qvs hC0 h (hdu hd0) hop hs hk1
                  · cases hs
 |_=>rw[hop]at hs;simp only[sopD]at hs;split at hs<;>cases hs
theorem RSx.know{t:Nat}{b b':Bool}(h:RSx ct ρ D Lv R s a w)(ht:lookA s.E t=some (.dt .bool b))(hb:b=b'):RSx ct ρ D Lv R (s.know t b') a w:=by
 subst hb
 refine⟨h.rb,h.dom,h.ver,h.nd,h.size,h.ds,fun x sv hx=> ?_,h.l,h.st,h.fr,h.ini,h.ex,h.o⟩
 simp only[SS.know,SS.put,lookA]at hx
 cases hb:Nat.beq t x with
 |true=>
  rw[hb]at hx
  have:=Qc hb
  subst this
  simp only[Qg,Qa]at hx
  subst hx
  obtain⟨v,h1,h2⟩:=h.e _ _ ht
  exact⟨v,h1,h2⟩
 |false=>rw[hb]at hx;exact h.e x sv hx
theorem Ext.know(s:SS T)(t:Nat)(b:Bool):Ext s (s.know t b):=Ext.put _ _ _
theorem QjW(h:RSx ct ρ D Lv R s a w)(o:Oper):match Qmm ops s.E o with
  | .run=>guardOf ops (EvA a) o=some true
  | .skip=>guardOf ops (EvA a) o=some false
  | .split t b wt=>lookA s.E t=some (.dt .bool b)∧guardOf ops (EvA a) o=some (b==wt)
  | .no=>True:=by
 unfold Qmm guardOf
 cases o.guard with
 |none=>trivial
 | some p=>
  obtain⟨j,want⟩:=p
  simp only
  cases (ops[j]?).bind (·.dst)with
  |none=>trivial
  | some t=>
   simp only
   cases hl:lookA s.E t with
   |none=>trivial
   | some sv=>
    obtain⟨v,h1,h2⟩:=h.at_ hl
    rw[h1]
    cases sv with
    |kb b=>
     obtain rfl:=Qlf h2
     simp only
     cases hb:(b==want)with
     |true=>rfl
     |false=>rfl
    |dt ty x=>
     cases ty with
     |bool=>obtain rfl:=Qin h2;exact⟨hl,rfl⟩
     |_=>trivial
    | raw u=>
     cases u with
     |tuple vs=>
      have h2: [v]= [Value.tuple vs]:=h2
      cases h2
      rfl
     |_=>trivial
    |_=>trivial
theorem QmE(hC:CxSp C ct)(hfr:∀x,o.dst=some x→ ¬ct.fr.t x)(h:RSx ct ρ D Lv R s a w)(ho:ops[i]?=some o)(hg:guardOf ops (EvA a) o=some true)(hd:Jt ct.n o.dst=true)(hs:exO C o s k=some r)
  (hk:∀s' a' w',Ext s s'→k s'=some r→RS ct s' a' w'→Cn a' w'):Op1 C.P rd ops Q i Cn a w:=by
 unfold exO at hs
 split at hs
 ·rename_i t b hp
  have ht:lookA s.E t=some (.dt .bool b):=by
   unfold Qvd at hp
   split at hp
   ·split at hp
    ·rename_i hl
     simp only[Qa,Qe]at hp
     obtain⟨rfl,rfl⟩:=hp
     exact hl
    ·cases hp
   ·cases hp
  cases b with
  |true=>exact QmD hC hfr (h.know ht rfl) ho hg hd hs fun s' a' w' hx=>hk s' a' w' ((Ext.know _ _ _).trans hx)
  |false=>exact QmD hC hfr (h.know ht rfl) ho hg hd hs fun s' a' w' hx=>hk s' a' w' ((Ext.know _ _ _).trans hx)
 ·exact QmD hC hfr h ho hg hd hs hk
theorem Qd3(hfr:∀x,o.dst=some x→ ¬ct.fr.t x)(h:RSx ct ρ D Lv R s a w)(ho:ops[i]?=some o)(hg:guardOf ops (EvA a) o=some false)(hd:Jt ct.n o.dst=true)
  (hk:∀a',RS ct (s.put o.dst (.raw undef)) a' w→Cn a' w):Op1 C.P rd ops Q i Cn a w:=
 Qoq h.env ho hg hd fun a' hE=>hk a' ⟨ρ,D,Lv,R,h.put (fun _ _=>rfl) hfr hE⟩
theorem Qlk{f:FuncId}{as:SV T}{dst:Option Tmp}{q:POut T}:∀{l:List (FSp T)},tryP f s dst as l=some q→∃sp,sp∈l∧sp.fid=f∧Qrr sp s dst as=some q
 | [],h=>by cases h
 | sp::l,h=>by
  unfold tryP at h
  cases hb:Nat.beq sp.fid f with
  |false=>
   rw[hb]at h
   obtain⟨sp',h1,h2⟩:=Qlk h
   exact⟨sp',List.mem_cons_of_mem _ h1,h2⟩
  | true=>
   rw[hb]at h
   simp only[Qg]at h
   split at h
   ·rename_i ou ho
    simp only[Qa]at h
    subst h
    exact⟨sp,List.mem_cons_self,Qc hb,ho⟩
   ·obtain⟨sp',h1,h2⟩:=Qlk h
    exact⟨sp',List.mem_cons_of_mem _ h1,h2⟩
theorem Qll{kp:TypeId×Bool→Int→SS T→Option α}{q:POut T}(hC:CxSp C ct)(hfr:∀x,o.dst=some x→ ¬ct.fr.t x)(h:RSx ct ρ D Lv R s a w)(ho:ops[i]?=some o)(hg:guardOf ops (EvA a) o=some true)(hd:Jt ct.n o.dst=true)(hq:panS C s o=some q)(hs:q.run kp k=some r)
  (hk:∀s' a' w',Ext s s'→k s'=some r→RS ct s' a' w'→Cn a' w')
  (hp:∀x e s' w',Ext s s'→kp x e s'=some r→RS ct s' a w'→Q (.panic [{v:=pvV x e,recovered:=false}]) a w'):Op1 C.P rd ops Q i Cn a w:=by
 unfold panS at hq
 split at hq
 ·rename_i d f xs ts hd0 hop
  split at hq
  ·rename_i f' cs l hf hl
   cases hb:Nat.ble 1000000000 f' with
   |true=>rw[hb]at hq;cases hq
   |false=>
    rw[hb]at hq
    simp only[Qh]at hq
    obtain⟨sp,h1,h2,h3⟩:=Qlk hq
    obtain⟨fv,e1,r1⟩:=Yq hC.toCxOk h hf
    obtain⟨cv,r2,e2⟩:=Yh rfl r1
    simp only[List.cons.injEq,and_true]at e2
    unfold fnV at e2
    rw[hb]at e2
    simp only[Qh]at e2
    subst e2 h2
    obtain⟨vs,e3,r3⟩:=Qge hC.toCxOk h r2 hl
    exact QrH hC.toCxOk (hC.sp sp h1) h ⟨ho,hg,hd0,by rw[←hd0];exact hd,fun x hx=>hfr x (hd0.trans hx)⟩ hop e1 e3 (by simpa using r3) h3 hs hk hp
  ·cases hq
 ·rename_i x hd0 hop
  split at hq
  ·rename_i t cs hx
   obtain⟨v,e1,r1⟩:=Yq hC.toCxOk h hx
   have r1: [v]= [Value.iface t (.agg cs)]:=Yh rfl r1
   simp only[List.cons.injEq,and_true]at r1
   subst r1
   split at hq
   ·rename_i hcs
    simp only[Qa]at hq
    subst hq
    have e:Value.iface t (.agg cs)=pvV (t,false) 0:=by
     have:cs= #[]:=by apply Array.ext';exact hcs
     rw[this];rfl
    rw[e]at e1
    exact Qtd ho hop hg h.env e1 (hp (t,false) 0 s w (Ext.refl _) hs ⟨ρ,D,Lv,R,h⟩)
   ·rename_i e' hcs
    simp only[Qa]at hq
    subst hq
    have e:Value.iface t (.agg cs)=pvV (t,true) e':=by
     have:cs= #[.int .i64 e']:=by apply Array.ext';exact hcs
     rw[this];rfl
    rw[e]at e1
    exact Qtd ho hop hg h.env e1 (hp (t,true) e' s w (Ext.refl _) hs ⟨ρ,D,Lv,R,h⟩)
   ·cases hq
  ·cases hq
 ·cases hq
theorem QmF{kp:TypeId×Bool→Int→SS T→Option α}(hC:CxSp C ct)(hY:YOk C ct)(hrd:rd=none∨C.Y=none∧C.rg=false)(hfr:∀x,o.dst=some x→ ¬ct.fr.t x)(h:RSx ct ρ D Lv R s a w)(ho:ops[i]?=some o)(hg:guardOf ops (EvA a) o=some true)(hd:Jt ct.n o.dst=true)(hs:exP C o s kp k=some r)
  (hk:∀s' a' w',Ext s s'→k s'=some r→RS ct s' a' w'→Cn a' w')
  (hp:∀x e s' w',Ext s s'→kp x e s'=some r→RS ct s' a w'→Q (.panic [{v:=pvV x e,recovered:=false}]) a w'):Op1 C.P rd ops Q i Cn a w:=by
 unfold exP at hs
 split at hs
 ·rename_i Y d id l hY1 hy
  have hrd:rd=none:=by
   rcases hrd with h|h
   ·exact h
   ·rw[hY1]at h;cases h.1
  subst hrd
  unfold yldS at hy
  split at hy
  ·rename_i d' f xs ts hd0 hop
   split at hy
   ·rename_i id' l' hf hl
    simp only[Qa,Qe]at hy
    obtain⟨rfl,rfl,rfl⟩:=hy
    refine hY _ hY1 h ⟨ho,hg,hd0,by rw[←hd0];exact hd,fun x hx=>hfr x (hd0.trans hx)⟩ hop hf hl hs fun b s' a' w' g1 g2 g3 g4 g5=>hk (s'.put (some d') (.kb b)) a' w' ⟨⟨[(d',.kb b)],by show(d',SV.kb b)::s'.E=_;rw[g1];rfl⟩,g2,g3⟩ g4 g5
   ·cases hy
  ·cases hy
 split at hs
 ·rename_i q hq
  exact Qll hC hfr h ho hg hd hq hs hk hp
 ·exact QmE hC hfr h ho hg hd hs hk
theorem Qpt(hC:QcR C ct)(hrd:rd=none∨C.Y=none∧C.rg=false){kp:TypeId×Bool→Int→SS T→Option α}:∀(m i:Nat) (s:SS T) (a:Act) (w:World),opsS C ops kp k m i s=some r→RS ct s a w→i+m=ops.size→
  (∀s' a' w',Ext s s'→k s'=some r→RS ct s' a' w'→Q .normal a' w')→
  (∀x e s' a' w',Ext s s'→kp x e s'=some r→RS ct s' a' w'→Q (.panic [{v:=pvV x e,recovered:=false}]) a' w')→At C.P rd ops Q i a w
 |0,i,s,a,w,hs,h,hi,hk,hp=>at_end (QeW (by omega)) (hk s a w (Ext.refl _) hs h)
 | m +1,i,s,a,w,hs,h,hi,hk,hp=>by
  obtain⟨ρ,D,Lv,R,h⟩:=h
  unfold opsS at hs
  split at hs
  ·cases hs
  ·rename_i o ho
   cases hd:Jt C.n o.dst with
   |false=>rw[hd]at hs;cases hs
   | true=>
    rw[hd]at hs
    rw[hC.n]at hd
    simp only[Qg]at hs
    have hlt:Nat.blt i ops.size=true:=Qld (by omega)
    have next:∀{s1:SS T},Ext s s1→∀s' a' w',Ext s1 s'→opsS C ops kp k m (i+1) s'=some r→RS ct s' a' w'→At C.P rd ops Q (i+1) a' w':=fun hx s' a' w' hx' hs' h'=>
     Qpt hC hrd m (i+1) s' a' w' hs' h' (by omega) (fun s2 a2 w2 hx2=>hk s2 a2 w2 ((hx.trans hx').trans hx2)) fun x e s2 a2 w2 hx2=>hp x e s2 a2 w2 ((hx.trans hx').trans hx2)
    have pan:∀{s1:SS T},Ext s s1→∀x e s' w',Ext s1 s'→kp x e s'=some r→RS ct s' a w'→Q (.panic [{v:=pvV x e,recovered:=false}]) a w':=fun hx x e s' w' hx'=>hp x e s' a w' (hx.trans hx')
    have hgd:=QjW (ops:=ops) h o
    split at hs
    ·rename_i hgs
     rw[hgs]at hgd
     exact JO (QmF hC.toCxSp hC.yo hrd (fun x _=>hC.fr x) h ho hgd hd hs (next (Ext.refl _)) (pan (Ext.refl _))) hlt
    ·rename_i hgs
     rw[hgs]at hgd
     exact JO (Qd3 (fun x _=>hC.fr x) h ho hgd hd fun a' h'=>next (Ext.refl _) _ a' w (Ext.put _ _ _) hs h') hlt
    ·rename_i t b wt hgs
     rw[hgs]at hgd
     obtain⟨hl,hgd⟩:=hgd
     cases b with
     |true=>
      simp only[Qg]at hs
      have h1:=h.know hl rfl
      cases wt with
      |true=>exact JO (QmF hC.toCxSp hC.yo hrd (fun x _=>hC.fr x) h1 ho hgd hd hs (next (Ext.know _ _ _)) (pan (Ext.know _ _ _))) hlt
      |false=>exact JO (Qd3 (fun x _=>hC.fr x) h1 ho hgd hd fun a' h'=>next (Ext.know _ _ _) _ a' w (Ext.put _ _ _) hs h') hlt
     |false=>
      simp only[Qh]at hs
      have h1:=h.know hl rfl
      cases wt with
      |true=>exact JO (Qd3 (fun x _=>hC.fr x) h1 ho hgd hd fun a' h'=>next (Ext.know _ _ _) _ a' w (Ext.put _ _ _) hs h') hlt
      |false=>exact JO (QmF hC.toCxSp hC.yo hrd (fun x _=>hC.fr x) h1 ho hgd hd hs (next (Ext.know _ _ _)) (pan (Ext.know _ _ _))) hlt
    ·cases hs
end
end Go.Sep
