/-
 Symbolic execution: interfaces, maps of constants.
-/
import Derived.Test.YtomndohdnfebgaaGreatDoorSxW
set_option linter.unusedVariables false
set_option linter.unusedSimpArgs false
namespace Go.Sep
section
variable {T:Tb}{C:Cx T}{ct:Ct}{ρ:Rho}{D:Snap}{Lv R:List Blk}{s:SS T}{a:Act}{w:World}
variable {rd:Option Nat}{ops:Array Oper}{Q:Exit→Act→World→Prop}{i:Nat}{o:Oper}{d:Tmp}{Cn:Act→World→Prop}{α:Type}{k:SS T→Option α}{r:α}
theorem Qs9{P:Program}{t:TypeId}(h:ifT P t=true):∃ms,P.underlying t=some (.interface ms):=by
 unfold ifT at h;split at h<;>first|exact⟨_,by assumption⟩|cases h
theorem Qiq{P:Program}{t:TypeId}(h:Qou P t=true):∃u,P.underlying t=some u∧∀ms,u≠ .interface ms:=by
 unfold Qou at h
 split at h
 ·cases h
 ·rename_i u hn hu
  exact⟨u,hu,fun ms e=>hn ms e⟩
 ·cases h
theorem Qxl{P:Program}{op:BinOp}{t:TypeId}{x:Operand}{u:Value}(hu:u= .nilIface∨∃t' v,u= .iface t' v)(w:World):(eqGuard op t x (.const .nilIface) u .nilIface).run P w= .ok () w:=by
 rcases hu with rfl|⟨t',v,rfl⟩
 ·unfold eqGuard
  cases op<;>simp
 ·exact jm trivial w
theorem QvL{P:Program}{t:TypeId}(hT:ifT P t=true){u:Value}{b:Bool}(hu:u= .nilIface∧b=true∨(∃t' v,u= .iface t' v)∧b=false)(w:World):(Op.equal t u .nilIface).run P w= .ok b w:=by
 obtain⟨ms,he⟩:=Qs9 hT
 rw[yU,Op.equalIn]
 rcases hu with⟨rfl,rfl⟩|⟨⟨t',v,rfl⟩,rfl⟩<;>simp[Ql he]
theorem Qxm{P:Program}{op:BinOp}{t:TypeId}(hT:ifT P t=true){x:Operand}{u:Value}{b c:Bool}(hu:u= .nilIface∧b=true∨(∃t' v,u= .iface t' v)∧b=false)(hop:op= .eql∧c=b∨op= .neq∧c= !b)(w:World):
  (do eqGuard op t x (.const .nilIface) u .nilIface;binOp op t u .nilIface:Sem Value).run P w= .ok (.bool c) w:=by
 have hu':u= .nilIface∨∃t' v,u= .iface t' v:=by
  rcases hu with⟨h,_⟩|⟨h,_⟩
  ·exact .inl h
  ·exact .inr h
 refine Xn (Qxl hu') (fun w=> ?_) w
 have e:=fun w=>QvL (P:=P) hT hu w
 rcases hop with⟨rfl,rfl⟩|⟨rfl,rfl⟩
 ·have:binOp .eql t u .nilIface=(do pure (.bool (←Op.equal t u .nilIface))):=by
   rcases hu' with rfl|⟨t',v,rfl⟩<;>rfl
  rw[this,Sem.run_bind,e]
  rfl
 ·have:binOp .neq t u .nilIface=(do pure (.bool (!(←Op.equal t u .nilIface)))):=by
   rcases hu' with rfl|⟨t',v,rfl⟩<;>rfl
  rw[this,Sem.run_bind,e]
  rfl
theorem QvM(hC:CxOk C ct)(h:RSx ct ρ D Lv R s a w)(du:Du ct ops i o a (some d)){op:BinOp}{t t':TypeId}{x y:Operand}(hop:o.op= .binOp op t x y t')(hy:Qnj y=true)(hs:(Qvl C.P t op (evS C s t x) s d).run k=some r)
  (hk:∀s' a',Ext s s'→k s'=some r→RS ct s' a' w→Cn a' w):Op1 C.P rd ops Q i Cn a w:=by
 have hy:y= .const .nilIface:=by
  unfold Qnj at hy
  split at hy
  ·rfl
  ·cases hy
 subst hy
 have gen:∀{u:Value} {b c:Bool},evS C s t x=some (.raw u)→(u= .nilIface∧b=true∨(∃t' v,u= .iface t' v)∧b=false)→(op= .eql∧c=b∨op= .neq∧c= !b)→(bif ifT C.P t then Out.ok (s.put (some d) (.kb c))else .no).run k=some r→Op1 C.P rd ops Q i Cn a w:=by
  intro u b c hx hu hc hs
  cases hT:ifT C.P t with
  |false=>rw[hT]at hs;cases hs
  | true=>
   rw[hT]at hs
   obtain⟨v,e1,r1⟩:=YC hC h hx
   have hv:v=u:=by
    have r1: [v]=Q4 u:=Yn (by rcases hu with⟨rfl,_⟩|⟨⟨_,_,rfl⟩,_⟩<;>rfl) r1
    rcases hu with⟨rfl,_⟩|⟨⟨_,_,rfl⟩,_⟩<;>(simp only[Q4,List.cons.injEq,and_true]at r1;exact r1)
   subst hv
   exact Xv h (Qdx du.ho hop du.hg du.hd h.env du.lt e1 rfl (Qxm hT hu hc) fun a' hE=>hk _ a' (Ext.put _ _ _) hs (h.slot du (YV rfl rfl) hE))
 unfold Qvl at hs
 split at hs
 ·rename_i hx;exact gen hx (.inr ⟨⟨_,_,rfl⟩,rfl⟩) (.inl ⟨rfl,rfl⟩) hs
 ·rename_i hx;exact gen hx (.inl ⟨rfl,rfl⟩) (.inl ⟨rfl,rfl⟩) hs
 ·rename_i hx;exact gen hx (.inr ⟨⟨_,_,rfl⟩,rfl⟩) (.inr ⟨rfl,rfl⟩) hs
 ·rename_i hx;exact gen hx (.inl ⟨rfl,rfl⟩) (.inr ⟨rfl,rfl⟩) hs
 ·cases hs
theorem Qqv{ρ:Rho}{D:Snap}:∀(l:SV T) (cs c:List Value),QdA l=some cs→RX ρ D l false c→c=cs:=by
 intro l
 induction l with
 |nl=>intro cs c h hc;simp only[QdA,Qa]at h;subst h;exact hc
 | cs x t _ ih=>
  intro cs c h hc
  obtain⟨c1,c2,rfl,h1,h2⟩:=hc
  have gen:∀{v:Value},(match QdA t with|some cs=>some (v::cs)|none=>none)=some cs→c1= [v]→c1++c2=cs:=by
   intro v h e
   subst e
   split at h
   ·rename_i cs' hcs
    simp only[Qa]at h
    subst h
    rw[ih _ _ hcs h2];rfl
   ·cases h
  unfold QdA at h
  split at h
  ·cases ‹SV.cs x t=SV.nl›
  ·rename_i he;cases he;exact gen h h1
  ·rename_i he;cases he;exact gen h h1
  ·rename_i he;cases he;exact gen h h1
  ·rename_i he;cases he;exact gen h h1
  ·cases h
 |_=>intro cs c h;cases h
theorem mi_ok(hC:CxOk C ct)(h:RSx ct ρ D Lv R s a w)(du:Du ct ops i o a (some d)){t:TypeId}{x:Operand}(hop:o.op= .makeInterface t x)(hs:(miS C.P s d t (evS C s t x)).run k=some r)
  (hk:∀s' a',Ext s s'→k s'=some r→RS ct s' a' w→Cn a' w):Op1 C.P rd ops Q i Cn a w:=by
 unfold miS at hs
 split at hs
 ·rename_i sv hx
  split at hs
  ·rename_i l hl
   split at hs
   ·rename_i cs hcs
    cases hT:Qou C.P t with
    |false=>rw[hT]at hs;cases hs
    | true=>
     rw[hT]at hs
     obtain⟨u,hu,hni⟩:=Qiq hT
     obtain⟨v,e1,r1⟩:=YC hC h hx
     unfold RV at r1
     rw[QgF hl]at r1
     obtain⟨c,r1,rfl⟩:=r1
     have hc:=Qqv l cs c hcs (Qaf hC.tb hl r1)
     subst hc
     refine val_ok (sv:= .raw (.iface t (.agg c.toArray))) (v:= .iface t (.agg c.toArray)) h du (by rw[hop];rfl) ?_ (YV rfl rfl) fun a' h'=>hk _ a' (Ext.put _ _ _) hs h'
     simp only[execOp,hop,h.env.eval e1]
     have:(Instr.makeInterface t (.agg c.toArray)).run C.P w= .ok (.iface t (.agg c.toArray)) w:=by
      unfold Instr.makeInterface
      rw[Sem.run_bind,Ql hu]
      simp only[Result.andThen_ok]
      cases u<;>first|exact absurd rfl (hni _)|rfl
     simp[this]
   ·cases hs
  ·cases hs
 ·cases hs
theorem ta_ok(hC:CxOk C ct)(h:RSx ct ρ D Lv R s a w)(du:Du ct ops i o a (some d)){xt t:TypeId}{x:Operand}{ok:Bool}(hop:o.op= .typeAssert x xt t ok)(hs:(taS C.P s d t ok (evS C s 0 x)).run k=some r)
  (hk:∀s' a',Ext s s'→k s'=some r→RS ct s' a' w→Cn a' w):Op1 C.P rd ops Q i Cn a w:=by
 unfold taS at hs
 split at hs
 ·rename_i t' cs hx
  cases hb:(Qou C.P t&&Nat.beq t' t)with
  |false=>rw[hb]at hs;cases hs
  | true=>
   rw[hb]at hs
   rw[Qd]at hb
   obtain⟨hT,ht⟩:=hb
   obtain rfl:=Qc ht
   simp only[Qg]at hs
   split at hs
   ·rename_i v hv
    cases hag:agS v with
    |false=>rw[hag]at hs;cases hs
    | true=>
     rw[hag]at hs
     obtain⟨u,hu,hni⟩:=Qiq hT
     obtain⟨y,e1,r1⟩:=YC hC h hx
     have r1: [y]= [Value.iface t' (.agg cs)]:=Yn rfl r1
     simp only[List.cons.injEq,and_true]at r1
     subst r1
     obtain⟨c,hc1,hc2⟩:=QkB (P:=C.P) ρ D 200 t' cs.toList v [] hv
     rw[List.append_nil]at hc1
     refine val_ok (sv:= .tup (.cs v (.cs (.kb true) .nl))) (v:= .tuple #[.agg cs,.bool true]) h du (by rw[hop];rfl) ?_ (YV rfl ⟨[.agg cs,.bool true],⟨.agg cs, [.bool true],rfl,?_,.bool true, [],rfl,rfl,rfl⟩,rfl⟩) fun a' h'=>hk _ a' (Ext.put _ _ _) hs h'
     ·simp only[execOp,hop,h.env.eval e1]
      have:(Instr.typeAssert (.iface t' (.agg cs)) xt t' true).run C.P w= .ok (.tuple #[.agg cs,.bool true]) w:=by
       unfold Instr.typeAssert
       rw[Sem.run_bind,Ql hu]
       simp only[Result.andThen_ok]
       cases u<;>first|(rename_i ms;exact absurd rfl (hni ms))|simp
      simp[this]
     ·rw[hag]
      exact⟨c,hc2,by rw[←hc1]⟩
   ·cases hs
 ·cases hs
structure MpOk(P:Program)(f:FuncId)(mg:SV T→Option (SV T)):Prop where
 v:∀(ρ:Rho) (g w0:World) (D:Snap) (as:SV T) (vs:List Value) (sv:SV T),RX ρ D as true vs→mg as=some sv→St g w0 D []→
  CallsIn (Fw none) 0 P f vs.toArray w0 fun e w'=>∃v,e= .returned v∧∃D',RV ρ D' sv v∧Stp g w0 D [] w' D' []
 fn:(P.funcs[f]?).map (fun F=>(F.name== "runtime.NumGoroutine",F.body.isNone))=some (false,false)
theorem mp_ok{f:FuncId}{mg:SV T→Option (SV T)}(hV:MpOk C.P f mg)(h:RSx ct ρ D Lv R s a w)(du:Du ct ops i o a (some d)){fo:Operand}{xs:Array Operand}{ts:Array TypeId}(hop:o.op= .call {callee:= .value fo,args:=xs,argTypes:=ts}){as:SV T}{captured:Array Value}{vs0:List Value}
  (e1:Yt (EvA a) fo=some (.func (.func f) #[] captured)) (e3:JC (EvA a) xs.toList=some vs0) (r3:RX ρ D as true (vs0++captured.toList)) (hs:(okO s d (mg as)).run k=some r)
  (hk:∀s' a' w',Ext s s'→k s'=some r→RS ct s' a' w'→Cn a' w'):Op1 C.P rd ops Q i Cn a w:=by
 obtain⟨sv,h1,h2⟩:=Zv hs
 have hS:Stp ct.g ct.w0 ct.D0 ct.L0 w D ([]++(Lv++R)):=h.st
 have hcalls:=hV.v ρ ct.g w D as _ sv r3 h1 hS.st.fore
 refine QlP du.ho hop du.hg du.hd h.env du.lt e1 e3 rfl hV.fn hcalls fun a' v w' hR hE=> ?_
 obtain⟨D',g1,g2⟩:=hR
 have hS':=hS.call g2
 have hd':D.le D':=g2.dle
 have h8:RSx ct ρ D' Lv R s a w':=⟨h.rb,h.dom,h.ver,h.nd,h.size,h.ds,fun t sv ht=>by
   obtain⟨v,z1,z2⟩:=h.e t sv ht
   exact⟨v,z1,JL (Rho.le.refl _) hd' z2⟩,yj (Rho.le.refl _) hd' h.l,hS',ct.fr.mono hd' h.fr,h.ini.mv (Rho.le.refl _) hS.st hS'.st fun id b p hp hl=>by
    obtain⟨X,q,Y,e6,k1,_⟩:=qJ h.l hl
    exact⟨hl,q,D,k1,by rw[e6];simp,by rw[e6];simp⟩,h.ex,h.o⟩
 exact hk _ a' w' (Ext.put _ _ _) h2 ⟨ρ,D',Lv,R,h8.put (fun _ _=>g1) du.fr hE⟩
theorem QuK{kk:IntKind}{i:Int}{ρ:Rho}{D:Snap}:∀(ks:List Value) (vs:SV T) (l:List (Bool×SV T)) (es:List MapEntry) (j:Nat),lkL kk i ks vs=some l→es.map (·.key)=ks→RX ρ D vs true (es.map (·.val))→
  (∃n x sv,Instr.findNow (.int kk) (.int kk i) es j=some (some (n,x))∧RV ρ D sv x∧∀{R:Type} (z:SV T) (f:SV T→SS T) (k:SS T→Option R) (g:Bool→SV T→SV T),swR z f k (l.map fun e=>(e.1,g true e.2))=k (f (g true sv)))∨
  (Instr.findNow (.int kk) (.int kk i) es j=some none∧∀{R:Type} (z:SV T) (f:SV T→SS T) (k:SS T→Option R) (g:Bool→SV T→SV T),swR z f k (l.map fun e=>(e.1,g true e.2))=k (f z))
 | [],vs,l,es,j,h,hk,hv=>by
  have he:es= []:=by cases es with
   |nil=>rfl
   |cons e es=>cases hk
  subst he
  unfold lkL at h
  split at h
  ·simp only[Qa]at h
   subst h
   exact .inr ⟨rfl,fun z f k g=>rfl⟩
  ·rename_i hh;cases hh
  ·cases h
 | kx :: ks,vs,l,es,j,h,hk,hv=>by
  cases kx with
  | int k n=>
   cases vs with
   | cs v vs'=>
    simp only[lkL]at h
    cases hb:sameKind kk k with
    |false=>rw[hb]at h;cases h
    | true=>
     rw[hb]at h
     obtain rfl:=YY hb
     simp only[Qg]at h
     split at h
     ·rename_i l' hl'
      simp only[Qa]at h
      subst h
      cases es with
      |nil=>cases hk
      | cons e es=>
       simp only[List.map_cons,List.cons.injEq]at hk
       obtain⟨hk1,hk2⟩:=hk
       obtain⟨x,c2,e4,h5,h6⟩:=hv
       simp only[List.map_cons,List.cons.injEq]at e4
       obtain⟨rfl,rfl⟩:=e4
       cases hin:decide (i=n)with
       |true=>
        left
        have hin':=of_decide_eq_true hin
        subst hin'
        refine⟨j,e.val,v,?_,h5,fun z f k g=>by simp[swR]⟩
        unfold Instr.findNow
        rw[hk1]
        simp[Instr.sameNow]
       | false=>
        have hne: ¬i=n:=of_decide_eq_false hin
        have hf:Instr.findNow (.int kk) (.int kk i) (e::es) j=Instr.findNow (.int kk) (.int kk i) es (j+1):=by
         rw[Instr.findNow]
         rw[hk1]
         have:Instr.sameNow (.int kk) (.int kk i) (.int kk n)=some false:=by simp[Instr.sameNow,hne]
         rw[this]
        rcases QuK ks vs' l' es (j+1) hl' hk2 h6 with⟨n',x',sv,g1,g2,g3⟩|⟨g1,g3⟩
        ·exact .inl ⟨n',x',sv,by rw[hf];exact g1,g2,fun z f k g=>by simp only[List.map_cons,swR,Qh];exact g3 z f k g⟩
        ·exact .inr ⟨by rw[hf];exact g1,fun z f k g=>by simp only[List.map_cons,swR,Qh];exact g3 z f k g⟩
     ·cases h
   |_=>simp only[lkL,reduceCtorEq]at h
  |_=>cases vs<;>simp only[lkL,reduceCtorEq]at h
theorem Qta{P:Program}{t:TypeId}{v:SV T}{ρ:Rho}{D:Snap}(h:zeroV P t=some v)(w:World):∃zv,(zeroValue t).run P w= .ok zv w∧RV ρ D v zv:=by
 unfold zeroV at h
 split at h
 ·rename_i z v' hz hv
  cases hb:(Qvm z==agS v')with
  |false=>rw[hb]at h;cases h
  |true=>
   rw[hb]at h
   simp only[Qg,Qa]at h
   subst h
   obtain⟨z',hz',r1⟩:=Qbo ρ D hv
   rw[hz]at hz'
   cases hz'
   obtain⟨ii,hi,hzz⟩:=Option.bind_eq_some_iff.1 hz
   refine⟨z,by simp[zeroValue,typeInfo,hi,hzz],?_⟩
   have hb:Qvm z=agS v':=by simpa using hb
   cases z with
   |agg cs=>exact QkA hb.symm r1
   |_=>exact YV hb.symm r1
 ·cases h
theorem Qqw{ρ:Rho}{D:Snap}{v:SV T}{x:Value}{b:Bool}(h:RV ρ D v x):RV ρ D (.tup (.cs v (.cs (.kb b) .nl)):SV T) (.tuple #[x,.bool b]):=
 YV rfl ⟨[x,.bool b],⟨x, [.bool b],rfl,h,.bool b, [],rfl,rfl,rfl⟩,rfl⟩
theorem lk_ok(hC:CxOk C ct)(h:RSx ct ρ D Lv R s a w)(du:Du ct ops i o a (some d)){t:TypeId}{x ix:Operand}{ok:Bool}(hop:o.op= .lookup t x ix ok)(hs:(lkS C.P s d t ok (evS C s t x) (evS C s 0 ix)).run k=some r)
  (hk:∀s' a',Ext s s'→k s'=some r→RS ct s' a' w→Cn a' w):Op1 C.P rd ops Q i Cn a w:=by
 unfold lkS at hs
 split at hs
 ·rename_i ks vs kk' ii kt et hx hi hm
  split at hs
  ·rename_i kk hkk
   cases hb:sameKind kk kk' with
   |false=>rw[hb]at hs;cases hs
   | true=>
    rw[hb]at hs
    obtain rfl:=YY hb
    simp only[Qg]at hs
    split at hs
    ·rename_i l z hl hz
     obtain⟨y,e1,r1⟩:=YC hC h hx
     obtain⟨u,e2,r2⟩:=YC hC h hi
     obtain rfl:=XL r2
     obtain⟨m,es,clk,e3,h1,h2,h3⟩:=Yn rfl r1
     simp only[List.cons.injEq,and_true]at e3
     subst e3
     obtain⟨ob,h4,h5⟩:=h.st.st.d m _ h1
     have h5:ob= .map es clk:=h5
     subst h5
     have hck:(Instr.checkKey es.isEmpty 10000 kt (.int kk ii)).run C.P w= .ok () w:=by
      rw[Instr.checkKey]
      simp[Ql hkk]
     have hfk:∀res,Instr.findNow (.int kk) (.int kk ii) es.toList 0=some res→(Instr.findKey kt (.int kk ii) es.toList).run C.P w= .ok res w:=fun res hres=>by
      unfold Instr.findKey
      rw[Sem.run_bind,Ql hkk]
      simp[hres]
     have hzv:∃zv,(zeroValue et).run C.P w= .ok zv w∧RV ρ D z zv:=Qta (ρ:=ρ) (D:=D) hz w
     obtain⟨zv,hz1,hz2⟩:=hzv
     have hget:(getObj m).run C.P w= .ok (.map es clk) w:=by simp[getObj,Sem.run,h4]
     have key:∀(v:Value) (b:Bool),(Instr.lookup t (.map (some m)) (.int kk ii) ok).run C.P w= .ok (if ok then .tuple #[v,.bool b]else v) w→(execOp a.eval o).run C.P w= .ok (.value (if ok then .tuple #[v,.bool b]else v)) w:=fun v b hh=>by
      simp only[execOp,hop,h.env.eval e1,h.env.eval e2]
      simp[hh]
     rcases QuK ks vs l es.toList 0 hl h2 h3 with⟨n,v,sv,g1,g2,g3⟩|⟨g1,g3⟩
     ·have hs':k (s.put (some d) (lkV ok true sv))=some r:=by
       have:=g3 (lkV ok false z) (fun v=>s.put (some d) v) k (fun b v=>lkV ok b v)
       rw[←this];exact hs
      refine val_ok (v:=if ok then .tuple #[v,.bool true]else v) h du (by rw[hop];rfl) (key v true ?_) ?_ fun a' h'=>hk _ a' (Ext.put _ _ _) hs' h'
      ·unfold Instr.lookup
       simp[Sem.run_bind,Ql hm,hget,hck,hfk _ g1]
      ·cases ok with
       |true=>exact Qqw g2
       |false=>exact g2
     ·have hs':k (s.put (some d) (lkV ok false z))=some r:=by
       have:=g3 (lkV ok false z) (fun v=>s.put (some d) v) k (fun b v=>lkV ok b v)
       rw[←this];exact hs
      refine val_ok (v:=if ok then .tuple #[zv,.bool false]else zv) h du (by rw[hop];rfl) (key zv false ?_) ?_ fun a' h'=>hk _ a' (Ext.put _ _ _) hs' h'
      ·unfold Instr.lookup
       simp[Sem.run_bind,Ql hm,hget,hck,hfk _ g1,hz1]
      ·cases ok with
       |true=>exact Qqw hz2
       |false=>exact hz2
    ·cases hs
  ·cases hs
 ·cases hs
theorem Stp.freezeM{g w0 w:World}{D0 D:Snap}{L0 L:List Blk}{b:Nat}{es:Array MapEntry}{c:Nat}(h:Stp g w0 D0 L0 w D (some (b,(.map es c,0))::L)):D.le (D.ins b (.map es c))∧Stp g w0 D0 L0 w (D.ins b (.map es c)) L:=by
 have hb:=h.st.l b (.map es c,0) (by simp)
 have hnone:∀p,D b=some p→p= .map es c:=fun p hp=>by
  obtain⟨o',h1,h2⟩:=h.st.d b p hp
  rw[hb.1]at h1
  cases h1
  obtain⟨C,T,fr,rfl,_⟩:=hb.2 p hp
  obtain⟨_,_,_,e,_⟩:=h2
  cases e
 have hle:D.le (D.ins b (.map es c)):=Snap.le_ins fun p hp=>by rw[hnone p hp];exact QbQ _
 have hnd:=h.st.nd
 rw[YZ,List.nodup_cons]at hnd
 refine⟨hle,h.keep,h.size,h.dle.trans hle,fun x u hu=> ?_,⟨h.st.os,h.st.tape,h.st.output,fun x u hu=> ?_,fun x u hu=> ?_,hnd.2⟩,fun x hx=>h.lnew x (by rw[YZ];exact List.mem_cons_of_mem _ hx)⟩
 ·unfold Snap.ins at hu
  split at hu
  ·subst x
   rcases h.lnew b (by rw[YZ];simp)with h1|h1
   ·exact .inr (.inr h1)
   ·exact .inr (.inl h1)
  ·exact h.dnew x u hu
 ·unfold Snap.ins at hu
  split at hu
  ·subst x
   simp only[Qa]at hu
   subst hu
   exact⟨_,hb.1,QbQ _⟩
  ·exact h.st.d x u hu
 ·have:=h.st.l x u (List.mem_cons_of_mem _ hu)
  refine⟨this.1,fun p hp=> ?_⟩
  have hne:x≠b:=fun e=>by subst e;exact hnd.1 (Qa3.2 ⟨u,hu⟩)
  unfold Snap.ins at hp
  rw[if_neg hne]at hp
  exact this.2 p hp
section
variable {P:Program}{n:Nat}{ds:List Deferred}{E:List (Nat×Value)}{g w0:World}{D0:Snap}{L0 L:List Blk}
theorem QoD{t:TypeId}(ho:ops[i]?=some o)(hop:o.op= .makeMap t none)(hg:guardOf ops E o=some true)(hd:o.dst=some d)(hE:Env a n ds E)(hn:Nat.blt d n=true)(hS:Stp g w0 D0 L0 w D L)
  (k:∀a' b w',Env a' n ds ((d,.map (some b))::E)→Stp g w0 D0 L0 w' D (some (b,(.map #[] 0,0))::L)→Cn a' w'):Op1 P rd ops Q i Cn a w:=by
 refine Zf (v:= .map (some w.heap.size)) (w':=w.alloc (.map #[] 0)) hE ho hg (by rw[hd];simp[JI,hn]) (by simp[hop,Q5]) ?_ fun a' hE'=> ?_
 ·simp[execOp,hop,Instr.makeMap,newObj,Sem.run]
 ·rw[hd]at hE'
  exact k a' _ _ hE' (hS.alloc _)
theorem QaM{t kt et:TypeId}{mo ko vo:Operand}{b:Nat}{es:Array MapEntry}{clk:Nat}{kk:IntKind}{kx:Int}{v:Value}(ho:ops[i]?=some o)(hop:o.op= .insert t mo ko vo)(hg:guardOf ops E o=some true)(hd:o.dst=none)(hE:Env a n ds E)
  (hS:Stp g w0 D0 L0 w D (some (b,(.map es clk,0))::L)) (hm:Yt E mo=some (.map (some b))) (hk:Yt E ko=some (.int kk kx)) (hv:Yt E vo=some v) (ht:P.underlying t=some (.map kt et)) (hkt:P.underlying kt=some (.int kk)) (hf:Instr.findNow (.int kk) (.int kk kx) es.toList 0=some none)
  (k:∀a' w',Env a' n ds E→Stp g w0 D0 L0 w' D (some (b,(.map (es.push {key:= .int kk kx,val:=v,born:=clk}) (clk+1),0))::L)→Cn a' w'):Op1 P rd ops Q i Cn a w:=by
 have hb:=hS.heap0
 have hck:(Instr.checkKey false 10000 kt (.int kk kx)).run P w= .ok () w:=by
  rw[Instr.checkKey]
  simp[Ql hkt]
 have hfk:(Instr.findKey kt (.int kk kx) es.toList).run P w= .ok none w:=by
  unfold Instr.findKey
  rw[Sem.run_bind,Ql hkt]
  simp[hf]
 have hget:(getObj b).run P w= .ok (.map es clk) w:=by simp[getObj,Sem.run,hb]
 refine Qf8 (w':=w.putObj b (.map (es.push {key:= .int kk kx,val:=v,born:=clk}) (clk+1))) hE ho hg (by rw[hd];rfl) (by simp[hop,Q5]) ?_ fun a' hE'=> ?_
 ·have:(Instr.mapUpdate t (.map (some b)) (.int kk kx) v).run P w= .ok () (w.putObj b (.map (es.push {key:= .int kk kx,val:=v,born:=clk}) (clk+1))):=by
   unfold Instr.mapUpdate
   simp[Sem.run_bind,Ql ht,hget,hck,hfk]
   have hb:w.heap[b]?=some (.map es clk):=hb
   simp[setObj,Sem.run,World.putObj,hb]
  simp[execOp,hop,hE.eval hm,hE.eval hk,hE.eval hv,this]
 ·rw[hd]at hE'
  exact k a' _ hE' (hS.obj fun _ _ _ h=>by cases h)
end
theorem QuL{P:Program}{n:Nat}{ds:List Deferred}{E:List (Nat×Value)}{x:Operand}{t:TypeId}{u:Value}(ho:ops[i]?=some o)(hop:o.op= .panic x)(hg:guardOf ops E o=some true)(hE:Env a n ds E)(hx:Yt E x=some (.iface t u))
  (k:Q (.panic [{v:= .iface t u,recovered:=false}]) a w):Op1 P rd ops Q i Cn a w:=by
 have hw:=jk (ops:=ops) hE hg
 have hr:(execOp a.eval o).run P w= .halt (.panic (.iface t u)) w:=by
  simp only[execOp,hop,hE.eval hx]
  rfl
 simp only[Op1,wpOpIn,ho,hw,if_true,Oper.wpIn]
 refine⟨fun _ _=>trivial,?_⟩
 rw[XA (by simp[hop,Q5]),hr]
 exact k
end
end Go.Sep
