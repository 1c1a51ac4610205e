/-
 Symbolic execution: operations without memory are carried out as they should be.
-/
import Derived.Test.YtomndohdnfebgaaGreatDoorSxD
set_option linter.unusedVariables false
set_option linter.unusedSimpArgs false
namespace Go.Sep
section
variable {T:Tb}{C:Cx T}{ct:Ct}{ρ:Rho}{D:Snap}{Lv R:List Blk}{s:SS T}{a:Act}{w:World}
variable {rd:Option Nat}{ops:Array Oper}{Q:Exit→Act→World→Prop}{i:Nat}{o:Oper}{d:Tmp}{Cn:Act→World→Prop}{α:Type}{k:SS T→Option α}{r:α}
structure Du(ct:Ct)(ops:Array Oper)(i:Nat)(o:Oper)(a:Act)(d:Option Tmp):Prop where
 ho:ops[i]?=some o
 hg:guardOf ops (EvA a) o=some true
 hd:o.dst=d
 ok:JI ct.n d=true
 fr:∀x,d=some x→ ¬ct.fr.t x
theorem Du.lt(h:Du ct ops i o a (some d)):Nat.blt d ct.n=true:=h.ok
theorem val_ok{sv:SV T}{v:Value}(h:RSx ct ρ D Lv R s a w)(du:Du ct ops i o a (some d))(hnd:Q5 o.op=true)(hr:(execOp a.eval o).run C.P w= .ok (.value v) w)(hv:RV ρ D sv v)
  (hk:∀a',RS ct (s.put (some d) sv) a' w→Cn a' w):Op1 C.P rd ops Q i Cn a w:=
 Zf h.env du.ho du.hg (by rw[du.hd];exact du.ok) hnd hr fun a' hE=>hk a' ⟨ρ,D,Lv,R,h.put (fun _ _=>hv) du.fr (by rw[du.hd]at hE;exact hE)⟩
theorem pure_ok{sv:SV T}{v:Value}(h:RSx ct ρ D Lv R s a w)(du:Du ct ops i o a (some d))(hsrc:∀s' t x,o.op= .convert s' t x→(C.P.underlying s').isSome=true)(hp:yQ C.P (EvA a) o.op=some v)(hv:RV ρ D sv v)
  (hk:∀a',RS ct (s.put (some d) sv) a' w→Cn a' w):Op1 C.P rd ops Q i Cn a w:=
 val_ok h du (QaA (P:=C.P) (w:=w) h.env hsrc hp).2 (QaA h.env hsrc hp).1 hv hk
theorem Xv{C1:Act→World→Prop}(h:RSx ct ρ D Lv R s a w)(ht:Tk C.P ops (qC []) i ct.n a.defers (EvA a) a w (fun a=>C1 a w)):Op1 C.P rd ops Q i C1 a w:=Qa1 h.env ht
theorem RSx.slot{sv:SV T}{v:Value}{a':Act}(h:RSx ct ρ D Lv R s a w)(du:Du ct ops i o a (some d))(hv:RV ρ D sv v)(hE:Env a' ct.n a.defers ((d,v)::EvA a)):RS ct (s.put (some d) sv) a' w:=
 ⟨ρ,D,Lv,R,h.put (fun _ _=>hv) du.fr hE⟩
theorem RV_i(k:IntKind)(x:Int):RV ρ D (.dt (.int k) x:SV T) (.int k x):=YV rfl rfl
theorem XL{k:IntKind}{x:Int}{v:Value}(h:RV ρ D (.dt (.int k) x:SV T) v):v= .int k x:=by
 have h: [v]= [Value.int k x]:=h
 simpa using h
theorem Qi1{x:Bool}{v:Value}(h:RV ρ D (.dt .bool x:SV T) v):v= .bool x:=by
 have h: [v]= [Value.bool x]:=h
 simpa using h
theorem Ql4{x:Bool}{v:Value}(h:RV ρ D (.kb x:SV T) v):v= .bool x:=by
 have h: [v]= [Value.bool x]:=h
 simpa using h
theorem Qw1{v:Value}{sv:SV T}(h:ofV v=some sv):RV ρ D sv v:=by
 unfold ofV at h
 split at h<;>first|(simp only[Qa]at h;subst h;exact rfl)|cases h
theorem Zv{x:Option (SV T)}(h:(okO s d x).run k=some r):∃v,x=some v∧k (s.put (some d) v)=some r:=by
 cases x with
 |none=>cases h
 |some v=>exact⟨v,rfl,h⟩
theorem nsrc{op:Op}(h:∀s' t x,op≠ .convert s' t x):∀s' t x,op= .convert s' t x→(C.P.underlying s').isSome=true:=fun s' t x e=>absurd e (h s' t x)
theorem Qqc(hC:CxOk C ct)(h:RSx ct ρ D Lv R s a w)(du:Du ct ops i o a (some d)){x:Operand}{ty:TypeId}(hop:o.op= .move x∨o.op= .assign x)(hs:(okO s d (evS C s ty x)).run k=some r)
  (hk:∀s' a',Ext s s'→k s'=some r→RS ct s' a' w→Cn a' w):Op1 C.P rd ops Q i Cn a w:=by
 obtain⟨sv,h1,h2⟩:=Zv hs
 obtain⟨v,e1,r1⟩:=YC hC h h1
 refine pure_ok h du (nsrc (by rcases hop with e|e<;>(rw[e];intro _ _ _ e;cases e))) (v:=v) ?_ r1 fun a' h'=>hk _ _ (Ext.put _ _ _) h2 h'
 rcases hop with e|e<;>(rw[e];exact e1)
theorem QvC(hC:CxOk C ct)(h:RSx ct ρ D Lv R s a w)(du:Du ct ops i o a (some d)){c x y:Operand}{ty:TypeId}(hop:o.op= .pick c x y)(hs:(sopD C s d ty (.pick c x y)).run k=some r)
  (hk:∀s' a',Ext s s'→k s'=some r→RS ct s' a' w→Cn a' w):Op1 C.P rd ops Q i Cn a w:=by
 simp only[sopD]at hs
 split at hs
 ·rename_i hc
  obtain⟨sv,h1,h2⟩:=Zv hs
  obtain⟨v,e1,r1⟩:=YC hC h h1
  obtain⟨b,e2,r2⟩:=YC hC h hc
  obtain rfl:=Ql4 r2
  refine pure_ok h du (nsrc (by rw[hop];intro _ _ _ e;cases e)) (v:=v) ?_ r1 fun a' h'=>hk _ _ (Ext.put _ _ _) h2 h'
  rw[hop];simp only[yQ,e2,e1]
 ·rename_i hc
  obtain⟨sv,h1,h2⟩:=Zv hs
  obtain⟨v,e1,r1⟩:=YC hC h h1
  obtain⟨b,e2,r2⟩:=YC hC h hc
  obtain rfl:=Ql4 r2
  refine pure_ok h du (nsrc (by rw[hop];intro _ _ _ e;cases e)) (v:=v) ?_ r1 fun a' h'=>hk _ _ (Ext.put _ _ _) h2 h'
  rw[hop];simp only[yQ,e2,e1]
 ·cases hs
theorem QfV{u:SV T}{b:Bool}{v:Value}(h:Qot u=some b)(hv:RV ρ D u v):v= .bool b:=by
 unfold Qot at h
 split at h
 ·simp only[Qa]at h;subst h;exact Ql4 hv
 ·simp only[Qa]at h;subst h;exact Qi1 hv
 ·cases h
theorem QgF{v l:SV T}(h:Qem v=some l):agS v=true:=by
 cases v with
 |agg u=>rfl
 |dt t x=>cases t<;>first|rfl|cases h
 |_=>cases h
theorem Ql5{t t':Ty}{x:den T.ty t}{y:den T.ty t'}(h:Qdz t t' x=some y):∃e:t=t',e▸x=y:=by
 unfold Qdz at h
 split at h
 ·rename_i hb
  simp only[Qa]at h
  exact⟨Ty.eq_of_beq hb,h⟩
 ·cases h
mutual
theorem QuD(hT:TbOk T){P:Program}:∀(f:Nat) (t:TypeId) (u v:SV T) (b:Bool) (vu vv:Value) (d:Nat),eqE P f t u v=some b→RV ρ D u vu→RV ρ D v vv→f≤d→EqR P d t vu vv b
 |0,_,_,_,_,_,_,_,h,_,_,_=>by simp only[eqE,reduceCtorEq]at h
 |f+1,t,u,v,b,vu,vv,0,h,_,_,hd=>by omega
 | f + 1,t,u,v,b,vu,vv,d+1,h,hu,hv,hd=>by
  unfold eqE at h
  split at h
  ·rename_i fs hfs
   split at h
   ·rename_i l m hl hm
    unfold RV at hu hv
    rw[QgF hl]at hu
    rw[QgF hm]at hv
    obtain⟨cu,ru,rfl⟩:=hu
    obtain⟨cv,rv,rfl⟩:=hv
    exact Qol hfs (QuE hT f fs l m b cu cv d h (Qaf hT hl ru) (Qaf hT hm rv) (by omega))
   ·cases h
  ·split at h
   ·rename_i k x k' y
    split at h
    ·rename_i kk hk
     cases hb:(sameKind kk k&&sameKind k k')with
     |false=>rw[hb]at h;cases h
     |true=>
      rw[hb]at h
      rw[Qd]at hb
      obtain rfl:=YY hb.1
      obtain rfl:=YY hb.2
      simp only[Qg,Qa]at h
      subst h
      obtain rfl:=XL hu
      obtain rfl:=XL hv
      exact QpI hk
    ·cases h
   ·rename_i k n x k' n' y
    split at h
    ·rename_i N kk f' hA
     cases hb:(Nat.beq N n&&sameKind kk k)with
     |false=>rw[hb]at h;cases h
     | true=>
      rw[hb]at h
      rw[Qd]at hb
      obtain rfl:=Qc hb.1
      obtain rfl:=YY hb.2
      simp only[Qg]at h
      split at h
      ·rename_i y' hy
       simp only[Qa]at h
       subst h
       obtain⟨e,hy⟩:=Ql5 hy
       cases e
       have hy:y=y':=hy
       subst hy
       obtain⟨cu,ru,rfl⟩:=hu
       obtain⟨cv,rv,rfl⟩:=hv
       have ru:cu=Ya _ _ x:=ru
       have rv:cv=Ya _ _ y:=rv
       subst ru rv
       cases d with
       |zero=>omega
       |succ d=>exact Qvd hA
      ·cases h
    ·cases h
   ·split at h
    ·rename_i c1 c2 h1 h2
     cases hb:boolT P t with
     |false=>rw[hb]at h;cases h
     |true=>
      rw[hb]at h
      simp only[Qg,Qa]at h
      subst h
      obtain rfl:=QfV h1 hu
      obtain rfl:=QfV h2 hv
      exact QsJ hb
    ·cases h
theorem QuE(hT:TbOk T){P:Program}:∀(f:Nat) (fs:List Field) (l m:SV T) (b:Bool) (cu cv:List Value) (d:Nat),eqF P f fs l m=some b→RX ρ D l false cu→RX ρ D m false cv→f≤d→EqFs P d cu cv fs b
 |0,_,_,_,_,_,_,_,h,_,_,_=>by simp only[eqF,reduceCtorEq]at h
 |f+1, [],l,m,b,cu,cv,d,h,_,_,_=>by
  simp only[eqF,Qa]at h
  exact h.symm
 | f +1,x::fs,l,m,b,cu,cv,d,h,hu,hv,hd=>by
  unfold eqF at h
  split at h
  ·rename_i sz ag hts
   split at h
   ·rename_i u v h1 h2
    split at h
    ·rename_i b1 b2 h3 h4
     cases hb:(x.name== "_")with
     |true=>rw[hb]at h;cases h
     |false=>
      rw[hb]at h
      simp only[Qh,Qa]at h
      obtain⟨a1,a2,a3,_⟩:=Qdj hT _ _ _ _ _ _ _ h1 hu
      obtain⟨c1,c2,c3,_⟩:=Qdj hT _ _ _ _ _ _ _ h2 hv
      obtain⟨vu,g1,g2⟩:=Qbn (cu:= []) hts a1 a2 a3
      obtain⟨vv,g3,g4⟩:=Qbn (cu:= []) hts c1 c2 c3
      exact⟨vu,vv,b1,b2,hb,g1,g3,QuD hT f x.type u v b1 vu vv d h3 g2 g4 (by omega),QuE hT f fs l m b2 cu cv d h4 hu hv (by omega),h.symm⟩
    ·cases h
   ·cases h
  ·cases h
end
theorem QvD{u:SV T}{b:Bool}{v:Value}(h:nilP u=some b)(hv:RV ρ D u v):∃A,v= .pointer A∧A.isNone=b:=by
 unfold nilP at h
 split at h<;>first|(cases h;done)|(simp only[Qa]at h;subst h)
 ·have hv: [v]= [Value.pointer none]:=hv
  cases hv;exact⟨none,rfl,rfl⟩
 ·obtain⟨n,_,e⟩:=Yn rfl hv;cases e;exact⟨_,rfl,rfl⟩
 ·obtain⟨b,off,e,_⟩:=Yn rfl hv;cases e;exact⟨_,rfl,rfl⟩
 ·obtain⟨m,_,e,_⟩:=Yn rfl hv;cases e;exact⟨_,rfl,rfl⟩
 ·obtain⟨m,_,e,_⟩:=Yn rfl hv;cases e;exact⟨_,rfl,rfl⟩
theorem Qw2{P:Program}{t:TypeId}{x y:Operand}(hT:sliceT P t=true)(w:World):(do eqGuard .neq t x y (.slice none 0 0) (.slice none 0 0);binOp .neq t (.slice none 0 0) (.slice none 0 0):Sem Value).run P w= .ok (.bool (!true)) w:=by
 obtain⟨e,he⟩:=Qdf hT
 refine Xn (jm trivial) (fun w=> ?_) w
 show(do pure (.bool (!(←Op.equal t (.slice none 0 0) (.slice none 0 0)))):Sem Value).run P w=_
 rw[yU,Op.equalIn]
 simp[Ql he]
theorem Qqd(hT:TbOk T){P:Program}{t:TypeId}{x y:SV T}{vx vy:Value}{sv:SV T}(h:eqqS P t x y=some sv)(hx:RV ρ D x vx)(hy:RV ρ D y vy)(ox oy:Operand):
  ∃b,(sv= .kb b∨sv= .dt .bool b)∧(∀w,(do eqGuard .eql t ox oy vx vy;binOp .eql t vx vy:Sem Value).run P w= .ok (.bool b) w)∧(∀w,(do eqGuard .neq t ox oy vx vy;binOp .neq t vx vy:Sem Value).run P w= .ok (.bool (!b)) w):=by
 unfold eqqS at h
 split at h
 ·rename_i b c h1 h2
  cases hb:boolT P t with
  |false=>rw[hb]at h;cases h
  |true=>
   rw[hb]at h
   simp only[Qg,Qa]at h
   subst h
   obtain rfl:=QfV h1 hx
   obtain rfl:=QfV h2 hy
   exact⟨_,.inr rfl,Qvb hb _ _,Qvc hb _ _⟩
 ·split at h
  ·rename_i b h1 _
   cases hb:ptrT P t with
   |false=>rw[hb]at h;cases h
   |true=>
    rw[hb]at h
    simp only[Qg,Qa]at h
    subst h
    obtain⟨A,rfl,rfl⟩:=QvD h1 hx
    have hy: [vy]= [Value.pointer none]:=hy
    cases hy
    exact⟨_,.inl rfl,QpG hb _,QpH hb _⟩
  ·split at h
   ·cases hb:sliceT P t with
    |false=>rw[hb]at h;cases h
    |true=>
     rw[hb]at h
     simp only[Qg,Qa]at h
     subst h
     have hx: [vx]= [Value.slice none 0 0]:=hx
     have hy: [vy]= [Value.slice none 0 0]:=hy
     cases hx
     cases hy
     exact⟨true,.inl rfl,QbU hb _ _ _,Qw2 hb⟩
   ·rename_i y q1 q2 q3 q4 q5 q6 q7
    cases hb:(agS x&&(agS y&& !P.eqGuardType P.depth t))with
    |false=>rw[hb]at h;cases h
    | true=>
     rw[hb]at h
     simp only[Qg]at h
     split at h
     ·rename_i b hE
      simp only[Qa]at h
      subst h
      rw[Qd,Qd,Bool.not_eq_true']at hb
      have hR:=QuD hT 100 t _ _ b vx vy (9999+1) hE hx hy (by omega)
      unfold RV at hx hy
      rw[hb.1]at hx
      rw[hb.2.1]at hy
      obtain⟨cx,_,rfl⟩:=hx
      obtain⟨cy,_,rfl⟩:=hy
      exact⟨b,.inr rfl,QpJ hb.2.2 hR,QpK hb.2.2 hR⟩
     ·cases h
theorem Qqe{P:Program}{op:BinOp}{a b:ByteArray}{e:Bool}(h:strS op a b=some e)(w:World):(Op.stringOp op a b).run P w= .ok (.bool e) w∧op≠ .shl∧op≠ .shr:=by
 unfold strS at h
 split at h<;>first|(cases h;done)|(simp only[Qa]at h;subst h;exact⟨rfl,by simp,by simp⟩)
theorem Qw3(hC:CxOk C ct)(h:RSx ct ρ D Lv R s a w)(du:Du ct ops i o a (some d)){op:BinOp}{t t':TypeId}{x y:Operand}(hop:o.op= .binOp op t x y t')(hs:(binD C s d op t x y t').run k=some r)
  (hk:∀s' a',Ext s s'→k s'=some r→RS ct s' a' w→Cn a' w):Op1 C.P rd ops Q i Cn a w:=by
 unfold binD at hs
 split at hs
 ·rename_i u v hu hv
  obtain⟨vu,e1,r1⟩:=YC hC h hu
  obtain⟨vv,e2,r2⟩:=YC hC h hv
  unfold binS at hs
  split at hs
  ·rename_i sa sb
   split at hs
   ·rename_i e he
    have r1: [vu]= [Value.string sa]:=r1
    have r2: [vv]= [Value.string sb]:=r2
    cases r1
    cases r2
    exact Xv h (Qdx (r:= .bool e) du.ho hop du.hg du.hd h.env du.lt e1 e2 (fun w=>QsI _ _ w _ (Qqe (P:=C.P) he w).1 (Qqe (P:=C.P) he w).2) fun a' hE=>hk _ a' (Ext.put _ _ _) hs (h.slot du (YV rfl rfl) hE))
   ·cases hs
  ·rename_i ku x1 kv y1
   obtain rfl:=XL r1
   obtain rfl:=XL r2
   have tkb:∀(z:Value) (sv:SV T),(∀w,(do eqGuard op t x y (.int ku x1) (.int kv y1);binOp op t (.int ku x1) (.int kv y1):Sem Value).run C.P w= .ok z w)→RV ρ D sv z→k (s.put (some d) sv)=some r→Op1 C.P rd ops Q i Cn a w:=fun z sv hz hr hkk=>
    Xv h (Qdx (r:=z) du.ho hop du.hg du.hd h.env du.lt e1 e2 hz fun a' hE=>hk _ a' (Ext.put _ _ _) hkk (h.slot du hr hE))
   split at hs
   ·obtain⟨hb,hs⟩:=XB hs
    exact tkb _ _ (Qvi (by simpa using hb)) (RV_i _ _) hs
   ·obtain⟨hb,hs⟩:=XB hs
    exact tkb _ _ (Qvj (by simpa using hb)) (RV_i _ _) hs
   ·cases hsk:sameKind ku kv with
    |false=>rw[hsk]at hs;cases hs
    |true=>
     rw[hsk]at hs
     obtain rfl:=YY hsk
     obtain⟨hb,hs⟩:=XB hs
     exact tkb _ _ (Qvh (by simpa using hb)) (RV_i _ _) hs
   ·cases hsk:sameKind ku kv with
    |false=>rw[hsk]at hs;cases hs
    |true=>
     rw[hsk]at hs
     obtain rfl:=YY hsk
     obtain⟨hb,hs⟩:=XB hs
     exact tkb _ _ (Qvg (by simpa using hb)) (RV_i _ _) hs
   ·rename_i n1 n2 n3 n4
    cases hsk:sameKind ku kv with
    |false=>rw[hsk]at hs;cases hs
    | true=>
     rw[hsk]at hs
     simp only[Qg]at hs
     split at hs
     ·rename_i z hz
      split at hs
      ·rename_i sv hsv
       refine pure_ok h du (nsrc (by rw[hop];intro _ _ _ e;cases e)) (v:=z) ?_ (Qw1 hsv) fun a' h'=>hk _ _ (Ext.put _ _ _) hs h'
       rw[hop]
       simp only[yQ,e1,e2]
       cases op<;>first|exact absurd rfl n1|exact absurd rfl n2|exact absurd rfl n3|exact absurd rfl n4|(simp only[pBin,hsk,Qg];exact hz)
      ·cases hs
     ·cases hs
  ·split at hs
   ·split at hs
    ·rename_i sv hsv
     obtain⟨b,hb,h1,h2⟩:=Qqd hC.tb hsv r1 r2 x y
     refine Xv h (Qdx (r:= .bool b) du.ho hop du.hg du.hd h.env du.lt e1 e2 h1 fun a' hE=>hk _ a' (Ext.put _ _ _) hs (h.slot du ?_ hE))
     rcases hb with rfl|rfl<;>exact YV rfl rfl
    ·cases hs
   ·split at hs
    ·rename_i sv hsv
     obtain⟨b,hb,h1,h2⟩:=Qqd hC.tb hsv r1 r2 x y
     refine Xv h (Qdx (r:= .bool (!b)) du.ho hop du.hg du.hd h.env du.lt e1 e2 h2 fun a' hE=>hk _ a' (Ext.put _ _ _) hs (h.slot du ?_ hE))
     rcases hb with rfl|rfl<;>exact YV rfl rfl
    ·cases hs
   ·cases hs
 ·cases hs
theorem un_ok(hC:CxOk C ct)(h:RSx ct ρ D Lv R s a w)(du:Du ct ops i o a (some d)){op:UnOp}{t:TypeId}{x:Operand}{ty:TypeId}(hop:o.op= .unOp op t x)(hs:(sopD C s d ty (.unOp op t x)).run k=some r)
  (hk:∀s' a',Ext s s'→k s'=some r→RS ct s' a' w→Cn a' w):Op1 C.P rd ops Q i Cn a w:=by
 simp only[sopD]at hs
 split at hs
 ·rename_i u hu
  obtain⟨vu,e1,r1⟩:=YC hC h hu
  obtain⟨sv,h1,h2⟩:=Zv hs
  have key:∀z,pUn op vu=some z→RV ρ D sv z→Op1 C.P rd ops Q i Cn a w:=fun z hz hr=>
   pure_ok h du (nsrc (by rw[hop];intro _ _ _ e;cases e)) (v:=z) (by rw[hop];simp only[yQ,e1];exact hz) hr fun a' h'=>hk _ _ (Ext.put _ _ _) h2 h'
  unfold unS at h1
  split at h1
  ·simp only[Qa]at h1;subst h1
   obtain rfl:=Ql4 r1
   exact key _ rfl (YV rfl rfl)
  ·simp only[Qa]at h1;subst h1
   obtain rfl:=Qi1 r1
   exact key _ rfl (YV rfl rfl)
  ·simp only[Qa]at h1;subst h1
   obtain rfl:=XL r1
   exact key _ rfl (YV rfl rfl)
  ·simp only[Qa]at h1;subst h1
   obtain rfl:=XL r1
   exact key _ rfl (YV rfl rfl)
  ·cases h1
 ·cases hs
theorem Qqf:∀{l:SV T} {n:Nat} {u:SV T} {vs:List Value},nthL l n=some u→RX ρ D l true vs→∃v,vs[n]?=some v∧RV ρ D u v
 | .cs x l,0,u,vs,h,⟨v,c2,e,h1,_⟩=>by
  simp only[nthL,Qa]at h
  subst h e
  exact⟨v,rfl,h1⟩
 | .cs x l,n+1,u,vs,h,⟨v,c2,e,_,h2⟩=>by
  subst e
  obtain⟨z,h3,h4⟩:=Qqf (l:=l) (n:=n) h h2
  exact⟨z,by simpa using h3,h4⟩
 | .dt _ _,_,_,_,h,_=>by cases h
 | .kb _,_,_,_,h,_=>by cases h
 | .raw _,_,_,_,h,_=>by cases h
 | .nils,_,_,_,h,_=>by cases h
 | .agg _,_,_,_,h,_=>by cases h
 | .tup _,_,_,_,h,_=>by cases h
 | .fn _ _,_,_,_,h,_=>by cases h
 | .nl,_,_,_,h,_=>by cases h
 | .ptr _ _,_,_,_,h,_=>by cases h
 | .cell _ _,_,_,_,h,_=>by cases h
 | .own _,_,_,_,h,_=>by cases h
 | .elt _ _ _ _,_,_,_,h,_=>by cases h
 | .ela _ _ _ _ _,_,_,_,h,_=>by cases h
 | .eva _ _ _ _ _ _,_,_,_,h,_=>by cases h
 | .sla _ _ _ _,_,_,_,h,_=>by cases h
theorem Qw4(hC:CxOk C ct)(h:RSx ct ρ D Lv R s a w)(du:Du ct ops i o a (some d)){x:Operand}{n:Nat}{ty:TypeId}(hop:o.op= .extract x n)(hs:(sopD C s d ty (.extract x n)).run k=some r)
  (hk:∀s' a',Ext s s'→k s'=some r→RS ct s' a' w→Cn a' w):Op1 C.P rd ops Q i Cn a w:=by
 simp only[sopD]at hs
 split at hs
 ·rename_i l hl
  obtain⟨vu,e1,r1⟩:=YC hC h hl
  obtain⟨sv,h1,h2⟩:=Zv hs
  obtain⟨vs,h3,h4⟩:=Yn rfl r1
  simp only[List.cons.injEq,and_true]at h4
  subst h4
  obtain⟨v,h5,h6⟩:=Qqf h1 h3
  refine pure_ok h du (nsrc (by rw[hop];intro _ _ _ e;cases e)) (v:=v) (by rw[hop];simp only[yQ,e1];simpa using h5) h6 fun a' h'=>hk _ _ (Ext.put _ _ _) h2 h'
 ·cases hs
theorem Qw5(hC:CxOk C ct)(h:RSx ct ρ D Lv R s a w)(du:Du ct ops i o a (some d)){f:Fn}{fs cs:Array Operand}{ty:TypeId}(hop:o.op= .makeFunc f fs cs)(hs:(sopD C s d ty (.makeFunc f fs cs)).run k=some r)
  (hk:∀s' a',Ext s s'→k s'=some r→RS ct s' a' w→Cn a' w):Op1 C.P rd ops Q i Cn a w:=by
 cases f<;>simp only[sopD]at hs
 ·rename_i f
  split at hs
  ·rename_i l hfs hl
   cases hb:Nat.ble 1000000000 f with
   |true=>rw[hb]at hs;cases hs
   |false=>
    rw[hb]at hs
    obtain⟨vs,e1,r1⟩:=Qio hC h hl
    refine pure_ok h du (nsrc (by rw[hop];intro _ _ _ e;cases e)) (v:= .func (.func f) #[] vs.toArray) (by rw[hop];simp only[yQ,hfs,JC,e1]) (YV (sv:= .fn f l) rfl ⟨vs,r1,by unfold fnV;rw[hb];rfl⟩) fun a' h'=>hk _ _ (Ext.put _ _ _) hs h'
  ·rename_i x xs hfs hl
   split at hs
   ·rename_i l hl2
    obtain⟨vs0,e0,r0⟩:=Qio hC h hl
    have r0:vs0= []:=r0
    subst r0
    obtain⟨vs,e1,r1⟩:=Qio hC h hl2
    have hb:Nat.ble 1000000000 (f+1000000000)=true:=Qfs (Nat.le_add_left _ _)
    refine pure_ok h du (nsrc (by rw[hop];intro _ _ _ e;cases e)) (v:= .func (.func f) vs.toArray #[]) (by rw[hop];simp only[yQ,hfs,e0,e1]) (YV (sv:= .fn (f+1000000000) l) rfl ⟨vs,r1,by unfold fnV;rw[hb];simp⟩) fun a' h'=>hk _ _ (Ext.put _ _ _) hs h'
   ·cases hs
  ·cases hs
 all_goals cases hs
theorem Qw6(hC:CxOk C ct)(h:RSx ct ρ D Lv R s a w)(du:Du ct ops i o a (some d)){x:Operand}{ty:TypeId}(hop:o.op= .nilCheck x)(hs:(sopD C s d ty (.nilCheck x)).run k=some r)
  (hk:∀s' a',Ext s s'→k s'=some r→RS ct s' a' w→Cn a' w):Op1 C.P rd ops Q i Cn a w:=by
 simp only[sopD]at hs
 split at hs
 ·rename_i u hu
  obtain⟨v,e1,r1⟩:=YC hC h hu
  cases hn:nilS u with
  |false=>rw[hn]at hs;cases hs
  |true=>
   rw[hn]at hs
   refine pure_ok h du (nsrc (by rw[hop];intro _ _ _ e;cases e)) (v:=v) ?_ r1 fun a' h'=>hk _ _ (Ext.put _ _ _) hs h'
   rw[hop]
   simp only[yQ,e1]
   cases u<;>first|(cases hn;done)|skip
   ·obtain⟨vs,_,e⟩:=Yn rfl r1;cases e;rcases QgA _ vs with e'|e'<;>rw[e']
   ·obtain⟨n,_,e⟩:=Yn rfl r1;cases e;rfl
   ·obtain⟨b,off,e,_⟩:=Yn rfl r1;cases e;rfl
   ·obtain⟨b,_,_,_,e,_⟩:=Yn rfl r1;cases e;rfl
 ·cases hs
theorem RSx.blk{id ver:Nat}{b:SB T}(h:RSx ct ρ D Lv R s a w)(hl:lookA s.L id=some (ver,b)):∃q,RBk ρ D id b q∧∃X Y,Lv=X++q::Y:=by
 obtain⟨X,q,Y,e,h1,_⟩:=qJ h.l hl
 exact⟨q,h1,X,Y,e⟩
theorem Qw7(hC:CxOk C ct)(h:RSx ct ρ D Lv R s a w)(du:Du ct ops i o a (some d)){xs:Array Operand}{ts:Array TypeId}{x:Operand}{t:TypeId}(hop:o.op= .call {callee:= .builtin .len,args:=xs,argTypes:=ts})(hxs:xs.toList= [x])(hts:ts.toList= [t])
  {u:SV T} (hu:evS C s t x=some u) (hs:(okO s d (lenO C.P s t u)).run k=some r)
  (hk:∀s' a',Ext s s'→k s'=some r→RS ct s' a' w→Cn a' w):Op1 C.P rd ops Q i Cn a w:=by
 obtain⟨v,e1,r1⟩:=YC hC h hu
 obtain⟨sv,h1,h2⟩:=Zv hs
 have key:∀(m:Nat),(∃A c,v= .slice A m c∧Qa2 C.P t=true)∨(∃z,v= .string z∧m=z.size∧Qaz C.P t=true)→sv= .dt (.int .i64) (m:Int)→Op1 C.P rd ops Q i Cn a w:=by
  rintro m hm rfl
  refine pure_ok h du (nsrc (by rw[hop];intro _ _ _ e;cases e)) (v:= .int .i64 (m:Int)) ?_ (RV_i _ _) fun a' h'=>hk _ _ (Ext.put _ _ _) h2 h'
  rw[hop]
  rcases hm with⟨A,c,rfl,ht⟩|⟨z,rfl,rfl,ht⟩
  ·simp only[yQ,hxs,hts,e1,ht,Qg]
  ·simp only[yQ,hxs,hts,e1,ht,Qg]
 have sl:∀n,lenS s u=some n→(∀z,u≠ .dt .str z)→Qa2 C.P t=true∧sv= .dt (.int .i64) n:=by
  intro n hn hne
  unfold lenO at h1
  rw[hn]at h1
  split at h1
  ·rename_i e1 e2;exact absurd rfl (hne _)
  ·rename_i e1 e2 e3
   cases hb:Qa2 C.P t with
   |false=>rw[hb]at h1;cases h1
   |true=>
    rw[hb]at h1
    simp only[Qa]at e2
    simp only[Qg,Qa]at h1
    subst e2
    exact⟨rfl,h1.symm⟩
  ·cases h1
 cases hls:lenS s u with
 |none=>unfold lenO at h1;rw[hls]at h1;cases h1
 | some n=>
  have hls':=hls
  unfold lenS at hls
  split at hls
  ·simp only[Qa]at hls
   subst hls
   obtain⟨A,c,e,_⟩:=Yn rfl r1
   cases e
   obtain⟨h3,h4⟩:=sl _ hls' (fun z e=>by cases e)
   exact key _ (.inl ⟨A,c,rfl,h3⟩) h4
  ·rename_i z
   simp only[Qa]at hls
   subst hls
   have e: [v]= [Value.string z]:=r1
   cases e
   unfold lenO at h1
   rw[hls']at h1
   cases hb:Qaz C.P t with
   |false=>simp only[hb,Qh]at h1;cases h1
   |true=>
    simp only[hb,Qg,Qa]at h1
    exact key _ (.inr ⟨z,rfl,rfl,hb⟩) h1.symm
  ·simp only[Qa]at hls
   subst hls
   have e: [v]= [Value.slice none 0 0]:=r1
   cases e
   obtain⟨h3,h4⟩:=sl _ hls' (fun z e=>by cases e)
   exact key 0 (.inl ⟨none,0,rfl,h3⟩) h4
  ·rename_i oid
   split at hls
   ·rename_i ver y e xs f hlk
    simp only[Qa]at hls
    subst hls
    obtain⟨A,cap,len,h5,e5⟩:=Yn rfl r1
    cases e5
    obtain⟨q,hq,_⟩:=h.blk hlk
    obtain⟨A',cap',h6,_⟩:=hq
    rw[h5]at h6
    cases h6
    obtain⟨h3,h4⟩:=sl _ hls' (fun z e=>by cases e)
    exact key _ (.inl ⟨A,cap,rfl,h3⟩) h4
   ·rename_i ver y xs hlk
    simp only[Qa]at hls
    subst hls
    obtain⟨A,cap,len,h5,e5⟩:=Yn rfl r1
    cases e5
    obtain⟨q,hq,_⟩:=h.blk hlk
    obtain⟨A',cap',h6,_⟩:=hq
    rw[h5]at h6
    cases h6
    obtain⟨h3,h4⟩:=sl _ hls' (fun z e=>by cases e)
    exact key _ (.inl ⟨A,cap,rfl,h3⟩) h4
   ·cases hls
  ·cases hls
theorem Qw8(hC:CxOk C ct)(h:RSx ct ρ D Lv R s a w)(du:Du ct ops i o a (some d)){xs:Array Operand}{ts:Array TypeId}{x y:Operand}(hop:o.op= .call {callee:= .builtin .max,args:=xs,argTypes:=ts})(hxs:xs.toList= [x,y])
  {k1 k2:IntKind} {m n:Int} (hx:evS C s 0 x=some (.dt (.int k1) m)) (hy:evS C s 0 y=some (.dt (.int k2) n)) (hs:k (s.put (some d) (.dt (.int k1) (maxI m n)))=some r)
  (hk:∀s' a',Ext s s'→k s'=some r→RS ct s' a' w→Cn a' w):Op1 C.P rd ops Q i Cn a w:=by
 obtain⟨v,e1,r1⟩:=YC hC h hx
 obtain⟨u,e2,r2⟩:=YC hC h hy
 obtain rfl:=XL r1
 obtain rfl:=XL r2
 refine pure_ok h du (nsrc (by rw[hop];intro _ _ _ e;cases e)) (v:= .int k1 (maxI m n)) (by rw[hop];simp only[yQ,hxs,e1,e2]) (RV_i _ _) fun a' h'=>hk _ _ (Ext.put _ _ _) hs h'
theorem Qw9(hC:CxOk C ct)(h:RSx ct ρ D Lv R s a w)(du:Du ct ops i o a (some d)){xs:Array Operand}{ts:Array TypeId}{x y:Operand}(hop:o.op= .call {callee:= .builtin .min,args:=xs,argTypes:=ts})(hxs:xs.toList= [x,y])
  {k1 k2:IntKind} {m n:Int} (hx:evS C s 0 x=some (.dt (.int k1) m)) (hy:evS C s 0 y=some (.dt (.int k2) n)) (hs:k (s.put (some d) (.dt (.int k1) (minI m n)))=some r)
  (hk:∀s' a',Ext s s'→k s'=some r→RS ct s' a' w→Cn a' w):Op1 C.P rd ops Q i Cn a w:=by
 obtain⟨v,e1,r1⟩:=YC hC h hx
 obtain⟨u,e2,r2⟩:=YC hC h hy
 obtain rfl:=XL r1
 obtain rfl:=XL r2
 refine pure_ok h du (nsrc (by rw[hop];intro _ _ _ e;cases e)) (v:= .int k1 (minI m n)) (by rw[hop];simp only[yQ,hxs,e1,e2]) (RV_i _ _) fun a' h'=>hk _ _ (Ext.put _ _ _) hs h'
end
end Go.Sep
