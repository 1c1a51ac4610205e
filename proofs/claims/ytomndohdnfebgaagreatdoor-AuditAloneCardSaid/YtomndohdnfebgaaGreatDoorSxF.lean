/-
 Symbolic execution: variables are made, read and written.
-/
import Derived.Test.YtomndohdnfebgaaGreatDoorSxD
set_option linter.unusedVariables false
set_option linter.unusedSimpArgs false
namespace Go.Sep
section
variable {T:Tb}{C:Cx T}{ct:Ct}{ρ:Rho}{D:Snap}{Lv R:List Blk}{s:SS T}{a:Act}{w:World}
variable {rd:Option Nat}{ops:Array Oper}{Q:Exit→Act→World→Prop}{i:Nat}{o:Oper}{d:Tmp}{Cn:Act→World→Prop}{α:Type}{k:SS T→Option α}{r:α}
structure Du(ct:Ct)(ops:Array Oper)(i:Nat)(o:Oper)(a:Act)(d:Option Tmp):Prop where
 ho:ops[i]?=some o
 hg:guardOf ops (EvA a) o=some true
 hd:o.dst=d
 ok:JX ct.n d=true
 fr:∀x,d=some x→ ¬ct.fr.t x
theorem Du.lt(h:Du ct ops i o a (some d)):Nat.blt d ct.n=true:=h.ok
theorem val_ok{sv:SV T}{v:Value}(h:RSx ct ρ D Lv R s a w)(du:Du ct ops i o a (some d))(hnd:Q7 o.op=true)(hr:(execOp a.eval o).run C.P w= .ok (.value v) w)(hv:RV ρ D sv v)
  (hk:∀a',RS ct (s.put (some d) sv) a' w→Cn a' w):Op1 C.P rd ops Q i Cn a w:=
 ZB h.env du.ho du.hg (by rw[du.hd];exact du.ok) hnd hr fun a' hE=>hk a' ⟨ρ,D,Lv,R,h.put (fun _ _=>hv) du.fr (by rw[du.hd]at hE;exact hE)⟩
theorem pure_ok{sv:SV T}{v:Value}(h:RSx ct ρ D Lv R s a w)(du:Du ct ops i o a (some d))(hsrc:∀s' t x,o.op= .convert s' t x→(C.P.underlying s').isSome=true)(hp:Xi C.P (EvA a) o.op=some v)(hv:RV ρ D sv v)
  (hk:∀a',RS ct (s.put (some d) sv) a' w→Cn a' w):Op1 C.P rd ops Q i Cn a w:=
 val_ok h du (Qba (P:=C.P) (w:=w) h.env hsrc hp).2 (Qba h.env hsrc hp).1 hv hk
theorem XP{C1:Act→World→Prop}(h:RSx ct ρ D Lv R s a w)(ht:Tk C.P ops (qG []) i ct.n a.defers (EvA a) a w (fun a=>C1 a w)):Op1 C.P rd ops Q i C1 a w:=Qbw h.env ht
theorem RSx.slot{sv:SV T}{v:Value}{a':Act}(h:RSx ct ρ D Lv R s a w)(du:Du ct ops i o a (some d))(hv:RV ρ D sv v)(hE:Env a' ct.n a.defers ((d,v)::EvA a)):RS ct (s.put (some d) sv) a' w:=
 ⟨ρ,D,Lv,R,h.put (fun _ _=>hv) du.fr hE⟩
theorem RV_i(k:IntKind)(x:Int):RV ρ D (.dt (.int k) x:SV T) (.int k x):=Y5 rfl rfl
theorem X8{k:IntKind}{x:Int}{v:Value}(h:RV ρ D (.dt (.int k) x:SV T) v):v= .int k x:=by
 have h: [v]= [Value.int k x]:=h
 simpa using h
theorem Qj7{x:Bool}{v:Value}(h:RV ρ D (.dt .bool x:SV T) v):v= .bool x:=by
 have h: [v]= [Value.bool x]:=h
 simpa using h
theorem Qne{x:Bool}{v:Value}(h:RV ρ D (.kb x:SV T) v):v= .bool x:=by
 have h: [v]= [Value.bool x]:=h
 simpa using h
theorem Qyr{v:Value}{sv:SV T}(h:ofV v=some sv):RV ρ D sv v:=by
 unfold ofV at h
 split at h<;>first|(simp only[Qa]at h;subst h;exact rfl)|cases h
theorem ZZ{x:Option (SV T)}(h:(okO s d x).run k=some r):∃v,x=some v∧k (s.put (some d) v)=some r:=by
 cases x with
 |none=>cases h
 |some v=>exact⟨v,rfl,h⟩
theorem nsrc{op:Op}(h:∀s' t x,op≠ .convert s' t x):∀s' t x,op= .convert s' t x→(C.P.underlying s').isSome=true:=fun s' t x e=>absurd e (h s' t x)
theorem QrA(hC:CxOk C ct)(h:RSx ct ρ D Lv R s a w)(du:Du ct ops i o a (some d)){x:Operand}{ty:TypeId}(hop:o.op= .move x∨o.op= .assign x)(hs:(okO s d (evS C s ty x)).run k=some r)
  (hk:∀s' a',Ext s s'→k s'=some r→RS ct s' a' w→Cn a' w):Op1 C.P rd ops Q i Cn a w:=by
 obtain⟨sv,h1,h2⟩:=ZZ hs
 obtain⟨v,e1,r1⟩:=YJ hC h h1
 refine pure_ok h du (nsrc (by rcases hop with e|e<;>(rw[e];intro _ _ _ e;cases e))) (v:=v) ?_ r1 fun a' h'=>hk _ _ (Ext.put _ _ _) h2 h'
 rcases hop with e|e<;>(rw[e];exact e1)
theorem QwV(hC:CxOk C ct)(h:RSx ct ρ D Lv R s a w)(du:Du ct ops i o a (some d)){c x y:Operand}{ty:TypeId}(hop:o.op= .pick c x y)(hs:(sopD C s d ty (.pick c x y)).run k=some r)
  (hk:∀s' a',Ext s s'→k s'=some r→RS ct s' a' w→Cn a' w):Op1 C.P rd ops Q i Cn a w:=by
 simp only[sopD]at hs
 split at hs
 ·rename_i hc
  obtain⟨sv,h1,h2⟩:=ZZ hs
  obtain⟨v,e1,r1⟩:=YJ hC h h1
  obtain⟨b,e2,r2⟩:=YJ hC h hc
  obtain rfl:=Qne r2
  refine pure_ok h du (nsrc (by rw[hop];intro _ _ _ e;cases e)) (v:=v) ?_ r1 fun a' h'=>hk _ _ (Ext.put _ _ _) h2 h'
  rw[hop];simp only[Xi,e2,e1]
 ·rename_i hc
  obtain⟨sv,h1,h2⟩:=ZZ hs
  obtain⟨v,e1,r1⟩:=YJ hC h h1
  obtain⟨b,e2,r2⟩:=YJ hC h hc
  obtain rfl:=Qne r2
  refine pure_ok h du (nsrc (by rw[hop];intro _ _ _ e;cases e)) (v:=v) ?_ r1 fun a' h'=>hk _ _ (Ext.put _ _ _) h2 h'
  rw[hop];simp only[Xi,e2,e1]
 ·cases hs
theorem Qg0{u:SV T}{b:Bool}{v:Value}(h:QpQ u=some b)(hv:RV ρ D u v):v= .bool b:=by
 unfold QpQ at h
 split at h
 ·simp only[Qa]at h;subst h;exact Qne hv
 ·simp only[Qa]at h;subst h;exact Qj7 hv
 ·cases h
theorem QhK{v l:SV T}(h:Qfp v=some l):agS v=true:=by
 cases v with
 |agg u=>rfl
 |dt t x=>cases t<;>first|rfl|cases h
 |_=>cases h
theorem Qnf{t t':Ty}{x:den T.ty t}{y:den T.ty t'}(h:Qeo t t' x=some y):∃e:t=t',e▸x=y:=by
 unfold Qeo at h
 split at h
 ·rename_i hb
  simp only[Qa]at h
  exact⟨Ty.eq_of_beq hb,h⟩
 ·cases h
mutual
theorem QvT(hT:TbOk T){P:Program}:∀(f:Nat) (t:TypeId) (u v:SV T) (b:Bool) (vu vv:Value) (d:Nat),eqE P f t u v=some b→RV ρ D u vu→RV ρ D v vv→f≤d→EqR P d t vu vv b
 |0,_,_,_,_,_,_,_,h,_,_,_=>by simp only[eqE,reduceCtorEq]at h
 |f+1,t,u,v,b,vu,vv,0,h,_,_,hd=>by omega
 | f + 1,t,u,v,b,vu,vv,d+1,h,hu,hv,hd=>by
  unfold eqE at h
  split at h
  ·rename_i fs hfs
   split at h
   ·rename_i l m hl hm
    unfold RV at hu hv
    rw[QhK hl]at hu
    rw[QhK hm]at hv
    obtain⟨cu,ru,rfl⟩:=hu
    obtain⟨cv,rv,rfl⟩:=hv
    exact QpI hfs (QvU hT f fs l m b cu cv d h (QaI hT hl ru) (QaI hT hm rv) (by omega))
   ·cases h
  ·split at h
   ·rename_i k x k' y
    split at h
    ·rename_i kk hk
     cases hb:(sameKind kk k&&sameKind k k')with
     |false=>rw[hb]at h;cases h
     |true=>
      rw[hb]at h
      rw[Qd]at hb
      obtain rfl:=Y7 hb.1
      obtain rfl:=Y7 hb.2
      simp only[Qg,Qa]at h
      subst h
      obtain rfl:=X8 hu
      obtain rfl:=X8 hv
      exact Qq6 hk
    ·cases h
   ·rename_i k n x k' n' y
    split at h
    ·rename_i N kk f' hA
     cases hb:(Nat.beq N n&&sameKind kk k)with
     |false=>rw[hb]at h;cases h
     | true=>
      rw[hb]at h
      rw[Qd]at hb
      obtain rfl:=Qc hb.1
      obtain rfl:=Y7 hb.2
      simp only[Qg]at h
      split at h
      ·rename_i y' hy
       simp only[Qa]at h
       subst h
       obtain⟨e,hy⟩:=Qnf hy
       cases e
       have hy:y=y':=hy
       subst hy
       obtain⟨cu,ru,rfl⟩:=hu
       obtain⟨cv,rv,rfl⟩:=hv
       have ru:cu=Yj _ _ x:=ru
       have rv:cv=Yj _ _ y:=rv
       subst ru rv
       cases d with
       |zero=>omega
       |succ d=>exact Qwx hA
      ·cases h
    ·cases h
   ·split at h
    ·rename_i c1 c2 h1 h2
     cases hb:boolT P t with
     |false=>rw[hb]at h;cases h
     |true=>
      rw[hb]at h
      simp only[Qg,Qa]at h
      subst h
      obtain rfl:=Qg0 h1 hu
      obtain rfl:=Qg0 h2 hv
      exact Qt2 hb
    ·cases h
theorem QvU(hT:TbOk T){P:Program}:∀(f:Nat) (fs:List Field) (l m:SV T) (b:Bool) (cu cv:List Value) (d:Nat),eqF P f fs l m=some b→RX ρ D l false cu→RX ρ D m false cv→f≤d→EqFs P d cu cv fs b
 |0,_,_,_,_,_,_,_,h,_,_,_=>by simp only[eqF,reduceCtorEq]at h
 |f+1, [],l,m,b,cu,cv,d,h,_,_,_=>by
  simp only[eqF,Qa]at h
  exact h.symm
 | f +1,x::fs,l,m,b,cu,cv,d,h,hu,hv,hd=>by
  unfold eqF at h
  split at h
  ·rename_i sz ag hts
   split at h
   ·rename_i u v h1 h2
    split at h
    ·rename_i b1 b2 h3 h4
     cases hb:(x.name== "_")with
     |true=>rw[hb]at h;cases h
     |false=>
      rw[hb]at h
      simp only[Qh,Qa]at h
      obtain⟨a1,a2,a3,_⟩:=Qd6 hT _ _ _ _ _ _ _ h1 hu
      obtain⟨c1,c2,c3,_⟩:=Qd6 hT _ _ _ _ _ _ _ h2 hv
      obtain⟨vu,g1,g2⟩:=QbR (cu:= []) hts a1 a2 a3
      obtain⟨vv,g3,g4⟩:=QbR (cu:= []) hts c1 c2 c3
      exact⟨vu,vv,b1,b2,hb,g1,g3,QvT hT f x.type u v b1 vu vv d h3 g2 g4 (by omega),QvU hT f fs l m b2 cu cv d h4 hu hv (by omega),h.symm⟩
    ·cases h
   ·cases h
  ·cases h
end
theorem QwW{u:SV T}{b:Bool}{v:Value}(h:nilP u=some b)(hv:RV ρ D u v):∃A,v= .pointer A∧A.isNone=b:=by
 unfold nilP at h
 split at h<;>first|(cases h;done)|(simp only[Qa]at h;subst h)
 ·have hv: [v]= [Value.pointer none]:=hv
  cases hv;exact⟨none,rfl,rfl⟩
 ·obtain⟨n,_,e⟩:=Yx rfl hv;cases e;exact⟨_,rfl,rfl⟩
 ·obtain⟨b,off,e,_⟩:=Yx rfl hv;cases e;exact⟨_,rfl,rfl⟩
 ·obtain⟨m,_,e,_⟩:=Yx rfl hv;cases e;exact⟨_,rfl,rfl⟩
 ·obtain⟨m,_,e,_⟩:=Yx rfl hv;cases e;exact⟨_,rfl,rfl⟩
theorem Qys{P:Program}{t:TypeId}{x y:Operand}(hT:sliceT P t=true)(w:World):(do eqGuard .neq t x y (.slice none 0 0) (.slice none 0 0);binOp .neq t (.slice none 0 0) (.slice none 0 0):Sem Value).run P w= .ok (.bool (!true)) w:=by
 obtain⟨e,he⟩:=Qd1 hT
 refine XI (jP trivial) (fun w=> ?_) w
 show(do pure (.bool (!(←Op.equal t (.slice none 0 0) (.slice none 0 0)))):Sem Value).run P w=_
 rw[Xn,Op.equalIn]
 simp[Qm he]
theorem QrB(hT:TbOk T){P:Program}{t:TypeId}{x y:SV T}{vx vy:Value}{sv:SV T}(h:eqqS P t x y=some sv)(hx:RV ρ D x vx)(hy:RV ρ D y vy)(ox oy:Operand):
  ∃b,(sv= .kb b∨sv= .dt .bool b)∧(∀w,(do eqGuard .eql t ox oy vx vy;binOp .eql t vx vy:Sem Value).run P w= .ok (.bool b) w)∧(∀w,(do eqGuard .neq t ox oy vx vy;binOp .neq t vx vy:Sem Value).run P w= .ok (.bool (!b)) w):=by
 unfold eqqS at h
 split at h
 ·rename_i b c h1 h2
  cases hb:boolT P t with
  |false=>rw[hb]at h;cases h
  |true=>
   rw[hb]at h
   simp only[Qg,Qa]at h
   subst h
   obtain rfl:=Qg0 h1 hx
   obtain rfl:=Qg0 h2 hy
   exact⟨_,.inr rfl,Qwv hb _ _,Qww hb _ _⟩
 ·split at h
  ·rename_i b h1 _
   cases hb:ptrT P t with
   |false=>rw[hb]at h;cases h
   |true=>
    rw[hb]at h
    simp only[Qg,Qa]at h
    subst h
    obtain⟨A,rfl,rfl⟩:=QwW h1 hx
    have hy: [vy]= [Value.pointer none]:=hy
    cases hy
    exact⟨_,.inl rfl,Qq4 hb _,Qq5 hb _⟩
  ·split at h
   ·cases hb:sliceT P t with
    |false=>rw[hb]at h;cases h
    |true=>
     rw[hb]at h
     simp only[Qg,Qa]at h
     subst h
     have hx: [vx]= [Value.slice none 0 0]:=hx
     have hy: [vy]= [Value.slice none 0 0]:=hy
     cases hx
     cases hy
     exact⟨true,.inl rfl,QcG hb _ _ _,Qys hb⟩
   ·rename_i y q1 q2 q3 q4 q5 q6 q7
    cases hb:(agS x&&(agS y&& !P.eqGuardType P.depth t))with
    |false=>rw[hb]at h;cases h
    | true=>
     rw[hb]at h
     simp only[Qg]at h
     split at h
     ·rename_i b hE
      simp only[Qa]at h
      subst h
      rw[Qd,Qd,Bool.not_eq_true']at hb
      have hR:=QvT hT 100 t _ _ b vx vy (9999+1) hE hx hy (by omega)
      unfold RV at hx hy
      rw[hb.1]at hx
      rw[hb.2.1]at hy
      obtain⟨cx,_,rfl⟩:=hx
      obtain⟨cy,_,rfl⟩:=hy
      exact⟨b,.inr rfl,Qq7 hb.2.2 hR,Qq8 hb.2.2 hR⟩
     ·cases h
theorem QrC{P:Program}{op:BinOp}{a b:ByteArray}{e:Bool}(h:strS op a b=some e)(w:World):(Op.stringOp op a b).run P w= .ok (.bool e) w∧op≠ .shl∧op≠ .shr:=by
 unfold strS at h
 split at h<;>first|(cases h;done)|(simp only[Qa]at h;subst h;exact⟨rfl,by simp,by simp⟩)
theorem Qyt(hC:CxOk C ct)(h:RSx ct ρ D Lv R s a w)(du:Du ct ops i o a (some d)){op:BinOp}{t t':TypeId}{x y:Operand}(hop:o.op= .binOp op t x y t')(hs:(binD C s d op t x y t').run k=some r)
  (hk:∀s' a',Ext s s'→k s'=some r→RS ct s' a' w→Cn a' w):Op1 C.P rd ops Q i Cn a w:=by
 unfold binD at hs
 split at hs
 ·rename_i u v hu hv
  obtain⟨vu,e1,r1⟩:=YJ hC h hu
  obtain⟨vv,e2,r2⟩:=YJ hC h hv
  unfold binS at hs
  split at hs
  ·rename_i sa sb
   split at hs
   ·rename_i e he
    have r1: [vu]= [Value.string sa]:=r1
    have r2: [vv]= [Value.string sb]:=r2
    cases r1
    cases r2
    exact XP h (Qem (r:= .bool e) du.ho hop du.hg du.hd h.env du.lt e1 e2 (fun w=>Qt1 _ _ w _ (QrC (P:=C.P) he w).1 (QrC (P:=C.P) he w).2) fun a' hE=>hk _ a' (Ext.put _ _ _) hs (h.slot du (Y5 rfl rfl) hE))
   ·cases hs
  ·rename_i ku x1 kv y1
   obtain rfl:=X8 r1
   obtain rfl:=X8 r2
   have tkb:∀(z:Value) (sv:SV T),(∀w,(do eqGuard op t x y (.int ku x1) (.int kv y1);binOp op t (.int ku x1) (.int kv y1):Sem Value).run C.P w= .ok z w)→RV ρ D sv z→k (s.put (some d) sv)=some r→Op1 C.P rd ops Q i Cn a w:=fun z sv hz hr hkk=>
    XP h (Qem (r:=z) du.ho hop du.hg du.hd h.env du.lt e1 e2 hz fun a' hE=>hk _ a' (Ext.put _ _ _) hkk (h.slot du hr hE))
   split at hs
   ·obtain⟨hb,hs⟩:=XU hs
    exact tkb _ _ (QwC (by simpa using hb)) (RV_i _ _) hs
   ·obtain⟨hb,hs⟩:=XU hs
    exact tkb _ _ (QwD (by simpa using hb)) (RV_i _ _) hs
   ·cases hsk:sameKind ku kv with
    |false=>rw[hsk]at hs;cases hs
    |true=>
     rw[hsk]at hs
     obtain rfl:=Y7 hsk
     obtain⟨hb,hs⟩:=XU hs
     exact tkb _ _ (QwB (by simpa using hb)) (RV_i _ _) hs
   ·cases hsk:sameKind ku kv with
    |false=>rw[hsk]at hs;cases hs
    |true=>
     rw[hsk]at hs
     obtain rfl:=Y7 hsk
     obtain⟨hb,hs⟩:=XU hs
     exact tkb _ _ (QwA (by simpa using hb)) (RV_i _ _) hs
   ·rename_i n1 n2 n3 n4
    cases hsk:sameKind ku kv with
    |false=>rw[hsk]at hs;cases hs
    | true=>
     rw[hsk]at hs
     simp only[Qg]at hs
     split at hs
     ·rename_i z hz
      split at hs
      ·rename_i sv hsv
       refine pure_ok h du (nsrc (by rw[hop];intro _ _ _ e;cases e)) (v:=z) ?_ (Qyr hsv) fun a' h'=>hk _ _ (Ext.put _ _ _) hs h'
       rw[hop]
       simp only[Xi,e1,e2]
       cases op<;>first|exact absurd rfl n1|exact absurd rfl n2|exact absurd rfl n3|exact absurd rfl n4|(simp only[pBin,hsk,Qg];exact hz)
      ·cases hs
     ·cases hs
  ·split at hs
   ·split at hs
    ·rename_i sv hsv
     obtain⟨b,hb,h1,h2⟩:=QrB hC.tb hsv r1 r2 x y
     refine XP h (Qem (r:= .bool b) du.ho hop du.hg du.hd h.env du.lt e1 e2 h1 fun a' hE=>hk _ a' (Ext.put _ _ _) hs (h.slot du ?_ hE))
     rcases hb with rfl|rfl<;>exact Y5 rfl rfl
    ·cases hs
   ·split at hs
    ·rename_i sv hsv
     obtain⟨b,hb,h1,h2⟩:=QrB hC.tb hsv r1 r2 x y
     refine XP h (Qem (r:= .bool (!b)) du.ho hop du.hg du.hd h.env du.lt e1 e2 h2 fun a' hE=>hk _ a' (Ext.put _ _ _) hs (h.slot du ?_ hE))
     rcases hb with rfl|rfl<;>exact Y5 rfl rfl
    ·cases hs
   ·cases hs
 ·cases hs
theorem un_ok(hC:CxOk C ct)(h:RSx ct ρ D Lv R s a w)(du:Du ct ops i o a (some d)){op:UnOp}{t:TypeId}{x:Operand}{ty:TypeId}(hop:o.op= .unOp op t x)(hs:(sopD C s d ty (.unOp op t x)).run k=some r)
  (hk:∀s' a',Ext s s'→k s'=some r→RS ct s' a' w→Cn a' w):Op1 C.P rd ops Q i Cn a w:=by
 simp only[sopD]at hs
 split at hs
 ·rename_i u hu
  obtain⟨vu,e1,r1⟩:=YJ hC h hu
  obtain⟨sv,h1,h2⟩:=ZZ hs
  have key:∀z,pUn op vu=some z→RV ρ D sv z→Op1 C.P rd ops Q i Cn a w:=fun z hz hr=>
   pure_ok h du (nsrc (by rw[hop];intro _ _ _ e;cases e)) (v:=z) (by rw[hop];simp only[Xi,e1];exact hz) hr fun a' h'=>hk _ _ (Ext.put _ _ _) h2 h'
  unfold unS at h1
  split at h1
  ·simp only[Qa]at h1;subst h1
   obtain rfl:=Qne r1
   exact key _ rfl (Y5 rfl rfl)
  ·simp only[Qa]at h1;subst h1
   obtain rfl:=Qj7 r1
   exact key _ rfl (Y5 rfl rfl)
  ·simp only[Qa]at h1;subst h1
   obtain rfl:=X8 r1
   exact key _ rfl (Y5 rfl rfl)
  ·simp only[Qa]at h1;subst h1
   obtain rfl:=X8 r1
   exact key _ rfl (Y5 rfl rfl)
  ·cases h1
 ·cases hs
theorem QrD:∀{l:SV T} {n:Nat} {u:SV T} {vs:List Value},nthL l n=some u→RX ρ D l true vs→∃v,vs[n]?=some v∧RV ρ D u v
 | .cs x l,0,u,vs,h,⟨v,c2,e,h1,_⟩=>by
  simp only[nthL,Qa]at h
  subst h e
  exact⟨v,rfl,h1⟩
 | .cs x l,n+1,u,vs,h,⟨v,c2,e,_,h2⟩=>by
  subst e
  obtain⟨z,h3,h4⟩:=QrD (l:=l) (n:=n) h h2
  exact⟨z,by simpa using h3,h4⟩
 | .dt _ _,_,_,_,h,_=>by cases h
 | .kb _,_,_,_,h,_=>by cases h
 | .raw _,_,_,_,h,_=>by cases h
 | .nils,_,_,_,h,_=>by cases h
 | .agg _,_,_,_,h,_=>by cases h
 | .tup _,_,_,_,h,_=>by cases h
 | .fn _ _,_,_,_,h,_=>by cases h
 | .nl,_,_,_,h,_=>by cases h
 | .ptr _ _,_,_,_,h,_=>by cases h
 | .cell _ _,_,_,_,h,_=>by cases h
 | .own _,_,_,_,h,_=>by cases h
 | .elt _ _ _ _,_,_,_,h,_=>by cases h
 | .ela _ _ _ _ _,_,_,_,h,_=>by cases h
 | .eva _ _ _ _ _ _,_,_,_,h,_=>by cases h
 | .sla _ _ _ _,_,_,_,h,_=>by cases h
theorem Qyu(hC:CxOk C ct)(h:RSx ct ρ D Lv R s a w)(du:Du ct ops i o a (some d)){x:Operand}{n:Nat}{ty:TypeId}(hop:o.op= .extract x n)(hs:(sopD C s d ty (.extract x n)).run k=some r)
  (hk:∀s' a',Ext s s'→k s'=some r→RS ct s' a' w→Cn a' w):Op1 C.P rd ops Q i Cn a w:=by
 simp only[sopD]at hs
 split at hs
 ·rename_i l hl
  obtain⟨vu,e1,r1⟩:=YJ hC h hl
  obtain⟨sv,h1,h2⟩:=ZZ hs
  obtain⟨vs,h3,h4⟩:=Yx rfl r1
  simp only[List.cons.injEq,and_true]at h4
  subst h4
  obtain⟨v,h5,h6⟩:=QrD h1 h3
  refine pure_ok h du (nsrc (by rw[hop];intro _ _ _ e;cases e)) (v:=v) (by rw[hop];simp only[Xi,e1];simpa using h5) h6 fun a' h'=>hk _ _ (Ext.put _ _ _) h2 h'
 ·cases hs
theorem Qyv(hC:CxOk C ct)(h:RSx ct ρ D Lv R s a w)(du:Du ct ops i o a (some d)){f:Fn}{fs cs:Array Operand}{ty:TypeId}(hop:o.op= .makeFunc f fs cs)(hs:(sopD C s d ty (.makeFunc f fs cs)).run k=some r)
  (hk:∀s' a',Ext s s'→k s'=some r→RS ct s' a' w→Cn a' w):Op1 C.P rd ops Q i Cn a w:=by
 cases f<;>simp only[sopD]at hs
 ·rename_i f
  split at hs
  ·rename_i l hfs hl
   cases hb:Nat.ble 1000000000 f with
   |true=>rw[hb]at hs;cases hs
   |false=>
    rw[hb]at hs
    obtain⟨vs,e1,r1⟩:=Qjq hC h hl
    refine pure_ok h du (nsrc (by rw[hop];intro _ _ _ e;cases e)) (v:= .func (.func f) #[] vs.toArray) (by rw[hop];simp only[Xi,hfs,JQ,e1]) (Y5 (sv:= .fn f l) rfl ⟨vs,r1,by unfold fnV;rw[hb];rfl⟩) fun a' h'=>hk _ _ (Ext.put _ _ _) hs h'
  ·rename_i x xs hfs hl
   split at hs
   ·rename_i l hl2
    obtain⟨vs0,e0,r0⟩:=Qjq hC h hl
    have r0:vs0= []:=r0
    subst r0
    obtain⟨vs,e1,r1⟩:=Qjq hC h hl2
    have hb:Nat.ble 1000000000 (f+1000000000)=true:=Qgw (Nat.le_add_left _ _)
    refine pure_ok h du (nsrc (by rw[hop];intro _ _ _ e;cases e)) (v:= .func (.func f) vs.toArray #[]) (by rw[hop];simp only[Xi,hfs,e0,e1]) (Y5 (sv:= .fn (f+1000000000) l) rfl ⟨vs,r1,by unfold fnV;rw[hb];simp⟩) fun a' h'=>hk _ _ (Ext.put _ _ _) hs h'
   ·cases hs
  ·cases hs
 all_goals cases hs
theorem Qyw(hC:CxOk C ct)(h:RSx ct ρ D Lv R s a w)(du:Du ct ops i o a (some d)){x:Operand}{ty:TypeId}(hop:o.op= .nilCheck x)(hs:(sopD C s d ty (.nilCheck x)).run k=some r)
  (hk:∀s' a',Ext s s'→k s'=some r→RS ct s' a' w→Cn a' w):Op1 C.P rd ops Q i Cn a w:=by
 simp only[sopD]at hs
 split at hs
 ·rename_i u hu
  obtain⟨v,e1,r1⟩:=YJ hC h hu
  cases hn:nilS u with
  |false=>rw[hn]at hs;cases hs
  |true=>
   rw[hn]at hs
   refine pure_ok h du (nsrc (by rw[hop];intro _ _ _ e;cases e)) (v:=v) ?_ r1 fun a' h'=>hk _ _ (Ext.put _ _ _) hs h'
   rw[hop]
   simp only[Xi,e1]
   cases u<;>first|(cases hn;done)|skip
   ·obtain⟨vs,_,e⟩:=Yx rfl r1;cases e;rcases QhF _ vs with e'|e'<;>rw[e']
   ·obtain⟨n,_,e⟩:=Yx rfl r1;cases e;rfl
   ·obtain⟨b,off,e,_⟩:=Yx rfl r1;cases e;rfl
   ·obtain⟨b,_,_,_,e,_⟩:=Yx rfl r1;cases e;rfl
 ·cases hs
theorem RSx.blk{id ver:Nat}{b:SB T}(h:RSx ct ρ D Lv R s a w)(hl:lookA s.L id=some (ver,b)):∃q,RBk ρ D id b q∧∃X Y,Lv=X++q::Y:=by
 obtain⟨X,q,Y,e,h1,_⟩:=qX h.l hl
 exact⟨q,h1,X,Y,e⟩
theorem Qyx(hC:CxOk C ct)(h:RSx ct ρ D Lv R s a w)(du:Du ct ops i o a (some d)){xs:Array Operand}{ts:Array TypeId}{x:Operand}{t:TypeId}(hop:o.op= .call {callee:= .builtin .len,args:=xs,argTypes:=ts})(hxs:xs.toList= [x])(hts:ts.toList= [t])
  {u:SV T} (hu:evS C s t x=some u) (hs:(okO s d (lenO C.P s t u)).run k=some r)
  (hk:∀s' a',Ext s s'→k s'=some r→RS ct s' a' w→Cn a' w):Op1 C.P rd ops Q i Cn a w:=by
 obtain⟨v,e1,r1⟩:=YJ hC h hu
 obtain⟨sv,h1,h2⟩:=ZZ hs
 have key:∀(m:Nat),(∃A c,v= .slice A m c∧Qbx C.P t=true)∨(∃z,v= .string z∧m=z.size∧Qa9 C.P t=true)→sv= .dt (.int .i64) (m:Int)→Op1 C.P rd ops Q i Cn a w:=by
  rintro m hm rfl
  refine pure_ok h du (nsrc (by rw[hop];intro _ _ _ e;cases e)) (v:= .int .i64 (m:Int)) ?_ (RV_i _ _) fun a' h'=>hk _ _ (Ext.put _ _ _) h2 h'
  rw[hop]
  rcases hm with⟨A,c,rfl,ht⟩|⟨z,rfl,rfl,ht⟩
  ·simp only[Xi,hxs,hts,e1,ht,Qg]
  ·simp only[Xi,hxs,hts,e1,ht,Qg]
 have sl:∀n,lenS s u=some n→(∀z,u≠ .dt .str z)→Qbx C.P t=true∧sv= .dt (.int .i64) n:=by
  intro n hn hne
  unfold lenO at h1
  rw[hn]at h1
  split at h1
  ·rename_i e1 e2;exact absurd rfl (hne _)
  ·rename_i e1 e2 e3
   cases hb:Qbx C.P t with
   |false=>rw[hb]at h1;cases h1
   |true=>
    rw[hb]at h1
    simp only[Qa]at e2
    simp only[Qg,Qa]at h1
    subst e2
    exact⟨rfl,h1.symm⟩
  ·cases h1
 cases hls:lenS s u with
 |none=>unfold lenO at h1;rw[hls]at h1;cases h1
 | some n=>
  have hls':=hls
  unfold lenS at hls
  split at hls
  ·simp only[Qa]at hls
   subst hls
   obtain⟨A,c,e,_⟩:=Yx rfl r1
   cases e
   obtain⟨h3,h4⟩:=sl _ hls' (fun z e=>by cases e)
   exact key _ (.inl ⟨A,c,rfl,h3⟩) h4
  ·rename_i z
   simp only[Qa]at hls
   subst hls
   have e: [v]= [Value.string z]:=r1
   cases e
   unfold lenO at h1
   rw[hls']at h1
   cases hb:Qa9 C.P t with
   |false=>simp only[hb,Qh]at h1;cases h1
   |true=>
    simp only[hb,Qg,Qa]at h1
    exact key _ (.inr ⟨z,rfl,rfl,hb⟩) h1.symm
  ·simp only[Qa]at hls
   subst hls
   have e: [v]= [Value.slice none 0 0]:=r1
   cases e
   obtain⟨h3,h4⟩:=sl _ hls' (fun z e=>by cases e)
   exact key 0 (.inl ⟨none,0,rfl,h3⟩) h4
  ·rename_i oid
   split at hls
   ·rename_i ver y e xs f hlk
    simp only[Qa]at hls
    subst hls
    obtain⟨A,cap,len,h5,e5⟩:=Yx rfl r1
    cases e5
    obtain⟨q,hq,_⟩:=h.blk hlk
    obtain⟨A',cap',h6,_⟩:=hq
    rw[h5]at h6
    cases h6
    obtain⟨h3,h4⟩:=sl _ hls' (fun z e=>by cases e)
    exact key _ (.inl ⟨A,cap,rfl,h3⟩) h4
   ·rename_i ver y xs hlk
    simp only[Qa]at hls
    subst hls
    obtain⟨A,cap,len,h5,e5⟩:=Yx rfl r1
    cases e5
    obtain⟨q,hq,_⟩:=h.blk hlk
    obtain⟨A',cap',h6,_⟩:=hq
    rw[h5]at h6
    cases h6
    obtain⟨h3,h4⟩:=sl _ hls' (fun z e=>by cases e)
    exact key _ (.inl ⟨A,cap,rfl,h3⟩) h4
   ·cases hls
  ·cases hls
theorem Qyy(hC:CxOk C ct)(h:RSx ct ρ D Lv R s a w)(du:Du ct ops i o a (some d)){xs:Array Operand}{ts:Array TypeId}{x y:Operand}(hop:o.op= .call {callee:= .builtin .max,args:=xs,argTypes:=ts})(hxs:xs.toList= [x,y])
  {k1 k2:IntKind} {m n:Int} (hx:evS C s 0 x=some (.dt (.int k1) m)) (hy:evS C s 0 y=some (.dt (.int k2) n)) (hs:k (s.put (some d) (.dt (.int k1) (maxI m n)))=some r)
  (hk:∀s' a',Ext s s'→k s'=some r→RS ct s' a' w→Cn a' w):Op1 C.P rd ops Q i Cn a w:=by
 obtain⟨v,e1,r1⟩:=YJ hC h hx
 obtain⟨u,e2,r2⟩:=YJ hC h hy
 obtain rfl:=X8 r1
 obtain rfl:=X8 r2
 refine pure_ok h du (nsrc (by rw[hop];intro _ _ _ e;cases e)) (v:= .int k1 (maxI m n)) (by rw[hop];simp only[Xi,hxs,e1,e2]) (RV_i _ _) fun a' h'=>hk _ _ (Ext.put _ _ _) hs h'
theorem Qyz(hC:CxOk C ct)(h:RSx ct ρ D Lv R s a w)(du:Du ct ops i o a (some d)){xs:Array Operand}{ts:Array TypeId}{x y:Operand}(hop:o.op= .call {callee:= .builtin .min,args:=xs,argTypes:=ts})(hxs:xs.toList= [x,y])
  {k1 k2:IntKind} {m n:Int} (hx:evS C s 0 x=some (.dt (.int k1) m)) (hy:evS C s 0 y=some (.dt (.int k2) n)) (hs:k (s.put (some d) (.dt (.int k1) (minI m n)))=some r)
  (hk:∀s' a',Ext s s'→k s'=some r→RS ct s' a' w→Cn a' w):Op1 C.P rd ops Q i Cn a w:=by
 obtain⟨v,e1,r1⟩:=YJ hC h hx
 obtain⟨u,e2,r2⟩:=YJ hC h hy
 obtain rfl:=X8 r1
 obtain rfl:=X8 r2
 refine pure_ok h du (nsrc (by rw[hop];intro _ _ _ e;cases e)) (v:= .int k1 (minI m n)) (by rw[hop];simp only[Xi,hxs,e1,e2]) (RV_i _ _) fun a' h'=>hk _ _ (Ext.put _ _ _) hs h'
end
theorem Stp.prm{g w0 w:World}{D0 D:Snap}{L0 L L':List Blk}(h:Stp g w0 D0 L0 w D L)(hp:L.Perm L'):Stp g w0 D0 L0 w D L':=
 h.with_st (h.st.perm hp) (fun _ hb=>(hp.filterMap bid).mem_iff.2 hb)
theorem qF{α:Type}(X Y R:List α)(q:α):((X++q::Y)++R).Perm (q::((X++Y)++R)):=by
 rw[List.append_assoc,List.append_assoc]
 exact List.perm_middle
section
variable {T:Tb}{C:Cx T}{ct:Ct}{ρ:Rho}{D:Snap}{Lv R:List Blk}{s:SS T}{a:Act}{w:World}
variable {rd:Option Nat}{ops:Array Oper}{Q:Exit→Act→World→Prop}{i:Nat}{o:Oper}{d:Tmp}{Cn:Act→World→Prop}{α:Type}{k:SS T→Option α}{r:α}
theorem Qj8:∀{L:List (Nat×Nat×SB T)} {Ls:List Blk} {e:Nat×Nat×SB T},RLs ρ D L Ls→e∈L→∃p,ρ e.1=some p
 | [],_,_,_,h=>by cases h
 | x::L,_,e,⟨q,Ls',_,h2,h3⟩,h=>by
  rcases List.mem_cons.1 h with rfl|h
  ·obtain⟨id,ver,b⟩:=e
   cases b with
   |var t v=>obtain⟨m,c,h4,_⟩:=h2;exact⟨_,h4⟩
   |own t e xs f=>obtain⟨A,cap,h4,_⟩:=h2;exact⟨_,h4⟩
   |lnt t xs=>obtain⟨A,cap,h4,_⟩:=h2;exact⟨_,h4⟩
  ·exact Qj8 h3 h
theorem RSx.fresh(h:RSx ct ρ D Lv R s a w):ρ s.nx=none:=by
 cases hr:ρ s.nx with
 |none=>rfl
 |some p=>have:=h.dom _ _ hr;omega
theorem RSx.idlt(h:RSx ct ρ D Lv R s a w){e:Nat×Nat×SB T}(he:e∈s.L):e.1<s.nx:=by
 obtain⟨p,hp⟩:=Qj8 h.l he
 exact h.dom _ _ hp
theorem RSx.exIns{p:Pl}(h:RSx ct ρ D Lv R s a w):ct.nb≤s.nx+1∧∀i,i<ct.nb→ct.rb i=none→ρ.ins s.nx p i=none:=
 ⟨Nat.le_succ_of_le h.ex.1,fun i hi hn=>by
  have:=h.ex.1
  unfold Rho.ins
  rw[if_neg (by omega)]
  exact h.ex.2 i hi hn⟩
theorem RSx.nw{w':World}{D':Snap}{q:Blk}{p:Pl}{b:SB T}(h:RSx ct ρ D Lv R s a w)(hS:Stp ct.g ct.w0 ct.D0 ct.L0 w' D' (q::(Lv++R)))(hd:D.le D')(hb:RBk (ρ.ins s.nx p) D' s.nx b q):
  RSx ct (ρ.ins s.nx p) D' (q::Lv) R (s.nw b) a w':=by
 have hr:=Rho.le_ins (p:=p) h.fresh
 refine⟨h.rb.trans hr,fun i x hx=> ?_,fun e he=> ?_,?_,h.size,h.ds,fun t sv ht=> ?_,⟨q,Lv,rfl,hb,yR hr hd h.l⟩,hS,ct.fr.mono hd h.fr,?_,h.exIns,h.o⟩
 ·unfold Rho.ins at hx
  show i<s.nx+1
  split at hx
  ·omega
  ·have:=h.dom _ _ hx;omega
 ·show e.2.1<s.nx+1
  rcases List.mem_cons.1 he with rfl|he
  ·exact Nat.lt_succ_self _
  ·have:=h.ver e he;omega
 ·show((s.nx,s.nx,b)::s.L|>.map (·.1)).Nodup
  rw[List.map_cons,List.nodup_cons]
  refine⟨fun hm=> ?_,h.nd⟩
  obtain⟨e,he,h1⟩:=List.mem_map.1 hm
  have:=h.idlt he
  have h1:e.1=s.nx:=h1
  omega
 ·obtain⟨v,h1,h2⟩:=h.e t sv ht
  exact⟨v,h1,JZ hr hd h2⟩
 ·refine h.ini.mv hr h.st.st hS.st fun id b' p' hp hl=> ?_
  have hlt:=h.dom _ _ hp
  have hb:Nat.beq s.nx id=false:=by
   cases hb:Nat.beq s.nx id with
   |true=>have:=Qc hb;omega
   |false=>rfl
  simp only[SS.nw,lookA,hb,Qh]at hl
  obtain⟨X,q1,Y,e1,h1,_⟩:=qX h.l hl
  exact⟨hl,q1,D,h1,by rw[e1];simp,by rw[e1];simp⟩
theorem Ext.nw(s:SS T)(b:SB T):Ext s (s.nw b):=⟨⟨[],rfl⟩,Nat.le_succ _,fun id v sb hl hv=>by
 simp only[SS.nw,lookA]at hl
 cases hb:Nat.beq s.nx id with
 |true=>rw[hb]at hl;simp only[Qg,Qa,Qe]at hl;omega
 |false=>rw[hb]at hl;exact hl⟩
theorem Ext.wr(s:SS T)(id:Nat)(b:SB T):Ext s (s.wr id b):=⟨⟨[],rfl⟩,Nat.le_succ _,fun j v sb hl hv=>by
 simp only[SS.wr]at hl
 rw[QhJ]at hl
 split at hl
 ·cases hx:lookA s.L id with
  |none=>rw[hx]at hl;cases hl
  |some x=>rw[hx]at hl;simp only[Option.map_some,Qa,Qe]at hl;omega
 ·exact hl⟩
theorem RSx.wr{w':World}{D':Snap}{Lv':List Blk}{id:Nat}{b:SB T}(h:RSx ct ρ D Lv R s a w)(hS:Stp ct.g ct.w0 ct.D0 ct.L0 w' D' (Lv'++R))(hd:D.le D')(hl:RLs ρ D' (putB id (s.nx,b) s.L) Lv'){Z:List Blk}(hz:RLs ρ D (delB id s.L) Z)(hz1:∀q∈Z,q∈Lv)(hz2:∀q∈Z,q∈Lv'):RSx ct ρ D' Lv' R (s.wr id b) a w':=by
 refine⟨h.rb,fun i x hx=> ?_,fun e he=> ?_,?_,h.size,h.ds,fun t sv ht=> ?_,hl,hS,ct.fr.mono hd h.fr,?_,⟨Nat.le_succ_of_le h.ex.1,h.ex.2⟩,h.o⟩
 ·have:=h.dom i x hx
  show i<s.nx+1;omega
 ·show e.2.1<s.nx+1
  rcases QoG he with h1|h1
  ·rw[h1];exact Nat.lt_succ_self _
  ·have:=h.ver e h1;omega
 ·show((putB id (s.nx,b) s.L).map (·.1)).Nodup
  rw[QoF];exact h.nd
 ·obtain⟨v,h1,h2⟩:=h.e t sv ht
  exact⟨v,h1,JZ (Rho.le.refl _) hd h2⟩
 ·refine h.ini.mv (Rho.le.refl _) h.st.st hS.st fun k b' p' hp hk=> ?_
  have hlt:=h.dom _ _ hp
  simp only[SS.wr]at hk
  rw[QhJ]at hk
  split at hk
  ·cases hx:lookA s.L id with
   |none=>rw[hx]at hk;cases hk
   |some x=>rw[hx]at hk;simp only[Option.map_some,Qa,Qe]at hk;omega
  ·rename_i hne
   obtain⟨q,h1,h2⟩:=Qry hz hne hk
   exact⟨hk,q,D,h1,List.mem_append_left _ (hz1 q h2),List.mem_append_left _ (hz2 q h2)⟩
theorem RSx.var{id ver:Nat}{tid:TypeId}{v:SV T}(h:RSx ct ρ D Lv R s a w)(hl:lookA s.L id=some (ver,.var tid v)):
  ∃X Y m c,Lv=X++bx m tid c::Y∧ρ id=some (.blk m)∧RX ρ D v false c∧w.heap[m]?=some (.cells c.toArray tid (0,0))∧RLs ρ D (delB id s.L) (X++Y)∧
   ∀v' c',RX ρ D v' false c'→RLs ρ D (putB id (s.nx,.var tid v') s.L) (X++bx m tid c'::Y):=by
 obtain⟨X,q,Y,e,h1,h2,h3⟩:=qX h.l hl
 obtain⟨m,c,h4,h5,rfl⟩:=h1
 refine⟨X,Y,m,c,e,h4,h5,?_,h2,fun v' c' hv=>h3 ρ D _ _ _ (Rho.le.refl _) (Snap.le.refl _) ⟨m,c',h4,hv,rfl⟩⟩
 refine h.st.heapAt (j:=X.length) (o:=(.cells c.toArray tid (0,0),0)) ?_
 rw[e]
 simp
theorem RSx.setv{id:Nat}{tid:TypeId}{v':SV T}{X Y:List Blk}{m:Nat}{c c':List Value}(h:RSx ct ρ D (X++bx m tid c::Y) R s a w)(hh:w.heap[m]?=some (.cells c.toArray tid (0,0)))
  (hz:RLs ρ D (delB id s.L) (X++Y)) (hl:RLs ρ D (putB id (s.nx,.var tid v') s.L) (X++bx m tid c'::Y)):RSx ct ρ D (X++bx m tid c'::Y) R (s.wr id (.var tid v')) a (w.setRow m c'.toArray):=by
 refine h.wr ?_ (Snap.le.refl _) hl hz (fun q hq=>by rcases List.mem_append.1 hq with h|h<;>simp[h]) (fun q hq=>by rcases List.mem_append.1 hq with h|h<;>simp[h])
 have h1:=h.st.prm (qF X Y R (bx m tid c))
 have h2:=h1.put0 (w':=w.setRow m c'.toArray) (C':=c'.toArray) (T':=tid) (fr':=(0,0)) (by simp) rfl rfl rfl (setRow_heap w m c.toArray _ tid _ hh) (fun k hk=>setRow_other w m k _ hk)
 exact h2.prm (qF X Y R (bx m tid c')).symm
theorem QyA(hC:CxOk C ct)(h:RSx ct ρ D Lv R s a w)(du:Du ct ops i o a (some d)){t:TypeId}{x:Operand}{ty:TypeId}(hop:o.op= .box t x)(hs:(sopD C s d ty (.box t x)).run k=some r)
  (hk:∀s' a' w',Ext s s'→k s'=some r→RS ct s' a' w'→Cn a' w'):Op1 C.P rd ops Q i Cn a w:=by
 simp only[sopD]at hs
 split at hs
 ·rename_i sv hsv
  cases hb:okSt sv with
  |false=>rw[hb]at hs;cases hs
  | true=>
   rw[hb]at hs
   obtain⟨v,e1,r1⟩:=YJ hC h hsv
   refine ZB (v:= .pointer (some ⟨w.heap.size,0,none⟩)) (w':=w.alloc (.cells (Q5 v).toArray t)) h.env du.ho du.hg (by rw[du.hd];exact du.ok) (by simp[hop,Q7]) ?_ fun a' hE=> ?_
   ·simp[execOp,hop,h.env.eval e1,Instr.box,newVar,newRow,qO]
   ·rw[du.hd]at hE
    refine hk _ a' _ ((Ext.nw _ _).trans (Ext.put _ _ _)) hs ⟨ρ.ins s.nx (.blk w.heap.size),D,bx w.heap.size t (Q5 v)::Lv,R,?_⟩
    have hS:=h.st.alloc (.cells (Q5 v).toArray t)
    have h1:=h.nw (p:= .blk w.heap.size) (b:= .var t sv) hS (Snap.le.refl _) ⟨_,_,Rho.ins_at _ _ _,yU (Rho.le_ins h.fresh) (Snap.le.refl _) _ _ _ (QbP r1),rfl⟩
    exact h1.put (fun _ _=>Y5 rfl ⟨_,Rho.ins_at _ _ _,rfl⟩) du.fr hE
 ·cases hs
theorem Quh(h:RSx ct ρ D Lv R s a w)(du:Du ct ops i o a (some d)){t:TypeId}{ty:TypeId}(hop:o.op= .alloc t)(hs:(sopD C s d ty (.alloc t)).run k=some r)
  (hk:∀s' a' w',Ext s s'→k s'=some r→RS ct s' a' w'→Cn a' w'):Op1 C.P rd ops Q i Cn a w:=by
 simp only[sopD]at hs
 split at hs
 ·rename_i sv hsv
  obtain⟨z,hz,r1⟩:=QbS ρ D hsv
  obtain⟨ii,hi,hzz⟩:=Option.bind_eq_some_iff.1 hz
  refine ZB (v:= .pointer (some ⟨w.heap.size,0,none⟩)) (w':=w.alloc (.cells (Q5 z).toArray t)) h.env du.ho du.hg (by rw[du.hd];exact du.ok) (by simp[hop,Q7]) ?_ fun a' hE=> ?_
  ·simp[execOp,hop,Instr.alloc,zeroValue,typeInfo,hi,hzz,newVar,newRow,qO]
  ·rw[du.hd]at hE
   refine hk _ a' _ ((Ext.nw _ _).trans (Ext.put _ _ _)) hs ⟨ρ.ins s.nx (.blk w.heap.size),D,bx w.heap.size t (Q5 z)::Lv,R,?_⟩
   have hS:=h.st.alloc (.cells (Q5 z).toArray t)
   have h1:=h.nw (p:= .blk w.heap.size) (b:= .var t sv) hS (Snap.le.refl _) ⟨_,_,Rho.ins_at _ _ _,yU (Rho.le_ins h.fresh) (Snap.le.refl _) _ _ _ r1,rfl⟩
   exact h1.put (fun _ _=>Y5 rfl ⟨_,Rho.ins_at _ _ _,rfl⟩) du.fr hE
 ·cases hs
theorem QoH(hT:TbOk T)(h:RSx ct ρ D Lv R s a w){t:TypeId}{p u:SV T}{v:Value}(hl:Qua C.P s t p=some u)(hp:RV ρ D p v):
  ∃b off z,v= .pointer (some ⟨b,off,none⟩)∧(loadVar t ⟨b,off,none⟩).run C.P w= .ok z w∧RV ρ D u z:=by
 unfold Qua at hl
 split at hl
 ·rename_i sz ag hts
  split at hl
  ·rename_i b off
   split at hl
   ·rename_i ver tid c hlk
    obtain⟨X,Y,m,cs,_,h2,h3,h4,_⟩:=h.var hlk
    obtain⟨m',h5,h6⟩:=Yx rfl hp
    rw[h2]at h5
    cases h5
    cases h6
    obtain⟨u',hl2,e0⟩:=QeF hl
    subst e0
    obtain⟨h7,h8,h9,_⟩:=QbQ hT _ _ _ _ _ _ _ hl2 h3
    obtain⟨h8,h91⟩:=QhI hT (y:=tyOf T C.P 20 t) 5 u' h8
    obtain⟨z,h10,h11⟩:=QbR (cu:= []) hts h7 h8 (h91.trans h9)
    exact⟨m,off,z,rfl,QmX h4 h10,h11⟩
   ·cases hl
  ·rename_i y x
   cases hb:(Nat.beq (szT T y) sz&&(agT y==ag))with
   |false=>rw[hb]at hl;cases hl
   |true=>
    rw[hb]at hl
    simp only[Qg,Qa]at hl
    subst hl
    simp only[Qd,beq_iff_eq]at hb
    have hsz:=Qc hb.1
    obtain⟨b,off,e,cs,c,T0,fr,h1,h2,h3⟩:=Yx rfl hp
    cases e
    obtain⟨o',h4,h5⟩:=h.st.st.d _ _ h2
    obtain⟨C',T',fr',rfl,h6⟩:=Zx h5
    have hlen:cs.length=sz:=by rw[(kdT T y).len _ _ _ h1,←Qce];exact hsz
    obtain⟨z,h10,h11⟩:=QbR (ρ:=ρ) (D:=D) (u:= .dt y x) (c:=cs) (cu:= []) (off:=0) hts (by omega) (by rw[List.drop_zero,List.take_of_length_le (by omega)];exact h1) hb.2
    exact⟨b,off,z,rfl,Qdu (off0:=off) (off:=0) h4 (fun j u hu=>h6 _ _ (h3 j u hu)) h10,h11⟩
  ·rename_i b off i n k
   split at hl
   ·rename_i ver tid c hlk
    cases hb:(Nat.beq sz 1&& !ag)with
    |false=>rw[hb]at hl;cases hl
    | true=>
     rw[hb]at hl
     simp only[Qg]at hl
     simp only[Qd,Bool.not_eq_true']at hb
     obtain rfl:=Qc hb.1
     obtain rfl:=hb.2
     split at hl
     ·rename_i k' n' x hsub
      cases hb2:(Nat.beq n n'&&sameKind k k')with
      |false=>rw[hb2]at hl;cases hl
      | true=>
       rw[hb2]at hl
       simp only[Qg,Qa]at hl
       subst hl
       simp only[Qd]at hb2
       obtain rfl:=Qc hb2.1
       obtain⟨X,Y,m,cs,_,h2,h3,h4,_⟩:=h.var hlk
       obtain⟨m',h5,h6,h61⟩:=Yx rfl hp
       rw[h2]at h5
       cases h5
       cases h6
       obtain⟨m0,m1,m2⟩:=Qax h61
       obtain⟨h7,h8,_,_⟩:=QbQ hT _ _ _ _ _ _ _ hsub h3
       have h8:(cs.drop off).take n=Yj k' n x:=h8
       have e:(cs.drop (off+i.toNat)).take 1= [.int k' (vget x i.toNat)]:=by
        have hlt:off+i.toNat<cs.length:=by omega
        rw[List.drop_eq_getElem_cons hlt]
        simp only[List.take_succ_cons,List.take_zero,List.cons.injEq,and_true]
        have h9:((cs.drop off).take n)[i.toNat]?=some cs[off+i.toNat]:=by
         rw[List.getElem?_take,if_pos m2,List.getElem?_drop,List.getElem?_eq_getElem hlt]
        rw[h8]at h9
        simp[Yj,m2]at h9
        exact h9.symm
       obtain⟨z,h10,h11⟩:=QbR (ρ:=ρ) (D:=D) (u:=(.dt (.int k') (vget x i.toNat):SV T)) (c:=cs) (off:=off+i.toNat) (cu:= []) hts (by omega) (by rw[e];rfl) rfl
       exact⟨m,off+i.toNat,z,rfl,QmX h4 h10,h11⟩
     ·cases hl
   ·cases hl
  ·cases hl
 ·cases hl
theorem yD{β:Type}{x:Option β}{f:β→Option (SS T)}(h:(Out.dem x f).run k=some r):∃y s',x=some y∧f y=some s'∧k s'=some r:=by
 obtain⟨y,h1,h2⟩:=bind_some h
 split at h2
 ·rename_i s' hs;exact⟨y,s',h1,hs,h2⟩
 ·cases h2
theorem QwX(hC:CxOk C ct)(h:RSx ct ρ D Lv R s a w)(du:Du ct ops i o a (some d)){t:TypeId}{x:Operand}{ty:TypeId}(hop:o.op= .load t x)(hs:(sopD C s d ty (.load t x)).run k=some r)
  (hv:∀b off i' n y fo,evS C s 0 x=some (.eva b off i' n y fo)→(Qub C.P s (some d) t b off i' n y fo).run k=some r→Op1 C.P rd ops Q i Cn a w)
  (hk:∀s' a',Ext s s'→k s'=some r→RS ct s' a' w→Cn a' w):Op1 C.P rd ops Q i Cn a w:=by
 simp only[sopD]at hs
 unfold Qyd at hs
 split at hs
 ·rename_i o' i' off es hp
  obtain⟨v,e1,r1⟩:=YJ hC h hp
  obtain⟨b,cap,len,h3,h4,h5⟩:=Yx rfl r1
  cases h4
  unfold Qyc at hs
  split at hs
  ·rename_i sz ag ver t' e' xs hts hl
   cases hb:Nat.beq (szT T t') es with
   |false=>rw[hb]at hs;cases hs
   | true=>
    rw[hb]at hs
    simp only[Qg]at hs
    obtain rfl:=Qc hb
    obtain⟨z,s',hz,hs',hkk⟩:=yD hs
    split at hs'
    ·rename_i u hu
     simp only[Qa]at hs'
     subst hs'
     obtain⟨X,q,Y,e2,⟨A,cap',g1,g2⟩,_,_⟩:=qX h.l hl
     rw[h3]at g1
     simp only[Qa,Pl.own.injEq]at g1
     obtain⟨rfl,rfl,rfl⟩:=g1
     obtain⟨cs,hO,hrl⟩:=g2
     obtain⟨hz0,hz1⟩:=yM hz
     have hlt:=(List.getElem?_eq_some_iff.1 hz1).1
     cases q with
     |none=>have:=(hO.2.2.2.2 rfl).2;omega
     | some qp=>
      obtain⟨b',ob⟩:=qp
      obtain⟨hA,_,_,hcl,Cl,k0,rfl,_,_,_,ht⟩:=hO
      cases hA
      obtain⟨cz,hcz,hj⟩:=hrl.at_ hz1
      have hheap:=(h.st.st.l b (.cells Cl e' (0,0),k0) (by rw[e2];simp)).1
      have hRX:RX ρ D (.dt t' z:SV T) false cz:=hcz
      obtain⟨u',hu2,e0⟩:=QeF hu
      subst e0
      obtain⟨h7,h8,h9,_⟩:=QbQ hC.tb _ _ _ _ _ _ _ hu2 hRX
      obtain⟨h8,h91⟩:=QhI hC.tb (y:=tyOf T C.P 20 t) 5 u' h8
      obtain⟨zv,h10,h11⟩:=QbR (cu:= []) hts h7 h8 (h91.trans h9)
      refine val_ok h du (by simp[hop,Q7]) (v:=zv) ?_ h11 fun a' h'=>hk _ _ (Ext.put _ _ _) hkk h'
      have hld:=Qdu (P:=C.P) (w:=w) (off0:=i'.toNat*szT T t') (off:=off) hheap (fun j u hu=>by
       have h12:=hj j u hu
       rw[←Qce,←ht,List.getElem?_take]at h12
       split at h12
       ·simpa using h12
       ·cases h12) h10
      simp[execOp,hop,h.env.eval e1,Instr.loadAt,Instr.sureAddr,hld]
    ·cases hs'
  ·cases hs
 ·rename_i b off i' n y fo hp
  exact hv b off i' n y fo hp hs
 ·rename_i p _ _ hp
  obtain⟨v,e1,r1⟩:=YJ hC h hp
  obtain⟨sv,h1,h2⟩:=ZZ hs
  obtain⟨b,off,z,rfl,h3,h4⟩:=QoH hC.tb h h1 r1
  refine val_ok h du (by simp[hop,Q7]) (v:=z) ?_ h4 fun a' h'=>hk _ _ (Ext.put _ _ _) h2 h'
  simp[execOp,hop,h.env.eval e1,Instr.loadAt,Instr.sureAddr,h3]
 ·cases hs
theorem QwY(hC:CxOk C ct)(h:RSx ct ρ D Lv R s a w)(du:Du ct ops i o a (some d)){t m:Nat}{x:Operand}{ty:TypeId}(hop:o.op= .fieldAddr t x m)(hs:(sopD C s d ty (.fieldAddr t x m)).run k=some r)
  (hk:∀s' a',Ext s s'→k s'=some r→RS ct s' a' w→Cn a' w):Op1 C.P rd ops Q i Cn a w:=by
 simp only[sopD]at hs
 split at hs
 ·rename_i p hp
  obtain⟨v,e1,r1⟩:=YJ hC h hp
  obtain⟨sv,h1,h2⟩:=ZZ hs
  unfold fadS at h1
  split at h1
  ·rename_i fo ft hT
   split at h1
   ·rename_i b off
    simp only[Qa]at h1
    subst h1
    obtain⟨n,h3,h4⟩:=Yx rfl r1
    cases h4
    exact XP h (QbA (off+fo) du.ho hop du.hg du.hd h.env du.lt e1 hT rfl fun a' hE=>hk _ a' (Ext.put _ _ _) h2 (h.slot du (Y5 rfl ⟨n,h3,rfl⟩) hE))
   ·rename_i n x'
    split at h1
    ·rename_i sz ag hts
     split at h1
     ·rename_i y z hsub
      simp only[Qa]at h1
      subst h1
      obtain⟨b,off,e,cs,c,T0,fr,h3,h4,h5⟩:=Yx rfl r1
      cases e
      obtain⟨h6,h7,_,_⟩:=Qd6 hC.tb _ _ _ _ _ _ _ hsub (QvQ (ρ:=ρ) hC.tb h3)
      refine XP h (QbA (off+fo) du.ho hop du.hg du.hd h.env du.lt e1 hT rfl fun a' hE=>hk _ a' (Ext.put _ _ _) h2 (h.slot du (Y5 rfl ⟨b,off+fo,rfl,_,c,T0,fr,h7,h4,fun j u hu=> ?_⟩) hE))
      rw[List.getElem?_take]at hu
      split at hu
      ·rw[List.getElem?_drop]at hu
       rw[Nat.add_assoc]
       exact h5 _ _ hu
      ·cases hu
     ·cases h1
    ·cases h1
   ·rename_i o' i' off es
    simp only[Qa]at h1
    subst h1
    obtain⟨b,cap,len,h3,h4,h5⟩:=Yx rfl r1
    cases h4
    exact XP h (QbA (i'.toNat*es+off+fo) du.ho hop du.hg du.hd h.env du.lt e1 hT rfl fun a' hE=>hk _ a' (Ext.put _ _ _) h2 (h.slot du (Y5 rfl ⟨b,cap,len,h3,by rw[Nat.add_assoc],h5⟩) hE))
   ·rename_i b off i' n y f
    simp only[Qa]at h1
    subst h1
    obtain⟨m,h3,h4,h5⟩:=Yx rfl r1
    cases h4
    exact XP h (QbA (off+i'.toNat*szT T y+f+fo) du.ho hop du.hg du.hd h.env du.lt e1 hT rfl fun a' hE=>hk _ a' (Ext.put _ _ _) h2 (h.slot du (Y5 rfl ⟨m,h3,by rw[Nat.add_assoc],h5⟩) hE))
   ·cases h1
  ·cases h1
 ·cases hs
theorem QoI{v l:SV T}(h:Qfp v=some l):agS v=true:=by
 cases v with
 |agg u=>rfl
 |dt t x=>cases t<;>first|rfl|cases h
 |_=>cases h
theorem Qui(hC:CxOk C ct)(h:RSx ct ρ D Lv R s a w)(du:Du ct ops i o a (some d)){t m:Nat}{x:Operand}{ty:TypeId}(hop:o.op= .field t x m)(hs:(sopD C s d ty (.field t x m)).run k=some r)
  (hk:∀s' a',Ext s s'→k s'=some r→RS ct s' a' w→Cn a' w):Op1 C.P rd ops Q i Cn a w:=by
 simp only[sopD]at hs
 split at hs
 ·rename_i p hp
  obtain⟨v,e1,r1⟩:=YJ hC h hp
  obtain⟨sv,h1,h2⟩:=ZZ hs
  unfold fldS at h1
  split at h1
  ·rename_i fo ft l hT hl
   split at h1
   ·rename_i sz ag hts
    unfold RV at r1
    rw[QoI hl]at r1
    obtain⟨c,h3,rfl⟩:=r1
    obtain⟨u',h12,e0⟩:=QeF h1
    subst e0
    obtain⟨h6,h7,h8,_⟩:=Qd6 hC.tb _ _ _ _ _ _ _ h12 (QaI hC.tb hl h3)
    obtain⟨h7,h81⟩:=QhI hC.tb (y:=tyOf T C.P 20 ft) 5 u' h7
    obtain⟨z,h9,h10⟩:=QbR (cu:= []) hts h6 h7 (h81.trans h8)
    exact XP h (Qwt z du.ho hop du.hg du.hd h.env du.lt e1 hT h9 fun a' hE=>hk _ a' (Ext.put _ _ _) h2 (h.slot du h10 hE))
   ·cases h1
  ·cases h1
 ·cases hs
end
end Go.Sep
