/-
 Symbolic execution: functions that defer one closure, which may recover.
-/
import Derived.Test.YtomndohdnfebgaaGreatDoorSxA
import Derived.RecoverIn
import Derived.Test.YtomndohdnfebgaaGreatDoorSxX
set_option linter.unusedVariables false
set_option linter.unusedSimpArgs false
namespace Go.Sep
open Go
section
variable {P:Program}{ops:Array Oper}{Q:Exit→Act→World→Prop}{a:Act}{w:World}{n:Nat}{ds:List Deferred}{E:List (Nat×Value)}
theorem Qtq{i:Nat}{o:Oper}{x:Operand}{ts:Array TypeId}{f:FuncId}{cap:Array Value}{C:Act→World→Prop}(ho:ops[i]?=some o)(hop:o.op= .defer {callee:= .value x,args:= #[],argTypes:=ts})(hg:guardOf ops E o=some true)(hd:o.dst=none)(hE:Env a n ds E)
  (hx:Yt E x=some (.func (.func f) #[] cap)) (k:∀a',Env a' n ({target:= .fn (.func f) cap,args:= #[] }::ds) E→C a' w):Op1 P none ops Q i C a w:=by
 have hw:=jk (ops:=ops) hE hg
 simp only[Op1,wpOpIn,ho,hw,if_true,Oper.wpIn]
 refine⟨fun _ _=>trivial,?_⟩
 have hr:(o.semAt (Fw none).round a.eval).run P w= .ok (.defer {target:= .fn (.func f) cap,args:= #[] }) w:=by
  show(execOp a.eval o).run P w=_
  simp[execOp,hop,resolve,hE.eval hx,Deferred.ofValue]
 rw[hr]
 show C _ w
 refine k _ ?_
 rw[hd]
 exact⟨hE.size,by show _::a.defers=_;rw[hE.ds],hE.at_⟩
theorem Qv1{f:FuncId}{fn:Func}{c:Code}{args:List Value}{R:Ending→World→Prop}(hf:P.funcs[f]?=some fn)(hb:fn.body=some c)(hn:fn.ntmps=n)(hle:Nat.ble args.length n=true)
  (h:∀a,Env a n [] (argE 0 args)→c.wpIn (Fw none) 0 P (bodyPostDIn (Fw none) 0 P fn R) a w):CallsIn (Fw none) 0 P f args.toArray w R:=by
 refine callsIn_of_wp_defers hf hb trivial (h _ ⟨?_,rfl,?_⟩)
 ·have:=Nat.le_of_ble_eq_true hle
  simp[hn];omega
 ·intro t v hv
  obtain⟨_,h2⟩:=Qdu args 0 t v hv
  simp only[Nat.sub_zero]at h2
  have hlt:=(List.getElem?_eq_some_iff.1 h2).1
  rw[Array.getElem?_append_left (by simpa using hlt)]
  simpa using h2
end
section
variable {P:Program}{ops:Array Oper}{Q:Exit→Act→List Frame→World→Prop}{a:Act}{cs:List Frame}{w:World}{n:Nat}{ds:List Deferred}{E:List (Nat×Value)}
theorem Qv2{i:Nat}{rest:List Nat}(hE:Env a n ds E)(h:Tk P ops (qC []) i n ds E a w (fun a=>wpOpsSIn (Fw none) 0 P ops Q rest a cs w)):wpOpsSIn (Fw none) 0 P ops Q (i::rest) a cs w:=by
 obtain⟨o,v,ho,hd,hnd,hy,k⟩:=h
 simp only[wpOpsSIn,ho]
 refine⟨fun _ _=>trivial,?_⟩
 rcases hy w (qC.refl _ _)with⟨hw,hv⟩|⟨hw,rfl⟩
 ·rw[if_pos hw,hv]
  exact k _ (hE.put hd v)
 ·rw[if_neg (by rw[hw];simp)]
  exact k _ (hE.put hd undef)
theorem QkM{i d:Nat}{o:Oper}{ts:Array TypeId}{rest:List Nat}(ho:ops[i]?=some o)(hop:o.op= .call {callee:= .builtin .recover,args:= #[],argTypes:=ts})(hg:guardOf ops E o=some true)(hd:o.dst=some d)(hE:Env a n ds E)(hn:Nat.blt d n=true)
  (hr:recoverD cs=none) (k:∀a',Env a' n ds ((d,.nilIface)::E)→wpOpsSIn (Fw none) 0 P ops Q rest a' cs w):wpOpsSIn (Fw none) 0 P ops Q (i::rest) a cs w:=by
 have hw:=jk (ops:=ops) hE hg
 have hx:(execOp a.eval o).run P w= .ok .recover w:=by
  simp[execOp,hop,resolve,invoke,builtin]
 simp only[wpOpsSIn,ho]
 refine⟨fun _ _=>trivial,?_⟩
 rw[if_pos hw,hx]
 simp only[hr]
 have:=hE.put (d:=some d) (by simp[JI,hn]) .nilIface
 rw[hd]
 exact k _ this
theorem QkN{f:FuncId}{fn:Func}{c:Code}{args:List Value}{u:FrameMode}{R:Ending→FrameMode→World→Prop}(hf:P.funcs[f]?=some fn)(hb:fn.body=some c)(hn:fn.ntmps=n)(hle:Nat.ble args.length n=true)
  (h:∀(c₀:Frame) (cs:List Frame) a,c₀.mode=u→Env a n [] (argE 0 args)→c.wpSIn (Fw none) 0 P (bodyPostS P fn c₀ cs R) a (c₀::cs) w):CallsDIn (Fw none) 0 P f args.toArray u w R:=by
 refine callsDIn_of_wpSIn hf hb trivial (fun c₀ cs hu=>h c₀ cs _ hu ⟨?_,rfl,?_⟩)
 ·have:=Nat.le_of_ble_eq_true hle
  simp[hn];omega
 ·intro t v hv
  obtain⟨_,h2⟩:=Qdu args 0 t v hv
  simp only[Nat.sub_zero]at h2
  have hlt:=(List.getElem?_eq_some_iff.1 h2).1
  rw[Array.getElem?_append_left (by simpa using hlt)]
  simpa using h2
theorem regS{id:Nat}{l:List Nat}(hs:List.range ops.size=l)(h:wpOpsSIn (Fw none) 0 P ops Q l a cs w):(Code.region id ops false).wpSIn (Fw none) 0 P Q a cs w:=wpSIn_region (by rw[hs];exact h)
end
section
variable {T:Tb}
def dfS(ops:Array Oper):Option (Tmp×Oper×Oper):=
 match ops.toList with
 | [o1,o2]=>match o1.dst,o1.guard,o2.guard,o2.dst,o2.op with
  |some d,none,none,none,.defer {callee:= .value (.tmp d'),args:=xs,argTypes:=_}=>bif xs.isEmpty&&Nat.beq d d' then some (d,o1,o2)else none
  |_,_,_,_,_=>none
 |_=>none
def hdF(P:Program)(f:FuncId)(n:Nat):Option (Func×Tmp×Tmp×Code):=
 match P.funcs[f]? with
 | some F=>match F.body,F.results.toList with
  | some (.seq (.region _ ops false) c), []=>match ops.toList with
   | [r1,r2]=>match r1.dst,r1.guard,r1.op,r2.dst,r2.guard,r2.op with
    |some t1,none,.call {callee:= .builtin .recover,args:=xs,argTypes:=_},some t2,none,.assign (.tmp t1')=>bif xs.isEmpty&&(Nat.beq t1 t1'&&(Nat.blt t1 F.ntmps&&(Nat.blt t2 F.ntmps&&(!(F.name== "runtime.NumGoroutine")&&(Nat.ble n F.ntmps&&(Nat.ble n t1&&Nat.ble n t2))))))then some (F,t1,t2,c)else none
    |_,_,_,_,_,_=>none
   |_=>none
  |_,_=>none
 |none=>none
def hdS{R:Type}(C:Cx T)(F:Func)(t1 t2:Tmp)(hc:Code)(hh:Hn)(l:SV T)(v:Value)(s:SS T)(k:SS T→Option R):Option R:=
 sx {C with n:=F.ntmps,rg:=false} hc hh {E:=(t2,.raw v)::(t1,.raw v)::Qfp 0 l,L:=s.L,nx:=s.nx,md:=⟨0, []⟩ } fun e s'=>match e with
  | .nm=>k {E:=s.E,L:=s'.L,nx:=s'.nx,md:=⟨0, []⟩ }
  | .rt=>k {E:=s.E,L:=s'.L,nx:=s'.nx,md:=⟨0, []⟩ }
  |_=>none
def funR(C:Cx T)(sp:FSp T)(f:Func)(h0 h2 hh:Hn)(p:TU T.ty sp.pt):Option (TU T.ty sp.rt):=
 match f.body with
 | some (.seq c0 (.seq (.region _ ops false) c2))=>match dfS ops with
  | some (d,o1,_)=>oE (start sp p) fun s0=>sx {C with rg:=false} c0 h0 s0 fun e s1=>match e with
   | .nm=>bif JI C.n o1.dst then(sop C s1 o1).run fun s2=>match lookA s2.E d with
     | some (.fn hf l)=>bif Nat.ble 1000000000 hf|| !isL l then none else match hdF C.P hf (lenL l)with
      |some (F,t1,t2,hc)=>sx {C with rg:=false} c2 h2 s2 fun e s3=>match e with
       | .nm=>hdS C F t1 t2 hc hh l .nilIface s3 fun s4=>finS C.P sp f.results.toList s0 s4
       | .rt=>hdS C F t1 t2 hc hh l .nilIface s3 fun s4=>finS C.P sp f.results.toList s0 s4
       | .pn x e=>hdS C F t1 t2 hc hh l (pvV x e) s3 fun s4=>finS C.P sp f.results.toList s0 s4
       |_=>none
      |none=>none
     |_=>none
    else none
   |_=>none
  |none=>none
 |_=>none
end
section
variable {T:Tb}{C:Cx T}{ct:Ct}{ρ:Rho}{D:Snap}{Lv R:List Blk}{s:SS T}{a:Act}{w:World}
theorem Qjq{P:Program}{ops:Array Oper}{Q:Exit→Act→List Frame→World→Prop}{cs cs':List Frame}{n:Nat}{ds:List Deferred}{E:List (Nat×Value)}{i d:Nat}{o:Oper}{v:Value}{ts:Array TypeId}{rest:List Nat}(ho:ops[i]?=some o)(hop:o.op= .call {callee:= .builtin .recover,args:= #[],argTypes:=ts})(hg:guardOf ops E o=some true)(hd:o.dst=some d)(hE:Env a n ds E)(hn:Nat.blt d n=true)
  (hr:recoverD cs=some (v,cs')) (k:∀a',Env a' n ds ((d,v)::E)→wpOpsSIn (Fw none) 0 P ops Q rest a' cs' w):wpOpsSIn (Fw none) 0 P ops Q (i::rest) a cs w:=by
 have hw:=jk (ops:=ops) hE hg
 have hx:(execOp a.eval o).run P w= .ok .recover w:=by
  simp[execOp,hop,resolve,invoke,builtin]
 simp only[wpOpsSIn,ho]
 refine⟨fun _ _=>trivial,?_⟩
 rw[if_pos hw,hx]
 simp only[hr]
 have:=hE.put (d:=some d) (by simp[JI,hn]) v
 rw[hd]
 exact k _ this
def frHd(E:List (Nat×SV T))(ts:Array Value)(ρ:Rho):Frm where
 p:=fun _ D _ _=>Susp E ts ρ D
 t:=fun _=>False
 mono:=fun hd h=>h.mono (Rho.le.refl _) hd
 put:=fun _ _ _ h=>h
theorem QuS{P:Program}{f:FuncId}{n:Nat}{F:Func}{t1 t2:Tmp}{c:Code}(h:hdF P f n=some (F,t1,t2,c)):P.funcs[f]?=some F∧F.results.toList= []∧(F.name== "runtime.NumGoroutine")=false∧n≤F.ntmps∧n≤t1∧n≤t2∧t1<F.ntmps∧t2<F.ntmps∧
  ∃(id:Nat) (ops:Array Oper) (r1 r2:Oper) (ts:Array TypeId),F.body=some (.seq (.region id ops false) c)∧ops.toList= [r1,r2]∧r1.dst=some t1∧r1.guard=none∧r1.op= .call {callee:= .builtin .recover,args:= #[],argTypes:=ts}∧r2.dst=some t2∧r2.guard=none∧r2.op= .assign (.tmp t1):=by
 unfold hdF at h
 split at h
 ·rename_i F' hF
  split at h
  ·rename_i id ops c' hb hr
   split at h
   ·rename_i r1 r2 hops
    split at h
    ·rename_i t1' xs ts t2' t3 h1 h2 h3 h4 h5 h6
     cases hc:(xs.isEmpty&&(Nat.beq t1' t3&&(Nat.blt t1' F'.ntmps&&(Nat.blt t2' F'.ntmps&&(!(F'.name== "runtime.NumGoroutine")&&(Nat.ble n F'.ntmps&&(Nat.ble n t1'&&Nat.ble n t2')))))))with
     |false=>rw[hc]at h;cases h
     |true=>
      rw[hc]at h
      simp only[Qg,Qa,Qe]at h
      obtain⟨rfl,rfl,rfl,rfl⟩:=h
      simp only[Qd]at hc
      obtain⟨g1,g2,g3,g4,g5,g6,g7,g8⟩:=hc
      have e1:xs= #[]:=by simpa using g1
      subst e1
      obtain rfl:=Qc g2
      exact⟨hF,hr,by simpa using g5,Nat.le_of_ble_eq_true g6,Nat.le_of_ble_eq_true g7,Nat.le_of_ble_eq_true g8,Qbq g3,Qbq g4,id,ops,r1,r2,ts,hb,hops,h1,h2,h3,h4,h5,h6⟩
    ·cases h
   ·cases h
  ·cases h
 ·cases h
theorem hd_ok(hC:QcW C ct)(hY:C.Y=none)(hmk:ct.mks=false){f:FuncId}{F:Func}{t1 t2:Tmp}{hc:Code}{hh:Hn}{l:SV T}{vs:List Value}{v:Value}{u u1:FrameMode}{α:Type}{k:SS T→Option α}{r:α}{Rr:Ending→FrameMode→World→Prop}(hl:isL l=true)(hF:hdF C.P f (lenL l)=some (F,t1,t2,hc))(h:RSx ct ρ D Lv R s a w)(hv:RX ρ D l true vs)(hs:hdS C F t1 t2 hc hh l v s k=some r)(hv1:Q4 v= [v]∧agS (.raw v:SV T)=false)
  (hu:v= .nilIface∧u= .returning∧u1= .returning∨u= .panicking [{v:=v,recovered:=false}]∧u1= .panicking [{v:=v,recovered:=true}])
  (hk:∀s' w',s'.E=s.E→s'.md=⟨0, []⟩→k s'=some r→RS {ct with fr:=frT0} s' a w'→Rr (.returned (.tuple #[])) u1 w'):CallsDIn (Fw none) 0 C.P f vs.toArray u w Rr:=by
 obtain⟨F1,F2,F3,F4,F5,F6,F7,F8,id,ops,r1,r2,ts,F9,G1,G2,G3,G4,G5,G6,G7⟩:=QuS hF
 have hlen:=QqT hv hl
 refine QkN (n:=F.ntmps) F1 F9 rfl (Qfs (by omega)) fun c₀ cs a2 hm hE=> ?_
 have o1:ops[0]?=some r1:=by rw[←Array.getElem?_toList,G1];rfl
 have o2:ops[1]?=some r2:=by rw[←Array.getElem?_toList,G1];rfl
 have osz:ops.size=2:=by rw[←Array.length_toList,G1];rfl
 have g1:∀E,guardOf ops E r1=some true:=fun E=>by unfold guardOf;rw[G3]
 have g2:∀E,guardOf ops E r2=some true:=fun E=>by unfold guardOf;rw[G6]
 have rest:∀a3 cs',cs'={c₀ with mode:=u1}::cs→Env a3 F.ntmps [] ((t1,v)::argE 0 vs)→wpOpsSIn (Fw none) 0 C.P ops (Exit.thenS (hc.wpSIn (Fw none) 0 C.P (bodyPostS C.P F c₀ cs Rr)) (bodyPostS C.P F c₀ cs Rr)) [1] a3 cs' w:=by
  rintro a3 cs' rfl hE3
  refine Qv2 hE3 (Qpu (i:=1) (d:=t2) v hE3 o2 (g2 _) G5 (Ql2 F8) (by rw[G7];intro s' t x e;cases e) (by rw[G7];show look _ t1=some v;simp[look]) fun a4 hE4=> ?_)
  show hc.wpSIn (Fw none) 0 C.P (bodyPostS C.P F c₀ cs Rr) a4 ({c₀ with mode:=u1}::cs) w
  refine wpSIn_of_wpIn rfl ?_
  unfold hdS at hs
  have hent:=h.enter (n2:=F.ntmps) (fr2:=frHd s.E a.tmps ρ) (E2:=(t2,.raw v)::(t1,.raw v)::Qfp 0 l) (a2:=a4) (w2:=w) (R2:=R) (m2:=⟨0, []⟩) (fun _ _ h=>by cases h) hE4.size hE4.ds
   (fun t sv ht=>by
    have rv:RV ρ D (.raw v:SV T) v:=by
     exact YV hv1.2 hv1.1.symm
    simp only[lookA]at ht
    cases hb2:Nat.beq t2 t with
    |true=>
     rw[hb2]at ht
     obtain rfl:=Qc hb2
     simp only[Qg,Qa]at ht
     subst ht
     exact⟨v,hE4.at_ _ _ (by simp[look]),rv⟩
    | false=>
     rw[hb2]at ht
     simp only[Qh]at ht
     cases hb1:Nat.beq t1 t with
     |true=>
      rw[hb1]at ht
      obtain rfl:=Qc hb1
      simp only[Qg,Qa]at ht
      subst ht
      exact⟨v,hE4.at_ _ _ (by simp[look,hb2]),rv⟩
     |false=>
      rw[hb1]at ht
      simp only[Qh]at ht
      obtain⟨i,u,e,h1,h2⟩:=Qjg l 0 vs hv t sv ht
      subst e
      exact⟨u,hE4.at_ _ _ (by simp only[look,hb2,hb1,Qh];exact QcS vs 0 i u h1),h2⟩)
   h.st h.e
  refine QhQ (C:={C with n:=F.ntmps,rg:=false}) (ct:={n:=F.ntmps,ds:= [],g:=ct.g,w0:=ct.w0,D0:=ct.D0,L0:=ct.L0,rb:=ρ,fr:=frHd s.E a.tmps ρ,ini:=ct.ini,nb:=s.nx}) ⟨⟨⟨hC.tb,hC.gl⟩,hC.sp,rfl,hC.rv,hC.mp⟩,fun _ h=>h,(by intro Y hY';rw[show({C with n:=F.ntmps,rg:=false}:Cx T).Y=C.Y from rfl,hY]at hY';cases hY'),(by intro h;cases h)⟩ hc hh _ _ r _ a4 w hs ⟨ρ,D,Lv,R,hent⟩ fun e s' a5 w5 hx hk' hS'=> ?_
  obtain⟨ρ3,D3,Lv3,R3,h3⟩:=hS'
  have fin:k {E:=s.E,L:=s'.L,nx:=s'.nx,md:=⟨0, []⟩ }=some r→bodyPostS C.P F c₀ cs Rr .ret a5 ({c₀ with mode:=u1}::cs) w5:=fun hk'=>by
   obtain⟨_,v5,hv5,_⟩:=Qjh (P:=C.P) (fn:=F) (Rr:=fun _ _=>True) (vs:= []) (a:=a5) (w:=w5) (h3.ds.nil_of rfl) (by rw[F2];rfl) trivial
   have hv6:v5= .tuple #[]:=by
    obtain⟨_,v6,hv6,e6⟩:=Qjh (P:=C.P) (fn:=F) (Rr:=fun e _=>e= .returned (retV [])) (vs:= []) (a:=a5) (w:=w5) (h3.ds.nil_of rfl) (by rw[F2];rfl) rfl
    rw[hv5]at hv6
    cases hv6
    simpa[retV] using e6
   subst hv6
   refine⟨h3.ds.nil_of rfl,u1,rfl,_,hv5,hk {E:=s.E,L:=s'.L,nx:=s'.nx,md:=⟨0, []⟩ } w5 rfl rfl hk' ⟨ρ3,D3,Lv3,R3,?_⟩⟩
   have h0:RSx {ct with fr:=frT0} ρ D Lv R s a w:=⟨h.rb,h.dom,h.ver,h.nd,h.size,h.ds,h.e,h.l,h.st,trivial,h.ini,h.ex,h.o⟩
   have h9:RSx {ct with fr:=frT0} ρ3 D3 Lv3 R3 {E:=s.E,L:=s'.L,nx:=s'.nx,md:=s.md} a w5:=h0.leave (a2:=a) (s':=s') (ct2:={n:=F.ntmps,ds:= [],g:=ct.g,w0:=ct.w0,D0:=ct.D0,L0:=ct.L0,rb:=ρ,fr:=frHd s.E a.tmps ρ,ini:=ct.ini,nb:=s.nx}) h3 rfl rfl rfl rfl rfl (Rho.le.refl _) (fun _ _ h=>h) (Nat.le_refl _) h.size (h.ds.nom hmk) h3.fr h3.st trivial
   exact⟨h9.rb,h9.dom,h9.ver,h9.nd,h9.size,h9.ds,h9.e,h9.l,h9.st,trivial,h9.ini,h9.ex,fun _ _ h=>by cases h⟩
  cases e with
  |nm=>exact fin hk'
  |rt=>exact fin hk'
  |ex i=>cases hk'
  |pn x e=>cases hk'
 refine wpSIn_seq (regS (l:= [0,1]) (by rw[osz];rfl) ?_)
 have hE:Env a2 F.ntmps [] (argE 0 vs):=hE
 rcases hu with⟨rfl,rfl,rfl⟩|⟨rfl,rfl⟩
 ·exact QkM o1 G4 (g1 _) G2 hE (Ql2 F7) (by simp[recoverD,hm]) fun a3 hE3=>rest a3 _ (by rw[←hm]) hE3
 ·exact Qjq o1 G4 (g1 _) G2 hE (Ql2 F7) (by simp[recoverD,hm]) fun a3 hE3=>rest a3 _ rfl hE3
def frV(l:SV T)(vs:List Value)(ρ:Rho):Frm where
 p:=fun _ D _ _=>RX ρ D l true vs
 t:=fun _=>False
 mono:=fun hd h=>yA (Rho.le.refl _) hd _ _ _ h
 put:=fun _ _ _ h=>h
theorem QnT{ds:List Deferred}{P:Program}{fn:Func}{tmps:Array Value}{Rr:Ending→World→Prop}{u:FrameMode}{hf:FuncId}{vs:List Value}(hu:u≠ .run)(hF:(P.funcs[hf]?).map (fun F=>(F.name== "runtime.NumGoroutine",F.body.isNone))=some (false,false))
  (hc:CallsDIn (Fw none) 0 P hf vs.toArray u w fun
     | .returned _,u',w'=>LeavesInM (Fw none) 0 P fn tmps Rr ds (settle u') w'
     | .panicked chain,u',w'=>LeavesInM (Fw none) 0 P fn tmps Rr ds (raised u' chain) w'
     | .outgrown,_,w'=>Rr .outgrown w'):LeavesInM (Fw none) 0 P fn tmps Rr ({target:= .fn (.func hf) vs.toArray,args:= #[] }::ds) u w:=by
 obtain⟨F,hF,hF2⟩:=Option.map_eq_some_iff.1 hF
 simp only[Qe]at hF2
 have h1: ¬F.name= "runtime.NumGoroutine" :=by simpa using hF2.1
 have h2:F.body≠none:=by intro e;rw[e]at hF2;simp at hF2
 exact⟨hu,.inr ⟨(by intro h;cases h),.func hf,vs.toArray,hf,vs.toArray,rfl,(by simp[invoke,callFunc,hF,h1,h2]),fun _ _=>trivial,hc⟩⟩
theorem Qq5(hT:TbOk T){P:Program}{G:List (Nat×Dy T)}{sps:List (FSp T)}{rvs:List (RvSp T)}{mps:List (FuncId×(SV T→Option (SV T)))}{K n:Nat}{sp:FSp T}{f:Func}{c:Code}{h0 h2 hh:Hn}(hf:P.funcs[sp.fid]?=some f)(hb:f.body=some c)(hn:f.ntmps=n)
  (hok:(Nat.ble (lenP sp.args) n&&(lstP sp.args&&(lstP sp.res&&(!(f.name== "runtime.NumGoroutine")&&sp.pv.isNone))))=true)
  (hsp:∀sp∈sps,VOk P G sp) (hrv:∀x∈rvs,RvOk P x) (hmp:∀f g,lookA mps f=some g→MpOk P f g) (hfn:(fun p=>sp.fn p)=funR (cx P G sps K n rvs mps) sp f h0 h2 hh):VOk P G sp:=by
 rw[Qd,Qd,Qd,Qd]at hok
 refine⟨?_,?_,hok.2.2.1,fun x hx=> ?_,fun x hx=> ?_⟩
 ·intro g w0 D β p dA dB oA oB vals Bs Qs r hG hp hA hB hidx hSt hr
  have hr:funR (cx P G sps K n rvs mps) sp f h0 h2 hh p=some r:=by rw[←hfn];exact hr
  unfold funR at hr
  split at hr
  ·rename_i c0 id ops c2 hbody
   rw[hb]at hbody
   simp only[Qa]at hbody
   subst hbody
   split at hr
   ·rename_i d o1 o2 hdf
    obtain⟨s0,hs0,hr⟩:=Jy hr
    refine QgQ false hf hb hn hok.1 hok.2.1 hp hA hB hidx hSt hs0 fun ct a e1 e2 e3 e4 e5 e6 e7 e8 e9 e10 e11 e12 hS0=> ?_
    have hCg:∀ct':Ct,ct'.n=n→ct'.D0=D→(∀x,¬ct'.fr.t x)→QcW { (cx P G sps K n rvs mps:Cx T)with rg:=false} ct':=fun ct' g1 g2 g3=>⟨⟨⟨hT,by rw[g2];exact hG⟩,hsp,g1.symm,hrv,hmp⟩,g3,(by intro Y hY;cases hY),(by intro h;cases h)⟩
    have hC:=hCg ct e1 e7 e3
    refine wpIn_seq (QhQ hC c0 h0 s0 _ r _ a w0 hr hS0 fun e s1 a1 w1 hx1 hk1 hS1=> ?_)
    cases e with
    |rt=>cases hk1
    |ex i=>cases hk1
    |pn x e=>cases hk1
    |nm=>
    simp only at hk1
    obtain⟨ρ1,D1,Lv1,R1,h1⟩:=hS1
    unfold dfS at hdf
    split at hdf
    ·rename_i q1 q2 hops
     split at hdf
     ·rename_i dd d' xs ts g1 g2 g3 g4 g5
      cases hcc:(xs.isEmpty&&Nat.beq dd d')with
      |false=>rw[hcc]at hdf;cases hdf
      |true=>
      rw[hcc]at hdf
      simp only[Qg,Qa,Qe]at hdf
      obtain⟨rfl,rfl,rfl⟩:=hdf
      rw[Qd]at hcc
      have e1x:xs= #[]:=by simpa using hcc.1
      subst e1x
      obtain rfl:=Qc hcc.2
      have o1:ops[0]?=some q1:=by rw[←Array.getElem?_toList,hops];rfl
      have o2:ops[1]?=some q2:=by rw[←Array.getElem?_toList,hops];rfl
      have osz:ops.size=2:=by rw[←Array.length_toList,hops];rfl
      cases hdst:JI n q1.dst with
      |false=>rw[hdst]at hk1;cases hk1
      |true=>
      rw[hdst]at hk1
      simp only[Qg]at hk1
      refine wpIn_seq (QbP (JY (QnB (C:=cx P G sps K n rvs mps) (ct:=ct) ⟨⟨hT,by rw[e7];exact hG⟩,hsp,e1.symm,hrv,hmp⟩ (fun x _=>e3 x) h1 o1 (by unfold guardOf;rw[g2]) (by rw[e1];exact hdst) hk1 fun s2 a2 w2 hx2 hk2 hS2=> ?_) (by rw[osz];rfl)))
      obtain⟨ρ2,D2,Lv2,R2,h2'⟩:=hS2
      split at hk2
      ·rename_i hfid l hlk
       cases hc2:(Nat.ble 1000000000 hfid|| !isL l)with
       |true=>rw[hc2]at hk2;cases hk2
       |false=>
       rw[hc2]at hk2
       simp only[Qh]at hk2
       rw[Bool.or_eq_false_iff]at hc2
       have hisl:isL l=true:=by simpa using hc2.2
       split at hk2
       ·rename_i F t1 t2 hcode hF
        obtain⟨v,hv1,hv2⟩:=h2'.e _ _ hlk
        obtain⟨vs,rv,ev⟩:=Yn rfl hv2
        simp only[List.cons.injEq,and_true]at ev
        unfold fnV at ev
        rw[hc2.1]at ev
        simp only[Qh]at ev
        subst ev
        refine JY (Qtq o2 g5 (by unfold guardOf;rw[g3]) g4 h2'.env (by show look (EvA a2) dd=_;rw[Qag];exact hv1) fun a3 hE3=> ?_) (by rw[osz];rfl)
        refine at_end (by rw[osz];rfl) ?_
        have hdf2:a2.defers= []:=by rw[h2'.ds.nil_of e2,e4.1]
        let dfr:Deferred:={target:= .fn (.func hfid) vs.toArray,args:= #[] }
        let ct':Ct:={ct with ds:= [dfr],rb:=ρ2,nb:=s2.nx,fr:=frV l vs ρ2}
        have hR3:RSx ct' ρ2 D2 Lv2 R2 s2 a3 w2:=by
         refine⟨Rho.le.refl _,h2'.dom,h2'.ver,h2'.nd,hE3.size,⟨[],?_,.inl rfl,List.nodup_nil,fun _ h=>by cases h⟩,fun t sv ht=> ?_,h2'.l,h2'.st,rv,h2'.ini,⟨Nat.le_refl _,fun _ _ h=>h⟩,fun t sv hl b hb hn=>by have h9:=h2'.o t sv hl b hb;cases hrb:ct.rb b with|none=>exact h9 hrb|some p=>have h8:=h2'.rb b p hrb;have hn:ρ2 b=none:=hn;rw[h8]at hn;cases hn⟩
         ·rw[hE3.ds,hdf2];rfl
         ·obtain⟨u,z1,z2⟩:=h2'.e t sv ht
          exact⟨u,hE3.at_ t u (by rw[Qag];exact z1),z2⟩
        refine QhQ (hCg ct' e1 e7 (fun _ h=>h)) c2 h2 s2 _ r _ a3 w2 hk2 ⟨ρ2,D2,Lv2,R2,hR3⟩ fun e s3 a4 w4 hx3 hk3 hS3=> ?_
        obtain⟨ρ3,D3,Lv3,R3,h3⟩:=hS3
        have hdf4:a4.defers= [dfr]:=h3.ds.nil_of e2
        have rv3:RX ρ3 D3 l true vs:=yA h3.rb (Snap.le.refl _) _ _ _ h3.fr
        have fin:∀s4 w5,s4.md=⟨0, []⟩→finS P sp f.results.toList s0 s4=some r→RS {ct' with fr:=frT0} s4 a4 w5→LeavesInM (Fw none) 0 P f a4.tmps (FinP sp g w0 D β Bs Qs r) [] .returning w5:=fun s4 w5 hm4 hf4 hS4=>by
         obtain⟨ρ4,D4,Lv4,R4,h4⟩:=hS4
         have h5:RSx ct ρ4 D4 Lv4 R4 s4 {a4 with defers:= [] } w5:=⟨h2'.rb.trans h4.rb,h4.dom,h4.ver,h4.nd,h4.size,⟨[],e4.1.symm,.inl rfl,List.nodup_nil,fun _ h=>by cases h⟩,h4.e,h4.l,h4.st,e4.2 _ _ _ _,h4.ini,⟨Nat.le_trans h2'.ex.1 h4.ex.1,fun i hi hn=>h4.ex.2 i (Nat.lt_of_lt_of_le hi h2'.ex.1) (h2'.ex.2 i hi hn)⟩,fun t sv hl=>by rw[hm4]at hl;cases hl⟩
         subst e5 e6 e7
         obtain⟨_,h6⟩:=QuO (C:=cx P G sps K n rvs mps) hT h5 hf4 rfl e8 e9 e10 e11 e12
         exact h6
        have hfF:=(QuS hF)
        have hFn:(P.funcs[hfid]?).map (fun F=>(F.name== "runtime.NumGoroutine",F.body.isNone))=some (false,false):=by
         obtain⟨F1,_,F3,_,_,_,_,_,_,_,_,_,_,F9,_⟩:=hfF
         rw[F1];simp[F3,F9]
        have norm:(hdS (cx P G sps K n rvs mps) F t1 t2 hcode hh l .nilIface s3 fun s4=>finS P sp f.results.toList s0 s4)=some r→LeavesInM (Fw none) 0 P f a4.tmps (FinP sp g w0 D β Bs Qs r) a4.defers .returning w4:=fun hk3=>by
         rw[hdf4]
         exact QnT (by simp) hFn (hd_ok (C:={ (cx P G sps K n rvs mps:Cx T)with rg:=false}) (ct:=ct') (u1:= .returning) (hCg ct' e1 e7 (fun _ h=>h)) rfl e2 hisl hF h3 rv3 hk3 ⟨rfl,rfl⟩ (.inl ⟨rfl,rfl,rfl⟩) fun s4 w5 _ hm4 hf4 hS4=>fin s4 w5 hm4 hf4 hS4)
        cases e with
        |nm=>exact norm hk3
        |rt=>exact norm hk3
        |ex i=>cases hk3
        |pn x e=>
         show LeavesInM (Fw none) 0 P f a4.tmps (FinP sp g w0 D β Bs Qs r) a4.defers (.panicking [{v:=pvV x e,recovered:=false}]) w4
         rw[hdf4]
         exact QnT (by simp) hFn (hd_ok (C:={ (cx P G sps K n rvs mps:Cx T)with rg:=false}) (ct:=ct') (u1:= .panicking [{v:=pvV x e,recovered:=true}]) (hCg ct' e1 e7 (fun _ h=>h)) rfl e2 hisl hF h3 rv3 hk3 ⟨rfl,rfl⟩ (.inr ⟨rfl,rfl⟩) fun s4 w5 _ hm4 hf4 hS4=>fin s4 w5 hm4 hf4 hS4)
       ·cases hk2
      ·cases hk2
     ·cases hdf
    ·cases hdf
   ·cases hr
  ·cases hr
 ·rw[hf]
  simp only[Option.map_some,hb,Option.isNone_some,Qa,Qe,and_true]
  simpa using hok.2.2.2.1
 ·rw[hx]at hok;simp at hok
 ·rw[hx]at hok;simp at hok
end
end Go.Sep
