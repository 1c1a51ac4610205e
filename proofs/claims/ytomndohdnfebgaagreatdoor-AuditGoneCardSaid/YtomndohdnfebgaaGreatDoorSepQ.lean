/-
 Arrays of numbers in owned blocks: elements by an index that is not known ahead; a part of an array copied within it.
-/
import Derived.Test.YtomndohdnfebgaaGreatDoorSepM
import Derived.RangeFuncLeaves
import Derived.RangeFuncRecord
import Derived.Laws.MakeOwn
set_option linter.unusedVariables false
set_option linter.unusedSimpArgs false
namespace Go.Sep
def rcd(st:LoopState)(pe:Option Code)(fn:FuncId)(tmps:Array Value)(ps:Array Tmp)(assign body:Code)(d:Nat):Loop:=
 {state:=st,pending:=pe,fn:=fn,tmps:=tmps,params:=ps,assign:=assign,body:=body,defers:=d}
abbrev lp(l:Nat)(r:Loop):Blk:=some (l,(.loop r,0))
abbrev dk(b:Nat):Blk:=some (b,(.deferred (some []),0))
abbrev Zi(b:Nat):Deferred:={target:= .collected b,args:= #[] }
section
variable {P:Program}{ρ:Option Nat}{ops:Array Oper}{Q:Exit→Act→World→Prop}{a:Act}{n:Nat}{ds:List Deferred}{E:List (Nat×Value)}
variable {g w w' w0:World}{D D0:Snap}{L L0:List Blk}{i:Nat}{o:Oper}{d:Nat}{C:Act→World→Prop}
theorem Stp.obj{b:Nat}{o o':Obj}(ho:∀C T fr,o≠ .cells C T fr)(h:Stp g w0 D0 L0 w D (some (b,(o,0))::L)):Stp g w0 D0 L0 (w.putObj b o') D (some (b,(o',0))::L):=by
 have hlt:b<w.heap.size:=lt_of_heap (h.st.l b (o,0) (by simp)).1
 refine h.put (o':=(o',0)) ?_ (by simp[World.putObj]) rfl rfl rfl (World.putObj_heap_same hlt) (fun k hk=>World.putObj_heap_other hk)
 rintro p ⟨C0,T0,fr0,rfl,h0⟩ h1
 obtain⟨C',T',fr',e,_⟩:=h1
 exact absurd e (ho C' T' fr')
theorem QsM{gop:Operand}{ps:Array Tmp}{assign body:Code}{gf:FuncId}{captured:Array Value}(hE:Env a n ds E)(hS:Stp g w0 D0 L0 w D L)
  (hg:Yt E gop=some (.func (.func gf) #[] captured)) (hfn:(P.funcs[gf]?).map (fun F=>(F.name== "runtime.NumGoroutine",F.body.isNone))=some (false,false))
  (k:∀fn l dd w',Stp g w0 D0 L0 w' D (lp l (rcd .ready none fn a.tmps ps assign body dd)::dk dd::L)→
   CallsIn (Fw none) 0 P gf (List.toArray (.func (.yield l) #[] #[]::captured.toList)) w' (rangePost (Fw none) 0 P l Q {a with defers:=Zi dd::a.defers})):
  (Code.rangeFunc gop ps assign body).wpIn (Fw none) 0 P Q a w:=by
 obtain⟨F,hF,hF2⟩:=Option.map_eq_some_iff.1 hfn
 simp only[Qe]at hF2
 have h1: ¬F.name= "runtime.NumGoroutine" :=by simpa using hF2.1
 have h2:F.body≠none:=by intro e;rw[e]at hF2;simp at hF2
 have hge:=hE.eval hg
 have eg:∀args w,(callFunc gf args).run P w= .ok (.enter gf args) w:=by
  intro args w
  simp[callFunc,hF,h1,h2]
 refine wpIn_rangeFunc (fun fn hfn=> ?_)
 have hS2:=(hS.alloc (.deferred (some []))).alloc (.loop (rcd .ready none fn a.tmps ps assign body w.heap.size))
 have hsz:(w.alloc (.deferred (some []))).heap.size=w.heap.size+1:=by simp
 rw[hsz]at hS2
 have hen:=run_enterLoop_outer (P:=P) (w:=w) fn a.tmps ps assign body
 obtain⟨W1,hW1⟩:∃W1,W1=(w.alloc (.deferred (some []))).alloc (.loop (rcd .ready none fn a.tmps ps assign body w.heap.size)):=⟨_,rfl⟩
 rw[←hW1]at hS2
 have hen:(Instr.enterLoop fn a.tmps ps assign body none).run P w= .ok (w.heap.size+1, [Zi w.heap.size]) W1:=by rw[hW1];exact hen
 have hk:=k fn (w.heap.size+1) w.heap.size W1 hS2
 have e: #[Value.func (.yield (w.heap.size+1)) #[] #[]]++captured=List.toArray (.func (.yield (w.heap.size+1)) #[] #[]::captured.toList):=by
  apply Array.ext';simp
 rw[←e]at hk
 refine⟨w.heap.size+1, [Zi w.heap.size],W1,{target:= .fn (.func gf) captured,args:= #[.func (.yield (w.heap.size+1)) #[] #[]] },W1,gf,#[.func (.yield (w.heap.size+1)) #[] #[]]++captured,W1,hen,?_,?_,?_,?_,?_⟩
 ·simp only[resolve,hge]
  simp[go_sem]
 ·intro f' hf';trivial
 ·simp[invoke,go_sem,eg]
 ·intro h;exact absurd h (by decide)
 ·exact hk
end
section
variable {P:Program}{ρ:Option Nat}{ops:Array Oper}{Q:Exit→Act→World→Prop}{a:Act}{n:Nat}{ds:List Deferred}{E:List (Nat×Value)}
variable {g w w' w0:World}{D D0:Snap}{L L0:List Blk}{i:Nat}{o:Oper}{d:Nat}{C:Act→World→Prop}
def zipE:List Tmp→List Value→List (Nat×Value)→List (Nat×Value)
 |t::ts,v::vs,E=>zipE ts vs ((t,v)::E)
 |_,_,E=>E
theorem QpQ{n0:Nat}:∀(ts:List Tmp) (vs:List Value) (E:List (Nat×Value)) (tmps:Array Value),Env {tmps:=tmps,defers:= [] } n0 [] E→ts.length=vs.length→ts.all (fun t=>Nat.blt t n0)=true→
  Env {tmps:=(ts.zip vs).foldl (fun tmps (x:Tmp×Value)=>tmps.setIfInBounds x.1 x.2) tmps,defers:= [] } n0 [] (zipE ts vs E)
 | [], [],E,tmps,h,_,_=>h
 |t::ts,v::vs,E,tmps,h,hl,hb=>by
  simp only[List.all_cons,Qd]at hb
  have h2:=h.put (d:=some t) hb.1 v
  exact QpQ ts vs ((t,v)::E) _ h2 (by simpa using hl) hb.2
 | [],_::_,_,_,_,hl,_=>by cases hl
 |_::_, [],_,_,_,hl,_=>by cases hl
def Rk(n:Nat)(ds:List Deferred)(E:List (Nat×Value))(d:Nat)(C:Act→World→Prop):Ending→World→Prop:=
 fun e w2=>∃v,e= .returned v∧∀a',Env a' n ds ((d,v)::E)→C a' w2
theorem QsN{l fn dd n0:Nat}{ps:Array Tmp}{assign body:Code}{a0:Act}{ds0:List Deferred}{E0:List (Nat×Value)}{fv:Operand}{xs:Array Operand}{ts:Array TypeId}{args:List Value}
  (ho:ops[i]?=some o) (hop:o.op= .call {callee:= .value fv,args:=xs,argTypes:=ts}) (hg:guardOf ops E o=some true) (hd:o.dst=some d) (hE:Env a n ds E) (hn:Nat.blt d n=true)
  (hf:Yt E fv=some (.func (.yield l) #[] #[])) (hxs:JC E xs.toList=some args) (hS:Stp g w0 D0 L0 w D (lp l (rcd .ready none fn a0.tmps ps assign body dd)::L)) (hE0:Env a0 n0 ds0 E0)
  (hps:ps.toList.length=args.length) (hpb:ps.toList.all (fun t=>Nat.blt t n0)=true)
  (k:∀a1,Env a1 n0 [] (zipE ps.toList args E0)→assign.wpIn (Fw (some l)) 0 P (Exit.then (fun a1 w1=>∃w2,(Instr.beginRound l).run P w1= .ok () w2∧body.wpIn (Fw (some l)) 0 P (roundPost P l (Rk n ds E d C)) a1 w2) (fun _ _ _=>False)) a1 w):
  Op1 P none ops Q i C a w:=by
 have hargs:xs.map a.eval=args.toArray:=by
  have:=yD (E:=E) (ev:=a.eval) (fun _ _ h=>hE.eval h) _ _ hxs
  rw[←Array.toList_map]at this
  rw[←this]
 have hL:=(hS.st.l l (.loop (rcd .ready none fn a0.tmps ps assign body dd),0) (by simp)).1
 have hw:=jk (ops:=ops) hE hg
 have hnd:Q5 o.op=true:=by simp[hop,Q5]
 have hy:=run_yield (P:=P) (args:=args.toArray) hL (by simp[rcd,←hps])
 have hr0:(execOp a.eval o).run P w=(Instr.yield l args.toArray).run P w:=by
  simp[execOp,hop,resolve,hE.eval hf,Deferred.ofValue,hargs,invoke]
 have e1:((rcd .ready none fn a0.tmps ps assign body dd).params.zip args.toArray).foldl (fun tmps (t,a)=>tmps.setIfInBounds t a) (rcd .ready none fn a0.tmps ps assign body dd).tmps=(ps.toList.zip args).foldl (fun tmps (x:Tmp×Value)=>tmps.setIfInBounds x.1 x.2) a0.tmps:=by
  show(ps.zip args.toArray).foldl (fun tmps (x:Tmp×Value)=>tmps.setIfInBounds x.1 x.2) a0.tmps=_
  rw[←Array.foldl_toList,Array.toList_zip]
 rw[e1]at hy
 have hr:=hr0.trans hy
 simp only[Op1,wpOpIn,ho,hw,if_true,Oper.wpIn]
 refine⟨fun _ _=>trivial,?_⟩
 rw[XA hnd,hr]
 refine⟨fun h=>(by cases h),?_⟩
 have hE1:Env {tmps:=a0.tmps,defers:= [] } n0 [] E0:=⟨hE0.size,rfl,fun t v h=>hE0.at_ t v h⟩
 have hz:=QpQ ps.toList args E0 a0.tmps hE1 hps hpb
 refine RoundIn.mono (roundIn_of_wpIn (F:=Fw none) trivial (k _ hz)) ?_
 rintro e w2 ⟨v,rfl,hk⟩
 have hdo:JI n o.dst=true:=by simp[hd,JI,hn]
 have:=hE.put hdo v
 rw[hd]at this
 rw[hd]
 exact hk _ this
theorem QsO{l fn dd:Nat}{tmps:Array Value}{ps:Array Tmp}{assign body:Code}{X:World→Prop}(hS:Stp g w0 D0 L0 w D (lp l (rcd .ready none fn tmps ps assign body dd)::L))
  (k:∀w2,Stp g w0 D0 L0 w2 D (lp l (rcd .busy none fn tmps ps assign body dd)::L)→X w2):∃w2,(Instr.beginRound l).run P w= .ok () w2∧X w2:=
 ⟨_,run_beginRound (hS.st.l l (.loop (rcd .ready none fn tmps ps assign body dd),0) (by simp)).1 rfl,k _ (hS.obj (fun _ _ _ h=>by cases h))⟩
theorem Qko{l fn dd:Nat}{tmps:Array Value}{ps:Array Tmp}{assign body:Code}{a1:Act}(hS:Stp g w0 D0 L0 w D (lp l (rcd .busy none fn tmps ps assign body dd)::L))
  (k:∀w2 a',Stp g w0 D0 L0 w2 D (lp l (rcd .ready none fn tmps ps assign body dd)::L)→Env a' n ds ((d,.bool true)::E)→C a' w2):roundPost P l (Rk n ds E d C) .normal a1 w:=
 ⟨_,_,run_endRound none (hS.st.l l (.loop (rcd .busy none fn tmps ps assign body dd),0) (by simp)).1,_,rfl,fun a' hE=>k _ a' (hS.obj (fun _ _ _ h=>by cases h)) hE⟩
theorem QpR{l fn dd:Nat}{tmps:Array Value}{ps:Array Tmp}{assign body:Code}{a1:Act}(hS:Stp g w0 D0 L0 w D (lp l (rcd .busy none fn tmps ps assign body dd)::L))
  (k:∀w2 a',Stp g w0 D0 L0 w2 D (lp l (rcd .done (some .ret) fn tmps ps assign body dd)::L)→Env a' n ds ((d,.bool false)::E)→C a' w2):roundPost P l (Rk n ds E d C) .ret a1 w:=
 ⟨_,_,run_endRound (some .ret) (hS.st.l l (.loop (rcd .busy none fn tmps ps assign body dd),0) (by simp)).1,_,rfl,fun a' hE=>k _ a' (hS.obj (fun _ _ _ h=>by cases h)) hE⟩
theorem Qom{l fn dd id:Nat}{tmps:Array Value}{ps:Array Tmp}{assign body:Code}{a1:Act}(hS:Stp g w0 D0 L0 w D (lp l (rcd .busy none fn tmps ps assign body dd)::L))
  (k:∀w2 a',Stp g w0 D0 L0 w2 D (lp l (rcd .done (some (.exit id)) fn tmps ps assign body dd)::L)→Env a' n ds ((d,.bool false)::E)→C a' w2):roundPost P l (Rk n ds E d C) (.exit id) a1 w:=
 ⟨_,_,run_endRound (some (.exit id)) (hS.st.l l (.loop (rcd .busy none fn tmps ps assign body dd),0) (by simp)).1,_,rfl,fun a' hE=>k _ a' (hS.obj (fun _ _ _ h=>by cases h)) hE⟩
theorem Qon{l fn dd n0:Nat}{ps:Array Tmp}{assign body:Code}{a0:Act}{ds0:List Deferred}{E0:List (Nat×Value)}{v:Value}(hS:Stp g w0 D0 L0 w D (lp l (rcd .ready none fn a0.tmps ps assign body dd)::L))(hE0:Env a0 n0 ds0 E0)
  (k:∀w2 a',Stp g w0 D0 L0 w2 D (lp l (rcd .exhausted none fn a0.tmps ps assign body dd)::L)→Env a' n0 (Zi dd::ds0) E0→Q .normal a' w2):
  rangePost (Fw none) 0 P l Q {a0 with defers:=Zi dd::a0.defers} (.returned v) w:=
 ⟨none,_,run_endLoop (hS.st.l l (.loop (rcd .ready none fn a0.tmps ps assign body dd),0) (by simp)).1 (by simp[rcd]),k _ _ (hS.obj (fun _ _ _ h=>by cases h)) ⟨hE0.size,by rw[hE0.ds],hE0.at_⟩⟩
theorem QpS{l fn dd n0:Nat}{ps:Array Tmp}{assign body:Code}{a0:Act}{ds0:List Deferred}{E0:List (Nat×Value)}{v:Value}(hS:Stp g w0 D0 L0 w D (lp l (rcd .done (some .ret) fn a0.tmps ps assign body dd)::L))(hE0:Env a0 n0 ds0 E0)
  (k:∀w2 a',Stp g w0 D0 L0 w2 D (lp l (rcd .exhausted (some .ret) fn a0.tmps ps assign body dd)::L)→Env a' n0 (Zi dd::ds0) E0→Q .ret a' w2):
  rangePost (Fw none) 0 P l Q {a0 with defers:=Zi dd::a0.defers} (.returned v) w:=
 ⟨some .ret,_,run_endLoop (hS.st.l l (.loop (rcd .done (some .ret) fn a0.tmps ps assign body dd),0) (by simp)).1 (by simp[rcd]),wpIn_ret (k _ _ (hS.obj (fun _ _ _ h=>by cases h)) ⟨hE0.size,by rw[hE0.ds],hE0.at_⟩)⟩
theorem QlX{f:FuncId}{fn:Func}{c:Code}{args:List Value}{R:Ending→World→Prop}(hf:P.funcs[f]?=some fn)(hb:fn.body=some c)(hn:fn.ntmps=n)(hle:Nat.ble args.length n=true)
  (h:∀a,Env a n [] (argE 0 args)→c.wpIn (Fw none) 0 P (bodyPostM (Fw none) 0 P fn R) a w):CallsIn (Fw none) 0 P f args.toArray w R:=by
 refine callsIn_of_wp_marks hf hb trivial (h _ ⟨?_,rfl,?_⟩)
 ·have:=Nat.le_of_ble_eq_true hle
  simp[hn];omega
 ·intro t v hv
  obtain⟨_,h2⟩:=Qdu args 0 t v hv
  simp only[Nat.sub_zero]at h2
  have hlt:=(List.getElem?_eq_some_iff.1 h2).1
  rw[Array.getElem?_append_left (by simpa using hlt)]
  simpa using h2
end
section
variable {P:Program}{a:Act}{n:Nat}{E:List (Nat×Value)}{g w w0:World}{D D0:Snap}{L L0:List Blk}
end
abbrev RecF:=LoopState→Option Code→Blk
def QaF(q:RecF)(l fn dd:Nat)(tmps:Array Value)(ps:Array Tmp)(assign body:Code):Prop:=q=fun st pe=>lp l (rcd st pe fn tmps ps assign body dd)
section
variable {P:Program}{ρ:Option Nat}{ops:Array Oper}{Q:Exit→Act→World→Prop}{a:Act}{n:Nat}{ds:List Deferred}{E:List (Nat×Value)}
variable {g w w' w0:World}{D D0:Snap}{L L0:List Blk}{i:Nat}{o:Oper}{d:Nat}{C:Act→World→Prop}
variable {q:RecF}{l fn dd:Nat}{tmps:Array Value}{ps:Array Tmp}{assign body:Code}
theorem QpT{gop:Operand}{gf:FuncId}{captured:Array Value}(hE:Env a n ds E)(hS:Stp g w0 D0 L0 w D L)
  (hg:Yt E gop=some (.func (.func gf) #[] captured)) (hfn:(P.funcs[gf]?).map (fun F=>(F.name== "runtime.NumGoroutine",F.body.isNone))=some (false,false))
  (k:∀(fn l dd:Nat) w' (q:RecF),QaF q l fn dd a.tmps ps assign body→Stp g w0 D0 L0 w' D (q .ready none::dk dd::L)→
   CallsIn (Fw none) 0 P gf (List.toArray (.func (.yield l) #[] #[]::captured.toList)) w' (rangePost (Fw none) 0 P l Q {a with defers:=Zi dd::a.defers})):
  (Code.rangeFunc gop ps assign body).wpIn (Fw none) 0 P Q a w:=
 QsM hE hS hg hfn (fun fn l dd w' h=>k fn l dd w' _ rfl h)
theorem QpU{n0:Nat}{a0:Act}{ds0:List Deferred}{E0:List (Nat×Value)}{fv:Operand}{xs:Array Operand}{ts:Array TypeId}{args:List Value}(hq:QaF q l fn dd a0.tmps ps assign body)
  (ho:ops[i]?=some o) (hop:o.op= .call {callee:= .value fv,args:=xs,argTypes:=ts}) (hg:guardOf ops E o=some true) (hd:o.dst=some d) (hE:Env a n ds E) (hn:Nat.blt d n=true)
  (hf:Yt E fv=some (.func (.yield l) #[] #[])) (hxs:JC E xs.toList=some args) (hS:Stp g w0 D0 L0 w D (q .ready none::L)) (hE0:Env a0 n0 ds0 E0)
  (hps:ps.toList.length=args.length) (hpb:ps.toList.all (fun t=>Nat.blt t n0)=true)
  (k:∀a1,Env a1 n0 [] (zipE ps.toList args E0)→assign.wpIn (Fw (some l)) 0 P (Exit.then (fun a1 w1=>∃w2,(Instr.beginRound l).run P w1= .ok () w2∧body.wpIn (Fw (some l)) 0 P (roundPost P l (Rk n ds E d C)) a1 w2) (fun _ _ _=>False)) a1 w):
  Op1 P none ops Q i C a w:=by
 unfold QaF at hq
 subst hq
 exact QsN ho hop hg hd hE hn hf hxs hS hE0 hps hpb k
theorem QpV{X:World→Prop}(hq:QaF q l fn dd tmps ps assign body)(hS:Stp g w0 D0 L0 w D (q .ready none::L))(k:∀w2,Stp g w0 D0 L0 w2 D (q .busy none::L)→X w2):∃w2,(Instr.beginRound l).run P w= .ok () w2∧X w2:=by
 unfold QaF at hq
 subst hq
 exact QsO hS k
theorem QiP{a1:Act}(hq:QaF q l fn dd tmps ps assign body)(hS:Stp g w0 D0 L0 w D (q .busy none::L))
  (k:∀w2 a',Stp g w0 D0 L0 w2 D (q .ready none::L)→Env a' n ds ((d,.bool true)::E)→C a' w2):roundPost P l (Rk n ds E d C) .normal a1 w:=by
 unfold QaF at hq
 subst hq
 exact Qko hS k
theorem Qoo{a1:Act}(hq:QaF q l fn dd tmps ps assign body)(hS:Stp g w0 D0 L0 w D (q .busy none::L))
  (k:∀w2 a',Stp g w0 D0 L0 w2 D (q .done (some .ret)::L)→Env a' n ds ((d,.bool false)::E)→C a' w2):roundPost P l (Rk n ds E d C) .ret a1 w:=by
 unfold QaF at hq
 subst hq
 exact QpR hS k
theorem QlY{n0:Nat}{a0:Act}{ds0:List Deferred}{E0:List (Nat×Value)}{v:Value}(hq:QaF q l fn dd a0.tmps ps assign body)(hS:Stp g w0 D0 L0 w D (q .ready none::L))(hE0:Env a0 n0 ds0 E0)
  (k:∀w2 a',Stp g w0 D0 L0 w2 D L→Env a' n0 (Zi dd::ds0) E0→Q .normal a' w2):
  rangePost (Fw none) 0 P l Q {a0 with defers:=Zi dd::a0.defers} (.returned v) w:=by
 unfold QaF at hq
 subst hq
 exact Qon hS hE0 (fun w2 a' h h'=>k w2 a' h.drop h')
theorem Qop{n0:Nat}{a0:Act}{ds0:List Deferred}{E0:List (Nat×Value)}{v:Value}(hq:QaF q l fn dd a0.tmps ps assign body)(hS:Stp g w0 D0 L0 w D (q .done (some .ret)::L))(hE0:Env a0 n0 ds0 E0)
  (k:∀w2 a',Stp g w0 D0 L0 w2 D L→Env a' n0 (Zi dd::ds0) E0→Q .ret a' w2):
  rangePost (Fw none) 0 P l Q {a0 with defers:=Zi dd::a0.defers} (.returned v) w:=by
 unfold QaF at hq
 subst hq
 exact QpS hS hE0 (fun w2 a' h h'=>k w2 a' h.drop h')
theorem Cell.elem{k:IntKind}{N b off:Nat}{v:Vector Int N}{m:Int}(h:Cell (Zh k N) D b off v)(hm:0≤m∧m.toNat<N):Cell (YJ k) D b (off+m.toNat) (vget v m.toNat):=by
 obtain⟨cs,C,T,fr,hr,hb,hc⟩:=h
 obtain rfl:=hr
 refine⟨[.int k (vget v m.toNat)],C,T,fr,rfl,hb,fun j u hu=> ?_⟩
 cases j with
 |zero=>
  simp at hu
  subst hu
  have:=hc m.toNat (.int k (vget v m.toNat)) (by simp[Ya,hm.2])
  simpa using this
 |succ j=>simp at hu
end
section
variable {P:Program}{ρ:Option Nat}{Q:Exit→Act→World→Prop}{a:Act}{w:World}
end
section
variable {P:Program}{ρ:Option Nat}{ops:Array Oper}{K:Act→World→Prop}{Rf:Nat→World→World→Prop}{R:World→World→Prop}{a:Act}{w:World}{n:Nat}{ds:List Deferred}{E:List (Nat×Value)}
end
def inA(N:Nat)(m:Int):Bool:=decide (0≤m)&&decide (m<(N:Int))
def vset{n:Nat}(v:Vector Int n)(i:Nat)(x:Int):Vector Int n:=v.setIfInBounds i x
theorem XH{n:Nat}(v:Vector Int n){i:Nat}(x:Int){j:Nat}(hj:j<n):vget (vset v i x) j=if i=j then x else vget v j:=by
 simp only[vget,vset]
 rw[List.getD_eq_getElem?_getD,List.getD_eq_getElem?_getD]
 simp only[Vector.toList,Vector.toArray_setIfInBounds,Array.toList_setIfInBounds]
 rw[List.getElem?_set]
 split
 ·rename_i h
  subst h
  simp[hj]
 ·rfl
theorem Qgi{k:IntKind}{n:Nat}(v:Vector Int n){i:Nat}(x:Int)(hi:i<n):Ya k n (vset v i x)=(Ya k n v).set i (.int k x):=by
 apply List.ext_getElem?
 intro j
 by_cases hj:j<n
 ·rw[List.getElem?_set]
  simp only[Ya,List.getElem?_map,List.length_map,List.length_range]
  rw[List.getElem?_range hj]
  simp only[Option.map_some]
  rw[XH v x hj]
  by_cases h:i=j
  ·subst h;simp[hi]
  ·simp[h]
 ·rw[List.getElem?_eq_none (by simp[Ya];omega),List.getElem?_eq_none (by simp[Ya];omega)]
theorem Qkp{c:List Value}{i:Nat}{u:Value}(hi:i<c.length):setCells c i [u]=c.set i u:=by
 simp only[setCells]
 rw[List.set_eq_take_append_cons_drop]
 simp[hi]
def intT(P:Program)(t:TypeId):Option IntKind:=match P.underlying t,P.info? t with|some (.int k),some i=>bif Nat.beq i.size 1 then some k else none|_,_=>none
theorem QpW{P:Program}{t:TypeId}{k:IntKind}(h:intT P t=some k):∃i,P.underlying t=some (.int k)∧P.info? t=some i∧i.size=1:=by
 unfold intT at h
 split at h
 ·rename_i i h1 h2
  cases hb:Nat.beq i.size 1 with
  |false=>rw[hb]at h;cases h
  |true=>
   rw[hb]at h
   simp only[Qg,Qa]at h
   subst h
   exact⟨i,h1,h2,Qc hb⟩
 ·cases h
theorem ZX{N:Nat}{m:Int}(h:inA N m=true):0≤m∧m<N∧m.toNat<N:=by
 unfold inA at h
 simp only[Qd,decide_eq_true_eq]at h
 omega
section
variable {P:Program}{ρ:Option Nat}{ops:Array Oper}{Q:Exit→Act→World→Prop}{a:Act}{n:Nat}{ds:List Deferred}{E:List (Nat×Value)}
variable {g w w' w0:World}{D D0:Snap}{L L0:List Blk}{i:Nat}{o:Oper}{d:Nat}{C:Act→World→Prop}{C1:Act→Prop}{R:World→World→Prop}
theorem Qel{t N b off:Nat}{x ix:Operand}{kk k:IntKind}{m:Int}(ho:ops[i]?=some o)(hop:o.op= .indexAddr t x ix)(hg:guardOf ops E o=some true)(hd:o.dst=some d)(hE:Env a n ds E)(hn:Nat.blt d n=true)
  (hx:Yt E x=some (.pointer (some ⟨b,off,none⟩))) (hix:Yt E ix=some (.int kk m)) (hT:Xo P t=some (N,k)) (hm:inA N m=true)
  (c:∀a,Env a n ds ((d,.pointer (some ⟨b,off+m.toNat,none⟩))::E)→C1 a):Tk P ops R i n ds E a w C1:=by
 obtain⟨e,ii,h1,h2,h3,h4⟩:=XG hT
 obtain⟨m0,m1,m2⟩:=ZX hm
 refine ZO (v:= .pointer (some ⟨b,off+m.toNat,none⟩)) hE ho hg hd hn (by simp[hop,Q5]) (fun w' _=> ?_) c
 have ea:=addr_add b off m.toNat
 simp[execOp,hop,hE.eval hx,hE.eval hix,Instr.indexAt,asIntOf,Ql h1,m0,m1,Go.sizeOf,typeInfo,h3,h4,Instr.sureAddr,ea]
theorem Qoq{t N b:Nat}{x:Operand}{k:IntKind}{lo hi:Option Operand}{zl zh:Int}(ho:ops[i]?=some o)(hop:o.op= .slice t x lo hi none)(hg:guardOf ops E o=some true)(hd:o.dst=some d)(hE:Env a n ds E)(hn:Nat.blt d n=true)
  (hx:Yt E x=some (.pointer (some ⟨b,0,none⟩))) (hT:Xo P t=some (N,k)) (hlo:QaD E lo 0 zl) (hhi:QaD E hi N zh) (hb:(decide (0≤zl)&&(decide (zl≤zh)&&(decide (zh≤(N:Int))&&decide (zl<(N:Int)))))=true)
  (c:∀a,Env a n ds ((d,.slice (some ⟨b,zl.toNat,none⟩) (zh.toNat-zl.toNat) (N-zl.toNat))::E)→C1 a):Tk P ops R i n ds E a w C1:=by
 obtain⟨e,q,h1,h2,h3,h4⟩:=XG hT
 simp only[Qd,decide_eq_true_eq]at hb
 obtain⟨b1,b2,b3,b4⟩:=hb
 have hsb:=fun w=>jl (P:=P) (w:=w) (isS:=false) (len:=N) (cap:=N) hE hlo hhi b1 b2 (by omega)
 refine ZO (v:= .slice (some ⟨b,zl.toNat,none⟩) (zh.toNat-zl.toNat) (N-zl.toNat)) hE ho hg hd hn (by simp[hop,Q5]) (fun w' _=> ?_) c
 have hc: ¬N=zl.toNat:=by omega
 have ea:(⟨b,0,none⟩:Addr).add zl.toNat=⟨b,zl.toNat,none⟩:=by rw[addr_add,Nat.zero_add]
 simp only[execOp,hop,Instr.sliceAt,hE.eval hx,Option.map_none,Sem.run_bind,Ql h1,Result.andThen_ok,Instr.sureAddr,Sem.run_pure,hsb,sizeOf,typeInfo,run_program,h3]
 simp[hc,h4,ea]
def Qgj{n:Nat}(v:Vector Int n)(p q c:Nat):Vector Int n:=Vector.ofFn fun i=>if p≤i.val∧i.val<p+c then vget v (q+(i.val-p))else vget v i.val
theorem Qkq{k:IntKind}{n:Nat}(v:Vector Int n){p q c:Nat}(hp:p+c≤n)(hq:q+c≤n):Ya k n (Qgj v p q c)=setCells (Ya k n v) p (((Ya k n v).drop q).take c):=by
 have hl:(Ya k n v).length=n:=by simp[Ya]
 apply List.ext_getElem?
 intro j
 by_cases hj:j<n
 ·have e1:(Ya k n (Qgj v p q c))[j]?=some (.int k (if p≤j∧j<p+c then vget v (q+(j-p))else vget v j)):=by
   simp only[Ya,List.getElem?_map]
   rw[List.getElem?_range hj]
   simp[vget,Qgj,hj]
  rw[e1]
  have hlen:(((Ya k n v).drop q).take c).length=c:=by simp[hl];omega
  simp only[setCells,hlen]
  by_cases h1:j<p
  ·rw[if_neg (by omega),List.append_assoc,List.getElem?_append_left (by simp[hl];omega)]
   simp[Ya,h1,hj]
  ·by_cases h2:j<p+c
   ·rw[if_pos (by omega),List.append_assoc,List.getElem?_append_right (by simp[hl];omega)]
    have e3:((Ya k n v).take p).length=p:=by simp[hl];omega
    rw[e3,List.getElem?_append_left (by rw[hlen];omega),List.getElem?_take,if_pos (by omega),List.getElem?_drop]
    have:q+(j-p)<n:=by omega
    simp[Ya,this]
   ·rw[if_neg (by omega),List.getElem?_append_right (by simp[hl,hlen];omega)]
    have e3:((Ya k n v).take p++((Ya k n v).drop q).take c).length=p+c:=by rw[List.length_append,hlen];simp[hl];omega
    rw[e3,List.getElem?_drop]
    have:p+c+(j-(p+c))=j:=by omega
    rw[this]
    simp[Ya,hj]
 ·rw[List.getElem?_eq_none (by simp[Ya];omega),List.getElem?_eq_none (by simp[setCells,hl];omega)]
theorem QpX{t T e N b p q l1 l2 c1 c2 cc:Nat}{x y:Operand}{ts:Array TypeId}{k:IntKind}{v:Vector Int N}(ho:ops[i]?=some o)(hop:o.op= .call {callee:= .builtin .copy,args:= #[x,y],argTypes:=ts})(hts:ts[0]?=some t)(hg:guardOf ops E o=some true)(hd:o.dst=some d)(hE:Env a n ds E)(hn:Nat.blt d n=true)
  (hS:Stp g w0 D0 L0 w D (bx b T (Ya k N v)::L)) (hx:Yt E x=some (.slice (some ⟨b,p,none⟩) l1 c1)) (hy:Yt E y=some (.slice (some ⟨b,q,none⟩) l2 c2)) (hT:P.underlying t=some (.slice e)) (hI:intT P e=some k)
  (hc:Nat.min l2 l1=cc) (hb:(Nat.ble (p+cc) N&&Nat.ble (q+cc) N)=true)
  (c:∀a w',qC [b] w w'→Env a n ds ((d,.int .i64 (cc:Int))::E)→Stp g w0 D0 L0 w' D (bx b T (Ya k N (Qgj v p q cc))::L)→C a w'):Op1 P ρ ops Q i C a w:=by
 obtain⟨ii,h1,h2,h3⟩:=QpW hI
 simp only[Qd]at hb
 have hb1:=Nat.le_of_ble_eq_true hb.1
 have hb2:=Nat.le_of_ble_eq_true hb.2
 have hl:(Ya k N v).length=N:=by simp[Ya]
 have hload:=run_loadCells_list (P:=P) (w:=w) ⟨b,q,none⟩ (((Ya k N v).drop q).take cc) (fun j u hu=>by
  rw[addr_add,cell_of_row w b _ _ _ _ hS.heap0]
  rw[List.getElem?_take]at hu
  split at hu
  ·rw[List.getElem?_drop]at hu
   simpa using hu
  ·cases hu)
 have hlen:(((Ya k N v).drop q).take cc).length=cc:=by simp[hl];omega
 rw[hlen]at hload
 have hst:=run_storeCells_at P b p T (((Ya k N v).drop q).take cc) 0 (Ya k N v).toArray w hS.heap0 (by simp[hl];omega) (fun u hu=>by
  have:=List.mem_of_mem_drop (List.mem_of_mem_take hu)
  simp only[Ya,List.mem_map]at this
  obtain⟨_,_,rfl⟩:=this
  rfl)
 simp only[Nat.add_zero]at hst
 refine Zf (v:= .int .i64 (cc:Int)) (w':=w.setRow b (setCells (Ya k N v) p (((Ya k N v).drop q).take cc)).toArray) hE ho hg (by simp[hd,JI,hn]) (by simp[hop,Q5]) ?_ ?_
 ·have hcc:Nat.min l2 l1=cc:=hc
  simp[execOp,hop,hE.eval hx,hE.eval hy,resolve,invoke,builtin,Builtin.copy_,hts,Ql hT,Builtin.lenOf,hcc,Builtin.firstCells,sizeOf,typeInfo,h2,h3,hload,hst,setCells,goInt]
 ·rw[hd]
  intro a' h'
  refine c a' _ ⟨by simp,fun k _ hk=>setRow_other w b k _ (by simpa using hk)⟩ h' ?_
  rw[Qkq v hb1 hb2]
  exact hS.put0 (by simp) rfl rfl rfl (setRow_heap w b (Ya k N v).toArray _ T _ hS.heap0) (fun k hk=>setRow_other w b k _ hk)
end
theorem Cell.elemA{D:Snap}{k:IntKind}{N b off:Nat}{v:Vector Int N}{m:Int}(h:Cell (Zh k N) D b off v)(hm:inA N m=true):Cell (YJ k) D b (off+m.toNat) (vget v m.toNat):=
 h.elem ⟨(ZX hm).1,(ZX hm).2.2⟩
section
variable {P:Program}{ρ:Option Nat}{ops:Array Oper}{Q:Exit→Act→World→Prop}{a:Act}{n:Nat}{ds:List Deferred}{E:List (Nat×Value)}
variable {g w w0:World}{D D0:Snap}{L L0:List Blk}{i:Nat}{o:Oper}{d:Nat}{C:Act→World→Prop}{α:Type}{K:Kd α}
theorem Qkr{t e bytes:Nat}{x y:Operand}{m:Int}{z:α}{cz:List Value}{lm:List α}(ho:ops[i]?=some o)(hop:o.op= .makeSlice t x y)(hg:guardOf ops E o=some true)(hd:o.dst=some d)(hE:Env a n ds E)(hn:Nat.blt d n=true)
  (hS:Stp g w0 D0 L0 w D L) (hx:Yt E x=some (.int .i64 m)) (hy:Yt E y=some (.int .i64 m))
  (hT:slT P t=some (e,K.n,bytes,K.n)) (hzv:((P.info? e).bind (·.zero)).map Q4=some cz) (hz:K.r D z cz) (hpos:Nat.blt 0 K.n=true) (hb1:Nat.blt 0 bytes=true) (hfit:QaE bytes z m=some lm)
  (k:∀a A' cap' q' w',qC [] w w'→Env a n ds ((d,.slice A' lm.length cap')::E)→OwnD K e D A' cap' lm q'→Stp g w0 D0 L0 w' D (q'::L)→C a w'):Op1 P ρ ops Q i C a w:=by
 obtain⟨h1,ii,z0,h2,h3,h4,h5,h6⟩:=yT hT
 have hpos':0<K.n:=by simpa[Nat.blt_eq] using hpos
 have hb1':0<bytes:=by simpa[Nat.blt_eq] using hb1
 have hz0:Q4 z0=cz:=by simpa[h2,h3] using hzv
 have hf:0≤m∧m*bytes≤140737488355328∧lm=List.replicate m.toNat z:=by
  unfold QaE at hfit
  cases hd:(decide (0≤m)&&decide (m*bytes≤140737488355328))with
  |true=>
   rw[hd]at hfit
   simp only[Qd,decide_eq_true_eq]at hd
   simp only[Qg,Qa]at hfit
   exact⟨hd.1,hd.2,hfit.symm⟩
  |false=>rw[hd]at hfit;cases hfit
 obtain⟨hm0,hmb,rfl⟩:=hf
 obtain⟨N,rfl⟩:=Int.eq_ofNat_of_zero_le hm0
 have hNb:N*bytes≤140737488355328:=by
  have h:((N*bytes:Nat):Int)≤140737488355328:=by rw[Int.natCast_mul];exact hmb
  omega
 have hN:N≤140737488355328:=Nat.le_trans (Nat.le_mul_of_pos_right N hb1') hNb
 simp only[Int.toNat_natCast]at k⊢
 have hzs:z0.cells.size=K.n:=by rw[qE];simpa using h6
 have hzeros:(madeCells z0.cells (N*ii.size)).toList=jh cz N:=by
  have e1:madeCells z0.cells (N*ii.size)=Builtin.zeroCells z0.cells N:=by
   simp only[madeCells,Builtin.zeroCells,h4,hzs]
  rw[e1]
  have:Builtin.zeroCells z0.cells N=(jh (Q4 z0) N).toArray:=by
   rw[qE]
   simp only[Builtin.zeroCells]
   rw[QiM _ _ (by rw[List.size_toArray,h6];exact hpos')]
  rw[this,hz0]
 have hrl:∀N,RL K D (List.replicate N z) (jh cz N):=by
  intro N
  induction N with
  |zero=>rfl
  |succ N ih=>exact⟨cz,jh cz N,rfl,hz,ih⟩
 have hrun:=run_make (P:=P) w t e ii z0 h1 h2 h3 .i64 .i64 (N:Int) (N:Int) (by omega) (Int.le_refl _) (by
  rw[h5]
  have h:((bytes*N:Nat):Int)≤281474976710656:=by rw[Nat.mul_comm];omega
  rwa [Int.natCast_mul]at h) (by omega)
 simp only[Int.toNat_natCast]at hrun
 refine Zf (v:= .slice (some ⟨w.heap.size,0,none⟩) N N) (w':=w.alloc (.cells (madeCells z0.cells (N*ii.size)) e)) hE ho hg (by simp[hd,JI,hn]) (by simp[hop,Q5]) ?_ ?_
 ·simp[execOp,hop,hE.eval hx,hE.eval hy,hrun]
 ·rw[hd]
  intro a' h'
  have hsz2:(madeCells z0.cells (N*ii.size)).size=N*K.n:=by rw[size_madeCells,h4]
  refine k a' _ N (some (w.heap.size,(.cells (madeCells z0.cells (N*ii.size)) e (0,0),0))) _ (Qf7 _ _) (by simpa[upd] using h') ⟨jh cz N,⟨rfl,by simp,by simp only[maxLen];omega,?_,_,0,rfl,Nat.zero_le _,fun _=>rfl,?_,?_⟩,hrl N⟩ (hS.alloc _)
  ·rw[jH,←hz0,h6,List.length_replicate]
  ·rw[hsz2]
  ·rw[List.length_replicate,hzeros]
   have:N*K.n=(jh cz N).length:=by rw[jH,←hz0,h6]
   rw[this,List.take_length]
end
section
variable {P:Program}{ρ:Option Nat}{ops:Array Oper}{a:Act}{n:Nat}{ds:List Deferred}{E:List (Nat×Value)}{w:World}{D:Snap}{i:Nat}{o:Oper}{d:Nat}{C1:Act→Prop}{R:World→World→Prop}
theorem Qdy{kk:IntKind}{t e N b off:Nat}{x:Operand}{lo hi:Option Operand}{zl zh:Int}{T:TypeId}{fr:Nat×Nat}{cs:List Value}{v:Vector Int N}{m:List Int}(ho:ops[i]?=some o)(hop:o.op= .slice t x lo hi none)(hg:guardOf ops E o=some true)(hd:o.dst=some d)(hE:Env a n ds E)(hn:Nat.blt d n=true)
  (hx:Yt E x=some (.pointer (some ⟨b,off,none⟩))) (hT:arT P t=some (N,e,1)) (hlo:QaD E lo 0 zl) (hhi:QaD E hi N zh) (hD:D b=some (.cells cs.toArray T fr)) (hcs:(cs.drop off).take N=Ya kk N v) (hN:Nat.ble N 1000000=true) (hm:subI (Ye v) zl zh=some m)
  (k:∀a A' cap',Env a n ds ((d,.slice A' m.length cap')::E)→Sl (YJ kk) D A' cap' m→C1 a):Tk P ops R i n ds E a w C1:=by
 obtain⟨ht,he⟩:=QsF hT
 have hN':=Nat.le_of_ble_eq_true hN
 obtain⟨h0,h1,h2,rfl⟩:=Qdv hm
 rw[QI]at h2
 obtain⟨q,hq,hqs⟩:=Option.map_eq_some_iff.1 he
 have hsb:=fun w=>jl (P:=P) (w:=w) (isS:=false) (len:=N) (cap:=N) hE hlo hhi h0 h1 (by omega)
 have hlen:(((Ye v).take zh.toNat).drop zl.toNat).length=zh.toNat-zl.toNat:=by simp[QI];omega
 have hsl:Sl (YJ kk) D (some ⟨b,off,none⟩) N (Ye v):=⟨by rw[QI];exact Nat.le_refl _,by simp only[maxLen];omega,Ya kk N v,QwE v,.inr ⟨b,off,_,T,fr,rfl,hD,fun j u hu=>by
  rw[←hcs,List.getElem?_take]at hu
  split at hu
  ·rw[List.getElem?_drop]at hu
   simpa using hu
  ·cases hu⟩⟩
 have hsub:=hsl.sub (x:=zl.toNat) (y:=zh.toNat) (by omega) (by rw[QI];omega) q.size hqs
 refine ZO (v:= .slice (if N=zl.toNat then some ⟨b,off,none⟩else(some (⟨b,off,none⟩:Addr)).map (·.add (zl.toNat*q.size))) (((Ye v).take zh.toNat).drop zl.toNat).length (N-zl.toNat)) hE ho hg hd hn (by simp[hop,Q5]) (fun w' _=> ?_) ?_
 ·rw[hlen]
  simp only[execOp,hop,Instr.sliceAt,hE.eval hx,Option.map_none,Sem.run_bind,Ql ht,Result.andThen_ok,Instr.sureAddr,Sem.run_pure,hsb,sizeOf,typeInfo,run_program,hq]
  by_cases hc:N=zl.toNat
  ·simp[hc]
  ·simp[hc]
 ·intro a' h'
  exact k a' _ _ h' hsub
end
section
variable {g w0 w w':World}{D0 D D':Snap}{L0 L:List Blk}
end
end Go.Sep
