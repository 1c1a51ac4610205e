/-
 A range over a function: the record of the loop and the block of its deferred calls are owned; the rounds are walked where the iterator calls yield.
-/
import Derived.Test.YtomndohdnfebgaaGreatDoorSepI
import Derived.RangeFuncLeaves
import Derived.RangeFuncRecord
set_option linter.unusedVariables false
set_option linter.unusedSimpArgs false
namespace Go.Sep
section
variable {P:Program}{ρ:Option Nat}{ops:Array Oper}{Q:Exit→Act→World→Prop}{a:Act}{n:Nat}{ds:List Deferred}{E:List (Nat×Value)}
variable {g w w0:World}{D D0:Snap}{L L0:List Blk}{i:Nat}{o:Oper}{d:Nat}{C:Act→World→Prop}{C1:Act→Prop}{R:World→World→Prop}
theorem QoX{N:Nat}{v:Vector Int N}{m:Nat}{y:Int}(h:(Q9 v)[m]?=some y):m<N∧y=vget v m:=by
 obtain⟨h1,h2⟩:=List.getElem?_eq_some_iff.1 h
 simp[Q9]at h1 h2
 exact⟨h1,h2.symm⟩
theorem QoY{t N:Nat}{x ix:Operand}{kk k:IntKind}{v:Vector Int N}{m y:Int}(ho:ops[i]?=some o)(hop:o.op= .index t x ix)(hg:guardOf ops E o=some true)(hd:o.dst=some d)(hE:Env a n ds E)(hn:Nat.blt d n=true)
  (hx:Yt E x=some (.agg (List.toArray (Q4 k N v)))) (hix:Yt E ix=some (.int kk m)) (hT:yV P t=some (N,k)) (hy:getI (Q9 v) m=some y)
  (c:∀a,Env a n ds ((d,.int k y)::E)→C1 a):Tk P ops R i n ds E a w C1:=by
 obtain⟨e,ii,h1,h2,h3,h4⟩:=Xg hT
 obtain⟨h0,hy'⟩:=jL hy
 obtain⟨hlt,rfl⟩:=QoX hy'
 have hltI:m<(N:Int):=by omega
 refine ZU (v:= .int k (vget v m.toNat)) hE ho hg hd hn (by simp[hop,QY]) (fun w' _=> ?_) c
 have hp:=QfV (P:=P) h2 v hlt w'
 simp[execOp,hop,hE.eval hx,hE.eval hix,Instr.index,asIntOf,Ql h1,h0,hltI,Go.sizeOf,typeInfo,h3,h4]
 rw[Nat.mul_one]at hp
 rw[hp];rfl
def arT2(P:Program)(t:TypeId):Option (Nat×TypeId×Nat):=
 match P.underlying t with
 |some (.array N e)=>match P.info? e with
  |some i=>some (N,e,i.size)
  |none=>none
 |_=>none
theorem QjO{t N e sz:Nat}(h:arT2 P t=some (N,e,sz)):∃i,P.underlying t=some (.array N e)∧P.info? e=some i∧i.size=sz:=by
 unfold arT2 at h
 split at h
 ·rename_i hu
  split at h
  ·rename_i i h2
   simp only[Qa,Qe]at h
   obtain⟨rfl,rfl,rfl⟩:=h
   exact⟨i,hu,h2,rfl⟩
  ·cases h
 ·cases h
theorem QoZ{t N e sz:Nat}{x ix:Operand}{kk:IntKind}{cs:List Value}{m:Int}(j:Nat)(v:Value)(ho:ops[i]?=some o)(hop:o.op= .index t x ix)(hg:guardOf ops E o=some true)(hd:o.dst=some d)(hE:Env a n ds E)(hn:Nat.blt d n=true)
  (hx:Yt E x=some (.agg (List.toArray cs))) (hix:Yt E ix=some (.int kk m)) (hm:m=(j:Int)) (hT:arT2 P t=some (N,e,sz)) (hj:Nat.blt j N=true) (hv:ldv P e cs (j*sz)=some v)
  (c:∀a,Env a n ds ((d,v)::E)→C1 a):Tk P ops R i n ds E a w C1:=by
 obtain⟨ii,h1,h3,rfl⟩:=QjO hT
 subst hm
 have hlt:j<N:=by simpa[Nat.blt_eq] using hj
 refine ZU (v:=v) hE ho hg hd hn (by simp[hop,QY]) (fun w' _=> ?_) c
 have hp:=Qil hv w'
 simp[execOp,hop,hE.eval hx,hE.eval hix,Instr.index,asIntOf,Ql h1,hlt,Go.sizeOf,typeInfo,h3]
 rw[hp];rfl
end
section
variable {P:Program}{ρ:Option Nat}{ops:Array Oper}{Rf:Nat→World→World→Prop}{K:Act→World→Prop}{a:Act}{w:World}
end
def mfOf:List (Nat×List Nat)→Nat→List Nat
 | [],_=> []
 |(k,l)::t,j=>bif Nat.beq k j then l else mfOf t j
section
variable {P:Program}{ρ:Option Nat}{ops:Array Oper}{K:Act→World→Prop}{a:Act}{w:World}{n:Nat}{ds:List Deferred}{E:List (Nat×Value)}
end
theorem Qtg{D:Snap}:∀m,m∈([]:List Nat)→∀p,D m=some p→QfN 0 p:=fun _ h=>absurd h List.not_mem_nil
end Go.Sep
set_option linter.unusedVariables false
set_option linter.unusedSimpArgs false
namespace Go.Sep
section
variable {P:Program}{ρ:Option Nat}{ops:Array Oper}{Q:Exit→Act→World→Prop}{a:Act}{n:Nat}{ds:List Deferred}{E:List (Nat×Value)}
variable {g w w0:World}{len:Nat}{D D0:Snap}{L L0:List Blk}{i:Nat}{o:Oper}{d:Nat}{C:Act→World→Prop}{C1:Act→Prop}{R:World→World→Prop}
theorem Qt6{t:TypeId}{x y:Operand}{k:IntKind}{p q:Int}(hq:decide (q=0)=false)(w:World):(do eqGuard .rem t x y (.int k p) (.int k q);binOp .rem t (.int k p) (.int k q):Sem Value).run P w= .ok (.int k (Int.tmod p q)) w:=by
 have hq':q≠0:=of_decide_eq_false hq
 refine yU (jc trivial) (fun w=> ?_) w
 simp[binOp,Op.intDiv,hq']
theorem Qt7{t:TypeId}{x y:Operand}{k:IntKind}{p q:Int}(hq:decide (q=0)=false)(w:World):(do eqGuard .quo t x y (.int k p) (.int k q);binOp .quo t (.int k p) (.int k q):Sem Value).run P w= .ok (.int k (k.wrap (Int.tdiv p q))) w:=by
 have hq':q≠0:=of_decide_eq_false hq
 refine yU (jc trivial) (fun w=> ?_) w
 simp[binOp,Op.intDiv,hq']
theorem Qt8{t:TypeId}{x y:Operand}{k k':IntKind}{p q:Int}(hq:decide (q<0)=false)(w:World):(do eqGuard .shl t x y (.int k p) (.int k' q);binOp .shl t (.int k p) (.int k' q):Sem Value).run P w= .ok (.int k (k.wrap (p*2^(min q.toNat k.bits)))) w:=by
 have hq': ¬q<0:=of_decide_eq_false hq
 refine yU (jc trivial) (fun w=> ?_) w
 simp[binOp,Op.shift,hq']
theorem Qt9{t:TypeId}{x y:Operand}{k k':IntKind}{p q:Int}(hq:decide (q<0)=false)(w:World):(do eqGuard .shr t x y (.int k p) (.int k' q);binOp .shr t (.int k p) (.int k' q):Sem Value).run P w= .ok (.int k (Int.fdiv p (2^(min q.toNat k.bits)))) w:=by
 have hq': ¬q<0:=of_decide_eq_false hq
 refine yU (jc trivial) (fun w=> ?_) w
 simp[binOp,Op.shift,hq']
end
end Go.Sep
set_option linter.unusedVariables false
set_option linter.unusedSimpArgs false
namespace Go.Sep
def lbL:Nat→Nat→List Bool
 |0,_=> []
 |n+1,m=>Nat.beq (m%2) 1::lbL n (m/2)
def lb(n m:Nat):Array Bool:=(lbL n m).toArray
def eqB:List Bool→List Bool→Bool
 | [], []=>true
 |x::l,y::m=>(x==y)&&eqB l m
 |_,_=>false
theorem Qmy:∀{l m:List Bool},eqB l m=true→l=m
 | [], [],_=>rfl
 |x::l,y::m,h=>by
  simp only[eqB,Qd,beq_iff_eq]at h
  rw[h.1,Qmy h.2]
 | [],_::_,h=>by cases h
 |_::_, [],h=>by cases h
def setB(ops:Array Oper)(listed:Array Bool)(i m:Nat):Bool:=eqB (listed.toList.set i true) (lbL ops.size m)
theorem QjP{ops:Array Oper}{listed:Array Bool}{i m:Nat}(h:setB ops listed i m=true):listed.setIfInBounds i true=lb ops.size m:=by
 apply Array.ext'
 rw[Array.toList_setIfInBounds]
 exact Qmy h
def okT(ops:Array Oper)(listed:Array Bool)(i m:Nat):Bool:=Qch ops&&(Region.free .any ops listed i&&((Region.ready .any ops listed).contains i&&setB ops listed i m))
theorem Zw{ops:Array Oper}{listed:Array Bool}{i m:Nat}(h:okT ops listed i m=true):Qch ops=true∧Region.free .any ops listed i=true∧(Region.ready .any ops listed).contains i=true∧listed.setIfInBounds i true=lb ops.size m:=by
 unfold okT at h
 simp only[Qd]at h
 exact⟨h.1,h.2.1,h.2.2.1,QjP h.2.2.2⟩
def Qth:List Nat→Nat→Bool
 | [j],i=>Nat.beq j i
 |_,_=>false
theorem Qlm:∀{l:List Nat} {i:Nat},Qth l i=true→l= [i]
 | [j],i,h=>by rw[Qc h]
 | [],_,h=>by cases h
 |_::_::_,_,h=>by cases h
section
variable {P:Program}{ρ:Option Nat}{ops:Array Oper}{K:Act→World→Prop}{Rf:Nat→World→World→Prop}{a:Act}{w:World}{n:Nat}{ds:List Deferred}{E:List (Nat×Value)}
theorem tW [hI:Idle Rf](i m:Nat){fuel:Nat}{listed:Array Bool}(hc:okT ops listed i m=true)(hE:Env a n ds E)
  (h:∀R,Tk P ops R i n ds E a w (fun a=>wpG P ρ ops Rf K (Qn K) fuel (lb ops.size m) a w)):wpG P ρ ops Rf K (Qn K) (fuel+1) listed a w:=
 takeW i _ (Zw hc).1 (Zw hc).2.1 (Zw hc).2.2.1 (Zw hc).2.2.2 hE h
theorem tT{Mf:Nat→List Nat}(i m:Nat){fuel:Nat}{listed:Array Bool}(hc:(okT ops listed i m&&Qry Mf ops listed i)=true)(hE:Env a n ds E)
  (h:Tk P ops (qc []) i n ds E a w (fun a=>wpG P ρ ops (fun j=>qc (Mf j)) K (Qn K) fuel (lb ops.size m) a w)):wpG P ρ ops (fun j=>qc (Mf j)) K (Qn K) (fuel+1) listed a w:=by
 rw[Qd]at hc
 exact takeT i _ (Zw hc.1).1 (Zw hc.1).2.1 (Zw hc.1).2.2.1 (Zw hc.1).2.2.2 hc.2 hE h
theorem oG(i m:Nat){fuel:Nat}{listed:Array Bool}(hc:(Qth (Region.ready .any ops listed) i&&setB ops listed i m)=true)
  (h:Op1 P ρ ops (Qn K) i (fun a' w'=>Rf i w w'∧wpG P ρ ops Rf K (Qn K) fuel (lb ops.size m) a' w') a w):wpG P ρ ops Rf K (Qn K) (fuel+1) listed a w:=by
 rw[Qd]at hc
 exact onlyG (Qlm hc.1) (QjP hc.2) h
end
def catE:List (Nat×Value)→List (Nat×Value)→List (Nat×Value)
 | [],E=>E
 |x::l,E=>x::catE l E
section
variable {P:Program}{ρ:Option Nat}{ops:Array Oper}{Q:Exit→Act→World→Prop}{a:Act}{w:World}{n:Nat}{ds:List Deferred}{E:List (Nat×Value)}
def QjQ(ops:Array Oper)(N E:List (Nat×Value)):Nat→Nat→Bool
 |0,_=>true
 |m+1,i=>(match ops[i]? with|some o=>(match o.dst with|some d=>(look N d).isSome||(look E d).isNone|none=>true)|none=>true)&&QjQ ops N E m (i+1)
theorem Qmz:∀(N:List (Nat×Value)) (t:Nat) (v:Value),look (catE N E) t=some v→look N t=some v∨(look N t=none∧look E t=some v)
 | [],t,v,h=> .inr ⟨rfl,h⟩
 |(k,u)::N,t,v,h=>by
  simp only[catE,look]at h⊢
  cases hb:Nat.beq k t with
  |true=>rw[hb]at h;exact .inl h
  |false=>rw[hb]at h;exact Qmz N t v h
theorem QjR{N E0:List (Nat×Value)}{t:Nat}(hN:look N t=none)(hE0:(look E0 t).isSome=true):∀(m i:Nat) (E X:List (Nat×Value)),XR P ops n m i E=some X→QjQ ops N E0 m i=true→look X t=look E t:=by
 intro m
 induction m with
 |zero=>
  intro i E X h _
  simp only[XR,Qa]at h
  rw[h]
 | succ m ih=>
  intro i E X h hd
  simp only[XR]at h
  simp only[QjQ,Qd]at hd
  split at h
  ·cases h
  ·rename_i o ho
   rw[ho]at hd
   have hu:∀v,look (upd E o.dst v) t=look E t:=by
    intro v
    cases hdst:o.dst with
    |none=>rfl
    | some d=>
     have h1:=hd.1
     simp only[hdst,Bool.or_eq_true]at h1
     simp only[upd,look]
     cases hb:Nat.beq d t with
     |false=>rfl
     | true=>
      have:=Qc hb
      subst this
      rcases h1 with h1|h1
      ·rw[hN]at h1;cases h1
      ·rw[Option.isNone_iff_eq_none]at h1
       rw[h1]at hE0;cases hE0
   cases hdo:Jv n o.dst with
   |false=>rw[hdo]at h;cases h
   | true=>
    rw[hdo]at h
    simp only[Qg]at h
    split at h
    ·cases hs:QtU P o.op with
     |false=>rw[hs]at h;cases h
     |true=>
      rw[hs]at h
      simp only[Qg]at h
      split at h
      ·rw[ih _ _ _ h hd.2,hu]
      ·cases h
    ·rw[ih _ _ _ h hd.2,hu]
    ·cases h
theorem segN(m:Nat){i j:Nat}(N:List (Nat×Value))(hE:Env a n ds E)(h:(XR P ops n m i E).map (fun X=>(sub X N,QjQ ops N E m i))=some (sub' N,true))(hj:i+m=j)
  (k:∀a',Env a' n ds (catE N E)→At P ρ ops Q j a' w):At P ρ ops Q i a w:=by
 subst hj
 cases he:XR P ops n m i E with
 |none=>rw[he]at h;cases h
 | some X=>
  rw[he]at h
  simp only[Option.map_some,Qa,Qe]at h
  refine QoG m i E X a hE he fun a' h'=>k a' ⟨h'.size,h'.ds,fun t v hv=>h'.at_ t v ?_⟩
  rcases Qmz N t v hv with h1|⟨h1,h2⟩
  ·exact Qmu h.1 t v h1
  ·rw[QjR h1 (by rw[h2];rfl) m i E X he h.2]
   exact h2
end
inductive App{α:Type}(R:List α):List α→List α→Prop
 |n:App R [] R
 |c {x:α} {l m:List α} (t:App R l m):App R (x::l) (x::m)
theorem App.eq{α:Type}{R l m:List α}(h:App R l m):l++R=m:=by
 induction h with
 |n=>rfl
 |c t ih=>simp[ih]
section
variable {g w0 w w':World}{D0 D D':Snap}{L0 L L' R M M':List Blk}
theorem Stp.callR(h0:Stp g w0 D0 L0 w D M)(h:Stp g w D L w' D' L')(he:L++R=M)(ha:App R L' M'):Stp g w0 D0 L0 w' D' M':=by
 subst he
 rw[←ha.eq]
 exact h0.call h
end
end Go.Sep
set_option linter.unusedVariables false
set_option linter.unusedSimpArgs false
namespace Go.Sep
def rcd(st:LoopState)(pe:Option Code)(fn:FuncId)(tmps:Array Value)(ps:Array Tmp)(assign body:Code)(d:Nat):Loop:=
 {state:=st,pending:=pe,fn:=fn,tmps:=tmps,params:=ps,assign:=assign,body:=body,defers:=d}
abbrev lp(l:Nat)(r:Loop):Blk:=some (l,(.loop r,0))
abbrev dk(b:Nat):Blk:=some (b,(.deferred (some []),0))
abbrev XU(b:Nat):Deferred:={target:= .collected b,args:= #[] }
section
variable {P:Program}{ρ:Option Nat}{ops:Array Oper}{Q:Exit→Act→World→Prop}{a:Act}{n:Nat}{ds:List Deferred}{E:List (Nat×Value)}
variable {g w w' w0:World}{D D0:Snap}{L L0:List Blk}{i:Nat}{o:Oper}{d:Nat}{C:Act→World→Prop}
theorem Stp.obj{b:Nat}{o o':Obj}(ho:∀C T fr,o≠ .cells C T fr)(h:Stp g w0 D0 L0 w D (some (b,(o,0))::L)):Stp g w0 D0 L0 (w.putObj b o') D (some (b,(o',0))::L):=by
 have hlt:b<w.heap.size:=lt_of_heap (h.st.l b (o,0) (by simp)).1
 refine h.put (o':=(o',0)) ?_ (by simp[World.putObj]) rfl rfl rfl (World.putObj_heap_same hlt) (fun k hk=>World.putObj_heap_other hk)
 rintro p ⟨C0,T0,fr0,rfl,h0⟩ h1
 obtain⟨C',T',fr',e,_⟩:=h1
 exact absurd e (ho C' T' fr')
theorem QrH{gop:Operand}{ps:Array Tmp}{assign body:Code}{gf:FuncId}{captured:Array Value}(hE:Env a n ds E)(hS:Stp g w0 D0 L0 w D L)
  (hg:Yt E gop=some (.func (.func gf) #[] captured)) (hfn:(P.funcs[gf]?).map (fun F=>(F.name== "runtime.NumGoroutine",F.body.isNone))=some (false,false))
  (k:∀fn l dd w',Stp g w0 D0 L0 w' D (lp l (rcd .ready none fn a.tmps ps assign body dd)::dk dd::L)→
   CallsIn (Fw none) 0 P gf (List.toArray (.func (.yield l) #[] #[]::captured.toList)) w' (rangePost (Fw none) 0 P l Q {a with defers:=XU dd::a.defers})):
  (Code.rangeFunc gop ps assign body).wpIn (Fw none) 0 P Q a w:=by
 obtain⟨F,hF,hF2⟩:=Option.map_eq_some_iff.1 hfn
 simp only[Qe]at hF2
 have h1: ¬F.name= "runtime.NumGoroutine" :=by simpa using hF2.1
 have h2:F.body≠none:=by intro e;rw[e]at hF2;simp at hF2
 have hge:=hE.eval hg
 have eg:∀args w,(callFunc gf args).run P w= .ok (.enter gf args) w:=by
  intro args w
  simp[callFunc,hF,h1,h2]
 refine wpIn_rangeFunc (fun fn hfn=> ?_)
 have hS2:=(hS.alloc (.deferred (some []))).alloc (.loop (rcd .ready none fn a.tmps ps assign body w.heap.size))
 have hsz:(w.alloc (.deferred (some []))).heap.size=w.heap.size+1:=by simp
 rw[hsz]at hS2
 have hen:=run_enterLoop_outer (P:=P) (w:=w) fn a.tmps ps assign body
 obtain⟨W1,hW1⟩:∃W1,W1=(w.alloc (.deferred (some []))).alloc (.loop (rcd .ready none fn a.tmps ps assign body w.heap.size)):=⟨_,rfl⟩
 rw[←hW1]at hS2
 have hen:(Instr.enterLoop fn a.tmps ps assign body none).run P w= .ok (w.heap.size+1, [XU w.heap.size]) W1:=by rw[hW1];exact hen
 have hk:=k fn (w.heap.size+1) w.heap.size W1 hS2
 have e: #[Value.func (.yield (w.heap.size+1)) #[] #[]]++captured=List.toArray (.func (.yield (w.heap.size+1)) #[] #[]::captured.toList):=by
  apply Array.ext';simp
 rw[←e]at hk
 refine⟨w.heap.size+1, [XU w.heap.size],W1,{target:= .fn (.func gf) captured,args:= #[.func (.yield (w.heap.size+1)) #[] #[]] },W1,gf,#[.func (.yield (w.heap.size+1)) #[] #[]]++captured,W1,hen,?_,?_,?_,?_,?_⟩
 ·simp only[resolve,hge]
  simp[go_sem]
 ·intro f' hf';trivial
 ·simp[invoke,go_sem,eg]
 ·intro h;exact absurd h (by decide)
 ·exact hk
end
section
variable {P:Program}{ρ:Option Nat}{ops:Array Oper}{Q:Exit→Act→World→Prop}{a:Act}{n:Nat}{ds:List Deferred}{E:List (Nat×Value)}
variable {g w w' w0:World}{D D0:Snap}{L L0:List Blk}{i:Nat}{o:Oper}{d:Nat}{C:Act→World→Prop}
def zipE:List Tmp→List Value→List (Nat×Value)→List (Nat×Value)
 |t::ts,v::vs,E=>zipE ts vs ((t,v)::E)
 |_,_,E=>E
theorem Qo0{n0:Nat}:∀(ts:List Tmp) (vs:List Value) (E:List (Nat×Value)) (tmps:Array Value),Env {tmps:=tmps,defers:= [] } n0 [] E→ts.length=vs.length→ts.all (fun t=>Nat.blt t n0)=true→
  Env {tmps:=(ts.zip vs).foldl (fun tmps (x:Tmp×Value)=>tmps.setIfInBounds x.1 x.2) tmps,defers:= [] } n0 [] (zipE ts vs E)
 | [], [],E,tmps,h,_,_=>h
 |t::ts,v::vs,E,tmps,h,hl,hb=>by
  simp only[List.all_cons,Qd]at hb
  have h2:=h.put (d:=some t) hb.1 v
  exact Qo0 ts vs ((t,v)::E) _ h2 (by simpa using hl) hb.2
 | [],_::_,_,_,_,hl,_=>by cases hl
 |_::_, [],_,_,_,hl,_=>by cases hl
def Rk(n:Nat)(ds:List Deferred)(E:List (Nat×Value))(d:Nat)(C:Act→World→Prop):Ending→World→Prop:=
 fun e w2=>∃v,e= .returned v∧∀a',Env a' n ds ((d,v)::E)→C a' w2
theorem QrI{l fn dd n0:Nat}{ps:Array Tmp}{assign body:Code}{a0:Act}{ds0:List Deferred}{E0:List (Nat×Value)}{fv:Operand}{xs:Array Operand}{ts:Array TypeId}{args:List Value}
  (ho:ops[i]?=some o) (hop:o.op= .call {callee:= .value fv,args:=xs,argTypes:=ts}) (hg:guardOf ops E o=some true) (hd:o.dst=some d) (hE:Env a n ds E) (hn:Nat.blt d n=true)
  (hf:Yt E fv=some (.func (.yield l) #[] #[])) (hxs:Jr E xs.toList=some args) (hS:Stp g w0 D0 L0 w D (lp l (rcd .ready none fn a0.tmps ps assign body dd)::L)) (hE0:Env a0 n0 ds0 E0)
  (hps:ps.toList.length=args.length) (hpb:ps.toList.all (fun t=>Nat.blt t n0)=true)
  (k:∀a1,Env a1 n0 [] (zipE ps.toList args E0)→assign.wpIn (Fw (some l)) 0 P (Exit.then (fun a1 w1=>∃w2,(Instr.beginRound l).run P w1= .ok () w2∧body.wpIn (Fw (some l)) 0 P (roundPost P l (Rk n ds E d C)) a1 w2) (fun _ _ _=>False)) a1 w):
  Op1 P none ops Q i C a w:=by
 have hargs:xs.map a.eval=args.toArray:=by
  have:=yc (E:=E) (ev:=a.eval) (fun _ _ h=>hE.eval h) _ _ hxs
  rw[←Array.toList_map]at this
  rw[←this]
 have hL:=(hS.st.l l (.loop (rcd .ready none fn a0.tmps ps assign body dd),0) (by simp)).1
 have hw:=ja (ops:=ops) hE hg
 have hnd:QY o.op=true:=by simp[hop,QY]
 have hy:=run_yield (P:=P) (args:=args.toArray) hL (by simp[rcd,←hps])
 have hr0:(execOp a.eval o).run P w=(Instr.yield l args.toArray).run P w:=by
  simp[execOp,hop,resolve,hE.eval hf,Deferred.ofValue,hargs,invoke]
 have e1:((rcd .ready none fn a0.tmps ps assign body dd).params.zip args.toArray).foldl (fun tmps (t,a)=>tmps.setIfInBounds t a) (rcd .ready none fn a0.tmps ps assign body dd).tmps=(ps.toList.zip args).foldl (fun tmps (x:Tmp×Value)=>tmps.setIfInBounds x.1 x.2) a0.tmps:=by
  show(ps.zip args.toArray).foldl (fun tmps (x:Tmp×Value)=>tmps.setIfInBounds x.1 x.2) a0.tmps=_
  rw[←Array.foldl_toList,Array.toList_zip]
 rw[e1]at hy
 have hr:=hr0.trans hy
 simp only[Op1,wpOpIn,ho,hw,if_true,Oper.wpIn]
 refine⟨fun _ _=>trivial,?_⟩
 rw[y9 hnd,hr]
 refine⟨fun h=>(by cases h),?_⟩
 have hE1:Env {tmps:=a0.tmps,defers:= [] } n0 [] E0:=⟨hE0.size,rfl,fun t v h=>hE0.at_ t v h⟩
 have hz:=Qo0 ps.toList args E0 a0.tmps hE1 hps hpb
 refine RoundIn.mono (roundIn_of_wpIn (F:=Fw none) trivial (k _ hz)) ?_
 rintro e w2 ⟨v,rfl,hk⟩
 have hdo:Jv n o.dst=true:=by simp[hd,Jv,hn]
 have:=hE.put hdo v
 rw[hd]at this
 rw[hd]
 exact hk _ this
theorem QrJ{l fn dd:Nat}{tmps:Array Value}{ps:Array Tmp}{assign body:Code}{X:World→Prop}(hS:Stp g w0 D0 L0 w D (lp l (rcd .ready none fn tmps ps assign body dd)::L))
  (k:∀w2,Stp g w0 D0 L0 w2 D (lp l (rcd .busy none fn tmps ps assign body dd)::L)→X w2):∃w2,(Instr.beginRound l).run P w= .ok () w2∧X w2:=
 ⟨_,run_beginRound (hS.st.l l (.loop (rcd .ready none fn tmps ps assign body dd),0) (by simp)).1 rfl,k _ (hS.obj (fun _ _ _ h=>by cases h))⟩
theorem QjS{l fn dd:Nat}{tmps:Array Value}{ps:Array Tmp}{assign body:Code}{a1:Act}(hS:Stp g w0 D0 L0 w D (lp l (rcd .busy none fn tmps ps assign body dd)::L))
  (k:∀w2 a',Stp g w0 D0 L0 w2 D (lp l (rcd .ready none fn tmps ps assign body dd)::L)→Env a' n ds ((d,.bool true)::E)→C a' w2):roundPost P l (Rk n ds E d C) .normal a1 w:=
 ⟨_,_,run_endRound none (hS.st.l l (.loop (rcd .busy none fn tmps ps assign body dd),0) (by simp)).1,_,rfl,fun a' hE=>k _ a' (hS.obj (fun _ _ _ h=>by cases h)) hE⟩
theorem Qo1{l fn dd:Nat}{tmps:Array Value}{ps:Array Tmp}{assign body:Code}{a1:Act}(hS:Stp g w0 D0 L0 w D (lp l (rcd .busy none fn tmps ps assign body dd)::L))
  (k:∀w2 a',Stp g w0 D0 L0 w2 D (lp l (rcd .done (some .ret) fn tmps ps assign body dd)::L)→Env a' n ds ((d,.bool false)::E)→C a' w2):roundPost P l (Rk n ds E d C) .ret a1 w:=
 ⟨_,_,run_endRound (some .ret) (hS.st.l l (.loop (rcd .busy none fn tmps ps assign body dd),0) (by simp)).1,_,rfl,fun a' hE=>k _ a' (hS.obj (fun _ _ _ h=>by cases h)) hE⟩
theorem QnA{l fn dd id:Nat}{tmps:Array Value}{ps:Array Tmp}{assign body:Code}{a1:Act}(hS:Stp g w0 D0 L0 w D (lp l (rcd .busy none fn tmps ps assign body dd)::L))
  (k:∀w2 a',Stp g w0 D0 L0 w2 D (lp l (rcd .done (some (.exit id)) fn tmps ps assign body dd)::L)→Env a' n ds ((d,.bool false)::E)→C a' w2):roundPost P l (Rk n ds E d C) (.exit id) a1 w:=
 ⟨_,_,run_endRound (some (.exit id)) (hS.st.l l (.loop (rcd .busy none fn tmps ps assign body dd),0) (by simp)).1,_,rfl,fun a' hE=>k _ a' (hS.obj (fun _ _ _ h=>by cases h)) hE⟩
theorem QnB{l fn dd n0:Nat}{ps:Array Tmp}{assign body:Code}{a0:Act}{ds0:List Deferred}{E0:List (Nat×Value)}{v:Value}(hS:Stp g w0 D0 L0 w D (lp l (rcd .ready none fn a0.tmps ps assign body dd)::L))(hE0:Env a0 n0 ds0 E0)
  (k:∀w2 a',Stp g w0 D0 L0 w2 D (lp l (rcd .exhausted none fn a0.tmps ps assign body dd)::L)→Env a' n0 (XU dd::ds0) E0→Q .normal a' w2):
  rangePost (Fw none) 0 P l Q {a0 with defers:=XU dd::a0.defers} (.returned v) w:=
 ⟨none,_,run_endLoop (hS.st.l l (.loop (rcd .ready none fn a0.tmps ps assign body dd),0) (by simp)).1 (by simp[rcd]),k _ _ (hS.obj (fun _ _ _ h=>by cases h)) ⟨hE0.size,by rw[hE0.ds],hE0.at_⟩⟩
theorem Qo2{l fn dd n0:Nat}{ps:Array Tmp}{assign body:Code}{a0:Act}{ds0:List Deferred}{E0:List (Nat×Value)}{v:Value}(hS:Stp g w0 D0 L0 w D (lp l (rcd .done (some .ret) fn a0.tmps ps assign body dd)::L))(hE0:Env a0 n0 ds0 E0)
  (k:∀w2 a',Stp g w0 D0 L0 w2 D (lp l (rcd .exhausted (some .ret) fn a0.tmps ps assign body dd)::L)→Env a' n0 (XU dd::ds0) E0→Q .ret a' w2):
  rangePost (Fw none) 0 P l Q {a0 with defers:=XU dd::a0.defers} (.returned v) w:=
 ⟨some .ret,_,run_endLoop (hS.st.l l (.loop (rcd .done (some .ret) fn a0.tmps ps assign body dd),0) (by simp)).1 (by simp[rcd]),wpIn_ret (k _ _ (hS.obj (fun _ _ _ h=>by cases h)) ⟨hE0.size,by rw[hE0.ds],hE0.at_⟩)⟩
theorem Qln{f:FuncId}{fn:Func}{c:Code}{args:List Value}{R:Ending→World→Prop}(hf:P.funcs[f]?=some fn)(hb:fn.body=some c)(hn:fn.ntmps=n)(hle:Nat.ble args.length n=true)
  (h:∀a,Env a n [] (argE 0 args)→c.wpIn (Fw none) 0 P (bodyPostM (Fw none) 0 P fn R) a w):CallsIn (Fw none) 0 P f args.toArray w R:=by
 refine callsIn_of_wp_marks hf hb trivial (h _ ⟨?_,rfl,?_⟩)
 ·have:=Nat.le_of_ble_eq_true hle
  simp[hn];omega
 ·intro t v hv
  obtain⟨_,h2⟩:=Qc4 args 0 t v hv
  simp only[Nat.sub_zero]at h2
  have hlt:=(List.getElem?_eq_some_iff.1 h2).1
  rw[Array.getElem?_append_left (by simpa using hlt)]
  simpa using h2
end
section
variable {P:Program}{a:Act}{n:Nat}{E:List (Nat×Value)}{g w w0:World}{D D0:Snap}{L L0:List Blk}
end
abbrev RecF:=LoopState→Option Code→Blk
def Qaj(q:RecF)(l fn dd:Nat)(tmps:Array Value)(ps:Array Tmp)(assign body:Code):Prop:=q=fun st pe=>lp l (rcd st pe fn tmps ps assign body dd)
section
variable {P:Program}{ρ:Option Nat}{ops:Array Oper}{Q:Exit→Act→World→Prop}{a:Act}{n:Nat}{ds:List Deferred}{E:List (Nat×Value)}
variable {g w w' w0:World}{D D0:Snap}{L L0:List Blk}{i:Nat}{o:Oper}{d:Nat}{C:Act→World→Prop}
variable {q:RecF}{l fn dd:Nat}{tmps:Array Value}{ps:Array Tmp}{assign body:Code}
theorem Qo3{gop:Operand}{gf:FuncId}{captured:Array Value}(hE:Env a n ds E)(hS:Stp g w0 D0 L0 w D L)
  (hg:Yt E gop=some (.func (.func gf) #[] captured)) (hfn:(P.funcs[gf]?).map (fun F=>(F.name== "runtime.NumGoroutine",F.body.isNone))=some (false,false))
  (k:∀(fn l dd:Nat) w' (q:RecF),Qaj q l fn dd a.tmps ps assign body→Stp g w0 D0 L0 w' D (q .ready none::dk dd::L)→
   CallsIn (Fw none) 0 P gf (List.toArray (.func (.yield l) #[] #[]::captured.toList)) w' (rangePost (Fw none) 0 P l Q {a with defers:=XU dd::a.defers})):
  (Code.rangeFunc gop ps assign body).wpIn (Fw none) 0 P Q a w:=
 QrH hE hS hg hfn (fun fn l dd w' h=>k fn l dd w' _ rfl h)
theorem Qo4{n0:Nat}{a0:Act}{ds0:List Deferred}{E0:List (Nat×Value)}{fv:Operand}{xs:Array Operand}{ts:Array TypeId}{args:List Value}(hq:Qaj q l fn dd a0.tmps ps assign body)
  (ho:ops[i]?=some o) (hop:o.op= .call {callee:= .value fv,args:=xs,argTypes:=ts}) (hg:guardOf ops E o=some true) (hd:o.dst=some d) (hE:Env a n ds E) (hn:Nat.blt d n=true)
  (hf:Yt E fv=some (.func (.yield l) #[] #[])) (hxs:Jr E xs.toList=some args) (hS:Stp g w0 D0 L0 w D (q .ready none::L)) (hE0:Env a0 n0 ds0 E0)
  (hps:ps.toList.length=args.length) (hpb:ps.toList.all (fun t=>Nat.blt t n0)=true)
  (k:∀a1,Env a1 n0 [] (zipE ps.toList args E0)→assign.wpIn (Fw (some l)) 0 P (Exit.then (fun a1 w1=>∃w2,(Instr.beginRound l).run P w1= .ok () w2∧body.wpIn (Fw (some l)) 0 P (roundPost P l (Rk n ds E d C)) a1 w2) (fun _ _ _=>False)) a1 w):
  Op1 P none ops Q i C a w:=by
 unfold Qaj at hq
 subst hq
 exact QrI ho hop hg hd hE hn hf hxs hS hE0 hps hpb k
theorem Qo5{X:World→Prop}(hq:Qaj q l fn dd tmps ps assign body)(hS:Stp g w0 D0 L0 w D (q .ready none::L))(k:∀w2,Stp g w0 D0 L0 w2 D (q .busy none::L)→X w2):∃w2,(Instr.beginRound l).run P w= .ok () w2∧X w2:=by
 unfold Qaj at hq
 subst hq
 exact QrJ hS k
theorem Qin{a1:Act}(hq:Qaj q l fn dd tmps ps assign body)(hS:Stp g w0 D0 L0 w D (q .busy none::L))
  (k:∀w2 a',Stp g w0 D0 L0 w2 D (q .ready none::L)→Env a' n ds ((d,.bool true)::E)→C a' w2):roundPost P l (Rk n ds E d C) .normal a1 w:=by
 unfold Qaj at hq
 subst hq
 exact QjS hS k
theorem QnC{a1:Act}(hq:Qaj q l fn dd tmps ps assign body)(hS:Stp g w0 D0 L0 w D (q .busy none::L))
  (k:∀w2 a',Stp g w0 D0 L0 w2 D (q .done (some .ret)::L)→Env a' n ds ((d,.bool false)::E)→C a' w2):roundPost P l (Rk n ds E d C) .ret a1 w:=by
 unfold Qaj at hq
 subst hq
 exact Qo1 hS k
theorem Qlo{n0:Nat}{a0:Act}{ds0:List Deferred}{E0:List (Nat×Value)}{v:Value}(hq:Qaj q l fn dd a0.tmps ps assign body)(hS:Stp g w0 D0 L0 w D (q .ready none::L))(hE0:Env a0 n0 ds0 E0)
  (k:∀w2 a',Stp g w0 D0 L0 w2 D L→Env a' n0 (XU dd::ds0) E0→Q .normal a' w2):
  rangePost (Fw none) 0 P l Q {a0 with defers:=XU dd::a0.defers} (.returned v) w:=by
 unfold Qaj at hq
 subst hq
 exact QnB hS hE0 (fun w2 a' h h'=>k w2 a' h.drop h')
theorem QnD{n0:Nat}{a0:Act}{ds0:List Deferred}{E0:List (Nat×Value)}{v:Value}(hq:Qaj q l fn dd a0.tmps ps assign body)(hS:Stp g w0 D0 L0 w D (q .done (some .ret)::L))(hE0:Env a0 n0 ds0 E0)
  (k:∀w2 a',Stp g w0 D0 L0 w2 D L→Env a' n0 (XU dd::ds0) E0→Q .ret a' w2):
  rangePost (Fw none) 0 P l Q {a0 with defers:=XU dd::a0.defers} (.returned v) w:=by
 unfold Qaj at hq
 subst hq
 exact Qo2 hS hE0 (fun w2 a' h h'=>k w2 a' h.drop h')
theorem Cell.elem{k:IntKind}{N b off:Nat}{v:Vector Int N}{m:Int}(h:Cell (XT k N) D b off v)(hm:0≤m∧m.toNat<N):Cell (YC k) D b (off+m.toNat) (vget v m.toNat):=by
 obtain⟨cs,C,T,fr,hr,hb,hc⟩:=h
 obtain rfl:=hr
 refine⟨[.int k (vget v m.toNat)],C,T,fr,rfl,hb,fun j u hu=> ?_⟩
 cases j with
 |zero=>
  simp at hu
  subst hu
  have:=hc m.toNat (.int k (vget v m.toNat)) (by simp[Q4,hm.2])
  simpa using this
 |succ j=>simp at hu
end
section
variable {P:Program}{ρ:Option Nat}{Q:Exit→Act→World→Prop}{a:Act}{w:World}
end
section
variable {P:Program}{ρ:Option Nat}{ops:Array Oper}{K:Act→World→Prop}{Rf:Nat→World→World→Prop}{R:World→World→Prop}{a:Act}{w:World}{n:Nat}{ds:List Deferred}{E:List (Nat×Value)}
end
end Go.Sep
