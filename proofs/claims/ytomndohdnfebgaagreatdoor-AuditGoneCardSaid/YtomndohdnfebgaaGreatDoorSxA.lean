/-
 Symbolic execution, the words: kinds of data, symbolic values, states.
-/
import Derived.Test.YtomndohdnfebgaaGreatDoorSepQ
set_option linter.unusedVariables false
set_option linter.unusedSimpArgs false
namespace Go.Sep
section
variable {P:Program}{ρ:Option Nat}{ops:Array Oper}{Q:Exit→Act→World→Prop}{K:Act→World→Prop}{Rf:Nat→World→World→Prop}{a:Act}{w g w0:World}{n:Nat}{ds:List Deferred}{E:List (Nat×Value)}{D0 D:Snap}{L0 L:List (Option (Nat×OB))}
theorem sN{i:Nat}(m j:Nat)(N:List (Nat×Value))(hE:Env a n ds E)
  (k:∀a',Env a' n ds (catE N E)→At P ρ ops Q j a' w) (h:(Zg P ops n m i E).map (fun X=>(sub X N,Qkm ops N E m i))=some (sub' N,true):=by kernel_rfl) (hj:i+m=j:=by exact rfl):At P ρ ops Q i a w:=segN m N hE h hj k
theorem wP [hI:Idle Rf]{d:Nat}{o:Oper}(i m fuel:Nat){listed:Array Bool}(v:Value)(hE:Env a n ds E)(k:∀a',Env a' n ds ((d,v)::E)→wpG P ρ ops Rf K (Qn K) fuel (lb ops.size m) a' w)
  (hc:okT ops listed i m=true:=by kernel_rfl) (ho:ops[i]?=some o:=by exact rfl) (hg:guardOf ops E o=some true:=by exact rfl) (hd:o.dst=some d:=by exact rfl) (hn:Nat.blt d n=true:=by exact rfl)
  (hsrc:∀s t x,o.op= .convert s t x→(P.underlying s).isSome=true:=by exact fun _ _ _ e=>by cases e) (h:yQ P E o.op=some v:=by kernel_rfl):wpG P ρ ops Rf K (Qn K) (fuel+1) listed a w:=
 tW i m hc hE (fun _=>Qpu v hE ho hg hd hn hsrc h k)
theorem rT{fn:Func}{R:Ending→World→Prop}(t:Nat)(v:Value)(hE:Env a n [] E)(hR:R (.returned (retV [v])) w)(h:fn.results.toList= [.tmp t]:=by exact rfl)(hv:QlS P E w [.tmp t] [v]:=by exact⟨_,_,rfl,rfl,rfl⟩):bodyPost P fn R .ret a w:=
 QlT [v] hE (by rw[h];exact hv) hR
theorem aC{i d:Nat}{o:Oper}{f:FuncId}{fv:Operand}{xs:Array Operand}{ts:Array TypeId}{captured:Array Value}{args all:List Value}{R:Value→World→Prop}(ho:ops[i]?=some o)(hop:o.op= .call {callee:= .value fv,args:=xs,argTypes:=ts})(hg:guardOf ops E o=some true)(hd:o.dst=some d)(hE:Env a n ds E)(hn:Nat.blt d n=true)
  (hf:Yt E fv=some (.func (.func f) #[] captured)) (hxs:JC E xs.toList=some args) (hall:args++captured.toList=all)
  (hc:CallsIn (Fw none) 0 P f all.toArray w fun e w2=>∃v,e= .returned v∧R v w2)
  (k:∀a v w',R v w'→Env a n ds ((d,v)::E)→At P ρ ops Q (i+1) a w') (hfn:(P.funcs[f]?).map (fun F=>(F.name== "runtime.NumGoroutine",F.body.isNone))=some (false,false):=by kernel_rfl) (hi:Nat.blt i ops.size=true:=by exact rfl):At P ρ ops Q i a w:=
 JY (QlP ho hop hg hd hE hn hf hxs hall hfn hc k) hi
end
section
variable {P:Program}{ρ:Option Nat}{ops:Array Oper}{Q:Exit→Act→World→Prop}{a:Act}{w g w0:World}{n:Nat}{ds:List Deferred}{E:List (Nat×Value)}{D0 D:Snap}{L0 L:List Blk}
end
class Rt (Q:Exit→Act→World→Prop) (Q':outParam (Exit→Act→World→Prop)):Prop where
 rt:∀a w,Q' .ret a w→Q .ret a w
instance (priority:=low)(Q:Exit→Act→World→Prop):Rt Q Q:=⟨fun _ _ h=>h⟩
instance {K1:Act→World→Prop}{Q Q':Exit→Act→World→Prop} [h:Rt Q Q']:Rt (Exit.then K1 Q) Q':=⟨fun a w h'=>QsG (h.rt a w h')⟩
instance {id:Nat}{Q Q':Exit→Act→World→Prop} [h:Rt Q Q']:Rt (Exit.inBlock id Q) Q':=⟨fun a w h'=>QpE (h.rt a w h')⟩
instance {X:Act→World→Prop}{Q Q':Exit→Act→World→Prop} [h:Rt Q Q']:Rt (Qx X Q) Q':=⟨fun a w h'=>QwJ (h.rt a w h')⟩
theorem ret_{Q Q':Exit→Act→World→Prop} [h:Rt Q Q']{a:Act}{w:World}(h':Q' .ret a w):Q .ret a w:=h.rt a w h'
theorem bo(b:Bool){p:Prop}(f:b=false→p)(t:b=true→p):p:=by
 cases b with
 |false=>exact f rfl
 |true=>exact t rfl
theorem Env.wk{a:Act}{n:Nat}{ds:List Deferred}{E E':List (Nat×Value)}(h:Env a n ds E)(hs:sub E E'=sub' E':=by kernel_rfl):Env a n ds E':=h.weak hs
theorem lr{D:Snap}:D.le D:=Snap.le.refl D
theorem sq{P:Program}{F:Fence}{n:Nat}{Q:Exit→Act→World→Prop}{a:Act}{w:World}{x y:Code}(h:x.wpIn F n P (Exit.then (y.wpIn F n P Q) Q) a w):(Code.seq x y).wpIn F n P Q a w:=wpIn_seq h
theorem ra{P:Program}{ρ:Option Nat}{ops:Array Oper}{Q:Exit→Act→World→Prop}{a:Act}{w:World}{id:Nat}(h:At P ρ ops Q 0 a w):(Code.region id ops false).wpIn (Fw ρ) 0 P Q a w:=QbP h
theorem ae{P:Program}{ρ:Option Nat}{ops:Array Oper}{Q:Exit→Act→World→Prop}{a:Act}{w:World}{i:Nat}(h:Q .normal a w)(hi:Nat.ble ops.size i=true:=by exact rfl):At P ρ ops Q i a w:=at_end hi h
theorem si{α:Type}{x y:α}(h:some x=some y):x=y:=Option.some.inj h
theorem cf{b:Bool}{α:Type}{x y:Option α}{r:α}(hb:b=false)(h:(bif b then x else y)=some r):y=some r:=QwF hb h
theorem ct{b:Bool}{α:Type}{x y:Option α}{r:α}(hb:b=true)(h:(bif b then x else y)=some r):x=some r:=Qun hb h
theorem bs{α β:Type}{o:Option α}{f:α→Option β}{r:β}(h:o.bind f=some r):∃x,o=some x∧f x=some r:=bind_some h
abbrev RD(D:Snap)(l:List Nat)(w w':World):Prop:=RP l w w'∧(Sees D w→Sees D w')
instance (D:Snap)(ss l:List Nat):Idle (fun j=>RD D (plOf ss l j)):=⟨fun _ w=>⟨RP.refl _ w,fun h=>h⟩⟩
theorem le2{a b c:Snap}(h1:Snap.le a b)(h2:Snap.le b c):Snap.le a c:=Snap.le.trans h1 h2
inductive Ty where
 |int (k:IntKind)|bool|str|arr (k:IntKind) (n:Nat)|sl (t:Ty)|st (n:Nat)|vec (n:Nat) (t:Ty)
def Ty.beq:Ty→Ty→Bool
 | .int k,.int k'=>sameKind k k'
 | .bool,.bool=>true
 | .str,.str=>true
 | .arr k n,.arr k' n'=>sameKind k k'&&Nat.beq n n'
 | .sl t,.sl t'=>Ty.beq t t'
 | .st n,.st n'=>Nat.beq n n'
 | .vec n t,.vec n' t'=>Nat.beq n n'&&Ty.beq t t'
 |_,_=>false
theorem Ty.eq_of_beq:∀{s t:Ty},Ty.beq s t=true→s=t:=by
 intro s
 induction s with
 |int k=>intro t h;cases t<;>simp only[Ty.beq,Bool.false_eq_true]at h;rw[YY h]
 |bool=>intro t h;cases t<;>simp only[Ty.beq,Bool.false_eq_true]at h;rfl
 |str=>intro t h;cases t<;>simp only[Ty.beq,Bool.false_eq_true]at h;rfl
 |arr k n=>intro t h;cases t<;>simp only[Ty.beq,Bool.false_eq_true,Qd]at h;rw[YY h.1,Qc h.2]
 |sl s ih=>intro t h;cases t<;>simp only[Ty.beq,Bool.false_eq_true]at h;rw[ih h]
 |st n=>intro t h;cases t<;>simp only[Ty.beq,Bool.false_eq_true]at h;rw[Qc h]
 |vec n s ih=>intro t h;cases t<;>simp only[Ty.beq,Bool.false_eq_true,Qd]at h;rw[Qc h.1,ih h.2]
@[reducible] def den (f : Nat → Type) : Ty → Type
 | .int _=>Int
 | .bool=>Bool
 | .str=>ByteArray
 | .arr _ n=>Vector Int n
 | .sl t=>List (den f t)
 | .st n=>f n
 | .vec _ t=>List (den f t)
@[reducible] def TU (f : Nat → Type) : List Ty → Type
 | []=>Unit
 | [t]=>den f t
 |t::t'::ts=>den f t×TU f (t'::ts)
structure Tb where
 ty:Nat→Type
 fs:Nat→List Ty
 get:∀n,ty n→TU ty (fs n)
 of:∀n,TU ty (fs n)→ty n
 kd:∀n,Kd (ty n)
 tn:TypeId→Option Nat
 te:TypeId→Option Ty
@[reducible] def kdVec {α : Type} (n : Nat) (K : Kd α) : Kd (List α) where
 n:=n*K.n
 r:=fun D x c=>x.length=n∧RL K D x c
 len:=fun D x c h=>by rw[h.2.len,h.1]
 one:=fun D x c h=>h.2.one
 mono:=fun D D' x c hd h=>⟨h.1,h.2.mono hd⟩
@[reducible] def kdT (T : Tb) : (t : Ty) → Kd (den T.ty t)
 | .int k=>YJ k
 | .bool=>QbR
 | .str=>kdStr
 | .arr k n=>Zh k n
 | .sl t=>qc (kdT T t)
 | .st n=>T.kd n
 | .vec n t=>kdVec n (kdT T t)
def Qur:Kd Unit where
 n:=0
 r:=fun _ _ cs=>cs= []
 len:=fun _ _ _ h=>by rw[h];rfl
 one:=fun _ _ _ h u hu=>by rw[h]at hu;cases hu
 mono:=fun _ _ _ _ _ h=>h
@[reducible] def kdU (T : Tb) : (ts : List Ty) → Kd (TU T.ty ts)
 | []=>Qur
 | [t]=>kdT T t
 |t::t'::ts=>YF (kdT T t) (kdU T (t'::ts))
def szT(T:Tb):Ty→Nat
 | .arr _ n=>n
 | .st n=>(T.kd n).n
 | .vec n t=>n*szT T t
 |_=>1
def agT:Ty→Bool
 | .arr _ _=>true
 | .st _=>true
 | .vec _ _=>true
 |_=>false
inductive SV(T:Tb) where
 |dt (t:Ty) (x:den T.ty t)
 |kb (b:Bool)
 |raw (v:Value)
 |nils
 |agg (l:SV T)
 |tup (l:SV T)
 |fn (f:FuncId) (l:SV T)
 |nl
 |cs (h t:SV T)
 |ptr (b off:Nat)
 |cell (t:Ty) (x:den T.ty t)
 |own (o:Nat)
 |elt (o:Nat) (i:Int) (off sz:Nat)
 |ela (b off:Nat) (i:Int) (n:Nat) (k:IntKind)
 |eva (b off:Nat) (i:Int) (n:Nat) (y:Ty) (fo:Nat)
 |sla (b p c n:Nat)
 |yld (i:Nat)
 |mp (ks:List Value) (vs:SV T)
inductive SB(T:Tb) where
 |var (tid:TypeId) (v:SV T)
 |own (t:Ty) (e:TypeId) (xs:List (den T.ty t)) (f:Bool)
 |lnt (t:Ty) (xs:List (den T.ty t))
def lookA{α:Type}:List (Nat×α)→Nat→Option α
 | [],_=>none
 |(k,v)::E,t=>bif Nat.beq k t then some v else lookA E t
structure Md(T:Tb) where
 m:Nat
 O:List (Nat×SV T)
structure SS(T:Tb) where
 E:List (Nat×SV T)
 L:List (Nat×Nat×SB T)
 nx:Nat
 md:Md T
def putB{T:Tb}(id:Nat)(c:Nat×SB T):List (Nat×Nat×SB T)→List (Nat×Nat×SB T)
 | []=> []
 |(k,d)::L=>bif Nat.beq k id then(k,c)::L else(k,d)::putB id c L
def delB{T:Tb}(id:Nat):List (Nat×Nat×SB T)→List (Nat×Nat×SB T)
 | []=> []
 |(k,d)::L=>bif Nat.beq k id then L else(k,d)::delB id L
section
variable {T:Tb}
def SS.put(s:SS T):Option Tmp→SV T→SS T
 |some d,v=>{s with E:=(d,v)::s.E}
 |none,_=>s
def SS.wr(s:SS T)(id:Nat)(b:SB T):SS T:={s with L:=putB id (s.nx,b) s.L,nx:=s.nx+1}
def SS.nw(s:SS T)(b:SB T):SS T:={s with L:=(s.nx,s.nx,b)::s.L,nx:=s.nx+1}
def szS:SV T→Nat
 | .dt t _=>szT T t
 | .raw v=>(Q4 v).length
 | .agg l=>szS l
 | .nl=>0
 | .cs h t=>szS h+szS t
 |_=>1
def agS:SV T→Bool
 | .dt t _=>agT t
 | .raw (.agg _)=>true
 | .agg _=>true
 | .nl=>true
 | .cs _ _=>true
 |_=>false
def exU:(ts:List Ty)→TU T.ty ts→SV T
 | [],_=> .nl
 | [t],x=> .cs (.dt t x) .nl
 |t::t'::ts,p=> .cs (.dt t p.1) (exU (t'::ts) p.2)
def exS(n:Nat)(x:T.ty n):SV T:=exU (T.fs n) (T.get n x)
def Qem:SV T→Option (SV T)
 | .agg l=>some l
 | .dt (.st n) x=>some (exS n x)
 |_=>none
def subA:SV T→Nat→Nat→Bool→Option (SV T)
 | .dt (.arr k n) x,off,sz,ag=>bif Nat.beq sz 1&&(!ag&&Nat.blt off n)then some (.dt (.int k) (vget (show Vector Int n from x) off))else none
 |_,_,_,_=>none
def setA:SV T→Nat→Nat→Bool→SV T→Option (SV T)
 | .dt (.arr k n) x,off,sz,ag,.dt (.int k') z=>bif Nat.beq sz 1&&(!ag&&(Nat.blt off n&&sameKind k k'))then some (.dt (.arr k n) (vset (show Vector Int n from x) off z))else none
 |_,_,_,_,_=>none
mutual
def subS:Nat→SV T→Nat→Nat→Bool→Option (SV T)
 |0,_,_,_,_=>none
 | f+1,v,off,sz,ag=>
  bif Nat.beq off 0&&(Nat.beq (szS v) sz&&(agS v==ag))then some v
  else match Qem v with
   |some l=>subL f l off sz ag
   |none=>subA v off sz ag
def subL:Nat→SV T→Nat→Nat→Bool→Option (SV T)
 |0,_,_,_,_=>none
 |f+1,.cs h t,off,sz,ag=>bif Nat.blt off (szS h)then subS f h off sz ag else subL f t (off-szS h) sz ag
 |_+1,_,_,_,_=>none
end
mutual
def setS:Nat→SV T→Nat→Nat→Bool→SV T→Option (SV T)
 |0,_,_,_,_,_=>none
 | f+1,v,off,sz,ag,u=>
  bif Nat.beq off 0&&(Nat.beq (szS v) sz&&(agS v==ag))then some u
  else match Qem v with
   |some l=>match setL f l off sz ag u with
    |some l=>some (.agg l)
    |none=>none
   |none=>setA v off sz ag u
def setL:Nat→SV T→Nat→Nat→Bool→SV T→Option (SV T)
 |0,_,_,_,_,_=>none
 | f+1,.cs h t,off,sz,ag,u=>
  bif Nat.blt off (szS h)then match setS f h off sz ag u with
   |some h=>some (.cs h t)
   |none=>none
  else match setL f t (off-szS h) sz ag u with
   |some t=>some (.cs h t)
   |none=>none
 |_+1,_,_,_,_,_=>none
end
def nthL:SV T→Nat→Option (SV T)
 | .cs h _,0=>some h
 | .cs _ t,n+1=>nthL t n
 |_,_=>none
def Qdz(t t':Ty)(x:den T.ty t):Option (den T.ty t'):=
 if h:Ty.beq t t'=true then some (Ty.eq_of_beq h▸x)else none
def QpY:(t:Ty)→(ts:List Ty)→den T.ty t→TU T.ty ts→TU T.ty (t::ts)
 |_, [],x,_=>x
 |_,_::_,x,p=>(x,p)
mutual
def pur:Nat→SV T→(t:Ty)→Option (den T.ty t)
 |0,_,_=>none
 |_+1,.dt t' x,t=>Qdz t' t x
 |_+1,.kb b,.bool=>some b
 |f+1,.agg l,.st n=>match purL f l (T.fs n)with
  |some p=>some (T.of n p)
  |none=>none
 |_+1,_,_=>none
def purL:Nat→SV T→(ts:List Ty)→Option (TU T.ty ts)
 |0,_,_=>none
 |_+1,.nl, []=>some ()
 |f+1,.cs h l,t::ts=>match pur f h t,purL f l ts with
  |some x,some p=>some (QpY t ts x p)
  |_,_=>none
 |_+1,_,_=>none
end
mutual
def frz:Nat→SS T→SV T→(t:Ty)→Option (den T.ty t×SS T)
 |0,_,_,_=>none
 |_+1,s,.dt t' x,t=>match Qdz t' t x with
  |some x=>some (x,s)
  |none=>none
 |_+1,s,.kb b,.bool=>some (b,s)
 |_+1,s,.nils,.sl _=>some ([],s)
 | _+1,s,.own o,.sl t=>match lookA s.L o with
  |some (_,.own t' e xs f)=>match Qdz (.sl t') (.sl t) xs with
   |some ys=>some (ys,bif f then s.wr o (.own t' e xs false)else s)
   |none=>none
  |some (_,.lnt t' xs)=>match Qdz (.sl t') (.sl t) xs with
   |some ys=>some (ys,s)
   |none=>none
  |_=>none
 |f+1,s,.agg l,.st n=>match frzL f s l (T.fs n)with
  |some (p,s)=>some (T.of n p,s)
  |none=>none
 |f+1,s,.agg l,.vec n t=>match frzW f s l t with
  |some (xs,s)=>bif Nat.beq (List.length xs) n then some (xs,s)else none
  |none=>none
 |_+1,_,_,_=>none
def frzL:Nat→SS T→SV T→(ts:List Ty)→Option (TU T.ty ts×SS T)
 |0,_,_,_=>none
 |_+1,s,.nl, []=>some ((),s)
 | f+1,s,.cs h l,t::ts=>match frz f s h t with
  |some (x,s)=>match frzL f s l ts with
   |some (p,s)=>some (QpY t ts x p,s)
   |none=>none
  |none=>none
 |_+1,_,_,_=>none
def frzW:Nat→SS T→SV T→(t:Ty)→Option (List (den T.ty t)×SS T)
 |0,_,_,_=>none
 |_+1,s,.nl,_=>some ([],s)
 | f+1,s,.cs h l,t=>match frz f s h t with
  |some (x,s)=>match frzW f s l t with
   |some (xs,s)=>some (x::xs,s)
   |none=>none
  |none=>none
 |_+1,_,_,_=>none
end
def tyOf(T:Tb)(P:Program):Nat→TypeId→Option Ty
 |0,_=>none
 | f +1,t=>match T.te t with
  |some y=>some y
  | none=>match P.underlying t with
   |some (.int k)=>some (.int k)
   |some .bool=>some .bool
   |some .string=>some .str
   |some (.slice e)=>match tyOf T P f e with
    |some y=>some (.sl y)
    |none=>none
   | some (.array n e)=>match P.underlying e with
    |some (.int k)=>some (.arr k n)
    |_=>match tyOf T P f e with
     |some y=>some (.vec n y)
     |none=>none
   |some (.struct _)=>match T.tn t with
    |some n=>some (.st n)
    |none=>none
   |_=>none
def tsz(P:Program)(t:TypeId):Option (Nat×Bool):=
 match P.underlying t,P.info? t with
 |some (.struct _),some i|some (.array _ _),some i=>some (i.size,true)
 |some _,some i=>bif Nat.beq i.size 1 then some (1,false)else none
 |_,_=>none
def ints(k:IntKind):Nat→List Value→Option (List Int×List Value)
 |0,cs=>some ([],cs)
 |n+1,.int k' x::cs=>bif sameKind k k' then match ints k n cs with
  |some (l,cs)=>some (x::l,cs)
  |none=>none
  else none
 |_+1,_=>none
mutual
def ofC(P:Program):Nat→TypeId→List Value→Option (SV T×List Value)
 |0,_,_=>none
 | f+1,t,cs=>match P.underlying t with
  |some (.struct fs)=>match ofF P f fs.toList cs with
   |some (l,cs)=>some (.agg l,cs)
   |none=>none
  | some (.array n e)=>match P.underlying e with
   |some (.int k)=>match ints k n cs with
    |some (l,cs)=>some (.dt (.arr k n) (vofL n l),cs)
    |none=>none
   |_=>match ofN P f n e cs with
    |some (l,cs)=>some (.agg l,cs)
    |none=>none
  |some _=>match cs with
   | .int k x::cs=>some (.dt (.int k) x,cs)
   | .bool b::cs=>some (.kb b,cs)
   | .string s::cs=>some (.dt .str s,cs)
   | .slice none 0 0::cs=>some (.nils,cs)
   |v::cs=>bif v.oneCell' then some (.raw v,cs)else none
   | []=>none
  |none=>none
def ofF(P:Program):Nat→List Field→List Value→Option (SV T×List Value)
 |0,_,_=>none
 |_+1, [],cs=>some (.nl,cs)
 | f+1,x::fs,cs=>match ofC P f x.type cs with
  |some (h,cs)=>match ofF P f fs cs with
   |some (l,cs)=>some (.cs h l,cs)
   |none=>none
  |none=>none
def ofN(P:Program):Nat→Nat→TypeId→List Value→Option (SV T×List Value)
 |0,_,_,_=>none
 |_+1,0,_,cs=>some (.nl,cs)
 | f+1,n+1,e,cs=>match ofC P f e cs with
  |some (h,cs)=>match ofN P f n e cs with
   |some (l,cs)=>some (.cs h l,cs)
   |none=>none
  |none=>none
end
def zeroS(P:Program)(t:TypeId):Option (SV T):=
 match(P.info? t).bind (·.zero)with
 |some z=>match ofC P 200 t (Q4 z)with
  |some (v, [])=>some v
  |_=>none
 |none=>none
end
end Go.Sep
