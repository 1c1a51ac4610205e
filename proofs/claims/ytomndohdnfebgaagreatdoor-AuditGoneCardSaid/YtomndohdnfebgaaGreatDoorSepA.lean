/-
 A small calculus over the fenced walk: slots as a list of known values, memory as a snapshot of blocks that
 no one writes (D) and a list of blocks that are owned (L).
-/
import Derived.CallsIn
import Derived.OrdersIn
import Derived.RangeFuncIn
import Derived.DefersIn
import Derived.KernelRfl
import Derived.Laws.Rows
import Derived.Laws.Cells
import Derived.Laws.CopyRow
import Derived.Laws.Sem
set_option linter.unusedVariables false
set_option linter.unusedSimpArgs false
namespace Go.Sep
theorem Qa.{u}{α:Type u}(a b:α):(some a=some b)=(a=b):=Option.some.injEq a b
theorem Qb.{u,v}{α:Type u}{β:Type v}(a:α)(f:α→Option β):(some a).bind f=f a:=rfl
theorem Qc{n m:Nat}(h:Nat.beq n m=true):n=m:=Nat.eq_of_beq_eq_true h
theorem Qd(a b:Bool):((a&&b)=true)=(a=true∧b=true):=Bool.and_eq_true a b
theorem Qe.{u,v}{α:Type u}{β:Type v}(a:α)(b:β)(c:α)(d:β):((a,b)=(c,d))=(a=c∧b=d):=Prod.mk.injEq a b c d
theorem Qg.{u}{α:Sort u}(a b:α):(bif true then a else b)=a:=rfl
theorem Qh.{u}{α:Sort u}(a b:α):(bif false then a else b)=b:=rfl
def look:List (Nat×Value)→Nat→Option Value
 | [],_=>none
 |(k,v)::E,t=>bif Nat.beq k t then some v else look E t
structure Env(a:Act)(n:Nat)(ds:List Deferred)(E:List (Nat×Value)):Prop where
 size:a.tmps.size=n
 ds:a.defers=ds
 at_:∀t v,look E t=some v→a.tmps[t]?=some v
def upd(E:List (Nat×Value)):Option Tmp→Value→List (Nat×Value)
 |some d,v=>(d,v)::E
 |none,_=>E
def JI(n:Nat):Option Tmp→Bool
 |some d=>Nat.blt d n
 |none=>true
theorem Env.put{a:Act}{n:Nat}{ds:List Deferred}{E:List (Nat×Value)}(h:Env a n ds E){d:Option Tmp}(hd:JI n d=true)(v:Value):
  Env (a.put d v) n ds (upd E d v):=by
 cases d with
 |none=>exact h
 | some d=>
  refine⟨by simpa[Act.put] using h.size,h.ds,fun t u hu=> ?_⟩
  have hd':d<n:=by simpa[JI,Nat.blt_eq] using hd
  simp only[upd,look]at hu
  simp only[Act.put]
  cases hb:Nat.beq d t with
  |true=>
   rw[hb]at hu
   have:d=t:=Qc hb
   subst this
   simp only[Qg,Qa]at hu
   subst hu
   simp[h.size,hd']
  |false=>
   rw[hb]at hu
   have hne:d≠t:=fun e=>by subst e;simp at hb
   simp only[Qh]at hu
   rw[Array.getElem?_setIfInBounds_ne hne]
   exact h.at_ t u hu
def sub(E:List (Nat×Value))(E':List (Nat×Value)):List (Option Value):=E'.map fun p=>look E p.1
def sub'(E':List (Nat×Value)):List (Option Value):=E'.map fun p=>some p.2
theorem Qnb{E E':List (Nat×Value)}(h:sub E E'=sub' E'):∀t v,look E' t=some v→look E t=some v:=by
 induction E' with
 |nil=>intro t v hv;cases hv
 | cons p E' ih=>
  obtain⟨k,u⟩:=p
  simp only[sub,sub',List.map_cons,List.cons.injEq]at h
  intro t v hv
  simp only[look]at hv
  cases hb:Nat.beq k t with
  |true=>
   rw[hb]at hv
   have:k=t:=Qc hb
   subst this
   simp only[Qg,Qa]at hv
   subst hv
   exact h.1
  |false=>
   rw[hb]at hv
   exact ih h.2 t v hv
theorem Env.weak{a:Act}{n:Nat}{ds:List Deferred}{E E':List (Nat×Value)}(h:Env a n ds E)(hs:sub E E'=sub' E'):Env a n ds E':=
 ⟨h.size,h.ds,fun t v hv=>h.at_ t v (Qnb hs t v hv)⟩
def Yt(E:List (Nat×Value)):Operand→Option Value
 | .tmp t=>look E t
 | .const v=>some v
 | .global g=>some (.pointer (some ⟨g,0,none⟩))
 | .func f=>some (.func (.func f) #[] #[])
theorem Env.eval{a:Act}{n:Nat}{ds:List Deferred}{E:List (Nat×Value)}(h:Env a n ds E){x:Operand}{v:Value}(hx:Yt E x=some v):a.eval x=v:=by
 cases x with
 |tmp t=>have:=h.at_ t v hx;simp[Act.eval,this]
 |const u=>simpa[Yt,Act.eval] using hx
 |global g=>simpa[Yt,Act.eval] using hx
 |func f=>simpa[Yt,Act.eval] using hx
def qC(M:List Nat)(w w':World):Prop:=w.heap.size≤w'.heap.size∧∀b,b<w.heap.size→b∉M→w'.heap[b]?=w.heap[b]?
theorem qC.refl(M:List Nat)(w:World):qC M w w:=⟨Nat.le_refl _,fun _ _ _=>rfl⟩
theorem qC.trans{M:List Nat}{w w' w2:World}(h:qC M w w')(h':qC M w' w2):qC M w w2:=
 ⟨Nat.le_trans h.1 h'.1,fun b hb hn=>(h'.2 b (Nat.lt_of_lt_of_le hb h.1) hn).trans (h.2 b hb hn)⟩
theorem qC.mono{M M':List Nat}{w w':World}(h:qC M w w')(hm:∀b,b∈M→b∈M'):qC M' w w':=⟨h.1,fun b hb hn=>h.2 b hb (fun hM=>hn (hm b hM))⟩
theorem Qf7(w:World)(o:Obj):qC [] w (w.alloc o):=⟨by simp,fun b hb _=>heap_alloc_old _ _ _ hb⟩
abbrev Fw(ρ:Option Nat):Fence:={Fence.wide with round:=ρ}
theorem Qum{ρ:Option Nat}{n:Nat}{P:Program}{f:FuncId}{args:Array Value}{w:World}{R:Ending→World→Prop}
  (h:CallsIn (Fw none) 0 P f args w R):CallsIn (Fw ρ) n P f args w R:=
 ⟨trivial,fun cs _=>h.2 cs (room_wide _)⟩
def At(P:Program)(ρ:Option Nat)(ops:Array Oper)(Q:Exit→Act→World→Prop)(i:Nat)(a:Act)(w:World):Prop:=
 wpOpsIn (Fw ρ) 0 P ops Q ((List.range ops.size).drop i) a w
section rules
variable {P:Program}{ρ:Option Nat}{ops:Array Oper}{Q:Exit→Act→World→Prop}{a:Act}{w:World}{n:Nat}{ds:List Deferred}{E:List (Nat×Value)}
theorem QbP{id:Nat}(h:At P ρ ops Q 0 a w):(Code.region id ops false).wpIn (Fw ρ) 0 P Q a w:=
 wpIn_region (by simpa[At] using h)
theorem at_end{i:Nat}(hi:Nat.ble ops.size i=true)(h:Q .normal a w):At P ρ ops Q i a w:=by
 unfold At
 rw[List.drop_eq_nil_of_le (by simpa using Nat.le_of_ble_eq_true hi)]
 exact h
theorem Qod{m i:Nat}(h:i<m):(List.range m).drop i=i::(List.range m).drop (i+1):=by
 rw[List.drop_eq_getElem_cons (by simpa using h)]
 simp
def guardOf(ops:Array Oper)(E:List (Nat×Value))(o:Oper):Option Bool:=
 match o.guard with
 |none=>some true
 | some (j,want)=>
  match(ops[j]?).bind (·.dst)with
  |none=>none
  |some t=>match look E t with
   |some (.bool b)=>some (b==want)
   |some (.tuple _)=>some false
   |_=>none
theorem jk{o:Oper}{b:Bool}(hE:Env a n ds E)(h:guardOf ops E o=some b):Region.wanted o (yielded ops a.tmps)=b:=by
 unfold guardOf at h
 unfold Region.wanted
 cases hg:o.guard with
 |none=>rw[hg]at h;simpa using h
 | some p=>
  obtain⟨j,want⟩:=p
  rw[hg]at h
  simp only at h⊢
  cases hd:(ops[j]?).bind (·.dst)with
  |none=>rw[hd]at h;cases h
  | some t=>
   rw[hd]at h
   simp only at h
   unfold yielded
   rw[hd]
   cases hl:look E t with
   |none=>rw[hl]at h;cases h
   | some v=>
    rw[hl]at h
    have ht:=hE.at_ t v hl
    cases v<;>simp only[Qa,reduceCtorEq]at h
    ·simp only[Qb,ht]
     rw[←h]
     rename_i b'
     cases b'<;>cases want<;>rfl
    ·simp only[Qb,ht]
     rw[←h]
     cases want<;>rfl
def Q5:Op→Bool
 | .defer _=>false
 |_=>true
theorem XA{o:Oper}(h:Q5 o.op=true)(ev:Operand→Value):o.semAt ρ ev=execOp ev o:=
 Oper.semAt_eq ρ ev o (fun c hc=>by rw[hc]at h;cases h)
abbrev Op1(P:Program)(ρ:Option Nat)(ops:Array Oper)(Q:Exit→Act→World→Prop)(i:Nat)(C:Act→World→Prop)(a:Act)(w:World):Prop:=wpOpIn (Fw ρ) 0 P ops Q i C a w
theorem JY{i:Nat}(h:Op1 P ρ ops Q i (At P ρ ops Q (i+1)) a w)(hi:Nat.blt i ops.size=true):At P ρ ops Q i a w:=by
 have hlt:i<ops.size:=by simpa[Nat.blt_eq] using hi
 unfold At
 rw[Qod hlt,wpOpsIn_cons]
 exact h
theorem Qpt{i:Nat}{o:Oper}{C:Act→World→Prop}(hE:Env a n ds E)(ho:ops[i]?=some o)(hg:guardOf ops E o=some false)(hd:JI n o.dst=true)
  (k:∀a',Env a' n ds (upd E o.dst undef)→C a' w):Op1 P ρ ops Q i C a w:=by
 have hw:=jk (ops:=ops) hE hg
 simp only[Op1,wpOpIn,ho,hw,Bool.false_eq_true,if_false]
 exact⟨fun _ _=>trivial,k _ (hE.put hd undef)⟩
theorem Zf{i:Nat}{o:Oper}{C:Act→World→Prop}{v:Value}{w':World}(hE:Env a n ds E)(ho:ops[i]?=some o)(hg:guardOf ops E o=some true)(hd:JI n o.dst=true)
  (hnd:Q5 o.op=true) (hr:(execOp a.eval o).run P w= .ok (.value v) w')
  (k:∀a',Env a' n ds (upd E o.dst v)→C a' w'):Op1 P ρ ops Q i C a w:=by
 have hw:=jk (ops:=ops) hE hg
 simp only[Op1,wpOpIn,ho,hw,if_true,Oper.wpIn]
 refine⟨fun _ _=>trivial,?_⟩
 rw[XA hnd,hr]
 exact k _ (hE.put hd v)
theorem Qf8{i:Nat}{o:Oper}{C:Act→World→Prop}{w':World}(hE:Env a n ds E)(ho:ops[i]?=some o)(hg:guardOf ops E o=some true)(hd:JI n o.dst=true)
  (hnd:Q5 o.op=true) (hr:(execOp a.eval o).run P w= .ok .skip w')
  (k:∀a',Env a' n ds (upd E o.dst undef)→C a' w'):Op1 P ρ ops Q i C a w:=by
 have hw:=jk (ops:=ops) hE hg
 simp only[Op1,wpOpIn,ho,hw,if_true,Oper.wpIn]
 refine⟨fun _ _=>trivial,?_⟩
 rw[XA hnd,hr]
 exact k _ (hE.put hd undef)
theorem Qnc{i:Nat}{o:Oper}{C:Act→World→Prop}{w':World}{f:FuncId}{args:Array Value}{R:Value→World→Prop}(hE:Env a n ds E)(ho:ops[i]?=some o)(hg:guardOf ops E o=some true)(hd:JI n o.dst=true)
  (hnd:Q5 o.op=true) (hr:(execOp a.eval o).run P w= .ok (.enter f args) w')
  (hc:CallsIn (Fw none) 0 P f args w' fun e w2=>∃v,e= .returned v∧R v w2)
  (k:∀v w2 a',R v w2→Env a' n ds (upd E o.dst v)→C a' w2):Op1 P ρ ops Q i C a w:=by
 have hw:=jk (ops:=ops) hE hg
 simp only[Op1,wpOpIn,ho,hw,if_true,Oper.wpIn]
 refine⟨fun _ _=>trivial,?_⟩
 rw[XA hnd,hr]
 refine⟨fun h=>(by cases h),(Qum hc).mono ?_⟩
 rintro e w2 ⟨v,rfl,hR⟩
 exact k v w2 _ hR (hE.put hd v)
def YG(P:Program)(ops:Array Oper)(R:World→World→Prop)(o:Oper)(v:Value)(a:Act)(w:World):Prop:=
 ∀w',R w w'→(Region.wanted o (yielded ops a.tmps)=true∧(execOp a.eval o).run P w'= .ok (.value v) w')∨(Region.wanted o (yielded ops a.tmps)=false∧v=undef)
def Tk(P:Program)(ops:Array Oper)(R:World→World→Prop)(i n:Nat)(ds:List Deferred)(E:List (Nat×Value))(a:Act)(w:World)(C:Act→Prop):Prop:=
 ∃o v,ops[i]?=some o∧JI n o.dst=true∧Q5 o.op=true∧YG P ops R o v a w∧∀a',Env a' n ds (upd E o.dst v)→C a'
theorem Qa1{i:Nat}{C:Act→World→Prop}(hE:Env a n ds E)(h:Tk P ops (qC []) i n ds E a w (fun a=>C a w)):Op1 P ρ ops Q i C a w:=by
 obtain⟨o,v,ho,hd,hnd,hy,k⟩:=h
 simp only[Op1,wpOpIn,ho]
 rcases hy w (qC.refl _ _)with⟨hw,hv⟩|⟨hw,rfl⟩
 ·simp only[hw,if_true,Oper.wpIn]
  refine⟨fun _ _=>trivial,?_⟩
  rw[XA hnd,hv]
  exact k _ (hE.put hd v)
 ·simp only[hw,Bool.false_eq_true,if_false]
  exact⟨fun _ _=>trivial,k _ (hE.put hd undef)⟩
theorem ZO{R:World→World→Prop}{i d:Nat}{o:Oper}{v:Value}{C:Act→Prop}(hE:Env a n ds E)(ho:ops[i]?=some o)(hg:guardOf ops E o=some true)(hd:o.dst=some d)(hn:Nat.blt d n=true)(hnd:Q5 o.op=true)
  (hr:∀w',R w w'→(execOp a.eval o).run P w'= .ok (.value v) w') (k:∀a',Env a' n ds ((d,v)::E)→C a'):Tk P ops R i n ds E a w C:=
 ⟨o,v,ho,by simp[hd,JI,hn],hnd,fun w' hk=> .inl ⟨jk hE hg,hr w' hk⟩,by rw[hd];exact k⟩
def pInt(op:BinOp)(k:IntKind)(x y:Int):Option Value:=
 match op with
 | .add=>some (.int k (k.wrap (x+y)))
 | .sub=>some (.int k (k.wrap (x-y)))
 | .mul=>some (.int k (k.wrap (x*y)))
 | .and=>some (.int k (k.wrap (BitVec.ofInt k.bits x&&&BitVec.ofInt k.bits y).toNat))
 | .or=>some (.int k (k.wrap (BitVec.ofInt k.bits x|||BitVec.ofInt k.bits y).toNat))
 | .xor=>some (.int k (k.wrap (BitVec.ofInt k.bits x^^^BitVec.ofInt k.bits y).toNat))
 | .andNot=>some (.int k (k.wrap (BitVec.ofInt k.bits x&&& ~~~BitVec.ofInt k.bits y).toNat))
 | .eql=>some (.bool (decide (x=y)))
 | .neq=>some (.bool (!decide (x=y)))
 | .lss=>some (.bool (decide (x<y)))
 | .leq=>some (.bool (decide (x≤y)))
 | .gtr=>some (.bool (decide (y<x)))
 | .geq=>some (.bool (decide (y≤x)))
 | .quo=>match y with| .ofNat (m+1)=>some (.int k (k.wrap (x.tdiv (.ofNat (m+1)))))|_=>none
 | .rem=>match y with| .ofNat (m+1)=>some (.int k (x.tmod (.ofNat (m+1))))|_=>none
 |_=>none
def sameKind:IntKind→IntKind→Bool
 | .i8,.i8| .i16,.i16| .i32,.i32| .i64,.i64| .u8,.u8| .u16,.u16| .u32,.u32| .u64,.u64=>true
 |_,_=>false
theorem YY{j k:IntKind}(h:sameKind j k=true):j=k:=by cases j<;>cases k<;>first|rfl|cases h
def pBin(op:BinOp)(x y:Value):Option Value:=
 match op,x,y with
 | .shl,.int k a,.int _ (.ofNat b)=>some (.int k (k.wrap (a*2^(min b k.bits))))
 | .shr,.int k a,.int _ (.ofNat b)=>some (.int k (a.fdiv (2^(min b k.bits))))
 | .shl,_,_| .shr,_,_=>none
 |op,.int k a,.int k' b=>bif sameKind k k' then pInt op k a b else none
 |_,_,_=>none
def pUn(op:UnOp)(x:Value):Option Value:=
 match op,x with
 | .not,.bool b=>some (.bool !b)
 | .neg,.int k n=>some (.int k (k.wrap (0-n)))
 | .xor,.int k n=>some (.int k (k.wrap (BitVec.ofInt k.bits (if k.signed then-1 else k.max)^^^BitVec.ofInt k.bits n).toNat))
 |_,_=>none
def yP(P:Program)(t:TypeId):Option IntKind:=
 match P.underlying t with
 |some (.int k)=>some k
 |_=>none
def JC(E:List (Nat×Value)):List Operand→Option (List Value)
 | []=>some []
 |x::xs=>match Yt E x,JC E xs with
  |some v,some vs=>some (v::vs)
  |_,_=>none
def Qa2(P:Program)(t:TypeId):Bool:=match P.underlying t with|some (.slice _)=>true|_=>false
def Qaz(P:Program)(t:TypeId):Bool:=match P.underlying t with|some .string=>true|_=>false
@[reducible] def maxI (x y : Int) : Int := if y > x then y else x
@[reducible] def minI (x y : Int) : Int := if y < x then y else x
def yQ(P:Program)(E:List (Nat×Value)):Op→Option Value
 | .move x| .assign x=>Yt E x
 | .pick c x y=>match Yt E c with
  |some (.bool true)=>Yt E x
  |some (.bool false)=>Yt E y
  |_=>none
 | .binOp op _ x y _=>match Yt E x,Yt E y with
  |some v,some u=>pBin op v u
  |_,_=>none
 | .unOp op _ x=>match Yt E x with
  |some v=>pUn op v
  |none=>none
 | .convert _ dst x=>match yP P dst,Yt E x with
  |some k,some (.int _ m)=>some (.int k (k.wrap m))
  |_,_=>none
 | .extract x i=>match Yt E x with
  |some (.tuple vs)=>vs[i]?
  |_=>none
 | .makeFunc fn first captured=>match JC E first.toList,JC E captured.toList with
  |some l,some m=>some (.func fn l.toArray m.toArray)
  |_,_=>none
 | .nilCheck x=>match Yt E x with
  |some (.pointer (some p))=>some (.pointer (some p))
  |some (.func (.func f) l m)=>some (.func (.func f) l m)
  |_=>none
 | .call {callee:= .builtin .len,args:=args,argTypes:=ts}=>match args.toList,ts.toList with
  | [x], [t]=>match Yt E x with
   |some (.slice _ m _)=>bif Qa2 P t then some (.int .i64 m)else none
   |some (.string s)=>bif Qaz P t then some (.int .i64 s.size)else none
   |_=>none
  |_,_=>none
 | .call {callee:= .builtin .max,args:=args,argTypes:=_}=>match args.toList with
  | [x,y]=>match Yt E x,Yt E y with
   |some (.int k m),some (.int _ n)=>some (.int k (maxI m n))
   |_,_=>none
  |_=>none
 | .call {callee:= .builtin .min,args:=args,argTypes:=_}=>match args.toList with
  | [x,y]=>match Yt E x,Yt E y with
   |some (.int k m),some (.int _ n)=>some (.int k (minI m n))
   |_,_=>none
  |_=>none
 |_=>none
theorem yD{ev:Operand→Value}(hev:∀x v,Yt E x=some v→ev x=v):∀(xs:List Operand) (vs:List Value),JC E xs=some vs→xs.map ev=vs:=by
 intro xs
 induction xs with
 |nil=>intro vs h;simp[JC]at h;simp[h]
 | cons x xs ih=>
  intro vs h
  simp only[JC]at h
  split at h
  ·rename_i v us h1 h2
   simp only[Qa]at h
   subst h
   simp[hev _ _ h1,ih _ h2]
  ·cases h
theorem Qsz{op:BinOp}{k:IntKind}{x y:Int}{v:Value}(h:pInt op k x y=some v):(binOp op 0 (.int k x) (.int k y)).run P w= .ok v w:=by
 have hor:∀m:Nat,¬((Int.ofNat (m+1))=0):=fun m=>by simp;omega
 have hdiv:∀(q:Int→Int) (r:Int→Value) (y:Int) (v:Value),(match y with| .ofNat (m+1)=>some (r (.ofNat (m+1)))|_=>none)=some v→ ¬y=0∧v=r y:=by
  intro q r y v h
  split at h
  ·simp only[Qa]at h;exact⟨hor _,h.symm⟩
  ·cases h
 cases op<;>simp only[pInt,Qa,reduceCtorEq]at h<;>simp only[binOp,ne_eq,not_true_eq_false,if_false]
 case quo=>obtain⟨h0,rfl⟩:=hdiv id (fun y=> .int k (k.wrap (x.tdiv y))) y v h;simp[Op.intDiv,h0]
 case rem=>obtain⟨h0,rfl⟩:=hdiv id (fun y=> .int k (x.tmod y)) y v h;simp[Op.intDiv,h0]
 all_goals (subst h;rfl)
theorem Qoe{op:BinOp}{t:TypeId}{k:IntKind}{x y:Int}:binOp op t (.int k x) (.int k y)=binOp op 0 (.int k x) (.int k y):=by
 cases op<;>simp[binOp]
theorem QsA{op:BinOp}{t:TypeId}{x y v:Value}(h:pBin op x y=some v):(binOp op t x y).run P w= .ok v w:=by
 have key:∀{op:BinOp} {k k':IntKind} {a b:Int} {v:Value},(bif sameKind k k' then pInt op k a b else none)=some v→(binOp op t (.int k a) (.int k' b)).run P w= .ok v w:=by
  intro op k k' a b v h
  cases hs:sameKind k k' with
  |false=>rw[hs]at h;cases h
  |true=>
   rw[hs]at h
   obtain rfl:=YY hs
   rw[Qoe]
   exact Qsz h
 unfold pBin at h
 split at h
 ·simp only[Qa]at h
  subst h
  rename_i k a yk b
  simp[binOp,Op.shift]
  intro hh;omega
 ·simp only[Qa]at h
  subst h
  rename_i k a yk b
  simp[binOp,Op.shift]
  intro hh;omega
 ·cases h
 ·cases h
 ·exact key h
 ·cases h
theorem QlM{op:BinOp}{t:TypeId}{x y:Operand}{u v r:Value}(h:pBin op u v=some r):(eqGuard op t x y u v).run P w= .ok () w:=by
 unfold eqGuard
 cases op<;>simp only[Bool.not_true,Bool.not_false,Bool.false_eq_true,if_true,if_false,Sem.run_pure]<;>try rfl
 all_goals
  cases u<;>cases v<;>simp only[pBin,reduceCtorEq]at h<;>rfl
theorem Qu4{op:UnOp}{x v:Value}(h:pUn op x=some v):(Op.unary op x).run P w= .ok v w:=by
 unfold pUn at h
 split at h<;>simp only[Qa,reduceCtorEq]at h<;>subst h
 ·simp[Op.unary]
 ·simp[Op.unary,Op.intArith]
 ·simp[Op.unary,Op.intBits]
theorem Qam{t:TypeId}{k:IntKind}(h:yP P t=some k):P.underlying t=some (.int k):=by
 unfold yP at h
 split at h<;>simp_all
theorem Ql{t:TypeId}{d:TypeDesc}(h:P.underlying t=some d):(underlying t).run P w= .ok d w:=by
 simp[underlying,h]
theorem QlN{src dst:TypeId}{k k':IntKind}{m:Int}{d:TypeDesc}(h:P.underlying dst=some (.int k))(hs:P.underlying src=some d):
  (convert src dst (.int k' m)).run P w= .ok (.int k (k.wrap m)) w:=by
 simp[convert,Ql h,Ql hs,Conv.intToInt]
theorem QaA{o:Oper}{v:Value}(hE:Env a n ds E)(hsrc:∀s d x,o.op= .convert s d x→(P.underlying s).isSome=true)(h:yQ P E o.op=some v):
  (execOp a.eval o).run P w= .ok (.value v) w∧Q5 o.op=true:=by
 obtain⟨dst,op,type,pos,after,guard⟩:=o
 simp only at h hsrc⊢
 unfold yQ at h
 split at h
 ·rw[←hE.eval h];exact⟨by simp[execOp],rfl⟩
 ·rw[←hE.eval h];exact⟨by simp[execOp],rfl⟩
 ·split at h
  ·rename_i hc
   simp[execOp,hE.eval hc,hE.eval h,asBool,Q5]
  ·rename_i hc
   simp[execOp,hE.eval hc,hE.eval h,asBool,Q5]
  ·cases h
 ·split at h
  ·rename_i h1 h2
   simp[execOp,hE.eval h1,hE.eval h2,QlM h,QsA h,Q5]
  ·cases h
 ·split at h
  ·rename_i h1
   simp[execOp,hE.eval h1,Qu4 h,Q5]
  ·cases h
 ·split at h
  ·rename_i h1 h2
   simp only[Qa]at h
   subst h
   have:=hsrc _ _ _ rfl
   obtain⟨d,hd⟩:=Option.isSome_iff_exists.1 this
   simp[execOp,hE.eval h2,QlN (Qam h1) hd,Q5]
  ·cases h
 ·split at h
  ·rename_i h1
   simp[execOp,hE.eval h1,Instr.extract,h,Q5]
  ·cases h
 ·rename_i fn fs cs
  split at h
  ·rename_i l m h1 h2
   simp only[Qa]at h
   subst h
   have e1:fs.map a.eval=l.toArray:=by
    have:=yD (E:=E) (ev:=a.eval) (fun _ _ h=>hE.eval h) _ _ h1
    rw[←Array.toList_map]at this
    rw[←this]
   have e2:cs.map a.eval=m.toArray:=by
    have:=yD (E:=E) (ev:=a.eval) (fun _ _ h=>hE.eval h) _ _ h2
    rw[←Array.toList_map]at this
    rw[←this]
   simp[execOp,Instr.makeFunc,e1,e2,Q5]
  ·cases h
 ·split at h
  ·rename_i h1
   simp only[Qa]at h
   subst h
   simp[execOp,hE.eval h1,Q5]
  ·rename_i h1
   simp only[Qa]at h
   subst h
   simp[execOp,hE.eval h1,Q5]
  ·cases h
 ·rename_i args ts
  split at h
  ·rename_i x t hxs hts
   have hxs':args= #[x]:=by rw[←Array.toList_inj];simpa using hxs
   have hts':ts= #[t]:=by rw[←Array.toList_inj];simpa using hts
   subst hxs' hts'
   split at h
   ·rename_i h1
    cases hs:Qa2 P t with
    |false=>rw[hs]at h;cases h
    | true=>
     rw[hs]at h
     simp only[Qg,Qa]at h
     subst h
     unfold Qa2 at hs
     split at hs
     ·rename_i e hu
      simp[execOp,resolve,invoke,builtin,Builtin.len_,hE.eval h1,Ql hu,Q5,goInt]
     ·cases hs
   ·rename_i h1
    cases hs:Qaz P t with
    |false=>rw[hs]at h;cases h
    | true=>
     rw[hs]at h
     simp only[Qg,Qa]at h
     subst h
     unfold Qaz at hs
     split at hs
     ·rename_i hu
      simp[execOp,resolve,invoke,builtin,Builtin.len_,hE.eval h1,Ql hu,Q5,goInt]
     ·cases hs
   ·cases h
  ·cases h
 ·rename_i args ts
  split at h
  ·rename_i x y hxs
   have hxs':args= #[x,y]:=by rw[←Array.toList_inj];simpa using hxs
   subst hxs'
   split at h
   ·rename_i h1 h2
    simp only[Qa]at h
    subst h
    exact⟨by simp[execOp,resolve,hE.eval h1,hE.eval h2,invoke,builtin,Builtin.max_,Builtin.max2,maxI],rfl⟩
   ·cases h
  ·cases h
 ·rename_i args ts
  split at h
  ·rename_i x y hxs
   have hxs':args= #[x,y]:=by rw[←Array.toList_inj];simpa using hxs
   subst hxs'
   split at h
   ·rename_i h1 h2
    simp only[Qa]at h
    subst h
    exact⟨by simp[execOp,resolve,hE.eval h1,hE.eval h2,invoke,builtin,Builtin.min_,Builtin.min2,minI],rfl⟩
   ·cases h
  ·cases h
 ·cases h
theorem Qpu{R:World→World→Prop}{i d:Nat}{o:Oper}{C:Act→Prop}(v:Value)(hE:Env a n ds E)(ho:ops[i]?=some o)(hg:guardOf ops E o=some true)(hd:o.dst=some d)(hn:Nat.blt d n=true)
  (hsrc:∀s t x,o.op= .convert s t x→(P.underlying s).isSome=true) (h:yQ P E o.op=some v) (k:∀a',Env a' n ds ((d,v)::E)→C a'):Tk P ops R i n ds E a w C:=
 ZO hE ho hg hd hn (QaA (P:=P) (w:=w) hE hsrc h).2 (fun _ _=>(QaA hE hsrc h).1) k
def Qu5(P:Program):Op→Bool
 | .convert s _ _=>(P.underlying s).isSome
 |_=>true
def Zg(P:Program)(ops:Array Oper)(n:Nat):Nat→Nat→List (Nat×Value)→Option (List (Nat×Value))
 |0,_,E=>some E
 | m +1,i,E=>
  match ops[i]? with
  |none=>none
  | some o=>
   bif JI n o.dst then
    match guardOf ops E o with
    | some true=>bif Qu5 P o.op then
      match yQ P E o.op with
      |some v=>Zg P ops n m (i+1) (upd E o.dst v)
      |none=>none
     else none
    |some false=>Zg P ops n m (i+1) (upd E o.dst undef)
    |none=>none
   else none
theorem Qpv:∀(m i:Nat) (E E':List (Nat×Value)) (a:Act),Env a n ds E→Zg P ops n m i E=some E'→
  (∀a',Env a' n ds E'→At P ρ ops Q (i+m) a' w)→At P ρ ops Q i a w:=by
 intro m
 induction m with
 |zero=>
  intro i E E' a hE h k
  simp only[Zg,Qa]at h
  subst h
  exact k a hE
 | succ m ih=>
  intro i E E' a hE h k
  simp only[Zg]at h
  split at h
  ·cases h
  ·rename_i o ho
   cases hd:JI n o.dst with
   |false=>rw[hd]at h;cases h
   | true=>
    rw[hd]at h
    simp only[Qg]at h
    have k':∀a',Env a' n ds E'→At P ρ ops Q (i+1+m) a' w:=fun a' h'=>by
     have:=k a' h'
     rwa [show i+(m+1)=i+1+m from by omega]at this
    split at h
    ·rename_i hg
     cases hs:Qu5 P o.op with
     |false=>rw[hs]at h;cases h
     | true=>
      rw[hs]at h
      simp only[Qg]at h
      split at h
      ·rename_i v hv
       have hr:=QaA (P:=P) (w:=w) hE (fun s d x e=>by rw[e]at hs;exact hs) hv
       exact JY (Zf hE ho hg hd hr.2 hr.1 fun a' h'=>ih (i+1) _ E' a' h' h k') (by simpa[Nat.blt_eq] using (Array.getElem?_eq_some_iff.1 ho).1)
      ·cases h
    ·rename_i hg
     exact JY (Qpt hE ho hg hd fun a' h'=>ih (i+1) _ E' a' h' h k') (by simpa[Nat.blt_eq] using (Array.getElem?_eq_some_iff.1 ho).1)
    ·cases h
end rules
end Go.Sep
