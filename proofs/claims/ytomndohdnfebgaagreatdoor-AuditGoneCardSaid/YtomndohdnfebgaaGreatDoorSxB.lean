/-
 Symbolic execution, the words: patterns, calls, operations, code.
-/
import Derived.Test.YtomndohdnfebgaaGreatDoorSxA
set_option linter.unusedVariables false
set_option linter.unusedSimpArgs false
namespace Go.Sep
inductive Pt where
 |dt (t:Ty)|own (t:Ty) (e:TypeId) (f:Bool)|agg (l:Pt)|nl|cs (h t:Pt)
 |ptr (b off:Nat)|fn (f:FuncId) (l:Pt)|raw (v:Value)|nils|kb (b:Bool)
structure Dy(T:Tb) where
 t:Ty
 x:den T.ty t
structure FSp(T:Tb) where
 fid:FuncId
 args:Pt
 blks:List (TypeId×Pt)
 pt:List Ty
 rt:List Ty
 fn:TU T.ty pt→Option (TU T.ty rt)
 res:Pt
 out:List (Option Pt)
 new:List (TypeId×Pt)
 pv:Option (TypeId×Bool):=none
 fs:TU T.ty pt→Option (Int ⊕ TU T.ty rt):=fun _=>none
 pk:List Bool:= []
def Qan{α:Type}:List Bool→List α→List α
 |true::bs,x::xs=>x::Qan bs xs
 |false::bs,_::xs=>Qan bs xs
 |_,_=> []
def pkI:List Bool→Nat→List (Nat×Nat)
 | [],_=> []
 |true::bs,i=>(i,i)::pkI bs (i+1)
 |false::bs,i=>pkI bs (i+1)
def pvV(x:TypeId×Bool)(e:Int):Value:= .iface x.1 (.agg (bif x.2 then #[.int .i64 e]else #[]))
def sm{E β R:Type}(x:Option (E ⊕ β))(l:E→Option R)(r:β→Option R):Option R:=
 match x with
 |some (.inl e)=>l e
 |some (.inr y)=>r y
 |none=>none
section
variable {T:Tb}
def toU:(ts:List Ty)→List (Dy T)→Option (TU T.ty ts)
 | [], []=>some ()
 |t::ts,d::ds=>match Qdz d.t t d.x,toU ts ds with
  |some x,some p=>some (QpY t ts x p)
  |_,_=>none
 |_,_=>none
def ofU:(ts:List Ty)→TU T.ty ts→List (Dy T)
 | [],_=> []
 | [t],x=> [⟨t,x⟩]
 |t::t'::ts,p=>⟨t,p.1⟩::ofU (t'::ts) p.2
structure Mt(T:Tb) where
 s:SS T
 dy:List (Dy T)
 bd:List (Nat×Nat)
 ow:List (Nat×Nat)
def rawB:Value→Value→Bool
 | .pointer none,.pointer none=>true
 | .nilFunc,.nilFunc=>true
 | .nilIface,.nilIface=>true
 |_,_=>false
def mat:Pt→SV T→Mt T→Option (Mt T)
 | .dt t,v,m=>match frz 60 m.s v t with
  |some (x,s)=>some {m with s:=s,dy:=⟨t,x⟩::m.dy}
  |none=>none
 | .own t e f,.own o,m=>match lookA m.s.L o with
  |some (ver,.own t' e' xs f')=>bif Ty.beq t' t&&(Nat.beq e' e&&(!f||f'))then some {m with dy:=⟨.sl t',xs⟩::m.dy,ow:=(o,ver)::m.ow} else none
  |_=>none
 | .own t e _,.nils,m=>some {m with s:=m.s.nw (.own t e [] true),dy:=⟨.sl t, []⟩::m.dy,ow:=(m.s.nx,m.s.nx)::m.ow}
 | .agg l,v,m=>match Qem v with
  |some u=>mat l u m
  |none=>none
 | .nl,.nl,m=>some m
 | .cs p q,.cs u v,m=>match mat p u m with
  |some m=>mat q v m
  |none=>none
 | .ptr b off,.ptr i off',m=>bif Nat.beq off off' then match lookA m.bd b with
   |some j=>bif Nat.beq i j then some m else none
   |none=>some {m with bd:=(b,i)::m.bd}
  else none
 | .fn f l,.fn f' u,m=>bif Nat.beq f f' then mat l u m else none
 | .raw a,.raw b,m=>bif rawB a b then some m else none
 | .nils,.nils,m=>some m
 | .kb b,.kb b',m=>bif b==b' then some m else none
 |_,_,_=>none
structure Im(T:Tb) where
 dy:List (Dy T)
 nx:Nat
 L:List (Nat×Nat×SB T)
def inst(bd:List (Nat×Nat)):Pt→Im T→Option (SV T×Im T)
 | .dt _,m=>match m.dy with
  |d::ds=>some (.dt d.t d.x,{m with dy:=ds})
  | []=>none
 | .own _ e f,m=>match m.dy with
  |⟨.sl t,xs⟩::ds=>some (.own m.nx,{dy:=ds,nx:=m.nx+1,L:=(m.nx,m.nx,.own t e xs f)::m.L})
  |_=>none
 | .agg l,m=>match inst bd l m with
  |some (v,m)=>some (.agg v,m)
  |none=>none
 | .nl,m=>some (.nl,m)
 | .cs p q,m=>match inst bd p m with
  |some (u,m)=>match inst bd q m with
   |some (v,m)=>some (.cs u v,m)
   |none=>none
  |none=>none
 | .ptr b off,m=>match lookA bd b with
  |some i=>some (.ptr i off,m)
  |none=>none
 | .fn f l,m=>match inst bd l m with
  |some (v,m)=>some (.fn f v,m)
  |none=>none
 | .raw v,m=>some (.raw v,m)
 | .nils,m=>some (.nils,m)
 | .kb b,m=>some (.kb b,m)
inductive Out(T:Tb) where
 |no
 |non
 |ok (s:SS T)
 |dem {β:Type} (x:Option β) (f:β→Option (SS T))
 |chk (b:Bool) (s:SS T)
 |ix (i:Int) (n:Nat) (f:Nat→Option (SS T))
 |sw (l:List (Bool×SV T)) (z:SV T) (f:SV T→SS T)
def ixR{T:Tb}{R:Type}(i:Int)(f:Nat→Option (SS T))(k:SS T→Option R):Nat→Nat→Option R
 |0,_=>none
 |n+1,j=>bif decide (i=((j:Nat):Int))then(match f j with|some s=>k s|none=>none)else ixR i f k n (j+1)
def swR{T:Tb}{R:Type}(z:SV T)(f:SV T→SS T)(k:SS T→Option R):List (Bool×SV T)→Option R
 | []=>k (f z)
 |(b,v)::l=>bif b then k (f v)else swR z f k l
def Out.run{T:Tb}{R:Type}(k:SS T→Option R):Out T→Option R
 | .no=>none
 | .non=>none
 | .ok s=>k s
 | .dem x f=>x.bind fun y=>match f y with
  |some s=>k s
  |none=>none
 | .chk b s=>Go.Sep.chk b (k s)
 | .ix i n f=>ixR i f k n 0
 | .sw l z f=>swR z f k l
def matB:List (TypeId×Pt)→Nat→Mt T→Option (Mt T×List (Nat×Nat))
 | [],_,m=>some (m, [])
 | (t,p)::l,i,m=>match lookA m.bd i with
  | some id=>match lookA m.s.L id with
   | some (ver,.var t' v)=>bif Nat.beq t t' then match mat p v m with
     |some m=>match matB l (i+1) m with
      |some (m,bw)=>some (m,(id,ver)::bw)
      |none=>none
     |none=>none
    else none
   |_=>none
  |none=>none
def takeB:List (Nat×Nat)→List (Nat×Nat×SB T)→Option (List (Nat×Nat×SB T))
 | [],L=>some L
 |(i,ver)::is,L=>match lookA L i with
  |some (ver',_)=>bif Nat.beq ver ver' then takeB is (delB i L)else none
  |none=>none
def Qvk:List Nat→List (Nat×Nat×SB T)→List (Nat×Nat×SB T)
 | [],L=>L
 |i::is,L=>Qvk is (delB i L)
def resV:SV T→SV T
 | .cs v .nl=>v
 |v=> .tup v
def Qgk:List (Nat×Nat)→List (Nat×Nat×SB T)→Option (List (Nat×Nat×SB T)×List (Nat×Nat×SB T))
 | [],L=>some ([],L)
 | (i,ver)::is,L=>match lookA L i with
  | some (ver',b)=>bif Nat.beq ver ver' then match Qgk is (delB i L)with
    |some (es,L)=>some ((i,ver',b)::es,L)
    |none=>none
   else none
  |none=>none
def bdOf:Nat→List (Nat×Nat)→List (Nat×Nat)
 |_, []=> []
 |i,(id,_)::bw=>(i,id)::bdOf (i+1) bw
def outE(bd:List (Nat×Nat))(nv:Nat):List (Nat×Nat×SB T)→List (Option Pt)→Im T→Option (List (Nat×Nat×SB T)×Im T)
 | (id,_,.var t _)::es,some p::os,m=>match inst bd p m with
  |some (v,m)=>match outE bd nv es os m with
   |some (L,m)=>some ((id,nv,.var t v)::L,m)
   |none=>none
  |none=>none
 |e::es,none::os,m=>match outE bd nv es os m with
  |some (L,m)=>some (e::L,m)
  |none=>none
 | [], [],m=>some ([],m)
 |_,_,_=>none
def newE(bd:List (Nat×Nat))(nv:Nat):List (TypeId×Pt)→Nat→Im T→Option (List (Nat×Nat×SB T)×Im T)
 | [],_,m=>some ([],m)
 | (t,p)::bs,i,m=>match lookA bd i,inst bd p m with
  |some id,some (v,m)=>match newE bd nv bs (i+1) m with
   |some (L,m)=>some ((id,nv,.var t v)::L,m)
   |none=>none
  |_,_=>none
def Qor:Nat→Nat→Nat→List (Nat×Nat)→List (Nat×Nat)
 |0,_,_,bd=>bd
 |l+1,i,n,bd=>Qor l (i+1) (n+1) ((i,n)::bd)
def aftS(sp:FSp T)(s:SS T)(bw:List (Nat×Nat))(es L2:List (Nat×Nat×SB T))(dst:Option Tmp)(r:TU T.ty sp.rt):Option (SS T):=
 let bd:=Qor sp.new.length sp.blks.length s.nx (bdOf 0 bw)
 match inst bd sp.res ⟨ofU sp.rt r,s.nx+sp.new.length, []⟩with
 | some (v,i)=>match outE bd s.nx es sp.out i with
  |some (L,i)=>match newE bd s.nx sp.new sp.blks.length i with
   |some (N,i)=>some (SS.put {s with L:=L++(N++(i.L++L2)),nx:=i.nx+1} dst (resV v))
   |none=>none
  |none=>none
 |none=>none
def QpZ(sp:FSp T)(s:SS T)(dst:Option Tmp)(as:SV T):Option (Out T):=
 match mat sp.args as ⟨s, [], [], []⟩with
 | some m=>match matB sp.blks 0 m with
  | some (m,bw)=>match toU sp.pt m.dy.reverse,takeB m.ow.reverse m.s.L with
   |some p,some L1=>match Qgk bw L1 with
    |some (es,L2)=>some (.dem (sp.fn p) (aftS sp m.s bw es L2 dst))
    |none=>none
   |_,_=>none
  |none=>none
 |none=>none
structure POut(T:Tb) where
 β:Type
 x:Option (Int ⊕ β)
 v:TypeId×Bool
 s:SS T
 f:β→Option (SS T)
def POut.run{T:Tb}{R:Type}(kp:TypeId×Bool→Int→SS T→Option R)(k:SS T→Option R)(o:POut T):Option R:=
 sm o.x (fun e=>kp o.v e o.s) fun y=>match o.f y with
  |some s=>k s
  |none=>none
def QsP(sp:FSp T)(s:SS T)(dst:Option Tmp)(as:SV T):Option (POut T):=
 match sp.pv with
 |none=>none
 | some x=>match mat sp.args as ⟨s, [], [], []⟩with
  | some m=>match matB sp.blks 0 m with
   | some (m,bw)=>match toU sp.pt m.dy.reverse,takeB m.ow.reverse m.s.L with
    |some p,some L1=>match Qgk bw L1 with
     |some (es,L2)=>some ⟨_,sp.fs p,x,{m.s with L:=Qan sp.pk es++L2},aftS sp m.s bw es L2 dst⟩
     |none=>none
    |_,_=>none
   |none=>none
  |none=>none
def tryP(f:FuncId)(s:SS T)(dst:Option Tmp)(as:SV T):List (FSp T)→Option (POut T)
 | []=>none
 | sp::l=>bif Nat.beq sp.fid f then match QsP sp s dst as with
   |some o=>some o
   |none=>tryP f s dst as l
  else tryP f s dst as l
structure RvSp(T:Tb) where
 fid:FuncId
 t:Ty
 e:TypeId
 fn:List (den T.ty t)→Option (List (den T.ty t))
structure Cx(T:Tb) where
 P:Program
 G:List (Nat×Dy T)
 sp:List (FSp T)
 K:Nat
 n:Nat
 rv:List (RvSp T):= []
 mps:List (FuncId×(SV T→Option (SV T))):= []
 rg:Bool:=false
 Y:Option ((R:Type)→Nat→SV T→SS T→(Bool→SS T→Option R)→Option R):=none
def rvS(rv:RvSp T)(s:SS T)(d:Option Tmp)(as:SV T):Out T:=
 match as with
 | .cs (.own o) .nl=>match lookA s.L o with
  |some (_,.own t' e' xs true)=>match Qdz (.sl t') (.sl rv.t) xs with
   |some xs=>bif Nat.beq e' rv.e then .dem (rv.fn xs) (fun ys=>some ((s.wr o (.own rv.t rv.e ys true)).put d (.tup .nl)))else .no
   |none=> .no
  |_=> .no
 |_=> .no
def QsQ(f:FuncId)(s:SS T)(d:Option Tmp)(as:SV T):List (RvSp T)→Option (Out T)
 | []=>none
 |rv::l=>bif Nat.beq rv.fid f then some (rvS rv s d as)else QsQ f s d as l
def Qos(f:FuncId)(s:SS T)(dst:Option Tmp)(as:SV T):List (FSp T)→Out T
 | []=> .no
 | sp::l=>bif Nat.beq sp.fid f then match QpZ sp s dst as with
   |some o=>o
   |none=>Qos f s dst as l
  else Qos f s dst as l
def svC:Value→Option (SV T)
 | .int k n=>some (.dt (.int k) n)
 | .bool b=>some (.kb b)
 | .string s=>some (.dt .str s)
 | .slice none 0 0=>some .nils
 | .pointer none=>some (.raw (.pointer none))
 | .nilFunc=>some (.raw .nilFunc)
 | .nilIface=>some (.raw .nilIface)
 |_=>none
def evS(C:Cx T)(s:SS T)(t:TypeId):Operand→Option (SV T)
 | .tmp x=>lookA s.E x
 | .const (.agg cs)=>match ofC C.P 200 t cs.toList with
  |some (v, [])=>bif agS v then some v else none
  |_=>none
 | .const v=>svC v
 | .global g=>match lookA C.G g with
  |some d=>some (.cell d.t d.x)
  |none=>none
 | .func f=>bif Nat.ble 1000000000 f then none else some (.fn f .nl)
def evL(C:Cx T)(s:SS T):List Operand→List TypeId→Option (SV T)
 | [],_=>some .nl
 |x::xs,ts=>match evS C s (ts.headD 0) x,evL C s xs ts.tail with
  |some v,some l=>some (.cs v l)
  |_,_=>none
def appL:SV T→SV T→SV T
 | .cs h t,l=> .cs h (appL t l)
 |_,l=>l
def toV:SV T→Option Value
 | .dt (.int k) x=>some (.int k x)
 | .dt .bool b=>some (.bool b)
 | .kb b=>some (.bool b)
 |_=>none
def ofV:Value→Option (SV T)
 | .int k x=>some (.dt (.int k) x)
 | .bool b=>some (.dt .bool b)
 |_=>none
def Qot:SV T→Option Bool
 | .kb b=>some b
 | .dt .bool b=>some b
 |_=>none
mutual
def eqE(P:Program):Nat→TypeId→SV T→SV T→Option Bool
 |0,_,_,_=>none
 | f +1,t,u,v=>match QiO P t with
  |some fs=>match Qem u,Qem v with
   |some l,some m=>eqF P f fs l m
   |_,_=>none
  | none=>match u,v with
   | .dt (.int k) x,.dt (.int k') y=>match yP P t with
    |some kk=>bif sameKind kk k&&sameKind k k' then some (decide ((show Int from x)=(show Int from y)))else none
    |none=>none
   | .dt (.arr k n) x,.dt (.arr k' n') y=>match Xo P t,f with
    | some (N,kk),_+1=>bif Nat.beq N n&&sameKind kk k then match Qdz (T:=T) (.arr k' n') (.arr k n) y with
      |some y=>some (decide ((show Vector Int n from x)=(show Vector Int n from y)))
      |none=>none
     else none
    |_,_=>none
   |u,v=>match Qot u,Qot v with
    |some b,some c=>bif boolT P t then some (b==c)else none
    |_,_=>none
def eqF(P:Program):Nat→List Field→SV T→SV T→Option Bool
 |0,_,_,_=>none
 |_+1, [],_,_=>some true
 | f+1,x::fs,l,m=>match tsz P x.type with
  | some (sz,ag)=>match subL 200 l x.offset sz ag,subL 200 m x.offset sz ag with
   |some u,some v=>match eqE P f x.type u v,eqF P f fs l m with
    |some b,some c=>bif x.name== "_" then none else some (b&&c)
    |_,_=>none
   |_,_=>none
  |none=>none
end
def strS(op:BinOp)(a b:ByteArray):Option Bool:=
 match op with
 | .eql=>some (ByteArray.toList a==ByteArray.toList b)
 | .neq=>some (!(ByteArray.toList a==ByteArray.toList b))
 | .lss=>some (Op.bytesLess (ByteArray.toList a) (ByteArray.toList b))
 | .leq=>some (Op.bytesLess (ByteArray.toList a) (ByteArray.toList b)||(ByteArray.toList a==ByteArray.toList b))
 | .gtr=>some (!(Op.bytesLess (ByteArray.toList a) (ByteArray.toList b)||(ByteArray.toList a==ByteArray.toList b)))
 | .geq=>some (!Op.bytesLess (ByteArray.toList a) (ByteArray.toList b))
 |_=>none
def nilP:SV T→Option Bool
 | .raw (.pointer none)=>some true
 | .ptr _ _=>some false
 | .cell _ _=>some false
 | .ela _ _ _ _ _=>some false
 | .eva _ _ _ _ _ _=>some false
 |_=>none
def eqqS(P:Program)(t:TypeId)(x y:SV T):Option (SV T):=
 match Qot x,Qot y with
 |some b,some c=>bif boolT P t then some (.dt .bool (b==c))else none
 | _,_=>match nilP x,y with
  |some b,.raw (.pointer none)=>bif ptrT P t then some (.kb b)else none
  | _,_=>match x,y with
   | .nils,.nils=>bif sliceT P t then some (.kb true)else none
   | _,_=>bif agS x&&(agS y&& !P.eqGuardType P.depth t)then match eqE P 100 t x y with
     |some b=>some (.dt .bool b)
     |none=>none
    else none
def notS:SV T→SV T
 | .kb b=> .kb !b
 | .dt .bool b=> .dt .bool (!b)
 |v=>v
def binS(P:Program)(t:TypeId)(op:BinOp)(x y:SV T)(s:SS T)(d:Option Tmp):Out T:=
 match x,y with
 | .dt .str a,.dt .str b=>match strS op a b with
  |some e=> .ok (s.put d (.dt .bool e))
  |none=> .no
 | .dt (.int k) a,.dt (.int k') b=>match op with
  | .shl=>Out.chk (!decide (b<0)) (s.put d (.dt (.int k) (k.wrap (a*2^(min b.toNat k.bits)))))
  | .shr=>Out.chk (!decide (b<0)) (s.put d (.dt (.int k) (a.fdiv (2^(min b.toNat k.bits)))))
  | .quo=>bif sameKind k k' then Out.chk (!decide (b=0)) (s.put d (.dt (.int k) (k.wrap (a.tdiv b))))else .no
  | .rem=>bif sameKind k k' then Out.chk (!decide (b=0)) (s.put d (.dt (.int k) (a.tmod b)))else .no
  | op=>bif sameKind k k' then match pInt op k a b with
    |some v=>match ofV v with
     |some v=> .ok (s.put d v)
     |none=> .no
    |none=> .no
   else .no
 | x,y=>match op with
  | .eql=>match eqqS P t x y with
   |some v=> .ok (s.put d v)
   |none=> .no
  | .neq=>match eqqS P t x y with
   |some v=> .ok (s.put d (notS v))
   |none=> .no
  |_=> .no
def unS(op:UnOp)(x:SV T):Option (SV T):=
 match op,x with
 | .not,.kb b=>some (.kb !b)
 | .not,.dt .bool b=>some (.dt .bool (!b))
 | .neg,.dt (.int k) n=>some (.dt (.int k) (k.wrap (0-n)))
 | .xor,.dt (.int k) n=>some (.dt (.int k) (bnot k n))
 |_,_=>none
def slT'(T:Tb)(P:Program)(t:TypeId):Option (TypeId×Ty×Nat):=
 match slT P t with
 |some (e,n,by_,zl)=>match tyOf T P 20 e with
  |some y=>bif Nat.beq n (szT T y)&&(Nat.beq n zl&&(Nat.blt 0 n&&Nat.blt 0 by_))then some (e,y,by_)else none
  |none=>none
 |none=>none
def one1(u:SV T):Option (SV T):=
 match Qem u with
 |some (.cs h .nl)=>bif agS h then some h else none
 |_=>none
def okTy:Option Ty→SV T→Bool
 |none,_=>true
 |some t,.dt t' _=>Ty.beq t t'
 |some (.arr _ _),.agg _=>false
 |_,_=>true
def fitS:Nat→Option Ty→SV T→SV T
 |0,_,u=>u
 |f+1,y,u=>bif okTy y u then u else match one1 u with
  |some h=>fitS f y h
  |none=>u
def fitO(P:Program)(t:TypeId):Option (SV T)→Option (SV T)
 |some u=>some (fitS 5 (tyOf T P 20 t) u)
 |none=>none
def fldS(P:Program)(t m:Nat)(v:SV T):Option (SV T):=
 match fldT P t m,Qem v with
 |some (fo,ft),some l=>match tsz P ft with
  |some (sz,ag)=>fitO P ft (subL 200 l fo sz ag)
  |none=>none
 |_,_=>none
def fadS(P:Program)(t m:Nat)(p:SV T):Option (SV T):=
 match fldT P t m with
 | some (fo,ft)=>match p with
  | .ptr b off=>some (.ptr b (off+fo))
  | .cell (.st n) x=>match tsz P ft with
   |some (sz,ag)=>match subL 200 (exS n x) fo sz ag with
    |some (.dt t y)=>some (.cell t y)
    |_=>none
   |none=>none
  | .elt o i off sz=>some (.elt o i (off+fo) sz)
  | .eva b off i n y f=>some (.eva b off i n y (f+fo))
  |_=>none
 |none=>none
def QsR(P:Program)(s:SS T)(t:TypeId)(p:SV T):Option (SV T):=
 match tsz P t with
 | some (sz,ag)=>match p with
  | .ptr b off=>match lookA s.L b with
   |some (_,.var _ v)=>fitO P t (subS 200 v off sz ag)
   |_=>none
  | .cell y x=>bif Nat.beq (szT T y) sz&&(agT y==ag)then some (.dt y x)else none
  | .ela b off i n k=>match lookA s.L b with
   | some (_,.var _ v)=>bif Nat.beq sz 1&& !ag then match subS 200 v off n true with
     |some (.dt (.arr k' n') x)=>bif Nat.beq n n'&&sameKind k k' then some (.dt (.int k') (vget x i.toNat))else none
     |_=>none
    else none
   |_=>none
  |_=>none
 |none=>none
def okSt:SV T→Bool
 | .dt _ _=>true
 | .kb _=>true
 | .raw v=>v.oneCell'
 | .nils=>true
 | .agg l=>okSt l
 | .nl=>true
 | .cs h t=>okSt h&&okSt t
 | .fn _ _=>true
 | .ptr _ _=>true
 | .own _=>true
 |_=>false
def Qus(s:SS T)(o:Nat)(i:Int)(off es sz:Nat)(ag:Bool)(u:SV T):Out T:=
 match lookA s.L o with
 | some (_,.own t' e xs true)=>bif okSt u&&(Nat.beq (szS u) sz&&(agS u==ag&&Nat.beq (szT T t') es))then .dem (getI xs i) (fun z=>match setS 200 (.dt t' z) off sz ag u with
   |some v'=>match pur 60 v' t' with
    |some z'=>some (s.wr o (.own t' e (xs.set i.toNat z') true))
    |none=>none
   |none=>none)else .no
 |_=> .no
def Qp0(P:Program)(s:SS T)(t:TypeId)(p u:SV T):Out T:=
 match tsz P t with
 | some (sz,ag)=>match p with
  | .ptr b off=>match lookA s.L b with
   | some (_,.var tid v)=>bif okSt u&&(Nat.beq (szS u) sz&&(agS u==ag))then match setS 200 v off sz ag u with
     |some v'=> .ok (s.wr b (.var tid v'))
     |none=> .no
    else .no
   |_=> .no
  | .elt o i off es=>bif Nat.beq off 0 then match lookA s.L o with
   | some (_,.own t0 _ _ _)=>match frz 60 s u t0 with
    | some (z,s)=>match lookA s.L o with
     |some (_,.own t' e xs true)=>match Qdz t0 t' z with
      |some z=>bif Nat.beq (szT T t') es&&(Nat.beq es sz&&(agT t'==ag))then .ok (s.wr o (.own t' e (xs.set i.toNat z) true))else .no
      |none=> .no
     |_=> .no
    |none=> .no
   |_=> .no
   else Qus s o i off es sz ag u
  | .ela b off i n k=>match lookA s.L b with
   | some (_,.var tid v)=>bif Nat.beq sz 1&& !ag then match subS 200 v off n true,u with
     | some (.dt (.arr k' n') x),.dt (.int k2) z=>bif Nat.beq n n'&&(sameKind k k'&&sameKind k k2)then match setS 200 v off n true (.dt (.arr k' n') (vset x i.toNat z))with
       |some v'=> .ok (s.wr b (.var tid v'))
       |none=> .no
      else .no
     |_,_=> .no
    else .no
   |_=> .no
  |_=> .no
 |none=> .no
def Qen(s:SS T)(v:SV T)(t:Ty):Option (List (den T.ty t)×SS T):=frz 60 s v (.sl t)
def idxS(P:Program)(s:SS T)(d:Option Tmp)(t:TypeId)(x:SV T)(i:Int):Out T:=
 match slT' T P t with
 |some (_,y,_)=>match Qen s x y with
  |some (xs,s)=> .dem (getI xs i) (fun z=>some (s.put d (.cell y z)))
  |none=> .no
 |none=> .no
def QwM(P:Program)(s:SS T)(d:Option Tmp)(t:TypeId)(o:Nat)(i:Int)(off es:Nat):Out T:=
 match tsz P t,lookA s.L o with
 | some (sz,ag),some (_,.own t' _ xs true)=>bif Nat.beq (szT T t') es then .dem (getI xs i) (fun z=>match fitO P t (subS 200 (.dt t' z) off sz ag)with
   |some v=>some (s.put d v)
   |none=>none)else .no
 |_,_=> .no
def QsS(P:Program)(s:SS T)(d:Option Tmp)(t:TypeId)(b off:Nat)(i:Int)(n:Nat)(y:Ty)(fo:Nat):Out T:=
 match tsz P t,lookA s.L b with
 | some (sz,ag),some (_,.var _ v)=>match subS 200 v off (n*szT T y) true with
  | some u=>match frz 60 s u (.vec n y)with
   |some (xs,s)=> .dem (getI (show List (den T.ty y)from xs) i) (fun z=>match fitO P t (subS 200 (.dt y z) fo sz ag)with
    |some v=>some (s.put d v)
    |none=>none)
   |none=> .no
  |none=> .no
 |_,_=> .no
def Qp1(P:Program)(s:SS T)(t:TypeId)(b off:Nat)(i:Int)(n:Nat)(y:Ty)(fo:Nat)(u:SV T):Out T:=
 match tsz P t,lookA s.L b with
 | some (sz,ag),some (_,.var _ v)=>match subS 200 v off (n*szT T y) true with
  | some u0=>match frz 60 s u0 (.vec n y)with
   | some (xs,s)=>match frz 60 s u y with
    | some (z,s)=>match lookA s.L b with
     | some (_,.var tid v2)=>bif Nat.beq fo 0&&(Nat.beq (szT T y) sz&&(agT y==ag))then match setS 200 v2 off (n*szT T y) true (.dt (.vec n y) (List.set (show List (den T.ty y)from xs) i.toNat z))with
       |some v'=> .ok (s.wr b (.var tid v'))
       |none=> .no
      else .no
     |_=> .no
    |none=> .no
   |none=> .no
  |none=> .no
 |_,_=> .no
def Qut(P:Program)(s:SS T)(d:Option Tmp)(t:TypeId)(x i:SV T):Out T:=
 match i with
 | .dt (.int _) i=>match x with
  | .ptr b off=>match Xo P t with
   |some (n,k)=>Out.chk (inA n i) (s.put d (.ela b off i n k))
   | none=>match arT2 P t with
    |some (n,e,es)=>match tyOf T P 20 e with
     |some y=>bif Nat.beq es (szT T y)then Out.chk (inA n i) (s.put d (.eva b off i n y 0))else .no
     |none=> .no
    |none=> .no
  | .cell (.arr k n) v=>match Xo P t with
   |some (n',_)=>bif Nat.beq n n' then Out.chk (inA n i) (s.put d (.cell (.int k) (vget v i.toNat)))else .no
   |_=> .no
  | .own o=>match lookA s.L o,slT' T P t with
   |some (_,.own t' e' xs true),some (e,y,_)=>bif Nat.beq (szT T t') (szT T y)&&Nat.beq e e' then .dem (getI xs i) (fun _=>some (s.put d (.elt o i 0 (szT T t'))))else .no
   |_,_=>idxS P s d t (.own o) i
  | .elt o j off es=>match Xo P t with
   |some (n,_)=>Out.chk (inA n i) (s.put d (.elt o j (off+i.toNat) es))
   |none=> .no
  |x=>idxS P s d t x i
 |_=> .no
def lenS(s:SS T):SV T→Option Int
 | .dt (.sl _) xs=>some ((List.length xs:Nat):Int)
 | .dt .str x=>some ((x.size:Nat):Int)
 | .nils=>some ((0:Nat):Int)
 | .own o=>match lookA s.L o with
  |some (_,.own _ _ xs _)=>some ((List.length xs:Nat):Int)
  |some (_,.lnt _ xs)=>some ((List.length xs:Nat):Int)
  |_=>none
 |_=>none
def QlZ(P:Program)(s:SS T)(d:Option Tmp)(t:TypeId)(x y:SV T):Out T:=
 match slT' T P t with
 | some (e,ty,by_)=>match Qen s y ty with
  | some (ys,s)=>match x with
   | .nils=> .dem (catI by_ ([]:List (den T.ty ty)) ys) (fun l=>some ((s.nw (.own ty e l true)).put d (.own s.nx)))
   | .own o=>match lookA s.L o with
    | some (_,.own ty' e' xs f)=>bif Nat.beq e e' then match Qdz (.sl ty') (.sl ty) xs with
      |some xs=> .dem (catI by_ xs ys) (fun l=>some ((SS.nw {s with L:=delB o s.L} (.own ty e l f)).put d (.own s.nx)))
      |none=> .no
     else .no
    |_=> .no
   |_=> .no
  |none=> .no
 |none=> .no
def Qks(C:Cx T)(s:SS T)(pl:Nat→Option (Nat×Nat))(ty:Nat→TypeId):List (Nat×Operand)→SV T→Option (SV T)
 | [],l=>some l
 | (j,x)::ps,l=>match pl j,evS C s (ty j) x with
  | some (off,sz),some u=>bif Nat.beq (szS u) sz then match setL 200 l off sz (agS u) u with
    |some l=>Qks C s pl ty ps l
    |none=>none
   else none
  |_,_=>none
def repS(v:SV T):Nat→SV T
 |0=> .nl
 |n+1=> .cs v (repS v n)
def intL(k:IntKind):List Int→SV T
 | []=> .nl
 |x::l=> .cs (.dt (.int k) x) (intL k l)
def qQ(k:IntKind):SV T→Option (List Int)
 | .nl=>some []
 | .cs (.dt (.int k') x) l=>bif sameKind k k' then match qQ k l with
  |some xs=>some (x::xs)
  |none=>none
  else none
 |_=>none
def frzI(y:Ty):SS T→SV T→Option (List (den T.ty y)×SS T)
 |s,.nl=>some ([],s)
 | s,.cs v l=>match frz 60 s v y with
  |some (x,s)=>match frzI y s l with
   |some (xs,s)=>some (x::xs,s)
   |none=>none
  |none=>none
 |_,_=>none
def places(P:Program)(fs:Array Field):Option (List (Nat×Nat)):=fs.toList.mapM fun f=>(P.info? f.type).map fun q=>(f.offset,q.size)
def Quu(C:Cx T)(s:SS T)(t:TypeId)(ps:List (Nat×Operand)):Option (SV T):=
 match C.P.underlying t,C.P.info? t with
 | some (.struct fs),some _=>match(zeroS C.P t:Option (SV T)),places C.P fs with
  |some (.agg l),some pl=>match Qks C s (fun k=>pl[k]?) (fun k=>(fs[k]?.map (·.type)).getD 0) ps l with
   |some l=>some (.agg l)
   |none=>none
  |_,_=>none
 | some (.array n e),some _=>match C.P.underlying e,C.P.info? e,(zeroS C.P t:Option (SV T))with
  | some (.int k),some q,some (.dt (.arr k' n') x0)=>bif sameKind k k'&&(Nat.beq n n'&&Nat.beq q.size 1)then
    match Qks C s (fun k=>some (k*q.size,q.size)) (fun _=>e) ps (intL k (Ye x0))with
    |some l=>match qQ k l with
     |some xs=>some (.dt (.arr k n) (vofL n xs))
     |none=>none
    |none=>none
   else none
  |_,some q,some (.agg l)=>match Qks C s (fun k=>some (k*q.size,q.size)) (fun _=>e) ps l with
   |some l=>some (.agg l)
   |none=>none
  |_,_,_=>none
 |_,_=>none
def bslS(C:Cx T)(s:SS T)(d:Tmp)(t:TypeId)(n:Nat)(ps:List (Nat×Operand)):Out T:=
 match slT' T C.P t with
 | some (e,y,_)=>bif Nat.ble n 1000&&Nat.blt 0 (szT T y)&&Nat.ble (szT T y) 10000 then match(zeroS C.P e:Option (SV T))with
   | some z=>match Qks C s (fun k=>some (k*szT T y,szT T y)) (fun _=>e) ps (repS z n)with
    |some l=>match frzI y s l with
     |some (xs,s)=> .ok ((s.nw (.own y e xs true)).put (some d) (.own s.nx))
     |none=> .no
    |none=> .no
   |none=> .no
  else .no
 |none=> .no
def bnd?(C:Cx T)(s:SS T):Option Operand→Int→Option Int
 |none,z=>some z
 |some x,_=>match evS C s 0 x with
  |some (.dt (.int _) z)=>some z
  |_=>none
def Qni(C:Cx T)(s:SS T)(d:Option Tmp)(t:TypeId)(x:SV T)(lo hi:Option Operand):Out T:=
 match slT' T C.P t with
 | some (_,y,_)=>match Qen s x y with
  |some (xs,s')=>match bnd? C s lo 0,bnd? C s hi ((List.length xs:Nat):Int)with
   |some zl,some zh=> .dem (subI xs zl zh) (fun l=>some (s'.put d (.dt (.sl y) l)))
   |_,_=> .no
  |none=> .no
 |none=> .no
def sl3S(C:Cx T)(s:SS T)(d:Tmp)(t:TypeId)(x:Option (SV T))(hi mx:Operand):Out T:=
 match x,slT' T C.P t with
 | some v,some (e,y,_)=>match Qen s v y with
  |some (xs,s')=>match bnd? C s (some hi) 0,bnd? C s (some mx) 0 with
   |some zh,some zm=> .dem (Go.Sep.chk (decide (zm=zh)) (subI xs 0 zh)) (fun l=>some ((s'.nw (.own y e l false)).put (some d) (.own s'.nx)))
   |_,_=> .no
  |none=> .no
 |_,_=> .no
def s2aS(C:Cx T)(s:SS T)(d:Tmp)(t:TypeId)(x:Option (SV T)):Out T:=
 match x,Xo C.P t with
 |some v,some (N,k)=>match Qen s v (.int k)with
  |some (l,s)=>bif Nat.blt 0 N then .chk (decide (N≤List.length l)) (s.put (some d) (.cell (.arr k N) (vofL N l)))else .no
  |none=> .no
 |_,_=> .no
def ixS(P:Program)(s:SS T)(d:Tmp)(t:TypeId)(u:SV T)(m:Int):Out T:=
 match u with
 | .dt (.arr k N) v=>match Xo P t with
  |some (N',k')=>bif Nat.beq N N'&&sameKind k k' then .dem (getI (Ye v) m) (fun y=>some (s.put (some d) (.dt (.int k) y)))else .no
  |none=> .no
 | .agg l=>match arT2 P t with
  |some (N,e,es)=>match tsz P e with
   | some (sz,ag)=>bif Nat.beq sz es&&Nat.beq (szS (.agg l)) (N*es)then .ix m N (fun j=>match subL 200 l (j*es) sz ag with
     |some v=>some (s.put (some d) v)
     |none=>none)else .no
   |none=> .no
  |none=> .no
 |_=> .no
def opEq:Operand→Operand→Bool
 | .tmp a,.tmp b=>Nat.beq a b
 | .const (.int k a),.const (.int k' b)=>sameKind k k'&&decide (a=b)
 |_,_=>false
def mkS(C:Cx T)(s:SS T)(d:Tmp)(t:TypeId)(x y:Operand):Out T:=
 match evS C s 0 x,slT' T C.P t with
 | some (.dt (.int .i64) m),some (e,ty,by_)=>bif opEq x y then match(zeroS C.P e:Option (SV T))with
   |some z=>match frz 60 s z ty with
    |some (zd,s)=> .dem (QaE by_ zd m) (fun l=>some ((s.nw (.own ty e l true)).put (some d) (.own s.nx)))
    |none=> .no
   |none=> .no
  else .no
 |_,_=> .no
def cpS(P:Program)(s:SS T)(d:Option Tmp)(t:TypeId)(u v:SV T):Out T:=
 match slT' T P t with
 | some (e,ty,_)=>match Qen s v ty with
  | some (ys,s)=>match u with
   | .own o=>match lookA s.L o with
    |some (_,.own ty' e' xs true)=>match Qdz (.sl ty') (.sl ty) xs with
     |some xs=>bif Nat.beq e e' then .ok ((s.wr o (.own ty e (List.take (List.length xs) ys++List.drop (List.length ys) xs) true)).put d (.dt (.int .i64) ((Nat.min (List.length ys) (List.length xs):Nat):Int)))else .no
     |none=> .no
    |_=> .no
   |_=> .no
  |none=> .no
 |none=> .no
def cpkS(P:Program)(s:SS T)(d:Option Tmp)(t:TypeId)(b p l1 q l2:Nat):Out T:=
 match lookA s.L b,P.underlying t with
 |some (_,.var tid (.dt (.arr k N) x)),some (.slice e)=>match intT P e with
  |some k'=>bif decide (k=k')&&(Nat.ble (p+Nat.min l2 l1) N&&Nat.ble (q+Nat.min l2 l1) N)then .ok ((s.wr b (.var tid (.dt (.arr k N) (Qgj x p q (Nat.min l2 l1))))).put d (.dt (.int .i64) ((Nat.min l2 l1:Nat):Int)))else .no
  |none=> .no
 |_,_=> .no
def cpD(P:Program)(s:SS T)(d:Option Tmp)(t:TypeId)(u v:SV T):Out T:=
 match u with
 | .sla b p c _=>match v with
  | .sla b' q c' _=>bif Nat.beq b b' then cpkS P s d t b p c q c' else .no
  |_=> .no
 |u=>cpS P s d t u v
def cstO:Option Operand→Bool
 |some (.const _)=>true
 |_=>false
def cstB(lo hi:Option Operand):Bool:=(cstO lo&&(cstO hi||hi.isNone))||(lo.isNone&&cstO hi)
def slkS(C:Cx T)(s:SS T)(d:Tmp)(t:TypeId)(b:Nat)(lo hi:Option Operand):Out T:=
 match Xo C.P t with
 |some (N,_)=>match bnd? C s lo 0,bnd? C s hi ((N:Nat):Int)with
  |some zl,some zh=>bif (decide (0≤zl)&&(decide (zl≤zh)&&(decide (zh≤(N:Int))&&decide (zl<(N:Int)))))then .ok (s.put (some d) (.sla b zl.toNat (zh.toNat-zl.toNat) N))else .no
  |_,_=> .no
 |none=> .no
def slaS(C:Cx T)(s:SS T)(d:Tmp)(t:TypeId)(b off:Nat)(lo hi:Option Operand):Out T:=
 match lookA s.L b,arT C.P t with
 | some (_,.var _ c),some (N,_,1)=>match subS 200 c off N true with
  | some (.dt (.arr k N') x)=>bif Nat.beq N N'&&Nat.ble N 1000000 then match bnd? C s lo 0,bnd? C s hi ((N:Nat):Int)with
    |some zl,some zh=> .dem (subI (Ye x) zl zh) (fun l=>some (SS.put {s with L:=delB b s.L} (some d) (.dt (.sl (.int k)) l)))
    |_,_=> .no
   else .no
  |_=> .no
 |_,_=> .no
def slcS(C:Cx T)(s:SS T)(d:Tmp)(t:TypeId)(k:IntKind)(N:Nat)(x:Vector Int N)(lo hi:Option Operand):Out T:=
 match arT C.P t with
 | some (N',_,1)=>bif Nat.beq N N'&&Nat.ble N 1000000 then match bnd? C s lo 0,bnd? C s hi ((N:Nat):Int)with
   |some zl,some zh=> .dem (subI (Ye x) zl zh) (fun l=>some (s.put (some d) (.dt (.sl (.int k)) l)))
   |_,_=> .no
  else .no
 |_=> .no
def isL:SV T→Bool
 | .nl=>true
 | .cs _ t=>isL t
 |_=>false
def nilS:SV T→Bool
 | .ptr _ _=>true
 | .cell _ _=>true
 | .elt _ _ _ _=>true
 | .fn _ _=>true
 |_=>false
def okO(s:SS T)(d:Tmp):Option (SV T)→Out T
 |some v=> .ok (s.put (some d) v)
 |none=> .no
def lenO(P:Program)(s:SS T)(t:TypeId)(v:SV T):Option (SV T):=
 match lenS s v,v with
 |some n,.dt .str _=>bif Qaz P t then some (.dt (.int .i64) n)else none
 |some n,_=>bif Qa2 P t then some (.dt (.int .i64) n)else none
 |none,_=>none
def biS(C:Cx T)(s:SS T)(d:Tmp)(b:Builtin)(xs:List Operand)(ts:List TypeId):Out T:=
 match b,xs,ts with
 | .len, [x], [t]=>match evS C s t x with
  |some v=>okO s d (lenO C.P s t v)
  |none=> .no
 | .max, [x,y],_=>match evS C s 0 x,evS C s 0 y with
  |some (.dt (.int k) m),some (.dt (.int _) n)=> .ok (s.put (some d) (.dt (.int k) (maxI m n)))
  |_,_=> .no
 | .min, [x,y],_=>match evS C s 0 x,evS C s 0 y with
  |some (.dt (.int k) m),some (.dt (.int _) n)=> .ok (s.put (some d) (.dt (.int k) (minI m n)))
  |_,_=> .no
 | .copy, [x,y],t::_=>match evS C s t x,evS C s t y with
  |some u,some v=>cpD C.P s (some d) t u v
  |_,_=> .no
 | .append, [x,y], [t,t']=>bif Nat.beq t t' then match evS C s t x,evS C s t y with
   |some u,some v=>QlZ C.P s (some d) t u v
   |_,_=> .no
  else .no
 |_,_,_=> .no
def cvS(C:Cx T)(s:SS T)(d:Tmp)(t0 t:TypeId)(x:SV T):Out T:=
 match yP C.P t,x with
 |some k,.dt (.int _) m=>bif (C.P.underlying t0).isSome then .ok (s.put (some d) (.dt (.int k) (k.wrap m)))else .no
 | none,x=>bif b2sT C.P t0 t then match Qen s x (.int .u8)with
   |some (l,s)=> .ok (s.put (some d) (.dt .str (bofL l)))
   |none=> .no
  else .no
 |_,_=> .no
def litS(C:Cx T)(s:SS T)(d:Tmp)(t:TypeId)(o:Nat):Out T:=
 match lookA s.L o with
 |some (_,.own (.int .u8) _ xs true)=>bif s2sT C.P t&&Nat.blt 0 (List.length xs)then .ok (SS.put {s with L:=delB o s.L} (some d) (.dt (.sl (.int .u8)) xs))else .no
 |_=> .no
def cvD(C:Cx T)(s:SS T)(d:Tmp)(t0 t:TypeId)(u:Option (SV T)):Out T:=
 match u with
 |some (.own o)=>bif Nat.beq t0 t then litS C s d t o else cvS C s d t0 t (.own o)
 |some u=>cvS C s d t0 t u
 |none=> .no
def QwN(P:Program)(s:SS T)(d:Tmp)(t:TypeId)(x:Option (SV T)):Out T:=
 match x with
 |some (.elt o i off es)=>QwM P s (some d) t o i off es
 |some (.eva b off i n y fo)=>QsS P s (some d) t b off i n y fo
 |some p=>okO s d (QsR P s t p)
 |none=> .no
def prfS(C:Cx T)(s:SS T)(d:Tmp)(t:TypeId)(o:Nat)(hi:Option Operand):Out T:=
 match lookA s.L o,slT' T C.P t with
 | some (_,.own t' e' xs true),some (e,y,_)=>bif Nat.beq (szT T t') (szT T y)&&Nat.beq e e' then match bnd? C s hi ((List.length xs:Nat):Int)with
   |some zh=> .dem (subI xs 0 zh) (fun m=>some ((SS.nw {s with L:=delB o s.L} (.own t' e' m true)).put (some d) (.own s.nx)))
   |none=> .no
  else .no
 |_,_=> .no
def QwO(s:SS T)(o:Nat):Bool:=
 match lookA s.L o with
 |some (_,.own _ _ _ f)=>f
 |_=>false
def sldS(C:Cx T)(s:SS T)(d:Tmp)(t:TypeId)(v:Option (SV T))(lo hi:Option Operand):Out T:=
 match v with
 |some (.ptr b off)=>bif Nat.beq off 0&&cstB lo hi then slkS C s d t b lo hi else slaS C s d t b off lo hi
 |some (.cell (.arr k N) x)=>slcS C s d t k N x lo hi
 |some (.own o)=>bif QwO s o&&lo.isNone then prfS C s d t o hi else Qni C s (some d) t (.own o) lo hi
 |some v=>Qni C s (some d) t v lo hi
 |none=> .no
def Qnj:Operand→Bool
 | .const .nilIface=>true
 |_=>false
def ifT(P:Program)(t:TypeId):Bool:=
 match P.underlying t with
 |some (.interface _)=>true
 |_=>false
def Qvl(P:Program)(t:TypeId)(op:BinOp)(x:Option (SV T))(s:SS T)(d:Tmp):Out T:=
 match op,x with
 | .eql,some (.raw (.iface _ _))=>bif ifT P t then .ok (s.put (some d) (.kb false))else .no
 | .eql,some (.raw .nilIface)=>bif ifT P t then .ok (s.put (some d) (.kb true))else .no
 | .neq,some (.raw (.iface _ _))=>bif ifT P t then .ok (s.put (some d) (.kb true))else .no
 | .neq,some (.raw .nilIface)=>bif ifT P t then .ok (s.put (some d) (.kb false))else .no
 |_,_=> .no
def QdA:SV T→Option (List Value)
 | .nl=>some []
 | .cs (.dt (.int k) e) l=>match QdA l with
  |some cs=>some (.int k e::cs)
  |none=>none
 | .cs (.dt .bool b) l=>match QdA l with
  |some cs=>some (.bool b::cs)
  |none=>none
 | .cs (.kb b) l=>match QdA l with
  |some cs=>some (.bool b::cs)
  |none=>none
 | .cs (.dt .str b) l=>match QdA l with
  |some cs=>some (.string b::cs)
  |none=>none
 |_=>none
def Qou(P:Program)(t:TypeId):Bool:=
 match P.underlying t with
 |some (.interface _)=>false
 |some _=>true
 |none=>false
def miS(P:Program)(s:SS T)(d:Tmp)(t:TypeId)(v:Option (SV T)):Out T:=
 match v with
 | some v=>match Qem v with
  |some l=>match QdA l with
   |some cs=>bif Qou P t then .ok (s.put (some d) (.raw (.iface t (.agg cs.toArray))))else .no
   |none=> .no
  |none=> .no
 |none=> .no
def taS(P:Program)(s:SS T)(d:Tmp)(t:TypeId)(ok:Bool)(x:Option (SV T)):Out T:=
 match x,ok with
 | some (.raw (.iface t' (.agg cs))),true=>bif Qou P t&&Nat.beq t' t then match ofC P 200 t cs.toList with
   |some (v, [])=>bif agS v then .ok (s.put (some d) (.tup (.cs v (.cs (.kb true) .nl))))else .no
   |_=> .no
  else .no
 |_,_=> .no
def lkL(kk:IntKind)(i:Int):List Value→SV T→Option (List (Bool×SV T))
 | [],.nl=>some []
 | .int k n::ks,.cs v vs=>bif sameKind kk k then match lkL kk i ks vs with
   |some l=>some ((decide (i=n),v)::l)
   |none=>none
  else none
 |_,_=>none
def Qvm:Value→Bool
 | .agg _=>true
 |_=>false
def zeroV(P:Program)(t:TypeId):Option (SV T):=
 match(P.info? t).bind (·.zero),(zeroS P t:Option (SV T))with
 |some z,some v=>bif (Qvm z==agS v)then some v else none
 |_,_=>none
def lkV(ok:Bool)(b:Bool)(v:SV T):SV T:=bif ok then .tup (.cs v (.cs (.kb b) .nl))else v
def lkS(P:Program)(s:SS T)(d:Tmp)(t:TypeId)(ok:Bool)(x i:Option (SV T)):Out T:=
 match x,i,P.underlying t with
 | some (.mp ks vs),some (.dt (.int k) i),some (.map kt et)=>match P.underlying kt with
  | some (.int kk)=>bif sameKind kk k then match lkL kk i ks vs,(zeroV P et:Option (SV T))with
    |some l,some z=> .sw (l.map fun e=>(e.1,lkV ok true e.2)) (lkV ok false z) (fun v=>s.put (some d) v)
    |_,_=> .no
   else .no
  |_=> .no
 |_,_,_=> .no
def binD(C:Cx T)(s:SS T)(d:Tmp)(op:BinOp)(t:TypeId)(x y:Operand)(t':TypeId):Out T:=
 match evS C s t x,evS C s t' y with
 |some u,some v=>binS C.P t op u v s (some d)
 |_,_=> .no
def sopD(C:Cx T)(s:SS T)(d:Tmp)(ty:TypeId):Op→Out T
 | .move x| .assign x=>okO s d (evS C s ty x)
 | .pick c x y=>match evS C s 0 c with
  |some (.kb true)=>okO s d (evS C s ty x)
  |some (.kb false)=>okO s d (evS C s ty y)
  |_=> .no
 | .binOp op t x y t'=>bif Qnj y then Qvl C.P t op (evS C s t x) s d else binD C s d op t x y t'
 | .unOp op t x=>match evS C s t x with
  |some u=>okO s d (unS op u)
  |none=> .no
 | .convert t0 t x=>cvD C s d t0 t (evS C s t0 x)
 | .extract x i=>match evS C s 0 x with
  |some (.tup l)=>okO s d (nthL l i)
  |_=> .no
 | .makeInterface t x=>miS C.P s d t (evS C s t x)
 | .typeAssert x _ t ok=>taS C.P s d t ok (evS C s 0 x)
 | .lookup t x i ok=>lkS C.P s d t ok (evS C s t x) (evS C s 0 i)
 | .makeFunc (.func f) fs cs=>match fs.toList,evL C s cs.toList []with
  | [],some l=>bif Nat.ble 1000000000 f then .no else .ok (s.put (some d) (.fn f l))
  |x::xs,some .nl=>match evL C s (x::xs) []with
   |some l=> .ok (s.put (some d) (.fn (f+1000000000) l))
   |none=> .no
  |_,_=> .no
 | .nilCheck x=>match evS C s 0 x with
  |some v=>bif nilS v then .ok (s.put (some d) v)else .no
  |none=> .no
 | .box t x=>match evS C s t x with
  |some v=>bif okSt v then .ok ((s.nw (.var t v)).put (some d) (.ptr s.nx 0))else .no
  |none=> .no
 | .alloc t=>match zeroS C.P t with
  |some v=> .ok ((s.nw (.var t v)).put (some d) (.ptr s.nx 0))
  |none=> .no
 | .load t x=>QwN C.P s d t (evS C s 0 x)
 | .fieldAddr t x m=>match evS C s 0 x with
  |some p=>okO s d (fadS C.P t m p)
  |none=> .no
 | .field t x m=>match evS C s t x with
  |some v=>okO s d (fldS C.P t m v)
  |none=> .no
 | .indexAddr t x i=>match evS C s 0 x,evS C s 0 i with
  |some u,some v=>Qut C.P s (some d) t u v
  |_,_=> .no
 | .buildSlice t n ps=>bslS C s d t n ps.toList
 | .build t ps=>okO s d (Quu C s t ps.toList)
 | .slice t x lo hi none=>sldS C s d t (evS C s t x) lo hi
 | .slice t x none (some hi) (some mx)=>sl3S C s d t (evS C s t x) hi mx
 | .makeSlice t x y=>mkS C s d t x y
 | .sliceToArrayPointer t x=>s2aS C s d t (evS C s 0 x)
 | .index t x i=>match evS C s t x,evS C s 0 i with
  |some u,some (.dt (.int _) m)=>ixS C.P s d t u m
  |_,_=> .no
 | .call {callee:= .builtin b,args:=args,argTypes:=ts}=>biS C s d b args.toList ts.toList
 | .call {callee:= .value f,args:=args,argTypes:=ts}=>match evS C s 0 f,evL C s args.toList ts.toList with
  |some (.fn f cs),some l=>bif Nat.ble 1000000000 f then(bif isL cs then Qos (f-1000000000) s (some d) (appL cs l) C.sp else .no)else match lookA C.mps f with
   |some g=>okO s d (g (appL l cs))
   |none=>match QsQ f s (some d) (appL l cs) C.rv with
   |some ou=>ou
   |none=>Qos f s (some d) (appL l cs) C.sp
  |some (.raw .nilFunc),_=> .non
  |_,_=> .no
 |_=> .no
def sop(C:Cx T)(s:SS T)(o:Oper):Out T:=
 match o.op with
 | .panic _=> .non
 | .store t x v=>match o.dst,evS C s 0 x,evS C s t v with
  |none,some (.eva b off i n y fo),some u=>Qp1 C.P s t b off i n y fo u
  |none,some p,some u=>Qp0 C.P s t p u
  |_,_,_=> .no
 |op=>match o.dst with
  |some d=>sopD C s d o.type op
  |none=> .no
inductive Gd where
 |run|skip|no
 |split (t:Nat) (b:Bool) (w:Bool)
def Qnk(ops:Array Oper)(E:List (Nat×SV T))(o:Oper):Gd:=
 match o.guard with
 |none=> .run
 | some (j,want)=>match(ops[j]?).bind (·.dst)with
  |none=> .no
  |some t=>match lookA E t with
   |some (.kb b)=>bif b==want then .run else .skip
   |some (.dt .bool b)=> .split t b want
   |some (.raw (.tuple _))=> .skip
   |_=> .no
def SS.know(s:SS T)(t:Nat)(b:Bool):SS T:=s.put (some t) (.kb b)
def QwP(C:Cx T)(s:SS T):Op→Option (Nat×Bool)
 | .pick (.tmp t) _ _=>match lookA s.E t with
  |some (.dt .bool b)=>some (t,b)
  |_=>none
 |_=>none
def exO{R:Type}(C:Cx T)(o:Oper)(s:SS T)(k:SS T→Option R):Option R:=
 match QwP C s o.op with
 |some (t,b)=>bif b then(sop C (s.know t true) o).run k else(sop C (s.know t false) o).run k
 |none=>(sop C s o).run k
def panS(C:Cx T)(s:SS T)(o:Oper):Option (POut T):=
 match o.dst,o.op with
 |some d,.call {callee:= .value f,args:=args,argTypes:=ts}=>match evS C s 0 f,evL C s args.toList ts.toList with
  |some (.fn f cs),some l=>bif Nat.ble 1000000000 f then none else tryP f s (some d) (appL l cs) C.sp
  |_,_=>none
 | none,.panic x=>match evS C s 0 x with
  |some (.raw (.iface t (.agg cs)))=>match cs.toList with
   | []=>some ⟨Unit,some (.inl 0),(t,false),s,fun _=>none⟩
   | [.int .i64 e]=>some ⟨Unit,some (.inl e),(t,true),s,fun _=>none⟩
   |_=>none
  |_=>none
 |_,_=>none
def yldS(C:Cx T)(s:SS T)(o:Oper):Option (Tmp×Nat×SV T):=
 match o.dst,o.op with
 |some d,.call {callee:= .value f,args:=args,argTypes:=ts}=>match evS C s 0 f,evL C s args.toList ts.toList with
  |some (.yld id),some l=>some (d,id,l)
  |_,_=>none
 |_,_=>none
def exP{R:Type}(C:Cx T)(o:Oper)(s:SS T)(kp:TypeId×Bool→Int→SS T→Option R)(k:SS T→Option R):Option R:=
 match C.Y,yldS C s o with
 |some Y,some (d,id,l)=>Y R id l s fun b s'=>k (s'.put (some d) (.kb b))
 |_,_=>match panS C s o with
  |some q=>q.run kp k
  |none=>exO C o s k
def opsS{R:Type}(C:Cx T)(ops:Array Oper)(kp:TypeId×Bool→Int→SS T→Option R)(k:SS T→Option R):Nat→Nat→SS T→Option R
 |0,_,s=>k s
 | m +1,i,s=>match ops[i]? with
  |none=>none
  | some o=>bif JI C.n o.dst then match Qnk ops s.E o with
   | .run=>exP C o s kp (opsS C ops kp k m (i+1))
   | .skip=>opsS C ops kp k m (i+1) (s.put o.dst (.raw undef))
   | .split t b w=>bif b then
     (bif w then exP C o (s.know t true) kp (opsS C ops kp k m (i+1))else opsS C ops kp k m (i+1) ((s.know t true).put o.dst (.raw undef)))
    else(bif w then opsS C ops kp k m (i+1) ((s.know t false).put o.dst (.raw undef))else exP C o (s.know t false) kp (opsS C ops kp k m (i+1)))
   | .no=>none
   else none
def exD{R:Type}(C:Cx T)(ops:Array Oper)(o:Oper)(s:SS T)(k:SS T→Option R):Option R:=
 match Qnk ops s.E o with
 | .run=>exO C o s k
 | .skip=>k (s.put o.dst (.raw undef))
 | .split t b w=>bif b then
   (bif w then exO C o (s.know t true) k else k ((s.know t true).put o.dst (.raw undef)))
  else(bif w then k ((s.know t false).put o.dst (.raw undef))else exO C o (s.know t false) k)
 | .no=>none
structure Rc(T:Tb) where
 i:Nat
 o:Oper
 dm:Nat
 kd:Nat
 n:Nat
 n':Nat
 r:SS T
 r':SS T
 sv:SV T
 ow:Bool
 lt:Bool
def rcAt:List (Rc T)→Nat→Option (Rc T)
 | [],_=>none
 |rc::l,i=>bif Nat.beq rc.i i then some rc else rcAt l i
def Qgl(l:List (Rc T)):List Edge→Option Nat
 | []=>some 0
 | e::es=>bif Region.binds .any e then match rcAt l e.on,Qgl l es with
   |some rc,some m=>some ((rc.dm|||2^rc.i)|||m)
   |_,_=>none
  else Qgl l es
def preO(dm:Nat):List (Rc T)→List (Nat×SV T)
 | []=> []
 | rc::l=>bif dm.testBit rc.i then match rc.o.dst with
   |some d=>(d,rc.sv)::preO dm l
   |none=>preO dm l
  else preO dm l
def visO(dm:Nat):Nat→Bool
 |0=>true
 |k+1=>dm.testBit k
def visP(dm:Nat):Nat→Bool
 |0=>false
 |k+1=>dm.testBit k
def QhK(rc:Rc T):List (Nat×Nat×SB T):=rc.r'.L.filter fun e=>Nat.ble rc.n e.2.1
def tag(k:Nat)(L:List (Nat×Nat×SB T)):List (Nat×Nat×Nat×SB T):=L.map fun e=>(k,e)
def QhL(rc:Rc T)(X:List (Nat×Nat×Nat×SB T)):List (Nat×Nat×Nat×SB T):=
 match rc.kd with
 |3=>tag 0 rc.r'.L++X.filter fun e=> !visO rc.dm e.1
 |2=>tag (rc.i+1) (QhK rc)++X
 |4=>X.filter fun e=> !visP rc.dm e.1
 |_=>X
def lmL(L0:List (Nat×Nat×SB T))(M:Nat→Bool):List (Rc T)→List (Nat×Nat×Nat×SB T)
 | []=>tag 0 L0
 |rc::l=>bif M rc.i then QhL rc (lmL L0 M l)else lmL L0 M l
structure Dc(T:Tb) where
 E0:List (Nat×SV T)
 L0:List (Nat×Nat×SB T)
 pr:List (Nat×Nat×SB T)
 n0:Nat
 nb:Nat
 md:Md T
def visL(dm:Nat)(X:List (Nat×Nat×Nat×SB T)):List (Nat×Nat×SB T):=(X.filter fun e=>visO dm e.1).map (·.2)
def Qvn(dm:Nat)(X:List (Nat×Nat×Nat×SB T)):List (Nat×Nat×SB T):=(X.filter fun e=>visP dm e.1).map (·.2)
def rsO(c:Dc T)(l:List (Rc T))(dm kd n:Nat):SS T:=
 match kd with
 |3=>{E:=preO dm l++c.E0,L:=visL dm (lmL c.L0 (fun _=>true) l),nx:=n,md:=⟨0, []⟩ }
 |2=>{E:=preO dm l++c.E0,L:=c.pr,nx:=n,md:=⟨0, []⟩ }
 |1=>{E:=preO dm l++c.E0,L:=visL dm (lmL c.L0 (fun _=>true) l),nx:=c.nb,md:=⟨0, []⟩ }
 |4=>{E:=preO dm l++c.E0,L:=Qvn dm (lmL c.L0 (fun _=>true) l),nx:=c.nb,md:=⟨0, []⟩ }
 |_=>{E:=preO dm l++c.E0,L:=c.pr,nx:=c.nb,md:=⟨0, []⟩ }
def ordO(kd dm:Nat)(l:List (Rc T)):Bool:=
 match kd with
 |3=>l.all fun rc=>(match rc.kd with|3=>dm.testBit rc.i|1=>dm.testBit rc.i|4=>dm.testBit rc.i||Nat.beq (dm&&&rc.dm) 0|_=>true)
 |1=>l.all fun rc=>(match rc.kd with|3=>dm.testBit rc.i|4=>dm.testBit rc.i||Nat.beq (dm&&&rc.dm) 0|_=>true)
 |4=>l.all fun rc=>(match rc.kd with|3=>dm.testBit rc.i||Nat.beq (dm&&&rc.dm) 0|1=>dm.testBit rc.i||Nat.beq (dm&&&rc.dm) 0|4=>dm.testBit rc.i||Nat.beq (dm&&&rc.dm) 0|_=>true)
 |_=>true
def frsO(i:Nat)(d:Option Nat)(l:List (Rc T)):Bool:=l.all fun rc=> !Nat.beq rc.i i&&(match d,rc.o.dst with|some x,some y=> !Nat.beq x y|_,_=>true)
def idB(n:Nat):SV T→Bool
 | .ptr b _=>Nat.blt b n
 | .own o=>Nat.blt o n
 | .ela b _ _ _ _=>Nat.blt b n
 | .eva b _ _ _ _ _=>Nat.blt b n
 | .sla b _ _ _=>Nat.blt b n
 | .yld i=>Nat.blt i n
 | .mp _ l=>idB n l
 | .elt o _ _ _=>Nat.blt o n
 | .agg l=>idB n l
 | .tup l=>idB n l
 | .fn _ l=>idB n l
 | .cs h t=>idB n h&&idB n t
 |_=>true
def idBB(n:Nat):SB T→Bool
 | .var _ v=>idB n v
 |_=>true
def idsO(l:List (Rc T))(dm kd n:Nat)(L:List (Nat×Nat×SB T)):Bool:=
 match kd with
 |3=>(preO dm l).all (fun e=>idB n e.2)&&L.all fun e=>Nat.blt e.1 n&&(Nat.blt e.2.1 n&&idBB n e.2.2)
 |2=>(preO dm l).all (fun e=>idB n e.2)&&L.all fun e=>Nat.blt e.1 n&&(Nat.blt e.2.1 n&&idBB n e.2.2)
 |_=>true
def hasA{α:Type}(L:List (Nat×α))(i:Nat):Bool:=(lookA L i).isSome
def isQ:Nat→Bool
 |3=>false
 |1=>false
 |4=>false
 |_=>true
def owO(c:Dc T):Option Nat→Bool
 |some d=>hasA c.E0 d
 |none=>false
def barO(ow:Bool)(dm:Nat)(l:List (Rc T)):Bool:=l.all fun rc=>(!ow||dm.testBit rc.i)&&(!rc.ow||dm.testBit rc.i)
def ltO(dm:Nat)(l:List (Rc T))(ord:List (Nat×Nat×Bool)):Bool:=(l.all fun rc=> !isQ rc.kd||dm.testBit rc.i)&&ord.all fun x=> !isQ x.2.1
def okO'(c:Dc T)(kd n:Nat)(d:Option Nat)(lt:Bool)(r r':SS T):Bool:=
 (match d with|some d=>hasA r'.E d|none=>true)&&(r'.L.all (fun e=>Nat.ble r.nx e.1||hasA r.L e.1)&&(match kd with
 |3=>Nat.ble n r'.nx&&(lt||c.pr.all fun e=>match lookA r'.L e.1 with|some (v,_)=>Nat.blt v c.n0|none=>false)
 |2=>Nat.ble n r'.nx&&r.L.all fun e=>match lookA r'.L e.1 with|some (v,_)=>Nat.blt v n|none=>false
 |4=>Nat.beq r'.nx c.nb&&(r'.L.isEmpty&&r.L.all fun e=>Nat.ble c.n0 e.2.1)
 |_=>Nat.beq r'.nx c.nb&&r.L.all fun e=>hasA r'.L e.1))
def nwO(kd n:Nat)(r':SS T):Nat:=
 match kd with
 |3=>r'.nx
 |2=>r'.nx
 |_=>n
def allO(l:List (Rc T)):Nat→Bool
 |0=>true
 |n+1=>(rcAt l n).isSome&&allO l n
def valO(d:Option Nat)(r':SS T):SV T:=
 match d with
 |some d=>match lookA r'.E d with
  |some v=>v
  |none=> .nl
 |none=> .nl
def spO{R:Type}(sp:Bool)(v:SV T)(k:SV T→Option R):Option R:=
 match sp,v with
 |true,.dt .bool b=>bif b then k (.kb true)else k (.kb false)
 |_,v=>k v
def Qov(ops:Array Oper):List Nat→List (Nat×Nat×Bool)→Bool
 |_, []=>true
 |S,(j,_,_)::ord=>(match ops[j]? with
  |some o=>o.after.toList.any fun e=>Region.binds .any e&&S.contains e.on
  |none=>false)&&Qov ops (j::S) ord
def covO(l:List (Rc T))(i:Nat)(ord:List (Nat×Nat×Bool)):Nat→Bool
 |0=>true
 |n+1=>((rcAt l n).isSome||(Nat.beq n i||ord.any fun x=>Nat.beq x.1 n))&&covO l i ord n
def panD(C:Cx T)(o:Oper)(kd:Nat)(r:SS T):Option (POut T):=
 match o.guard,kd with
 |none,3=>panS C r o
 |_,_=>none
def Qow(c:Dc T)(q:POut T):List (Nat×Nat×SB T):=c.L0.filter fun e=>match lookA q.s.L e.1 with
 |some (v,_)=>Nat.beq v e.2.1
 |none=>false
def panK(r:SS T)(q:POut T)(nb:Nat):Bool:=Nat.ble q.s.nx nb&&q.s.L.all fun e=>Nat.ble r.nx e.1||hasA r.L e.1
def QhM{R:Type}(C:Cx T)(ops:Array Oper)(m:Nat)(c:Dc T)(kp:TypeId×Bool→Int→List (Nat×Nat×SB T)→Option R)(k:List (Rc T)→Nat→Option R):List (Nat×Nat×Bool)→List (Rc T)→Nat→Option R
 | [],l,n=>bif allO l m&&Nat.ble n c.nb then k l n else none
 | (i, kd,sp)::ord,l,n=>match ops[i]? with
  |none=>none
  | some o=>match Qgl l o.after.toList with
   |none=>none
   | some dm=>
    let r:=rsO c l dm kd n
    bif JI C.n o.dst&&(frsO i o.dst l&&(barO (owO c o.dst) dm l&&(ordO kd dm l&&idsO l dm kd n r.L)))then
     match panD C o kd r with
     | some q=>bif Nat.blt i m&&(Qov ops [i] ord&&(covO l i ord m&&(Nat.ble n c.nb&&panK r q c.nb)))then sm q.x (fun e=>kp q.v e (Qow c q)) (fun y=>match q.f y with
       |some r'=>bif okO' c kd n o.dst (ltO dm l ord) r r' then spO sp (valO o.dst r') fun v=>QhM C ops m c kp k ord (⟨i,o,dm,kd,n,nwO kd n r',r,r',v,owO c o.dst,ltO dm l ord⟩::l) (nwO kd n r')else none
       |none=>none)else none
     |none=>exD C ops o r fun r'=>bif okO' c kd n o.dst (ltO dm l ord) r r' then spO sp (valO o.dst r') fun v=>QhM C ops m c kp k ord (⟨i,o,dm,kd,n,nwO kd n r',r,r',v,owO c o.dst,ltO dm l ord⟩::l) (nwO kd n r')else none
    else none
def preA:List (Rc T)→List (Nat×SV T)
 | []=> []
 |rc::l=>match rc.o.dst with
  |some d=>(d,rc.sv)::preA l
  |none=>preA l
def Qox(l:List (Rc T))(m:Nat)(o:Oper):Bool:=
 match o.guard with
 |none=>match Qgl l o.after.toList with
  |some dm=>l.all fun rc=>dm.testBit rc.i&& !Nat.beq rc.i m
  |none=>false
 |some _=>false
def endD(E:List (Nat×SV T))(md:Md T)(L0:List (Nat×Nat×SB T))(l:List (Rc T))(n:Nat):SS T:={E:=preA l++E,L:=(lmL L0 (fun _=>true) l).map (·.2),nx:=n,md:=md}
structure Pj where
 tm:List (Nat×Pt)
 bl:List (Nat×Pt)
 ty:List Ty
 pre:List Nat:= []
 pt:List Nat:= []
 dr:List Nat:= []
inductive Hn where
 |n
 |s (a b:Hn)
 |j (q:Pj) (a b:Hn)
 |l (q:Pj) (z:Option Pj) (r:Bool) (b:Hn)
 |r (ord:List (Nat×Nat×Bool)) (fz pr:List Nat)
 |g (hi ha hb:Hn)
 |q (ord:List (Nat×Nat×Bool)) (fz pr:List Nat)
def wrM:Code→Nat
 | .region _ ops _=>ops.toList.foldl (fun m o=>match o.dst with|some d=>m|||2^d|none=>m) 0
 | .seq a b=>wrM a|||wrM b
 | .cond _ a b=>wrM a|||wrM b
 | .block _ b=>wrM b
 | .loop b=>wrM b
 |_=>0
def Ql0(m:Nat)(E:List (Nat×SV T)):List (Nat×SV T):=E.filter fun e=> !m.testBit e.1
def Qoy:List Nat→SS T→Option (SS T)
 | [],s=>some s
 |o::os,s=>match lookA s.L o with
  |some (_,.own y e xs true)=>Qoy os (s.wr o (.own y e xs false))
  |some (_,.own _ _ _ false)=>Qoy os s
  |_=>none
def QiQ:SV T→List Nat
 | .own o=> [o]
 | .agg l=>QiQ l
 | .cs h t=>QiQ h++QiQ t
 | .fn _ l=>QiQ l
 |_=> []
def lendT(s:SS T)(t:Nat):Option (List Nat):=
 match lookA s.E t with
 |some (.own o)=>some [o]
 |some (.ptr i _)=>match lookA s.L i with
  |some (_,.var _ v)=>some (QiQ v)
  |_=>none
 |_=>none
def Ql1:List Nat→SS T→Option (SS T)
 | [],s=>some s
 | t::ts,s=>match lendT s t with
  |some os=>match Qoy os s with
   |some s=>Ql1 ts s
   |none=>none
  |none=>none
def QbV:SV T→List Nat
 | .ptr b _=> [b]
 | .agg l=>QbV l
 | .tup l=>QbV l
 | .fn _ l=>QbV l
 | .cs h t=>QbV h++QbV t
 |_=> []
def nthN:List Nat→Nat→Option Nat
 | [],_=>none
 |x::_,0=>some x
 |_::l,n+1=>nthN l n
def blk1(s:SS T)(t:Nat):Option Nat:=
 bif Nat.blt t 1000000 then match lookA s.E t with
  |some (.ptr i _)=>some i
  |_=>none
 else match lookA s.E (t%1000000)with
  |some v=>nthN (QbV v) (t/1000000-1)
  |none=>none
def Qkt(s:SS T)(t:Nat):Option Nat:=
 bif Nat.ble 1000000000000 t then match lookA s.md.O ((t-1000000000000)%1000000)with
  |some v=>nthN (QbV v) ((t-1000000000000)/1000000)
  |none=>none
 else bif Nat.blt t 1000000000 then blk1 s t else match blk1 s (t%1000000000)with
  |some i=>match lookA s.L i with
   |some (_,.var _ v)=>nthN (QbV v) (t/1000000000-1)
   |_=>none
  |none=>none
def QwQ(s:SS T):List (Nat×Pt)→List Nat
 | []=> []
 |(t,_)::l=>(match lookA s.E t with|some v=>QiQ v|none=> [])++QwQ s l
def QwR(s:SS T):List (Nat×Pt)→List Nat
 | []=> []
 | (t,_)::l=>(match Qkt s t with
  |some i=>match lookA s.L i with
   |some (_,.var _ v)=>QiQ v
   |_=> []
  |none=> [])++QwR s l
def matT:List (Nat×Pt)→Mt T→Option (Mt T)
 | [],m=>some m
 | (t,p)::l,m=>match lookA m.s.E t with
  |some v=>match mat p v m with
   |some m=>matT l m
   |none=>none
  |none=>none
def matC(s0:SS T):List (Nat×Pt)→Mt T→Option (Mt T×List (Nat×Nat))
 | [],m=>some (m, [])
 | (t,p)::l,m=>match Qkt s0 t with
  | some i=>match lookA m.s.L i,lookA s0.L i with
   | some (ver,.var t1 v),some (_,.var t2 _)=>bif Nat.beq t1 t2 then match mat p v m with
    |some m=>match matC s0 l m with
     |some (m,bw)=>some (m,(i,ver)::bw)
     |none=>none
    |none=>none
    else none
   |_,_=>none
  |none=>none
def ZY(m:Nat):Nat→List (Nat×SV T)→Bool
 |0,_=>true
 |n+1,(t,_)::E=>m.testBit t&&ZY m n E
 |_, []=>false
def Quv(s:SS T):List (Nat×Pt)→List Nat
 | []=> []
 |(t,_)::l=>(match Qkt s t with|some i=> [i]|none=> [])++Quv s l
def tmIn(m:Nat):List (Nat×Pt)→Bool
 | []=>true
 |(t,_)::l=>m.testBit t&&tmIn m l
def QwS(s:SS T):List Nat→List Nat
 | []=> []
 | t::l=>(match lookA s.E t with
  |some (.ptr i _)=>i::(match lookA s.L i with
   |some (_,.var _ v)=>QiQ v
   |_=> [])
  |some v=>QiQ v
  |none=> [])++QwS s l
def Qgm(q:Pj)(s0:SS T):List (Nat×Nat×SB T):=Qvk (QwQ s0 q.tm++(QwR s0 q.bl++(Quv s0 q.bl++QwS s0 q.dr))) s0.L
def ptBd(s0:SS T):List Nat→List (Nat×Nat)
 | []=> []
 |t::l=>match Qkt s0 t with
  |some i=>(t,i)::ptBd s0 l
  |none=>ptBd s0 l
def absJ(q:Pj)(s0 s:SS T):Option (TU T.ty q.ty):=
 match matT q.tm ⟨s, [],ptBd s0 q.pt, []⟩with
 | some m=>match matC s0 q.bl m with
  | some (m,bw)=>match takeB m.ow.reverse m.s.L with
   |some L1=>match Qgk (bw++(Qgm q s0).map (fun e=>(e.1,e.2.1))) L1 with
    |some _=>bif Nat.beq m.s.md.m s0.md.m then toU q.ty m.dy.reverse else none
    |none=>none
   |none=>none
  |none=>none
 |none=>none
def Qp2(bd:List (Nat×Nat)):List (Nat×Pt)→Im T→Option (List (Nat×SV T)×Im T)
 | [],m=>some ([],m)
 | (t,p)::l,m=>match inst bd p m with
  |some (v,m)=>match Qp2 bd l m with
   |some (E,m)=>some ((t,v)::E,m)
   |none=>none
  |none=>none
def Qku(s0:SS T)(bd:List (Nat×Nat)):List (Nat×Pt)→Im T→Option (List (Nat×Nat×SB T)×Im T)
 | [],m=>some ([],m)
 | (t,p)::l,m=>match Qkt s0 t with
  | some i=>match lookA s0.L i with
   | some (_,.var tid _)=>match inst bd p m with
    |some (v,m)=>match Qku s0 bd l m with
     |some (N,m)=>some ((i,s0.nx,.var tid v)::N,m)
     |none=>none
    |none=>none
   |_=>none
  |none=>none
def filE(m:Nat):List (Nat×SV T)→List (Nat×SV T)
 | []=> []
 |(t,v)::E=>bif m.testBit t then filE m E else(t,v)::filE m E
def Qdg(q:Pj)(mask:Nat)(s0:SS T)(y:TU T.ty q.ty):Option (SS T):=
 bif tmIn mask q.tm then match Qp2 (ptBd s0 q.pt) q.tm ⟨ofU q.ty y,s0.nx, []⟩with
  |some (E,m)=>match Qku s0 (ptBd s0 q.pt) q.bl m with
   |some (N,m)=>some {E:=E++filE mask s0.E,L:=N++(m.L++Qgm q s0),nx:=m.nx+1,md:=s0.md}
   |none=>none
  |none=>none
 else none
inductive Ke where
 |nm|rt
 |ex (i:Nat)
 |pn (x:TypeId×Bool) (e:Int)
def oE{α R:Type}(x:Option α)(k:α→Option R):Option R:=
 match x with
 |some y=>k y
 |none=>none
def Jj{Y S:Type}(F:(Y→Option S)→Y→Option S):Nat→Y→Option S
 |0,_=>none
 |k+1,y=>F (Jj F k) y
def Hn.a:Hn→Hn
 | .s a _=>a
 | .j _ a _=>a
 | .l _ _ _ b=>b
 |_=> .n
def Hn.b:Hn→Hn
 | .s _ b=>b
 | .j _ _ b=>b
 |_=> .n
def tmM:List (Nat×Pt)→Nat
 | []=>0
 |(t,_)::l=>2^t|||tmM l
def tsM:List Nat→Nat
 | []=>0
 |t::l=>2^t|||tsM l
def fzS(P:Program):List Nat→SS T→Option (SS T)
 | [],s=>some s
 | t ::ts,s=>match lookA s.E t with
  | some (.ptr b 0)=>match lookA s.L b with
   | some (_,.var tid c)=>match tyOf T P 20 tid with
    | some y=>match frz 60 s c y with
     |some (z,s1)=>match lookA s1.L b with
      |some (_,.var _ _)=>fzS P ts {E:=(t,.cell y z)::s.E,L:=delB b s1.L,nx:=s1.nx,md:=s1.md}
      |_=>none
     |none=>none
    |none=>none
   |_=>none
  |_=>none
def hM:Hn→Nat
 | .r _ fz _=>tsM fz
 | .q _ fz _=>tsM fz
 | .s a b=>hM a|||hM b
 | .j q a b=>tmM q.tm|||(hM a|||hM b)
 | .l q z _ b=>tmM q.tm|||((match z with|some z=>tmM z.tm|none=>0)|||hM b)
 |_=>0
def mJ(q:Pj)(c:Code)(h:Hn):Nat:=wrM c|||(tmM q.tm|||hM h)
def mL(q:Pj)(z:Option Pj)(c:Code)(h:Hn):Nat:=wrM c|||(tmM q.tm|||((match z with|some z=>tmM z.tm|none=>0)|||hM h))
def Qfp:Nat→SV T→List (Nat×SV T)
 |i,.cs v l=>(i,v)::Qfp (i+1) l
 |_,_=> []
def zipS:List Tmp→SV T→List (Nat×SV T)→Option (List (Nat×SV T))
 | [],.nl,E=>some E
 |t::ts,.cs v vs,E=>zipS ts vs ((t,v)::E)
 |_,_,_=>none
def lenL:SV T→Nat
 | .cs _ t=>lenL t+1
 |_=>0
def keM:Ke→Option Nat
 | .nm=>some 0
 | .rt=>some 1
 | .ex i=>some (i+2)
 | .pn _ _=>none
def mKe:Nat→Ke
 |0=> .nm
 |1=> .rt
 |i+2=> .ex i
def itF(P:Program)(f:FuncId)(n:Nat):Option (Func×Code):=
 match P.funcs[f]? with
 |some F=>match F.body,F.results.toList with
  |some c, []=>bif !(F.name== "runtime.NumGoroutine")&&Nat.ble n F.ntmps then some (F,c)else none
  |_,_=>none
 |none=>none
abbrev SubT(T:Tb):=(R:Type)→Cx T→Code→Hn→SS T→(Ke→SS T→Option R)→Option R
def sxF (sb:SubT T){R:Type}(C:Cx T):Code→Hn→SS T→(Ke→SS T→Option R)→Option R
 | .skip,_,s,k=>k .nm s
 | .ret,_,s,k=>k .rt s
 | .exit i,_,s,k=>k (.ex i) s
 | .seq a b,.j q ha hb,s,k=>oE (Ql1 q.pre s) fun s=>
   jn (fun y=>oE (Qdg q (mJ q a ha) s y) fun s'=>sxF sb C b hb s' k)
    (fun j=>sxF sb C a ha s fun e s'=>match e with
     | .nm=>oE (absJ q s s') j
     |e=>k e s')
 | .seq a b,h,s,k=>sxF sb C a h.a s fun e s'=>match e with
   | .nm=>sxF sb C b h.b s' k
   |e=>k e s'
 | .cond c a b,h,s,k=>match evS C s 0 c with
  |some (.kb true)=>sxF sb C a h.a s k
  |some (.kb false)=>sxF sb C b h.b s k
  |some (.dt .bool e)=>match c with
   | .tmp t=>bif e then sxF sb C a h.a (s.know t true) k else sxF sb C b h.b (s.know t false) k
   |_=>none
  |_=>none
 | .block i (.loop b),.l q z r hb,s,k=>oE (Ql1 q.pre s) fun s=>oE (absJ q s s) fun y0=>
   match z,r with
   | some z,false=>(Jj (fun rec y=>oE (Qdg q (mL q (some z) b hb) s y) fun s1=>sxF sb C b hb s1 fun e s'=>match e with
     | .nm=>oE (absJ q s s') rec
     | .ex j=>bif Nat.beq i j then oE (absJ z s s') some else none
     |_=>none) C.K y0).bind fun(y:TU T.ty z.ty)=>oE (Qdg z (mL q (some z) b hb) s y) fun s'=>k .nm s'
   | some z,true=>(Jj (fun rec y=>oE (Qdg q (mL q (some z) b hb) s y) fun s1=>sxF sb C b hb s1 fun e s'=>match e with
     | .nm=>oE (absJ q s s') rec
     | .ex j=>bif Nat.beq i j then oE (absJ z s s') (fun y=>some (Sum.inr y))else none
     |e=>oE (k e s') (fun y=>some (Sum.inl y))) C.K y0).bind fun(y:Sum R (TU T.ty z.ty))=>match y with
     | .inl y=>some y
     | .inr y=>oE (Qdg z (mL q (some z) b hb) s y) fun s'=>k .nm s'
   | none,_=>(Jj (fun rec y=>oE (Qdg q (mL q none b hb) s y) fun s1=>sxF sb C b hb s1 fun e s'=>match e with
     | .nm=>oE (absJ q s s') rec
     | .ex _=>none
     |e=>k e s') C.K y0).bind some
 | .block i b,h,s,k=>sxF sb C b h s fun e s'=>match e with
   | .ex j=>bif Nat.beq i j then k .nm s' else k (.ex j) s'
   |e=>k e s'
 | .region i ops true,.r ord fz pr,s,k=>bif C.P.follows .mixedOrders then oE (fzS C.P fz s) fun s=>
   QhM C ops ops.size ⟨s.E,s.L,s.L.filter (fun e=>(ptBd s pr).any fun p=>Nat.beq p.2 e.1),s.nx,s.nx+1000000,s.md⟩ (fun x e K=>k (.pn x e) {E:=Ql0 (wrM (.region i ops true)) s.E,L:=K,nx:=s.nx+1000000,md:=s.md})
    (fun l n=>bif (preA l).all (fun e=>(wrM (.region i ops true)).testBit e.1)then k .nm (endD s.E s.md s.L l n)else none) ord [] s.nx
  else none
 | .region i ops true,.q ord fz pr,s,k=>bif C.P.follows .mixedOrders then oE (fzS C.P fz s) fun s=>
   match ops[ops.size-1]? with
   |none=>none
   | some o=>QhM C ops (ops.size-1) ⟨s.E,s.L,s.L.filter (fun e=>(ptBd s pr).any fun p=>Nat.beq p.2 e.1),s.nx,s.nx+1000000,s.md⟩ (fun _ _ _=>none)
     (fun l n=>bif JI C.n o.dst&&(Qox l (ops.size-1) o&&(preA l).all (fun e=>(wrM (.region i ops true)).testBit e.1))then
       exP C o (endD s.E s.md s.L l n) (fun x e s'=>bif ZY (wrM (.region i ops true)) (s'.E.length-(endD s.E s.md s.L l n).E.length) s'.E then k (.pn x e) s' else none)
        (fun s'=>bif ZY (wrM (.region i ops true)) (s'.E.length-(endD s.E s.md s.L l n).E.length) s'.E then k .nm s' else none)
      else none) ord [] s.nx
  else none
 | .region i ops false,_,s,k=>opsS C ops (fun x e s'=>bif ZY (wrM (.region i ops false)) (s'.E.length-s.E.length) s'.E then k (.pn x e) s' else none) (fun s'=>bif ZY (wrM (.region i ops false)) (s'.E.length-s.E.length) s'.E then k .nm s' else none) ops.size 0 s
 | .rangeFunc gop ps as bd,.g hi ha hb,s,k=>bif C.rg&&ps.toList.all (fun t=>Nat.blt t C.n)then match evS C s 0 gop with
   |some (.fn f cap)=>bif Nat.ble 1000000000 f|| !isL cap then none else match itF C.P f (lenL cap+1)with
    | some (F,c)=>sb R {C with n:=F.ntmps,rg:=false,Y:=some fun R' id args s1 kk=>match s1.md.m,(bif Nat.beq id s.nx then zipS ps.toList args s.E else none)with
      | 0,some E0=>sxF sb {C with rg:=false,Y:=none} as ha {E:=E0,L:=s1.L,nx:=s1.nx,md:=s.md} fun e s2=>match e with
       | .nm=>sxF sb {C with rg:=false,Y:=none} bd hb s2 fun e s3=>match keM e with
        |some 0=>kk true {E:=s1.E,L:=s3.L,nx:=s3.nx,md:=⟨0,s1.md.O⟩ }
        |some m=>kk false {E:=s1.E,L:=s3.L,nx:=s3.nx,md:=⟨m,s1.md.O⟩ }
        |none=>none
       |_=>none
      |_,_=>none} c hi {E:=Qfp 0 (.cs (.yld s.nx) cap),L:=s.L,nx:=s.nx+1,md:=⟨0,s.E⟩ } fun e s2=>match e with
       | .nm=>k (mKe s2.md.m) {E:=s.E,L:=s2.L,nx:=s2.nx,md:=s.md}
       | .rt=>k (mKe s2.md.m) {E:=s.E,L:=s2.L,nx:=s2.nx,md:=s.md}
       |_=>none
    |none=>none
   |_=>none
  else none
 |_,_,_,_=>none
def sx0:SubT T:=fun _ C c h s k=>sxF (fun _ _ _ _ _ _=>none) C c h s k
def sx{R:Type}(C:Cx T)(c:Code)(h:Hn)(s:SS T)(k:Ke→SS T→Option R):Option R:=sxF sx0 C c h s k
def resL(P:Program)(s:SS T):List ResultVar→Option (SV T)
 | []=>some .nl
 | .tmp t::rs=>match lookA s.E t,resL P s rs with
  |some v,some l=>some (.cs v l)
  |_,_=>none
 | .cell p t::rs=>match lookA s.E p,resL P s rs with
  |some p,some l=>match QsR P s t p with
   |some v=>some (.cs v l)
   |none=>none
  |_,_=>none
def matO:List (TypeId×Pt)→List (Option Pt)→Nat→List (Nat×Nat×SB T)→Mt T→Option (Mt T×List (Nat×Nat))
 | (t,_)::bs,some p::os,i,L0,m=>match lookA m.s.L i with
  | some (ver,.var t' v)=>bif Nat.beq t t' then match mat p v m with
    |some m=>match matO bs os (i+1) L0 m with
     |some (m,bw)=>some (m,(i,ver)::bw)
     |none=>none
    |none=>none
   else none
  |_=>none
 | _::bs,none::os,i,L0,m=>match lookA m.s.L i,lookA L0 i with
  | some (v,_),some (v',_)=>bif Nat.beq v v' then match matO bs os (i+1) L0 m with
    |some (m,bw)=>some (m,(i,v)::bw)
    |none=>none
   else none
  |_,_=>none
 | [], [],_,_,m=>some (m, [])
 |_,_,_,_,_=>none
def finS(P:Program)(sp:FSp T)(rs:List ResultVar)(s0 s:SS T):Option (TU T.ty sp.rt):=
 match resL P s rs with
 | some l=>match mat sp.res l ⟨s, [],(List.range sp.blks.length).map (fun i=>(i,i)), []⟩with
  | some m=>match matO sp.blks sp.out 0 s0.L m with
   | some (m,bo)=>match matB sp.new sp.blks.length m with
    | some (m,bn)=>match takeB m.ow.reverse m.s.L with
     |some L1=>match Qgk (bo++bn) L1 with
      |some _=>toU sp.rt m.dy.reverse
      |none=>none
     |none=>none
    |none=>none
   |none=>none
  |none=>none
 |none=>none
def Qkv(bd:List (Nat×Nat)):List (TypeId×Pt)→Nat→Im T→Option (List (Nat×Nat×SB T)×Im T)
 | [],_,m=>some ([],m)
 | (t,p)::bs,i,m=>match inst bd p m with
  |some (v,m)=>match Qkv bd bs (i+1) m with
   |some (L,m)=>some ((i,i,.var t v)::L,m)
   |none=>none
  |none=>none
def start(sp:FSp T)(p:TU T.ty sp.pt):Option (SS T):=
 let nb:=sp.blks.length
 let bd:=(List.range nb).map fun i=>(i,i)
 match inst bd sp.args ⟨ofU sp.pt p,nb, []⟩with
 |some (l,m)=>match Qkv bd sp.blks 0 m with
  |some (L,m)=>some {E:=Qfp 0 l,L:=L++m.L,nx:=m.nx,md:=⟨0, []⟩ }
  |none=>none
 |none=>none
def funS(C:Cx T)(sp:FSp T)(f:Func)(h:Hn)(p:TU T.ty sp.pt):Option (TU T.ty sp.rt):=
 match f.body with
 |some c=>oE (start sp p) fun s0=>sx C c h s0 fun e s=>match e with
  | .ex _=>none
  | .pn _ _=>none
  |_=>finS C.P sp f.results.toList s0 s
 |none=>none
def funP(C:Cx T)(sp:FSp T)(f:Func)(h:Hn)(p:TU T.ty sp.pt):Option (Int ⊕ TU T.ty sp.rt):=
 match f.body with
 | some c=>oE (start sp p) fun s0=>sx C c h s0 fun e s=>match e with
  | .ex _=>none
  | .pn x e=>match sp.pv with
   |some y=>bif Nat.beq x.1 y.1&&(x.2==y.2)then(bif Nat.ble sp.pk.length sp.blks.length&&(Qgk (pkI sp.pk 0) s.L).isSome then some (.inl e)else none)else none
   |none=>none
  |_=>oE (finS C.P sp f.results.toList s0 s) fun r=>some (.inr r)
 |none=>none
end
end Go.Sep
