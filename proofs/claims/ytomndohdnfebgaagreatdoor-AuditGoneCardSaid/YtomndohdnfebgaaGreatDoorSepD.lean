/-
 More operations: literals, slices, appends; kinds of data.
-/
import Derived.Test.YtomndohdnfebgaaGreatDoorSepC
set_option linter.unusedVariables false
set_option linter.unusedSimpArgs false
namespace Go.Sep
@[reducible] def YJ (k : IntKind) : Kd Int where
 n:=1
 r:=fun _ x cs=>cs= [.int k x]
 len:=fun _ _ _ h=>by rw[h];rfl
 one:=fun _ _ _ h u hu=>by rw[h]at hu;simp at hu;subst hu;rfl
 mono:=fun _ _ _ _ _ h=>h
@[reducible] def QbR : Kd Bool where
 n:=1
 r:=fun _ x cs=>cs= [.bool x]
 len:=fun _ _ _ h=>by rw[h];rfl
 one:=fun _ _ _ h u hu=>by rw[h]at hu;simp at hu;subst hu;rfl
 mono:=fun _ _ _ _ _ h=>h
@[reducible] def kdStr : Kd ByteArray where
 n:=1
 r:=fun _ x cs=>cs= [.string x]
 len:=fun _ _ _ h=>by rw[h];rfl
 one:=fun _ _ _ h u hu=>by rw[h]at hu;simp at hu;subst hu;rfl
 mono:=fun _ _ _ _ _ h=>h
def vget{n:Nat}(v:Vector Int n)(i:Nat):Int:=v.toList.getD i 0
def Ya(k:IntKind)(n:Nat)(v:Vector Int n):List Value:=(List.range n).map fun i=> .int k (vget v i)
def Ye{n:Nat}(v:Vector Int n):List Int:=(List.range n).map fun i=>vget v i
def vofL(n:Nat)(l:List Int):Vector Int n:=Vector.ofFn fun i=>l.getD i.val 0
theorem QfO{n:Nat}(v:Vector Int n):Ye v=v.toList:=by
 apply List.ext_getElem
 ·simp[Ye]
 ·intro i h1 h2
  have h2':i<n:=by simpa using h2
  simp[Ye,vget,h2']
theorem QI{n:Nat}(v:Vector Int n):(Ye v).length=n:=by simp[Ye]
@[reducible] def Zh (k : IntKind) (m : Nat) : Kd (Vector Int m) where
 n:=m
 r:=fun _ x cs=>cs=Ya k m x
 len:=fun _ _ _ h=>by rw[h];simp[Ya]
 one:=fun _ _ _ h u hu=>by rw[h]at hu;simp[Ya]at hu;obtain⟨i,_,rfl⟩:=hu;rfl
 mono:=fun _ _ _ _ _ h=>h
@[reducible] def qc {α : Type} (K : Kd α) : Kd (List α) where
 n:=1
 r:=fun D l cs=>∃A cap,cs= [.slice A l.length cap]∧Sl K D A cap l
 len:=fun _ _ _ ⟨_,_,h,_⟩=>by rw[h];rfl
 one:=fun _ _ _ ⟨_,_,h,_⟩ u hu=>by rw[h]at hu;simp at hu;subst hu;rfl
 mono:=fun _ _ _ _ hd ⟨A,cap,h,hs⟩=>⟨A,cap,h,hs.mono hd⟩
@[reducible] def YF {α β : Type} (K : Kd α) (M : Kd β) : Kd (α × β) where
 n:=K.n+M.n
 r:=fun D x cs=>∃c1 c2,cs=c1++c2∧K.r D x.1 c1∧M.r D x.2 c2
 len:=fun D x cs ⟨c1,c2,h,h1,h2⟩=>by rw[h,List.length_append,K.len _ _ _ h1,M.len _ _ _ h2]
 one:=fun D x cs ⟨c1,c2,h,h1,h2⟩ u hu=>by
  rw[h]at hu
  rcases List.mem_append.1 hu with hu|hu
  ·exact K.one _ _ _ h1 u hu
  ·exact M.one _ _ _ h2 u hu
 mono:=fun _ _ _ _ hd ⟨c1,c2,h,h1,h2⟩=>⟨c1,c2,h,K.mono _ _ _ _ hd h1,M.mono _ _ _ _ hd h2⟩
@[reducible] def QaC {α β : Type} (f : β → α) (K : Kd α) : Kd β where
 n:=K.n
 r:=fun D x cs=>K.r D (f x) cs
 len:=fun _ _ _ h=>K.len _ _ _ h
 one:=fun _ _ _ h=>K.one _ _ _ h
 mono:=fun _ _ _ _ hd h=>K.mono _ _ _ _ hd h
theorem QpA{k:IntKind}{D:Snap}:∀{l:List Int} {cs:List Value},RL (YJ k) D l cs↔cs=l.map (.int k):=by
 intro l
 induction l with
 |nil=>intro cs;simp[RL]
 | cons x l ih=>
  intro cs
  constructor
  ·rintro⟨c1,c2,rfl,rfl,h⟩
   simp[ih.1 h]
  ·rintro rfl
   exact⟨_,_,by simp,rfl,ih.2 rfl⟩
theorem Qe2{k:IntKind}{n:Nat}(v:Vector Int n):Ya k n v=(Ye v).map (.int k):=by simp[Ya,Ye]
theorem QwE{k:IntKind}{D:Snap}{n:Nat}(v:Vector Int n):RL (YJ k) D (Ye v) (Ya k n v):=QpA.2 (Qe2 v)
theorem Qej{k:IntKind}{n:Nat}{l:List Int}(h:n≤l.length):Ya k n (vofL n l)=(l.take n).map (.int k):=by
 apply List.ext_getElem
 ·simp[Ya];omega
 ·intro i h1 h2
  have:i<n:=by simpa[Ya] using h1
  have h3:i<l.length:=by omega
  simp[Ya,vget,vofL,this,h3]
def band(k:IntKind)(x y:Int):Int:=k.wrap (BitVec.ofInt k.bits x&&&BitVec.ofInt k.bits y).toNat
def bor(k:IntKind)(x y:Int):Int:=k.wrap (BitVec.ofInt k.bits x|||BitVec.ofInt k.bits y).toNat
def bxor(k:IntKind)(x y:Int):Int:=k.wrap (BitVec.ofInt k.bits x^^^BitVec.ofInt k.bits y).toNat
def QiL(k:IntKind)(x y:Int):Int:=k.wrap (BitVec.ofInt k.bits x&&& ~~~BitVec.ofInt k.bits y).toNat
def bnot(k:IntKind)(y:Int):Int:=k.wrap (BitVec.ofInt k.bits (if k.signed then-1 else k.max)^^^BitVec.ofInt k.bits y).toNat
def getI{α:Type}(l:List α)(i:Int):Option α:=bif decide (0≤i)then l[i.toNat]? else none
def subI{α:Type}(l:List α)(lo hi:Int):Option (List α):=bif (decide (0≤lo)&&(decide (lo≤hi)&&decide (hi≤(l.length:Int))))then some ((l.take hi.toNat).drop lo.toNat)else none
def catI{α:Type}(bytes:Nat)(l m:List α):Option (List α):=bif decide ((l.length+m.length)*bytes≤140737488355328)then some (l++m)else none
def chk{α:Type}(b:Bool)(x:Option α):Option α:=bif b then x else none
theorem jX{α:Type}{l:List α}{i:Int}{x:α}(h:getI l i=some x):0≤i∧l[i.toNat]?=some x:=by
 unfold getI at h
 cases hd:decide (0≤i)with
 |true=>rw[hd]at h;exact⟨of_decide_eq_true hd,h⟩
 |false=>rw[hd]at h;cases h
theorem Qdv{α:Type}{l m:List α}{lo hi:Int}(h:subI l lo hi=some m):0≤lo∧lo≤hi∧hi≤(l.length:Int)∧m=(l.take hi.toNat).drop lo.toNat:=by
 unfold subI at h
 cases hd:(decide (0≤lo)&&(decide (lo≤hi)&&decide (hi≤(l.length:Int))))with
 |true=>
  rw[hd]at h
  simp only[Qd,decide_eq_true_eq]at hd
  simp only[Qg,Qa]at h
  exact⟨hd.1,hd.2.1,hd.2.2,h.symm⟩
 |false=>rw[hd]at h;cases h
theorem QpB{α:Type}{b:Nat}{l m x:List α}(h:catI b l m=some x):(l.length+m.length)*b≤140737488355328∧x=l++m:=by
 unfold catI at h
 cases hd:decide ((l.length+m.length)*b≤140737488355328)with
 |true=>rw[hd]at h;simp only[Qg,Qa]at h;exact⟨of_decide_eq_true hd,h.symm⟩
 |false=>rw[hd]at h;cases h
theorem XB{α:Type}{b:Bool}{x:Option α}{r:α}(h:chk b x=some r):b=true∧x=some r:=by
 unfold chk at h
 cases b with
 |true=>exact⟨rfl,h⟩
 |false=>cases h
theorem bind_some{α β:Type}{x:Option α}{f:α→Option β}{r:β}(h:x.bind f=some r):∃y,x=some y∧f y=some r:=Option.bind_eq_some_iff.1 h
theorem Qun{α:Type}{b:Bool}{x y:Option α}{r:α}(hb:b=true)(h:(bif b then x else y)=some r):x=some r:=by rw[hb]at h;exact h
theorem QwF{α:Type}{b:Bool}{x y:Option α}{r:α}(hb:b=false)(h:(bif b then x else y)=some r):y=some r:=by rw[hb]at h;exact h
section
variable {P:Program}{ρ:Option Nat}{ops:Array Oper}{Q:Exit→Act→World→Prop}{a:Act}{n:Nat}{ds:List Deferred}{E:List (Nat×Value)}
variable {g w w0:World}{D D0:Snap}{L L0:List Blk}{i:Nat}{o:Oper}{d:Nat}{C:Act→World→Prop}{C1:Act→Prop}{R:World→World→Prop}
theorem Qnd{t:TypeId}{x:Operand}{b off0 off:Nat}{c:List Value}{Cl:Array Value}{T:TypeId}{fr:Nat×Nat}(v:Value)(ho:ops[i]?=some o)(hop:o.op= .load t x)(hg:guardOf ops E o=some true)(hd:o.dst=some d)(hE:Env a n ds E)(hn:Nat.blt d n=true)
  (_:Stp g w0 D0 L0 w D L) (hx:Yt E x=some (.pointer (some ⟨b,off0+off,none⟩))) (hb:D b=some (.cells Cl T fr)) (hc:∀j u,c[j]?=some u→Cl[off0+j]?=some u) (hv:ldv P t c off=some v)
  (hne:Nat.blt 0 c.length=true) (hM:∀w',R w w'→Sees D w')
  (k:∀a,Env a n ds ((d,v)::E)→C1 a):Tk P ops R i n ds E a w C1:=by
 refine ZO (v:=v) hE ho hg hd hn (by simp[hop,Q5]) (fun w' hk=> ?_) ?_
 ·have hlen:0<c.length:=by simpa[Nat.blt_eq] using hne
  obtain⟨u0,hu0⟩:∃u,c[0]?=some u:=⟨c[0],by simp⟩
  obtain⟨C',T',fr',h1,h2⟩:=hM w' hk _ _ _ _ hb _ _ (hc 0 u0 hu0)
  simp[execOp,hop,hE.eval hx,Instr.loadAt,Instr.sureAddr,QcF (w:=w') h1 (fun j u hu=>h2 _ _ (hc j u hu)) hv]
 ·exact k
def yR(E:List (Nat×Value)):List (Nat×Operand)→Option (List (Nat×Value))
 | []=>some []
 |(i,x)::xs=>match Yt E x,yR E xs with
  |some v,some vs=>some ((i,v)::vs)
  |_,_=>none
theorem Qdw(hE:Env a n ds E):∀(xs:List (Nat×Operand)) (vs:List (Nat×Value)),yR E xs=some vs→xs.map (fun(i,x)=>(i,a.eval x))=vs:=by
 intro xs
 induction xs with
 |nil=>intro vs h;simp[yR]at h;simp[h]
 | cons p xs ih=>
  obtain⟨j,x⟩:=p
  intro vs h
  simp only[yR]at h
  split at h
  ·rename_i v us h1 h2
   simp only[Qa]at h
   subst h
   simp[hE.eval h1,ih _ h2]
  ·cases h
def Qfo(place:Nat→Option (Nat×Nat))(cells:List Value):List (Nat×Value)→Option (List Value)
 | []=>some cells
 |(i,v)::rest=>
  match place i with
  |none=>none
  |some (off,size)=>bif (Nat.beq (Q4 v).length size&&Nat.ble (off+size) cells.length)then Qfo place (setCells cells off (Q4 v)) rest else none
theorem Qof(off:Nat):∀(vs:List Value) (k:Nat) (cs:Array Value),off+k+vs.length≤cs.size→(vs.zipIdx k).foldl (fun cs (c,j)=>cs.setIfInBounds (off+j) c) cs=(cs.toList.take (off+k)++vs++cs.toList.drop (off+k+vs.length)).toArray:=by
 intro vs
 induction vs with
 |nil=>intro k cs h;simp
 | cons v vs ih=>
  intro k cs h
  simp only[List.length_cons]at h
  rw[List.zipIdx_cons,List.foldl_cons,ih (k+1) _ (by simp;omega)]
  apply Array.ext'
  simp only[Array.toList_setIfInBounds,List.length_cons]
  apply List.ext_getElem?
  intro m
  simp only[List.append_assoc,List.getElem?_append,List.length_take,List.length_set,Array.length_toList,List.getElem?_take,List.getElem?_drop,List.getElem?_set,List.length_cons]
  have e1:min (off+(k+1)) cs.size=off+k+1:=by omega
  have e2:min (off+k) cs.size=off+k:=by omega
  rw[e1,e2]
  by_cases c1:m<off+k
  ·simp only[show m<off+k+1 from by omega,show m<off+(k+1)from by omega,c1,if_true]
   rw[if_neg (by omega)]
  ·by_cases c2:m=off+k
   ·subst c2
    simp[show off+k<cs.size from by omega,show off+(k+1)=off+k+1 from by omega]
   ·have c3: ¬m<off+k+1:=by omega
    simp only[c1,c3,if_false]
    obtain⟨q,rfl⟩:∃q,m=off+k+1+q:=⟨m-(off+k+1),by omega⟩
    rw[show off+k+1+q-(off+k+1)=q from by omega,show off+k+1+q-(off+k)=q+1 from by omega]
    simp only[List.getElem?_cons_succ]
    by_cases c4:q<vs.length
    ·simp[c4]
    ·simp only[c4,if_false,show¬q+1<vs.length+1 from by omega]
     rw[if_neg (by omega)]
     congr 1
     omega
theorem Qgc(place:Nat→Option (Nat×Nat)):∀(ps:List (Nat×Value)) (cs cs':List Value),Qfo place cs ps=some cs'→Instr.fill place cs.toArray ps=some cs'.toArray:=by
 intro ps
 induction ps with
 |nil=>intro cs cs' h;simp only[Qfo,Qa]at h;subst h;rfl
 | cons p ps ih=>
  obtain⟨j,v⟩:=p
  intro cs cs' h
  simp only[Qfo]at h
  split at h
  ·cases h
  ·rename_i off size hp
   cases hc:(Nat.beq (Q4 v).length size&&Nat.ble (off+size) cs.length)with
   |false=>rw[hc]at h;cases h
   |true=>
    rw[hc]at h
    simp only[Qg]at h
    simp only[Qd]at hc
    have h1:=Qc hc.1
    have h2:=Nat.le_of_ble_eq_true hc.2
    simp only[Instr.fill,hp]
    have hvs:=QaB v
    rw[if_neg (by simp;omega)]
    have hz:=Qof off (Q4 v) 0 cs.toArray (by simp;omega)
    rw[←ih _ _ h]
    congr 1
    rw[qE,←Array.foldl_toList,Array.toList_zipIdx]
    simp only[Nat.add_zero]at hz
    rw[hz]
    simp[setCells]
def jh(z:List Value):Nat→List Value
 |0=> []
 |m+1=>z++jh z m
theorem Qog(z:List Value):∀(m j:Nat),j<m*z.length→(jh z m)[j]?=z[j%z.length]?:=by
 intro m
 induction m with
 |zero=>intro j h;simp at h
 |succ m ih=>
  intro j h
  simp only[jh]
  rw[List.getElem?_append]
  by_cases c:j<z.length
  ·simp[c,Nat.mod_eq_of_lt c]
  ·rw[if_neg c,ih _ (by rw[Nat.succ_mul]at h;omega),Nat.mod_eq_sub_mod (by omega:z.length≤j)]
theorem jH(z:List Value):∀m,(jh z m).length=m*z.length:=by
 intro m
 induction m with
 |zero=>simp[jh]
 |succ m ih=>simp[jh,ih,Nat.succ_mul,Nat.add_comm]
theorem QiM(z:Array Value)(m:Nat)(hz:0<z.size):(Array.range (m*z.size)).map (z[· %z.size]!)=(jh z.toList m).toArray:=by
 apply Array.ext'
 apply List.ext_getElem?
 intro j
 simp only[Array.toList_map,Array.toList_range,List.getElem?_map]
 by_cases c:j<m*z.size
 ·have:=Qog z.toList m j (by simpa using c)
  rw[this]
  have hlt:j%z.size<z.size:=Nat.mod_lt _ hz
  simp[List.getElem?_range c,hlt]
 ·rw[List.getElem?_eq_none (by simp;omega),List.getElem?_eq_none (by rw[jH];simp;omega)]
  rfl
def bsl(P:Program)(t:TypeId)(len:Nat)(parts:List (Nat×Value)):Option (TypeId×List Value):=
 match P.underlying t with
 | some (.slice e)=>match P.info? e with
  | some i=>match i.zero with
   | some z=>bif (Nat.ble (len*i.size) 16777216&&(Nat.blt 0 i.size&&Nat.beq (Q4 z).length i.size))then
     (Qfo (fun k=>some (k*i.size,i.size)) (jh (Q4 z) len) parts).map fun c=>(e,c)
    else none
   |none=>none
  |none=>none
 |_=>none
theorem Qu6{t e:TypeId}{len:Nat}{parts:List (Nat×Value)}{cs:List Value}(h:bsl P t len parts=some (e,cs)):
  (Instr.buildSlice t len parts.toArray).run P w= .ok (.slice (some ⟨w.heap.size,0,none⟩) len len) (w.alloc (.cells cs.toArray e)):=by
 unfold bsl at h
 split at h
 ·rename_i e' hu
  split at h
  ·rename_i ii hi
   split at h
   ·rename_i z hz
    cases hc:(Nat.ble (len*ii.size) 16777216&&(Nat.blt 0 ii.size&&Nat.beq (Q4 z).length ii.size))with
    |false=>rw[hc]at h;cases h
    | true=>
     rw[hc]at h
     simp only[Qg,Option.map_eq_some_iff,Qe]at h
     obtain⟨c,hf,rfl,rfl⟩:=h
     simp only[Qd]at hc
     have h1:=Nat.le_of_ble_eq_true hc.1
     have h2:0<ii.size:=by simpa[Nat.blt_eq] using hc.2.1
     have h3:=Qc hc.2.2
     have hzs:z.cells.size=ii.size:=by rw[QaB];exact h3
     have hfr:=Qgc _ _ _ _ hf
     have hnot: ¬2^24<len*ii.size:=by omega
     simp only[Instr.buildSlice,Sem.run_bind,Ql hu,Result.andThen_ok,sizeOf,typeInfo,Sem.run_bind,run_program,hi,Sem.run_pure,gt_iff_lt,hnot,if_false]
     by_cases c0:len*ii.size=0
     ·have hl0:len=0:=by rcases Nat.mul_eq_zero.1 c0 with h|h<;>omega
      subst hl0
      simp only[Nat.zero_mul,jh]at hfr⊢
      simp[hfr,newRow,show Array.range 0= #[]from rfl]
     ·have e1:(Array.range (len*ii.size)).map (z.cells[· %z.cells.size]!)=(jh (Q4 z) len).toArray:=by
       rw[←hzs,QiM _ _ (by omega),qE]
      simp[c0,zeroValue,typeInfo,hi,hz,e1,hfr,newRow]
   ·cases h
  ·cases h
 ·cases h
theorem yS{α:Type}{K:Kd α}{t e:TypeId}{len:Nat}{ps:Array (Nat×Operand)}{vs:List (Nat×Value)}{cs:List Value}(l:List α)(ho:ops[i]?=some o)(hop:o.op= .buildSlice t len ps)(hg:guardOf ops E o=some true)(hd:o.dst=some d)(hE:Env a n ds E)(hn:Nat.blt d n=true)
  (hS:Stp g w0 D0 L0 w D L) (hp:yR E ps.toList=some vs) (hb:bsl P t len vs=some (e,cs)) (hlen:l.length=len) (hm:Nat.ble len 1000000=true) (hr:RL K D l cs)
  (k:∀a A q w',qC [] w w'→Env a n ds ((d,.slice A l.length len)::E)→OwnD K e D A len l q→Stp g w0 D0 L0 w' D (q::L)→C a w'):Op1 P ρ ops Q i C a w:=by
 have hps:ps.map (fun(i,x)=>(i,a.eval x))=vs.toArray:=by
  have:=Qdw hE _ _ hp
  rw[←Array.toList_map]at this
  rw[←this]
 refine Zf (v:= .slice (some ⟨w.heap.size,0,none⟩) l.length len) (w':=w.alloc (.cells cs.toArray e)) hE ho hg (by simp[hd,JI,hn]) (by simp[hop,Q5]) ?_ ?_
 ·rw[hlen]
  simp[execOp,hop,hps,Qu6 hb]
 ·rw[hd]
  intro a' h'
  have hml:=Nat.le_of_ble_eq_true hm
  have hcl:=hr.len
  refine k a' _ (some (w.heap.size,(.cells cs.toArray e (0,0),0))) _ (Qf7 _ _) h' ⟨cs,⟨rfl,by omega,by simp only[maxLen];omega,hcl,_,0,rfl,Nat.zero_le _,fun _=>rfl,?_,?_⟩,hr⟩ (hS.alloc _)
  ·simp[hcl,hlen]
  ·rw[←hcl];simp
def bld(P:Program)(t:TypeId)(parts:List (Nat×Value)):Option (List Value):=
 match P.underlying t,P.info? t with
 |some (.struct fields),some i=>match i.zero,(fields.toList.mapM fun f=>(P.info? f.type).map fun q=>(f.offset,q.size))with
  |some z,some places=>Qfo (fun k=>places[k]?) (Q4 z) parts
  |_,_=>none
 |some (.array _ e),some i=>match i.zero,P.info? e with
  |some z,some q=>Qfo (fun k=>some (k*q.size,q.size)) (Q4 z) parts
  |_,_=>none
 |_,_=>none
theorem Qoh:∀(fs:List Field) (ps:List (Nat×Nat)),(fs.mapM fun f=>(P.info? f.type).map fun q=>(f.offset,q.size))=some ps→
  (fs.mapM fun f=>(do pure (f.offset,←sizeOf f.type):Sem (Nat×Nat))).run P w= .ok ps w:=by
 intro fs
 induction fs with
 |nil=>intro ps h;simp at h;subst h;simp
 |cons f fs ih=>
  intro ps h
  simp only[List.mapM_cons,Option.bind_eq_bind,Option.bind_eq_some_iff,Option.map_eq_some_iff,Option.pure_def,Qa]at h
  obtain⟨p,⟨q,hq,rfl⟩,ps',hps',rfl⟩:=h
  have:=ih _ hps'
  simp[List.mapM_cons,sizeOf,typeInfo,hq]at this⊢
  simp[this]
theorem Qu7{t:TypeId}{parts:List (Nat×Value)}{cs:List Value}(h:bld P t parts=some cs):
  (Instr.build t parts.toArray).run P w= .ok (.agg cs.toArray) w:=by
 unfold bld at h
 split at h
 ·rename_i fields ii hu hi
  split at h
  ·rename_i z places hz hp
   have hpl:=Qoh (P:=P) (w:=w) _ _ hp
   have hfr:=Qgc _ _ _ _ h
   have hpl':(fields.mapM fun f=>(do pure (f.offset,←sizeOf f.type):Sem (Nat×Nat))).run P w= .ok places.toArray w:=by
    rw[Array.mapM_eq_mapM_toList]
    simp only[Sem.run_map,hpl,Result.andThen_ok]
   have e2:(fun k:Nat=>places.toArray[k]?)=(fun k:Nat=>places[k]?):=by funext k;simp
   simp only[Instr.build,Sem.run_bind,zeroValue,typeInfo,run_program,Result.andThen_ok,hi,Sem.run_pure,hz,Ql hu]
   rw[hpl']
   simp only[Result.andThen_ok,e2]
   rw[qE,hfr]
   rfl
  ·cases h
 ·rename_i m e ii hu hi
  split at h
  ·rename_i z q hz hq
   have hfr:=Qgc _ _ _ _ h
   simp only[Instr.build,Sem.run_bind,zeroValue,typeInfo,run_program,Result.andThen_ok,hi,Sem.run_pure,hz,Ql hu,sizeOf,hq]
   rw[qE,hfr]
   rfl
  ·cases h
 ·cases h
theorem Qa4{t:TypeId}{ps:Array (Nat×Operand)}{vs:List (Nat×Value)}(cs:List Value)(ho:ops[i]?=some o)(hop:o.op= .build t ps)(hg:guardOf ops E o=some true)(hd:o.dst=some d)(hE:Env a n ds E)(hn:Nat.blt d n=true)
  (hp:yR E ps.toList=some vs) (hb:bld P t vs=some cs)
  (k:∀a,Env a n ds ((d,.agg cs.toArray)::E)→C1 a):Tk P ops R i n ds E a w C1:=by
 have hps:ps.map (fun(i,x)=>(i,a.eval x))=vs.toArray:=by
  have:=Qdw hE _ _ hp
  rw[←Array.toList_map]at this
  rw[←this]
 refine ZO (v:= .agg cs.toArray) hE ho hg hd hn (by simp[hop,Q5]) (fun w' _=> ?_) ?_
 ·simp[execOp,hop,hps,Qu7 hb]
 ·exact k
theorem Qgd{t ty e:TypeId}{ii:TypeInfo}(ht:P.underlying t=some (.slice e))(hi:P.info? e=some ii){A B:Option Addr}{m c c2:Nat}(hmc:m≤c):
  (Builtin.append_ #[t,t] ty #[.slice A m c,.slice B 0 c2]).run P w= .ok (.slice A m c) w:=by
 have hf:(Builtin.firstCells ii.size 0 (.slice B 0 c2)).run P w= .ok #[] w:=by
  cases B<;>simp[Builtin.firstCells,loadCells,loadCellsFrom]
 cases A with
 |none=>simp[Builtin.append_,Ql ht,sizeOf,typeInfo,hi,Builtin.lenOf,hmc,hf]
 |some p=>simp[Builtin.append_,Ql ht,sizeOf,typeInfo,hi,Builtin.lenOf,hmc,hf,storeCells]
theorem Qoi{f:Bool}{T t ty:TypeId}{ii:TypeInfo}{z:Value}{sz bytes:Nat}{A:Option Addr}{nn cap:Nat}{cs:List Value}{q:Blk}(hS:Stp g w0 D0 L0 w D (q::L))(hO:OwnB f T sz D A nn cap cs q)
  (ht:P.underlying t=some (.slice T)) (hi:P.info? T=some ii) (hz:ii.zero=some z) (hsz:ii.size=sz) (hby:ii.bytes=bytes) (hzc:(Q4 z).length=sz) (hszp:0<sz)
  (ad:Addr) (m c2:Nat) (news:List Value) (hl:news.length=m*sz) (hnews:∀j u,news[j]?=some u→w.cell? (ad.add j)=some u) (h1:∀u∈news,u.oneCell'=true) (hm0:0<m) (h63:nn+m≤maxLen) (hbytes:(nn+m)*bytes≤140737488355328):
  ∃A' cap' q' w',(Builtin.append_ #[t,t] ty #[.slice A nn cap,.slice (some ad) m c2]).run P w= .ok (.slice A' (nn+m) cap') w'∧OwnB f T sz D A' (nn+m) cap' (cs++news) q'∧Stp g w0 D0 L0 w' D (q'::L)∧qC (ids [q]) w w':=by
 have hsmall:nn+m≤9223372036854775807:=by simp only[maxLen]at h63;omega
 have hzs:z.cells.size=sz:=by rw[QaB];exact hzc
 have grown:∀(A0:Option Addr) (cap0:Nat) (w':World),cap0<nn+m→cs.length=nn*sz→
   w'=w.drew.alloc (.cells (cs.toArray++news.toArray++Builtin.zeroCells z.cells (grownCap w (nn+m) cap0 T-(nn+m))) T)→Stp g w0 D0 L0 w D L→
   OwnB f T sz D (some ⟨w.heap.size,0,none⟩) (nn+m) (grownCap w (nn+m) cap0 T) (cs++news) (some (w.heap.size,(.cells (cs.toArray++news.toArray++Builtin.zeroCells z.cells (grownCap w (nn+m) cap0 T-(nn+m))) T (0,0),0)))∧
   Stp g w0 D0 L0 w' D (some (w.heap.size,(.cells (cs.toArray++news.toArray++Builtin.zeroCells z.cells (grownCap w (nn+m) cap0 T-(nn+m))) T (0,0),0))::L):=by
  intro A0 cap0 w' ho hcl hw hSL
  subst hw
  have hge:=grownCap_ge w (nn+m) cap0 T
  have hcm:grownCap w (nn+m) cap0 T≤maxLen:=grownCap_le_maxLen w (nn+m) cap0 T h63
  have hlen:(cs++news).length=(nn+m)*sz:=by rw[List.length_append,hcl,hl,Nat.add_mul]
  refine⟨⟨rfl,hge,hcm,hlen,_,0,rfl,Nat.zero_le _,fun _=>rfl,?_,?_⟩,hSL.drew.alloc _⟩
  ·simp only[Array.size_append,List.size_toArray,size_zeroCells,hzs,hcl,hl,←Nat.add_mul]
   congr 1
   omega
  ·simp only[Array.toList_append,List.append_assoc]
   rw[←List.append_assoc,←hlen]
   exact List.take_left
 cases q with
 | none=>
  obtain⟨rfl,hnm,hat,hcl,_⟩:=hO
  cases A with
  | none=>
   have hcs:cs= []:=by
    rcases hat with h|⟨_,_,_,_,_,h,_⟩
    ·exact h
    ·cases h
   subst hcs
   have hn0:cap=0:=by
    simp only[List.length_nil]at hcl
    rcases Nat.mul_eq_zero.1 hcl.symm with h|h<;>omega
   subst hn0
   have hr:=run_append_nil (P:=P) (w:=w) t ty T ii z ht hi hz ad m c2 news (by rw[hsz];exact hl) hnews hm0 (by omega) (by have hb:=hbytes;rw[hby];simp only[Nat.zero_add]at hb;omega)
   obtain⟨g1,g2⟩:=grown none 0 _ (by omega) (by simp) rfl hS.drop
   simp only[Nat.zero_add,List.nil_append,Array.empty_append]at g1 g2 hr⊢
   exact⟨_,_,_,_,hr,g1,g2,by simp,fun b hb _=>heap_alloc_old w.drew _ b hb⟩
  | some ad0=>
   have holds:∀j u,cs[j]?=some u→w.cell? (ad0.add j)=some u:=by
    intro j u hu
    rcases hat with h|⟨b,off,C,T',fr,h,hb,hcell⟩
    ·rw[h]at hu;simp at hu
    ·cases h
     obtain⟨C',T2,fr',h1,h2⟩:=hS.st.sees _ _ _ _ hb _ _ (hcell j u hu)
     rw[addr_add,cell_of_row w b (off+j) C' T2 _ h1]
     exact h2 _ _ (hcell j u hu)
   have hr:=run_append_grow (P:=P) (w:=w) t ty T ii z ht hi hz ad0 cap cap cs (by rw[hsz];exact hcl) holds ad m c2 news (by rw[hsz];exact hl) hnews (by omega) (by omega) (growslice_fits (by omega) (by rw[hby];exact hbytes))
   obtain⟨g1,g2⟩:=grown (some ad0) cap _ (by omega) hcl rfl hS.drop
   exact⟨_,_,_,_,hr,g1,g2,by simp,fun b' hb _=>heap_alloc_old w.drew _ b' hb⟩
 | some p=>
  obtain⟨b,o'⟩:=p
  obtain⟨rfl,hnc,hcm,hcl,C,kk,rfl,hkk,hf0,hC,htake⟩:=hO
  have hheap:=hS.heap0
  by_cases hroom:nn+m≤cap
  ·have hfit:nn*ii.size+news.length≤C.size:=by rw[hl,hC,hsz,←Nat.add_mul];exact Nat.mul_le_mul_right _ hroom
   have hr:=run_append_room (P:=P) (w:=w) t ty T ii ht hi b nn cap C hheap ad m c2 news (by rw[hsz];exact hl) hnews h1 hroom hfit
   refine⟨_,_,some (b,(.cells (C.toList.take (nn*ii.size)++news++C.toList.drop (nn*ii.size+news.length)).toArray T (0,0),kk)),_,hr,⟨rfl,hroom,hcm,?_,_,kk,rfl,Nat.le_trans hkk (Nat.mul_le_mul_right _ (by omega)),hf0,?_,?_⟩,hS.put (o':=(_,kk)) ?_ (by simp) rfl rfl rfl (setRow_heap w b C _ T _ hheap) (fun k hk=>setRow_other w b k _ hk),by simp,fun k _ hk=>setRow_other w b k _ (by simpa[ids,bid] using hk)⟩
   ·rw[List.length_append,hcl,hl,Nat.add_mul]
   ·simp only[List.size_toArray,List.length_append,List.length_take,List.length_drop,Array.length_toList]
    omega
   ·simp only[hsz]
    rw[htake,show(nn+m)*sz=(cs++news).length from by rw[List.length_append,hcl,hl,Nat.add_mul]]
    exact List.take_left
   ·rintro p ⟨C0,T0,fr0,rfl,h0⟩ hp
    obtain⟨C1,T1,fr1,e,h2⟩:=Zb hp
    cases e
    refine⟨⟨_,_,_,rfl,fun i u hu=> ?_⟩,_,_,_,rfl,h0⟩
    have hi:=(Array.getElem?_eq_some_iff.1 hu).1
    have h0':C0.size≤kk:=h0
    have hin:i<nn*ii.size:=by rw[hsz];omega
    have:=h2 i u hu
    have hiC:=(Array.getElem?_eq_some_iff.1 this).1
    rw[List.append_assoc,List.getElem?_toArray,List.getElem?_append_left (by rw[List.length_take];simp;omega),List.getElem?_take,if_pos hin]
    simpa using this
  ·have holds:∀j u,cs[j]?=some u→w.cell? ((⟨b,0,none⟩:Addr).add j)=some u:=by
    intro j u hu
    rw[addr_add,cell_of_row w b (0+j) C T _ hheap]
    rw[←htake,List.getElem?_take]at hu
    split at hu
    ·simpa using hu
    ·cases hu
   have hr:=run_append_grow (P:=P) (w:=w) t ty T ii z ht hi hz ⟨b,0,none⟩ nn cap cs (by rw[hsz];exact hcl) holds ad m c2 news (by rw[hsz];exact hl) hnews (by omega) (by omega) (growslice_fits (by omega) (by rw[hby];exact hbytes))
   obtain⟨g1,g2⟩:=grown (some ⟨b,0,none⟩) cap _ (by omega) hcl rfl hS.drop
   exact⟨_,_,_,_,hr,g1,g2,by simp,fun b' hb _=>heap_alloc_old w.drew _ b' hb⟩
theorem QpC{f:Bool}{α:Type}{K:Kd α}{s x:Operand}{t e:TypeId}{ii:TypeInfo}{z:Value}{bytes:Nat}{A B:Option Addr}{cap cap2:Nat}{l m:List α}{q:Blk}(ho:ops[i]?=some o)(hop:o.op= .call {callee:= .builtin .append,args:= #[s,x],argTypes:= #[t,t] })(hg:guardOf ops E o=some true)(hd:o.dst=some d)(hE:Env a n ds E)(hn:Nat.blt d n=true)
  (hS:Stp g w0 D0 L0 w D (q::L)) (hs:Yt E s=some (.slice A l.length cap)) (hx:Yt E x=some (.slice B m.length cap2))
  (ht:P.underlying t=some (.slice e)) (hi:P.info? e=some ii) (hz:ii.zero=some z) (hsz:ii.size=K.n) (hby:ii.bytes=bytes) (hzc:(Q4 z).length=K.n) (hpos:Nat.blt 0 K.n=true) (hb1:Nat.blt 0 bytes=true)
  (hown:OwnX f K e D A cap l q) (hm:Sl K D B cap2 m) (hfit:(l.length+m.length)*bytes≤140737488355328)
  (k:∀a A' cap' q' w',qC (ids [q]) w w'→Env a n ds ((d,.slice A' (l++m).length cap')::E)→OwnX f K e D A' cap' (l++m) q'→Stp g w0 D0 L0 w' D (q'::L)→C a w'):Op1 P ρ ops Q i C a w:=by
 have hlc:l.length≤cap:=hown.lc.1
 obtain⟨cs,hO,hr⟩:=hown
 obtain⟨hm1,hm2,news,hrn,hcn⟩:=hm
 have hnl:=hrn.len
 have hpos':0<K.n:=by simpa[Nat.blt_eq] using hpos
 have hb1':0<bytes:=by simpa[Nat.blt_eq] using hb1
 by_cases hm0:m= []
 ·subst hm0
  simp only[RL]at hrn
  refine Zf (v:= .slice A l.length cap) (w':=w) hE ho hg (by simp[hd,JI,hn]) (by simp[hop,Q5]) ?_ ?_
  ·have hx':a.eval x= .slice B 0 cap2:=hE.eval hx
   simp[execOp,hop,resolve,hE.eval hs,hx',invoke,builtin,Qgd ht hi hlc]
  ·rw[hd]
   intro a' h'
   refine k a' A cap q w (qC.refl _ _) ?_ ⟨cs,by simpa using hO,by simpa using hr⟩ hS
   simpa[upd] using h'
 ·have hml:0<m.length:=by cases m<;>simp at hm0⊢
  have hnn:news≠ []:=fun e=>by
   rw[e]at hnl;simp only[List.length_nil]at hnl
   have:=Nat.mul_pos hml hpos';omega
  rcases hcn with h|⟨b,off,c,T,fr,rfl,hb,hcell⟩
  ·exact absurd h hnn
  ·have hsmall:l.length+m.length≤maxLen:=by
    have h1:(l.length+m.length)*1≤(l.length+m.length)*bytes:=Nat.mul_le_mul_left _ hb1'
    simp only[maxLen];omega
   obtain⟨A',cap',q',w',hrun,hO',hS',hkp⟩:=Qoi (P:=P) (ty:=o.type) hS hO ht hi hz hsz hby hzc hpos' ⟨b,off,none⟩ m.length cap2 news (by rw[hnl]) (fun j u hu=>by
     obtain⟨C',T2,fr',h1,h2⟩:=hS.st.sees _ _ _ _ hb _ _ (hcell j u hu)
     rw[addr_add,cell_of_row w b (off+j) C' T2 fr' h1]
     exact h2 _ _ (hcell j u hu)) (fun u hu=>hrn.one u hu) hml hsmall hfit
   refine Zf (v:= .slice A' (l.length+m.length) cap') (w':=w') hE ho hg (by simp[hd,JI,hn]) (by simp[hop,Q5]) ?_ ?_
   ·simp[execOp,hop,resolve,hE.eval hs,hE.eval hx,invoke,builtin,hrun]
   ·rw[hd]
    intro a' h'
    refine k a' A' cap' q' w' hkp (by simpa[upd] using h') ⟨_,by simpa using hO',hr.append hrn⟩ hS'
end
end Go.Sep
