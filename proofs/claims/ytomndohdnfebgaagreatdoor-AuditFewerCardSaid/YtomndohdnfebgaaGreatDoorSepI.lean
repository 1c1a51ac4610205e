/-
 Bytes and strings; equality of arrays and structs.
-/
import Derived.Test.YtomndohdnfebgaaGreatDoorSepG
import Derived.IntWalk
set_option linter.unusedVariables false
set_option linter.unusedSimpArgs false
namespace Go.Sep
theorem Sl.of_none{α:Type}{K:Kd α}{D:Snap}{A:Option Addr}{cap:Nat}{l:List α}(h:Sl K D A cap l)(hA:Option.isNone A=true)(hpos:Nat.blt 0 K.n=true):l= []:=by
 obtain⟨_,_,cs,hr,hc⟩:=h
 have hpos':0<K.n:=by simpa[Nat.blt_eq] using hpos
 cases A with
 |some p=>cases hA
 | none=>
  rcases hc with rfl|⟨b,off,c,T,fr,h,_⟩
  ·have h1:=hr.len
   simp only[List.length_nil]at h1
   rcases Nat.mul_eq_zero.1 h1.symm with h2|h2
   ·exact List.eq_nil_of_length_eq_zero h2
   ·omega
  ·cases h
def Qai{α:Type}(bytes:Nat)(z:α)(n:Int):Option (List α):=bif (decide (0≤n)&&decide (n*bytes≤140737488355328))then some (List.replicate n.toNat z)else none
section
variable {P:Program}{ρ:Option Nat}{ops:Array Oper}{Q:Exit→Act→World→Prop}{a:Act}{n:Nat}{ds:List Deferred}{E:List (Nat×Value)}
variable {g w w0:World}{D D0:Snap}{L L0:List Blk}{i:Nat}{o:Oper}{d:Nat}{C:Act→World→Prop}{C1:Act→Prop}{R:World→World→Prop}
variable {α:Type}{K:Kd α}
theorem Qlk{t e sz by_ zl:Nat}{x:Operand}{lo hi:Option Operand}(ho:ops[i]?=some o)(hop:o.op= .slice t x lo hi none)(hg:guardOf ops E o=some true)(hd:o.dst=some d)(hE:Env a n ds E)(hn:Nat.blt d n=true)
  (hx:Yt E x=some (.slice none 0 0)) (hT:slT P t=some (e,sz,by_,zl)) (hlo:Qbt E lo 0 0) (hhi:Qbt E hi 0 0)
  (k:∀a,Env a n ds ((d,.slice none 0 0)::E)→C1 a):Tk P ops R i n ds E a w C1:=by
 obtain⟨h1,ii,z,h2,_,h4,_⟩:=Xa hT
 refine ZU (v:= .slice none 0 0) hE ho hg hd hn (by simp[hop,QY]) (fun w' _=> ?_) k
 have hsb:=jb (P:=P) (w:=w') (isS:=true) (len:=0) (cap:=0) hE hlo hhi (Int.le_refl _) (Int.le_refl _) (Int.le_refl _)
 simp only[Int.toNat_zero]at hsb
 simp[execOp,hop,Instr.sliceAt,hE.eval hx,Ql h1,Instr.slice,hsb,sizeOf,typeInfo,h2]
theorem QjL{t:Nat}{x:Operand}{m c:Nat}{A:Option Addr}(ho:ops[i]?=some o)(hop:o.op= .call {callee:= .builtin .cap,args:= #[x],argTypes:= #[t] })(hg:guardOf ops E o=some true)(hd:o.dst=some d)(hE:Env a n ds E)(hn:Nat.blt d n=true)
  (hx:Yt E x=some (.slice A m c)) (hT:sliceT P t=true)
  (k:∀a,Env a n ds ((d,.int .i64 (c:Int))::E)→C1 a):Tk P ops R i n ds E a w C1:=by
 obtain⟨e,he⟩:=QcP hT
 refine ZU (v:= .int .i64 (c:Int)) hE ho hg hd hn (by simp[hop,QY]) (fun w' _=> ?_) k
 simp[execOp,hop,resolve,hE.eval hx,invoke,builtin,Builtin.cap_,Ql he,goInt]
theorem QhO{T t by_ zl:Nat}{x:Operand}{hi:Option Operand}{zh:Int}{A:Option Addr}{cap:Nat}{l m:List α}{q:Blk}(ho:ops[i]?=some o)(hop:o.op= .slice t x none hi none)(hg:guardOf ops E o=some true)(hd:o.dst=some d)(hE:Env a n ds E)(hn:Nat.blt d n=true)
  (hx:Yt E x=some (.slice A l.length cap)) (hT:slT P t=some (T,K.n,by_,zl)) (hhi:Qbt E hi l.length zh) (hl:OwnD K T D A cap l q) (hm:subI l 0 zh=some m)
  (k:∀a,Env a n ds ((d,.slice A m.length cap)::E)→OwnD K T D A cap m q→C1 a):Tk P ops R i n ds E a w C1:=by
 obtain⟨h1,ii,z,h2,_,h4,_⟩:=Xa hT
 obtain⟨h0,h01,hle,rfl⟩:=QfQ hm
 have hcap:l.length≤cap:=hl.lc.1
 obtain⟨cs,hO,hr⟩:=hl
 have hlen:((l.take zh.toNat).drop (0:Int).toNat).length=zh.toNat:=by simp;omega
 have hsb:=fun w'=>jb (P:=P) (w:=w') (isS:=true) (len:=l.length) (cap:=cap) (lo:=none) hE rfl hhi (Int.le_refl 0) h01 (by omega)
 have hA:(if cap=0 then A else A.map (·.add (0*ii.size)))=A:=by
  by_cases hc:cap=0
  ·simp[hc]
  ·cases A with
   |none=>simp
   |some p=>simp[hc,Addr.add]
 refine ZU (v:= .slice A ((l.take zh.toNat).drop (0:Int).toNat).length cap) hE ho hg hd hn (by simp[hop,QY]) (fun w' _=> ?_) (fun a' h'=>k a' h' ?_)
 ·rw[hlen]
  have hsb':=hsb w'
  simp only[Int.toNat_zero,Option.map_none]at hsb'
  simp only[execOp,hop,Instr.sliceAt,hE.eval hx,Option.map_none,Sem.run_bind,Ql h1,Result.andThen_ok,Instr.slice,hsb',sizeOf,typeInfo,run_program,h2,Sem.run_pure,Nat.sub_zero,hA]
 ·simp only[Int.toNat_zero,List.drop_zero]
  have hspl:l=l.take zh.toNat++l.drop zh.toNat:=(List.take_append_drop _ _).symm
  rw[hspl]at hr
  obtain⟨c1,c2,rfl,hr1,hr2⟩:=hr.split
  have hl1:=hr1.len
  have hl2:(l.take zh.toNat).length=zh.toNat:=by simp;omega
  refine⟨c1,?_,hr1⟩
  cases q with
  | none=>
   obtain⟨g1,g2,g3,g4,g5⟩:=hO
   obtain⟨rfl,g6⟩:=g5 rfl
   have hc1:c1= []:=by
    have:(c1++c2).length=0:=by rw[g4,g6,Nat.zero_mul]
    exact(List.append_eq_nil_iff.1 (List.eq_nil_of_length_eq_zero this)).1
   exact⟨by rw[hl2];omega,by rw[hl2];omega,.inl hc1,by rw[hl1],fun _=>⟨rfl,by rw[hl2];omega⟩⟩
  | some p=>
   obtain⟨b,u⟩:=p
   obtain⟨rfl,g1,g2,g3,Cl,k0,rfl,g6,g7,g4,g5⟩:=hO
   refine⟨rfl,by omega,g2,by rw[hl1],Cl,k0,rfl,by rw[g7 rfl];exact Nat.zero_le _,g7,g4,?_⟩
   have:Cl.toList.take ((l.take zh.toNat).length*K.n)=(Cl.toList.take (l.length*K.n)).take ((l.take zh.toNat).length*K.n):=by
    rw[List.take_take];congr 1
    exact(Nat.min_eq_left (Nat.mul_le_mul_right _ (by omega))).symm
   rw[this,g5,←hl1,List.take_left]
theorem Qny{s x:Operand}{t u e bytes:Nat}{m:Int}{z:α}{cz:List Value}{lm:List α}(ho:ops[i]?=some o)(hop:o.op= .call {callee:= .builtin .append,args:= #[s,x],argTypes:= #[t,u] })(hg:guardOf ops E o=some true)(hd:o.dst=some d)(hE:Env a n ds E)(hn:Nat.blt d n=true)
  (hS:Stp g w0 D0 L0 w D L) (hs:Yt E s=some (.slice none 0 0)) (hx:Yt E x=some (.int .i64 m))
  (hT:slT P t=some (e,K.n,bytes,K.n)) (hu:yB P u=some .i64) (hzv:((P.info? e).bind (·.zero)).map QV=some cz) (hz:K.r D z cz) (hpos:Nat.blt 0 K.n=true) (hb1:Nat.blt 0 bytes=true) (hfit:Qai bytes z m=some lm)
  (k:∀a A' cap' q' w',qc [] w w'→Env a n ds ((d,.slice A' lm.length cap')::E)→OwnD K e D A' cap' lm q'→Stp g w0 D0 L0 w' D (q'::L)→C a w'):Op1 P ρ ops Q i C a w:=by
 obtain⟨h1,ii,z0,h2,h3,h4,h5,h6⟩:=Xa hT
 have hpos':0<K.n:=by simpa[Nat.blt_eq] using hpos
 have hb1':0<bytes:=by simpa[Nat.blt_eq] using hb1
 have hz0:QV z0=cz:=by simpa[h2,h3] using hzv
 have hf:0≤m∧m*bytes≤140737488355328∧lm=List.replicate m.toNat z:=by
  unfold Qai at hfit
  cases hd:(decide (0≤m)&&decide (m*bytes≤140737488355328))with
  |true=>
   rw[hd]at hfit
   simp only[Qd,decide_eq_true_eq]at hd
   simp only[Qg,Qa]at hfit
   exact⟨hd.1,hd.2,hfit.symm⟩
  |false=>rw[hd]at hfit;cases hfit
 obtain⟨hm0,hmb,rfl⟩:=hf
 obtain⟨N,rfl⟩:=Int.eq_ofNat_of_zero_le hm0
 have hNb:N*bytes≤140737488355328:=by
  have h:((N*bytes:Nat):Int)≤140737488355328:=by rw[Int.natCast_mul];exact hmb
  omega
 have hN:N≤140737488355328:=Nat.le_trans (Nat.le_mul_of_pos_right N hb1') hNb
 have hwrap:IntKind.i64.wrap (N:Int)=(N:Int):=by
  exact IntWalk.i64_in _ (by omega)
 have hintu:=ZV hu
 simp only[Int.toNat_natCast]at k⊢
 have hzeros:(Builtin.zeroCells z0.cells N).toList=(qX cz N):=by
  have:Builtin.zeroCells z0.cells N=(qX (QV z0) N).toArray:=by
   rw[qf]
   simp only[Builtin.zeroCells]
   rw[Qik _ _ (by rw[List.size_toArray,h6];exact hpos')]
  rw[this,hz0]
 have hrl:∀N,RL K D (List.replicate N z) (qX cz N):=by
  intro N
  induction N with
  |zero=>rfl
  |succ N ih=>exact⟨cz,qX cz N,rfl,hz,ih⟩
 by_cases hN0:N=0
 ·subst hN0
  refine XQ (v:= .slice none 0 0) (w':=w) hE ho hg (by simp[hd,Jv,hn]) (by simp[hop,QY]) ?_ ?_
  ·simp[execOp,hop,resolve,hE.eval hs,hE.eval hx,invoke,builtin,Builtin.append_,Ql h1,Ql hintu,sizeOf,typeInfo,h2,asInt,asIntOf,show IntKind.i64.wrap 0=0 from by decide]
  ·rw[hd]
   intro a' h'
   exact k a' none 0 none w (qc.refl _ _) h' (OwnD.nil K e D) hS.nils
 ·have hnot: ¬(N≤0):=by omega
  have h63: ¬((9223372036854775807:Int)<(N:Int)):=by omega
  have h48: ¬(281474976710656<Builtin.nextslicecap N 0*bytes):=by rw[nextslicecap_zero (by omega)];omega
  have h48a: ¬((281474976710656:Int)<(N:Int)*(bytes:Int)):=by
   omega
  have hge:=grownCap_ge w N 0 e
  have hcm:grownCap w N 0 e≤maxLen:=grownCap_le_maxLen w N 0 e (by simp only[maxLen];omega)
  refine XQ (v:= .slice (some ⟨w.heap.size,0,none⟩) N (grownCap w N 0 e)) (w':=w.drew.alloc (.cells (Builtin.zeroCells z0.cells N++Builtin.zeroCells z0.cells (grownCap w N 0 e-N)) e)) hE ho hg (by simp[hd,Jv,hn]) (by simp[hop,QY]) ?_ ?_
  ·have hN00: ¬(N*ii.size=0):=by rw[h4];exact Nat.mul_ne_zero hN0 (by omega)
   simp[execOp,hop,resolve,hE.eval hs,hE.eval hx,invoke,builtin,Builtin.append_,Ql h1,Ql hintu,sizeOf,typeInfo,zeroValue,h2,h3,asInt,asIntOf,hwrap,h5,h48a,hN0,h63,h48,Question.forced,newRow,grownCap,Builtin.firstCells]
   rw[if_neg (by omega),if_neg hN00]
  ·rw[hd]
   intro a' h'
   have hsz2:(Builtin.zeroCells z0.cells N).size=N*K.n:=by rw[size_zeroCells,Qag,h6]
   refine k a' _ _ (some (w.heap.size,(.cells (Builtin.zeroCells z0.cells N++Builtin.zeroCells z0.cells (grownCap w N 0 e-N)) e (0,0),0))) _ ⟨by simp,fun b hb _=>heap_alloc_old w.drew _ b hb⟩ (by simpa[upd] using h') ⟨qX cz N,⟨rfl,by simpa using hge,hcm,?_,_,0,rfl,Nat.zero_le _,fun _=>rfl,?_,?_⟩,hrl N⟩ (hS.drew.alloc _)
   ·rw[jv,←hz0,h6,List.length_replicate]
   ·rw[Array.size_append,hsz2,size_zeroCells,Qag,h6,←Nat.add_mul]
    congr 1
    omega
   ·rw[List.length_replicate,Array.toList_append,hzeros]
    have:N*K.n=(qX cz N).length:=by rw[jv,←hz0,h6]
    rw[this,List.take_left]
end
end Go.Sep
set_option linter.unusedVariables false
set_option linter.unusedSimpArgs false
namespace Go.Sep
def EqR(P:Program)(d:Nat)(t:TypeId)(u v:Value)(b:Bool):Prop:=∀w,(Op.equalIn d t u v).run P w= .ok b w
section
variable {P:Program}
theorem QoS{d t:Nat}{k:IntKind}{x y:Int}(h:yB P t=some k):EqR P (d+1) t (.int k x) (.int k y) (decide (x=y)):=fun w=>by
 rw[Op.equalIn]
 simp only[Sem.run_bind,Ql (ZV h),Result.andThen_ok,if_true]
 rfl
theorem QrE{d t:Nat}{x y:Bool}(h:boolT P t=true):EqR P (d+1) t (.bool x) (.bool y) (x==y):=fun w=>by
 rw[Op.equalIn]
 simp only[Sem.run_bind,Ql (QdX h),Result.andThen_ok]
 rfl
theorem QrF{α:Type}{P:Program}(w:World)(c:α→Bool)(body:α→Option Bool×Unit→Sem (ForInStep (Option Bool×Unit))):∀(l:List α),
  (∀x,x∈l→(body x (none,())).run P w= .ok (if c x=true then ForInStep.yield (none,())else ForInStep.done (some false,())) w)→
  (forIn l (none,()) body).run P w= .ok (if l.all c=true then(none,())else(some false,())) w:=by
 intro l
 induction l with
 |nil=>intro _;rfl
 | cons x l ih=>
  intro h
  rw[List.forIn_cons,Sem.run_bind,h x (by simp)]
  simp only[Result.andThen_ok]
  cases hc:c x with
  |true=>
   simp only[if_true]
   rw[ih (fun y hy=>h y (by simp[hy]))]
   simp[hc]
  |false=>simp[hc]
theorem Qt3{d t N:Nat}{k:IntKind}{u v:Vector Int N}(h:yV P t=some (N,k)):EqR P (d+1+1) t (.agg (List.toArray (Q4 k N u))) (.agg (List.toArray (Q4 k N v))) (decide (u=v)):=fun w=>by
 obtain⟨e,i,h1,h2,h3,h4⟩:=Xg h
 have hk:yB P e=some k:=by simp[yB,h2]
 rw[Op.equalIn]
 have hsz:(Go.sizeOf e).run P w= .ok 1 w:=by simp[Go.sizeOf,typeInfo,h3,h4]
 simp only[Sem.run_bind,Ql h1,Result.andThen_ok,hsz]
 simp only[Std.Legacy.Range.forIn_eq_forIn_range',Std.Legacy.Range.size,Nat.sub_zero,Nat.add_sub_cancel,Nat.div_one]
 rw[QrF w (fun j=>decide (vget u j=vget v j)) _ _ (fun j hj=> ?_)]
 ·simp only[Result.andThen_ok]
  have key:(List.range' 0 N).all (fun j=>decide (vget u j=vget v j))=decide (u=v):=by
   rw[Bool.eq_iff_iff]
   simp only[List.all_eq_true,decide_eq_true_eq,List.mem_range'_1]
   constructor
   ·intro hall
    apply Vector.ext
    intro j hj
    have:=hall j ⟨Nat.zero_le _,by omega⟩
    simpa[vget,hj] using this
   ·rintro rfl j _;rfl
  rw[key]
  cases decide (u=v)<;>rfl
 ·have hjN:j<N:=by simp only[List.mem_range'_1]at hj;omega
  simp only[Sem.run_bind,QfV h2 _ hjN,Result.andThen_ok]
  rw[QoS hk w]
  simp only[Result.andThen_ok]
  cases decide (vget u j=vget v j)<;>rfl
theorem Qil{t:TypeId}{cs:List Value}{off:Nat}{v:Value}(hv:ldv P t cs off=some v)(w:World):(part t cs.toArray off).run P w= .ok v w:=by
 rcases QfP hv with⟨ii,hi,hagg,hle,rfl⟩|⟨hagg,hv⟩
 ·simp[part,hagg,Go.sizeOf,typeInfo,hi]
 ·simp[part,hagg,hv]
def EqFs(P:Program)(d:Nat)(xs ys:List Value):List Field→Bool→Prop
 | [],b=>b=true
 |f::fs,b=>∃u v b1 b2,(f.name== "_")=false∧ldv P f.type xs f.offset=some u∧ldv P f.type ys f.offset=some v∧EqR P d f.type u v b1∧EqFs P d xs ys fs b2∧b=(b1&&b2)
def Qim(P:Program)(t:TypeId):Option (List Field):=
 match P.underlying t with
 |some (.struct fs)=>bif P.stoodInHeld t then none else some fs.toList
 |_=>none
theorem QjM{t:Nat}{fs:List Field}(h:Qim P t=some fs):P.underlying t=some (.struct fs.toArray)∧P.stoodInHeld t=false:=by
 unfold Qim at h
 split at h
 ·rename_i hu
  cases hs:P.stoodInHeld t with
  |true=>rw[hs]at h;cases h
  |false=>rw[hs]at h;simp only[Qh,Qa]at h;subst h;exact⟨by simpa using hu,rfl⟩
 ·cases h
theorem QrG{d:Nat}{xs ys:List Value}(w:World):∀(fs:List Field) (b:Bool),EqFs P d xs ys fs b→
  (forIn fs ((none:Option Bool),()) fun f _=>(if f.name≠ "_" then do
   if !(←Op.equalIn d f.type (←part f.type xs.toArray f.offset) (←part f.type ys.toArray f.offset))then pure (ForInStep.done (some false,()))else pure (ForInStep.yield (none,()))
   else pure (ForInStep.yield (none,())):Sem (ForInStep (Option Bool×Unit)))).run P w= .ok (if b=true then(none,())else(some false,())) w:=by
 intro fs
 induction fs with
 |nil=>intro b h;simp only[EqFs]at h;subst h;rfl
 | cons f fs ih=>
  intro b h
  obtain⟨u,v,b1,b2,hn,hu,hv,he,hr,rfl⟩:=h
  have hn':f.name≠ "_" :=by simpa using hn
  rw[List.forIn_cons,Sem.run_bind]
  simp only[hn',ne_eq,not_false_eq_true,if_true,Sem.run_bind,Qil hu,Qil hv,Result.andThen_ok,he w]
  cases b1 with
  |true=>
   simp only[Bool.not_true,Bool.false_eq_true,if_false,Sem.run_pure,Result.andThen_ok,Bool.true_and]
   have:=ih b2 hr
   simpa only[ne_eq] using this
  |false=>rfl
theorem Qnz{d t:Nat}{xs ys:List Value}{fs:List Field}{b:Bool}(h:Qim P t=some fs)(hf:EqFs P d xs ys fs b):EqR P (d+1) t (.agg (List.toArray xs)) (.agg (List.toArray ys)) b:=fun w=>by
 obtain⟨h1,h2⟩:=QjM h
 have hrun:=QrG w fs b hf
 rw[Op.equalIn]
 simp only[Sem.run_bind,Ql h1,Result.andThen_ok,run_program,h2,Bool.false_eq_true,if_false]
 simp only[List.forIn_toArray]
 refine Eq.trans (congrArg (fun r=>Result.andThen r _) ?_) (?_:Result.andThen (.ok (if b=true then(none,())else(some false,())) w) _=_)
 ·exact hrun
 ·cases b<;>rfl
theorem Qt4{t:TypeId}{x y:Operand}{u v:Value}{b:Bool}(hg:∀w,(eqGuard .eql t x y u v).run P w= .ok () w)(h:EqR P (9999+1) t u v b)
  (hb:binOp .eql t u v=(do pure (.bool (←Op.equal t u v)))) (w:World):(do eqGuard .eql t x y u v;binOp .eql t u v:Sem Value).run P w= .ok (.bool b) w:=by
 refine yU hg (fun w=> ?_) w
 rw[hb,yF,Sem.run_bind,h w]
 rfl
theorem Qt5{t:TypeId}{x y:Operand}{u v:Value}{b:Bool}(hg:∀w,(eqGuard .neq t x y u v).run P w= .ok () w)(h:EqR P (9999+1) t u v b)
  (hb:binOp .neq t u v=(do pure (.bool (!(←Op.equal t u v))))) (w:World):(do eqGuard .neq t x y u v;binOp .neq t u v:Sem Value).run P w= .ok (.bool (!b)) w:=by
 refine yU hg (fun w=> ?_) w
 rw[hb,yF,Sem.run_bind,h w]
 rfl
theorem QjN{op:BinOp}{t:TypeId}{x y:Operand}{xs ys:Array Value}(h:P.eqGuardType P.depth t=false)(w:World):(eqGuard op t x y (.agg xs) (.agg ys)).run P w= .ok () w:=by
 cases op<;>simp[eqGuard,h]
theorem QoT{t:TypeId}{x y:Operand}{xs ys:Array Value}{b:Bool}(hg:P.eqGuardType P.depth t=false)(h:EqR P (9999+1) t (.agg xs) (.agg ys) b)(w:World):(do eqGuard .eql t x y (.agg xs) (.agg ys);binOp .eql t (.agg xs) (.agg ys):Sem Value).run P w= .ok (.bool b) w:=
 Qt4 (QjN hg) h rfl w
theorem QoU{t:TypeId}{x y:Operand}{xs ys:Array Value}{b:Bool}(hg:P.eqGuardType P.depth t=false)(h:EqR P (9999+1) t (.agg xs) (.agg ys) b)(w:World):(do eqGuard .neq t x y (.agg xs) (.agg ys);binOp .neq t (.agg xs) (.agg ys):Sem Value).run P w= .ok (.bool (!b)) w:=
 Qt5 (QjN hg) h rfl w
end
def bofL(l:List Int):ByteArray:=l.foldl (fun s n=>s.push (UInt8.ofNat n.toNat)) ByteArray.empty
section
variable {P:Program}{ρ:Option Nat}{ops:Array Oper}{Q:Exit→Act→World→Prop}{a:Act}{n:Nat}{ds:List Deferred}{E:List (Nat×Value)}
variable {g w w0:World}{D D0:Snap}{L L0:List Blk}{i:Nat}{o:Oper}{d:Nat}{C:Act→World→Prop}{C1:Act→Prop}{R:World→World→Prop}
def b2sT(P:Program)(s t:TypeId):Bool:=
 match P.underlying s,P.underlying t with
 |some (.slice e),some .string=>match P.underlying e with|some (.int .u8)=>true|_=>false
 |_,_=>false
theorem QoV{s t:Nat}(h:b2sT P s t=true):∃e,P.underlying s=some (.slice e)∧P.underlying t=some .string∧P.underlying e=some (.int .u8):=by
 unfold b2sT at h
 split at h
 ·rename_i h1 h2
  split at h
  ·rename_i h3;exact⟨_,h1,h2,h3⟩
  ·cases h
 ·cases h
theorem Qll(w:World)(f:Value→ByteArray→Sem (ForInStep ByteArray))(hf:∀n s,f (.int .u8 n) s=pure (ForInStep.yield (s.push (UInt8.ofNat n.toNat)))):∀(l:List Int) (s:ByteArray),
  (forIn (l.map (Value.int .u8)) s f).run P w= .ok (l.foldl (fun s n=>s.push (UInt8.ofNat n.toNat)) s) w:=by
 intro l
 induction l with
 |nil=>intro s;rfl
 |cons x l ih=>
  intro s
  rw[List.map_cons,List.forIn_cons,Sem.run_bind,hf]
  simp only[Sem.run_pure,Result.andThen_ok,List.foldl_cons]
  exact ih _
theorem QvB{s t:TypeId}{x:Operand}{A:Option Addr}{cap:Nat}{l:List Int}(ho:ops[i]?=some o)(hop:o.op= .convert s t x)(hg:guardOf ops E o=some true)(hd:o.dst=some d)(hE:Env a n ds E)(hn:Nat.blt d n=true)
  (_:Stp g w0 D0 L0 w D L) (hx:Yt E x=some (.slice A l.length cap)) (hT:b2sT P s t=true) (hl:Sl (YC .u8) D A cap l) (hM:∀w',R w w'→Sees D w')
  (k:∀a,Env a n ds ((d,.string (bofL l))::E)→C1 a):Tk P ops R i n ds E a w C1:=by
 obtain⟨e,h1,h2,h3⟩:=QoV hT
 obtain⟨_,_,cs,hr,hc⟩:=hl
 have hcs:=QoL.1 hr
 refine ZU (v:= .string (bofL l)) hE ho hg hd hn (by simp[hop,QY]) (fun w' hk=> ?_) k
 have hconv:(convert s t (.slice A l.length cap)).run P w'=(Conv.bytesToString (.slice A l.length cap)).run P w':=by
  simp[convert,Ql h1,Ql h2,Ql h3]
 have hb:(Conv.bytesToString (.slice A l.length cap)).run P w'= .ok (.string (bofL l)) w':=by
  by_cases hl0:l= []
  ·subst hl0
   cases A with
   |none=>simp[Conv.bytesToString,bofL]
   |some p=>simp[Conv.bytesToString,loadCells,loadCellsFrom,bofL]
  ·obtain⟨y0,l',hyl⟩:=List.exists_cons_of_ne_nil hl0
   rcases hc with hnil|⟨b,off,c0,T0,fr0,rfl,hb,hcell0⟩
   ·rw[hcs,hyl]at hnil;simp at hnil
   obtain⟨c,T,fr,hne,hpre⟩:=hM w' hk _ _ _ _ hb _ _ (hcell0 0 (.int .u8 y0) (by rw[hcs,hyl];rfl))
   have hcell:∀j u,cs[j]?=some u→c[off+j]?=some u:=fun j u hu=>hpre _ _ (hcell0 j u hu)
   have hload:=run_loadCells_list (P:=P) (w:=w') ⟨b,off,none⟩ cs (fun j u hu=>by
    rw[addr_add,cell_of_row w' b (off+j) c T fr hne]
    exact hcell j u hu)
   have hlen:cs.length=l.length:=by rw[hcs];simp
   rw[hlen]at hload
   simp only[Conv.bytesToString,Sem.run_bind,hload,Result.andThen_ok,List.forIn_toArray,hcs]
   simp only[bofL]
   rw[Qll (P:=P) w' _ (fun _ _=>rfl) l ByteArray.empty]
   rfl
 simp[execOp,hop,hE.eval hx,hconv,hb]
def s2sT(P:Program)(s:TypeId):Bool:=
 match P.underlying s with
 |some (.slice e)=>match P.underlying e with|some (.int .u8)=>true|_=>false
 |_=>false
theorem QoW{s:Nat}(h:s2sT P s=true):∃e,P.underlying s=some (.slice e)∧P.underlying e=some (.int .u8):=by
 unfold s2sT at h
 split at h
 ·rename_i h1
  split at h
  ·rename_i h3;exact⟨_,h1,h3⟩
  ·cases h
 ·cases h
theorem QvC{T s:TypeId}{x:Operand}{A:Option Addr}{l:List Int}{q:Blk}{cap:Nat}(ho:ops[i]?=some o)(hop:o.op= .convert s s x)(hg:guardOf ops E o=some true)(hd:o.dst=some d)(hE:Env a n ds E)(hn:Nat.blt d n=true)
  (hS:Stp g w0 D0 L0 w D (q::L)) (hx:Yt E x=some (.slice A l.length cap)) (hT:s2sT P s=true) (hl:OwnD (YC .u8) T D A cap l q) (hpos:Nat.blt 0 l.length=true)
  (k:∀a D' w',qc (ids [q]) w w'→D.le D'→Env a n ds ((d,.slice A l.length cap)::E)→Sl (YC .u8) D' A cap l→Stp g w0 D0 L0 w' D' L→C a w'):Op1 P ρ ops Q i C a w:=by
 obtain⟨e,h1,h3⟩:=QoW hT
 obtain⟨cs,hO,hr⟩:=hl
 cases q with
 |none=>
  have h0:=(hO.2.2.2.2 rfl).2
  have:0<l.length:=by simpa[Nat.blt_eq] using hpos
  omega
 | some p=>
  obtain⟨b,u⟩:=p
  obtain⟨rfl,g1,g2,g3,Cl,k0,rfl,_,hk0,g4,g5⟩:=hO
  obtain rfl:=hk0 rfl
  have hh:=hS.heap0
  have hsh:w.shape? b=some (T,Cl.size):=by simp[World.shape?,hh]
  refine XQ (v:= .slice (some ⟨b,0,none⟩) l.length cap) (w':=w.freeze {block:=b,off:=Cl.size} 1) hE ho hg (by simp[hd,Jv,hn]) (by simp[hop,QY]) ?_ ?_
  ·simp[execOp,hop,hE.eval hx,convert,Ql h1,Ql h3,markStringish,hsh]
  ·rw[hd]
   intro a' h'
   have hfz:(w.freeze {block:=b,off:=Cl.size} 1).heap[b]?=some (.cells Cl T (Cl.size,Cl.size+1)):=by
    simp only[World.freeze,Nat.one_ne_zero,if_false]
    rw[Array.getElem?_modify,if_pos rfl,hh]
    rfl
   have hoth:∀k,k≠b→(w.freeze {block:=b,off:=Cl.size} 1).heap[k]?=w.heap[k]?:=fun k hk=>by
    simp only[World.freeze,Nat.one_ne_zero,if_false]
    rw[Array.getElem?_modify,if_neg (Ne.symm hk)]
   have hsize:(w.freeze {block:=b,off:=Cl.size} 1).heap.size=w.heap.size:=by simp[World.freeze]
   have hS':=hS.put0 (w':=w.freeze {block:=b,off:=Cl.size} 1) hsize rfl rfl rfl hfz hoth
   obtain⟨hle,hS2⟩:=hS'.freeze (Nat.zero_le _)
   refine k a' _ _ ⟨by rw[hsize];exact Nat.le_refl _,fun k _ hk=>hoth k (by simpa[ids,bid] using hk)⟩ hle h' ⟨g1,g2,cs,hr.mono hle,.inr ⟨b,0,Cl,T,(Cl.size,Cl.size+1),rfl,by simp[Snap.ins],fun j u hu=> ?_⟩⟩ hS2
   rw[←g5,List.getElem?_take]at hu
   split at hu
   ·simpa using hu
   ·cases hu
end
end Go.Sep
