/-
 Shorter forms of the rules: one check for each drawn operation, known values that are added, lists that are chosen and joined.
-/
import Derived.Test.YtomndohdnfebgaaGreatDoorSepG
import Derived.IntWalk
set_option linter.unusedVariables false
set_option linter.unusedSimpArgs false
namespace Go.Sep
theorem Sl.of_none{α:Type}{K:Kd α}{D:Snap}{A:Option Addr}{cap:Nat}{l:List α}(h:Sl K D A cap l)(hA:Option.isNone A=true)(hpos:Nat.blt 0 K.n=true):l= []:=by
 obtain⟨_,_,cs,hr,hc⟩:=h
 have hpos':0<K.n:=by simpa[Nat.blt_eq] using hpos
 cases A with
 |some p=>cases hA
 | none=>
  rcases hc with rfl|⟨b,off,c,T,fr,h,_⟩
  ·have h1:=hr.len
   simp only[List.length_nil]at h1
   rcases Nat.mul_eq_zero.1 h1.symm with h2|h2
   ·exact List.eq_nil_of_length_eq_zero h2
   ·omega
  ·cases h
def QaE{α:Type}(bytes:Nat)(z:α)(n:Int):Option (List α):=bif (decide (0≤n)&&decide (n*bytes≤140737488355328))then some (List.replicate n.toNat z)else none
section
variable {P:Program}{ρ:Option Nat}{ops:Array Oper}{Q:Exit→Act→World→Prop}{a:Act}{n:Nat}{ds:List Deferred}{E:List (Nat×Value)}
variable {g w w0:World}{D D0:Snap}{L L0:List Blk}{i:Nat}{o:Oper}{d:Nat}{C:Act→World→Prop}{C1:Act→Prop}{R:World→World→Prop}
variable {α:Type}{K:Kd α}
theorem QlU{t e sz by_ zl:Nat}{x:Operand}{lo hi:Option Operand}(ho:ops[i]?=some o)(hop:o.op= .slice t x lo hi none)(hg:guardOf ops E o=some true)(hd:o.dst=some d)(hE:Env a n ds E)(hn:Nat.blt d n=true)
  (hx:Yt E x=some (.slice none 0 0)) (hT:slT P t=some (e,sz,by_,zl)) (hlo:QaD E lo 0 0) (hhi:QaD E hi 0 0)
  (k:∀a,Env a n ds ((d,.slice none 0 0)::E)→C1 a):Tk P ops R i n ds E a w C1:=by
 obtain⟨h1,ii,z,h2,_,h4,_⟩:=yT hT
 refine ZO (v:= .slice none 0 0) hE ho hg hd hn (by simp[hop,Q5]) (fun w' _=> ?_) k
 have hsb:=jl (P:=P) (w:=w') (isS:=true) (len:=0) (cap:=0) hE hlo hhi (Int.le_refl _) (Int.le_refl _) (Int.le_refl _)
 simp only[Int.toNat_zero]at hsb
 simp[execOp,hop,Instr.sliceAt,hE.eval hx,Ql h1,Instr.slice,hsb,sizeOf,typeInfo,h2]
theorem Qkg{t:Nat}{x:Operand}{m c:Nat}{A:Option Addr}(ho:ops[i]?=some o)(hop:o.op= .call {callee:= .builtin .cap,args:= #[x],argTypes:= #[t] })(hg:guardOf ops E o=some true)(hd:o.dst=some d)(hE:Env a n ds E)(hn:Nat.blt d n=true)
  (hx:Yt E x=some (.slice A m c)) (hT:sliceT P t=true)
  (k:∀a,Env a n ds ((d,.int .i64 (c:Int))::E)→C1 a):Tk P ops R i n ds E a w C1:=by
 obtain⟨e,he⟩:=Qdf hT
 refine ZO (v:= .int .i64 (c:Int)) hE ho hg hd hn (by simp[hop,Q5]) (fun w' _=> ?_) k
 simp[execOp,hop,resolve,hE.eval hx,invoke,builtin,Builtin.cap_,Ql he,goInt]
theorem Qik{T t by_ zl:Nat}{x:Operand}{hi:Option Operand}{zh:Int}{A:Option Addr}{cap:Nat}{l m:List α}{q:Blk}(ho:ops[i]?=some o)(hop:o.op= .slice t x none hi none)(hg:guardOf ops E o=some true)(hd:o.dst=some d)(hE:Env a n ds E)(hn:Nat.blt d n=true)
  (hx:Yt E x=some (.slice A l.length cap)) (hT:slT P t=some (T,K.n,by_,zl)) (hhi:QaD E hi l.length zh) (hl:OwnD K T D A cap l q) (hm:subI l 0 zh=some m)
  (k:∀a,Env a n ds ((d,.slice A m.length cap)::E)→OwnD K T D A cap m q→C1 a):Tk P ops R i n ds E a w C1:=by
 obtain⟨h1,ii,z,h2,_,h4,_⟩:=yT hT
 obtain⟨h0,h01,hle,rfl⟩:=Qdv hm
 have hcap:l.length≤cap:=hl.lc.1
 obtain⟨cs,hO,hr⟩:=hl
 have hlen:((l.take zh.toNat).drop (0:Int).toNat).length=zh.toNat:=by simp;omega
 have hsb:=fun w'=>jl (P:=P) (w:=w') (isS:=true) (len:=l.length) (cap:=cap) (lo:=none) hE rfl hhi (Int.le_refl 0) h01 (by omega)
 have hA:(if cap=0 then A else A.map (·.add (0*ii.size)))=A:=by
  by_cases hc:cap=0
  ·simp[hc]
  ·cases A with
   |none=>simp
   |some p=>simp[hc,Addr.add]
 refine ZO (v:= .slice A ((l.take zh.toNat).drop (0:Int).toNat).length cap) hE ho hg hd hn (by simp[hop,Q5]) (fun w' _=> ?_) (fun a' h'=>k a' h' ?_)
 ·rw[hlen]
  have hsb':=hsb w'
  simp only[Int.toNat_zero,Option.map_none]at hsb'
  simp only[execOp,hop,Instr.sliceAt,hE.eval hx,Option.map_none,Sem.run_bind,Ql h1,Result.andThen_ok,Instr.slice,hsb',sizeOf,typeInfo,run_program,h2,Sem.run_pure,Nat.sub_zero,hA]
 ·simp only[Int.toNat_zero,List.drop_zero]
  have hspl:l=l.take zh.toNat++l.drop zh.toNat:=(List.take_append_drop _ _).symm
  rw[hspl]at hr
  obtain⟨c1,c2,rfl,hr1,hr2⟩:=hr.split
  have hl1:=hr1.len
  have hl2:(l.take zh.toNat).length=zh.toNat:=by simp;omega
  refine⟨c1,?_,hr1⟩
  cases q with
  | none=>
   obtain⟨g1,g2,g3,g4,g5⟩:=hO
   obtain⟨rfl,g6⟩:=g5 rfl
   have hc1:c1= []:=by
    have:(c1++c2).length=0:=by rw[g4,g6,Nat.zero_mul]
    exact(List.append_eq_nil_iff.1 (List.eq_nil_of_length_eq_zero this)).1
   exact⟨by rw[hl2];omega,by rw[hl2];omega,.inl hc1,by rw[hl1],fun _=>⟨rfl,by rw[hl2];omega⟩⟩
  | some p=>
   obtain⟨b,u⟩:=p
   obtain⟨rfl,g1,g2,g3,Cl,k0,rfl,g6,g7,g4,g5⟩:=hO
   refine⟨rfl,by omega,g2,by rw[hl1],Cl,k0,rfl,by rw[g7 rfl];exact Nat.zero_le _,g7,g4,?_⟩
   have:Cl.toList.take ((l.take zh.toNat).length*K.n)=(Cl.toList.take (l.length*K.n)).take ((l.take zh.toNat).length*K.n):=by
    rw[List.take_take];congr 1
    exact(Nat.min_eq_left (Nat.mul_le_mul_right _ (by omega))).symm
   rw[this,g5,←hl1,List.take_left]
theorem Qok{s x:Operand}{t u e bytes:Nat}{m:Int}{z:α}{cz:List Value}{lm:List α}(ho:ops[i]?=some o)(hop:o.op= .call {callee:= .builtin .append,args:= #[s,x],argTypes:= #[t,u] })(hg:guardOf ops E o=some true)(hd:o.dst=some d)(hE:Env a n ds E)(hn:Nat.blt d n=true)
  (hS:Stp g w0 D0 L0 w D L) (hs:Yt E s=some (.slice none 0 0)) (hx:Yt E x=some (.int .i64 m))
  (hT:slT P t=some (e,K.n,bytes,K.n)) (hu:yP P u=some .i64) (hzv:((P.info? e).bind (·.zero)).map Q4=some cz) (hz:K.r D z cz) (hpos:Nat.blt 0 K.n=true) (hb1:Nat.blt 0 bytes=true) (hfit:QaE bytes z m=some lm)
  (k:∀a A' cap' q' w',qC [] w w'→Env a n ds ((d,.slice A' lm.length cap')::E)→OwnD K e D A' cap' lm q'→Stp g w0 D0 L0 w' D (q'::L)→C a w'):Op1 P ρ ops Q i C a w:=by
 obtain⟨h1,ii,z0,h2,h3,h4,h5,h6⟩:=yT hT
 have hpos':0<K.n:=by simpa[Nat.blt_eq] using hpos
 have hb1':0<bytes:=by simpa[Nat.blt_eq] using hb1
 have hz0:Q4 z0=cz:=by simpa[h2,h3] using hzv
 have hf:0≤m∧m*bytes≤140737488355328∧lm=List.replicate m.toNat z:=by
  unfold QaE at hfit
  cases hd:(decide (0≤m)&&decide (m*bytes≤140737488355328))with
  |true=>
   rw[hd]at hfit
   simp only[Qd,decide_eq_true_eq]at hd
   simp only[Qg,Qa]at hfit
   exact⟨hd.1,hd.2,hfit.symm⟩
  |false=>rw[hd]at hfit;cases hfit
 obtain⟨hm0,hmb,rfl⟩:=hf
 obtain⟨N,rfl⟩:=Int.eq_ofNat_of_zero_le hm0
 have hNb:N*bytes≤140737488355328:=by
  have h:((N*bytes:Nat):Int)≤140737488355328:=by rw[Int.natCast_mul];exact hmb
  omega
 have hN:N≤140737488355328:=Nat.le_trans (Nat.le_mul_of_pos_right N hb1') hNb
 have hwrap:IntKind.i64.wrap (N:Int)=(N:Int):=by
  exact IntWalk.i64_in _ (by omega)
 have hintu:=Qam hu
 simp only[Int.toNat_natCast]at k⊢
 have hzeros:(Builtin.zeroCells z0.cells N).toList=(jh cz N):=by
  have:Builtin.zeroCells z0.cells N=(jh (Q4 z0) N).toArray:=by
   rw[qE]
   simp only[Builtin.zeroCells]
   rw[QiM _ _ (by rw[List.size_toArray,h6];exact hpos')]
  rw[this,hz0]
 have hrl:∀N,RL K D (List.replicate N z) (jh cz N):=by
  intro N
  induction N with
  |zero=>rfl
  |succ N ih=>exact⟨cz,jh cz N,rfl,hz,ih⟩
 by_cases hN0:N=0
 ·subst hN0
  refine Zf (v:= .slice none 0 0) (w':=w) hE ho hg (by simp[hd,JI,hn]) (by simp[hop,Q5]) ?_ ?_
  ·simp[execOp,hop,resolve,hE.eval hs,hE.eval hx,invoke,builtin,Builtin.append_,Ql h1,Ql hintu,sizeOf,typeInfo,h2,asInt,asIntOf,show IntKind.i64.wrap 0=0 from by decide]
  ·rw[hd]
   intro a' h'
   exact k a' none 0 none w (qC.refl _ _) h' (OwnD.nil K e D) hS.nils
 ·have hnot: ¬(N≤0):=by omega
  have h63: ¬((9223372036854775807:Int)<(N:Int)):=by omega
  have h48: ¬(281474976710656<Builtin.nextslicecap N 0*bytes):=by rw[nextslicecap_zero (by omega)];omega
  have h48a: ¬((281474976710656:Int)<(N:Int)*(bytes:Int)):=by
   omega
  have hge:=grownCap_ge w N 0 e
  have hcm:grownCap w N 0 e≤maxLen:=grownCap_le_maxLen w N 0 e (by simp only[maxLen];omega)
  refine Zf (v:= .slice (some ⟨w.heap.size,0,none⟩) N (grownCap w N 0 e)) (w':=w.drew.alloc (.cells (Builtin.zeroCells z0.cells N++Builtin.zeroCells z0.cells (grownCap w N 0 e-N)) e)) hE ho hg (by simp[hd,JI,hn]) (by simp[hop,Q5]) ?_ ?_
  ·have hN00: ¬(N*ii.size=0):=by rw[h4];exact Nat.mul_ne_zero hN0 (by omega)
   simp[execOp,hop,resolve,hE.eval hs,hE.eval hx,invoke,builtin,Builtin.append_,Ql h1,Ql hintu,sizeOf,typeInfo,zeroValue,h2,h3,asInt,asIntOf,hwrap,h5,h48a,hN0,h63,h48,Question.forced,newRow,grownCap,Builtin.firstCells]
   rw[if_neg (by omega),if_neg hN00]
  ·rw[hd]
   intro a' h'
   have hsz2:(Builtin.zeroCells z0.cells N).size=N*K.n:=by rw[size_zeroCells,QaB,h6]
   refine k a' _ _ (some (w.heap.size,(.cells (Builtin.zeroCells z0.cells N++Builtin.zeroCells z0.cells (grownCap w N 0 e-N)) e (0,0),0))) _ ⟨by simp,fun b hb _=>heap_alloc_old w.drew _ b hb⟩ (by simpa[upd] using h') ⟨jh cz N,⟨rfl,by simpa using hge,hcm,?_,_,0,rfl,Nat.zero_le _,fun _=>rfl,?_,?_⟩,hrl N⟩ (hS.drew.alloc _)
   ·rw[jH,←hz0,h6,List.length_replicate]
   ·rw[Array.size_append,hsz2,size_zeroCells,QaB,h6,←Nat.add_mul]
    congr 1
    omega
   ·rw[List.length_replicate,Array.toList_append,hzeros]
    have:N*K.n=(jh cz N).length:=by rw[jH,←hz0,h6]
    rw[this,List.take_left]
end
def EqR(P:Program)(d:Nat)(t:TypeId)(u v:Value)(b:Bool):Prop:=∀w,(Op.equalIn d t u v).run P w= .ok b w
section
variable {P:Program}
theorem QpI{d t:Nat}{k:IntKind}{x y:Int}(h:yP P t=some k):EqR P (d+1) t (.int k x) (.int k y) (decide (x=y)):=fun w=>by
 rw[Op.equalIn]
 simp only[Sem.run_bind,Ql (Qam h),Result.andThen_ok,if_true]
 rfl
theorem QsJ{d t:Nat}{x y:Bool}(h:boolT P t=true):EqR P (d+1) t (.bool x) (.bool y) (x==y):=fun w=>by
 rw[Op.equalIn]
 simp only[Sem.run_bind,Ql (Qek h),Result.andThen_ok]
 rfl
theorem QsK{α:Type}{P:Program}(w:World)(c:α→Bool)(body:α→Option Bool×Unit→Sem (ForInStep (Option Bool×Unit))):∀(l:List α),
  (∀x,x∈l→(body x (none,())).run P w= .ok (if c x=true then ForInStep.yield (none,())else ForInStep.done (some false,())) w)→
  (forIn l (none,()) body).run P w= .ok (if l.all c=true then(none,())else(some false,())) w:=by
 intro l
 induction l with
 |nil=>intro _;rfl
 | cons x l ih=>
  intro h
  rw[List.forIn_cons,Sem.run_bind,h x (by simp)]
  simp only[Result.andThen_ok]
  cases hc:c x with
  |true=>
   simp only[if_true]
   rw[ih (fun y hy=>h y (by simp[hy]))]
   simp[hc]
  |false=>simp[hc]
theorem Qvd{d t N:Nat}{k:IntKind}{u v:Vector Int N}(h:Xo P t=some (N,k)):EqR P (d+1+1) t (.agg (List.toArray (Ya k N u))) (.agg (List.toArray (Ya k N v))) (decide (u=v)):=fun w=>by
 obtain⟨e,i,h1,h2,h3,h4⟩:=XG h
 have hk:yP P e=some k:=by simp[yP,h2]
 rw[Op.equalIn]
 have hsz:(Go.sizeOf e).run P w= .ok 1 w:=by simp[Go.sizeOf,typeInfo,h3,h4]
 simp only[Sem.run_bind,Ql h1,Result.andThen_ok,hsz]
 simp only[Std.Legacy.Range.forIn_eq_forIn_range',Std.Legacy.Range.size,Nat.sub_zero,Nat.add_sub_cancel,Nat.div_one]
 rw[QsK w (fun j=>decide (vget u j=vget v j)) _ _ (fun j hj=> ?_)]
 ·simp only[Result.andThen_ok]
  have key:(List.range' 0 N).all (fun j=>decide (vget u j=vget v j))=decide (u=v):=by
   rw[Bool.eq_iff_iff]
   simp only[List.all_eq_true,decide_eq_true_eq,List.mem_range'_1]
   constructor
   ·intro hall
    apply Vector.ext
    intro j hj
    have:=hall j ⟨Nat.zero_le _,by omega⟩
    simpa[vget,hj] using this
   ·rintro rfl j _;rfl
  rw[key]
  cases decide (u=v)<;>rfl
 ·have hjN:j<N:=by simp only[List.mem_range'_1]at hj;omega
  simp only[Sem.run_bind,Qgg h2 _ hjN,Result.andThen_ok]
  rw[QpI hk w]
  simp only[Result.andThen_ok]
  cases decide (vget u j=vget v j)<;>rfl
theorem QiN{t:TypeId}{cs:List Value}{off:Nat}{v:Value}(hv:ldv P t cs off=some v)(w:World):(part t cs.toArray off).run P w= .ok v w:=by
 rcases Qgb hv with⟨ii,hi,hagg,hle,rfl⟩|⟨hagg,hv⟩
 ·simp[part,hagg,Go.sizeOf,typeInfo,hi]
 ·simp[part,hagg,hv]
def EqFs(P:Program)(d:Nat)(xs ys:List Value):List Field→Bool→Prop
 | [],b=>b=true
 |f::fs,b=>∃u v b1 b2,(f.name== "_")=false∧ldv P f.type xs f.offset=some u∧ldv P f.type ys f.offset=some v∧EqR P d f.type u v b1∧EqFs P d xs ys fs b2∧b=(b1&&b2)
def QiO(P:Program)(t:TypeId):Option (List Field):=
 match P.underlying t with
 |some (.struct fs)=>bif P.stoodInHeld t then none else some fs.toList
 |_=>none
theorem Qkh{t:Nat}{fs:List Field}(h:QiO P t=some fs):P.underlying t=some (.struct fs.toArray)∧P.stoodInHeld t=false:=by
 unfold QiO at h
 split at h
 ·rename_i hu
  cases hs:P.stoodInHeld t with
  |true=>rw[hs]at h;cases h
  |false=>rw[hs]at h;simp only[Qh,Qa]at h;subst h;exact⟨by simpa using hu,rfl⟩
 ·cases h
theorem QsL{d:Nat}{xs ys:List Value}(w:World):∀(fs:List Field) (b:Bool),EqFs P d xs ys fs b→
  (forIn fs ((none:Option Bool),()) fun f _=>(if f.name≠ "_" then do
   if !(←Op.equalIn d f.type (←part f.type xs.toArray f.offset) (←part f.type ys.toArray f.offset))then pure (ForInStep.done (some false,()))else pure (ForInStep.yield (none,()))
   else pure (ForInStep.yield (none,())):Sem (ForInStep (Option Bool×Unit)))).run P w= .ok (if b=true then(none,())else(some false,())) w:=by
 intro fs
 induction fs with
 |nil=>intro b h;simp only[EqFs]at h;subst h;rfl
 | cons f fs ih=>
  intro b h
  obtain⟨u,v,b1,b2,hn,hu,hv,he,hr,rfl⟩:=h
  have hn':f.name≠ "_" :=by simpa using hn
  rw[List.forIn_cons,Sem.run_bind]
  simp only[hn',ne_eq,not_false_eq_true,if_true,Sem.run_bind,QiN hu,QiN hv,Result.andThen_ok,he w]
  cases b1 with
  |true=>
   simp only[Bool.not_true,Bool.false_eq_true,if_false,Sem.run_pure,Result.andThen_ok,Bool.true_and]
   have:=ih b2 hr
   simpa only[ne_eq] using this
  |false=>rfl
theorem Qol{d t:Nat}{xs ys:List Value}{fs:List Field}{b:Bool}(h:QiO P t=some fs)(hf:EqFs P d xs ys fs b):EqR P (d+1) t (.agg (List.toArray xs)) (.agg (List.toArray ys)) b:=fun w=>by
 obtain⟨h1,h2⟩:=Qkh h
 have hrun:=QsL w fs b hf
 rw[Op.equalIn]
 simp only[Sem.run_bind,Ql h1,Result.andThen_ok,run_program,h2,Bool.false_eq_true,if_false]
 simp only[List.forIn_toArray]
 refine Eq.trans (congrArg (fun r=>Result.andThen r _) ?_) (?_:Result.andThen (.ok (if b=true then(none,())else(some false,())) w) _=_)
 ·exact hrun
 ·cases b<;>rfl
theorem Qve{t:TypeId}{x y:Operand}{u v:Value}{b:Bool}(hg:∀w,(eqGuard .eql t x y u v).run P w= .ok () w)(h:EqR P (9999+1) t u v b)
  (hb:binOp .eql t u v=(do pure (.bool (←Op.equal t u v)))) (w:World):(do eqGuard .eql t x y u v;binOp .eql t u v:Sem Value).run P w= .ok (.bool b) w:=by
 refine Xn hg (fun w=> ?_) w
 rw[hb,yU,Sem.run_bind,h w]
 rfl
theorem Qvf{t:TypeId}{x y:Operand}{u v:Value}{b:Bool}(hg:∀w,(eqGuard .neq t x y u v).run P w= .ok () w)(h:EqR P (9999+1) t u v b)
  (hb:binOp .neq t u v=(do pure (.bool (!(←Op.equal t u v))))) (w:World):(do eqGuard .neq t x y u v;binOp .neq t u v:Sem Value).run P w= .ok (.bool (!b)) w:=by
 refine Xn hg (fun w=> ?_) w
 rw[hb,yU,Sem.run_bind,h w]
 rfl
theorem Qki{op:BinOp}{t:TypeId}{x y:Operand}{xs ys:Array Value}(h:P.eqGuardType P.depth t=false)(w:World):(eqGuard op t x y (.agg xs) (.agg ys)).run P w= .ok () w:=by
 cases op<;>simp[eqGuard,h]
theorem QpJ{t:TypeId}{x y:Operand}{xs ys:Array Value}{b:Bool}(hg:P.eqGuardType P.depth t=false)(h:EqR P (9999+1) t (.agg xs) (.agg ys) b)(w:World):(do eqGuard .eql t x y (.agg xs) (.agg ys);binOp .eql t (.agg xs) (.agg ys):Sem Value).run P w= .ok (.bool b) w:=
 Qve (Qki hg) h rfl w
theorem QpK{t:TypeId}{x y:Operand}{xs ys:Array Value}{b:Bool}(hg:P.eqGuardType P.depth t=false)(h:EqR P (9999+1) t (.agg xs) (.agg ys) b)(w:World):(do eqGuard .neq t x y (.agg xs) (.agg ys);binOp .neq t (.agg xs) (.agg ys):Sem Value).run P w= .ok (.bool (!b)) w:=
 Qvf (Qki hg) h rfl w
end
def bofL(l:List Int):ByteArray:=l.foldl (fun s n=>s.push (UInt8.ofNat n.toNat)) ByteArray.empty
section
variable {P:Program}{ρ:Option Nat}{ops:Array Oper}{Q:Exit→Act→World→Prop}{a:Act}{n:Nat}{ds:List Deferred}{E:List (Nat×Value)}
variable {g w w0:World}{D D0:Snap}{L L0:List Blk}{i:Nat}{o:Oper}{d:Nat}{C:Act→World→Prop}{C1:Act→Prop}{R:World→World→Prop}
def b2sT(P:Program)(s t:TypeId):Bool:=
 match P.underlying s,P.underlying t with
 |some (.slice e),some .string=>match P.underlying e with|some (.int .u8)=>true|_=>false
 |_,_=>false
theorem QpL{s t:Nat}(h:b2sT P s t=true):∃e,P.underlying s=some (.slice e)∧P.underlying t=some .string∧P.underlying e=some (.int .u8):=by
 unfold b2sT at h
 split at h
 ·rename_i h1 h2
  split at h
  ·rename_i h3;exact⟨_,h1,h2,h3⟩
  ·cases h
 ·cases h
theorem QlV(w:World)(f:Value→ByteArray→Sem (ForInStep ByteArray))(hf:∀n s,f (.int .u8 n) s=pure (ForInStep.yield (s.push (UInt8.ofNat n.toNat)))):∀(l:List Int) (s:ByteArray),
  (forIn (l.map (Value.int .u8)) s f).run P w= .ok (l.foldl (fun s n=>s.push (UInt8.ofNat n.toNat)) s) w:=by
 intro l
 induction l with
 |nil=>intro s;rfl
 |cons x l ih=>
  intro s
  rw[List.map_cons,List.forIn_cons,Sem.run_bind,hf]
  simp only[Sem.run_pure,Result.andThen_ok,List.foldl_cons]
  exact ih _
theorem QwK{s t:TypeId}{x:Operand}{A:Option Addr}{cap:Nat}{l:List Int}(ho:ops[i]?=some o)(hop:o.op= .convert s t x)(hg:guardOf ops E o=some true)(hd:o.dst=some d)(hE:Env a n ds E)(hn:Nat.blt d n=true)
  (_:Stp g w0 D0 L0 w D L) (hx:Yt E x=some (.slice A l.length cap)) (hT:b2sT P s t=true) (hl:Sl (YJ .u8) D A cap l) (hM:∀w',R w w'→Sees D w')
  (k:∀a,Env a n ds ((d,.string (bofL l))::E)→C1 a):Tk P ops R i n ds E a w C1:=by
 obtain⟨e,h1,h2,h3⟩:=QpL hT
 obtain⟨_,_,cs,hr,hc⟩:=hl
 have hcs:=QpA.1 hr
 refine ZO (v:= .string (bofL l)) hE ho hg hd hn (by simp[hop,Q5]) (fun w' hk=> ?_) k
 have hconv:(convert s t (.slice A l.length cap)).run P w'=(Conv.bytesToString (.slice A l.length cap)).run P w':=by
  simp[convert,Ql h1,Ql h2,Ql h3]
 have hb:(Conv.bytesToString (.slice A l.length cap)).run P w'= .ok (.string (bofL l)) w':=by
  by_cases hl0:l= []
  ·subst hl0
   cases A with
   |none=>simp[Conv.bytesToString,bofL]
   |some p=>simp[Conv.bytesToString,loadCells,loadCellsFrom,bofL]
  ·obtain⟨y0,l',hyl⟩:=List.exists_cons_of_ne_nil hl0
   rcases hc with hnil|⟨b,off,c0,T0,fr0,rfl,hb,hcell0⟩
   ·rw[hcs,hyl]at hnil;simp at hnil
   obtain⟨c,T,fr,hne,hpre⟩:=hM w' hk _ _ _ _ hb _ _ (hcell0 0 (.int .u8 y0) (by rw[hcs,hyl];rfl))
   have hcell:∀j u,cs[j]?=some u→c[off+j]?=some u:=fun j u hu=>hpre _ _ (hcell0 j u hu)
   have hload:=run_loadCells_list (P:=P) (w:=w') ⟨b,off,none⟩ cs (fun j u hu=>by
    rw[addr_add,cell_of_row w' b (off+j) c T fr hne]
    exact hcell j u hu)
   have hlen:cs.length=l.length:=by rw[hcs];simp
   rw[hlen]at hload
   simp only[Conv.bytesToString,Sem.run_bind,hload,Result.andThen_ok,List.forIn_toArray,hcs]
   simp only[bofL]
   rw[QlV (P:=P) w' _ (fun _ _=>rfl) l ByteArray.empty]
   rfl
 simp[execOp,hop,hE.eval hx,hconv,hb]
def s2sT(P:Program)(s:TypeId):Bool:=
 match P.underlying s with
 |some (.slice e)=>match P.underlying e with|some (.int .u8)=>true|_=>false
 |_=>false
theorem QpM{s:Nat}(h:s2sT P s=true):∃e,P.underlying s=some (.slice e)∧P.underlying e=some (.int .u8):=by
 unfold s2sT at h
 split at h
 ·rename_i h1
  split at h
  ·rename_i h3;exact⟨_,h1,h3⟩
  ·cases h
 ·cases h
theorem QwL{T s:TypeId}{x:Operand}{A:Option Addr}{l:List Int}{q:Blk}{cap:Nat}(ho:ops[i]?=some o)(hop:o.op= .convert s s x)(hg:guardOf ops E o=some true)(hd:o.dst=some d)(hE:Env a n ds E)(hn:Nat.blt d n=true)
  (hS:Stp g w0 D0 L0 w D (q::L)) (hx:Yt E x=some (.slice A l.length cap)) (hT:s2sT P s=true) (hl:OwnD (YJ .u8) T D A cap l q) (hpos:Nat.blt 0 l.length=true)
  (k:∀a D' w',qC (ids [q]) w w'→D.le D'→Env a n ds ((d,.slice A l.length cap)::E)→Sl (YJ .u8) D' A cap l→Stp g w0 D0 L0 w' D' L→C a w'):Op1 P ρ ops Q i C a w:=by
 obtain⟨e,h1,h3⟩:=QpM hT
 obtain⟨cs,hO,hr⟩:=hl
 cases q with
 |none=>
  have h0:=(hO.2.2.2.2 rfl).2
  have:0<l.length:=by simpa[Nat.blt_eq] using hpos
  omega
 | some p=>
  obtain⟨b,u⟩:=p
  obtain⟨rfl,g1,g2,g3,Cl,k0,rfl,_,hk0,g4,g5⟩:=hO
  obtain rfl:=hk0 rfl
  have hh:=hS.heap0
  have hsh:w.shape? b=some (T,Cl.size):=by simp[World.shape?,hh]
  refine Zf (v:= .slice (some ⟨b,0,none⟩) l.length cap) (w':=w.freeze {block:=b,off:=Cl.size} 1) hE ho hg (by simp[hd,JI,hn]) (by simp[hop,Q5]) ?_ ?_
  ·simp[execOp,hop,hE.eval hx,convert,Ql h1,Ql h3,markStringish,hsh]
  ·rw[hd]
   intro a' h'
   have hfz:(w.freeze {block:=b,off:=Cl.size} 1).heap[b]?=some (.cells Cl T (Cl.size,Cl.size+1)):=by
    simp only[World.freeze,Nat.one_ne_zero,if_false]
    rw[Array.getElem?_modify,if_pos rfl,hh]
    rfl
   have hoth:∀k,k≠b→(w.freeze {block:=b,off:=Cl.size} 1).heap[k]?=w.heap[k]?:=fun k hk=>by
    simp only[World.freeze,Nat.one_ne_zero,if_false]
    rw[Array.getElem?_modify,if_neg (Ne.symm hk)]
   have hsize:(w.freeze {block:=b,off:=Cl.size} 1).heap.size=w.heap.size:=by simp[World.freeze]
   have hS':=hS.put0 (w':=w.freeze {block:=b,off:=Cl.size} 1) hsize rfl rfl rfl hfz hoth
   obtain⟨hle,hS2⟩:=hS'.freeze (Nat.zero_le _)
   refine k a' _ _ ⟨by rw[hsize];exact Nat.le_refl _,fun k _ hk=>hoth k (by simpa[ids,bid] using hk)⟩ hle h' ⟨g1,g2,cs,hr.mono hle,.inr ⟨b,0,Cl,T,(Cl.size,Cl.size+1),rfl,by simp[Snap.ins],fun j u hu=> ?_⟩⟩ hS2
   rw[←g5,List.getElem?_take]at hu
   split at hu
   ·simpa using hu
   ·cases hu
end
section
variable {P:Program}{ρ:Option Nat}{ops:Array Oper}{Q:Exit→Act→World→Prop}{a:Act}{n:Nat}{ds:List Deferred}{E:List (Nat×Value)}
variable {g w w0:World}{D D0:Snap}{L L0:List Blk}{i:Nat}{o:Oper}{d:Nat}{C:Act→World→Prop}{C1:Act→Prop}{R:World→World→Prop}
theorem QpN{N:Nat}{v:Vector Int N}{m:Nat}{y:Int}(h:(Ye v)[m]?=some y):m<N∧y=vget v m:=by
 obtain⟨h1,h2⟩:=List.getElem?_eq_some_iff.1 h
 simp[Ye]at h1 h2
 exact⟨h1,h2.symm⟩
theorem QpO{t N:Nat}{x ix:Operand}{kk k:IntKind}{v:Vector Int N}{m y:Int}(ho:ops[i]?=some o)(hop:o.op= .index t x ix)(hg:guardOf ops E o=some true)(hd:o.dst=some d)(hE:Env a n ds E)(hn:Nat.blt d n=true)
  (hx:Yt E x=some (.agg (List.toArray (Ya k N v)))) (hix:Yt E ix=some (.int kk m)) (hT:Xo P t=some (N,k)) (hy:getI (Ye v) m=some y)
  (c:∀a,Env a n ds ((d,.int k y)::E)→C1 a):Tk P ops R i n ds E a w C1:=by
 obtain⟨e,ii,h1,h2,h3,h4⟩:=XG hT
 obtain⟨h0,hy'⟩:=jX hy
 obtain⟨hlt,rfl⟩:=QpN hy'
 have hltI:m<(N:Int):=by omega
 refine ZO (v:= .int k (vget v m.toNat)) hE ho hg hd hn (by simp[hop,Q5]) (fun w' _=> ?_) c
 have hp:=Qgg (P:=P) h2 v hlt w'
 simp[execOp,hop,hE.eval hx,hE.eval hix,Instr.index,asIntOf,Ql h1,h0,hltI,Go.sizeOf,typeInfo,h3,h4]
 rw[Nat.mul_one]at hp
 rw[hp];rfl
def arT2(P:Program)(t:TypeId):Option (Nat×TypeId×Nat):=
 match P.underlying t with
 |some (.array N e)=>match P.info? e with
  |some i=>some (N,e,i.size)
  |none=>none
 |_=>none
theorem Qkj{t N e sz:Nat}(h:arT2 P t=some (N,e,sz)):∃i,P.underlying t=some (.array N e)∧P.info? e=some i∧i.size=sz:=by
 unfold arT2 at h
 split at h
 ·rename_i hu
  split at h
  ·rename_i i h2
   simp only[Qa,Qe]at h
   obtain⟨rfl,rfl,rfl⟩:=h
   exact⟨i,hu,h2,rfl⟩
  ·cases h
 ·cases h
theorem QpP{t N e sz:Nat}{x ix:Operand}{kk:IntKind}{cs:List Value}{m:Int}(j:Nat)(v:Value)(ho:ops[i]?=some o)(hop:o.op= .index t x ix)(hg:guardOf ops E o=some true)(hd:o.dst=some d)(hE:Env a n ds E)(hn:Nat.blt d n=true)
  (hx:Yt E x=some (.agg (List.toArray cs))) (hix:Yt E ix=some (.int kk m)) (hm:m=(j:Int)) (hT:arT2 P t=some (N,e,sz)) (hj:Nat.blt j N=true) (hv:ldv P e cs (j*sz)=some v)
  (c:∀a,Env a n ds ((d,v)::E)→C1 a):Tk P ops R i n ds E a w C1:=by
 obtain⟨ii,h1,h3,rfl⟩:=Qkj hT
 subst hm
 have hlt:j<N:=by simpa[Nat.blt_eq] using hj
 refine ZO (v:=v) hE ho hg hd hn (by simp[hop,Q5]) (fun w' _=> ?_) c
 have hp:=QiN hv w'
 simp[execOp,hop,hE.eval hx,hE.eval hix,Instr.index,asIntOf,Ql h1,hlt,Go.sizeOf,typeInfo,h3]
 rw[hp];rfl
end
section
variable {P:Program}{ρ:Option Nat}{ops:Array Oper}{Rf:Nat→World→World→Prop}{K:Act→World→Prop}{a:Act}{w:World}
end
def mfOf:List (Nat×List Nat)→Nat→List Nat
 | [],_=> []
 |(k,l)::t,j=>bif Nat.beq k j then l else mfOf t j
section
variable {P:Program}{ρ:Option Nat}{ops:Array Oper}{K:Act→World→Prop}{a:Act}{w:World}{n:Nat}{ds:List Deferred}{E:List (Nat×Value)}
end
theorem Qup{D:Snap}:∀m,m∈([]:List Nat)→∀p,D m=some p→Qf9 0 p:=fun _ h=>absurd h List.not_mem_nil
section
variable {P:Program}{ρ:Option Nat}{ops:Array Oper}{Q:Exit→Act→World→Prop}{a:Act}{n:Nat}{ds:List Deferred}{E:List (Nat×Value)}
variable {g w w0:World}{len:Nat}{D D0:Snap}{L L0:List Blk}{i:Nat}{o:Oper}{d:Nat}{C:Act→World→Prop}{C1:Act→Prop}{R:World→World→Prop}
theorem Qvg{t:TypeId}{x y:Operand}{k:IntKind}{p q:Int}(hq:decide (q=0)=false)(w:World):(do eqGuard .rem t x y (.int k p) (.int k q);binOp .rem t (.int k p) (.int k q):Sem Value).run P w= .ok (.int k (Int.tmod p q)) w:=by
 have hq':q≠0:=of_decide_eq_false hq
 refine Xn (jm trivial) (fun w=> ?_) w
 simp[binOp,Op.intDiv,hq']
theorem Qvh{t:TypeId}{x y:Operand}{k:IntKind}{p q:Int}(hq:decide (q=0)=false)(w:World):(do eqGuard .quo t x y (.int k p) (.int k q);binOp .quo t (.int k p) (.int k q):Sem Value).run P w= .ok (.int k (k.wrap (Int.tdiv p q))) w:=by
 have hq':q≠0:=of_decide_eq_false hq
 refine Xn (jm trivial) (fun w=> ?_) w
 simp[binOp,Op.intDiv,hq']
theorem Qvi{t:TypeId}{x y:Operand}{k k':IntKind}{p q:Int}(hq:decide (q<0)=false)(w:World):(do eqGuard .shl t x y (.int k p) (.int k' q);binOp .shl t (.int k p) (.int k' q):Sem Value).run P w= .ok (.int k (k.wrap (p*2^(min q.toNat k.bits)))) w:=by
 have hq': ¬q<0:=of_decide_eq_false hq
 refine Xn (jm trivial) (fun w=> ?_) w
 simp[binOp,Op.shift,hq']
theorem Qvj{t:TypeId}{x y:Operand}{k k':IntKind}{p q:Int}(hq:decide (q<0)=false)(w:World):(do eqGuard .shr t x y (.int k p) (.int k' q);binOp .shr t (.int k p) (.int k' q):Sem Value).run P w= .ok (.int k (Int.fdiv p (2^(min q.toNat k.bits)))) w:=by
 have hq': ¬q<0:=of_decide_eq_false hq
 refine Xn (jm trivial) (fun w=> ?_) w
 simp[binOp,Op.shift,hq']
theorem Qgh(hE:Env a n ds E){cap:Nat}{lo:Option Operand}{hi mx:Operand}{zl zh:Int}{k k':IntKind}(hl:QaD E lo 0 zl)(hh:Yt E hi=some (.int k zh))(hm:Yt E mx=some (.int k' zh))(h0:0≤zl)(h1:zl≤zh)(h2:zh≤(cap:Int)):
  (Instr.sliceBounds true len cap (lo.map a.eval) ((some hi).map a.eval) ((some mx).map a.eval)).run P w= .ok (zl.toNat,zh.toNat,zh.toNat) w:=by
 have sb:∀{x:Operand} {k:IntKind} {z:Int} {y:Nat} (code:BoundsCode),Yt E x=some (.int k z)→0≤z→z≤(y:Int)→(Instr.sliceBound (a.eval x) y code).run P w= .ok z.toNat w:=by
  intro x k z y code hx hz hy
  simp[Instr.sliceBound,hE.eval hx,asIntOf,hz,hy]
 have h3:0≤zh:=by omega
 have h4:zl≤((zh.toNat:Nat):Int):=by omega
 have h5:zh≤((zh.toNat:Nat):Int):=by omega
 cases lo with
 |none=>simp only[QaD]at hl;subst hl;simp[Instr.sliceBounds,sb _ hh h3 h5,sb _ hm h3 h2]
 |some y=>
  obtain⟨k2,hk2⟩:=hl
  simp[Instr.sliceBounds,sb _ hh h3 h5,sb _ hm h3 h2,sb _ hk2 h0 h4]
theorem Qkk{α:Type}{K:Kd α}{t e by_ zl0:Nat}{x:Operand}{lo:Option Operand}{hi mx:Operand}{zl zh:Int}{kk kk':IntKind}{A:Option Addr}{cap:Nat}{l m:List α}(ho:ops[i]?=some o)(hop:o.op= .slice t x lo (some hi) (some mx))(hg:guardOf ops E o=some true)(hd:o.dst=some d)(hE:Env a n ds E)(hn:Nat.blt d n=true)
  (hx:Yt E x=some (.slice A l.length cap)) (hT:slT P t=some (e,K.n,by_,zl0)) (hlo:QaD E lo 0 zl) (hhi:Yt E hi=some (.int kk zh)) (hmx:Yt E mx=some (.int kk' zh)) (hl:Sl K D A cap l) (hm:subI l zl zh=some m)
  (k:∀a A',Env a n ds ((d,.slice A' m.length m.length)::E)→Sl K D A' m.length m→C1 a):Tk P ops R i n ds E a w C1:=by
 obtain⟨h1,ii,z,hq,_,hqs,_⟩:=yT hT
 obtain⟨h0,h01,h2,rfl⟩:=Qdv hm
 have hcap:=hl.1
 have hlen:((l.take zh.toNat).drop zl.toNat).length=zh.toNat-zl.toNat:=by simp;omega
 have hpre:Sl K D A zh.toNat (l.take zh.toNat):=by
  obtain⟨g1,g2,cs,hr,hc⟩:=hl
  have hspl:l=l.take zh.toNat++l.drop zh.toNat:=(List.take_append_drop _ _).symm
  rw[hspl]at hr
  obtain⟨c1,c2,rfl,hr1,hr2⟩:=hr.split
  refine⟨by simp;omega,by omega,c1,hr1,?_⟩
  rcases hc with hc|⟨b,off,c,T,fr,g3,g4,g5⟩
  ·exact .inl (List.append_eq_nil_iff.1 hc).1
  ·exact .inr ⟨b,off,c,T,fr,g3,g4,fun j u hu=>g5 j u (by rw[List.getElem?_append_left (List.getElem?_eq_some_iff.1 hu).1];exact hu)⟩
 have hsub:=hpre.sub (x:=zl.toNat) (y:=zh.toNat) (by omega) (by simp;omega) ii.size hqs
 rw[List.take_take,Nat.min_self]at hsub
 have hsb:=fun w=>Qgh (P:=P) (w:=w) (len:=l.length) (cap:=cap) hE hlo hhi hmx h0 h01 (by omega)
 refine ZO (v:= .slice (if zh.toNat=zl.toNat then A else A.map (·.add (zl.toNat*ii.size))) ((l.take zh.toNat).drop zl.toNat).length ((l.take zh.toNat).drop zl.toNat).length) hE ho hg hd hn (by simp[hop,Q5]) (fun w' _=> ?_) ?_
 ·rw[hlen]
  have hsb':=hsb w'
  simp only[Option.map_some]at hsb'
  simp[execOp,hop,Instr.sliceAt,hE.eval hx,Ql h1,Instr.slice,hsb',sizeOf,typeInfo,hq]
 ·intro a' h'
  refine k a' _ h' ?_
  rw[hlen]at h'⊢
  exact hsub
end
def lbL:Nat→Nat→List Bool
 |0,_=> []
 |n+1,m=>Nat.beq (m%2) 1::lbL n (m/2)
def lb(n m:Nat):Array Bool:=(lbL n m).toArray
def eqB:List Bool→List Bool→Bool
 | [], []=>true
 |x::l,y::m=>(x==y)&&eqB l m
 |_,_=>false
theorem Qng:∀{l m:List Bool},eqB l m=true→l=m
 | [], [],_=>rfl
 |x::l,y::m,h=>by
  simp only[eqB,Qd,beq_iff_eq]at h
  rw[h.1,Qng h.2]
 | [],_::_,h=>by cases h
 |_::_, [],h=>by cases h
def setB(ops:Array Oper)(listed:Array Bool)(i m:Nat):Bool:=eqB (listed.toList.set i true) (lbL ops.size m)
theorem Qkl{ops:Array Oper}{listed:Array Bool}{i m:Nat}(h:setB ops listed i m=true):listed.setIfInBounds i true=lb ops.size m:=by
 apply Array.ext'
 rw[Array.toList_setIfInBounds]
 exact Qng h
def okT(ops:Array Oper)(listed:Array Bool)(i m:Nat):Bool:=QcG ops&&(Region.free .any ops listed i&&((Region.ready .any ops listed).contains i&&setB ops listed i m))
theorem ZW{ops:Array Oper}{listed:Array Bool}{i m:Nat}(h:okT ops listed i m=true):QcG ops=true∧Region.free .any ops listed i=true∧(Region.ready .any ops listed).contains i=true∧listed.setIfInBounds i true=lb ops.size m:=by
 unfold okT at h
 simp only[Qd]at h
 exact⟨h.1,h.2.1,h.2.2.1,Qkl h.2.2.2⟩
def Quq:List Nat→Nat→Bool
 | [j],i=>Nat.beq j i
 |_,_=>false
theorem QlW:∀{l:List Nat} {i:Nat},Quq l i=true→l= [i]
 | [j],i,h=>by rw[Qc h]
 | [],_,h=>by cases h
 |_::_::_,_,h=>by cases h
section
variable {P:Program}{ρ:Option Nat}{ops:Array Oper}{K:Act→World→Prop}{Rf:Nat→World→World→Prop}{a:Act}{w:World}{n:Nat}{ds:List Deferred}{E:List (Nat×Value)}
theorem tW [hI:Idle Rf](i m:Nat){fuel:Nat}{listed:Array Bool}(hc:okT ops listed i m=true)(hE:Env a n ds E)
  (h:∀R,Tk P ops R i n ds E a w (fun a=>wpG P ρ ops Rf K (Qn K) fuel (lb ops.size m) a w)):wpG P ρ ops Rf K (Qn K) (fuel+1) listed a w:=
 takeW i _ (ZW hc).1 (ZW hc).2.1 (ZW hc).2.2.1 (ZW hc).2.2.2 hE h
theorem tT{Mf:Nat→List Nat}(i m:Nat){fuel:Nat}{listed:Array Bool}(hc:(okT ops listed i m&&QsE Mf ops listed i)=true)(hE:Env a n ds E)
  (h:Tk P ops (qC []) i n ds E a w (fun a=>wpG P ρ ops (fun j=>qC (Mf j)) K (Qn K) fuel (lb ops.size m) a w)):wpG P ρ ops (fun j=>qC (Mf j)) K (Qn K) (fuel+1) listed a w:=by
 rw[Qd]at hc
 exact takeT i _ (ZW hc.1).1 (ZW hc.1).2.1 (ZW hc.1).2.2.1 (ZW hc.1).2.2.2 hc.2 hE h
theorem oG(i m:Nat){fuel:Nat}{listed:Array Bool}(hc:(Quq (Region.ready .any ops listed) i&&setB ops listed i m)=true)
  (h:Op1 P ρ ops (Qn K) i (fun a' w'=>Rf i w w'∧wpG P ρ ops Rf K (Qn K) fuel (lb ops.size m) a' w') a w):wpG P ρ ops Rf K (Qn K) (fuel+1) listed a w:=by
 rw[Qd]at hc
 exact onlyG (QlW hc.1) (Qkl hc.2) h
end
def catE:List (Nat×Value)→List (Nat×Value)→List (Nat×Value)
 | [],E=>E
 |x::l,E=>x::catE l E
section
variable {P:Program}{ρ:Option Nat}{ops:Array Oper}{Q:Exit→Act→World→Prop}{a:Act}{w:World}{n:Nat}{ds:List Deferred}{E:List (Nat×Value)}
def Qkm(ops:Array Oper)(N E:List (Nat×Value)):Nat→Nat→Bool
 |0,_=>true
 |m+1,i=>(match ops[i]? with|some o=>(match o.dst with|some d=>(look N d).isSome||(look E d).isNone|none=>true)|none=>true)&&Qkm ops N E m (i+1)
theorem Qnh:∀(N:List (Nat×Value)) (t:Nat) (v:Value),look (catE N E) t=some v→look N t=some v∨(look N t=none∧look E t=some v)
 | [],t,v,h=> .inr ⟨rfl,h⟩
 |(k,u)::N,t,v,h=>by
  simp only[catE,look]at h⊢
  cases hb:Nat.beq k t with
  |true=>rw[hb]at h;exact .inl h
  |false=>rw[hb]at h;exact Qnh N t v h
theorem Qkn{N E0:List (Nat×Value)}{t:Nat}(hN:look N t=none)(hE0:(look E0 t).isSome=true):∀(m i:Nat) (E X:List (Nat×Value)),Zg P ops n m i E=some X→Qkm ops N E0 m i=true→look X t=look E t:=by
 intro m
 induction m with
 |zero=>
  intro i E X h _
  simp only[Zg,Qa]at h
  rw[h]
 | succ m ih=>
  intro i E X h hd
  simp only[Zg]at h
  simp only[Qkm,Qd]at hd
  split at h
  ·cases h
  ·rename_i o ho
   rw[ho]at hd
   have hu:∀v,look (upd E o.dst v) t=look E t:=by
    intro v
    cases hdst:o.dst with
    |none=>rfl
    | some d=>
     have h1:=hd.1
     simp only[hdst,Bool.or_eq_true]at h1
     simp only[upd,look]
     cases hb:Nat.beq d t with
     |false=>rfl
     | true=>
      have:=Qc hb
      subst this
      rcases h1 with h1|h1
      ·rw[hN]at h1;cases h1
      ·rw[Option.isNone_iff_eq_none]at h1
       rw[h1]at hE0;cases hE0
   cases hdo:JI n o.dst with
   |false=>rw[hdo]at h;cases h
   | true=>
    rw[hdo]at h
    simp only[Qg]at h
    split at h
    ·cases hs:Qu5 P o.op with
     |false=>rw[hs]at h;cases h
     |true=>
      rw[hs]at h
      simp only[Qg]at h
      split at h
      ·rw[ih _ _ _ h hd.2,hu]
      ·cases h
    ·rw[ih _ _ _ h hd.2,hu]
    ·cases h
theorem segN(m:Nat){i j:Nat}(N:List (Nat×Value))(hE:Env a n ds E)(h:(Zg P ops n m i E).map (fun X=>(sub X N,Qkm ops N E m i))=some (sub' N,true))(hj:i+m=j)
  (k:∀a',Env a' n ds (catE N E)→At P ρ ops Q j a' w):At P ρ ops Q i a w:=by
 subst hj
 cases he:Zg P ops n m i E with
 |none=>rw[he]at h;cases h
 | some X=>
  rw[he]at h
  simp only[Option.map_some,Qa,Qe]at h
  refine Qpv m i E X a hE he fun a' h'=>k a' ⟨h'.size,h'.ds,fun t v hv=>h'.at_ t v ?_⟩
  rcases Qnh N t v hv with h1|⟨h1,h2⟩
  ·exact Qnb h.1 t v h1
  ·rw[Qkn h1 (by rw[h2];rfl) m i E X he h.2]
   exact h2
end
inductive App{α:Type}(R:List α):List α→List α→Prop
 |n:App R [] R
 |c {x:α} {l m:List α} (t:App R l m):App R (x::l) (x::m)
theorem App.eq{α:Type}{R l m:List α}(h:App R l m):l++R=m:=by
 induction h with
 |n=>rfl
 |c t ih=>simp[ih]
section
variable {g w0 w w':World}{D0 D D':Snap}{L0 L L' R M M':List Blk}
theorem Stp.callR(h0:Stp g w0 D0 L0 w D M)(h:Stp g w D L w' D' L')(he:L++R=M)(ha:App R L' M'):Stp g w0 D0 L0 w' D' M':=by
 subst he
 rw[←ha.eq]
 exact h0.call h
end
end Go.Sep
