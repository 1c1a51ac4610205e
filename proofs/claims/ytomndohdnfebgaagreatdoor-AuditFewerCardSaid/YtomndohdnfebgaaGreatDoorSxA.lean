/-
 Symbolic execution, the words: kinds of data, symbolic values, states.
-/
import Derived.Test.YtomndohdnfebgaaGreatDoorSepR
import Derived.Laws.MakeOwn
set_option linter.unusedVariables false
set_option linter.unusedSimpArgs false
namespace Go.Sep
def inA(N:Nat)(m:Int):Bool:=decide (0≤m)&&decide (m<(N:Int))
def vset{n:Nat}(v:Vector Int n)(i:Nat)(x:Int):Vector Int n:=v.setIfInBounds i x
theorem Xh{n:Nat}(v:Vector Int n){i:Nat}(x:Int){j:Nat}(hj:j<n):vget (vset v i x) j=if i=j then x else vget v j:=by
 simp only[vget,vset]
 rw[List.getD_eq_getElem?_getD,List.getD_eq_getElem?_getD]
 simp only[Vector.toList,Vector.toArray_setIfInBounds,Array.toList_setIfInBounds]
 rw[List.getElem?_set]
 split
 ·rename_i h
  subst h
  simp[hj]
 ·rfl
theorem QfW{k:IntKind}{n:Nat}(v:Vector Int n){i:Nat}(x:Int)(hi:i<n):Q4 k n (vset v i x)=(Q4 k n v).set i (.int k x):=by
 apply List.ext_getElem?
 intro j
 by_cases hj:j<n
 ·rw[List.getElem?_set]
  simp only[Q4,List.getElem?_map,List.length_map,List.length_range]
  rw[List.getElem?_range hj]
  simp only[Option.map_some]
  rw[Xh v x hj]
  by_cases h:i=j
  ·subst h;simp[hi]
  ·simp[h]
 ·rw[List.getElem?_eq_none (by simp[Q4];omega),List.getElem?_eq_none (by simp[Q4];omega)]
theorem QjT{c:List Value}{i:Nat}{u:Value}(hi:i<c.length):setCells c i [u]=c.set i u:=by
 simp only[setCells]
 rw[List.set_eq_take_append_cons_drop]
 simp[hi]
def intT(P:Program)(t:TypeId):Option IntKind:=match P.underlying t,P.info? t with|some (.int k),some i=>bif Nat.beq i.size 1 then some k else none|_,_=>none
theorem Qo6{P:Program}{t:TypeId}{k:IntKind}(h:intT P t=some k):∃i,P.underlying t=some (.int k)∧P.info? t=some i∧i.size=1:=by
 unfold intT at h
 split at h
 ·rename_i i h1 h2
  cases hb:Nat.beq i.size 1 with
  |false=>rw[hb]at h;cases h
  |true=>
   rw[hb]at h
   simp only[Qg,Qa]at h
   subst h
   exact⟨i,h1,h2,Qc hb⟩
 ·cases h
theorem Zx{N:Nat}{m:Int}(h:inA N m=true):0≤m∧m<N∧m.toNat<N:=by
 unfold inA at h
 simp only[Qd,decide_eq_true_eq]at h
 omega
section
variable {P:Program}{ρ:Option Nat}{ops:Array Oper}{Q:Exit→Act→World→Prop}{a:Act}{n:Nat}{ds:List Deferred}{E:List (Nat×Value)}
variable {g w w' w0:World}{D D0:Snap}{L L0:List Blk}{i:Nat}{o:Oper}{d:Nat}{C:Act→World→Prop}{C1:Act→Prop}{R:World→World→Prop}
theorem QdY{t N b off:Nat}{x ix:Operand}{kk k:IntKind}{m:Int}(ho:ops[i]?=some o)(hop:o.op= .indexAddr t x ix)(hg:guardOf ops E o=some true)(hd:o.dst=some d)(hE:Env a n ds E)(hn:Nat.blt d n=true)
  (hx:Yt E x=some (.pointer (some ⟨b,off,none⟩))) (hix:Yt E ix=some (.int kk m)) (hT:yV P t=some (N,k)) (hm:inA N m=true)
  (c:∀a,Env a n ds ((d,.pointer (some ⟨b,off+m.toNat,none⟩))::E)→C1 a):Tk P ops R i n ds E a w C1:=by
 obtain⟨e,ii,h1,h2,h3,h4⟩:=Xg hT
 obtain⟨m0,m1,m2⟩:=Zx hm
 refine ZU (v:= .pointer (some ⟨b,off+m.toNat,none⟩)) hE ho hg hd hn (by simp[hop,QY]) (fun w' _=> ?_) c
 have ea:=addr_add b off m.toNat
 simp[execOp,hop,hE.eval hx,hE.eval hix,Instr.indexAt,asIntOf,Ql h1,m0,m1,Go.sizeOf,typeInfo,h3,h4,Instr.sureAddr,ea]
theorem QnE{t N b:Nat}{x:Operand}{k:IntKind}{lo hi:Option Operand}{zl zh:Int}(ho:ops[i]?=some o)(hop:o.op= .slice t x lo hi none)(hg:guardOf ops E o=some true)(hd:o.dst=some d)(hE:Env a n ds E)(hn:Nat.blt d n=true)
  (hx:Yt E x=some (.pointer (some ⟨b,0,none⟩))) (hT:yV P t=some (N,k)) (hlo:Qbt E lo 0 zl) (hhi:Qbt E hi N zh) (hb:(decide (0≤zl)&&(decide (zl≤zh)&&(decide (zh≤(N:Int))&&decide (zl<(N:Int)))))=true)
  (c:∀a,Env a n ds ((d,.slice (some ⟨b,zl.toNat,none⟩) (zh.toNat-zl.toNat) (N-zl.toNat))::E)→C1 a):Tk P ops R i n ds E a w C1:=by
 obtain⟨e,q,h1,h2,h3,h4⟩:=Xg hT
 simp only[Qd,decide_eq_true_eq]at hb
 obtain⟨b1,b2,b3,b4⟩:=hb
 have hsb:=fun w=>jb (P:=P) (w:=w) (isS:=false) (len:=N) (cap:=N) hE hlo hhi b1 b2 (by omega)
 refine ZU (v:= .slice (some ⟨b,zl.toNat,none⟩) (zh.toNat-zl.toNat) (N-zl.toNat)) hE ho hg hd hn (by simp[hop,QY]) (fun w' _=> ?_) c
 have hc: ¬N=zl.toNat:=by omega
 have ea:(⟨b,0,none⟩:Addr).add zl.toNat=⟨b,zl.toNat,none⟩:=by rw[addr_add,Nat.zero_add]
 simp only[execOp,hop,Instr.sliceAt,hE.eval hx,Option.map_none,Sem.run_bind,Ql h1,Result.andThen_ok,Instr.sureAddr,Sem.run_pure,hsb,sizeOf,typeInfo,run_program,h3]
 simp[hc,h4,ea]
def QfX{n:Nat}(v:Vector Int n)(p q c:Nat):Vector Int n:=Vector.ofFn fun i=>if p≤i.val∧i.val<p+c then vget v (q+(i.val-p))else vget v i.val
theorem QjU{k:IntKind}{n:Nat}(v:Vector Int n){p q c:Nat}(hp:p+c≤n)(hq:q+c≤n):Q4 k n (QfX v p q c)=setCells (Q4 k n v) p (((Q4 k n v).drop q).take c):=by
 have hl:(Q4 k n v).length=n:=by simp[Q4]
 apply List.ext_getElem?
 intro j
 by_cases hj:j<n
 ·have e1:(Q4 k n (QfX v p q c))[j]?=some (.int k (if p≤j∧j<p+c then vget v (q+(j-p))else vget v j)):=by
   simp only[Q4,List.getElem?_map]
   rw[List.getElem?_range hj]
   simp[vget,QfX,hj]
  rw[e1]
  have hlen:(((Q4 k n v).drop q).take c).length=c:=by simp[hl];omega
  simp only[setCells,hlen]
  by_cases h1:j<p
  ·rw[if_neg (by omega),List.append_assoc,List.getElem?_append_left (by simp[hl];omega)]
   simp[Q4,h1,hj]
  ·by_cases h2:j<p+c
   ·rw[if_pos (by omega),List.append_assoc,List.getElem?_append_right (by simp[hl];omega)]
    have e3:((Q4 k n v).take p).length=p:=by simp[hl];omega
    rw[e3,List.getElem?_append_left (by rw[hlen];omega),List.getElem?_take,if_pos (by omega),List.getElem?_drop]
    have:q+(j-p)<n:=by omega
    simp[Q4,this]
   ·rw[if_neg (by omega),List.getElem?_append_right (by simp[hl,hlen];omega)]
    have e3:((Q4 k n v).take p++((Q4 k n v).drop q).take c).length=p+c:=by rw[List.length_append,hlen];simp[hl];omega
    rw[e3,List.getElem?_drop]
    have:p+c+(j-(p+c))=j:=by omega
    rw[this]
    simp[Q4,hj]
 ·rw[List.getElem?_eq_none (by simp[Q4];omega),List.getElem?_eq_none (by simp[setCells,hl];omega)]
theorem Qo7{t T e N b p q l1 l2 c1 c2 cc:Nat}{x y:Operand}{ts:Array TypeId}{k:IntKind}{v:Vector Int N}(ho:ops[i]?=some o)(hop:o.op= .call {callee:= .builtin .copy,args:= #[x,y],argTypes:=ts})(hts:ts[0]?=some t)(hg:guardOf ops E o=some true)(hd:o.dst=some d)(hE:Env a n ds E)(hn:Nat.blt d n=true)
  (hS:Stp g w0 D0 L0 w D (bx b T (Q4 k N v)::L)) (hx:Yt E x=some (.slice (some ⟨b,p,none⟩) l1 c1)) (hy:Yt E y=some (.slice (some ⟨b,q,none⟩) l2 c2)) (hT:P.underlying t=some (.slice e)) (hI:intT P e=some k)
  (hc:Nat.min l2 l1=cc) (hb:(Nat.ble (p+cc) N&&Nat.ble (q+cc) N)=true)
  (c:∀a w',qc [b] w w'→Env a n ds ((d,.int .i64 (cc:Int))::E)→Stp g w0 D0 L0 w' D (bx b T (Q4 k N (QfX v p q cc))::L)→C a w'):Op1 P ρ ops Q i C a w:=by
 obtain⟨ii,h1,h2,h3⟩:=Qo6 hI
 simp only[Qd]at hb
 have hb1:=Nat.le_of_ble_eq_true hb.1
 have hb2:=Nat.le_of_ble_eq_true hb.2
 have hl:(Q4 k N v).length=N:=by simp[Q4]
 have hload:=run_loadCells_list (P:=P) (w:=w) ⟨b,q,none⟩ (((Q4 k N v).drop q).take cc) (fun j u hu=>by
  rw[addr_add,cell_of_row w b _ _ _ _ hS.heap0]
  rw[List.getElem?_take]at hu
  split at hu
  ·rw[List.getElem?_drop]at hu
   simpa using hu
  ·cases hu)
 have hlen:(((Q4 k N v).drop q).take cc).length=cc:=by simp[hl];omega
 rw[hlen]at hload
 have hst:=run_storeCells_at P b p T (((Q4 k N v).drop q).take cc) 0 (Q4 k N v).toArray w hS.heap0 (by simp[hl];omega) (fun u hu=>by
  have:=List.mem_of_mem_drop (List.mem_of_mem_take hu)
  simp only[Q4,List.mem_map]at this
  obtain⟨_,_,rfl⟩:=this
  rfl)
 simp only[Nat.add_zero]at hst
 refine XQ (v:= .int .i64 (cc:Int)) (w':=w.setRow b (setCells (Q4 k N v) p (((Q4 k N v).drop q).take cc)).toArray) hE ho hg (by simp[hd,Jv,hn]) (by simp[hop,QY]) ?_ ?_
 ·have hcc:Nat.min l2 l1=cc:=hc
  simp[execOp,hop,hE.eval hx,hE.eval hy,resolve,invoke,builtin,Builtin.copy_,hts,Ql hT,Builtin.lenOf,hcc,Builtin.firstCells,sizeOf,typeInfo,h2,h3,hload,hst,setCells,goInt]
 ·rw[hd]
  intro a' h'
  refine c a' _ ⟨by simp,fun k _ hk=>setRow_other w b k _ (by simpa using hk)⟩ h' ?_
  rw[QjU v hb1 hb2]
  exact hS.put0 (by simp) rfl rfl rfl (setRow_heap w b (Q4 k N v).toArray _ T _ hS.heap0) (fun k hk=>setRow_other w b k _ hk)
end
theorem Cell.elemA{D:Snap}{k:IntKind}{N b off:Nat}{v:Vector Int N}{m:Int}(h:Cell (XT k N) D b off v)(hm:inA N m=true):Cell (YC k) D b (off+m.toNat) (vget v m.toNat):=
 h.elem ⟨(Zx hm).1,(Zx hm).2.2⟩
section
variable {P:Program}{ρ:Option Nat}{ops:Array Oper}{Q:Exit→Act→World→Prop}{a:Act}{n:Nat}{ds:List Deferred}{E:List (Nat×Value)}
variable {g w w0:World}{D D0:Snap}{L L0:List Blk}{i:Nat}{o:Oper}{d:Nat}{C:Act→World→Prop}{α:Type}{K:Kd α}
theorem QjV{t e bytes:Nat}{x y:Operand}{m:Int}{z:α}{cz:List Value}{lm:List α}(ho:ops[i]?=some o)(hop:o.op= .makeSlice t x y)(hg:guardOf ops E o=some true)(hd:o.dst=some d)(hE:Env a n ds E)(hn:Nat.blt d n=true)
  (hS:Stp g w0 D0 L0 w D L) (hx:Yt E x=some (.int .i64 m)) (hy:Yt E y=some (.int .i64 m))
  (hT:slT P t=some (e,K.n,bytes,K.n)) (hzv:((P.info? e).bind (·.zero)).map QV=some cz) (hz:K.r D z cz) (hpos:Nat.blt 0 K.n=true) (hb1:Nat.blt 0 bytes=true) (hfit:Qai bytes z m=some lm)
  (k:∀a A' cap' q' w',qc [] w w'→Env a n ds ((d,.slice A' lm.length cap')::E)→OwnD K e D A' cap' lm q'→Stp g w0 D0 L0 w' D (q'::L)→C a w'):Op1 P ρ ops Q i C a w:=by
 obtain⟨h1,ii,z0,h2,h3,h4,h5,h6⟩:=Xa hT
 have hpos':0<K.n:=by simpa[Nat.blt_eq] using hpos
 have hb1':0<bytes:=by simpa[Nat.blt_eq] using hb1
 have hz0:QV z0=cz:=by simpa[h2,h3] using hzv
 have hf:0≤m∧m*bytes≤140737488355328∧lm=List.replicate m.toNat z:=by
  unfold Qai at hfit
  cases hd:(decide (0≤m)&&decide (m*bytes≤140737488355328))with
  |true=>
   rw[hd]at hfit
   simp only[Qd,decide_eq_true_eq]at hd
   simp only[Qg,Qa]at hfit
   exact⟨hd.1,hd.2,hfit.symm⟩
  |false=>rw[hd]at hfit;cases hfit
 obtain⟨hm0,hmb,rfl⟩:=hf
 obtain⟨N,rfl⟩:=Int.eq_ofNat_of_zero_le hm0
 have hNb:N*bytes≤140737488355328:=by
  have h:((N*bytes:Nat):Int)≤140737488355328:=by rw[Int.natCast_mul];exact hmb
  omega
 have hN:N≤140737488355328:=Nat.le_trans (Nat.le_mul_of_pos_right N hb1') hNb
 simp only[Int.toNat_natCast]at k⊢
 have hzs:z0.cells.size=K.n:=by rw[qf];simpa using h6
 have hzeros:(madeCells z0.cells (N*ii.size)).toList=qX cz N:=by
  have e1:madeCells z0.cells (N*ii.size)=Builtin.zeroCells z0.cells N:=by
   simp only[madeCells,Builtin.zeroCells,h4,hzs]
  rw[e1]
  have:Builtin.zeroCells z0.cells N=(qX (QV z0) N).toArray:=by
   rw[qf]
   simp only[Builtin.zeroCells]
   rw[Qik _ _ (by rw[List.size_toArray,h6];exact hpos')]
  rw[this,hz0]
 have hrl:∀N,RL K D (List.replicate N z) (qX cz N):=by
  intro N
  induction N with
  |zero=>rfl
  |succ N ih=>exact⟨cz,qX cz N,rfl,hz,ih⟩
 have hrun:=run_make (P:=P) w t e ii z0 h1 h2 h3 .i64 .i64 (N:Int) (N:Int) (by omega) (Int.le_refl _) (by
  rw[h5]
  have h:((bytes*N:Nat):Int)≤281474976710656:=by rw[Nat.mul_comm];omega
  rwa [Int.natCast_mul]at h) (by omega)
 simp only[Int.toNat_natCast]at hrun
 refine XQ (v:= .slice (some ⟨w.heap.size,0,none⟩) N N) (w':=w.alloc (.cells (madeCells z0.cells (N*ii.size)) e)) hE ho hg (by simp[hd,Jv,hn]) (by simp[hop,QY]) ?_ ?_
 ·simp[execOp,hop,hE.eval hx,hE.eval hy,hrun]
 ·rw[hd]
  intro a' h'
  have hsz2:(madeCells z0.cells (N*ii.size)).size=N*K.n:=by rw[size_madeCells,h4]
  refine k a' _ N (some (w.heap.size,(.cells (madeCells z0.cells (N*ii.size)) e (0,0),0))) _ (QfL _ _) (by simpa[upd] using h') ⟨qX cz N,⟨rfl,by simp,by simp only[maxLen];omega,?_,_,0,rfl,Nat.zero_le _,fun _=>rfl,?_,?_⟩,hrl N⟩ (hS.alloc _)
  ·rw[jv,←hz0,h6,List.length_replicate]
  ·rw[hsz2]
  ·rw[List.length_replicate,hzeros]
   have:N*K.n=(qX cz N).length:=by rw[jv,←hz0,h6]
   rw[this,List.take_length]
end
section
variable {P:Program}{ρ:Option Nat}{ops:Array Oper}{a:Act}{n:Nat}{ds:List Deferred}{E:List (Nat×Value)}{w:World}{D:Snap}{i:Nat}{o:Oper}{d:Nat}{C1:Act→Prop}{R:World→World→Prop}
theorem Qc7{kk:IntKind}{t e N b off:Nat}{x:Operand}{lo hi:Option Operand}{zl zh:Int}{T:TypeId}{fr:Nat×Nat}{cs:List Value}{v:Vector Int N}{m:List Int}(ho:ops[i]?=some o)(hop:o.op= .slice t x lo hi none)(hg:guardOf ops E o=some true)(hd:o.dst=some d)(hE:Env a n ds E)(hn:Nat.blt d n=true)
  (hx:Yt E x=some (.pointer (some ⟨b,off,none⟩))) (hT:arT P t=some (N,e,1)) (hlo:Qbt E lo 0 zl) (hhi:Qbt E hi N zh) (hD:D b=some (.cells cs.toArray T fr)) (hcs:(cs.drop off).take N=Q4 kk N v) (hN:Nat.ble N 1000000=true) (hm:subI (Q9 v) zl zh=some m)
  (k:∀a A' cap',Env a n ds ((d,.slice A' m.length cap')::E)→Sl (YC kk) D A' cap' m→C1 a):Tk P ops R i n ds E a w C1:=by
 obtain⟨ht,he⟩:=Qrz hT
 have hN':=Nat.le_of_ble_eq_true hN
 obtain⟨h0,h1,h2,rfl⟩:=QfQ hm
 rw[QG]at h2
 obtain⟨q,hq,hqs⟩:=Option.map_eq_some_iff.1 he
 have hsb:=fun w=>jb (P:=P) (w:=w) (isS:=false) (len:=N) (cap:=N) hE hlo hhi h0 h1 (by omega)
 have hlen:(((Q9 v).take zh.toNat).drop zl.toNat).length=zh.toNat-zl.toNat:=by simp[QG];omega
 have hsl:Sl (YC kk) D (some ⟨b,off,none⟩) N (Q9 v):=⟨by rw[QG];exact Nat.le_refl _,by simp only[maxLen];omega,Q4 kk N v,Qvv v,.inr ⟨b,off,_,T,fr,rfl,hD,fun j u hu=>by
  rw[←hcs,List.getElem?_take]at hu
  split at hu
  ·rw[List.getElem?_drop]at hu
   simpa using hu
  ·cases hu⟩⟩
 have hsub:=hsl.sub (x:=zl.toNat) (y:=zh.toNat) (by omega) (by rw[QG];omega) q.size hqs
 refine ZU (v:= .slice (if N=zl.toNat then some ⟨b,off,none⟩else(some (⟨b,off,none⟩:Addr)).map (·.add (zl.toNat*q.size))) (((Q9 v).take zh.toNat).drop zl.toNat).length (N-zl.toNat)) hE ho hg hd hn (by simp[hop,QY]) (fun w' _=> ?_) ?_
 ·rw[hlen]
  simp only[execOp,hop,Instr.sliceAt,hE.eval hx,Option.map_none,Sem.run_bind,Ql ht,Result.andThen_ok,Instr.sureAddr,Sem.run_pure,hsb,sizeOf,typeInfo,run_program,hq]
  by_cases hc:N=zl.toNat
  ·simp[hc]
  ·simp[hc]
 ·intro a' h'
  exact k a' _ _ h' hsub
end
section
variable {g w0 w w':World}{D0 D D':Snap}{L0 L:List Blk}
end
end Go.Sep
set_option linter.unusedVariables false
set_option linter.unusedSimpArgs false
namespace Go.Sep
section
variable {P:Program}{ρ:Option Nat}{ops:Array Oper}{Q:Exit→Act→World→Prop}{K:Act→World→Prop}{Rf:Nat→World→World→Prop}{a:Act}{w g w0:World}{n:Nat}{ds:List Deferred}{E:List (Nat×Value)}{D0 D:Snap}{L0 L:List (Option (Nat×OB))}
theorem sN{i:Nat}(m j:Nat)(N:List (Nat×Value))(hE:Env a n ds E)
  (k:∀a',Env a' n ds (catE N E)→At P ρ ops Q j a' w) (h:(XR P ops n m i E).map (fun X=>(sub X N,QjQ ops N E m i))=some (sub' N,true):=by kernel_rfl) (hj:i+m=j:=by exact rfl):At P ρ ops Q i a w:=segN m N hE h hj k
theorem wP [hI:Idle Rf]{d:Nat}{o:Oper}(i m fuel:Nat){listed:Array Bool}(v:Value)(hE:Env a n ds E)(k:∀a',Env a' n ds ((d,v)::E)→wpG P ρ ops Rf K (Qn K) fuel (lb ops.size m) a' w)
  (hc:okT ops listed i m=true:=by kernel_rfl) (ho:ops[i]?=some o:=by exact rfl) (hg:guardOf ops E o=some true:=by exact rfl) (hd:o.dst=some d:=by exact rfl) (hn:Nat.blt d n=true:=by exact rfl)
  (hsrc:∀s t x,o.op= .convert s t x→(P.underlying s).isSome=true:=by exact fun _ _ _ e=>by cases e) (h:yC P E o.op=some v:=by kernel_rfl):wpG P ρ ops Rf K (Qn K) (fuel+1) listed a w:=
 tW i m hc hE (fun _=>QoF v hE ho hg hd hn hsrc h k)
theorem rT{fn:Func}{R:Ending→World→Prop}(t:Nat)(v:Value)(hE:Env a n [] E)(hR:R (.returned (retV [v])) w)(h:fn.results.toList= [.tmp t]:=by exact rfl)(hv:Qli P E w [.tmp t] [v]:=by exact⟨_,_,rfl,rfl,rfl⟩):bodyPost P fn R .ret a w:=
 Qlj [v] hE (by rw[h];exact hv) hR
theorem aC{i d:Nat}{o:Oper}{f:FuncId}{fv:Operand}{xs:Array Operand}{ts:Array TypeId}{captured:Array Value}{args all:List Value}{R:Value→World→Prop}(ho:ops[i]?=some o)(hop:o.op= .call {callee:= .value fv,args:=xs,argTypes:=ts})(hg:guardOf ops E o=some true)(hd:o.dst=some d)(hE:Env a n ds E)(hn:Nat.blt d n=true)
  (hf:Yt E fv=some (.func (.func f) #[] captured)) (hxs:Jr E xs.toList=some args) (hall:args++captured.toList=all)
  (hc:CallsIn (Fw none) 0 P f all.toArray w fun e w2=>∃v,e= .returned v∧R v w2)
  (k:∀a v w',R v w'→Env a n ds ((d,v)::E)→At P ρ ops Q (i+1) a w') (hfn:(P.funcs[f]?).map (fun F=>(F.name== "runtime.NumGoroutine",F.body.isNone))=some (false,false):=by kernel_rfl) (hi:Nat.blt i ops.size=true:=by exact rfl):At P ρ ops Q i a w:=
 JM (Qlf ho hop hg hd hE hn hf hxs hall hfn hc k) hi
end
section
variable {P:Program}{ρ:Option Nat}{ops:Array Oper}{Q:Exit→Act→World→Prop}{a:Act}{w g w0:World}{n:Nat}{ds:List Deferred}{E:List (Nat×Value)}{D0 D:Snap}{L0 L:List Blk}
end
class Rt (Q:Exit→Act→World→Prop) (Q':outParam (Exit→Act→World→Prop)):Prop where
 rt:∀a w,Q' .ret a w→Q .ret a w
instance (priority:=low)(Q:Exit→Act→World→Prop):Rt Q Q:=⟨fun _ _ h=>h⟩
instance {K1:Act→World→Prop}{Q Q':Exit→Act→World→Prop} [h:Rt Q Q']:Rt (Exit.then K1 Q) Q':=⟨fun a w h'=>QrB (h.rt a w h')⟩
instance {id:Nat}{Q Q':Exit→Act→World→Prop} [h:Rt Q Q']:Rt (Exit.inBlock id Q) Q':=⟨fun a w h'=>QoO (h.rt a w h')⟩
instance {X:Act→World→Prop}{Q Q':Exit→Act→World→Prop} [h:Rt Q Q']:Rt (Qx X Q) Q':=⟨fun a w h'=>QvA (h.rt a w h')⟩
theorem ret_{Q Q':Exit→Act→World→Prop} [h:Rt Q Q']{a:Act}{w:World}(h':Q' .ret a w):Q .ret a w:=h.rt a w h'
theorem bo(b:Bool){p:Prop}(f:b=false→p)(t:b=true→p):p:=by
 cases b with
 |false=>exact f rfl
 |true=>exact t rfl
theorem Env.wk{a:Act}{n:Nat}{ds:List Deferred}{E E':List (Nat×Value)}(h:Env a n ds E)(hs:sub E E'=sub' E':=by kernel_rfl):Env a n ds E':=h.weak hs
theorem lr{D:Snap}:D.le D:=Snap.le.refl D
theorem sq{P:Program}{F:Fence}{n:Nat}{Q:Exit→Act→World→Prop}{a:Act}{w:World}{x y:Code}(h:x.wpIn F n P (Exit.then (y.wpIn F n P Q) Q) a w):(Code.seq x y).wpIn F n P Q a w:=wpIn_seq h
theorem ra{P:Program}{ρ:Option Nat}{ops:Array Oper}{Q:Exit→Act→World→Prop}{a:Act}{w:World}{id:Nat}(h:At P ρ ops Q 0 a w):(Code.region id ops false).wpIn (Fw ρ) 0 P Q a w:=Qbq h
theorem ae{P:Program}{ρ:Option Nat}{ops:Array Oper}{Q:Exit→Act→World→Prop}{a:Act}{w:World}{i:Nat}(h:Q .normal a w)(hi:Nat.ble ops.size i=true:=by exact rfl):At P ρ ops Q i a w:=at_end hi h
theorem si{α:Type}{x y:α}(h:some x=some y):x=y:=Option.some.inj h
theorem cf{b:Bool}{α:Type}{x y:Option α}{r:α}(hb:b=false)(h:(bif b then x else y)=some r):y=some r:=Qvw hb h
theorem ct{b:Bool}{α:Type}{x y:Option α}{r:α}(hb:b=true)(h:(bif b then x else y)=some r):x=some r:=Qte hb h
theorem bs{α β:Type}{o:Option α}{f:α→Option β}{r:β}(h:o.bind f=some r):∃x,o=some x∧f x=some r:=bind_some h
abbrev RD(D:Snap)(l:List Nat)(w w':World):Prop:=RP l w w'∧(Sees D w→Sees D w')
instance (D:Snap)(ss l:List Nat):Idle (fun j=>RD D (plOf ss l j)):=⟨fun _ w=>⟨RP.refl _ w,fun h=>h⟩⟩
theorem le2{a b c:Snap}(h1:Snap.le a b)(h2:Snap.le b c):Snap.le a c:=Snap.le.trans h1 h2
end Go.Sep
set_option linter.unusedVariables false
set_option linter.unusedSimpArgs false
namespace Go.Sep
inductive Ty where
 |int (k:IntKind)|bool|str|arr (k:IntKind) (n:Nat)|sl (t:Ty)|st (n:Nat)|vec (n:Nat) (t:Ty)
def Ty.beq:Ty→Ty→Bool
 | .int k,.int k'=>sameKind k k'
 | .bool,.bool=>true
 | .str,.str=>true
 | .arr k n,.arr k' n'=>sameKind k k'&&Nat.beq n n'
 | .sl t,.sl t'=>Ty.beq t t'
 | .st n,.st n'=>Nat.beq n n'
 | .vec n t,.vec n' t'=>Nat.beq n n'&&Ty.beq t t'
 |_,_=>false
theorem Ty.eq_of_beq:∀{s t:Ty},Ty.beq s t=true→s=t:=by
 intro s
 induction s with
 |int k=>intro t h;cases t<;>simp only[Ty.beq,Bool.false_eq_true]at h;rw[YR h]
 |bool=>intro t h;cases t<;>simp only[Ty.beq,Bool.false_eq_true]at h;rfl
 |str=>intro t h;cases t<;>simp only[Ty.beq,Bool.false_eq_true]at h;rfl
 |arr k n=>intro t h;cases t<;>simp only[Ty.beq,Bool.false_eq_true,Qd]at h;rw[YR h.1,Qc h.2]
 |sl s ih=>intro t h;cases t<;>simp only[Ty.beq,Bool.false_eq_true]at h;rw[ih h]
 |st n=>intro t h;cases t<;>simp only[Ty.beq,Bool.false_eq_true]at h;rw[Qc h]
 |vec n s ih=>intro t h;cases t<;>simp only[Ty.beq,Bool.false_eq_true,Qd]at h;rw[Qc h.1,ih h.2]
@[reducible] def den (f : Nat → Type) : Ty → Type
 | .int _=>Int
 | .bool=>Bool
 | .str=>ByteArray
 | .arr _ n=>Vector Int n
 | .sl t=>List (den f t)
 | .st n=>f n
 | .vec _ t=>List (den f t)
@[reducible] def TU (f : Nat → Type) : List Ty → Type
 | []=>Unit
 | [t]=>den f t
 |t::t'::ts=>den f t×TU f (t'::ts)
structure Tb where
 ty:Nat→Type
 fs:Nat→List Ty
 get:∀n,ty n→TU ty (fs n)
 of:∀n,TU ty (fs n)→ty n
 kd:∀n,Kd (ty n)
 tn:TypeId→Option Nat
 te:TypeId→Option Ty
@[reducible] def kdVec {α : Type} (n : Nat) (K : Kd α) : Kd (List α) where
 n:=n*K.n
 r:=fun D x c=>x.length=n∧RL K D x c
 len:=fun D x c h=>by rw[h.2.len,h.1]
 one:=fun D x c h=>h.2.one
 mono:=fun D D' x c hd h=>⟨h.1,h.2.mono hd⟩
@[reducible] def kdT (T : Tb) : (t : Ty) → Kd (den T.ty t)
 | .int k=>YC k
 | .bool=>Qbs
 | .str=>kdStr
 | .arr k n=>XT k n
 | .sl t=>JX (kdT T t)
 | .st n=>T.kd n
 | .vec n t=>kdVec n (kdT T t)
def Qti:Kd Unit where
 n:=0
 r:=fun _ _ cs=>cs= []
 len:=fun _ _ _ h=>by rw[h];rfl
 one:=fun _ _ _ h u hu=>by rw[h]at hu;cases hu
 mono:=fun _ _ _ _ _ h=>h
@[reducible] def kdU (T : Tb) : (ts : List Ty) → Kd (TU T.ty ts)
 | []=>Qti
 | [t]=>kdT T t
 |t::t'::ts=>Yz (kdT T t) (kdU T (t'::ts))
def szT(T:Tb):Ty→Nat
 | .arr _ n=>n
 | .st n=>(T.kd n).n
 | .vec n t=>n*szT T t
 |_=>1
def agT:Ty→Bool
 | .arr _ _=>true
 | .st _=>true
 | .vec _ _=>true
 |_=>false
inductive SV(T:Tb) where
 |dt (t:Ty) (x:den T.ty t)
 |kb (b:Bool)
 |raw (v:Value)
 |nils
 |agg (l:SV T)
 |tup (l:SV T)
 |fn (f:FuncId) (l:SV T)
 |nl
 |cs (h t:SV T)
 |ptr (b off:Nat)
 |cell (t:Ty) (x:den T.ty t)
 |own (o:Nat)
 |elt (o:Nat) (i:Int) (off sz:Nat)
 |ela (b off:Nat) (i:Int) (n:Nat) (k:IntKind)
 |eva (b off:Nat) (i:Int) (n:Nat) (y:Ty) (fo:Nat)
 |sla (b p c n:Nat)
 |yld (i:Nat)
 |mp (ks:List Value) (vs:SV T)
inductive SB(T:Tb) where
 |var (tid:TypeId) (v:SV T)
 |own (t:Ty) (e:TypeId) (xs:List (den T.ty t)) (f:Bool)
 |lnt (t:Ty) (xs:List (den T.ty t))
def lookA{α:Type}:List (Nat×α)→Nat→Option α
 | [],_=>none
 |(k,v)::E,t=>bif Nat.beq k t then some v else lookA E t
structure Md(T:Tb) where
 m:Nat
 O:List (Nat×SV T)
structure SS(T:Tb) where
 E:List (Nat×SV T)
 L:List (Nat×Nat×SB T)
 nx:Nat
 md:Md T
def putB{T:Tb}(id:Nat)(c:Nat×SB T):List (Nat×Nat×SB T)→List (Nat×Nat×SB T)
 | []=> []
 |(k,d)::L=>bif Nat.beq k id then(k,c)::L else(k,d)::putB id c L
def delB{T:Tb}(id:Nat):List (Nat×Nat×SB T)→List (Nat×Nat×SB T)
 | []=> []
 |(k,d)::L=>bif Nat.beq k id then L else(k,d)::delB id L
section
variable {T:Tb}
def SS.put(s:SS T):Option Tmp→SV T→SS T
 |some d,v=>{s with E:=(d,v)::s.E}
 |none,_=>s
def SS.wr(s:SS T)(id:Nat)(b:SB T):SS T:={s with L:=putB id (s.nx,b) s.L,nx:=s.nx+1}
def SS.nw(s:SS T)(b:SB T):SS T:={s with L:=(s.nx,s.nx,b)::s.L,nx:=s.nx+1}
def szS:SV T→Nat
 | .dt t _=>szT T t
 | .raw v=>(QV v).length
 | .agg l=>szS l
 | .nl=>0
 | .cs h t=>szS h+szS t
 |_=>1
def agS:SV T→Bool
 | .dt t _=>agT t
 | .raw (.agg _)=>true
 | .agg _=>true
 | .nl=>true
 | .cs _ _=>true
 |_=>false
def exU:(ts:List Ty)→TU T.ty ts→SV T
 | [],_=> .nl
 | [t],x=> .cs (.dt t x) .nl
 |t::t'::ts,p=> .cs (.dt t p.1) (exU (t'::ts) p.2)
def exS(n:Nat)(x:T.ty n):SV T:=exU (T.fs n) (T.get n x)
def QdZ:SV T→Option (SV T)
 | .agg l=>some l
 | .dt (.st n) x=>some (exS n x)
 |_=>none
def subA:SV T→Nat→Nat→Bool→Option (SV T)
 | .dt (.arr k n) x,off,sz,ag=>bif Nat.beq sz 1&&(!ag&&Nat.blt off n)then some (.dt (.int k) (vget (show Vector Int n from x) off))else none
 |_,_,_,_=>none
def setA:SV T→Nat→Nat→Bool→SV T→Option (SV T)
 | .dt (.arr k n) x,off,sz,ag,.dt (.int k') z=>bif Nat.beq sz 1&&(!ag&&(Nat.blt off n&&sameKind k k'))then some (.dt (.arr k n) (vset (show Vector Int n from x) off z))else none
 |_,_,_,_,_=>none
mutual
def subS:Nat→SV T→Nat→Nat→Bool→Option (SV T)
 |0,_,_,_,_=>none
 | f+1,v,off,sz,ag=>
  bif Nat.beq off 0&&(Nat.beq (szS v) sz&&(agS v==ag))then some v
  else match QdZ v with
   |some l=>subL f l off sz ag
   |none=>subA v off sz ag
def subL:Nat→SV T→Nat→Nat→Bool→Option (SV T)
 |0,_,_,_,_=>none
 |f+1,.cs h t,off,sz,ag=>bif Nat.blt off (szS h)then subS f h off sz ag else subL f t (off-szS h) sz ag
 |_+1,_,_,_,_=>none
end
mutual
def setS:Nat→SV T→Nat→Nat→Bool→SV T→Option (SV T)
 |0,_,_,_,_,_=>none
 | f+1,v,off,sz,ag,u=>
  bif Nat.beq off 0&&(Nat.beq (szS v) sz&&(agS v==ag))then some u
  else match QdZ v with
   |some l=>match setL f l off sz ag u with
    |some l=>some (.agg l)
    |none=>none
   |none=>setA v off sz ag u
def setL:Nat→SV T→Nat→Nat→Bool→SV T→Option (SV T)
 |0,_,_,_,_,_=>none
 | f+1,.cs h t,off,sz,ag,u=>
  bif Nat.blt off (szS h)then match setS f h off sz ag u with
   |some h=>some (.cs h t)
   |none=>none
  else match setL f t (off-szS h) sz ag u with
   |some t=>some (.cs h t)
   |none=>none
 |_+1,_,_,_,_,_=>none
end
def nthL:SV T→Nat→Option (SV T)
 | .cs h _,0=>some h
 | .cs _ t,n+1=>nthL t n
 |_,_=>none
def Qc8(t t':Ty)(x:den T.ty t):Option (den T.ty t'):=
 if h:Ty.beq t t'=true then some (Ty.eq_of_beq h▸x)else none
def Qo8:(t:Ty)→(ts:List Ty)→den T.ty t→TU T.ty ts→TU T.ty (t::ts)
 |_, [],x,_=>x
 |_,_::_,x,p=>(x,p)
mutual
def pur:Nat→SV T→(t:Ty)→Option (den T.ty t)
 |0,_,_=>none
 |_+1,.dt t' x,t=>Qc8 t' t x
 |_+1,.kb b,.bool=>some b
 |f+1,.agg l,.st n=>match purL f l (T.fs n)with
  |some p=>some (T.of n p)
  |none=>none
 |_+1,_,_=>none
def purL:Nat→SV T→(ts:List Ty)→Option (TU T.ty ts)
 |0,_,_=>none
 |_+1,.nl, []=>some ()
 |f+1,.cs h l,t::ts=>match pur f h t,purL f l ts with
  |some x,some p=>some (Qo8 t ts x p)
  |_,_=>none
 |_+1,_,_=>none
end
mutual
def frz:Nat→SS T→SV T→(t:Ty)→Option (den T.ty t×SS T)
 |0,_,_,_=>none
 |_+1,s,.dt t' x,t=>match Qc8 t' t x with
  |some x=>some (x,s)
  |none=>none
 |_+1,s,.kb b,.bool=>some (b,s)
 |_+1,s,.nils,.sl _=>some ([],s)
 | _+1,s,.own o,.sl t=>match lookA s.L o with
  |some (_,.own t' e xs f)=>match Qc8 (.sl t') (.sl t) xs with
   |some ys=>some (ys,bif f then s.wr o (.own t' e xs false)else s)
   |none=>none
  |some (_,.lnt t' xs)=>match Qc8 (.sl t') (.sl t) xs with
   |some ys=>some (ys,s)
   |none=>none
  |_=>none
 |f+1,s,.agg l,.st n=>match frzL f s l (T.fs n)with
  |some (p,s)=>some (T.of n p,s)
  |none=>none
 |f+1,s,.agg l,.vec n t=>match frzW f s l t with
  |some (xs,s)=>bif Nat.beq (List.length xs) n then some (xs,s)else none
  |none=>none
 |_+1,_,_,_=>none
def frzL:Nat→SS T→SV T→(ts:List Ty)→Option (TU T.ty ts×SS T)
 |0,_,_,_=>none
 |_+1,s,.nl, []=>some ((),s)
 | f+1,s,.cs h l,t::ts=>match frz f s h t with
  |some (x,s)=>match frzL f s l ts with
   |some (p,s)=>some (Qo8 t ts x p,s)
   |none=>none
  |none=>none
 |_+1,_,_,_=>none
def frzW:Nat→SS T→SV T→(t:Ty)→Option (List (den T.ty t)×SS T)
 |0,_,_,_=>none
 |_+1,s,.nl,_=>some ([],s)
 | f+1,s,.cs h l,t=>match frz f s h t with
  |some (x,s)=>match frzW f s l t with
   |some (xs,s)=>some (x::xs,s)
   |none=>none
  |none=>none
 |_+1,_,_,_=>none
end
def tyOf(T:Tb)(P:Program):Nat→TypeId→Option Ty
 |0,_=>none
 | f +1,t=>match T.te t with
  |some y=>some y
  | none=>match P.underlying t with
   |some (.int k)=>some (.int k)
   |some .bool=>some .bool
   |some .string=>some .str
   |some (.slice e)=>match tyOf T P f e with
    |some y=>some (.sl y)
    |none=>none
   | some (.array n e)=>match P.underlying e with
    |some (.int k)=>some (.arr k n)
    |_=>match tyOf T P f e with
     |some y=>some (.vec n y)
     |none=>none
   |some (.struct _)=>match T.tn t with
    |some n=>some (.st n)
    |none=>none
   |_=>none
def tsz(P:Program)(t:TypeId):Option (Nat×Bool):=
 match P.underlying t,P.info? t with
 |some (.struct _),some i|some (.array _ _),some i=>some (i.size,true)
 |some _,some i=>bif Nat.beq i.size 1 then some (1,false)else none
 |_,_=>none
def ints(k:IntKind):Nat→List Value→Option (List Int×List Value)
 |0,cs=>some ([],cs)
 |n+1,.int k' x::cs=>bif sameKind k k' then match ints k n cs with
  |some (l,cs)=>some (x::l,cs)
  |none=>none
  else none
 |_+1,_=>none
mutual
def ofC(P:Program):Nat→TypeId→List Value→Option (SV T×List Value)
 |0,_,_=>none
 | f+1,t,cs=>match P.underlying t with
  |some (.struct fs)=>match ofF P f fs.toList cs with
   |some (l,cs)=>some (.agg l,cs)
   |none=>none
  | some (.array n e)=>match P.underlying e with
   |some (.int k)=>match ints k n cs with
    |some (l,cs)=>some (.dt (.arr k n) (vofL n l),cs)
    |none=>none
   |_=>match ofN P f n e cs with
    |some (l,cs)=>some (.agg l,cs)
    |none=>none
  |some _=>match cs with
   | .int k x::cs=>some (.dt (.int k) x,cs)
   | .bool b::cs=>some (.kb b,cs)
   | .string s::cs=>some (.dt .str s,cs)
   | .slice none 0 0::cs=>some (.nils,cs)
   |v::cs=>bif v.oneCell' then some (.raw v,cs)else none
   | []=>none
  |none=>none
def ofF(P:Program):Nat→List Field→List Value→Option (SV T×List Value)
 |0,_,_=>none
 |_+1, [],cs=>some (.nl,cs)
 | f+1,x::fs,cs=>match ofC P f x.type cs with
  |some (h,cs)=>match ofF P f fs cs with
   |some (l,cs)=>some (.cs h l,cs)
   |none=>none
  |none=>none
def ofN(P:Program):Nat→Nat→TypeId→List Value→Option (SV T×List Value)
 |0,_,_,_=>none
 |_+1,0,_,cs=>some (.nl,cs)
 | f+1,n+1,e,cs=>match ofC P f e cs with
  |some (h,cs)=>match ofN P f n e cs with
   |some (l,cs)=>some (.cs h l,cs)
   |none=>none
  |none=>none
end
def zeroS(P:Program)(t:TypeId):Option (SV T):=
 match(P.info? t).bind (·.zero)with
 |some z=>match ofC P 200 t (QV z)with
  |some (v, [])=>some v
  |_=>none
 |none=>none
end
end Go.Sep
