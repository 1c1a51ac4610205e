/-
 Elements of a slice that is owned; comparisons; what the library's small functions are made of.
-/
import Derived.Test.YtomndohdnfebgaaGreatDoorSepE
set_option linter.unusedVariables false
set_option linter.unusedSimpArgs false
namespace Go.Sep
def slT(P:Program)(t:TypeId):Option (Nat×Nat×Nat×Nat):=
 match P.underlying t with
 | some (.slice e)=>match P.info? e with
  |some i=>match i.zero with
   |some z=>some (e,i.size,i.bytes,(QR z).length)
   |none=>none
  |none=>none
 |_=>none
theorem yM{P:Program}{t e sz by_ zl:Nat}(h:slT P t=some (e,sz,by_,zl)):
  P.underlying t=some (.slice e)∧∃i z,P.info? e=some i∧i.zero=some z∧i.size=sz∧i.bytes=by_∧(QR z).length=zl:=by
 unfold slT at h
 split at h
 ·rename_i hu
  split at h
  ·rename_i i hi
   split at h
   ·rename_i z hz
    simp only[Qa,Qe]at h
    obtain⟨rfl,h1,h2,h3⟩:=h
    exact⟨hu,i,z,hi,hz,h1,h2,h3⟩
   ·cases h
  ·cases h
 ·cases h
def arT(P:Program)(t:TypeId):Option (Nat×Nat×Nat):=
 match P.underlying t with
 |some (.array n e)=>(P.info? e).map fun i=>(n,e,i.size)
 |_=>none
theorem QqH{P:Program}{t n e sz:Nat}(h:arT P t=some (n,e,sz)):P.underlying t=some (.array n e)∧(P.info? e).map (·.size)=some sz:=by
 unfold arT at h
 split at h
 ·rename_i hu
  obtain⟨i,hi,he⟩:=Option.map_eq_some_iff.1 h
  simp only[Qe]at he
  obtain⟨rfl,rfl,rfl⟩:=he
  exact⟨hu,by simp[hi]⟩
 ·cases h
def fldT(P:Program)(s m:Nat):Option (Nat×Nat):=
 match P.underlying s with
 | some (.struct fs)=>match fs[m]? with
  |some f=>match P.info? f.type with
   |some i=>bif Nat.blt 0 i.size then some (f.offset,f.type)else none
   |none=>none
  |none=>none
 |_=>none
theorem Qi9{P:Program}{s m off t:Nat}(h:fldT P s m=some (off,t)):
  ∃fs f,P.underlying s=some (.struct fs)∧fs[m]?=some f∧(P.info? f.type).map (fun q=>Nat.blt 0 q.size)=some true∧f.offset=off∧f.type=t:=by
 unfold fldT at h
 split at h
 ·rename_i fs hu
  split at h
  ·rename_i f hf
   split at h
   ·rename_i i hi
    cases hb:Nat.blt 0 i.size with
    |false=>rw[hb]at h;cases h
    |true=>
     rw[hb]at h
     simp only[Qg,Qa,Qe]at h
     exact⟨fs,f,hu,hf,by simp[hi,hb],h.1,h.2⟩
   ·cases h
  ·cases h
 ·cases h
def jn{α β:Type}(f:α→Option β)(g:(α→Option β)→Option β):Option β:=g f
theorem QsX{α β:Type}{f:α→Option β}{g:(α→Option β)→Option β}{r:β}(h:jn f g=some r):∃j:α→Option β,(∀y,j y=some r→f y=some r)∧g j=some r:=⟨f,fun _ h=>h,h⟩
section
variable {P:Program}{ρ:Option Nat}{ops:Array Oper}{Q:Exit→Act→World→Prop}{a:Act}{n:Nat}{ds:List Deferred}{E:List (Nat×Value)}
variable {g w w0:World}{D D0:Snap}{L L0:List Blk}{i:Nat}{o:Oper}{d:Nat}{C:Act→World→Prop}{C1:Act→Prop}{R:World→World→Prop}
theorem QqI{x y:Code}(X:Act→World→Prop)(hx:x.wpIn (Fw ρ) 0 P (Exit.then X Q) a w)(hy:∀a w,X a w→y.wpIn (Fw ρ) 0 P Q a w):(Code.seq x y).wpIn (Fw ρ) 0 P Q a w:=
 wpIn_seq (wpIn_mono hx (fun e a w h=>by cases e<;>first|exact hy _ _ h|exact h))
def Qx(X:Act→World→Prop)(Q:Exit→Act→World→Prop):Exit→Act→World→Prop
 | .normal,a,w=>X a w
 |e,a,w=>Q e a w
theorem Xv{id:Nat}{c:Code}(X:Act→World→Prop)(I:Nat→Act→World→Prop)(k0:Nat)(h0:I k0 a w)(hX:∀a w,X a w→Q .normal a w)
  (round:∀k a w,I k a w→∃k',k=k'+1∧c.wpIn (Fw ρ) 0 P (Exit.then (fun a' w'=>I k' a' w') (Exit.inBlock id (Qx X Q))) a w):(Code.block id (.loop c)).wpIn (Fw ρ) 0 P Q a w:=
 wpIn_mono (wpIn_block (Qn0 I k0 h0 round)) (fun e a w h=>by cases e<;>first|exact hX _ _ h|exact h)
theorem QqJ{K1:Act→World→Prop}(h:Q .ret a w):Exit.then K1 Q .ret a w:=h
theorem Qn4{id:Nat}(h:Q .ret a w):Exit.inBlock id Q .ret a w:=h
theorem Quq{X:Act→World→Prop}(h:Q .ret a w):Qx X Q .ret a w:=h
theorem Qaq{s m b off fo ft:Nat}{x:Operand}(off':Nat)(ho:ops[i]?=some o)(hop:o.op= .fieldAddr s x m)(hg:guardOf ops E o=some true)(hd:o.dst=some d)(hE:Env a n ds E)(hn:Nat.blt d n=true)
  (hx:Yn E x=some (.pointer (some ⟨b,off,none⟩))) (hT:fldT P s m=some (fo,ft)) (hoff:off+fo=off')
  (k:∀a,Env a n ds ((d,.pointer (some ⟨b,off',none⟩))::E)→C1 a):Tk P ops R i n ds E a w C1:=by
 obtain⟨fs,f,h1,h2,h3,h4,_⟩:=Qi9 hT
 subst h4
 exact Qi8 off' ho hop hg hd hE hn hx h1 h2 h3 hoff k
theorem QsY{s m fo ft:Nat}{x:Operand}{cs:List Value}(v:Value)(ho:ops[i]?=some o)(hop:o.op= .field s x m)(hg:guardOf ops E o=some true)(hd:o.dst=some d)(hE:Env a n ds E)(hn:Nat.blt d n=true)
  (hx:Yn E x=some (.agg cs.toArray)) (hT:fldT P s m=some (fo,ft)) (hv:ldv P ft cs fo=some v)
  (k:∀a,Env a n ds ((d,v)::E)→C1 a):Tk P ops R i n ds E a w C1:=by
 obtain⟨fs,f,h1,h2,_,h4,h5⟩:=Qi9 hT
 subst h4 h5
 exact QqD v ho hop hg hd hE hn hx h1 h2 hv k
theorem QkB{α:Type}{K:Kd α}{t e by_ zl:Nat}{x ix:Operand}{A:Option Addr}{cap:Nat}{l:List α}{m:Int}{kk:IntKind}{y:α}(ho:ops[i]?=some o)(hop:o.op= .indexAddr t x ix)(hg:guardOf ops E o=some true)(hd:o.dst=some d)(hE:Env a n ds E)(hn:Nat.blt d n=true)
  (hx:Yn E x=some (.slice A l.length cap)) (hix:Yn E ix=some (.int kk m)) (hT:slT P t=some (e,K.n,by_,zl)) (hpos:Nat.blt 0 K.n=true)
  (hl:Sl K D A cap l) (hy:getI l m=some y)
  (k:∀a b off,Env a n ds ((d,.pointer (some ⟨b,off,none⟩))::E)→Cell K D b off y→C1 a):Tk P ops R i n ds E a w C1:=by
 obtain⟨h1,ii,z,h2,_,h4,_⟩:=yM hT
 obtain⟨h0,hy'⟩:=jw hy
 exact QqE y ho hop hg hd hE hn hx hix h1 (by simp[h2,h4]) hpos hl h0 hy' k
theorem QsZ{α:Type}{K:Kd α}{t e by_ zl:Nat}{x:Operand}{lo hi:Option Operand}{zl' zh:Int}{A:Option Addr}{cap:Nat}{l m:List α}(ho:ops[i]?=some o)(hop:o.op= .slice t x lo hi none)(hg:guardOf ops E o=some true)(hd:o.dst=some d)(hE:Env a n ds E)(hn:Nat.blt d n=true)
  (hx:Yn E x=some (.slice A l.length cap)) (hT:slT P t=some (e,K.n,by_,zl)) (hlo:Qbf E lo 0 zl') (hhi:Qbf E hi l.length zh) (hl:Sl K D A cap l) (hm:subI l zl' zh=some m)
  (k:∀a A' cap',Env a n ds ((d,.slice A' m.length cap')::E)→Sl K D A' cap' m→C1 a):Tk P ops R i n ds E a w C1:=by
 obtain⟨h1,ii,z,h2,_,h4,_⟩:=yM hT
 exact QqF ho hop hg hd hE hn hx h1 (by simp[h2,h4]) hlo hhi hl hm k
theorem Qar{f:Bool}{α:Type}{K:Kd α}{s x:Operand}{t e bytes:Nat}{A B:Option Addr}{cap cap2:Nat}{l m lm:List α}{q:Blk}(ho:ops[i]?=some o)(hop:o.op= .call {callee:= .builtin .append,args:= #[s,x],argTypes:= #[t,t] })(hg:guardOf ops E o=some true)(hd:o.dst=some d)(hE:Env a n ds E)(hn:Nat.blt d n=true)
  (hS:Stp g w0 D0 L0 w D (q::L)) (hs:Yn E s=some (.slice A l.length cap)) (hx:Yn E x=some (.slice B m.length cap2))
  (hT:slT P t=some (e,K.n,bytes,K.n)) (hpos:Nat.blt 0 K.n=true) (hb1:Nat.blt 0 bytes=true)
  (hown:OwnX f K e D A cap l q) (hm:Sl K D B cap2 m) (hfit:catI bytes l m=some lm)
  (k:∀a A' cap' q' w',JY (ids [q]) w w'→Env a n ds ((d,.slice A' lm.length cap')::E)→OwnX f K e D A' cap' lm q'→Stp g w0 D0 L0 w' D (q'::L)→C a w'):Op1 P ρ ops Q i C a w:=by
 obtain⟨h1,ii,z,h2,h3,h4,h5,h6⟩:=yM hT
 obtain⟨hf,rfl⟩:=Qn2 hfit
 exact Qn3 ho hop hg hd hE hn hS hs hx h1 h2 h3 h4 h5 h6 hpos hb1 hown hm hf k
def retV:List Value→Value
 | [v]=>v
 |vs=> .tuple vs.toArray
def QkC(P:Program)(E:List (Nat×Value))(w:World):List ResultVar→List Value→Prop
 | [],vs=>vs= []
 | .tmp t::rs,vs=>∃v us,vs=v::us∧look E t=some v∧QkC P E w rs us
 | .cell p t::rs,vs=>∃v us b off c T,vs=v::us∧look E p=some (.pointer (some ⟨b,off,none⟩))∧w.heap[b]?=some (.cells (List.toArray c) T (0,0))∧ldv P t c off=some v∧QkC P E w rs us
def Qbg(a:Act)(r:ResultVar):Sem Value:=
 match r with
 | .tmp t=>pure (a.tmps.getD t undef)
 | .cell p t=>do loadVar t (←asAddr (a.tmps.getD p undef))
theorem Qn5(hE:Env a n ds E):∀(rs:List ResultVar) (vs:List Value),QkC P E w rs vs→
  Sem.run P (rs.mapM (Qbg a)) w= .ok vs w:=by
 intro rs
 induction rs with
 |nil=>intro vs h;simp only[QkC]at h;subst h;rfl
 | cons r rs ih=>
  intro vs h
  cases r with
  |tmp t=>
   obtain⟨v,us,rfl,hv,h⟩:=h
   have h1:=hE.at_ t v hv
   simp[List.mapM_cons,Qbg,h1,ih us h]
  |cell p t=>
   obtain⟨v,us,b,off,c,T,rfl,hp,hb,hv,h⟩:=h
   have h1:=hE.at_ p _ hp
   simp[List.mapM_cons,Qbg,h1,asAddr,Qky hb hv,ih us h]
theorem QkD{fn:Func}{R:Ending→World→Prop}(vs:List Value)(hE:Env a n [] E)(h:QkC P E w fn.results.toList vs)(hR:R (.returned (retV vs)) w):bodyPost P fn R .ret a w:=by
 refine⟨hE.ds,retV vs,?_,hR⟩
 have h1:=Qn5 (P:=P) (w:=w) hE _ _ h
 have h2:Sem.run P (fn.results.mapM (Qbg a)) w= .ok vs.toArray w:=by
  rw[Array.mapM_eq_mapM_toList]
  simp only[Sem.run_map,h1,Result.andThen_ok]
 have h3:results fn a.tmps=(do let vs←fn.results.mapM (Qbg a);pure (if h:vs.size=1 then vs[0]else .tuple vs)):=rfl
 rw[h3,Sem.run_bind,h2]
 simp only[Result.andThen_ok,Sem.run_pure]
 match vs with
 | []=>rfl
 | [v]=>rfl
 |v::u::vs=>simp[retV]
theorem QqK{fn:Func}{R:Ending→World→Prop}(vs:List Value)(hE:Env a n [] E)(h:QkC P E w fn.results.toList vs)(hR:R (.returned (retV vs)) w):bodyPost P fn R .normal a w:=
 QkD vs hE h hR
end
end Go.Sep
set_option linter.unusedVariables false
set_option linter.unusedSimpArgs false
namespace Go.Sep
theorem Qfs{b b':Nat}{u u':OB}(h:(some (b,u):Blk)=some (b',u')):b=b'∧u=u':=by
 cases h;exact⟨rfl,rfl⟩
section
variable {P:Program}{ρ:Option Nat}{ops:Array Oper}{Q:Exit→Act→World→Prop}{a:Act}{n:Nat}{ds:List Deferred}{E:List (Nat×Value)}
variable {g w w0:World}{D D0:Snap}{L L0:List Blk}{i:Nat}{o:Oper}{d:Nat}{C:Act→World→Prop}{C1:Act→Prop}{R:World→World→Prop}
variable {α:Type}{K:Kd α}
theorem Qbh{T t by_ zl:Nat}{x ix:Operand}{A:Option Addr}{cap:Nat}{l:List α}{q:Blk}{m:Int}{kk:IntKind}{y:α}(ho:ops[i]?=some o)(hop:o.op= .indexAddr t x ix)(hg:guardOf ops E o=some true)(hd:o.dst=some d)(hE:Env a n ds E)(hn:Nat.blt d n=true)
  (hx:Yn E x=some (.slice A l.length cap)) (hix:Yn E ix=some (.int kk m)) (hT:slT P t=some (T,K.n,by_,zl)) (hl:OwnD K T D A cap l q) (hy:getI l m=some y)
  (k:∀a b u,q=some (b,u)→Env a n ds ((d,.pointer (some ⟨b,m.toNat*K.n,none⟩))::E)→C1 a):Tk P ops R i n ds E a w C1:=by
 obtain⟨h1,ii,z,h2,_,h4,_⟩:=yM hT
 obtain⟨h0,hy'⟩:=jw hy
 have hlt:=(List.getElem?_eq_some_iff.1 hy').1
 obtain⟨cs,hO,hr⟩:=hl
 cases q with
 |none=>have:=(hO.2.2.2.2 rfl).2;omega
 |some p=>
  obtain⟨b,u⟩:=p
  obtain⟨rfl,_⟩:=hO
  have hltI:m<(l.length:Int):=by omega
  refine ZG (v:= .pointer (some ⟨b,m.toNat*K.n,none⟩)) hE ho hg hd hn (by simp[hop,QU]) (fun w' _=> ?_) (fun a' h'=>k a' b u rfl h')
  simp[execOp,hop,hE.eval hx,hE.eval hix,Instr.indexAt,asIntOf,Ql h1,h0,hltI,sizeOf,typeInfo,h2,h4,addr_add]
theorem OwnD.cell{T:Nat}{A:Option Addr}{cap:Nat}{l:List α}{b:Nat}{u:OB}{m:Int}{y:α}(h:OwnD K T D A cap l (some (b,u)))(hy:getI l m=some y):
  ∃cs Cl,K.r D y cs∧u=(.cells Cl T (0,0),0)∧∀j v,cs[j]?=some v→Cl[m.toNat*K.n+j]?=some v:=by
 obtain⟨cs,⟨_,_,_,hcl,Cl,k0,rfl,_,hk0,_,ht⟩,hr⟩:=h
 obtain rfl:=hk0 rfl
 obtain⟨h0,hy'⟩:=jw hy
 obtain⟨c,hc,hj⟩:=hr.at_ hy'
 refine⟨c,Cl,hc,rfl,fun j v hv=> ?_⟩
 have:=hj j v hv
 rw[←ht,List.getElem?_take]at this
 split at this
 ·simpa using this
 ·cases this
theorem QlT(j:Nat){t:TypeId}{x:Operand}{b off0 off:Nat}{c:List Value}{Cl:Array Value}{T:TypeId}{fr:Nat×Nat}{n0:Nat}(v:Value)(ho:ops[i]?=some o)(hop:o.op= .load t x)(hg:guardOf ops E o=some true)(hd:o.dst=some d)(hE:Env a n ds E)(hn:Nat.blt d n=true)
  (hS:Stp g w0 D0 L0 w D L) (hx:Yn E x=some (.pointer (some ⟨b,off0+off,none⟩))) (hb:L[j]?=some (some (b,(.cells Cl T fr,n0)))) (hc:∀j u,c[j]?=some u→Cl[off0+j]?=some u) (hv:ldv P t c off=some v) (hM:∀w',R w w'→w'.heap[b]?=w.heap[b]?)
  (k:∀a,Env a n ds ((d,v)::E)→C1 a):Tk P ops R i n ds E a w C1:=by
 refine ZG (v:=v) hE ho hg hd hn (by simp[hop,QU]) (fun w' hk=> ?_) k
 simp[execOp,hop,hE.eval hx,Instr.loadAt,Instr.sureAddr,QbW (w:=w') ((hM w' hk).trans (hS.heapAt hb)) hc hv]
theorem RL.set:∀{l:List α} {cs c:List Value} {m:Nat} {x:α},RL K D l cs→m<l.length→K.r D x c→RL K D (l.set m x) (cs.take (m*K.n)++c++cs.drop (m*K.n+c.length)):=by
 intro l
 induction l with
 |nil=>intro cs c m x _ hm;simp at hm
 | cons y l ih=>
  intro cs c m x h hm hx
  obtain⟨c1,c2,rfl,h1,h2⟩:=h
  have hn:=K.len _ _ _ h1
  have hc:=K.len _ _ _ hx
  cases m with
  |zero=>
   refine⟨c,c2,?_,hx,h2⟩
   simp only[Nat.zero_mul,Nat.zero_add,List.take_zero,List.nil_append]
   rw[hc,←hn,List.drop_left]
  |succ m=>
   refine⟨c1,_,?_,h1,ih h2 (by simpa using hm) hx⟩
   have e:(m+1)*K.n=c1.length+m*K.n:=by rw[Nat.succ_mul,hn,Nat.add_comm]
   rw[e,List.take_length_add_append,Nat.add_assoc,List.drop_length_add_append]
   simp
def inI{α:Type}(l:List α)(m:Int):Prop:=0≤m∧m.toNat<l.length
theorem Qsd{l:List α}{m:Int}{y:α}(h:getI l m=some y):inI l m:=⟨(jw h).1,(List.getElem?_eq_some_iff.1 (jw h).2).1⟩
theorem Qft{t:TypeId}{yo x:Operand}{T:TypeId}{A:Option Addr}{cap:Nat}{l:List α}{b:Nat}{u:OB}{m:Int}(xd:α){v:Value}(ho:ops[i]?=some o)(hop:o.op= .store t yo x)(hg:guardOf ops E o=some true)(hd:o.dst=none)(hE:Env a n ds E)
  (hS:Stp g w0 D0 L0 w D (some (b,u)::L)) (hown:OwnD K T D A cap l (some (b,u))) (hyo:Yn E yo=some (.pointer (some ⟨b,m.toNat*K.n,none⟩))) (hx:Yn E x=some v) (hin:inI l m) (hr:K.r D xd (QR v)) (hsz:P.cellsOf t=K.n) (hty:(P.info? t).isSome=true)
  (k:∀a u' w',JY [b] w w'→Env a n ds E→OwnD K T D A cap (l.set m.toNat xd) (some (b,u'))→Stp g w0 D0 L0 w' D (some (b,u')::L)→C a w'):Op1 P ρ ops Q i C a w:=by
 obtain⟨cs,⟨hA,h1,h2,hcl,Cl,k0,rfl,_,hk0,hC,ht⟩,hrl⟩:=hown
 obtain rfl:=hk0 rfl
 obtain⟨h0,hlt⟩:=hin
 have hvl:=K.len _ _ _ hr
 have hfit:m.toNat*K.n+(QR v).length≤Cl.size:=by
  rw[hvl,hC,←Nat.succ_mul];exact Nat.mul_le_mul_right _ (by omega)
 obtain⟨ii,hi⟩:=Option.isSome_iff_exists.1 hty
 have hs:ii.size=(QR v).length:=by rw[hvl];simpa[Program.cellsOf,hi] using hsz
 have hst:=run_storeCells_at P b (m.toNat*K.n) T (QR v) 0 Cl w hS.heap0 (by simpa using hfit) (fun z hz=>K.one _ _ _ hr z hz)
 simp only[Nat.add_zero]at hst
 refine Qfl (w':=w.setRow b (Cl.toList.take (m.toNat*K.n)++QR v++Cl.toList.drop (m.toNat*K.n+(QR v).length)).toArray) hE ho hg (by simp[hd,Jp]) (by simp[hop,QU]) ?_ ?_
 ·simp[execOp,hop,hE.eval hx,hE.eval hyo,Instr.storeAt,Instr.sureAddr,storeVar,sizeOf,typeInfo,hi,hs,JZ,hst]
 ·rw [hd]
  intro a' h'
  refine k a' _ _ ⟨by simp,fun k _ hk=>setRow_other w b k _ (by simpa using hk)⟩ h' ⟨cs.take (m.toNat*K.n)++QR v++cs.drop (m.toNat*K.n+(QR v).length),⟨hA,by simpa using h1,h2,?_,_,0,rfl,Nat.zero_le _,fun _=>rfl,?_,?_⟩,hrl.set hlt hr⟩ (hS.put0 (by simp) rfl rfl rfl (setRow_heap w b Cl _ T _ hS.heap0) (fun k hk=>setRow_other w b k _ hk))
  ·have:(m.toNat+1)*K.n≤l.length*K.n:=Nat.mul_le_mul_right _ (by omega)
   rw[Nat.succ_mul]at this
   simp only[List.length_append,List.length_take,List.length_drop,List.length_set,hcl,hvl]
   omega
  ·simp;omega
  ·have hle:m.toNat*K.n+(QR v).length≤l.length*K.n:=by
    rw[hvl,←Nat.succ_mul];exact Nat.mul_le_mul_right _ (by omega)
   have hCl:l.length*K.n≤Cl.size:=by rw[hC];exact Nat.mul_le_mul_right _ h1
   rw[List.length_set,←ht]
   apply List.ext_getElem?
   intro j
   simp only[List.getElem?_take,List.getElem?_append,List.length_take,List.getElem?_drop,Array.length_toList,List.append_assoc]
   have e1:min (m.toNat*K.n) Cl.size=m.toNat*K.n:=by omega
   have e2:min (m.toNat*K.n) (min (l.length*K.n) Cl.size)=m.toNat*K.n:=by omega
   simp only[e1,e2]
   by_cases c1:j<l.length*K.n
   ·simp only[c1,if_true]
    by_cases c2:j<m.toNat*K.n
    ·simp[c2]
    ·simp only[c2,if_false]
     by_cases c3:j-m.toNat*K.n<(QR v).length
     ·simp[c3]
     ·simp only[c3,if_false]
      rw[if_pos (by omega)]
   ·simp only[c1,if_false]
    rw[if_neg (by omega),if_neg (by omega),if_neg (by omega)]
theorem QcM{op:BinOp}{xt yt:TypeId}{x y:Operand}{u v r:Value}(ho:ops[i]?=some o)(hop:o.op= .binOp op xt x y yt)(hg:guardOf ops E o=some true)(hd:o.dst=some d)(hE:Env a n ds E)(hn:Nat.blt d n=true)
  (hx:Yn E x=some u) (hy:Yn E y=some v) (hr:∀w,(do eqGuard op xt x y u v;binOp op xt u v:Sem Value).run P w= .ok r w)
  (k:∀a,Env a n ds ((d,r)::E)→C1 a):Tk P ops R i n ds E a w C1:=by
 refine ZG (v:=r) hE ho hg hd hn (by simp[hop,QU]) (fun w' _=> ?_) k
 have:=hr w'
 simp only[execOp,hop,hE.eval hx,hE.eval hy]
 rw[Sem.run_bind,this]
 rfl
def boolT(P:Program)(t:TypeId):Bool:=match P.underlying t with|some .bool=>true|_=>false
theorem QdC{t:TypeId}(h:boolT P t=true):P.underlying t=some .bool:=by unfold boolT at h;split at h<;>first|assumption|cases h
theorem qU{op:BinOp}{t:TypeId}{x y:Operand}{u v:Value}(h:match u,v with| .nilIface,.nilIface=>False| .agg _,.agg _=>False|_,_=>True)(w:World):(eqGuard op t x y u v).run P w= .ok () w:=by
 unfold eqGuard
 cases op<;>simp only[Bool.not_true,Bool.not_false,Bool.false_eq_true,if_true,if_false,Sem.run_pure]<;>try rfl
 all_goals
  cases u<;>cases v<;>first|rfl|exact h.elim
theorem yE{op:BinOp}{t:TypeId}{x y:Operand}{u v r:Value}(hg:∀w,(eqGuard op t x y u v).run P w= .ok () w)(h:∀w,(binOp op t u v).run P w= .ok r w)(w:World):(do eqGuard op t x y u v;binOp op t u v:Sem Value).run P w= .ok r w:=by
 rw[Sem.run_bind,hg]
 exact h w
theorem jZ{t:TypeId}{u v:Value}:Op.equal t u v=Op.equalIn (9999+1) t u v:=rfl
theorem Qs0{t:TypeId}{x y:Operand}(hT:boolT P t=true)(b c:Bool)(w:World):(do eqGuard .eql t x y (.bool b) (.bool c);binOp .eql t (.bool b) (.bool c):Sem Value).run P w= .ok (.bool (b==c)) w:=by
 refine yE (qU trivial) (fun w=> ?_) w
 show(do pure (.bool (←Op.equal t (.bool b) (.bool c))):Sem Value).run P w=_
 rw[jZ,Op.equalIn]
 simp[Ql (QdC hT)]
theorem Qs1{t:TypeId}{x y:Operand}(hT:boolT P t=true)(b c:Bool)(w:World):(do eqGuard .neq t x y (.bool b) (.bool c);binOp .neq t (.bool b) (.bool c):Sem Value).run P w= .ok (.bool (!(b==c))) w:=by
 refine yE (qU trivial) (fun w=> ?_) w
 show(do pure (.bool (!(←Op.equal t (.bool b) (.bool c)))):Sem Value).run P w=_
 rw[jZ,Op.equalIn]
 simp[Ql (QdC hT)]
def sliceT(P:Program)(t:TypeId):Bool:=match P.underlying t with|some (.slice _)=>true|_=>false
theorem Qcv{t:TypeId}(h:sliceT P t=true):∃e,P.underlying t=some (.slice e):=by unfold sliceT at h;split at h<;>first|exact⟨_,by assumption⟩|cases h
theorem Qbi{t:TypeId}{x y:Operand}(hT:sliceT P t=true)(A:Option Addr)(m c:Nat)(w:World):(do eqGuard .eql t x y (.slice A m c) (.slice none 0 0);binOp .eql t (.slice A m c) (.slice none 0 0):Sem Value).run P w= .ok (.bool A.isNone) w:=by
 obtain⟨e,he⟩:=Qcv hT
 refine yE (qU trivial) (fun w=> ?_) w
 show(do pure (.bool (←Op.equal t (.slice A m c) (.slice none 0 0))):Sem Value).run P w=_
 rw[jZ,Op.equalIn]
 cases A<;>simp[Ql he]
def ptrT(P:Program)(t:TypeId):Bool:=match P.underlying t with|some (.pointer _)=>true|_=>false
theorem Qja{t:TypeId}(h:ptrT P t=true):∃e,P.underlying t=some (.pointer e):=by unfold ptrT at h;split at h<;>first|exact⟨_,by assumption⟩|cases h
theorem Qn6{t:TypeId}{x y:Operand}(hT:ptrT P t=true)(A:Option Addr)(w:World):(do eqGuard .eql t x y (.pointer A) (.pointer none);binOp .eql t (.pointer A) (.pointer none):Sem Value).run P w= .ok (.bool A.isNone) w:=by
 obtain⟨e,he⟩:=Qja hT
 refine yE (qU trivial) (fun w=> ?_) w
 show(do pure (.bool (←Op.equal t (.pointer A) (.pointer none))):Sem Value).run P w=_
 rw[jZ,Op.equalIn]
 cases A<;>simp[Ql he]
theorem Qn7{t:TypeId}{x y:Operand}(hT:ptrT P t=true)(A:Option Addr)(w:World):(do eqGuard .neq t x y (.pointer A) (.pointer none);binOp .neq t (.pointer A) (.pointer none):Sem Value).run P w= .ok (.bool (!A.isNone)) w:=by
 obtain⟨e,he⟩:=Qja hT
 refine yE (qU trivial) (fun w=> ?_) w
 show(do pure (.bool (!(←Op.equal t (.pointer A) (.pointer none)))):Sem Value).run P w=_
 rw[jZ,Op.equalIn]
 cases A<;>simp[Ql he]
theorem Qfu{t:TypeId}{k:IntKind}{N:Nat}(hT:P.underlying t=some (.int k))(v:Vector Int N){j:Nat}(hj:j<N)(w:World):(part t (QY k N v).toArray (j*1)).run P w= .ok (.int k (vget v j)) w:=by
 simp[part,isAgg,Ql hT,QY,hj]
def yF(P:Program)(t:TypeId):Option (Nat×IntKind):=
 match P.underlying t with
 |some (.array N e)=>match P.underlying e,P.info? e with
  |some (.int k),some i=>bif Nat.beq i.size 1 then some (N,k)else none
  |_,_=>none
 |_=>none
theorem yS{t N:Nat}{k:IntKind}(h:yF P t=some (N,k)):∃e i,P.underlying t=some (.array N e)∧P.underlying e=some (.int k)∧P.info? e=some i∧i.size=1:=by
 unfold yF at h
 split at h
 ·rename_i hu
  split at h
  ·rename_i i h1 h2
   cases hb:Nat.beq i.size 1 with
   |false=>rw[hb]at h;cases h
   |true=>
    rw[hb]at h
    simp only[Qg,Qa,Qe]at h
    obtain⟨rfl,rfl⟩:=h
    exact⟨_,i,hu,h1,h2,Qc hb⟩
  ·cases h
 ·cases h
theorem QqL{t:TypeId}{x y:Operand}{op:BinOp}(s u:ByteArray)(w:World)(r:Value)(h:(Op.stringOp op s u).run P w= .ok r w)(hne:op≠ .shl∧op≠ .shr):(do eqGuard op t x y (.string s) (.string u);binOp op t (.string s) (.string u):Sem Value).run P w= .ok r w:=by
 have e1:(eqGuard op t x y (.string s) (.string u)).run P w= .ok () w:=by cases op<;>simp[eqGuard]
 rw[Sem.run_bind,e1]
 simp only[Result.andThen_ok]
 cases op<;>first|exact h|exact absurd rfl hne.1|exact absurd rfl hne.2
end
end Go.Sep
