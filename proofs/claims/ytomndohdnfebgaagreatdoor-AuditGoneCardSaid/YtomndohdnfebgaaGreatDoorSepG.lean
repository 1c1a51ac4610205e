/-
 Elements of a slice that is owned; comparisons; what the library's small functions are made of.
-/
import Derived.Test.YtomndohdnfebgaaGreatDoorSepD
set_option linter.unusedVariables false
set_option linter.unusedSimpArgs false
namespace Go.Sep
section
variable {P:Program}{ρ:Option Nat}{ops:Array Oper}{Q:Exit→Act→World→Prop}{a:Act}{n:Nat}{ds:List Deferred}{E:List (Nat×Value)}
variable {g w w0:World}{D D0:Snap}{L L0:List Blk}{i:Nat}{o:Oper}{d:Nat}{C:Act→World→Prop}{C1:Act→Prop}{R:World→World→Prop}
def QaD(E:List (Nat×Value))(x:Option Operand)(dflt z:Int):Prop:=
 match x with
 |none=>z=dflt
 |some y=>∃k,Yt E y=some (.int k z)
theorem jl(hE:Env a n ds E){isS:Bool}{len cap:Nat}{lo hi:Option Operand}{zl zh:Int}(hl:QaD E lo 0 zl)(hh:QaD E hi len zh)(h0:0≤zl)(h1:zl≤zh)(h2:zh≤(cap:Int)):
  (Instr.sliceBounds isS len cap (lo.map a.eval) (hi.map a.eval) none).run P w= .ok (zl.toNat,zh.toNat,cap) w:=by
 have sb:∀{x:Operand} {k:IntKind} {z:Int} {y:Nat} (code:BoundsCode),Yt E x=some (.int k z)→0≤z→z≤(y:Int)→(Instr.sliceBound (a.eval x) y code).run P w= .ok z.toNat w:=by
  intro x k z y code hx hz hy
  simp[Instr.sliceBound,hE.eval hx,asIntOf,hz,hy]
 have h3:0≤zh:=by omega
 have h4:zl≤((zh.toNat:Nat):Int):=by omega
 cases hi with
 | none=>
  simp only[QaD]at hh
  subst hh
  cases lo with
  |none=>simp only[QaD]at hl;subst hl;simp[Instr.sliceBounds]
  |some y=>
   obtain⟨k,hk⟩:=hl
   simp only[Int.toNat_natCast]at h4
   simp[Instr.sliceBounds,sb _ hk h0 h4]
 | some x=>
  obtain⟨k,hk⟩:=hh
  cases lo with
  |none=>simp only[QaD]at hl;subst hl;simp[Instr.sliceBounds,sb _ hk h3 h2]
  |some y=>
   obtain⟨k',hk'⟩:=hl
   simp[Instr.sliceBounds,sb _ hk h3 h2,sb _ hk' h0 h4]
theorem Sl.sub{α:Type}{K:Kd α}{A:Option Addr}{cap:Nat}{l:List α}(h:Sl K D A cap l){x y:Nat}(hxy:x≤y)(hy:y≤l.length)(sz:Nat)(hsz:sz=K.n):
  Sl K D (if cap=x then A else A.map (·.add (x*sz))) (cap-x) ((l.take y).drop x):=by
 subst hsz
 obtain⟨h1,h2,cs,hr,hc⟩:=h
 have hlen:((l.take y).drop x).length=y-x:=by simp;omega
 refine⟨by omega,by omega,?_⟩
 have hsplit:l=l.take x++((l.take y).drop x++l.drop y):=by
  conv=>lhs;rw[←List.take_append_drop x l]
  congr 1
  rw[←List.take_append_drop (y-x) (l.drop x)]
  congr 1
  ·rw[List.take_drop];congr 2;omega
  ·rw[List.drop_drop];congr 1;omega
 rw[hsplit]at hr
 obtain⟨c1,c23,rfl,hr1,hr23⟩:=hr.split
 obtain⟨c2,c3,rfl,hr2,hr3⟩:=hr23.split
 refine⟨c2,hr2,?_⟩
 rcases hc with hnil|⟨b,off,c,T,fr,rfl,hb,hcell⟩
 ·left
  simp only[List.append_eq_nil_iff]at hnil
  exact hnil.2.1
 ·by_cases hcx:cap=x
  ·left
   have:y-x=0:=by omega
   have h3:=hr2.len
   rw[hlen,this,Nat.zero_mul]at h3
   exact List.eq_nil_of_length_eq_zero h3
  ·right
   refine⟨b,off+x*K.n,c,T,fr,by rw[if_neg hcx];simp[addr_add],hb,fun j u hu=> ?_⟩
   have h3:=hr1.len
   have h4:(l.take x).length=x:=by simp;omega
   rw[h4]at h3
   rw[Nat.add_assoc,←h3]
   refine hcell _ _ ?_
   rw[List.getElem?_append_right (Nat.le_add_right _ _),Nat.add_sub_cancel_left,List.getElem?_append_left (List.getElem?_eq_some_iff.1 hu).1]
   exact hu
theorem QsD{α:Type}{K:Kd α}{t e:TypeId}{x:Operand}{lo hi:Option Operand}{zl zh:Int}{A:Option Addr}{cap:Nat}{l m:List α}(ho:ops[i]?=some o)(hop:o.op= .slice t x lo hi none)(hg:guardOf ops E o=some true)(hd:o.dst=some d)(hE:Env a n ds E)(hn:Nat.blt d n=true)
  (hx:Yt E x=some (.slice A l.length cap)) (ht:P.underlying t=some (.slice e)) (he:(P.info? e).map (·.size)=some K.n) (hlo:QaD E lo 0 zl) (hhi:QaD E hi l.length zh) (hl:Sl K D A cap l) (hm:subI l zl zh=some m)
  (k:∀a A' cap',Env a n ds ((d,.slice A' m.length cap')::E)→Sl K D A' cap' m→C1 a):Tk P ops R i n ds E a w C1:=by
 obtain⟨h0,h1,h2,rfl⟩:=Qdv hm
 obtain⟨q,hq,hqs⟩:=Option.map_eq_some_iff.1 he
 have hcap:=hl.1
 have hsb:=fun w=>jl (P:=P) (w:=w) (isS:=true) (cap:=cap) hE hlo hhi h0 h1 (by omega)
 have hlen:((l.take zh.toNat).drop zl.toNat).length=zh.toNat-zl.toNat:=by simp;omega
 have hsub:=hl.sub (x:=zl.toNat) (y:=zh.toNat) (by omega) (by omega) q.size hqs
 refine ZO (v:= .slice (if cap=zl.toNat then A else A.map (·.add (zl.toNat*q.size))) ((l.take zh.toNat).drop zl.toNat).length (cap-zl.toNat)) hE ho hg hd hn (by simp[hop,Q5]) (fun w' _=> ?_) ?_
 ·rw[hlen]
  simp[execOp,hop,Instr.sliceAt,hE.eval hx,Ql ht,Instr.slice,hsb,sizeOf,typeInfo,hq]
 ·intro a' h'
  exact k a' _ _ h' hsub
theorem QwG{kk:IntKind}{t e:TypeId}{x:Operand}{A:Option Addr}{cap N:Nat}{l:List Int}(ho:ops[i]?=some o)(hop:o.op= .sliceToArrayPointer t x)(hg:guardOf ops E o=some true)(hd:o.dst=some d)(hE:Env a n ds E)(hn:Nat.blt d n=true)
  (hx:Yt E x=some (.slice A l.length cap)) (ht:P.underlying t=some (.array N e)) (hpos:Nat.blt 0 N=true) (hl:Sl (YJ kk) D A cap l) (hN:N≤l.length)
  (k:∀a b off,Env a n ds ((d,.pointer (some ⟨b,off,none⟩))::E)→Cell (Zh kk N) D b off (vofL N l)→C1 a):Tk P ops R i n ds E a w C1:=by
 obtain⟨h1,h2,cs,hr,hc⟩:=hl
 have hpos':0<N:=by simpa[Nat.blt_eq] using hpos
 have hlen:=hr.len
 rcases hc with rfl|⟨b,off,c,T,fr,rfl,hb,hcell⟩
 ·simp at hlen;omega
 ·refine ZO (v:= .pointer (some ⟨b,off,none⟩)) hE ho hg hd hn (by simp[hop,Q5]) (fun w' _=> ?_) ?_
  ·have: ¬l.length<N:=by omega
   simp[execOp,hop,Instr.arrayAt,hE.eval hx,Ql ht,this]
  ·intro a' h'
   refine k a' _ _ h' ⟨Ya kk N (vofL N l),c,T,fr,rfl,hb,fun j u hu=>hcell j u ?_⟩
   rw[Qej hN]at hu
   have:=QpA.1 hr
   subst this
   rw[List.getElem?_map,List.getElem?_take]at hu
   rw[List.getElem?_map]
   split at hu
   ·exact hu
   ·cases hu
def wpG(P:Program)(ρ:Option Nat)(ops:Array Oper)(Rf:Nat→World→World→Prop)(K:Act→World→Prop)(Q:Exit→Act→World→Prop):Nat→Array Bool→Act→World→Prop
 |0,listed,a,w=>Region.ready .any ops listed= []∧K a w
 |fuel+1,listed,a,w=>
  (Region.ready .any ops listed= []→K a w)∧
  ∀i∈Region.ready .any ops listed,Op1 P ρ ops Q i (fun a' w'=>Rf i w w'∧wpG P ρ ops Rf K Q fuel (listed.setIfInBounds i true) a' w') a w
def Qn(K:Act→World→Prop):Exit→Act→World→Prop
 | .normal,a,w=>K a w
 |_,_,_=>False
variable {Rf:Nat→World→World→Prop}{K:Act→World→Prop}
theorem Qu8:∀(fuel:Nat) (listed:Array Bool) (a:Act) (w:World),wpG P ρ ops Rf K (Qn K) fuel listed a w→wpAnyIn (Fw ρ) 0 P .any ops (Qn K) fuel listed a w:=by
 intro fuel
 induction fuel with
 |zero=>intro listed a w h;exact h
 |succ fuel ih=>
  intro listed a w h
  exact⟨h.1,fun i hi=>wpOpIn_mono (fun a' w' h'=>ih _ a' w' h'.2) (h.2 i hi)⟩
theorem QlQ{id:Nat}(Rf:Nat→World→World→Prop)(hm:P.follows .mixedOrders=true)(h:wpG P ρ ops Rf (Q .normal) (Qn (Q .normal)) ops.size (Array.replicate ops.size false) a w.drew):(Code.region id ops true).wpIn (Fw ρ) 0 P Q a w:=
 wpIn_mono (wpIn_region_any hm (Qu8 _ _ _ _ h)) (fun e a w he=>by cases e<;>first|exact he|exact he.elim)
theorem opPut{oi oj:Oper}{j:Nat}{v:Value}(hj:ops[j]?=some oj)(hap:oi.apart ops oj=true)
  (hsi:∀cs b,oi.op≠ .select cs b) (hsj:∀cs b,oj.op≠ .select cs b) (hnj:Q5 oj.op=true) {C:Act→World→Prop} {a:Act} {w:World}
  (h:Op1 P ρ ops (Qn K) j C (a.put oi.dst v) w):
  Op1 P ρ ops (Qn K) j (fun a' w'=>(execOp a'.eval oi=execOp a.eval oi∧Region.wanted oi (yielded ops a'.tmps)=Region.wanted oi (yielded ops a.tmps))∧C (a'.put oi.dst v) w') a w:=by
 obtain⟨h1,h2,h3⟩:=Oper.apart_spec hap
 have keep:∀u,execOp (a.put oj.dst u).eval oi=execOp a.eval oi∧Region.wanted oi (yielded ops (a.put oj.dst u).tmps)=Region.wanted oi (yielded ops a.tmps):=fun u=>
  ⟨execOp_put oi hsi a oj.dst u h3,wanted_put oi a oj.dst u h3⟩
 unfold Op1 wpOpIn at*
 simp only[hj]at*
 rw[wanted_put oj a oi.dst v h1]at h
 split
 ·rename_i hw
  simp only[hw,if_true]at h
  unfold Oper.wpIn at*
  refine⟨fun _ _=>trivial,?_⟩
  have h:=h.2
  rw[XA hnj,execOp_put oj hsj a oi.dst v h1]at h
  rw[XA hnj]
  generalize (execOp a.eval oj).run P w=r at*
  cases r with
  | ok x w'=>
   cases x<;>simp only[Oper.uponIn]at h⊢
   case value u=>exact⟨keep u,by rw[←Act.put_comm a v u h2];exact h⟩
   case skip=>exact⟨keep _,by rw[←Act.put_comm a v undef h2];exact h⟩
   case defer dd=>
    refine⟨⟨execOp_put oi hsi {a with defers:=dd::a.defers} oj.dst undef h3,wanted_put oi {a with defers:=dd::a.defers} oj.dst undef h3⟩,?_⟩
    rw[←Act.put_comm _ v undef h2,←Act.put_defers]
    exact h
   case enter f args=>
    refine⟨h.1,CallsIn.mono h.2 fun e w'' he=> ?_⟩
    cases e with
    |returned u=>exact⟨keep u,by rw[←Act.put_comm a v u h2];exact he⟩
    |panicked c=>exact he.elim
    |outgrown=>exact he
   case row row args=>exact⟨h.1,RowsIn.mono h.2 fun u w'' he=>⟨keep u,by rw[←Act.put_comm a v u h2];exact he⟩⟩
   case round l f tmps assign body=>
    refine⟨h.1,RoundIn.mono h.2 fun e w'' he=> ?_⟩
    cases e with
    |returned u=>exact⟨keep u,by rw[←Act.put_comm a v u h2];exact he⟩
    |panicked c=>exact he.elim
    |outgrown=>exact he
  |halt x w'=>
   cases x<;>simp only[Oper.uponIn]at h⊢
   case panic u=>exact h.elim
 ·rename_i hw
  simp only[hw]at h
  exact⟨fun _ _=>trivial,keep _,by rw[←Act.put_comm a v undef h2];exact h.2⟩
theorem YG.op1{i:Nat}{oi:Oper}{v:Value}(hR:R w w)(hi:ops[i]?=some oi)(hni:Q5 oi.op=true)(hy:YG P ops R oi v a w){C:Act→World→Prop}(h:C (a.put oi.dst v) w):Op1 P ρ ops (Qn K) i C a w:=by
 unfold Op1 wpOpIn
 simp only[hi]
 rcases hy w hR with⟨hw,hv⟩|⟨hw,rfl⟩
 ·simp only[hw,if_true,Oper.wpIn]
  refine⟨fun _ _=>trivial,?_⟩
  rw[XA hni,hv]
  exact h
 ·simp only[hw,Bool.false_eq_true,if_false]
  exact⟨fun _ _=>trivial,h⟩
theorem QwH{i:Nat}{oi:Oper}{v:Value}(hR:∀w,R w w)(hT:∀w w' w2,R w w'→R w' w2→R w w2)(hRf:∀w,Rf i w w)(hi:ops[i]?=some oi)(hsel:∀(j:Nat) (o:Oper) cs b,ops[j]?=some o→o.op≠ .select cs b)(hnd:∀(j:Nat) (o:Oper),ops[j]?=some o→Q5 o.op=true):
  ∀(fuel:Nat) (listed:Array Bool) (a:Act) (w:World),
   (∀j oj,ops[j]?=some oj→j≠i→listed.getD j true=false→(∀e∈oj.after,Region.binds .any e=true→e.on≠i)→oi.apart ops oj=true∧∀w w',Rf j w w'→R w w')→
   i∈Region.ready .any ops listed→YG P ops R oi v a w→
   wpG P ρ ops Rf K (Qn K) fuel (listed.setIfInBounds i true) (a.put oi.dst v) w→wpG P ρ ops Rf K (Qn K) (fuel+1) listed a w:=by
 intro fuel
 induction fuel with
 | zero=>
  intro listed a w _ hr hy H
  refine⟨fun h=>(by rw[h]at hr;cases hr),fun j hj=> ?_⟩
  by_cases hji:j=i
  ·subst hji;exact hy.op1 (hR _) hi (hnd _ _ hi) ⟨hRf _,H⟩
  ·have:=ready_mono hj hji
   rw[H.1]at this
   cases this
 | succ fuel ih=>
  intro listed a w hfree hr hy H
  refine⟨fun h=>(by rw[h]at hr;cases hr),fun j hj=> ?_⟩
  by_cases hji:j=i
  ·subst hji;exact hy.op1 (hR _) hi (hnd _ _ hi) ⟨hRf _,H⟩
  ·have h1:=H.2 j (ready_mono hj hji)
   obtain⟨hjun,oj,hoj,hall⟩:=mem_ready.1 hj
   have hnot:∀e∈oj.after,Region.binds .any e=true→e.on≠i:=fun e he hb heq=>by
    have h1:=hall e he hb
    have h0:=(mem_ready.1 hr).1
    rw[heq]at h1
    rcases Nat.lt_or_ge i listed.size with h'|h'
    ·simp[h']at h0 h1;rw[h0]at h1;cases h1
    ·simp[Array.getElem?_eq_none h']at h1
   have hfr:=hfree j oj hoj hji hjun hnot
   have h2:=opPut (oi:=oi) (v:=v) hoj hfr.1 (fun cs b=>hsel i oi cs b hi) (fun cs b=>hsel j oj cs b hoj) (hnd _ _ hoj) h1
   have hfree':∀k ok,ops[k]?=some ok→k≠i→(listed.setIfInBounds j true).getD k true=false→
     (∀e∈ok.after,Region.binds .any e=true→e.on≠i)→oi.apart ops ok=true∧∀w w',Rf k w w'→R w w':=fun k ok hk hki hun hno=>by
    refine hfree k ok hk hki ?_ hno
    by_cases hjk:j=k
    ·subst hjk;exact hjun
    ·rw[getD_set_ne true hjk]at hun;exact hun
   refine wpOpIn_mono (fun a' w' h3=>⟨h3.2.1,ih (listed.setIfInBounds j true) a' w' hfree' (ready_mono hr (Ne.symm hji)) ?_ ?_⟩) h2
   ·intro w2 hk2
    rcases hy w2 (hT _ _ _ (hfr.2 _ _ h3.2.1) hk2)with⟨hw,hv⟩|⟨hw,rfl⟩
    ·exact .inl ⟨by rw[h3.1.2];exact hw,by rw[h3.1.1];exact hv⟩
    ·exact .inr ⟨by rw[h3.1.2];exact hw,rfl⟩
   ·rw[Array.setIfInBounds_comm _ _ hji]
    exact h3.2.2
def QcG(ops:Array Oper):Bool:=Region.noSelect ops&&ops.toList.all fun o=>Q5 o.op
def QsE(Mf:Nat→List Nat)(ops:Array Oper)(listed:Array Bool)(i:Nat):Bool:=
 (List.range ops.size).all fun j=>j==i||listed.getD j true||match ops[j]? with
  |some oj=>oj.after.any (fun e=>Region.binds .any e&&e.on==i)||(Mf j).isEmpty
  |none=>true
theorem Qoj{Mf:Nat→List Nat}{i:Nat}{listed:Array Bool}(h:QsE Mf ops listed i=true)(j:Nat)(oj:Oper)
  (hj:ops[j]?=some oj) (hne:j≠i) (hun:listed.getD j true=false) (hno:∀e∈oj.after,Region.binds .any e=true→e.on≠i):Mf j= []:=by
 simp only[QsE,List.all_eq_true,List.mem_range]at h
 have h1:=h j (Array.getElem?_eq_some_iff.1 hj).1
 simp only[hj,Bool.or_eq_true,beq_iff_eq,hne,false_or,hun,Bool.false_eq_true]at h1
 rcases h1 with h1|h1
 ·rw[←Array.any_toList]at h1
  obtain⟨e,he,hb⟩:=List.any_eq_true.1 h1
  simp only[Qd,beq_iff_eq]at hb
  exact absurd hb.2 (hno e (Array.mem_toList_iff.1 he) hb.1)
 ·simpa using h1
theorem QwI{R:World→World→Prop}(hR:∀w,R w w)(hT:∀w w' w2,R w w'→R w' w2→R w w2)(hRf:∀j w,Rf j w w)(i:Nat){fuel:Nat}{listed:Array Bool}(listed':Array Bool)(hs:QcG ops=true)(hf:Region.free .any ops listed i=true)(hr:(Region.ready .any ops listed).contains i=true)(hl:listed.setIfInBounds i true=listed')
  (hsub:∀j oj,ops[j]?=some oj→j≠i→listed.getD j true=false→(∀e∈oj.after,Region.binds .any e=true→e.on≠i)→∀w w',Rf j w w'→R w w')
  (hE:Env a n ds E) (h:Tk P ops R i n ds E a w (fun a=>wpG P ρ ops Rf K (Qn K) fuel listed' a w)):wpG P ρ ops Rf K (Qn K) (fuel+1) listed a w:=by
 subst hl
 simp only[QcG,Qd]at hs
 obtain⟨o,v,ho,hd,_,hy,k⟩:=h
 refine QwH hR hT (hRf i) ho (Region.noSelect_spec hs.1) (fun j oj hj=> ?_) fuel listed a w (fun j oj hj hne hun hno=>⟨Region.free_spec ho hf j oj hj hne hun hno,hsub j oj hj hne hun hno⟩) (by simpa using hr) hy (k _ (hE.put hd v))
 exact List.all_eq_true.1 hs.2 oj (Array.mem_toList_iff.2 (Array.mem_of_getElem? hj))
class Idle (Rf:Nat→World→World→Prop):Prop where
 idle:∀j w,Rf j w w
instance (Mf:Nat→List Nat):Idle (fun j=>qC (Mf j)):=⟨fun j w=>qC.refl (Mf j) w⟩
theorem takeW [hI:Idle Rf](i:Nat){fuel:Nat}{listed:Array Bool}(listed':Array Bool)(hs:QcG ops=true)(hf:Region.free .any ops listed i=true)(hr:(Region.ready .any ops listed).contains i=true)(hl:listed.setIfInBounds i true=listed')
  (hE:Env a n ds E) (h:∀R,Tk P ops R i n ds E a w (fun a=>wpG P ρ ops Rf K (Qn K) fuel listed' a w)):wpG P ρ ops Rf K (Qn K) (fuel+1) listed a w:=
 QwI (R:=fun _ _=>True) (fun _=>trivial) (fun _ _ _ _ _=>trivial) hI.idle i listed' hs hf hr hl (fun _ _ _ _ _ _ _ _ _=>trivial) hE (h _)
theorem takeT{Mf:Nat→List Nat}(i:Nat){fuel:Nat}{listed:Array Bool}(listed':Array Bool)(hs:QcG ops=true)(hf:Region.free .any ops listed i=true)(hr:(Region.ready .any ops listed).contains i=true)(hl:listed.setIfInBounds i true=listed')(hc:QsE Mf ops listed i=true)
  (hE:Env a n ds E) (h:Tk P ops (qC []) i n ds E a w (fun a=>wpG P ρ ops (fun j=>qC (Mf j)) K (Qn K) fuel listed' a w)):wpG P ρ ops (fun j=>qC (Mf j)) K (Qn K) (fuel+1) listed a w:=
 QwI (R:=qC []) (qC.refl _) (fun _ _ _ h h'=>h.trans h') (fun j w=>qC.refl (Mf j) w) i listed' hs hf hr hl (fun j oj hj hne hun hno w w' hk=>by rw[Qoj hc j oj hj hne hun hno]at hk;exact hk) hE h
def RP:List Nat→World→World→Prop
 | [],_,_=>True
 |b::l,w,w'=>w'.heap[b]?=w.heap[b]?∧RP l w w'
theorem RP.refl:∀(l:List Nat) (w:World),RP l w w
 | [],_=>trivial
 |_::l,w=>⟨rfl,RP.refl l w⟩
def plOf(ss l:List Nat)(j:Nat):List Nat:=bif ss.contains j then []else l
instance (ss l:List Nat):Idle (fun j=>RP (plOf ss l j)):=⟨fun _ w=>RP.refl _ w⟩
theorem kL{M:List Nat}{j b:Nat}{u:OB}(hS:Stp g w0 D0 L0 w D L)(hj:L[j]?=some (some (b,u)))(hM:b∉M):∀w',qC M w w'→w'.heap[b]?=w.heap[b]?:=fun _ h=>h.2 b (lt_of_heap (hS.heapAt hj)) hM
theorem kD{M:List Nat}(hS:Stp g w0 D0 L0 w D L)(hM:∀m,m∈M→∀p,D m=some p→Qf9 0 p):∀w',qC M w w'→Sees D w':=fun w' h b C T fr hb i u hi=>by
 obtain⟨C',T',fr',h1,h2⟩:=hS.st.sees _ _ _ _ hb i u hi
 refine⟨C',T',fr',?_,h2⟩
 rw[h.2 b (hS.lt_d hb) (fun hm=> ?_)]
 ·exact h1
 ·obtain⟨C0,T0,fr0,e,h0⟩:=hM b hm _ hb
  cases e
  have:=(Array.getElem?_eq_some_iff.1 hi).1
  omega
theorem onlyG{i:Nat}{fuel:Nat}{listed listed':Array Bool}(hr:Region.ready .any ops listed= [i])(hl:listed.setIfInBounds i true=listed')
  (h:Op1 P ρ ops (Qn K) i (fun a' w'=>Rf i w w'∧wpG P ρ ops Rf K (Qn K) fuel listed' a' w') a w):wpG P ρ ops Rf K (Qn K) (fuel+1) listed a w:=by
 subst hl
 refine⟨fun h0=>(by rw[hr]at h0;cases h0),fun j hj=> ?_⟩
 rw[hr]at hj
 simp only[List.mem_singleton]at hj
 subst hj
 exact h
theorem doneG{fuel:Nat}{listed:Array Bool}(hr:Region.ready .any ops listed= [])(h:K a w):wpG P ρ ops Rf K (Qn K) fuel listed a w:=by
 cases fuel with
 |zero=>exact⟨hr,h⟩
 |succ fuel=>exact⟨fun _=>h,by rw[hr];simp⟩
end
def slT(P:Program)(t:TypeId):Option (Nat×Nat×Nat×Nat):=
 match P.underlying t with
 | some (.slice e)=>match P.info? e with
  |some i=>match i.zero with
   |some z=>some (e,i.size,i.bytes,(Q4 z).length)
   |none=>none
  |none=>none
 |_=>none
theorem yT{P:Program}{t e sz by_ zl:Nat}(h:slT P t=some (e,sz,by_,zl)):
  P.underlying t=some (.slice e)∧∃i z,P.info? e=some i∧i.zero=some z∧i.size=sz∧i.bytes=by_∧(Q4 z).length=zl:=by
 unfold slT at h
 split at h
 ·rename_i hu
  split at h
  ·rename_i i hi
   split at h
   ·rename_i z hz
    simp only[Qa,Qe]at h
    obtain⟨rfl,h1,h2,h3⟩:=h
    exact⟨hu,i,z,hi,hz,h1,h2,h3⟩
   ·cases h
  ·cases h
 ·cases h
def arT(P:Program)(t:TypeId):Option (Nat×Nat×Nat):=
 match P.underlying t with
 |some (.array n e)=>(P.info? e).map fun i=>(n,e,i.size)
 |_=>none
theorem QsF{P:Program}{t n e sz:Nat}(h:arT P t=some (n,e,sz)):P.underlying t=some (.array n e)∧(P.info? e).map (·.size)=some sz:=by
 unfold arT at h
 split at h
 ·rename_i hu
  obtain⟨i,hi,he⟩:=Option.map_eq_some_iff.1 h
  simp only[Qe]at he
  obtain⟨rfl,rfl,rfl⟩:=he
  exact⟨hu,by simp[hi]⟩
 ·cases h
def fldT(P:Program)(s m:Nat):Option (Nat×Nat):=
 match P.underlying s with
 | some (.struct fs)=>match fs[m]? with
  |some f=>match P.info? f.type with
   |some i=>bif Nat.blt 0 i.size then some (f.offset,f.type)else none
   |none=>none
  |none=>none
 |_=>none
theorem Qke{P:Program}{s m off t:Nat}(h:fldT P s m=some (off,t)):
  ∃fs f,P.underlying s=some (.struct fs)∧fs[m]?=some f∧(P.info? f.type).map (fun q=>Nat.blt 0 q.size)=some true∧f.offset=off∧f.type=t:=by
 unfold fldT at h
 split at h
 ·rename_i fs hu
  split at h
  ·rename_i f hf
   split at h
   ·rename_i i hi
    cases hb:Nat.blt 0 i.size with
    |false=>rw[hb]at h;cases h
    |true=>
     rw[hb]at h
     simp only[Qg,Qa,Qe]at h
     exact⟨fs,f,hu,hf,by simp[hi,hb],h.1,h.2⟩
   ·cases h
  ·cases h
 ·cases h
def jn{α β:Type}(f:α→Option β)(g:(α→Option β)→Option β):Option β:=g f
theorem QpD{α β:Type}{f:α→Option β}{g:(α→Option β)→Option β}{r:β}(h:jn f g=some r):∃j:α→Option β,(∀y,j y=some r→f y=some r)∧g j=some r:=⟨f,fun _ h=>h,h⟩
section
variable {P:Program}{ρ:Option Nat}{ops:Array Oper}{Q:Exit→Act→World→Prop}{a:Act}{n:Nat}{ds:List Deferred}{E:List (Nat×Value)}
variable {g w w0:World}{D D0:Snap}{L L0:List Blk}{i:Nat}{o:Oper}{d:Nat}{C:Act→World→Prop}{C1:Act→Prop}{R:World→World→Prop}
theorem Qne{x y:Code}(X:Act→World→Prop)(hx:x.wpIn (Fw ρ) 0 P (Exit.then X Q) a w)(hy:∀a w,X a w→y.wpIn (Fw ρ) 0 P Q a w):(Code.seq x y).wpIn (Fw ρ) 0 P Q a w:=
 wpIn_seq (wpIn_mono hx (fun e a w h=>by cases e<;>first|exact hy _ _ h|exact h))
def Qx(X:Act→World→Prop)(Q:Exit→Act→World→Prop):Exit→Act→World→Prop
 | .normal,a,w=>X a w
 |e,a,w=>Q e a w
theorem Zc{id:Nat}{c:Code}(X:Act→World→Prop)(I:Nat→Act→World→Prop)(k0:Nat)(h0:I k0 a w)(hX:∀a w,X a w→Q .normal a w)
  (round:∀k a w,I k a w→∃k',k=k'+1∧c.wpIn (Fw ρ) 0 P (Exit.then (fun a' w'=>I k' a' w') (Exit.inBlock id (Qx X Q))) a w):(Code.block id (.loop c)).wpIn (Fw ρ) 0 P Q a w:=
 wpIn_mono (wpIn_block (Qpz I k0 h0 round)) (fun e a w h=>by cases e<;>first|exact hX _ _ h|exact h)
theorem QsG{K1:Act→World→Prop}(h:Q .ret a w):Exit.then K1 Q .ret a w:=h
theorem QpE{id:Nat}(h:Q .ret a w):Exit.inBlock id Q .ret a w:=h
theorem QwJ{X:Act→World→Prop}(h:Q .ret a w):Qx X Q .ret a w:=h
theorem Qa5{s m b off fo ft:Nat}{x:Operand}(off':Nat)(ho:ops[i]?=some o)(hop:o.op= .fieldAddr s x m)(hg:guardOf ops E o=some true)(hd:o.dst=some d)(hE:Env a n ds E)(hn:Nat.blt d n=true)
  (hx:Yt E x=some (.pointer (some ⟨b,off,none⟩))) (hT:fldT P s m=some (fo,ft)) (hoff:off+fo=off')
  (k:∀a,Env a n ds ((d,.pointer (some ⟨b,off',none⟩))::E)→C1 a):Tk P ops R i n ds E a w C1:=by
 obtain⟨fs,f,h1,h2,h3,h4,_⟩:=Qke hT
 subst h4
 exact Qkd off' ho hop hg hd hE hn hx h1 h2 h3 hoff k
theorem Qu9{s m fo ft:Nat}{x:Operand}{cs:List Value}(v:Value)(ho:ops[i]?=some o)(hop:o.op= .field s x m)(hg:guardOf ops E o=some true)(hd:o.dst=some d)(hE:Env a n ds E)(hn:Nat.blt d n=true)
  (hx:Yt E x=some (.agg cs.toArray)) (hT:fldT P s m=some (fo,ft)) (hv:ldv P ft cs fo=some v)
  (k:∀a,Env a n ds ((d,v)::E)→C1 a):Tk P ops R i n ds E a w C1:=by
 obtain⟨fs,f,h1,h2,_,h4,h5⟩:=Qke hT
 subst h4 h5
 exact QsB v ho hop hg hd hE hn hx h1 h2 hv k
theorem QlR{α:Type}{K:Kd α}{t e by_ zl:Nat}{x ix:Operand}{A:Option Addr}{cap:Nat}{l:List α}{m:Int}{kk:IntKind}{y:α}(ho:ops[i]?=some o)(hop:o.op= .indexAddr t x ix)(hg:guardOf ops E o=some true)(hd:o.dst=some d)(hE:Env a n ds E)(hn:Nat.blt d n=true)
  (hx:Yt E x=some (.slice A l.length cap)) (hix:Yt E ix=some (.int kk m)) (hT:slT P t=some (e,K.n,by_,zl)) (hpos:Nat.blt 0 K.n=true)
  (hl:Sl K D A cap l) (hy:getI l m=some y)
  (k:∀a b off,Env a n ds ((d,.pointer (some ⟨b,off,none⟩))::E)→Cell K D b off y→C1 a):Tk P ops R i n ds E a w C1:=by
 obtain⟨h1,ii,z,h2,_,h4,_⟩:=yT hT
 obtain⟨h0,hy'⟩:=jX hy
 exact QsC y ho hop hg hd hE hn hx hix h1 (by simp[h2,h4]) hpos hl h0 hy' k
theorem Qva{α:Type}{K:Kd α}{t e by_ zl:Nat}{x:Operand}{lo hi:Option Operand}{zl' zh:Int}{A:Option Addr}{cap:Nat}{l m:List α}(ho:ops[i]?=some o)(hop:o.op= .slice t x lo hi none)(hg:guardOf ops E o=some true)(hd:o.dst=some d)(hE:Env a n ds E)(hn:Nat.blt d n=true)
  (hx:Yt E x=some (.slice A l.length cap)) (hT:slT P t=some (e,K.n,by_,zl)) (hlo:QaD E lo 0 zl') (hhi:QaD E hi l.length zh) (hl:Sl K D A cap l) (hm:subI l zl' zh=some m)
  (k:∀a A' cap',Env a n ds ((d,.slice A' m.length cap')::E)→Sl K D A' cap' m→C1 a):Tk P ops R i n ds E a w C1:=by
 obtain⟨h1,ii,z,h2,_,h4,_⟩:=yT hT
 exact QsD ho hop hg hd hE hn hx h1 (by simp[h2,h4]) hlo hhi hl hm k
theorem Qa6{f:Bool}{α:Type}{K:Kd α}{s x:Operand}{t e bytes:Nat}{A B:Option Addr}{cap cap2:Nat}{l m lm:List α}{q:Blk}(ho:ops[i]?=some o)(hop:o.op= .call {callee:= .builtin .append,args:= #[s,x],argTypes:= #[t,t] })(hg:guardOf ops E o=some true)(hd:o.dst=some d)(hE:Env a n ds E)(hn:Nat.blt d n=true)
  (hS:Stp g w0 D0 L0 w D (q::L)) (hs:Yt E s=some (.slice A l.length cap)) (hx:Yt E x=some (.slice B m.length cap2))
  (hT:slT P t=some (e,K.n,bytes,K.n)) (hpos:Nat.blt 0 K.n=true) (hb1:Nat.blt 0 bytes=true)
  (hown:OwnX f K e D A cap l q) (hm:Sl K D B cap2 m) (hfit:catI bytes l m=some lm)
  (k:∀a A' cap' q' w',qC (ids [q]) w w'→Env a n ds ((d,.slice A' lm.length cap')::E)→OwnX f K e D A' cap' lm q'→Stp g w0 D0 L0 w' D (q'::L)→C a w'):Op1 P ρ ops Q i C a w:=by
 obtain⟨h1,ii,z,h2,h3,h4,h5,h6⟩:=yT hT
 obtain⟨hf,rfl⟩:=QpB hfit
 exact QpC ho hop hg hd hE hn hS hs hx h1 h2 h3 h4 h5 h6 hpos hb1 hown hm hf k
def retV:List Value→Value
 | [v]=>v
 |vs=> .tuple vs.toArray
def QlS(P:Program)(E:List (Nat×Value))(w:World):List ResultVar→List Value→Prop
 | [],vs=>vs= []
 | .tmp t::rs,vs=>∃v us,vs=v::us∧look E t=some v∧QlS P E w rs us
 | .cell p t::rs,vs=>∃v us b off c T,vs=v::us∧look E p=some (.pointer (some ⟨b,off,none⟩))∧w.heap[b]?=some (.cells (List.toArray c) T (0,0))∧ldv P t c off=some v∧QlS P E w rs us
def QbS(a:Act)(r:ResultVar):Sem Value:=
 match r with
 | .tmp t=>pure (a.tmps.getD t undef)
 | .cell p t=>do loadVar t (←asAddr (a.tmps.getD p undef))
theorem QpF(hE:Env a n ds E):∀(rs:List ResultVar) (vs:List Value),QlS P E w rs vs→
  Sem.run P (rs.mapM (QbS a)) w= .ok vs w:=by
 intro rs
 induction rs with
 |nil=>intro vs h;simp only[QlS]at h;subst h;rfl
 | cons r rs ih=>
  intro vs h
  cases r with
  |tmp t=>
   obtain⟨v,us,rfl,hv,h⟩:=h
   have h1:=hE.at_ t v hv
   simp[List.mapM_cons,QbS,h1,ih us h]
  |cell p t=>
   obtain⟨v,us,b,off,c,T,rfl,hp,hb,hv,h⟩:=h
   have h1:=hE.at_ p _ hp
   simp[List.mapM_cons,QbS,h1,asAddr,QlO hb hv,ih us h]
theorem QlT{fn:Func}{R:Ending→World→Prop}(vs:List Value)(hE:Env a n [] E)(h:QlS P E w fn.results.toList vs)(hR:R (.returned (retV vs)) w):bodyPost P fn R .ret a w:=by
 refine⟨hE.ds,retV vs,?_,hR⟩
 have h1:=QpF (P:=P) (w:=w) hE _ _ h
 have h2:Sem.run P (fn.results.mapM (QbS a)) w= .ok vs.toArray w:=by
  rw[Array.mapM_eq_mapM_toList]
  simp only[Sem.run_map,h1,Result.andThen_ok]
 have h3:results fn a.tmps=(do let vs←fn.results.mapM (QbS a);pure (if h:vs.size=1 then vs[0]else .tuple vs)):=rfl
 rw[h3,Sem.run_bind,h2]
 simp only[Result.andThen_ok,Sem.run_pure]
 match vs with
 | []=>rfl
 | [v]=>rfl
 |v::u::vs=>simp[retV]
theorem QsH{fn:Func}{R:Ending→World→Prop}(vs:List Value)(hE:Env a n [] E)(h:QlS P E w fn.results.toList vs)(hR:R (.returned (retV vs)) w):bodyPost P fn R .normal a w:=
 QlT vs hE h hR
end
theorem Qge{b b':Nat}{u u':OB}(h:(some (b,u):Blk)=some (b',u')):b=b'∧u=u':=by
 cases h;exact⟨rfl,rfl⟩
section
variable {P:Program}{ρ:Option Nat}{ops:Array Oper}{Q:Exit→Act→World→Prop}{a:Act}{n:Nat}{ds:List Deferred}{E:List (Nat×Value)}
variable {g w w0:World}{D D0:Snap}{L L0:List Blk}{i:Nat}{o:Oper}{d:Nat}{C:Act→World→Prop}{C1:Act→Prop}{R:World→World→Prop}
variable {α:Type}{K:Kd α}
theorem QbT{T t by_ zl:Nat}{x ix:Operand}{A:Option Addr}{cap:Nat}{l:List α}{q:Blk}{m:Int}{kk:IntKind}{y:α}(ho:ops[i]?=some o)(hop:o.op= .indexAddr t x ix)(hg:guardOf ops E o=some true)(hd:o.dst=some d)(hE:Env a n ds E)(hn:Nat.blt d n=true)
  (hx:Yt E x=some (.slice A l.length cap)) (hix:Yt E ix=some (.int kk m)) (hT:slT P t=some (T,K.n,by_,zl)) (hl:OwnD K T D A cap l q) (hy:getI l m=some y)
  (k:∀a b u,q=some (b,u)→Env a n ds ((d,.pointer (some ⟨b,m.toNat*K.n,none⟩))::E)→C1 a):Tk P ops R i n ds E a w C1:=by
 obtain⟨h1,ii,z,h2,_,h4,_⟩:=yT hT
 obtain⟨h0,hy'⟩:=jX hy
 have hlt:=(List.getElem?_eq_some_iff.1 hy').1
 obtain⟨cs,hO,hr⟩:=hl
 cases q with
 |none=>have:=(hO.2.2.2.2 rfl).2;omega
 |some p=>
  obtain⟨b,u⟩:=p
  obtain⟨rfl,_⟩:=hO
  have hltI:m<(l.length:Int):=by omega
  refine ZO (v:= .pointer (some ⟨b,m.toNat*K.n,none⟩)) hE ho hg hd hn (by simp[hop,Q5]) (fun w' _=> ?_) (fun a' h'=>k a' b u rfl h')
  simp[execOp,hop,hE.eval hx,hE.eval hix,Instr.indexAt,asIntOf,Ql h1,h0,hltI,sizeOf,typeInfo,h2,h4,addr_add]
theorem OwnD.cell{T:Nat}{A:Option Addr}{cap:Nat}{l:List α}{b:Nat}{u:OB}{m:Int}{y:α}(h:OwnD K T D A cap l (some (b,u)))(hy:getI l m=some y):
  ∃cs Cl,K.r D y cs∧u=(.cells Cl T (0,0),0)∧∀j v,cs[j]?=some v→Cl[m.toNat*K.n+j]?=some v:=by
 obtain⟨cs,⟨_,_,_,hcl,Cl,k0,rfl,_,hk0,_,ht⟩,hr⟩:=h
 obtain rfl:=hk0 rfl
 obtain⟨h0,hy'⟩:=jX hy
 obtain⟨c,hc,hj⟩:=hr.at_ hy'
 refine⟨c,Cl,hc,rfl,fun j v hv=> ?_⟩
 have:=hj j v hv
 rw[←ht,List.getElem?_take]at this
 split at this
 ·simpa using this
 ·cases this
theorem Qnf(j:Nat){t:TypeId}{x:Operand}{b off0 off:Nat}{c:List Value}{Cl:Array Value}{T:TypeId}{fr:Nat×Nat}{n0:Nat}(v:Value)(ho:ops[i]?=some o)(hop:o.op= .load t x)(hg:guardOf ops E o=some true)(hd:o.dst=some d)(hE:Env a n ds E)(hn:Nat.blt d n=true)
  (hS:Stp g w0 D0 L0 w D L) (hx:Yt E x=some (.pointer (some ⟨b,off0+off,none⟩))) (hb:L[j]?=some (some (b,(.cells Cl T fr,n0)))) (hc:∀j u,c[j]?=some u→Cl[off0+j]?=some u) (hv:ldv P t c off=some v) (hM:∀w',R w w'→w'.heap[b]?=w.heap[b]?)
  (k:∀a,Env a n ds ((d,v)::E)→C1 a):Tk P ops R i n ds E a w C1:=by
 refine ZO (v:=v) hE ho hg hd hn (by simp[hop,Q5]) (fun w' hk=> ?_) k
 simp[execOp,hop,hE.eval hx,Instr.loadAt,Instr.sureAddr,QcF (w:=w') ((hM w' hk).trans (hS.heapAt hb)) hc hv]
theorem RL.set:∀{l:List α} {cs c:List Value} {m:Nat} {x:α},RL K D l cs→m<l.length→K.r D x c→RL K D (l.set m x) (cs.take (m*K.n)++c++cs.drop (m*K.n+c.length)):=by
 intro l
 induction l with
 |nil=>intro cs c m x _ hm;simp at hm
 | cons y l ih=>
  intro cs c m x h hm hx
  obtain⟨c1,c2,rfl,h1,h2⟩:=h
  have hn:=K.len _ _ _ h1
  have hc:=K.len _ _ _ hx
  cases m with
  |zero=>
   refine⟨c,c2,?_,hx,h2⟩
   simp only[Nat.zero_mul,Nat.zero_add,List.take_zero,List.nil_append]
   rw[hc,←hn,List.drop_left]
  |succ m=>
   refine⟨c1,_,?_,h1,ih h2 (by simpa using hm) hx⟩
   have e:(m+1)*K.n=c1.length+m*K.n:=by rw[Nat.succ_mul,hn,Nat.add_comm]
   rw[e,List.take_length_add_append,Nat.add_assoc,List.drop_length_add_append]
   simp
def inI{α:Type}(l:List α)(m:Int):Prop:=0≤m∧m.toNat<l.length
theorem Quo{l:List α}{m:Int}{y:α}(h:getI l m=some y):inI l m:=⟨(jX h).1,(List.getElem?_eq_some_iff.1 (jX h).2).1⟩
theorem Qgf{t:TypeId}{yo x:Operand}{T:TypeId}{A:Option Addr}{cap:Nat}{l:List α}{b:Nat}{u:OB}{m:Int}(xd:α){v:Value}(ho:ops[i]?=some o)(hop:o.op= .store t yo x)(hg:guardOf ops E o=some true)(hd:o.dst=none)(hE:Env a n ds E)
  (hS:Stp g w0 D0 L0 w D (some (b,u)::L)) (hown:OwnD K T D A cap l (some (b,u))) (hyo:Yt E yo=some (.pointer (some ⟨b,m.toNat*K.n,none⟩))) (hx:Yt E x=some v) (hin:inI l m) (hr:K.r D xd (Q4 v)) (hsz:P.cellsOf t=K.n) (hty:(P.info? t).isSome=true)
  (k:∀a u' w',qC [b] w w'→Env a n ds E→OwnD K T D A cap (l.set m.toNat xd) (some (b,u'))→Stp g w0 D0 L0 w' D (some (b,u')::L)→C a w'):Op1 P ρ ops Q i C a w:=by
 obtain⟨cs,⟨hA,h1,h2,hcl,Cl,k0,rfl,_,hk0,hC,ht⟩,hrl⟩:=hown
 obtain rfl:=hk0 rfl
 obtain⟨h0,hlt⟩:=hin
 have hvl:=K.len _ _ _ hr
 have hfit:m.toNat*K.n+(Q4 v).length≤Cl.size:=by
  rw[hvl,hC,←Nat.succ_mul];exact Nat.mul_le_mul_right _ (by omega)
 obtain⟨ii,hi⟩:=Option.isSome_iff_exists.1 hty
 have hs:ii.size=(Q4 v).length:=by rw[hvl];simpa[Program.cellsOf,hi] using hsz
 have hst:=run_storeCells_at P b (m.toNat*K.n) T (Q4 v) 0 Cl w hS.heap0 (by simpa using hfit) (fun z hz=>K.one _ _ _ hr z hz)
 simp only[Nat.add_zero]at hst
 refine Qf8 (w':=w.setRow b (Cl.toList.take (m.toNat*K.n)++Q4 v++Cl.toList.drop (m.toNat*K.n+(Q4 v).length)).toArray) hE ho hg (by simp[hd,JI]) (by simp[hop,Q5]) ?_ ?_
 ·simp[execOp,hop,hE.eval hx,hE.eval hyo,Instr.storeAt,Instr.sureAddr,storeVar,sizeOf,typeInfo,hi,hs,qE,hst]
 ·rw [hd]
  intro a' h'
  refine k a' _ _ ⟨by simp,fun k _ hk=>setRow_other w b k _ (by simpa using hk)⟩ h' ⟨cs.take (m.toNat*K.n)++Q4 v++cs.drop (m.toNat*K.n+(Q4 v).length),⟨hA,by simpa using h1,h2,?_,_,0,rfl,Nat.zero_le _,fun _=>rfl,?_,?_⟩,hrl.set hlt hr⟩ (hS.put0 (by simp) rfl rfl rfl (setRow_heap w b Cl _ T _ hS.heap0) (fun k hk=>setRow_other w b k _ hk))
  ·have:(m.toNat+1)*K.n≤l.length*K.n:=Nat.mul_le_mul_right _ (by omega)
   rw[Nat.succ_mul]at this
   simp only[List.length_append,List.length_take,List.length_drop,List.length_set,hcl,hvl]
   omega
  ·simp;omega
  ·have hle:m.toNat*K.n+(Q4 v).length≤l.length*K.n:=by
    rw[hvl,←Nat.succ_mul];exact Nat.mul_le_mul_right _ (by omega)
   have hCl:l.length*K.n≤Cl.size:=by rw[hC];exact Nat.mul_le_mul_right _ h1
   rw[List.length_set,←ht]
   apply List.ext_getElem?
   intro j
   simp only[List.getElem?_take,List.getElem?_append,List.length_take,List.getElem?_drop,Array.length_toList,List.append_assoc]
   have e1:min (m.toNat*K.n) Cl.size=m.toNat*K.n:=by omega
   have e2:min (m.toNat*K.n) (min (l.length*K.n) Cl.size)=m.toNat*K.n:=by omega
   simp only[e1,e2]
   by_cases c1:j<l.length*K.n
   ·simp only[c1,if_true]
    by_cases c2:j<m.toNat*K.n
    ·simp[c2]
    ·simp only[c2,if_false]
     by_cases c3:j-m.toNat*K.n<(Q4 v).length
     ·simp[c3]
     ·simp only[c3,if_false]
      rw[if_pos (by omega)]
   ·simp only[c1,if_false]
    rw[if_neg (by omega),if_neg (by omega),if_neg (by omega)]
theorem Qdx{op:BinOp}{xt yt:TypeId}{x y:Operand}{u v r:Value}(ho:ops[i]?=some o)(hop:o.op= .binOp op xt x y yt)(hg:guardOf ops E o=some true)(hd:o.dst=some d)(hE:Env a n ds E)(hn:Nat.blt d n=true)
  (hx:Yt E x=some u) (hy:Yt E y=some v) (hr:∀w,(do eqGuard op xt x y u v;binOp op xt u v:Sem Value).run P w= .ok r w)
  (k:∀a,Env a n ds ((d,r)::E)→C1 a):Tk P ops R i n ds E a w C1:=by
 refine ZO (v:=r) hE ho hg hd hn (by simp[hop,Q5]) (fun w' _=> ?_) k
 have:=hr w'
 simp only[execOp,hop,hE.eval hx,hE.eval hy]
 rw[Sem.run_bind,this]
 rfl
def boolT(P:Program)(t:TypeId):Bool:=match P.underlying t with|some .bool=>true|_=>false
theorem Qek{t:TypeId}(h:boolT P t=true):P.underlying t=some .bool:=by unfold boolT at h;split at h<;>first|assumption|cases h
theorem jm{op:BinOp}{t:TypeId}{x y:Operand}{u v:Value}(h:match u,v with| .nilIface,.nilIface=>False| .agg _,.agg _=>False|_,_=>True)(w:World):(eqGuard op t x y u v).run P w= .ok () w:=by
 unfold eqGuard
 cases op<;>simp only[Bool.not_true,Bool.not_false,Bool.false_eq_true,if_true,if_false,Sem.run_pure]<;>try rfl
 all_goals
  cases u<;>cases v<;>first|rfl|exact h.elim
theorem Xn{op:BinOp}{t:TypeId}{x y:Operand}{u v r:Value}(hg:∀w,(eqGuard op t x y u v).run P w= .ok () w)(h:∀w,(binOp op t u v).run P w= .ok r w)(w:World):(do eqGuard op t x y u v;binOp op t u v:Sem Value).run P w= .ok r w:=by
 rw[Sem.run_bind,hg]
 exact h w
theorem yU{t:TypeId}{u v:Value}:Op.equal t u v=Op.equalIn (9999+1) t u v:=rfl
theorem Qvb{t:TypeId}{x y:Operand}(hT:boolT P t=true)(b c:Bool)(w:World):(do eqGuard .eql t x y (.bool b) (.bool c);binOp .eql t (.bool b) (.bool c):Sem Value).run P w= .ok (.bool (b==c)) w:=by
 refine Xn (jm trivial) (fun w=> ?_) w
 show(do pure (.bool (←Op.equal t (.bool b) (.bool c))):Sem Value).run P w=_
 rw[yU,Op.equalIn]
 simp[Ql (Qek hT)]
theorem Qvc{t:TypeId}{x y:Operand}(hT:boolT P t=true)(b c:Bool)(w:World):(do eqGuard .neq t x y (.bool b) (.bool c);binOp .neq t (.bool b) (.bool c):Sem Value).run P w= .ok (.bool (!(b==c))) w:=by
 refine Xn (jm trivial) (fun w=> ?_) w
 show(do pure (.bool (!(←Op.equal t (.bool b) (.bool c)))):Sem Value).run P w=_
 rw[yU,Op.equalIn]
 simp[Ql (Qek hT)]
def sliceT(P:Program)(t:TypeId):Bool:=match P.underlying t with|some (.slice _)=>true|_=>false
theorem Qdf{t:TypeId}(h:sliceT P t=true):∃e,P.underlying t=some (.slice e):=by unfold sliceT at h;split at h<;>first|exact⟨_,by assumption⟩|cases h
theorem QbU{t:TypeId}{x y:Operand}(hT:sliceT P t=true)(A:Option Addr)(m c:Nat)(w:World):(do eqGuard .eql t x y (.slice A m c) (.slice none 0 0);binOp .eql t (.slice A m c) (.slice none 0 0):Sem Value).run P w= .ok (.bool A.isNone) w:=by
 obtain⟨e,he⟩:=Qdf hT
 refine Xn (jm trivial) (fun w=> ?_) w
 show(do pure (.bool (←Op.equal t (.slice A m c) (.slice none 0 0))):Sem Value).run P w=_
 rw[yU,Op.equalIn]
 cases A<;>simp[Ql he]
def ptrT(P:Program)(t:TypeId):Bool:=match P.underlying t with|some (.pointer _)=>true|_=>false
theorem Qkf{t:TypeId}(h:ptrT P t=true):∃e,P.underlying t=some (.pointer e):=by unfold ptrT at h;split at h<;>first|exact⟨_,by assumption⟩|cases h
theorem QpG{t:TypeId}{x y:Operand}(hT:ptrT P t=true)(A:Option Addr)(w:World):(do eqGuard .eql t x y (.pointer A) (.pointer none);binOp .eql t (.pointer A) (.pointer none):Sem Value).run P w= .ok (.bool A.isNone) w:=by
 obtain⟨e,he⟩:=Qkf hT
 refine Xn (jm trivial) (fun w=> ?_) w
 show(do pure (.bool (←Op.equal t (.pointer A) (.pointer none))):Sem Value).run P w=_
 rw[yU,Op.equalIn]
 cases A<;>simp[Ql he]
theorem QpH{t:TypeId}{x y:Operand}(hT:ptrT P t=true)(A:Option Addr)(w:World):(do eqGuard .neq t x y (.pointer A) (.pointer none);binOp .neq t (.pointer A) (.pointer none):Sem Value).run P w= .ok (.bool (!A.isNone)) w:=by
 obtain⟨e,he⟩:=Qkf hT
 refine Xn (jm trivial) (fun w=> ?_) w
 show(do pure (.bool (!(←Op.equal t (.pointer A) (.pointer none)))):Sem Value).run P w=_
 rw[yU,Op.equalIn]
 cases A<;>simp[Ql he]
theorem Qgg{t:TypeId}{k:IntKind}{N:Nat}(hT:P.underlying t=some (.int k))(v:Vector Int N){j:Nat}(hj:j<N)(w:World):(part t (Ya k N v).toArray (j*1)).run P w= .ok (.int k (vget v j)) w:=by
 simp[part,isAgg,Ql hT,Ya,hj]
def Xo(P:Program)(t:TypeId):Option (Nat×IntKind):=
 match P.underlying t with
 |some (.array N e)=>match P.underlying e,P.info? e with
  |some (.int k),some i=>bif Nat.beq i.size 1 then some (N,k)else none
  |_,_=>none
 |_=>none
theorem XG{t N:Nat}{k:IntKind}(h:Xo P t=some (N,k)):∃e i,P.underlying t=some (.array N e)∧P.underlying e=some (.int k)∧P.info? e=some i∧i.size=1:=by
 unfold Xo at h
 split at h
 ·rename_i hu
  split at h
  ·rename_i i h1 h2
   cases hb:Nat.beq i.size 1 with
   |false=>rw[hb]at h;cases h
   |true=>
    rw[hb]at h
    simp only[Qg,Qa,Qe]at h
    obtain⟨rfl,rfl⟩:=h
    exact⟨_,i,hu,h1,h2,Qc hb⟩
  ·cases h
 ·cases h
theorem QsI{t:TypeId}{x y:Operand}{op:BinOp}(s u:ByteArray)(w:World)(r:Value)(h:(Op.stringOp op s u).run P w= .ok r w)(hne:op≠ .shl∧op≠ .shr):(do eqGuard op t x y (.string s) (.string u);binOp op t (.string s) (.string u):Sem Value).run P w= .ok r w:=by
 have e1:(eqGuard op t x y (.string s) (.string u)).run P w= .ok () w:=by cases op<;>simp[eqGuard]
 rw[Sem.run_bind,e1]
 simp only[Result.andThen_ok]
 cases op<;>first|exact h|exact absurd rfl hne.1|exact absurd rfl hne.2
end
end Go.Sep
