/-
 Slices of slices and arrays; regions that draw their order.
-/
import Derived.Test.YtomndohdnfebgaaGreatDoorSepD
set_option linter.unusedVariables false
set_option linter.unusedSimpArgs false
namespace Go.Sep
section
variable {P:Program}{ρ:Option Nat}{ops:Array Oper}{Q:Exit→Act→World→Prop}{a:Act}{n:Nat}{ds:List Deferred}{E:List (Nat×Value)}
variable {g w w0:World}{D D0:Snap}{L L0:List Blk}{i:Nat}{o:Oper}{d:Nat}{C:Act→World→Prop}{C1:Act→Prop}{R:World→World→Prop}
def Qbf(E:List (Nat×Value))(x:Option Operand)(dflt z:Int):Prop:=
 match x with
 |none=>z=dflt
 |some y=>∃k,Yn E y=some (.int k z)
theorem qR(hE:Env a n ds E){isS:Bool}{len cap:Nat}{lo hi:Option Operand}{zl zh:Int}(hl:Qbf E lo 0 zl)(hh:Qbf E hi len zh)(h0:0≤zl)(h1:zl≤zh)(h2:zh≤(cap:Int)):
  (Instr.sliceBounds isS len cap (lo.map a.eval) (hi.map a.eval) none).run P w= .ok (zl.toNat,zh.toNat,cap) w:=by
 have sb:∀{x:Operand} {k:IntKind} {z:Int} {y:Nat} (code:BoundsCode),Yn E x=some (.int k z)→0≤z→z≤(y:Int)→(Instr.sliceBound (a.eval x) y code).run P w= .ok z.toNat w:=by
  intro x k z y code hx hz hy
  simp[Instr.sliceBound,hE.eval hx,asIntOf,hz,hy]
 have h3:0≤zh:=by omega
 have h4:zl≤((zh.toNat:Nat):Int):=by omega
 cases hi with
 | none=>
  simp only[Qbf]at hh
  subst hh
  cases lo with
  |none=>simp only[Qbf]at hl;subst hl;simp[Instr.sliceBounds]
  |some y=>
   obtain⟨k,hk⟩:=hl
   simp only[Int.toNat_natCast]at h4
   simp[Instr.sliceBounds,sb _ hk h0 h4]
 | some x=>
  obtain⟨k,hk⟩:=hh
  cases lo with
  |none=>simp only[Qbf]at hl;subst hl;simp[Instr.sliceBounds,sb _ hk h3 h2]
  |some y=>
   obtain⟨k',hk'⟩:=hl
   simp[Instr.sliceBounds,sb _ hk h3 h2,sb _ hk' h0 h4]
theorem Sl.sub{α:Type}{K:Kd α}{A:Option Addr}{cap:Nat}{l:List α}(h:Sl K D A cap l){x y:Nat}(hxy:x≤y)(hy:y≤l.length)(sz:Nat)(hsz:sz=K.n):
  Sl K D (if cap=x then A else A.map (·.add (x*sz))) (cap-x) ((l.take y).drop x):=by
 subst hsz
 obtain⟨h1,h2,cs,hr,hc⟩:=h
 have hlen:((l.take y).drop x).length=y-x:=by simp;omega
 refine⟨by omega,by omega,?_⟩
 have hsplit:l=l.take x++((l.take y).drop x++l.drop y):=by
  conv=>lhs;rw[←List.take_append_drop x l]
  congr 1
  rw[←List.take_append_drop (y-x) (l.drop x)]
  congr 1
  ·rw[List.take_drop];congr 2;omega
  ·rw[List.drop_drop];congr 1;omega
 rw[hsplit]at hr
 obtain⟨c1,c23,rfl,hr1,hr23⟩:=hr.split
 obtain⟨c2,c3,rfl,hr2,hr3⟩:=hr23.split
 refine⟨c2,hr2,?_⟩
 rcases hc with hnil|⟨b,off,c,T,fr,rfl,hb,hcell⟩
 ·left
  simp only[List.append_eq_nil_iff]at hnil
  exact hnil.2.1
 ·by_cases hcx:cap=x
  ·left
   have:y-x=0:=by omega
   have h3:=hr2.len
   rw[hlen,this,Nat.zero_mul]at h3
   exact List.eq_nil_of_length_eq_zero h3
  ·right
   refine⟨b,off+x*K.n,c,T,fr,by rw[if_neg hcx];simp[addr_add],hb,fun j u hu=> ?_⟩
   have h3:=hr1.len
   have h4:(l.take x).length=x:=by simp;omega
   rw[h4]at h3
   rw[Nat.add_assoc,←h3]
   refine hcell _ _ ?_
   rw[List.getElem?_append_right (Nat.le_add_right _ _),Nat.add_sub_cancel_left,List.getElem?_append_left (List.getElem?_eq_some_iff.1 hu).1]
   exact hu
theorem QqF{α:Type}{K:Kd α}{t e:TypeId}{x:Operand}{lo hi:Option Operand}{zl zh:Int}{A:Option Addr}{cap:Nat}{l m:List α}(ho:ops[i]?=some o)(hop:o.op= .slice t x lo hi none)(hg:guardOf ops E o=some true)(hd:o.dst=some d)(hE:Env a n ds E)(hn:Nat.blt d n=true)
  (hx:Yn E x=some (.slice A l.length cap)) (ht:P.underlying t=some (.slice e)) (he:(P.info? e).map (·.size)=some K.n) (hlo:Qbf E lo 0 zl) (hhi:Qbf E hi l.length zh) (hl:Sl K D A cap l) (hm:subI l zl zh=some m)
  (k:∀a A' cap',Env a n ds ((d,.slice A' m.length cap')::E)→Sl K D A' cap' m→C1 a):Tk P ops R i n ds E a w C1:=by
 obtain⟨h0,h1,h2,rfl⟩:=Qfp hm
 obtain⟨q,hq,hqs⟩:=Option.map_eq_some_iff.1 he
 have hcap:=hl.1
 have hsb:=fun w=>qR (P:=P) (w:=w) (isS:=true) (cap:=cap) hE hlo hhi h0 h1 (by omega)
 have hlen:((l.take zh.toNat).drop zl.toNat).length=zh.toNat-zl.toNat:=by simp;omega
 have hsub:=hl.sub (x:=zl.toNat) (y:=zh.toNat) (by omega) (by omega) q.size hqs
 refine ZG (v:= .slice (if cap=zl.toNat then A else A.map (·.add (zl.toNat*q.size))) ((l.take zh.toNat).drop zl.toNat).length (cap-zl.toNat)) hE ho hg hd hn (by simp[hop,QU]) (fun w' _=> ?_) ?_
 ·rw[hlen]
  simp[execOp,hop,Instr.sliceAt,hE.eval hx,Ql ht,Instr.slice,hsb,sizeOf,typeInfo,hq]
 ·intro a' h'
  exact k a' _ _ h' hsub
theorem Qun{kk:IntKind}{t e:TypeId}{x:Operand}{A:Option Addr}{cap N:Nat}{l:List Int}(ho:ops[i]?=some o)(hop:o.op= .sliceToArrayPointer t x)(hg:guardOf ops E o=some true)(hd:o.dst=some d)(hE:Env a n ds E)(hn:Nat.blt d n=true)
  (hx:Yn E x=some (.slice A l.length cap)) (ht:P.underlying t=some (.array N e)) (hpos:Nat.blt 0 N=true) (hl:Sl (Yx kk) D A cap l) (hN:N≤l.length)
  (k:∀a b off,Env a n ds ((d,.pointer (some ⟨b,off,none⟩))::E)→Cell (XC kk N) D b off (vofL N l)→C1 a):Tk P ops R i n ds E a w C1:=by
 obtain⟨h1,h2,cs,hr,hc⟩:=hl
 have hpos':0<N:=by simpa[Nat.blt_eq] using hpos
 have hlen:=hr.len
 rcases hc with rfl|⟨b,off,c,T,fr,rfl,hb,hcell⟩
 ·simp at hlen;omega
 ·refine ZG (v:= .pointer (some ⟨b,off,none⟩)) hE ho hg hd hn (by simp[hop,QU]) (fun w' _=> ?_) ?_
  ·have: ¬l.length<N:=by omega
   simp[execOp,hop,Instr.arrayAt,hE.eval hx,Ql ht,this]
  ·intro a' h'
   refine k a' _ _ h' ⟨QY kk N (vofL N l),c,T,fr,rfl,hb,fun j u hu=>hcell j u ?_⟩
   rw[QdB hN]at hu
   have:=Qn1.1 hr
   subst this
   rw[List.getElem?_map,List.getElem?_take]at hu
   rw[List.getElem?_map]
   split at hu
   ·exact hu
   ·cases hu
def wpG(P:Program)(ρ:Option Nat)(ops:Array Oper)(Rf:Nat→World→World→Prop)(K:Act→World→Prop)(Q:Exit→Act→World→Prop):Nat→Array Bool→Act→World→Prop
 |0,listed,a,w=>Region.ready .any ops listed= []∧K a w
 |fuel+1,listed,a,w=>
  (Region.ready .any ops listed= []→K a w)∧
  ∀i∈Region.ready .any ops listed,Op1 P ρ ops Q i (fun a' w'=>Rf i w w'∧wpG P ρ ops Rf K Q fuel (listed.setIfInBounds i true) a' w') a w
def Qn(K:Act→World→Prop):Exit→Act→World→Prop
 | .normal,a,w=>K a w
 |_,_,_=>False
variable {Rf:Nat→World→World→Prop}{K:Act→World→Prop}
theorem QsW:∀(fuel:Nat) (listed:Array Bool) (a:Act) (w:World),wpG P ρ ops Rf K (Qn K) fuel listed a w→wpAnyIn (Fw ρ) 0 P .any ops (Qn K) fuel listed a w:=by
 intro fuel
 induction fuel with
 |zero=>intro listed a w h;exact h
 |succ fuel ih=>
  intro listed a w h
  exact⟨h.1,fun i hi=>wpOpIn_mono (fun a' w' h'=>ih _ a' w' h'.2) (h.2 i hi)⟩
theorem QkA{id:Nat}(Rf:Nat→World→World→Prop)(hm:P.follows .mixedOrders=true)(h:wpG P ρ ops Rf (Q .normal) (Qn (Q .normal)) ops.size (Array.replicate ops.size false) a w.drew):(Code.region id ops true).wpIn (Fw ρ) 0 P Q a w:=
 wpIn_mono (wpIn_region_any hm (QsW _ _ _ _ h)) (fun e a w he=>by cases e<;>first|exact he|exact he.elim)
theorem opPut{oi oj:Oper}{j:Nat}{v:Value}(hj:ops[j]?=some oj)(hap:oi.apart ops oj=true)
  (hsi:∀cs b,oi.op≠ .select cs b) (hsj:∀cs b,oj.op≠ .select cs b) (hnj:QU oj.op=true) {C:Act→World→Prop} {a:Act} {w:World}
  (h:Op1 P ρ ops (Qn K) j C (a.put oi.dst v) w):
  Op1 P ρ ops (Qn K) j (fun a' w'=>(execOp a'.eval oi=execOp a.eval oi∧Region.wanted oi (yielded ops a'.tmps)=Region.wanted oi (yielded ops a.tmps))∧C (a'.put oi.dst v) w') a w:=by
 obtain⟨h1,h2,h3⟩:=Oper.apart_spec hap
 have keep:∀u,execOp (a.put oj.dst u).eval oi=execOp a.eval oi∧Region.wanted oi (yielded ops (a.put oj.dst u).tmps)=Region.wanted oi (yielded ops a.tmps):=fun u=>
  ⟨execOp_put oi hsi a oj.dst u h3,wanted_put oi a oj.dst u h3⟩
 unfold Op1 wpOpIn at*
 simp only[hj]at*
 rw[wanted_put oj a oi.dst v h1]at h
 split
 ·rename_i hw
  simp only[hw,if_true]at h
  unfold Oper.wpIn at*
  refine⟨fun _ _=>trivial,?_⟩
  have h:=h.2
  rw[yL hnj,execOp_put oj hsj a oi.dst v h1]at h
  rw[yL hnj]
  generalize (execOp a.eval oj).run P w=r at*
  cases r with
  | ok x w'=>
   cases x<;>simp only[Oper.uponIn]at h⊢
   case value u=>exact⟨keep u,by rw[←Act.put_comm a v u h2];exact h⟩
   case skip=>exact⟨keep _,by rw[←Act.put_comm a v undef h2];exact h⟩
   case defer dd=>
    refine⟨⟨execOp_put oi hsi {a with defers:=dd::a.defers} oj.dst undef h3,wanted_put oi {a with defers:=dd::a.defers} oj.dst undef h3⟩,?_⟩
    rw[←Act.put_comm _ v undef h2,←Act.put_defers]
    exact h
   case enter f args=>
    refine⟨h.1,CallsIn.mono h.2 fun e w'' he=> ?_⟩
    cases e with
    |returned u=>exact⟨keep u,by rw[←Act.put_comm a v u h2];exact he⟩
    |panicked c=>exact he.elim
    |outgrown=>exact he
   case row row args=>exact⟨h.1,RowsIn.mono h.2 fun u w'' he=>⟨keep u,by rw[←Act.put_comm a v u h2];exact he⟩⟩
   case round l f tmps assign body=>
    refine⟨h.1,RoundIn.mono h.2 fun e w'' he=> ?_⟩
    cases e with
    |returned u=>exact⟨keep u,by rw[←Act.put_comm a v u h2];exact he⟩
    |panicked c=>exact he.elim
    |outgrown=>exact he
  |halt x w'=>
   cases x<;>simp only[Oper.uponIn]at h⊢
   case panic u=>exact h.elim
 ·rename_i hw
  simp only[hw]at h
  exact⟨fun _ _=>trivial,keep _,by rw[←Act.put_comm a v undef h2];exact h.2⟩
theorem YG.op1{i:Nat}{oi:Oper}{v:Value}(hR:R w w)(hi:ops[i]?=some oi)(hni:QU oi.op=true)(hy:YG P ops R oi v a w){C:Act→World→Prop}(h:C (a.put oi.dst v) w):Op1 P ρ ops (Qn K) i C a w:=by
 unfold Op1 wpOpIn
 simp only[hi]
 rcases hy w hR with⟨hw,hv⟩|⟨hw,rfl⟩
 ·simp only[hw,if_true,Oper.wpIn]
  refine⟨fun _ _=>trivial,?_⟩
  rw[yL hni,hv]
  exact h
 ·simp only[hw,Bool.false_eq_true,if_false]
  exact⟨fun _ _=>trivial,h⟩
theorem Quo{i:Nat}{oi:Oper}{v:Value}(hR:∀w,R w w)(hT:∀w w' w2,R w w'→R w' w2→R w w2)(hRf:∀w,Rf i w w)(hi:ops[i]?=some oi)(hsel:∀(j:Nat) (o:Oper) cs b,ops[j]?=some o→o.op≠ .select cs b)(hnd:∀(j:Nat) (o:Oper),ops[j]?=some o→QU o.op=true):
  ∀(fuel:Nat) (listed:Array Bool) (a:Act) (w:World),
   (∀j oj,ops[j]?=some oj→j≠i→listed.getD j true=false→(∀e∈oj.after,Region.binds .any e=true→e.on≠i)→oi.apart ops oj=true∧∀w w',Rf j w w'→R w w')→
   i∈Region.ready .any ops listed→YG P ops R oi v a w→
   wpG P ρ ops Rf K (Qn K) fuel (listed.setIfInBounds i true) (a.put oi.dst v) w→wpG P ρ ops Rf K (Qn K) (fuel+1) listed a w:=by
 intro fuel
 induction fuel with
 | zero=>
  intro listed a w _ hr hy H
  refine⟨fun h=>(by rw[h]at hr;cases hr),fun j hj=> ?_⟩
  by_cases hji:j=i
  ·subst hji;exact hy.op1 (hR _) hi (hnd _ _ hi) ⟨hRf _,H⟩
  ·have:=ready_mono hj hji
   rw[H.1]at this
   cases this
 | succ fuel ih=>
  intro listed a w hfree hr hy H
  refine⟨fun h=>(by rw[h]at hr;cases hr),fun j hj=> ?_⟩
  by_cases hji:j=i
  ·subst hji;exact hy.op1 (hR _) hi (hnd _ _ hi) ⟨hRf _,H⟩
  ·have h1:=H.2 j (ready_mono hj hji)
   obtain⟨hjun,oj,hoj,hall⟩:=mem_ready.1 hj
   have hnot:∀e∈oj.after,Region.binds .any e=true→e.on≠i:=fun e he hb heq=>by
    have h1:=hall e he hb
    have h0:=(mem_ready.1 hr).1
    rw[heq]at h1
    rcases Nat.lt_or_ge i listed.size with h'|h'
    ·simp[h']at h0 h1;rw[h0]at h1;cases h1
    ·simp[Array.getElem?_eq_none h']at h1
   have hfr:=hfree j oj hoj hji hjun hnot
   have h2:=opPut (oi:=oi) (v:=v) hoj hfr.1 (fun cs b=>hsel i oi cs b hi) (fun cs b=>hsel j oj cs b hoj) (hnd _ _ hoj) h1
   have hfree':∀k ok,ops[k]?=some ok→k≠i→(listed.setIfInBounds j true).getD k true=false→
     (∀e∈ok.after,Region.binds .any e=true→e.on≠i)→oi.apart ops ok=true∧∀w w',Rf k w w'→R w w':=fun k ok hk hki hun hno=>by
    refine hfree k ok hk hki ?_ hno
    by_cases hjk:j=k
    ·subst hjk;exact hjun
    ·rw[getD_set_ne true hjk]at hun;exact hun
   refine wpOpIn_mono (fun a' w' h3=>⟨h3.2.1,ih (listed.setIfInBounds j true) a' w' hfree' (ready_mono hr (Ne.symm hji)) ?_ ?_⟩) h2
   ·intro w2 hk2
    rcases hy w2 (hT _ _ _ (hfr.2 _ _ h3.2.1) hk2)with⟨hw,hv⟩|⟨hw,rfl⟩
    ·exact .inl ⟨by rw[h3.1.2];exact hw,by rw[h3.1.1];exact hv⟩
    ·exact .inr ⟨by rw[h3.1.2];exact hw,rfl⟩
   ·rw[Array.setIfInBounds_comm _ _ hji]
    exact h3.2.2
def QbX(ops:Array Oper):Bool:=Region.noSelect ops&&ops.toList.all fun o=>QU o.op
def QqG(Mf:Nat→List Nat)(ops:Array Oper)(listed:Array Bool)(i:Nat):Bool:=
 (List.range ops.size).all fun j=>j==i||listed.getD j true||match ops[j]? with
  |some oj=>oj.after.any (fun e=>Region.binds .any e&&e.on==i)||(Mf j).isEmpty
  |none=>true
theorem QmO{Mf:Nat→List Nat}{i:Nat}{listed:Array Bool}(h:QqG Mf ops listed i=true)(j:Nat)(oj:Oper)
  (hj:ops[j]?=some oj) (hne:j≠i) (hun:listed.getD j true=false) (hno:∀e∈oj.after,Region.binds .any e=true→e.on≠i):Mf j= []:=by
 simp only[QqG,List.all_eq_true,List.mem_range]at h
 have h1:=h j (Array.getElem?_eq_some_iff.1 hj).1
 simp only[hj,Bool.or_eq_true,beq_iff_eq,hne,false_or,hun,Bool.false_eq_true]at h1
 rcases h1 with h1|h1
 ·rw[←Array.any_toList]at h1
  obtain⟨e,he,hb⟩:=List.any_eq_true.1 h1
  simp only[Qd,beq_iff_eq]at hb
  exact absurd hb.2 (hno e (Array.mem_toList_iff.1 he) hb.1)
 ·simpa using h1
theorem Qup{R:World→World→Prop}(hR:∀w,R w w)(hT:∀w w' w2,R w w'→R w' w2→R w w2)(hRf:∀j w,Rf j w w)(i:Nat){fuel:Nat}{listed:Array Bool}(listed':Array Bool)(hs:QbX ops=true)(hf:Region.free .any ops listed i=true)(hr:(Region.ready .any ops listed).contains i=true)(hl:listed.setIfInBounds i true=listed')
  (hsub:∀j oj,ops[j]?=some oj→j≠i→listed.getD j true=false→(∀e∈oj.after,Region.binds .any e=true→e.on≠i)→∀w w',Rf j w w'→R w w')
  (hE:Env a n ds E) (h:Tk P ops R i n ds E a w (fun a=>wpG P ρ ops Rf K (Qn K) fuel listed' a w)):wpG P ρ ops Rf K (Qn K) (fuel+1) listed a w:=by
 subst hl
 simp only[QbX,Qd]at hs
 obtain⟨o,v,ho,hd,_,hy,k⟩:=h
 refine Quo hR hT (hRf i) ho (Region.noSelect_spec hs.1) (fun j oj hj=> ?_) fuel listed a w (fun j oj hj hne hun hno=>⟨Region.free_spec ho hf j oj hj hne hun hno,hsub j oj hj hne hun hno⟩) (by simpa using hr) hy (k _ (hE.put hd v))
 exact List.all_eq_true.1 hs.2 oj (Array.mem_toList_iff.2 (Array.mem_of_getElem? hj))
class Idle (Rf:Nat→World→World→Prop):Prop where
 idle:∀j w,Rf j w w
instance (Mf:Nat→List Nat):Idle (fun j=>JY (Mf j)):=⟨fun j w=>JY.refl (Mf j) w⟩
theorem takeW [hI:Idle Rf](i:Nat){fuel:Nat}{listed:Array Bool}(listed':Array Bool)(hs:QbX ops=true)(hf:Region.free .any ops listed i=true)(hr:(Region.ready .any ops listed).contains i=true)(hl:listed.setIfInBounds i true=listed')
  (hE:Env a n ds E) (h:∀R,Tk P ops R i n ds E a w (fun a=>wpG P ρ ops Rf K (Qn K) fuel listed' a w)):wpG P ρ ops Rf K (Qn K) (fuel+1) listed a w:=
 Qup (R:=fun _ _=>True) (fun _=>trivial) (fun _ _ _ _ _=>trivial) hI.idle i listed' hs hf hr hl (fun _ _ _ _ _ _ _ _ _=>trivial) hE (h _)
theorem takeT{Mf:Nat→List Nat}(i:Nat){fuel:Nat}{listed:Array Bool}(listed':Array Bool)(hs:QbX ops=true)(hf:Region.free .any ops listed i=true)(hr:(Region.ready .any ops listed).contains i=true)(hl:listed.setIfInBounds i true=listed')(hc:QqG Mf ops listed i=true)
  (hE:Env a n ds E) (h:Tk P ops (JY []) i n ds E a w (fun a=>wpG P ρ ops (fun j=>JY (Mf j)) K (Qn K) fuel listed' a w)):wpG P ρ ops (fun j=>JY (Mf j)) K (Qn K) (fuel+1) listed a w:=
 Qup (R:=JY []) (JY.refl _) (fun _ _ _ h h'=>h.trans h') (fun j w=>JY.refl (Mf j) w) i listed' hs hf hr hl (fun j oj hj hne hun hno w w' hk=>by rw[QmO hc j oj hj hne hun hno]at hk;exact hk) hE h
def RP:List Nat→World→World→Prop
 | [],_,_=>True
 |b::l,w,w'=>w'.heap[b]?=w.heap[b]?∧RP l w w'
theorem RP.refl:∀(l:List Nat) (w:World),RP l w w
 | [],_=>trivial
 |_::l,w=>⟨rfl,RP.refl l w⟩
def plOf(ss l:List Nat)(j:Nat):List Nat:=bif ss.contains j then []else l
instance (ss l:List Nat):Idle (fun j=>RP (plOf ss l j)):=⟨fun _ w=>RP.refl _ w⟩
theorem kL{M:List Nat}{j b:Nat}{u:OB}(hS:Stp g w0 D0 L0 w D L)(hj:L[j]?=some (some (b,u)))(hM:b∉M):∀w',JY M w w'→w'.heap[b]?=w.heap[b]?:=fun _ h=>h.2 b (lt_of_heap (hS.heapAt hj)) hM
theorem kD{M:List Nat}(hS:Stp g w0 D0 L0 w D L)(hM:∀m,m∈M→∀p,D m=some p→Qfm 0 p):∀w',JY M w w'→Sees D w':=fun w' h b C T fr hb i u hi=>by
 obtain⟨C',T',fr',h1,h2⟩:=hS.st.sees _ _ _ _ hb i u hi
 refine⟨C',T',fr',?_,h2⟩
 rw[h.2 b (hS.lt_d hb) (fun hm=> ?_)]
 ·exact h1
 ·obtain⟨C0,T0,fr0,e,h0⟩:=hM b hm _ hb
  cases e
  have:=(Array.getElem?_eq_some_iff.1 hi).1
  omega
theorem onlyG{i:Nat}{fuel:Nat}{listed listed':Array Bool}(hr:Region.ready .any ops listed= [i])(hl:listed.setIfInBounds i true=listed')
  (h:Op1 P ρ ops (Qn K) i (fun a' w'=>Rf i w w'∧wpG P ρ ops Rf K (Qn K) fuel listed' a' w') a w):wpG P ρ ops Rf K (Qn K) (fuel+1) listed a w:=by
 subst hl
 refine⟨fun h0=>(by rw[hr]at h0;cases h0),fun j hj=> ?_⟩
 rw[hr]at hj
 simp only[List.mem_singleton]at hj
 subst hj
 exact h
theorem doneG{fuel:Nat}{listed:Array Bool}(hr:Region.ready .any ops listed= [])(h:K a w):wpG P ρ ops Rf K (Qn K) fuel listed a w:=by
 cases fuel with
 |zero=>exact⟨hr,h⟩
 |succ fuel=>exact⟨fun _=>h,by rw[hr];simp⟩
end
end Go.Sep
