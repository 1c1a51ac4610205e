/-
 Plain: the digest of parts is always there.
-/
import Derived.Test.YtomndohdnfebgaaGreatDoorSepQ
import Derived.ProofKit
import Derived.Deep.Slices
import Derived.OpenShut
import Derived.MakeChecks
import Derived.Test.YtomndohdnfebgaaGreatDoorPureX
set_option linter.unusedVariables false
set_option linter.unusedSimpArgs false
namespace Go.Sep
open Go.ChangeShapes Go.WideShapes Go.ChangeAt Go.RowKit Go.Deep
def Qi9(w:World):Snap:=fun b=>w.heap[b]?
def Qed{α:Type}(K:Kd α)(P:Program)(t:TypeId)(ok:α→Prop):Prop:=
 ∀(H:Type) (enc:TypeId×Value→H) (w:World) (fuel:Nat) (cs:List Value) (x:DataW H×List MemPlace),
  DataW.trod enc P w 0 (fun _=>true) true fuel t cs=some x→∃y,K.r (Qi9 w) y cs∧ok y
def inR(k:IntKind)(n:Int):Prop:=k.min≤n∧n≤k.max
theorem Qwf{x:Int}(h:inR .u8 x):0≤x∧x<256:=by
 unfold inR at h
 simp[IntKind.min,IntKind.max,IntKind.signed,IntKind.bits]at h
 omega
theorem Qs8{k:IntKind}{n:Int}:(Lit.int k n).wf=true↔inR k n:=by simp[Lit.wf,inR]
section
variable {α β:Type}{K:Kd α}{M:Kd β}{P:Program}{ok:α→Prop}{ok':β→Prop}
theorem Qdm{t:TypeId}{k:IntKind}(ht:P.underlying t=some (.int k)):Qed (YK k) P t (inR k):=by
 intro H enc w fuel cs x h
 obtain⟨n,rfl,_,hw⟩:=DataW.trod_int ht h
 exact⟨n,rfl,Qs8.1 hw⟩
theorem QxB{D:Snap}:∀{l:List α} {cs c:List Value} {y:α},RL K D l cs→K.r D y c→RL K D (l++ [y]) (cs++c):=by
 intro l
 induction l with
 |nil=>intro cs c y h hy;cases h;exact⟨c, [],by simp,hy,rfl⟩
 |cons x l ih=>
  rintro cs c y ⟨c1,c2,rfl,h1,h2⟩ hy
  exact⟨c1,c2++c,by simp,h1,ih h2 hy⟩
theorem Qcc{t e:TypeId}(ht:P.underlying t=some (.slice e))(hn:P.cellsOf e=K.n)(he:Qed K P e ok):Qed (Jj K) P t (fun l=>l.length≤maxLen∧∀y∈l,ok y):=by
 intro H enc w fuel cs x h
 rcases open_slice ht h with⟨rfl,_⟩|⟨a,len,cap,m,n,Dt,Pl,rfl,_,hlc,hcm,hm,_,hx⟩
 ·exact⟨[],⟨none,0,rfl,Sl.nil _ _⟩,by simp,by simp⟩
 have hlm:len≤m:=by simp at hm;omega
 have key:∀k,k≤len→∃(l:List α) (cs:List Value),l.length=k∧RL K (Qi9 w) l cs∧(∀y∈l,ok y)∧∀j u,cs[j]?=some u→w.cell? (a.add j)=some u:=by
  intro k
  induction k with
  |zero=>intro _;exact⟨[], [],rfl,rfl,by simp,by simp⟩
  | succ k ih=>
   intro hk
   obtain⟨l,cs,h1,h2,h3,h4⟩:=ih (by omega)
   obtain⟨c,hc1,hc2⟩:=hx k (by omega)
   obtain⟨y,hy,hyo⟩:=he H enc w n c _ hc2
   obtain⟨_,hcl,hcc⟩:=World.cells?_some hc1
   refine⟨l++ [y],cs++c,by simp[h1],QxB h2 hy,?_,?_⟩
   ·intro z hz
    rcases List.mem_append.1 hz with hz|hz
    ·exact h3 z hz
    ·simp at hz;subst hz;exact hyo
   ·intro j u hj
    have hcsl:cs.length=k*K.n:=by rw[h2.len,h1]
    by_cases hjc:j<cs.length
    ·rw[List.getElem?_append_left hjc]at hj;exact h4 j u hj
    ·rw[List.getElem?_append_right (by omega)]at hj
     have hlt:=(List.getElem?_eq_some_iff.1 hj).1
     have:=hcc (j-cs.length) (by omega)
     rw[hj,hn]at this
     rw[←this]
     congr 1
     rw[show(a.add (k*K.n)).add (j-cs.length)=a.add (k*K.n+(j-cs.length))from ?_]
     ·congr 1;omega
     ·unfold Addr.add
      by_cases hi:k*K.n=0<;>by_cases hj:j-cs.length=0<;>simp[hi,hj,Nat.add_assoc]
 obtain⟨l,cs,h1,h2,h3,h4⟩:=key len (Nat.le_refl _)
 refine⟨l,⟨some a,cap,by rw[h1],by omega,hcm,cs,h2,?_⟩,by omega,h3⟩
 cases hcs:cs with
 |nil=>exact .inl rfl
 | cons u us=>
  right
  have h0:=h4 0 u (by simp[hcs])
  have e0:a.add 0=a:=by simp[Addr.add]
  rw[e0]at h0
  obtain⟨b,off,spot⟩:=a
  unfold World.cell? at h0
  split at h0
  ·rename_i C T fr hb
   cases spot with
   |some z=>simp at h0
   |none=>
    refine⟨b,off,C,T,fr,rfl,hb,fun j v hv=> ?_⟩
    have hj:=h4 j v (by rw[hcs];exact hv)
    have ej:(⟨b,off,none⟩:Addr).add j=⟨b,off+j,none⟩:=by unfold Addr.add;split<;>simp_all
    rw[ej]at hj
    unfold World.cell? at hj
    have hb':w.heap[b]?=some (.cells C T fr):=hb
    simpa[hb'] using hj
  ·cases h0
theorem Qe7{t e:TypeId}{k:IntKind}{N:Nat}(ht:P.underlying t=some (.array N e))(he:P.underlying e=some (.int k))(hc:P.cellsOf e=1)(hct:P.cellsOf t=N):Qed (ZE k N) P t (fun v=>∀i,i<N→inR k (vget v i)):=by
 intro H enc w fuel cs x h
 obtain⟨xs,m,_,_,hl,hxs,hx⟩:=DataW.trod_array ht h
 rw[hct]at hl
 have each:∀i,i<N→∃n,cs[i]?=some (.int k n)∧inR k n:=by
  intro i hi
  have h1:=hx i hi
  rw[List.getElem?_eq_getElem (by omega)]at h1
  rw[hc,Nat.mul_one]at h1
  obtain⟨n,hn,_,hw⟩:=DataW.trod_int he h1
  refine⟨n,?_,Qs8.1 hw⟩
  have:=congrArg (fun(l:List Value)=>l[0]?) hn
  simpa using this
 let f:Nat→Int:=fun i=>match cs[i]? with|some (.int _ n)=>n|_=>0
 have hf:∀i,i<N→vget (Vector.ofFn (fun(j:Fin N)=>f j)) i=f i:=by intro i hi;simp[vget,hi]
 refine⟨Vector.ofFn (fun(j:Fin N)=>f j),?_,?_⟩
 ·apply List.ext_getElem?
  intro i
  by_cases hi:i<N
  ·obtain⟨n,hn,_⟩:=each i hi
   simp[Yj,hi,hf i hi,f,hn]
  ·simp[Yj,hi];omega
 ·intro i hi
  obtain⟨n,hn,hr⟩:=each i hi
  rw[hf i hi]
  simpa[f,hn] using hr
def Qgo{α:Type}(K:Kd α)(P:Program)(fs:List Field)(off:Nat)(ok:α→Prop):Prop:=
 ∀(H:Type) (enc:TypeId×Value→H) (w:World) (fuel:Nat) (cs:List Value),cs.length=off+K.n→
  (∀f∈fs,∃x,DataW.trod enc P w 0 (fun _=>true) true fuel f.type ((cs.drop f.offset).take (P.cellsOf f.type))=some x)→∃y,K.r (Qi9 w) y (cs.drop off)∧ok y
theorem QqD{f:Field}{off:Nat}(h:Qed K P f.type ok)(ho:f.offset=off)(hc:P.cellsOf f.type=K.n):Qgo K P [f] off ok:=by
 intro H enc w fuel cs hl hx
 obtain⟨x,hx⟩:=hx f (by simp)
 rw[ho,hc,List.take_of_length_le (by simp;omega)]at hx
 exact h H enc w fuel _ x hx
theorem Qn9{f:Field}{fs:List Field}{off off':Nat}(h:Qed K P f.type ok)(ho:f.offset=off)(hc:P.cellsOf f.type=K.n)(ho':off+K.n=off')(hs:Qgo M P fs off' ok'):Qgo (YO K M) P (f::fs) off (fun y=>ok y.1∧ok' y.2):=by
 intro H enc w fuel cs hl hx
 obtain⟨x,hx0⟩:=hx f (by simp)
 rw[ho,hc]at hx0
 obtain⟨y1,h1,o1⟩:=h H enc w fuel _ x hx0
 obtain⟨y2,h2,o2⟩:=hs H enc w fuel cs (by rw[hl];show off+(K.n+M.n)=_;omega) (fun g hg=>hx g (by simp[hg]))
 refine⟨(y1,y2),⟨_,_,?_,h1,h2⟩,o1,o2⟩
 rw[←ho',←List.drop_drop,List.take_append_drop]
theorem QmF{t:TypeId}{fs:List Field}{f:β→α}(inv:α→β)(hi:∀y,f (inv y)=y)(ht:P.underlying t=some (.struct fs.toArray))(hc:P.cellsOf t=K.n)(h:Qgo K P fs 0 ok)(hok:∀y,ok y→ok' (inv y)):Qed (Qbc f K) P t ok':=by
 intro H enc w fuel cs x hx
 obtain⟨xs,n,_,_,hl,hlen,hf⟩:=DataW.trod_struct ht hx
 obtain⟨y,hy,ho⟩:=h H enc w n cs (by rw[hl,hc];omega) (fun g hg=>by
  obtain⟨i,hi⟩:=List.getElem?_of_mem hg
  have:=hf i g (by simpa using hi)
  have hlt:i<xs.length:=by rw[hlen];simpa using (List.getElem?_eq_some_iff.1 hi).1
  rw[List.getElem?_eq_getElem hlt]at this
  exact⟨_,this⟩)
 exact⟨inv y,by rw[List.drop_zero]at hy;show K.r _ (f (inv y)) cs;rw[hi];exact hy,hok y ho⟩
def fieldsOf(P:Program)(t:TypeId):List Field:=match P.underlying t with|some (.struct fs)=>fs.toList|_=> []
def Qk5(P:Program)(t:TypeId)(j:Nat)(ft:TypeId)(off:Nat):Bool:=match(fieldsOf P t)[j]? with|some f=>Nat.beq f.type ft&&Nat.beq f.offset off|none=>false
def Qk6(P:Program)(t:TypeId)(n:Nat):Bool:=match P.underlying t with|some (.struct fs)=>Nat.beq fs.toList.length n|_=>false
theorem Qgp{t ft:TypeId}{j off:Nat}(h:Qk5 P t j ft off=true):∃f,(fieldsOf P t)[j]?=some f∧f.type=ft∧f.offset=off:=by
 unfold Qk5 at h
 split at h
 ·rename_i f hf
  simp only[Qd]at h
  exact⟨f,hf,Qc h.1,Qc h.2⟩
 ·cases h
theorem Qgq{t:TypeId}{n:Nat}(h:Qk6 P t n=true):P.underlying t=some (.struct (fieldsOf P t).toArray)∧(fieldsOf P t).length=n:=by
 unfold Qk6 at h
 unfold fieldsOf
 split at h
 ·rename_i fs hf
  rw[hf]
  exact⟨by simp,Qc h⟩
 ·cases h
theorem drop_at{l:List Field}{j:Nat}{f:Field}(h:l[j]?=some f):l.drop j=f::l.drop (j+1):=by
 obtain⟨hlt,he⟩:=List.getElem?_eq_some_iff.1 h
 rw[←he,List.getElem_cons_drop]
theorem Qai{t ft:TypeId}{off off':Nat}(j:Nat)(hf:Qk5 P t j ft off=true)(h:Qed K P ft ok)(hc:P.cellsOf ft=K.n)(ho':off+K.n=off')(hs:Qgo M P ((fieldsOf P t).drop (j+1)) off' ok'):Qgo (YO K M) P ((fieldsOf P t).drop j) off (fun y=>ok y.1∧ok' y.2):=by
 obtain⟨f,h1,rfl,rfl⟩:=Qgp hf
 rw[drop_at h1]
 exact Qn9 h rfl hc ho' hs
theorem Qee{t ft:TypeId}{off n:Nat}(j:Nat)(hn:Qk6 P t (j+1)=true)(hf:Qk5 P t j ft off=true)(h:Qed K P ft ok)(hc:P.cellsOf ft=K.n):Qgo K P ((fieldsOf P t).drop j) off ok:=by
 obtain⟨f,h1,rfl,rfl⟩:=Qgp hf
 obtain⟨_,h2⟩:=Qgq hn
 rw[drop_at h1,List.drop_of_length_le (by omega)]
 exact QqD h rfl hc
theorem Qf0{t:TypeId}{n:Nat}{f:β→α}(inv:α→β)(hi:∀y,f (inv y)=y)(ht:Qk6 P t n=true)(hc:P.cellsOf t=K.n)(h:Qgo K P ((fieldsOf P t).drop 0) 0 ok)(hok:∀y,ok y→ok' (inv y)):Qed (Qbc f K) P t ok':=
 QmF inv hi (Qgq ht).1 hc (by rw[List.drop_zero]at h;exact h) hok
def aggT(P:Program)(t:TypeId):Bool:=match P.underlying t with|some (.struct _)=>true|some (.array _ _)=>true|_=>false
variable {H:Type}{enc:TypeId×Value→H}{W:World}{r:Reach}{b0:Nat}{v:Value}{d:DataW H}{ps:List MemPlace}
theorem Qs9{t:TypeId}{k:IntKind}(ht:P.underlying t=some (.int k))(hval:Value.okWide P W r b0 t v)(hd:DataW.Trod enc P W 0 (fun _=>true) true t v d ps):∃n,v= .int k n∧inR k n:=by
 obtain⟨n,rfl,_,_,hw⟩:=open_int ht hval hd
 exact⟨n,rfl,Qs8.1 hw⟩
theorem QmG{t e:TypeId}(ht:P.underlying t=some (.slice e))(hn:P.cellsOf e=K.n)(he:Qed K P e ok)(hval:Value.okWide P W r b0 t v)(hd:DataW.Trod enc P W 0 (fun _=>true) true t v d ps):
  ∃(A:Option Addr) (cap:Nat) (l:List α),v= .slice A l.length cap∧Sl K (Qi9 W) A cap l∧l.length≤maxLen∧∀y∈l,ok y:=by
 obtain⟨a,len,cap,rfl⟩:=okWide_slice ht hval
 obtain⟨fuel,hf⟩:=hd
 obtain⟨y,⟨A,c,hy,hs⟩,ho⟩:=Qcc ht hn he H enc W fuel _ _ hf
 have:(Value.slice a len cap)= .slice A y.length c:=by simpa[Value.cells] using hy
 exact⟨A,c,y,this,hs,ho⟩
theorem Qta{t:TypeId}(ho:Qed K P t ok)(hagg:aggT P t=true)(hval:Value.okWide P W r b0 t v)(hd:DataW.Trod enc P W 0 (fun _=>true) true t v d ps):
  ∃(y:α) (cs:List Value),v= .agg cs.toArray∧K.r (Qi9 W) y cs∧ok y:=by
 obtain⟨fuel,hf⟩:=hd
 have hv:∃cs,v= .agg cs:=by
  unfold aggT at hagg
  split at hagg
  ·rename_i hu;obtain⟨cs,h,_⟩:=okWide_struct hu hval;exact⟨cs,h⟩
  ·rename_i hu;simp only[Value.okWide,hu]at hval;obtain⟨cs,h1,_⟩:=hval;exact⟨cs,h1⟩
  ·cases hagg
 obtain⟨cs,rfl⟩:=hv
 obtain⟨y,hy,ho⟩:=ho H enc W fuel _ _ hf
 exact⟨y,cs.toList,by simp,by simpa[Value.cells] using hy,ho⟩
end
theorem trodAll_cons{H:Type}{enc:TypeId×Value→H}{P:Program}{w:World}{b:Nat}{sp:Nat→Bool}{hd:Bool}{t:TypeId}{ts:List TypeId}{vs:List Value}{ds:List (DataW H)}{ps:List MemPlace}
  (h:DataW.TrodAll enc P w b sp hd (t::ts) vs ds ps):∃v vs' d ds' p q,vs=v::vs'∧ds=d::ds'∧ps=p++q∧DataW.Trod enc P w b sp hd t v d p∧DataW.TrodAll enc P w b sp hd ts vs' ds' q:=by
 match vs,ds,h with
 |v::vs,d::ds,h=>
  obtain⟨p,q,h1,h2,h3⟩:=h
  exact⟨v,vs,d,ds,p,q,rfl,rfl,h3,h1,h2⟩
theorem trodAll_nil{H:Type}{enc:TypeId×Value→H}{P:Program}{w:World}{b:Nat}{sp:Nat→Bool}{hd:Bool}{vs:List Value}{ds:List (DataW H)}{ps:List MemPlace}
  (h:DataW.TrodAll enc P w b sp hd [] vs ds ps):vs= []∧ds= []∧ps= []:=by
 match vs,ds,h with
 | [], [],h=>exact⟨rfl,rfl,h⟩
theorem QxC{args:Array Value}{l:List Value}(h:args.toList=l):args=l.toArray:=by subst h;simp
def Qtb(P:Program)(ts:List TypeId):Bool:=ts.all fun t=>P.readableRec t&&decide (t<P.types.size)
theorem Qk7{H:Type}{enc:TypeId×Value→H}{P:Program}(hl:laidOutB P=true){W W':World}(hb:Below W.heap.size W W'):∀{ts:List TypeId} {vs:List Value} {ds:List (DataW H)} {ps:List MemPlace},
  Qtb P ts=true→(∀x∈ps,x.block<W.heap.size)→DataW.TrodAll enc P W 0 (fun _=>true) true ts vs ds ps→DataW.TrodAll enc P W' 0 (fun b=>decide (b<W.heap.size)) true ts vs ds ps:=by
 intro ts
 induction ts with
 |nil=>
  intro vs ds ps _ _ h
  obtain⟨rfl,rfl,rfl⟩:=trodAll_nil h
  exact rfl
 |cons t ts ih=>
  intro vs ds ps ht hlt h
  obtain⟨v,vs,d,ds,p,q,rfl,rfl,rfl,h1,h2⟩:=trodAll_cons h
  simp only[Qtb,List.all_cons,Qd,decide_eq_true_eq]at ht
  exact⟨p,q,Below.trod hl ht.1.1 ht.1.2 h1 hb (fun x hx=>hlt x (List.mem_append_left _ hx)),ih ht.2 (fun x hx=>hlt x (List.mem_append_right _ hx)) h2,rfl⟩
theorem QqE{H:Type}{enc:TypeId×Value→H}{P:Program}{f:Func}{s:ChangeSpec}{apart fresh:Bool}{W W':World}{args:Array Value}{v:Value}{ds gs:List (DataW H)}{before:List MemPlace}
  (hW:DataW.Whole enc P f.params.toList s.vars apart W args.toList ds gs before) (hv:s.vars= []) (hl:laidOutB P=true) (ht:Qtb P f.params.toList=true)
  (hargs:(s.fn H (ds++gs)).args=ds) (hvs:(s.fn H (ds++gs)).vars= [])
  (hres:∀(b:Nat) (sp:Nat→Bool) (hd:Bool),DataW.TrodAll enc P W' b sp hd f.resultTypes.toList (v.resultList f.resultTypes.size) (s.fn H (ds++gs)).results [])
  (hb:Below W.heap.size W W'):s.post enc P f apart fresh false false W args v W':=by
 have hlt:=hW.lt
 have hW0:=hW
 obtain⟨p,q,hA,hV,rfl,_,_⟩:=hW
 refine⟨ds,gs,p++q, [],p, [],hW0,hres _ _ _,?_,?_,hb.frame _,fun h=>by cases h⟩
 ·rw[hargs]
  exact Qk7 hl hb ht (fun x hx=>by simpa using hlt x (List.mem_append_left _ hx)) hA
 ·rw[hvs,hv];exact rfl
theorem st_start(W:World):St W W (Qi9 W) []:=⟨rfl,rfl,rfl,fun _ o h=>⟨o,h,QcE o⟩,fun _ _ h=>absurd h List.not_mem_nil,List.nodup_nil⟩
theorem Qtc{W w':World}{D1:Snap}{L':List Blk}(h:Stp W W (Qi9 W) [] w' D1 L'):Below W.heap.size W w':=
 ⟨h.st.os,h.st.tape,h.st.output,h.size,fun k hk=>h.keep k hk List.not_mem_nil⟩
theorem QxD{P:Program}{w:World}:∀{l:List (String×DataW Unit)} {ps:List MemPlace} {nm:String} {d:DataW Unit},DataW.LaidVars P w l ps→(nm,d)∈l→
  ∃g t cs fuel p,P.globalNamed nm=some g∧(P.globals[g]?).map (·.type)=some t∧w.var? P nm=some cs∧DataW.trod (fun _=>()) P w 0 (fun _=>true) false fuel t cs.toList=some (d,p):=by
 intro l
 induction l with
 |nil=>intro ps nm d _ h;cases h
 |cons x l ih=>
  rintro ps nm d ⟨g,t,cs,fuel,p,q,h1,h2,h3,h4,h5,_⟩ hm
  rcases List.mem_cons.1 hm with rfl|hm
  ·exact⟨g,t,cs,fuel,p,h1,h2,h3,h4⟩
  ·exact ih h5 hm
theorem QmH{P:Program}{w:World}{l:List (String×DataW Unit)}{g:Nat}{t e:TypeId}{k:IntKind}{N:Nat}{v:Vector Int N}(nm:String){d:DataW Unit}(hl:laidMetH P l w)(hp:(l.all fun x=>x.2.handleName?.isNone)=true)(hm:(nm,d)∈l)
  (gn:P.globalNamed nm=some g) (gt:(P.globals[g]?).map (·.type)=some t) (ht:P.underlying t=some (.array N e)) (he:P.underlying e=some (.int k)) (hc:P.cellsOf e=1) (hct:P.cellsOf t=N)
  (hd:d= .agg ((Yh v).map fun n=> .lit (.int k n))):Cell (ZE k N) (Qi9 w) g 0 v:=by
 rw[MakeChecks.laidMetH_plain _ _ _ hp]at hl
 obtain⟨ps,hv,_⟩:=hl
 obtain⟨g',t',cs,fuel,p,h1,h2,h3,h4⟩:=QxD hv hm
 obtain rfl:=Option.some.inj (gn.symm.trans h1)
 obtain rfl:=Option.some.inj (gt.symm.trans h2)
 obtain⟨xs,m,_,hx1,hlen,hn,hel⟩:=DataW.trod_array ht h4
 rw[hct]at hlen
 simp only[Qe]at hx1
 rw[hd,DataW.agg.injEq]at hx1
 have hx1:=hx1.1
 have each:∀i,i<N→cs[i]?=some (.int k (vget v i)):=by
  intro i hi
  have h5:=hel i hi
  have hxi:i<xs.length:=by omega
  rw[List.getElem?_eq_getElem hxi,hc,Nat.mul_one]at h5
  have hcs:i<cs.toList.length:=by omega
  have e5:(cs.toList.drop i).take 1= [cs.toList[i]]:=by
   rw[List.drop_eq_getElem_cons hcs];rfl
  rw[e5]at h5
  obtain⟨n,hn1,hn2,_⟩:=DataW.trod_int he h5
  have h6:(xs.map (·.1))[i]?=((Yh v).map fun n=>(DataW.lit (.int k n):DataW Unit))[i]?:=by rw[hx1]
  rw[List.getElem?_map,List.getElem?_map,List.getElem?_eq_getElem hxi,hn2]at h6
  have hvi:(Yh v)[i]?=some (vget v i):=by simp[Yh,hi]
  rw[hvi]at h6
  simp only[Option.map_some,Qa,DataW.lit.injEq,Lit.int.injEq]at h6
  have h7:cs.toList[i]= .int k n:=by simpa using hn1
  have h8:cs.toList[i]?=some (.int k n):=by rw[List.getElem?_eq_getElem hcs,h7]
  rw[h6.2]at h8
  simpa using h8
 simp only[World.var?,gn,Qb]at h3
 split at h3
 ·rename_i C T fr hb
  cases h3
  refine⟨Yj k N v,cs,T,fr,rfl,hb,fun j u hu=> ?_⟩
  simp only[Yj,List.getElem?_map]at hu
  by_cases hj:j<N
  ·rw[List.getElem?_range hj]at hu
   simp only[Option.map_some]at hu
   rw[Nat.zero_add,each j hj,hu]
  ·rw[List.getElem?_eq_none (by simp;omega)]at hu
   cases hu
 ·cases h3
end Go.Sep
namespace Go.Proofs.YtomndohdnfebgaaGreatDoor
open Go Go.Sep
theorem jC(n:Int):isB (numW n):=Qk0 _
theorem Qu1{α:Type}{p:α→List Int}{l:List α}(h:∀x∈l,isB (p x)):isB (l.map p).flatten:=by
 intro b hb
 obtain⟨m,hm,hb⟩:=List.mem_flatten.1 hb
 obtain⟨x,hx,rfl⟩:=List.mem_map.1 hm
 exact h x hx b hb
theorem Qk8(b:Bool):isB [Qa5 b]:=by
 intro x hx
 rw[List.mem_singleton]at hx
 subst hx
 exact Qxq b
theorem Qtd{k:Int}{x:Rc}(h:okB x):isB (Zg k x):=by
 unfold Zg
 have hc:isB (Qim x):=by
  unfold Qim
  simp only[Jf]
  exact⟨jC _,jC _,jC _,jC _,Qk8 _⟩
 split
 ·simp only[Jf,QaN,Qxy]
  refine⟨jC _,⟨Qk0 _,Qu1 (fun s _=>by unfold stepW;exact Jf.2 ⟨jC _,jC _⟩)⟩,Qk8 _,?_⟩
  cases x.fGone
  ·exact Jf.2 ⟨h.salt,Jf.2 ⟨Qk0 _,h.data⟩⟩
  ·exact h.com
 ·split
  ·exact hc
  ·split
   ·simp only[Jf]
    exact⟨hc,Qk8 _,jC _,jC _,h.tag⟩
   ·split
    ·simp only[Jf]
     exact⟨jC _,jC _,jC _⟩
    ·simp only[Jf]
     exact⟨jC _,jC _⟩
theorem Qte{x:Rc}(h:okB x):isB (Qqw x):=Jf.2 ⟨jC _,Qtd h⟩
theorem Qe8{x:Bun}(h:Qn8 x):Qy8 x:=by
 have hi:=h.items
 unfold Qcb at hi
 refine⟨h.root,fun s hs=>(h.sigs.2 s hs).2,fun y hy=> ?_,fun y hy z hz=> ?_⟩
 ·cases hw:x.fWhole with
  |true=>
   rw[hw]at hi
   obtain⟨j,hj⟩:=List.getElem?_of_mem hy
   exact(hi.2.2 j y hj).1.2
  |false=>rw[hw]at hi;exact(hi.2 y hy).2.1.2
 ·cases hw:x.fWhole with
  |true=>
   rw[hw]at hi
   obtain⟨j,hj⟩:=List.getElem?_of_mem hy
   have:=(hi.2.2 j y hj).2
   rw[←this]at hz
   cases hz
  |false=>rw[hw]at hi;exact(hi.2 y hy).2.2.2 z hz
theorem Qwg{b:List Int}(hb:isB b)(hl:b.length<1000000000)(h:(getS b).2=0):b=mark++bunW (getS b).1∧Qn8 (getS b).1∧Qe6 (getS b).1=true:=by
 unfold getS at h⊢
 split
 ·rename_i hm
  rw[if_pos hm]at h
  have hg:Good ⟨b.drop 4,0⟩:=Good.drop (b:=b) (e:=0) ⟨hb,hl⟩ 4
  have hs:=QmB.back ⟨b.drop 4,0⟩ hg
  generalize bunR ⟨b.drop 4,0⟩=t at h hs
  obtain⟨x,r⟩:=t
  unfold endS at h⊢
  simp only at h hs⊢
  by_cases h1:r.fBad=0
  ·simp only[h1,ne_eq,not_true_eq_false,if_false]at h⊢
   by_cases h2:r.fB= []
   ·simp only[h2,if_true,not_true_eq_false,if_false]at h⊢
    cases h3:Qe6 x with
    |true=>
     simp only[if_true]
     obtain⟨_,e,o⟩:=hs h1
     refine⟨?_,o,h3⟩
     rw[h2,List.append_nil]at e
     rw[←e,←hm,List.take_append_drop]
    |false=>simp[h3]at h
   ·simp[h2]at h
  ·simp[h1]at h
 ·rename_i hm
  rw[if_neg hm]at h
  simp at h
theorem Qk9{Y R:Type}{L:Nat→Y→Option R}(I:Nat→Y→Prop)(h0:∀k y,I 0 y→∃r,L (k+1) y=some r)
  (hs:∀k n y,I (n+1) y→∃y',I n y'∧L (k+1) y=L k y'):∀(n:Nat) (y:Y) (k:Nat),I n y→n<k→∃r,L k y=some r:=by
 intro n
 induction n with
 |zero=>
  intro y k hi hk
  obtain⟨k,rfl⟩:∃j,k=j+1:=⟨k-1,by omega⟩
  exact h0 k y hi
 |succ n ih=>
  intro y k hi hk
  obtain⟨k,rfl⟩:∃j,k=j+1:=⟨k-1,by omega⟩
  obtain⟨y',h1,h2⟩:=hs k n y hi
  rw[h2]
  exact ih y' k h1 (by omega)
theorem Qla{α β:Type}{o:Option α}{x:α}{f:α→Option β}(h:o=some x)(h2:∃r,f x=some r):∃r,o.bind f=some r:=by rw[h];exact h2
theorem Qv{α β:Type}{o:Option α}{x:α}{f:α→Option β}{P:β→Prop}(h:o=some x)(h2:∃r,f x=some r∧P r):∃r,o.bind f=some r∧P r:=by rw[h];exact h2
theorem YB{N i:Nat}(h:i<N):inA N (i:Int)=true:=by
 unfold inA
 rw[QK (by omega),QK (by omega)];rfl
theorem QmI{K:Nat}(x:Int):(∃r,ZJ.f K x 17 19 10=some r)∧(∃r,ZJ.f K x 7 18 3=some r):=⟨⟨_,rfl⟩,⟨_,rfl⟩⟩
theorem QjM{K:Nat}(x:Int):(∃r,XK.f K x 6 11 25=some r)∧(∃r,XK.f K x 2 13 22=some r):=⟨⟨_,rfl⟩,⟨_,rfl⟩⟩
theorem JF{α:Type}{l:List α}{i:Nat}(h:i<l.length):∃x,getI l (i:Int)=some x:=⟨l[i],by rw[Jz,List.getElem?_eq_getElem h]⟩
theorem QmJ{K:Nat}(hK:100<K){b:List Int}(hb:b.length=64):∃w,X5.f K b=some w:=by
 unfold X5.f
 have:=Qk9 (L:=Yk.l K b) (fun n y=>∃i:Nat,y.1=(i:Int)∧i+n=64)
  (fun k y ⟨i,hy,hi⟩=>by
   obtain⟨y1,y2⟩:=y
   simp only at hy
   subst hy
   refine⟨y2,?_⟩
   show Yk.b K b (Yk.l K b k) _=_
   unfold Yk.b
   rw[Qi (QE (by simp only;omega))])
  (fun k n y ⟨i,hy,hi⟩=>by
   obtain⟨y1,y2⟩:=y
   simp only at hy
   subst hy
   show ∃y',_∧Yk.b K b (Yk.l K b k) _=_
   unfold Yk.b
   try simp only[jn]
   rw[Qj (QK (by omega)),wrap_succ (by omega)]
   by_cases h16:(i:Int)<16
   ·rw[Qj (QK h16)]
    have w4:IntKind.wrap .i64 (4*(i:Int))=((4*i:Nat):Int):=by rw[wrap64 (by omega) (by omega)];push_cast;rfl
    have wj:∀j:Nat,j<4→IntKind.wrap .i64 (((4*i:Nat):Int)+(j:Int))=((4*i+j:Nat):Int):=fun j hj=>by rw[wrap64 (by omega) (by omega)];push_cast;rfl
    obtain⟨x0,e0⟩:=JF (l:=b) (i:=4*i) (by omega)
    obtain⟨x1,e1⟩:=JF (l:=b) (i:=4*i+1) (by omega)
    obtain⟨x2,e2⟩:=JF (l:=b) (i:=4*i+2) (by omega)
    obtain⟨x3,e3⟩:=JF (l:=b) (i:=4*i+3) (by omega)
    rw[w4,e0]
    try simp only[Qb]
    rw[show(1:Int)=((1:Nat):Int) by rfl,wj 1 (by omega),e1]
    try simp only[Qb]
    rw[show(2:Int)=((2:Nat):Int) by rfl,wj 2 (by omega),e2]
    try simp only[Qb]
    rw[show(3:Int)=((3:Nat):Int) by rfl,wj 3 (by omega),e3]
    simp only[Qb,chk]
    rw[Qj (YB (by omega))]
    exact⟨(_,_),⟨i+1,rfl,by omega⟩,rfl⟩
   ·rw[Qi (QE h16)]
    have wj:∀j:Nat,j≤16→IntKind.wrap .i64 ((i:Int)-(j:Int))=((i-j:Nat):Int):=fun j hj=>by rw[wrap64 (by omega) (by omega)];omega
    have h2:=wj 2 (by omega)
    have h7:=wj 7 (by omega)
    have h15:=wj 15 (by omega)
    have h16':=wj 16 (by omega)
    simp only[Int.cast_ofNat_Int]at h2 h7 h15 h16'
    rw[h2,h7,h15,h16']
    simp only[chk]
    rw[Qj (YB (by omega)),Qj (YB (by omega)),Qj (YB (by omega)),Qj (YB (by omega))]
    obtain⟨r1,e1⟩:=(QmI (K:=K) (vget y2 (Int.toNat ((i-2:Nat):Int)))).1
    obtain⟨r2,e2⟩:=(QmI (K:=K) (vget y2 (Int.toNat ((i-15:Nat):Int)))).2
    rw[e1]
    try simp only[Qb]
    rw[e2]
    try simp only[Qb]
    rw[Qj (YB (by omega))]
    exact⟨(_,_),⟨i+1,rfl,by omega⟩,rfl⟩)
  64 (0,Vector.replicate 64 0) K ⟨0,rfl,rfl⟩ (by omega)
 obtain⟨w,hw⟩:=this
 rw[hw]
 exact⟨w,rfl⟩
theorem Qu2{K:Nat}(hK:100<K)(h:Vector Int 8){b:List Int}(hb:b.length=64):∃r,Qdy.f K h b=some r:=by
 unfold Qdy.f
 rw[Qi (by simp[hb])]
 obtain⟨w,hw⟩:=QmJ hK hb
 rw[hw]
 try simp only[Qb]
 have h1:=Qk9 (L:=YY.l K w) (fun n y=>∃i:Nat,y.1=(i:Int)∧i+n=64)
  (fun k y ⟨i,hy,hi⟩=>by
   obtain⟨y1,y2⟩:=y
   simp only at hy
   subst hy
   refine⟨y2,?_⟩
   show YY.b K w (YY.l K w k) _=_
   unfold YY.b
   rw[Qi (QE (by simp only;omega))])
  (fun k n y ⟨i,hy,hi⟩=>by
   obtain⟨y1,y2⟩:=y
   simp only at hy
   subst hy
   show ∃y',_∧YY.b K w (YY.l K w k) _=_
   unfold YY.b
   rw[Qj (QK (by simp only;omega))]
   obtain⟨x,ex⟩:=JF (l:=Yh w) (i:=i) (by rw[QX];omega)
   obtain⟨r1,e1⟩:=(QjM (K:=K) (vget y2 (Int.toNat 4))).1
   obtain⟨r2,e2⟩:=(QjM (K:=K) (vget y2 (Int.toNat 0))).2
   simp only
   rw[ex]
   simp only[Qb,chk]
   rw[Qj (YB (by omega)),e1]
   try simp only[Qb]
   rw[e2]
   try simp only[Qb]
   rw[wrap_succ (by omega)]
   exact⟨(_,_),⟨i+1,rfl,by omega⟩,rfl⟩)
  64 (0,h) K ⟨0,rfl,rfl⟩ (by omega)
 obtain⟨z,hz⟩:=h1
 rw[hz]
 try simp only[Qb]
 have h2:=Qk9 (L:=YZ.l K z) (fun n y=>∃i:Nat,y.1=(i:Int)∧i+n=8)
  (fun k y ⟨i,hy,hi⟩=>by
   obtain⟨y1,y2⟩:=y
   simp only at hy
   subst hy
   refine⟨y2,?_⟩
   show YZ.b K z (YZ.l K z k) _=_
   unfold YZ.b
   rw[Qi (QE (by simp only;omega))])
  (fun k n y ⟨i,hy,hi⟩=>by
   obtain⟨y1,y2⟩:=y
   simp only at hy
   subst hy
   show ∃y',_∧YZ.b K z (YZ.l K z k) _=_
   unfold YZ.b
   rw[Qj (QK (by simp only;omega))]
   simp only[Qb,chk]
   rw[Qj (YB (by omega)),Qj (YB (by omega)),Qj (YB (by omega)),wrap_succ (by omega)]
   exact⟨(_,_),⟨i+1,rfl,by omega⟩,rfl⟩)
  8 (0,h) K ⟨0,rfl,rfl⟩ (by omega)
 obtain⟨r,hr⟩:=h2
 rw[hr]
 exact⟨r,rfl⟩
theorem Qu3{K:Nat}(hK:100<K){n:Nat}(hn:n<1000000000):∃r:List Int,Qeu.f K (n:Int)=some r∧r.length<200:=by
 unfold Qeu.f
 rw[Qi (QE (by omega))]
 have h1:∃r,qh.l K (n:Int) K [128]=some r∧r.length<100:=by
  have key:∀(m:Nat) (out:List Int) (k:Nat),out.length+m≤65→(n+out.length+m)%64=56→m<k→∃r,qh.l K (n:Int) k out=some r∧r.length<100:=by
   intro m
   induction m with
   |zero=>
    intro out k ho hm hk
    obtain⟨k,rfl⟩:∃j,k=j+1:=⟨k-1,by omega⟩
    refine⟨out,?_,by omega⟩
    show qh.b K (n:Int) (qh.l K (n:Int) k) _=_
    unfold qh.b
    rw[wrap64 (by omega) (by omega)]
    have:Int.tmod ((n:Int)+(out.length:Int)) 64=((n+out.length)%64:Nat):=rfl
    rw[this,Qi (by simp;omega)]
   | succ m ih=>
    intro out k ho hm hk
    obtain⟨k,rfl⟩:∃j,k=j+1:=⟨k-1,by omega⟩
    show ∃r,qh.b K (n:Int) (qh.l K (n:Int) k) _=_∧_
    unfold qh.b
    rw[wrap64 (by omega) (by omega)]
    have:Int.tmod ((n:Int)+(out.length:Int)) 64=((n+out.length)%64:Nat):=rfl
    rw[this]
    by_cases hc:(n+out.length)%64=56
    ·rw[Qi (by simp;omega)]
     exact⟨out,rfl,by omega⟩
    ·rw[Qj (by simp;omega),YX (by simp;omega)]
     try simp only[Qb]
     exact ih (out++ [0]) k (by simp;omega) (by simp;omega) (by omega)
  exact key ((56+64*20000000-(n+1))%64) [128] K (by simp;omega) (by simp;omega) (by omega)
 obtain⟨z,hz,hzl⟩:=h1
 rw[hz]
 try simp only[Qb]
 have key:∀(m:Nat) (out:List Int) (k:Nat),m≤8→out.length+m<200→m<k→∃r,qH.l K (n:Int) k (out,(m:Int)-1)=some r∧r.length<200:=by
  intro m
  induction m with
  |zero=>
   intro out k _ ho hk
   obtain⟨k,rfl⟩:∃j,k=j+1:=⟨k-1,by omega⟩
   refine⟨out,?_,by omega⟩
   show qH.b K (n:Int) (qH.l K (n:Int) k) (out,((0:Nat):Int)-1)=some out
   unfold qH.b
   rw[Qi (QE (by simp))]
  |succ m ih=>
   intro out k h8 ho hk
   obtain⟨k,rfl⟩:∃j,k=j+1:=⟨k-1,by omega⟩
   show ∃r,qH.b K (n:Int) (qH.l K (n:Int) k) (out,((m+1:Nat):Int)-1)=some r∧r.length<200
   unfold qH.b
   rw[Qj (QK (by simp only;omega))]
   simp only[chk]
   rw[wrap64 (n:=8*(((m+1:Nat):Int)-1)) (by omega) (by omega),Qj (by simp;omega),YX (by simp;omega)]
   try simp only[Qb]
   rw[wrap64 (by omega) (by omega)]
   have:(((m+1:Nat):Int)-1-1)=(m:Int)-1:=by omega
   rw[this]
   exact ih _ k (by omega) (by simp;omega) (by omega)
 obtain⟨r,hr,hrl⟩:=key 8 z K (by omega) (by omega) (by omega)
 have e7:(((8:Nat):Int)-1)=7:=by decide
 rw[e7]at hr
 rw[hr]
 exact⟨r,rfl,hrl⟩
theorem Qu4{K:Nat}(hK:1000000000000≤K){x:List (List Int)}(hx:x.length<1000)(hl:x.flatten.length<1000000):∃r,Qft.f K x=some r∧∀j,j<32→0≤vget r j∧vget r j<256:=by
 unfold Qft.f Qfs.f
 have hc:QS.f K x=some x.flatten:=by
  have:=QdY (K:=K) (x:=x) hK (by omega) (by omega)
  unfold Ju.f at this
  cases h:QS.f K x with
  |none=>rw[h]at this;cases this
  |some y=>rw[h]at this;exact this
 obtain⟨f,hf,hfl⟩:=Qu3 (K:=K) (n:=x.flatten.length) (by omega) (by omega)
 refine Qv hc ?_
 refine Qv hf ?_
 refine Qv (YX (by omega)) ?_
 try simp only[Qb]
 have key:∀(n:Nat) (y:Vector Int 8×List Int) (k:Nat),y.2.length≤n→n<k→y.2.length<2000000→∃r,qg.l K k y=some r:=by
  intro n
  induction n using Nat.strongRecOn with
  | _ n ih=>
   intro y k hy hk hb
   obtain⟨k,rfl⟩:∃j,k=j+1:=⟨k-1,by omega⟩
   obtain⟨y1,y2⟩:=y
   simp only at hy hb
   show ∃r,qg.b K (qg.l K k) _=_
   unfold qg.b
   by_cases h64:64≤y2.length
   ·rw[Qj (QK (by simp only;omega))]
    simp only
    have s1:=Qaz (l:=y2) (b:=64) (by omega)
    have s2:=XV (l:=y2) (a:=64) (by omega)
    simp only[Int.cast_ofNat_Int]at s1 s2
    refine Qla s1 ?_
    obtain⟨t,ht⟩:=Qu2 (K:=K) (by omega) y1 (b:=y2.take 64) (by simp;omega)
    refine Qla ht ?_
    refine Qla s2 ?_
    exact ih (n-64) (by omega) _ k (by simp;omega) (by omega) (by simp;omega)
   ·rw[Qi (QE (by simp only;omega))]
    exact⟨_,rfl⟩
 obtain⟨z,hz⟩:=key (x.flatten++f).length (Zm,x.flatten++f) K (Nat.le_refl _) (by simp at*;omega) (by simp at*;omega)
 refine Qv hz ?_
 have key2:∀(n i:Nat) (v:Vector Int 32) (k:Nat),i+n=32→n<k→(∀j,j<32→0≤vget v j∧vget v j<256)→∃r,Y6.l K z k ((i:Int),v)=some r∧∀j,j<32→0≤vget r j∧vget r j<256:=by
  intro n
  induction n with
  |zero=>
   intro i v k hi hk hv
   obtain⟨k,rfl⟩:∃j,k=j+1:=⟨k-1,by omega⟩
   refine⟨v,?_,hv⟩
   show Y6.b K z (Y6.l K z k) _=_
   unfold Y6.b
   rw[Qi (QE (by simp only;omega))]
  | succ n ih=>
   intro i v k hi hk hv
   obtain⟨k,rfl⟩:∃j,k=j+1:=⟨k-1,by omega⟩
   show ∃r,Y6.b K z (Y6.l K z k) _=_∧_
   unfold Y6.b
   rw[Qj (QK (by simp only;omega))]
   have e1:Int.tdiv (i:Int) 4=((i/4:Nat):Int):=rfl
   have e2:Int.tmod (i:Int) 4=((i%4:Nat):Int):=rfl
   simp only[chk]
   rw[e1,e2,wrap64 (n:=((i/4:Nat):Int)) (by omega) (by omega),Qj (YB (by omega)),wrap64 (n:=8*((i%4:Nat):Int)) (by omega) (by omega),wrap64 (n:=24-8*((i%4:Nat):Int)) (by omega) (by omega),Qj (by simp;omega),Qj (YB (by omega)),wrap_succ (by omega)]
   try simp only[Qb]
   refine ih (i+1) _ k (by omega) (by omega) (fun j hj=> ?_)
   rw[X4 _ _ hj]
   split
   ·simp only[IntKind.wrap,IntKind.bits,IntKind.signed]
    simp
    omega
   ·exact hv j hj
 obtain⟨r,hr,hrr⟩:=key2 32 0 (Vector.replicate 32 0) K (by omega) (by omega) (fun j hj=>by
  have hz0:∀j,j<32→vget (Vector.replicate 32 (0:Int)) j=0:=by decide
  have:=hz0 j hj
  omega)
 have hr:Y6.l K z K (0,Vector.replicate 32 0)=some r:=hr
 obtain⟨r',h',hp⟩:∃r',((Y6.l K z K (0,Vector.replicate 32 0)).bind fun(z844:Vector Int 32)=>some z844)=some r'∧∀j,j<32→0≤vget r' j∧vget r' j<256:=⟨r,by rw[hr];rfl,hrr⟩
 exact⟨r',h',hp⟩
theorem Qdn{K:Nat}(hK:1000000000000≤K){x:List (List Int)}(hx:x.length<1000)(hl:x.flatten.length<1000000):∃r,shaQ.f K x=some r∧∀j,j<32→0≤vget r j∧vget r j<256:=by
 rw[Qrw]
 exact Qu4 hK hx hl
end Go.Proofs.YtomndohdnfebgaaGreatDoor
