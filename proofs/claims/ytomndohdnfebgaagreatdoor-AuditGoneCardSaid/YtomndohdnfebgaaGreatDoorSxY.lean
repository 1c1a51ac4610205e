/-
 Symbolic execution: two activations, a loop over a function.
-/
import Derived.Test.YtomndohdnfebgaaGreatDoorSxV
set_option linter.unusedVariables false
set_option linter.unusedSimpArgs false
namespace Go.Sep
section
variable {T:Tb}{C:Cx T}{ct:Ct}{ρ:Rho}{D:Snap}{Lv R:List Blk}{s:SS T}{a:Act}{w:World}{rd:Option Nat}
def exK:Ke→Exit
 | .nm=> .normal
 | .rt=> .ret
 | .ex i=> .exit i
 | .pn x e=> .panic [{v:=pvV x e,recovered:=false}]
def Wh(c:Code)(h:Hn):Nat:=wrM c|||hM h
def CdOk(f:(α:Type)→Cx T→Code→Hn→SS T→(Ke→SS T→Option α)→Option α)(c:Code):Prop:=∀{C:Cx T} {ct:Ct} {rd:Option Nat} (_:QcW C ct) (_:rd=none∨C.Y=none∧C.rg=false) (h:Hn) (s:SS T) {α:Type} (k:Ke→SS T→Option α) (r:α) (Q:Exit→Act→World→Prop) (a:Act) (w:World),
 f α C c h s k=some r→RS ct s a w→(∀e s' a' w',XE (Wh c h) s s'→k e s'=some r→RS ct s' a' w'→Q (exK e) a' w')→c.wpIn (Fw rd) 0 C.P Q a w
def Susp(E:List (Nat×SV T))(ts:Array Value)(ρ:Rho)(D:Snap):Prop:=∀t sv,lookA E t=some sv→∃v,ts[t]?=some v∧RV ρ D sv v
theorem Susp.mono{E:List (Nat×SV T)}{ts:Array Value}{ρ ρ':Rho}{D D':Snap}(h:Susp E ts ρ D)(hr:ρ.le ρ')(hd:D.le D'):Susp E ts ρ' D':=fun t sv hl=>by
 obtain⟨v,h1,h2⟩:=h t sv hl
 exact⟨v,h1,JL hr hd h2⟩
theorem QvS{sv:SV T}{v:Value}(h:RV ρ D sv v):∀b∈QbV sv,ρ b≠none:=fun b hb=>by
 unfold RV at h
 cases ha:agS sv with
 |true=>rw[ha]at h;obtain⟨c1,h3,_⟩:=h;exact QdU sv false c1 h3 b hb
 |false=>rw[ha]at h;exact QdU sv false [v] h b hb
theorem RSx.enter(h:RSx ct ρ D Lv R s a w){n2:Nat}{fr2:Frm}{E2:List (Nat×SV T)}{a2:Act}{w2:World}{R2:List Blk}{m2:Md T}(ho:∀t sv,lookA m2.O t=some sv→∀b∈QbV sv,ρ b≠none)(hsz:a2.tmps.size=n2)(hds:a2.defers= [])(he:Susp E2 a2.tmps ρ D)(hst:Stp ct.g ct.w0 ct.D0 ct.L0 w2 D (Lv++R2))(hfr:fr2.p m2.m D a2 R2):
  RSx {n:=n2,ds:= [],g:=ct.g,w0:=ct.w0,D0:=ct.D0,L0:=ct.L0,rb:=ρ,fr:=fr2,ini:=ct.ini,nb:=s.nx} ρ D Lv R2 {E:=E2,L:=s.L,nx:=s.nx,md:=m2} a2 w2:=
 ⟨Rho.le.refl _,h.dom,h.ver,h.nd,hsz,⟨[],hds,.inl rfl,List.nodup_nil,fun _ h=>by cases h⟩,he,h.l,hst,hfr,h.ini.mv (Rho.le.refl _) h.st.st hst.st fun id b p hp hl=>by
  obtain⟨X,q,Y,e6,k1,_⟩:=qJ h.l hl
  exact⟨hl,q,D,k1,by rw[e6];simp,by rw[e6];simp⟩,⟨Nat.le_refl _,fun _ _ h=>h⟩,ho⟩
theorem RSx.leave{ct2:Ct}{ρ':Rho}{D':Snap}{Lv' R' R2:List Blk}{s':SS T}{a' a2:Act}{w' w2:World}(h:RSx ct ρ D Lv R s a w)(h2:RSx ct2 ρ' D' Lv' R' s' a' w')(hg:ct2.g=ct.g)(hw:ct2.w0=ct.w0)(hD:ct2.D0=ct.D0)(hL:ct2.L0=ct.L0)(hi:ct2.ini=ct.ini)(hr:ρ.le ct2.rb)(hrn:∀i,i<s.nx→ρ i=none→ct2.rb i=none)(hnb:s.nx≤ct2.nb)
  (hsz:a2.tmps.size=ct.n) (hds:DsOk ct a2.defers R2) (he:Susp s.E a2.tmps ct2.rb D') (hst:Stp ct.g ct.w0 ct.D0 ct.L0 w2 D' (Lv'++R2)) (hfr:ct.fr.p s.md.m D' a2 R2):
  RSx ct ρ' D' Lv' R2 {E:=s.E,L:=s'.L,nx:=s'.nx,md:=s.md} a2 w2:=by
 have hst2:=h2.st
 rw[hg,hw,hD,hL]at hst2
 refine⟨(h.rb.trans hr).trans h2.rb,h2.dom,h2.ver,h2.nd,hsz,hds,he.mono h2.rb (Snap.le.refl _),h2.l,hst,hfr,?_,⟨Nat.le_trans (Nat.le_trans h.ex.1 hnb) h2.ex.1,fun i hi' hn=> ?_⟩,h.o⟩
 ·have h3:IniQ ct ρ' s' w':=fun id n t c hid=>h2.ini id n t c (by rw[hi];exact hid)
  exact IniQ.mv (s:=s') (s':={E:=s.E,L:=s'.L,nx:=s'.nx,md:=s.md}) h3 (Rho.le.refl _) hst2.st hst.st fun id b p hp hl=>by
   obtain⟨X,q,Y,e6,k1,_⟩:=qJ h2.l hl
   exact⟨hl,q,D',k1,by rw[e6];simp,by rw[e6];simp⟩
 ·have h4:=h.ex.1
  exact h2.ex.2 i (by omega) (hrn i (by omega) (h.ex.2 i hi' hn))
theorem RSx.name{p:Pl}(h:RSx ct ρ D Lv R s a w):RSx ct (ρ.ins s.nx p) D Lv R {s with nx:=s.nx+1} a w:=by
 have hr:=Rho.le_ins (p:=p) h.fresh
 refine⟨h.rb.trans hr,fun i x hx=> ?_,fun e he=>Nat.lt_succ_of_lt (h.ver e he),h.nd,h.size,h.ds,fun t sv ht=> ?_,yj hr (Snap.le.refl _) h.l,h.st,h.fr,fun id n t c hi=> ?_,h.exIns,h.o⟩
 ·unfold Rho.ins at hx
  show i<s.nx+1
  split at hx
  ·omega
  ·have:=h.dom _ _ hx;omega
 ·obtain⟨v,h1,h2⟩:=h.e t sv ht
  exact⟨v,h1,JL hr (Snap.le.refl _) h2⟩
 ·obtain⟨h1,h2⟩:=h.ini id n t c hi
  exact⟨hr _ _ h1,h2⟩
def frT0:Frm where
 p:=fun _ _ _ _=>True
 t:=fun _=>False
 mono:=fun _ _=>trivial
 put:=fun _ _ _ _=>trivial
def stM:Nat→LoopState
 |0=> .ready
 |_=> .done
def peM:Nat→Option Code
 |0=>none
 |1=>some .ret
 |i+2=>some (.exit i)
def frIt(q:RecF)(dd:Nat)(ms:List Nat)(E:List (Nat×SV T))(ts:Array Value)(ρ:Rho):Frm where
 p:=fun m D _ R=>q (stM m) (peM m)∈R∧(∀x∈dd::ms,dk x∈R)∧Susp E ts ρ D
 t:=fun _=>False
 mono:=fun hd ⟨h1,h2,h3⟩=>⟨h1,h2,h3.mono (Rho.le.refl _) hd⟩
 put:=fun _ _ _ h=>h
def frRd(q:Blk)(dd:Nat)(ms:List Nat)(E E1:List (Nat×SV T))(ts ts1:Array Value)(ρ ρ1:Rho):Frm where
 p:=fun _ D _ R=>q∈R∧(∀x∈dd::ms,dk x∈R)∧Susp E ts ρ D∧Susp E1 ts1 ρ1 D
 t:=fun _=>False
 mono:=fun hd ⟨h1,h2,h3,h4⟩=>⟨h1,h2,h3.mono (Rho.le.refl _) hd,h4.mono (Rho.le.refl _) hd⟩
 put:=fun _ _ _ h=>h
theorem QqS{ρ:Rho}{D:Snap}:∀(ts:List Tmp) (as:SV T) (E E0:List (Nat×SV T)) (vs:List Value) (Ev:List (Nat×Value)),zipS ts as E=some E0→RX ρ D as true vs→(∀t sv,lookA E t=some sv→∃v,look Ev t=some v∧RV ρ D sv v)→
  ts.length=vs.length∧∀t sv,lookA E0 t=some sv→∃v,look (zipE ts vs Ev) t=some v∧RV ρ D sv v
 | [],as,E,E0,vs,Ev,h,hv,hE=>by
  cases as<;>simp only[zipS,reduceCtorEq]at h
  simp only[Qa]at h
  subst h
  have hv:vs= []:=hv
  subst hv
  exact⟨rfl,hE⟩
 | t::ts,as,E,E0,vs,Ev,h,hv,hE=>by
  cases as<;>simp only[zipS,reduceCtorEq]at h
  rename_i x as
  obtain⟨v,c2,rfl,h1,h2⟩:=hv
  obtain⟨h3,h4⟩:=QqS ts as ((t,x)::E) E0 c2 ((t,v)::Ev) h h2 fun t' sv ht'=>by
   simp only[lookA]at ht'
   simp only[look]
   cases hb:Nat.beq t t' with
   |true=>
    rw[hb]at ht'
    simp only[Qg,Qa]at ht'
    subst ht'
    exact⟨v,rfl,h1⟩
   |false=>rw[hb]at ht';exact hE t' sv ht'
  exact⟨by simp[h3],h4⟩
theorem QdY{q:Blk}{Lv R:List Blk}(h:q∈R):∃R1,(Lv++R).Perm (q::(Lv++R1))∧(∀x∈R,x=q∨x∈R1)∧∀x∈R1,x∈R:=by
 obtain⟨A,B,rfl⟩:=List.append_of_mem h
 refine⟨A++B,?_,fun x hx=> ?_,fun x hx=> ?_⟩
 ·rw[←List.append_assoc,←List.append_assoc]
  exact List.perm_middle
 ·simp only[List.mem_append,List.mem_cons]at hx⊢
  rcases hx with h|h|h
  ·exact .inr (.inl h)
  ·exact .inl h
  ·exact .inr (.inr h)
 ·simp only[List.mem_append,List.mem_cons]at hx⊢
  rcases hx with h|h
  ·exact .inl h
  ·exact .inr (.inr h)
theorem QcS:∀(vs:List Value) (i k:Nat) (v:Value),vs[k]?=some v→look (argE i vs) (i+k)=some v
 | [],_,_,_,h=>by simp at h
 |u::vs,i,0,v,h=>by
  simp only[List.getElem?_cons_zero,Qa]at h
  subst h
  simp[argE,look]
 | u::vs,i,k+1,v,h=>by
  have:Nat.beq i (i+(k+1))=false:=by
   cases hb:Nat.beq i (i+(k+1))with
   |true=>have:=Qc hb;omega
   |false=>rfl
  simp only[argE,look,this,Qh]
  rw[show i+(k+1)=i+1+k by omega]
  exact QcS vs (i+1) k v (by simpa using h)
theorem Qjg{ρ:Rho}{D:Snap}:∀(l:SV T) (i:Nat) (vs:List Value),RX ρ D l true vs→∀t sv,lookA (Qfp i l) t=some sv→∃k v,t=i+k∧vs[k]?=some v∧RV ρ D sv v:=by
 intro l
 induction l with
 | cs x l _ ih=>
  rintro i vs ⟨v,c2,rfl,h1,h2⟩ t sv ht
  simp only[Qfp,lookA]at ht
  cases hb:Nat.beq i t with
  |true=>
   rw[hb]at ht
   have:=Qc hb
   subst this
   simp only[Qg,Qa]at ht
   subst ht
   exact⟨0,v,rfl,rfl,h1⟩
  |false=>
   rw[hb]at ht
   obtain⟨k,u,e,g1,g2⟩:=ih (i+1) c2 h2 t sv ht
   exact⟨k+1,u,by omega,by simpa using g1,g2⟩
 |_=>intro i vs _ t sv ht;simp only[Qfp,lookA,reduceCtorEq]at ht
theorem Qjh{P:Program}{fn:Func}{Rr:Ending→World→Prop}{vs:List Value}(hd:a.defers= [])(h1:Sem.run P (fn.results.toList.mapM (QbS a)) w= .ok vs w)(hR:Rr (.returned (retV vs)) w):bodyPost P fn Rr .ret a w:=by
 refine⟨hd,retV vs,?_,hR⟩
 have h2:Sem.run P (fn.results.mapM (QbS a)) w= .ok vs.toArray w:=by
  rw[Array.mapM_eq_mapM_toList]
  simp only[Sem.run_map,h1,Result.andThen_ok]
 have h3:results fn a.tmps=(do let vs←fn.results.mapM (QbS a);pure (if h:vs.size=1 then vs[0]else .tuple vs)):=rfl
 rw[h3,Sem.run_bind,h2]
 simp only[Result.andThen_ok,Sem.run_pure]
 match vs with
 | []=>rfl
 | [v]=>rfl
 |v::u::vs=>simp[retV]
theorem QoF{ρ:Rho}{D:Snap}{a:Act}{n:Nat}{ds:List Deferred}(l:SV T)(vs:List Value)(h:RX ρ D l true vs)(hE:Env a n ds (argE 0 vs)):Susp (Qfp 0 l) a.tmps ρ D:=fun t sv ht=>by
 obtain⟨k,v,e,h1,h2⟩:=Qjg l 0 vs h t sv ht
 subst e
 exact⟨v,hE.at_ _ _ (QcS vs 0 k v h1),h2⟩
theorem QqT{ρ:Rho}{D:Snap}:∀{l:SV T} {vs:List Value},RX ρ D l true vs→isL l=true→vs.length=lenL l:=by
 intro l
 induction l with
 |nl=>intro vs h _;have h:vs= []:=h;subst h;rfl
 |cs x t _ ih=>rintro vs ⟨v,c2,rfl,h1,h2⟩ hl;simp[ih h2 hl,lenL]
 |_=>intro vs _ hl;cases hl
theorem Qxw{P:Program}{f:FuncId}{n:Nat}{F:Func}{c:Code}(h:itF P f n=some (F,c)):P.funcs[f]?=some F∧F.body=some c∧F.results.toList= []∧(F.name== "runtime.NumGoroutine")=false∧n≤F.ntmps:=by
 unfold itF at h
 split at h
 ·rename_i F' hF
  split at h
  ·rename_i c' hc hr
   cases hb:(!(F'.name== "runtime.NumGoroutine")&&Nat.ble n F'.ntmps)with
   |false=>rw[hb]at h;cases h
   |true=>
    rw[hb]at h
    simp only[Qg,Qa,Qe]at h
    obtain⟨rfl,rfl⟩:=h
    rw[Qd]at hb
    exact⟨hF,hc,hr,by simpa using hb.1,Nat.le_of_ble_eq_true hb.2⟩
  ·cases h
 ·cases h
theorem DsOk.nom{ds:List Deferred}{R R':List Blk}(h:DsOk ct ds R)(hm:ct.mks=false):DsOk ct ds R':=by
 obtain⟨ms,h1,h2,h3,h4⟩:=h
 rcases h2 with rfl|h2
 ·exact⟨[],h1,.inl rfl,h3,fun _ h=>by cases h⟩
 ·rw[hm]at h2;cases h2
theorem DsOk.nil_of{ds:List Deferred}{R:List Blk}(h:DsOk ct ds R)(hm:ct.mks=false):ds=ct.ds:=by
 obtain⟨ms,h1,h2,h3,h4⟩:=h
 rcases h2 with rfl|h2
 ·exact h1
 ·rw[hm]at h2;cases h2
theorem QqU{P:Program}{Q:Exit→Act→World→Prop}{g w0:World}{D0:Snap}{L0 L:List Blk}{l fn dd n0:Nat}{q:RecF}{ps:Array Tmp}{assign body:Code}{a0:Act}{ds0:List Deferred}{E0:List (Nat×Value)}{v:Value}(hq:QaF q l fn dd a0.tmps ps assign body):∀(m:Nat),Stp g w0 D0 L0 w D (q (stM m) (peM m)::L)→Env a0 n0 ds0 E0→
  (∀w2 a',Stp g w0 D0 L0 w2 D L→Env a' n0 (Zi dd::ds0) E0→Q (exK (mKe m)) a' w2)→rangePost (Fw none) 0 P l Q {a0 with defers:=Zi dd::a0.defers} (.returned v) w
 |0,hS,hE0,k=>QlY hq hS hE0 k
 |1,hS,hE0,k=>Qop hq hS hE0 k
 |i+2,hS,hE0,k=>by
  unfold QaF at hq
  subst hq
  exact⟨some (.exit i),_,run_endLoop (hS.st.l l (.loop (rcd .done (some (.exit i)) fn a0.tmps ps assign body dd),0) (by simp[stM,peM])).1 (by simp[rcd]),wpIn_exit (k _ _ ((hS.obj (o':= .loop (rcd .exhausted (some (.exit i)) fn a0.tmps ps assign body dd)) (fun _ _ _ h=>by cases h)).drop) ⟨hE0.size,by rw[hE0.ds],hE0.at_⟩)⟩
def isZ:Nat→Bool
 |0=>true
 |_=>false
theorem QqV{P:Program}{Cn:Act→World→Prop}{g w0:World}{D0:Snap}{L0 L:List Blk}{l fn dd n d:Nat}{q:RecF}{tmps:Array Value}{ps:Array Tmp}{assign body:Code}{a1:Act}{ds:List Deferred}{E:List (Nat×Value)}(hq:QaF q l fn dd tmps ps assign body)(e:Ke)(m:Nat)(he:keM e=some m)(hS:Stp g w0 D0 L0 w D (q .busy none::L))
  (k:∀w2 a',Stp g w0 D0 L0 w2 D (q (stM m) (peM m)::L)→Env a' n ds ((d,.bool (isZ m))::E)→Cn a' w2):roundPost P l (Rk n ds E d Cn) (exK e) a1 w:=by
 cases e with
 |nm=>simp only[keM,Qa]at he;subst he;exact QiP hq hS k
 |rt=>simp only[keM,Qa]at he;subst he;exact Qoo hq hS k
 |ex i=>
  simp only[keM,Qa]at he
  subst he
  unfold QaF at hq
  subst hq
  exact Qom hS k
 |pn x e=>cases he
def QqW(sb:SubT T)(C:Cx T)(ps:List Tmp)(as bd:Code)(ha hb:Hn)(s:SS T):(R:Type)→Nat→SV T→SS T→(Bool→SS T→Option R)→Option R:=
 fun R' id args s1 kk=>match s1.md.m,(bif Nat.beq id s.nx then zipS ps args s.E else none)with
  | 0,some E0=>sxF sb {C with rg:=false,Y:=none} as ha {E:=E0,L:=s1.L,nx:=s1.nx,md:=s.md} fun e s2=>match e with
   | .nm=>sxF sb {C with rg:=false,Y:=none} bd hb s2 fun e s3=>match keM e with
    |some 0=>kk true {E:=s1.E,L:=s3.L,nx:=s3.nx,md:=⟨0,s1.md.O⟩ }
    |some m=>kk false {E:=s1.E,L:=s3.L,nx:=s3.nx,md:=⟨m,s1.md.O⟩ }
    |none=>none
   |_=>none
  |_,_=>none
theorem Qtl{q:RecF}{l fn dd x:Nat}{tmps:Array Value}{ps:Array Tmp}{assign body:Code}{st:LoopState}{pe:Option Code}(hq:QaF q l fn dd tmps ps assign body):dk x≠q st pe:=by
 unfold QaF at hq
 subst hq
 intro e
 cases e
theorem Qxx(sb:SubT T)(hC:QcW C ct){ps:Array Tmp}{as bd:Code}(hA:CdOk (fun _ C c h s k=>sxF sb C c h s k) as)(hB:CdOk (fun _ C c h s k=>sxF sb C c h s k) bd){ha hb:Hn}(hps:ps.toList.all (fun t=>Nat.blt t C.n)=true)
  (h:RSx ct ρ D Lv R s a w) {q:RecF} {l fn dd n2:Nat} {ms:List Nat} (hq:QaF q l fn dd a.tmps ps as bd) {C2:Cx T} {ct2:Ct} (hC2:CxOk C2 ct2) (hP:C2.P=C.P) (hY2:C2.Y=some (QqW sb C ps.toList as bd ha hb s))
  (hct:ct2={n:=n2,ds:= [],g:=ct.g,w0:=ct.w0,D0:=ct.D0,L0:=ct.L0,rb:=ρ.ins s.nx (.blk l),fr:=frIt q dd ms s.E a.tmps (ρ.ins s.nx (.blk l)),ini:=ct.ini,nb:=s.nx+1}):YOk C2 ct2:=by
 intro Y hY α ops Q i o d Cn s1 ρ1 D1 Lv1 R1 a1 w1 kk r fv xs ts id args h1 du hop hf hl hs hk
 rw[hY2]at hY
 simp only[Qa]at hY
 subst hY
 unfold QqW at hs
 split at hs
 ·rename_i E0 hmd hE0
  cases hid:Nat.beq id s.nx with
  |false=>rw[hid]at hE0;cases hE0
  |true=>
  rw[hid]at hE0
  obtain rfl:=Qc hid
  simp only[Qg]at hE0
  obtain⟨fval,e1,r1⟩:=YC hC2 h1 hf
  obtain⟨vs,e3,r3⟩:=Qio hC2 h1 hl
  obtain⟨n',hn',e2⟩:=Yn rfl r1
  simp only[List.cons.injEq,and_true]at e2
  subst e2
  have hl':ρ1 s.nx=some (.blk l):=h1.rb _ _ (by rw[hct];exact Rho.ins_at _ _ _)
  rw[hl']at hn'
  cases hn'
  have hfr1:q .ready none∈R1∧(∀x∈dd::ms,dk x∈R1)∧Susp s.E a.tmps (ρ.ins s.nx (.blk l)) D1:=by
   have:=h1.fr
   rw[hct]at this
   have this:(frIt q dd ms s.E a.tmps (ρ.ins s.nx (.blk l))).p s1.md.m D1 a1 R1:=this
   rw[hmd]at this
   exact this
  have hst1:Stp ct.g ct.w0 ct.D0 ct.L0 w1 D1 (Lv1++R1):=by have:=h1.st;rw[hct]at this;exact this
  obtain⟨f1,f2,f3⟩:=hfr1
  obtain⟨R1',p1,p2,p3⟩:=QdY (Lv:=Lv1) f1
  have hS1:=hst1.prm p1
  have hmk2:ct2.mks=false:=by rw[hct]
  have hdk:∀x∈dd::ms,dk x∈R1':=fun x hx=>(p2 _ (f2 x hx)).resolve_left (Qtl hq)
  have hz:=QqS (Ev:=EvA a) ps.toList args s.E E0 vs hE0 r3 fun t sv ht=>by
   obtain⟨v,g1,g2⟩:=f3 t sv ht
   refine⟨v,by rw[Qag];exact g1,JL ?_ (Snap.le.refl _) g2⟩
   have:=h1.rb;rw[hct]at this;exact this
  rw[hP]
  refine QpU (a0:=a) (n0:=ct.n) (ds0:=a.defers) (E0:=EvA a) (args:=vs) hq du.ho hop du.hg du.hd h1.env du.lt e1 e3 hS1 h.env hz.1 (by rw[←hC.n];exact hps) fun a2 hE2=> ?_
  have hsz2:a2.tmps.size=ct.n:=hE2.size
  have hdf2:a2.defers= []:=hE2.ds
  have g0:RSx {ct2 with g:=ct.g,w0:=ct.w0,D0:=ct.D0,L0:=ct.L0} ρ1 D1 Lv1 R1 s1 a1 w1:=by
   have:({ct2 with g:=ct.g,w0:=ct.w0,D0:=ct.D0,L0:=ct.L0}:Ct)=ct2:=by rw[hct]
   rw[this];exact h1
  have hb1:=g0.enter (n2:=ct.n) (fr2:=frRd (q .ready none) dd ms s.E s1.E a.tmps a1.tmps (ρ.ins s.nx (.blk l)) ρ1) (E2:=E0) (a2:=a2) (w2:=w1) (R2:=q .ready none::R1') (m2:=s.md) (fun t sv hl b hb hn=>by have h9:=h.o t sv hl b hb;cases hrb:ct.rb b with|none=>exact h9 hrb|some p=>have h8:=h1.rb b p (by rw[hct];exact Rho.le_ins h.fresh b p (h.rb b p hrb));rw[h8]at hn;cases hn) hsz2 hdf2
   (fun t sv ht=>by obtain⟨v,g1,g2⟩:=hz.2 t sv ht;exact⟨v,hE2.at_ _ _ g1,g2⟩)
   (hS1.prm (by rw[←List.singleton_append (x:=q .ready none),←List.append_assoc];exact(List.perm_middle (l₁:=Lv1)).symm.trans (by simp)))
   ⟨List.mem_cons_self,fun x hx=>List.mem_cons_of_mem _ (hdk x hx),f3,h1.e⟩
  have hCb:∀{fr2:Frm} {rb:Rho} {nb:Nat} {ini:Nat→Option (Nat×TypeId×List Value)},(∀x,¬fr2.t x)→QcW {C with rg:=false,Y:=none} {n:=ct.n,ds:= [],g:=ct.g,w0:=ct.w0,D0:=ct.D0,L0:=ct.L0,rb:=rb,fr:=fr2,ini:=ini,nb:=nb}:=fun hfr2=>
   ⟨⟨⟨hC.tb,hC.gl⟩,hC.sp,hC.n,hC.rv,hC.mp⟩,hfr2,(by intro Y hY;cases hY),(by intro h;cases h)⟩
  refine hA (hCb fun x h=>h) (.inr ⟨rfl,rfl⟩) ha _ _ _ _ a2 w1 hs ⟨ρ1,D1,Lv1,_,hb1⟩ fun e s2 a3 w3 hx hk2 hS2=> ?_
  cases e with
  |rt=>cases hk2
  |ex i=>cases hk2
  |pn x e=>cases hk2
  |nm=>
  obtain⟨ρ2,D2,Lv2,R2,h2⟩:=hS2
  obtain⟨k1,k2,k3,k4⟩:=h2.fr
  obtain⟨R2',p4,p5,p6⟩:=QdY (Lv:=Lv2) k1
  have hS2:=h2.st.prm p4
  refine QpV hq hS2 fun w4 hS4=> ?_
  have hdf3:a3.defers= []:=h2.ds.nil_of rfl
  have hdk2:∀x∈dd::ms,dk x∈R2':=fun x hx=>(p5 _ (k2 x hx)).resolve_left (Qtl hq)
  have hb2:=h2.enter (n2:=ct.n) (fr2:=frRd (q .busy none) dd ms s.E s1.E a.tmps a1.tmps (ρ.ins s.nx (.blk l)) ρ1) (E2:=s2.E) (a2:=a3) (w2:=w4) (R2:=q .busy none::R2') (m2:=s2.md) (fun t sv hl b hb hn=>by have h9:=h2.o t sv hl b hb;have h9:ρ1 b≠none:=h9;cases hrb:ρ1 b with|none=>exact h9 hrb|some p=>have h8:=h2.rb b p hrb;rw[h8]at hn;cases hn) h2.size hdf3 h2.e
   (hS4.prm (List.perm_middle (l₁:=Lv2)).symm) ⟨List.mem_cons_self,fun x hx=>List.mem_cons_of_mem _ (hdk2 x hx),k3,k4⟩
  refine hB (hCb fun x h=>h) (.inr ⟨rfl,rfl⟩) hb _ _ _ _ a3 w4 hk2 ⟨ρ2,D2,Lv2,_,hb2⟩ fun e s3 a4 w5 hx2 hk3 hS3=> ?_
  obtain⟨ρ3,D3,Lv3,R3,h3⟩:=hS3
  obtain⟨j1,j2,j3,j4⟩:=h3.fr
  obtain⟨R3',p7,p8,p9⟩:=QdY (Lv:=Lv3) j1
  have hS3:=h3.st.prm p7
  have hdk3:∀x∈dd::ms,dk x∈R3':=fun x hx=>(p8 _ (j2 x hx)).resolve_left (Qtl hq)
  cases hm:keM e with
  |none=>rw[hm]at hk3;cases hk3
  |some m=>
  have hkk:kk (isZ m) {E:=s1.E,L:=s3.L,nx:=s3.nx,md:=⟨m,s1.md.O⟩ }=some r:=by
   rw[hm]at hk3
   cases m with
   |zero=>exact hk3
   |succ m=>exact hk3
  refine QqV hq e m hm hS3 fun w6 a5 hS6 hE5=> ?_
  have hr12:ρ1.le ρ2:=h2.rb
  have hnx:s1.nx≤s2.nx:=hx.nx
  refine hk _ {E:=s1.E,L:=s3.L,nx:=s3.nx,md:=⟨m,s1.md.O⟩ } a5 w6 rfl (Nat.le_trans hx.nx hx2.nx) (fun id v sb hlk hv=>hx.l id v sb (hx2.l id v sb hlk (Nat.lt_of_lt_of_le hv hx.nx)) hv) hkk ⟨ρ3,D3,Lv3,q (stM m) (peM m)::R3',?_⟩
  have h9:RSx ct2 ρ3 D3 Lv3 (q (stM m) (peM m)::R3') {E:=s1.E,L:=s3.L,nx:=s3.nx,md:=⟨m,s1.md.O⟩ } a1 w6:=by
   have h1m:RSx {ct2 with fr:=frT0} ρ1 D1 Lv1 R1 {s1 with md:=⟨m,s1.md.O⟩ } a1 w1:=⟨h1.rb,h1.dom,h1.ver,h1.nd,h1.size,h1.ds,h1.e,h1.l,h1.st,trivial,h1.ini,h1.ex,h1.o⟩
   have hlv:=h1m.leave (a2:=a1) (w2:=w6) (R2:=q (stM m) (peM m)::R3') h3 (by rw[hct]) (by rw[hct]) (by rw[hct]) (by rw[hct]) (by rw[hct]) hr12 (fun i hi hn=>h2.ex.2 i hi hn) hnx h1.size (h1.ds.nom hmk2)
    (j4.mono hr12 (Snap.le.refl _)) (by rw[hct];exact hS6.prm (List.perm_middle (l₁:=Lv3)).symm) trivial
   refine⟨hlv.rb,hlv.dom,hlv.ver,hlv.nd,hlv.size,hlv.ds,hlv.e,hlv.l,hlv.st,?_,hlv.ini,hlv.ex,hlv.o⟩
   rw[hct]
   exact⟨List.mem_cons_self,fun x hx=>List.mem_cons_of_mem _ (hdk3 x hx),j3⟩
  exact h9.put (d:=some d) (sv:= .kb (isZ m)) (fun _ _=>YV rfl rfl) (fun x _=>by rw[hct];exact fun h=>h) hE5
 ·cases hs
theorem QqX(sb:SubT T){gop:Operand}{ps:Array Tmp}{as bd:Code}{hi ha hb:Hn}{α:Type}{k:Ke→SS T→Option α}:sxF sb C (.rangeFunc gop ps as bd) (.g hi ha hb) s k=
  (bif C.rg&&ps.toList.all (fun t=>Nat.blt t C.n)then match evS C s 0 gop with
   |some (.fn f cap)=>bif Nat.ble 1000000000 f|| !isL cap then none else match itF C.P f (lenL cap+1)with
    |some (F,c)=>sb α {C with n:=F.ntmps,rg:=false,Y:=some (QqW sb C ps.toList as bd ha hb s) } c hi {E:=Qfp 0 (.cs (.yld s.nx) cap),L:=s.L,nx:=s.nx+1,md:=⟨0,s.E⟩ } fun e s2=>match e with
       | .nm=>k (mKe s2.md.m) {E:=s.E,L:=s2.L,nx:=s2.nx,md:=s.md}
       | .rt=>k (mKe s2.md.m) {E:=s.E,L:=s2.L,nx:=s2.nx,md:=s.md}
       |_=>none
    |none=>none
   |_=>none
  else none):=rfl
theorem Qtm(sb:SubT T)(hsb:∀c,CdOk sb c)(hC:QcW C ct)(hrd:rd=none∨C.Y=none∧C.rg=false){gop:Operand}{ps:Array Tmp}{as bd:Code}(hA:CdOk (fun _ C c h s k=>sxF sb C c h s k) as)(hB:CdOk (fun _ C c h s k=>sxF sb C c h s k) bd){h:Hn}{α:Type}{k:Ke→SS T→Option α}{r:α}{Q:Exit→Act→World→Prop}
  (hs:sxF sb C (.rangeFunc gop ps as bd) h s k=some r) (hS:RS ct s a w) (hk:∀e s' a' w',XE (Wh (.rangeFunc gop ps as bd) h) s s'→k e s'=some r→RS ct s' a' w'→Q (exK e) a' w'):(Code.rangeFunc gop ps as bd).wpIn (Fw rd) 0 C.P Q a w:=by
 cases h with
 | g hi ha hb=>
  rw[QqX]at hs
  cases hc0:(C.rg&&ps.toList.all fun t=>Nat.blt t C.n)with
  |false=>rw[hc0]at hs;cases hs
  |true=>
  rw[hc0]at hs
  rw[Qd]at hc0
  obtain⟨hrg,hps⟩:=hc0
  simp only[Qg]at hs
  obtain rfl:rd=none:=by
   rcases hrd with h|h
   ·exact h
   ·rw[hrg]at h;cases h.2
  obtain⟨hmk,hfrt⟩:=hC.rg hrg
  split at hs
  ·rename_i f cap hg
   cases hc1:(Nat.ble 1000000000 f|| !isL cap)with
   |true=>rw[hc1]at hs;cases hs
   |false=>
   rw[hc1]at hs
   simp only[Qh]at hs
   rw[Bool.or_eq_false_iff]at hc1
   obtain⟨hf9,hisl⟩:=hc1
   have hisl:isL cap=true:=by simpa using hisl
   split at hs
   ·rename_i F c hF
    obtain⟨F1,F2,F3,F4,F5⟩:=Qxw hF
    obtain⟨ρ,D,Lv,R,h⟩:=hS
    obtain⟨ms,d1,d2,d3,d4⟩:=h.ds
    obtain⟨fv,e1,r1⟩:=YC hC.toCxOk h hg
    obtain⟨vs,r2,e2⟩:=Yn rfl r1
    simp only[List.cons.injEq,and_true]at e2
    unfold fnV at e2
    rw[hf9]at e2
    simp only[Qh]at e2
    subst e2
    have hlen:=QqT r2 hisl
    refine QpT (captured:=vs.toArray) h.env h.st e1 (by rw[F1];simp[F2,F4]) fun fn l dd w' q hq hS'=> ?_
    refine jG (n:=F.ntmps) F1 F2 rfl (Qfs (by simp[hlen];omega)) fun a2 hE2=> ?_
    have hname:=h.name (p:= .blk l)
    have hρ:=Rho.le_ins (p:=Pl.blk l) h.fresh
    have hperm:(q .ready none::dk dd::(Lv++R)).Perm (Lv++(q .ready none::dk dd::R)):=by
     have h1:(Lv++(q .ready none::dk dd::R)).Perm (q .ready none::(Lv++(dk dd::R))):=List.perm_middle
     have h2:(Lv++(dk dd::R)).Perm (dk dd::(Lv++R)):=List.perm_middle
     exact(h1.trans (h2.cons _)).symm
    have hsusp:Susp s.E a.tmps (ρ.ins s.nx (.blk l)) D:=fun t sv ht=>by
     obtain⟨v,g1,g2⟩:=h.e t sv ht
     exact⟨v,g1,JL hρ (Snap.le.refl _) g2⟩
    have hit:=hname.enter (n2:=F.ntmps) (fr2:=frIt q dd ms s.E a.tmps (ρ.ins s.nx (.blk l))) (E2:=Qfp 0 (.cs (.yld s.nx) cap)) (a2:=a2) (w2:=w') (R2:=q .ready none::dk dd::R) (m2:=⟨0,s.E⟩) (fun t sv hl=>by obtain⟨v,_,g2⟩:=hsusp t sv hl;exact QvS g2) hE2.size hE2.ds
     (QoF _ (.func (.yield l) #[] #[]::vs) ⟨_,_,rfl,⟨l,Rho.ins_at _ _ _,rfl⟩,yA hρ (Snap.le.refl _) _ _ _ r2⟩ hE2)
     (hS'.prm hperm) ⟨List.mem_cons_self,fun x hx=>by
      rcases List.mem_cons.1 hx with rfl|hx
      ·exact List.mem_cons_of_mem _ List.mem_cons_self
      ·exact List.mem_cons_of_mem _ (List.mem_cons_of_mem _ (d4 x hx)),hsusp⟩
    have hY:=Qxx (C2:={C with n:=F.ntmps,rg:=false,Y:=some (QqW sb C ps.toList as bd ha hb s) }) (ct2:={n:=F.ntmps,ds:= [],g:=ct.g,w0:=ct.w0,D0:=ct.D0,L0:=ct.L0,rb:=ρ.ins s.nx (.blk l),fr:=frIt q dd ms s.E a.tmps (ρ.ins s.nx (.blk l)),ini:=ct.ini,nb:=s.nx+1}) (ms:=ms) (n2:=F.ntmps) sb hC hA hB hps h hq ⟨hC.tb,hC.gl⟩ rfl rfl rfl
    refine hsb c (C:={C with n:=F.ntmps,rg:=false,Y:=some (QqW sb C ps.toList as bd ha hb s) }) (ct:={n:=F.ntmps,ds:= [],g:=ct.g,w0:=ct.w0,D0:=ct.D0,L0:=ct.L0,rb:=ρ.ins s.nx (.blk l),fr:=frIt q dd ms s.E a.tmps (ρ.ins s.nx (.blk l)),ini:=ct.ini,nb:=s.nx+1}) ⟨⟨⟨hC.tb,hC.gl⟩,hC.sp,rfl,hC.rv,hC.mp⟩,fun _ h=>h,hY,(by intro h;cases h)⟩ (.inl rfl) hi _ _ r _ a2 w' hs ⟨_,D,Lv,_,hit⟩ fun e s2 a3 w3 hx hk' hS3=> ?_
    obtain⟨ρ3,D3,Lv3,R3,h3⟩:=hS3
    have fin:k (mKe s2.md.m) {E:=s.E,L:=s2.L,nx:=s2.nx,md:=s.md}=some r→bodyPost C.P F (rangePost (Fw none) 0 C.P l Q {a with defers:=Zi dd::a.defers}) .ret a3 w3:=fun hk'=>by
     refine Qjh (vs:= []) (h3.ds.nil_of rfl) (by rw[F3];rfl) ?_
     obtain⟨j1,j2,j3⟩:=h3.fr
     obtain⟨R3',p7,p8,p9⟩:=QdY (Lv:=Lv3) j1
     have hS3:=h3.st.prm p7
     have hdk3:∀x∈dd::ms,dk x∈R3':=fun x hx=>(p8 _ (j2 x hx)).resolve_left (Qtl hq)
     refine QqU hq s2.md.m hS3 h.env fun w4 a4 hS4 hE4=> ?_
     refine hk _ {E:=s.E,L:=s2.L,nx:=s2.nx,md:=s.md} a4 w4 ⟨fun t _ sv hl=>⟨sv,hl,fun _ _ _ h=>h⟩,Nat.le_trans (Nat.le_succ _) hx.nx,fun id v sb' hlk hv=>hx.l id v sb' hlk (Nat.lt_succ_of_lt hv)⟩ hk' ⟨ρ3,D3,Lv3,R3',?_⟩
     refine h.leave (ct2:={n:=F.ntmps,ds:= [],g:=ct.g,w0:=ct.w0,D0:=ct.D0,L0:=ct.L0,rb:=ρ.ins s.nx (.blk l),fr:=frIt q dd ms s.E a.tmps (ρ.ins s.nx (.blk l)),ini:=ct.ini,nb:=s.nx+1}) (a2:=a4) h3 rfl rfl rfl rfl rfl hρ (fun i hi hn=> ?_) (Nat.le_succ _) hE4.size ?_ (fun t sv ht=> ?_) hS4 (hfrt _ _ _ _)
     ·show(ρ.ins s.nx (.blk l)) i=none
      unfold Rho.ins
      rw[if_neg (by omega)]
      exact hn
     ·refine⟨dd::ms,by rw[hE4.ds,d1];rfl,.inr hmk,?_,hdk3⟩
      rw[List.nodup_cons]
      refine⟨fun hm=> ?_,d3⟩
      have hnd:=hS'.st.nd
      have hmem:some (dd,((Obj.deferred (some []),0):OB))∈Lv++R:=List.mem_append_right _ (d4 dd hm)
      have h5:dd∈ids (Lv++R):=Qa3.2 ⟨_,hmem⟩
      have h6:(ids (dk dd::(Lv++R))).Nodup:=by
       cases hq0:q .ready none with
       |none=>rw[hq0,QiK]at hnd;exact hnd
       |some x=>rw[hq0]at hnd;obtain⟨b,o⟩:=x;rw[YZ,List.nodup_cons]at hnd;exact hnd.2
      rw[YZ,List.nodup_cons]at h6
      exact h6.1 h5
     ·obtain⟨v,g1,g2⟩:=j3 t sv ht
      exact⟨v,hE4.at_ t v (by rw[Qag];exact g1),g2⟩
    cases e with
    |nm=>exact fin hk'
    |rt=>exact fin hk'
    |ex i=>cases hk'
    |pn x e=>cases hk'
   ·cases hs
  ·cases hs
 |_=>cases hs
end
end Go.Sep
