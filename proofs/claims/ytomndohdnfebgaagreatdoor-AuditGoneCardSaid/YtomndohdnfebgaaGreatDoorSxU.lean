/-
 Symbolic execution: regions that draw their order.
-/
import Derived.Test.YtomndohdnfebgaaGreatDoorSxT
set_option linter.unusedVariables false
set_option linter.unusedSimpArgs false
namespace Go.Sep
section
variable {T:Tb}{C:Cx T}{ops:Array Oper}{c:Dc T}{M M':Nat→Bool}{ct:Ct}{ρ:Rho}{D:Snap}{Lv R:List Blk}{a:Act}{w:World}{tr:List (Rc T)}{rc:Rc T}
variable {rd:Option Nat}{Q:Exit→Act→World→Prop}{Cn:Act→World→Prop}
theorem QuM{c:Dc T}{l:List (Rc T)}{dm kd n:Nat}:(rsO c l dm kd n).md=⟨0, []⟩:=by unfold rsO;split<;>rfl
structure DSt(C:Cx T)(ops:Array Oper)(c:Dc T)(ct:Ct)(tr:List (Rc T)):Prop where
 ok:TrOk C ops c tr
 nF:nxO c.n0 tr≤c.nb
 prn:(c.pr.map (·.1)).Nodup
 ini:∀id n t x,ct.ini id=some (n,t,x)→id<c.n0
 nb:ct.nb≤c.n0
 sp:CxSp C ct
 fr:∀x,¬ct.fr.t x
 prv:∀e∈c.pr,e.2.1<c.n0
structure DI(c:Dc T)(ct:Ct)(tr:List (Rc T))(M:Nat→Bool)(ρ:Rho)(D:Snap)(Lv R:List Blk)(a:Act)(w:World):Prop where
 core:RSx ct ρ D Lv R ⟨[],(lmL c.L0 M tr).map (·.2),c.nb,c.md⟩ a w
 base:∀t sv,lookA c.E0 t=some sv→(∀x∈tr,x.o.dst=some t→M x.i=false)→∃v,a.tmps[t]?=some v∧RV (ρ.cut c.n0) D sv v
 fct:∀rc∈tr,M rc.i=true→∀d,rc.o.dst=some d→∃v,a.tmps[d]?=some v∧RV ρ D rc.sv v
 nam:∀id p,ρ id=some p→id<c.n0∨∃rc∈tr,M rc.i=true∧rc.n≤id∧id<rc.n'
 pr:(∃x∈tr,isQ x.kd=true∧M x.i=false)→∀e∈c.pr,e∈(lmL c.L0 M tr).map (·.2)
 ver:∀e∈(lmL c.L0 M tr).map (·.2),e.2.1<nxO c.n0 tr∧(e.2.1<c.n0→e∈c.L0)
theorem TrOk.later{l1 l2:List (Rc T)}(h:TrOk C ops c (l1++rc::l2)){x:Rc T}(hx:x∈l1):∃l4,RcOk C ops c (l4++rc::l2) x∧TrOk C ops c (l4++rc::l2):=by
 obtain⟨A,B,rfl⟩:=List.append_of_mem hx
 have h1:TrOk C ops c (A++(x::(B++rc::l2))):=by simpa using h
 cases h1.drop with
 |cons h2 h3=>exact⟨B,h2,h3⟩
theorem Qtf{kd dm:Nat}{l:List (Rc T)}(hk:kd=3)(h:ordO kd dm l=true){x:Rc T}(hx:x∈l)(hxk:x.kd=3∨x.kd=1):dm.testBit x.i=true:=by
 subst hk
 have h:l.all _=true:=h
 rw[List.all_eq_true]at h
 have h1:=h x hx
 rcases hxk with e|e<;>(rw[e]at h1;exact h1)
theorem ord_1{kd dm:Nat}{l:List (Rc T)}(hk:kd=1)(h:ordO kd dm l=true){x:Rc T}(hx:x∈l)(hxk:x.kd=3):dm.testBit x.i=true:=by
 subst hk
 have h:l.all _=true:=h
 rw[List.all_eq_true]at h
 have h1:=h x hx
 rw[hxk]at h1
 exact h1
theorem QqO{kd dm:Nat}{l:List (Rc T)}(hk:kd=3∨kd=1∨kd=4)(h:ordO kd dm l=true){x:Rc T}(hx:x∈l)(hxk:x.kd=4):dm.testBit x.i=true∨Nat.beq (dm&&&x.dm) 0=true:=by
 rcases hk with rfl|rfl|rfl<;>
 ·have h:l.all _=true:=h
  rw[List.all_eq_true]at h
  have h1:=h x hx
  rw[hxk]at h1
  exact Bool.or_eq_true_iff.1 h1
theorem QuN{kd dm:Nat}{l:List (Rc T)}(hk:kd=4)(h:ordO kd dm l=true){x:Rc T}(hx:x∈l)(hxk:x.kd=3∨x.kd=1∨x.kd=4):dm.testBit x.i=true∨Nat.beq (dm&&&x.dm) 0=true:=by
 subst hk
 have h:l.all _=true:=h
 rw[List.all_eq_true]at h
 have h1:=h x hx
 rcases hxk with e|e|e<;>(rw[e]at h1;exact Bool.or_eq_true_iff.1 h1)
theorem Qxv(c:Dc T)(l:List (Rc T))(dm kd n:Nat):(rsO c l dm kd n).E=preO dm l++c.E0:=by unfold rsO;split<;>rfl
theorem QdX{α:Type}{L:List (Nat×α)}{i:Nat}(h:hasA L i=true):∃x,lookA L i=some x:=Option.isSome_iff_exists.1 h
theorem QfX(hS:DSt C ops c ct tr)(hD:DI c ct tr M ρ D Lv R a w)(hcl:∀x∈tr,M x.i=true→∀k,x.dm.testBit k=true→M k=true){l1 l2:List (Rc T)}(htr:tr=l1++rc::l2)(hrc:RcOk C ops c l2 rc)(hi:M rc.i=false)(hdep:∀k,rc.dm.testBit k=true→M k=true)
  (hM:∀k,k≠rc.i→M' k=M k) (hMi:M' rc.i=true) {H:List (Nat×Nat×SB T)} (hL:((lmL c.L0 M tr).map (·.2)).Perm (rc.r.L++H)) (hnx:c.n0≤rc.r.nx) (hN:rc.r'.nx≤c.nb)
  (hcut:∀t sv,(t,sv)∈preO rc.dm l2→∀v,RV ρ D sv v→RV (ρ.cut rc.r.nx) D sv v) (hcL:∀e∈rc.r.L,∀q,RBk ρ D e.1 e.2.2 q→RBk (ρ.cut rc.r.nx) D e.1 e.2.2 q) (hver:∀e∈rc.r.L,e.2.1<rc.r.nx)
  (hfree:∀id,rc.r.nx≤id→id<rc.r'.nx→ρ id=none) (hnam:∀id,rc.r.nx≤id→id<rc.r'.nx→rc.n≤id∧id<rc.n')
  (hfin:Ext rc.r rc.r'→(∀e∈rc.r'.L,e.2.1<rc.r'.nx)→(rc.r'.L.map (·.1)).Nodup→(rc.r'.L++H).Perm ((lmL c.L0 M' tr).map (·.2))∧((∃x∈tr,isQ x.kd=true∧M' x.i=false)→∀e∈c.pr,e∈rc.r'.L++H)∧∀e∈rc.r'.L++H,e.2.1<nxO c.n0 tr∧(e.2.1<c.n0→e∈c.L0))
  (hk:∀ρ' D' Lv' R' a' w',DI c ct tr M' ρ' D' Lv' R' a' w'→Cn a' w'):Op1 C.P rd ops Q rc.i Cn a w:=by
 have hTr:=hS.ok
 rw[htr]at hTr
 have hm:rc∈tr:=by rw[htr];simp
 have hsub:∀x∈l2,x∈tr:=fun x hx=>by rw[htr];simp[hx]
 have hoth:∀x∈tr,x=rc∨(x.i≠rc.i∧∀d,rc.o.dst=some d→x.o.dst≠some d):=by
  intro x hx
  rw[htr]at hx
  rcases List.mem_append.1 hx with hx|hx
  ·obtain⟨l4,h1,_⟩:=hTr.later hx
   obtain⟨h2,h3⟩:=ZB h1.frs (rc:=rc) (by simp)
   exact .inr ⟨fun e=>h2 e.symm,fun d hd hxd=>h3 d hxd hd⟩
  ·rcases List.mem_cons.1 hx with rfl|hx
   ·exact .inl rfl
   ·obtain⟨h2,h3⟩:=ZB hrc.frs hx
    exact .inr ⟨h2,fun d hd=>h3 d hd⟩
 have hok:=hrc.ok
 unfold okO' at hok
 simp only[Qd]at hok
 obtain⟨_,hid,_⟩:=hok
 rw[List.all_eq_true]at hid
 have hmn:=(hS.ok.mono.2 rc hm)
 refine QvQ (kd:=rc.kd) (L:=(lmL c.L0 M tr).map (·.2)) (H:=H) (r:=rc.r) (r':=rc.r') hS.sp (fun x _=>hS.fr x) hD.core hL (fun t sv ht=> ?_) hcL hver (fun t sv hl=>by rw[hrc.r,QuM]at hl;cases hl) (fun id n t x h=>Nat.lt_of_lt_of_le (hS.ini id n t x h) hnx) (Nat.le_trans hS.nb hnx) hfree hN hrc.ho (by rw[←hS.sp.n];exact hrc.hd) hrc.ev (fun e he=> ?_) fun ρ' D' Lv' R' a' w' hle hd hnew hcore hslot hE hx hv=> ?_
 ·rw [hrc.r,Qxv,jv]at ht
  cases h1:lookA (preO rc.dm l2) t with
  |some x=>
   rw[h1]at ht
   simp only[Option.some_or,Qa]at ht
   subst ht
   obtain⟨r2,h2,h3,h4,h5⟩:=Qme h1
   obtain⟨v,h6,h7⟩:=hD.fct r2 (hsub _ h2) (hdep _ h3) t h4
   rw[h5]at h7
   exact⟨v,h6,hcut t _ (Yr h1) v h7⟩
  | none=>
   rw[h1,Option.none_or]at ht
   have hold:∀x∈tr,x.o.dst=some t→M x.i=false:=by
    intro x hx hxd
    have how:x.ow=true→True:=fun _=>trivial
    have hx':=hx
    rw[htr]at hx'
    have hasx:hasA c.E0 t=true:=by unfold hasA;rw[ht];rfl
    rcases List.mem_append.1 hx' with hx1|hx1
    ·obtain⟨l4,h8,_⟩:=hTr.later hx1
     cases hmx:M x.i with
     |false=>rfl
     |true=>
      have h9:x.ow=true:=by rw[h8.ow,hxd];exact hasx
      have h10:=hcl x hx hmx rc.i ((Qmg h8.bar (x:=rc) (by simp)).1 h9)
      rw[hi]at h10;cases h10
    ·rcases List.mem_cons.1 hx1 with rfl|hx1
     ·exact hi
     ·have hl2:TrOk C ops c l2:=by
       have h12:TrOk C ops c (rc::l2):=hTr.drop
       cases h12 with
       |cons _ h=>exact h
      obtain⟨l5,l6,h8,h9,_⟩:=hl2.split hx1
      have h10:x.ow=true:=by rw[h9.ow,hxd];exact hasx
      have h11:=(Qmg hrc.bar hx1).2 h10
      exact absurd h1 (Qce hx1 h11 hxd)
   obtain⟨v,h6,h7⟩:=hD.base t sv ht hold
   exact⟨v,h6,JL (Rho.cut_mono (fun _ _ _ h=>h) hnx) (Snap.le.refl _) h7⟩
 ·have h1:=hid e he
  rw[Bool.or_eq_true]at h1
  rcases h1 with h1|h1
  ·exact .inl (Nat.le_of_ble_eq_true h1)
  ·exact .inr (QdX h1)
 ·have hnd:(rc.r'.L.map (·.1)).Nodup:=by
   have:=hcore.nd
   rw[List.map_append,List.nodup_append]at this
   exact this.1
  obtain⟨hp,hpr,hvr⟩:=hfin hx hv hnd
  obtain⟨Lv2,hcore2⟩:=hcore.perm hp
  refine hk ρ' D' Lv2 R' a' w' ⟨hcore2,fun t sv ht hw=> ?_,fun x hxm hxM d hxd=> ?_,fun id p hp=> ?_,fun hq e he=>hp.subset (hpr hq e he),fun e he=>hvr e (hp.symm.subset he)⟩
  ·obtain⟨v,h1,h2⟩:=hD.base t sv ht fun x hx hxd=>by
    have h3:=hw x hx hxd
    by_cases e:x.i=rc.i
    ·rw[e,hMi]at h3;cases h3
    ·rw[←hM _ e];exact h3
   refine⟨v,?_,JL (Rho.cut_mono (fun i p _ h=>hle i p h) (Nat.le_refl _)) hd h2⟩
   rw[hslot t fun e=>by
    have:=hw rc hm e
    rw[hMi]at this
    cases this]
   exact h1
  ·rcases hoth x hxm with rfl|⟨h1,h2⟩
   ·have h5:=hrc.ok
    unfold okO' at h5
    rw[hxd]at h5
    simp only[Qd]at h5
    obtain⟨u,hu⟩:=QdX h5.1
    obtain⟨v,h6,h7⟩:=hE d u hu
    refine⟨v,h6,?_⟩
    have h8:valO x.o.dst x.r'=u:=by unfold valO;rw[hxd];simp only[hu]
    rcases hrc.sv with h9|⟨b,h9,h10⟩
    ·rw[h9,h8];exact h7
    ·rw[h8]at h9
     rw[h10]
     rw[h9]at h7
     exact h7
   ·obtain⟨v,h3,h4⟩:=hD.fct x hxm (by rw[←hM _ h1];exact hxM) d hxd
    exact⟨v,by rw[hslot d fun e=>h2 d e hxd];exact h3,JL hle hd h4⟩
  ·rcases hnew id p hp with h1|h1
   ·rcases hD.nam id p h1 with h2|⟨x,h2,h3,h4⟩
    ·exact .inl h2
    ·refine .inr ⟨x,h2,?_,h4⟩
     by_cases e:x.i=rc.i
     ·rw[e];exact hMi
     ·rw[hM _ e];exact h3
   ·exact .inr ⟨rc,hm,hMi,hnam id h1.1 h1.2⟩
theorem Qtg{m i:Nat}{o:Oper}{dm:Nat}{q:POut T}{e:Int}{ord:List (Nat×Nat×Bool)}{E0:List (Nat×SV T)}(hS:DSt C ops c ct tr)(hD:DI c ct tr M ρ D Lv R a w)(hp:PnO C ops m c tr i o dm q e ord)(hdep:∀k,dm.testBit k=true→M k=true)
  (hE0:∀t sv,lookA E0 t=some sv→∃v,a.tmps[t]?=some v∧RV ρ D sv v) (hL0:(c.L0.map (·.1)).Nodup) (hV0:∀e∈c.L0,e.2.1<c.n0) (hk:∀w',RS ct ⟨E0,Qow c q,c.nb,c.md⟩ a w'→Q (.panic [{v:=pvV q.v e,recovered:=false}]) a w'):Op1 C.P rd ops Q i Cn a w:=by
 have hnF:=hS.nF
 have hmn:=hS.ok.mono
 have hvis:(lmL c.L0 M tr).filter (fun e=>visO dm e.1)=(lmL c.L0 (fun _=>true) tr).filter fun e=>visO dm e.1:=QqM hdep tr (fun x hx h3=>hdep _ (Qtf rfl hp.od hx (.inl h3))) fun x hx h4=>(QqO (.inl rfl) hp.od hx h4).imp (hdep _) id
 have hpL:((lmL c.L0 M tr).map (·.2)).Perm ((rsO c tr dm 3 (nxO c.n0 tr)).L++((lmL c.L0 M tr).filter fun e=> !visO dm e.1).map (·.2)):=by
  show((lmL c.L0 M tr).map (·.2)).Perm (visL dm (lmL c.L0 (fun _=>true) tr)++_)
  unfold visL
  rw[←hvis,←List.map_append]
  exact((List.filter_append_perm (fun e=>visO dm e.1) (lmL c.L0 M tr)).symm).map _
 have hids:=hp.ids
 simp only[idsO,Qd,List.all_eq_true]at hids
 have hpk:=hp.pk
 unfold panK at hpk
 rw[Qd,List.all_eq_true]at hpk
 have hfree:∀id,nxO c.n0 tr≤id→ρ id=none:=fun id h1=>by
  cases hpp:ρ id with
  |none=>rfl
  |some p=>
   rcases hD.nam id p hpp with h3|⟨x,h3,h4,h5,h6⟩
   ·have:=hmn.1;omega
   ·have:=(hmn.2 x h3).2.2;omega
 refine Qtd (L:=(lmL c.L0 M tr).map (·.2)) (r:=rsO c tr dm 3 (nxO c.n0 tr)) hS.sp (fun x _=>hS.fr x) hE0 hD.core hpL (fun t sv ht=> ?_) (fun e he q h=>Qmc (Qbq (hids.2 e he).1) (hids.2 e he).2.2 h) (fun e he=>Qbq (hids.2 e he).2.1) (fun t sv hl=>by rw[QuM]at hl;cases hl)
  (fun id n t x h=>Nat.lt_of_lt_of_le (hS.ini id n t x h) hmn.1) (Nat.le_trans hS.nb hmn.1) (fun id h1 _=>hfree id h1) (Nat.le_of_ble_eq_true hpk.1) (fun e he=> ?_) hp.gd hp.ho (by rw[←hS.sp.n];exact hp.hd) hp.pn hp.x (hL0.sublist (List.filter_sublist.map _)) (fun hx e he=> ?_) hk
 rotate_left
 ·have h1:=hpk.2 e he
  rw[Bool.or_eq_true]at h1
  rcases h1 with h1|h1
  ·exact .inl (Nat.le_of_ble_eq_true h1)
  ·exact .inr (QdX h1)
 ·unfold Qow at he
  rw[List.mem_filter]at he
  obtain⟨he,hv⟩:=he
  split at hv
  ·rename_i v sb hl
   have hv:=Qc hv
   subst hv
   have h1:=hx.l _ _ _ hl (Nat.lt_of_lt_of_le (hV0 e he) hmn.1)
   have h2:=(hD.ver _ (hpL.symm.subset (List.mem_append_left _ (Yr h1)))).2 (hV0 e he)
   have h3:=Yc h2 hL0
   rw[Yc he hL0]at h3
   simp only[Qa]at h3
   have h4:=Yr hl
   rw[←h3]at h4
   exact h4
  ·cases hv
 rw[Qxv,jv]at ht
 cases h1:lookA (preO dm tr) t with
 |some x=>
  rw[h1]at ht
  simp only[Option.some_or,Qa]at ht
  subst ht
  obtain⟨r2,h2,h3,h4,h5⟩:=Qme h1
  obtain⟨v,h6,h7⟩:=hD.fct r2 h2 (hdep _ h3) t h4
  rw[h5]at h7
  exact⟨v,h6,QqH (hids.1 _ (Yr h1)) h7⟩
 | none=>
  rw[h1,Option.none_or]at ht
  have hold:∀x∈tr,x.o.dst=some t→M x.i=false:=by
   intro x hx hxd
   have hasx:hasA c.E0 t=true:=by unfold hasA;rw[ht];rfl
   obtain⟨l5,l6,h8,h9,_⟩:=hS.ok.split hx
   have h10:x.ow=true:=by rw[h9.ow,hxd];exact hasx
   have h11:=(Qmg hp.bar hx).2 h10
   exact absurd h1 (Qce hx h11 hxd)
  obtain⟨v,h6,h7⟩:=hD.base t sv ht hold
  exact⟨v,h6,JL (Rho.cut_mono (fun _ _ _ h=>h) hmn.1) (Snap.le.refl _) h7⟩
theorem QgN(hS:DSt C ops c ct tr)(hD:DI c ct tr M ρ D Lv R a w)(hcl:∀x∈tr,M x.i=true→∀k,x.dm.testBit k=true→M k=true)(hm:rc∈tr)(hi:M rc.i=false)(hdep:∀k,rc.dm.testBit k=true→M k=true)
  (hM:∀k,k≠rc.i→M' k=M k) (hMi:M' rc.i=true) (hk:∀ρ' D' Lv' R' a' w',DI c ct tr M' ρ' D' Lv' R' a' w'→Cn a' w'):Op1 C.P rd ops Q rc.i Cn a w:=by
 obtain⟨l1,l2,htr,hrc,hl2⟩:=hS.ok.split hm
 have hTr:=hS.ok
 rw[htr]at hTr
 have hmn:=hS.ok.mono.2 rc hm
 have hnF:=hS.nF
 have hX:∀x∈l2,x.i≠rc.i:=fun x hx=>(ZB hrc.frs hx).1
 have hY:∀x∈l1,x.i≠rc.i:=fun x hx=>by
  obtain⟨l4,h1,_⟩:=hTr.later hx
  exact fun e=>(ZB h1.frs (rc:=rc) (by simp)).1 e.symm
 have hdY:∀x∈l1,rc.dm.testBit x.i=false:=fun x hx=>by
  cases hb:rc.dm.testBit x.i with
  |false=>rfl
  |true=>
   obtain⟨r2,h2,h3⟩:=hrc.deps hl2 hb
   obtain⟨l4,h1,_⟩:=hTr.later hx
   exact absurd h3 (ZB h1.frs (rc:=r2) (by simp[h2])).1
 have hok:=hrc.ok
 unfold okO' at hok
 simp only[Qd]at hok
 obtain⟨_,_,hok⟩:=hok
 have hrr:=hrc.r
 have hdomid:∀id p,ρ id=some p→id<c.nb:=hD.core.dom
 have hmem:∀{H:List (Nat×Nat×SB T)},((lmL c.L0 M tr).map (·.2)).Perm (rc.r.L++H)→(∀e∈rc.r.L,e∈(lmL c.L0 M tr).map (·.2))∧∀e∈H,e∈(lmL c.L0 M tr).map (·.2):=fun hp=>
  ⟨fun e he=>hp.symm.subset (List.mem_append_left _ he),fun e he=>hp.symm.subset (List.mem_append_right _ he)⟩
 have hndL:∀{H:List (Nat×Nat×SB T)},((lmL c.L0 M tr).map (·.2)).Perm (rc.r.L++H)→(rc.r.L.map (·.1)).Nodup:=fun hp=>by
  have h1:(((lmL c.L0 M tr).map (·.2)).map (·.1)).Nodup:=hD.core.nd
  have h2:=(hp.map (·.1)).nodup_iff.1 h1
  rw[List.map_append,List.nodup_append]at h2
  exact h2.1
 have back:∀{H:List (Nat×Nat×SB T)},((lmL c.L0 M tr).map (·.2)).Perm (rc.r.L++H)→Ext rc.r rc.r'→(rc.r'.L.map (·.1)).Nodup→∀e∈rc.r'.L,e.2.1<rc.r.nx→e∈rc.r.L:=fun hp hx hn e he hv=>by
  have h1:=Yc he hn
  exact Yr (hx.l e.1 e.2.1 e.2.2 h1 hv)
 have forth:∀{H:List (Nat×Nat×SB T)},((lmL c.L0 M tr).map (·.2)).Perm (rc.r.L++H)→Ext rc.r rc.r'→∀e∈rc.r.L,∀v sb,lookA rc.r'.L e.1=some (v,sb)→v<rc.r.nx→e∈rc.r'.L:=fun hp hx e he v sb hl hv=>by
  have h1:=hx.l _ _ _ hl hv
  rw[Yc he (hndL hp)]at h1
  simp only[Qa]at h1
  have h2:=Yr hl
  rw[←h1]at h2
  exact h2
 have hfree:∀id,rc.n≤id→id<rc.n'→ρ id=none:=fun id h1 h2=>by
  cases hp:ρ id with
  |none=>rfl
  | some p=>
   rcases hD.nam id p hp with h3|⟨x,h3,h4,h5,h6⟩
   ·omega
   ·rw[htr]at h3
    rcases List.mem_append.1 h3 with h3|h3
    ·obtain⟨l4,h7,h8⟩:=hTr.later h3
     have h9:=(h8.mono.2 rc (by simp)).2.2
     rw[←h7.n]at h9
     omega
    ·rcases List.mem_cons.1 h3 with rfl|h3
     ·rw[hi]at h4;cases h4
     ·have h9:=(hl2.mono.2 x h3).2.2
      rw[←hrc.n]at h9
      omega
 have vis:rc.kd=3∨rc.kd=1→((lmL c.L0 M tr).map (·.2)).Perm (visL rc.dm (lmL c.L0 (fun _=>true) l2)++((lmL c.L0 M tr).filter fun e=> !visO rc.dm e.1).map (·.2)):=fun hk=>by
  have h1:(lmL c.L0 M tr).filter (fun e=>visO rc.dm e.1)=(lmL c.L0 (fun _=>true) l2).filter fun e=>visO rc.dm e.1:=by
   rw[htr,QkI l1 (fun x hx hxM hx3=> ?_) hdY (fun x hx hxM hx4=> ?_),Y3,hi,Qh]
   ·refine QqM hdep l2 (fun x hx h3=>hdep _ ?_) fun x hx h4=>(QqO (hk.imp id .inl) hrc.ord hx h4).imp (hdep _) id
    rcases hk with hk|hk
    ·exact Qtf hk hrc.ord hx (.inl h3)
    ·exact ord_1 hk hrc.ord hx h3
   ·obtain⟨l4,h2,_⟩:=hTr.later hx
    have h3:=hcl x (by rw[htr];simp[hx]) hxM rc.i (Qtf hx3 h2.ord (by simp) hk)
    rw[hi]at h3
    cases h3
   ·obtain⟨l4,h2,_⟩:=hTr.later hx
    rcases QuN hx4 h2.ord (x:=rc) (by simp) (hk.imp id .inl)with h3|h3
    ·have h3:=hcl x (by rw[htr];simp[hx]) hxM rc.i h3
     rw[hi]at h3
     cases h3
    ·exact QqL h3
  unfold visL
  rw[←h1,←List.map_append]
  exact((List.filter_append_perm (fun e=>visO rc.dm e.1) (lmL c.L0 M tr)).symm).map _
 have prs:isQ rc.kd=true→∃H,((lmL c.L0 M tr).map (·.2)).Perm (c.pr++H):=fun hq=>Qjd (Zy hS.prn) (hD.pr ⟨rc,hm,hq,hi⟩)
 have prM:(∃x∈tr,isQ x.kd=true∧M' x.i=false)→∃x∈tr,isQ x.kd=true∧M x.i=false:=fun⟨x,h1,h2,h3⟩=>⟨x,h1,h2,by
  by_cases e:x.i=rc.i
  ·rw[e,hMi]at h3;cases h3
  ·rw[←hM _ e];exact h3⟩
 have hTag:∀k (L:List (Nat×Nat×SB T)),(tag k L).map (·.2)=L:=fun k L=>by unfold tag;rw[List.map_map];exact List.map_id' L
 have look1:∀{H:List (Nat×Nat×SB T)},((lmL c.L0 M tr).map (·.2)).Perm (rc.r.L++H)→rc.kd≠3→rc.kd≠2→rc.kd≠4→rc.r.nx=c.nb→rc.r'.nx=c.nb→(∀e∈rc.r.L,hasA rc.r'.L e.1=true)→Op1 C.P rd ops Q rc.i Cn a w:=fun{H} hp h3 h2 h4 hn hn' hh=>by
  have hid:ρ.cut rc.r.nx=ρ:=Rho.cut_id (by rw[hn];exact hdomid)
  refine QfX hS hD hcl htr hrc hi hdep hM hMi hp (by rw[hn];omega) (by rw[hn'];exact Nat.le_refl _) (fun t sv _ v h=>by rw[hid];exact h) (fun e _ q h=>by rw[hid];exact h) (fun e he=>by rw[hn];exact hD.core.ver e ((hmem hp).1 e he)) (fun id h1 h2=>by omega) (fun id h1 h2=>by omega) (fun hx hv hnd=> ?_) hk
  have hpp:rc.r'.L.Perm rc.r.L:=by
   rw[List.perm_ext_iff_of_nodup (Zy hnd) (Zy (hndL hp))]
   refine fun e=>⟨fun he=>back hp hx hnd e he (by have:=hv e he;omega),fun he=> ?_⟩
   obtain⟨⟨v,sb⟩,hl⟩:=QdX (hh e he)
   have h4:=hv _ (Yr hl)
   exact forth hp hx e he v sb hl (by rw[hn,←hn'];exact h4)
  have hpq:(rc.r'.L++H).Perm ((lmL c.L0 M tr).map (·.2)):=(List.Perm.append_right H hpp).trans hp.symm
  refine⟨?_,fun hq e he=>hpq.symm.subset (hD.pr (prM hq) e he),fun e he=>hD.ver e (hpq.subset he)⟩
  have:lmL c.L0 M' tr=lmL c.L0 M tr:=by rw[htr];exact Qxt h3 h2 h4 hM hX l1 hY
  rw[this]
  exact hpq
 by_cases h3:rc.kd=3
 ·rw [h3]at hok hrr
  have hn':=hrc.n'
  rw[h3]at hn'
  have hn':rc.n'=rc.r'.nx:=hn'
  have hrn:rc.r.nx=rc.n:=by rw[hrr];rfl
  have hrL:rc.r.L=visL rc.dm (lmL c.L0 (fun _=>true) l2):=by rw[hrr];rfl
  have hp:=vis (.inl h3)
  rw[←hrL]at hp
  have hids:=hrc.ids
  rw[h3]at hids
  simp only[idsO,Qd,List.all_eq_true]at hids
  simp only[Qd,Bool.or_eq_true,List.all_eq_true]at hok
  refine QfX hS hD hcl htr hrc hi hdep hM hMi hp (by omega) (by omega) (fun t sv ht v h=>QqH (by rw[hrn];exact hids.1 _ ht) h) (fun e he q h=>Qmc (by rw[hrn];exact Qbq (hids.2 e he).1) (by rw[hrn];exact(hids.2 e he).2.2) h)
   (fun e he=>by rw[hrn];exact Qbq (hids.2 e he).2.1) (fun id h1 h2=>hfree id (by omega) (by omega)) (fun id h1 h2=>by omega) (fun hx hv hnd=> ?_) hk
  refine⟨?_,fun hq e he=> ?_,fun e he=> ?_⟩
  ·have h4:=(Qxr (L0:=c.L0) h3 hi hM hMi hX l1 (fun x hx hxM hx3=>by
    obtain⟨l4,h2,_⟩:=hTr.later hx
    have h5:=hcl x (by rw[htr];simp[hx]) hxM rc.i (Qtf hx3 h2.ord (by simp) (.inl h3))
    rw[hi]at h5
    cases h5) hdY hY).map (·.2)
   rw[List.map_append,hTag,←htr]at h4
   exact h4.symm
  ·rcases List.mem_append.1 (hp.subset (hD.pr (prM hq) e he))with h4|h4
   ·have h5:=hok.2.resolve_left (fun hlt=>by
     obtain⟨x,hx,hxq,hxM⟩:=hq
     have hx':=hx
     rw[htr]at hx'
     rcases List.mem_append.1 hx' with hx1|hx1
     ·obtain⟨l4,h6,_⟩:=hTr.later hx1
      rw[h6.q rc (by simp) hlt]at hxq;cases hxq
     ·rcases List.mem_cons.1 hx1 with rfl|hx1
      ·rw[h3]at hxq;cases hxq
      ·have h6:=hdep _ (hrc.lt hlt x hx1 hxq)
       rw[hM _ (hX x hx1),h6]at hxM;cases hxM) e he
    split at h5
    ·rename_i v sb hl
     have h6:=Qbq h5
     exact List.mem_append_left _ (forth hp hx e h4 v sb hl (by omega))
    ·cases h5
   ·exact List.mem_append_right _ h4
  ·rcases List.mem_append.1 he with h4|h4
   ·have h5:=hv e h4
    refine⟨by omega,fun h6=> ?_⟩
    exact(hD.ver e ((hmem hp).1 e (back hp hx hnd e h4 (by omega)))).2 h6
   ·exact hD.ver e ((hmem hp).2 e h4)
 ·by_cases h2:rc.kd=2
  ·rw [h2]at hok hrr
   have hn':=hrc.n'
   rw[h2]at hn'
   have hn':rc.n'=rc.r'.nx:=hn'
   have hrn:rc.r.nx=rc.n:=by rw[hrr];rfl
   have hrL:rc.r.L=c.pr:=by rw[hrr];rfl
   obtain⟨H,hp⟩:=prs (by rw[h2];rfl)
   rw[←hrL]at hp
   have hids:=hrc.ids
   rw[h2]at hids
   simp only[idsO,Qd,List.all_eq_true]at hids
   simp only[Qd,List.all_eq_true]at hok
   refine QfX hS hD hcl htr hrc hi hdep hM hMi hp (by omega) (by omega) (fun t sv ht v h=>QqH (by rw[hrn];exact hids.1 _ ht) h) (fun e he q h=>Qmc (by rw[hrn];exact Qbq (hids.2 e he).1) (by rw[hrn];exact(hids.2 e he).2.2) h)
    (fun e he=>by rw[hrn];exact Qbq (hids.2 e he).2.1) (fun id h1 h2=>hfree id (by omega) (by omega)) (fun id h1 h2=>by omega) (fun hx hv hnd=> ?_) hk
   have hnews:∀e,e∈QhK rc↔e∈rc.r'.L∧rc.n≤e.2.1:=fun e=>by
    unfold QhK
    rw[List.mem_filter]
    exact⟨fun h=>⟨h.1,Nat.le_of_ble_eq_true h.2⟩,fun h=>⟨h.1,Qfs h.2⟩⟩
   have hpp:rc.r'.L.Perm (QhK rc++rc.r.L):=by
    have hnl:(QhK rc).Nodup:=(Zy hnd).sublist List.filter_sublist
    rw[List.perm_ext_iff_of_nodup (Zy hnd) (List.nodup_append.2 ⟨hnl,Zy (hndL hp),fun x hx y hy e=> ?_⟩)]
    ·refine fun e=>⟨fun he=> ?_,fun he=> ?_⟩
     ·by_cases hlt:rc.n≤e.2.1
      ·exact List.mem_append_left _ ((hnews e).2 ⟨he,hlt⟩)
      ·exact List.mem_append_right _ (back hp hx hnd e he (by omega))
     ·rcases List.mem_append.1 he with he|he
      ·exact((hnews e).1 he).1
      ·have h5:=hok.2 e he
       split at h5
       ·rename_i v sb hl
        have h6:=Qbq h5
        exact forth hp hx e he v sb hl (by omega)
       ·cases h5
    ·subst e
     have h5:=((hnews x).1 hx).2
     have h6:=Qbq (hids.2 x hy).2.1
     omega
   have hpq:(rc.r'.L++H).Perm (QhK rc++(lmL c.L0 M tr).map (·.2)):=by
    refine(List.Perm.append_right H hpp).trans ?_
    rw[List.append_assoc]
    exact List.Perm.append_left _ hp.symm
   refine⟨?_,fun hq e he=>hpq.symm.subset (List.mem_append_right _ (hD.pr (prM hq) e he)),fun e he=> ?_⟩
   ·have h4:=(Qxs (L0:=c.L0) h2 hi hM hMi hX l1 (fun x hx hxM=>by
     cases hb:x.dm.testBit rc.i with
     |false=>rfl
     |true=>
      have h5:=hcl x (by rw[htr];simp[hx]) hxM rc.i hb
      rw[hi]at h5
      cases h5) hY).map (·.2)
    rw[List.map_append,hTag,←htr]at h4
    exact hpq.trans h4.symm
   ·rcases List.mem_append.1 (hpq.subset he)with h4|h4
    ·have h5:=(hnews e).1 h4
     have h6:=hv e h5.1
     exact⟨by omega,fun h7=>by omega⟩
    ·exact hD.ver e h4
  ·by_cases h4:rc.kd=4
   ·rw [h4]at hok hrr
    simp only[Qd,List.all_eq_true]at hok
    have hrL:rc.r.L=Qvn rc.dm (lmL c.L0 (fun _=>true) l2):=by rw[hrr];rfl
    have hrn:rc.r.nx=c.nb:=by rw[hrr];rfl
    have hn':rc.r'.nx=c.nb:=Qc hok.1
    have hnil:rc.r'.L= []:=by simpa using hok.2.1
    have hidc:ρ.cut rc.r.nx=ρ:=Rho.cut_id (by rw[hrn];exact hdomid)
    have hv1:(lmL c.L0 M tr).filter (fun e=>visP rc.dm e.1)=(lmL c.L0 (fun _=>true) l2).filter fun e=>visP rc.dm e.1:=by
     rw[htr,Qis l1 hdY (fun x hx hxM hxk=> ?_),Y3,hi,Qh]
     ·exact QqN hdep l2 fun x hx hxk=>(QuN h4 hrc.ord hx (hxk.imp id .inr)).imp (hdep _) id
     ·obtain⟨l4,g2,_⟩:=hTr.later hx
      rcases QqO (hxk.imp id .inr) g2.ord (x:=rc) (by simp) h4 with g3|g3
      ·have g3:=hcl x (by rw[htr];simp[hx]) hxM rc.i g3
       rw[hi]at g3
       cases g3
      ·exact QqL g3
    have hp:((lmL c.L0 M tr).map (·.2)).Perm (rc.r.L++((lmL c.L0 M tr).filter fun e=> !visP rc.dm e.1).map (·.2)):=by
     rw[hrL]
     unfold Qvn
     rw[←hv1,←List.map_append]
     exact((List.filter_append_perm (fun e=>visP rc.dm e.1) (lmL c.L0 M tr)).symm).map _
    refine QfX hS hD hcl htr hrc hi hdep hM hMi hp (by rw[hrn];omega) (by rw[hn'];exact Nat.le_refl _) (fun t sv _ v h=>by rw[hidc];exact h) (fun e _ q h=>by rw[hidc];exact h) (fun e he=>by rw[hrn];exact hD.core.ver e ((hmem hp).1 e he)) (fun id g1 g2=>by omega) (fun id g1 g2=>by omega) (fun hx hv hnd=> ?_) hk
    rw[hnil,List.nil_append]
    have hq4:lmL c.L0 M' tr=(lmL c.L0 M tr).filter fun e=> !visP rc.dm e.1:=by rw[htr];exact Qxu h4 hi hM hMi hX l1 hdY hY
    refine⟨by rw[hq4],fun hq e he=> ?_,fun e he=>hD.ver e ((hmem hp).2 e he)⟩
    rcases List.mem_append.1 (hp.subset (hD.pr (prM hq) e he))with g1|g1
    ·have g2:=Nat.le_of_ble_eq_true (hok.2.2 e g1)
     have g3:=hS.prv e he
     omega
    ·exact g1
   by_cases h1:rc.kd=1
   ·rw[h1]at hok hrr
    simp only[Qd,List.all_eq_true]at hok
    have hp:=vis (.inr h1)
    have hrL:rc.r.L=visL rc.dm (lmL c.L0 (fun _=>true) l2):=by rw[hrr];rfl
    rw[←hrL]at hp
    exact look1 hp h3 h2 h4 (by rw[hrr];rfl) (Qc hok.1) hok.2
   ·have hq0:isQ rc.kd=true:=by
     unfold isQ
     split
     ·rename_i h;exact absurd h h3
     ·rename_i h;exact absurd h h1
     ·rename_i h;exact absurd h h4
     ·rfl
    obtain⟨H,hp⟩:=prs hq0
    have hr0:rc.r={E:=preO rc.dm l2++c.E0,L:=c.pr,nx:=c.nb,md:=⟨0, []⟩ }:=by
     rw[hrr]
     unfold rsO
     split
     ·rename_i h;exact absurd h h3
     ·rename_i h;exact absurd h h2
     ·rename_i h;exact absurd h h1
     ·rename_i h;exact absurd h h4
     ·rfl
    have hrL:rc.r.L=c.pr:=by rw[hr0]
    rw[←hrL]at hp
    split at hok
    ·rename_i h;exact absurd h h3
    ·rename_i h;exact absurd h h2
    ·rename_i h;exact absurd h h4
    ·simp only[Qd,List.all_eq_true]at hok
     exact look1 hp h3 h2 h4 (by rw[hr0]) (Qc hok.1) hok.2
end
end Go.Sep
