/-
 Symbolic execution: contracts that come from printed proofs.
-/
import Derived.Test.YtomndohdnfebgaaGreatDoorSxQ
set_option linter.unusedVariables false
set_option linter.unusedSimpArgs false
namespace Go.Sep
section
variable {T:Tb}{C:Cx T}{ct:Ct}{ρ:Rho}{D:Snap}{Lv R:List Blk}{s:SS T}{a:Act}{w:World}
theorem Qtn{m:Mt T}{on:List (Nat×Nat)}{os:List (Nat×Pl)}{Qs:List Blk}(how:m.ow.reverse=on)(hE:os.map (·.1)=on.map (·.1))(q5:∀(k:Nat) (x:Nat×Nat),on[k]?=some x→∃b q,lookA m.s.L x.1=some (x.2,b)∧Qs[k]?=some q∧RBk ρ D x.1 b q):
  Ren (OwS ρ m.s m.ow) (OwQ Qs D) os (idx 0 os):=by
 refine QgK _ 0 fun k x hx t e f xl A cap ex ho=> ?_
 rw[Nat.zero_add]
 have hon:(on.map (·.1))[k]?=some x.1:=by
  rw[←hE,List.getElem?_map,hx];rfl
 rw[List.getElem?_map]at hon
 obtain⟨y,hy,hyx⟩:=Option.map_eq_some_iff.1 hon
 obtain⟨b,q,z1,z2,z3⟩:=q5 k y hy
 obtain⟨s1,ver,f0,w1,w2,w3,w4,w5,w6⟩:=ho
 have hmem:(x.1,ver)∈on:=by rw[←how];simpa using w6
 obtain⟨k2,hk2⟩:=List.mem_iff_getElem?.1 hmem
 obtain⟨b',q',z4,_,_⟩:=q5 k2 _ hk2
 rw[hyx]at z1 z3
 rw[z4]at z1
 simp only[Qa,Qe]at z1
 obtain⟨z5,z6⟩:=z1
 subst z6
 have z7:=w1.l _ _ _ z4 w3
 rw[w2]at z7
 simp only[Qa,Qe]at z7
 rw[←z7.2]at z3
 obtain⟨A',cap',z8,z9⟩:=z3
 rw[w5]at z8
 cases z8
 exact⟨q,z2,z9.of w4⟩
def FinP(sp:FSp T)(g w0:World)(D:Snap)(β:Nat→Option Nat)(Bs Qs:List Blk)(r:TU T.ty sp.rt)(e:Ending)(w':World):Prop:=
 ∃v,e= .returned v∧∃(D':Snap) (β':Nat→Option Nat) (Bs' Ns Qs':List Blk) (dR dO dN:List (Dy T)) (oR oO oN:List (Nat×Pl)) (vs:List Value),
  (∀b n,b<sp.blks.length→β b=some n→β' b=some n)∧ofU sp.rt r=dR++(dO++dN)∧PR β' D' (OwQ Qs' D') sp.res true dR oR vs∧v=retV vs∧PRO β' D' (OwQ Qs' D') sp.blks sp.out 0 dO oO Bs Bs'∧PRB β' D' (OwQ Qs' D') sp.new sp.blks.length dN oN Ns∧
  (oR++(oO++oN)).map (·.1)=List.range Qs'.length∧Stp g w0 D (Bs++Qs) w' D' (Bs'++(Ns++Qs'))
theorem QuO(hT:TbOk T){sp:FSp T}{f:Func}{s0:SS T}{β:Nat→Option Nat}{Bs Qs:List Blk}{r:TU T.ty sp.rt}(h:RSx ct ρ D Lv R s a w)(hf:finS C.P sp f.results.toList s0 s=some r)
  (hds:a.defers= []) (hL0:ct.L0=Bs++Qs) (hrb:∀b n,b<sp.blks.length→β b=some n→ct.rb b=some (.blk n)) (hB:Bs.length=sp.blks.length)
  (hi:∀k tp,sp.blks[k]?=some tp→∃n c,Bs[k]?=some (bx n tp.1 c)∧ct.ini k=some (n,tp.1,c)) (hs0:∀k,k<sp.blks.length→∃b,lookA s0.L k=some (k,b)):
  bodyPost C.P f (FinP sp ct.g ct.w0 ct.D0 β Bs Qs r) .ret a w:=by
 unfold finS at hf
 split at hf
 ·rename_i l hl
  split at hf
  ·rename_i m1 hm1
   split at hf
   ·rename_i m2 bo hm2
    split at hf
    ·rename_i m3 bn hm3
     split at hf
     ·rename_i L1 hL1
      split at hf
      ·rename_i pk hpick
       obtain⟨es,L2⟩:=pk
       obtain⟨vs,hrun,hvs⟩:=Qmh (C:=C) hT h _ _ hl
       obtain⟨ρ1,D1,Lv1,dn1,on1,os1,M1,E1,P1⟩:=Qe6 hT sp.res l _ m1 ρ D Lv true vs hm1 h hvs
       have hbd1:∀k,k<sp.blks.length→lookA m1.bd (0+k)=some (0+k):=fun k hk=>by
        refine M1.bd _ _ ?_
        show lookA ((List.range sp.blks.length).map fun i=>(i,i)) (0+k)=some (0+k)
        rw[QgP,Nat.zero_add,if_pos hk]
       obtain⟨ρ2,D2,Lv2,dn2,on2,os2,Bs',M2,E2,P2,B2⟩:=Qmj hT sp.blks sp.out 0 m1 m2 bo ρ1 D1 Lv1 Bs hm2 M1.rs hB (fun k tp hk=>by rw[Nat.zero_add];exact hi k tp hk) (fun k hk=>by rw[Nat.zero_add];exact hs0 k hk) hbd1
       obtain⟨ρ3,D3,Lv3,dn3,on3,os3,Ns,M3,E3,P3,B3,_,_⟩:=Qi3 hT sp.new sp.blks.length m2 m3 bn ρ2 D2 Lv2 hm3 M2.rs
       have H:=M3.rs
       have hdy:m3.dy.reverse=dn1++(dn2++dn3):=by rw[M3.dy,M2.dy,M1.dy];simp
       have how:m3.ow.reverse=on1++(on2++on3):=by rw[M3.ow,M2.ow,M1.ow];simp
       rw[hdy]at hf
       rw[how]at hL1
       have hpu:=QgH hf
       obtain⟨Qs',Ls1,q1,q2,q3,q4,q5⟩:=QdQ _ _ _ _ hL1 H.l H.nd
       have hn1:(L1.map (·.1)).Nodup:=H.nd.sublist (q3.map _)
       obtain⟨Bq,Ls2,b1,b2,b3,b4,b5,b6⟩:=QcQ _ _ _ _ _ hpick q2 hn1
       have hperm:(Lv3++R).Perm ((Ls2++R)++(Bq++Qs')):=by
        have h1:Lv3.Perm (Qs'++(Bq++Ls2)):=q1.trans (List.Perm.append_left _ b1)
        have h2:(Qs'++(Bq++Ls2)).Perm (Ls2++(Bq++Qs')):=by
         have z1:Qs'++(Bq++Ls2)=(Qs'++Bq)++Ls2:=by simp
         rw[z1]
         exact List.perm_append_comm.trans (List.Perm.append_left _ List.perm_append_comm)
        refine(List.Perm.append_right R (h1.trans h2)).trans ?_
        rw[List.append_assoc Ls2 (Bq++Qs') R,List.append_assoc Ls2 R (Bq++Qs')]
        exact List.Perm.append_left _ List.perm_append_comm
       have hS:=H.st.prm hperm
       have hBq:Bq=Bs'++Ns:=Qqr (L:=L1) hS H.nd (fun e he=>q3.subset he) (QqZ (Qny M3.rho M3.ext B2) B3) b4 b5 (fun e he=>b6.symm.subset (List.mem_append_left _ he)) (fun q hq=>by simp[hq])
       subst hBq
       have hS2:=hS.drops
       have hE:(os1++(os2++os3)).map (·.1)=(on1++(on2++on3)).map (·.1):=by simp[E1,E2,E3]
       have hren:=Qtn how hE (fun k x hx=>q5 k x hx)
       obtain⟨y1,y23,hy,rn1,rn23⟩:=XU hren
       obtain⟨y2,y3,rfl,rn2,rn3⟩:=XU rn23
       have mo:∀{ow:List (Nat×Nat)} {oo:List (Nat×Nat)} (o:Nat) (t:Ty) (e:TypeId) (f:Bool) (xs:List (den T.ty t)) (A:Option Addr) (cap:Nat),m3.ow=oo++ow→∀{ρ':Rho} {s':SS T},ρ'.le ρ3→Ext s' m3.s→OwS ρ' s' ow o t e f xs A cap→OwS ρ3 m3.s m3.ow o t e f xs A cap:=fun o t e f xs A cap he _ _ hr hx ho=>XF hr hx (fun x hx=>by rw[he];exact List.mem_append_right _ hx) ho
       have PA:=Qe7 _ _ _ _ _ _ (Zw (y7 (M2.rho.trans M3.rho) (fun b i h=>M3.bd _ _ (M2.bd _ _ h))) (M2.le.trans M3.le) (fun o t e f xs A cap ho=>mo o t e f xs A cap (oo:=on3.reverse++on2.reverse) (by rw[M3.ow,M2.ow];simp) (M2.rho.trans M3.rho) (M2.ext.trans M3.ext) ho) _ _ _ _ _ P1) rn1
       have PB:=Qmi (Qjj (y7 M3.rho M3.bd) M3.le (fun o t e f xs A cap ho=>mo o t e f xs A cap (oo:=on3.reverse) M3.ow M3.rho M3.ext ho) P2) rn2
       have PN:=Qi5 P3 rn3
       have hlen:(os1++(os2++os3)).length=Qs'.length:=by
        rw[q4]
        have:=congrArg List.length hE
        simpa using this
       have hidx:(y1++(y2++y3)).map (·.1)=List.range Qs'.length:=by
        rw[←hy,QgJ,hlen,List.range_eq_range']
       refine Qjh hds hrun ⟨retV vs,rfl,D3,bet ρ3 m3.bd,Bs',Ns,Qs',dn1,dn2,dn3,y1,y2,y3,vs,fun b n hb hbn=> ?_,hpu,PA,rfl,PB,PN,hidx,?_⟩
       ·unfold bet
        have:=hbd1 b hb
        rw[Nat.zero_add]at this
        rw[M3.bd _ _ (M2.bd _ _ this)]
        simp only[H.rb _ _ (hrb b n hb hbn)]
       ·rw[hL0]at hS2
        rw[List.append_assoc]at hS2
        exact hS2
      ·cases hf
     ·cases hf
    ·cases hf
   ·cases hf
  ·cases hf
 ·cases hf
@[reducible] def cx (P : Program) (G : List (Nat × Dy T)) (sps : List (FSp T)) (K n : Nat) (rvs : List (RvSp T)) (mps : List (FuncId × (SV T → Option (SV T)))) : Cx T := { P := P, G := G, sp := sps, K := K, n := n, rv := rvs, mps := mps, rg := true }
theorem QnM{fn:Func}{Rr:Ending→World→Prop}{u:FrameMode}{ds0:List Deferred}(hu:u≠ .run)(hfr:∀m D a R,ct.fr.p m D a R):∀(ms:List Nat) (R:List Blk) (a:Act) (w:World),RSx ct ρ D Lv R s a w→a.defers=ms.map Zi++ds0→ms.Nodup→(∀m∈ms,dk m∈R)→DsOk ct ds0 []→
  (∀R' w',RSx ct ρ D Lv R' s {a with defers:=ds0} w'→LeavesInM (Fw none) 0 C.P fn a.tmps Rr ds0 u w')→LeavesInM (Fw none) 0 C.P fn a.tmps Rr (ms.map Zi++ds0) u w
 | [],R,a,w,h,hd,_,_,_,hk=>by
  have e:a={a with defers:=ds0}:=by cases a;simp only at hd;subst hd;rfl
  exact hk R w (by rw[←e];exact h)
 | m::ms,R,a,w,h,hd,hn,hR,h0,hk=>by
  rw[List.nodup_cons]at hn
  obtain⟨R1,R2,rfl⟩:=List.append_of_mem (hR m List.mem_cons_self)
  have hp:(Lv++(R1++dk m::R2)).Perm (dk m::(Lv++(R1++R2))):=by
   rw[←List.append_assoc,←List.append_assoc]
   exact List.perm_middle
  have hS:=h.st.prm hp
  have hb:=(hS.st.l m (.deferred (some []),0) (by simp)).1
  have hS2:Stp ct.g ct.w0 ct.D0 ct.L0 (w.putObj m (.deferred none)) D (some (m,(.deferred none,0))::(Lv++(R1++R2))):=hS.obj (fun _ _ _ h=>by cases h)
  refine⟨hu,.inl ⟨m,_,rfl,run_takeDeferred hb,?_⟩⟩
  refine QnM hu hfr ms (R1++R2) {a with defers:=ms.map Zi++ds0} _ ⟨h.rb,h.dom,h.ver,h.nd,h.size,?_,h.e,h.l,hS2.drop,hfr _ _ _ _,?_,h.ex,h.o⟩ rfl hn.2 (fun m' hm'=> ?_) h0 hk
  ·obtain⟨ms',h1,h2,h3,h4⟩:=h.ds
   obtain⟨ms0,g1,g2,g3,g4⟩:=h0
   have g5:ms0= []:=by
    cases ms0 with
    |nil=>rfl
    |cons x l=>exact absurd (g4 x List.mem_cons_self) (by simp)
   subst g5
   have g1:ds0=ct.ds:=g1
   rw[hd,g1]at h1
   have h5:m::ms=ms':=by
    have h6:(m::ms).map Zi=ms'.map Zi:=List.append_cancel_right h1
    have hinj:∀x y,Zi x=Zi y→x=y:=fun x y e=>by cases e;rfl
    exact(List.map_inj_right hinj).1 h6
   subst h5
   refine⟨ms,by rw[g1],.inr (h2.resolve_left (by simp)),hn.2,fun m' hm'=> ?_⟩
   have h7:=h4 m' (List.mem_cons_of_mem _ hm')
   have h8:dk m'≠dk m:=fun e=>by cases e;exact hn.1 hm'
   simp only[List.mem_append,List.mem_cons]at h7⊢
   rcases h7 with h7|h7|h7
   ·exact .inl h7
   ·exact absurd h7 h8
   ·exact .inr h7
  ·exact h.ini.mv (Rho.le.refl _) h.st.st hS2.drop.st fun id b p hp hl=>by
    obtain⟨X,q,Y,e6,k1,_⟩:=qJ h.l hl
    exact⟨hl,q,D,k1,by rw[e6];simp,by rw[e6];simp⟩
  ·have h7:=hR m' (List.mem_cons_of_mem _ hm')
   have h8:dk m'≠dk m:=fun e=>by cases e;exact hn.1 hm'
   simp only[List.mem_append,List.mem_cons]at h7⊢
   rcases h7 with h7|h7|h7
   ·exact .inl h7
   ·exact absurd h7 h8
   ·exact .inr h7
theorem Qit{fn:Func}{Rr:Ending→World→Prop}{u:FrameMode}(hu:u≠ .run)(hfr:∀m D a R,ct.fr.p m D a R)(h:RSx ct ρ D Lv R s a w)
  (hk:∀R' w',RSx ct ρ D Lv R' s {a with defers:=ct.ds} w'→LeavesInM (Fw none) 0 C.P fn a.tmps Rr ct.ds u w'):LeavesInM (Fw none) 0 C.P fn a.tmps Rr a.defers u w:=by
 obtain⟨ms,h1,h2,h3,h4⟩:=h.ds
 rw[h1]
 exact QnM hu hfr ms R a w h h1 h3 h4 ⟨[],rfl,.inl rfl,List.nodup_nil,fun _ h=>by cases h⟩ hk
theorem Qmk(hT:TbOk T){sp:FSp T}{f:Func}{s0:SS T}{β:Nat→Option Nat}{Bs Qs:List Blk}{r:TU T.ty sp.rt}(h:RSx ct ρ D Lv R s a w)(hf:finS C.P sp f.results.toList s0 s=some r)
  (hds:ct.ds= []∧∀m D a R,ct.fr.p m D a R) (hL0:ct.L0=Bs++Qs) (hrb:∀b n,b<sp.blks.length→β b=some n→ct.rb b=some (.blk n)) (hB:Bs.length=sp.blks.length)
  (hi:∀k tp,sp.blks[k]?=some tp→∃n c,Bs[k]?=some (bx n tp.1 c)∧ct.ini k=some (n,tp.1,c)) (hs0:∀k,k<sp.blks.length→∃b,lookA s0.L k=some (k,b)):
  bodyPostM (Fw none) 0 C.P f (FinP sp ct.g ct.w0 ct.D0 β Bs Qs r) .ret a w:=by
 show LeavesInM (Fw none) 0 C.P f a.tmps _ a.defers .returning w
 refine Qit (by simp) hds.2 h fun R2 w2 h2=> ?_
 rw[hds.1]
 obtain⟨_,h3⟩:=QuO hT h2 hf hds.1 hL0 hrb hB hi hs0
 exact h3
theorem QgQ(mk:Bool){P:Program}{n:Nat}{sp:FSp T}{f:Func}{c:Code}(hf:P.funcs[sp.fid]?=some f)(hb:f.body=some c)(hn:f.ntmps=n)(hle:Nat.ble (lenP sp.args) n=true)(hl:lstP sp.args=true)
  {g w0:World} {D:Snap} {β:Nat→Option Nat} {p:TU T.ty sp.pt} {dA dB:List (Dy T)} {oA oB:List (Nat×Pl)} {vals:List Value} {Bs Qs:List Blk} {s0:SS T} {Rr:Ending→World→Prop}
  (hp:ofU sp.pt p=dA++dB) (hA:PR β D (OwQ Qs D) sp.args true dA oA vals) (hB:PRB β D (OwQ Qs D) sp.blks 0 dB oB Bs) (hidx:(oA++oB).map (·.1)=List.range Qs.length) (hSt:St g w0 D (Bs++Qs))
  (hs0:start sp p=some s0)
  (hk:∀(ct:Ct) (a:Act),ct.n=n→ct.mks=mk→(∀x,¬ct.fr.t x)→(ct.ds= []∧∀m D a R,ct.fr.p m D a R)→ct.g=g→ct.w0=w0→ct.D0=D→ct.L0=Bs++Qs→(∀b n,b<sp.blks.length→β b=some n→ct.rb b=some (.blk n))→Bs.length=sp.blks.length→
   (∀k tp,sp.blks[k]?=some tp→∃n c,Bs[k]?=some (bx n tp.1 c)∧ct.ini k=some (n,tp.1,c))→(∀k,k<sp.blks.length→∃b,lookA s0.L k=some (k,b))→RS ct s0 a w0→c.wpIn (Fw none) 0 P (bodyPostM (Fw none) 0 P f Rr) a w0):
  CallsIn (Fw none) 0 P sp.fid vals.toArray w0 Rr:=by
 have hlen:=Qq0 hl hA
 refine QlX hf hb hn (by rw[hlen];exact hle) (R:=Rr) fun a hE=> ?_
 unfold start at hs0
 simp only at hs0
 split at hs0
 ·rename_i l m1 hi1
  split at hs0
  ·rename_i L m2 hi2
   simp only[Qa]at hs0
   let nb:=sp.blks.length
   let oo:=oA++oB
   obtain⟨hBl,hBg⟩:=Qi9 hB
   have hbdk:∀k,k<sp.blks.length→lookA ((List.range sp.blks.length).map fun i=>(i,i)) (0+k)=some (0+k):=fun k hk=>by rw[QgP,Nat.zero_add,if_pos hk]
   obtain⟨_,I1,X1⟩:=Qcb sp.args true _ m1 l dA oA vals dB hi1 hp hA
   obtain⟨I2,Y1,Y2,X2⟩:=QkJ sp.blks 0 m1 m2 L dB oB Bs [] hi2 (by rw[I1.dy];simp) hB hbdk
   let ρ0:Rho:=fun id=>if id<nb then(β id).map Pl.blk else(oo[id-nb]?).map (·.2)
   have hbd:∀b n i,β b=some n→lookA ((List.range sp.blks.length).map fun i=>(i,i)) b=some i→ρ0 i=some (.blk n):=by
    intro b n i h1 h2
    rw[QgP]at h2
    split at h2
    ·rename_i hlt
     simp only[Qa]at h2
     subst h2
     simp only[ρ0,nb]
     rw[if_pos hlt,h1];rfl
    ·cases h2
   have hown:∀k x,oo[k]?=some x→ρ0 (nb+k)=some x.2:=by
    intro k x hx
    simp only[ρ0]
    rw[if_neg (by omega),Nat.add_sub_cancel_left,hx];rfl
   have R1:=X1 ρ0 hbd (fun k x hx=>hown k x (by simp only[oo];rw[List.getElem?_append_left (List.getElem?_eq_some_iff.1 hx).1];exact hx))
   have hI1:m1.nx=nb+oA.length:=I1.nx
   have R2:=X2 ρ0 hbd (fun k x hx=>by
    rw[hI1,Nat.add_assoc]
    exact hown _ x (by simp only[oo];rw[List.getElem?_append_right (Nat.le_add_right _ _),Nat.add_sub_cancel_left];exact hx))
   have hI2:m2.nx=nb+oo.length:=by rw[I2.nx,hI1];simp only[oo,List.length_append];omega
   obtain⟨eo,eoL,eoO⟩:=(I1.trans I2).L
   have eoL:m2.L=eo.reverse:=by rw[eoL];simp
   have eoO:OEs (OwQ Qs D) nb oo eo:=eoO
   obtain⟨eid1,eid2⟩:=Qi8 eoO
   have hoAl:oo.length=Qs.length:=by
    have:=congrArg List.length hidx
    simpa[oo] using this
   have R4:RLs ρ0 D eo Qs:=by
    have:=Qi7 (ρ:=ρ0) (j:=0) eoO (by rw[show oo.map (·.1)=List.range Qs.length from hidx,List.range_eq_range',hoAl]) (by omega) hown
    simpa using this
   subst hs0
   let ct:Ct:={n:=n,ds:= [],g:=g,w0:=w0,D0:=D,L0:=Bs++Qs,rb:=fun id=>if id<nb then(β id).map Pl.blk else none,fr:=frT,mks:=mk,ini:=fun id=>if id<nb then iniB Bs id else none}
   have hini:∀k tp,sp.blks[k]?=some tp→∃m c,Bs[k]?=some (bx m tp.1 c)∧ct.ini k=some (m,tp.1,c):=by
    intro k tp hk
    have hlt:=(List.getElem?_eq_some_iff.1 hk).1
    obtain⟨m,c,h1,_⟩:=hBg k tp hk _ (List.getElem?_eq_getElem (by rw[hBl];exact hlt))
    have h2:Bs[k]?=some (bx m tp.1 c):=by rw[List.getElem?_eq_getElem (by rw[hBl];exact hlt),h1]
    refine⟨m,c,h2,?_⟩
    show(if k<nb then iniB Bs k else none)=_
    rw[if_pos hlt]
    unfold iniB
    rw[h2]
   have hS0:RSx ct ρ0 D (Bs++Qs.reverse) [] {E:=Qfp 0 l,L:=L++m2.L,nx:=m2.nx,md:=⟨0, []⟩ } a w0:=by
    refine⟨fun i p hp=> ?_,fun i p hp=> ?_,fun e he=> ?_,?_,hE.size,(by rw[hE.ds];exact DsOk.nil),fun t sv ht=> ?_,?_,?_,trivial,fun id m t c hid=> ?_,⟨Nat.zero_le _,fun i hi=>absurd hi (Nat.not_lt_zero i)⟩,fun _ _ h=>by cases h⟩
    ·have hp:(if i<nb then(β i).map Pl.blk else none)=some p:=hp
     split at hp
     ·rename_i hlt;simp only[ρ0];rw[if_pos hlt];exact hp
     ·cases hp
    ·show i<m2.nx
     simp only[ρ0]at hp
     split at hp
     ·omega
     ·obtain⟨x,hx,_⟩:=Option.map_eq_some_iff.1 hp
      have:=(List.getElem?_eq_some_iff.1 hx).1
      omega
    ·show e.2.1<m2.nx
     rcases List.mem_append.1 he with he|he
     ·have h1:=Y2 e he
      have h2:e.1∈L.map (·.1):=List.mem_map.2 ⟨e,he,rfl⟩
      rw[Y1,List.mem_range'_1]at h2
      omega
     ·rw[eoL,List.mem_reverse]at he
      have h1:=eid2 e he
      have h2:e.1∈eo.map (·.1):=List.mem_map.2 ⟨e,he,rfl⟩
      rw[eid1,List.mem_range'_1]at h2
      omega
    ·show((L++m2.L).map (·.1)).Nodup
     rw[List.map_append,Y1,eoL,List.map_reverse,eid1,List.nodup_append]
     refine⟨List.nodup_range',(List.reverse_perm _).nodup_iff.2 List.nodup_range',fun x hx y hy=> ?_⟩
     rw[List.mem_range'_1]at hx
     rw[List.mem_reverse,List.mem_range'_1]at hy
     omega
    ·obtain⟨k,v,e,h1,h2⟩:=Qjg l 0 vals R1 t sv ht
     subst e
     exact⟨v,hE.at_ _ _ (QcS vals 0 k v h1),h2⟩
    ·show RLs ρ0 D (L++m2.L) _
     rw[eoL]
     exact Zx R2 (Qi6 R4)
    ·refine(Stp.refl hSt).prm ?_
     rw[List.append_nil]
     exact List.Perm.append_left _ (List.reverse_perm Qs).symm
    ·have hid:(if id<nb then iniB Bs id else none)=some (m,t,c):=hid
     split at hid
     ·rename_i hlt
      obtain⟨tp,htp⟩:∃tp,sp.blks[id]?=some tp:=⟨_,List.getElem?_eq_getElem hlt⟩
      have hlt':id<Bs.length:=by rw[hBl];exact hlt
      obtain⟨m',c',h1,h2⟩:=hBg id tp htp _ (List.getElem?_eq_getElem hlt')
      have h3:Bs[id]?=some (bx m' tp.1 c'):=by rw[List.getElem?_eq_getElem hlt',h1]
      unfold iniB at hid
      rw[h3]at hid
      simp only[Qa,Qe]at hid
      obtain⟨rfl,rfl,rfl⟩:=hid
      rw[Nat.zero_add]at h2
      refine⟨by simp only[ρ0];rw[if_pos hlt,h2];rfl,fun b hb=> ?_⟩
      exact(hSt.l m' (.cells c'.toArray tp.1 (0,0),0) (List.mem_append_left _ (List.mem_of_getElem? h3))).1
     ·cases hid
   have hsl:∀k,k<sp.blks.length→∃b,lookA (L++m2.L) k=some (k,b):=fun k hk=>by
    have h1:k∈L.map (·.1):=by rw[Y1,List.mem_range'_1];omega
    obtain⟨e,he,h2⟩:=List.mem_map.1 h1
    have h3:=Yc (List.mem_append_left m2.L he) hS0.nd
    obtain⟨i,v,b⟩:=e
    have h4:v=i:=Y2 _ he
    have h2:i=k:=h2
    subst h2 h4
    exact⟨b,h3⟩
   exact hk ct a rfl rfl (fun x h=>h) ⟨rfl,fun _ _ _ _=>trivial⟩ rfl rfl rfl rfl (fun b m hb hm=>by
     show(if b<nb then(β b).map Pl.blk else none)=_
     rw[if_pos hb,hm];rfl) hBl hini hsl ⟨ρ0,D,_, [],hS0⟩
  ·cases hs0
 ·cases hs0
theorem Qjk(hT:TbOk T){P:Program}{G:List (Nat×Dy T)}{sps:List (FSp T)}{rvs:List (RvSp T)}{mps:List (FuncId×(SV T→Option (SV T)))}{K n:Nat}{sp:FSp T}{f:Func}{c:Code}{h:Hn}(hf:P.funcs[sp.fid]?=some f)(hb:f.body=some c)(hn:f.ntmps=n)(hle:Nat.ble (lenP sp.args) n=true)(hl:lstP sp.args=true)
  (hsp:∀sp∈sps,VOk P G sp) (hrv:∀x∈rvs,RvOk P x) (hmp:∀f g,lookA mps f=some g→MpOk P f g) {g w0:World} {D:Snap} {β:Nat→Option Nat} {p:TU T.ty sp.pt} {dA dB:List (Dy T)} {oA oB:List (Nat×Pl)} {vals:List Value} {Bs Qs:List Blk} {α:Type} {k:SS T→Ke→SS T→Option α} {z:α} {Rr:Ending→World→Prop}
  (hG:GlO G D) (hp:ofU sp.pt p=dA++dB) (hA:PR β D (OwQ Qs D) sp.args true dA oA vals) (hB:PRB β D (OwQ Qs D) sp.blks 0 dB oB Bs) (hidx:(oA++oB).map (·.1)=List.range Qs.length) (hSt:St g w0 D (Bs++Qs))
  (hr:(oE (start sp p) fun s0=>sx (cx P G sps K n rvs mps) c h s0 (k s0))=some z)
  (hfin:∀(ct:Ct) (s0 s':SS T) (e:Ke) (a':Act) (w':World),(ct.ds= []∧∀m D a R,ct.fr.p m D a R)→ct.g=g→ct.w0=w0→ct.D0=D→ct.L0=Bs++Qs→(∀b n,b<sp.blks.length→β b=some n→ct.rb b=some (.blk n))→Bs.length=sp.blks.length→
   (∀k tp,sp.blks[k]?=some tp→∃n c,Bs[k]?=some (bx n tp.1 c)∧ct.ini k=some (n,tp.1,c))→(∀k,k<sp.blks.length→∃b,lookA s0.L k=some (k,b))→k s0 e s'=some z→RS ct s' a' w'→bodyPostM (Fw none) 0 P f Rr (exK e) a' w'):
  CallsIn (Fw none) 0 P sp.fid vals.toArray w0 Rr:=by
 obtain⟨s0,hs0,hr⟩:=Jy hr
 refine QgQ true hf hb hn hle hl hp hA hB hidx hSt hs0 fun ct a e1 e2 e3 e4 e5 e6 e7 e8 e9 e10 e11 e12 hS0=> ?_
 have hC:QcW (cx P G sps K n rvs mps:Cx T) ct:=⟨⟨⟨hT,by rw[e7];exact hG⟩,hsp,e1.symm,hrv,hmp⟩,e3,(by intro Y hY;cases hY),fun _=>⟨e2,e4.2⟩⟩
 exact QhQ hC c h s0 _ z _ a w0 hr hS0 fun e s' a' w' hx hk hS'=>hfin ct s0 s' e a' w' e4 e5 e6 e7 e8 e9 e10 e11 e12 hk hS'
theorem Qto(hT:TbOk T){P:Program}{G:List (Nat×Dy T)}{sps:List (FSp T)}{rvs:List (RvSp T)}{mps:List (FuncId×(SV T→Option (SV T)))}{K n:Nat}{sp:FSp T}{f:Func}{c:Code}{h:Hn}(hf:P.funcs[sp.fid]?=some f)(hb:f.body=some c)(hn:f.ntmps=n)(hle:Nat.ble (lenP sp.args) n=true)(hl:lstP sp.args=true)
  (hsp:∀sp∈sps,VOk P G sp) (hrv:∀x∈rvs,RvOk P x) (hmp:∀f g,lookA mps f=some g→MpOk P f g) (hfn:∀p,sp.fn p=funS (cx P G sps K n rvs mps) sp f h p):Qxe P G sp:=by
 intro g w0 D β p dA dB oA oB vals Bs Qs r hG hp hA hB hidx hSt hr
 have hr:funS (cx P G sps K n rvs mps) sp f h p=some r:=by rw[←hfn];exact hr
 unfold funS at hr
 rw[hb]at hr
 refine Qjk hT hf hb hn hle hl hsp hrv hmp hG hp hA hB hidx hSt hr fun ct s0 s' e a' w' e1 e2 e3 e4 e5 hrb hBl hini hsl hk hS'=> ?_
 obtain⟨ρ',D',Lv',R',hS'⟩:=hS'
 subst e2 e3 e4
 have fin:finS P sp f.results.toList s0 s'=some r→bodyPostM (Fw none) 0 P f (FinP sp ct.g ct.w0 ct.D0 β Bs Qs r) .ret a' w':=fun hfi=>
  Qmk (C:=(cx P G sps K n rvs mps)) (ct:=ct) hT hS' hfi e1 e5 hrb hBl hini hsl
 cases e with
 |nm=>exact fin hk
 |rt=>exact fin hk
 |ex i=>cases hk
 |pn x e=>cases hk
theorem Qml:∀(pk:List Bool) (i:Nat) {es:List (Nat×Nat×SB T)} {Bq Bs:List Blk},RSx ct ρ D Lv R s a w→RLs ρ D es Bq→es.map (fun e=>(e.1,e.2.1))=pkI pk i→(∀e∈es,e∈s.L)→(∀q∈Bq,q∈Lv)→pk.length≤Bs.length→
  (∀k,k<Bs.length→∃n t c,Bs[k]?=some (bx n t c)∧ct.ini (i+k)=some (n,t,c))→Bq=Qan pk Bs
 | [],i,es,Bq,Bs,h,h1,h2,_,_,_,_=>by
  cases es with
  |nil=>cases h1;unfold Qan;rfl
  |cons e es=>cases h2
 |b::pk,i,es,Bq, [],h,h1,h2,_,_,h3,_=>by simp at h3
 |false::pk,i,es,Bq,q::Bs,h,h1,h2,h4,h5,h3,hi=>Qml pk (i+1) h h1 h2 h4 h5 (by simpa using h3) fun k hk=>by
  obtain⟨n,t,c,g1,g2⟩:=hi (k+1) (by simpa using hk)
  exact⟨n,t,c,by simpa using g1,by rw[show i+1+k=i+(k+1) by omega];exact g2⟩
 | true::pk,i,es,Bq,q::Bs,h,h1,h2,h4,h5,h3,hi=>by
  cases es with
  |nil=>cases h2
  | cons e es=>
   obtain⟨id,ver,b⟩:=e
   simp only[pkI,List.map_cons,List.cons.injEq,Qe]at h2
   obtain⟨⟨e1,e2⟩,h2⟩:=h2
   have e1:=e1.symm;have e2:=e2.symm
   subst e1;subst e2
   obtain⟨q',Bq',rfl,h6,h7⟩:=h1
   have ih:=Qml pk (i+1) (Bs:=Bs) h h7 h2 (fun e he=>h4 e (List.mem_cons_of_mem _ he)) (fun q hq=>h5 q (List.mem_cons_of_mem _ hq)) (by simpa using h3) fun k hk=>by
    obtain⟨n,t,c,g1,g2⟩:=hi (k+1) (by simpa using hk)
    exact⟨n,t,c,by simpa using g1,by rw[show i+1+k=i+(k+1) by omega];exact g2⟩
   obtain⟨n,t,c,g1,g2⟩:=hi 0 (by simp)
   simp only[List.getElem?_cons_zero,Qa]at g1
   subst g1
   rw[Nat.add_zero]at g2
   obtain⟨k1,k2⟩:=h.ini _ _ _ _ g2
   have k3:=k2 b (Yc (h4 _ List.mem_cons_self) h.nd)
   show q'::Bq'=bx n t c::Qan pk Bs
   rw[←ih]
   congr 1
   have hq:q'∈Lv++R:=List.mem_append_left _ (h5 q' List.mem_cons_self)
   cases b with
   |own t' e' xs' f'=>
    obtain⟨A,cap,z1,_⟩:=h6
    rw[k1]at z1;cases z1
   |lnt t' xs'=>
    obtain⟨A,cap,z1,_⟩:=h6
    rw[k1]at z1;cases z1
   |var t' v=>
    obtain⟨m,c',z1,z2,rfl⟩:=h6
    rw[k1]at z1
    cases z1
    have hh:=(h.st.st.l n _ hq).1
    rw[k3]at hh
    simp only[Qa,Obj.cells.injEq,and_true]at hh
    obtain⟨z3,rfl⟩:=hh
    rw[List.toArray_inj z3]
theorem QvT(hT:TbOk T){P:Program}{G:List (Nat×Dy T)}{sps:List (FSp T)}{rvs:List (RvSp T)}{mps:List (FuncId×(SV T→Option (SV T)))}{K n:Nat}{sp:FSp T}{f:Func}{c:Code}{h:Hn}(hf:P.funcs[sp.fid]?=some f)(hb:f.body=some c)(hn:f.ntmps=n)
  (hok:(Nat.ble (lenP sp.args) n&&(lstP sp.args&&(lstP sp.res&& !(f.name== "runtime.NumGoroutine"))))=true)
  (hsp:∀sp∈sps,VOk P G sp) (hrv:∀x∈rvs,RvOk P x) (hmp:∀f g,lookA mps f=some g→MpOk P f g) (hgn:(fun p=>sp.fn p)=fun p=>sm (sp.fs p) (fun _=>none) some) (hfn:(fun p=>sp.fs p)=funP (cx P G sps K n rvs mps) sp f h):VOk P G sp:=by
 rw[Qd,Qd,Qd]at hok
 have hfr:∀p r,sp.fn p=some r→sp.fs p=some (.inr r):=fun p r hr=>by
  have:sp.fn p=sm (sp.fs p) (fun _=>none) some:=congrFun hgn p
  rw[hr]at this
  rcases QuJ this.symm with⟨_,_,h⟩|⟨y,h1,h2⟩
  ·cases h
  ·cases h2;exact h1
 refine⟨?_,?_,hok.2.2.1,fun x _ p r h1=> ?_,fun y hy=> ?_⟩
 ·intro g w0 D β p dA dB oA oB vals Bs Qs r hG hp hA hB hidx hSt hr
  have hr:funP (cx P G sps K n rvs mps) sp f h p=some (.inr r):=by rw[←hfn];exact hfr p r hr
  unfold funP at hr
  rw[hb]at hr
  refine Qjk hT hf hb hn hok.1 hok.2.1 hsp hrv hmp hG hp hA hB hidx hSt hr fun ct s0 s' e a' w' e1 e2 e3 e4 e5 hrb hBl hini hsl hk hS'=> ?_
  obtain⟨ρ',D',Lv',R',hS'⟩:=hS'
  subst e2 e3 e4
  have fin:(oE (finS P sp f.results.toList s0 s') fun r=>some (Sum.inr (α:=Int) r))=some (.inr r)→bodyPostM (Fw none) 0 P f (FinP sp ct.g ct.w0 ct.D0 β Bs Qs r) .ret a' w':=fun hfi=>by
   obtain⟨y,h1,h2⟩:=Jy hfi
   cases h2
   exact Qmk (C:=(cx P G sps K n rvs mps)) (ct:=ct) hT hS' h1 e1 e5 hrb hBl hini hsl
  cases e with
  |nm=>exact fin hk
  |rt=>exact fin hk
  |ex i=>cases hk
  | pn x e=>
   simp only at hk
   split at hk
   ·rename_i y hy
    cases hbb:(Nat.beq x.1 y.1&&(x.2==y.2))with
    |true=>
     rw[hbb]at hk
     cases hpk:(Nat.ble sp.pk.length sp.blks.length&&(Qgk (pkI sp.pk 0) s'.L).isSome)with
     |true=>simp only[hpk,Qg]at hk;cases hk
     |false=>simp only[hpk,Qg,Qh]at hk;cases hk
    |false=>rw[hbb]at hk;cases hk
   ·cases hk
 ·rw[hf]
  simp only[Option.map_some,hb,Option.isNone_some,Qa,Qe,and_true]
  simpa using hok.2.2.2
 ·have:sp.fn p=sm (sp.fs p) (fun _=>none) some:=congrFun hgn p
  rw[this,h1]
  rfl
 ·intro g w0 D β p dA dB oA oB vals Bs Qs e hG hp hA hB hidx hSt hr
  have hr:funP (cx P G sps K n rvs mps) sp f h p=some (.inl e):=by rw[←hfn];exact hr
  unfold funP at hr
  rw[hb]at hr
  refine Qjk hT hf hb hn hok.1 hok.2.1 hsp hrv hmp hG hp hA hB hidx hSt hr fun ct s0 s' k a' w' e1 e2 e3 e4 e5 hrb hBl hini hsl hk hS'=> ?_
  obtain⟨ρ',D',Lv',R',hS'⟩:=hS'
  subst e2 e3 e4
  have fin:(oE (finS P sp f.results.toList s0 s') fun r=>some (Sum.inr (α:=Int) r))=some (.inl e)→False:=fun hfi=>by
   obtain⟨y,h1,h2⟩:=Jy hfi
   cases h2
  cases k with
  |nm=>exact(fin hk).elim
  |rt=>exact(fin hk).elim
  |ex i=>cases hk
  | pn x e'=>
   simp only at hk
   rw[hy]at hk
   simp only at hk
   cases hbb:(Nat.beq x.1 y.1&&(x.2==y.2))with
   |false=>rw[hbb]at hk;cases hk
   | true=>
    rw[hbb]at hk
    simp only[Qg]at hk
    cases hpk:(Nat.ble sp.pk.length sp.blks.length&&(Qgk (pkI sp.pk 0) s'.L).isSome)with
    |false=>rw[hpk]at hk;cases hk
    |true=>
    rw[hpk]at hk
    simp only[Qg,Qa,Sum.inl.injEq]at hk
    subst hk
    rw[Qd]at hbb hpk
    obtain⟨⟨es,L2⟩,hpick⟩:=Option.isSome_iff_exists.1 hpk.2
    have hxy:x=y:=Prod.ext (Qc hbb.1) (by simpa using hbb.2)
    subst hxy
    show LeavesInM (Fw none) 0 P f a'.tmps _ a'.defers (.panicking [{v:=pvV x e',recovered:=false}]) w'
    refine Qit (C:=(cx P G sps K n rvs mps)) (by simp) e1.2 hS' fun R2 w2 h9=> ?_
    rw[e1.1]
    refine⟨rfl,D',?_⟩
    obtain⟨Bq,Ls2,b1,b2,b3,b4,b5,b6⟩:=QcQ _ _ _ _ _ hpick h9.l h9.nd
    have hBq:Bq=Qan sp.pk Bs:=Qml sp.pk 0 h9 b4 b5 (fun e he=>b6.symm.subset (List.mem_append_left _ he)) (fun q hq=>b1.symm.subset (List.mem_append_left _ hq)) (by rw[hBl];exact Nat.le_of_ble_eq_true hpk.1) fun k hk=>by
     obtain⟨n,c,g1,g2⟩:=hini k _ (List.getElem?_eq_getElem (by rw[←hBl];exact hk))
     exact⟨n,_,c,g1,by rw[Nat.zero_add];exact g2⟩
    have h10:=h9.st
    rw[e5]at h10
    have h11:(Lv'++R2).Perm ((Ls2++R2)++Qan sp.pk Bs):=by
     rw[hBq]at b1
     refine(List.Perm.append_right R2 b1).trans ?_
     rw[List.append_assoc]
     exact List.perm_append_comm
    exact(h10.prm h11).drops
theorem QuP(hT:TbOk T){P:Program}{G:List (Nat×Dy T)}{sps:List (FSp T)}{rvs:List (RvSp T)}{mps:List (FuncId×(SV T→Option (SV T)))}{K n:Nat}{sp:FSp T}{f:Func}{c:Code}{h:Hn}(hf:P.funcs[sp.fid]?=some f)(hb:f.body=some c)(hn:f.ntmps=n)
  (hok:(Nat.ble (lenP sp.args) n&&(lstP sp.args&&(lstP sp.res&&(!(f.name== "runtime.NumGoroutine")&&sp.pv.isNone))))=true)
  (hsp:∀sp∈sps,VOk P G sp) (hrv:∀x∈rvs,RvOk P x) (hmp:∀f g,lookA mps f=some g→MpOk P f g) (hfn:(fun p=>sp.fn p)=funS (cx P G sps K n rvs mps) sp f h):VOk P G sp:=by
 rw[Qd,Qd,Qd,Qd]at hok
 refine⟨Qto hT hf hb hn hok.1 hok.2.1 hsp hrv hmp (fun p=>congrFun hfn p),?_,hok.2.2.1,fun x hx=> ?_,fun x hx=> ?_⟩
 ·rw[hf]
  simp only[Option.map_some,hb,Option.isNone_some,Qa,Qe,and_true]
  simpa using hok.2.2.2.1
 ·rw[hx]at hok;simp at hok
 ·rw[hx]at hok;simp at hok
theorem Qe9{P:Program}:∀x∈([]:List (RvSp T)),RvOk P x:=fun _ h=>by cases h
theorem QvU{P:Program}{x:RvSp T}{l:List (RvSp T)}(h:RvOk P x)(h':∀x∈l,RvOk P x):∀y∈x::l,RvOk P y:=fun y hy=>by
 rcases List.mem_cons.1 hy with rfl|hy
 ·exact h
 ·exact h' y hy
theorem Qfa{P:Program}:∀f g,lookA ([]:List (FuncId×(SV T→Option (SV T)))) f=some g→MpOk P f g:=fun _ _ h=>by cases h
theorem QvV{P:Program}{f:FuncId}{g:SV T→Option (SV T)}{l:List (FuncId×(SV T→Option (SV T)))}(h:MpOk P f g)(h':∀f g,lookA l f=some g→MpOk P f g):∀f' g',lookA ((f,g)::l) f'=some g'→MpOk P f' g':=fun f' g' hl=>by
 simp only[lookA]at hl
 cases hb:Nat.beq f f' with
 |true=>
  rw[hb]at hl
  obtain rfl:=Qc hb
  simp only[Qg,Qa]at hl
  subst hl
  exact h
 |false=>rw[hb]at hl;exact h' f' g' hl
theorem QkK{P:Program}{G:List (Nat×Dy T)}:∀sp∈([]:List (FSp T)),VOk P G sp:=fun _ h=>by cases h
theorem Jt{P:Program}{G:List (Nat×Dy T)}{sp:FSp T}{l:List (FSp T)}(h:VOk P G sp)(h':∀sp∈l,VOk P G sp):∀x∈sp::l,VOk P G x:=fun x hx=>by
 rcases List.mem_cons.1 hx with rfl|hx
 ·exact h
 ·exact h' x hx
theorem QuQ{P:Program}{G:List (Nat×Dy T)}{sp:FSp T}{f:Func}{c:Code}(hf:P.funcs[sp.fid]?=some f)(hb:f.body=some c)(hok:(lstP sp.res&&(!(f.name== "runtime.NumGoroutine")&&sp.pv.isNone))=true)(hfn:∀p,sp.fn p=none):VOk P G sp:=by
 rw[Qd,Qd]at hok
 refine⟨fun g w0 D β p dA dB oA oB vals Bs Qs r _ _ _ _ _ _ hr=> ?_,?_,hok.1,fun x hx=>by rw[hx]at hok;simp at hok,fun x hx=>by rw[hx]at hok;simp at hok⟩
 ·rw[hfn]at hr;cases hr
 ·rw[hf]
  simp only[Option.map_some,hb,Option.isNone_some,Qa,Qe,and_true]
  simpa using hok.2.1
theorem QvW{P:Program}{G:List (Nat×Dy T)}{sp:FSp T}{f:Func}{c:Code}(hf:P.funcs[sp.fid]?=some f)(hb:f.body=some c)(hok:(lstP sp.res&& !(f.name== "runtime.NumGoroutine"))=true)(hfn:∀p,sp.fn p=none)(hfs:∀p,sp.fs p=none):VOk P G sp:=by
 rw[Qd]at hok
 refine⟨fun g w0 D β p dA dB oA oB vals Bs Qs r _ _ _ _ _ _ hr=> ?_,?_,hok.1,fun x hx p r h=> ?_,fun x hx g w0 D β p dA dB oA oB vals Bs Qs r _ _ _ _ _ _ hr=> ?_⟩
 ·rw[hfn]at hr;cases hr
 ·rw[hf]
  simp only[Option.map_some,hb,Option.isNone_some,Qa,Qe,and_true]
  simpa using hok.2
 ·rw[hfs]at h;cases h
 ·rw[hfs]at hr;cases hr
end
section
variable {T:Tb}{P:Program}{G:List (Nat×Dy T)}
def agV(T:Tb)(t:Ty)(D:Snap)(x:den T.ty t)(v:Value):Prop:=bif agT t then ∃c,(kdT T t).r D x c∧v= .agg c.toArray else(kdT T t).r D x [v]
def VU(T:Tb)(D:Snap):(ts:List Ty)→TU T.ty ts→List Value→Prop
 | [],_,vs=>vs= []
 | [t],x,vs=>∃v,agV T t D x v∧vs= [v]
 |t::t'::ts,p,vs=>∃v vs',agV T t D p.1 v∧VU T D (t'::ts) p.2 vs'∧vs=v::vs'
def dts:List Ty→Pt
 | []=> .nl
 |t::ts=> .cs (.dt t) (dts ts)
theorem QvX{β:Nat→Option Nat}{D:Snap}{O:OwT T}:∀(ts:List Ty) (p:TU T.ty ts) (ds:List (Dy T)) (os:List (Nat×Pl)) (vs:List Value),PR β D O (dts ts) true ds os vs→ofU ts p=ds→os= []∧VU T D ts p vs
 | [],_,_,_,_,⟨_,h2,h3⟩,_=>⟨h2,h3⟩
 | [t],x,ds,os,vs,⟨d1,d2,o1,o2,v,c2,e1,e2,e3,h1,⟨e4,e5,e6⟩⟩,hp=>by
  subst e4 e5 e6 e1 e2 e3
  have key:∀{c:List Value},PR β D O (.dt t) false d1 o1 c→o1= []∧(kdT T t).r D x c:=fun⟨y,h3,h4,h5⟩=>by
   subst h3
   simp only[ofU,List.append_nil,List.cons.injEq,and_true]at hp
   cases hp
   exact⟨h4,h5⟩
  unfold VU agV
  have ha:agP (.dt t)=agT t:=rfl
  rw[ha]at h1
  cases hb:agT t with
  |true=>
   rw[hb]at h1
   obtain⟨c1,h3,h4⟩:=h1
   obtain⟨h5,h6⟩:=key h3
   exact⟨by simp[h5],v,⟨c1,h6,h4⟩,rfl⟩
  |false=>
   rw[hb]at h1
   obtain⟨h5,h6⟩:=key h1
   exact⟨by simp[h5],v,h6,rfl⟩
 | t::t'::ts,p,ds,os,vs,⟨d1,d2,o1,o2,v,c2,e1,e2,e3,h1,h2⟩,hp=>by
  subst e1 e2 e3
  have key:∀{c:List Value},PR β D O (.dt t) false d1 o1 c→o1= []∧(kdT T t).r D p.1 c∧ofU (t'::ts) p.2=d2:=fun⟨y,h3,h4,h5⟩=>by
   subst h3
   have hp:(⟨t,p.1⟩:Dy T)::ofU (t'::ts) p.2= [⟨t,y⟩]++d2:=hp
   simp only[List.cons_append,List.nil_append,List.cons.injEq]at hp
   obtain⟨h6,h7⟩:=hp
   cases h6
   exact⟨h4,h5,h7⟩
  unfold VU agV
  have ha:agP (.dt t)=agT t:=rfl
  rw[ha]at h1
  cases hb:agT t with
  |true=>
   rw[hb]at h1
   obtain⟨c1,h3,h4⟩:=h1
   obtain⟨h5,h6,h7⟩:=key h3
   obtain⟨h8,h9⟩:=QvX (t'::ts) p.2 d2 o2 c2 h2 h7
   exact⟨by simp[h5,h8],v,c2,⟨c1,h6,h4⟩,h9,rfl⟩
  |false=>
   rw[hb]at h1
   obtain⟨h5,h6,h7⟩:=key h1
   obtain⟨h8,h9⟩:=QvX (t'::ts) p.2 d2 o2 c2 h2 h7
   exact⟨by simp[h5,h8],v,c2,h6,h9,rfl⟩
theorem Qcf{fid:FuncId}{ts:List Ty}{rt:Ty}{e:TypeId}{f:Bool}{fn:TU T.ty ts→Option (List (den T.ty rt))}
  (hc:∀(g w0:World) (D:Snap) (p:TU T.ty ts) (vals:List Value) (r:List (den T.ty rt)),GlO G D→VU T D ts p vals→St g w0 D []→fn p=some r→
   CallsIn (Fw none) 0 P fid vals.toArray w0 fun e' w'=>∃u,e'= .returned u∧∃D' A cap q,u= .slice A r.length cap∧OwnX f (kdT T rt) e D' A cap r q∧Stp g w0 D [] w' D' [q])
  (hfn:(P.funcs[fid]?).map (fun F=>(F.name== "runtime.NumGoroutine",F.body.isNone))=some (false,false)):
  VOk P G ({fid:=fid,args:=dts ts,blks:= [],pt:=ts,rt:= [.sl rt],fn:=fn,res:= .cs (.own rt e f) .nl,out:= [],new:= [] }:FSp T):=by
 refine⟨?_,hfn,rfl,fun _ hx=>(by cases hx),fun _ hx=>(by cases hx)⟩
 intro g w0 D β p dA dB oA oB vals Bs Qs r hG hp hA hB hidx hSt hr
 obtain⟨e1,e2,e3⟩:dB= []∧oB= []∧Bs= []:=hB
 subst e1 e2 e3
 have hp:ofU ts p=dA:=by rw[hp,List.append_nil]
 obtain⟨h1,h2⟩:=QvX ts p dA oA vals hA hp
 subst h1
 have hq:Qs= []:=by
  have:=congrArg List.length hidx
  simp at this
  exact List.eq_nil_of_length_eq_zero this.symm
 subst hq
 refine CallsIn.mono (hc g w0 D p vals r hG h2 hSt hr) fun e' w' ⟨u,h3,D',A,cap,q,h4,h5,h6⟩=> ?_
 refine⟨u,h3,D',β, [], [], [q], [⟨.sl rt,r⟩], [], [], [(0,.own A cap (List.length r))], [], [], [u],fun _ _ _ h=>h,rfl,⟨[⟨.sl rt,r⟩], [], [(0,.own A cap (List.length r))], [],u, [],rfl,rfl,rfl,?_,rfl,rfl,rfl⟩,rfl,⟨rfl,rfl,rfl,rfl⟩,⟨rfl,rfl,rfl⟩,rfl,h6⟩
 exact⟨r,0,A,cap,rfl,rfl,by rw[h4],q,rfl,h5⟩
theorem Qxz{β:Nat→Option Nat}{D:Snap}{O:OwT T}:∀(ts:List Ty) (p:TU T.ty ts) (vs:List Value),VU T D ts p vs→PR β D O (dts ts) true (ofU ts p) [] vs
 | [],_,_,h=>⟨rfl,rfl,h⟩
 | [t],x,_,⟨v,h1,e⟩=>by
  subst e
  refine⟨[⟨t,x⟩], [], [], [],v, [],rfl,rfl,rfl,?_,rfl,rfl,rfl⟩
  have ha:agP (.dt t)=agT t:=rfl
  rw[ha]
  unfold agV at h1
  cases hb:agT t with
  |true=>rw[hb]at h1;obtain⟨c,h2,h3⟩:=h1;exact⟨c,⟨x,rfl,rfl,h2⟩,h3⟩
  |false=>rw[hb]at h1;exact⟨x,rfl,rfl,h1⟩
 |t::t'::ts,p,_,⟨v,vs,h1,h2,e⟩=>by
  subst e
  refine⟨[⟨t,p.1⟩],ofU (t'::ts) p.2, [], [],v,vs,rfl,rfl,rfl,?_,Qxz (t'::ts) p.2 vs h2⟩
  have ha:agP (.dt t)=agT t:=rfl
  rw[ha]
  unfold agV at h1
  cases hb:agT t with
  |true=>rw[hb]at h1;obtain⟨c,h3,h4⟩:=h1;exact⟨c,⟨p.1,rfl,rfl,h3⟩,h4⟩
  |false=>rw[hb]at h1;exact⟨p.1,rfl,rfl,h1⟩
theorem QvY{D:Snap}:GlO ([]:List (Nat×Dy T)) D:=fun _ _ h=>by cases h
theorem QnN{D:Snap}{n:Nat}{d:Dy T}{G:List (Nat×Dy T)}(h:Cell (kdT T d.t) D n 0 d.x)(h':GlO G D):GlO ((n,d)::G) D:=fun g d' hl=>by
 simp only[lookA]at hl
 cases hb:Nat.beq n g with
 |true=>
  rw[hb]at hl
  obtain rfl:=Qc hb
  simp only[Qg,Qa]at hl
  subst hl
  exact h
 |false=>rw[hb]at hl;exact h' g d' hl
theorem QvZ{fid:FuncId}(ts:List Ty){fn:TU T.ty ts→Option Bool}{vs:List Value}{g w0:World}{D:Snap}{p:TU T.ty ts}{r:Bool}
  (h:VOk P G ({fid:=fid,args:=dts ts,blks:= [],pt:=ts,rt:= [.bool],fn:=fn,res:= .cs (.dt .bool) .nl,out:= [],new:= [] }:FSp T)) (hf:fn p=some r) (hG:GlO G D) (hv:VU T D ts p vs) (hS:St g w0 D []):
  CallsIn (Fw none) 0 P fid vs.toArray w0 fun e w'=>∃v,e= .returned v∧∃D1,v= .bool r∧Stp g w0 D [] w' D1 []:=by
 refine(h.v g w0 D (fun _=>none) p (ofU ts p) [] [] [] vs [] [] r hG (by simp) (Qxz ts p vs hv) ⟨rfl,rfl,rfl⟩ rfl hS hf).mono fun e w' hh=> ?_
 obtain⟨v,e1,D',β',Bs',Ns,Qs',dR,dO,dN,oR,oO,oN,vs',h1,h2,h3,h4,h5,h6,h7,h8⟩:=hh
 obtain⟨_,g2,g3,g4⟩:dO= []∧oO= []∧([]:List Blk)= []∧Bs'= []:=h5
 obtain⟨f1,f2,f3⟩:dN= []∧oN= []∧Ns= []:=h6
 obtain⟨d1,d2,o1,o2,u,c2,k1,k2,k3,k4,k5,k6,k7⟩:=h3
 subst k5 k6 k7
 obtain⟨x,m1,m2,m3⟩:∃x:Bool,d1= [⟨.bool,x⟩]∧o1= []∧ [u]= [.bool x]:=k4
 subst g2 f2 m2 k2
 have hq:Qs'= []:=by
  have:=congrArg List.length h7
  simp at this
  exact List.eq_nil_of_length_eq_zero this.symm
 subst hq g4 f3
 have h2: [(⟨.bool,r⟩:Dy T)]=dR++(dO++dN):=h2
 rename_i ea
 subst k1 m1 f1
 have hx:x=r:=by
  simp only[List.append_nil,List.cons_append,List.nil_append]at h2
  injection h2 with z1 z2
  cases z1
  rfl
 subst hx
 refine⟨v,e1,D',?_,h8⟩
 rw[h4,k3]
 cases m3
 rfl
theorem QxA{D:Snap}{t:Ty}{x:den T.ty t}{v:Value}(h:agV T t D x v):VU T D [t] x [v]:=⟨v,h,rfl⟩
theorem Qjl{D:Snap}{t t':Ty}{ts:List Ty}{x:den T.ty t}{p:TU T.ty (t'::ts)}{v:Value}{vs:List Value}(h:agV T t D x v)(h':VU T D (t'::ts) p vs):VU T D (t::t'::ts) (x,p) (v::vs):=⟨v,vs,h,h',rfl⟩
theorem ag_v{D:Snap}{t:Ty}{x:den T.ty t}{v:Value}(hb:agT t=false)(h:(kdT T t).r D x [v]):agV T t D x v:=by unfold agV;rw[hb];exact h
theorem ag_a{D:Snap}{t:Ty}{x:den T.ty t}{c:List Value}(hb:agT t=true)(h:(kdT T t).r D x c):agV T t D x (.agg c.toArray):=by unfold agV;rw[hb];exact⟨c,h,rfl⟩
end
end Go.Sep
