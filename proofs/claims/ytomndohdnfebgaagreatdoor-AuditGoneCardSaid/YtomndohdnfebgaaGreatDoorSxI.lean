/-
 Symbolic execution: what patterns mean; values are matched, and made.
-/
import Derived.Test.YtomndohdnfebgaaGreatDoorSxG
set_option linter.unusedVariables false
set_option linter.unusedSimpArgs false
namespace Go.Sep
section
variable {T:Tb}{C:Cx T}{ct:Ct}{ρ:Rho}{D:Snap}{Lv R:List Blk}{s:SS T}{a:Act}{w:World}
variable {rd:Option Nat}{ops:Array Oper}{Q:Exit→Act→World→Prop}{i:Nat}{o:Oper}{d:Tmp}{Cn:Act→World→Prop}{α:Type}{k:SS T→Option α}{r:α}
theorem yZ{P:Program}{t e by_:Nat}{y:Ty}(h:slT' T P t=some (e,y,by_)):slT P t=some (e,(kdT T y).n,by_,(kdT T y).n)∧Nat.blt 0 (kdT T y).n=true∧Nat.blt 0 by_=true:=by
 unfold slT' at h
 split at h
 ·rename_i e' n by' zl hs
  split at h
  ·rename_i y' hy
   cases hb:(Nat.beq n (szT T y')&&(Nat.beq n zl&&(Nat.blt 0 n&&Nat.blt 0 by')))with
   |false=>rw[hb]at h;cases h
   |true=>
    rw[hb]at h
    simp only[Qg,Qa,Qe]at h
    obtain⟨rfl,rfl,rfl⟩:=h
    simp only[Qd]at hb
    have h1:=Qc hb.1
    have h2:=Qc hb.2.1
    rw[←QbE,←h1]
    refine⟨?_,hb.2.2.1,hb.2.2.2⟩
    rw[hs,h2]
  ·cases h
 ·cases h
theorem QoC{P:Program}{R:World→World→Prop}{n:Nat}{ds:List Deferred}{E:List (Nat×Value)}{C1:Act→Prop}{t N e es b off:Nat}{x ix:Operand}{kk:IntKind}{m:Int}(ho:ops[i]?=some o)(hop:o.op= .indexAddr t x ix)(hg:guardOf ops E o=some true)(hd:o.dst=some d)(hE:Env a n ds E)(hn:Nat.blt d n=true)
  (hx:Yt E x=some (.pointer (some ⟨b,off,none⟩))) (hix:Yt E ix=some (.int kk m)) (hT:arT2 P t=some (N,e,es)) (hm:inA N m=true)
  (c:∀a,Env a n ds ((d,.pointer (some ⟨b,off+m.toNat*es,none⟩))::E)→C1 a):Tk P ops R i n ds E a w C1:=by
 obtain⟨ii,h1,h3,h4⟩:=Qkj hT
 obtain⟨m0,m1,m2⟩:=ZX hm
 refine ZO (v:= .pointer (some ⟨b,off+m.toNat*es,none⟩)) hE ho hg hd hn (by simp[hop,Q5]) (fun w' _=> ?_) c
 have ea:=addr_add b off (m.toNat*es)
 simp[execOp,hop,hE.eval hx,hE.eval hix,Instr.indexAt,asIntOf,Ql h1,m0,m1,Go.sizeOf,typeInfo,h3,h4,Instr.sureAddr,ea]
theorem QuG(hC:CxOk C ct)(h:RSx ct ρ D Lv R s a w)(du:Du ct ops i o a (some d)){t:TypeId}{x ix:Operand}(hop:o.op= .indexAddr t x ix){u:SV T}{uu:Value}{kk:IntKind}{m:Int}(e1:Yt (EvA a) x=some uu)(e2:Yt (EvA a) ix=some (.int kk m))(r1:RV ρ D u uu)
  (hs:(idxS C.P s (some d) t u m).run k=some r) (hk:∀s' a',Ext s s'→k s'=some r→RS ct s' a' w→Cn a' w):Op1 C.P rd ops Q i Cn a w:=by
 unfold idxS at hs
 split at hs
 ·rename_i e y by_ hT
  obtain⟨hT1,hT2,hT3⟩:=yZ hT
  split at hs
  ·rename_i xs s1 hf
   obtain⟨z,s',hz,hs',hkk⟩:=jP hs
   simp only[Qa]at hs'
   subst hs'
   obtain⟨D',Lv',A,cap,hd,h1,rfl,hSl,hx⟩:=Qbp hC.tb hf h r1
   refine Xv h1 (QlR (K:=kdT T y) du.ho hop du.hg du.hd h1.env du.lt e1 e2 hT1 hT2 hSl hz fun a' b off hE hc=>hk _ a' (hx.trans (Ext.put _ _ _)) hkk ⟨ρ,D',Lv',R,h1.put (fun _ _=>YV rfl ⟨b,off,rfl,hc⟩) du.fr hE⟩)
  ·cases hs
 ·cases hs
theorem Qs1(hC:CxOk C ct)(h:RSx ct ρ D Lv R s a w)(du:Du ct ops i o a (some d)){t:TypeId}{x ix:Operand}{ty:TypeId}(hop:o.op= .indexAddr t x ix)(hs:(sopD C s d ty (.indexAddr t x ix)).run k=some r)
  (hk:∀s' a',Ext s s'→k s'=some r→RS ct s' a' w→Cn a' w):Op1 C.P rd ops Q i Cn a w:=by
 simp only[sopD]at hs
 split at hs
 ·rename_i u v hu hv
  obtain⟨uu,e1,r1⟩:=YC hC h hu
  obtain⟨vv,e2,r2⟩:=YC hC h hv
  unfold Qut at hs
  split at hs
  ·rename_i kk m
   obtain rfl:=XL r2
   split at hs
   ·rename_i b off
    split at hs
    ·rename_i n kn hA
     obtain⟨hb,hs⟩:=XB hs
     obtain⟨mb,h3,h4⟩:=Yn rfl r1
     cases h4
     exact Xv h (Qel (N:=n) (k:=kn) du.ho hop du.hg du.hd h.env du.lt e1 e2 hA hb fun a' hE=>hk _ a' (Ext.put _ _ _) hs (h.slot du (YV rfl ⟨mb,h3,rfl,hb⟩) hE))
    ·split at hs
     ·rename_i n e es hA
      split at hs
      ·rename_i y hy
       cases hbb:Nat.beq es (szT T y)with
       |false=>rw[hbb]at hs;cases hs
       |true=>
        rw[hbb]at hs
        obtain rfl:=Qc hbb
        obtain⟨hb,hs⟩:=XB hs
        obtain⟨mb,h3,h4⟩:=Yn rfl r1
        cases h4
        exact Xv h (QoC du.ho hop du.hg du.hd h.env du.lt e1 e2 hA hb fun a' hE=>hk _ a' (Ext.put _ _ _) hs (h.slot du (YV rfl ⟨mb,h3,by rw[Nat.add_zero],hb⟩) hE))
      ·cases hs
     ·cases hs
   ·rename_i kn n vec
    split at hs
    ·rename_i n' k' hA
     cases hn:Nat.beq n n' with
     |false=>rw[hn]at hs;cases hs
     |true=>
      rw[hn]at hs
      obtain rfl:=Qc hn
      obtain⟨hb,hs⟩:=XB hs
      obtain⟨b,off,e,h3⟩:=Yn rfl r1
      cases e
      exact Xv h (Qel (N:=n) (k:=k') du.ho hop du.hg du.hd h.env du.lt e1 e2 hA hb fun a' hE=>hk _ a' (Ext.put _ _ _) hs (h.slot du (YV rfl ⟨b,off+m.toNat,rfl,h3.elemA hb⟩) hE))
    ·cases hs
   ·rename_i o'
    split at hs
    ·rename_i ver t' e' xs e y by_ hl hT
     cases hb:(Nat.beq (szT T t') (szT T y)&&Nat.beq e e')with
     |false=>rw[hb]at hs;cases hs
     | true=>
      rw[hb]at hs
      simp only[Qg]at hs
      rw[Qd]at hb
      have hsz:=Qc hb.1
      obtain rfl:=Qc hb.2
      obtain⟨hT1,hT2,hT3⟩:=yZ hT
      obtain⟨z,s',hz,hs',hkk⟩:=jP hs
      simp only[Qa]at hs'
      subst hs'
      obtain⟨X,q,Y,e3,⟨A,cap',g1,g2⟩,_,_⟩:=qJ h.l hl
      obtain⟨A0,cap0,len0,g3,g4⟩:=Yn rfl r1
      rw[g1]at g3
      simp only[Qa,Pl.own.injEq]at g3
      obtain⟨rfl,rfl,rfl⟩:=g3
      cases g4
      have hn:(kdT T t').n=(kdT T y).n:=by rw[←QbE,←QbE];exact hsz
      refine Xv h (QbT (K:=kdT T t') (y:=z) du.ho hop du.hg du.hd h.env du.lt e1 e2 (by rw[hn];exact hT1) g2 hz fun a' b u hq hE=>hk _ a' (Ext.put _ _ _) hkk (h.slot du (YV rfl ⟨b,cap',xs.length,?_,?_,?_⟩) hE))
      ·rw[g1]
       obtain⟨cs,hO,_⟩:=g2
       rw[hq]at hO
       rw[hO.1]
      ·rw[QbE,Nat.add_zero]
      ·obtain⟨hz0,hz1⟩:=jX hz
       have hlt:=(List.getElem?_eq_some_iff.1 hz1).1
       unfold inA
       simp only[Qd,decide_eq_true_eq]
       omega
    ·exact QuG hC h du hop e1 e2 r1 hs hk
   ·rename_i o' j' off' es'
    split at hs
    ·rename_i n' k' hA
     obtain⟨hb,hs⟩:=XB hs
     obtain⟨mb,cap,len,h3,h4,h5⟩:=Yn rfl r1
     cases h4
     exact Xv h (Qel (N:=n') (k:=k') du.ho hop du.hg du.hd h.env du.lt e1 e2 hA hb fun a' hE=>hk _ a' (Ext.put _ _ _) hs (h.slot du (YV rfl ⟨mb,cap,len,h3,by rw[Nat.add_assoc],h5⟩) hE))
    ·cases hs
   ·exact QuG hC h du hop e1 e2 r1 hs hk
  ·cases hs
 ·cases hs
theorem Qca(hC:CxOk C ct)(h:RSx ct ρ D Lv R s a w){x:Option Operand}{dflt z:Int}(hb:bnd? C s x dflt=some z):QaD (EvA a) x dflt z:=by
 cases x with
 |none=>simp only[bnd?,Qa]at hb;exact hb.symm
 | some y=>
  simp only[bnd?]at hb
  split at hb
  ·rename_i kk m hm
   simp only[Qa]at hb
   subst hb
   obtain⟨v,e1,r1⟩:=YC hC h hm
   obtain rfl:=XL r1
   exact⟨kk,e1⟩
  ·cases hb
theorem Qnw(hC:CxOk C ct)(h:RSx ct ρ D Lv R s a w)(du:Du ct ops i o a (some d)){t:TypeId}{x:Operand}{lo hi:Option Operand}(hop:o.op= .slice t x lo hi none){u:SV T}(hu:evS C s t x=some u)(hs:(Qni C s (some d) t u lo hi).run k=some r)
  (hk:∀s' a',Ext s s'→k s'=some r→RS ct s' a' w→Cn a' w):Op1 C.P rd ops Q i Cn a w:=by
 obtain⟨uu,e1,r1⟩:=YC hC h hu
 ·unfold Qni at hs
  split at hs
  ·rename_i e y by_ hT
   obtain⟨hT1,hT2,hT3⟩:=yZ hT
   split at hs
   ·rename_i xs s1 hf
    split at hs
    ·rename_i zl zh hl hh
     obtain⟨z,s',hz,hs',hkk⟩:=jP hs
     simp only[Qa]at hs'
     subst hs'
     obtain⟨D',Lv',A,cap,hd,h1,rfl,hSl,hx⟩:=Qbp hC.tb hf h r1
     exact Xv h1 (Qva (K:=kdT T y) du.ho hop du.hg du.hd h1.env du.lt e1 hT1 (Qca hC h hl) (Qca hC h hh) hSl hz fun a' A' cap' hE hc=>hk _ a' (hx.trans (Ext.put _ _ _)) hkk ⟨ρ,D',Lv',R,h1.put (fun _ _=>YV rfl ⟨A',cap',rfl,hc⟩) du.fr hE⟩)
    ·cases hs
   ·cases hs
  ·cases hs
theorem Qxb(hC:CxOk C ct)(h:RSx ct ρ D Lv R s a w)(du:Du ct ops i o a (some d)){t:TypeId}{x hi mx:Operand}(hop:o.op= .slice t x none (some hi) (some mx))(hs:(sl3S C s d t (evS C s t x) hi mx).run k=some r)
  (hk:∀s' a',Ext s s'→k s'=some r→RS ct s' a' w→Cn a' w):Op1 C.P rd ops Q i Cn a w:=by
 unfold sl3S at hs
 split at hs
 ·rename_i v e y by_ hu hT
  obtain⟨uu,e1,r1⟩:=YC hC h hu
  obtain⟨hT1,hT2,hT3⟩:=yZ hT
  split at hs
  ·rename_i xs s1 hf
   split at hs
   ·rename_i zh zm hh hm
    obtain⟨z,s',hz,hs',hkk⟩:=jP hs
    obtain⟨hzz,hz⟩:=XB hz
    obtain rfl:=of_decide_eq_true hzz
    simp only[Qa]at hs'
    subst hs'
    obtain⟨k1,g1⟩:=Qca hC h hh
    obtain⟨k2,g2⟩:=Qca hC h hm
    obtain⟨D',Lv',A,cap,hd,h1,rfl,hSl,hx⟩:=Qbp hC.tb hf h r1
    refine Xv h1 (Qkk (K:=kdT T y) du.ho hop du.hg du.hd h1.env du.lt e1 hT1 rfl g1 g2 hSl hz fun a' A' hE hc=> ?_)
    have h2:=h1.nw (p:= .own A' z.length z.length) (b:= .own y e z false) h1.st.nils (Snap.le.refl _) ⟨A',z.length,Rho.ins_at _ _ _,OwnL.full e hc rfl⟩
    have h3:=h2.put (d:=some d) (sv:= .own s1.nx) (fun _ _=>YV rfl ⟨A',z.length,z.length,Rho.ins_at _ _ _,rfl⟩) du.fr hE
    exact hk _ a' (hx.trans ((Ext.nw _ _).trans (Ext.put _ _ _))) hkk ⟨_,_,_,R,h3⟩
   ·cases hs
  ·cases hs
 ·cases hs
theorem Qxc(hC:CxOk C ct)(h:RSx ct ρ D Lv R s a w)(du:Du ct ops i o a (some d)){t0 t:TypeId}{x:Operand}(hop:o.op= .convert t0 t x){u:SV T}(hu:evS C s t0 x=some u)(hs:(cvS C s d t0 t u).run k=some r)
  (hk:∀s' a',Ext s s'→k s'=some r→RS ct s' a' w→Cn a' w):Op1 C.P rd ops Q i Cn a w:=by
 obtain⟨vu,e1,r1⟩:=YC hC h hu
 ·unfold cvS at hs
  split at hs
  ·rename_i k1 k2 m hk1
   obtain rfl:=XL r1
   cases hb:(C.P.underlying t0).isSome with
   |false=>rw[hb]at hs;cases hs
   |true=>
    rw[hb]at hs
    refine pure_ok h du (fun s' t' x' e=>by rw[hop]at e;cases e;exact hb) (v:= .int k1 (k1.wrap m)) (by rw[hop];simp only[yQ,hk1,e1]) (RV_i _ _) fun a' h'=>hk _ _ (Ext.put _ _ _) hs h'
  ·cases hb:b2sT C.P t0 t with
   |false=>rw[hb]at hs;cases hs
   | true=>
    rw[hb]at hs
    simp only[Qg]at hs
    split at hs
    ·rename_i l s1 hf
     obtain⟨D',Lv',A,cap,hd,h1,rfl,hSl,hx⟩:=Qbp hC.tb hf h r1
     exact Xv h1 (QwK du.ho hop du.hg du.hd h1.env du.lt h1.st e1 hb hSl (kD h1.st (fun m hm=>by cases hm)) fun a' hE=>hk _ a' (hx.trans (Ext.put _ _ _)) hs ⟨ρ,D',Lv',R,h1.put (fun _ _=>YV rfl rfl) du.fr hE⟩)
    ·cases hs
  ·cases hs
theorem RSx.del{id ver:Nat}{b:SB T}(h:RSx ct ρ D Lv R s a w)(hl:lookA s.L id=some (ver,b)):
  ∃ X q Y,Lv=X++q::Y∧RBk ρ D id b q∧Stp ct.g ct.w0 ct.D0 ct.L0 w D (q::((X++Y)++R))∧
   ∀{w':World} {D':Snap} {q':Blk} {p:Pl} {b':SB T},Stp ct.g ct.w0 ct.D0 ct.L0 w' D' (q'::((X++Y)++R))→D.le D'→RBk (ρ.ins s.nx p) D' s.nx b' q'→
    RSx ct (ρ.ins s.nx p) D' (q'::(X++Y)) R (SS.nw {s with L:=delB id s.L} b') a w':=by
 obtain⟨X,q,Y,e,h1,h2,_⟩:=qJ h.l hl
 subst e
 refine⟨X,q,Y,rfl,h1,h.st.prm (J8 X Y R q),fun{w' D' q' p b'} hS hd hb=> ?_⟩
 have hr:=Rho.le_ins (p:=p) h.fresh
 refine⟨h.rb.trans hr,fun i x hx=> ?_,fun e he=> ?_,?_,h.size,h.ds,fun t sv ht=> ?_,⟨q',X++Y,rfl,hb,yj hr hd h2⟩,hS,ct.fr.mono hd h.fr,?_,h.exIns,h.o⟩
 ·unfold Rho.ins at hx
  show i<s.nx+1
  split at hx
  ·omega
  ·have:=h.dom _ _ hx;omega
 ·show e.2.1<s.nx+1
  rcases List.mem_cons.1 he with rfl|he
  ·exact Nat.lt_succ_self _
  ·have:=h.ver e (jK.subset he);omega
 ·show((s.nx,s.nx,b')::delB id s.L|>.map (·.1)).Nodup
  rw[List.map_cons,List.nodup_cons]
  refine⟨fun hm=> ?_,h.nd.sublist (jK.map _)⟩
  obtain⟨e,he,h3⟩:=List.mem_map.1 hm
  have:=h.idlt (jK.subset he)
  have h3:e.1=s.nx:=h3
  omega
 ·obtain⟨v,h3,h4⟩:=h.e t sv ht
  exact⟨v,h3,JL hr hd h4⟩
 ·refine h.ini.mv hr h.st.st hS.st fun k b2 p' hp hk=> ?_
  have hlt:=h.dom _ _ hp
  have hb:Nat.beq s.nx k=false:=by
   cases hb:Nat.beq s.nx k with
   |true=>have:=Qc hb;omega
   |false=>rfl
  simp only[SS.nw,lookA,hb,Qh]at hk
  obtain⟨X1,q1,Y1,e1,h5,_⟩:=qJ h2 hk
  refine⟨(Zu k h.nd hk).2,q1,D,h5,?_,?_⟩
  ·have:q1∈X++Y:=by rw[e1];simp
   rcases List.mem_append.1 this with h|h<;>simp[h]
  ·rw[e1];simp
theorem Ext.del{s:SS T}(hn:(s.L.map (·.1)).Nodup)(id:Nat):Ext s {s with L:=delB id s.L}:=⟨⟨[],rfl⟩,Nat.le_refl _,fun j v sb hl _=>(Zu j hn hl).2⟩
theorem Qql(hC:CxOk C ct)(h:RSx ct ρ D Lv R s a w)(du:Du ct ops i o a (some d)){xs:Array Operand}{ts:Array TypeId}{x y:Operand}{t:TypeId}(hop:o.op= .call {callee:= .builtin .append,args:=xs,argTypes:=ts})(hxs:xs.toList= [x,y])(hts:ts.toList= [t,t])
  {u v:SV T} (hu:evS C s t x=some u) (hv:evS C s t y=some v) (hs:(QlZ C.P s (some d) t u v).run k=some r)
  (hk:∀s' a' w',Ext s s'→k s'=some r→RS ct s' a' w'→Cn a' w'):Op1 C.P rd ops Q i Cn a w:=by
 obtain⟨uu,e1,r1⟩:=YC hC h hu
 obtain⟨vv,e2,r2⟩:=YC hC h hv
 have hxs':xs= #[x,y]:=by rw[←Array.toList_inj];simpa using hxs
 have hts':ts= #[t,t]:=by rw[←Array.toList_inj];simpa using hts
 subst hxs' hts'
 unfold QlZ at hs
 split at hs
 ·rename_i e ty by_ hT
  obtain⟨hT1,hT2,hT3⟩:=yZ hT
  split at hs
  ·rename_i ys s1 hf
   obtain⟨D1,Lv1,A2,cap2,hd,h1,rfl,hSl,hx⟩:=Qbp hC.tb hf h r2
   split at hs
   ·obtain⟨z,s',hz,hs',hkk⟩:=jP hs
    simp only[Qa]at hs'
    subst hs'
    have e3: [uu]= [Value.slice none 0 0]:=Yn rfl r1
    cases e3
    refine Qa6 (K:=kdT T ty) (l:= []) (q:=none) du.ho hop du.hg du.hd h1.env du.lt h1.st.nils e1 e2 hT1 hT2 hT3 (OwnD.nil (f:=true) _ _ _) hSl hz fun a' A' cap' q' w' _ hE hO hS'=> ?_
    have h2:=h1.nw (p:= .own A' cap' z.length) (b:= .own ty e z true) hS' (Snap.le.refl _) ⟨A',cap',Rho.ins_at _ _ _,hO⟩
    have h3:=h2.put (d:=some d) (sv:= .own s1.nx) (fun _ _=>YV rfl ⟨A',cap',z.length,Rho.ins_at _ _ _,rfl⟩) du.fr hE
    exact hk _ a' w' (hx.trans ((Ext.nw _ _).trans (Ext.put _ _ _))) hkk ⟨_,_,_,R,h3⟩
   ·rename_i oid
    split at hs
    ·rename_i ver ty' e' xs' f hlk
     cases hee:Nat.beq e e' with
     |false=>rw[hee]at hs;cases hs
     | true=>
      rw[hee]at hs
      obtain rfl:=Qc hee
      simp only[Qg]at hs
      split at hs
      ·rename_i xs2 hcast
       obtain⟨ec,rfl⟩:=qK hcast
       cases ec
       obtain⟨z,s',hz,hs',hkk⟩:=jP hs
       simp only[Qa]at hs'
       subst hs'
       obtain⟨A,cap,len,h5,e5⟩:=Yn rfl r1
       cases e5
       obtain⟨X,q,Y,_,⟨A',cap',h6,hO⟩,hS,hback⟩:=h1.del hlk
       rw[h5]at h6
       cases h6
       refine Qa6 (K:=kdT T ty) (l:=xs') (q:=q) (f:=f) du.ho hop du.hg du.hd h1.env du.lt hS e1 e2 hT1 hT2 hT3 hO hSl hz fun a' A' cap' q' w' _ hE hO hS'=> ?_
       have h2:=hback (p:= .own A' cap' z.length) (b':= .own ty e z f) hS' (Snap.le.refl _) ⟨A',cap',Rho.ins_at _ _ _,hO⟩
       have h3:=h2.put (d:=some d) (sv:= .own s1.nx) (fun _ _=>YV rfl ⟨A',cap',z.length,Rho.ins_at _ _ _,rfl⟩) du.fr hE
       exact hk _ a' w' (hx.trans ((Ext.del h1.nd oid).trans ((Ext.nw _ _).trans (Ext.put _ _ _)))) hkk ⟨_,_,_,R,h3⟩
      ·cases hs
    ·cases hs
   ·cases hs
  ·cases hs
 ·cases hs
theorem QdP(hC:CxOk C ct)(h:RSx ct ρ D Lv R s a w){pl:Nat→Option (Nat×Nat)}{ty:Nat→TypeId}:∀(ps:List (Nat×Operand)) (l l':SV T) (c:List Value),Qks C s pl ty ps l=some l'→RX ρ D l false c→
  ∃vs c',yR (EvA a) ps=some vs∧Qfo pl c vs=some c'∧RX ρ D l' false c'
 | [],l,l',c,hf,hc=>by
  simp only[Qks,Qa]at hf
  subst hf
  exact⟨[],c,rfl,rfl,hc⟩
 | (j,x)::ps,l,l',c,hf,hc=>by
  unfold Qks at hf
  split at hf
  ·rename_i off sz u hp hu
   cases hb:Nat.beq (szS u) sz with
   |false=>rw[hb]at hf;cases hf
   | true=>
    rw[hb]at hf
    simp only[Qg]at hf
    split at hf
    ·rename_i l1 hl1
     obtain⟨v,e1,r1⟩:=YC hC h hu
     have hcu:=Qbl r1
     have hlen:=QgB _ _ hcu
     have hsz:=Qc hb
     obtain⟨g1,g2⟩:=Ql3 hC.tb _ _ _ _ _ _ _ _ _ hl1 hc hcu (by omega)
     obtain⟨vs,c',g3,g4,g5⟩:=QdP hC h ps l1 l' _ hf g2
     refine⟨(j,v)::vs,c',by simp only[yR,e1,g3],?_,g5⟩
     simp only[Qfo,hp]
     rw[show(Nat.beq (Q4 v).length sz&&Nat.ble (off+sz) c.length)=true by
      rw[show(Q4 v).length=sz by omega,Nat.beq_refl,Qfs g1];rfl]
     exact g4
    ·cases hf
  ·cases hf
theorem Qqm{v:SV T}{c:List Value}(h:RX ρ D v false c):∀n,RX ρ D (repS v n) false (jh c n)
 |0=>rfl
 |n+1=>⟨c,jh c n,rfl,h,Qqm h n⟩
theorem Qnx{kk:IntKind}:∀(l:SV T) (xs:List Int) (c:List Value),qQ kk l=some xs→RX ρ D l false c→c=xs.map (.int kk)
 | .nl,xs,c,h,hc=>by
  simp only[qQ,Qa]at h
  subst h
  exact hc
 | .cs (.dt (.int k') x) l,xs,c,h,hc=>by
  simp only[qQ]at h
  cases hk:sameKind kk k' with
  |false=>rw[hk]at h;cases h
  | true=>
   rw[hk]at h
   obtain rfl:=YY hk
   simp only[Qg]at h
   split at h
   ·rename_i xs1 h1
    simp only[Qa]at h
    subst h
    obtain⟨c1,c2,rfl,r1,r2⟩:=hc
    have r1:c1= [.int kk x]:=r1
    rw[Qnx l xs1 c2 h1 r2,r1];rfl
   ·cases h
 | .cs (.dt .bool _) _,_,_,h,_=>by simp[qQ]at h
 | .cs (.dt .str _) _,_,_,h,_=>by simp[qQ]at h
 | .cs (.dt (.arr _ _) _) _,_,_,h,_=>by simp[qQ]at h
 | .cs (.dt (.sl _) _) _,_,_,h,_=>by simp[qQ]at h
 | .cs (.dt (.st _) _) _,_,_,h,_=>by simp[qQ]at h
 | .cs (.kb _) _,_,_,h,_=>by simp[qQ]at h
 | .cs (.raw _) _,_,_,h,_=>by simp[qQ]at h
 | .cs .nils _,_,_,h,_=>by simp[qQ]at h
 | .cs (.agg _) _,_,_,h,_=>by simp[qQ]at h
 | .cs (.tup _) _,_,_,h,_=>by simp[qQ]at h
 | .cs (.fn _ _) _,_,_,h,_=>by simp[qQ]at h
 | .cs .nl _,_,_,h,_=>by simp[qQ]at h
 | .cs (.cs _ _) _,_,_,h,_=>by simp[qQ]at h
 | .cs (.ptr _ _) _,_,_,h,_=>by simp[qQ]at h
 | .cs (.cell _ _) _,_,_,h,_=>by simp[qQ]at h
 | .cs (.own _) _,_,_,h,_=>by simp[qQ]at h
 | .cs (.elt _ _ _ _) _,_,_,h,_=>by simp[qQ]at h
 | .cs (.ela _ _ _ _ _) _,_,_,h,_=>by simp[qQ]at h
 | .cs (.eva _ _ _ _ _ _) _,_,_,h,_=>by simp[qQ]at h
 | .cs (.sla _ _ _ _) _,_,_,h,_=>by simp[qQ]at h
 | .dt _ _,_,_,h,_=>by simp only[qQ,reduceCtorEq]at h
 | .kb _,_,_,h,_=>by simp only[qQ,reduceCtorEq]at h
 | .raw _,_,_,h,_=>by simp only[qQ,reduceCtorEq]at h
 | .nils,_,_,h,_=>by simp only[qQ,reduceCtorEq]at h
 | .agg _,_,_,h,_=>by simp only[qQ,reduceCtorEq]at h
 | .tup _,_,_,h,_=>by simp only[qQ,reduceCtorEq]at h
 | .fn _ _,_,_,h,_=>by simp only[qQ,reduceCtorEq]at h
 | .ptr _ _,_,_,h,_=>by simp only[qQ,reduceCtorEq]at h
 | .cell _ _,_,_,h,_=>by simp only[qQ,reduceCtorEq]at h
 | .own _,_,_,h,_=>by simp only[qQ,reduceCtorEq]at h
 | .elt _ _ _ _,_,_,h,_=>by simp only[qQ,reduceCtorEq]at h
 | .ela _ _ _ _ _,_,_,h,_=>by simp only[qQ,reduceCtorEq]at h
 | .eva _ _ _ _ _ _,_,_,h,_=>by simp only[qQ,reduceCtorEq]at h
 | .sla _ _ _ _,_,_,h,_=>by simp only[qQ,reduceCtorEq]at h
theorem Qqn{kk:IntKind}:∀(l:List Int),RX ρ D (intL kk l:SV T) false (l.map (.int kk))
 | []=>rfl
 |x::l=>⟨[.int kk x],l.map (.int kk),rfl,rfl,Qqn l⟩
theorem QgG{pl:Nat→Option (Nat×Nat)}:∀(ps:List (Nat×Value)) (c c':List Value),Qfo pl c ps=some c'→c'.length=c.length
 | [],c,c',h=>by simp only[Qfo,Qa]at h;rw[h]
 | (j,v)::ps,c,c',h=>by
  simp only[Qfo]at h
  split at h
  ·cases h
  ·rename_i off sz _
   cases hb:(Nat.beq (Q4 v).length sz&&Nat.ble (off+sz) c.length)with
   |false=>rw[hb]at h;cases h
   |true=>
    rw[hb]at h
    simp only[Qd]at hb
    have h1:=Qc hb.1
    have h2:=Nat.le_of_ble_eq_true hb.2
    rw[QgG ps _ c' h]
    unfold setCells
    simp;omega
theorem Qs2(hC:CxOk C ct)(h:RSx ct ρ D Lv R s a w)(du:Du ct ops i o a (some d)){t:TypeId}{ps:Array (Nat×Operand)}{ty:TypeId}(hop:o.op= .build t ps)(hs:(sopD C s d ty (.build t ps)).run k=some r)
  (hk:∀s' a',Ext s s'→k s'=some r→RS ct s' a' w→Cn a' w):Op1 C.P rd ops Q i Cn a w:=by
 simp only[sopD]at hs
 obtain⟨sv,h1,h2⟩:=Zv hs
 have key:∀vs c,yR (EvA a) ps.toList=some vs→bld C.P t vs=some c→RV ρ D sv (.agg c.toArray)→Op1 C.P rd ops Q i Cn a w:=fun vs c g1 g2 g3=>
  Xv h (Qa4 c du.ho hop du.hg du.hd h.env du.lt g1 g2 fun a' hE=>hk _ a' (Ext.put _ _ _) h2 (h.slot du g3 hE))
 unfold Quu at h1
 split at h1
 ·rename_i fs ii hu hi
  split at h1
  ·rename_i l pl hz hpl
   split at h1
   ·rename_i l' hf
    simp only[Qa]at h1
    subst h1
    obtain⟨z,hzz,r1⟩:=Qbo ρ D hz
    obtain⟨vs,c',g1,g2,g3⟩:=QdP hC h _ _ _ _ hf r1
    rw[hi]at hzz
    refine key vs c' g1 ?_ (QkA rfl g3)
    unfold bld
    rw[hu,hi]
    simp only
    rw[show ii.zero=some z from hzz]
    unfold places at hpl
    rw[hpl]
    exact g2
   ·cases h1
  ·cases h1
 ·rename_i n e ii hu hi
  split at h1
  ·rename_i kk q k' n' x0 hue hq hz
   cases hb:(sameKind kk k'&&(Nat.beq n n'&&Nat.beq q.size 1))with
   |false=>rw[hb]at h1;cases h1
   | true=>
    rw[hb]at h1
    simp only[Qd]at hb
    simp only[Qg]at h1
    obtain rfl:=YY hb.1
    obtain rfl:=Qc hb.2.1
    have hq1:=Qc hb.2.2
    split at h1
    ·rename_i l hf
     split at h1
     ·rename_i xs hxs
      simp only[Qa]at h1
      subst h1
      obtain⟨z,hzz,r1⟩:=Qbo ρ D hz
      have r1:Q4 z=Ya kk n x0:=r1
      obtain⟨vs,c',g1,g2,g3⟩:=QdP hC h _ _ _ _ hf (Qqn (Ye x0))
      have g4:=Qnx l xs c' hxs g3
      have g5:=QgG _ _ _ g2
      rw[hi]at hzz
      have hl:xs.length=n:=by
       rw[g4]at g5
       simpa[QI] using g5
      refine key vs c' g1 ?_ (QkA rfl ?_)
      ·unfold bld
       rw[hu,hi]
       simp only
       rw[show ii.zero=some z from hzz,hq]
       simp only
       rw[r1,Qe2]
       exact g2
      ·show c'=Ya kk n (vofL n xs)
       rw[Qej (by omega),List.take_of_length_le (by omega)]
       exact g4
     ·cases h1
    ·cases h1
  ·rename_i q l _ hq hz
   split at h1
   ·rename_i l' hf
    simp only[Qa]at h1
    subst h1
    obtain⟨z,hzz,r1⟩:=Qbo ρ D hz
    obtain⟨vs,c',g1,g2,g3⟩:=QdP hC h _ _ _ _ hf r1
    rw[hi]at hzz
    refine key vs c' g1 ?_ (QkA rfl g3)
    unfold bld
    rw[hu,hi]
    simp only
    rw[show ii.zero=some z from hzz,hq]
    exact g2
   ·cases h1
  ·cases h1
 ·cases h1
theorem Qqo(hT:TbOk T){y:Ty}:∀(l:SV T) (s:SS T) (xs:List (den T.ty y)) (s':SS T) (D:Snap) (Lv:List Blk) (c:List Value),frzI y s l=some (xs,s')→RSx ct ρ D Lv R s a w→RX ρ D l false c→
  ∃D' Lv',D.le D'∧RSx ct ρ D' Lv' R s' a w∧RL (kdT T y) D' xs c∧Ext s s'
 | .nl,s,xs,s',D,Lv,c,h,hS,hc=>by
  simp only[frzI,Qa,Qe]at h
  obtain⟨rfl,rfl⟩:=h
  exact⟨D,Lv,Snap.le.refl D,hS,hc,Ext.refl _⟩
 | .cs u l,s,xs,s',D,Lv,c,h,hS,hc=>by
  simp only[frzI]at h
  split at h
  ·rename_i x1 s1 h1
   split at h
   ·rename_i xs2 s2 h2
    simp only[Qa,Qe]at h
    obtain⟨rfl,rfl⟩:=h
    obtain⟨c1,c2,rfl,r1,r2⟩:=hc
    obtain⟨D1,Lv1,d1,g1,g2,g3⟩:=Qb7 hT 60 _ _ _ _ _ D Lv c1 h1 hS r1
    obtain⟨D2,Lv2,d2,k1,k2,k3⟩:=Qqo hT l s1 xs2 s2 D1 Lv1 c2 h2 g1 (yA (Rho.le.refl _) d1 _ _ _ r2)
    exact⟨D2,Lv2,d1.trans d2,k1,⟨c1,c2,rfl,(kdT T y).mono _ _ _ _ d2 g2,k2⟩,g3.trans k3⟩
   ·cases h
  ·cases h
 | .dt _ _,_,_,_,_,_,_,h,_,_=>by simp only[frzI,reduceCtorEq]at h
 | .kb _,_,_,_,_,_,_,h,_,_=>by simp only[frzI,reduceCtorEq]at h
 | .raw _,_,_,_,_,_,_,h,_,_=>by simp only[frzI,reduceCtorEq]at h
 | .nils,_,_,_,_,_,_,h,_,_=>by simp only[frzI,reduceCtorEq]at h
 | .agg _,_,_,_,_,_,_,h,_,_=>by simp only[frzI,reduceCtorEq]at h
 | .tup _,_,_,_,_,_,_,h,_,_=>by simp only[frzI,reduceCtorEq]at h
 | .fn _ _,_,_,_,_,_,_,h,_,_=>by simp only[frzI,reduceCtorEq]at h
 | .ptr _ _,_,_,_,_,_,_,h,_,_=>by simp only[frzI,reduceCtorEq]at h
 | .cell _ _,_,_,_,_,_,_,h,_,_=>by simp only[frzI,reduceCtorEq]at h
 | .own _,_,_,_,_,_,_,h,_,_=>by simp only[frzI,reduceCtorEq]at h
 | .elt _ _ _ _,_,_,_,_,_,_,h,_,_=>by simp only[frzI,reduceCtorEq]at h
 | .ela _ _ _ _ _,_,_,_,_,_,_,h,_,_=>by simp only[frzI,reduceCtorEq]at h
 | .eva _ _ _ _ _ _,_,_,_,_,_,_,h,_,_=>by simp only[frzI,reduceCtorEq]at h
 | .sla _ _ _ _,_,_,_,_,_,_,h,_,_=>by simp only[frzI,reduceCtorEq]at h
theorem Qxd(hC:CxOk C ct)(h:RSx ct ρ D Lv R s a w)(du:Du ct ops i o a (some d)){t:TypeId}{n:Nat}{ps:Array (Nat×Operand)}(hop:o.op= .buildSlice t n ps)(hs:(bslS C s d t n ps.toList).run k=some r)
  (hk:∀s' a' w',Ext s s'→k s'=some r→RS ct s' a' w'→Cn a' w'):Op1 C.P rd ops Q i Cn a w:=by
 unfold bslS at hs
 split at hs
 ·rename_i e y by_ hT
  obtain⟨hT1,hT2,hT3⟩:=yZ hT
  cases hb:(Nat.ble n 1000&&Nat.blt 0 (szT T y)&&Nat.ble (szT T y) 10000)with
  |false=>rw[hb]at hs;cases hs
  | true=>
   rw[hb]at hs
   simp only[Qg]at hs
   simp only[Qd]at hb
   have hn:=Nat.le_of_ble_eq_true hb.1.1
   have hsz:=Nat.le_of_ble_eq_true hb.2
   split at hs
   ·rename_i z hz
    split at hs
    ·rename_i l hf
     split at hs
     ·rename_i xs s1 hfr
      obtain⟨zz,hzz,r1⟩:=Qbo ρ D hz
      obtain⟨vs,c',g1,g2,g3⟩:=QdP hC h _ _ _ _ hf (Qqm r1 n)
      obtain⟨D',Lv',hd,h1,hRL,hx⟩:=Qqo hC.tb l s xs s1 D Lv c' hfr h g3
      obtain⟨hu,ii,z2,hi,hz2,hs1,hs2,hs3⟩:=yT hT1
      rw[hi]at hzz
      have hzz:ii.zero=some zz:=hzz
      rw[hz2]at hzz
      cases hzz
      have hlen:xs.length=n:=by
       have e1:=hRL.len
       rw[QgG _ _ _ g2,jH,hs3]at e1
       have:0<(kdT T y).n:=by simpa[Nat.blt_eq] using hT2
       exact(Nat.eq_of_mul_eq_mul_right this e1).symm
      refine yS (K:=kdT T y) (e:=e) (cs:=c') xs du.ho hop du.hg du.hd h1.env du.lt h1.st g1 ?_ hlen (Qfs (by omega)) hRL fun a' A q w' _ hE hO hS'=> ?_
      ·unfold bsl
       rw[hu]
       simp only[hi,hz2,hs1]
       rw[QbE]at hsz
       have h5:n*(kdT T y).n≤1000*10000:=Nat.mul_le_mul hn hsz
       rw[show(Nat.ble (n*(kdT T y).n) 16777216&&(Nat.blt 0 (kdT T y).n&&Nat.beq (Q4 zz).length (kdT T y).n))=true by
        rw[Qfs (by omega),hT2,hs3,Nat.beq_refl];rfl]
       simp only[Qg]
       rw[QbE]at g2
       rw[g2];rfl
      ·have h2:=h1.nw (p:= .own A n xs.length) (b:= .own y e xs true) hS' (Snap.le.refl _) ⟨A,n,Rho.ins_at _ _ _,hO⟩
       have h3:=h2.put (d:=some d) (sv:= .own s1.nx) (fun _ _=>YV rfl ⟨A,n,xs.length,Rho.ins_at _ _ _,rfl⟩) du.fr hE
       exact hk _ a' w' (hx.trans ((Ext.nw _ _).trans (Ext.put _ _ _))) hs ⟨_,_,_,R,h3⟩
     ·cases hs
    ·cases hs
   ·cases hs
 ·cases hs
end
def agP:Pt→Bool
 | .dt t=>agT t
 | .agg _=>true
 | .nl=>true
 | .cs _ _=>true
 | .raw (.agg _)=>true
 |_=>false
section
variable {T:Tb}{C:Cx T}{ct:Ct}{ρ:Rho}{D:Snap}{Lv R:List Blk}{s:SS T}{a:Act}{w:World}
def PR(β:Nat→Option Nat)(D:Snap)(O:Nat→(t:Ty)→TypeId→Bool→List (den T.ty t)→Option Addr→Nat→Prop):Pt→Bool→List (Dy T)→List (Nat×Pl)→List Value→Prop
 | .dt t,_,ds,os,c=>∃x,ds= [⟨t,x⟩]∧os= []∧(kdT T t).r D x c
 | .own t e f,_,ds,os,c=>∃(xs:List (den T.ty t)) (o:Nat) (A:Option Addr) (cap:Nat),ds= [⟨.sl t,xs⟩]∧os= [(o,.own A cap xs.length)]∧c= [.slice A xs.length cap]∧O o t e f xs A cap
 | .agg l,_,ds,os,c=>PR β D O l false ds os c
 | .nl,_,ds,os,c=>ds= []∧os= []∧c= []
 | .cs h l,false,ds,os,c=>∃d1 d2 o1 o2 c1 c2,ds=d1++d2∧os=o1++o2∧c=c1++c2∧PR β D O h false d1 o1 c1∧PR β D O l false d2 o2 c2
 | .cs h l,true,ds,os,c=>∃d1 d2 o1 o2 v c2,ds=d1++d2∧os=o1++o2∧c=v::c2∧(bif agP h then ∃c1,PR β D O h false d1 o1 c1∧v= .agg c1.toArray else PR β D O h false d1 o1 [v])∧PR β D O l true d2 o2 c2
 | .ptr b off,_,ds,os,c=>ds= []∧os= []∧∃n,β b=some n∧c= [.pointer (some ⟨n,off,none⟩)]
 | .fn f l,_,ds,os,c=>∃vs,PR β D O l true ds os vs∧c= [fnV f vs]
 | .raw v,_,ds,os,c=>ds= []∧os= []∧c=Q4 v
 | .nils,_,ds,os,c=>ds= []∧os= []∧c= [.slice none 0 0]
 | .kb b,_,ds,os,c=>ds= []∧os= []∧c= [.bool b]
abbrev OwT(T:Tb):=Nat→(t:Ty)→TypeId→Bool→List (den T.ty t)→Option Addr→Nat→Prop
theorem Zw{β β':Nat→Option Nat}{D D':Snap}{O O':OwT T}(hb:∀b n,β b=some n→β' b=some n)(hd:D.le D')(ho:∀o t e f xs A cap,O o t e f xs A cap→O' o t e f xs A cap):
  ∀(p:Pt) (md:Bool) (ds:List (Dy T)) (os:List (Nat×Pl)) (c:List Value),PR β D O p md ds os c→PR β' D' O' p md ds os c:=by
 intro p
 induction p with
 |dt t=>exact fun md ds os c ⟨x,h1,h2,h3⟩=>⟨x,h1,h2,(kdT T t).mono _ _ _ _ hd h3⟩
 |own t e f=>exact fun md ds os c ⟨xs,o,A,cap,h1,h2,h3,h4⟩=>⟨xs,o,A,cap,h1,h2,h3,ho _ _ _ _ _ _ _ h4⟩
 |agg l ih=>exact fun md ds os c h=>ih false ds os c h
 |nl=>exact fun _ _ _ _ h=>h
 | cs h l ih1 ih2=>
  intro md ds os c hc
  cases md with
  |false=>obtain⟨d1,d2,o1,o2,c1,c2,e1,e2,e3,h1,h2⟩:=hc;exact⟨d1,d2,o1,o2,c1,c2,e1,e2,e3,ih1 _ _ _ _ h1,ih2 _ _ _ _ h2⟩
  |true=>
   obtain⟨d1,d2,o1,o2,v,c2,e1,e2,e3,h1,h2⟩:=hc
   refine⟨d1,d2,o1,o2,v,c2,e1,e2,e3,?_,ih2 _ _ _ _ h2⟩
   cases ha:agP h with
   |true=>rw[ha]at h1;obtain⟨c1,h3,h4⟩:=h1;exact⟨c1,ih1 _ _ _ _ h3,h4⟩
   |false=>rw[ha]at h1;exact ih1 _ _ _ _ h1
 |ptr b off=>exact fun md ds os c ⟨h1,h2,n,h3,h4⟩=>⟨h1,h2,n,hb _ _ h3,h4⟩
 |fn f l ih=>exact fun md ds os c ⟨vs,h1,h2⟩=>⟨vs,ih _ _ _ _ h1,h2⟩
 |raw v=>exact fun _ _ _ _ h=>h
 |nils=>exact fun _ _ _ _ h=>h
 |kb b=>exact fun _ _ _ _ h=>h
def bet(ρ:Rho)(bd:List (Nat×Nat))(b:Nat):Option Nat:=
 match lookA bd b with
 |some i=>match ρ i with
  |some (.blk n)=>some n
  |_=>none
 |none=>none
def OwS(ρ:Rho)(s:SS T)(ow:List (Nat×Nat)):OwT T:=fun o t e f xs A cap=>∃(s1:SS T) (ver:Nat) (f0:Bool),Ext s1 s∧lookA s1.L o=some (ver,.own t e xs f0)∧ver<s1.nx∧(!f||f0)=true∧ρ o=some (.own A cap xs.length)∧(o,ver)∈ow
theorem XF{ρ ρ':Rho}{s s':SS T}{ow ow':List (Nat×Nat)}(hr:ρ.le ρ')(hx:Ext s s')(hw:∀x,x∈ow→x∈ow'){o:Nat}{t:Ty}{e:TypeId}{f:Bool}{xs:List (den T.ty t)}{A:Option Addr}{cap:Nat}(h:OwS ρ s ow o t e f xs A cap):OwS ρ' s' ow' o t e f xs A cap:=by
 obtain⟨s1,ver,f0,h1,h2,h3,h4,h6,h7⟩:=h
 exact⟨s1,ver,f0,h1.trans hx,h2,h3,h4,hr _ _ h6,hw _ h7⟩
def BdLe(bd bd':List (Nat×Nat)):Prop:=∀b i,lookA bd b=some i→lookA bd' b=some i
theorem y7{ρ ρ':Rho}{bd bd':List (Nat×Nat)}(hr:ρ.le ρ')(hb:BdLe bd bd'):∀b n,bet ρ bd b=some n→bet ρ' bd' b=some n:=by
 intro b n h
 unfold bet at h⊢
 split at h
 ·rename_i i hi
  rw[hb _ _ hi]
  split at h
  ·rename_i m hm
   simp only[hr _ _ hm]
   exact h
  ·cases h
 ·cases h
structure MatR(ct:Ct)(ρ:Rho)(D:Snap)(R:List Blk)(m m':Mt T)(a:Act)(w:World)(ρ':Rho)(D':Snap)(Lv':List Blk)(dn:List (Dy T))(on:List (Nat×Nat)):Prop where
 rho:ρ.le ρ'
 le:D.le D'
 rs:RSx ct ρ' D' Lv' R m'.s a w
 ext:Ext m.s m'.s
 dy:m'.dy=dn.reverse++m.dy
 ow:m'.ow=on.reverse++m.ow
 bd:BdLe m.bd m'.bd
theorem Qqp{b:Value}:agS (.raw b:SV T)=agP (.raw b):=by cases b<;>rfl
theorem QuH:∀{f:Nat} {s s':SS T} {v:SV T} {t:Ty} {x:den T.ty t},frz f s v t=some (x,s')→agS v=agT t:=by
 intro f s s' v t x h
 cases f with
 |zero=>cases h
 | succ f=>
  cases v with
  |dt t' x'=>
   simp only[frz]at h
   split at h
   ·rename_i hx;obtain⟨e,_⟩:=qK hx;subst e;rfl
   ·cases h
  |kb b=>cases t<;>simp only[frz,reduceCtorEq]at h<;>rfl
  |nils=>cases t<;>simp only[frz,reduceCtorEq]at h<;>rfl
  |own o=>cases t<;>simp only[frz,reduceCtorEq]at h<;>rfl
  |agg l=>cases t<;>simp only[frz,reduceCtorEq]at h<;>rfl
  |_=>cases t<;>simp only[frz,reduceCtorEq]at h
theorem QvG{x y:Value}(hb:rawB x y=true):x=y:=by
 unfold rawB at hb
 split at hb<;>first|rfl|cases hb
theorem QuI:∀{p:Pt} {v:SV T} {m m':Mt T},mat p v m=some m'→agS v=agP p:=by
 intro p v m m' h
 cases p with
 |dt t=>
  simp only[mat]at h
  split at h
  ·rename_i x s1 hf;exact QuH hf
  ·cases h
 |agg l=>
  simp only[mat]at h
  split at h
  ·rename_i u hu;exact Qnv hu
  ·cases h
 |raw x=>
  cases v<;>first|(simp only[mat,reduceCtorEq]at h;done)|skip
  rename_i y
  simp only[mat]at h
  cases hb:rawB x y with
  |false=>rw[hb]at h;cases h
  |true=>rw[QvG hb];exact Qqp
 |_=>cases v<;>first|(simp only[mat,reduceCtorEq]at h;done)|rfl
theorem Qe6(hT:TbOk T):∀(p:Pt) (v:SV T) (m m':Mt T) (ρ:Rho) (D:Snap) (Lv:List Blk) (md:Bool) (c:List Value),mat p v m=some m'→RSx ct ρ D Lv R m.s a w→RX ρ D v md c→
  ∃ρ' D' Lv' dn on os,MatR ct ρ D R m m' a w ρ' D' Lv' dn on∧os.map (·.1)=on.map (·.1)∧PR (bet ρ' m'.bd) D' (OwS ρ' m'.s m'.ow) p md dn os c:=by
 intro p
 induction p with
 | dt t=>
  intro v m m' ρ D Lv md c h hS hc
  simp only[mat]at h
  split at h
  ·rename_i x s1 hf
   simp only[Qa]at h
   subst h
   have hc':RX ρ D v false c:=by
    cases v<;>first|exact hc|skip
    rename_i u l
    have:=QuH hf
    simp[frz]at hf
   obtain⟨D',Lv',hd,h1,h2,h3⟩:=Qb7 hT 60 _ _ _ _ _ D Lv c hf hS hc'
   exact⟨ρ,D',Lv', [⟨t,x⟩], [], [],⟨Rho.le.refl _,hd,h1,h3,rfl,rfl,fun _ _ h=>h⟩,rfl,x,rfl,rfl,h2⟩
  ·cases h
 | own t e f=>
  intro v m m' ρ D Lv md c h hS hc
  cases v<;>simp only[mat,reduceCtorEq]at h
  ·simp only[Qa]at h
   subst h
   have hc:c= [.slice none 0 0]:=hc
   subst hc
   have h1:=hS.nw (p:= .own none 0 0) (b:= .own t e [] true) hS.st.nils (Snap.le.refl _) ⟨none,0,Rho.ins_at _ _ _,OwnD.nil (f:=true) _ _ _⟩
   refine⟨_,D,_, [⟨.sl t, []⟩], [(m.s.nx,m.s.nx)], [(m.s.nx,.own none 0 0)],⟨Rho.le_ins hS.fresh,Snap.le.refl _,h1,Ext.nw _ _,rfl,rfl,fun _ _ h=>h⟩,rfl, [],m.s.nx,none,0,rfl,rfl,rfl,m.s.nw (.own t e [] true),m.s.nx,true,Ext.refl _,?_,?_,?_,Rho.ins_at _ _ _,List.mem_cons_self⟩
   ·simp[SS.nw,lookA]
   ·exact Nat.lt_succ_self _
   ·cases f<;>rfl
  ·rename_i o
   split at h
   ·rename_i ver t' e' xs f' hl
    cases hb:(Ty.beq t' t&&(Nat.beq e' e&&(!f||f')))with
    |false=>rw[hb]at h;cases h
    |true=>
     rw[hb]at h
     simp only[Qg,Qa]at h
     subst h
     rw[Qd,Qd]at hb
     obtain rfl:=Ty.eq_of_beq hb.1
     obtain rfl:=Qc hb.2.1
     obtain⟨A,cap,len,h1,h2⟩:=hc
     obtain⟨q,⟨A',cap',h3,_⟩,_⟩:=hS.blk hl
     rw[h1]at h3
     cases h3
     exact⟨ρ,D,Lv, [⟨.sl t',xs⟩], [(o,ver)], [(o,.own A cap xs.length)],⟨Rho.le.refl _,Snap.le.refl _,hS,Ext.refl _,rfl,rfl,fun _ _ h=>h⟩,rfl,xs,o,A,cap,rfl,rfl,h2,m.s,ver,f',Ext.refl _,hl,hS.ver _ (Yr hl),hb.2.2,h1,List.mem_cons_self⟩
   ·cases h
 | agg l ih=>
  intro v m m' ρ D Lv md c h hS hc
  simp only[mat]at h
  split at h
  ·rename_i u hu
   have hc':RX ρ D v false c:=by
    cases v<;>first|exact hc|(cases hu;done)
   exact ih u m m' ρ D Lv false c h hS (Qaf hT hu hc')
  ·cases h
 |nl=>
  intro v m m' ρ D Lv md c h hS hc
  cases v<;>simp only[mat,reduceCtorEq,Qa]at h
  subst h
  exact⟨ρ,D,Lv, [], [], [],⟨Rho.le.refl _,Snap.le.refl _,hS,Ext.refl _,rfl,rfl,fun _ _ h=>h⟩,rfl,rfl,rfl,hc⟩
 | cs p q ih1 ih2=>
  intro v m m' ρ D Lv md c h hS hc
  cases v<;>simp only[mat,reduceCtorEq]at h
  rename_i u l
  split at h
  ·rename_i m1 hm1
   have hag:=QuI hm1
   cases md with
   |false=>
    obtain⟨c1,c2,rfl,r1,r2⟩:=hc
    obtain⟨ρ1,D1,Lv1,dn1,on1,os1,M1,E1,P1⟩:=ih1 u m m1 ρ D Lv false c1 hm1 hS r1
    obtain⟨ρ2,D2,Lv2,dn2,on2,os2,M2,E2,P2⟩:=ih2 l m1 m' ρ1 D1 Lv1 false c2 h M1.rs (yA M1.rho M1.le _ _ _ r2)
    refine⟨ρ2,D2,Lv2,dn1++dn2,on1++on2,os1++os2,⟨M1.rho.trans M2.rho,M1.le.trans M2.le,M2.rs,M1.ext.trans M2.ext,by rw[M2.dy,M1.dy];simp,by rw[M2.ow,M1.ow];simp,fun b i hb=>M2.bd _ _ (M1.bd _ _ hb)⟩,by simp[E1,E2],dn1,dn2,os1,os2,c1,c2,rfl,rfl,rfl,?_,P2⟩
    exact Zw (y7 M2.rho M2.bd) M2.le (fun _ _ _ _ _ _ _ ho=>XF M2.rho M2.ext (fun x hx=>by rw[M2.ow];exact List.mem_append_right _ hx) ho) _ _ _ _ _ P1
   | true=>
    obtain⟨vv,c2,rfl,r1,r2⟩:=hc
    have key:∀c1,RX ρ D u false c1→∃ρ' D' Lv' dn on os,MatR ct ρ D R m m' a w ρ' D' Lv' dn on∧os.map (·.1)=on.map (·.1)∧∃d1 d2 o1 o2,dn=d1++d2∧os=o1++o2∧PR (bet ρ' m'.bd) D' (OwS ρ' m'.s m'.ow) p false d1 o1 c1∧PR (bet ρ' m'.bd) D' (OwS ρ' m'.s m'.ow) q true d2 o2 c2:=by
     intro c1 r1
     obtain⟨ρ1,D1,Lv1,dn1,on1,os1,M1,E1,P1⟩:=ih1 u m m1 ρ D Lv false c1 hm1 hS r1
     obtain⟨ρ2,D2,Lv2,dn2,on2,os2,M2,E2,P2⟩:=ih2 l m1 m' ρ1 D1 Lv1 true c2 h M1.rs (yA M1.rho M1.le _ _ _ r2)
     refine⟨ρ2,D2,Lv2,dn1++dn2,on1++on2,os1++os2,⟨M1.rho.trans M2.rho,M1.le.trans M2.le,M2.rs,M1.ext.trans M2.ext,by rw[M2.dy,M1.dy];simp,by rw[M2.ow,M1.ow];simp,fun b i hb=>M2.bd _ _ (M1.bd _ _ hb)⟩,by simp[E1,E2],dn1,dn2,os1,os2,rfl,rfl,?_,P2⟩
     exact Zw (y7 M2.rho M2.bd) M2.le (fun _ _ _ _ _ _ _ ho=>XF M2.rho M2.ext (fun x hx=>by rw[M2.ow];exact List.mem_append_right _ hx) ho) _ _ _ _ _ P1
    cases ha:agS u with
    |true=>
     rw[ha]at r1
     obtain⟨c1,r1,rfl⟩:=r1
     obtain⟨ρ',D',Lv',dn,on,os,M,E1,d1,d2,o1,o2,e1,e2,P1,P2⟩:=key c1 r1
     refine⟨ρ',D',Lv',dn,on,os,M,E1,d1,d2,o1,o2,_,c2,e1,e2,rfl,?_,P2⟩
     rw[←hag,ha]
     exact⟨c1,P1,rfl⟩
    |false=>
     rw[ha]at r1
     obtain⟨ρ',D',Lv',dn,on,os,M,E1,d1,d2,o1,o2,e1,e2,P1,P2⟩:=key [vv] r1
     refine⟨ρ',D',Lv',dn,on,os,M,E1,d1,d2,o1,o2,_,c2,e1,e2,rfl,?_,P2⟩
     rw[←hag,ha]
     exact P1
  ·cases h
 | ptr b off=>
  intro v m m' ρ D Lv md c h hS hc
  cases v<;>simp only[mat,reduceCtorEq]at h
  rename_i i off'
  cases hb:Nat.beq off off' with
  |false=>rw[hb]at h;cases h
  | true=>
   rw[hb]at h
   obtain rfl:=Qc hb
   simp only[Qg]at h
   obtain⟨n,h1,h2⟩:=hc
   split at h
   ·rename_i j hj
    cases hij:Nat.beq i j with
    |false=>rw[hij]at h;cases h
    |true=>
     rw[hij]at h
     obtain rfl:=Qc hij
     simp only[Qg,Qa]at h
     subst h
     exact⟨ρ,D,Lv, [], [], [],⟨Rho.le.refl _,Snap.le.refl _,hS,Ext.refl _,rfl,rfl,fun _ _ h=>h⟩,rfl,rfl,rfl,n,by simp[bet,hj,h1],h2⟩
   ·rename_i hj
    simp only[Qa]at h
    subst h
    refine⟨ρ,D,Lv, [], [], [],⟨Rho.le.refl _,Snap.le.refl _,hS,Ext.refl _,rfl,rfl,fun b' i' hb'=> ?_⟩,rfl,rfl,rfl,n,by simp[bet,lookA,h1],h2⟩
    simp only[lookA]
    cases hbb:Nat.beq b b' with
    |true=>have:=Qc hbb;subst this;rw[hj]at hb';cases hb'
    |false=>exact hb'
 | fn f l ih=>
  intro v m m' ρ D Lv md c h hS hc
  cases v<;>simp only[mat,reduceCtorEq]at h
  rename_i f' u
  cases hb:Nat.beq f f' with
  |false=>rw[hb]at h;cases h
  |true=>
   rw[hb]at h
   obtain rfl:=Qc hb
   simp only[Qg]at h
   obtain⟨vs,h1,h2⟩:=hc
   obtain⟨ρ1,D1,Lv1,dn1,on1,os1,M1,E1,P1⟩:=ih u m m' ρ D Lv true vs h hS h1
   exact⟨ρ1,D1,Lv1,dn1,on1,os1,M1,E1,vs,P1,h2⟩
 | raw x=>
  intro v m m' ρ D Lv md c h hS hc
  cases v<;>simp only[mat,reduceCtorEq]at h
  rename_i y
  cases hb:rawB x y with
  |false=>rw[hb]at h;cases h
  | true=>
   rw[hb]at h
   simp only[Qg,Qa]at h
   subst h
   have e:x=y:=by
    unfold rawB at hb
    split at hb<;>first|rfl|cases hb
   subst e
   exact⟨ρ,D,Lv, [], [], [],⟨Rho.le.refl _,Snap.le.refl _,hS,Ext.refl _,rfl,rfl,fun _ _ h=>h⟩,rfl,rfl,rfl,hc⟩
 |nils=>
  intro v m m' ρ D Lv md c h hS hc
  cases v<;>simp only[mat,reduceCtorEq,Qa]at h
  subst h
  exact⟨ρ,D,Lv, [], [], [],⟨Rho.le.refl _,Snap.le.refl _,hS,Ext.refl _,rfl,rfl,fun _ _ h=>h⟩,rfl,rfl,rfl,hc⟩
 | kb b=>
  intro v m m' ρ D Lv md c h hS hc
  cases v<;>simp only[mat,reduceCtorEq]at h
  rename_i b'
  cases hb:(b==b')with
  |false=>rw[hb]at h;cases h
  |true=>
   rw[hb]at h
   simp only[Qg,Qa]at h
   subst h
   simp only[beq_iff_eq]at hb
   subst hb
   exact⟨ρ,D,Lv, [], [], [],⟨Rho.le.refl _,Snap.le.refl _,hS,Ext.refl _,rfl,rfl,fun _ _ h=>h⟩,rfl,rfl,rfl,hc⟩
end
end Go.Sep
