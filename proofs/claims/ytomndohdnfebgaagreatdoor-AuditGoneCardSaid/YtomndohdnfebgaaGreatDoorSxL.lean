/-
 Symbolic execution: a call comes to what its contract says.
-/
import Derived.Test.YtomndohdnfebgaaGreatDoorSxK
set_option linter.unusedVariables false
set_option linter.unusedSimpArgs false
namespace Go.Sep
section
variable {T:Tb}{C:Cx T}{ct:Ct}{ρ:Rho}{D:Snap}{Lv R:List Blk}{s:SS T}{a:Act}{w:World}
variable {rd:Option Nat}{ops:Array Oper}{Q:Exit→Act→World→Prop}{i:Nat}{o:Oper}{d:Tmp}{Cn:Act→World→Prop}{α:Type}{k:SS T→Option α}{r:α}
theorem Qip:∀(bw:List (Nat×Nat)) (i b:Nat),lookA (bdOf i bw) b=if i≤b then(bw[b-i]?).map (·.1)else none
 | [],i,b=>by simp[bdOf,lookA]
 | (id,ver)::bw,i,b=>by
  simp only[bdOf,lookA]
  cases hb:Nat.beq i b with
  |true=>have:=Qc hb;subst this;simp
  |false=>
   have hne:i≠b:=fun e=>by subst e;simp at hb
   rw[Qh,Qip bw (i+1) b]
   by_cases h:i≤b
   ·rw[if_pos h,if_pos (by omega),show b-i=(b-(i+1))+1 by omega,List.getElem?_cons_succ]
   ·rw[if_neg h,if_neg (by omega)]
theorem Qdk:∀(l i n:Nat) (bd:List (Nat×Nat)) (b:Nat),lookA (Qor l i n bd) b=if i≤b∧b<i+l then some (n+(b-i))else lookA bd b
 |0,i,n,bd,b=>by rw[Qor,if_neg (by omega)]
 | l+1,i,n,bd,b=>by
  rw[Qor,Qdk l (i+1) (n+1) _ b]
  by_cases h1:i+1≤b∧b<i+1+l
  ·rw[if_pos h1,if_pos (by omega)];congr 1;omega
  ·rw[if_neg h1]
   simp only[lookA]
   cases hb:Nat.beq i b with
   |true=>have:=Qc hb;subst this;rw[if_pos (by omega)];simp
   |false=>
    have hne:i≠b:=fun e=>by subst e;simp at hb
    rw[Qh,if_neg (by omega)]
def lstS:SV T→Bool
 | .nl=>true
 | .cs _ l=>lstS l
 |_=>false
theorem Qnz{bd:List (Nat×Nat)}:∀(p:Pt) (m m':Im T) (v:SV T),lstP p=true→inst bd p m=some (v,m')→lstS v=true
 | .nl,m,m',v,_,h=>by simp only[inst,Qa,Qe]at h;obtain⟨rfl,rfl⟩:=h;rfl
 | .cs p q,m,m',v,hp,h=>by
  simp only[inst]at h
  split at h
  ·rename_i u m1 h1
   split at h
   ·rename_i l m2 h2
    simp only[Qa,Qe]at h
    obtain⟨rfl,rfl⟩:=h
    exact Qnz q m1 m2 l hp h2
   ·cases h
  ·cases h
 | .dt _,_,_,_,hp,_=>by cases hp
 | .own _ _ _,_,_,_,hp,_=>by cases hp
 | .agg _,_,_,_,hp,_=>by cases hp
 | .ptr _ _,_,_,_,hp,_=>by cases hp
 | .fn _ _,_,_,_,hp,_=>by cases hp
 | .raw _,_,_,_,hp,_=>by cases hp
 | .nils,_,_,_,hp,_=>by cases hp
 | .kb _,_,_,_,hp,_=>by cases hp
theorem QvH{l:SV T}{vs:List Value}(hl:lstS l=true)(h:RX ρ D l true vs):RV ρ D (resV l) (retV vs):=by
 cases l with
 |nl=>have h:vs= []:=h;subst h;exact YV rfl ⟨[],rfl,rfl⟩
 | cs x m=>
  cases m with
  |nl=>
   obtain⟨v,c2,rfl,h1,h2⟩:=h
   have h2:c2= []:=h2
   subst h2
   exact h1
  |cs y m=>
   have h0:=h
   obtain⟨v,c2,rfl,h1,v',c3,rfl,h2,h3⟩:=h
   exact YV rfl ⟨_,h0,rfl⟩
  |_=>cases hl
 |_=>cases hl
theorem Qqr{g w0:World}{D0:Snap}{L0:List Blk}{s':SS T}{L:List (Nat×Nat×SB T)}{Z:List Blk}(hS:Stp g w0 D0 L0 w D Z)(hn:(s'.L.map (·.1)).Nodup)(hLs:∀e∈L,e∈s'.L):∀{bw:List (Nat×Nat)} {Bs:List Blk} {es:List (Nat×Nat×SB T)} {Bq:List Blk},BwS ρ w s' bw Bs→RLs ρ D es Bq→es.map (fun e=>(e.1,e.2.1))=bw→(∀e∈es,e∈L)→(∀q∈Bq,q∈Z)→Bq=Bs
 | [],Bs,es,Bq,h1,h2,h3,_,_=>by
  have h1:Bs= []:=h1
  subst h1
  cases es with
  |nil=>exact h2
  |cons e es=>cases h3
 | x::bw,Bs,es,Bq,⟨s1,t,v,n,c,Bs',g1,g2,g3,g4,g5,g6,g7⟩,h2,h3,h4,h5=>by
  cases es with
  |nil=>cases h3
  | cons e es=>
   obtain⟨q,Bq',e1,h6,h7⟩:=h2
   subst e1 g5
   simp only[List.map_cons,List.cons.injEq]at h3
   have hmem:=hLs e (h4 e List.mem_cons_self)
   have hlk:=Yc hmem hn
   obtain⟨id,ver,b⟩:=e
   have hx:x=(id,ver):=h3.1.symm
   subst hx
   have hb:=g1.l id ver b hlk g3
   rw[g2]at hb
   cases hb
   obtain⟨m,c',k1,k2,rfl⟩:=h6
   rw[g4]at k1
   cases k1
   have hh:=(hS.st.l n _ (h5 _ List.mem_cons_self)).1
   rw[g6]at hh
   have hc:c=c':=by
    simp only[Qa,Obj.cells.injEq,and_true]at hh
    exact List.toArray_inj hh
   subst hc
   rw[Qqr hS hn hLs g7 h7 h3.2 (fun e he=>h4 e (List.mem_cons_of_mem _ he)) (fun q hq=>h5 q (List.mem_cons_of_mem _ hq))]
theorem Qi9{β:Nat→Option Nat}{D:Snap}{O:OwT T}:∀{bs:List (TypeId×Pt)} {i:Nat} {ds:List (Dy T)} {os:List (Nat×Pl)} {Bs:List Blk},PRB β D O bs i ds os Bs→Bs.length=bs.length∧∀k tp,bs[k]?=some tp→∀q,Bs[k]?=some q→∃n c,q=bx n tp.1 c∧β (i+k)=some n
 | [],_,_,_,_,⟨_,_,h⟩=>by subst h;exact⟨rfl,fun k tp h=>by simp at h⟩
 | tp::bs,i,_,_,_,⟨d1,d2,o1,o2,n,c,Bs',e1,e2,h1,e3,h2,h3⟩=>by
  subst e3
  obtain⟨g1,g2⟩:=Qi9 h3
  refine⟨by simp[g1],fun k tp' ht q hq=> ?_⟩
  cases k with
  |zero=>
   simp only[List.getElem?_cons_zero,Qa]at ht hq
   subst ht hq
   exact⟨n,c,rfl,h1⟩
  |succ k=>
   obtain⟨n',c',z1,z2⟩:=g2 k tp' (by simpa using ht) q (by simpa using hq)
   exact⟨n',c',z1,by rw[show i+(k+1)=i+1+k by omega];exact z2⟩
theorem Qs4{P:Program}{n:Nat}{ds:List Deferred}{E:List (Nat×Value)}{f:FuncId}{fv:Operand}{xs:Array Operand}{ts:Array TypeId}{first captured:Array Value}{args all:List Value}{R:Value→World→Prop}(ho:ops[i]?=some o)(hop:o.op= .call {callee:= .value fv,args:=xs,argTypes:=ts})(hg:guardOf ops E o=some true)(hd:o.dst=some d)(hE:Env a n ds E)(hn:Nat.blt d n=true)
  (hf:Yt E fv=some (.func (.func f) first captured)) (hxs:JC E xs.toList=some args) (hall:first.toList++(args++captured.toList)=all) (hfn:(P.funcs[f]?).map (fun F=>(F.name== "runtime.NumGoroutine",F.body.isNone))=some (false,false))
  (hc:CallsIn (Fw none) 0 P f all.toArray w fun e w2=>∃v,e= .returned v∧R v w2)
  (k:∀a v w',R v w'→Env a n ds ((d,v)::E)→Cn a w'):Op1 P rd ops Q i Cn a w:=by
 have hallA:first++args.toArray++captured=all.toArray:=by subst hall;apply Array.ext';simp
 obtain⟨F,hF,hF2⟩:=Option.map_eq_some_iff.1 hfn
 simp only[Qe]at hF2
 have hargs:xs.map a.eval=args.toArray:=by
  have:=yD (E:=E) (ev:=a.eval) (fun _ _ h=>hE.eval h) _ _ hxs
  rw[←Array.toList_map]at this
  rw[←this]
 refine Qnc (R:=R) (w':=w) (f:=f) (args:=all.toArray) hE ho hg (by simp[hd,JI,hn]) (by simp[hop,Q5]) ?_ hc ?_
 ·have h1: ¬F.name= "runtime.NumGoroutine" :=by simpa using hF2.1
  have h2:F.body≠none:=by intro e;rw[e]at hF2;simp at hF2
  simp[execOp,hop,resolve,hE.eval hf,Deferred.ofValue,hargs,invoke,callFunc,hF,h1,h2,←hallA]
 ·rw[hd]
  intro v w2 a' hR h'
  exact k a' v w2 hR h'
theorem Ql8 (hC:CxOk C ct){sp:FSp T}(hV:VOk C.P C.G sp)(h:RSx ct ρ D Lv R s a w)(du:Du ct ops i o a (some d)){f:Operand}{xs:Array Operand}{ts:Array TypeId}(hop:o.op= .call {callee:= .value f,args:=xs,argTypes:=ts}){as:SV T}{ou:Out T}{first captured:Array Value}{vs0:List Value}
  (e1:Yt (EvA a) f=some (.func (.func sp.fid) first captured)) (e3:JC (EvA a) xs.toList=some vs0) (r3:RX ρ D as true (first.toList++(vs0++captured.toList))) (hcall:QpZ sp s (some d) as=some ou) (hs:ou.run k=some r)
  (hk:∀s' a' w',Ext s s'→k s'=some r→RS ct s' a' w'→Cn a' w'):Op1 C.P rd ops Q i Cn a w:=by
 have hT:=hC.tb
 unfold QpZ at hcall
 split at hcall
 ·rename_i m1 hm1
  split at hcall
  ·rename_i m2 bw hm2
   split at hcall
   ·rename_i p L1 hp hL1
    split at hcall
    ·rename_i es L2 hpick
     simp only[Qa]at hcall
     subst hcall
     obtain⟨rr,s',hfn,haft,hkk⟩:=jP hs
     obtain⟨ρ1,D1,Lv1,dn1,on1,os1,M1,E1,P1⟩:=Qe6 hT sp.args _ _ m1 ρ D Lv true _ hm1 h r3
     obtain⟨ρ2,D2,Lv2,dn2,on2,os2,Bs,M2,E2,P2,B2,K2,N2⟩:=Qi3 hT sp.blks 0 m1 m2 bw ρ1 D1 Lv1 hm2 M1.rs
     have H:=M2.rs
     have hext:Ext s m2.s:=M1.ext.trans M2.ext
     have hdy:m2.dy.reverse=dn1++dn2:=by rw[M2.dy,M1.dy];simp
     have how:m2.ow.reverse=on1++on2:=by rw[M2.ow,M1.ow];simp
     rw[hdy]at hp
     rw[how]at hL1
     have hpu:=QgH hp
     obtain⟨Qs,Ls1,q1,q2,q3,q4,q5⟩:=QdQ _ _ _ _ hL1 H.l H.nd
     have hn1:(L1.map (·.1)).Nodup:=H.nd.sublist (q3.map _)
     obtain⟨Bq,Ls2,b1,b2,b3,b4,b5,b6⟩:=QcQ _ _ _ _ _ hpick q2 hn1
     have hperm:(Lv2++R).Perm ((Bq++Qs)++(Ls2++R)):=by
      have h1:Lv2.Perm (Qs++(Bq++Ls2)):=q1.trans (List.Perm.append_left _ b1)
      have h2:(Qs++(Bq++Ls2)).Perm ((Bq++Qs)++Ls2):=by
       rw[←List.append_assoc]
       exact List.Perm.append_right _ List.perm_append_comm
      rw[←List.append_assoc]
      exact List.Perm.append_right _ (h1.trans h2)
     have hS:=H.st.prm hperm
     have hBq:Bq=Bs:=Qqr (L:=L1) hS H.nd (fun e he=>q3.subset he) B2 b4 b5 (fun e he=>b6.symm.subset (List.mem_append_left _ he)) (fun q hq=>by simp[hq])
     subst hBq
     have hren:Ren (OwS ρ2 m2.s m2.ow) (OwQ Qs D2) (os1++os2) (idx 0 (os1++os2)):=by
      refine QgK _ 0 fun k x hx t e f xl A cap ex ho=> ?_
      rw[Nat.zero_add]
      have hon:((on1++on2).map (·.1))[k]?=some x.1:=by
       rw[List.map_append,←E1,←E2,←List.map_append,List.getElem?_map,hx];rfl
      rw[List.getElem?_map]at hon
      obtain⟨y,hy,hyx⟩:=Option.map_eq_some_iff.1 hon
      obtain⟨b,q,z1,z2,z3⟩:=q5 k y hy
      obtain⟨s1,ver,f0,w1,w2,w3,w4,w5,w6⟩:=ho
      have hmem:(x.1,ver)∈on1++on2:=by rw[←how];simpa using w6
      obtain⟨k2,hk2⟩:=List.mem_iff_getElem?.1 hmem
      obtain⟨b',q',z4,_,_⟩:=q5 k2 _ hk2
      rw[hyx]at z1 z3
      rw[z4]at z1
      simp only[Qa,Qe]at z1
      obtain⟨z5,z6⟩:=z1
      subst z6
      have z7:=w1.l _ _ _ z4 w3
      rw[w2]at z7
      simp only[Qa,Qe]at z7
      rw[←z7.2]at z3
      obtain⟨A',cap',z8,z9⟩:=z3
      rw[w5]at z8
      cases z8
      exact⟨q,z2,z9.of w4⟩
     obtain⟨y1,y2,hy,rn1,rn2⟩:=XU hren
     have PA:=Qe7 _ _ _ _ _ _ (Zw (y7 M2.rho M2.bd) M2.le (fun _ _ _ _ _ _ _ ho=>XF M2.rho M2.ext (fun x hx=>by rw[M2.ow];exact List.mem_append_right _ hx) ho) _ _ _ _ _ P1) rn1
     have PB:=Qi5 P2 rn2
     have hidx:(y1++y2).map (·.1)=List.range Qs.length:=by
      rw[←hy,QgJ,List.range_eq_range',q4]
      congr 1
      have:((os1++os2).map (·.1)).length=((on1++on2).map (·.1)).length:=by simp[E1,E2]
      simpa using this
     have hcalls:=hV.v ct.g w D2 (bet ρ2 m2.bd) p dn1 dn2 y1 y2 (first.toList++(vs0++captured.toList)) Bq Qs rr (fun g d hg=>(hC.gl g d hg).mono hS.dle) hpu PA PB hidx hS.st.fore hfn
     refine Qs4 du.ho hop du.hg du.hd h.env du.lt e1 e3 rfl hV.fn hcalls fun a' v w' hR hE=> ?_
     obtain⟨D',β',Bs',Ns,Qs',dR,dO,dN,oR,oO,oN,vs',g1,g2,g3,g4,g5,g6,g7,g8⟩:=hR
     have hS':=hS.call g8
     have hd':D2.le D':=g8.dle
     unfold aftS at haft
     simp only at haft
     split at haft
     ·rename_i v1 i1 hi1
      split at haft
      ·rename_i Lo i2 hi2
       split at haft
       ·rename_i Ln i3 hi3
        simp only[Qa]at haft
        have hnx:∀j,m2.s.nx≤j→ρ2 j=none:=fun j hj=>by
         cases hr:ρ2 j with
         |none=>rfl
         |some p=>have:=H.dom _ _ hr;omega
        have hlenO:=(Qi9 P2).1
        obtain⟨hBl,hBg⟩:=Qi9 PB
        let nb:=sp.blks.length
        let nn:=sp.new.length
        let bd:=Qor nn nb m2.s.nx (bdOf 0 bw)
        let oA:=oR++(oO++oN)
        let ρ':Rho:=fun id=>match ρ2 id with
         |some p=>some p
         |none=>if id<m2.s.nx then none else if id<m2.s.nx+nn then(β' (nb+(id-m2.s.nx))).map Pl.blk else(oA[id-(m2.s.nx+nn)]?).map (·.2)
        have hle:ρ2.le ρ':=fun i p hp=>by simp only[ρ',hp]
        have hbd:∀b n i,β' b=some n→lookA bd b=some i→ρ' i=some (.blk n):=by
         intro b n i hb hi
         simp only[bd]at hi
         rw[Qdk]at hi
         split at hi
         ·rename_i hr
          simp only[Qa]at hi
          subst hi
          simp only[ρ',hnx _ (Nat.le_add_right _ _)]
          rw[if_neg (by omega),if_pos (by omega),show nb+(m2.s.nx+(b-nb)-m2.s.nx)=b by omega,hb]
          rfl
         ·rename_i hr
          rw[Qip,if_pos (Nat.zero_le _),Nat.sub_zero]at hi
          obtain⟨x,hx,hxi⟩:=Option.map_eq_some_iff.1 hi
          have hlt:b<nb:=by
           have:=(List.getElem?_eq_some_iff.1 hx).1
           simp only[nb];omega
          have hkb:=K2 b x hx
          rw[Nat.zero_add]at hkb
          obtain⟨tp,htp⟩:∃tp,sp.blks[b]?=some tp:=⟨_,List.getElem?_eq_getElem hlt⟩
          obtain⟨q,hq⟩:∃q,Bq[b]?=some q:=⟨_,List.getElem?_eq_getElem (by rw[hBl];exact hlt)⟩
          obtain⟨n0,c0,_,hbet⟩:=hBg b tp htp q hq
          rw[Nat.zero_add]at hbet
          have:=g1 b n0 hlt hbet
          rw[hb]at this
          cases this
          unfold bet at hbet
          rw[hkb]at hbet
          simp only at hbet
          rw[←hxi]
          split at hbet
          ·rename_i m hm
           cases hbet
           exact hle _ _ hm
          ·cases hbet
        have hown:∀k x,oA[k]?=some x→ρ' (m2.s.nx+nn+k)=some x.2:=by
         intro k x hx
         simp only[ρ',hnx _ (show m2.s.nx≤m2.s.nx+nn+k by omega)]
         rw[if_neg (by omega),if_neg (by omega),show m2.s.nx+nn+k-(m2.s.nx+nn)=k by omega,hx]
         rfl
        have ho1:∀k x,oR[k]?=some x→ρ' (m2.s.nx+nn+k)=some x.2:=fun k x hx=>hown k x (by simp only[oA];rw[List.getElem?_append_left (List.getElem?_eq_some_iff.1 hx).1];exact hx)
        obtain⟨_,I1,X1⟩:=Qcb sp.res true _ i1 v1 dR oR vs' (dO++dN) hi1 g2 g3
        obtain⟨I2,Y1,Y2,X2⟩:=Ql7 (ρ:=ρ2) (D:=D') hd' sp.blks sp.out 0 es i1 i2 Lo dO oO Bq Bs' dN hi2 I1.dy g5 b4 (fun k tp ht q hq=>by
         obtain⟨n,c,z1,z2⟩:=hBg k tp ht q hq
         refine⟨n,c,z1,fun n' hn'=> ?_⟩
         rw[Nat.zero_add]at z2 hn'
         have:=g1 k n (List.getElem?_eq_some_iff.1 ht).1 z2
         rw[hn']at this
         exact Option.some.inj this)
        obtain⟨I3,Z1,Z2,X3⟩:=Qqq sp.new sp.blks.length i2 i3 Ln dN oN Ns [] hi3 (by rw[I2.dy];simp) g6
        have R1:=X1 ρ' hbd (fun k x hx=>ho1 k x hx)
        have hI1:i1.nx=m2.s.nx+nn+oR.length:=I1.nx
        have R2:=X2 ρ' hle hbd (fun k x hx=>by
         rw[hI1,Nat.add_assoc]
         exact hown _ x (by simp only[oA];rw[List.getElem?_append_right (Nat.le_add_right _ _),Nat.add_sub_cancel_left,List.getElem?_append_left (List.getElem?_eq_some_iff.1 hx).1];exact hx))
        have hI2:i2.nx=m2.s.nx+nn+oR.length+oO.length:=by rw[I2.nx,hI1]
        have R3:=X3 ρ' hbd (fun k x hx=>by
         rw[hI2,show m2.s.nx+nn+oR.length+oO.length+k=m2.s.nx+nn+(oR.length+(oO.length+k)) by omega]
         exact hown _ x (by simp only[oA];rw[List.getElem?_append_right (Nat.le_add_right _ _),Nat.add_sub_cancel_left,List.getElem?_append_right (Nat.le_add_right _ _),Nat.add_sub_cancel_left];exact hx))
        have hI3:i3.nx=m2.s.nx+nn+oA.length:=by rw[I3.nx,hI2];simp only[oA,List.length_append];omega
        obtain⟨eo,eoL,eoO⟩:=(I1.trans (I2.trans I3)).L
        have eoL:i3.L=eo.reverse:=by rw[eoL];simp
        have eoO:OEs (OwQ Qs' D') (m2.s.nx+nn) oA eo:=eoO
        obtain⟨eid1,eid2⟩:=Qi8 eoO
        have hoAl:oA.length=Qs'.length:=by
         have:=congrArg List.length g7
         simpa[oA] using this
        have R4:RLs ρ' D' eo Qs':=by
         have:=Qi7 (ρ:=ρ') (j:=0) eoO (by rw[show oA.map (·.1)=List.range Qs'.length from g7,List.range_eq_range',hoAl]) (by omega) hown
         simpa using this
        subst haft
        have hLL:RLs ρ' D' (Lo++(Ln++(i3.L++L2))) (Bs'++(Ns++(Qs'.reverse++Ls2))):=by
         rw[eoL]
         exact Zx R2 (Zx R3 (Zx (Qi6 R4) (yj hle hd' b2)))
        have hidsN:Ln.map (·.1)=List.range' m2.s.nx nn:=by
         have z:(Ln.map (·.1)).map some=(List.range' m2.s.nx nn).map some:=by
          rw[List.map_map]
          refine Eq.trans Z2 ?_
          apply List.ext_getElem?
          intro j
          simp only[List.getElem?_map]
          by_cases hj:j<nn
          ·rw[List.getElem?_range' hj,List.getElem?_range' hj]
           simp only[Option.map_some,Nat.one_mul,Qa]
           rw[Qdk,if_pos (by omega)]
           congr 1;omega
          ·rw[List.getElem?_eq_none (by simp;omega),List.getElem?_eq_none (by simp;omega)]
           rfl
         exact(List.map_inj_right (fun _ _ h=>Option.some.inj h)).1 z
        have hpm:L1.Perm (es++L2):=b6
        have hidl:∀e∈m2.s.L,e.1<m2.s.nx:=fun e he=>H.idlt he
        have hes:∀e∈es,e∈m2.s.L:=fun e he=>q3.subset (hpm.symm.subset (List.mem_append_left _ he))
        have hL2:∀e∈L2,e∈m2.s.L:=fun e he=>q3.subset (hpm.symm.subset (List.mem_append_right _ he))
        have hall:∀e∈Lo++(Ln++(i3.L++L2)),e∈m2.s.L∨(m2.s.nx≤e.2.1∧e.2.1<i3.nx+1):=by
         intro e he
         rcases List.mem_append.1 he with he|he
         ·rcases Y2 e he with h1|h1
          ·exact .inr ⟨by omega,by omega⟩
          ·exact .inl (hes e h1.1)
         rcases List.mem_append.1 he with he|he
         ·have:=Z1 e he;exact .inr ⟨by omega,by omega⟩
         rcases List.mem_append.1 he with he|he
         ·rw[eoL,List.mem_reverse]at he
          have h1:=eid2 e he
          have h2:e.1∈eo.map (·.1):=List.mem_map.2 ⟨e,he,rfl⟩
          rw[eid1,List.mem_range'_1]at h2
          exact .inr ⟨by omega,by omega⟩
         ·exact .inl (hL2 e he)
        have hnd:((Lo++(Ln++(i3.L++L2))).map (·.1)).Nodup:=by
         have n1:(es.map (·.1)++L2.map (·.1)).Nodup:=by
          rw[←List.map_append]
          exact(hpm.map _).nodup_iff.1 hn1
         rw[List.nodup_append]at n1
         have n2:∀x∈es.map (·.1),x<m2.s.nx:=fun x hx=>by obtain⟨e,he,rfl⟩:=List.mem_map.1 hx;exact hidl e (hes e he)
         have n3:∀x∈L2.map (·.1),x<m2.s.nx:=fun x hx=>by obtain⟨e,he,rfl⟩:=List.mem_map.1 hx;exact hidl e (hL2 e he)
         rw[List.map_append,List.map_append,List.map_append,Y1,hidsN,eoL,List.map_reverse,eid1]
         rw[List.nodup_append,List.nodup_append,List.nodup_append]
         refine⟨n1.1,⟨List.nodup_range',⟨(List.reverse_perm _).nodup_iff.2 List.nodup_range',n1.2.1,?_⟩,?_⟩,?_⟩
         ·intro x hx y hy
          rw[List.mem_reverse,List.mem_range'_1]at hx
          have:=n3 y hy
          omega
         ·intro x hx y hy
          rw[List.mem_range'_1]at hx
          rcases List.mem_append.1 hy with hy|hy
          ·rw[List.mem_reverse,List.mem_range'_1]at hy;omega
          ·have:=n3 y hy;omega
         ·intro x hx y hy
          have:=n2 x hx
          rcases List.mem_append.1 hy with hy|hy
          ·rw[List.mem_range'_1]at hy;omega
          rcases List.mem_append.1 hy with hy|hy
          ·rw[List.mem_reverse,List.mem_range'_1]at hy;omega
          ·exact n1.2.2 x hx y hy
        have hfin:RSx ct ρ' D' (Bs'++(Ns++(Qs'.reverse++Ls2))) R {m2.s with L:=Lo++(Ln++(i3.L++L2)),nx:=i3.nx+1} a w':=by
         refine⟨H.rb.trans hle,fun j p hj=> ?_,fun e he=> ?_,hnd,H.size,H.ds,fun t sv ht=> ?_,hLL,?_,ct.fr.mono hd' H.fr,?_,⟨by show ct.nb≤i3.nx+1;have:=H.ex.1;omega,fun i hi hn=> ?_⟩,H.o⟩
         ·show j<i3.nx+1
          simp only[ρ']at hj
          split at hj
          ·rename_i p' hp'
           have:=H.dom _ _ hp';omega
          ·split at hj
           ·cases hj
           ·split at hj
            ·omega
            ·obtain⟨x,hx,_⟩:=Option.map_eq_some_iff.1 hj
             have:=(List.getElem?_eq_some_iff.1 hx).1
             omega
         ·show e.2.1<i3.nx+1
          rcases hall e he with h1|h1
          ·have:=H.ver e h1;omega
          ·exact h1.2
         ·obtain⟨v,z1,z2⟩:=H.e t sv ht
          exact⟨v,z1,JL hle hd' z2⟩
         ·refine hS'.prm ?_
          have p1:(Qs'++(Ls2++R)).Perm (Qs'.reverse++(Ls2++R)):=List.Perm.append_right _ (List.reverse_perm Qs').symm
          have e4:(Bs'++(Ns++Qs'))++(Ls2++R)=Bs'++(Ns++(Qs'++(Ls2++R))):=by simp
          have e5:(Bs'++(Ns++(Qs'.reverse++Ls2)))++R=Bs'++(Ns++(Qs'.reverse++(Ls2++R))):=by simp
          rw[e4,e5]
          exact List.Perm.append_left _ (List.Perm.append_left _ p1)
         ·refine H.ini.mv hle hS.st hS'.st fun id b p' hp hl=> ?_
          have hlt:=H.dom _ _ hp
          have hmem:=Yr hl
          have hfr: ¬(m2.s.nx≤id):=by omega
          rcases List.mem_append.1 hmem with he|he
          ·rcases Y2 _ he with h1|⟨h1,q,k1,k2,k3⟩
           ·have h1:id=m2.s.nx:=h1
            omega
           ·exact⟨Yc (hes _ h1) H.nd,q,D2,k1,by simp[k2],by simp[k3]⟩
          rcases List.mem_append.1 he with he|he
          ·have h1:=(Z1 _ he)
           have h1:id=m2.s.nx:=h1
           omega
          rcases List.mem_append.1 he with he|he
          ·rw[eoL,List.mem_reverse]at he
           have h2:id∈eo.map (·.1):=List.mem_map.2 ⟨_,he,rfl⟩
           rw[eid1,List.mem_range'_1]at h2
           omega
          ·have hn2:(L2.map (·.1)).Nodup:=hn1.sublist (b3.map _)
           obtain⟨X,q,Y,e6,k1,_⟩:=qJ b2 (Yc he hn2)
           exact⟨Yc (hL2 _ he) H.nd,q,D2,k1,by rw[e6];simp,by rw[e6];simp⟩
         ·have h1:=H.ex.1
          simp only[ρ',H.ex.2 i hi hn]
          rw[if_pos (by omega)]
        have hput:=hfin.put (d:=some d) (sv:=resV v1) (v:=v) (fun _ _=>by rw[g4];exact QvH (Qnz _ _ _ _ hV.l hi1) R1) du.fr hE
        refine hk _ a' w' (hext.trans ⟨⟨[(d,resV v1)],rfl⟩,?_,fun id v sb hlk hv=> ?_⟩) hkk ⟨ρ',D',_,R,hput⟩
        ·show m2.s.nx≤i3.nx+1;omega
        ·have hmem:=Yr hlk
         rcases hall _ hmem with h1|h1
         ·exact Yc h1 H.nd
         ·have h2:m2.s.nx≤v:=h1.1
          omega
       ·cases haft
      ·cases haft
     ·cases haft
    ·cases hcall
   ·cases hcall
  ·cases hcall
 ·cases hcall
theorem QvI{P:Program}{n:Nat}{ds:List Deferred}{E:List (Nat×Value)}{f:FuncId}{fv:Operand}{xs:Array Operand}{ts:Array TypeId}{first captured:Array Value}{args all:List Value}{R:World→Prop}{en:PanicEntry}(ho:ops[i]?=some o)(hop:o.op= .call {callee:= .value fv,args:=xs,argTypes:=ts})(hg:guardOf ops E o=some true)(hE:Env a n ds E)
  (hf:Yt E fv=some (.func (.func f) first captured)) (hxs:JC E xs.toList=some args) (hall:first.toList++(args++captured.toList)=all) (hfn:(P.funcs[f]?).map (fun F=>(F.name== "runtime.NumGoroutine",F.body.isNone))=some (false,false))
  (hc:CallsIn (Fw none) 0 P f all.toArray w fun e w2=>e= .panicked [en]∧R w2)
  (k:∀w',R w'→Q (.panic [en]) a w'):Op1 P rd ops Q i Cn a w:=by
 have hallA:first++args.toArray++captured=all.toArray:=by subst hall;apply Array.ext';simp
 obtain⟨F,hF,hF2⟩:=Option.map_eq_some_iff.1 hfn
 simp only[Qe]at hF2
 have hargs:xs.map a.eval=args.toArray:=by
  have:=yD (E:=E) (ev:=a.eval) (fun _ _ h=>hE.eval h) _ _ hxs
  rw[←Array.toList_map]at this
  rw[←this]
 have hw:=jk (ops:=ops) hE hg
 have hr:(execOp a.eval o).run P w= .ok (.enter f all.toArray) w:=by
  have h1: ¬F.name= "runtime.NumGoroutine" :=by simpa using hF2.1
  have h2:F.body≠none:=by intro e;rw[e]at hF2;simp at hF2
  simp[execOp,hop,resolve,hE.eval hf,Deferred.ofValue,hargs,invoke,callFunc,hF,h1,h2,←hallA]
 simp only[Op1,wpOpIn,ho,hw,if_true,Oper.wpIn]
 refine⟨fun _ _=>trivial,?_⟩
 rw[XA (by simp[hop,Q5]),hr]
 refine⟨fun h=>(by cases h),(Qum hc).mono ?_⟩
 rintro e w2 ⟨rfl,hR⟩
 exact k w2 hR
theorem QuJ{E β R:Type}{x:Option (E ⊕ β)}{l:E→Option R}{rr:β→Option R}{z:R}(h:sm x l rr=some z):(∃e,x=some (.inl e)∧l e=some z)∨∃y,x=some (.inr y)∧rr y=some z:=by
 unfold sm at h
 split at h
 ·exact .inl ⟨_,rfl,h⟩
 ·exact .inr ⟨_,rfl,h⟩
 ·cases h
theorem Qs5(hC:CxOk C ct){sp:FSp T}(hV:VOk C.P C.G sp)(h:RSx ct ρ D Lv R s a w)(du:Du ct ops i o a (some d)){f:Operand}{xs:Array Operand}{ts:Array TypeId}(hop:o.op= .call {callee:= .value f,args:=xs,argTypes:=ts}){as:SV T}{q:POut T}{first captured:Array Value}{vs0:List Value}{kp:TypeId×Bool→Int→SS T→Option α}
  (e1:Yt (EvA a) f=some (.func (.func sp.fid) first captured)) (e3:JC (EvA a) xs.toList=some vs0) (r3:RX ρ D as true (first.toList++(vs0++captured.toList))) (hcall:QsP sp s (some d) as=some q) (hs:q.run kp k=some r)
  (hk:∀s' a' w',Ext s s'→k s'=some r→RS ct s' a' w'→Cn a' w')
  (hp:∀x e s' w',Ext s s'→kp x e s'=some r→RS ct s' a w'→Q (.panic [{v:=pvV x e,recovered:=false}]) a w'):Op1 C.P rd ops Q i Cn a w:=by
 have hT:=hC.tb
 unfold QsP at hcall
 split at hcall
 ·cases hcall
 ·rename_i x hpv
  split at hcall
  ·rename_i m1 hm1
   split at hcall
   ·rename_i m2 bw hm2
    split at hcall
    ·rename_i p L1 hpp hL1
     split at hcall
     ·rename_i es L2 hpick
      simp only[Qa]at hcall
      subst hcall
      rcases QuJ hs with⟨e,hfe,hke⟩|⟨y,hfy,hky⟩
      ·obtain⟨ρ1,D1,Lv1,dn1,on1,os1,M1,E1,P1⟩:=Qe6 hT sp.args _ _ m1 ρ D Lv true _ hm1 h r3
       obtain⟨ρ2,D2,Lv2,dn2,on2,os2,Bs,M2,E2,P2,B2,K2,N2⟩:=Qi3 hT sp.blks 0 m1 m2 bw ρ1 D1 Lv1 hm2 M1.rs
       have H:=M2.rs
       have hext:Ext s m2.s:=M1.ext.trans M2.ext
       have hdy:m2.dy.reverse=dn1++dn2:=by rw[M2.dy,M1.dy];simp
       have how:m2.ow.reverse=on1++on2:=by rw[M2.ow,M1.ow];simp
       rw[hdy]at hpp
       rw[how]at hL1
       have hpu:=QgH hpp
       obtain⟨Qs,Ls1,q1,q2,q3,q4,q5⟩:=QdQ _ _ _ _ hL1 H.l H.nd
       have hn1:(L1.map (·.1)).Nodup:=H.nd.sublist (q3.map _)
       obtain⟨Bq,Ls2,b1,b2,b3,b4,b5,b6⟩:=QcQ _ _ _ _ _ hpick q2 hn1
       have hperm:(Lv2++R).Perm ((Bq++Qs)++(Ls2++R)):=by
        have h1:Lv2.Perm (Qs++(Bq++Ls2)):=q1.trans (List.Perm.append_left _ b1)
        have h2:(Qs++(Bq++Ls2)).Perm ((Bq++Qs)++Ls2):=by
         rw[←List.append_assoc]
         exact List.Perm.append_right _ List.perm_append_comm
        rw[←List.append_assoc]
        exact List.Perm.append_right _ (h1.trans h2)
       have hS:=H.st.prm hperm
       have hBq:Bq=Bs:=Qqr (L:=L1) hS H.nd (fun e he=>q3.subset he) B2 b4 b5 (fun e he=>b6.symm.subset (List.mem_append_left _ he)) (fun q hq=>by simp[hq])
       subst hBq
       have hren:Ren (OwS ρ2 m2.s m2.ow) (OwQ Qs D2) (os1++os2) (idx 0 (os1++os2)):=by
        refine QgK _ 0 fun k x hx t e f xl A cap ex ho=> ?_
        rw[Nat.zero_add]
        have hon:((on1++on2).map (·.1))[k]?=some x.1:=by
         rw[List.map_append,←E1,←E2,←List.map_append,List.getElem?_map,hx];rfl
        rw[List.getElem?_map]at hon
        obtain⟨y,hy,hyx⟩:=Option.map_eq_some_iff.1 hon
        obtain⟨b,q,z1,z2,z3⟩:=q5 k y hy
        obtain⟨s1,ver,f0,w1,w2,w3,w4,w5,w6⟩:=ho
        have hmem:(x.1,ver)∈on1++on2:=by rw[←how];simpa using w6
        obtain⟨k2,hk2⟩:=List.mem_iff_getElem?.1 hmem
        obtain⟨b',q',z4,_,_⟩:=q5 k2 _ hk2
        rw[hyx]at z1 z3
        rw[z4]at z1
        simp only[Qa,Qe]at z1
        obtain⟨z5,z6⟩:=z1
        subst z6
        have z7:=w1.l _ _ _ z4 w3
        rw[w2]at z7
        simp only[Qa,Qe]at z7
        rw[←z7.2]at z3
        obtain⟨A',cap',z8,z9⟩:=z3
        rw[w5]at z8
        cases z8
        exact⟨q,z2,z9.of w4⟩
       obtain⟨y1,y2,hy,rn1,rn2⟩:=XU hren
       have PA:=Qe7 _ _ _ _ _ _ (Zw (y7 M2.rho M2.bd) M2.le (fun _ _ _ _ _ _ _ ho=>XF M2.rho M2.ext (fun x hx=>by rw[M2.ow];exact List.mem_append_right _ hx) ho) _ _ _ _ _ P1) rn1
       have PB:=Qi5 P2 rn2
       have hidx:(y1++y2).map (·.1)=List.range Qs.length:=by
        rw[←hy,QgJ,List.range_eq_range',q4]
        congr 1
        have:((os1++os2).map (·.1)).length=((on1++on2).map (·.1)).length:=by simp[E1,E2]
        simpa using this
       have hcalls:=hV.pn x hpv ct.g w D2 (bet ρ2 m2.bd) p dn1 dn2 y1 y2 (first.toList++(vs0++captured.toList)) Bq Qs e (fun g d hg=>(hC.gl g d hg).mono hS.dle) hpu PA PB hidx hS.st.fore hfe
       refine QvI (R:=fun w'=>∃D',Stp ct.g w D2 (Bq++Qs) w' D' (Qan sp.pk Bq)) du.ho hop du.hg h.env e1 e3 rfl hV.fn hcalls fun w' hR=> ?_
       obtain⟨D',g8⟩:=hR
       have hS':=hS.call g8
       have hd':D2.le D':=g8.dle
       have hpm:L1.Perm (es++L2):=b6
       have hsb:(Qan sp.pk es++L2).Sublist (es++L2):=(QdR _ _).append (List.Sublist.refl _)
       have hL2:∀e∈Qan sp.pk es++L2,e∈m2.s.L:=fun e he=>q3.subset (hpm.symm.subset (hsb.subset he))
       have hn2:((Qan sp.pk es++L2).map (·.1)).Nodup:=((hpm.map (·.1)).nodup_iff.1 hn1).sublist (hsb.map _)
       have b2':=Zx (Qi4 sp.pk b4) b2
       refine hp x e {m2.s with L:=Qan sp.pk es++L2} w' (hext.trans ⟨⟨[],rfl⟩,Nat.le_refl _,fun id v sb hlk hv=>Yc (hL2 _ (Yr hlk)) H.nd⟩) hke ⟨ρ2,D',Qan sp.pk Bq++Ls2,R,⟨H.rb,H.dom,fun e he=>H.ver e (hL2 e he),hn2,H.size,H.ds,fun t sv ht=> ?_,yj (Rho.le.refl _) hd' b2',by rw[List.append_assoc];exact hS',ct.fr.mono hd' H.fr,?_,H.ex,H.o⟩⟩
       ·obtain⟨v,z1,z2⟩:=H.e t sv ht
        exact⟨v,z1,JL (Rho.le.refl _) hd' z2⟩
       ·refine H.ini.mv (Rho.le.refl _) hS.st hS'.st fun id b p' hp hl=> ?_
        obtain⟨X,q,Y,e6,k1,_⟩:=qJ b2' hl
        have hq:q∈Qan sp.pk Bq++Ls2:=by rw[e6];simp
        refine⟨Yc (hL2 _ (Yr hl)) H.nd,q,D2,k1,?_,?_⟩
        ·rcases List.mem_append.1 hq with hq|hq
         ·exact List.mem_append_left _ (List.mem_append_left _ ((QdR _ _).subset hq))
         ·exact List.mem_append_right _ (List.mem_append_left _ hq)
        ·rw[←List.append_assoc]
         exact List.mem_append_left _ hq
      ·have hfn:=hV.fs x hpv p y hfy
       refine Ql8 (ou:= .dem (sp.fn p) (aftS sp m2.s bw es L2 (some d))) hC hV h du hop e1 e3 r3 ?_ ?_ hk
       ·unfold QpZ
        simp only[hm1,hm2,hpp,hL1,hpick]
       ·show(sp.fn p).bind _=some r
        rw[hfn]
        exact hky
     ·cases hcall
    ·cases hcall
   ·cases hcall
  ·cases hcall
end
end Go.Sep
