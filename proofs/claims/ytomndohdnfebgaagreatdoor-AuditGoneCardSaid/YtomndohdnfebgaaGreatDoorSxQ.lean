/-
 Symbolic execution: a function's start and its results.
-/
import Derived.Test.YtomndohdnfebgaaGreatDoorSxY
set_option linter.unusedVariables false
set_option linter.unusedSimpArgs false
namespace Go.Sep
section
variable {T:Tb}{C:Cx T}{ct:Ct}{ρ:Rho}{D:Snap}{Lv R:List Blk}{s:SS T}{a:Act}{w:World}{rd:Option Nat}
theorem Ext.xeE{m:Nat}{s s':SS T}(h:Ext s s')(he:s'.E=s.E):XE m s s':=⟨fun t _ sv hl=>⟨sv,by rw[he];exact hl,fun _ _ _ h=>h⟩,h.nx,h.l⟩
theorem Qji(m:Nat):∀(os:List Nat) (s s':SS T),Qoy os s=some s'→RS ct s a w→RS ct s' a w∧XE m s s'
 | [],s,s',h,hS=>by
  simp only[Qoy,Qa]at h
  subst h
  exact⟨hS,XE.refl _ _⟩
 | o::os,s,s',h,hS=>by
  simp only[Qoy]at h
  split at h
  ·rename_i ver y e xs hl
   obtain⟨ρ,D,Lv,R,hS⟩:=hS
   obtain⟨D',Lv',A,cap,hd,h1,h2,h3⟩:=hS.lend hl
   have h4:XE m s (s.wr o (.own y e xs false)):=(Ext.wr _ _ _).xeE rfl
   obtain⟨g1,g2⟩:=Qji m os _ s' h ⟨ρ,D',Lv',R,h1⟩
   exact⟨g1,h4.trans g2 fun t ht=>⟨ht,ht⟩⟩
  ·exact Qji m os s s' h hS
  ·cases h
theorem QfY(m:Nat):∀(ts:List Nat) (s s':SS T),Ql1 ts s=some s'→RS ct s a w→RS ct s' a w∧XE m s s'
 | [],s,s',h,hS=>by
  simp only[Ql1,Qa]at h
  subst h
  exact⟨hS,XE.refl _ _⟩
 | t::ts,s,s',h,hS=>by
  simp only[Ql1]at h
  split at h
  ·split at h
   ·rename_i s1 h1
    obtain⟨g1,g2⟩:=Qji m _ _ _ h1 hS
    obtain⟨g3,g4⟩:=QfY m ts _ s' h g1
    exact⟨g3,g2.trans g4 fun t ht=>⟨ht,ht⟩⟩
   ·cases h
  ·cases h
theorem Jy{α β:Type}{x:Option α}{k:α→Option β}{r:β}(h:oE x k=some r):∃y,x=some y∧k y=some r:=by
 cases x with
 |none=>cases h
 |some y=>exact⟨y,rfl,h⟩
theorem or_l{m1 m2 t:Nat}(h:(m1|||m2).testBit t=false):m1.testBit t=false∧m2.testBit t=false:=by
 rw[Nat.testBit_or]at h
 simpa using h
def Tn(ct:Ct)(q:Pj)(m:Nat)(s:SS T)(y:TU T.ty q.ty)(a:Act)(w:World):Prop:=∀s1,Qdg q m s y=some s1→RS ct s1 a w∧XE m s s1
theorem QqY(hT:TbOk T){P:Program}:∀(ts:List Nat) (s s':SS T),fzS P ts s=some s'→RS ct s a w→RS ct s' a w∧XE (tsM ts) s s'
 | [],s,s',h,hS=>by
  simp only[fzS,Qa]at h
  subst h
  exact⟨hS,XE.refl _ _⟩
 | t :: ts,s,s',h,hS=>by
  unfold fzS at h
  split at h
  ·rename_i b hb
   split at h
   ·rename_i ver tid c hl
    split at h
    ·rename_i y hy
     split at h
     ·rename_i z s1 hf
      split at h
      ·rename_i ver' tid' c' hl1
       obtain⟨ρ,D,Lv,R,hS⟩:=hS
       obtain⟨X,Y,m,cs,_,h2,h3,h4,_⟩:=hS.var hl
       obtain⟨D1,Lv1,hd1,h1,hr,hx⟩:=Qb7 hT 60 _ _ _ _ _ _ _ _ hf hS h3
       obtain⟨X1,Y1,m1,cs1,rfl,g2,g3,g4,g5,_⟩:=h1.var hl1
       rw[h2]at g2
       cases g2
       rw[h4]at g4
       simp only[Qa,Obj.cells.injEq,and_true]at g4
       have g6:cs=cs1:=by
        have:=congrArg Array.toList g4.1
        simpa using this
       subst g6
       obtain⟨D2,hd2,hm,hR⟩:=h1.gone g5
       have hE:=hR.e
       obtain⟨v,hv1,hv2⟩:=hS.e t _ hb
       obtain⟨m',h5,h6⟩:=Yn rfl hv2
       rw[h2]at h5
       cases h5
       cases h6
       have hR2:RSx ct ρ D2 (X1++Y1) R {E:=(t,.cell y z)::s.E,L:=delB b s1.L,nx:=s1.nx,md:=s1.md} a w:=⟨hR.rb,hR.dom,hR.ver,hR.nd,hR.size,hR.ds,fun t' sv ht'=>by
        simp only[lookA]at ht'
        cases hbt:Nat.beq t t' with
        |true=>
         rw[hbt]at ht'
         obtain rfl:=Qc hbt
         simp only[Qg,Qa]at ht'
         subst ht'
         refine⟨_,hv1,YV rfl ⟨m,0,rfl,cs,_,_,_,(kdT T y).mono _ _ _ _ hd2 hr,hm,fun j u hu=>by simpa using hu⟩⟩
        |false=>
         rw[hbt]at ht'
         obtain⟨v',g7,g8⟩:=hS.e t' sv ht'
         exact⟨v',g7,JL (Rho.le.refl _) (hd1.trans hd2) g8⟩,hR.l,hR.st,hR.fr,hR.ini,hR.ex,hR.o⟩
       obtain⟨h7,h8⟩:=QqY hT ts _ s' h ⟨ρ,D2,_,R,hR2⟩
       refine⟨h7,?_⟩
       have hx1:XE (2^t) s {E:=(t,.cell y z)::s.E,L:=delB b s1.L,nx:=s1.nx,md:=s1.md}:=by
        refine⟨fun t' ht' sv hsv=> ?_,hx.nx,fun id v sb hlk hv=>hx.l id v sb (Zu id h1.nd hlk).2 hv⟩
        have hne:t≠t':=fun e=>by subst e;simp[Nat.testBit_two_pow_self]at ht'
        refine⟨sv,?_,fun _ _ _ h=>h⟩
        simp only[lookA]
        have:Nat.beq t t'=false:=by
         cases hbt:Nat.beq t t' with
         |true=>exact absurd (Qc hbt) hne
         |false=>rfl
        rw[this,Qh,hsv]
       exact hx1.trans h8 fun t' ht'=>or_l ht'
      ·cases h
     ·cases h
    ·cases h
   ·cases h
  ·cases h
theorem hM_ab{h:Hn}{t:Nat}(ht:(hM h).testBit t=false):(hM h.a).testBit t=false∧(hM h.b).testBit t=false:=by
 cases h with
 |n=>exact⟨ht,ht⟩
 |r o p f=>exact⟨by show(0:Nat).testBit t=false;simp,by show(0:Nat).testBit t=false;simp⟩
 |g x y z=>exact⟨by show(0:Nat).testBit t=false;simp,by show(0:Nat).testBit t=false;simp⟩
 |q o p f=>exact⟨by show(0:Nat).testBit t=false;simp,by show(0:Nat).testBit t=false;simp⟩
 |s a b=>exact or_l ht
 |j q a b=>exact or_l (or_l ht).2
 |l q z r b=>exact⟨(or_l (or_l ht).2).2,by show(0:Nat).testBit t=false;simp⟩
theorem or_i{m1 m2 t:Nat}(h1:m1.testBit t=false)(h2:m2.testBit t=false):(m1|||m2).testBit t=false:=by rw[Nat.testBit_or,h1,h2];rfl
theorem Wh_a{x y:Code}{h:Hn}{t:Nat}(ht:(wrM x|||wrM y|||hM h).testBit t=false):(Wh x h.a).testBit t=false∧(Wh y h.b).testBit t=false:=by
 obtain⟨h1,h2⟩:=or_l ht
 obtain⟨h3,h4⟩:=or_l h1
 obtain⟨h5,h6⟩:=hM_ab h2
 exact⟨or_i h3 h5,or_i h4 h6⟩
theorem mJ_W{q:Pj}{c:Code}{h:Hn}{t:Nat}(ht:(mJ q c h).testBit t=false):(Wh c h).testBit t=false:=or_i (or_l ht).1 (or_l (or_l ht).2).2
theorem mL_W{q:Pj}{z:Option Pj}{c:Code}{h:Hn}{t:Nat}(ht:(mL q z c h).testBit t=false):(Wh c h).testBit t=false:=or_i (or_l ht).1 (or_l (or_l (or_l ht).2).2).2
theorem Wj{q:Pj}{x y:Code}{ha hb:Hn}{t:Nat}(ht:(wrM x|||wrM y|||hM (.j q ha hb)).testBit t=false):(mJ q x ha).testBit t=false∧(Wh y hb).testBit t=false:=by
 obtain⟨h1,h2⟩:=or_l ht
 obtain⟨h3,h4⟩:=or_l h1
 obtain⟨h5,h6⟩:=or_l h2
 obtain⟨h7,h8⟩:=or_l h6
 exact⟨or_i h3 (or_i h5 h7),or_i h4 h8⟩
theorem XX(sb:SubT T)(hsb:∀c,CdOk sb c):∀(c:Code) {C:Cx T} {ct:Ct} {rd:Option Nat} (_:QcW C ct) (_:rd=none∨C.Y=none∧C.rg=false) (h:Hn) (s:SS T) {α:Type} (k:Ke→SS T→Option α) (r:α) (Q:Exit→Act→World→Prop) (a:Act) (w:World),sxF sb C c h s k=some r→RS ct s a w→
  (∀e s' a' w',XE (Wh c h) s s'→k e s'=some r→RS ct s' a' w'→Q (exK e) a' w')→c.wpIn (Fw rd) 0 C.P Q a w
 | .skip,C,ct,rd,hC,hrd,h,s,_,k,r,Q,a,w,hs,hS,hk=>wpIn_skip (hk .nm s a w (XE.refl _ _) hs hS)
 | .ret,C,ct,rd,hC,hrd,h,s,_,k,r,Q,a,w,hs,hS,hk=>wpIn_ret (hk .rt s a w (XE.refl _ _) hs hS)
 | .exit i,C,ct,rd,hC,hrd,h,s,_,k,r,Q,a,w,hs,hS,hk=>wpIn_exit (hk (.ex i) s a w (XE.refl _ _) hs hS)
 | .seq x y,C,ct,rd,hC,hrd,h,s,α,k,r,Q,a,w,hs,hS,hk=>by
  have gen:sxF sb C x h.a s (fun e s'=>match e with
   | .nm=>sxF sb C y h.b s' k
   |e=>k e s')=some r→(Code.seq x y).wpIn (Fw rd) 0 C.P Q a w:=fun hs=>by
   refine wpIn_seq (XX sb hsb x hC hrd _ s _ r _ a w hs hS fun e s' a' w' hx hk' hS'=> ?_)
   cases e with
   |nm=>exact XX sb hsb y hC hrd _ s' k r Q a' w' hk' hS' fun e s2 a2 w2 hx2=>hk e s2 a2 w2 (hx.trans hx2 fun t ht=>Wh_a ht)
   |rt=>exact hk .rt s' a' w' (hx.mono fun t ht=>(Wh_a ht).1) hk' hS'
   |ex i=>exact hk (.ex i) s' a' w' (hx.mono fun t ht=>(Wh_a ht).1) hk' hS'
   |pn x e=>exact hk (.pn x e) s' a' w' (hx.mono fun t ht=>(Wh_a ht).1) hk' hS'
  cases h with
  |n=>exact gen hs
  |s ha hb=>exact gen hs
  |l q z r' hb=>exact gen hs
  |r ord fz pr=>exact gen hs
  |g x y z=>exact gen hs
  |q ord fz pr=>exact gen hs
  | j q ha hb=>
   simp only[sxF]at hs
   obtain⟨s0,hl,hs⟩:=Jy hs
   obtain⟨hS,hx0⟩:=QfY (Wh (.seq x y) (.j q ha hb)) _ _ _ hl hS
   obtain⟨j,hj,hs⟩:=QpD hs
   obtain⟨ρ0,D0,Lv0,R0,hS0⟩:=hS
   refine Qne (fun a w=>∃y',(oE (Qdg q (mJ q x ha) s0 y') fun s'=>sxF sb C y hb s' k)=some r∧Tn ct q (mJ q x ha) s0 y' a w) (XX sb hsb x hC hrd ha s0 _ r _ a w hs ⟨ρ0,D0,Lv0,R0,hS0⟩ fun e s' a' w' hx hk' hS'=> ?_) fun a' w' hX=> ?_
   ·cases e with
    |nm=>
     obtain⟨y',h1,h2⟩:=Jy hk'
     obtain⟨ρ,D,Lv,R,hS'⟩:=hS'
     exact⟨y',hj y' h2,fun s1 h3=>Qcc hC.tb hS0 (hx.mono fun t ht=>mJ_W ht) hS' h1 h3⟩
    |rt=>exact hk .rt s' a' w' (hx0.trans hx fun t ht=>⟨ht,(Wh_a ht).1⟩) hk' hS'
    |ex i=>exact hk (.ex i) s' a' w' (hx0.trans hx fun t ht=>⟨ht,(Wh_a ht).1⟩) hk' hS'
    |pn x e=>exact hk (.pn x e) s' a' w' (hx0.trans hx fun t ht=>⟨ht,(Wh_a ht).1⟩) hk' hS'
   ·obtain⟨y',h1,h2⟩:=hX
    obtain⟨s1,h3,h4⟩:=Jy h1
    obtain⟨h5,h6⟩:=h2 s1 h3
    exact XX sb hsb y hC hrd hb s1 k r Q a' w' h4 h5 fun e s2 a2 w2 hx2=>hk e s2 a2 w2 (hx0.trans (h6.trans (m:=Wh (.seq x y) (.j q ha hb)) hx2 fun t ht=>Wj ht) fun t ht=>⟨ht,ht⟩)
 | .cond c x y,C,ct,rd,hC,hrd,h,s,α,k,r,Q,a,w,hs,hS,hk=>by
  simp only[sxF]at hs
  obtain⟨ρ,D,Lv,R,hS⟩:=hS
  split at hs
  ·rename_i hv
   obtain⟨v,e1,r1⟩:=YC hC.toCxOk hS hv
   obtain rfl:=Ql4 r1
   exact JD hS.env e1 (fun _=>XX sb hsb x hC hrd _ s k r Q a w hs ⟨ρ,D,Lv,R,hS⟩ fun e s2 a2 w2 hx2=>hk e s2 a2 w2 (hx2.mono fun t ht=>(Wh_a ht).1)) (fun h=>by cases h)
  ·rename_i hv
   obtain⟨v,e1,r1⟩:=YC hC.toCxOk hS hv
   obtain rfl:=Ql4 r1
   exact JD hS.env e1 (fun h=>by cases h) (fun _=>XX sb hsb y hC hrd _ s k r Q a w hs ⟨ρ,D,Lv,R,hS⟩ fun e s2 a2 w2 hx2=>hk e s2 a2 w2 (hx2.mono fun t ht=>(Wh_a ht).2))
  ·rename_i b hv
   split at hs
   ·rename_i t
    have ht:lookA s.E t=some (.dt .bool b):=hv
    obtain⟨v,e1,r1⟩:=YC hC.toCxOk hS hv
    obtain rfl:=Qi1 r1
    cases b with
    |true=>exact JD hS.env e1 (fun _=>XX sb hsb x hC hrd _ _ k r Q a w hs ⟨ρ,D,Lv,R,hS.know ht rfl⟩ fun e s2 a2 w2 hx2=>hk e s2 a2 w2 ((XE.know (m:=wrM x|||wrM y|||hM h) ht rfl).trans hx2 fun t ht=>⟨ht,(Wh_a ht).1⟩)) (fun h=>by cases h)
    |false=>exact JD hS.env e1 (fun h=>by cases h) (fun _=>XX sb hsb y hC hrd _ _ k r Q a w hs ⟨ρ,D,Lv,R,hS.know ht rfl⟩ fun e s2 a2 w2 hx2=>hk e s2 a2 w2 ((XE.know (m:=wrM x|||wrM y|||hM h) ht rfl).trans hx2 fun t ht=>⟨ht,(Wh_a ht).2⟩))
   ·cases hs
  ·cases hs
 | .region i ops d,C,ct,rd,hC,hrd,h,s,α,k,r,Q,a,w,hs,hS,hk=>by
  cases d with
  | true=>
   cases h with
   | r ord fz pr=>
    simp only[sxF]at hs
    cases hf:C.P.follows .mixedOrders with
    |false=>rw[hf]at hs;cases hs
    | true=>
     rw[hf]at hs
     simp only[Qg]at hs
     obtain⟨s0,hfz,hs⟩:=Jy hs
     obtain⟨hS,hx0⟩:=QqY hC.tb fz s s0 hfz hS
     refine Qtj (m:=wrM (.region i ops true)) hC hf hS List.filter_sublist hs (fun l n a' w' hk' hx hS'=> ?_) (fun x e K a' w' hk' hKs hS'=>hk (.pn x e) _ a' w' (hx0.trans (m2:=wrM (.region i ops true)) ⟨fun t ht sv hl=>⟨sv,by rw[Qjf ht];exact hl,fun _ _ _ h=>h⟩,Nat.le_add_right _ _,fun id v sb hl _=>by
       obtain⟨_,_,_,_,h0⟩:=hS
       exact Yc (hKs.subset (Yr hl)) h0.nd⟩ fun t ht=>⟨(or_l ht).2,(or_l ht).1⟩) hk' hS')
     cases hb:(preA l).all (fun e=>(wrM (.region i ops true)).testBit e.1)with
     |false=>rw[hb]at hk';cases hk'
     |true=>
      rw[hb]at hk' hx
      exact hk .nm _ a' w' (hx0.trans (hx.resolve_right (by simp)) fun t ht=>⟨(or_l ht).2,(or_l ht).1⟩) hk' hS'
   | q ord fz pr=>
    simp only[sxF]at hs
    cases hf:C.P.follows .mixedOrders with
    |false=>rw[hf]at hs;cases hs
    | true=>
     rw[hf]at hs
     simp only[Qg]at hs
     obtain⟨s0,hfz,hs⟩:=Jy hs
     obtain⟨hS,hx0⟩:=QqY hC.tb fz s s0 hfz hS
     split at hs
     ·cases hs
     ·rename_i o ho
      refine Qtk (m:=wrM (.region i ops true)) (kp:=fun l n x e s'=>bif ZY (wrM (.region i ops true)) (s'.E.length-(endD s0.E s0.md s0.L l n).E.length) s'.E then k (.pn x e) s' else none) (kk:=fun l n s'=>bif ZY (wrM (.region i ops true)) (s'.E.length-(endD s0.E s0.md s0.L l n).E.length) s'.E then k .nm s' else none) hC hrd ho hf hS List.filter_sublist hs (fun l n s' a' w' hx hx2 hk' hS'=> ?_) (fun l n x e s' a' w' hx hx2 hk' hS'=> ?_)
      ·cases hb:ZY (wrM (.region i ops true)) (s'.E.length-(endD s0.E s0.md s0.L l n).E.length) s'.E with
       |false=>rw[hb]at hk';cases hk'
       |true=>
        rw[hb]at hk'
        exact hk .nm _ a' w' (hx0.trans (hx.trans (m:=wrM (.region i ops true)) (hx2.xe hb) fun t ht=>⟨ht,ht⟩) fun t ht=>⟨(or_l ht).2,(or_l ht).1⟩) hk' hS'
      ·cases hb:ZY (wrM (.region i ops true)) (s'.E.length-(endD s0.E s0.md s0.L l n).E.length) s'.E with
       |false=>rw[hb]at hk';cases hk'
       |true=>
        rw[hb]at hk'
        exact hk (.pn x e) _ a' w' (hx0.trans (hx.trans (m:=wrM (.region i ops true)) (hx2.xe hb) fun t ht=>⟨ht,ht⟩) fun t ht=>⟨(or_l ht).2,(or_l ht).1⟩) hk' hS'
   |_=>simp only[sxF,reduceCtorEq]at hs
  | false=>
   simp only[sxF]at hs
   refine QbP (Qqx hC hrd ops.size 0 s a w hs hS (by omega) (fun s' a' w' hx hk' hS'=> ?_) (fun x e s' a' w' hx hk' hS'=> ?_))
   ·cases hb:ZY (wrM (.region i ops false)) (s'.E.length-s.E.length) s'.E with
    |false=>rw[hb]at hk';cases hk'
    |true=>rw[hb]at hk';exact hk .nm s' a' w' ((hx.xe hb).mono fun t ht=>(or_l ht).1) hk' hS'
   ·cases hb:ZY (wrM (.region i ops false)) (s'.E.length-s.E.length) s'.E with
    |false=>rw[hb]at hk';cases hk'
    |true=>rw[hb]at hk';exact hk (.pn x e) s' a' w' ((hx.xe hb).mono fun t ht=>(or_l ht).1) hk' hS'
 | .block i b,C,ct,rd,hC,hrd,h,s,α,k,r,Q,a,w,hs,hS,hk=>by
  have gen:sxF sb C b h s (fun e s'=>match e with
   | .ex j=>bif Nat.beq i j then k .nm s' else k (.ex j) s'
   |e=>k e s')=some r→(Code.block i b).wpIn (Fw rd) 0 C.P Q a w:=fun hs=>by
   refine wpIn_block (XX sb hsb b hC hrd h s _ r _ a w hs hS fun e s' a' w' hx hk' hS'=> ?_)
   cases e with
   |nm=>exact hk .nm s' a' w' hx hk' hS'
   |rt=>exact hk .rt s' a' w' hx hk' hS'
   |pn x e=>exact hk (.pn x e) s' a' w' hx hk' hS'
   | ex j=>
    simp only at hk'
    show(if j=i then Q .normal a' w' else Q (.exit j) a' w')
    cases hb:Nat.beq i j with
    |true=>
     rw[hb]at hk'
     rw[if_pos (Qc hb).symm]
     exact hk .nm s' a' w' hx hk' hS'
    |false=>
     rw[hb]at hk'
     rw[if_neg (fun e=>by subst e;simp at hb)]
     exact hk (.ex j) s' a' w' hx hk' hS'
  cases b with
  | loop b=>
   cases h with
   |n=>exact gen hs
   |r ord fz pr=>exact gen hs
   |g x y z=>exact gen hs
   |q ord fz pr=>exact gen hs
   |s ha hb=>exact gen hs
   |j q ha hb=>exact gen hs
   | l q z rr hb=>
    simp only[sxF]at hs
    obtain⟨s0,hl,hs⟩:=Jy hs
    obtain⟨hS,hx0⟩:=QfY (mL q z b hb) _ _ _ hl hS
    obtain⟨y0,h0,hs⟩:=Jy hs
    obtain⟨ρ0,D0,Lv0,R0,hS0⟩:=hS
    have hin:Tn ct q (mL q z b hb) s0 y0 a w:=fun s1 h3=>Qcc hC.tb hS0 (XE.refl _ _) hS0 h0 h3
    cases z with
    | none=>
     simp only at hs
     obtain⟨res,hres,hr⟩:=Option.bind_eq_some_iff.1 hs
     simp only[Qa]at hr
     subst hr
     refine Zc (fun _ _=>False) (fun k' a w=>∃y,Jj (fun rec y=>oE (Qdg q (mL q none b hb) s0 y) fun s1=>sxF sb C b hb s1 fun e s'=>match e with
      | .nm=>oE (absJ q s0 s') rec
      | .ex _=>none
      |e=>k e s') k' y=some res∧Tn ct q (mL q none b hb) s0 y a w) C.K ⟨y0,hres,hin⟩ (fun _ _ h=>h.elim) fun k' a w hI=> ?_
     obtain⟨y,hy,hT⟩:=hI
     cases k' with
     |zero=>cases hy
     | succ k'=>
      refine⟨k',rfl,?_⟩
      simp only[Jj]at hy
      obtain⟨s1,h3,hy⟩:=Jy hy
      obtain⟨h5,h6⟩:=hT s1 h3
      refine XX sb hsb b hC hrd hb s1 _ res _ a w hy h5 fun e s' a' w' hx hk' hS'=> ?_
      cases e with
      |nm=>
       obtain⟨y',h1,h2⟩:=Jy hk'
       obtain⟨ρ,D,Lv,R,hS'⟩:=hS'
       exact⟨y',h2,fun s1 h3=>Qcc hC.tb hS0 (h6.trans hx fun t ht=>⟨ht,mL_W ht⟩) hS' h1 h3⟩
      |rt=>exact hk .rt s' a' w' (hx0.trans (h6.trans (m:=mL q none b hb) hx fun t ht=>⟨ht,mL_W ht⟩) fun t ht=>⟨ht,ht⟩) hk' hS'
      |pn x e=>exact hk (.pn x e) s' a' w' (hx0.trans (h6.trans (m:=mL q none b hb) hx fun t ht=>⟨ht,mL_W ht⟩) fun t ht=>⟨ht,ht⟩) hk' hS'
      |ex j=>cases hk'
    | some z=>
     cases rr with
     | false=>
      simp only at hs
      obtain⟨res,hres,hr⟩:=Option.bind_eq_some_iff.1 hs
      refine Zc (fun a w=>Tn ct z (mL q (some z) b hb) s0 res a w) (fun k' a w=>∃y,Jj (fun rec y=>oE (Qdg q (mL q (some z) b hb) s0 y) fun s1=>sxF sb C b hb s1 fun e s'=>match e with
       | .nm=>oE (absJ q s0 s') rec
       | .ex j=>bif Nat.beq i j then oE (absJ z s0 s') some else none
       |_=>none) k' y=some res∧Tn ct q (mL q (some z) b hb) s0 y a w) C.K ⟨y0,hres,hin⟩ (fun a w hX=> ?_) fun k' a w hI=> ?_
      ·obtain⟨s1,h3,h4⟩:=Jy hr
       obtain⟨h5,h6⟩:=hX s1 h3
       exact hk .nm s1 a w (hx0.trans h6 fun t ht=>⟨ht,ht⟩) h4 h5
      ·obtain⟨y,hy,hT⟩:=hI
       cases k' with
       |zero=>cases hy
       | succ k'=>
        refine⟨k',rfl,?_⟩
        simp only[Jj]at hy
        obtain⟨s1,h3,hy⟩:=Jy hy
        obtain⟨h5,h6⟩:=hT s1 h3
        refine XX sb hsb b hC hrd hb s1 _ res _ a w hy h5 fun e s' a' w' hx hk' hS'=> ?_
        have hx':XE (mL q (some z) b hb) s0 s':=h6.trans hx fun t ht=>⟨ht,mL_W ht⟩
        cases e with
        |nm=>
         obtain⟨y',h1,h2⟩:=Jy hk'
         obtain⟨ρ,D,Lv,R,hS'⟩:=hS'
         exact⟨y',h2,fun s1 h3=>Qcc hC.tb hS0 hx' hS' h1 h3⟩
        |rt=>cases hk'
        |pn x e=>cases hk'
        | ex j=>
         simp only at hk'
         cases hb':Nat.beq i j with
         |false=>rw[hb']at hk';cases hk'
         |true=>
          rw[hb']at hk'
          obtain⟨y',h1,h2⟩:=Jy hk'
          simp only[Qa]at h2
          subst h2
          show(if j=i then _ else _)
          rw[if_pos (Qc hb').symm]
          obtain⟨ρ,D,Lv,R,hS'⟩:=hS'
          exact fun s1 h3=>Qcc hC.tb hS0 hx' hS' h1 h3
     | true=>
      simp only at hs
      obtain⟨res,hres,hr⟩:=Option.bind_eq_some_iff.1 hs
      refine Zc (fun a w=>∃y,res= .inr y∧Tn ct z (mL q (some z) b hb) s0 y a w) (fun k' a w=>∃y,Jj (fun rec y=>oE (Qdg q (mL q (some z) b hb) s0 y) fun s1=>sxF sb C b hb s1 fun e s'=>match e with
       | .nm=>oE (absJ q s0 s') rec
       | .ex j=>bif Nat.beq i j then oE (absJ z s0 s') (fun y=>some (Sum.inr y))else none
       |e=>oE (k e s') (fun y=>some (Sum.inl y))) k' y=some res∧Tn ct q (mL q (some z) b hb) s0 y a w) C.K ⟨y0,hres,hin⟩ (fun a w hX=> ?_) fun k' a w hI=> ?_
      ·obtain⟨y,e,hX⟩:=hX
       subst e
       obtain⟨s1,h3,h4⟩:=Jy hr
       obtain⟨h5,h6⟩:=hX s1 h3
       exact hk .nm s1 a w (hx0.trans h6 fun t ht=>⟨ht,ht⟩) h4 h5
      ·obtain⟨y,hy,hT⟩:=hI
       cases k' with
       |zero=>cases hy
       | succ k'=>
        refine⟨k',rfl,?_⟩
        simp only[Jj]at hy
        obtain⟨s1,h3,hy⟩:=Jy hy
        obtain⟨h5,h6⟩:=hT s1 h3
        refine XX sb hsb b hC hrd hb s1 _ res _ a w hy h5 fun e s' a' w' hx hk' hS'=> ?_
        have hx':XE (mL q (some z) b hb) s0 s':=h6.trans hx fun t ht=>⟨ht,mL_W ht⟩
        cases e with
        |nm=>
         obtain⟨y',h1,h2⟩:=Jy hk'
         obtain⟨ρ,D,Lv,R,hS'⟩:=hS'
         exact⟨y',h2,fun s1 h3=>Qcc hC.tb hS0 hx' hS' h1 h3⟩
        |rt=>
         obtain⟨y',h1,h2⟩:=Jy hk'
         simp only[Qa]at h2
         subst h2
         simp only[Qa]at hr
         subst hr
         exact hk .rt s' a' w' (hx0.trans hx' fun t ht=>⟨ht,ht⟩) h1 hS'
        |pn x e=>
         obtain⟨y',h1,h2⟩:=Jy hk'
         simp only[Qa]at h2
         subst h2
         simp only[Qa]at hr
         subst hr
         exact hk (.pn x e) s' a' w' (hx0.trans hx' fun t ht=>⟨ht,ht⟩) h1 hS'
        | ex j=>
         simp only at hk'
         cases hb':Nat.beq i j with
         |false=>rw[hb']at hk';cases hk'
         |true=>
          rw[hb']at hk'
          obtain⟨y',h1,h2⟩:=Jy hk'
          simp only[Qa]at h2
          subst h2
          show(if j=i then _ else _)
          rw[if_pos (Qc hb').symm]
          obtain⟨ρ,D,Lv,R,hS'⟩:=hS'
          exact⟨y',rfl,fun s1 h3=>Qcc hC.tb hS0 hx' hS' h1 h3⟩
  |_=>cases h<;>exact gen hs
 | .loop b,C,ct,rd,hC,hrd,h,s,_,k,r,Q,a,w,hs,hS,hk=>by cases h<;>cases hs
 | .rangeFunc gop ps as bd,C,ct,rd,hC,hrd,h,s,_,k,r,Q,a,w,hs,hS,hk=>Qtm sb hsb hC hrd (XX sb hsb as) (XX sb hsb bd) hs hS hk
 | .scope _,C,ct,rd,hC,hrd,h,s,_,k,r,Q,a,w,hs,hS,hk=>by cases h<;>cases hs
 | .label _,C,ct,rd,hC,hrd,h,s,_,k,r,Q,a,w,hs,hS,hk=>by cases h<;>cases hs
 | .goto _,C,ct,rd,hC,hrd,h,s,_,k,r,Q,a,w,hs,hS,hk=>by cases h<;>cases hs
 | .refuse _,C,ct,rd,hC,hrd,h,s,_,k,r,Q,a,w,hs,hS,hk=>by cases h<;>cases hs
theorem Qxy:∀c,CdOk (sx0 (T:=T)) c:=fun c=>XX _ (fun _ _ _ _ _ _ _ _ _ _ _ _ _ _ hs=>by cases hs) c
theorem QhQ(hC:QcW C ct)(c:Code)(h:Hn)(s:SS T){α:Type}(k:Ke→SS T→Option α)(r:α)(Q:Exit→Act→World→Prop)(a:Act)(w:World)(hs:sx C c h s k=some r)(hS:RS ct s a w)
  (hk:∀e s' a' w',XE (Wh c h) s s'→k e s'=some r→RS ct s' a' w'→Q (exK e) a' w'):c.wpIn (Fw none) 0 C.P Q a w:=XX sx0 Qxy c hC (.inl rfl) h s k r Q a w hs hS hk
end
section
variable {T:Tb}{C:Cx T}{ct:Ct}{ρ:Rho}{D:Snap}{Lv R:List Blk}{s:SS T}{a:Act}{w:World}
theorem Qmh(hT:TbOk T)(h:RSx ct ρ D Lv R s a w):∀(rs:List ResultVar) (l:SV T),resL C.P s rs=some l→∃vs,Sem.run C.P (rs.mapM (QbS a)) w= .ok vs w∧RX ρ D l true vs
 | [],l,hl=>by
  simp only[resL,Qa]at hl
  subst hl
  exact⟨[],rfl,rfl⟩
 | .tmp t::rs,l,hl=>by
  simp only[resL]at hl
  split at hl
  ·rename_i v l' hv hl'
   simp only[Qa]at hl
   subst hl
   obtain⟨u,h1,h2⟩:=h.e t v hv
   obtain⟨vs,h3,h4⟩:=Qmh hT h rs l' hl'
   exact⟨u::vs,by simp[List.mapM_cons,QbS,h1,h3],u,vs,rfl,h2,h4⟩
  ·cases hl
 | .cell p t::rs,l,hl=>by
  simp only[resL]at hl
  split at hl
  ·rename_i pv l' hp hl'
   split at hl
   ·rename_i v hv
    simp only[Qa]at hl
    subst hl
    obtain⟨u,h1,h2⟩:=h.e p pv hp
    obtain⟨b,off,z,rfl,h5,h6⟩:=Qnu hT h hv h2
    obtain⟨vs,h3,h4⟩:=Qmh hT h rs l' hl'
    exact⟨z::vs,by simp[List.mapM_cons,QbS,h1,asAddr,h5,h3],z,vs,rfl,h6,h4⟩
   ·cases hl
  ·cases hl
theorem Qjj{β β':Nat→Option Nat}{D D':Snap}{O O':OwT T}(hb:∀b n,β b=some n→β' b=some n)(hd:D.le D')(ho:∀o t e f xs A cap,O o t e f xs A cap→O' o t e f xs A cap):
  ∀{bs:List (TypeId×Pt)} {ps:List (Option Pt)} {i:Nat} {ds:List (Dy T)} {os:List (Nat×Pl)} {B B':List Blk},PRO β D O bs ps i ds os B B'→PRO β' D' O' bs ps i ds os B B'
 | [], [],_,_,_,_,_,h=>h
 |_::_,none::_,_,_,_,_,_,⟨q,B1,B1',e1,e2,h⟩=>⟨q,B1,B1',e1,e2,Qjj hb hd ho h⟩
 |_::_,some _::_,_,_,_,_,_,⟨d1,d2,o1,o2,n,c,q,B1,B1',e1,e2,h1,e3,e4,h2,h3⟩=>⟨d1,d2,o1,o2,n,c,q,B1,B1',e1,e2,hb _ _ h1,e3,e4,Zw hb hd ho _ _ _ _ _ h2,Qjj hb hd ho h3⟩
 | [],_::_,_,_,_,_,_,h=>h.elim
 |_::_, [],_,_,_,_,_,h=>h.elim
theorem Qmi{β:Nat→Option Nat}{D:Snap}{O O':OwT T}:∀{bs:List (TypeId×Pt)} {ps:List (Option Pt)} {i:Nat} {ds:List (Dy T)} {os os':List (Nat×Pl)} {B B':List Blk},PRO β D O bs ps i ds os B B'→Ren O O' os os'→PRO β D O' bs ps i ds os' B B'
 | [], [],_,_,_,_,_,_,⟨h1,h2,h3,h4⟩,hr=>by subst h2;exact⟨h1,hr,h3,h4⟩
 |_::_,none::_,_,_,_,_,_,_,⟨q,B1,B1',e1,e2,h⟩,hr=>⟨q,B1,B1',e1,e2,Qmi h hr⟩
 |_::_,some _::_,_,_,_,_,_,_,⟨d1,d2,o1,o2,n,c,q,B1,B1',e1,e2,h1,e3,e4,h2,h3⟩,hr=>by
  subst e2
  obtain⟨y1,y2,rfl,r1,r2⟩:=XU hr
  exact⟨d1,d2,y1,y2,n,c,q,B1,B1',e1,rfl,h1,e3,e4,Qe7 _ _ _ _ _ _ h2 r1,Qmi h3 r2⟩
 | [],_::_,_,_,_,_,_,_,h,_=>h.elim
 |_::_, [],_,_,_,_,_,_,h,_=>h.elim
theorem QqZ{ρ:Rho}{w:World}{s:SS T}:∀{b1 b2:List (Nat×Nat)} {B1 B2:List Blk},BwS ρ w s b1 B1→BwS ρ w s b2 B2→BwS ρ w s (b1++b2) (B1++B2)
 | [],_,_,_,h,h2=>by have h:_=_:=h;subst h;exact h2
 |_::_,_,_,_,⟨s1,t,v,n,c,Bs',h1,h2,h3,h4,h5,h6,h7⟩,h8=>by
  subst h5
  exact⟨s1,t,v,n,c,_,h1,h2,h3,h4,rfl,h6,QqZ h7 h8⟩
theorem Qmj(hT:TbOk T){L0:List (Nat×Nat×SB T)}:∀(bs:List (TypeId×Pt)) (os:List (Option Pt)) (i:Nat) (m m':Mt T) (bo:List (Nat×Nat)) (ρ:Rho) (D:Snap) (Lv Bs:List Blk),matO bs os i L0 m=some (m',bo)→RSx ct ρ D Lv R m.s a w→
  Bs.length=bs.length→(∀k tp,bs[k]?=some tp→∃n c,Bs[k]?=some (bx n tp.1 c)∧ct.ini (i+k)=some (n,tp.1,c))→(∀k,k<bs.length→∃b,lookA L0 (i+k)=some (i+k,b))→(∀k,k<bs.length→lookA m.bd (i+k)=some (i+k))→
  ∃ρ' D' Lv' dn on os' Bs',MatR ct ρ D R m m' a w ρ' D' Lv' dn on∧os'.map (·.1)=on.map (·.1)∧PRO (bet ρ' m'.bd) D' (OwS ρ' m'.s m'.ow) bs os i dn os' Bs Bs'∧BwS ρ' w m'.s bo Bs'
 | [], [],i,m,m',bo,ρ,D,Lv,Bs,h,hS,hB,hi,hL,hb=>by
  simp only[matO,Qa,Qe]at h
  obtain⟨rfl,rfl⟩:=h
  have hB:Bs= []:=List.eq_nil_of_length_eq_zero hB
  subst hB
  exact⟨ρ,D,Lv, [], [], [], [],⟨Rho.le.refl _,Snap.le.refl _,hS,Ext.refl _,rfl,rfl,fun _ _ h=>h⟩,rfl,⟨rfl,rfl,rfl,rfl⟩,rfl⟩
 | (t, p0)::bs,some p::os,i,m,m',bo,ρ,D,Lv,Bs,h,hS,hB,hi,hL,hb=>by
  simp only[matO]at h
  split at h
  ·rename_i ver t' v hl
   cases ht:Nat.beq t t' with
   |false=>rw[ht]at h;cases h
   | true=>
    rw[ht]at h
    obtain rfl:=Qc ht
    simp only[Qg]at h
    split at h
    ·rename_i m1 hm1
     split at h
     ·rename_i m2 bw2 hm2
      simp only[Qa,Qe]at h
      obtain⟨rfl,rfl⟩:=h
      cases Bs with
      |nil=>simp at hB
      |cons q Bs=>
      obtain⟨X,Y,n,c,e,g1,g2,g3,_⟩:=hS.var hl
      obtain⟨ρ1,D1,Lv1,dn1,on1,os1,M1,E1,P1⟩:=Qe6 hT p v m m1 ρ D Lv false c hm1 hS g2
      obtain⟨ρ2,D2,Lv2,dn2,on2,os2,Bs2,M2,E2,P2,B2⟩:=Qmj hT bs os (i+1) m1 m2 bw2 ρ1 D1 Lv1 Bs hm2 M1.rs (by simpa using hB) (fun k tp hk=>by
       obtain⟨n,c,h1,h2⟩:=hi (k+1) tp (by simpa using hk)
       exact⟨n,c,by simpa using h1,by rw[show i+1+k=i+(k+1) by omega];exact h2⟩) (fun k hk=>by
       rw[show i+1+k=i+(k+1) by omega];exact hL (k+1) (by simpa using hk)) (fun k hk=>by
       rw[show i+1+k=i+(k+1) by omega];exact M1.bd _ _ (hb (k+1) (by simpa using hk)))
      have hr:=M1.rho.trans M2.rho
      have hid:=hb 0 (by simp)
      rw[Nat.add_zero]at hid
      refine⟨ρ2,D2,Lv2,dn1++dn2,on1++on2,os1++os2,bx n t c::Bs2,⟨hr,M1.le.trans M2.le,M2.rs,M1.ext.trans M2.ext,by rw[M2.dy,M1.dy];simp,by rw[M2.ow,M1.ow];simp,fun b i hb=>M2.bd _ _ (M1.bd _ _ hb)⟩,by simp[E1,E2],⟨dn1,dn2,os1,os2,n,c,q,Bs,Bs2,rfl,rfl,?_,rfl,rfl,?_,P2⟩,⟨m.s,t,v,n,c,Bs2,M1.ext.trans M2.ext,hl,hS.ver _ (Yr hl),hr _ _ g1,rfl,g3,B2⟩⟩
      ·unfold bet
       rw[M2.bd _ _ (M1.bd _ _ hid)]
       simp only[hr _ _ g1]
      ·exact Zw (y7 M2.rho M2.bd) M2.le (fun _ _ _ _ _ _ _ ho=>XF M2.rho M2.ext (fun x hx=>by rw[M2.ow];exact List.mem_append_right _ hx) ho) _ _ _ _ _ P1
     ·cases h
    ·cases h
  ·cases h
 | (t,p0)::bs,none::os,i,m,m',bo,ρ,D,Lv,Bs,h,hS,hB,hi,hL,hb=>by
  simp only[matO]at h
  split at h
  ·rename_i ver sb ver' sb' hl hl'
   cases ht:Nat.beq ver ver' with
   |false=>rw[ht]at h;cases h
   | true=>
    rw[ht]at h
    obtain rfl:=Qc ht
    simp only[Qg]at h
    split at h
    ·rename_i m2 bw2 hm2
     simp only[Qa,Qe]at h
     obtain⟨rfl,rfl⟩:=h
     cases Bs with
     |nil=>simp at hB
     |cons q Bs=>
     obtain⟨ρ2,D2,Lv2,dn2,on2,os2,Bs2,M2,E2,P2,B2⟩:=Qmj hT bs os (i+1) m m2 bw2 ρ D Lv Bs hm2 hS (by simpa using hB) (fun k tp hk=>by
      obtain⟨n,c,h1,h2⟩:=hi (k+1) tp (by simpa using hk)
      exact⟨n,c,by simpa using h1,by rw[show i+1+k=i+(k+1) by omega];exact h2⟩) (fun k hk=>by
      rw[show i+1+k=i+(k+1) by omega];exact hL (k+1) (by simpa using hk)) (fun k hk=>by
      rw[show i+1+k=i+(k+1) by omega];exact hb (k+1) (by simpa using hk))
     obtain⟨n,c,h1,h2⟩:=hi 0 (t,p0) rfl
     simp only[List.getElem?_cons_zero,Qa]at h1
     subst h1
     obtain⟨b0,h3⟩:=hL 0 (by simp)
     rw[Nat.add_zero]at h2 h3
     rw[hl']at h3
     simp only[Qa,Qe]at h3
     obtain⟨rfl,_⟩:=h3
     obtain⟨k1,k2⟩:=hS.ini _ _ _ _ h2
     have k3:=k2 _ hl
     cases sb with
     |own t' e' xs' f'=>
      obtain⟨q,⟨A,cap,k4,_⟩,_⟩:=hS.blk hl
      rw[k1]at k4;cases k4
     |lnt t' xs'=>
      obtain⟨q,⟨A,cap,k4,_⟩,_⟩:=hS.blk hl
      rw[k1]at k4;cases k4
     |var t' v=>
      obtain⟨X,Y,n',c',e,g1,g2,g3,_⟩:=hS.var hl
      rw[k1]at g1
      cases g1
      rw[k3]at g3
      simp only[Qa,Obj.cells.injEq,and_true]at g3
      obtain⟨g4,rfl⟩:=g3
      have g4:c=c':=List.toArray_inj g4
      subst g4
      exact⟨ρ2,D2,Lv2,dn2,on2,os2,bx n t c::Bs2,M2,E2,⟨bx n t c,Bs,Bs2,rfl,rfl,P2⟩,⟨m.s,t,v,n,c,Bs2,M2.ext,hl,hS.ver _ (Yr hl),M2.rho _ _ k1,rfl,k3,B2⟩⟩
    ·cases h
  ·cases h
 | [],_::_,_,_,_,_,_,_,_,_,h,_,_,_,_,_=>by simp only[matO,reduceCtorEq]at h
 |_::_, [],_,_,_,_,_,_,_,_,h,_,_,_,_,_=>by
  simp only[matO,reduceCtorEq]at h
def lenP:Pt→Nat
 | .cs _ l=>lenP l+1
 |_=>0
theorem Qq0{β:Nat→Option Nat}{D:Snap}{O:OwT T}:∀{p:Pt} {ds:List (Dy T)} {os:List (Nat×Pl)} {c:List Value},lstP p=true→PR β D O p true ds os c→c.length=lenP p
 | .nl,_,_,_,_,⟨_,_,h⟩=>by subst h;rfl
 | .cs x l,_,_,_,hl,⟨d1,d2,o1,o2,v,c2,_,_,e,_,h⟩=>by
  subst e
  simp only[List.length_cons,lenP]
  rw[Qq0 (p:=l) hl h]
 | .dt _,_,_,_,h,_=>by cases h
 | .own _ _ _,_,_,_,h,_=>by cases h
 | .agg _,_,_,_,h,_=>by cases h
 | .ptr _ _,_,_,_,h,_=>by cases h
 | .fn _ _,_,_,_,h,_=>by cases h
 | .raw _,_,_,_,h,_=>by cases h
 | .nils,_,_,_,h,_=>by cases h
 | .kb _,_,_,_,h,_=>by cases h
theorem QkJ{β:Nat→Option Nat}{O:OwT T}{bd:List (Nat×Nat)}:∀(bs:List (TypeId×Pt)) (i:Nat) (m m':Im T) (L:List (Nat×Nat×SB T)) (ds:List (Dy T)) (os:List (Nat×Pl)) (Bs:List Blk) (rest:List (Dy T)),Qkv bd bs i m=some (L,m')→m.dy=ds++rest→PRB β D O bs i ds os Bs→(∀k,k<bs.length→lookA bd (i+k)=some (i+k))→
  InsR O m m' rest os∧L.map (·.1)=List.range' i bs.length∧(∀e∈L,e.2.1=e.1)∧∀ρ':Rho,(∀b n i,β b=some n→lookA bd b=some i→ρ' i=some (.blk n))→(∀k x,os[k]?=some x→ρ' (m.nx+k)=some x.2)→RLs ρ' D L Bs
 | [],i,m,m',L,ds,os,Bs,rest,h,hm,⟨e1,e2,e3⟩,_=>by
  subst e1 e2 e3
  simp only[Qkv,Qa,Qe]at h
  obtain⟨rfl,rfl⟩:=h
  exact⟨⟨hm,rfl, [],rfl,rfl⟩,rfl,fun e he=>(by cases he),fun _ _ _=>rfl⟩
 | (t,p)::bs,i,m,m',L,ds,os,Bs,rest,h,hm,⟨d1,d2,o1,o2,n,c,Bs',e1,e2,h1,e3,h2,h3⟩,hbd=>by
  subst e1 e2 e3
  simp only[Qkv]at h
  split at h
  ·rename_i v m1 hi
   split at h
   ·rename_i L1 m2 hn
    simp only[Qa,Qe]at h
    obtain⟨rfl,rfl⟩:=h
    obtain⟨_,i1,r1⟩:=Qcb p false m m1 v d1 o1 c (d2++rest) hi (by rw[hm];simp) h2
    obtain⟨i2,v2,l2,r2⟩:=QkJ bs (i+1) m1 m2 L1 d2 o2 Bs' rest hn i1.dy h3 fun k hk=>by
     rw[show i+1+k=i+(k+1) by omega];exact hbd (k+1) (by simpa using hk)
    refine⟨i1.trans i2,by simp[v2,List.range'_succ],fun e he=> ?_,fun ρ' hb ho=>⟨_,Bs',rfl,⟨n,c,hb _ _ _ h1 (hbd 0 (by simp)),r1 ρ' hb fun k x hx=>ho k x (by rw[List.getElem?_append_left (List.getElem?_eq_some_iff.1 hx).1];exact hx),rfl⟩,r2 ρ' hb fun k x hx=> ?_⟩⟩
    ·rcases List.mem_cons.1 he with rfl|he
     ·rfl
     ·exact l2 e he
    ·rw[i1.nx,Nat.add_assoc]
     exact ho _ x (by rw[List.getElem?_append_right (Nat.le_add_right _ _),Nat.add_sub_cancel_left];exact hx)
   ·cases h
  ·cases h
theorem QgP(nb b:Nat):lookA ((List.range nb).map fun i=>(i,i)) b=if b<nb then some b else none:=by
 have key:∀l i b,lookA ((List.range' i l).map fun i=>(i,i)) b=if i≤b∧b<i+l then some b else none:=by
  intro l
  induction l with
  |zero=>intro i b;rw[if_neg (by omega)];rfl
  | succ l ih=>
   intro i b
   simp only[List.range'_succ,List.map_cons,lookA]
   cases hb:Nat.beq i b with
   |true=>have:=Qc hb;subst this;rw[if_pos (by omega)];rfl
   |false=>
    have hne:i≠b:=fun e=>by subst e;simp at hb
    rw[Qh,ih]
    by_cases h:i+1≤b∧b<i+1+l
    ·rw[if_pos h,if_pos (by omega)]
    ·rw[if_neg h,if_neg (by omega)]
 rw[List.range_eq_range',key]
 simp
def iniB(Bs:List Blk)(i:Nat):Option (Nat×TypeId×List Value):=
 match Bs[i]? with
 |some (some (n,(.cells c t _,_)))=>some (n,t,c.toList)
 |_=>none
def frT:Frm where
 p:=fun _ _ _ _=>True
 t:=fun _=>False
 mono:=fun _ _=>trivial
 put:=fun _ _ _ _=>trivial
end
end Go.Sep
