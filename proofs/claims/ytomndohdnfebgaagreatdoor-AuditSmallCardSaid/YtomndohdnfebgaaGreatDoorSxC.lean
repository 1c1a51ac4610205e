/-
 Symbolic execution: what symbolic values and states mean.
-/
import Derived.Test.YtomndohdnfebgaaGreatDoorSxB
set_option linter.unusedVariables false
set_option linter.unusedSimpArgs false
namespace Go.Sep
theorem Qld{a b:Nat}(h:a<b):Nat.blt a b=true:=by rw[Nat.blt_eq];exact h
theorem QeW{a b:Nat}(h:a≤b):Nat.ble a b=true:=by rw[Nat.ble_eq];exact h
structure TbOk(T:Tb):Prop where
 kdE:∀n D x c,(T.kd n).r D x c↔(kdU T (T.fs n)).r D (T.get n x) c
 go:∀n y,T.get n (T.of n y)=y
inductive Pl where
 |blk (n:Nat)
 |own (A:Option Addr) (cap len:Nat)
abbrev Rho:=Nat→Option Pl
def Rho.le(ρ ρ':Rho):Prop:=∀i p,ρ i=some p→ρ' i=some p
theorem Rho.le.refl(ρ:Rho):ρ.le ρ:=fun _ _ h=>h
theorem Rho.le.trans{ρ ρ' ρ2:Rho}(h:ρ.le ρ')(h':ρ'.le ρ2):ρ.le ρ2:=fun i p e=>h' i p (h i p e)
def Rho.ins(ρ:Rho)(i:Nat)(p:Pl):Rho:=fun j=>if j=i then some p else ρ j
theorem Rho.le_ins{ρ:Rho}{i:Nat}{p:Pl}(h:ρ i=none):ρ.le (ρ.ins i p):=fun j q e=>by
 unfold Rho.ins
 split
 ·subst j;rw[h]at e;cases e
 ·exact e
theorem Rho.ins_at(ρ:Rho)(i:Nat)(p:Pl):ρ.ins i p i=some p:=by simp[Rho.ins]
def fnV(f:Nat)(vs:List Value):Value:=bif Nat.ble 1000000000 f then .func (.func (f-1000000000)) vs.toArray #[]else .func (.func f) #[] vs.toArray
theorem Qf6(f:Nat)(vs:List Value):fnV f vs= .func (.func (f-1000000000)) vs.toArray #[]∨fnV f vs= .func (.func f) #[] vs.toArray:=by
 unfold fnV
 cases Nat.ble 1000000000 f with
 |true=>exact .inl rfl
 |false=>exact .inr rfl
section
variable {T:Tb}
def RX(ρ:Rho)(D:Snap):SV T→Bool→List Value→Prop
 | .dt t x,_,c=>(kdT T t).r D x c
 | .kb b,_,c=>c= [.bool b]
 | .raw v,_,c=>c=QR v
 | .nils,_,c=>c= [.slice none 0 0]
 | .agg l,_,c=>RX ρ D l false c
 | .tup l,_,c=>∃vs,RX ρ D l true vs∧c= [.tuple vs.toArray]
 | .fn f l,_,c=>∃vs,RX ρ D l true vs∧c= [fnV f vs]
 | .nl,_,c=>c= []
 | .cs h t,false,c=>∃c1 c2,c=c1++c2∧RX ρ D h false c1∧RX ρ D t false c2
 | .cs h t,true,c=>∃v c2,c=v::c2∧(bif agS h then ∃c1,RX ρ D h false c1∧v= .agg c1.toArray else RX ρ D h false [v])∧RX ρ D t true c2
 | .ptr b off,_,c=>∃n,ρ b=some (.blk n)∧c= [.pointer (some ⟨n,off,none⟩)]
 | .cell t x,_,c=>∃b off,c= [.pointer (some ⟨b,off,none⟩)]∧Cell (kdT T t) D b off x
 | .own o,_,c=>∃A cap len,ρ o=some (.own A cap len)∧c= [.slice A len cap]
 | .elt o i off es,_,c=>∃b cap len,ρ o=some (.own (some ⟨b,0,none⟩) cap len)∧c= [.pointer (some ⟨b,i.toNat*es+off,none⟩)]∧inA len i=true
 | .eva b off i n y fo,_,c=>∃m,ρ b=some (.blk m)∧c= [.pointer (some ⟨m,off+i.toNat*szT T y+fo,none⟩)]∧inA n i=true
 | .sla b p k n,_,c=>∃m,ρ b=some (.blk m)∧c= [.slice (some ⟨m,p,none⟩) k (n-p)]
 | .ela b off i n _,_,c=>∃m,ρ b=some (.blk m)∧c= [.pointer (some ⟨m,off+i.toNat,none⟩)]∧inA n i=true
 | .yld i,_,c=>∃n,ρ i=some (.blk n)∧c= [.func (.yield n) #[] #[]]
 | .mp ks l,_,c=>∃r es clk,c= [.map (some r)]∧D r=some (.map es clk)∧es.toList.map (·.key)=ks∧RX ρ D l true (es.toList.map (·.val))
def RV(ρ:Rho)(D:Snap)(sv:SV T)(v:Value):Prop:=bif agS sv then ∃c1,RX ρ D sv false c1∧v= .agg c1.toArray else RX ρ D sv false [v]
theorem jS{ρ ρ':Rho}{D D':Snap}(hr:ρ.le ρ')(hd:D.le D'):∀(sv:SV T) (m:Bool) (c:List Value),RX ρ D sv m c→RX ρ' D' sv m c:=by
 intro sv
 induction sv with
 |dt t x=>exact fun m c h=>(kdT T t).mono _ _ _ _ hd h
 |kb b=>exact fun _ _ h=>h
 |raw v=>exact fun _ _ h=>h
 |nils=>exact fun _ _ h=>h
 |agg l ih=>exact fun m c h=>ih false c h
 |tup l ih=>exact fun m c ⟨vs,h,e⟩=>⟨vs,ih true vs h,e⟩
 |fn f l ih=>exact fun m c ⟨vs,h,e⟩=>⟨vs,ih true vs h,e⟩
 |nl=>exact fun _ _ h=>h
 | cs h t ih1 ih2=>
  intro m c hc
  cases m with
  |false=>obtain⟨c1,c2,e,h1,h2⟩:=hc;exact⟨c1,c2,e,ih1 _ _ h1,ih2 _ _ h2⟩
  |true=>
   obtain⟨v,c2,e,h1,h2⟩:=hc
   refine⟨v,c2,e,?_,ih2 _ _ h2⟩
   cases ha:agS h with
   |true=>rw[ha]at h1;obtain⟨c1,h3,h4⟩:=h1;exact⟨c1,ih1 _ _ h3,h4⟩
   |false=>rw[ha]at h1;exact ih1 _ _ h1
 |ptr b off=>exact fun _ _ ⟨n,h,e⟩=>⟨n,hr _ _ h,e⟩
 |cell t x=>exact fun _ _ ⟨b,off,e,h⟩=>⟨b,off,e,h.mono hd⟩
 |own o=>exact fun _ _ ⟨A,cap,len,h,e⟩=>⟨A,cap,len,hr _ _ h,e⟩
 |elt o i off es=>exact fun _ _ ⟨b,cap,len,h,e⟩=>⟨b,cap,len,hr _ _ h,e⟩
 |ela b off i n k=>exact fun _ _ ⟨m,h,e⟩=>⟨m,hr _ _ h,e⟩
 |eva b off i n y fo=>exact fun _ _ ⟨m,h,e⟩=>⟨m,hr _ _ h,e⟩
 |sla b p k n=>exact fun _ _ ⟨m,h,e⟩=>⟨m,hr _ _ h,e⟩
 |yld i=>exact fun _ _ ⟨n,h,e⟩=>⟨n,hr _ _ h,e⟩
 |mp ks l ih=>
  rintro m c ⟨r,es,clk,e,h1,h2,h3⟩
  obtain⟨o',h4,h5⟩:=hd _ _ h1
  have h5:o'= .map es clk:=h5
  subst h5
  exact⟨r,es,clk,e,h4,h2,ih _ _ h3⟩
theorem Jv{ρ ρ':Rho}{D D':Snap}(hr:ρ.le ρ')(hd:D.le D'){sv:SV T}{v:Value}(h:RV ρ D sv v):RV ρ' D' sv v:=by
 unfold RV at h⊢
 cases ha:agS sv with
 |true=>rw[ha]at h;obtain⟨c,h1,h2⟩:=h;exact⟨c,jS hr hd _ _ _ h1,h2⟩
 |false=>rw[ha]at h;exact jS hr hd _ _ _ h
theorem Qbg:∀(t:Ty),szT T t=(kdT T t).n
 | .int _=>rfl
 | .bool=>rfl
 | .str=>rfl
 | .arr _ _=>rfl
 | .sl _=>rfl
 | .st _=>rfl
 | .vec n t=>by show n*szT T t=n*(kdT T t).n;rw[Qbg t]
theorem Qf7{ρ:Rho}{D:Snap}:∀(sv:SV T) (c:List Value),RX ρ D sv false c→c.length=szS sv:=by
 intro sv
 induction sv with
 |dt t x=>intro c h;rw[(kdT T t).len _ _ _ h];exact(Qbg t).symm
 |kb b=>intro c h;cases h;rfl
 |raw v=>intro c h;cases h;rfl
 |nils=>intro c h;cases h;rfl
 |agg l ih=>intro c h;exact ih c h
 |tup l ih=>rintro c ⟨vs,h,rfl⟩;rfl
 |fn f l ih=>rintro c ⟨vs,h,rfl⟩;rfl
 |nl=>intro c h;cases h;rfl
 |cs h t ih1 ih2=>rintro c ⟨c1,c2,rfl,h1,h2⟩;rw[List.length_append,ih1 _ h1,ih2 _ h2];rfl
 |ptr b off=>rintro c ⟨n,h,rfl⟩;rfl
 |cell t x=>rintro c ⟨b,off,rfl,h⟩;rfl
 |own o=>rintro c ⟨A,cap,len,h,rfl⟩;rfl
 |elt o i off es=>rintro c ⟨b,cap,len,h,rfl,_⟩;rfl
 |ela b off i n k=>rintro c ⟨m,h,rfl,_⟩;rfl
 |eva b off i n y fo=>rintro c ⟨m,h,rfl,_⟩;rfl
 |sla b p k n=>rintro c ⟨m,h,rfl⟩;rfl
 |yld i=>rintro c ⟨n,h,rfl⟩;rfl
 |mp ks l ih=>rintro c ⟨r,es,clk,rfl,_⟩;rfl
theorem Qs0{ρ:Rho}{D:Snap}:∀(sv:SV T) (c:List Value),okSt sv=true→RX ρ D sv false c→∀u∈c,u.oneCell'=true:=by
 intro sv
 induction sv with
 |dt t x=>intro c _ h;exact(kdT T t).one _ _ _ h
 |kb b=>intro c _ h u hu;cases h;simp at hu;subst hu;rfl
 | raw v=>
  intro c ho h u hu
  cases h
  unfold okSt at ho
  have:QR v= [v]:=by
   cases v<;>first|rfl|(simp[Value.oneCell']at ho)
  rw[this]at hu
  simp at hu;subst hu;exact ho
 |nils=>intro c _ h u hu;cases h;simp at hu;subst hu;rfl
 |agg l ih=>intro c ho h;exact ih c ho h
 |tup l ih=>intro c ho;cases ho
 |fn f l ih=>rintro c _ ⟨vs,h,rfl⟩ u hu;simp at hu;subst hu;rcases Qf6 f vs with e|e<;>rw[e]<;>rfl
 |nl=>intro c _ h u hu;cases h;cases hu
 |cs h t ih1 ih2=>
  rintro c ho ⟨c1,c2,rfl,h1,h2⟩ u hu
  simp only[okSt,Qd]at ho
  rcases List.mem_append.1 hu with hu|hu
  ·exact ih1 _ ho.1 h1 u hu
  ·exact ih2 _ ho.2 h2 u hu
 |ptr b off=>rintro c _ ⟨n,h,rfl⟩ u hu;simp at hu;subst hu;rfl
 |cell t x=>intro c ho;cases ho
 |own o=>rintro c _ ⟨A,cap,len,h,rfl⟩ u hu;simp at hu;subst hu;rfl
 |elt _ _ _ _=>intro c ho;cases ho
 |ela b off i n k=>intro c ho;cases ho
 |eva b off i n y fo=>intro c ho;cases ho
 |sla b p k n=>intro c ho;cases ho
 |yld i=>intro c ho;cases ho
 |mp ks l ih=>intro c ho;cases ho
theorem Qmt{ρ:Rho}{D:Snap}{sv:SV T}{v:Value}(ha:agS sv=false)(h:RX ρ D sv false [v]):QR v= [v]:=by
 cases sv with
 |dt t x=>
  cases t with
  |int k=>have h: [v]=_:=h;cases h;rfl
  |bool=>have h: [v]=_:=h;cases h;rfl
  |str=>have h: [v]=_:=h;cases h;rfl
  |arr k n=>cases ha
  |sl t=>obtain⟨A,cap,e,_⟩:=h;cases e;rfl
  |st n=>cases ha
  |vec n t=>cases ha
 |kb b=>have h: [v]=_:=h;cases h;rfl
 |raw u=>
  have h: [v]=QR u:=h
  cases u with
  |agg cs=>cases ha
  |_=>simp only[QR,List.cons.injEq,and_true]at h;subst h;rfl
 |nils=>have h: [v]=_:=h;cases h;rfl
 |agg l=>cases ha
 |tup l=>obtain⟨_,_,e⟩:=h;cases e;rfl
 |fn f l=>obtain⟨vs,_,e⟩:=h;rcases Qf6 f vs with e'|e'<;>(rw[e']at e;cases e;rfl)
 |nl=>cases ha
 |cs h t=>cases ha
 |ptr b off=>obtain⟨_,_,e⟩:=h;cases e;rfl
 |cell t x=>obtain⟨_,_,e,_⟩:=h;cases e;rfl
 |own o=>obtain⟨_,_,_,_,e⟩:=h;cases e;rfl
 |elt o i off es=>obtain⟨_,_,_,_,e,_⟩:=h;cases e;rfl
 |ela b off i n k=>obtain⟨_,_,e,_⟩:=h;cases e;rfl
 |eva b off i n y fo=>obtain⟨_,_,e,_⟩:=h;cases e;rfl
 |sla b p k n=>obtain⟨_,_,e⟩:=h;cases e;rfl
 |yld i=>obtain⟨_,_,e⟩:=h;cases e;rfl
 |mp ks l=>obtain⟨_,_,_,e,_⟩:=h;cases e;rfl
theorem QaX{ρ:Rho}{D:Snap}{sv:SV T}{v:Value}(h:RV ρ D sv v):RX ρ D sv false (QR v):=by
 unfold RV at h
 cases ha:agS sv with
 |true=>rw[ha]at h;obtain⟨c,h1,rfl⟩:=h;simpa[QR] using h1
 |false=>rw[ha]at h;have h:RX ρ D sv false [v]:=h;rw[Qmt ha h];exact h
theorem QjS{ρ:Rho}{D:Snap}{sv:SV T}{c:List Value}(ha:agS sv=true)(h:RX ρ D sv false c):RV ρ D sv (.agg c.toArray):=by
 unfold RV;rw[ha];exact⟨c,h,rfl⟩
theorem YL{ρ:Rho}{D:Snap}{sv:SV T}{v:Value}(ha:agS sv=false)(h:RX ρ D sv false [v]):RV ρ D sv v:=by
 unfold RV;rw[ha];exact h
theorem Yh{ρ:Rho}{D:Snap}{sv:SV T}{v:Value}(ha:agS sv=false)(h:RV ρ D sv v):RX ρ D sv false [v]:=by
 unfold RV at h;rw[ha]at h;exact h
theorem Qs1{ρ:Rho}{D:Snap}:∀(ts:List Ty) (x:TU T.ty ts) (c:List Value),(kdU T ts).r D x c→RX ρ D (exU ts x) false c
 | [],_,_,h=>h
 | [t],x,c,h=>⟨c, [],by simp,h,rfl⟩
 |t::t'::ts,p,c,⟨c1,c2,e,h1,h2⟩=>⟨c1,c2,e,h1,Qs1 (t'::ts) p.2 c2 h2⟩
theorem Qs2(hT:TbOk T){ρ:Rho}{D:Snap}{n:Nat}{x:T.ty n}{c:List Value}(h:(T.kd n).r D x c):RX ρ D (exS n x) false c:=Qs1 _ _ _ ((hT.kdE n D x c).1 h)
theorem ZN(hT:TbOk T){ρ:Rho}{D:Snap}{v l:SV T}{c:List Value}(h:QdW v=some l)(hc:RX ρ D v false c):RX ρ D l false c:=by
 cases v with
 |agg u=>simp only[QdW,Qa]at h;subst h;exact hc
 |dt t x=>cases t<;>simp only[QdW,reduceCtorEq,Qa]at h;subst h;exact Qs2 hT hc
 |_=>cases h
theorem Qo5{k:IntKind}{n:Nat}(x:Vector Int n){off:Nat}(h:off<n):((Q3 k n x).drop off).take 1= [.int k (vget x off)]:=by
 have hl:(Q3 k n x).length=n:=by simp[Q3]
 rw[List.drop_eq_getElem_cons (by omega)]
 simp[Q3]
theorem Qt1{ρ:Rho}{D:Snap}{v:SV T}{off sz:Nat}{ag:Bool}{u:SV T}{c:List Value}(h:subA v off sz ag=some u)(hc:RX ρ D v false c):
  off+sz≤c.length∧RX ρ D u false ((c.drop off).take sz)∧agS u=ag∧szS u=sz:=by
 unfold subA at h
 split at h
 ·rename_i k n x
  generalize hb:(Nat.beq sz 1&&(!ag&&Nat.blt off n))=b at h
  cases b with
  |false=>cases h
  |true=>
   simp only[Qg,Qa]at h
   subst h
   simp only[Qd]at hb
   obtain⟨h1,h2,h3⟩:=hb
   obtain rfl:=Qc h1
   have h3:off<n:=by rw[Nat.blt_eq]at h3;exact h3
   have hag:ag=false:=by simpa using h2
   have hc:c=Q3 k n x:=hc
   subst hc
   refine⟨by simp[Q3];omega,?_,hag.symm,rfl⟩
   rw[Qo5 x h3]
   rfl
 ·cases h
theorem Qt2{ρ:Rho}{D:Snap}{v:SV T}{off sz:Nat}{ag:Bool}{u v':SV T}{c cu:List Value}(h:setA v off sz ag u=some v')(hc:RX ρ D v false c)(hu:RX ρ D u false cu)(hs:cu.length=sz):
  off+sz≤c.length∧RX ρ D v' false (setCells c off cu):=by
 unfold setA at h
 split at h
 ·rename_i k n x k' z
  generalize hb:(Nat.beq sz 1&&(!ag&&(Nat.blt off n&&sameKind k k')))=b at h
  cases b with
  |false=>cases h
  |true=>
   simp only[Qg,Qa]at h
   subst h
   simp only[Qd]at hb
   obtain⟨h1,h2,h3,h4⟩:=hb
   have h1:=Qc h1
   have h3:off<n:=by rw[Nat.blt_eq]at h3;exact h3
   obtain rfl:=YO h4
   have hc:c=Q3 k n x:=hc
   have hu:cu= [.int k z]:=hu
   subst hc hu
   refine⟨by simp[Q3,←hs];omega,?_⟩
   show setCells _ _ _=Q3 k n (vset x off z)
   rw[QjH (by simp[Q3];omega),QfM x z h3]
 ·cases h
mutual
theorem QaY(hT:TbOk T){ρ:Rho}{D:Snap}:∀(f:Nat) (v:SV T) (off sz:Nat) (ag:Bool) (u:SV T) (c:List Value),subS f v off sz ag=some u→RX ρ D v false c→
  off+sz≤c.length∧RX ρ D u false ((c.drop off).take sz)∧agS u=ag∧szS u=sz
 |0,_,_,_,_,_,_,h,_=>by cases h
 | f+1,v,off,sz,ag,u,c,h,hc=>by
  unfold subS at h
  cases hb:(Nat.beq off 0&&(Nat.beq (szS v) sz&&(agS v==ag)))with
  |true=>
   rw[hb]at h
   simp only[Qg,Qa]at h
   subst h
   simp only[Qd,beq_iff_eq]at hb
   obtain⟨h1,h2,h3⟩:=hb
   have h1:=Qc h1
   have h2:=Qc h2
   have hl:=Qf7 _ _ hc
   subst h1
   refine⟨by omega,?_,h3,h2⟩
   rw[List.drop_zero,List.take_of_length_le (by omega)]
   exact hc
  | false=>
   rw[hb]at h
   simp only[Qh]at h
   split at h
   ·rename_i l hl
    exact QcP hT f l off sz ag u c h (ZN hT hl hc)
   ·exact Qt1 h hc
theorem QcP(hT:TbOk T){ρ:Rho}{D:Snap}:∀(f:Nat) (v:SV T) (off sz:Nat) (ag:Bool) (u:SV T) (c:List Value),subL f v off sz ag=some u→RX ρ D v false c→
  off+sz≤c.length∧RX ρ D u false ((c.drop off).take sz)∧agS u=ag∧szS u=sz
 |0,_,_,_,_,_,_,h,_=>by cases h
 | f+1,.cs x y,off,sz,ag,u,c,h,hc=>by
  obtain⟨c1,c2,rfl,h1,h2⟩:=hc
  have hl:=Qf7 _ _ h1
  unfold subL at h
  cases hb:Nat.blt off (szS x)with
  |true=>
   rw[hb]at h
   obtain⟨a1,a2,a3⟩:=QaY hT f x off sz ag u c1 h h1
   refine⟨by simp;omega,?_,a3⟩
   rw[List.drop_append_of_le_length (by omega),List.take_append_of_le_length (by simp;omega)]
   exact a2
  | false=>
   rw[hb]at h
   have hge:szS x≤off:=by
    cases Nat.lt_or_ge off (szS x)with
    |inl h=>have:=Qld h;rw[hb]at this;cases this
    |inr h=>exact h
   obtain⟨a1,a2,a3⟩:=QcP hT f y (off-szS x) sz ag u c2 h h2
   refine⟨by simp;omega,?_,a3⟩
   rw[List.drop_append,List.drop_of_length_le (by omega),List.nil_append,hl]
   exact a2
 |_+1,.dt _ _,_,_,_,_,_,h,_=>by cases h
 |_+1,.kb _,_,_,_,_,_,h,_=>by cases h
 |_+1,.raw _,_,_,_,_,_,h,_=>by cases h
 |_+1,.nils,_,_,_,_,_,h,_=>by cases h
 |_+1,.agg _,_,_,_,_,_,h,_=>by cases h
 |_+1,.tup _,_,_,_,_,_,h,_=>by cases h
 |_+1,.fn _ _,_,_,_,_,_,h,_=>by cases h
 |_+1,.nl,_,_,_,_,_,h,_=>by cases h
 |_+1,.ptr _ _,_,_,_,_,_,h,_=>by cases h
 |_+1,.cell _ _,_,_,_,_,_,h,_=>by cases h
 |_+1,.own _,_,_,_,_,_,h,_=>by cases h
 |_+1,.elt _ _ _ _,_,_,_,_,_,h,_=>by cases h
 |_+1,.ela _ _ _ _ _,_,_,_,_,_,h,_=>by cases h
 |_+1,.yld _,_,_,_,_,_,h,_=>by cases h
 |_+1,.mp _ _,_,_,_,_,_,h,_=>by cases h
 |_+1,.eva _ _ _ _ _ _,_,_,_,_,_,h,_=>by cases h
 |_+1,.sla _ _ _ _,_,_,_,_,_,h,_=>by cases h
end
mutual
theorem Qf8(hT:TbOk T){ρ:Rho}{D:Snap}:∀(f:Nat) (v:SV T) (off sz:Nat) (ag:Bool) (u v':SV T) (c cu:List Value),setS f v off sz ag u=some v'→RX ρ D v false c→RX ρ D u false cu→cu.length=sz→
  off+sz≤c.length∧RX ρ D v' false (setCells c off cu)
 |0,_,_,_,_,_,_,_,_,h,_,_,_=>by cases h
 | f +1,v,off,sz,ag,u,v',c,cu,h,hc,hu,hs=>by
  unfold setS at h
  cases hb:(Nat.beq off 0&&(Nat.beq (szS v) sz&&(agS v==ag)))with
  |true=>
   rw[hb]at h
   simp only[Qg,Qa]at h
   subst h
   simp only[Qd,beq_iff_eq]at hb
   obtain⟨h1,h2,h3⟩:=hb
   have h1:=Qc h1
   have h2:=Qc h2
   have hl:=Qf7 _ _ hc
   subst h1
   refine⟨by omega,?_⟩
   unfold setCells
   rw[List.take_zero,List.nil_append,List.drop_of_length_le (by omega),List.append_nil]
   exact hu
  | false=>
   rw[hb]at h
   simp only[Qh]at h
   split at h
   ·rename_i l hl
    split at h
    ·rename_i l' hl'
     simp only[Qa]at h
     subst h
     exact Qle hT f l off sz ag u l' c cu hl' (ZN hT hl hc) hu hs
    ·cases h
   ·exact Qt2 h hc hu hs
theorem Qle(hT:TbOk T){ρ:Rho}{D:Snap}:∀(f:Nat) (v:SV T) (off sz:Nat) (ag:Bool) (u v':SV T) (c cu:List Value),setL f v off sz ag u=some v'→RX ρ D v false c→RX ρ D u false cu→cu.length=sz→
  off+sz≤c.length∧RX ρ D v' false (setCells c off cu)
 |0,_,_,_,_,_,_,_,_,h,_,_,_=>by cases h
 | f+1,.cs x y,off,sz,ag,u,v',c,cu,h,hc,hu,hs=>by
  obtain⟨c1,c2,rfl,h1,h2⟩:=hc
  have hl:=Qf7 _ _ h1
  unfold setL at h
  cases hb:Nat.blt off (szS x)with
  | true=>
   rw[hb]at h
   simp only[Qg]at h
   split at h
   ·rename_i x' hx'
    simp only[Qa]at h
    subst h
    obtain⟨a1,a2⟩:=Qf8 hT f x off sz ag u x' c1 cu hx' h1 hu hs
    refine⟨by simp;omega,setCells c1 off cu,c2,?_,a2,h2⟩
    unfold setCells
    rw[List.take_append_of_le_length (by omega),List.drop_append_of_le_length (by omega)]
    simp
   ·cases h
  | false=>
   rw[hb]at h
   simp only[Qh]at h
   have hge:szS x≤off:=by
    cases Nat.lt_or_ge off (szS x)with
    |inl h=>have:=Qld h;rw[hb]at this;cases this
    |inr h=>exact h
   split at h
   ·rename_i y' hy'
    simp only[Qa]at h
    subst h
    obtain⟨a1,a2⟩:=Qle hT f y (off-szS x) sz ag u y' c2 cu hy' h2 hu hs
    refine⟨by simp;omega,c1,setCells c2 (off-szS x) cu,?_,h1,a2⟩
    unfold setCells
    rw[List.take_append,List.take_of_length_le (by omega),List.drop_append,List.drop_of_length_le (by omega)]
    simp only[List.nil_append,List.append_assoc,hl]
    congr 3
    congr 1
    omega
   ·cases h
 |_+1,.dt _ _,_,_,_,_,_,_,_,h,_,_,_=>by cases h
 |_+1,.kb _,_,_,_,_,_,_,_,h,_,_,_=>by cases h
 |_+1,.raw _,_,_,_,_,_,_,_,h,_,_,_=>by cases h
 |_+1,.nils,_,_,_,_,_,_,_,h,_,_,_=>by cases h
 |_+1,.agg _,_,_,_,_,_,_,_,h,_,_,_=>by cases h
 |_+1,.tup _,_,_,_,_,_,_,_,h,_,_,_=>by cases h
 |_+1,.fn _ _,_,_,_,_,_,_,_,h,_,_,_=>by cases h
 |_+1,.nl,_,_,_,_,_,_,_,h,_,_,_=>by cases h
 |_+1,.ptr _ _,_,_,_,_,_,_,_,h,_,_,_=>by cases h
 |_+1,.cell _ _,_,_,_,_,_,_,_,h,_,_,_=>by cases h
 |_+1,.own _,_,_,_,_,_,_,_,h,_,_,_=>by cases h
 |_+1,.elt _ _ _ _,_,_,_,_,_,_,_,h,_,_,_=>by cases h
 |_+1,.ela _ _ _ _ _,_,_,_,_,_,_,_,h,_,_,_=>by cases h
 |_+1,.eva _ _ _ _ _ _,_,_,_,_,_,_,_,h,_,_,_=>by cases h
 |_+1,.sla _ _ _ _,_,_,_,_,_,_,_,h,_,_,_=>by cases h
end
theorem Qfs{P:Program}{t sz:Nat}{ag:Bool}(h:tsz P t=some (sz,ag)):P.cellsOf t=sz∧(P.info? t).isSome=true:=by
 unfold tsz at h
 split at h
 ·rename_i i h1 h2
  simp only[Qa,Qe]at h
  exact⟨by rw[←h.1];simp[Program.cellsOf,h2],by rw[h2];rfl⟩
 ·rename_i i h1 h2
  simp only[Qa,Qe]at h
  exact⟨by rw[←h.1];simp[Program.cellsOf,h2],by rw[h2];rfl⟩
 ·rename_i dd ii _ _ h1 h2
  cases hb:Nat.beq ii.size 1 with
  |false=>rw[hb]at h;cases h
  |true=>
   rw[hb]at h
   simp only[Qg,Qa,Qe]at h
   exact⟨by rw[←h.1,←Qc hb];simp[Program.cellsOf,h2],by rw[h2];rfl⟩
 ·cases h
theorem QaZ{P:Program}{t sz:Nat}{ag:Bool}(h:tsz P t=some (sz,ag)){c cu:List Value}{off:Nat}{ρ:Rho}{D:Snap}{u:SV T}(hle:off+sz≤c.length)(hu:RX ρ D u false ((c.drop off).take sz))(ha:agS u=ag):
  ∃v,ldv P t c off=some v∧RV ρ D u v:=by
 unfold tsz at h
 unfold ldv
 split at h
 ·rename_i i h1 h2
  simp only[Qa,Qe]at h
  obtain⟨rfl,rfl⟩:=h
  rw[h1,h2]
  simp only[show Nat.ble (off+i.size) c.length=true from QeW hle,Qg]
  exact⟨_,rfl,QjS ha hu⟩
 ·rename_i i h1 h2
  simp only[Qa,Qe]at h
  obtain⟨rfl,rfl⟩:=h
  rw[h1,h2]
  simp only[show Nat.ble (off+i.size) c.length=true from QeW hle,Qg]
  exact⟨_,rfl,QjS ha hu⟩
 ·rename_i dd ii hs har h1 h2
  cases hb1:Nat.beq ii.size 1 with
  |false=>rw[hb1]at h;cases h
  |true=>
  rw[hb1]at h
  simp only[Qg,Qa,Qe]at h
  obtain⟨rfl,rfl⟩:=h
  rw[h1,h2]
  have hlt:off<c.length:=by omega
  have e:(c.drop off).take 1= [c[off]]:=by
   rw[List.drop_eq_getElem_cons hlt];rfl
  rw[e]at hu
  refine⟨c[off],?_,YL ha hu⟩
  cases dd<;>first|exact List.getElem?_eq_getElem hlt|exact(hs _ rfl).elim|exact(har _ _ rfl).elim
 ·cases h
theorem Qt3(hT:TbOk T){ρ:Rho}{D:Snap}{u h:SV T}{c:List Value}(h1:one1 u=some h)(hc:RX ρ D u false c):RX ρ D h false c∧agS h=agS u:=by
 unfold one1 at h1
 split at h1
 ·rename_i h' ha
  cases hb:agS h' with
  |false=>rw[hb]at h1;cases h1
  |true=>
   rw[hb]at h1
   simp only[Qg,Qa]at h1
   subst h1
   obtain⟨c1,c2,e,h2,h3⟩:=ZN hT ha hc
   have h3:c2= []:=h3
   subst h3
   rw[List.append_nil]at e
   subst e
   refine⟨h2,?_⟩
   rw[hb]
   cases u with
   |agg l=>rfl
   |dt t x=>cases t<;>first|rfl|cases ha
   |_=>cases ha
 ·cases h1
theorem Qf9(hT:TbOk T){ρ:Rho}{D:Snap}{y:Option Ty}{c:List Value}:∀(f:Nat) (u:SV T),RX ρ D u false c→RX ρ D (fitS f y u) false c∧agS (fitS f y u)=agS u
 |0,u,hc=>⟨hc,rfl⟩
 | f+1,u,hc=>by
  unfold fitS
  cases hb:okTy y u with
  |true=>exact⟨hc,rfl⟩
  | false=>
   simp only[Qh]
   split
   ·rename_i h h1
    obtain⟨h2,h3⟩:=Qt3 hT h1 hc
    obtain⟨h4,h5⟩:=Qf9 hT f h h2
    exact⟨h4,by rw[h5,h3]⟩
   ·exact⟨hc,rfl⟩
theorem Qdm{P:Program}{t:TypeId}{x:Option (SV T)}{u:SV T}(h:fitO P t x=some u):∃u',x=some u'∧u=fitS 5 (tyOf T P 20 t) u':=by
 cases x with
 |none=>cases h
 |some u'=>simp only[fitO,Qa]at h;exact⟨u',rfl,h.symm⟩
end
end Go.Sep
