/-
 Symbolic execution: states, and what an operation's operands are.
-/
import Derived.Test.YtomndohdnfebgaaGreatDoorSxB
set_option linter.unusedVariables false
set_option linter.unusedSimpArgs false
namespace Go.Sep
theorem Ql2{a b:Nat}(h:a<b):Nat.blt a b=true:=by rw[Nat.blt_eq];exact h
theorem Qfs{a b:Nat}(h:a≤b):Nat.ble a b=true:=by rw[Nat.ble_eq];exact h
structure TbOk(T:Tb):Prop where
 kdE:∀n D x c,(T.kd n).r D x c↔(kdU T (T.fs n)).r D (T.get n x) c
 go:∀n y,T.get n (T.of n y)=y
inductive Pl where
 |blk (n:Nat)
 |own (A:Option Addr) (cap len:Nat)
abbrev Rho:=Nat→Option Pl
def Rho.le(ρ ρ':Rho):Prop:=∀i p,ρ i=some p→ρ' i=some p
theorem Rho.le.refl(ρ:Rho):ρ.le ρ:=fun _ _ h=>h
theorem Rho.le.trans{ρ ρ' ρ2:Rho}(h:ρ.le ρ')(h':ρ'.le ρ2):ρ.le ρ2:=fun i p e=>h' i p (h i p e)
def Rho.ins(ρ:Rho)(i:Nat)(p:Pl):Rho:=fun j=>if j=i then some p else ρ j
theorem Rho.le_ins{ρ:Rho}{i:Nat}{p:Pl}(h:ρ i=none):ρ.le (ρ.ins i p):=fun j q e=>by
 unfold Rho.ins
 split
 ·subst j;rw[h]at e;cases e
 ·exact e
theorem Rho.ins_at(ρ:Rho)(i:Nat)(p:Pl):ρ.ins i p i=some p:=by simp[Rho.ins]
def fnV(f:Nat)(vs:List Value):Value:=bif Nat.ble 1000000000 f then .func (.func (f-1000000000)) vs.toArray #[]else .func (.func f) #[] vs.toArray
theorem QgA(f:Nat)(vs:List Value):fnV f vs= .func (.func (f-1000000000)) vs.toArray #[]∨fnV f vs= .func (.func f) #[] vs.toArray:=by
 unfold fnV
 cases Nat.ble 1000000000 f with
 |true=>exact .inl rfl
 |false=>exact .inr rfl
section
variable {T:Tb}
def RX(ρ:Rho)(D:Snap):SV T→Bool→List Value→Prop
 | .dt t x,_,c=>(kdT T t).r D x c
 | .kb b,_,c=>c= [.bool b]
 | .raw v,_,c=>c=Q4 v
 | .nils,_,c=>c= [.slice none 0 0]
 | .agg l,_,c=>RX ρ D l false c
 | .tup l,_,c=>∃vs,RX ρ D l true vs∧c= [.tuple vs.toArray]
 | .fn f l,_,c=>∃vs,RX ρ D l true vs∧c= [fnV f vs]
 | .nl,_,c=>c= []
 | .cs h t,false,c=>∃c1 c2,c=c1++c2∧RX ρ D h false c1∧RX ρ D t false c2
 | .cs h t,true,c=>∃v c2,c=v::c2∧(bif agS h then ∃c1,RX ρ D h false c1∧v= .agg c1.toArray else RX ρ D h false [v])∧RX ρ D t true c2
 | .ptr b off,_,c=>∃n,ρ b=some (.blk n)∧c= [.pointer (some ⟨n,off,none⟩)]
 | .cell t x,_,c=>∃b off,c= [.pointer (some ⟨b,off,none⟩)]∧Cell (kdT T t) D b off x
 | .own o,_,c=>∃A cap len,ρ o=some (.own A cap len)∧c= [.slice A len cap]
 | .elt o i off es,_,c=>∃b cap len,ρ o=some (.own (some ⟨b,0,none⟩) cap len)∧c= [.pointer (some ⟨b,i.toNat*es+off,none⟩)]∧inA len i=true
 | .eva b off i n y fo,_,c=>∃m,ρ b=some (.blk m)∧c= [.pointer (some ⟨m,off+i.toNat*szT T y+fo,none⟩)]∧inA n i=true
 | .sla b p k n,_,c=>∃m,ρ b=some (.blk m)∧c= [.slice (some ⟨m,p,none⟩) k (n-p)]
 | .ela b off i n _,_,c=>∃m,ρ b=some (.blk m)∧c= [.pointer (some ⟨m,off+i.toNat,none⟩)]∧inA n i=true
 | .yld i,_,c=>∃n,ρ i=some (.blk n)∧c= [.func (.yield n) #[] #[]]
 | .mp ks l,_,c=>∃r es clk,c= [.map (some r)]∧D r=some (.map es clk)∧es.toList.map (·.key)=ks∧RX ρ D l true (es.toList.map (·.val))
def RV(ρ:Rho)(D:Snap)(sv:SV T)(v:Value):Prop:=bif agS sv then ∃c1,RX ρ D sv false c1∧v= .agg c1.toArray else RX ρ D sv false [v]
theorem yA{ρ ρ':Rho}{D D':Snap}(hr:ρ.le ρ')(hd:D.le D'):∀(sv:SV T) (m:Bool) (c:List Value),RX ρ D sv m c→RX ρ' D' sv m c:=by
 intro sv
 induction sv with
 |dt t x=>exact fun m c h=>(kdT T t).mono _ _ _ _ hd h
 |kb b=>exact fun _ _ h=>h
 |raw v=>exact fun _ _ h=>h
 |nils=>exact fun _ _ h=>h
 |agg l ih=>exact fun m c h=>ih false c h
 |tup l ih=>exact fun m c ⟨vs,h,e⟩=>⟨vs,ih true vs h,e⟩
 |fn f l ih=>exact fun m c ⟨vs,h,e⟩=>⟨vs,ih true vs h,e⟩
 |nl=>exact fun _ _ h=>h
 | cs h t ih1 ih2=>
  intro m c hc
  cases m with
  |false=>obtain⟨c1,c2,e,h1,h2⟩:=hc;exact⟨c1,c2,e,ih1 _ _ h1,ih2 _ _ h2⟩
  |true=>
   obtain⟨v,c2,e,h1,h2⟩:=hc
   refine⟨v,c2,e,?_,ih2 _ _ h2⟩
   cases ha:agS h with
   |true=>rw[ha]at h1;obtain⟨c1,h3,h4⟩:=h1;exact⟨c1,ih1 _ _ h3,h4⟩
   |false=>rw[ha]at h1;exact ih1 _ _ h1
 |ptr b off=>exact fun _ _ ⟨n,h,e⟩=>⟨n,hr _ _ h,e⟩
 |cell t x=>exact fun _ _ ⟨b,off,e,h⟩=>⟨b,off,e,h.mono hd⟩
 |own o=>exact fun _ _ ⟨A,cap,len,h,e⟩=>⟨A,cap,len,hr _ _ h,e⟩
 |elt o i off es=>exact fun _ _ ⟨b,cap,len,h,e⟩=>⟨b,cap,len,hr _ _ h,e⟩
 |ela b off i n k=>exact fun _ _ ⟨m,h,e⟩=>⟨m,hr _ _ h,e⟩
 |eva b off i n y fo=>exact fun _ _ ⟨m,h,e⟩=>⟨m,hr _ _ h,e⟩
 |sla b p k n=>exact fun _ _ ⟨m,h,e⟩=>⟨m,hr _ _ h,e⟩
 |yld i=>exact fun _ _ ⟨n,h,e⟩=>⟨n,hr _ _ h,e⟩
 |mp ks l ih=>
  rintro m c ⟨r,es,clk,e,h1,h2,h3⟩
  obtain⟨o',h4,h5⟩:=hd _ _ h1
  have h5:o'= .map es clk:=h5
  subst h5
  exact⟨r,es,clk,e,h4,h2,ih _ _ h3⟩
theorem JL{ρ ρ':Rho}{D D':Snap}(hr:ρ.le ρ')(hd:D.le D'){sv:SV T}{v:Value}(h:RV ρ D sv v):RV ρ' D' sv v:=by
 unfold RV at h⊢
 cases ha:agS sv with
 |true=>rw[ha]at h;obtain⟨c,h1,h2⟩:=h;exact⟨c,yA hr hd _ _ _ h1,h2⟩
 |false=>rw[ha]at h;exact yA hr hd _ _ _ h
theorem QbE:∀(t:Ty),szT T t=(kdT T t).n
 | .int _=>rfl
 | .bool=>rfl
 | .str=>rfl
 | .arr _ _=>rfl
 | .sl _=>rfl
 | .st _=>rfl
 | .vec n t=>by show n*szT T t=n*(kdT T t).n;rw[QbE t]
theorem QgB{ρ:Rho}{D:Snap}:∀(sv:SV T) (c:List Value),RX ρ D sv false c→c.length=szS sv:=by
 intro sv
 induction sv with
 |dt t x=>intro c h;rw[(kdT T t).len _ _ _ h];exact(QbE t).symm
 |kb b=>intro c h;cases h;rfl
 |raw v=>intro c h;cases h;rfl
 |nils=>intro c h;cases h;rfl
 |agg l ih=>intro c h;exact ih c h
 |tup l ih=>rintro c ⟨vs,h,rfl⟩;rfl
 |fn f l ih=>rintro c ⟨vs,h,rfl⟩;rfl
 |nl=>intro c h;cases h;rfl
 |cs h t ih1 ih2=>rintro c ⟨c1,c2,rfl,h1,h2⟩;rw[List.length_append,ih1 _ h1,ih2 _ h2];rfl
 |ptr b off=>rintro c ⟨n,h,rfl⟩;rfl
 |cell t x=>rintro c ⟨b,off,rfl,h⟩;rfl
 |own o=>rintro c ⟨A,cap,len,h,rfl⟩;rfl
 |elt o i off es=>rintro c ⟨b,cap,len,h,rfl,_⟩;rfl
 |ela b off i n k=>rintro c ⟨m,h,rfl,_⟩;rfl
 |eva b off i n y fo=>rintro c ⟨m,h,rfl,_⟩;rfl
 |sla b p k n=>rintro c ⟨m,h,rfl⟩;rfl
 |yld i=>rintro c ⟨n,h,rfl⟩;rfl
 |mp ks l ih=>rintro c ⟨r,es,clk,rfl,_⟩;rfl
theorem Quy{ρ:Rho}{D:Snap}:∀(sv:SV T) (c:List Value),okSt sv=true→RX ρ D sv false c→∀u∈c,u.oneCell'=true:=by
 intro sv
 induction sv with
 |dt t x=>intro c _ h;exact(kdT T t).one _ _ _ h
 |kb b=>intro c _ h u hu;cases h;simp at hu;subst hu;rfl
 | raw v=>
  intro c ho h u hu
  cases h
  unfold okSt at ho
  have:Q4 v= [v]:=by
   cases v<;>first|rfl|(simp[Value.oneCell']at ho)
  rw[this]at hu
  simp at hu;subst hu;exact ho
 |nils=>intro c _ h u hu;cases h;simp at hu;subst hu;rfl
 |agg l ih=>intro c ho h;exact ih c ho h
 |tup l ih=>intro c ho;cases ho
 |fn f l ih=>rintro c _ ⟨vs,h,rfl⟩ u hu;simp at hu;subst hu;rcases QgA f vs with e|e<;>rw[e]<;>rfl
 |nl=>intro c _ h u hu;cases h;cases hu
 |cs h t ih1 ih2=>
  rintro c ho ⟨c1,c2,rfl,h1,h2⟩ u hu
  simp only[okSt,Qd]at ho
  rcases List.mem_append.1 hu with hu|hu
  ·exact ih1 _ ho.1 h1 u hu
  ·exact ih2 _ ho.2 h2 u hu
 |ptr b off=>rintro c _ ⟨n,h,rfl⟩ u hu;simp at hu;subst hu;rfl
 |cell t x=>intro c ho;cases ho
 |own o=>rintro c _ ⟨A,cap,len,h,rfl⟩ u hu;simp at hu;subst hu;rfl
 |elt _ _ _ _=>intro c ho;cases ho
 |ela b off i n k=>intro c ho;cases ho
 |eva b off i n y fo=>intro c ho;cases ho
 |sla b p k n=>intro c ho;cases ho
 |yld i=>intro c ho;cases ho
 |mp ks l ih=>intro c ho;cases ho
theorem Qnr{ρ:Rho}{D:Snap}{sv:SV T}{v:Value}(ha:agS sv=false)(h:RX ρ D sv false [v]):Q4 v= [v]:=by
 cases sv with
 |dt t x=>
  cases t with
  |int k=>have h: [v]=_:=h;cases h;rfl
  |bool=>have h: [v]=_:=h;cases h;rfl
  |str=>have h: [v]=_:=h;cases h;rfl
  |arr k n=>cases ha
  |sl t=>obtain⟨A,cap,e,_⟩:=h;cases e;rfl
  |st n=>cases ha
  |vec n t=>cases ha
 |kb b=>have h: [v]=_:=h;cases h;rfl
 |raw u=>
  have h: [v]=Q4 u:=h
  cases u with
  |agg cs=>cases ha
  |_=>simp only[Q4,List.cons.injEq,and_true]at h;subst h;rfl
 |nils=>have h: [v]=_:=h;cases h;rfl
 |agg l=>cases ha
 |tup l=>obtain⟨_,_,e⟩:=h;cases e;rfl
 |fn f l=>obtain⟨vs,_,e⟩:=h;rcases QgA f vs with e'|e'<;>(rw[e']at e;cases e;rfl)
 |nl=>cases ha
 |cs h t=>cases ha
 |ptr b off=>obtain⟨_,_,e⟩:=h;cases e;rfl
 |cell t x=>obtain⟨_,_,e,_⟩:=h;cases e;rfl
 |own o=>obtain⟨_,_,_,_,e⟩:=h;cases e;rfl
 |elt o i off es=>obtain⟨_,_,_,_,e,_⟩:=h;cases e;rfl
 |ela b off i n k=>obtain⟨_,_,e,_⟩:=h;cases e;rfl
 |eva b off i n y fo=>obtain⟨_,_,e,_⟩:=h;cases e;rfl
 |sla b p k n=>obtain⟨_,_,e⟩:=h;cases e;rfl
 |yld i=>obtain⟨_,_,e⟩:=h;cases e;rfl
 |mp ks l=>obtain⟨_,_,_,e,_⟩:=h;cases e;rfl
theorem Qbl{ρ:Rho}{D:Snap}{sv:SV T}{v:Value}(h:RV ρ D sv v):RX ρ D sv false (Q4 v):=by
 unfold RV at h
 cases ha:agS sv with
 |true=>rw[ha]at h;obtain⟨c,h1,rfl⟩:=h;simpa[Q4] using h1
 |false=>rw[ha]at h;have h:RX ρ D sv false [v]:=h;rw[Qnr ha h];exact h
theorem QkA{ρ:Rho}{D:Snap}{sv:SV T}{c:List Value}(ha:agS sv=true)(h:RX ρ D sv false c):RV ρ D sv (.agg c.toArray):=by
 unfold RV;rw[ha];exact⟨c,h,rfl⟩
theorem YV{ρ:Rho}{D:Snap}{sv:SV T}{v:Value}(ha:agS sv=false)(h:RX ρ D sv false [v]):RV ρ D sv v:=by
 unfold RV;rw[ha];exact h
theorem Yn{ρ:Rho}{D:Snap}{sv:SV T}{v:Value}(ha:agS sv=false)(h:RV ρ D sv v):RX ρ D sv false [v]:=by
 unfold RV at h;rw[ha]at h;exact h
theorem Quz{ρ:Rho}{D:Snap}:∀(ts:List Ty) (x:TU T.ty ts) (c:List Value),(kdU T ts).r D x c→RX ρ D (exU ts x) false c
 | [],_,_,h=>h
 | [t],x,c,h=>⟨c, [],by simp,h,rfl⟩
 |t::t'::ts,p,c,⟨c1,c2,e,h1,h2⟩=>⟨c1,c2,e,h1,Quz (t'::ts) p.2 c2 h2⟩
theorem QuA(hT:TbOk T){ρ:Rho}{D:Snap}{n:Nat}{x:T.ty n}{c:List Value}(h:(T.kd n).r D x c):RX ρ D (exS n x) false c:=Quz _ _ _ ((hT.kdE n D x c).1 h)
theorem Qaf(hT:TbOk T){ρ:Rho}{D:Snap}{v l:SV T}{c:List Value}(h:Qem v=some l)(hc:RX ρ D v false c):RX ρ D l false c:=by
 cases v with
 |agg u=>simp only[Qem,Qa]at h;subst h;exact hc
 |dt t x=>cases t<;>simp only[Qem,reduceCtorEq,Qa]at h;subst h;exact QuA hT hc
 |_=>cases h
theorem Qp9{k:IntKind}{n:Nat}(x:Vector Int n){off:Nat}(h:off<n):((Ya k n x).drop off).take 1= [.int k (vget x off)]:=by
 have hl:(Ya k n x).length=n:=by simp[Ya]
 rw[List.drop_eq_getElem_cons (by omega)]
 simp[Ya]
theorem Qvy{ρ:Rho}{D:Snap}{v:SV T}{off sz:Nat}{ag:Bool}{u:SV T}{c:List Value}(h:subA v off sz ag=some u)(hc:RX ρ D v false c):
  off+sz≤c.length∧RX ρ D u false ((c.drop off).take sz)∧agS u=ag∧szS u=sz:=by
 unfold subA at h
 split at h
 ·rename_i k n x
  generalize hb:(Nat.beq sz 1&&(!ag&&Nat.blt off n))=b at h
  cases b with
  |false=>cases h
  |true=>
   simp only[Qg,Qa]at h
   subst h
   simp only[Qd]at hb
   obtain⟨h1,h2,h3⟩:=hb
   obtain rfl:=Qc h1
   have h3:off<n:=by rw[Nat.blt_eq]at h3;exact h3
   have hag:ag=false:=by simpa using h2
   have hc:c=Ya k n x:=hc
   subst hc
   refine⟨by simp[Ya];omega,?_,hag.symm,rfl⟩
   rw[Qp9 x h3]
   rfl
 ·cases h
theorem Qvz{ρ:Rho}{D:Snap}{v:SV T}{off sz:Nat}{ag:Bool}{u v':SV T}{c cu:List Value}(h:setA v off sz ag u=some v')(hc:RX ρ D v false c)(hu:RX ρ D u false cu)(hs:cu.length=sz):
  off+sz≤c.length∧RX ρ D v' false (setCells c off cu):=by
 unfold setA at h
 split at h
 ·rename_i k n x k' z
  generalize hb:(Nat.beq sz 1&&(!ag&&(Nat.blt off n&&sameKind k k')))=b at h
  cases b with
  |false=>cases h
  |true=>
   simp only[Qg,Qa]at h
   subst h
   simp only[Qd]at hb
   obtain⟨h1,h2,h3,h4⟩:=hb
   have h1:=Qc h1
   have h3:off<n:=by rw[Nat.blt_eq]at h3;exact h3
   obtain rfl:=YY h4
   have hc:c=Ya k n x:=hc
   have hu:cu= [.int k z]:=hu
   subst hc hu
   refine⟨by simp[Ya,←hs];omega,?_⟩
   show setCells _ _ _=Ya k n (vset x off z)
   rw[Qkp (by simp[Ya];omega),Qgi x z h3]
 ·cases h
mutual
theorem Qbm(hT:TbOk T){ρ:Rho}{D:Snap}:∀(f:Nat) (v:SV T) (off sz:Nat) (ag:Bool) (u:SV T) (c:List Value),subS f v off sz ag=some u→RX ρ D v false c→
  off+sz≤c.length∧RX ρ D u false ((c.drop off).take sz)∧agS u=ag∧szS u=sz
 |0,_,_,_,_,_,_,h,_=>by cases h
 | f+1,v,off,sz,ag,u,c,h,hc=>by
  unfold subS at h
  cases hb:(Nat.beq off 0&&(Nat.beq (szS v) sz&&(agS v==ag)))with
  |true=>
   rw[hb]at h
   simp only[Qg,Qa]at h
   subst h
   simp only[Qd,beq_iff_eq]at hb
   obtain⟨h1,h2,h3⟩:=hb
   have h1:=Qc h1
   have h2:=Qc h2
   have hl:=QgB _ _ hc
   subst h1
   refine⟨by omega,?_,h3,h2⟩
   rw[List.drop_zero,List.take_of_length_le (by omega)]
   exact hc
  | false=>
   rw[hb]at h
   simp only[Qh]at h
   split at h
   ·rename_i l hl
    exact Qdj hT f l off sz ag u c h (Qaf hT hl hc)
   ·exact Qvy h hc
theorem Qdj(hT:TbOk T){ρ:Rho}{D:Snap}:∀(f:Nat) (v:SV T) (off sz:Nat) (ag:Bool) (u:SV T) (c:List Value),subL f v off sz ag=some u→RX ρ D v false c→
  off+sz≤c.length∧RX ρ D u false ((c.drop off).take sz)∧agS u=ag∧szS u=sz
 |0,_,_,_,_,_,_,h,_=>by cases h
 | f+1,.cs x y,off,sz,ag,u,c,h,hc=>by
  obtain⟨c1,c2,rfl,h1,h2⟩:=hc
  have hl:=QgB _ _ h1
  unfold subL at h
  cases hb:Nat.blt off (szS x)with
  |true=>
   rw[hb]at h
   obtain⟨a1,a2,a3⟩:=Qbm hT f x off sz ag u c1 h h1
   refine⟨by simp;omega,?_,a3⟩
   rw[List.drop_append_of_le_length (by omega),List.take_append_of_le_length (by simp;omega)]
   exact a2
  | false=>
   rw[hb]at h
   have hge:szS x≤off:=by
    cases Nat.lt_or_ge off (szS x)with
    |inl h=>have:=Ql2 h;rw[hb]at this;cases this
    |inr h=>exact h
   obtain⟨a1,a2,a3⟩:=Qdj hT f y (off-szS x) sz ag u c2 h h2
   refine⟨by simp;omega,?_,a3⟩
   rw[List.drop_append,List.drop_of_length_le (by omega),List.nil_append,hl]
   exact a2
 |_+1,.dt _ _,_,_,_,_,_,h,_=>by cases h
 |_+1,.kb _,_,_,_,_,_,h,_=>by cases h
 |_+1,.raw _,_,_,_,_,_,h,_=>by cases h
 |_+1,.nils,_,_,_,_,_,h,_=>by cases h
 |_+1,.agg _,_,_,_,_,_,h,_=>by cases h
 |_+1,.tup _,_,_,_,_,_,h,_=>by cases h
 |_+1,.fn _ _,_,_,_,_,_,h,_=>by cases h
 |_+1,.nl,_,_,_,_,_,h,_=>by cases h
 |_+1,.ptr _ _,_,_,_,_,_,h,_=>by cases h
 |_+1,.cell _ _,_,_,_,_,_,h,_=>by cases h
 |_+1,.own _,_,_,_,_,_,h,_=>by cases h
 |_+1,.elt _ _ _ _,_,_,_,_,_,h,_=>by cases h
 |_+1,.ela _ _ _ _ _,_,_,_,_,_,h,_=>by cases h
 |_+1,.yld _,_,_,_,_,_,h,_=>by cases h
 |_+1,.mp _ _,_,_,_,_,_,h,_=>by cases h
 |_+1,.eva _ _ _ _ _ _,_,_,_,_,_,h,_=>by cases h
 |_+1,.sla _ _ _ _,_,_,_,_,_,h,_=>by cases h
end
mutual
theorem QgC(hT:TbOk T){ρ:Rho}{D:Snap}:∀(f:Nat) (v:SV T) (off sz:Nat) (ag:Bool) (u v':SV T) (c cu:List Value),setS f v off sz ag u=some v'→RX ρ D v false c→RX ρ D u false cu→cu.length=sz→
  off+sz≤c.length∧RX ρ D v' false (setCells c off cu)
 |0,_,_,_,_,_,_,_,_,h,_,_,_=>by cases h
 | f +1,v,off,sz,ag,u,v',c,cu,h,hc,hu,hs=>by
  unfold setS at h
  cases hb:(Nat.beq off 0&&(Nat.beq (szS v) sz&&(agS v==ag)))with
  |true=>
   rw[hb]at h
   simp only[Qg,Qa]at h
   subst h
   simp only[Qd,beq_iff_eq]at hb
   obtain⟨h1,h2,h3⟩:=hb
   have h1:=Qc h1
   have h2:=Qc h2
   have hl:=QgB _ _ hc
   subst h1
   refine⟨by omega,?_⟩
   unfold setCells
   rw[List.take_zero,List.nil_append,List.drop_of_length_le (by omega),List.append_nil]
   exact hu
  | false=>
   rw[hb]at h
   simp only[Qh]at h
   split at h
   ·rename_i l hl
    split at h
    ·rename_i l' hl'
     simp only[Qa]at h
     subst h
     exact Ql3 hT f l off sz ag u l' c cu hl' (Qaf hT hl hc) hu hs
    ·cases h
   ·exact Qvz h hc hu hs
theorem Ql3(hT:TbOk T){ρ:Rho}{D:Snap}:∀(f:Nat) (v:SV T) (off sz:Nat) (ag:Bool) (u v':SV T) (c cu:List Value),setL f v off sz ag u=some v'→RX ρ D v false c→RX ρ D u false cu→cu.length=sz→
  off+sz≤c.length∧RX ρ D v' false (setCells c off cu)
 |0,_,_,_,_,_,_,_,_,h,_,_,_=>by cases h
 | f+1,.cs x y,off,sz,ag,u,v',c,cu,h,hc,hu,hs=>by
  obtain⟨c1,c2,rfl,h1,h2⟩:=hc
  have hl:=QgB _ _ h1
  unfold setL at h
  cases hb:Nat.blt off (szS x)with
  | true=>
   rw[hb]at h
   simp only[Qg]at h
   split at h
   ·rename_i x' hx'
    simp only[Qa]at h
    subst h
    obtain⟨a1,a2⟩:=QgC hT f x off sz ag u x' c1 cu hx' h1 hu hs
    refine⟨by simp;omega,setCells c1 off cu,c2,?_,a2,h2⟩
    unfold setCells
    rw[List.take_append_of_le_length (by omega),List.drop_append_of_le_length (by omega)]
    simp
   ·cases h
  | false=>
   rw[hb]at h
   simp only[Qh]at h
   have hge:szS x≤off:=by
    cases Nat.lt_or_ge off (szS x)with
    |inl h=>have:=Ql2 h;rw[hb]at this;cases this
    |inr h=>exact h
   split at h
   ·rename_i y' hy'
    simp only[Qa]at h
    subst h
    obtain⟨a1,a2⟩:=Ql3 hT f y (off-szS x) sz ag u y' c2 cu hy' h2 hu hs
    refine⟨by simp;omega,c1,setCells c2 (off-szS x) cu,?_,h1,a2⟩
    unfold setCells
    rw[List.take_append,List.take_of_length_le (by omega),List.drop_append,List.drop_of_length_le (by omega)]
    simp only[List.nil_append,List.append_assoc,hl]
    congr 3
    congr 1
    omega
   ·cases h
 |_+1,.dt _ _,_,_,_,_,_,_,_,h,_,_,_=>by cases h
 |_+1,.kb _,_,_,_,_,_,_,_,h,_,_,_=>by cases h
 |_+1,.raw _,_,_,_,_,_,_,_,h,_,_,_=>by cases h
 |_+1,.nils,_,_,_,_,_,_,_,h,_,_,_=>by cases h
 |_+1,.agg _,_,_,_,_,_,_,_,h,_,_,_=>by cases h
 |_+1,.tup _,_,_,_,_,_,_,_,h,_,_,_=>by cases h
 |_+1,.fn _ _,_,_,_,_,_,_,_,h,_,_,_=>by cases h
 |_+1,.nl,_,_,_,_,_,_,_,h,_,_,_=>by cases h
 |_+1,.ptr _ _,_,_,_,_,_,_,_,h,_,_,_=>by cases h
 |_+1,.cell _ _,_,_,_,_,_,_,_,h,_,_,_=>by cases h
 |_+1,.own _,_,_,_,_,_,_,_,h,_,_,_=>by cases h
 |_+1,.elt _ _ _ _,_,_,_,_,_,_,_,h,_,_,_=>by cases h
 |_+1,.ela _ _ _ _ _,_,_,_,_,_,_,_,h,_,_,_=>by cases h
 |_+1,.eva _ _ _ _ _ _,_,_,_,_,_,_,_,h,_,_,_=>by cases h
 |_+1,.sla _ _ _ _,_,_,_,_,_,_,_,h,_,_,_=>by cases h
end
theorem QfU{P:Program}{t sz:Nat}{ag:Bool}(h:tsz P t=some (sz,ag)):P.cellsOf t=sz∧(P.info? t).isSome=true:=by
 unfold tsz at h
 split at h
 ·rename_i i h1 h2
  simp only[Qa,Qe]at h
  exact⟨by rw[←h.1];simp[Program.cellsOf,h2],by rw[h2];rfl⟩
 ·rename_i i h1 h2
  simp only[Qa,Qe]at h
  exact⟨by rw[←h.1];simp[Program.cellsOf,h2],by rw[h2];rfl⟩
 ·rename_i dd ii _ _ h1 h2
  cases hb:Nat.beq ii.size 1 with
  |false=>rw[hb]at h;cases h
  |true=>
   rw[hb]at h
   simp only[Qg,Qa,Qe]at h
   exact⟨by rw[←h.1,←Qc hb];simp[Program.cellsOf,h2],by rw[h2];rfl⟩
 ·cases h
theorem Qbn{P:Program}{t sz:Nat}{ag:Bool}(h:tsz P t=some (sz,ag)){c cu:List Value}{off:Nat}{ρ:Rho}{D:Snap}{u:SV T}(hle:off+sz≤c.length)(hu:RX ρ D u false ((c.drop off).take sz))(ha:agS u=ag):
  ∃v,ldv P t c off=some v∧RV ρ D u v:=by
 unfold tsz at h
 unfold ldv
 split at h
 ·rename_i i h1 h2
  simp only[Qa,Qe]at h
  obtain⟨rfl,rfl⟩:=h
  rw[h1,h2]
  simp only[show Nat.ble (off+i.size) c.length=true from Qfs hle,Qg]
  exact⟨_,rfl,QkA ha hu⟩
 ·rename_i i h1 h2
  simp only[Qa,Qe]at h
  obtain⟨rfl,rfl⟩:=h
  rw[h1,h2]
  simp only[show Nat.ble (off+i.size) c.length=true from Qfs hle,Qg]
  exact⟨_,rfl,QkA ha hu⟩
 ·rename_i dd ii hs har h1 h2
  cases hb1:Nat.beq ii.size 1 with
  |false=>rw[hb1]at h;cases h
  |true=>
  rw[hb1]at h
  simp only[Qg,Qa,Qe]at h
  obtain⟨rfl,rfl⟩:=h
  rw[h1,h2]
  have hlt:off<c.length:=by omega
  have e:(c.drop off).take 1= [c[off]]:=by
   rw[List.drop_eq_getElem_cons hlt];rfl
  rw[e]at hu
  refine⟨c[off],?_,YV ha hu⟩
  cases dd<;>first|exact List.getElem?_eq_getElem hlt|exact(hs _ rfl).elim|exact(har _ _ rfl).elim
 ·cases h
theorem QvA(hT:TbOk T){ρ:Rho}{D:Snap}{u h:SV T}{c:List Value}(h1:one1 u=some h)(hc:RX ρ D u false c):RX ρ D h false c∧agS h=agS u:=by
 unfold one1 at h1
 split at h1
 ·rename_i h' ha
  cases hb:agS h' with
  |false=>rw[hb]at h1;cases h1
  |true=>
   rw[hb]at h1
   simp only[Qg,Qa]at h1
   subst h1
   obtain⟨c1,c2,e,h2,h3⟩:=Qaf hT ha hc
   have h3:c2= []:=h3
   subst h3
   rw[List.append_nil]at e
   subst e
   refine⟨h2,?_⟩
   rw[hb]
   cases u with
   |agg l=>rfl
   |dt t x=>cases t<;>first|rfl|cases ha
   |_=>cases ha
 ·cases h1
theorem QgD(hT:TbOk T){ρ:Rho}{D:Snap}{y:Option Ty}{c:List Value}:∀(f:Nat) (u:SV T),RX ρ D u false c→RX ρ D (fitS f y u) false c∧agS (fitS f y u)=agS u
 |0,u,hc=>⟨hc,rfl⟩
 | f+1,u,hc=>by
  unfold fitS
  cases hb:okTy y u with
  |true=>exact⟨hc,rfl⟩
  | false=>
   simp only[Qh]
   split
   ·rename_i h h1
    obtain⟨h2,h3⟩:=QvA hT h1 hc
    obtain⟨h4,h5⟩:=QgD hT f h h2
    exact⟨h4,by rw[h5,h3]⟩
   ·exact⟨hc,rfl⟩
theorem QdO{P:Program}{t:TypeId}{x:Option (SV T)}{u:SV T}(h:fitO P t x=some u):∃u',x=some u'∧u=fitS 5 (tyOf T P 20 t) u':=by
 cases x with
 |none=>cases h
 |some u'=>simp only[fitO,Qa]at h;exact⟨u',rfl,h.symm⟩
end
end Go.Sep
namespace Go.Sep
structure Frm where
 p:Nat→Snap→Act→List Blk→Prop
 t:Nat→Prop
 mono:∀{m:Nat} {D D':Snap} {a:Act} {R:List Blk},D.le D'→p m D a R→p m D' a R
 put:∀{m:Nat} {D:Snap} {a a':Act} {R:List Blk} {d:Option Tmp},(∀x,d=some x→ ¬t x)→(∀x,d≠some x→a'.tmps[x]?=a.tmps[x]?)→a'.defers=a.defers→p m D a R→p m D a' R
structure Ct where
 n:Nat
 ds:List Deferred
 g:World
 w0:World
 D0:Snap
 L0:List Blk
 rb:Rho
 fr:Frm
 ini:Nat→Option (Nat×TypeId×List Value)
 nb:Nat:=0
 mks:Bool:=false
def DsOk(ct:Ct)(ds:List Deferred)(R:List Blk):Prop:=∃ms:List Nat,ds=ms.map Zi++ct.ds∧(ms= []∨ct.mks=true)∧ms.Nodup∧∀m∈ms,dk m∈R
theorem DsOk.nil{ct:Ct}{R:List Blk}:DsOk ct ct.ds R:=⟨[],rfl,.inl rfl,List.nodup_nil,fun _ h=>by cases h⟩
theorem DsOk.mono{ct:Ct}{ds:List Deferred}{R R':List Blk}(h:DsOk ct ds R)(hr:∀q∈R,q∈R'):DsOk ct ds R':=by
 obtain⟨ms,h1,h2,h3,h4⟩:=h
 exact⟨ms,h1,h2,h3,fun m hm=>hr _ (h4 m hm)⟩
section
variable {T:Tb}
def RBk(ρ:Rho)(D:Snap)(id:Nat):SB T→Blk→Prop
 | .var t v,q=>∃m c,ρ id=some (.blk m)∧RX ρ D v false c∧q=bx m t c
 | .own t e xs f,q=>∃A cap,ρ id=some (.own A cap xs.length)∧OwnX f (kdT T t) e D A cap xs q
 | .lnt t xs,q=>∃A cap,ρ id=some (.own A cap xs.length)∧Sl (kdT T t) D A cap xs∧q=none
def RLs(ρ:Rho)(D:Snap):List (Nat×Nat×SB T)→List Blk→Prop
 | [],Ls=>Ls= []
 |e::L,Ls=>∃q Ls',Ls=q::Ls'∧RBk ρ D e.1 e.2.2 q∧RLs ρ D L Ls'
def IniQ(ct:Ct)(ρ:Rho)(s:SS T)(w:World):Prop:=∀id n t c,ct.ini id=some (n,t,c)→ρ id=some (.blk n)∧∀b,lookA s.L id=some (id,b)→w.heap[n]?=some (.cells c.toArray t (0,0))
structure RSx(ct:Ct)(ρ:Rho)(D:Snap)(Lv R:List Blk)(s:SS T)(a:Act)(w:World):Prop where
 rb:ct.rb.le ρ
 dom:∀i p,ρ i=some p→i<s.nx
 ver:∀e∈s.L,e.2.1<s.nx
 nd:(s.L.map (·.1)).Nodup
 size:a.tmps.size=ct.n
 ds:DsOk ct a.defers R
 e:∀t sv,lookA s.E t=some sv→∃v,a.tmps[t]?=some v∧RV ρ D sv v
 l:RLs ρ D s.L Lv
 st:Stp ct.g ct.w0 ct.D0 ct.L0 w D (Lv++R)
 fr:ct.fr.p s.md.m D a R
 ini:IniQ ct ρ s w
 ex:ct.nb≤s.nx∧∀i,i<ct.nb→ct.rb i=none→ρ i=none
 o:∀t sv,lookA s.md.O t=some sv→∀b∈QbV sv,ct.rb b≠none
def RS(ct:Ct)(s:SS T)(a:Act)(w:World):Prop:=∃ρ D Lv R,RSx ct ρ D Lv R s a w
structure Ext(s s':SS T):Prop where
 e:∃pre,s'.E=pre++s.E
 nx:s.nx≤s'.nx
 l:∀id v sb,lookA s'.L id=some (v,sb)→v<s.nx→lookA s.L id=some (v,sb)
theorem Ext.refl(s:SS T):Ext s s:=⟨⟨[],rfl⟩,Nat.le_refl _,fun _ _ _ h _=>h⟩
theorem Ext.trans{s s1 s2:SS T}(h:Ext s s1)(h':Ext s1 s2):Ext s s2:=by
 obtain⟨p,hp⟩:=h.e
 obtain⟨q,hq⟩:=h'.e
 exact⟨⟨q++p,by rw[hq,hp];simp⟩,Nat.le_trans h.nx h'.nx,fun id v sb hl hv=>h.l id v sb (h'.l id v sb hl (Nat.lt_of_lt_of_le hv h.nx)) hv⟩
theorem QcP{ρ ρ':Rho}{D D':Snap}(hr:ρ.le ρ')(hd:D.le D'){id:Nat}:∀{b:SB T} {q:Blk},RBk ρ D id b q→RBk ρ' D' id b q
 | .var _ _,_,⟨m,c,h1,h2,h3⟩=>⟨m,c,hr _ _ h1,yA hr hd _ _ _ h2,h3⟩
 | .own _ _ _ _,_,⟨A,cap,h1,h2⟩=>⟨A,cap,hr _ _ h1,h2.mono hd⟩
 | .lnt _ _,_,⟨A,cap,h1,h2,h3⟩=>⟨A,cap,hr _ _ h1,h2.mono hd,h3⟩
theorem yj{ρ ρ':Rho}{D D':Snap}(hr:ρ.le ρ')(hd:D.le D'):∀{L:List (Nat×Nat×SB T)} {Ls:List Blk},RLs ρ D L Ls→RLs ρ' D' L Ls
 | [],_,h=>h
 |_::_,_,⟨q,Ls',h1,h2,h3⟩=>⟨q,Ls',h1,QcP hr hd h2,yj hr hd h3⟩
theorem qJ{ρ:Rho}{D:Snap}{id ver:Nat}{b:SB T}:∀{L:List (Nat×Nat×SB T)} {Ls:List Blk},RLs ρ D L Ls→lookA L id=some (ver,b)→
  ∃X q Y,Ls=X++q::Y∧RBk ρ D id b q∧RLs ρ D (delB id L) (X++Y)∧(∀ρ' D' ver' b' q',ρ.le ρ'→D.le D'→RBk ρ' D' id b' q'→RLs ρ' D' (putB id (ver',b') L) (X++q'::Y))
 | [],_,_,h=>by cases h
 | e::L,_,⟨q,Ls',h1,h2,h3⟩,h=>by
  obtain⟨k,d⟩:=e
  subst h1
  simp only[lookA]at h
  cases hb:Nat.beq k id with
  |true=>
   rw[hb]at h
   have:=Qc hb
   subst this
   simp only[Qg,Qa]at h
   subst h
   refine⟨[],q,Ls',rfl,h2,?_,fun ρ' D' ver' b' q' hr hd hq=> ?_⟩
   ·unfold delB;rw[hb];exact h3
   ·unfold putB;rw[hb];exact⟨q',Ls',rfl,hq,yj hr hd h3⟩
  |false=>
   rw[hb]at h
   obtain⟨X,q1,Y,e1,e2,e3,e4⟩:=qJ h3 h
   subst e1
   refine⟨q::X,q1,Y,rfl,e2,?_,fun ρ' D' ver' b' q' hr hd hq=> ?_⟩
   ·unfold delB;rw[hb];exact⟨q,_,rfl,h2,e3⟩
   ·unfold putB;rw[hb];exact⟨q,_,rfl,QcP hr hd h2,e4 _ _ _ _ _ hr hd hq⟩
theorem QgE{id:Nat}{c:Nat×SB T}:∀{L:List (Nat×Nat×SB T)} (k:Nat),lookA (putB id c L) k=if k=id then(lookA L id).map (fun _=>c)else lookA L k
 | [],k=>by simp[putB,lookA]
 | e ::L,k=>by
  obtain⟨j,d⟩:=e
  unfold putB
  cases hb:Nat.beq j id with
  | true=>
   have:=Qc hb
   subst this
   simp only[Qg,lookA]
   by_cases hk:k=j
   ·subst hk;simp
   ·have:Nat.beq j k=false:=by
     cases h:Nat.beq j k with
     |true=>exact absurd (Qc h).symm hk
     |false=>rfl
    simp[this,hk]
  | false=>
   simp only[Qh,lookA,hb]
   rw[QgE k]
   cases hj:Nat.beq j k with
   |true=>
    have:=Qc hj
    subst this
    have:j≠id:=fun e=>by subst e;simp at hb
    simp[this]
   |false=>simp
theorem Yr{α:Type}{x:α}{id:Nat}:∀{L:List (Nat×α)},lookA L id=some x→(id,x)∈L
 | [],h=>by cases h
 | e::L,h=>by
  obtain⟨j,d⟩:=e
  simp only[lookA]at h
  cases hb:Nat.beq j id with
  |true=>
   rw[hb]at h
   have:=Qc hb
   subst this
   simp only[Qg,Qa]at h
   subst h
   exact List.mem_cons_self
  |false=>rw[hb]at h;exact List.mem_cons_of_mem _ (Yr h)
theorem Qim{α:Type}{id:Nat}:∀{L:List (Nat×α)},id∉L.map (·.1)→lookA L id=none
 | [],_=>rfl
 | e::L,h=>by
  obtain⟨j,d⟩:=e
  simp only[List.map_cons,List.mem_cons,not_or]at h
  have:Nat.beq j id=false:=by
   cases hb:Nat.beq j id with
   |true=>exact absurd (Qc hb).symm h.1
   |false=>rfl
  simp only[lookA,this,Qh]
  exact Qim h.2
theorem Qns{id:Nat}{c:Nat×SB T}:∀{L:List (Nat×Nat×SB T)},(putB id c L).map (·.1)=L.map (·.1)
 | []=>rfl
 |e::L=>by
  obtain⟨j,d⟩:=e
  unfold putB
  cases hb:Nat.beq j id with
  |true=>rfl
  |false=>simp[Qns (L:=L)]
theorem Qnt{id:Nat}{c:Nat×SB T}{e:Nat×Nat×SB T}:∀{L:List (Nat×Nat×SB T)},e∈putB id c L→e.2=c∨e∈L
 | [],h=>by cases h
 | d::L,h=>by
  obtain⟨j,d⟩:=d
  unfold putB at h
  cases hb:Nat.beq j id with
  |true=>
   rw[hb]at h
   rcases List.mem_cons.1 h with h|h
   ·left;rw[h]
   ·right;exact List.mem_cons_of_mem _ h
  | false=>
   rw[hb]at h
   rcases List.mem_cons.1 h with h|h
   ·right;rw[h];exact List.mem_cons_self
   ·rcases Qnt h with h|h
    ·exact .inl h
    ·exact .inr (List.mem_cons_of_mem _ h)
theorem jK{id:Nat}:∀{L:List (Nat×Nat×SB T)},(delB id L).Sublist L
 | []=> .slnil
 |e::L=>by
  obtain⟨j,d⟩:=e
  unfold delB
  cases hb:Nat.beq j id with
  |true=>exact .cons _ (List.Sublist.refl _)
  |false=>exact .cons_cons _ jK
theorem Zu{id:Nat}:∀{L:List (Nat×Nat×SB T)} (k:Nat) {x:Nat×SB T},(L.map (·.1)).Nodup→lookA (delB id L) k=some x→k≠id∧lookA L k=some x
 | [],_,_,_,h=>by cases h
 | e::L,k,x,hn,h=>by
  obtain⟨j,d⟩:=e
  simp only[List.map_cons,List.nodup_cons]at hn
  unfold delB at h
  cases hb:Nat.beq j id with
  | true=>
   rw[hb]at h
   have h0:lookA L k=some x:=h
   clear h
   have:=Qc hb
   subst this
   have hkj:k≠j:=fun e=>by rw[e,Qim hn.1]at h0;cases h0
   have:Nat.beq j k=false:=by
    cases hh:Nat.beq j k with
    |true=>exact absurd (Qc hh).symm hkj
    |false=>rfl
   exact⟨hkj,by simp only[lookA,this,Qh];exact h0⟩
  | false=>
   rw[hb]at h
   simp only[Qh,lookA]at h
   cases hj:Nat.beq j k with
   |true=>
    rw[hj]at h
    have:=Qc hj
    subst this
    exact⟨fun e=>by subst e;simp at hb,by simp only[lookA,hj];exact h⟩
   |false=>
    rw[hj]at h
    obtain⟨h1,h2⟩:=Zu k hn.2 h
    exact⟨h1,by simp only[lookA,hj];exact h2⟩
theorem Qin{id k:Nat}(hk:k≠id){x:Nat×SB T}:∀{L:List (Nat×Nat×SB T)},lookA L k=some x→lookA (delB id L) k=some x
 | [],h=>by cases h
 | e::L,h=>by
  obtain⟨j,d⟩:=e
  unfold delB
  simp only[lookA]at h
  cases hb:Nat.beq j id with
  | true=>
   have:=Qc hb
   subst this
   have:Nat.beq j k=false:=by
    cases hh:Nat.beq j k with
    |true=>exact absurd (Qc hh).symm hk
    |false=>rfl
   rw[this]at h
   exact h
  |false=>
   simp only[Qh,lookA]
   cases hj:Nat.beq j k with
   |true=>rw[hj]at h;exact h
   |false=>rw[hj]at h;exact Qin hk h
theorem Qqa{ρ:Rho}{D:Snap}{id k ver:Nat}{b:SB T}{L:List (Nat×Nat×SB T)}{Z:List Blk}(h:RLs ρ D (delB id L) Z)(hk:k≠id)(hl:lookA L k=some (ver,b)):∃q,RBk ρ D k b q∧q∈Z:=by
 obtain⟨X,q,Y,e,h1,_⟩:=qJ h (Qin hk hl)
 exact⟨q,h1,by rw[e];simp⟩
theorem IniQ.mv{ct:Ct}{ρ ρ':Rho}{s s':SS T}{w w' g g':World}{Da Da':Snap}{Z Z':List Blk}(h:IniQ ct ρ s w)(hr:ρ.le ρ')(hS:St g w Da Z)(hS':St g' w' Da' Z')
  (hb:∀id b p,ρ id=some p→lookA s'.L id=some (id,b)→lookA s.L id=some (id,b)∧∃q D,RBk ρ D id b q∧q∈Z∧q∈Z'):IniQ ct ρ' s' w':=fun id n t c hi=>by
 obtain⟨h1,h2⟩:=h id n t c hi
 refine⟨hr _ _ h1,fun b hl=> ?_⟩
 obtain⟨h3,q,D,h4,h5,h6⟩:=hb id b _ h1 hl
 have h7:=h2 b h3
 cases b with
 |own t' e' xs' f'=>obtain⟨A,cap,h8,_⟩:=h4;rw[h1]at h8;cases h8
 |lnt t' xs'=>obtain⟨A,cap,h8,_⟩:=h4;rw[h1]at h8;cases h8
 |var t' v'=>
  obtain⟨m,c',h8,_,rfl⟩:=h4
  rw[h1]at h8
  cases h8
  have h9:=(hS.l _ _ h5).1
  rw[h7]at h9
  rw[(hS'.l _ _ h6).1,h9]
def EvA(a:Act):List (Nat×Value):=a.tmps.toList.zipIdx.map fun p=>(p.2,p.1)
theorem QsX(l:List Value):∀(k t:Nat),look ((l.zipIdx k).map fun p=>(p.2,p.1)) t=if k≤t then l[t-k]? else none:=by
 induction l with
 |nil=>intro k t;simp[look]
 | cons v l ih=>
  intro k t
  simp only[List.zipIdx_cons,List.map_cons,look]
  cases hb:Nat.beq k t with
  |true=>have:=Qc hb;subst this;simp
  |false=>
   have hne:k≠t:=fun e=>by subst e;simp at hb
   rw[Qh,ih]
   by_cases h:k≤t
   ·rw[if_pos h,if_pos (by omega),show t-k=(t-(k+1))+1 by omega,List.getElem?_cons_succ]
   ·rw[if_neg h,if_neg (by omega)]
theorem Qag(a:Act)(t:Nat):look (EvA a) t=a.tmps[t]?:=by
 unfold EvA
 rw[QsX]
 simp
theorem QvB{a:Act}{n:Nat}{ds:List Deferred}(h1:a.tmps.size=n)(h2:a.defers=ds):Env a n ds (EvA a):=⟨h1,h2,fun t v h=>by rw[Qag]at h;exact h⟩
variable {ct:Ct}{ρ:Rho}{D:Snap}{Lv R:List Blk}{s:SS T}{a a':Act}{w:World}
theorem RSx.env(h:RSx ct ρ D Lv R s a w):Env a ct.n a.defers (EvA a):=QvB h.size rfl
theorem RSx.put{d:Option Tmp}{sv:SV T}{v:Value}(h:RSx ct ρ D Lv R s a w)(hv:∀x,d=some x→RV ρ D sv v)(hfr:∀x,d=some x→ ¬ct.fr.t x)(hE:Env a' ct.n a.defers (upd (EvA a) d v)):RSx ct ρ D Lv R (s.put d sv) a' w:=by
 have hold:∀x,d≠some x→∀u,a.tmps[x]?=some u→a'.tmps[x]?=some u:=by
  intro x hx u hu
  refine hE.at_ x u ?_
  cases d with
  |none=>rw[upd,Qag];exact hu
  | some d=>
   simp only[upd,look]
   have:Nat.beq d x=false:=by
    cases hb:Nat.beq d x with
    |true=>exact absurd (by rw[Qc hb]) hx
    |false=>rfl
   rw[this,Qh,Qag];exact hu
 have hsame:∀x,d≠some x→a'.tmps[x]?=a.tmps[x]?:=by
  intro x hx
  cases hu:a.tmps[x]? with
  |some u=>exact hold x hx u hu
  |none=>
   rw[Array.getElem?_eq_none_iff]at hu⊢
   rw[hE.size,←h.size];exact hu
 have hfr':=ct.fr.put hfr hsame hE.ds h.fr
 cases d with
 | none=>exact⟨h.rb,h.dom,h.ver,h.nd,hE.size,(by rw[hE.ds];exact h.ds),fun t u hu=>by
   obtain⟨x,h1,h2⟩:=h.e t u hu
   exact⟨x,by rw[hsame t (by simp)];exact h1,h2⟩,h.l,h.st,hfr',h.ini,h.ex,h.o⟩
 | some d=>
  refine⟨h.rb,h.dom,h.ver,h.nd,hE.size,(by rw[hE.ds];exact h.ds),fun t u hu=> ?_,h.l,h.st,hfr',h.ini,h.ex,h.o⟩
  simp only[SS.put,lookA]at hu
  cases hb:Nat.beq d t with
  |true=>
   rw[hb]at hu
   have:=Qc hb
   subst this
   simp only[Qg,Qa]at hu
   subst hu
   exact⟨v,hE.at_ d v (by simp[upd,look]),hv d rfl⟩
  |false=>
   rw[hb]at hu
   obtain⟨x,h1,h2⟩:=h.e t u hu
   refine⟨x,?_,h2⟩
   rw[hsame t (fun e=>by simp only[Qa]at e;subst e;simp at hb)]
   exact h1
theorem Ext.put(s:SS T)(d:Option Tmp)(v:SV T):Ext s (s.put d v):=by
 cases d with
 |none=>exact Ext.refl s
 |some d=>exact⟨⟨[(d,v)],rfl⟩,Nat.le_refl _,fun _ _ _ h _=>h⟩
theorem RSx.at_{t:Nat}{sv:SV T}(h:RSx ct ρ D Lv R s a w)(ht:lookA s.E t=some sv):∃v,look (EvA a) t=some v∧RV ρ D sv v:=by
 obtain⟨v,h1,h2⟩:=h.e t sv ht
 exact⟨v,by rw[Qag];exact h1,h2⟩
theorem Qqb{k:IntKind}:∀(n:Nat) (cs:List Value) (l:List Int) (cs':List Value),ints k n cs=some (l,cs')→cs=l.map (.int k)++cs'∧l.length=n
 |0,cs,l,cs',h=>by simp only[ints,Qa,Qe]at h;obtain⟨rfl,rfl⟩:=h;exact⟨rfl,rfl⟩
 |n+1, [],_,_,h=>by cases h
 | n+1,v::cs,l,cs',h=>by
  cases v<;>simp only[ints,reduceCtorEq]at h
  rename_i k' x
  cases hk:sameKind k k' with
  |false=>rw[hk]at h;cases h
  | true=>
   rw[hk]at h
   obtain rfl:=YY hk
   simp only[Qg]at h
   split at h
   ·rename_i l2 cs2 h2
    simp only[Qa,Qe]at h
    obtain⟨rfl,rfl⟩:=h
    obtain⟨e1,e2⟩:=Qqb n cs l2 cs2 h2
    exact⟨by rw[e1];rfl,by simp[e2]⟩
   ·cases h
mutual
theorem QkB{P:Program}(ρ:Rho)(D:Snap):∀(f:Nat) (t:TypeId) (cs:List Value) (v:SV T) (cs':List Value),ofC P f t cs=some (v,cs')→∃c,cs=c++cs'∧RX ρ D v false c
 |0,_,_,_,_,h=>by cases h
 | f +1,t,cs,v,cs',h=>by
  unfold ofC at h
  split at h
  ·split at h
   ·rename_i l cs2 h2
    simp only[Qa,Qe]at h
    obtain⟨rfl,rfl⟩:=h
    exact QuB ρ D f _ cs l cs2 h2
   ·cases h
  ·split at h
   ·split at h
    ·rename_i n e _ k _ _ l cs2 h2
     simp only[Qa,Qe]at h
     obtain⟨rfl,rfl⟩:=h
     obtain⟨e1,e2⟩:=Qqb _ _ _ _ h2
     refine⟨_,e1,?_⟩
     show _=Ya _ _ _
     rw[Qej (by omega),List.take_of_length_le (by omega)]
    ·cases h
   ·split at h
    ·rename_i l cs2 h2
     simp only[Qa,Qe]at h
     obtain⟨rfl,rfl⟩:=h
     exact QuC ρ D f _ _ cs l cs2 h2
    ·cases h
  ·split at h
   ·simp only[Qa,Qe]at h;obtain⟨rfl,rfl⟩:=h;exact⟨[_],rfl,rfl⟩
   ·simp only[Qa,Qe]at h;obtain⟨rfl,rfl⟩:=h;exact⟨[_],rfl,rfl⟩
   ·simp only[Qa,Qe]at h;obtain⟨rfl,rfl⟩:=h;exact⟨[_],rfl,rfl⟩
   ·simp only[Qa,Qe]at h;obtain⟨rfl,rfl⟩:=h;exact⟨[_],rfl,rfl⟩
   ·rename_i u cs2 _ _ _ _
    cases ho:u.oneCell' with
    |false=>rw[ho]at h;cases h
    |true=>
     rw[ho]at h
     simp only[Qg,Qa,Qe]at h
     obtain⟨rfl,rfl⟩:=h
     refine⟨[u],rfl,?_⟩
     show [u]=Q4 u
     cases u<;>first|rfl|(simp[Value.oneCell']at ho)
   ·cases h
  ·cases h
theorem QuB{P:Program}(ρ:Rho)(D:Snap):∀(f:Nat) (fs:List Field) (cs:List Value) (v:SV T) (cs':List Value),ofF P f fs cs=some (v,cs')→∃c,cs=c++cs'∧RX ρ D v false c
 |0,_,_,_,_,h=>by cases h
 |_+1, [],cs,v,cs',h=>by
  simp only[ofF,Qa,Qe]at h
  obtain⟨rfl,rfl⟩:=h
  exact⟨[],rfl,rfl⟩
 | f+1,x::fs,cs,v,cs',h=>by
  unfold ofF at h
  split at h
  ·rename_i u cs1 h1
   split at h
   ·rename_i l cs2 h2
    simp only[Qa,Qe]at h
    obtain⟨rfl,rfl⟩:=h
    obtain⟨c1,e1,r1⟩:=QkB ρ D f x.type cs u cs1 h1
    obtain⟨c2,e2,r2⟩:=QuB ρ D f fs cs1 l cs2 h2
    exact⟨c1++c2,by rw[e1,e2];simp,c1,c2,rfl,r1,r2⟩
   ·cases h
  ·cases h
theorem QuC{P:Program}(ρ:Rho)(D:Snap):∀(f n:Nat) (e:TypeId) (cs:List Value) (v:SV T) (cs':List Value),ofN P f n e cs=some (v,cs')→∃c,cs=c++cs'∧RX ρ D v false c
 |0,_,_,_,_,_,h=>by cases h
 |_+1,0,_,cs,v,cs',h=>by
  simp only[ofN,Qa,Qe]at h
  obtain⟨rfl,rfl⟩:=h
  exact⟨[],rfl,rfl⟩
 | f+1,n+1,e,cs,v,cs',h=>by
  unfold ofN at h
  split at h
  ·rename_i u cs1 h1
   split at h
   ·rename_i l cs2 h2
    simp only[Qa,Qe]at h
    obtain⟨rfl,rfl⟩:=h
    obtain⟨c1,e1,r1⟩:=QkB ρ D f e cs u cs1 h1
    obtain⟨c2,e2,r2⟩:=QuC ρ D f n e cs1 l cs2 h2
    exact⟨c1++c2,by rw[e1,e2];simp,c1,c2,rfl,r1,r2⟩
   ·cases h
  ·cases h
end
theorem Qbo{P:Program}(ρ:Rho)(D:Snap){t:TypeId}{v:SV T}(h:zeroS P t=some v):∃z,(P.info? t).bind (·.zero)=some z∧RX ρ D v false (Q4 z):=by
 unfold zeroS at h
 split at h
 ·rename_i z hz
  split at h
  ·rename_i u h1
   simp only[Qa]at h
   subst h
   obtain⟨c,e,r⟩:=QkB ρ D 200 t _ _ _ h1
   simp only[List.append_nil]at e
   exact⟨z,hz,by rw[e];exact r⟩
  ·cases h
 ·cases h
theorem Qw0{v:Value}{sv:SV T}(h:svC v=some sv):RV ρ D sv v:=by
 unfold svC at h
 split at h<;>first|(simp only[Qa]at h;subst h;exact rfl)|cases h
structure CxOk(C:Cx T)(ct:Ct):Prop where
 tb:TbOk T
 gl:∀g d,lookA C.G g=some d→Cell (kdT T d.t) ct.D0 g 0 d.x
theorem YC{C:Cx T}(hC:CxOk C ct)(h:RSx ct ρ D Lv R s a w){t:TypeId}{x:Operand}{sv:SV T}(hx:evS C s t x=some sv):∃v,Yt (EvA a) x=some v∧RV ρ D sv v:=by
 unfold evS at hx
 split at hx
 ·exact h.at_ hx
 ·rename_i cs
  split at hx
  ·rename_i u h1
   cases ha:agS u with
   |false=>rw[ha]at hx;cases hx
   |true=>
    rw[ha]at hx
    simp only[Qg,Qa]at hx
    subst hx
    obtain⟨c,e,r⟩:=QkB ρ D 200 t _ _ _ h1
    simp only[List.append_nil]at e
    refine⟨_,rfl,?_⟩
    have:cs=c.toArray:=by rw[←e]
    rw[this]
    exact QkA ha r
  ·cases hx
 ·exact⟨_,rfl,Qw0 hx⟩
 ·rename_i g
  split at hx
  ·rename_i d hd
   simp only[Qa]at hx
   subst hx
   exact⟨_,rfl,YV rfl ⟨g,0,rfl,(hC.gl g d hd).mono h.st.dle⟩⟩
  ·cases hx
 ·rename_i f
  cases hb:Nat.ble 1000000000 f with
  |true=>rw[hb]at hx;cases hx
  |false=>
   rw[hb]at hx
   simp only[Qh,Qa]at hx
   subst hx
   exact⟨_,rfl,YV rfl ⟨[],rfl,by unfold fnV;rw[hb];rfl⟩⟩
theorem Qio{C:Cx T}(hC:CxOk C ct)(h:RSx ct ρ D Lv R s a w):∀{xs:List Operand} {ts:List TypeId} {l:SV T},evL C s xs ts=some l→∃vs,JC (EvA a) xs=some vs∧RX ρ D l true vs
 | [],_,l,hx=>by simp only[evL,Qa]at hx;subst hx;exact⟨[],rfl,rfl⟩
 | x::xs,ts,l,hx=>by
  unfold evL at hx
  split at hx
  ·rename_i u l' h1 h2
   simp only[Qa]at hx
   subst hx
   obtain⟨v,e1,r1⟩:=YC hC h h1
   obtain⟨vs,e2,r2⟩:=Qio hC h h2
   exact⟨v::vs,by simp only[JC,e1,e2],v,vs,rfl,r1,r2⟩
  ·cases hx
end
end Go.Sep
