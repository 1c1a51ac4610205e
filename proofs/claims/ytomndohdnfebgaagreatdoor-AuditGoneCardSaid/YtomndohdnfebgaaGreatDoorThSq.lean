/-
 Plain: the digest, reckoned by natural numbers: quick where Lean's kernel reckons; the same as the program's, whatever it is of.
-/
import Derived.Test.YtomndohdnfebgaaGreatDoorThDh
set_option linter.unusedVariables false
set_option linter.unusedSimpArgs false
namespace Go.Proofs.YtomndohdnfebgaaGreatDoor.Sq
open Go Go.Sep
theorem QD{α β:Type}{o:Option α}{x:α}{f:α→Option β}{r:Option β}(h:o=some x)(h2:f x=r):o.bind f=r:=by rw[h];exact h2
theorem Yq{N i:Nat}(h:i<N):inA N (i:Int)=true:=by
 unfold inA
 rw[QT (by omega),QT (by omega)];rfl
abbrev R32(x:Int):Prop:=0≤x∧x<4294967296
theorem wu32(x:Int):IntKind.wrap .u32 x=x%4294967296:=by
 simp only[IntKind.wrap,IntKind.bits,IntKind.signed];simp
theorem wu64(x:Int):IntKind.wrap .u64 x=x%18446744073709551616:=by
 simp only[IntKind.wrap,IntKind.bits,IntKind.signed];simp
theorem wu8(x:Int):IntKind.wrap .u8 x=x%256:=by
 simp only[IntKind.wrap,IntKind.bits,IntKind.signed];simp
theorem QoA{x:Int}(h1:0≤x)(h2:x<18446744073709551616):IntKind.wrap .u64 x=x:=by rw[wu64];omega
theorem Zm{x:Int}(h:R32 x):∃a:Nat,x=(a:Int)∧a<4294967296:=⟨x.toNat,by omega,by omega⟩
theorem Qkw{a b:Nat}(ha:a<4294967296)(hb:b<4294967296):band .u32 (a:Int) (b:Int)=((a&&&b:Nat):Int)∧band .u64 (a:Int) (b:Int)=((a&&&b:Nat):Int):=by
 have h:=Nat.and_le_left (n:=a) (m:=b)
 unfold band
 constructor
 ·rw[BitVec.toNat_and]
  simp only[IntKind.bits,BitVec.ofInt_natCast,BitVec.toNat_ofNat]
  rw[show(2:Nat)^32=4294967296 by decide,Nat.mod_eq_of_lt ha,Nat.mod_eq_of_lt hb,wu32];omega
 ·rw[BitVec.toNat_and]
  simp only[IntKind.bits,BitVec.ofInt_natCast,BitVec.toNat_ofNat]
  rw[show(2:Nat)^64=18446744073709551616 by decide,Nat.mod_eq_of_lt (by omega),Nat.mod_eq_of_lt (by omega),wu64];omega
theorem Qgq{a b:Nat}(ha:a<4294967296)(hb:b<4294967296):a|||b<4294967296:=Nat.or_lt_two_pow (n:=32) ha hb
theorem Qnm{a b:Nat}(ha:a<4294967296)(hb:b<4294967296):a^^^b<4294967296:=Nat.xor_lt_two_pow (n:=32) ha hb
theorem Qnn{a b:Nat}(ha:a<4294967296)(hb:b<4294967296):bxor .u32 (a:Int) (b:Int)=((a^^^b:Nat):Int)∧bxor .u64 (a:Int) (b:Int)=((a^^^b:Nat):Int):=by
 have h:=Qnm ha hb
 unfold bxor
 constructor
 ·rw[BitVec.toNat_xor]
  simp only[IntKind.bits,BitVec.ofInt_natCast,BitVec.toNat_ofNat]
  rw[show(2:Nat)^32=4294967296 by decide,Nat.mod_eq_of_lt ha,Nat.mod_eq_of_lt hb,wu32];omega
 ·rw[BitVec.toNat_xor]
  simp only[IntKind.bits,BitVec.ofInt_natCast,BitVec.toNat_ofNat]
  rw[show(2:Nat)^64=18446744073709551616 by decide,Nat.mod_eq_of_lt (by omega),Nat.mod_eq_of_lt (by omega),wu64];omega
theorem QsT{a b:Nat}(ha:a<4294967296)(hb:b<4294967296):bor .u32 (a:Int) (b:Int)=((a|||b:Nat):Int):=by
 have h:=Qgq ha hb
 unfold bor
 rw[BitVec.toNat_or]
 simp only[IntKind.bits,BitVec.ofInt_natCast,BitVec.toNat_ofNat]
 rw[show(2:Nat)^32=4294967296 by decide,Nat.mod_eq_of_lt ha,Nat.mod_eq_of_lt hb,wu32];omega
theorem QwU{a:Nat}(ha:a<4294967296):bnot .u32 (a:Int)=((4294967295-a:Nat):Int):=by
 unfold bnot
 have e2:(BitVec.allOnes 32^^^BitVec.ofInt 32 (a:Int))= ~~~ (BitVec.ofInt 32 (a:Int)):=BitVec.allOnes_xor
 have e:BitVec.ofInt 32 (if IntKind.signed .u32=true then(-1:Int)else IntKind.max .u32)=BitVec.allOnes 32:=by decide
 show IntKind.wrap .u32 ((BitVec.ofInt 32 (if IntKind.signed .u32=true then(-1:Int)else IntKind.max .u32)^^^BitVec.ofInt 32 (a:Int)).toNat:Int)=_
 rw[e]
 rw[e2,BitVec.toNat_not]
 simp only[BitVec.ofInt_natCast,BitVec.toNat_ofNat]
 rw[show(2:Nat)^32=4294967296 by decide,Nat.mod_eq_of_lt ha,wu32];omega
def rotN(n x:Nat):Nat:=x/2^n|||(x*2^(32-n))%4294967296
theorem Qgr{n x:Nat}(hx:x<4294967296):rotN n x<4294967296:=Qgq (Nat.lt_of_le_of_lt (Nat.div_le_self _ _) hx) (Nat.mod_lt _ (by omega))
theorem QiV(a b:Nat):Int.fdiv (a:Int) (b:Int)=((a/b:Nat):Int):=by
 rw[Int.fdiv_eq_ediv_of_nonneg _ (by omega)];rfl
theorem QdG(n:Nat):(2:Int)^n=((2^n:Nat):Int):=by push_cast;rfl
theorem Qgs{K:Nat}{x n:Nat}(hx:x<4294967296)(hn:n<32)(h0:0<n):YH.f K (x:Int) (IntKind.wrap .i64 (0-(n:Int)))=some (rotN n x:Int):=by
 unfold YH.f
 have e1:IntKind.wrap .i64 (0-(n:Int))=0-(n:Int):=wrap64 (by omega) (by omega)
 have e2:band .u64 (IntKind.wrap .u64 (0-(n:Int))) 31=((32-n:Nat):Int):=by
  have:∀m:Nat,m<32→0<m→band .u64 (IntKind.wrap .u64 (0-(m:Int))) 31=((32-m:Nat):Int):=by decide
  exact this n hn h0
 rw[e1,e2]
 have e3:IntKind.wrap .u64 ((32:Int)-((32-n:Nat):Int))=(n:Int):=by rw[QoA (by omega) (by omega)];omega
 rw[e3]
 simp only[chk]
 rw[Qj (by simp),Qj (by simp)]
 rw[show((n:Int).toNat)=n by omega,show(((32-n:Nat):Int).toNat)=32-n by omega,show min n 32=n by omega,show min (32-n) 32=32-n by omega]
 rw[QdG,QdG,QiV]
 have e4:(x:Int)*((2^(32-n):Nat):Int)=((x*2^(32-n):Nat):Int):=by push_cast;rfl
 have e5:IntKind.wrap .u32 ((x*2^(32-n):Nat):Int)=((x*2^(32-n)%4294967296:Nat):Int):=by rw[wu32];rfl
 rw[e4,e5]
 have hd:x/2^n≤x:=Nat.div_le_self _ _
 rw[QsT (Nat.mod_lt _ (by omega)) (by omega),Nat.or_comm]
 rfl
def xorN(a b c:Nat):Nat:=(a^^^b)^^^c
theorem xor3{a b c:Nat}(ha:a<4294967296)(hb:b<4294967296)(hc:c<4294967296):bxor .u32 (bxor .u32 (a:Int) (b:Int)) (c:Int)=(xorN a b c:Int)∧bxor .u64 (bxor .u64 (a:Int) (b:Int)) (c:Int)=(xorN a b c:Int):=by
 have h:=Qnm ha hb
 rw[(Qnn ha hb).1,(Qnn ha hb).2]
 exact Qnn h hc
theorem Qno{K:Nat}{x a b c:Nat}(hx:x<4294967296)(ha:a<32)(ha0:0<a)(hb:b<32)(hb0:0<b)(hc:c<32):Zl.f K (x:Int) (a:Int) (b:Int) (c:Int)=some (xorN (rotN a x) (rotN b x) (x/2^c):Int):=by
 unfold Zl.f
 simp only[chk]
 rw[Qj (by simp),Qgs hx ha ha0]
 simp only[Qb]
 rw[Qgs hx hb hb0]
 simp only[Qb]
 rw[show((c:Int).toNat)=c by omega,show min c 32=c by omega,QdG,QiV]
 have hd:x/2^c≤x:=Nat.div_le_self _ _
 rw[(xor3 (Qgr hx) (Qgr hx) (by omega)).1]
theorem Qkx{K:Nat}{x a b c:Nat}(hx:x<4294967296)(ha:a<32)(ha0:0<a)(hb:b<32)(hb0:0<b)(hc:c<32)(hc0:0<c):Xp.f K (x:Int) (a:Int) (b:Int) (c:Int)=some (xorN (rotN a x) (rotN b x) (rotN c x):Int):=by
 unfold Xp.f
 rw[Qgs hx ha ha0]
 simp only[Qb]
 rw[Qgs hx hb hb0]
 simp only[Qb]
 rw[Qgs hx hc hc0]
 simp only[Qb]
 rw[(xor3 (Qgr hx) (Qgr hx) (Qgr hx)).1]
def allV{N:Nat}(p:Int→Prop)(v:Vector Int N):Prop:=∀j,j<N→p (vget v j)
theorem Qnp{N:Nat}{v u:Vector Int N}(h:∀j,j<N→vget v j=vget u j):v=u:=by
 apply Vector.toList_inj.1
 rw[←QfO,←QfO]
 unfold Ye
 apply List.map_congr_left
 intro j hj
 exact h j (List.mem_range.1 hj)
theorem Qky{N:Nat}{f:Fin N→Int}{j:Nat}(hj:j<N):vget (Vector.ofFn f) j=f ⟨j,hj⟩:=by
 unfold vget
 rw[List.getD_eq_getElem?_getD,Vector.getElem?_toList,Vector.getElem?_ofFn,dif_pos hj];rfl
theorem QfQ{N:Nat}{l:List Int}{j:Nat}(hj:j<N):vget (vofL N l) j=l.getD j 0:=Qky hj
theorem Qil{N:Nat}{v:Vector Int N}{p q c j:Nat}(hj:j<N):vget (Qgj v p q c) j=if p≤j∧j<p+c then vget v (q+(j-p))else vget v j:=Qky hj
theorem Qp5{N:Nat}{p:Int→Prop}{v:Vector Int N}{i:Nat}{x:Int}(hv:allV p v)(hx:p x):allV p (vset v i x):=fun j hj=>by
 rw[XH _ _ hj]
 split
 ·exact hx
 ·exact hv j hj
theorem QsU{N:Nat}:allV R32 (Vector.replicate N (0:Int)):=fun j hj=>by
 have:vget (Vector.replicate N (0:Int)) j=0:=by
  unfold vget
  rw[List.getD_eq_getElem?_getD,Vector.getElem?_toList,Vector.getElem?_replicate,if_pos hj];rfl
 rw[this];omega
theorem QsV{a b c d:Nat}(_:a<256)(hb:b<256)(hc:c<256)(hd:d<256):((a*2^24|||b*2^16)|||c*2^8)|||d=((a*256+b)*256+c)*256+d:=by
 have e1:a*2^24|||b*2^16=(a*256+b)*2^16:=by
  rw[←Nat.shiftLeft_eq a 24,←Nat.shiftLeft_add_eq_or_of_lt (by omega),Nat.shiftLeft_eq];omega
 have e2:(a*256+b)*2^16|||c*2^8=((a*256+b)*256+c)*2^8:=by
  rw[←Nat.shiftLeft_eq _ 16,←Nat.shiftLeft_add_eq_or_of_lt (by omega),Nat.shiftLeft_eq];omega
 have e3:((a*256+b)*256+c)*2^8|||d=((a*256+b)*256+c)*256+d:=by
  rw[←Nat.shiftLeft_eq _ 8,←Nat.shiftLeft_add_eq_or_of_lt (by omega),Nat.shiftLeft_eq]
 rw[e1,e2,e3]
theorem QiW{a k:Nat}(ha:a<256)(hk:256*2^k≤4294967296):a*2^k<4294967296:=
 Nat.lt_of_lt_of_le (Nat.mul_lt_mul_of_pos_right ha (Nat.two_pow_pos k)) hk
theorem sh32{a k:Nat}(_:a<256)(h:a*2^k<4294967296):IntKind.wrap .u32 ((IntKind.wrap .u32 (a:Int))*2^k)=((a*2^k:Nat):Int):=by
 rw[wu32,wu32,QdG]
 have:(a:Int)%4294967296=(a:Int):=by omega
 rw[this]
 have e:(a:Int)*((2^k:Nat):Int)=((a*2^k:Nat):Int):=by push_cast;rfl
 rw[e];omega
theorem QwV{a b c d:Nat}(ha:a<256)(hb:b<256)(hc:c<256)(hd:d<256):bor .u32 (bor .u32 (bor .u32 (IntKind.wrap .u32 ((IntKind.wrap .u32 (a:Int))*2^24)) (IntKind.wrap .u32 ((IntKind.wrap .u32 (b:Int))*2^16))) (IntKind.wrap .u32 ((IntKind.wrap .u32 (c:Int))*2^8))) (IntKind.wrap .u32 (d:Int))=((((a*256+b)*256+c)*256+d:Nat):Int):=by
 have h1:a*2^24<4294967296:=QiW ha (by decide)
 have h2:b*2^16<4294967296:=QiW hb (by decide)
 have h3:c*2^8<4294967296:=QiW hc (by decide)
 rw[sh32 ha h1,sh32 hb h2,sh32 hc h3,show IntKind.wrap .u32 (d:Int)=(d:Int) by rw[wu32];omega]
 rw[QsT h1 h2,QsT (Qgq h1 h2) h3,QsT (Qgq (Qgq h1 h2) h3) (by omega),QsV ha hb hc hd]
def schW(b:List Int)(w:Vector Int 64)(i:Nat):Int:=
 if i<16 then(((((b.getD (4*i) 0).toNat*256+(b.getD (4*i+1) 0).toNat)*256+(b.getD (4*i+2) 0).toNat)*256+(b.getD (4*i+3) 0).toNat:Nat):Int)
 else((xorN (rotN 17 (vget w (i-2)).toNat) (rotN 19 (vget w (i-2)).toNat) ((vget w (i-2)).toNat/2^10):Int)+vget w (i-7)+(xorN (rotN 7 (vget w (i-15)).toNat) (rotN 18 (vget w (i-15)).toNat) ((vget w (i-15)).toNat/2^3):Int)+vget w (i-16))%4294967296
theorem byte_at{b:List Int}(hB:isB b){i:Nat}(h:i<b.length):∃a:Nat,getI b (i:Int)=some (a:Int)∧a<256∧(b.getD i 0).toNat=a:=by
 have hm:=hB b[i] (List.getElem_mem h)
 refine⟨(b[i]).toNat,?_,by omega,?_⟩
 ·rw[Jm,List.getElem?_eq_getElem h]
  exact congrArg some (by omega)
 ·rw[List.getD_eq_getElem?_getD,List.getElem?_eq_getElem h];rfl
theorem QwW{b:List Int}(hB:isB b)(hb:b.length=64){w:Vector Int 64}{i:Nat}(hi:i<64):R32 (schW b w i):=by
 unfold schW
 split
 ·obtain⟨a0,e0,h0,g0⟩:=byte_at hB (i:=4*i) (by omega)
  obtain⟨a1,e1,h1,g1⟩:=byte_at hB (i:=4*i+1) (by omega)
  obtain⟨a2,e2,h2,g2⟩:=byte_at hB (i:=4*i+2) (by omega)
  obtain⟨a3,e3,h3,g3⟩:=byte_at hB (i:=4*i+3) (by omega)
  rw[g0,g1,g2,g3];omega
 ·omega
theorem QiX{i j:Nat}(h:j≤i)(hi:i<1000):IntKind.wrap .i64 ((i:Int)-(j:Int))=((i-j:Nat):Int):=by rw[wrap64 (by omega) (by omega)];omega
theorem sch_l{K:Nat}{b:List Int}(hB:isB b)(hb:b.length=64){w:Vector Int 64}(hw:allV R32 w){i k:Nat}(hi:i<64):
  Yb.l K b (k+1) ((i:Int),w)=Yb.l K b k (((i+1:Nat):Int),vset w i (schW b w i)):=by
 show Yb.b K b (Yb.l K b k) _=_
 unfold Yb.b
 simp only[jn]
 rw[Qj (QT (by omega)),wrap_succ (by omega)]
 unfold schW
 by_cases h16:i<16
 ·rw[Qj (QT (by omega)),if_pos h16]
  have w4:IntKind.wrap .i64 (4*(i:Int))=((4*i:Nat):Int):=by rw[wrap64 (by omega) (by omega)];push_cast;rfl
  have wa:∀j:Nat,j<4→IntKind.wrap .i64 (((4*i:Nat):Int)+(j:Int))=((4*i+j:Nat):Int):=fun j hj=>by rw[wrap64 (by omega) (by omega)];push_cast;rfl
  obtain⟨a0,e0,h0,g0⟩:=byte_at hB (i:=4*i) (by omega)
  obtain⟨a1,e1,h1,g1⟩:=byte_at hB (i:=4*i+1) (by omega)
  obtain⟨a2,e2,h2,g2⟩:=byte_at hB (i:=4*i+2) (by omega)
  obtain⟨a3,e3,h3,g3⟩:=byte_at hB (i:=4*i+3) (by omega)
  rw[w4,g0,g1,g2,g3]
  refine QD e0 ?_
  refine QD (x:=(a1:Int)) (by rw[←e1];exact congrArg _ (wa 1 (by omega))) ?_
  refine QD (x:=(a2:Int)) (by rw[←e2];exact congrArg _ (wa 2 (by omega))) ?_
  refine QD (x:=(a3:Int)) (by rw[←e3];exact congrArg _ (wa 3 (by omega))) ?_
  rw[QwV h0 h1 h2 h3]
  simp only[chk]
  rw[Qj (Yq hi)]
  simp only[Qb,Int.toNat_natCast]
 ·rw[Qi (QG (by omega)),if_neg h16]
  rw[show IntKind.wrap .i64 ((i:Int)-2)=((i-2:Nat):Int)from QiX (j:=2) (by omega) (by omega),show IntKind.wrap .i64 ((i:Int)-7)=((i-7:Nat):Int)from QiX (j:=7) (by omega) (by omega),
   show IntKind.wrap .i64 ((i:Int)-15)=((i-15:Nat):Int)from QiX (j:=15) (by omega) (by omega),show IntKind.wrap .i64 ((i:Int)-16)=((i-16:Nat):Int)from QiX (j:=16) (by omega) (by omega)]
  simp only[chk]
  rw[Qj (Yq (by omega)),Qj (Yq (by omega)),Qj (Yq (by omega)),Qj (Yq (by omega))]
  simp only[Int.toNat_natCast]
  obtain⟨a2,e2,h2⟩:=Zm (hw (i-2) (by omega))
  obtain⟨a15,e15,h15⟩:=Zm (hw (i-15) (by omega))
  have h7:=hw (i-7) (by omega)
  have h16':=hw (i-16) (by omega)
  rw[e2,e15]
  simp only[Int.toNat_natCast]
  refine QD (Qno (a:=17) (b:=19) (c:=10) h2 (by omega) (by omega) (by omega) (by omega) (by omega)) ?_
  refine QD (Qno (a:=7) (b:=18) (c:=3) h15 (by omega) (by omega) (by omega) (by omega) (by omega)) ?_
  rw[Qj (Yq hi)]
  simp only[Qb,wu32]
  congr 3
  omega
theorem K_R:∀j,j<64→R32 (vget gl_K j):=by decide
def oneN(w:Vector Int 64)(s:Vector Int 8)(i:Nat):Int:=
 (vget s 7+(xorN (rotN 6 (vget s 4).toNat) (rotN 11 (vget s 4).toNat) (rotN 25 (vget s 4).toNat):Int)+((((vget s 4).toNat&&&(vget s 5).toNat)^^^((4294967295-(vget s 4).toNat)&&&(vget s 6).toNat):Nat):Int)+vget gl_K i+vget w i)%4294967296
def twoN(s:Vector Int 8):Int:=
 ((xorN (rotN 2 (vget s 0).toNat) (rotN 13 (vget s 0).toNat) (rotN 22 (vget s 0).toNat):Int)+(xorN ((vget s 0).toNat&&&(vget s 1).toNat) ((vget s 0).toNat&&&(vget s 2).toNat) ((vget s 1).toNat&&&(vget s 2).toNat):Int))%4294967296
def rndV(w:Vector Int 64)(s:Vector Int 8)(i:Nat):Vector Int 8:=
 vofL 8 [(oneN w s i+twoN s)%4294967296,vget s 0,vget s 1,vget s 2,(vget s 3+oneN w s i)%4294967296,vget s 4,vget s 5,vget s 6]
theorem lt8{j:Nat}(h:j<8):j=0∨j=1∨j=2∨j=3∨j=4∨j=5∨j=6∨j=7:=by omega
theorem QwX{w:Vector Int 64}{s:Vector Int 8}(hs:allV R32 s)(i:Nat):allV R32 (rndV w s i):=fun j hj=>by
 unfold rndV
 rw[QfQ hj]
 have a0:=hs 0 (by omega);have a1:=hs 1 (by omega);have a2:=hs 2 (by omega)
 have a4:=hs 4 (by omega);have a5:=hs 5 (by omega);have a6:=hs 6 (by omega)
 rcases lt8 hj with rfl|rfl|rfl|rfl|rfl|rfl|rfl|rfl
 ·show R32 ((oneN w s i+twoN s)%4294967296);omega
 ·exact a0
 ·exact a1
 ·exact a2
 ·show R32 ((vget s 3+oneN w s i)%4294967296);omega
 ·exact a4
 ·exact a5
 ·exact a6
theorem QdH{a b:Nat}(ha:a<4294967296):a&&&b<4294967296:=Nat.lt_of_le_of_lt Nat.and_le_left ha
theorem ch_l{e f g:Nat}(he:e<4294967296)(hf:f<4294967296)(hg:g<4294967296):bxor .u32 (band .u32 (e:Int) (f:Int)) (band .u32 (bnot .u32 (e:Int)) (g:Int))=(((e&&&f)^^^((4294967295-e)&&&g):Nat):Int):=by
 rw[QwU he,(Qkw he hf).1,(Qkw (show 4294967295-e<4294967296 by omega) hg).1,(Qnn (QdH he) (QdH (by omega))).1]
theorem maj_l{a b c:Nat}(ha:a<4294967296)(hb:b<4294967296)(hc:c<4294967296):bxor .u32 (bxor .u32 (band .u32 (a:Int) (b:Int)) (band .u32 (a:Int) (c:Int))) (band .u32 (b:Int) (c:Int))=(xorN (a&&&b) (a&&&c) (b&&&c):Int):=by
 rw[(Qkw ha hb).1,(Qkw ha hc).1,(Qkw hb hc).1,(xor3 (QdH ha) (QdH ha) (QdH hb)).1]
theorem tn_0:Int.toNat (0:Int)=0:=rfl
theorem tn_1:Int.toNat (1:Int)=1:=rfl
theorem tn_2:Int.toNat (2:Int)=2:=rfl
theorem tn_4:Int.toNat (4:Int)=4:=rfl
theorem tn_5:Int.toNat (5:Int)=5:=rfl
theorem tn_6:Int.toNat (6:Int)=6:=rfl
theorem tn_7:Int.toNat (7:Int)=7:=rfl
theorem QoB{N:Nat}(v:Vector Int N){i:Nat}(h:i<N):getI (Ye v) (i:Int)=some (vget v i):=by
 rw[Jm,List.getElem?_eq_getElem (by rw[QI];exact h)]
 simp[Ye]
theorem rnd_l{K:Nat}{w:Vector Int 64}{s:Vector Int 8}(hw:allV R32 w)(hs:allV R32 s){i k:Nat}(hi:i<64):
  YR.l K w (k+1) ((i:Int),s)=YR.l K w k (((i+1:Nat):Int),rndV w s i):=by
 show YR.b K w (YR.l K w k) _=_
 unfold YR.b
 rw[Qj (QT (by simp only;omega)),wrap_succ (by omega)]
 simp only[tn_0,tn_1,tn_2,tn_4,tn_5,tn_6,tn_7,Int.toNat_natCast]
 have hk:=K_R i hi
 have hwi:=hw i hi
 obtain⟨a,ea,ha⟩:=Zm (hs 0 (by omega))
 obtain⟨b,eb,hb⟩:=Zm (hs 1 (by omega))
 obtain⟨c,ec,hc⟩:=Zm (hs 2 (by omega))
 obtain⟨d,ed,hd⟩:=Zm (hs 3 (by omega))
 obtain⟨e,ee,he⟩:=Zm (hs 4 (by omega))
 obtain⟨f,ef,hf⟩:=Zm (hs 5 (by omega))
 obtain⟨g,eg,hg⟩:=Zm (hs 6 (by omega))
 obtain⟨h,eh,hh⟩:=Zm (hs 7 (by omega))
 refine QD (QoB w hi) ?_
 simp only[chk]
 rw[Qj (Yq hi)]
 refine QD (x:=(xorN (rotN 6 e) (rotN 11 e) (rotN 25 e):Int)) (by rw[ee];exact Qkx (a:=6) (b:=11) (c:=25) he (by omega) (by omega) (by omega) (by omega) (by omega) (by omega)) ?_
 refine QD (x:=(xorN (rotN 2 a) (rotN 13 a) (rotN 22 a):Int)) (by rw[ea];exact Qkx (a:=2) (b:=13) (c:=22) ha (by omega) (by omega) (by omega) (by omega) (by omega) (by omega)) ?_
 simp only[Qb]
 rw[ea,eb,ec,ee,ef,eg,eh,ch_l he hf hg,maj_l ha hb hc]
 have h1:oneN w s i=((h:Int)+(xorN (rotN 6 e) (rotN 11 e) (rotN 25 e):Int)+(((e&&&f)^^^((4294967295-e)&&&g):Nat):Int)+vget gl_K i+vget w i)%4294967296:=by
  unfold oneN;rw[ee,ef,eg,eh];rfl
 have h2:twoN s=((xorN (rotN 2 a) (rotN 13 a) (rotN 22 a):Int)+(xorN (a&&&b) (a&&&c) (b&&&c):Int))%4294967296:=by
  unfold twoN;rw[ea,eb,ec];rfl
 have e1:IntKind.wrap .u32 (IntKind.wrap .u32 (IntKind.wrap .u32 (IntKind.wrap .u32 ((h:Int)+(xorN (rotN 6 e) (rotN 11 e) (rotN 25 e):Int))+(((e&&&f)^^^((4294967295-e)&&&g):Nat):Int))+vget gl_K i)+vget w i)=oneN w s i:=by
  rw[h1]
  simp only[wu32,Int.emod_add_emod]
 have e2:IntKind.wrap .u32 ((xorN (rotN 2 a) (rotN 13 a) (rotN 22 a):Int)+(xorN (a&&&b) (a&&&c) (b&&&c):Int))=twoN s:=by
  rw[h2,wu32]
 rw[e1,e2]
 have e3:∀x:Int,vset (vset (Qgj s 1 0 7) 4 (IntKind.wrap .u32 (vget (Qgj s 1 0 7) 4+oneN w s i))) 0 (IntKind.wrap .u32 (oneN w s i+twoN s))=rndV w s i:=fun _=>by
  apply Qnp
  intro j hj
  rw[XH _ _ hj,XH _ _ hj,Qil hj,Qil (show 4<8 by omega)]
  unfold rndV
  rw[QfQ hj,wu32,wu32]
  rcases lt8 hj with rfl|rfl|rfl|rfl|rfl|rfl|rfl|rfl<;>rfl
 rw[e3 0]
def byteOf(z:Vector Int 8)(j:Nat):Int:=(((vget z (j/4)).toNat/2^(24-8*(j%4))%256:Nat):Int)
theorem Qvr{K:Nat}{z:Vector Int 8}(hz:allV R32 z){rest:List Int}{u:Vector Int 32}(hu:∀j,j<32→vget u j=byteOf z j):∀(n i:Nat) (v:Vector Int 32) (k:Nat),i+n=32→n<k→(∀j,j<i→vget v j=byteOf z j)→YX.l K (z,rest) k ((i:Int),v)=some u:=by
 intro n
 induction n with
 |zero=>
  intro i v k hi hk hv
  obtain⟨k,rfl⟩:∃j,k=j+1:=⟨k-1,by omega⟩
  show YX.b K (z,rest) (YX.l K (z,rest) k) _=_
  unfold YX.b
  rw[Qi (QG (by simp only;omega))]
  exact congrArg some (Qnp fun j hj=>by rw[hu j hj];exact hv j (by omega))
 | succ n ih=>
  intro i v k hi hk hv
  obtain⟨k,rfl⟩:∃j,k=j+1:=⟨k-1,by omega⟩
  show YX.b K (z,rest) (YX.l K (z,rest) k) _=_
  unfold YX.b
  rw[Qj (QT (by simp only;omega))]
  have e1:Int.tdiv (i:Int) 4=((i/4:Nat):Int):=rfl
  have e2:Int.tmod (i:Int) 4=((i%4:Nat):Int):=rfl
  simp only[chk]
  have e3:IntKind.wrap .i64 (24-IntKind.wrap .i64 (8*((i%4:Nat):Int)))=((24-8*(i%4):Nat):Int):=by
   rw[wrap64 (n:=8*((i%4:Nat):Int)) (by omega) (by omega),wrap64 (by omega) (by omega)];omega
  obtain⟨a,ea,ha⟩:=Zm (hz (i/4) (by omega))
  rw[e1,e2,e3,wrap64 (n:=((i/4:Nat):Int)) (by omega) (by omega),Qj (Yq (by omega)),Qj (by simp),Qj (Yq (by omega)),wrap_succ (by omega)]
  simp only[Qb,Int.toNat_natCast]
  refine ih (i+1) _ k (by omega) (by omega) (fun j hj=> ?_)
  rw[XH _ _ (by omega)]
  split
  ·rename_i e
   subst e
   unfold byteOf
   rw[ea,show min (24-8*(i%4)) 32=24-8*(i%4) by omega,QdG,QiV,wu8,Int.toNat_natCast];rfl
  ·exact hv j (by omega)
def fz{α:Type}(x:Nat)(f:Nat→α):α:=
 match x with
 |0=>f 0
 |n+1=>f (n+1)
theorem Qkz{α:Type}(x:Nat)(f:Nat→α):fz x f=f x:=by cases x<;>rfl
def nth:List Nat→Nat→Nat
 | [],_=>0
 |x::_,0=>x
 |_::l,n+1=>nth l n
def rotF(a b x:Nat):Nat:=Nat.lor (Nat.div x a) (Nat.mod (Nat.mul x b) (nat_lit 4294967296))
def s0F(x:Nat):Nat:=Nat.xor (Nat.xor (rotF (nat_lit 128) (nat_lit 33554432) x) (rotF (nat_lit 262144) (nat_lit 16384) x)) (Nat.div x (nat_lit 8))
def s1F(x:Nat):Nat:=Nat.xor (Nat.xor (rotF (nat_lit 131072) (nat_lit 32768) x) (rotF (nat_lit 524288) (nat_lit 8192) x)) (Nat.div x (nat_lit 1024))
def S0F(x:Nat):Nat:=Nat.xor (Nat.xor (rotF (nat_lit 4) (nat_lit 1073741824) x) (rotF (nat_lit 8192) (nat_lit 524288) x)) (rotF (nat_lit 4194304) (nat_lit 1024) x)
def S1F(x:Nat):Nat:=Nat.xor (Nat.xor (rotF (nat_lit 64) (nat_lit 67108864) x) (rotF (nat_lit 2048) (nat_lit 2097152) x)) (rotF (nat_lit 33554432) (nat_lit 128) x)
def wds:List Int→List Nat→List Nat
 |a::b::c::d::l,r=>fz (Nat.add (Nat.mul (Nat.add (Nat.mul (Nat.add (Nat.mul a.toNat (nat_lit 256)) b.toNat) (nat_lit 256)) c.toNat) (nat_lit 256)) d.toNat) fun x=>wds l (x::r)
 |_,r=>r
def schF:Nat→List Nat→List Nat
 |0,r=>r
 |n+1,r=>fz (Nat.mod (Nat.add (Nat.add (Nat.add (s1F (nth r (nat_lit 1))) (nth r (nat_lit 6))) (s0F (nth r (nat_lit 14)))) (nth r (nat_lit 15))) (nat_lit 4294967296)) fun x=>schF n (x::r)
def rndF:List Nat→List Nat→Nat→Nat→Nat→Nat→Nat→Nat→Nat→Nat→List Nat
 |w::ws,k::ks,a,b,c,d,e,f,g,h=>
  fz (Nat.mod (Nat.add (Nat.add (Nat.add (Nat.add h (S1F e)) (Nat.xor (Nat.land e f) (Nat.land (Nat.sub (nat_lit 4294967295) e) g))) k) w) (nat_lit 4294967296)) fun t=>
  fz (Nat.mod (Nat.add d t) (nat_lit 4294967296)) fun e'=>
  fz (Nat.mod (Nat.add t (Nat.mod (Nat.add (S0F a) (Nat.xor (Nat.xor (Nat.land a b) (Nat.land a c)) (Nat.land b c))) (nat_lit 4294967296))) (nat_lit 4294967296)) fun a'=>
  rndF ws ks a' a b c e' e f g
 |_,_,a,b,c,d,e,f,g,h=> [a,b,c,d,e,f,g,h]
def kN:List Nat:=(Ye gl_K).map (·.toNat)
def addF:List Nat→List Nat→List Nat
 |a::l,b::m=>fz (Nat.mod (Nat.add a b) (nat_lit 4294967296)) fun x=>x::addF l m
 |_,_=> []
def QsW(ks s:List Nat)(b:List Int):List Nat:=
 match s with
 | [a0,a1,a2,a3,a4,a5,a6,a7]=>addF s (rndF (List.reverse (schF (nat_lit 48) (wds b []))) ks a0 a1 a2 a3 a4 a5 a6 a7)
 |_=>s
def blkF(ks:List Nat):Nat→List Nat→List Int→List Nat
 |0,s,_=>s
 |n+1,s,l=>bif Nat.ble (nat_lit 64) l.length then blkF ks n (QsW ks s (l.take (nat_lit 64))) (l.drop (nat_lit 64))else s
def bytF:List Nat→List Int
 | []=> []
 |w::l=>Int.ofNat (Nat.mod (Nat.div w (nat_lit 16777216)) (nat_lit 256))::Int.ofNat (Nat.mod (Nat.div w (nat_lit 65536)) (nat_lit 256))::Int.ofNat (Nat.mod (Nat.div w (nat_lit 256)) (nat_lit 256))::Int.ofNat (Nat.mod w (nat_lit 256))::bytF l
structure Rw(w:Vector Int 64)(i:Nat)(r:List Nat):Prop where
 l:r.length=i
 v:∀j,j<i→vget w j=((nth r (i-1-j):Nat):Int)∧nth r (i-1-j)<4294967296
theorem Rw.R{w:Vector Int 64}{r:List Nat}(h:Rw w 64 r):allV R32 w:=fun j hj=>by
 obtain⟨h1,h2⟩:=h.v j hj
 rw[h1];omega
theorem QiY(x:Nat)(r:List Nat)(i:Nat):nth (x::r) (i+1)=nth r i:=rfl
theorem Rw.put{w:Vector Int 64}{i x:Nat}{r:List Nat}(h:Rw w i r)(hi:i<64)(hx:x<4294967296):Rw (vset w i (x:Int)) (i+1) (x::r):=by
 refine⟨by simp[h.l],fun j hj=> ?_⟩
 rw[XH _ _ (by omega)]
 by_cases e:i=j
 ·subst e
  rw[if_pos rfl,show i+1-1-i=0 by omega]
  exact⟨rfl,hx⟩
 ·rw[if_neg e,show i+1-1-j=(i-1-j)+1 by omega,QiY]
  exact h.v j (by omega)
def schV(b:List Int):Nat→Nat→Vector Int 64→Vector Int 64
 |0,_,w=>w
 |n+1,i,w=>schV b n (i+1) (vset w i (schW b w i))
theorem Qvs{K:Nat}{b:List Int}(hB:isB b)(hb:b.length=64):∀(n i:Nat) (w:Vector Int 64) (k:Nat),i+n=64→n<k→allV R32 w→Yb.l K b k ((i:Int),w)=some (schV b n i w):=by
 intro n
 induction n with
 |zero=>
  intro i w k hi hk hw
  obtain⟨k,rfl⟩:∃j,k=j+1:=⟨k-1,by omega⟩
  show Yb.b K b (Yb.l K b k) _=_
  unfold Yb.b
  rw[Qi (QG (by simp only;omega))];rfl
 |succ n ih=>
  intro i w k hi hk hw
  obtain⟨k,rfl⟩:∃j,k=j+1:=⟨k-1,by omega⟩
  rw[sch_l hB hb hw (by omega)]
  exact ih (i+1) _ k (by omega) (by omega) (Qp5 hw (QwW hB hb (by omega)))
theorem getD_at{b:List Int}{i:Nat}(h:i<b.length):b.getD i 0=b[i]:=by
 rw[List.getD_eq_getElem?_getD,List.getElem?_eq_getElem h];rfl
theorem Qvt{b:List Int}(hB:isB b)(hb:b.length=64):∀(n i:Nat) (w:Vector Int 64) (r:List Nat),i+n=16→Rw w i r→∃w',schV b (n+48) i w=schV b 48 16 w'∧Rw w' 16 (wds (b.drop (4*i)) r):=by
 intro n
 induction n with
 |zero=>
  intro i w r hi h
  have e:i=16:=by omega
  subst e
  refine⟨w,by rw[Nat.zero_add],?_⟩
  rw[List.drop_eq_nil_of_le (by omega)]
  exact h
 | succ n ih=>
  intro i w r hi h
  have e0:b.drop (4*i)=b[4*i]::b[4*i+1]::b[4*i+2]::b[4*i+3]::b.drop (4*(i+1)):=by
   rw[List.drop_eq_getElem_cons (by omega),List.drop_eq_getElem_cons (by omega),List.drop_eq_getElem_cons (by omega),List.drop_eq_getElem_cons (by omega)];rfl
  have hs:schW b w i=(((((b[4*i]).toNat*256+(b[4*i+1]).toNat)*256+(b[4*i+2]).toNat)*256+(b[4*i+3]).toNat:Nat):Int):=by
   unfold schW
   rw[if_pos (by omega),getD_at (by omega),getD_at (by omega),getD_at (by omega),getD_at (by omega)]
  have h0:=hB b[4*i] (List.getElem_mem (by omega))
  have h1:=hB b[4*i+1] (List.getElem_mem (by omega))
  have h2:=hB b[4*i+2] (List.getElem_mem (by omega))
  have h3:=hB b[4*i+3] (List.getElem_mem (by omega))
  obtain⟨w',g1,g2⟩:=ih (i+1) (vset w i (schW b w i)) (((((b[4*i]).toNat*256+(b[4*i+1]).toNat)*256+(b[4*i+2]).toNat)*256+(b[4*i+3]).toNat)::r) (by omega) (by rw[hs];exact h.put (by omega) (by omega))
  refine⟨w',?_,?_⟩
  ·rw[←g1,show n+1+48=(n+48)+1 by omega];rfl
  ·rw[e0]
   unfold wds
   rw[Qkz]
   exact g2
theorem s1_F(x:Nat):s1F x=xorN (rotN 17 x) (rotN 19 x) (x/2^10):=rfl
theorem s0_F(x:Nat):s0F x=xorN (rotN 7 x) (rotN 18 x) (x/2^3):=rfl
theorem S0_F(x:Nat):S0F x=xorN (rotN 2 x) (rotN 13 x) (rotN 22 x):=rfl
theorem S1_F(x:Nat):S1F x=xorN (rotN 6 x) (rotN 11 x) (rotN 25 x):=rfl
theorem sch_F{b:List Int}:∀(n i:Nat) (w:Vector Int 64) (r:List Nat),i+n=64→16≤i→Rw w i r→Rw (schV b n i w) 64 (schF n r):=by
 intro n
 induction n with
 |zero=>
  intro i w r hi h16 h
  have e:i=64:=by omega
  subst e
  exact h
 | succ n ih=>
  intro i w r hi h16 h
  obtain⟨a1,b1⟩:=h.v (i-2) (by omega)
  obtain⟨a2,b2⟩:=h.v (i-7) (by omega)
  obtain⟨a3,b3⟩:=h.v (i-15) (by omega)
  obtain⟨a4,b4⟩:=h.v (i-16) (by omega)
  rw[show i-1-(i-2)=1 by omega]at a1 b1
  rw[show i-1-(i-7)=6 by omega]at a2 b2
  rw[show i-1-(i-15)=14 by omega]at a3 b3
  rw[show i-1-(i-16)=15 by omega]at a4 b4
  have hs:schW b w i=(((s1F (nth r 1)+nth r 6+s0F (nth r 14)+nth r 15)%4294967296:Nat):Int):=by
   unfold schW
   rw[if_neg (by omega),a1,a2,a3,a4,Int.toNat_natCast,Int.toNat_natCast,s1_F,s0_F]
   omega
  show Rw (schV b n (i+1) (vset w i (schW b w i))) 64 (fz _ _)
  rw[Qkz,hs]
  exact ih (i+1) _ _ (by omega) (by omega) (h.put (by omega) (Nat.mod_lt _ (by omega)))
structure R8(s:Vector Int 8)(m:List Nat):Prop where
 l:m.length=8
 v:∀j,j<8→vget s j=((nth m j:Nat):Int)∧nth m j<4294967296
theorem R8.R{s:Vector Int 8}{l:List Nat}(h:R8 s l):allV R32 s:=fun j hj=>by
 obtain⟨h1,h2⟩:=h.v j hj
 rw[h1];omega
def rnV(w:Vector Int 64):Nat→Nat→Vector Int 8→Vector Int 8
 |0,_,s=>s
 |n+1,i,s=>rnV w n (i+1) (rndV w s i)
theorem Qvu{K:Nat}{w:Vector Int 64}(hw:allV R32 w):∀(n i:Nat) (s:Vector Int 8) (k:Nat),i+n=64→n<k→allV R32 s→YR.l K w k ((i:Int),s)=some (rnV w n i s):=by
 intro n
 induction n with
 |zero=>
  intro i s k hi hk hs
  obtain⟨k,rfl⟩:∃j,k=j+1:=⟨k-1,by omega⟩
  show YR.b K w (YR.l K w k) _=_
  unfold YR.b
  rw[Qi (QG (by simp only;omega))];rfl
 |succ n ih=>
  intro i s k hi hk hs
  obtain⟨k,rfl⟩:∃j,k=j+1:=⟨k-1,by omega⟩
  rw[rnd_l hw hs (by omega)]
  exact ih (i+1) _ k (by omega) (by omega) (QwX hs i)
theorem kN_at:∀j,j<64→vget gl_K j=((nth kN j:Nat):Int):=by decide
theorem Qvv:∀j,j<64→kN.drop j=nth kN j::kN.drop (j+1):=by decide
theorem Qnq:∀(l:List Nat) (j:Nat),j<l.length→l.drop j=nth l j::l.drop (j+1)
 | [],_,h=>by simp at h
 |_::_,0,_=>rfl
 |_::l,j+1,h=>Qnq l j (by simpa using h)
theorem rnd_F{w:Vector Int 64}{ws:List Nat}(hw:∀j,j<64→vget w j=((nth ws j:Nat):Int))(hl:ws.length=64):∀(n i:Nat) (s:Vector Int 8) (a b c d e f g h:Nat),i+n=64→R8 s [a,b,c,d,e,f,g,h]→
  R8 (rnV w n i s) (rndF (ws.drop i) (kN.drop i) a b c d e f g h):=by
 intro n
 induction n with
 |zero=>
  intro i s a b c d e f g h hi hs
  rw[List.drop_eq_nil_of_le (by omega)]
  exact hs
 | succ n ih=>
  intro i s a b c d e f g h hi hs
  rw[Qnq ws i (by omega),Qvv i (by omega)]
  have v0:=hs.v 0 (by omega);have v1:=hs.v 1 (by omega);have v2:=hs.v 2 (by omega);have v3:=hs.v 3 (by omega)
  have v4:=hs.v 4 (by omega);have v5:=hs.v 5 (by omega);have v6:=hs.v 6 (by omega);have v7:=hs.v 7 (by omega)
  simp only[nth]at v0 v1 v2 v3 v4 v5 v6 v7
  have h1:oneN w s i=(((h+S1F e+((e&&&f)^^^((4294967295-e)&&&g))+nth kN i+nth ws i)%4294967296:Nat):Int):=by
   unfold oneN
   rw[v4.1,v5.1,v6.1,v7.1,kN_at i (by omega),hw i (by omega),S1_F]
   simp only[Int.toNat_natCast]
   omega
  have h2:twoN s=(((S0F a+xorN (a&&&b) (a&&&c) (b&&&c))%4294967296:Nat):Int):=by
   unfold twoN
   rw[v0.1,v1.1,v2.1,S0_F]
   simp only[Int.toNat_natCast]
   omega
  show R8 (rnV w n (i+1) (rndV w s i)) (fz _ _)
  rw[Qkz,Qkz,Qkz]
  refine ih (i+1) _ _ _ _ _ _ _ _ _ (by omega) ⟨rfl,fun j hj=> ?_⟩
  unfold rndV
  rw[QfQ hj,h1,h2]
  rcases lt8 hj with rfl|rfl|rfl|rfl|rfl|rfl|rfl|rfl
  ·refine⟨?_,Nat.mod_lt _ (by decide)⟩
   show(_:Int)=((Nat.mod (Nat.add _ _) _:Nat):Int)
   simp only[List.getD_cons_zero]
   rw[←Int.natCast_add]
   rfl
  ·exact v0
  ·exact v1
  ·exact v2
  ·refine⟨?_,Nat.mod_lt _ (by decide)⟩
   show(vget s 3+_)%4294967296=((Nat.mod (Nat.add _ _) _:Nat):Int)
   rw[v3.1,←Int.natCast_add]
   rfl
  ·exact v4
  ·exact v5
  ·exact v6
def adV(z:Vector Int 8):Nat→Nat→Vector Int 8→Vector Int 8
 |0,_,v=>v
 |n+1,i,v=>adV z n (i+1) (vset v i ((vget v i+vget z i)%4294967296))
theorem Qvw{K:Nat}{z:Vector Int 8}:∀(n i:Nat) (v:Vector Int 8) (k:Nat),i+n=8→n<k→YS.l K z k ((i:Int),v)=some (adV z n i v):=by
 intro n
 induction n with
 |zero=>
  intro i v k hi hk
  obtain⟨k,rfl⟩:∃j,k=j+1:=⟨k-1,by omega⟩
  show YS.b K z (YS.l K z k) _=_
  unfold YS.b
  rw[Qi (QG (by simp only;omega))];rfl
 | succ n ih=>
  intro i v k hi hk
  obtain⟨k,rfl⟩:∃j,k=j+1:=⟨k-1,by omega⟩
  have e1:YS.l K z (k+1) ((i:Int),v)=YS.l K z k (((i+1:Nat):Int),vset v i ((vget v i+vget z i)%4294967296)):=by
   show YS.b K z (YS.l K z k) _=_
   unfold YS.b
   rw[Qj (QT (by simp only;omega)),wrap_succ (by omega)]
   simp only[chk,Qb,Int.toNat_natCast]
   rw[Qj (Yq (by omega)),Qj (Yq (by omega)),Qj (Yq (by omega)),wu32]
  rw[e1]
  exact ih (i+1) _ k (by omega) (by omega)
theorem QwY{z:Vector Int 8}:∀(n i:Nat) (v:Vector Int 8),i+n=8→∀j,j<8→vget (adV z n i v) j=if i≤j then(vget v j+vget z j)%4294967296 else vget v j:=by
 intro n
 induction n with
 |zero=>intro i v hi j hj;rw[if_neg (by omega)];rfl
 | succ n ih=>
  intro i v hi j hj
  show vget (adV z n (i+1) _) j=_
  rw[ih (i+1) _ (by omega) j hj,XH _ _ hj]
  by_cases e:i=j
  ·subst e
   rw[if_neg (by omega),if_pos rfl,if_pos (by omega)]
  ·rw[if_neg e]
   by_cases e2:i≤j
   ·rw[if_pos (by omega),if_pos e2]
   ·rw[if_neg (by omega),if_neg e2]
theorem Qp6:∀(l m:List Nat) (j:Nat),l.length=m.length→j<l.length→nth (addF l m) j=(nth l j+nth m j)%4294967296
 | [],_,_,_,h=>by simp at h
 |_::_, [],_,h,_=>by simp at h
 |a::l,b::m,0,_,_=>by unfold addF;rw[Qkz];rfl
 |a::l,b::m,j+1,h1,h2=>by unfold addF;rw[Qkz];exact Qp6 l m j (by simpa using h1) (by simpa using h2)
theorem Qp7:∀(l m:List Nat),l.length=m.length→(addF l m).length=l.length
 | [],_,_=>rfl
 |_::_, [],h=>by simp at h
 |a::l,b::m,h=>by unfold addF;rw[Qkz];simp[Qp7 l m (by simpa using h)]
theorem QiZ:∀(l:List Nat) (j:Nat),nth l j=l.getD j 0
 | [],_=>by simp[nth]
 |_::_,0=>rfl
 |_::l,j+1=>by rw[QiY,QiZ l j];rfl
theorem QwZ{K:Nat}(hK:100<K){h:Vector Int 8}{s:List Nat}(hh:R8 h s){b:List Int}(hB:isB b)(hb:b.length=64):∃u,QcH.f K h b=some u∧R8 u (QsW kN s b):=by
 obtain⟨w',g1,g2⟩:=Qvt hB hb 16 0 (Vector.replicate 64 0) [] (by omega) ⟨rfl,fun j hj=>by omega⟩
 have g3:=sch_F (b:=b) 48 16 w' _ (by omega) (by omega) g2
 rw[←g1]at g3
 have hw:=g3.R
 have hr:∀j,j<64→vget (schV b 64 0 (Vector.replicate 64 0)) j=((nth (List.reverse (schF 48 (wds b []))) j:Nat):Int):=fun j hj=>by
  have h1:=(g3.v j hj).1
  have h2:=g3.l
  simp only[Nat.mul_zero,List.drop_zero]at h1 h2
  rw[h1,QiZ,QiZ,List.getD_eq_getElem?_getD,List.getD_eq_getElem?_getD,List.getElem?_reverse (by omega),h2]
 have hl:(List.reverse (schF 48 (wds b []))).length=64:=by
  have h2:=g3.l
  simp only[Nat.mul_zero,List.drop_zero]at h2
  rw[List.length_reverse,h2]
 match s,hh with
 | [a0,a1,a2,a3,a4,a5,a6,a7],hh=>
  have h3:=rnd_F hr hl 64 0 h a0 a1 a2 a3 a4 a5 a6 a7 (by omega) hh
  rw[List.drop_zero,List.drop_zero]at h3
  refine⟨adV (rnV (schV b 64 0 (Vector.replicate 64 0)) 64 0 h) 8 0 h,?_,?_,fun j hj=> ?_⟩
  ·unfold QcH.f XI.f
   rw[Qi (by simp[hb])]
   have w1:Yb.l K b K (0,Vector.replicate 64 0)=_:=Qvs hB hb 64 0 (Vector.replicate 64 0) K (by omega) (by omega) QsU
   rw[w1]
   simp only[Qb]
   refine QD (Qvu hw 64 0 h K (by omega) (by omega) hh.R) ?_
   exact QD (Qvw 8 0 h K (by omega) (by omega)) rfl
  ·unfold QsW
   rw[Qp7 _ _ (by rw[hh.l];exact h3.l.symm),hh.l]
  ·have e1:=hh.v j hj
   have e2:=h3.v j hj
   rw[QwY 8 0 h (by omega) j hj,if_pos (by omega),e1.1,e2.1]
   unfold QsW
   rw[Qp6 _ _ _ (by rw[hh.l];exact h3.l.symm) (by rw[hh.l];exact hj)]
   refine⟨?_,Nat.mod_lt _ (by decide)⟩
   rw[←Int.natCast_add]
   rfl
theorem blk_F{K:Nat}(hK:100<K):∀(n k:Nat) (h:Vector Int 8) (s:List Nat) (l:List Int),R8 h s→isB l→l.length/64<n→n≤k→∃u rest,JQ.l K k (h,l)=some (u,rest)∧R8 u (blkF kN n s l):=by
 intro n
 induction n with
 |zero=>intro k h s l _ _ hl;omega
 | succ n ih=>
  intro k h s l hh hB hl hk
  obtain⟨k,rfl⟩:∃j,k=j+1:=⟨k-1,by omega⟩
  show ∃u rest,JQ.b K (JQ.l K k) _=_∧_
  unfold JQ.b blkF
  by_cases h64:64≤l.length
  ·rw[Qj (QT (by simp only;omega)),Qj (by rw[Nat.ble_eq];exact h64)]
   have s1:=QbD (l:=l) (b:=64) h64
   have s2:=ZZ (l:=l) (a:=64) h64
   simp only[Int.cast_ofNat_Int]at s1 s2
   obtain⟨t,t1,ht⟩:=QwZ hK hh (b:=l.take 64) (fun x hx=>hB x (List.mem_of_mem_take hx)) (by simp;omega)
   obtain⟨u,rest,u1,hu⟩:=ih k t _ (l.drop 64) ht (fun x hx=>hB x (List.mem_of_mem_drop hx)) (by simp;omega) (by omega)
   exact⟨u,rest,QD s1 (QD t1 (QD s2 u1)),hu⟩
  ·rw[Qi (QG (by simp only;omega))]
   have:Nat.ble 64 l.length=false:=by
    cases hb:Nat.ble 64 l.length with
    |false=>rfl
    |true=>exact absurd (Nat.le_of_ble_eq_true hb) h64
   rw[this]
   exact⟨h,l,rfl,hh⟩
theorem Qux:∀(l:List Nat) (j:Nat),j<4*l.length→(bytF l).getD j 0=((nth l (j/4)/2^(24-8*(j%4))%256:Nat):Int)
 | [],j,h=>by simp at h
 |w::l,0,_=>rfl
 |w::l,1,_=>rfl
 |w::l,2,_=>rfl
 |w::l,3,_=>by show Int.ofNat (w%256)=((w/2^0%256:Nat):Int);rw[Nat.pow_zero,Nat.div_one];rfl
 |w::l,j+4,h=>by
  have:=Qux l j (by simp at h;omega)
  rw[show(j+4)/4=j/4+1 by omega,show(j+4)%4=j%4 by omega,QiY,←this]
  rfl
def ivN:List Nat:=(Ye XY).map (·.toNat)
theorem iv_R:R8 XY ivN:=⟨rfl,by decide⟩
def goodB:List Int→Bool
 | []=>true
 |x::l=>bif decide (0≤x)&&decide (x<256)then goodB l else false
theorem goodB_ok:∀(l:List Int),goodB l=true→isB l
 | [],_=>JA
 | x::l,h=>by
  unfold goodB at h
  cases hb:(decide (0≤x)&&decide (x<256))with
  |false=>rw[hb]at h;cases h
  |true=>
   rw[hb]at h
   simp only[Qd,decide_eq_true_eq]at hb
   exact QdB.2 ⟨hb,goodB_ok l h⟩
theorem sum_F{K:Nat}(hK:1000000000000≤K){l:List Int}(hB:isB l)(hl:l.length<1000000000):((JQ.l K K (XY,l)).bind fun(z1:(Vector Int 8)×(List Int))=>((YX.l K z1 K ((0:Int),(Vector.replicate 32 (0:Int)))).bind fun(z2:(Vector Int 32))=>(some z2)))=some (vofL 32 (bytF (blkF kN (l.length/64+1) ivN l))):=by
 obtain⟨u,rest,h1,h2⟩:=blk_F (K:=K) (by omega) (l.length/64+1) K XY ivN l iv_R hB (by omega) (by omega)
 rw[h1]
 simp only[Qb]
 have h3:=Qvr (K:=K) h2.R (rest:=rest) (u:=vofL 32 (bytF (blkF kN (l.length/64+1) ivN l))) (fun j hj=>by
  rw[QfQ hj,Qux _ _ (by rw[h2.l];omega)]
  unfold byteOf
  rw[(h2.v (j/4) (by omega)).1,Int.toNat_natCast]) 32 0 (Vector.replicate 32 0) K (by omega) (by omega) (fun j hj=>absurd hj (by omega))
 exact QD h3 rfl
end Go.Proofs.YtomndohdnfebgaaGreatDoor.Sq
namespace Go.Proofs.YtomndohdnfebgaaGreatDoor
open Go Go.Sep
def shaQ.f(K:Nat)(x1:(List (List Int))):Option ((Vector Int 32)):=
 ((QW.f K (x1)).bind fun(r1:((List Int)))=>((QdF.f K (((List.length (r1):Nat):Int))).bind fun(r2:((List Int)))=>((catI 1 (r1) (r2)).bind fun(l1:(List Int))=>
  bif Nat.ble 1000000000000 K&&(Nat.blt l1.length 1000000000&&Sq.goodB l1)then some (vofL 32 (Sq.bytF (Sq.blkF Sq.kN (l1.length/64+1) Sq.ivN l1)))
  else((JQ.l K K (XY,l1)).bind fun(z1:(Vector Int 8)×(List Int))=>((YX.l K z1 K ((0:Int),(Vector.replicate 32 (0:Int)))).bind fun(z2:(Vector Int 32))=>(some z2))))))
theorem Qp8(K:Nat)(x:List (List Int)):shaQ.f K x=Qep.f K x:=by
 unfold shaQ.f Qep.f
 congr 1
 funext r1
 congr 1
 funext r2
 congr 1
 funext l1
 cases hb:(Nat.ble 1000000000000 K&&(Nat.blt l1.length 1000000000&&Sq.goodB l1))with
 |false=>rfl
 |true=>
  rw[Qd,Qd]at hb
  have h2:l1.length<1000000000:=by have:=hb.2.1;rwa [Nat.blt_eq]at this
  have:=Sq.sum_F (K:=K) (Nat.le_of_ble_eq_true hb.1) (Sq.goodB_ok l1 hb.2.2) h2
  exact this.symm
theorem Qvx(K:Nat):(fun x=>shaQ.f K x)=fun x=>Qep.f K x:=funext fun x=>Qp8 K x
end Go.Proofs.YtomndohdnfebgaaGreatDoor
