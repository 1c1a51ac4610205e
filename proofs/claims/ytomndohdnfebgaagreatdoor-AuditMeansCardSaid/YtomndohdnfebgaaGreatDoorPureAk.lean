/-
 Plain: keys: tags, receipts and signatures are there; which points are signed.
-/
import Derived.Test.YtomndohdnfebgaaGreatDoorPureEx
namespace Go.Proofs.YtomndohdnfebgaaGreatDoor
open Go Go.Sep
theorem jG{K:Nat}(a b c:Int):JD.f K a b c=some (inn a b c):=by
 unfold JD.f inn
 cases decide (b≤a)<;>rfl
def mayK(k:Qo):Bool:=inn ((k.fParts.length:Nat):Int) 1 4&&(inn ((k.fWits.length:Nat):Int) 1 4&&inn k.fNeed 1 ((k.fWits.length:Nat):Int))
theorem Qny{K:Nat}(k:Qo):ZE.f K k=some (mayK k):=by
 unfold ZE.f mayK
 rw[jG,jG,jG]
 cases inn ((k.fParts.length:Nat):Int) 1 4<;>cases inn ((k.fWits.length:Nat):Int) 1 4<;>rfl
theorem QjH{k:Qo}(h:mayK k=true):1≤k.fParts.length∧k.fParts.length≤4∧1≤k.fWits.length∧k.fWits.length≤4∧1≤k.fNeed∧k.fNeed≤((k.fWits.length:Nat):Int):=by
 unfold mayK at h
 simp only[Qd,qU]at h
 omega
def Qhc(k:Qo)(p e:Int):Bool:=mayK k&&(inn p 0 (((k.fParts.length:Nat):Int)-1)&&inn e 0 400)
theorem QjI{K:Nat}(k:Qo)(p e:Int):XL.f K k p e=some (Qhc k p e):=by
 unfold XL.f Qhc
 rw[Qny]
 simp only[Qb]
 cases h:mayK k with
 |false=>rfl
 |true=>
  have:=QjH h
  simp only[Qg,Bool.true_and]
  rw[wrap64 (by omega) (by omega),jG,jG]
  cases inn p 0 (((k.fParts.length:Nat):Int)-1)<;>rfl
theorem Qs7{K:Nat}(hK:1000000000000≤K){n:Int}:∃r:List Int,QcR.f K n 8=some r∧r.length=8:=by
 unfold QcR.f
 have hz:Qal 1 (0:Int) 8=some [0,0,0,0,0,0,0,0]:=rfl
 refine Qv hz ?_
 have key:∀(m i:Nat) (v:Int) (l:List Int) (k:Nat),i+m=8→m<k→l.length=8→∃r,Y3.l K 8 [0,0,0,0,0,0,0,0] k (v,l,(i:Int))=some r∧r.length=8:=by
  intro m
  induction m with
  |zero=>
   intro i v l k hi hk hl
   obtain⟨k,rfl⟩:∃j,k=j+1:=⟨k-1,by omega⟩
   refine⟨l,?_,hl⟩
   show Y3.b K 8 [0,0,0,0,0,0,0,0] (Y3.l K 8 [0,0,0,0,0,0,0,0] k) _=_
   unfold Y3.b
   rw[Qi (by simp;omega)]
  |succ m ih=>
   intro i v l k hi hk hl
   obtain⟨k,rfl⟩:∃j,k=j+1:=⟨k-1,by omega⟩
   show ∃r,Y3.b K 8 [0,0,0,0,0,0,0,0] (Y3.l K 8 [0,0,0,0,0,0,0,0] k) _=_∧_
   unfold Y3.b
   rw[Qj (by simp;omega)]
   have e1:IntKind.wrap .i64 ((8:Int)-1)=((7:Nat):Int):=by rw[wrap64 (by omega) (by omega)];rfl
   have e2:IntKind.wrap .i64 (((7:Nat):Int)-(i:Int))=((7-i:Nat):Int):=by rw[wrap64 (by omega) (by omega)];omega
   simp only
   rw[e1,e2]
   obtain⟨x,hx⟩:=Jm (l:=l) (i:=7-i) (by omega)
   refine Qv hx ?_
   rw[wrap_succ (by omega)]
   exact ih (i+1) _ _ k (by omega) (by omega) (by simp[hl])
 obtain⟨r,hr,hl⟩:=key 8 0 n [0,0,0,0,0,0,0,0] K (by omega) (by omega) rfl
 have hr:Y3.l K 8 [0,0,0,0,0,0,0,0] K (n, [0,0,0,0,0,0,0,0],0)=some r:=hr
 rw[hr]
 exact⟨r,rfl,hl⟩
def num8(K:Nat)(x:Int):List Int:=(Qan.f K x).getD []
theorem Qrq{K:Nat}(hK:1000000000000≤K)(x:Int):Qan.f K x=some (num8 K x)∧(num8 K x).length=8:=by
 obtain⟨r,hr,hl⟩:=Qs7 hK (n:=IntKind.wrap .u64 x)
 have:Qan.f K x=some r:=by unfold Qan.f;rw[hr];rfl
 unfold num8
 rw[this]
 exact⟨rfl,hl⟩
theorem Qs8{K:Nat}(hK:1000000000000≤K){l:List Int}(hl:l.length≤10):Xg.f K l=some (l.map (num8 K)).flatten∧(l.map (num8 K)).flatten.length≤80:=by
 have hfl:(l.map (num8 K)).flatten.length≤8*l.length:=Qjy (fun x _=>by rw[(Qrq hK x).2];omega)
 unfold Xg.f
 have hj:=QfO (L:=YF.l K l) l (num8 K) [] (k:=K) (by omega)
  (fun k s=>by
   show YF.b K l (YF.l K l k) _=_
   unfold YF.b
   rw[Qi (QP (by simp))])
  (fun k s i x hi hx hm hs=>by
   show YF.b K l (YF.l K l k) _=_
   unfold YF.b
   rw[Qj (QS (by simp only;omega))]
   simp only
   rw[hx]
   simp only[Qb]
   rw[(Qrq hK x).1]
   simp only[Qb]
   rw[Y4 (by omega)]
   simp only[Qb]
   rw[wrap_succ (by omega)])
  (by simp only[List.length_nil];omega)
 have hj:YF.l K l K ([],0)=some ((l.map (num8 K)).flatten):=hj
 rw[hj]
 exact⟨rfl,by omega⟩
theorem Qrr{K:Nat}(hK:1000000000000≤K)(x:List Int)(b:Int):∃r:List Int,Qgf.f K x b=some r∧r.length=64:=by
 unfold Qgf.f
 have hz:Qal 1 (0:Int) 64=some (List.replicate 64 0):=rfl
 refine Qv hz ?_
 have hc:(List.take (List.replicate 64 (0:Int)).length x++List.drop x.length (List.replicate 64 (0:Int))).length=64:=by simp;omega
 have key:∀(m i:Nat) (l:List Int) (k:Nat),i+m=64→m<k→l.length=64→∃r,qi.l K x b (List.replicate 64 0) k (l,(i:Int))=some r∧r.length=64:=by
  intro m
  induction m with
  |zero=>
   intro i l k hi hk hl
   obtain⟨k,rfl⟩:∃j,k=j+1:=⟨k-1,by omega⟩
   refine⟨l,?_,hl⟩
   show qi.b K x b (List.replicate 64 0) (qi.l K x b (List.replicate 64 0) k) (l,(i:Int))=_
   unfold qi.b
   rw[Qi (QP (by rw[hc];simp only;omega))]
  |succ m ih=>
   intro i l k hi hk hl
   obtain⟨k,rfl⟩:∃j,k=j+1:=⟨k-1,by omega⟩
   show ∃r,qi.b K x b (List.replicate 64 0) (qi.l K x b (List.replicate 64 0) k) (l,(i:Int))=_∧_
   unfold qi.b
   rw[Qj (QS (by rw[hc];simp only;omega))]
   obtain⟨y,hy⟩:=Jm (l:=l) (i:=i) (by omega)
   refine Qv hy ?_
   refine Qv hy ?_
   refine Qv hy ?_
   rw[wrap_succ (by omega)]
   exact ih (i+1) _ k (by omega) (by omega) (by simp[hl])
 obtain⟨r,hr,hl⟩:=key 64 0 _ K (by omega) (by omega) hc
 have hr:qi.l K x b (List.replicate 64 0) K (_,0)=some r:=hr
 rw[hr]
 exact⟨r,rfl,hl⟩
theorem Qrs(v:H32):subI (Yg v) 0 ((32:Nat):Int)=some (Yg v):=by
 have:=Qbg (l:=Yg v) (b:=32) (by rw[Q8];omega)
 rwa [List.take_of_length_le (by rw[Q8];omega)]at this
theorem Qrt{K:Nat}(hK:1000000000000≤K){x:List Int}(hx:x.length≤64){l:List (List Int)}(hl:l.length<900)(hf:l.flatten.length<900000):∃r,Qgg.f K x l=some r∧∀j,j<32→0≤vget r j∧vget r j<256:=by
 unfold Qgg.f
 simp only[jn]
 rw[Qi (QP (by omega))]
 obtain⟨p,hp,lp⟩:=Qrr hK x 54
 refine Qv hp ?_
 refine Qv (Y4 (by simp only[List.length_singleton];omega)) ?_
 obtain⟨r,hr,_⟩:=Qc8 (K:=K) hK (x:= [p]++l) (by simp;omega) (by simp only[List.singleton_append,List.flatten_cons,List.length_append,lp];omega)
 refine Qv hr ?_
 refine Qv (Qrs r) ?_
 obtain⟨q,hq,lq⟩:=Qrr hK x 92
 refine Qv hq ?_
 obtain⟨s,hs,h3⟩:=Qc8 (K:=K) hK (x:= [q,Yg r]) (by simp) (by simp[lq,Q8])
 refine Qv hs ?_
 exact⟨s,rfl,h3⟩
theorem Qru{K:Nat}(hK:1000000000000≤K)(h:H32){l:List Int}(hl:l.length≤10):∃r,Qee.f K h l=some r∧∀j,j<32→0≤vget r j∧vget r j<256:=by
 unfold Qee.f
 refine Qv (Qrs h) ?_
 obtain⟨h1,h2⟩:=Qs8 hK hl
 refine Qv h1 ?_
 obtain⟨r,hr,h3⟩:=Qrt hK (x:=Yg h) (by rw[Q8];omega) (l:= [(l.map (num8 K)).flatten]) (by simp) (by simp only[List.flatten_cons,List.flatten_nil,List.append_nil];omega)
 refine Qv hr ?_
 exact⟨r,rfl,h3⟩
def byH(r:H32):Prop:=∀j,j<32→0≤vget r j∧vget r j<256
theorem Qcy:byH zH:=fun j hj=>by
 have:vget zH j=0:=by
  unfold zH vget
  rw[List.getD_eq_getElem?_getD,Vector.getElem?_toList,Vector.getElem?_replicate,if_pos hj];rfl
 rw[this];omega
theorem Qvz{K:Nat}(hK:1000000000000≤K)(k:Qo)(p e:Int):∃r,QbF.f K k p e=some r∧byH r:=by
 unfold QbF.f
 rw[QjI,vz]
 simp only[Qb]
 cases h:Qhc k p e with
 |false=>exact⟨zH,rfl,Qcy⟩
 |true=>
  simp only[Bool.not_true,Qh]
  unfold Qhc at h
  simp only[Qd,qU]at h
  obtain⟨i,rfl⟩:=Int.eq_ofNat_of_zero_le h.2.1.1
  obtain⟨x,hx⟩:=Jm (l:=k.fParts) (i:=i) (by have:=h.2.1.2;omega)
  refine Qv hx ?_
  obtain⟨r,hr,h2⟩:=Qru hK x (l:= [1,e]) (by simp)
  refine Qv hr ?_
  exact⟨r,rfl,h2⟩
theorem Qs9{K:Nat}(hK:1000000000000≤K)(k:Qo)(x:Rc):∃r,jh.f K k x=some r∧byH r:=by
 unfold jh.f
 simp only[jn]
 rw[QjI,vz]
 have main:∃r,((QbF.f K k x.fPart x.fEpoch).bind fun r1=>(Qcl.f K x.fBack).bind fun r2=>(Qcl.f K x.fGood).bind fun r3=>(Qee.f K r1 [2,x.fSaga,x.fStep,r2,r3]).bind fun r4=>some r4)=some r∧byH r:=by
  obtain⟨a,ha,_⟩:=Qvz hK k x.fPart x.fEpoch
  refine Qv ha ?_
  have hb:∀c:Bool,∃z,Qcl.f K c=some z:=fun c=>by cases c<;>exact⟨_,rfl⟩
  obtain⟨b1,h1⟩:=hb x.fBack
  obtain⟨b2,h2⟩:=hb x.fGood
  refine Qv h1 ?_
  refine Qv h2 ?_
  obtain⟨r,hr,h3⟩:=Qru hK a (l:= [2,x.fSaga,x.fStep,b1,b2]) (by simp)
  refine Qv hr ?_
  exact⟨r,rfl,h3⟩
 cases decide (x.fKind=3)with
 |false=>exact⟨zH,rfl,Qcy⟩
 |true=>
  simp only[Bool.not_true,Qh,Qb]
  cases Qhc k x.fPart x.fEpoch with
  |false=>exact⟨zH,rfl,Qcy⟩
  |true=>exact main
def Qta(k:Qo)(x:Rc):H32:=(jh.f 1000000000000 k x).getD zH
theorem Qrv(k:Qo)(x:Rc):jh.f 1000000000000 k x=some (Qta k x)∧byH (Qta k x):=by
 obtain⟨r,hr,h⟩:=Qs9 (K:=1000000000000) (Nat.le_refl _) k x
 unfold Qta
 rw[hr]
 exact⟨rfl,h⟩
theorem Qtb{K:Nat}(hK:1000000000000≤K){p:Qq}(hp:inn p.fSize 0 400=true):∃r,Qdq.f K p=some r∧byH r:=by
 unfold Qdq.f
 rw[qU]at hp
 refine Qv (Qrs p.fRoot) ?_
 refine Qv (Qvp hK (n:=p.fSize) (by omega)) ?_
 have hn:=YY (n:=p.fSize) (by omega)
 obtain⟨r,hr,h⟩:=Qud hK (d:=6) (l:= [numW p.fSize,Yg p.fRoot]) (by simp) (fun x hx=>by
  simp at hx
  rcases hx with rfl|rfl
  ·omega
  ·rw[Q8];omega)
 refine Qv hr ?_
 exact⟨r,rfl,h⟩
theorem Qtc{K:Nat}(hK:1000000000000≤K)(k:Qo)(w:Int)(p:Qq):∃r,X5.f K k w p=some r∧byH r:=by
 unfold X5.f
 simp only[jn]
 rw[Qny,vz]
 simp only[Qb]
 cases hm:mayK k with
 |false=>exact⟨zH,rfl,Qcy⟩
 | true=>
  have hl:=QjH hm
  simp only[Bool.not_true,Qh]
  rw[wrap64 (by omega) (by omega),jG,jG]
  simp only[Qb]
  cases hw:inn w 0 (((k.fWits.length:Nat):Int)-1)with
  |false=>exact⟨zH,rfl,Qcy⟩
  | true=>
   simp only[Bool.not_true,Qh]
   cases hs:inn p.fSize 0 400 with
   |false=>exact⟨zH,rfl,Qcy⟩
   |true=>
    simp only[Bool.not_true,Qh]
    obtain⟨t,ht,_⟩:=Qtb hK hs
    refine Qv ht ?_
    rw[qU]at hw
    obtain⟨i,rfl⟩:=Int.eq_ofNat_of_zero_le hw.1
    obtain⟨x,hx⟩:=Jm (l:=k.fWits) (i:=i) (by omega)
    refine Qv hx ?_
    refine Qv (Qrs x) ?_
    refine Qv (Qrs t) ?_
    obtain⟨r,hr,h2⟩:=Qrt hK (x:=Yg x) (by rw[Q8];omega) (l:= [[3],Yg t]) (by simp) (by simp[Q8])
    refine Qv hr ?_
    exact⟨r,rfl,h2⟩
def Qrw(k:Qo)(w:Int)(p:Qq):H32:=(X5.f 1000000000000 k w p).getD zH
theorem Qrx(k:Qo)(w:Int)(p:Qq):X5.f 1000000000000 k w p=some (Qrw k w p)∧byH (Qrw k w p):=by
 obtain⟨r,hr,h⟩:=Qtc (K:=1000000000000) (Nat.le_refl _) k w p
 unfold Qrw
 rw[hr]
 exact⟨rfl,h⟩
theorem bx8:∀a b:Nat,a<256→b<256→(bxor .u8 (a:Int) (b:Int))=((a^^^b:Nat):Int):=fun a b ha hb=>by
 have h:a^^^b<256:=Nat.xor_lt_two_pow (n:=8) ha hb
 unfold bxor
 rw[BitVec.toNat_xor]
 simp only[IntKind.bits,BitVec.ofInt_natCast,BitVec.toNat_ofNat]
 rw[show(2:Nat)^8=256 by decide,Nat.mod_eq_of_lt ha,Nat.mod_eq_of_lt hb,Qpx (by omega) (by omega)]
theorem bo8:∀a b:Nat,a<256→b<256→(bor .u8 (a:Int) (b:Int))=((a|||b:Nat):Int):=fun a b ha hb=>by
 have h:a|||b<256:=Nat.or_lt_two_pow (n:=8) ha hb
 unfold bor
 rw[BitVec.toNat_or]
 simp only[IntKind.bits,BitVec.ofInt_natCast,BitVec.toNat_ofNat]
 rw[show(2:Nat)^8=256 by decide,Nat.mod_eq_of_lt ha,Nat.mod_eq_of_lt hb,Qpx (by omega) (by omega)]
theorem Qry{v u:H32}(h:∀j,j<32→vget v j=vget u j):v=u:=by
 apply Vector.toList_inj.1
 rw[←QfB,←QfB]
 unfold Yg
 apply List.map_congr_left
 intro j hj
 exact h j (List.mem_range.1 hj)
theorem Qnz{a b:H32}(ha:byH a)(hb:byH b):X8.f 1000000000000 a b=some (decide (a=b)):=by
 have key:∀(m i k:Nat) (z:Nat),i+m=32→m<k→z<256→(z=0↔∀j,j<i→vget a j=vget b j)→∃y:Nat,Yr.l 1000000000000 a b k ((i:Int),(z:Int))=some (y:Int)∧(y=0↔∀j,j<32→vget a j=vget b j):=by
  intro m
  induction m with
  |zero=>
   intro i k z hi hk hz h
   obtain⟨k,rfl⟩:∃j,k=j+1:=⟨k-1,by omega⟩
   have e:i=32:=by omega
   subst e
   refine⟨z,?_,h⟩
   show Yr.b 1000000000000 a b (Yr.l 1000000000000 a b k) (((32:Nat):Int),(z:Int))=_
   unfold Yr.b
   rw[Qi (QP (by simp only;omega))]
  | succ m ih=>
   intro i k z hi hk hz h
   obtain⟨k,rfl⟩:∃j,k=j+1:=⟨k-1,by omega⟩
   have h1:=ha i (by omega)
   have h2:=hb i (by omega)
   obtain⟨x,hx⟩:=Int.eq_ofNat_of_zero_le h1.1
   obtain⟨y,hy⟩:=Int.eq_ofNat_of_zero_le h2.1
   have hz':z|||(x^^^y)<256:=Nat.or_lt_two_pow (n:=8) hz (Nat.xor_lt_two_pow (n:=8) (by omega) (by omega))
   have e:Yr.l 1000000000000 a b (k+1) ((i:Int),(z:Int))=Yr.l 1000000000000 a b k (((i+1:Nat):Int),((z|||(x^^^y):Nat):Int)):=by
    show Yr.b 1000000000000 a b (Yr.l 1000000000000 a b k) ((i:Int),(z:Int))=_
    unfold Yr.b QaP.f
    rw[Qj (QS (by simp only;omega))]
    simp only[chk,Int.toNat_natCast]
    rw[Qj (Yn (by omega)),Qj (Yn (by omega)),hx,hy,bx8 x y (by omega) (by omega),bo8 z _ hz (Nat.xor_lt_two_pow (n:=8) (by omega) (by omega)),wrap_succ (by omega)]
    rfl
   rw[e]
   refine ih (i+1) k _ (by omega) (by omega) hz' ?_
   rw[Nat.or_eq_zero_iff,h]
   have hxy:x^^^y=0↔vget a i=vget b i:=by
    rw[hx,hy]
    constructor
    ·intro g
     have:=congrArg (· ^^^y) g
     have:x=y:=by simpa[Nat.xor_assoc] using this
     rw[this]
    ·intro g
     have:x=y:=by omega
     rw[this,Nat.xor_self]
   rw[hxy]
   constructor
   ·rintro⟨g1,g2⟩ j hj
    by_cases e:j=i
    ·subst e;exact g2
    ·exact g1 j (by omega)
   ·intro g
    exact⟨fun j hj=>g j (by omega),g i (by omega)⟩
 obtain⟨y,h1,h2⟩:=key 32 0 1000000000000 0 (by omega) (by omega) (by omega) ⟨fun _ j hj=>absurd hj (by omega),fun _=>rfl⟩
 unfold X8.f
 have h1:Yr.l 1000000000000 a b 1000000000000 (0,0)=some (y:Int):=h1
 rw[h1]
 show some (decide ((y:Int)=0))=_
 refine congrArg some ?_
 by_cases e:a=b
 ·rw[QS e,QS (by have:=h2.2 (fun j _=>by rw[e]);omega)]
 ·rw[QP e,QP (fun hy=>e (Qry (h2.1 (by omega))))]
end Go.Proofs.YtomndohdnfebgaaGreatDoor
