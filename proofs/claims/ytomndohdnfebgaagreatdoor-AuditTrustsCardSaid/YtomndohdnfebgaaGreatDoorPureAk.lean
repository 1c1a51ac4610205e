/-
 Plain: keys: tags, receipts and signatures are there; which points are signed.
-/
import Derived.Test.YtomndohdnfebgaaGreatDoorPureEx
namespace Go.Proofs.YtomndohdnfebgaaGreatDoor
open Go Go.Sep
theorem jk{K:Nat}(a b c:Int):Jq.f K a b c=some (inn a b c):=by
 unfold Jq.f inn
 cases decide (b≤a)<;>rfl
def mayK(k:QA):Bool:=inn ((k.fParts.length:Nat):Int) 1 4&&(inn ((k.fWits.length:Nat):Int) 1 4&&inn k.fNeed 1 ((k.fWits.length:Nat):Int))
theorem QmD{K:Nat}(k:QA):Zn.f K k=some (mayK k):=by
 unfold Zn.f mayK
 rw[jk,jk,jk]
 cases inn ((k.fParts.length:Nat):Int) 1 4<;>cases inn ((k.fWits.length:Nat):Int) 1 4<;>rfl
theorem Qfi{k:QA}(h:mayK k=true):1≤k.fParts.length∧k.fParts.length≤4∧1≤k.fWits.length∧k.fWits.length≤4∧1≤k.fNeed∧k.fNeed≤((k.fWits.length:Nat):Int):=by
 unfold mayK at h
 simp only[Qd,qj]at h
 omega
def QgF(k:QA)(p e:Int):Bool:=mayK k&&(inn p 0 (((k.fParts.length:Nat):Int)-1)&&inn e 0 400)
theorem Qi4{K:Nat}(k:QA)(p e:Int):Xw.f K k p e=some (QgF k p e):=by
 unfold Xw.f QgF
 rw[QmD]
 simp only[Qb]
 cases h:mayK k with
 |false=>rfl
 |true=>
  have:=Qfi h
  simp only[Qg,Bool.true_and]
  rw[wrap64 (by omega) (by omega),jk,jk]
  cases inn p 0 (((k.fParts.length:Nat):Int)-1)<;>rfl
theorem QrS{K:Nat}(hK:1000000000000≤K){n:Int}:∃r:List Int,Qcx.f K n 8=some r∧r.length=8:=by
 unfold Qcx.f
 have hz:Z4 1 (0:Int) 8=some [0,0,0,0,0,0,0,0]:=rfl
 refine Qq hz ?_
 have key:∀(m i:Nat) (v:Int) (l:List Int) (k:Nat),i+m=8→m<k→l.length=8→∃r,YS.l K 8 [0,0,0,0,0,0,0,0] k (v,l,(i:Int))=some r∧r.length=8:=by
  intro m
  induction m with
  |zero=>
   intro i v l k hi hk hl
   obtain⟨k,rfl⟩:∃j,k=j+1:=⟨k-1,by omega⟩
   refine⟨l,?_,hl⟩
   show YS.b K 8 [0,0,0,0,0,0,0,0] (YS.l K 8 [0,0,0,0,0,0,0,0] k) _=_
   unfold YS.b
   rw[Qi (by simp;omega)]
  |succ m ih=>
   intro i v l k hi hk hl
   obtain⟨k,rfl⟩:∃j,k=j+1:=⟨k-1,by omega⟩
   show ∃r,YS.b K 8 [0,0,0,0,0,0,0,0] (YS.l K 8 [0,0,0,0,0,0,0,0] k) _=_∧_
   unfold YS.b
   rw[Qj (by simp;omega)]
   have e1:IntKind.wrap .i64 ((8:Int)-1)=((7:Nat):Int):=by rw[wrap64 (by omega) (by omega)];rfl
   have e2:IntKind.wrap .i64 (((7:Nat):Int)-(i:Int))=((7-i:Nat):Int):=by rw[wrap64 (by omega) (by omega)];omega
   simp only
   rw[e1,e2]
   obtain⟨x,hx⟩:=Jd (l:=l) (i:=7-i) (by omega)
   refine Qq hx ?_
   rw[wrap_succ (by omega)]
   exact ih (i+1) _ _ k (by omega) (by omega) (by simp[hl])
 obtain⟨r,hr,hl⟩:=key 8 0 n [0,0,0,0,0,0,0,0] K (by omega) (by omega) rfl
 have hr:YS.l K 8 [0,0,0,0,0,0,0,0] K (n, [0,0,0,0,0,0,0,0],0)=some r:=hr
 rw[hr]
 exact⟨r,rfl,hl⟩
def num8(K:Nat)(x:Int):List Int:=(Z7.f K x).getD []
theorem Qqj{K:Nat}(hK:1000000000000≤K)(x:Int):Z7.f K x=some (num8 K x)∧(num8 K x).length=8:=by
 obtain⟨r,hr,hl⟩:=QrS hK (n:=IntKind.wrap .u64 x)
 have:Z7.f K x=some r:=by unfold Z7.f;rw[hr];rfl
 unfold num8
 rw[this]
 exact⟨rfl,hl⟩
theorem QrT{K:Nat}(hK:1000000000000≤K){l:List Int}(hl:l.length≤10):yN.f K l=some (l.map (num8 K)).flatten∧(l.map (num8 K)).flatten.length≤80:=by
 have hfl:(l.map (num8 K)).flatten.length≤8*l.length:=QiW (fun x _=>by rw[(Qqj hK x).2];omega)
 unfold yN.f
 have hj:=Qff (L:=Yy.l K l) l (num8 K) [] (k:=K) (by omega)
  (fun k s=>by
   show Yy.b K l (Yy.l K l k) _=_
   unfold Yy.b
   rw[Qi (QM (by simp))])
  (fun k s i x hi hx hm hs=>by
   show Yy.b K l (Yy.l K l k) _=_
   unfold Yy.b
   rw[Qj (QS (by simp only;omega))]
   simp only
   rw[hx]
   simp only[Qb]
   rw[(Qqj hK x).1]
   simp only[Qb]
   rw[Jk (by omega)]
   simp only[Qb]
   rw[wrap_succ (by omega)])
  (by simp only[List.length_nil];omega)
 have hj:Yy.l K l K ([],0)=some ((l.map (num8 K)).flatten):=hj
 rw[hj]
 exact⟨rfl,by omega⟩
theorem Qqk{K:Nat}(hK:1000000000000≤K)(x:List Int)(b:Int):∃r:List Int,QfG.f K x b=some r∧r.length=64:=by
 unfold QfG.f
 have hz:Z4 1 (0:Int) 64=some (List.replicate 64 0):=rfl
 refine Qq hz ?_
 have hc:(List.take (List.replicate 64 (0:Int)).length x++List.drop x.length (List.replicate 64 (0:Int))).length=64:=by simp;omega
 have key:∀(m i:Nat) (l:List Int) (k:Nat),i+m=64→m<k→l.length=64→∃r,J4.l K x b (List.replicate 64 0) k (l,(i:Int))=some r∧r.length=64:=by
  intro m
  induction m with
  |zero=>
   intro i l k hi hk hl
   obtain⟨k,rfl⟩:∃j,k=j+1:=⟨k-1,by omega⟩
   refine⟨l,?_,hl⟩
   show J4.b K x b (List.replicate 64 0) (J4.l K x b (List.replicate 64 0) k) (l,(i:Int))=_
   unfold J4.b
   rw[Qi (QM (by rw[hc];simp only;omega))]
  |succ m ih=>
   intro i l k hi hk hl
   obtain⟨k,rfl⟩:∃j,k=j+1:=⟨k-1,by omega⟩
   show ∃r,J4.b K x b (List.replicate 64 0) (J4.l K x b (List.replicate 64 0) k) (l,(i:Int))=_∧_
   unfold J4.b
   rw[Qj (QS (by rw[hc];simp only;omega))]
   obtain⟨y,hy⟩:=Jd (l:=l) (i:=i) (by omega)
   refine Qq hy ?_
   refine Qq hy ?_
   refine Qq hy ?_
   rw[wrap_succ (by omega)]
   exact ih (i+1) _ k (by omega) (by omega) (by simp[hl])
 obtain⟨r,hr,hl⟩:=key 64 0 _ K (by omega) (by omega) hc
 have hr:J4.l K x b (List.replicate 64 0) K (_,0)=some r:=hr
 rw[hr]
 exact⟨r,rfl,hl⟩
theorem Qql(v:H32):subI (Q7 v) 0 ((32:Nat):Int)=some (Q7 v):=by
 have:=Qcl (l:=Q7 v) (b:=32) (by rw[QV];omega)
 rwa [List.take_of_length_le (by rw[QV];omega)]at this
theorem Qqm{K:Nat}(hK:1000000000000≤K){x:List Int}(hx:x.length≤64){l:List (List Int)}(hl:l.length<900)(hf:l.flatten.length<900000):∃r,QfH.f K x l=some r∧∀j,j<32→0≤vget r j∧vget r j<256:=by
 unfold QfH.f
 simp only[jn]
 rw[Qi (QM (by omega))]
 obtain⟨p,hp,lp⟩:=Qqk hK x 54
 refine Qq hp ?_
 refine Qq (Jk (by simp only[List.length_singleton];omega)) ?_
 obtain⟨r,hr,_⟩:=Qed (K:=K) hK (x:= [p]++l) (by simp;omega) (by simp only[List.singleton_append,List.flatten_cons,List.length_append,lp];omega)
 refine Qq hr ?_
 refine Qq (Qql r) ?_
 obtain⟨q,hq,lq⟩:=Qqk hK x 92
 refine Qq hq ?_
 obtain⟨s,hs,h3⟩:=Qed (K:=K) hK (x:= [q,Q7 r]) (by simp) (by simp[lq,QV])
 refine Qq hs ?_
 exact⟨s,rfl,h3⟩
theorem Qqn{K:Nat}(hK:1000000000000≤K)(h:H32){l:List Int}(hl:l.length≤10):∃r,QdI.f K h l=some r∧∀j,j<32→0≤vget r j∧vget r j<256:=by
 unfold QdI.f
 refine Qq (Qql h) ?_
 obtain⟨h1,h2⟩:=QrT hK hl
 refine Qq h1 ?_
 obtain⟨r,hr,h3⟩:=Qqm hK (x:=Q7 h) (by rw[QV];omega) (l:= [(l.map (num8 K)).flatten]) (by simp) (by simp only[List.flatten_cons,List.flatten_nil,List.append_nil];omega)
 refine Qq hr ?_
 exact⟨r,rfl,h3⟩
def byH(r:H32):Prop:=∀j,j<32→0≤vget r j∧vget r j<256
theorem Qcd:byH zH:=fun j hj=>by
 have:vget zH j=0:=by
  unfold zH vget
  rw[List.getD_eq_getElem?_getD,Vector.getElem?_toList,Vector.getElem?_replicate,if_pos hj];rfl
 rw[this];omega
theorem Qub{K:Nat}(hK:1000000000000≤K)(k:QA)(p e:Int):∃r,Qbk.f K k p e=some r∧byH r:=by
 unfold Qbk.f
 rw[Qi4,vz]
 simp only[Qb]
 cases h:QgF k p e with
 |false=>exact⟨zH,rfl,Qcd⟩
 |true=>
  simp only[Bool.not_true,Qh]
  unfold QgF at h
  simp only[Qd,qj]at h
  obtain⟨i,rfl⟩:=Int.eq_ofNat_of_zero_le h.2.1.1
  obtain⟨x,hx⟩:=Jd (l:=k.fParts) (i:=i) (by have:=h.2.1.2;omega)
  refine Qq hx ?_
  obtain⟨r,hr,h2⟩:=Qqn hK x (l:= [1,e]) (by simp)
  refine Qq hr ?_
  exact⟨r,rfl,h2⟩
theorem QrU{K:Nat}(hK:1000000000000≤K)(k:QA)(x:Rc):∃r,qV.f K k x=some r∧byH r:=by
 unfold qV.f
 simp only[jn]
 rw[Qi4,vz]
 have main:∃r,((Qbk.f K k x.fPart x.fEpoch).bind fun r1=>(QbZ.f K x.fBack).bind fun r2=>(QbZ.f K x.fGood).bind fun r3=>(QdI.f K r1 [2,x.fSaga,x.fStep,r2,r3]).bind fun r4=>some r4)=some r∧byH r:=by
  obtain⟨a,ha,_⟩:=Qub hK k x.fPart x.fEpoch
  refine Qq ha ?_
  have hb:∀c:Bool,∃z,QbZ.f K c=some z:=fun c=>by cases c<;>exact⟨_,rfl⟩
  obtain⟨b1,h1⟩:=hb x.fBack
  obtain⟨b2,h2⟩:=hb x.fGood
  refine Qq h1 ?_
  refine Qq h2 ?_
  obtain⟨r,hr,h3⟩:=Qqn hK a (l:= [2,x.fSaga,x.fStep,b1,b2]) (by simp)
  refine Qq hr ?_
  exact⟨r,rfl,h3⟩
 cases decide (x.fKind=3)with
 |false=>exact⟨zH,rfl,Qcd⟩
 |true=>
  simp only[Bool.not_true,Qh,Qb]
  cases QgF k x.fPart x.fEpoch with
  |false=>exact⟨zH,rfl,Qcd⟩
  |true=>exact main
def QrV(k:QA)(x:Rc):H32:=(qV.f 1000000000000 k x).getD zH
theorem Qqo(k:QA)(x:Rc):qV.f 1000000000000 k x=some (QrV k x)∧byH (QrV k x):=by
 obtain⟨r,hr,h⟩:=QrU (K:=1000000000000) (Nat.le_refl _) k x
 unfold QrV
 rw[hr]
 exact⟨rfl,h⟩
theorem QrW{K:Nat}(hK:1000000000000≤K){p:Qr}(hp:inn p.fSize 0 400=true):∃r,QcX.f K p=some r∧byH r:=by
 unfold QcX.f
 rw[qj]at hp
 refine Qq (Qql p.fRoot) ?_
 refine Qq (Qt1 hK (n:=p.fSize) (by omega)) ?_
 have hn:=YO (n:=p.fSize) (by omega)
 obtain⟨r,hr,h⟩:=QsQ hK (d:=6) (l:= [numW p.fSize,Q7 p.fRoot]) (by simp) (fun x hx=>by
  simp at hx
  rcases hx with rfl|rfl
  ·omega
  ·rw[QV];omega)
 refine Qq hr ?_
 exact⟨r,rfl,h⟩
theorem QrX{K:Nat}(hK:1000000000000≤K)(k:QA)(w:Int)(p:Qr):∃r,XN.f K k w p=some r∧byH r:=by
 unfold XN.f
 simp only[jn]
 rw[QmD,vz]
 simp only[Qb]
 cases hm:mayK k with
 |false=>exact⟨zH,rfl,Qcd⟩
 | true=>
  have hl:=Qfi hm
  simp only[Bool.not_true,Qh]
  rw[wrap64 (by omega) (by omega),jk,jk]
  simp only[Qb]
  cases hw:inn w 0 (((k.fWits.length:Nat):Int)-1)with
  |false=>exact⟨zH,rfl,Qcd⟩
  | true=>
   simp only[Bool.not_true,Qh]
   cases hs:inn p.fSize 0 400 with
   |false=>exact⟨zH,rfl,Qcd⟩
   |true=>
    simp only[Bool.not_true,Qh]
    obtain⟨t,ht,_⟩:=QrW hK hs
    refine Qq ht ?_
    rw[qj]at hw
    obtain⟨i,rfl⟩:=Int.eq_ofNat_of_zero_le hw.1
    obtain⟨x,hx⟩:=Jd (l:=k.fWits) (i:=i) (by omega)
    refine Qq hx ?_
    refine Qq (Qql x) ?_
    refine Qq (Qql t) ?_
    obtain⟨r,hr,h2⟩:=Qqm hK (x:=Q7 x) (by rw[QV];omega) (l:= [[3],Q7 t]) (by simp) (by simp[QV])
    refine Qq hr ?_
    exact⟨r,rfl,h2⟩
def Qqp(k:QA)(w:Int)(p:Qr):H32:=(XN.f 1000000000000 k w p).getD zH
theorem Qqq(k:QA)(w:Int)(p:Qr):XN.f 1000000000000 k w p=some (Qqp k w p)∧byH (Qqp k w p):=by
 obtain⟨r,hr,h⟩:=QrX (K:=1000000000000) (Nat.le_refl _) k w p
 unfold Qqp
 rw[hr]
 exact⟨rfl,h⟩
theorem bx8:∀a b:Nat,a<256→b<256→(bxor .u8 (a:Int) (b:Int))=((a^^^b:Nat):Int):=fun a b ha hb=>by
 have h:a^^^b<256:=Nat.xor_lt_two_pow (n:=8) ha hb
 unfold bxor
 rw[BitVec.toNat_xor]
 simp only[IntKind.bits,BitVec.ofInt_natCast,BitVec.toNat_ofNat]
 rw[show(2:Nat)^8=256 by decide,Nat.mod_eq_of_lt ha,Nat.mod_eq_of_lt hb,Qot (by omega) (by omega)]
theorem bo8:∀a b:Nat,a<256→b<256→(bor .u8 (a:Int) (b:Int))=((a|||b:Nat):Int):=fun a b ha hb=>by
 have h:a|||b<256:=Nat.or_lt_two_pow (n:=8) ha hb
 unfold bor
 rw[BitVec.toNat_or]
 simp only[IntKind.bits,BitVec.ofInt_natCast,BitVec.toNat_ofNat]
 rw[show(2:Nat)^8=256 by decide,Nat.mod_eq_of_lt ha,Nat.mod_eq_of_lt hb,Qot (by omega) (by omega)]
theorem Qqr{v u:H32}(h:∀j,j<32→vget v j=vget u j):v=u:=by
 apply Vector.toList_inj.1
 rw[←Qe1,←Qe1]
 unfold Q7
 apply List.map_congr_left
 intro j hj
 exact h j (List.mem_range.1 hj)
theorem QmE{a b:H32}(ha:byH a)(hb:byH b):XQ.f 1000000000000 a b=some (decide (a=b)):=by
 have key:∀(m i k:Nat) (z:Nat),i+m=32→m<k→z<256→(z=0↔∀j,j<i→vget a j=vget b j)→∃y:Nat,Yj.l 1000000000000 a b k ((i:Int),(z:Int))=some (y:Int)∧(y=0↔∀j,j<32→vget a j=vget b j):=by
  intro m
  induction m with
  |zero=>
   intro i k z hi hk hz h
   obtain⟨k,rfl⟩:∃j,k=j+1:=⟨k-1,by omega⟩
   have e:i=32:=by omega
   subst e
   refine⟨z,?_,h⟩
   show Yj.b 1000000000000 a b (Yj.l 1000000000000 a b k) (((32:Nat):Int),(z:Int))=_
   unfold Yj.b
   rw[Qi (QM (by simp only;omega))]
  | succ m ih=>
   intro i k z hi hk hz h
   obtain⟨k,rfl⟩:∃j,k=j+1:=⟨k-1,by omega⟩
   have h1:=ha i (by omega)
   have h2:=hb i (by omega)
   obtain⟨x,hx⟩:=Int.eq_ofNat_of_zero_le h1.1
   obtain⟨y,hy⟩:=Int.eq_ofNat_of_zero_le h2.1
   have hz':z|||(x^^^y)<256:=Nat.or_lt_two_pow (n:=8) hz (Nat.xor_lt_two_pow (n:=8) (by omega) (by omega))
   have e:Yj.l 1000000000000 a b (k+1) ((i:Int),(z:Int))=Yj.l 1000000000000 a b k (((i+1:Nat):Int),((z|||(x^^^y):Nat):Int)):=by
    show Yj.b 1000000000000 a b (Yj.l 1000000000000 a b k) ((i:Int),(z:Int))=_
    unfold Yj.b Qaz.f
    rw[Qj (QS (by simp only;omega))]
    simp only[chk,Int.toNat_natCast]
    rw[Qj (Yz (by omega)),Qj (Yz (by omega)),hx,hy,bx8 x y (by omega) (by omega),bo8 z _ hz (Nat.xor_lt_two_pow (n:=8) (by omega) (by omega)),wrap_succ (by omega)]
    rfl
   rw[e]
   refine ih (i+1) k _ (by omega) (by omega) hz' ?_
   rw[Nat.or_eq_zero_iff,h]
   have hxy:x^^^y=0↔vget a i=vget b i:=by
    rw[hx,hy]
    constructor
    ·intro g
     have:=congrArg (· ^^^y) g
     have:x=y:=by simpa[Nat.xor_assoc] using this
     rw[this]
    ·intro g
     have:x=y:=by omega
     rw[this,Nat.xor_self]
   rw[hxy]
   constructor
   ·rintro⟨g1,g2⟩ j hj
    by_cases e:j=i
    ·subst e;exact g2
    ·exact g1 j (by omega)
   ·intro g
    exact⟨fun j hj=>g j (by omega),g i (by omega)⟩
 obtain⟨y,h1,h2⟩:=key 32 0 1000000000000 0 (by omega) (by omega) (by omega) ⟨fun _ j hj=>absurd hj (by omega),fun _=>rfl⟩
 unfold XQ.f
 have h1:Yj.l 1000000000000 a b 1000000000000 (0,0)=some (y:Int):=h1
 rw[h1]
 show some (decide ((y:Int)=0))=_
 refine congrArg some ?_
 by_cases e:a=b
 ·rw[QS e,QS (by have:=h2.2 (fun j _=>by rw[e]);omega)]
 ·rw[QM e,QM (fun hy=>e (Qqr (h2.1 (by omega))))]
end Go.Proofs.YtomndohdnfebgaaGreatDoor
