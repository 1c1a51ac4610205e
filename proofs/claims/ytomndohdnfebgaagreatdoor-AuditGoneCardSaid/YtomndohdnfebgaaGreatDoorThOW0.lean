/-
  Proved, text by text: a call of a function of the cut comes to what its plain function computes.
  Conditions: those that each theorem names.
-/
import Derived.Test.YtomndohdnfebgaaGreatDoorProg
import Derived.Test.YtomndohdnfebgaaGreatDoorSxA
import Derived.Test.YtomndohdnfebgaaGreatDoorThDh
set_option linter.unusedVariables false
set_option maxHeartbeats 4000000
namespace Go.Proofs.YtomndohdnfebgaaGreatDoor
open Go Go.Sep
set_option maxRecDepth 100000 in
theorem Y5.calls{K:Nat}{g w0:World}{D0:Snap}{x1:Int}{r:((List Int))}(hf:Y5.f K x1=some r)(hS0:St g w0 D0 []):
  CallsIn (Fw none) 0 Tryz.prog 176 (List.toArray [.slice none 0 0,.int .i64 (x1)]) w0 (fun e w'=>∃v,e= .returned v∧∃(D1:Snap) (A22:Option Addr) (c23:Nat) (q24:Blk),v= .slice A22 (List.length (r)) c23∧Stp g w0 D0 [] w' D1 [q24]∧OwnD (YJ .u8) 5 D1 A22 c23 (r) q24):=by
 unfold Y5.f at hf
 have hS:=Stp.refl hS0
 clear hS0
 refine jG (n:=27) Tryz.func176 rfl Tryz.ntmps176 rfl fun a hE=> ?_
 have hE:Env a 27 [] [(0,.slice none 0 0),(1,.int .i64 (x1))]:=hE
 refine sq (ra ?_)
 refine sN 1 1 [(4,.slice none 0 0)] hE fun a hE=> ?_
 refine ae ?_
 refine sq (sq (ra ?_))
 refine sN 2 2 [(6,.bool ((decide (x1<(0:Int)))))] hE fun a hE=> ?_
 refine ae ?_
 refine JD hE (b:=(decide (x1<(0:Int)))) rfl (fun hb=> ?_) (fun hb=> ?_)
 ·replace hf:=ct hb hf
  refine ra ?_
  cases hf
 replace hf:=cf hb hf
 refine wpIn_skip ?_
 refine sq (sq (ra ?_))
 refine sN 2 2 [(8,.int .i64 (x1)),(9,.slice none 0 0)] hE fun a hE=> ?_
 refine JY (Qa1 hE (Qkg rfl rfl rfl rfl hE rfl rfl (by kernel_rfl) (fun a hE=> ?_))) rfl
 refine sN 5 8 [(1,.int .i64 ((IntKind.wrap .i64 (x1-(IntKind.wrap .i64 (((0:Nat):Int)-((0:Nat):Int)))))))] hE fun a hE=> ?_
 refine ae ?_
 refine sq (ra ?_)
 refine sN 2 2 [(16,.bool ((decide ((0:Int)<(IntKind.wrap .i64 (x1-(IntKind.wrap .i64 (((0:Nat):Int)-((0:Nat):Int)))))))))] hE fun a hE=> ?_
 refine ae ?_
 refine JD hE (b:=(decide ((0:Int)<(IntKind.wrap .i64 (x1-(IntKind.wrap .i64 (((0:Nat):Int)-((0:Nat):Int)))))))) rfl (fun hb=> ?_) (fun hb=> ?_)
 ·replace hf:=ct hb hf
  refine ra ?_
  refine sN 2 2 [(17,.slice none 0 0),(18,.slice none 0 0)] hE fun a hE=> ?_
  refine JY (Qa1 hE (Qkg rfl rfl rfl rfl hE rfl rfl (by kernel_rfl) (fun a hE=> ?_))) rfl
  refine JY (Qa1 hE (QlU (e:=5) (sz:=1) (by_:=1) (zl:=1) rfl rfl rfl rfl hE rfl rfl (by kernel_rfl) rfl ⟨_,rfl⟩ (fun a hE=> ?_))) rfl
  refine sN 1 5 [(21,.int .i64 ((IntKind.wrap .i64 (x1-(IntKind.wrap .i64 (((0:Nat):Int)-((0:Nat):Int)))))))] hE fun a hE=> ?_
  obtain⟨l37,h38,hf⟩:=bs hf
  refine JY (Qok (K:=(YJ .u8)) (e:=5) (bytes:=1) (z:=(0:Int)) (cz:= [.int .u8 ((0:Int))]) rfl rfl rfl rfl hE rfl hS rfl rfl (by kernel_rfl) (by kernel_rfl) (by kernel_rfl) rfl rfl rfl h38 (fun a A39 c40 q41 w _ hE h42 hS=> ?_)) rfl
  refine sN 2 8 [(24,.int .i64 (((0:Nat):Int)))] hE fun a hE=> ?_
  obtain⟨l44,h45,hf⟩:=bs hf
  refine JY (Qa1 hE (Qik (K:=(YJ .u8)) (T:=5) (by_:=1) (zl:=1) rfl rfl rfl rfl hE rfl rfl (by kernel_rfl) ⟨_,rfl⟩ h42 h45 (fun a hE h46=> ?_))) rfl
  refine sN 1 10 [(0,.slice A39 (List.length (l44)) c40)] hE fun a hE=> ?_
  refine ae ?_
  refine sq (ra ?_)
  refine sN 2 2 [(4,.slice A39 (List.length (l44)) c40)] hE fun a hE=> ?_
  refine ae ?_
  refine wpIn_ret ?_
  obtain rfl:=si hf
  refine ret_ ?_
  refine rT 4 (.slice A39 (List.length (l44)) c40) hE ?_
  exact⟨_,rfl,D0,A39,c40,q41,rfl,hS,h46⟩
 replace hf:=cf hb hf
 refine wpIn_skip ?_
 refine sq (ra ?_)
 refine sN 2 2 [(4,.slice none 0 0)] hE fun a hE=> ?_
 refine ae ?_
 refine wpIn_ret ?_
 have hS:=hS.nils
 obtain rfl:=si hf
 refine ret_ ?_
 refine rT 4 (.slice none 0 0) hE ?_
 exact⟨_,rfl,D0,none,0,none,rfl,hS,(OwnD.nil (YJ .u8) 5 D0)⟩
set_option maxRecDepth 100000 in
theorem QW.calls{K:Nat}{g w0:World}{D0:Snap}{x1:(List (List Int))}{A2:Option Addr}{c3:Nat}{r:((List Int))}(hf:QW.f K x1=some r)(hS0:St g w0 D0 [])(h4:Sl (qc (YJ .u8)) D0 A2 c3 (x1)):
  CallsIn (Fw none) 0 Tryz.prog 133 (List.toArray [.slice A2 (List.length (x1)) c3]) w0 (fun e w'=>∃v,e= .returned v∧∃(D1:Snap) (A6:Option Addr) (c6:Nat) (q3:Blk),v= .slice A6 (List.length (r)) c6∧Stp g w0 D0 [] w' D1 [q3]∧OwnD (YJ .u8) 5 D1 A6 c6 (r) q3):=by
 unfold QW.f at hf
 have hS:=Stp.refl hS0
 clear hS0
 refine jG (n:=36) Tryz.func133 rfl Tryz.ntmps133 rfl fun a hE=> ?_
 have hE:Env a 36 [] [(0,.slice A2 (List.length (x1)) c3)]:=hE
 refine sq (ra ?_)
 refine sN 1 1 [(2,.slice none 0 0)] hE fun a hE=> ?_
 refine ae ?_
 refine sq (ra ?_)
 refine sN 1 1 [(3,.int .i64 ((0:Int)))] hE fun a hE=> ?_
 refine ae ?_
 refine sq (sq (ra ?_))
 refine sN 3 3 [(9,.slice A2 (List.length (x1)) c3),(10,.int .i64 (((List.length (x1):Nat):Int))),(11,.int .i64 ((0:Int)))] hE fun a hE=> ?_
 refine ae ?_
 obtain⟨s1,hf,hs1⟩:=bs hf
 refine Zc (fun a w=>∃(z2:Int),∃D5,Env a 36 [] [(0,.slice A2 (List.length (x1)) c3),(3,.int .i64 (z2))]∧Stp g w0 D0 [] w D5 []∧Snap.le D0 D5∧z2=s1) (fun k a w=>∃(y1:Int×Int),∃D3,Env a 36 [] [(0,.slice A2 (List.length (x1)) c3),(3,.int .i64 (y1.1)),(9,.slice A2 (List.length (x1)) c3),(10,.int .i64 (((List.length (x1):Nat):Int))),(11,.int .i64 (y1.2))]∧Stp g w0 D0 [] w D3 []∧Snap.le D0 D3∧QA.l K x1 k y1=some s1) K ?_ ?_ ?_
 ·exact⟨((0:Int),(0:Int)),D0,hE.wk,hS,lr,hf⟩
 ·clear hE hS hf
  rintro a w ⟨z2,D5,hE,hS,le4,rfl⟩
  have hf:=hs1
  clear hs1
  refine sq (ra ?_)
  refine sN 1 1 [(23,.int .i64 (z2))] hE fun a hE=> ?_
  obtain⟨r1,h2,hf⟩:=bs hf
  refine aC rfl rfl rfl rfl hE rfl rfl rfl rfl (Y5.calls h2 (hS.st.fore (L:= []))) fun a v w hR hE=> ?_
  obtain⟨D6,A7,c7,q4,rfl,hS1,h3⟩:=hR
  have le5:=hS1.dle
  have hS:=hS.callR hS1 rfl (.c .n)
  refine sN 1 3 [(6,.slice A7 (List.length (r1)) c7)] hE fun a hE=> ?_
  refine ae ?_
  refine sq (sq (ra ?_))
  refine sN 3 3 [(25,.slice A2 (List.length (x1)) c3),(26,.int .i64 (((List.length (x1):Nat):Int))),(27,.int .i64 ((0:Int)))] hE fun a hE=> ?_
  refine ae ?_
  obtain⟨s2,hf,hs2⟩:=bs hf
  refine Zc (fun a w=>∃(z1:(List Int)),∃A1,∃c1,∃q1,∃D4,Env a 36 [] [(6,.slice A1 (List.length (z1)) c1)]∧Stp g w0 D0 [] w D4 [q1]∧Snap.le D6 D4∧OwnD (YJ .u8) 5 D4 A1 c1 (z1) q1∧z1=s2) (fun k a w=>∃(y2:(List Int)×Int),∃A3,∃c2,∃q2,∃D2,Env a 36 [] [(6,.slice A3 (List.length (y2.1)) c2),(25,.slice A2 (List.length (x1)) c3),(26,.int .i64 (((List.length (x1):Nat):Int))),(27,.int .i64 (y2.2))]∧Stp g w0 D0 [] w D2 [q2]∧Snap.le D6 D2∧OwnD (YJ .u8) 5 D2 A3 c2 (y2.1) q2∧QB.l K x1 k y2=some s2) K ?_ ?_ ?_
  ·exact⟨(r1,(0:Int)),A7,c7,q4,D6,hE.wk,hS,lr,h3,hf⟩
  ·clear hE hS hf
   rintro a w ⟨z1,A1,c1,q1,D4,hE,hS,le6,h5,rfl⟩
   have hf:=hs2
   clear hs2
   refine sq (ra ?_)
   refine sN 2 2 [(2,.slice A1 (List.length (z1)) c1)] hE fun a hE=> ?_
   refine ae ?_
   refine wpIn_ret ?_
   obtain rfl:=si hf
   refine ret_ ?_
   refine rT 2 (.slice A1 (List.length (z1)) c1) hE ?_
   exact⟨_,rfl,D4,A1,c1,q1,rfl,hS,h5⟩
  clear hE hS hf
  rintro k a w ⟨y2,A3,c2,q2,D2,hE,hS,le1,h1,hf⟩
  obtain⟨k,rfl,hf⟩:=QB.some _ hf
  refine⟨k,rfl,?_⟩
  unfold QB.b at hf
  refine sq (ra ?_)
  refine sN 1 1 [(28,.bool ((decide (y2.2<((List.length (x1):Nat):Int)))))] hE fun a hE=> ?_
  refine ae ?_
  refine sq ?_
  refine JD hE (b:=(decide (y2.2<((List.length (x1):Nat):Int)))) rfl (fun hb=> ?_) (fun hb=> ?_)
  ·replace hf:=ct hb hf
   refine wpIn_skip ?_
   refine sq ?_
   refine wpIn_block ?_
   refine sq (ra ?_)
   obtain⟨x3,h6,hf⟩:=bs hf
   refine JY (Qa1 hE (QlR (K:=(qc (YJ .u8))) (e:=41) (by_:=24) (zl:=1) rfl rfl rfl rfl hE rfl rfl rfl (by kernel_rfl) rfl (h4.mono (le2 (le2 le4 le5) le1)) h6 (fun a b1 o1 hE h7=> ?_))) rfl
   obtain⟨cs1,C1,T1,fr1,hr1,hb1,hc1⟩:=id h7
   obtain⟨A4,c4,rfl,h8⟩:=hr1
   refine JY (Qa1 hE (Qnd (off0:=o1) (off:=0) (c:= [.slice A4 (List.length (x3)) c4]) (.slice A4 (List.length (x3)) c4) rfl rfl rfl rfl hE rfl hS rfl hb1 hc1 (by kernel_rfl) (by kernel_rfl) (kD hS Qup) (fun a hE=> ?_))) rfl
   refine sN 1 3 [(8,.slice A4 (List.length (x3)) c4)] hE fun a hE=> ?_
   refine ae ?_
   refine ra ?_
   refine sN 2 2 [(31,.slice A3 (List.length (y2.1)) c2),(32,.slice A4 (List.length (x3)) c4)] hE fun a hE=> ?_
   obtain⟨l1,h9,hf⟩:=bs hf
   refine JY (Qa6 (K:=(YJ .u8)) (e:=5) (bytes:=1) (l:=y2.1) (m:=x3) rfl rfl rfl rfl hE rfl hS rfl rfl (by kernel_rfl) rfl rfl h1 h8 h9 (fun a A8 c8 q5 w _ hE h10 hS=> ?_)) rfl
   refine sN 1 4 [(6,.slice A8 (List.length (l1)) c8)] hE fun a hE=> ?_
   refine ae ?_
   refine ra ?_
   refine sN 2 2 [(27,.int .i64 ((IntKind.wrap .i64 (y2.2+(1:Int)))))] hE fun a hE=> ?_
   exact ae ⟨(l1,(IntKind.wrap .i64 (y2.2+(1:Int)))),A8,c8,q5,D2,hE.wk,hS,le1,h10,hf⟩
  replace hf:=cf hb hf
  refine wpIn_exit ?_
  obtain rfl:=si hf
  exact⟨y2.1,A3,c2,q2,D2,hE.wk,hS,le1,h1,rfl⟩
 clear hE hS hf
 rintro k a w ⟨y1,D3,hE,hS,le3,hf⟩
 obtain⟨k,rfl,hf⟩:=QA.some _ hf
 refine⟨k,rfl,?_⟩
 unfold QA.b at hf
 refine sq (ra ?_)
 refine sN 1 1 [(12,.bool ((decide (y1.2<((List.length (x1):Nat):Int)))))] hE fun a hE=> ?_
 refine ae ?_
 refine sq ?_
 refine JD hE (b:=(decide (y1.2<((List.length (x1):Nat):Int)))) rfl (fun hb=> ?_) (fun hb=> ?_)
 ·replace hf:=ct hb hf
  refine wpIn_skip ?_
  refine sq ?_
  refine wpIn_block ?_
  refine sq (ra ?_)
  obtain⟨x2,h11,hf⟩:=bs hf
  refine JY (Qa1 hE (QlR (K:=(qc (YJ .u8))) (e:=41) (by_:=24) (zl:=1) rfl rfl rfl rfl hE rfl rfl rfl (by kernel_rfl) rfl (h4.mono le3) h11 (fun a b2 o2 hE h12=> ?_))) rfl
  obtain⟨cs2,C2,T2,fr2,hr2,hb2,hc2⟩:=id h12
  obtain⟨A5,c5,rfl,h13⟩:=hr2
  refine JY (Qa1 hE (Qnd (off0:=o2) (off:=0) (c:= [.slice A5 (List.length (x2)) c5]) (.slice A5 (List.length (x2)) c5) rfl rfl rfl rfl hE rfl hS rfl hb2 hc2 (by kernel_rfl) (by kernel_rfl) (kD hS Qup) (fun a hE=> ?_))) rfl
  refine sN 1 3 [(5,.slice A5 (List.length (x2)) c5)] hE fun a hE=> ?_
  refine ae ?_
  refine sq (ra ?_)
  refine sN 5 5 [(3,.int .i64 ((IntKind.wrap .i64 (y1.1+((List.length (x2):Nat):Int)))))] hE fun a hE=> ?_
  refine ae ?_
  refine sq (ra ?_)
  refine sN 2 2 [(20,.bool ((decide ((IntKind.wrap .i64 (y1.1+((List.length (x2):Nat):Int)))<(0:Int)))))] hE fun a hE=> ?_
  refine ae ?_
  refine JD hE (b:=(decide ((IntKind.wrap .i64 (y1.1+((List.length (x2):Nat):Int)))<(0:Int)))) rfl (fun hb=> ?_) (fun hb=> ?_)
  ·replace hf:=ct hb hf
   refine ra ?_
   cases hf
  replace hf:=cf hb hf
  refine wpIn_skip ?_
  refine ra ?_
  refine sN 2 2 [(11,.int .i64 ((IntKind.wrap .i64 (y1.2+(1:Int)))))] hE fun a hE=> ?_
  exact ae ⟨((IntKind.wrap .i64 (y1.1+((List.length (x2):Nat):Int))),(IntKind.wrap .i64 (y1.2+(1:Int)))),D3,hE.wk,hS,le3,hf⟩
 replace hf:=cf hb hf
 refine wpIn_exit ?_
 obtain rfl:=si hf
 exact⟨y1.1,D3,hE.wk,hS,le3,rfl⟩
set_option maxRecDepth 100000 in
theorem Q8.calls{K:Nat}{g w0:World}{D0:Snap}{x1:(List Int)}{A2:Option Addr}{c3:Nat}{q4:Blk}{r:((List Int))}(hf:Q8.f K x1=some r)(hS0:St g w0 D0 [q4])(h5:OwnD (YJ .u8) 5 D0 A2 c3 (x1) q4):
  CallsIn (Fw none) 0 Tryz.prog 134 (List.toArray [.slice A2 (List.length (x1)) c3]) w0 (fun e w'=>∃v,e= .returned v∧∃(D1:Snap) (q3:Blk),v= .tuple #[]∧Stp g w0 D0 [q4] w' D1 [q3]∧OwnD (YJ .u8) 5 D1 A2 c3 (r) q3):=by
 unfold Q8.f at hf
 have hS:=Stp.refl hS0
 clear hS0
 refine jG (n:=28) Tryz.func134 rfl Tryz.ntmps134 rfl fun a hE=> ?_
 have hE:Env a 28 [] [(0,.slice A2 (List.length (x1)) c3)]:=hE
 refine sq (ra ?_)
 refine sN 5 5 [(2,.int .i64 ((0:Int))),(3,.int .i64 ((IntKind.wrap .i64 (((List.length (x1):Nat):Int)-(1:Int)))))] hE fun a hE=> ?_
 refine ae ?_
 obtain⟨s1,hf,hs1⟩:=bs hf
 refine Zc (fun a w=>∃(z1:(List Int)),∃q2,∃D3,Env a 28 [] []∧Stp g w0 D0 [q4] w D3 [q2]∧Snap.le D0 D3∧OwnD (YJ .u8) 5 D3 A2 c3 (z1) q2∧z1=s1) (fun k a w=>∃(y1:(List Int)×Int×Int),∃q1,∃D2,Env a 28 [] [(0,.slice A2 (List.length (y1.1)) c3),(2,.int .i64 (y1.2.1)),(3,.int .i64 (y1.2.2))]∧Stp g w0 D0 [q4] w D2 [q1]∧Snap.le D0 D2∧OwnD (YJ .u8) 5 D2 A2 c3 (y1.1) q1∧Qw.l K k y1=some s1) K ?_ ?_ ?_
 ·exact⟨(x1,(0:Int),(IntKind.wrap .i64 (((List.length (x1):Nat):Int)-(1:Int)))),q4,D0,hE.wk,hS,lr,h5,hf⟩
 ·clear hE hS hf
  rintro a w ⟨z1,q2,D3,hE,hS,le2,h8,rfl⟩
  have hf:=hs1
  clear hs1
  obtain rfl:=si hf
  refine QsH ([]) hE (by rw[show Tryz.f134.results.toList= []from rfl];exact rfl) ?_
  exact⟨_,rfl,D3,q2,rfl,hS,h8⟩
 clear hE hS hf
 rintro k a w ⟨y1,q1,D2,hE,hS,le1,h1,hf⟩
 obtain⟨k,rfl,hf⟩:=Qw.some hf
 refine⟨k,rfl,?_⟩
 unfold Qw.b at hf
 refine sq (sq (ra ?_))
 refine sN 3 3 [(9,.bool ((decide (y1.2.1<y1.2.2))))] hE fun a hE=> ?_
 refine ae ?_
 refine JD hE (b:=(decide (y1.2.1<y1.2.2))) rfl (fun hb=> ?_) (fun hb=> ?_)
 ·replace hf:=ct hb hf
  refine wpIn_skip ?_
  refine sq ?_
  refine wpIn_block ?_
  refine QlQ (fun j=>qC (mfOf [(13,ids [q1]),(15,ids [q1])] j)) (by kernel_rfl) ?_
  have hS:=hS.drew
  first|generalize w.drew=w at hS⊢ |generalize w0.drew=w at hS⊢
  refine wP 0 1 15 (.slice A2 (List.length (y1.1)) c3) hE fun a hE=> ?_
  refine wP 1 3 14 (.int .i64 (y1.2.1)) hE fun a hE=> ?_
  refine wP 2 7 13 (.slice A2 (List.length (y1.1)) c3) hE fun a hE=> ?_
  refine wP 3 15 12 (.int .i64 (y1.2.2)) hE fun a hE=> ?_
  refine wP 4 31 11 (.slice A2 (List.length (y1.1)) c3) hE fun a hE=> ?_
  refine wP 5 63 10 (.int .i64 (y1.2.2)) hE fun a hE=> ?_
  refine wP 8 319 9 (.slice A2 (List.length (y1.1)) c3) hE fun a hE=> ?_
  refine wP 9 831 8 (.int .i64 (y1.2.1)) hE fun a hE=> ?_
  obtain⟨x2,h2,hf⟩:=bs hf
  refine tW 6 895 (fuel:=7) (by kernel_rfl) hE (fun M=>QbT (K:=(YJ .u8)) (T:=5) (by_:=1) (zl:=1) rfl rfl rfl rfl hE rfl rfl rfl (by kernel_rfl) h1 h2 (fun a b1 u2 hq hE=> ?_))
  subst hq
  obtain⟨cs1,C1,hr1,hb1,hc1⟩:=OwnD.cell h1 h2
  obtain rfl:=hr1
  refine tT 7 1023 (fuel:=6) (by kernel_rfl) hE (Qnf 0 (off0:=Int.toNat (y1.2.2)*1) (off:=0) (c:= [.int .u8 (x2)]) (Cl:=C1) (T:=5) (fr:=(0,0)) (.int .u8 (x2)) rfl rfl rfl rfl hE rfl hS rfl (by rw[hb1];rfl) hc1 (by kernel_rfl) (kL (j:=0) hS rfl List.not_mem_nil) (fun a hE=> ?_))
  obtain⟨x3,h3,hf⟩:=bs hf
  refine tW 10 2047 (fuel:=5) (by kernel_rfl) hE (fun M=>QbT (K:=(YJ .u8)) (T:=5) (by_:=1) (zl:=1) rfl rfl rfl rfl hE rfl rfl rfl (by kernel_rfl) h1 h3 (fun a b2 u3 hq hE=> ?_))
  obtain⟨rfl,rfl⟩:=Qge hq
  obtain⟨cs2,C2,hr2,hb2,hc2⟩:=OwnD.cell h1 h3
  obtain rfl:=hr2
  refine tT 11 4095 (fuel:=4) (by kernel_rfl) hE (Qnf 0 (off0:=Int.toNat (y1.2.1)*1) (off:=0) (c:= [.int .u8 (x3)]) (Cl:=C2) (T:=5) (fr:=(0,0)) (.int .u8 (x3)) rfl rfl rfl rfl hE rfl hS rfl (by rw[hb2];rfl) hc2 (by kernel_rfl) (kL (j:=0) hS rfl List.not_mem_nil) (fun a hE=> ?_))
  obtain⟨x4,h4,hf⟩:=bs hf
  refine tW 12 8191 (fuel:=3) (by kernel_rfl) hE (fun M=>QbT (K:=(YJ .u8)) (T:=5) (by_:=1) (zl:=1) rfl rfl rfl rfl hE rfl rfl rfl (by kernel_rfl) h1 h4 (fun a b3 u4 hq hE=> ?_))
  obtain⟨rfl,rfl⟩:=Qge hq
  refine oG 13 16383 (fuel:=2) (by kernel_rfl) (Qgf (K:=(YJ .u8)) (T:=5) (l:=y1.1) (x2) rfl rfl rfl rfl hE hS h1 rfl rfl (Quo h4) (rfl) (by kernel_rfl) (by kernel_rfl) (fun a u5 w hkp hE h6 hS=>⟨hkp.mono (fun _ h=>h),?_⟩))
  clear hkp
  have hE:Env a 28 [] [(0,.slice A2 (List.length ((List.set (y1.1) (Int.toNat (y1.2.1)) (x2)))) c3),(2,.int .i64 (y1.2.1)),(3,.int .i64 (y1.2.2)),(9,.bool ((decide (y1.2.1<y1.2.2)))),(14,.slice A2 (List.length ((List.set (y1.1) (Int.toNat (y1.2.1)) (x2)))) c3),(15,.int .i64 (y1.2.1)),(16,.slice A2 (List.length ((List.set (y1.1) (Int.toNat (y1.2.1)) (x2)))) c3),(17,.int .i64 (y1.2.2)),(18,.slice A2 (List.length ((List.set (y1.1) (Int.toNat (y1.2.1)) (x2)))) c3),(19,.int .i64 (y1.2.2)),(20,.pointer (some ⟨b1,Int.toNat (y1.2.2)*1,none⟩)),(21,.int .u8 (x2)),(22,.slice A2 (List.length ((List.set (y1.1) (Int.toNat (y1.2.1)) (x2)))) c3),(23,.int .i64 (y1.2.1)),(24,.pointer (some ⟨b1,Int.toNat (y1.2.1)*1,none⟩)),(25,.int .u8 (x3)),(26,.pointer (some ⟨b1,Int.toNat (y1.2.1)*1,none⟩))]:=by have h:=hE.weak (E':= [(0,.slice A2 (List.length (y1.1)) c3),(2,.int .i64 (y1.2.1)),(3,.int .i64 (y1.2.2)),(9,.bool ((decide (y1.2.1<y1.2.2)))),(14,.slice A2 (List.length (y1.1)) c3),(15,.int .i64 (y1.2.1)),(16,.slice A2 (List.length (y1.1)) c3),(17,.int .i64 (y1.2.2)),(18,.slice A2 (List.length (y1.1)) c3),(19,.int .i64 (y1.2.2)),(20,.pointer (some ⟨b1,Int.toNat (y1.2.2)*1,none⟩)),(21,.int .u8 (x2)),(22,.slice A2 (List.length (y1.1)) c3),(23,.int .i64 (y1.2.1)),(24,.pointer (some ⟨b1,Int.toNat (y1.2.1)*1,none⟩)),(25,.int .u8 (x3)),(26,.pointer (some ⟨b1,Int.toNat (y1.2.1)*1,none⟩))]) (by kernel_rfl);simpa only[List.length_set] using h
  obtain⟨x5,h7,hf⟩:=bs hf
  refine tW 14 32767 (fuel:=1) (by kernel_rfl) hE (fun M=>QbT (K:=(YJ .u8)) (T:=5) (by_:=1) (zl:=1) rfl rfl rfl rfl hE rfl rfl rfl (by kernel_rfl) h6 h7 (fun a b4 u6 hq hE=> ?_))
  obtain⟨rfl,rfl⟩:=Qge hq
  refine oG 15 65535 (fuel:=0) (by kernel_rfl) (Qgf (K:=(YJ .u8)) (T:=5) (l:=(List.set (y1.1) (Int.toNat (y1.2.1)) (x2))) (x3) rfl rfl rfl rfl hE hS h6 rfl rfl (Quo h7) (rfl) (by kernel_rfl) (by kernel_rfl) (fun a u1 w hkp hE h9 hS=>⟨hkp.mono (fun _ h=>h),?_⟩))
  clear hkp
  have hE:Env a 28 [] [(0,.slice A2 (List.length ((List.set ((List.set (y1.1) (Int.toNat (y1.2.1)) (x2))) (Int.toNat (y1.2.2)) (x3)))) c3),(2,.int .i64 (y1.2.1)),(3,.int .i64 (y1.2.2)),(9,.bool ((decide (y1.2.1<y1.2.2)))),(14,.slice A2 (List.length ((List.set ((List.set (y1.1) (Int.toNat (y1.2.1)) (x2))) (Int.toNat (y1.2.2)) (x3)))) c3),(15,.int .i64 (y1.2.1)),(16,.slice A2 (List.length ((List.set ((List.set (y1.1) (Int.toNat (y1.2.1)) (x2))) (Int.toNat (y1.2.2)) (x3)))) c3),(17,.int .i64 (y1.2.2)),(18,.slice A2 (List.length ((List.set ((List.set (y1.1) (Int.toNat (y1.2.1)) (x2))) (Int.toNat (y1.2.2)) (x3)))) c3),(19,.int .i64 (y1.2.2)),(20,.pointer (some ⟨b1,Int.toNat (y1.2.2)*1,none⟩)),(21,.int .u8 (x2)),(22,.slice A2 (List.length ((List.set ((List.set (y1.1) (Int.toNat (y1.2.1)) (x2))) (Int.toNat (y1.2.2)) (x3)))) c3),(23,.int .i64 (y1.2.1)),(24,.pointer (some ⟨b1,Int.toNat (y1.2.1)*1,none⟩)),(25,.int .u8 (x3)),(26,.pointer (some ⟨b1,Int.toNat (y1.2.1)*1,none⟩)),(27,.pointer (some ⟨b1,Int.toNat (y1.2.2)*1,none⟩))]:=by have h:=hE.weak (E':= [(0,.slice A2 (List.length ((List.set (y1.1) (Int.toNat (y1.2.1)) (x2)))) c3),(2,.int .i64 (y1.2.1)),(3,.int .i64 (y1.2.2)),(9,.bool ((decide (y1.2.1<y1.2.2)))),(14,.slice A2 (List.length ((List.set (y1.1) (Int.toNat (y1.2.1)) (x2)))) c3),(15,.int .i64 (y1.2.1)),(16,.slice A2 (List.length ((List.set (y1.1) (Int.toNat (y1.2.1)) (x2)))) c3),(17,.int .i64 (y1.2.2)),(18,.slice A2 (List.length ((List.set (y1.1) (Int.toNat (y1.2.1)) (x2)))) c3),(19,.int .i64 (y1.2.2)),(20,.pointer (some ⟨b1,Int.toNat (y1.2.2)*1,none⟩)),(21,.int .u8 (x2)),(22,.slice A2 (List.length ((List.set (y1.1) (Int.toNat (y1.2.1)) (x2)))) c3),(23,.int .i64 (y1.2.1)),(24,.pointer (some ⟨b1,Int.toNat (y1.2.1)*1,none⟩)),(25,.int .u8 (x3)),(26,.pointer (some ⟨b1,Int.toNat (y1.2.1)*1,none⟩)),(27,.pointer (some ⟨b1,Int.toNat (y1.2.2)*1,none⟩))]) (by kernel_rfl);simpa only[List.length_set] using h
  refine doneG (by kernel_rfl) ?_
  refine ra ?_
  refine sN 6 6 [(2,.int .i64 ((IntKind.wrap .i64 (y1.2.1+(1:Int))))),(3,.int .i64 ((IntKind.wrap .i64 (y1.2.2-(1:Int)))))] hE fun a hE=> ?_
  exact ae ⟨((List.set ((List.set (y1.1) (Int.toNat (y1.2.1)) (x2))) (Int.toNat (y1.2.2)) (x3)),(IntKind.wrap .i64 (y1.2.1+(1:Int))),(IntKind.wrap .i64 (y1.2.2-(1:Int)))),(some (b1,u1)),D2,hE.wk,hS,le1,h9,hf⟩
 replace hf:=cf hb hf
 refine wpIn_exit ?_
 obtain rfl:=si hf
 exact⟨y1.1,q1,D2,hE.wk,hS,le1,h1,rfl⟩
set_option maxRecDepth 100000 in
theorem Yd.calls{K:Nat}{g w0:World}{D0:Snap}{x1:(List Int)}{A2:Option Addr}{c3:Nat}{r:((List Int))}(hf:Yd.f K x1=some r)(hS0:St g w0 D0 [])(h4:Sl (YJ .u8) D0 A2 c3 (x1)):
  CallsIn (Fw none) 0 Tryz.prog 111 (List.toArray [.slice A2 (List.length (x1)) c3]) w0 (fun e w'=>∃v,e= .returned v∧∃(D1:Snap) (A16:Option Addr) (c17:Nat) (q18:Blk),v= .slice A16 (List.length (r)) c17∧Stp g w0 D0 [] w' D1 [q18]∧OwnD (YJ .u8) 5 D1 A16 c17 (r) q18):=by
 unfold Yd.f at hf
 have hS:=Stp.refl hS0
 clear hS0
 refine jG (n:=8) Tryz.func111 rfl Tryz.ntmps111 rfl fun a hE=> ?_
 have hE:Env a 8 [] [(0,.slice A2 (List.length (x1)) c3)]:=hE
 refine sq (ra ?_)
 refine sN 1 1 [(2,.slice none 0 0)] hE fun a hE=> ?_
 refine ae ?_
 refine sq (sq (ra ?_))
 refine sN 1 1 [(3,.slice A2 (List.length (x1)) c3)] hE fun a hE=> ?_
 refine JY (Qa1 hE (Qdx (r:= .bool ((Option.isNone A2))) rfl rfl rfl rfl hE rfl rfl rfl (QbU (by kernel_rfl) _ _ _) (fun a hE=> ?_))) rfl
 refine ae ?_
 refine JD hE (b:=(Option.isNone A2)) rfl (fun hb=> ?_) (fun hb=> ?_)
 ·have hx:=Sl.of_none h4 hb rfl
  rw[hx]at hf
  replace hf:(some ([]:List Int))=some r:=hf
  refine sq (ra ?_)
  refine sN 1 1 [(2,.slice none 0 0)] hE fun a hE=> ?_
  refine ae ?_
  refine wpIn_ret ?_
  have hS:=hS.nils
  obtain rfl:=si hf
  refine ret_ ?_
  refine rT 2 (.slice none 0 0) hE ?_
  exact⟨_,rfl,D0,none,0,none,rfl,hS,(OwnD.nil (YJ .u8) 5 D0)⟩
 refine wpIn_skip ?_
 refine sq (ra ?_)
 refine JY (yS (K:=(YJ .u8)) (e:=5) (cs:= []) ([]:List Int) rfl rfl rfl rfl hE rfl hS rfl (by kernel_rfl) rfl rfl (by exact rfl) (fun a A22 q23 w _ hE h24 hS=> ?_)) rfl
 refine sN 1 2 [(6,.slice A2 (List.length (x1)) c3)] hE fun a hE=> ?_
 obtain⟨l26,h27,hf⟩:=bs hf
 refine JY (Qa6 (K:=(YJ .u8)) (e:=5) (bytes:=1) (l:=([]:List Int)) (m:=x1) rfl rfl rfl rfl hE rfl hS rfl rfl (by kernel_rfl) rfl rfl h24 h4 h27 (fun a A28 c29 q30 w _ hE h31 hS=> ?_)) rfl
 refine sN 1 4 [(2,.slice A28 (List.length (l26)) c29)] hE fun a hE=> ?_
 refine ae ?_
 refine wpIn_ret ?_
 obtain rfl:=si hf
 refine ret_ ?_
 refine rT 2 (.slice A28 (List.length (l26)) c29) hE ?_
 exact⟨_,rfl,D0,A28,c29,q30,rfl,hS,h31⟩
set_option maxRecDepth 100000 in
theorem Yh.calls{K:Nat}{g w0:World}{D0:Snap}{x1:(List QO)}{A2:Option Addr}{c3:Nat}{r:((List QO))}(hf:Yh.f K x1=some r)(hS0:St g w0 D0 [])(h4:Sl J3 D0 A2 c3 (x1)):
  CallsIn (Fw none) 0 Tryz.prog 157 (List.toArray [.slice A2 (List.length (x1)) c3]) w0 (fun e w'=>∃v,e= .returned v∧∃(D1:Snap) (A16:Option Addr) (c17:Nat) (q18:Blk),v= .slice A16 (List.length (r)) c17∧Stp g w0 D0 [] w' D1 [q18]∧OwnD J3 107 D1 A16 c17 (r) q18):=by
 unfold Yh.f at hf
 have hS:=Stp.refl hS0
 clear hS0
 refine jG (n:=8) Tryz.func157 rfl Tryz.ntmps157 rfl fun a hE=> ?_
 have hE:Env a 8 [] [(0,.slice A2 (List.length (x1)) c3)]:=hE
 refine sq (ra ?_)
 refine sN 1 1 [(2,.slice none 0 0)] hE fun a hE=> ?_
 refine ae ?_
 refine sq (sq (ra ?_))
 refine sN 1 1 [(3,.slice A2 (List.length (x1)) c3)] hE fun a hE=> ?_
 refine JY (Qa1 hE (Qdx (r:= .bool ((Option.isNone A2))) rfl rfl rfl rfl hE rfl rfl rfl (QbU (by kernel_rfl) _ _ _) (fun a hE=> ?_))) rfl
 refine ae ?_
 refine JD hE (b:=(Option.isNone A2)) rfl (fun hb=> ?_) (fun hb=> ?_)
 ·have hx:=Sl.of_none h4 hb rfl
  rw[hx]at hf
  replace hf:(some ([]:List QO))=some r:=hf
  refine sq (ra ?_)
  refine sN 1 1 [(2,.slice none 0 0)] hE fun a hE=> ?_
  refine ae ?_
  refine wpIn_ret ?_
  have hS:=hS.nils
  obtain rfl:=si hf
  refine ret_ ?_
  refine rT 2 (.slice none 0 0) hE ?_
  exact⟨_,rfl,D0,none,0,none,rfl,hS,(OwnD.nil J3 107 D0)⟩
 refine wpIn_skip ?_
 refine sq (ra ?_)
 refine JY (yS (K:=J3) (e:=107) (cs:= []) ([]:List QO) rfl rfl rfl rfl hE rfl hS rfl (by kernel_rfl) rfl rfl (by exact rfl) (fun a A22 q23 w _ hE h24 hS=> ?_)) rfl
 refine sN 1 2 [(6,.slice A2 (List.length (x1)) c3)] hE fun a hE=> ?_
 obtain⟨l26,h27,hf⟩:=bs hf
 refine JY (Qa6 (K:=J3) (e:=107) (bytes:=40) (l:=([]:List QO)) (m:=x1) rfl rfl rfl rfl hE rfl hS rfl rfl (by kernel_rfl) rfl rfl h24 h4 h27 (fun a A28 c29 q30 w _ hE h31 hS=> ?_)) rfl
 refine sN 1 4 [(2,.slice A28 (List.length (l26)) c29)] hE fun a hE=> ?_
 refine ae ?_
 refine wpIn_ret ?_
 obtain rfl:=si hf
 refine ret_ ?_
 refine rT 2 (.slice A28 (List.length (l26)) c29) hE ?_
 exact⟨_,rfl,D0,A28,c29,q30,rfl,hS,h31⟩
set_option maxRecDepth 100000 in
theorem QJ.calls{K:Nat}{g w0:World}{D0:Snap}{x1:(List Qp)}{A2:Option Addr}{c3:Nat}{r:((List Qp))}(hf:QJ.f K x1=some r)(hS0:St g w0 D0 [])(h4:Sl J4 D0 A2 c3 (x1)):
  CallsIn (Fw none) 0 Tryz.prog 62 (List.toArray [.slice A2 (List.length (x1)) c3]) w0 (fun e w'=>∃v,e= .returned v∧∃(D1:Snap) (A16:Option Addr) (c17:Nat) (q18:Blk),v= .slice A16 (List.length (r)) c17∧Stp g w0 D0 [] w' D1 [q18]∧OwnD J4 90 D1 A16 c17 (r) q18):=by
 unfold QJ.f at hf
 have hS:=Stp.refl hS0
 clear hS0
 refine jG (n:=8) Tryz.func62 rfl Tryz.ntmps62 rfl fun a hE=> ?_
 have hE:Env a 8 [] [(0,.slice A2 (List.length (x1)) c3)]:=hE
 refine sq (ra ?_)
 refine sN 1 1 [(2,.slice none 0 0)] hE fun a hE=> ?_
 refine ae ?_
 refine sq (sq (ra ?_))
 refine sN 1 1 [(3,.slice A2 (List.length (x1)) c3)] hE fun a hE=> ?_
 refine JY (Qa1 hE (Qdx (r:= .bool ((Option.isNone A2))) rfl rfl rfl rfl hE rfl rfl rfl (QbU (by kernel_rfl) _ _ _) (fun a hE=> ?_))) rfl
 refine ae ?_
 refine JD hE (b:=(Option.isNone A2)) rfl (fun hb=> ?_) (fun hb=> ?_)
 ·have hx:=Sl.of_none h4 hb rfl
  rw[hx]at hf
  replace hf:(some ([]:List Qp))=some r:=hf
  refine sq (ra ?_)
  refine sN 1 1 [(2,.slice none 0 0)] hE fun a hE=> ?_
  refine ae ?_
  refine wpIn_ret ?_
  have hS:=hS.nils
  obtain rfl:=si hf
  refine ret_ ?_
  refine rT 2 (.slice none 0 0) hE ?_
  exact⟨_,rfl,D0,none,0,none,rfl,hS,(OwnD.nil J4 90 D0)⟩
 refine wpIn_skip ?_
 refine sq (ra ?_)
 refine JY (yS (K:=J4) (e:=90) (cs:= []) ([]:List Qp) rfl rfl rfl rfl hE rfl hS rfl (by kernel_rfl) rfl rfl (by exact rfl) (fun a A22 q23 w _ hE h24 hS=> ?_)) rfl
 refine sN 1 2 [(6,.slice A2 (List.length (x1)) c3)] hE fun a hE=> ?_
 obtain⟨l26,h27,hf⟩:=bs hf
 refine JY (Qa6 (K:=J4) (e:=90) (bytes:=16) (l:=([]:List Qp)) (m:=x1) rfl rfl rfl rfl hE rfl hS rfl rfl (by kernel_rfl) rfl rfl h24 h4 h27 (fun a A28 c29 q30 w _ hE h31 hS=> ?_)) rfl
 refine sN 1 4 [(2,.slice A28 (List.length (l26)) c29)] hE fun a hE=> ?_
 refine ae ?_
 refine wpIn_ret ?_
 obtain rfl:=si hf
 refine ret_ ?_
 refine rT 2 (.slice A28 (List.length (l26)) c29) hE ?_
 exact⟨_,rfl,D0,A28,c29,q30,rfl,hS,h31⟩
set_option maxRecDepth 100000 in
theorem Q3.calls{K:Nat}{g w0:World}{D0:Snap}{x1:(List QL)}{A2:Option Addr}{c3:Nat}{r:((List QL))}(hf:Q3.f K x1=some r)(hS0:St g w0 D0 [])(h4:Sl qR D0 A2 c3 (x1)):
  CallsIn (Fw none) 0 Tryz.prog 206 (List.toArray [.slice A2 (List.length (x1)) c3]) w0 (fun e w'=>∃v,e= .returned v∧∃(D1:Snap) (A16:Option Addr) (c17:Nat) (q18:Blk),v= .slice A16 (List.length (r)) c17∧Stp g w0 D0 [] w' D1 [q18]∧OwnD qR 152 D1 A16 c17 (r) q18):=by
 unfold Q3.f at hf
 have hS:=Stp.refl hS0
 clear hS0
 refine jG (n:=8) Tryz.func206 rfl Tryz.ntmps206 rfl fun a hE=> ?_
 have hE:Env a 8 [] [(0,.slice A2 (List.length (x1)) c3)]:=hE
 refine sq (ra ?_)
 refine sN 1 1 [(2,.slice none 0 0)] hE fun a hE=> ?_
 refine ae ?_
 refine sq (sq (ra ?_))
 refine sN 1 1 [(3,.slice A2 (List.length (x1)) c3)] hE fun a hE=> ?_
 refine JY (Qa1 hE (Qdx (r:= .bool ((Option.isNone A2))) rfl rfl rfl rfl hE rfl rfl rfl (QbU (by kernel_rfl) _ _ _) (fun a hE=> ?_))) rfl
 refine ae ?_
 refine JD hE (b:=(Option.isNone A2)) rfl (fun hb=> ?_) (fun hb=> ?_)
 ·have hx:=Sl.of_none h4 hb rfl
  rw[hx]at hf
  replace hf:(some ([]:List QL))=some r:=hf
  refine sq (ra ?_)
  refine sN 1 1 [(2,.slice none 0 0)] hE fun a hE=> ?_
  refine ae ?_
  refine wpIn_ret ?_
  have hS:=hS.nils
  obtain rfl:=si hf
  refine ret_ ?_
  refine rT 2 (.slice none 0 0) hE ?_
  exact⟨_,rfl,D0,none,0,none,rfl,hS,(OwnD.nil qR 152 D0)⟩
 refine wpIn_skip ?_
 refine sq (ra ?_)
 refine JY (yS (K:=qR) (e:=152) (cs:= []) ([]:List QL) rfl rfl rfl rfl hE rfl hS rfl (by kernel_rfl) rfl rfl (by exact rfl) (fun a A22 q23 w _ hE h24 hS=> ?_)) rfl
 refine sN 1 2 [(6,.slice A2 (List.length (x1)) c3)] hE fun a hE=> ?_
 obtain⟨l26,h27,hf⟩:=bs hf
 refine JY (Qa6 (K:=qR) (e:=152) (bytes:=88) (l:=([]:List QL)) (m:=x1) rfl rfl rfl rfl hE rfl hS rfl rfl (by kernel_rfl) rfl rfl h24 h4 h27 (fun a A28 c29 q30 w _ hE h31 hS=> ?_)) rfl
 refine sN 1 4 [(2,.slice A28 (List.length (l26)) c29)] hE fun a hE=> ?_
 refine ae ?_
 refine wpIn_ret ?_
 obtain rfl:=si hf
 refine ret_ ?_
 refine rT 2 (.slice A28 (List.length (l26)) c29) hE ?_
 exact⟨_,rfl,D0,A28,c29,q30,rfl,hS,h31⟩
end Go.Proofs.YtomndohdnfebgaaGreatDoor
