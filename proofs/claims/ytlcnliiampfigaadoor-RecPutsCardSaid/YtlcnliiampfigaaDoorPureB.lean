/-
 Plain: the document's records: which are right, what commits, what is redacted, which are the same.
-/
import Derived.Test.YtlcnliiampfigaaDoorPureO
namespace Go.Proofs.YtlcnliiampfigaaDoor
open Go Go.Sep
theorem jn_val {α β : Type} {g : α → Option β} {f : (α → Option β) → Option β} (v : α) (h : ∀ j, f j = j v) : jn g f = g v := h g
theorem jn_exit {β : Type} {g : Unit → Option β} {f : (Unit → Option β) → Option β} (c : Bool) (e : Option β) (h : ∀ j, f j = bif c then e else j ()) : jn g f = bif c then e else g () := h g
theorem rin_eq {K : Nat} (a b c : Int) : inspeximusref04_in.f K a b c = some (inn a b c) := by
 unfold inspeximusref04_in.f inn
 cases decide (b ≤ a) <;> rfl
theorem rsteps_bad {K : Nat} {x : Rc} (hK : x.fSteps.length < K) (hl : x.fSteps.length < 1000000000000) : inspeximusref04_Right_l1.l K x K 0 = some (bif x.fSteps.all stepOk then .inr () else .inl false) := by
 have hL := loop_all (L := inspeximusref04_Right_l1.l K x) (fun (_ : Unit) (i : Nat) => (i : Int)) x.fSteps (fun _ i s => some (bif stepOk s then .inr () else .inl (.inl false))) (fun _ => some (.inr ())) () hK
  (fun k s => by
   show inspeximusref04_Right_l1.b K x (inspeximusref04_Right_l1.l K x k) _ = _
   unfold inspeximusref04_Right_l1.b
   rw [bif_false (dec_f (by simp))])
  (fun k s i y hi hy => by
   show inspeximusref04_Right_l1.b K x (inspeximusref04_Right_l1.l K x k) _ = _
   unfold inspeximusref04_Right_l1.b
   rw [bif_true (dec_t (by omega))]
   simp only [jn]
   rw [getI_lt hy]
   simp only [Option.bind_some, rin_eq]
   rw [wrap_succ (by omega)]
   unfold stepOk
   cases inn y.fPart 0 3 <;> cases inn y.fKind 1 3 <;> rfl)
 have hL : inspeximusref04_Right_l1.l K x K 0 = _ := hL
 obtain ⟨r1, r2⟩ := run_find (good := stepOk) (v := fun _ => false) (l := x.fSteps) (s := ()) (i := 0) (f := fun _ i s => some (bif stepOk s then .inr () else .inl (.inl false))) (fun s i x _ => rfl)
 cases hg : x.fSteps.all stepOk with
 | true => rw [hL, r1 hg]; rfl
 | false =>
  obtain ⟨j, _, _, hj⟩ := r2 hg
  rw [hL, hj]; rfl
def rv1 (x : Rc) : Bool := decide (x.fKind < 1) || (decide (6 < x.fKind) || (!inn x.fSaga 0 11 || (decide (x.fKind = 6) && !decide (x.fSaga = 0))))
def rs2 (x : Rc) : Bool := bif inn x.fKind 2 4 || decide (x.fKind = 5) then inn x.fSeq 1 400 else decide (x.fSeq = 0)
def rv3 (x : Rc) : Bool := bif inn x.fKind 2 4 then !inn x.fStep 0 5 || !inn x.fTry 1 9 else (!decide (x.fStep = 0) || (!decide (x.fTry = 0) || x.fBack))
def rv4 (x : Rc) : Bool := (!decide (x.fKind = 3) && (x.fGood || !decide (x.fTag = Vector.replicate 32 (0 : Int)))) || ((decide (x.fKind = 5) && !inn x.fEnd 2 4) || (!decide (x.fKind = 5) && !decide (x.fEnd = 0)))
def rv5 (x : Rc) : Bool := (decide (x.fKind = 3) && (!inn x.fPart 0 3 || !inn x.fEpoch 0 400)) || (decide (x.fKind = 6) && (!inn x.fPart 0 3 || !inn x.fEpoch 1 400))
def rv6 (x : Rc) : Bool := !decide (x.fKind = 3) && (!decide (x.fKind = 6) && (!decide (x.fPart = 0) || !decide (x.fEpoch = 0)))
def rE (x : Rc) : Bool := decide ((x.fSteps.length : Int) = 0) && (decide ((x.fData.length : Int) = 0) && (decide (x.fSalt = Vector.replicate 32 (0 : Int)) && (!x.fGone && decide (x.fCom = Vector.replicate 32 (0 : Int)))))
def rT (x : Rc) : Bool := x.fSteps.all stepOk && (inn (x.fSteps.length : Int) 1 6 && (!decide ((60 : Int) < (x.fData.length : Int)) && (bif x.fGone then decide ((x.fData.length : Int) = 0) && decide (x.fSalt = Vector.replicate 32 (0 : Int)) else decide (x.fCom = Vector.replicate 32 (0 : Int)))))
def refS (x : Rc) : Bool := bif rv1 x then false else bif !rs2 x then false else bif rv3 x then false else bif rv4 x then false else bif rv5 x then false else bif rv6 x then false else bif !decide (x.fKind = 1) then rE x else rT x
theorem refR_eq {K : Nat} {x : Rc} (hK : x.fSteps.length < K) (hl : x.fSteps.length < 1000000000000) : inspeximusref04_Right.f K x = some (refS x) := by
 unfold inspeximusref04_Right.f
 simp only [rin_eq, Option.bind_some, rsteps_bad hK hl]
 refine Eq.trans (jn_val (inn x.fKind 2 4) (fun j => by unfold inn; cases decide (2 ≤ x.fKind) <;> rfl)) ?_
 try dsimp only
 refine Eq.trans (jn_val (rv1 x) (fun j => by
  unfold rv1
  cases decide (x.fKind < 1) <;> cases decide (6 < x.fKind) <;> cases inn x.fSaga 0 11 <;> cases decide (x.fKind = 6) <;> rfl)) ?_
 try dsimp only
 unfold refS
 cases rv1 x
 case true => rfl
 simp only [cond_false]
 refine Eq.trans (jn_exit (!rs2 x) (some false) (fun j => by
  refine Eq.trans (jn_val (inn x.fKind 2 4 || decide (x.fKind = 5)) (fun j => by cases inn x.fKind 2 4 <;> rfl)) ?_
  try dsimp only
  unfold rs2
  cases (inn x.fKind 2 4 || decide (x.fKind = 5)) <;> rfl)) ?_
 try dsimp only
 cases rs2 x
 case false => rfl
 simp only [Bool.not_true, cond_false]
 refine Eq.trans (jn_val (rv3 x) (fun j => by
  unfold rv3
  cases inn x.fKind 2 4 <;> cases inn x.fStep 0 5 <;> cases inn x.fTry 1 9 <;> cases decide (x.fStep = 0) <;> cases decide (x.fTry = 0) <;> rfl)) ?_
 try dsimp only
 cases rv3 x
 case true => rfl
 simp only [cond_false]
 refine Eq.trans (jn_val (rv4 x) (fun j => by
  unfold rv4
  cases decide (x.fKind = 3) <;> cases decide (x.fKind = 5) <;> cases x.fGood <;> cases inn x.fEnd 2 4 <;> cases decide (x.fTag = Vector.replicate 32 (0 : Int)) <;> rfl)) ?_
 try dsimp only
 cases rv4 x
 case true => rfl
 simp only [cond_false]
 refine Eq.trans (jn_val (rv5 x) (fun j => by
  unfold rv5
  cases decide (x.fKind = 3) <;> cases decide (x.fKind = 6) <;> cases inn x.fPart 0 3 <;> cases inn x.fEpoch 0 400 <;> cases inn x.fEpoch 1 400 <;> rfl)) ?_
 try dsimp only
 cases rv5 x
 case true => rfl
 simp only [cond_false]
 refine Eq.trans (jn_val (rv6 x) (fun j => by
  unfold rv6
  cases decide (x.fKind = 3) <;> cases decide (x.fKind = 6) <;> cases decide (x.fPart = 0) <;> rfl)) ?_
 try dsimp only
 cases rv6 x
 case true => rfl
 simp only [cond_false]
 cases decide (x.fKind = 1)
 ·simp only [Bool.not_false, cond_true]
  unfold rE jn
  cases decide ((x.fSteps.length : Int) = 0) <;> cases decide ((x.fData.length : Int) = 0) <;> cases decide (x.fSalt = Vector.replicate 32 (0 : Int)) <;> cases x.fGone <;> rfl
 ·simp only [Bool.not_true, cond_false]
  unfold rT
  cases x.fSteps.all stepOk
  case false => rfl
  simp only [cond_true]
  refine Eq.trans (jn_val (!inn (x.fSteps.length : Int) 1 6 || decide ((60 : Int) < (x.fData.length : Int))) (fun j => by cases inn (x.fSteps.length : Int) 1 6 <;> rfl)) ?_
  try dsimp only
  cases inn (x.fSteps.length : Int) 1 6 <;> cases decide ((60 : Int) < (x.fData.length : Int)) <;> cases x.fGone <;> cases decide ((x.fData.length : Int) = 0) <;> rfl
theorem refS_right (x : Rc) : refS x = rightS x := by
 rw [Bool.eq_iff_iff]
 obtain ⟨k, saga, seq, step, try_, back, good, end_, part, epoch, tag, steps, data, salt, gone, com⟩ := x
 unfold refS rightS rangesS rv1 rs2 rv3 rv4 rv5 rv6 rE rT keptS inn
 simp only
 by_cases k1 : k = 1
 ·subst k1
  cases gone <;> simp [T_api_Rec.mk.injEq] <;> grind
 by_cases k2 : k = 2
 ·subst k2
  simp [T_api_Rec.mk.injEq] <;> grind
 by_cases k3 : k = 3
 ·subst k3
  simp [T_api_Rec.mk.injEq] <;> grind
 by_cases k4 : k = 4
 ·subst k4
  simp [T_api_Rec.mk.injEq] <;> grind
 by_cases k5 : k = 5
 ·subst k5
  simp [T_api_Rec.mk.injEq] <;> grind
 by_cases k6 : k = 6
 ·subst k6
  simp [T_api_Rec.mk.injEq] <;> grind
 ·simp [k1, k2, k3, k4, k5, k6]
  grind
theorem rright_eq {K : Nat} {x : Rc} (hK : 1000000000000 ≤ K) (ho : okD x) : inspeximusref04_Right.f K x = some (rightS x) := by
 have := ho.2.2
 rw [refR_eq (by omega) (by omega), refS_right]
theorem ofR_eq {K : Nat} (hK : 1000000000000 ≤ K) {s : H32} {d : List Int} (hs : isB (vlist s)) (hd : isB d) (h : d.length ≤ 10000) : inspeximusref02_Of.f K 4 [vlist s, d] = some (ofS K s d) := by
 obtain ⟨r, h1, h2, _⟩ := of_same (K := K) hK (d := 4) (l := [vlist s, d]) (by simp) (fun x hx => by
  simp at hx
  rcases hx with rfl | rfl
  ·exact ⟨by rw [vlist_length]; omega, hs⟩
  ·exact ⟨h, hd⟩)
 have h3 := (ofS_eq hK (s := s) h).1
 rw [h1] at h3
 rw [h2, h3]
theorem rcom_eq {K : Nat} (hK : 1000000000000 ≤ K) {x : Rc} (ho : okD x) (hb : okB x) : inspeximusref04_Com.f K x = some (comS K x) := by
 unfold inspeximusref04_Com.f comS
 simp only [jn]
 rw [rright_eq hK ho, vz]
 simp only [Option.bind_some]
 cases hr : rightS x with
 | false =>
  have : begS x = false := by unfold begS; rw [hr]; rfl
  rw [this]; rfl
 | true =>
  simp only [Bool.not_true, cond_false]
  by_cases hk : x.fKind = 1
  ·have hbg : begS x = true := by unfold begS; rw [hr, dec_t hk]; rfl
   rw [hbg, dec_t hk]
   simp only [Bool.not_true, cond_false, cond_true]
   cases hg : x.fGone with
   | true => rfl
   | false =>
    simp only [cond_false]
    have h3 := ((rightD hr).beg hk).2.2
    have hs := subI_0 (l := vlist x.fSalt) (b := 32) (by rw [vlist_length]; omega)
    rw [List.take_of_length_le (by rw [vlist_length]; omega)] at hs
    refine bind_of hs ?_
    rw [ofR_eq hK (s := x.fSalt) (d := x.fData) hb.salt hb.data (by omega)]
    rfl
  ·have hbg : begS x = false := by unfold begS; rw [dec_f hk]; simp
   rw [hbg, dec_f hk]; rfl
end Go.Proofs.YtlcnliiampfigaaDoor
