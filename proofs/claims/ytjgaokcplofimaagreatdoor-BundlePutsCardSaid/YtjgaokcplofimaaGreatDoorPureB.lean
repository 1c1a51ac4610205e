/-
 Plain: the document's records: which are right, what commits, what is redacted, which are the same.
-/
import Derived.Test.YtjgaokcplofimaaGreatDoorPureRs
namespace Go.Proofs.YtjgaokcplofimaaGreatDoor
open Go Go.Sep
theorem jn_val {α β : Type} {g : α → Option β} {f : (α → Option β) → Option β} (v : α) (h : ∀ j, f j = j v) : jn g f = g v := h g
theorem jn_exit {β : Type} {g : Unit → Option β} {f : (Unit → Option β) → Option β} (c : Bool) (e : Option β) (h : ∀ j, f j = bif c then e else j ()) : jn g f = bif c then e else g () := h g
theorem rin_eq {K : Nat} (a b c : Int) : inspeximusref04_in.f K a b c = some (inn a b c) := by
 unfold inspeximusref04_in.f inn
 cases decide (b ≤ a) <;> rfl
theorem rsteps_bad {K : Nat} {x : Rc} (hK : x.fSteps.length < K) (hl : x.fSteps.length < 1000000000000) : inspeximusref04_Right_l1.l K x K 0 = some (bif x.fSteps.all stepOk then .inr () else .inl false) := by
 have hL := loop_all (L := inspeximusref04_Right_l1.l K x) (fun (_ : Unit) (i : Nat) => (i : Int)) x.fSteps (fun _ i s => some (bif stepOk s then .inr () else .inl (.inl false))) (fun _ => some (.inr ())) () hK
  (fun k s => by
   show inspeximusref04_Right_l1.b K x (inspeximusref04_Right_l1.l K x k) _ = _
   unfold inspeximusref04_Right_l1.b
   rw [bif_false (dec_f (by simp))])
  (fun k s i y hi hy => by
   show inspeximusref04_Right_l1.b K x (inspeximusref04_Right_l1.l K x k) _ = _
   unfold inspeximusref04_Right_l1.b
   rw [bif_true (dec_t (by omega))]
   simp only [jn]
   rw [getI_lt hy]
   simp only [Option.bind_some, rin_eq]
   rw [wrap_succ (by omega)]
   unfold stepOk
   cases inn y.fPart 0 3 <;> cases inn y.fKind 1 3 <;> rfl)
 have hL : inspeximusref04_Right_l1.l K x K 0 = _ := hL
 obtain ⟨r1, r2⟩ := run_find (good := stepOk) (v := fun _ => false) (l := x.fSteps) (s := ()) (i := 0) (f := fun _ i s => some (bif stepOk s then .inr () else .inl (.inl false))) (fun s i x _ => rfl)
 cases hg : x.fSteps.all stepOk with
 | true => rw [hL, r1 hg]; rfl
 | false =>
  obtain ⟨j, _, _, hj⟩ := r2 hg
  rw [hL, hj]; rfl
def rv1 (x : Rc) : Bool := decide (x.fKind < 1) || (decide (6 < x.fKind) || (!inn x.fSaga 0 11 || (decide (x.fKind = 6) && !decide (x.fSaga = 0))))
def rs2 (x : Rc) : Bool := bif inn x.fKind 2 4 || decide (x.fKind = 5) then inn x.fSeq 1 400 else decide (x.fSeq = 0)
def rv3 (x : Rc) : Bool := bif inn x.fKind 2 4 then !inn x.fStep 0 5 || !inn x.fTry 1 9 else (!decide (x.fStep = 0) || (!decide (x.fTry = 0) || x.fBack))
def rv4 (x : Rc) : Bool := (!decide (x.fKind = 3) && (x.fGood || !decide (x.fTag = Vector.replicate 32 (0 : Int)))) || ((decide (x.fKind = 5) && !inn x.fEnd 2 4) || (!decide (x.fKind = 5) && !decide (x.fEnd = 0)))
def rv5 (x : Rc) : Bool := (decide (x.fKind = 3) && (!inn x.fPart 0 3 || !inn x.fEpoch 0 400)) || (decide (x.fKind = 6) && (!inn x.fPart 0 3 || !inn x.fEpoch 1 400))
def rv6 (x : Rc) : Bool := !decide (x.fKind = 3) && (!decide (x.fKind = 6) && (!decide (x.fPart = 0) || !decide (x.fEpoch = 0)))
def rE (x : Rc) : Bool := decide ((x.fSteps.length : Int) = 0) && (decide ((x.fData.length : Int) = 0) && (decide (x.fSalt = Vector.replicate 32 (0 : Int)) && (!x.fGone && decide (x.fCom = Vector.replicate 32 (0 : Int)))))
def rT (x : Rc) : Bool := x.fSteps.all stepOk && (inn (x.fSteps.length : Int) 1 6 && (!decide ((60 : Int) < (x.fData.length : Int)) && (bif x.fGone then decide ((x.fData.length : Int) = 0) && decide (x.fSalt = Vector.replicate 32 (0 : Int)) else decide (x.fCom = Vector.replicate 32 (0 : Int)))))
def refS (x : Rc) : Bool := bif rv1 x then false else bif !rs2 x then false else bif rv3 x then false else bif rv4 x then false else bif rv5 x then false else bif rv6 x then false else bif !decide (x.fKind = 1) then rE x else rT x
theorem refR_eq {K : Nat} {x : Rc} (hK : x.fSteps.length < K) (hl : x.fSteps.length < 1000000000000) : inspeximusref04_Right.f K x = some (refS x) := by
 unfold inspeximusref04_Right.f
 simp only [rin_eq, Option.bind_some, rsteps_bad hK hl]
 refine Eq.trans (jn_val (inn x.fKind 2 4) (fun j => by unfold inn; cases decide (2 ≤ x.fKind) <;> rfl)) ?_
 try dsimp only
 refine Eq.trans (jn_val (rv1 x) (fun j => by
  unfold rv1
  cases decide (x.fKind < 1) <;> cases decide (6 < x.fKind) <;> cases inn x.fSaga 0 11 <;> cases decide (x.fKind = 6) <;> rfl)) ?_
 try dsimp only
 unfold refS
 cases rv1 x
 case true => rfl
 simp only [cond_false]
 refine Eq.trans (jn_exit (!rs2 x) (some false) (fun j => by
  refine Eq.trans (jn_val (inn x.fKind 2 4 || decide (x.fKind = 5)) (fun j => by cases inn x.fKind 2 4 <;> rfl)) ?_
  try dsimp only
  unfold rs2
  cases (inn x.fKind 2 4 || decide (x.fKind = 5)) <;> rfl)) ?_
 try dsimp only
 cases rs2 x
 case false => rfl
 simp only [Bool.not_true, cond_false]
 refine Eq.trans (jn_val (rv3 x) (fun j => by
  unfold rv3
  cases inn x.fKind 2 4 <;> cases inn x.fStep 0 5 <;> cases inn x.fTry 1 9 <;> cases decide (x.fStep = 0) <;> cases decide (x.fTry = 0) <;> rfl)) ?_
 try dsimp only
 cases rv3 x
 case true => rfl
 simp only [cond_false]
 refine Eq.trans (jn_val (rv4 x) (fun j => by
  unfold rv4
  cases decide (x.fKind = 3) <;> cases decide (x.fKind = 5) <;> cases x.fGood <;> cases inn x.fEnd 2 4 <;> cases decide (x.fTag = Vector.replicate 32 (0 : Int)) <;> rfl)) ?_
 try dsimp only
 cases rv4 x
 case true => rfl
 simp only [cond_false]
 refine Eq.trans (jn_val (rv5 x) (fun j => by
  unfold rv5
  cases decide (x.fKind = 3) <;> cases decide (x.fKind = 6) <;> cases inn x.fPart 0 3 <;> cases inn x.fEpoch 0 400 <;> cases inn x.fEpoch 1 400 <;> rfl)) ?_
 try dsimp only
 cases rv5 x
 case true => rfl
 simp only [cond_false]
 refine Eq.trans (jn_val (rv6 x) (fun j => by
  unfold rv6
  cases decide (x.fKind = 3) <;> cases decide (x.fKind = 6) <;> cases decide (x.fPart = 0) <;> rfl)) ?_
 try dsimp only
 cases rv6 x
 case true => rfl
 simp only [cond_false]
 cases decide (x.fKind = 1)
 ·simp only [Bool.not_false, cond_true]
  unfold rE jn
  cases decide ((x.fSteps.length : Int) = 0) <;> cases decide ((x.fData.length : Int) = 0) <;> cases decide (x.fSalt = Vector.replicate 32 (0 : Int)) <;> cases x.fGone <;> rfl
 ·simp only [Bool.not_true, cond_false]
  unfold rT
  cases x.fSteps.all stepOk
  case false => rfl
  simp only [cond_true]
  refine Eq.trans (jn_val (!inn (x.fSteps.length : Int) 1 6 || decide ((60 : Int) < (x.fData.length : Int))) (fun j => by cases inn (x.fSteps.length : Int) 1 6 <;> rfl)) ?_
  try dsimp only
  cases inn (x.fSteps.length : Int) 1 6 <;> cases decide ((60 : Int) < (x.fData.length : Int)) <;> cases x.fGone <;> cases decide ((x.fData.length : Int) = 0) <;> rfl
theorem refS_right (x : Rc) : refS x = rightS x := by
 rw [Bool.eq_iff_iff]
 obtain ⟨k, saga, seq, step, try_, back, good, end_, part, epoch, tag, steps, data, salt, gone, com⟩ := x
 unfold refS rightS rangesS rv1 rs2 rv3 rv4 rv5 rv6 rE rT keptS inn
 simp only
 by_cases k1 : k = 1
 ·subst k1
  cases gone <;> simp [T_api_Rec.mk.injEq] <;> grind
 by_cases k2 : k = 2
 ·subst k2
  simp [T_api_Rec.mk.injEq] <;> grind
 by_cases k3 : k = 3
 ·subst k3
  simp [T_api_Rec.mk.injEq] <;> grind
 by_cases k4 : k = 4
 ·subst k4
  simp [T_api_Rec.mk.injEq] <;> grind
 by_cases k5 : k = 5
 ·subst k5
  simp [T_api_Rec.mk.injEq] <;> grind
 by_cases k6 : k = 6
 ·subst k6
  simp [T_api_Rec.mk.injEq] <;> grind
 ·simp [k1, k2, k3, k4, k5, k6]
  grind
theorem rright_eq {K : Nat} {x : Rc} (hK : 1000000000000 ≤ K) (ho : okD x) : inspeximusref04_Right.f K x = some (rightS x) := by
 have := ho.2.2
 rw [refR_eq (by omega) (by omega), refS_right]
theorem rsteps_same {K : Nat} {l m : List Sp} (hK : l.length < K) (hl : l.length < 1000000000000) : inspeximusref04_Steps.f K l m = some (decide (l = m)) := by
 unfold inspeximusref04_Steps.f
 by_cases hlm : l.length = m.length
 ·rw [bif_false (by simp [hlm])]
  have hz : (l.zip m).length = l.length := by simp [hlm]
  have hL := loop_all (L := inspeximusref04_Steps_l1.l K l m) (fun (_ : Unit) (i : Nat) => (i : Int)) (l.zip m) (fun _ i x => some (bif decide (x.1 = x.2) then .inr () else .inl (.inl false))) (fun _ => some (.inr ())) () (by rw [hz]; exact hK)
   (fun k s => by
    show inspeximusref04_Steps_l1.b K l m (inspeximusref04_Steps_l1.l K l m k) _ = _
    unfold inspeximusref04_Steps_l1.b
    rw [bif_false (dec_f (by rw [hz]; simp))])
   (fun k s i x hi hx => by
    obtain ⟨hx1, hx2⟩ := zip_get hx
    show inspeximusref04_Steps_l1.b K l m (inspeximusref04_Steps_l1.l K l m k) _ = _
    unfold inspeximusref04_Steps_l1.b
    rw [bif_true (dec_t (by omega)), getI_lt hx1, getI_lt hx2]
    simp only [Option.bind_some]
    rw [wrap_succ (by omega)]
    have : (decide (x.1.fPart = x.2.fPart) && (decide (x.1.fKind = x.2.fKind) && true)) = decide (x.1 = x.2) := by
     rw [Bool.eq_iff_iff]
     obtain ⟨⟨a, b⟩, ⟨c, d⟩⟩ := x
     simp
    rw [this]
    cases decide (x.1 = x.2) <;> rfl)
  have hL : inspeximusref04_Steps_l1.l K l m K 0 = _ := hL
  obtain ⟨r1, r2⟩ := run_find (good := fun (x : Sp × Sp) => decide (x.1 = x.2)) (v := fun _ => false) (l := l.zip m) (s := ()) (i := 0) (f := fun _ i x => some (bif decide (x.1 = x.2) then .inr () else .inl (.inl false))) (fun s i x _ => rfl)
  rw [zip_all_eq hlm] at r1 r2
  cases hg : decide (l = m) with
  | true => rw [hL, r1 hg]; rfl
  | false =>
   obtain ⟨j, _, _, hj⟩ := r2 hg
   rw [hL, hj]; rfl
 ·rw [bif_true (by simp; omega), dec_f (fun e => hlm (by rw [e]))]
theorem rrec_same {K : Nat} (hK : 1000000000000 ≤ K) {a b : Rc} (ha : okD a) : inspeximusref04_Same.f K a b = some (decide (a = b)) := by
 unfold inspeximusref04_Same.f jn
 rw [rsteps_same (by have := ha.2.2; omega) (by have := ha.2.2; omega), ref_same (by have := ha.2.1; omega) (by have := ha.2.1; omega)]
 simp only [Option.bind_some]
 obtain ⟨a1, a2, a3, a4, a5, a6, a7, a8, a9, a10, a11, a12, a13, a14, a15, a16⟩ := a
 obtain ⟨b1, b2, b3, b4, b5, b6, b7, b8, b9, b10, b11, b12, b13, b14, b15, b16⟩ := b
 simp only
 have key : ∀ c d : Bool, (bif c then some d else some false) = some (c && d) := fun c d => by cases c <;> rfl
 simp only [key]
 congr 1
 rw [Bool.eq_iff_iff]
 simp only [Bool.and_eq_true, decide_eq_true_eq, beq_iff_eq, T_api_Rec.mk.injEq]
end Go.Proofs.YtjgaokcplofimaaGreatDoor
