/-
 Plain: records' open bytes, and how they are read.
-/
import Derived.Test.YtjgaokcplofimaaDoorPureN
namespace Go.Proofs.YtjgaokcplofimaaDoor
open Go Go.Sep
/-! ### open bytes -/
def callW (x : Rc) : List Int := numW x.fSaga ++ (numW x.fSeq ++ (numW x.fStep ++ (numW x.fTry ++ [flagI x.fBack])))
def stepW (s : Sp) : List Int := numW s.fPart ++ numW s.fKind
def stepsW (l : List Sp) : List Int := numS l.length ++ (l.map stepW).flatten
def loadW (x : Rc) : List Int := [flagI x.fGone] ++ (bif x.fGone then vlist x.fCom else vlist x.fSalt ++ (numS x.fData.length ++ x.fData))
def bodyW (k : Int) (x : Rc) : List Int :=
 if k = 1 then numW x.fSaga ++ (stepsW x.fSteps ++ loadW x)
 else if k = 2 ∨ k = 4 then callW x
 else if k = 3 then callW x ++ ([flagI x.fGood] ++ (numW x.fPart ++ (numW x.fEpoch ++ vlist x.fTag)))
 else if k = 5 then numW x.fSaga ++ (numW x.fSeq ++ numW x.fEnd)
 else numW x.fPart ++ numW x.fEpoch
abbrev inN (n : Int) : Prop := 0 ≤ n ∧ n < 2147483648
theorem inn_N {n lo hi : Int} (h : inn n lo hi = true) (hl : 0 ≤ lo) (hh : hi < 2147483648) : inN n := by
 have := inn_iff.1 h; omega
structure RightD (x : Rc) : Prop where
 kind : x.fKind = 1 ∨ x.fKind = 2 ∨ x.fKind = 3 ∨ x.fKind = 4 ∨ x.fKind = 5 ∨ x.fKind = 6
 saga : inN x.fSaga
 part : inN x.fPart
 epoch : inN x.fEpoch
 beg : x.fKind = 1 → inn (x.fSteps.length : Int) 1 6 = true ∧ x.fSteps.all stepOk = true ∧ (x.fData.length : Int) ≤ 60
 call : x.fKind = 2 ∨ x.fKind = 4 ∨ x.fKind = 3 → inN x.fSeq ∧ inN x.fStep ∧ inN x.fTry
 clo : x.fKind = 5 → inN x.fSeq ∧ inN x.fEnd
 kept : x = keptS x
theorem rightD {x : Rc} (h : rightS x = true) : RightD x := by
 unfold rightS rangesS at h
 simp only [Bool.and_eq_true] at h
 obtain ⟨⟨h1, h2, h3, h4⟩, h5⟩ := h
 have h5 := of_decide_eq_true h5
 refine ⟨?_, inn_N h1 (by omega) (by omega), inn_N h2 (by omega) (by omega), inn_N h3 (by omega) (by omega), ?_, ?_, ?_, h5⟩
 ·by_cases k1 : x.fKind = 1
  ·exact .inl k1
  rw [bif_false (dec_f k1)] at h4
  by_cases k2 : x.fKind = 2
  ·exact .inr (.inl k2)
  by_cases k4 : x.fKind = 4
  ·simp [k4]
  by_cases k3 : x.fKind = 3
  ·simp [k3]
  rw [bif_false (by simp [k2, k3, k4])] at h4
  by_cases k5 : x.fKind = 5
  ·simp [k5]
  rw [bif_false (dec_f k5)] at h4
  simp at h4
  simp [h4.1]
 ·intro k
  rw [bif_true (dec_t k)] at h4
  simp only [Bool.and_eq_true, decide_eq_true_eq] at h4
  exact h4
 ·intro k
  rw [bif_false (dec_f (by omega)), bif_true (by rcases k with k | k | k <;> simp [k])] at h4
  simp only [Bool.and_eq_true] at h4
  exact ⟨inn_N h4.1 (by omega) (by omega), inn_N h4.2.1 (by omega) (by omega), inn_N h4.2.2 (by omega) (by omega)⟩
 ·intro k
  rw [bif_false (dec_f (by omega)), bif_false (by simp [k]), bif_true (dec_t k)] at h4
  simp only [Bool.and_eq_true] at h4
  exact ⟨inn_N h4.1 (by omega) (by omega), inn_N h4.2 (by omega) (by omega)⟩
theorem step_N {s : Sp} (h : stepOk s = true) : inN s.fPart ∧ inN s.fKind := by
 unfold stepOk at h
 simp only [Bool.and_eq_true] at h
 exact ⟨inn_N h.1 (by omega) (by omega), inn_N h.2 (by omega) (by omega)⟩
theorem flat_len {α β : Type} {p : α → List β} {c : Nat} : ∀ {l : List α}, (∀ x ∈ l, (p x).length ≤ c) → (l.map p).flatten.length ≤ c * l.length := by
 intro l
 induction l with
 | nil => intro _; simp
 | cons a l ih =>
  intro h
  have h1 := ih (fun x hx => h x (by simp [hx]))
  have h2 := h a (by simp)
  simp only [List.map_cons, List.flatten_cons, List.length_append, List.length_cons, Nat.mul_add]
  omega
theorem stepsW_len {l : List Sp} (h : l.all stepOk = true) (hl : l.length ≤ 6) : (stepsW l).length ≤ 65 := by
 unfold stepsW
 have h1 := numS_len (n := l.length) (by omega)
 have h2 : (l.map stepW).flatten.length ≤ 10 * l.length := flat_len (fun s hs => by
  have := step_N (List.all_eq_true.1 h s hs)
  have h3 := numW_len this.1
  have h4 := numW_len this.2
  simp only [stepW, List.length_append]; omega)
 simp only [List.length_append]; omega
theorem bodyW_len {x : Rc} (h : rightS x = true) : (bodyW x.fKind x).length ≤ 300 := by
 have hd := rightD h
 have h1 := numW_len hd.saga
 have h2 := numW_len hd.part
 have h3 := numW_len hd.epoch
 unfold bodyW
 rcases hd.kind with k | k | k | k | k | k
 ·obtain ⟨b1, b2, b3⟩ := hd.beg k
  have b1 := inn_iff.1 b1
  have h4 := stepsW_len b2 (by omega)
  have h5 := numS_len (n := x.fData.length) (by omega)
  simp only [k, if_true, loadW, List.length_append]
  cases x.fGone <;> simp [vlist_length] <;> omega
 ·have h4 := hd.call (.inl k)
  have h5 := numW_len h4.1
  have h6 := numW_len h4.2.1
  have h7 := numW_len h4.2.2
  simp [k, callW]; omega
 ·have h4 := hd.call (.inr (.inr k))
  have h5 := numW_len h4.1
  have h6 := numW_len h4.2.1
  have h7 := numW_len h4.2.2
  simp [k, callW, vlist_length]; omega
 ·have h4 := hd.call (.inr (.inl k))
  have h5 := numW_len h4.1
  have h6 := numW_len h4.2.1
  have h7 := numW_len h4.2.2
  simp [k, callW]; omega
 ·have h4 := hd.clo k
  have h5 := numW_len h4.1
  have h6 := numW_len h4.2
  simp [k]; omega
 ·simp [k]; omega
theorem kind_N {x : Rc} (h : rightS x = true) : inN x.fKind := by
 have := (rightD h).kind; omega
theorem begin_eq {K : Nat} (hK : 1000000000000 ≤ K) {x : Rc} (hs : inN x.fSaga) (h1 : x.fSteps.length ≤ 6) (h2 : x.fSteps.all stepOk = true) : rec_begin.f K x = some (numW x.fSaga ++ stepsW x.fSteps) := by
 unfold rec_begin.f
 rw [nums_eq hK (by simp) (by intro n hn; simp at hn; rcases hn with rfl | rfl; exact hs; omega)]
 simp only [Option.bind_some]
 have hw := numW_len hs
 have hn := numS_len (n := x.fSteps.length) (by omega)
 have hl := stepsW_len h2 h1
 simp only [stepsW, List.length_append] at hl
 have := cat_loop (L := rec_begin_l1.l K x) x.fSteps stepW (([x.fSaga, ((x.fSteps.length : Nat) : Int)].map numW).flatten) (k := K) (by omega)
  (fun k s => by
   show rec_begin_l1.b K x (rec_begin_l1.l K x k) _ = _
   unfold rec_begin_l1.b
   rw [bif_false (dec_f (by simp))])
  (fun k s i y hi hx hm hs => by
   show rec_begin_l1.b K x (rec_begin_l1.l K x k) _ = _
   unfold rec_begin_l1.b
   rw [bif_true (dec_t (by simp; omega))]
   simp only
   rw [hx]
   simp only [Option.bind_some]
   have hy := step_N (List.all_eq_true.1 h2 y hm)
   rw [nums_eq hK (by simp) (by intro n hn; simp at hn; rcases hn with rfl | rfl; exact hy.1; exact hy.2)]
   simp only [Option.bind_some]
   have e : ([y.fPart, y.fKind].map numW).flatten = stepW y := by simp [stepW]
   rw [e, catI_ok (by omega)]
   simp only [Option.bind_some]
   rw [wrap_succ (by omega)])
  (by simp [numW] at *; omega)
 rw [this]
 simp [stepsW, numW]
theorem call_eq {K : Nat} (hK : 1000000000000 ≤ K) {x : Rc} (h1 : inN x.fSaga) (h2 : inN x.fSeq) (h3 : inN x.fStep) (h4 : inN x.fTry) : rec_call.f K x = some (callW x) := by
 unfold rec_call.f
 rw [nums_eq hK (by simp) (by intro n hn; simp at hn; rcases hn with rfl | rfl | rfl | rfl <;> assumption)]
 simp only [Option.bind_some]
 rw [flag_eq]
 simp only [Option.bind_some]
 have w1 := numW_len h1
 have w2 := numW_len h2
 have w3 := numW_len h3
 have w4 := numW_len h4
 rw [all_eq hK (by simp; omega) (by simp)]
 simp [callW]
end Go.Proofs.YtjgaokcplofimaaDoor
