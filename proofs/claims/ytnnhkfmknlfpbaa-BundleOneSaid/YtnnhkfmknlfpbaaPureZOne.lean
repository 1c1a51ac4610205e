/-
  The plain law of BundleOne.
-/
import Derived.Test.YtnnhkfmknlfpbaaPureF
namespace Go.Proofs.Ytnnhkfmknlfpbaa
open Go Go.Sep

theorem okZ : okBun zBun := ⟨by simp, by simp, fun y hy => by cases hy⟩
theorem rightZ : rightB zBun = true := by decide
theorem law_BundleOne {K : Nat} (hK : K = 1000000000000) (b : List Int) (n : Int) (hb : isB b) (hn : 0 ≤ n ∧ n < 65536) : inspeximuslaw17_BundleOne.f K b n = some true := by
  subst hK
  unfold inspeximuslaw17_BundleOne.f
  refine bind_of alive17 ?_
  simp only [Bool.not_true, cond_false, jn]
  by_cases h4 : (4000 : Int) < (b.length : Int)
  · rw [dec_t h4]; rfl
  rw [dec_f h4]
  simp only [cond_false]
  by_cases h0 : (b.length : Int) = 0
  · rw [dec_t h0]; rfl
  rw [dec_f h0]
  simp only [cond_false]
  refine bind_of (get_eq hK0 hb (by omega)) ?_
  by_cases he : (getS b).2 = 0
  · rw [bif_false (by simp [he])]
    obtain ⟨e1, e2, e3⟩ := get_ok hb (by omega) he
    simp only [Bool.not_false, chk, cond_true]
    have hw : IntKind.wrap .i64 n = n := wrap64 (by omega) (by omega)
    have ht : Int.tmod n (b.length : Int) = ((n.toNat % b.length : Nat) : Int) := tmod_nat hn.1 _
    rw [hw, ht]
    generalize hm : n.toNat % b.length = m
    have hml : m < b.length := by rw [← hm]; exact Nat.mod_lt _ (by omega)
    refine bind_of (subI_0 (by omega)) ?_
    refine bind_of (get_eq hK0 (fun x hx => hb x (List.mem_of_mem_take hx)) (by simp; omega)) ?_
    have hs := subI_0 (l := b) (b := b.length) (by omega)
    rw [List.take_length] at hs
    refine bind_of hs ?_
    have hw8 := inR_u8 (x := IntKind.wrap .u8 n)
    have hB8 : isB [IntKind.wrap .u8 n] := by
      intro x hx
      rw [List.mem_singleton] at hx
      subst hx
      simp only [IntKind.wrap, IntKind.bits, IntKind.signed]
      simp
      omega
    refine bind_of (catI_ok (by simp; omega)) ?_
    refine bind_of (get_eq hK0 (isB_append.2 ⟨hb, hB8⟩) (by simp; omega)) ?_
    have ho : okBun (getS b).1 := okBun_ok e2
    refine bind_of (put_eq hK0 ho) ?_
    rw [e3]
    simp only [cond_true]
    rw [← e1]
    refine bind_of (ref_same (by omega) (by omega)) ?_
    rw [bif_true (by simp)]
    have hd : b.drop 4 = bunW (getS b).1 := by
      have := congrArg (fun l => List.drop 4 l) e1
      rw [drop_mark] at this
      exact this
    have hl : (bunW (getS b).1).length + 4 = b.length := by
      have := congrArg List.length e1
      simp [mark] at this
      omega
    -- no beginning
    have f1 : (getS (b.take m)).2 ≠ 0 := by
      intro hz
      have hbm : isB (b.take m) := fun x hx => hb x (List.mem_of_mem_take hx)
      obtain ⟨d1, d2, d3⟩ := get_ok hbm (by simp; omega) hz
      generalize (getS (b.take m)).1 = y at d1 d2 d3
      have hbd : b = mark ++ (bunW y ++ b.drop m) := by
        rw [← List.append_assoc, ← d1, List.take_append_drop]
      have hbd2 : b.drop 4 = bunW y ++ b.drop m := by
        have := congrArg (fun l => List.drop 4 l) hbd
        rw [drop_mark] at this
        exact this
      have hyl : (bunW y).length + (b.drop m).length + 4 = b.length := by
        have := congrArg List.length hbd
        simp [mark] at this
        simp; omega
      have r1 := bun_back d2 (rest := b.drop m) (fun x hx => hb x (List.mem_of_mem_drop hx)) (by omega)
      have r2 := bun_back e2 (rest := []) isB_nil (by simp; omega)
      rw [List.append_nil, ← hd, hbd2, r1] at r2
      have := congrArg (fun t => t.2.fB.length) r2
      simp at this
      omega
    rw [bif_true (by simp [f1])]
    -- nor a byte more
    have f2 : (getS (b ++ [IntKind.wrap .u8 n])).2 = 2 := by
      generalize IntKind.wrap .u8 n = c at hB8 ⊢
      have : b ++ [c] = mark ++ (bunW (getS b).1 ++ [c]) := by rw [← List.append_assoc, ← e1]
      rw [this]
      generalize (getS b).1 = y at e2 hl ⊢
      unfold getS
      rw [take_mark, drop_mark, if_pos rfl, bun_back e2 hB8 (by simp; omega)]
      simp [endS]
    rw [f2]
    rfl
  · rw [bif_true (by simp [he]), get_err he]
    rw [bif_true (by rfl)]
    refine bind_of (put_eq hK0 okZ) ?_
    rw [rightZ]
    simp only [cond_true]
    rw [dec_t (by simp [mark]; omega)]
end Go.Proofs.Ytnnhkfmknlfpbaa
