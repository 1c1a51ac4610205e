/-
 What the functions of wire come to.
-/
import Derived.Test.YtjgaokcplofimaaDoorPureG
import Derived.Test.YtjgaokcplofimaaDoorXExportPathsDef
namespace Go.Proofs.YtjgaokcplofimaaDoor
open Go Go.Sep
/-! ### slices -/
theorem rev_loop {K : Nat} : ∀ (n : Nat) (pre mid suf : List Int) (k : Nat), mid.length = n → n < k → pre.length + mid.length + suf.length < 1000000000000 →
  slices_Reverse_byte_byte_l1.l K k (pre ++ mid ++ suf, (pre.length : Int), (pre.length : Int) + mid.length - 1) = some (pre ++ mid.reverse ++ suf) := by
 intro n
 induction n using Nat.strongRecOn with
 | _ n ih =>
  intro pre mid suf k hn hk hb
  obtain ⟨k, rfl⟩ : ∃ j, k = j + 1 := ⟨k - 1, by omega⟩
  show slices_Reverse_byte_byte_l1.b K (slices_Reverse_byte_byte_l1.l K k) _ = _
  unfold slices_Reverse_byte_byte_l1.b
  match mid, hn with
  | [], _ => rw [bif_false (dec_f (by simp; omega))]; simp
  | [x], _ => rw [bif_false (dec_f (by simp))]; simp
  | a :: y :: l, hn =>
   obtain ⟨m, b, hm⟩ : ∃ m b, y :: l = m ++ [b] := ⟨(y :: l).dropLast, (y :: l).getLast (by simp), (List.dropLast_concat_getLast (by simp)).symm⟩
   rw [hm] at hn hb ⊢
   have hl : (a :: (m ++ [b])).length = m.length + 2 := by simp
   rw [hl] at hn hb
   have e1 : (pre.length : Int) + (a :: (m ++ [b])).length - 1 = ((pre.length + m.length + 1 : Nat) : Int) := by rw [hl]; omega
   rw [e1]
   rw [bif_true (dec_t (by show (pre.length : Int) < ((pre.length + m.length + 1 : Nat) : Int); omega))]
   have g1 : getI (pre ++ a :: (m ++ [b]) ++ suf) ((pre.length + m.length + 1 : Nat) : Int) = some b := by
    rw [getI_nat, List.append_assoc, List.getElem?_append_right (by omega)]
    rw [show pre.length + m.length + 1 - pre.length = m.length + 1 by omega]
    simp
   have g0 : getI (pre ++ a :: (m ++ [b]) ++ suf) (pre.length : Int) = some a := by
    rw [getI_nat, List.append_assoc, List.getElem?_append_right (by omega)]
    simp
   have s1 : List.set (pre ++ a :: (m ++ [b]) ++ suf) (Int.toNat (pre.length : Int)) b = pre ++ b :: (m ++ [b]) ++ suf := by
    simp
   have g2 : getI (pre ++ b :: (m ++ [b]) ++ suf) ((pre.length + m.length + 1 : Nat) : Int) = some b := by
    rw [getI_nat, List.append_assoc, List.getElem?_append_right (by omega)]
    rw [show pre.length + m.length + 1 - pre.length = m.length + 1 by omega]
    simp
   have s2 : List.set (pre ++ b :: (m ++ [b]) ++ suf) (Int.toNat ((pre.length + m.length + 1 : Nat) : Int)) a = (pre ++ [b]) ++ m ++ (a :: suf) := by
    rw [Int.toNat_natCast, List.append_assoc, List.set_append_right _ _ (by omega)]
    rw [show pre.length + m.length + 1 - pre.length = m.length + 1 by omega]
    simp
   simp only [g1, g0, Option.bind_some, s1, g2, s2]
   rw [wrap64 (by omega) (by omega), wrap64 (by omega) (by omega)]
   have := ih m.length (by omega) (pre ++ [b]) m (a :: suf) k rfl (by omega) (by simp; omega)
   rw [show ((pre ++ [b]).length : Int) + (m.length : Int) - 1 = ((pre.length + m.length + 1 : Nat) : Int) - 1 by simp; omega] at this
   rw [show ((pre ++ [b]).length : Int) = (pre.length : Int) + 1 by simp] at this
   rw [this]
   simp
theorem reverse_eq {K : Nat} {l : List Int} (hK : l.length < K) (hb : l.length < 1000000000000) : slices_Reverse_byte_byte.f K l = some l.reverse := by
 unfold slices_Reverse_byte_byte.f
 rw [wrap64 (by omega) (by omega)]
 have := rev_loop (K := K) l.length [] l [] K rfl hK (by simp; omega)
 simp at this
 rw [this]; rfl
theorem clone_eq {K : Nat} {l : List Int} (hb : l.length < 1000000000000) : slices_Clone_byte_byte.f K l = some l := by
 unfold slices_Clone_byte_byte.f
 rw [catI_ok (by simp; omega)]; rfl
/-! ### numbers -/
/-- the bytes of a number's upper digits -/
def hiB (n : Nat) : List Int := if n = 0 then [] else hiB (n / 128) ++ [((n % 128 : Nat) : Int) + 128]
termination_by n
decreasing_by omega
def numS (n : Nat) : List Int := hiB (n / 128) ++ [((n % 128 : Nat) : Int)]
theorem hiB_zero : hiB 0 = [] := by rw [hiB]; simp
theorem hiB_pos {n : Nat} (h : 0 < n) : hiB n = hiB (n / 128) ++ [((n % 128 : Nat) : Int) + 128] := by rw [hiB]; simp [Nat.ne_of_gt h]
theorem hiB_len : ∀ (j n : Nat), n < 128 ^ j → (hiB n).length ≤ j := by
 intro j
 induction j with
 | zero => intro n h; have : n = 0 := by simpa using h
           subst this; simp [hiB_zero]
 | succ j ih =>
  intro n h
  by_cases hn : n = 0
  ·subst hn; simp [hiB_zero]
  ·rw [hiB_pos (by omega)]
   have := ih (n / 128) (by rw [Nat.pow_succ] at h; omega)
   simp; omega
theorem numS_len {n : Nat} (h : n < 2147483648) : (numS n).length ≤ 5 ∧ 0 < (numS n).length := by
 have := hiB_len 4 (n / 128) (by omega)
 simp [numS]; omega
theorem num_loop {K : Nat} : ∀ (n : Nat) (out : List Int) (k : Nat), n < k → out.length + n < 1000000000000 → wire_Num_l1.l K k ((n : Int), out) = some (out ++ (hiB n).reverse) := by
 intro n
 induction n using Nat.strongRecOn with
 | _ n ih =>
  intro out k hk hb
  obtain ⟨k, rfl⟩ : ∃ j, k = j + 1 := ⟨k - 1, by omega⟩
  show wire_Num_l1.b K (wire_Num_l1.l K k) _ = _
  unfold wire_Num_l1.b
  by_cases hn : n = 0
  ·subst hn
   rw [bif_false (dec_f (by simp))]; simp [hiB_zero]
  ·rw [bif_true (dec_t (by show (0 : Int) < (n : Int); omega))]
   have e1 : Int.tmod (n : Int) 128 = ((n % 128 : Nat) : Int) := by rw [Int.tmod_eq_emod_of_nonneg (by omega)]; omega
   have e2 : Int.fdiv (n : Int) (2 ^ 7) = ((n / 128 : Nat) : Int) := by rw [Int.fdiv_eq_ediv_of_nonneg _ (by omega)]; omega
   simp only [e1, e2]
   rw [wrap8 (by omega) (by omega), bor_u8 _ (by omega), catI_ok (by simp; omega)]
   simp only [Option.bind_some]
   rw [ih (n / 128) (by omega) _ _ (by omega) (by simp; omega), hiB_pos (n := n) (by omega)]
   simp
theorem num_eq {K n : Nat} (hK : 1000000000000 ≤ K) (h : n < 2147483648) : wire_Num.f K (n : Int) = some (numS n) := by
 unfold wire_Num.f
 simp only [jn]
 rw [bif_false (dec_f (by omega)), bif_false (dec_f (by omega))]
 have e1 : Int.tmod (n : Int) 128 = ((n % 128 : Nat) : Int) := by rw [Int.tmod_eq_emod_of_nonneg (by omega)]; omega
 have e2 : Int.fdiv (n : Int) (2 ^ 7) = ((n / 128 : Nat) : Int) := by rw [Int.fdiv_eq_ediv_of_nonneg _ (by omega)]; omega
 simp only [e1, e2]
 rw [wrap8 (by omega) (by omega), num_loop _ _ _ (by omega) (by simp; omega)]
 have hl := hiB_len 4 (n / 128) (by omega)
 simp only [Option.bind_some]
 rw [reverse_eq (by simp; omega) (by simp; omega)]
 simp [numS]
/-! ### all together -/
theorem concat_l1 {K : Nat} (x : List (List Int)) : ∀ (l : List (List Int)) (i : Nat) (s : Int) (k : Nat), x.drop i = l → i ≤ x.length → l.length < k → 0 ≤ s → s + l.flatten.length < 1000000000000 → x.length < 1000000000000 →
  slices_Concat_byte_byte_l1.l K x k (s, (i : Int)) = some (s + l.flatten.length) := by
 intro l
 induction l with
 | nil =>
  intro i s k hx hi hk hs hb hxl
  obtain ⟨k, rfl⟩ : ∃ j, k = j + 1 := ⟨k - 1, by simp at hk; omega⟩
  show slices_Concat_byte_byte_l1.b K x (slices_Concat_byte_byte_l1.l K x k) _ = _
  unfold slices_Concat_byte_byte_l1.b
  have : x.length ≤ i := by simpa using hx
  rw [bif_false (dec_f (by show ¬ ((i : Int) < _); omega))]; simp
 | cons a l ih =>
  intro i s k hx hi hk hs hb hxl
  obtain ⟨k, rfl⟩ : ∃ j, k = j + 1 := ⟨k - 1, by simp at hk; omega⟩
  show slices_Concat_byte_byte_l1.b K x (slices_Concat_byte_byte_l1.l K x k) _ = _
  unfold slices_Concat_byte_byte_l1.b
  have hlt : i < x.length := by
   have := congrArg List.length hx
   simp at this; omega
  have hg : x[i]? = some a := by
   have := congrArg (fun (l : List (List Int)) => l[0]?) hx
   simpa using this
  have hd : x.drop (i + 1) = l := by rw [← List.drop_drop, hx]; rfl
  simp only [List.flatten_cons, List.length_append] at hb ⊢
  rw [bif_true (dec_t (by show (i : Int) < _; omega)), getI_nat, hg]
  simp only [Option.bind_some]
  rw [wrap64 (by omega) (by omega), bif_false (dec_f (by omega)), wrap64 (by omega) (by omega)]
  have := ih (i + 1) (s + a.length) k hd (by omega) (by simp at hk; omega) (by omega) (by omega) hxl
  rw [show (i : Int) + 1 = ((i + 1 : Nat) : Int) by omega, this]
  congr 1; omega
theorem concat_l2 {K : Nat} (x : List (List Int)) : ∀ (l : List (List Int)) (i : Nat) (o : List Int) (k : Nat), x.drop i = l → i ≤ x.length → l.length < k → o.length + l.flatten.length < 1000000000000 → x.length < 1000000000000 →
  slices_Concat_byte_byte_l2.l K x k (o, (i : Int)) = some (o ++ l.flatten) := by
 intro l
 induction l with
 | nil =>
  intro i o k hx hi hk hb hxl
  obtain ⟨k, rfl⟩ : ∃ j, k = j + 1 := ⟨k - 1, by simp at hk; omega⟩
  show slices_Concat_byte_byte_l2.b K x (slices_Concat_byte_byte_l2.l K x k) _ = _
  unfold slices_Concat_byte_byte_l2.b
  have : x.length ≤ i := by simpa using hx
  rw [bif_false (dec_f (by show ¬ ((i : Int) < _); omega))]; simp
 | cons a l ih =>
  intro i o k hx hi hk hb hxl
  obtain ⟨k, rfl⟩ : ∃ j, k = j + 1 := ⟨k - 1, by simp at hk; omega⟩
  show slices_Concat_byte_byte_l2.b K x (slices_Concat_byte_byte_l2.l K x k) _ = _
  unfold slices_Concat_byte_byte_l2.b
  have hlt : i < x.length := by
   have := congrArg List.length hx
   simp at this; omega
  have hg : x[i]? = some a := by
   have := congrArg (fun (l : List (List Int)) => l[0]?) hx
   simpa using this
  have hd : x.drop (i + 1) = l := by rw [← List.drop_drop, hx]; rfl
  simp only [List.flatten_cons, List.length_append] at hb ⊢
  rw [bif_true (dec_t (by show (i : Int) < _; omega)), getI_nat, hg]
  simp only [Option.bind_some]
  rw [catI_ok (by omega)]
  simp only [Option.bind_some]
  rw [wrap64 (by omega) (by omega)]
  have := ih (i + 1) (o ++ a) k hd (by omega) (by simp at hk; omega) (by simp only [List.length_append]; omega) hxl
  rw [show (i : Int) + 1 = ((i + 1 : Nat) : Int) by omega, this]
  simp
theorem grow_eq {K : Nat} {n : Int} (h0 : 0 ≤ n) (h : n < 1000000000000) : slices_Grow_byte_byte.f K n = some [] := by
 unfold slices_Grow_byte_byte.f
 rw [bif_false (dec_f (by omega))]
 have e : IntKind.wrap .i64 (n - IntKind.wrap .i64 (((0 : Nat) : Int) - ((0 : Nat) : Int))) = n := by
  rw [wrap64 (n := ((0 : Nat) : Int) - ((0 : Nat) : Int)) (by omega) (by omega), wrap64 (by omega) (by omega)]; omega
 rw [e]
 by_cases hn : 0 < n
 ·rw [bif_true (dec_t hn)]
  have : zerosI 1 (0 : Int) n = some (List.replicate n.toNat 0) := by
   unfold zerosI
   rw [bif_true]
   simp; omega
  rw [this]
  simp only [Option.bind_some]
  rw [subI_0 (by simp)]
  rfl
 ·rw [bif_false (dec_f hn)]
theorem all_eq {K : Nat} {x : List (List Int)} (hK : 1000000000000 ≤ K) (h : x.flatten.length < 1000000000000) (hx : x.length < 1000000000000) : wire_All.f K x = some x.flatten := by
 unfold wire_All.f slices_Concat_byte_byte.f
 have h1 : slices_Concat_byte_byte_l1.l K x K (0, 0) = _ := concat_l1 (K := K) x x 0 0 K rfl (by omega) (by omega) (by omega) (by omega) hx
 have h2 : slices_Concat_byte_byte_l2.l K x K ([], 0) = _ := concat_l2 (K := K) x x 0 [] K rfl (by omega) (by omega) (by simp only [List.length_nil]; omega) hx
 rw [h1]
 simp only [Option.bind_some]
 rw [grow_eq (by omega) (by omega)]
 simp only [Option.bind_some]
 rw [h2]
 simp
def flagI (b : Bool) : Int := bif b then 1 else 0
theorem flag_eq {K : Nat} {b : Bool} : wire_Flag.f K b = some [flagI b] := by
 unfold wire_Flag.f; cases b <;> rfl
theorem hash_eq {K : Nat} {h : Vector Int 32} : wire_Hash.f K h = some (vlist h) := by
 unfold wire_Hash.f
 have hl := vlist_length h
 rw [subI_0 (by rw [hl]; omega)]
 simp only [Option.bind_some]
 rw [clone_eq (by simp [hl])]
 rw [List.take_of_length_le (by rw [hl]; omega)]; rfl
end Go.Proofs.YtjgaokcplofimaaDoor
