/-
  The laws of wire.
-/
import Derived.Test.YtmjkjgidcmalhaaPureR
namespace Go.Proofs.Ytmjkjgidcmalhaa
open Go Go.Sep

/-! ### order -/
theorem bl_append : ∀ {p q : List UInt8} (s t : List UInt8), p.length = q.length → Op.bytesLess p q = true → Op.bytesLess (p ++ s) (q ++ t) = true := by
  intro p
  induction p with
  | nil => intro q s t h hl; cases q with
    | nil => simp [Op.bytesLess] at hl
    | cons _ _ => simp at h
  | cons a p ih =>
    intro q s t h hl
    cases q with
    | nil => simp at h
    | cons b q =>
      simp only [List.cons_append, Op.bytesLess, Bool.or_eq_true, Bool.and_eq_true] at hl ⊢
      rcases hl with hl | ⟨h1, h2⟩
      · exact .inl hl
      · exact .inr ⟨h1, ih s t (by simpa using h) h2⟩
theorem bl_same : ∀ (p : List UInt8) {s t : List UInt8}, Op.bytesLess s t = true → Op.bytesLess (p ++ s) (p ++ t) = true := by
  intro p
  induction p with
  | nil => intro s t h; exact h
  | cons a p ih =>
    intro s t h
    simp only [List.cons_append, Op.bytesLess, Bool.or_eq_true, Bool.and_eq_true]
    exact .inr ⟨by simp, ih h⟩
theorem bl_one {x y : Int} (hx : 0 ≤ x) (hxy : x < y) (hy : y < 256) : Op.bytesLess (u8s [x]) (u8s [y]) = true := by
  have h1 := u8_toNat (x := x) ⟨hx, by omega⟩
  have h2 := u8_toNat (x := y) ⟨by omega, hy⟩
  have : UInt8.ofNat x.toNat < UInt8.ofNat y.toNat := by rw [UInt8.lt_iff_toNat_lt]; omega
  simp [u8s, Op.bytesLess, this]
theorem u8s_append (l m : List Int) : u8s (l ++ m) = u8s l ++ u8s m := by simp [u8s]
theorem u8s_length (l : List Int) : (u8s l).length = l.length := by simp [u8s]
theorem hiB_length {n : Nat} (h : 0 < n) : (hiB n).length = (hiB (n / 128)).length + 1 := by rw [hiB_pos h]; simp
theorem hiB_mono : ∀ (m n : Nat), n ≤ m → (hiB n).length ≤ (hiB m).length := by
  intro m
  induction m using Nat.strongRecOn with
  | _ m ih =>
    intro n h
    by_cases hn : n = 0
    · subst hn; rw [hiB_zero]; simp
    · rw [hiB_length (n := n) (by omega), hiB_length (n := m) (by omega)]
      have := ih (m / 128) (by omega) (n / 128) (Nat.div_le_div_right h)
      omega
theorem hiB_lt : ∀ (m n : Nat), n < m → (hiB n).length = (hiB m).length → Op.bytesLess (u8s (hiB n)) (u8s (hiB m)) = true := by
  intro m
  induction m using Nat.strongRecOn with
  | _ m ih =>
    intro n h hl
    have hm := hiB_length (n := m) (by omega)
    by_cases hn : n = 0
    · subst hn; rw [hiB_zero] at hl; simp at hl; omega
    · have hn' := hiB_length (n := n) (by omega)
      rw [hiB_pos (n := m) (by omega), hiB_pos (n := n) (by omega), u8s_append, u8s_append]
      by_cases hq : n / 128 = m / 128
      · rw [hq]
        exact bl_same _ (bl_one (by omega) (by omega) (by omega))
      · exact bl_append _ _ (by rw [u8s_length, u8s_length]; omega) (ih (m / 128) (by omega) (n / 128) (by omega) (by omega))
theorem numS_mono {n m : Nat} (h : n ≤ m) : (numS n).length ≤ (numS m).length := by
  have := hiB_mono (m / 128) (n / 128) (Nat.div_le_div_right h)
  simp [numS]; exact this
theorem numS_lt {n m : Nat} (h : n < m) (hl : (numS n).length = (numS m).length) : Op.bytesLess (u8s (numS n)) (u8s (numS m)) = true := by
  unfold numS at hl ⊢
  rw [u8s_append, u8s_append]
  by_cases hq : n / 128 = m / 128
  · rw [hq]
    exact bl_same _ (bl_one (by omega) (by omega) (by omega))
  · exact bl_append _ _ (by rw [u8s_length, u8s_length]; simpa using hl) (hiB_lt _ _ (by omega) (by simpa using hl))

theorem law_WireOrder {K : Nat} (hK : 1000000000000 ≤ K) (a b : Int) : inspeximuslaw03_WireOrder.f K a b = some true := by
  unfold inspeximuslaw03_WireOrder.f
  rw [alive_eq hK]
  simp only [Option.bind_some, jn, Bool.not_true]
  by_cases h1 : a < 0
  · rw [dec_t h1]; rfl
  rw [dec_f h1]
  by_cases h2 : b < a
  · rw [dec_t h2]; rfl
  rw [dec_f h2]
  by_cases h3 : 2147483647 < b
  · rw [dec_t h3]; rfl
  rw [dec_f h3]
  obtain ⟨n, rfl⟩ := Int.eq_ofNat_of_zero_le (show 0 ≤ a by omega)
  obtain ⟨m, rfl⟩ := Int.eq_ofNat_of_zero_le (show 0 ≤ b by omega)
  simp only [cond_false]
  rw [num_eq hK (by omega), num_eq hK (by omega)]
  simp only [Option.bind_some]
  have l1 := numS_len (n := n) (by omega)
  have l2 := numS_len (n := m) (by omega)
  have l3 := numS_mono (n := n) (m := m) (by omega)
  rw [dec_f (p := ((List.length (numS n) : Nat) : Int) = 0) (by omega), dec_f (p := ((List.length (numS m) : Nat) : Int) < ((List.length (numS n) : Nat) : Int)) (by omega), dec_f (p := 5 < ((List.length (numS m) : Nat) : Int)) (by omega)]
  simp only [cond_false]
  by_cases hl : (numS n).length < (numS m).length
  · rw [bif_true (dec_t (by omega))]
  · rw [bif_false (dec_f (by omega))]
    by_cases e : n = m
    · subst e; simp
    · rw [bofL_toList, bofL_toList, numS_lt (by omega) (by omega)]; rfl

/-! ### fails -/
theorem law_WireFails {K : Nat} (hK : 1000000000000 ≤ K) (b : List Int) (n : Int) (hn : 0 ≤ n ∧ n < 256) : inspeximuslaw03_WireFails.f K b n = some true := by
  unfold inspeximuslaw03_WireFails.f
  rw [alive_eq hK]
  simp only [Option.bind_some, jn, Bool.not_true, cond_false]
  by_cases h1 : 200 < ((b.length : Nat) : Int)
  · rw [bif_true (dec_t h1)]
  rw [bif_false (dec_f h1), read_eq (by omega)]
  simp only [Option.bind_some]
  have e1 : IntKind.wrap .i64 (1 + IntKind.wrap .i64 (Int.tmod n 12)) = 1 + n % 12 := by
    rw [Int.tmod_eq_emod_of_nonneg hn.1, wrap64 (n := n % 12) (by omega) (by omega), wrap64 (by omega) (by omega)]
  rw [e1]
  have he : 1 + n % 12 ≠ 0 := by omega
  rw [fail_eq he]
  simp only [Option.bind_some, rbad_eq, rnum_bad he, rflag_bad he, rbytes_bad he, rhash_bad he, rleft_eq, rdone_bad he]
  have hz : (Vector.replicate 32 (0 : Int)) = vofL 32 [0, 0, 0, 0, 0, 0, 0, 0, 0, 0, 0, 0, 0, 0, 0, 0, 0, 0, 0, 0, 0, 0, 0, 0, 0, 0, 0, 0, 0, 0, 0, 0] := by decide
  rw [← hz]
  simp

/-! ### back -/
theorem vlist_isB {h : Vector Int 32} (hr : ∀ i, i < 32 → 0 ≤ vget h i ∧ vget h i < 256) : isB (vlist h) := by
  intro x hx
  simp [vlist] at hx
  obtain ⟨i, hi, rfl⟩ := hx
  exact hr i hi
theorem law_WireBack {K : Nat} (hK : 1000000000000 ≤ K) (n : Int) (ok : Bool) (b : List Int) (h : Vector Int 32) (rest : List Int) (hb : isB b) (hh : ∀ i, i < 32 → 0 ≤ vget h i ∧ vget h i < 256) (hr : isB rest) :
    inspeximuslaw03_WireBack.f K n ok b h rest = some true := by
  unfold inspeximuslaw03_WireBack.f
  rw [alive_eq hK]
  simp only [Option.bind_some, jn, Bool.not_true, cond_false]
  by_cases h1 : 300 < ((b.length : Nat) : Int)
  · rw [bif_true (dec_t h1)]; rfl
  rw [bif_false (dec_f h1)]
  by_cases h2 : 300 < ((rest.length : Nat) : Int)
  · rw [bif_true (dec_t h2)]; rfl
  rw [bif_false (dec_f h2)]
  by_cases h3 : n < 0
  · rw [bif_true (dec_t h3)]; rfl
  rw [bif_false (dec_f h3)]
  by_cases h4 : 2147483647 < n
  · rw [bif_true (dec_t h4)]
  rw [bif_false (dec_f h4)]
  obtain ⟨m, rfl⟩ := Int.eq_ofNat_of_zero_le (show 0 ≤ n by omega)
  have l1 := numS_len (n := m) (by omega)
  have l2 := numS_len (n := b.length) (by omega)
  have hl := vlist_length h
  rw [num_eq hK (by omega), flag_eq, bytes_eq hK (by omega), hash_eq]
  simp only [Option.bind_some]
  have e : ([numS m, [flagI ok], numS b.length ++ b, vlist h, rest] : List (List Int)).flatten = numS m ++ flagI ok :: (numS b.length ++ (b ++ (vlist h ++ rest))) := by simp
  rw [all_eq hK (by rw [e]; simp; omega) (by simp)]
  simp only [Option.bind_some]
  rw [e, read_eq (by simp; omega)]
  simp only [Option.bind_some]
  have hB1 : isB (numS b.length ++ (b ++ (vlist h ++ rest))) := by
    rw [isB_append, isB_append, isB_append]; exact ⟨numS_isB _, hb, vlist_isB hh, hr⟩
  rw [rnum_ok hK (by rw [isB_append, isB_cons]; exact ⟨numS_isB _, flagI_B ok, hB1⟩) (by simp; omega) (by omega) rfl]
  simp only [Option.bind_some]
  rw [bif_true (by simp), rflag_ok]
  simp only [Option.bind_some]
  rw [bif_true (by simp), rbytes_ok hK hB1 (by simp; omega) (by omega) (Int.le_refl _) rfl]
  simp only [Option.bind_some]
  rw [same_eq hK rfl (by omega)]
  simp only [Option.bind_some, cond_true]
  rw [rhash_ok (by omega)]
  simp only [Option.bind_some]
  rw [bif_true (by simp), rleft_eq]
  simp only [Option.bind_some]
  rw [bif_true (by simp), rbad_eq]
  simp

/-! ### one form -/
theorem one_loop {K : Nat} (hK : 1000000000000 ≤ K) (b : List Int) (hb : isB b) (k left : Nat) (hbl : b.length ≤ 100) (hk : k + left = b.length) (hp : ∀ m, m < k → pN 0 0 (b.take m) = (0, 0, 3)) :
    ∀ (j i f : Nat), i + j = k → j < f → inspeximuslaw03_WireOne_l1.l K b (left : Int) f (i : Int) = some (Sum.inr ()) := by
  intro j
  induction j with
  | zero =>
    intro i f hij hf
    obtain ⟨f, rfl⟩ : ∃ j, f = j + 1 := ⟨f - 1, by omega⟩
    show inspeximuslaw03_WireOne_l1.b K b (left : Int) (inspeximuslaw03_WireOne_l1.l K b (left : Int) f) _ = _
    unfold inspeximuslaw03_WireOne_l1.b
    rw [wrap64 (by omega) (by omega), bif_false (dec_f (by omega))]
  | succ j ih =>
    intro i f hij hf
    obtain ⟨f, rfl⟩ : ∃ j, f = j + 1 := ⟨f - 1, by omega⟩
    show inspeximuslaw03_WireOne_l1.b K b (left : Int) (inspeximuslaw03_WireOne_l1.l K b (left : Int) f) _ = _
    unfold inspeximuslaw03_WireOne_l1.b
    rw [wrap64 (by omega) (by omega), bif_true (dec_t (by omega)), subI_0 (by omega)]
    simp only [Option.bind_some]
    rw [read_eq (by simp; omega)]
    simp only [Option.bind_some]
    rw [rnum_fail hK (fun x hx => hb x (List.mem_of_mem_take hx)) (by simp; omega) (hp i (by omega)) (by omega)]
    simp only [Option.bind_some, rbad_eq]
    rw [bif_false (by simp), wrap64 (by omega) (by omega)]
    exact ih (i + 1) f (by omega) (by omega)
theorem law_WireOne {K : Nat} (hK : 1000000000000 ≤ K) (b : List Int) (hb : isB b) : inspeximuslaw03_WireOne.f K b = some true := by
  unfold inspeximuslaw03_WireOne.f
  rw [alive_eq hK]
  simp only [Option.bind_some, Bool.not_true, cond_false]
  by_cases h1 : 100 < ((b.length : Nat) : Int)
  · rw [bif_true (dec_t h1)]
  rw [bif_false (dec_f h1), read_eq (by omega)]
  simp only [Option.bind_some]
  have bad : ∀ e, e ≠ 0 → pN 0 0 b = (0, 0, e) → wire_Reader_Num.f K ⟨b, 0⟩ = some (0, ⟨[], e⟩) := fun e he hp => rnum_fail hK hb (by omega) hp he
  have okc : (pN 0 0 b).2.2 = 0 → ∃ (n j : Nat), n < 2147483648 ∧ 0 < j ∧ j ≤ b.length ∧ b.take j = numS n ∧ ∀ m, m < j → pN 0 0 (b.take m) = (0, 0, 3) := by
    intro h0
    have := pN_back b 0 0 (pN 0 0 b).1 (pN 0 0 b).2.1 hb (by rw [hiB_zero]; rfl) (by
      show pN 0 0 b = ((pN 0 0 b).1, (pN 0 0 b).2.1, 0)
      exact Prod.ext rfl (Prod.ext rfl h0))
    obtain ⟨n', j, h1, h2, h3, h4, h5, h6, h7⟩ := this
    rw [hiB_zero, List.nil_append] at h6
    exact ⟨n', j, h3, h4, h5, h6, h7⟩
  have err : ∀ e : Int, e ≠ 0 → wire_Reader_Num.f K ⟨b, 0⟩ = some (0, ⟨[], e⟩) → ((wire_Reader_Num.f K ⟨b, 0⟩).bind fun r => some r) = some (0, ⟨[], e⟩) := fun e _ h => by rw [h]; rfl
  rcases pN_err b 0 0 with h0 | h0 | h0
  · obtain ⟨n, j, hn, hj0, hj, ht, hp⟩ := okc h0
    have eb : b = numS n ++ b.drop j := by rw [← ht]; exact (List.take_append_drop j b).symm
    rw [rnum_ok hK hb (by omega) hn eb]
    simp only [Option.bind_some, rbad_eq, rleft_eq]
    rw [bif_false (by simp)]
    have hdl : (b.drop j).length = b.length - j := by simp
    have e1 : IntKind.wrap .i64 (((b.length : Nat) : Int) - (((b.drop j).length : Nat) : Int)) = (j : Int) := by rw [hdl, wrap64 (by omega) (by omega)]; omega
    rw [e1, subI_0 hj]
    simp only [Option.bind_some]
    rw [num_eq hK hn]
    simp only [Option.bind_some]
    have l1 := numS_len hn
    rw [same_eq hK ht.symm (by omega)]
    simp only [Option.bind_some, Bool.not_true, cond_false]
    have := one_loop hK b hb j (b.drop j).length (by omega) (by omega) hp j 0 K (by omega) (by omega)
    rw [show inspeximuslaw03_WireOne_l1.l K b (((b.drop j).length : Nat) : Int) K 0 = _ from this]
    rfl
  · rw [bad 2 (by omega) h0]; rfl
  · rw [bad 3 (by omega) h0]; rfl

/-! ### many -/
def numX (n : Int) : List Int := if n < 0 ∨ 2147483647 < n then [] else numS n.toNat
theorem numX_eq {K : Nat} (hK : 1000000000000 ≤ K) (n : Int) : wire_Num.f K n = some (numX n) := by
  unfold numX
  split
  · rename_i h; exact num_bad h
  · rename_i h
    obtain ⟨m, rfl⟩ := Int.eq_ofNat_of_zero_le (show 0 ≤ n by omega)
    exact num_eq hK (by omega)
theorem numX_len (n : Int) : (numX n).length ≤ 5 := by
  unfold numX
  split
  · simp
  · exact (numS_len (by omega)).1
theorem numX_isB (n : Int) : isB (numX n) := by
  unfold numX
  split
  · exact isB_nil
  · exact numS_isB _
def putX (l : List Int) : List Int := (l.map numX).flatten
theorem putX_cons (a : Int) (l : List Int) : putX (a :: l) = numX a ++ putX l := by simp [putX]
theorem putX_len : ∀ (l : List Int), (putX l).length ≤ 5 * l.length := by
  intro l
  induction l with
  | nil => simp [putX]
  | cons a l ih => have := numX_len a; rw [putX_cons]; simp; omega
theorem putX_isB : ∀ (l : List Int), isB (putX l) := by
  intro l
  induction l with
  | nil => simp [putX, isB_nil]
  | cons a l ih => rw [putX_cons, isB_append]; exact ⟨numX_isB a, ih⟩

theorem drop_cons {α : Type} {x : List α} {i : Nat} {a : α} {l : List α} (hx : x.drop i = a :: l) : i < x.length ∧ x[i]? = some a ∧ x.drop (i + 1) = l := by
  refine ⟨?_, ?_, ?_⟩
  · have := congrArg List.length hx
    simp at this; omega
  · have := congrArg (fun (l : List α) => l[0]?) hx
    simpa using this
  · rw [← List.drop_drop, hx]; rfl

theorem many_l1 {K : Nat} (hK : 1000000000000 ≤ K) (x : List Int) (hxl : x.length ≤ 60) : ∀ (l : List Int) (i : Nat) (o : List Int) (k : Nat), x.drop i = l → i ≤ x.length → l.length < k → o.length + 5 * l.length ≤ 1000 →
    inspeximuslaw03_WireMany_l1.l K x k (o, (i : Int)) = some (o ++ putX l) := by
  intro l
  induction l with
  | nil =>
    intro i o k hx hi hk hb
    obtain ⟨k, rfl⟩ : ∃ j, k = j + 1 := ⟨k - 1, by simp at hk; omega⟩
    show inspeximuslaw03_WireMany_l1.b K x (inspeximuslaw03_WireMany_l1.l K x k) _ = _
    unfold inspeximuslaw03_WireMany_l1.b
    have : x.length ≤ i := by simpa using hx
    rw [bif_false (dec_f (by show ¬ ((i : Int) < _); omega))]; simp [putX]
  | cons a l ih =>
    intro i o k hx hi hk hb
    obtain ⟨k, rfl⟩ : ∃ j, k = j + 1 := ⟨k - 1, by simp at hk; omega⟩
    show inspeximuslaw03_WireMany_l1.b K x (inspeximuslaw03_WireMany_l1.l K x k) _ = _
    unfold inspeximuslaw03_WireMany_l1.b
    obtain ⟨hlt, hg, hd⟩ := drop_cons hx
    have hna := numX_len a
    simp only [List.length_cons] at hb hk
    rw [bif_true (dec_t (by show (i : Int) < _; omega)), getI_nat, hg]
    simp only [Option.bind_some]
    rw [numX_eq hK]
    simp only [Option.bind_some]
    rw [catI_ok (by omega)]
    simp only [Option.bind_some]
    rw [wrap64 (by omega) (by omega)]
    have := ih (i + 1) (o ++ numX a) k hd (by omega) (by omega) (by simp only [List.length_append]; omega)
    rw [show (i : Int) + 1 = ((i + 1 : Nat) : Int) by omega, this, putX_cons]
    simp

theorem many_l2 {K : Nat} (hK : 1000000000000 ≤ K) (x : List Int) (hxl : x.length ≤ 60) : ∀ (l : List Int) (i : Nat) (k : Nat), x.drop i = l → i ≤ x.length → l.length < k →
    inspeximuslaw03_WireMany_l2.l K x k (((putX l).length : Int), (i : Int), putX l, 0) = some (Sum.inr ([], 0)) := by
  intro l
  induction l with
  | nil =>
    intro i k hx hi hk
    obtain ⟨k, rfl⟩ : ∃ j, k = j + 1 := ⟨k - 1, by simp at hk; omega⟩
    show inspeximuslaw03_WireMany_l2.b K x (inspeximuslaw03_WireMany_l2.l K x k) _ = _
    unfold inspeximuslaw03_WireMany_l2.b
    have : x.length ≤ i := by simpa using hx
    rw [bif_false (dec_f (by show ¬ ((i : Int) < _); omega))]; simp [putX]
  | cons a l ih =>
    intro i k hx hi hk
    obtain ⟨k, rfl⟩ : ∃ j, k = j + 1 := ⟨k - 1, by simp at hk; omega⟩
    show inspeximuslaw03_WireMany_l2.b K x (inspeximuslaw03_WireMany_l2.l K x k) _ = _
    unfold inspeximuslaw03_WireMany_l2.b
    obtain ⟨hlt, hg, hd⟩ := drop_cons hx
    have hpl := putX_len l
    have hll : l.length + 1 + i = x.length := by have := congrArg List.length hx; simp at this; omega
    have hna := numX_len a
    simp only [List.length_cons] at hk
    rw [bif_true (dec_t (by show (i : Int) < _; omega))]
    simp only [getI_nat, hg, Option.bind_some, jn]
    rw [wrap64 (n := (i : Int) + 1) (by omega) (by omega), show (i : Int) + 1 = ((i + 1 : Nat) : Int) by omega]
    have hrec := ih (i + 1) k hd (by omega) (by omega)
    by_cases ha : a < 0
    · rw [dec_t ha]
      have : numX a = [] := by unfold numX; rw [if_pos (.inl ha)]
      rw [putX_cons, this, List.nil_append]
      exact hrec
    rw [dec_f ha]
    by_cases ha2 : 2147483647 < a
    · rw [dec_t ha2]
      have : numX a = [] := by unfold numX; rw [if_pos (.inr ha2)]
      rw [putX_cons, this, List.nil_append]
      exact hrec
    rw [dec_f ha2]
    simp only [cond_false]
    obtain ⟨m, rfl⟩ := Int.eq_ofNat_of_zero_le (show 0 ≤ a by omega)
    have e : numX (m : Int) = numS m := by unfold numX; rw [if_neg (by omega)]; simp
    rw [e] at hna
    rw [num_eq hK (by omega)]
    simp only [Option.bind_some]
    rw [putX_cons, e]
    rw [rnum_ok hK (by rw [isB_append]; exact ⟨numS_isB _, putX_isB _⟩) (by simp; omega) (by omega) rfl]
    simp only [Option.bind_some, rleft_eq]
    rw [bif_false (by simp)]
    have e1 : IntKind.wrap .i64 ((((numS m ++ putX l).length : Nat) : Int) - (((numS m).length : Nat) : Int)) = (((putX l).length : Nat) : Int) := by
      rw [List.length_append, wrap64 (by omega) (by omega)]; omega
    rw [e1, bif_false (by simp)]
    exact hrec

theorem law_WireMany {K : Nat} (hK : 1000000000000 ≤ K) (l : List Int) : inspeximuslaw03_WireMany.f K l = some true := by
  unfold inspeximuslaw03_WireMany.f
  rw [alive_eq hK]
  simp only [Option.bind_some, Bool.not_true, cond_false]
  by_cases h1 : 60 < ((l.length : Nat) : Int)
  · rw [bif_true (dec_t h1)]
  rw [bif_false (dec_f h1)]
  have q1 : inspeximuslaw03_WireMany_l1.l K l K ([], 0) = _ := many_l1 hK l (by omega) l 0 [] K rfl (by omega) (by omega) (by simp; omega)
  rw [q1]
  simp only [Option.bind_some, List.nil_append]
  have hpl := putX_len l
  rw [read_eq (by omega)]
  simp only [Option.bind_some]
  have q2 : inspeximuslaw03_WireMany_l2.l K l K (((putX l).length : Int), 0, putX l, 0) = _ := many_l2 hK l (by omega) l 0 K rfl (by omega) (by omega)
  rw [q2]
  rfl

/-! ### puts -/
theorem ref_num {K : Nat} : ∀ (n k : Nat), n < k → n < 2147483648 → inspeximusref03_Num.r K k (n : Int) = some (numS n) := by
  intro n
  induction n using Nat.strongRecOn with
  | _ n ih =>
    intro k hk hn
    obtain ⟨k, rfl⟩ : ∃ j, k = j + 1 := ⟨k - 1, by omega⟩
    show inspeximusref03_Num.b K (inspeximusref03_Num.r K k) _ = _
    unfold inspeximusref03_Num.b
    simp only [jn]
    rw [bif_false (dec_f (by omega)), bif_false (dec_f (by omega))]
    by_cases h : n < 128
    · rw [bif_true (dec_t (by omega)), wrap8 (by omega) (by omega)]
      unfold numS
      rw [show n / 128 = 0 by omega, hiB_zero, show n % 128 = n by omega]; rfl
    · rw [bif_false (dec_f (by omega))]
      have e1 : IntKind.wrap .i64 (Int.tdiv (n : Int) 128) = ((n / 128 : Nat) : Int) := by
        rw [Int.tdiv_eq_ediv_of_nonneg (by omega), wrap64 (by omega) (by omega)]; omega
      have e2 : IntKind.wrap .u8 (Int.tmod (n : Int) 128) = ((n % 128 : Nat) : Int) := by
        rw [Int.tmod_eq_emod_of_nonneg (by omega), wrap8 (by omega) (by omega)]; omega
      rw [e1, e2, ih (n / 128) (by omega) k (by omega) (by omega)]
      simp only [Option.bind_some]
      have hl := hiB_len 4 (n / 128 / 128) (by omega)
      have e3 : IntKind.wrap .i64 (((numS (n / 128)).length : Nat) - 1 : Int) = ((hiB (n / 128 / 128)).length : Int) := by
        have hlen : (numS (n / 128)).length = (hiB (n / 128 / 128)).length + 1 := by simp [numS]
        rw [wrap64 (by omega) (by omega)]; omega
      rw [e3, getI_nat]
      have e4 : (numS (n / 128))[(hiB (n / 128 / 128)).length]? = some ((n / 128 % 128 : Nat) : Int) := by simp [numS]
      rw [e4]
      simp only [Option.bind_some]
      rw [wrap8 (by omega) (by omega)]
      have e5 : List.set (numS (n / 128)) (Int.toNat ((hiB (n / 128 / 128)).length : Int)) (((n / 128 % 128 : Nat) : Int) + 128) = hiB (n / 128) := by
        rw [hiB_pos (n := n / 128) (by omega)]
        simp [numS]
      rw [e5]
      have hl2 := hiB_len 4 (n / 128) (by omega)
      rw [catI_ok (by simp; omega)]
      rfl
theorem ref_num_bad {K : Nat} (hK : 0 < K) {n : Int} (h : n < 0 ∨ 2147483647 < n) : inspeximusref03_Num.f K n = some [] := by
  unfold inspeximusref03_Num.f
  obtain ⟨k, rfl⟩ : ∃ j, K = j + 1 := ⟨K - 1, by omega⟩
  show inspeximusref03_Num.b (k + 1) (inspeximusref03_Num.r (k + 1) k) _ = _
  unfold inspeximusref03_Num.b
  simp only [jn]
  by_cases h0 : n < 0
  · rw [bif_true (dec_t h0)]; rfl
  · rw [bif_false (dec_f h0), bif_true (dec_t (by omega))]
theorem refX {K : Nat} (hK : 1000000000000 ≤ K) (n : Int) : inspeximusref03_Num.f K n = some (numX n) := by
  unfold numX
  split
  · rename_i h; exact ref_num_bad (by omega) h
  · rename_i h
    obtain ⟨m, rfl⟩ := Int.eq_ofNat_of_zero_le (show 0 ≤ n by omega)
    exact ref_num m K (by omega) (by omega)

theorem law_WirePuts {K : Nat} (hK : 1000000000000 ≤ K) (n : Int) (ok : Bool) (b : List Int) (h : Vector Int 32) : inspeximuslaw03_WirePuts.f K n ok b h = some true := by
  unfold inspeximuslaw03_WirePuts.f
  rw [alive_eq hK]
  simp only [Option.bind_some, Bool.not_true, cond_false, jn]
  by_cases h1 : 500 < ((b.length : Nat) : Int)
  · rw [bif_true (dec_t h1)]
  rw [bif_false (dec_f h1)]
  have hl := vlist_length h
  have l1 := numX_len n
  have l2 := numS_len (n := b.length) (by omega)
  have key : ∀ y : List Int, y = [flagI ok] → ((wire_Num.f K n).bind fun r852 => (inspeximusref03_Num.f K n).bind fun r862 => (inspeximusref01_Bytes.f K r852 r862).bind fun r878 =>
      bif r878 then (wire_Flag.f K ok).bind fun r883 => (inspeximusref01_Bytes.f K r883 y).bind fun r899 =>
        bif r899 then (wire_Bytes.f K b).bind fun r904 => (inspeximusref03_Bytes.f K b).bind fun r914 => (inspeximusref01_Bytes.f K r904 r914).bind fun r930 =>
          bif r930 then (subI (vlist h) 0 ((32 : Nat) : Int)).bind fun l938 => (wire_Hash.f K h).bind fun r943 => (inspeximusref01_Bytes.f K r943 l938).bind fun r956 => some r956
          else some false
        else some false
      else some false) = some true := by
    intro y hy
    subst hy
    rw [numX_eq hK, refX hK]
    simp only [Option.bind_some]
    rw [same_eq hK rfl (by omega), flag_eq]
    simp only [Option.bind_some, cond_true]
    rw [same_eq hK rfl (by simp), bytes_eq hK (by omega)]
    simp only [Option.bind_some, cond_true]
    have q : inspeximusref03_Bytes.f K b = some (numS b.length ++ b) := by
      unfold inspeximusref03_Bytes.f
      rw [show inspeximusref03_Num.f K ((b.length : Nat) : Int) = some (numS b.length) from ref_num b.length K (by omega) (by omega)]
      simp only [Option.bind_some]
      rw [catI_ok (by omega)]; rfl
    rw [q]
    simp only [Option.bind_some]
    rw [same_eq hK rfl (by simp; omega), hash_eq]
    simp only [Option.bind_some, cond_true]
    rw [subI_0 (by omega)]
    simp only [Option.bind_some]
    rw [same_eq hK (List.take_of_length_le (by omega)).symm (by omega)]
    rfl
  cases ok with
  | true =>
    simp only [cond_true]
    rw [getI_0]
    exact key _ rfl
  | false =>
    simp only [cond_false]
    exact key _ rfl
end Go.Proofs.Ytmjkjgidcmalhaa
