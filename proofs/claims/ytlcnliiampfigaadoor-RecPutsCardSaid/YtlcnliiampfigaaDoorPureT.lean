/-
 Plain: the program reads a record as told.
-/
import Derived.Test.YtlcnliiampfigaaDoorPureQ
namespace Go.Proofs.YtlcnliiampfigaaDoor
open Go Go.Sep
theorem listR_len {α : Type} {one : Nat → Rd → α × Rd} : ∀ (n i : Nat) (r : Rd), (listR one n i r).1.length ≤ n := by
 intro n
 induction n with
 | zero => intro i r; simp [listR]
 | succ n ih =>
  intro i r
  unfold listR
  split
  ·simp; exact ih _ _
  ·simp
theorem listR_bad {α : Type} {one : Nat → Rd → α × Rd} {n i : Nat} {r : Rd} (h : r.fBad ≠ 0) : listR one n i r = ([], r) := by
 cases n with
 | zero => rfl
 | succ n => unfold listR; rw [if_neg h]
theorem stepsR_len (r : Rd) : (stepsR r).1.length ≤ 6 := by
 unfold stepsR mapR seqR capR
 simp only
 split
 ·rw [listR_bad (failR_bad (by omega) _)]; simp
 ·have := listR_len (one := fun _ => stepR) (numR r).1.toNat 0 (numR r).2
  omega
theorem bytesR_isB {most : Int} {r : Rd} (h : Good r) : isB (bytesR most r).1 ∧ (bytesR most r).1.length < 1000000000 := by
 unfold bytesR
 split
 ·split
  ·exact ⟨isB_nil, by simp⟩
  ·split
   ·exact ⟨isB_nil, by simp⟩
   ·split
    ·exact ⟨isB_nil, by simp⟩
    ·refine ⟨fun x hx => h.1 x (List.mem_of_mem_drop (List.mem_of_mem_take hx)), ?_⟩
     have := h.2
     simp; omega
 ·exact ⟨isB_nil, by simp⟩
theorem read_end {K : Nat} (hK : 1000000000000 ≤ K) {x : Rc} {r : Rd} (hx : okD x) :
  ((rec_Right.f K x).bind fun q => bif !q then (wire_Reader_Fail.f K 2 r).bind fun y => ((wire_Reader_Bad.f K y).bind fun e => bif !decide (e = 0) then some (zRc, y) else some (x, y))
   else ((wire_Reader_Bad.f K r).bind fun e => bif !decide (e = 0) then some (zRc, r) else some (x, r))) = some (finR x r) := by
 rw [right_eq hK hx]
 simp only [Option.bind_some]
 unfold finR
 cases rightS x
 ·rw [bif_true (by rfl), failR_eq (by omega)]
  simp only [Option.bind_some, cond_false]
  rw [rbad_eq]
  simp only [Option.bind_some]
  have := failR_bad (e := 2) (by omega) r
  rw [bif_true (by simp [this]), if_neg this]
 ·rw [bif_false (by rfl), rbad_eq]
  simp only [Option.bind_some, cond_true]
  by_cases h : r.fBad = 0
  ·rw [bif_false (by simp [h]), if_pos h]
  ·rw [bif_true (by simp [h]), if_neg h]
theorem bind_of {α β : Type} {o : Option α} {x : α} {f : α → Option β} {y : Option β} (h : o = some x) (h2 : f x = y) : o.bind f = y := by rw [h]; exact h2
theorem num_ex {K : Nat} (hK : 1000000000000 ≤ K) {r : Rd} (hr : Good r) : ∃ n r', numR r = (n, r') ∧ wire_Reader_Num.f K r = some (n, r') ∧ Good r' := ⟨_, _, rfl, numR_eq hK hr, numR_spec.good r hr⟩
theorem flag_ex {K : Nat} {r : Rd} (hr : Good r) : ∃ n r', flagR r = (n, r') ∧ wire_Reader_Flag.f K r = some (n, r') ∧ Good r' := ⟨_, _, rfl, flagR_eq hr, flagR_spec.good r hr⟩
theorem hash_ex {K : Nat} {r : Rd} (hr : Good r) : ∃ n r', hashR r = (n, r') ∧ wire_Reader_Hash.f K r = some (n, r') ∧ Good r' := ⟨_, _, rfl, hashR_eq hr, hashR_spec.good r hr⟩
theorem bytes_ex {K : Nat} (hK : 1000000000000 ≤ K) {r : Rd} (hr : Good r) : ∃ n r', bytesR 60 r = (n, r') ∧ wire_Reader_Bytes.f K 60 r = some (n, r') ∧ Good r' ∧ isB n ∧ n.length < 1000000000 := ⟨_, _, rfl, bytesR_eq hK hr, (bytesR_spec (by omega)).good r hr, bytesR_isB hr⟩
theorem steps_ex {K : Nat} (hK : 1000000000000 ≤ K) {r : Rd} (hr : Good r) : ∃ n r', stepsR r = (n, r') ∧ rec_steps.f K r = some (n, r') ∧ Good r' ∧ n.length ≤ 6 := ⟨_, _, rfl, stepsR_eq hK hr, stepsR_spec.good r hr, stepsR_len r⟩
theorem recR_eq {K : Nat} (hK : 1000000000000 ≤ K) {r : Rd} (hr : Good r) : rec_Read.f K r = some (recR r) := by
 have g0 := numR_spec.good r hr
 obtain ⟨k, r0, hp⟩ : ∃ k r0, numR r = (k, r0) := ⟨_, _, rfl⟩
 rw [hp] at g0
 replace g0 : Good r0 := g0
 have hR : recR r = finR (bodyR k r0).1 (bodyR k r0).2 := by unfold recR seqR; rw [hp]
 unfold rec_Read.f
 rw [numR_eq hK hr, hp]
 simp only [Option.bind_some, jn]
 by_cases h1 : k = 1
 ·have hb : bodyR k r0 = mapR begE begR r0 := by unfold bodyR; rw [if_pos h1]
  have d1 : decide (k = 1) = true := dec_t h1
  simp only [d1, cond_true]
  obtain ⟨n1, r1, e1, q1, g1⟩ := num_ex hK g0
  refine bind_of q1 ?_
  simp only
  obtain ⟨n2, r2, e2, q2, g2, l2⟩ := steps_ex hK g1
  refine bind_of q2 ?_
  simp only
  obtain ⟨n3, r3, e3, q3, g3⟩ := flag_ex (K := K) g2
  refine bind_of q3 ?_
  simp only
  cases n3 with
  | true =>
   obtain ⟨n4, r4, e4, q4, g4⟩ := hash_ex (K := K) g3
   simp only [cond_true]
   refine bind_of q4 ?_
   simp only
   obtain rfl := h1
   refine (read_end hK ⟨isB_nil, by simp, by simp only; omega⟩).trans ?_
   rw [hR, hb]
   simp only [mapR, begR, seqR, e1, e2, e3, e4, loadR, begE]
   rfl
  | false =>
   obtain ⟨n4, r4, e4, q4, g4⟩ := hash_ex (K := K) g3
   simp only [cond_false]
   refine bind_of q4 ?_
   simp only
   obtain ⟨n5, r5, e5, q5, g5, l5, m5⟩ := bytes_ex hK g4
   refine bind_of q5 ?_
   simp only
   obtain rfl := h1
   refine (read_end hK ⟨l5, m5, by simp only; omega⟩).trans ?_
   rw [hR, hb]
   simp only [mapR, begR, seqR, e1, e2, e3, e4, e5, loadR, begE]
   rfl
 simp only [h1, decide_false, cond_false]
 by_cases h2 : k = 2
 ·have hb : bodyR k r0 = mapR (callE k) callR r0 := by unfold bodyR; rw [if_neg h1, if_pos (.inl h2)]
  have d2 : decide (k = 2) = true := dec_t h2
  have n3 : decide (k = 3) = false := by simp [h2]
  simp only [d2, n3, cond_true, cond_false]
  obtain ⟨n1, r1, e1, q1, g1⟩ := num_ex hK g0
  refine bind_of q1 ?_
  simp only
  obtain ⟨n2, r2, e2, q2, g2⟩ := num_ex hK g1
  refine bind_of q2 ?_
  simp only
  obtain ⟨n3, r3, e3, q3, g3⟩ := num_ex hK g2
  refine bind_of q3 ?_
  simp only
  obtain ⟨n4, r4, e4, q4, g4⟩ := num_ex hK g3
  refine bind_of q4 ?_
  simp only
  obtain ⟨n5, r5, e5, q5, g5⟩ := flag_ex (K := K) g4
  refine bind_of q5 ?_
  simp only
  refine (read_end hK ⟨isB_nil, by simp, by simp⟩).trans ?_
  rw [hR, hb]
  simp only [mapR, callR, callE, seqR, e1, e2, e3, e4, e5]
 simp only [h2, decide_false, cond_false]
 by_cases h4 : k = 4
 ·have hb : bodyR k r0 = mapR (callE k) callR r0 := by unfold bodyR; rw [if_neg h1, if_pos (.inr h4)]
  have d4 : decide (k = 4) = true := dec_t h4
  have n3 : decide (k = 3) = false := by simp [h4]
  simp only [d4, n3, cond_true, cond_false]
  obtain ⟨n1, r1, e1, q1, g1⟩ := num_ex hK g0
  refine bind_of q1 ?_
  simp only
  obtain ⟨n2, r2, e2, q2, g2⟩ := num_ex hK g1
  refine bind_of q2 ?_
  simp only
  obtain ⟨n3, r3, e3, q3, g3⟩ := num_ex hK g2
  refine bind_of q3 ?_
  simp only
  obtain ⟨n4, r4, e4, q4, g4⟩ := num_ex hK g3
  refine bind_of q4 ?_
  simp only
  obtain ⟨n5, r5, e5, q5, g5⟩ := flag_ex (K := K) g4
  refine bind_of q5 ?_
  simp only
  refine (read_end hK ⟨isB_nil, by simp, by simp⟩).trans ?_
  rw [hR, hb]
  simp only [mapR, callR, callE, seqR, e1, e2, e3, e4, e5]
 simp only [h4, decide_false, cond_false]
 by_cases h3 : k = 3
 ·have hb : bodyR k r0 = mapR ansE ansR r0 := by unfold bodyR; rw [if_neg h1, if_neg (by omega), if_pos h3]
  have d3 : decide (k = 3) = true := dec_t h3
  simp only [d3, cond_true]
  obtain ⟨n1, r1, e1, q1, g1⟩ := num_ex hK g0
  refine bind_of q1 ?_
  simp only
  obtain ⟨n2, r2, e2, q2, g2⟩ := num_ex hK g1
  refine bind_of q2 ?_
  simp only
  obtain ⟨n3, r3, e3, q3, g3⟩ := num_ex hK g2
  refine bind_of q3 ?_
  simp only
  obtain ⟨n4, r4, e4, q4, g4⟩ := num_ex hK g3
  refine bind_of q4 ?_
  simp only
  obtain ⟨n5, r5, e5, q5, g5⟩ := flag_ex (K := K) g4
  refine bind_of q5 ?_
  simp only
  obtain ⟨n6, r6, e6, q6, g6⟩ := flag_ex (K := K) g5
  refine bind_of q6 ?_
  simp only
  obtain ⟨n7, r7, e7, q7, g7⟩ := num_ex hK g6
  refine bind_of q7 ?_
  simp only
  obtain ⟨n8, r8, e8, q8, g8⟩ := num_ex hK g7
  refine bind_of q8 ?_
  simp only
  obtain ⟨n9, r9, e9, q9, g9⟩ := hash_ex (K := K) g8
  refine bind_of q9 ?_
  simp only
  obtain rfl := h3
  refine (read_end hK ⟨isB_nil, by simp, by simp⟩).trans ?_
  rw [hR, hb]
  simp only [mapR, ansR, callR, ansE, callE, seqR, e1, e2, e3, e4, e5, e6, e7, e8, e9]
 simp only [h3, decide_false, cond_false]
 by_cases h5 : k = 5
 ·have hb : bodyR k r0 = mapR cloE cloR r0 := by unfold bodyR; rw [if_neg h1, if_neg (by omega), if_neg h3, if_pos h5]
  have d5 : decide (k = 5) = true := dec_t h5
  simp only [d5, cond_true]
  obtain ⟨n1, r1, e1, q1, g1⟩ := num_ex hK g0
  refine bind_of q1 ?_
  simp only
  obtain ⟨n2, r2, e2, q2, g2⟩ := num_ex hK g1
  refine bind_of q2 ?_
  simp only
  obtain ⟨n3, r3, e3, q3, g3⟩ := num_ex hK g2
  refine bind_of q3 ?_
  simp only
  obtain rfl := h5
  refine (read_end hK ⟨isB_nil, by simp, by simp⟩).trans ?_
  rw [hR, hb]
  simp only [mapR, cloR, cloE, seqR, e1, e2, e3]
 simp only [h5, decide_false, cond_false]
 by_cases h6 : k = 6
 ·have hb : bodyR k r0 = mapR rotE rotR r0 := by unfold bodyR; rw [if_neg h1, if_neg (by omega), if_neg h3, if_neg h5, if_pos h6]
  have d6 : decide (k = 6) = true := dec_t h6
  simp only [d6, cond_true]
  obtain ⟨n1, r1, e1, q1, g1⟩ := num_ex hK g0
  refine bind_of q1 ?_
  simp only
  obtain ⟨n2, r2, e2, q2, g2⟩ := num_ex hK g1
  refine bind_of q2 ?_
  simp only
  obtain rfl := h6
  refine (read_end hK ⟨isB_nil, by simp, by simp⟩).trans ?_
  rw [hR, hb]
  simp only [mapR, rotR, rotE, seqR, e1, e2]
 simp only [h6, decide_false, cond_false]
 refine bind_of (failR_eq (by omega) r0) ?_
 refine (read_end hK ⟨isB_nil, by simp, by simp⟩).trans ?_
 rw [hR]
 simp only [bodyR, h1, h2, h3, h4, h5, h6, if_false, or_self]
end Go.Proofs.YtlcnliiampfigaaDoor
