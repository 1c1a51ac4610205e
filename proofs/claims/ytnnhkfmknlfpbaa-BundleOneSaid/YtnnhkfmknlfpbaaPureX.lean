/-
  Plain: a bundle is read as told.
-/
import Derived.Test.YtnnhkfmknlfpbaaPureV
namespace Go.Proofs.Ytnnhkfmknlfpbaa
open Go Go.Sep

theorem some_read {K : Nat} (hK : 1000000000000 ≤ K) {r : Rd} (hr : Good r) (i : Int) : bundle_Get_3.f K i r = some (someR r) := by
  unfold bundle_Get_3.f
  simp only [jn]
  have g1 := numR_spec.good r hr
  have g2 := recR_spec.good _ g1
  refine bind_of (numR_eq hK hr) ?_
  refine bind_of (recR_eq hK g1) ?_
  simp only [Option.bind_some]
  have hp := path_read hK g2
  rw [numR_eq hK g2] at hp ⊢
  simp only [Option.bind_some] at hp ⊢
  rw [hp]
  rfl
theorem whole_read {K : Nat} (hK : 1000000000000 ≤ K) {r : Rd} (hr : Good r) (i : Nat) : bundle_Get_2.f K (i : Int) r = some (wholeR i r) := by
  unfold bundle_Get_2.f
  refine bind_of (recR_eq hK hr) ?_
  rfl
theorem some_loop {K : Nat} (hK : 1000000000000 ≤ K) {N : Nat} (hN : N < 2147483648) {r : Rd} (hr : Good r) : bundle_read_api_Item_v2_l1.l K (N : Int) K ([], 0, r) = some (listR (fun _ => someR) N 0 r) := by
  have := read_loop (L := bundle_read_api_Item_v2_l1.l K (N : Int)) (one := fun _ => someR) (N := N) (by omega) (fun _ r hr => someR_spec.good r hr)
    (fun k out r' => by
      show bundle_read_api_Item_v2_l1.b K (N : Int) (bundle_read_api_Item_v2_l1.l K (N : Int) k) _ = _
      unfold bundle_read_api_Item_v2_l1.b
      rw [bif_false (dec_f (by simp))])
    (fun k out i r' hi hb => by
      show bundle_read_api_Item_v2_l1.b K (N : Int) (bundle_read_api_Item_v2_l1.l K (N : Int) k) _ = _
      unfold bundle_read_api_Item_v2_l1.b
      rw [bif_true (dec_t (by simp only; omega)), rbad_eq]
      simp only [Option.bind_some]
      rw [bif_true (by simp [hb])])
    (fun k out i r' hi hb hg ho => by
      show bundle_read_api_Item_v2_l1.b K (N : Int) (bundle_read_api_Item_v2_l1.l K (N : Int) k) _ = _
      unfold bundle_read_api_Item_v2_l1.b
      rw [bif_true (dec_t (by simp only; omega)), rbad_eq]
      simp only [Option.bind_some]
      rw [bif_false (by simp [hb]), some_read hK hg]
      simp only [Option.bind_some]
      rw [catI_ok (by simp; omega)]
      simp only [Option.bind_some]
      rw [wrap_succ (by omega)])
    N 0 [] r K (by omega) (by omega) hr (by simp)
  simpa using this
theorem whole_loop {K : Nat} (hK : 1000000000000 ≤ K) {N : Nat} (hN : N < 2147483648) {r : Rd} (hr : Good r) : bundle_read_api_Item_l1.l K (N : Int) K ([], 0, r) = some (listR wholeR N 0 r) := by
  have := read_loop (L := bundle_read_api_Item_l1.l K (N : Int)) (one := wholeR) (N := N) (by omega) (fun i r hr => (wholeR_spec i).good r hr)
    (fun k out r' => by
      show bundle_read_api_Item_l1.b K (N : Int) (bundle_read_api_Item_l1.l K (N : Int) k) _ = _
      unfold bundle_read_api_Item_l1.b
      rw [bif_false (dec_f (by simp))])
    (fun k out i r' hi hb => by
      show bundle_read_api_Item_l1.b K (N : Int) (bundle_read_api_Item_l1.l K (N : Int) k) _ = _
      unfold bundle_read_api_Item_l1.b
      rw [bif_true (dec_t (by simp only; omega)), rbad_eq]
      simp only [Option.bind_some]
      rw [bif_true (by simp [hb])])
    (fun k out i r' hi hb hg ho => by
      show bundle_read_api_Item_l1.b K (N : Int) (bundle_read_api_Item_l1.l K (N : Int) k) _ = _
      unfold bundle_read_api_Item_l1.b
      rw [bif_true (dec_t (by simp only; omega)), rbad_eq]
      simp only [Option.bind_some]
      rw [bif_false (by simp [hb]), whole_read hK hg]
      simp only [Option.bind_some]
      rw [catI_ok (by simp; omega)]
      simp only [Option.bind_some]
      rw [wrap_succ (by omega)])
    N 0 [] r K (by omega) (by omega) hr (by simp)
  simpa using this
/-- what is made of what is read -/
def endS (t : Bun × Rd) : Bun × Int :=
  let e := if t.2.fBad ≠ 0 then t.2.fBad else if t.2.fB = [] then 0 else 2
  if e ≠ 0 then (zBun, e) else if rightB t.1 then (t.1, 0) else (zBun, 2)
def getS (b : List Int) : Bun × Int := if b.take 4 = mark then endS (bunR ⟨b.drop 4, 0⟩) else (zBun, 2)
theorem rightS_okD {x : Rc} (h : rightS x = true) (hb : okB x) : okD x := by
  have hd := rightD h
  have hk := hd.kept
  by_cases k : x.fKind = 1
  · obtain ⟨b1, _, b3⟩ := hd.beg k
    have b1 := inn_iff.1 b1
    exact ⟨hb.data, by omega, by omega⟩
  · have e : x.fSteps = [] := by
      rw [hk]; unfold keptS
      rw [if_neg k]
      repeat' split
      all_goals rfl
    have e2 : x.fData = [] := by
      rw [hk]; unfold keptS
      rw [if_neg k]
      repeat' split
      all_goals rfl
    exact ⟨hb.data, by rw [e2]; simp, by rw [e]; simp⟩
theorem okBun_ok {x : Bun} (h : bunOk x) : okBun x := by
  have hi := h.items
  have hs := h.size
  have h1 := h.sigs.1
  unfold itemsOkR at hi
  cases hw : x.fWhole with
  | true =>
    rw [hw] at hi
    simp only [cond_true] at hi
    refine ⟨by omega, by omega, fun y hy => ?_⟩
    obtain ⟨j, hj⟩ := List.getElem?_of_mem hy
    have := hi.2.2 j y hj
    refine ⟨rightS_okD this.1.1 this.1.2, ?_⟩
    rw [← this.2]; simp
  | false =>
    rw [hw] at hi
    simp only [cond_false] at hi
    refine ⟨by omega, by omega, fun y hy => ?_⟩
    obtain ⟨_, h2, h3, _⟩ := hi.2 y hy
    exact ⟨rightS_okD h2.1 h2.2, by omega⟩
theorem done_eq {K : Nat} (r : Rd) : wire_Reader_Done.f K r = some (if r.fBad ≠ 0 then r.fBad else if r.fB = [] then 0 else 2) := by
  obtain ⟨b, e⟩ := r
  by_cases h : e = 0
  · subst h
    cases b with
    | nil => rfl
    | cons c l =>
      unfold wire_Reader_Done.f wire_Reader_Bad.f
      simp only [Option.bind_some]
      rw [bif_false (by simp), bif_true (by simp)]
      simp
  · rw [rdone_bad h]; simp [h]
theorem cut_eq {K : Nat} {b : List Int} (hb : isB b) (hl : b.length < 1000000000) : bytes_CutPrefix.f K b mark = some (if b.take 4 = mark then (b.drop 4, true) else (b, false)) := by
  unfold bytes_CutPrefix.f bytes_HasPrefix.f
  have hm : mark.length = 4 := rfl
  have hmB : isB mark := by unfold isB mark; decide
  by_cases h4 : 4 ≤ b.length
  · rw [bif_true (dec_t (by rw [hm]; omega)), hm, subI_0 h4]
    simp only [Option.bind_some]
    rw [bytes_same (fun x hx => hb x (List.mem_of_mem_take hx)) hmB]
    simp only [Option.bind_some]
    by_cases he : b.take 4 = mark
    · rw [bif_false (by simp [he]), subI_all h4]
      simp [he]
    · rw [bif_true (by simp [he])]
      simp [he]
  · rw [bif_false (dec_f (by rw [hm]; omega))]
    have he : ¬ b.take 4 = mark := fun e => by
      have := congrArg List.length e
      rw [hm] at this
      simp at this; omega
    simp [he]
theorem get_end {K : Nat} (hK : 1000000000000 ≤ K) {x : Bun} {r : Rd} (h : r.fBad = 0 → bunOk x) :
    ((wire_Reader_Done.f K r).bind fun (e : Int) => (bif (!decide (e = (0 : Int))) then (some (zBun, e)) else ((bundle_Right.f K x).bind fun (q : Bool) => (bif (!q) then (some (zBun, (2 : Int))) else (some (x, (0 : Int))))))) = some (endS (x, r)) := by
  rw [done_eq]
  simp only [Option.bind_some]
  unfold endS
  simp only
  generalize he : (if r.fBad ≠ 0 then r.fBad else if r.fB = [] then 0 else 2) = e
  by_cases h0 : e = 0
  · subst h0
    have hb : r.fBad = 0 := by
      by_cases hb : r.fBad = 0
      · exact hb
      · rw [if_pos hb] at he; exact he
    rw [bif_false (by simp), rightB_eq hK (okBun_ok (h hb))]
    simp only [Option.bind_some]
    cases rightB x <;> simp
  · rw [bif_true (by simp [h0]), if_pos h0]
theorem items_read {K : Nat} (hK : 1000000000000 ≤ K) {N : Nat} (hN : N < 2147483648) {r : Rd} (hr : Good r) (w : Bool) :
    (bif w then bundle_read_api_Item.f K (N : Int) 400 r else (wire_Reader_Num.f K r).bind (fun t => bundle_read_api_Item_v2.f K t.1 (N : Int) t.2)) = some (itemsR w (N : Int) r) := by
  cases w with
  | true =>
    simp only [cond_true]
    unfold bundle_read_api_Item.f itemsR
    simp only [jn, cond_true, Int.toNat_natCast]
    by_cases h6 : (400 : Int) < N
    · rw [bif_true (dec_t h6), failR_eq (by omega)]
      simp only [Option.bind_some]
      rw [whole_loop hK hN (failR_good hr)]
      simp [h6]
    · rw [bif_false (dec_f h6), whole_loop hK hN hr]
      simp [h6]
  | false =>
    simp only [cond_false]
    have hg := numR_spec.good r hr
    rw [numR_eq hK hr]
    obtain ⟨M, hM, hM2⟩ := numR_nat hr
    unfold bundle_read_api_Item_v2.f itemsR cntR mapR seqR capR
    simp only [Option.bind_some, jn, hM, Int.toNat_natCast, cond_false]
    by_cases h6 : (N : Int) < M
    · rw [bif_true (dec_t h6), failR_eq (by omega)]
      simp only [Option.bind_some]
      rw [some_loop hK hM2 (failR_good hg)]
      simp [h6]
    · rw [bif_false (dec_f h6), some_loop hK hM2 hg]
      simp [h6]
theorem get_eq {K : Nat} (hK : 1000000000000 ≤ K) {b : List Int} (hb : isB b) (hl : b.length < 1000000000) : bundle_Get.f K b = some (getS b) := by
  unfold bundle_Get.f getS
  refine bind_of (cut_eq hb hl) ?_
  by_cases hm : b.take 4 = mark
  · rw [if_pos hm, if_pos hm]
    simp only [Bool.not_true, cond_false]
    have hg : Good ⟨b.drop 4, 0⟩ := Good.drop (b := b) (e := 0) ⟨hb, hl⟩ 4
    have hl2 : (b.drop 4).length < 1000000000000 := by have := hg.2; simp only at this; omega
    refine bind_of (read_eq hl2) ?_
    have hs := bunR_spec.back ⟨b.drop 4, 0⟩ hg
    generalize (⟨b.drop 4, 0⟩ : Rd) = r at hg hs
    obtain ⟨w, r1, e1, q1, g1⟩ := flag_ex (K := K) hg
    refine bind_of q1 ?_
    simp only [Option.bind_some]
    obtain ⟨N, hN, hN2⟩ := numR_nat g1
    obtain ⟨n, r2, e2, q2, g2⟩ := num_ex hK g1
    have hn : n = (N : Int) := by rw [e2] at hN; exact hN
    subst hn
    refine bind_of q2 ?_
    simp only [jn, Option.bind_some]
    obtain ⟨r3, e3, g3⟩ : ∃ r3, (capR 400 4 r1) = ((N : Int), r3) ∧ Good r3 := by
      refine ⟨(capR 400 4 r1).2, ?_, (capR_spec (by omega) (by omega)).good _ g1⟩
      simp only [capR, e2]
    have key : ∀ r3, capR 400 4 r1 = ((N : Int), r3) → Good r3 →
        ((wire_Reader_Hash.f K r3).bind fun (r376 : (H32 × Rd)) => (wire_Reader_Num.f K r376.2).bind fun (r409 : (Int × Rd)) => (bundle_read_api_Sig.f K r409.1 4 r409.2).bind fun (r417 : (List Sg × Rd)) =>
          (bif w then (bundle_read_api_Item.f K (N : Int) 400 r417.2).bind fun (r538 : (List It × Rd)) => ((wire_Reader_Done.f K r538.2).bind fun (e : Int) => (bif (!decide (e = (0 : Int))) then (some (zBun, e)) else ((bundle_Right.f K ⟨w, ⟨(N : Int), r376.1, r417.1⟩, r538.1⟩).bind fun (q : Bool) => (bif (!q) then (some (zBun, (2 : Int))) else (some ((⟨w, ⟨(N : Int), r376.1, r417.1⟩, r538.1⟩ : Bun), (0 : Int)))))))
           else (wire_Reader_Num.f K r417.2).bind fun (r572 : (Int × Rd)) => (bundle_read_api_Item_v2.f K r572.1 (N : Int) r572.2).bind fun (r538 : (List It × Rd)) => ((wire_Reader_Done.f K r538.2).bind fun (e : Int) => (bif (!decide (e = (0 : Int))) then (some (zBun, e)) else ((bundle_Right.f K ⟨w, ⟨(N : Int), r376.1, r417.1⟩, r538.1⟩).bind fun (q : Bool) => (bif (!q) then (some (zBun, (2 : Int))) else (some ((⟨w, ⟨(N : Int), r376.1, r417.1⟩, r538.1⟩ : Bun), (0 : Int)))))))))
        = some (endS (bunR r)) := by
      intro r3 e3 g3
      obtain ⟨h, r4, e4, q4, g4⟩ := hash_ex (K := K) g3
      refine bind_of q4 ?_
      simp only
      have hsig := sigs_read hK g4
      have g5 := sigsR_spec.good _ g4
      obtain ⟨sg, r5, e5⟩ : ∃ sg r5, sigsR r4 = (sg, r5) := ⟨_, _, rfl⟩
      rw [e5] at hsig g5
      replace g5 : Good r5 := g5
      obtain ⟨m, r4', e4', q4', g4'⟩ := num_ex hK g4
      rw [q4'] at hsig
      simp only [Option.bind_some] at hsig
      refine bind_of q4' ?_
      simp only
      refine bind_of hsig ?_
      simp only
      have hit := items_read hK hN2 g5 w
      obtain ⟨l, r6, e6⟩ : ∃ l r6, itemsR w (N : Int) r5 = (l, r6) := ⟨_, _, rfl⟩
      rw [e6] at hit
      have hB : bunR r = (⟨w, ⟨(N : Int), h, sg⟩, l⟩, r6) := by
        have hc : capN (N : Int) = (N : Int) := by simp only [capN]; rw [if_pos (by omega)]
        simp only [bunR, mapR, seqR, e1, e3, e4, e5, hc, e6, bunE]
      rw [hB] at hs ⊢
      have hs : r6.fBad = 0 → bunOk ⟨w, ⟨(N : Int), h, sg⟩, l⟩ := fun h0 => (hs h0).2.2
      cases w with
      | true =>
        simp only [cond_true] at hit ⊢
        refine bind_of hit ?_
        exact get_end hK hs
      | false =>
        simp only [cond_false] at hit ⊢
        obtain ⟨m2, r7, e7, q7, g7⟩ := num_ex hK g5
        rw [q7] at hit
        simp only [Option.bind_some] at hit
        refine bind_of q7 ?_
        simp only
        refine bind_of hit ?_
        exact get_end hK hs
    by_cases h4 : (400 : Int) < (N : Int)
    · simp only [h4, decide_true, cond_true]
      refine bind_of (failR_eq (by omega) r2) ?_
      exact key _ (by simp only [capR, e2, h4, if_true]) (failR_good g2)
    · simp only [h4, decide_false, cond_false]
      exact key _ (by simp only [capR, e2, h4, if_false]) g2
  · rw [if_neg hm, if_neg hm]
    rfl
end Go.Proofs.Ytnnhkfmknlfpbaa
