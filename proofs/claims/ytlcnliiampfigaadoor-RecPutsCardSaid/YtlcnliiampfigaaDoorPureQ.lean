/-
 Plain: how records are read.
-/
import Derived.Test.YtlcnliiampfigaaDoorPureM
namespace Go.Proofs.YtlcnliiampfigaaDoor
open Go Go.Sep
def stepR : Rd → Sp × Rd := mapR (fun t => ⟨t.1, t.2⟩) (seqR numR (fun _ => numR))
theorem stepR_spec : RdSpec stepR stepW (fun s => inN s.fPart ∧ inN s.fKind) := by
 have h := (numR_spec.seq (fun _ => numR_spec)).map (e := fun (t : Int × Int) => (⟨t.1, t.2⟩ : Sp)) (fun s => (s.fPart, s.fKind)) (fun _ => rfl)
 exact h.conv (fun _ _ => rfl) (fun s => ⟨fun h => ⟨h, rfl⟩, fun h => h.1⟩)
def stepsR : Rd → List Sp × Rd := mapR Prod.snd (seqR (capR 6 2) (fun n => listR (fun _ => stepR) n.toNat 0))
theorem stepsR_spec : RdSpec stepsR stepsW (fun l => (l.length : Int) ≤ 6 ∧ ∀ s ∈ l, inN s.fPart ∧ inN s.fKind) :=
 (RdSpec.counted (most := 6) (code := 2) (by omega) (by omega) (fun _ => stepR_spec)).conv (fun _ _ => rfl) (fun l => ⟨fun h => ⟨h.1, fun j x hx => h.2 x (List.mem_of_getElem? hx)⟩, fun h => ⟨h.1, fun s hs => by
  obtain ⟨j, hj⟩ := List.getElem?_of_mem hs
  exact h.2 j s hj⟩⟩)
abbrev LoadT := H32 × H32 × List Int
def zH : H32 := Vector.replicate 32 0
def loadR : Bool → Rd → LoadT × Rd
 | true => mapR (fun h => (h, zH, [])) hashR
 | false => mapR (fun t => (zH, t.1, t.2)) (seqR hashR (fun _ => bytesR 60))
theorem loadR_spec : ∀ g, RdSpec (loadR g) (fun t => bif g then vlist t.1 else vlist t.2.1 ++ (numS t.2.2.length ++ t.2.2)) (fun t => bif g then isB (vlist t.1) ∧ t.2.1 = zH ∧ t.2.2 = [] else isB (vlist t.2.1) ∧ (t.2.2.length : Int) ≤ 60 ∧ isB t.2.2 ∧ t.1 = zH) := by
 intro g
 cases g with
 | true =>
  exact (hashR_spec.map (e := fun h => ((h, zH, []) : LoadT)) (fun t => t.1) (fun _ => rfl)).conv (fun _ _ => rfl) (fun t => by
   obtain ⟨a, b, c⟩ := t
   constructor
   ·rintro ⟨h1, h2, h3⟩; simp only at h2 h3; exact ⟨h1, by rw [h2, h3]⟩
   ·rintro ⟨h1, h2⟩; simp only [Prod.mk.injEq] at h2; exact ⟨h1, h2.2.1.symm, h2.2.2.symm⟩)
 | false =>
  have h := (hashR_spec.seq (fun _ => bytesR_spec (most := 60) (by omega))).map (e := fun (t : H32 × List Int) => ((zH, t.1, t.2) : LoadT)) (fun t => t.2) (fun _ => rfl)
  exact h.conv (fun _ _ => rfl) (fun t => by
   obtain ⟨a, b, c⟩ := t
   constructor
   ·rintro ⟨h1, h2, h3, h4⟩; simp only at h4; exact ⟨⟨h1, h2, h3⟩, by rw [h4]⟩
   ·rintro ⟨⟨h1, h2, h3⟩, h4⟩; simp only [Prod.mk.injEq] at h4; exact ⟨h1, h2, h3, h4.1.symm⟩)
abbrev BegT := Int × List Sp × Bool × LoadT
def begR : Rd → BegT × Rd := seqR numR (fun _ => seqR stepsR (fun _ => seqR flagR loadR))
def begE (t : BegT) : Rc := { zRc with fKind := 1, fSaga := t.1, fSteps := t.2.1, fGone := t.2.2.1, fCom := t.2.2.2.1, fSalt := t.2.2.2.2.1, fData := t.2.2.2.2.2 }
def callR : Rd → CallT × Rd := seqR numR (fun _ => seqR numR (fun _ => seqR numR (fun _ => seqR numR (fun _ => flagR))))
def callE (k : Int) (t : CallT) : Rc := { zRc with fKind := k, fSaga := t.1, fSeq := t.2.1, fStep := t.2.2.1, fTry := t.2.2.2.1, fBack := t.2.2.2.2 }
abbrev AnsT := CallT × Bool × Int × Int × H32
def ansR : Rd → AnsT × Rd := seqR callR (fun _ => seqR flagR (fun _ => seqR numR (fun _ => seqR numR (fun _ => hashR))))
def ansE (t : AnsT) : Rc := { callE 3 t.1 with fGood := t.2.1, fPart := t.2.2.1, fEpoch := t.2.2.2.1, fTag := t.2.2.2.2 }
def cloR : Rd → (Int × Int × Int) × Rd := seqR numR (fun _ => seqR numR (fun _ => numR))
def cloE (t : Int × Int × Int) : Rc := { zRc with fKind := 5, fSaga := t.1, fSeq := t.2.1, fEnd := t.2.2 }
def rotR : Rd → (Int × Int) × Rd := seqR numR (fun _ => numR)
def rotE (t : Int × Int) : Rc := { zRc with fKind := 6, fPart := t.1, fEpoch := t.2 }
def bodyR (k : Int) (r : Rd) : Rc × Rd :=
 if k = 1 then mapR begE begR r
 else if k = 2 ∨ k = 4 then mapR (callE k) callR r
 else if k = 3 then mapR ansE ansR r
 else if k = 5 then mapR cloE cloR r
 else if k = 6 then mapR rotE rotR r
 else ({ zRc with fKind := k }, failR 2 r)
/-- what a body that is read has -/
def bodyOk (k : Int) (x : Rc) : Prop :=
 if k = 1 then (inN x.fSaga ∧ ((x.fSteps.length : Int) ≤ 6 ∧ ∀ s ∈ x.fSteps, inN s.fPart ∧ inN s.fKind) ∧
   (bif x.fGone then isB (vlist x.fCom) ∧ x.fSalt = zH ∧ x.fData = [] else isB (vlist x.fSalt) ∧ (x.fData.length : Int) ≤ 60 ∧ isB x.fData ∧ x.fCom = zH)) ∧
   begE (x.fSaga, x.fSteps, x.fGone, x.fCom, x.fSalt, x.fData) = x
 else if k = 2 ∨ k = 4 then (inN x.fSaga ∧ inN x.fSeq ∧ inN x.fStep ∧ inN x.fTry) ∧ callE k (x.fSaga, x.fSeq, x.fStep, x.fTry, x.fBack) = x
 else if k = 3 then (inN x.fSaga ∧ inN x.fSeq ∧ inN x.fStep ∧ inN x.fTry ∧ inN x.fPart ∧ inN x.fEpoch ∧ isB (vlist x.fTag)) ∧ ansE ((x.fSaga, x.fSeq, x.fStep, x.fTry, x.fBack), x.fGood, x.fPart, x.fEpoch, x.fTag) = x
 else if k = 5 then (inN x.fSaga ∧ inN x.fSeq ∧ inN x.fEnd) ∧ cloE (x.fSaga, x.fSeq, x.fEnd) = x
 else if k = 6 then (inN x.fPart ∧ inN x.fEpoch) ∧ rotE (x.fPart, x.fEpoch) = x
 else False
theorem begR_spec : RdSpec begR (fun t => numW t.1 ++ (stepsW t.2.1 ++ ([flagI t.2.2.1] ++ (bif t.2.2.1 then vlist t.2.2.2.1 else vlist t.2.2.2.2.1 ++ (numS t.2.2.2.2.2.length ++ t.2.2.2.2.2)))))
  (fun t => inN t.1 ∧ ((t.2.1.length : Int) ≤ 6 ∧ ∀ s ∈ t.2.1, inN s.fPart ∧ inN s.fKind) ∧ True ∧ (bif t.2.2.1 then isB (vlist t.2.2.2.1) ∧ t.2.2.2.2.1 = zH ∧ t.2.2.2.2.2 = [] else isB (vlist t.2.2.2.2.1) ∧ (t.2.2.2.2.2.length : Int) ≤ 60 ∧ isB t.2.2.2.2.2 ∧ t.2.2.2.1 = zH)) :=
 numR_spec.seq (fun _ => stepsR_spec.seq (fun _ => flagR_spec.seq loadR_spec))
theorem callR_spec : RdSpec callR (fun t => numW t.1 ++ (numW t.2.1 ++ (numW t.2.2.1 ++ (numW t.2.2.2.1 ++ [flagI t.2.2.2.2])))) (fun t => inN t.1 ∧ inN t.2.1 ∧ inN t.2.2.1 ∧ inN t.2.2.2.1 ∧ True) :=
 numR_spec.seq (fun _ => numR_spec.seq (fun _ => numR_spec.seq (fun _ => numR_spec.seq (fun _ => flagR_spec))))
theorem bodyR_spec (k : Int) : RdSpec (bodyR k) (bodyW k) (bodyOk k) := by
 unfold bodyR
 by_cases h1 : k = 1
 ·subst h1
  exact (begR_spec.map (e := begE) (fun x => (x.fSaga, x.fSteps, x.fGone, x.fCom, x.fSalt, x.fData)) (fun _ => rfl)).conv (fun _ _ => rfl) (fun x => by simp [bodyOk])
 simp only [h1, if_false]
 by_cases h2 : k = 2 ∨ k = 4
 ·simp only [h2, if_true]
  refine (callR_spec.map (e := callE k) (fun x => (x.fSaga, x.fSeq, x.fStep, x.fTry, x.fBack)) (fun _ => rfl)).conv (fun x _ => by simp [bodyW, h1, h2, callW]) (fun x => ?_)
  unfold bodyOk
  rw [if_neg h1, if_pos h2]
  simp
 simp only [h2, if_false]
 by_cases h3 : k = 3
 ·subst h3
  refine ((callR_spec.seq (fun _ => flagR_spec.seq (fun _ => numR_spec.seq (fun _ => numR_spec.seq (fun _ => hashR_spec))))).map (e := ansE) (fun x => ((x.fSaga, x.fSeq, x.fStep, x.fTry, x.fBack), x.fGood, x.fPart, x.fEpoch, x.fTag)) (fun _ => rfl)).conv (fun x _ => ?_) (fun x => ?_)
  ·simp [bodyW, callW, numW]
  ·simp [bodyOk, and_assoc]
 simp only [h3, if_false]
 by_cases h5 : k = 5
 ·subst h5
  refine ((numR_spec.seq (fun _ => numR_spec.seq (fun _ => numR_spec))).map (e := cloE) (fun x => (x.fSaga, x.fSeq, x.fEnd)) (fun _ => rfl)).conv (fun x _ => ?_) (fun x => ?_)
  ·simp [bodyW, numW]
  ·simp [bodyOk]
 simp only [h5, if_false]
 by_cases h6 : k = 6
 ·subst h6
  refine ((numR_spec.seq (fun _ => numR_spec)).map (e := rotE) (fun x => (x.fPart, x.fEpoch)) (fun _ => rfl)).conv (fun x _ => ?_) (fun x => ?_)
  ·simp [bodyW, numW]
  ·simp [bodyOk]
 simp only [h6, if_false]
 refine ⟨fun r hr => failR_good hr, fun a rest ha _ => ?_, fun r _ hb => absurd hb (failR_bad (by omega) _)⟩
 simp [bodyOk, h1, h2, h3, h5, h6] at ha
def finR (x : Rc) (r : Rd) : Rc × Rd :=
 let r2 := bif rightS x then r else failR 2 r
 if r2.fBad = 0 then (x, r2) else (zRc, r2)
def recR (r : Rd) : Rc × Rd := finR (seqR numR bodyR r).1.2 (seqR numR bodyR r).2
/-- a record whose data are bytes -/
structure okB (x : Rc) : Prop where
 data : isB x.fData
 tag : isB (vlist x.fTag)
 salt : isB (vlist x.fSalt)
 com : isB (vlist x.fCom)
theorem isB_zH : isB (vlist zH) := by
 unfold isB
 decide
theorem bodyOk_of {x : Rc} (h : rightS x = true) (hb : okB x) : bodyOk x.fKind x := by
 have hd := rightD h
 have hk := hd.kept
 unfold keptS at hk
 unfold bodyOk
 rcases hd.kind with k | k | k | k | k | k
 ·obtain ⟨b1, b2, b3⟩ := hd.beg k
  have b1 := inn_iff.1 b1
  rw [if_pos k] at hk ⊢
  refine ⟨⟨hd.saga, ⟨b1.2, fun s hs => step_N (List.all_eq_true.1 b2 s hs)⟩, ?_⟩, ?_⟩
  ·cases hg : x.fGone
   ·rw [hg] at hk
    exact ⟨hb.salt, b3, hb.data, congrArg (fun y : Rc => y.fCom) hk⟩
   ·rw [hg] at hk
    exact ⟨hb.com, congrArg (fun y : Rc => y.fSalt) hk, congrArg (fun y : Rc => y.fData) hk⟩
  ·cases hg : x.fGone
   ·rw [hg] at hk
    simp only [cond_false] at hk
    rw [hk]
    simp [begE, k]
   ·rw [hg] at hk
    simp only [cond_true] at hk
    rw [hk]
    simp [begE, k]
 ·have h4 := hd.call (.inl k)
  rw [if_neg (by omega), if_neg (by omega), if_pos (.inl k)] at hk
  rw [if_neg (by omega), if_pos (.inl k)]
  exact ⟨⟨hd.saga, h4.1, h4.2.1, h4.2.2⟩, by rw [hk]; simp [callE, k]⟩
 ·have h4 := hd.call (.inr (.inr k))
  rw [if_neg (by omega), if_pos k] at hk
  rw [if_neg (by omega), if_neg (by omega), if_pos k]
  exact ⟨⟨hd.saga, h4.1, h4.2.1, h4.2.2, hd.part, hd.epoch, hb.tag⟩, by rw [hk]; simp [ansE, callE, k]⟩
 ·have h4 := hd.call (.inr (.inl k))
  rw [if_neg (by omega), if_neg (by omega), if_pos (.inr k)] at hk
  rw [if_neg (by omega), if_pos (.inr k)]
  exact ⟨⟨hd.saga, h4.1, h4.2.1, h4.2.2⟩, by rw [hk]; simp [callE, k]⟩
 ·have h4 := hd.clo k
  rw [if_neg (by omega), if_neg (by omega), if_neg (by omega), if_pos k] at hk
  rw [if_neg (by omega), if_neg (by omega), if_neg (by omega), if_pos k]
  exact ⟨⟨hd.saga, h4.1, h4.2⟩, by rw [hk]; simp [cloE, k]⟩
 ·rw [if_neg (by omega), if_neg (by omega), if_neg (by omega), if_neg (by omega), if_pos k] at hk
  rw [if_neg (by omega), if_neg (by omega), if_neg (by omega), if_neg (by omega), if_pos k]
  exact ⟨⟨hd.part, hd.epoch⟩, by rw [hk]; simp [rotE, k]⟩
theorem bodyOk_kind {k : Int} {x : Rc} (h : bodyOk k x) : x.fKind = k ∧ okB x := by
 unfold bodyOk at h
 by_cases h1 : k = 1
 ·rw [if_pos h1] at h
  obtain ⟨⟨_, _, h2⟩, h3⟩ := h
  refine ⟨by rw [← h3]; exact h1.symm, ?_⟩
  have ht : isB (vlist x.fTag) := by rw [← h3]; exact isB_zH
  cases hg : x.fGone
  ·rw [hg] at h2; exact ⟨h2.2.2.1, ht, h2.1, by rw [h2.2.2.2]; exact isB_zH⟩
  ·rw [hg] at h2; exact ⟨by rw [h2.2.2]; exact isB_nil, ht, by rw [h2.2.1]; exact isB_zH, h2.1⟩
 rw [if_neg h1] at h
 by_cases h2 : k = 2 ∨ k = 4
 ·rw [if_pos h2] at h
  obtain ⟨_, h3⟩ := h
  rw [← h3]
  exact ⟨rfl, isB_nil, isB_zH, isB_zH, isB_zH⟩
 rw [if_neg h2] at h
 by_cases h3 : k = 3
 ·rw [if_pos h3] at h
  obtain ⟨⟨_, _, _, _, _, _, h4⟩, h3'⟩ := h
  exact ⟨by rw [← h3']; exact h3.symm, by rw [← h3']; exact isB_nil, h4, by rw [← h3']; exact isB_zH, by rw [← h3']; exact isB_zH⟩
 rw [if_neg h3] at h
 by_cases h5 : k = 5
 ·rw [if_pos h5] at h
  rw [← h.2]
  exact ⟨h5.symm, isB_nil, isB_zH, isB_zH, isB_zH⟩
 rw [if_neg h5] at h
 by_cases h6 : k = 6
 ·rw [if_pos h6] at h
  rw [← h.2]
  exact ⟨h6.symm, isB_nil, isB_zH, isB_zH, isB_zH⟩
 rw [if_neg h6] at h
 exact h.elim
theorem recR_spec : RdSpec recR openW (fun x => rightS x = true ∧ okB x) := by
 have hs := numR_spec.seq bodyR_spec
 refine ⟨fun r hr => ?_, fun x rest hx hg => ?_, fun r hr hb => ?_⟩
 ·have h1 := hs.good r hr
  unfold recR finR
  simp only
  have h2 : Good (bif rightS (seqR numR bodyR r).1.2 then (seqR numR bodyR r).2 else failR 2 (seqR numR bodyR r).2) := by
   cases rightS (seqR numR bodyR r).1.2
   ·exact failR_good h1
   ·exact h1
  split <;> exact h2
 ·have h1 := hs.ok (x.fKind, x) rest ⟨kind_N hx.1, bodyOk_of hx.1 hx.2⟩ hg
  unfold recR finR
  rw [show openW x = numS x.fKind.toNat ++ bodyW x.fKind x from rfl, h1]
  simp [hx.1]
 ·unfold recR finR at hb ⊢
  simp only at hb ⊢
  cases hr2 : rightS (seqR numR bodyR r).1.2 with
  | false =>
   rw [hr2] at hb
   simp only [cond_false] at hb
   have := failR_bad (e := 2) (by omega) (seqR numR bodyR r).2
   rw [if_neg this] at hb
   exact absurd hb this
  | true =>
   rw [hr2] at hb
   simp only [cond_true] at hb ⊢
   by_cases h0 : (seqR numR bodyR r).2.fBad = 0
   ·rw [if_pos h0] at hb ⊢
    obtain ⟨e1, e2, e3, e4⟩ := hs.back r hr h0
    obtain ⟨e5, e6⟩ := bodyOk_kind e4
    refine ⟨e1, ?_, hr2, e6⟩
    unfold openW
    rw [e5]
    exact e2
   ·rw [if_neg h0] at hb
    exact absurd hb h0
/-! ### the program's -/
theorem stepsR_eq {K : Nat} (hK : 1000000000000 ≤ K) {r : Rd} (hr : Good r) : rec_steps.f K r = some (stepsR r) := by
 unfold rec_steps.f
 rw [numR_eq hK hr]
 simp only [Option.bind_some, jn]
 have hg := numR_spec.good r hr
 have hn : ∃ N : Nat, (numR r).1 = (N : Int) ∧ N < 2147483648 := by
  unfold numR
  split
  ·split
   ·rename_i _ h2
    obtain ⟨n, rest, h3, h4, h5⟩ := num_split hr.1 h2
    exact ⟨n, by rw [h5], h3⟩
   ·exact ⟨0, rfl, by omega⟩
  ·exact ⟨0, rfl, by omega⟩
 obtain ⟨N, hN, hN2⟩ := hn
 have key : ∀ r', Good r' → rec_steps_l1.l K (numR r) K ([], 0, r') = some (listR (fun _ => stepR) N 0 r') := by
  intro r' hr'
  have := read_loop (L := rec_steps_l1.l K (numR r)) (one := fun _ => stepR) (N := N) (by omega) (fun _ r hr => stepR_spec.good r hr)
   (fun k out r' => by
    show rec_steps_l1.b K (numR r) (rec_steps_l1.l K (numR r) k) _ = _
    unfold rec_steps_l1.b
    rw [bif_false (dec_f (by simp only; omega))])
   (fun k out i r' hi hb => by
    show rec_steps_l1.b K (numR r) (rec_steps_l1.l K (numR r) k) _ = _
    unfold rec_steps_l1.b
    rw [bif_true (dec_t (by simp only; omega)), rbad_eq]
    simp only [Option.bind_some]
    rw [bif_true (by simp [hb])])
   (fun k out i r' hi hb hg ho => by
    show rec_steps_l1.b K (numR r) (rec_steps_l1.l K (numR r) k) _ = _
    unfold rec_steps_l1.b
    rw [bif_true (dec_t (by simp only; omega)), rbad_eq]
    simp only [Option.bind_some]
    rw [bif_false (by simp [hb]), numR_eq hK hg]
    simp only [Option.bind_some]
    rw [numR_eq hK (numR_spec.good _ hg)]
    simp only [Option.bind_some]
    rw [catI_ok (by simp; omega)]
    simp only [Option.bind_some]
    rw [wrap_succ (by omega)]
    rfl)
   N 0 [] r' K (by omega) (by omega) hr' (by simp)
  simpa using this
 unfold stepsR mapR seqR capR
 simp only [hN, Int.toNat_natCast]
 by_cases h6 : (6 : Int) < N
 ·rw [bif_true (dec_t h6), failR_eq (by omega)]
  simp only [Option.bind_some]
  rw [key _ (failR_good hg)]
  simp [h6]
 ·rw [bif_false (dec_f h6), key _ hg]
  simp [h6]
end Go.Proofs.YtlcnliiampfigaaDoor
