/-
  The plain law of RecOne.
-/
import Derived.Test.YtlcnliiampfigaaDoorPureE
namespace Go.Proofs.YtlcnliiampfigaaDoor
open Go Go.Sep

theorem sealW_isB {K : Nat} (hK : 1000000000000 ≤ K) {x : Rc} (h : okB x) : isB (sealW K x) := by
  have ho := openW_isB' h
  have h1 := (isB_append.1 ho).1
  have h2 := (isB_append.1 ho).2
  refine isB_append.2 ⟨h1, ?_⟩
  unfold sealB
  by_cases hk : x.fKind = 1
  · rw [bif_true (dec_t hk)]
    rw [hk] at h2
    unfold bodyW at h2
    rw [if_pos rfl] at h2
    have h3 := isB_append.1 h2
    exact isB_append.2 ⟨h3.1, isB_append.2 ⟨(isB_append.1 h3.2).1, comS_isB hK h⟩⟩
  · rw [bif_false (dec_f hk)]; exact h2
theorem begD_eq {x : Rc} (h : rightS x = true) : begS x = decide (x.fKind = 1) := by
  unfold begS; rw [h]; rfl
theorem seal_inj {K : Nat} (hK : 1000000000000 ≤ K) {x y : Rc} (hx : rightS x = true) (hy : rightS y = true) (bx : okB x) (by_ : okB y) (h : sealW K x = sealW K y) : redS K x = redS K y := by
  have lx := sealW_len (K := K) hx
  have ly := sealW_len (K := K) hy
  have gx : Good ⟨sealW K x, 0⟩ := ⟨sealW_isB hK bx, by simp; omega⟩
  have gy : Good ⟨sealW K y, 0⟩ := ⟨sealW_isB hK by_, by simp; omega⟩
  have e1 := numR_spec.ok x.fKind (sealB K x) (kind_N hx) gx
  have e2 := numR_spec.ok y.fKind (sealB K y) (kind_N hy) gy
  have h' : numS x.fKind.toNat ++ sealB K x = numS y.fKind.toNat ++ sealB K y := h
  rw [h'] at e1
  have e3 := e1.symm.trans e2
  simp only [Prod.mk.injEq, T_wire_Reader.mk.injEq, and_true] at e3
  obtain ⟨hk, hb⟩ := e3
  have gbx : Good ⟨sealB K x, 0⟩ := Good.tail gx
  have gby : Good ⟨sealB K y, 0⟩ := Good.tail gy
  by_cases h1 : x.fKind = 1
  · have h2 : y.fKind = 1 := by omega
    have ux : begS x = true := by rw [begD_eq hx]; exact dec_t h1
    have uy : begS y = true := by rw [begD_eq hy]; exact dec_t h2
    have sx : sealB K x = numS x.fSaga.toNat ++ (stepsW x.fSteps ++ vlist (comS K x)) := by unfold sealB; rw [bif_true (dec_t h1)]; rfl
    have sy : sealB K y = numS y.fSaga.toNat ++ (stepsW y.fSteps ++ vlist (comS K y)) := by unfold sealB; rw [bif_true (dec_t h2)]; rfl
    have spec := numR_spec.seq (fun _ => stepsR_spec.seq (fun _ => hashR_spec))
    have okOf : ∀ {z : Rc}, rightS z = true → z.fKind = 1 → okB z → inN z.fSaga ∧ ((z.fSteps.length : Int) ≤ 6 ∧ ∀ s ∈ z.fSteps, inN s.fPart ∧ inN s.fKind) ∧ isB (vlist (comS K z)) := fun hz k bz => by
      have hd := rightD hz
      obtain ⟨b1, b2, b3⟩ := hd.beg k
      exact ⟨hd.saga, ⟨(inn_iff.1 b1).2, fun s hs => step_N (List.all_eq_true.1 b2 s hs)⟩, comS_isB hK bz⟩
    rw [sx] at gbx
    rw [sy] at gby
    have r1 := spec.ok (x.fSaga, x.fSteps, comS K x) [] (okOf hx h1 bx) (by rw [List.append_nil]; exact gbx)
    have r2 := spec.ok (y.fSaga, y.fSteps, comS K y) [] (okOf hy h2 by_) (by rw [List.append_nil]; exact gby)
    rw [List.append_nil] at r1 r2
    have hb' : numS x.fSaga.toNat ++ (stepsW x.fSteps ++ vlist (comS K x)) = numS y.fSaga.toNat ++ (stepsW y.fSteps ++ vlist (comS K y)) := by rw [← sx, ← sy]; exact hb
    simp only at r1 r2
    rw [hb'] at r1
    have e3 := r1.symm.trans r2
    simp only [Prod.mk.injEq, and_true] at e3
    rw [red_beg ux, red_beg uy, e3.1, e3.2.1, e3.2.2]
  · have h2 : ¬y.fKind = 1 := by omega
    have ux : begS x = false := by rw [begD_eq hx]; exact dec_f h1
    have uy : begS y = false := by rw [begD_eq hy]; exact dec_f h2
    have sx : sealB K x = bodyW x.fKind x := by unfold sealB; rw [bif_false (dec_f h1)]
    have sy : sealB K y = bodyW y.fKind y := by unfold sealB; rw [bif_false (dec_f h2)]
    rw [sx] at gbx hb
    rw [sy] at gby hb
    have r1 := (bodyR_spec x.fKind).ok x [] (bodyOk_of hx bx) (by rw [List.append_nil]; exact gbx)
    have r2 := (bodyR_spec y.fKind).ok y [] (bodyOk_of hy by_) (by rw [List.append_nil]; exact gby)
    rw [List.append_nil] at r1 r2
    rw [hb, hk] at r1
    have e3 := r1.symm.trans r2
    simp only [Prod.mk.injEq, and_true] at e3
    rw [red_not ux, red_not uy, e3]
theorem law_RecOne {K : Nat} (hK : 1000000000000 ≤ K) (x y : Rc) (bx : okB x) (by_ : okB y) : inspeximuslaw04_RecOne.f K x y = some true := by
  unfold inspeximuslaw04_RecOne.f
  refine bind_of (alive04 hK) ?_
  simp only [Bool.not_true, cond_false, jn]
  refine bind_of (greatR_eq x) ?_
  cases hg : greatR x with
  | true => rfl
  | false =>
  have ho := okD_of hg bx
  simp only [cond_false]
  refine bind_of (greatR_eq y) ?_
  cases hg2 : greatR y with
  | true => rfl
  | false =>
  have ho2 := okD_of hg2 by_
  simp only [cond_false]
  refine bind_of (right_eq hK ho) ?_
  cases hr : rightS x with
  | false => rfl
  | true =>
  simp only [Bool.not_true, cond_false]
  refine bind_of (right_eq hK ho2) ?_
  cases hr2 : rightS y with
  | false => rfl
  | true =>
  simp only [Bool.not_true, cond_false]
  have hs1 := seal_eq hK ho
  rw [hr] at hs1
  have hs2 := seal_eq hK ho2
  rw [hr2] at hs2
  have lx := sealW_len (K := K) hr
  have ly := sealW_len (K := K) hr2
  refine bind_of (x := sealW K x) hs1 ?_
  refine bind_of (x := sealW K y) hs2 ?_
  refine bind_of (ref_same (by omega) (by omega)) ?_
  refine bind_of (red_eq hK ho) ?_
  refine bind_of (red_eq hK ho2) ?_
  refine bind_of (rec_same hK (red_okD ho) (red_okD ho2)) ?_
  by_cases h : sealW K x = sealW K y
  · rw [dec_t h, dec_t (seal_inj hK hr hr2 bx by_ h)]; rfl
  · rw [dec_f h, dec_f (fun e => h (by rw [← red_sealW x, ← red_sealW y, e]))]; rfl
end Go.Proofs.YtlcnliiampfigaaDoor
