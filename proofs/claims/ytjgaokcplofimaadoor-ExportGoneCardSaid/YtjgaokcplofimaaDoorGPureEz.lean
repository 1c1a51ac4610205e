/-
 Plain: the document's comparisons of records and bundles, and when an exported bundle is right.
-/
import Derived.Test.YtjgaokcplofimaaDoorGPureRs
namespace Go.Proofs.YtjgaokcplofimaaDoor
open Go Go.Sep
/-! ### the same -/
theorem q05_same {K : Nat} {l m : List H32} (hK : l.length < K) (hl : l.length < 1000000000000) : inspeximusref05_Same.f K l m = some (decide (l = m)) := by
 unfold inspeximusref05_Same.f
 by_cases hlm : l.length = m.length
 ·rw [bif_false (by simp [hlm])]
  have hz : (l.zip m).length = l.length := by simp [hlm]
  have hL := loop_all (L := inspeximusref05_Same_l1.l K l m) (fun (_ : Unit) (i : Nat) => (i : Int)) (l.zip m) (fun _ i x => some (bif decide (x.1 = x.2) then .inr () else .inl (.inl false))) (fun _ => some (.inr ())) () (by rw [hz]; exact hK)
   (fun k s => by
    show inspeximusref05_Same_l1.b K l m (inspeximusref05_Same_l1.l K l m k) _ = _
    unfold inspeximusref05_Same_l1.b
    rw [bif_false (dec_f (by rw [hz]; simp))])
   (fun k s i x hi hx => by
    obtain ⟨hx1, hx2⟩ := zip_get hx
    show inspeximusref05_Same_l1.b K l m (inspeximusref05_Same_l1.l K l m k) _ = _
    unfold inspeximusref05_Same_l1.b
    rw [bif_true (dec_t (by omega)), getI_lt hx1, getI_lt hx2]
    simp only [Option.bind_some]
    rw [wrap_succ (by omega)]
    cases decide (x.1 = x.2) <;> rfl)
  have hL : inspeximusref05_Same_l1.l K l m K 0 = _ := hL
  obtain ⟨r1, r2⟩ := run_find (good := fun (x : H32 × H32) => decide (x.1 = x.2)) (v := fun _ => false) (l := l.zip m) (s := ()) (i := 0) (f := fun _ i x => some (bif decide (x.1 = x.2) then .inr () else .inl (.inl false))) (fun s i x _ => rfl)
  rw [zip_all_eq hlm] at r1 r2
  cases hg : decide (l = m) with
  | true => rw [hL, r1 hg]; rfl
  | false =>
   obtain ⟨j, _, _, hj⟩ := r2 hg
   rw [hL, hj]; rfl
 ·rw [bif_true (by simp; omega), dec_f (fun e => hlm (by rw [e]))]
/-! ### when it is right -/
end Go.Proofs.YtjgaokcplofimaaDoor
