/-
 Plain: what the laws of the records share: the document's comparison, what is too great, rec.Get, the example.
-/
import Derived.Test.YtlcnliiampfigaaDoorPureD
namespace Go.Proofs.YtlcnliiampfigaaDoor
open Go Go.Sep
theorem ref_same {K : Nat} {l m : List Int} (hK : l.length < K) (hl : l.length < 1000000000000) : inspeximusref01_Bytes.f K l m = some (decide (l = m)) := by
 unfold inspeximusref01_Bytes.f
 by_cases hlm : l.length = m.length
 ·rw [bif_false (by simp [hlm])]
  have hz : (l.zip m).length = l.length := by simp [hlm]
  have hL := loop_all (L := inspeximusref01_Bytes_l1.l K l m) (fun (_ : Unit) (i : Nat) => (i : Int)) (l.zip m) (fun _ i x => some (bif decide (x.1 = x.2) then .inr () else .inl (.inl false))) (fun _ => some (.inr ())) () (by rw [hz]; exact hK)
   (fun k s => by
    show inspeximusref01_Bytes_l1.b K l m (inspeximusref01_Bytes_l1.l K l m k) _ = _
    unfold inspeximusref01_Bytes_l1.b
    rw [bif_false (dec_f (by rw [hz]; simp))])
   (fun k s i x hi hx => by
    obtain ⟨hx1, hx2⟩ := zip_get hx
    show inspeximusref01_Bytes_l1.b K l m (inspeximusref01_Bytes_l1.l K l m k) _ = _
    unfold inspeximusref01_Bytes_l1.b
    rw [bif_true (dec_t (by omega)), getI_lt hx1, getI_lt hx2]
    simp only [Option.bind_some]
    rw [wrap_succ (by omega)]
    cases decide (x.1 = x.2) <;> rfl)
  have hL : inspeximusref01_Bytes_l1.l K l m K 0 = _ := hL
  obtain ⟨r1, r2⟩ := run_find (good := fun (x : Int × Int) => decide (x.1 = x.2)) (v := fun _ => false) (l := l.zip m) (s := ()) (i := 0) (f := fun _ i x => some (bif decide (x.1 = x.2) then .inr () else .inl (.inl false))) (fun s i x _ => rfl)
  rw [zip_all_eq hlm] at r1 r2
  cases hg : decide (l = m) with
  | true => rw [hL, r1 hg]; rfl
  | false =>
   obtain ⟨j, _, _, hj⟩ := r2 hg
   rw [hL, hj]; rfl
 ·rw [bif_true (by simp; omega), dec_f (fun e => hlm (by rw [e]))]
def greatR (x : Rc) : Bool := decide ((30 : Int) < (x.fSteps.length : Int)) || decide ((300 : Int) < (x.fData.length : Int))
theorem greatR_eq {K : Nat} (x : Rc) : inspeximusref04_Great.f K x = some (greatR x) := by
 unfold inspeximusref04_Great.f greatR
 cases decide ((30 : Int) < (x.fSteps.length : Int)) <;> rfl
theorem okD_of {x : Rc} (h : greatR x = false) (hb : okB x) : okD x := by
 unfold greatR at h
 simp only [Bool.or_eq_false_iff, decide_eq_false_iff_not] at h
 exact ⟨hb.data, by omega, by omega⟩
theorem openW_isB' {x : Rc} (h : okB x) : isB (openW x) := by
 have hf : ∀ b, isB [flagI b] := fun b y hy => by
  rw [List.mem_singleton] at hy
  subst hy
  exact flagI_B b
 have hn : ∀ n, isB (numW n) := fun n => numS_isB _
 have hfl : ∀ l : List Sp, isB (l.map stepW).flatten := fun l b hb => by
  obtain ⟨m, hm, hb⟩ := List.mem_flatten.1 hb
  obtain ⟨s, _, rfl⟩ := List.mem_map.1 hm
  exact (isB_append.2 ⟨hn _, hn _⟩) b hb
 have hc : isB (callW x) := by
  unfold callW
  simp only [isB_append]
  exact ⟨hn _, hn _, hn _, hn _, hf _⟩
 refine isB_append.2 ⟨hn _, ?_⟩
 unfold bodyW
 split
 ·simp only [isB_append, stepsW, loadW]
  refine ⟨hn _, ⟨numS_isB _, hfl _⟩, hf _, ?_⟩
  cases x.fGone
  ·exact isB_append.2 ⟨h.salt, isB_append.2 ⟨numS_isB _, h.data⟩⟩
  ·exact h.com
 ·split
  ·exact hc
  ·split
   ·simp only [isB_append]
    exact ⟨hc, hf _, hn _, hn _, h.tag⟩
   ·split
    ·simp only [isB_append]
     exact ⟨hn _, hn _, hn _⟩
    ·simp only [isB_append]
     exact ⟨hn _, hn _⟩
theorem rec_back {x : Rc} (h : rightS x = true) (hb : okB x) {rest : List Int} (hr : isB rest) (hl : rest.length < 1000000) : recR ⟨openW x ++ rest, 0⟩ = (x, ⟨rest, 0⟩) := by
 have := openW_len h
 exact recR_spec.ok x rest ⟨h, hb⟩ ⟨isB_append.2 ⟨openW_isB' hb, hr⟩, by simp; omega⟩
def getR (b : List Int) : Rc × Int :=
 let t := recR ⟨b, 0⟩
 let e := if t.2.fBad ≠ 0 then t.2.fBad else if t.2.fB = [] then 0 else 2
 if e ≠ 0 then (zRc, e) else (t.1, 0)
theorem done_eq' {K : Nat} (r : Rd) : wire_Reader_Done.f K r = some (if r.fBad ≠ 0 then r.fBad else if r.fB = [] then 0 else 2) := by
 obtain ⟨b, e⟩ := r
 by_cases h : e = 0
 ·subst h
  cases b with
  | nil => rfl
  | cons c l =>
   unfold wire_Reader_Done.f wire_Reader_Bad.f
   simp only [Option.bind_some]
   rw [bif_false (by simp), bif_true (by simp)]
   simp
 ·rw [rdone_bad h]; simp [h]
theorem getR_eq {K : Nat} (hK : 1000000000000 ≤ K) {b : List Int} (hb : isB b) (hl : b.length < 1000000000) : rec_Get.f K b = some (getR b) := by
 unfold rec_Get.f getR
 have hl2 : b.length < 1000000000000 := by omega
 refine bind_of (read_eq hl2) ?_
 refine bind_of (recR_eq hK (r := ⟨b, 0⟩) ⟨hb, hl⟩) ?_
 generalize recR ⟨b, 0⟩ = t
 refine bind_of (done_eq' t.2) ?_
 simp only
 generalize (if t.2.fBad ≠ 0 then t.2.fBad else if t.2.fB = [] then (0 : Int) else 2) = e
 by_cases he : e = 0
 ·subst he; simp
 ·rw [bif_true (by simp [he]), if_pos he]
theorem getR_back {x : Rc} (h : rightS x = true) (hb : okB x) : getR (openW x) = (x, 0) := by
 have := rec_back h hb (rest := []) isB_nil (by simp)
 rw [List.append_nil] at this
 unfold getR
 rw [this]
 simp
theorem numS_one {n : Nat} (h : n < 128) : numS n = [(n : Int)] := by
 unfold numS
 rw [show n / 128 = 0 by omega, hiB_zero, Nat.mod_eq_of_lt h]; rfl
def exA : Rc := { zRc with fKind := 6, fPart := 1, fEpoch := 2 }
def exB : Rc := { zRc with fKind := 1, fSaga := 3, fSteps := [⟨1, 1⟩], fData := [97] }
theorem exA_right : rightS exA = true := by decide
theorem exB_right : rightS exB = true := by decide
theorem exZ_right : rightS zRc = false := by decide
theorem exA_open : openW exA = [6, 1, 2] := by
 have e : openW exA = numS 6 ++ (numS 1 ++ numS 2) := rfl
 rw [e, numS_one (by omega), numS_one (by omega), numS_one (by omega)]; rfl
theorem ex9 : getR [9] = (zRc, 2) := by decide
theorem alive04 {K : Nat} (hK : 1000000000000 ≤ K) : inspeximuslaw04_alive.f K = some true := by
 unfold inspeximuslaw04_alive.f
 have oA : okD exA := ⟨isB_nil, by decide, by decide⟩
 have bB : okB exB := ⟨by unfold isB; decide, isB_zH, isB_zH, isB_zH⟩
 have oB : okD exB := ⟨bB.data, by decide, by decide⟩
 have oZ : okD zRc := ⟨isB_nil, by decide, by decide⟩
 have hA := open_eq hK oA
 rw [exA_right] at hA
 refine bind_of (x := openW exA) hA ?_
 refine bind_of (x := exB) rfl ?_
 have hB := open_eq hK oB
 rw [exB_right] at hB
 refine bind_of (x := openW exB) hB ?_
 have hl := openW_len exB_right
 refine bind_of (getR_eq hK (openW_isB' bB) (by omega)) ?_
 rw [getR_back exB_right bB]
 refine bind_of (getR_eq hK (b := [9]) (by unfold isB; decide) (by decide)) ?_
 rw [ex9]
 refine bind_of (red_eq hK oB) ?_
 have hbeg : begS exB = true := by unfold begS; rw [exB_right]; rfl
 simp only [jn]
 rw [exA_open]
 refine bind_of (ref_same (l := [6, 1, 2]) (m := [6, 1, 2]) (by simp; omega) (by simp)) ?_
 rw [bif_true (by decide), bif_true (by rfl), bif_true (by rfl)]
 refine bind_of (rec_same hK oB oB) ?_
 rw [bif_true (by simp)]
 refine bind_of (right_eq hK oB) ?_
 rw [exB_right]
 simp only [cond_true]
 refine bind_of (right_eq hK oZ) ?_
 rw [exZ_right]
 simp only [Bool.not_false, cond_true]
 have hg : (redS K exB).fGone = true := by rw [red_beg hbeg]
 rw [hg]
 simp only [cond_true]
 refine bind_of (com_eq hK oB) ?_
 have hc : (redS K exB).fCom = comS K exB := by rw [red_beg hbeg]
 rw [hc, bif_true (by simp)]
 have oR := red_okD (K := K) oB
 have rR := red_right (K := K) exB_right
 have hs1 := seal_eq hK oB
 rw [exB_right] at hs1
 have hs2 := seal_eq hK oR
 rw [rR] at hs2
 refine bind_of (x := sealW K exB) hs1 ?_
 refine bind_of (x := sealW K (redS K exB)) hs2 ?_
 rw [red_sealW]
 have hsl := sealW_len (K := K) exB_right
 refine bind_of (ref_same (l := sealW K exB) (m := sealW K exB) (by omega) (by omega)) ?_
 rw [bif_true (by simp)]
 have ho := open_eq hK oR
 rw [rR] at ho
 refine bind_of (x := openW (redS K exB)) ho ?_
 have : (openW (redS K exB)).length = 38 := by
  rw [red_beg hbeg]
  have e : openW { zRc with fKind := 1, fSaga := exB.fSaga, fSteps := exB.fSteps, fGone := true, fCom := comS K exB } = numS 1 ++ (numS 3 ++ ((numS 1 ++ ((numS 1 ++ numS 1) ++ [])) ++ ([flagI true] ++ vlist (comS K exB)))) := rfl
  rw [e, numS_one (by omega), numS_one (by omega)]
  simp [vlist_length]
 rw [this]
 rfl
end Go.Proofs.YtlcnliiampfigaaDoor
