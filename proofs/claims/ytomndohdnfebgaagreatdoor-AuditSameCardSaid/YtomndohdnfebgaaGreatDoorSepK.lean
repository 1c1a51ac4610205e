/-
 The arguments of a row as data; the row's end.
-/
import Derived.Test.YtomndohdnfebgaaGreatDoorTfODef
import Derived.Test.YtomndohdnfebgaaGreatDoorTfDef
import Derived.Test.YtomndohdnfebgaaGreatDoorSepQ
import Derived.ProofKit
import Derived.Deep.Slices
import Derived.OpenShut
import Derived.MakeChecks
namespace Go.Proofs.YtomndohdnfebgaaGreatDoor
open Go Go.Sep
theorem alive19 {K : Nat} (hK : K = 1000000000000) : inspeximuslaw19_alive.f K = some true := by
 subst hK
 kernel_rfl
end Go.Proofs.YtomndohdnfebgaaGreatDoor
namespace Go.Proofs.YtomndohdnfebgaaGreatDoor
open Go Go.Sep
theorem eqInts_tot {K : Nat} {a b : List Int} (hl : a.length = b.length) (ha : a.length < 1000000000000) : ∀ (n i k : Nat), i + n = a.length → n < k → ∃ s, slices_Equal_int_int_l1.l K a b k (i : Int) = some s := by
 intro n
 induction n with
 | zero =>
  intro i k hi hk
  obtain ⟨k, rfl⟩ : ∃ j, k = j + 1 := ⟨k - 1, by omega⟩
  show ∃ s, slices_Equal_int_int_l1.b K a b (slices_Equal_int_int_l1.l K a b k) (i : Int) = some s
  unfold slices_Equal_int_int_l1.b
  rw [bif_false (by simp; omega)]
  exact ⟨_, rfl⟩
 | succ n ih =>
  intro i k hi hk
  obtain ⟨k, rfl⟩ : ∃ j, k = j + 1 := ⟨k - 1, by omega⟩
  show ∃ s, slices_Equal_int_int_l1.b K a b (slices_Equal_int_int_l1.l K a b k) (i : Int) = some s
  unfold slices_Equal_int_int_l1.b
  rw [bif_true (by simp; omega), getI_lt (List.getElem?_eq_getElem (l := a) (i := i) (by omega)), getI_lt (List.getElem?_eq_getElem (l := b) (i := i) (by omega)), wrap_succ (by omega)]
  simp only [Option.bind_some]
  cases (!decide (a[i] = b[i])) with
  | true => exact ⟨_, rfl⟩
  | false => exact ih (i + 1) k (by omega) (by omega)
theorem eqLines_tot {K : Nat} {a b : List T_api_Line} (hl : a.length = b.length) (ha : a.length < 1000000000000) : ∀ (n i k : Nat), i + n = a.length → n < k → ∃ s, slices_Equal_api_Line_api_Line_l1.l K a b k (i : Int) = some s := by
 intro n
 induction n with
 | zero =>
  intro i k hi hk
  obtain ⟨k, rfl⟩ : ∃ j, k = j + 1 := ⟨k - 1, by omega⟩
  show ∃ s, slices_Equal_api_Line_api_Line_l1.b K a b (slices_Equal_api_Line_api_Line_l1.l K a b k) (i : Int) = some s
  unfold slices_Equal_api_Line_api_Line_l1.b
  rw [bif_false (by simp; omega)]
  exact ⟨_, rfl⟩
 | succ n ih =>
  intro i k hi hk
  obtain ⟨k, rfl⟩ : ∃ j, k = j + 1 := ⟨k - 1, by omega⟩
  show ∃ s, slices_Equal_api_Line_api_Line_l1.b K a b (slices_Equal_api_Line_api_Line_l1.l K a b k) (i : Int) = some s
  unfold slices_Equal_api_Line_api_Line_l1.b
  rw [bif_true (by simp; omega), getI_lt (List.getElem?_eq_getElem (l := a) (i := i) (by omega)), getI_lt (List.getElem?_eq_getElem (l := b) (i := i) (by omega)), wrap_succ (by omega)]
  simp only [Option.bind_some]
  cases (!(decide (a[i].fPhase = b[i].fPhase) && (decide (a[i].fMissing = b[i].fMissing) && true))) with
  | true => exact ⟨_, rfl⟩
  | false => exact ih (i + 1) k (by omega) (by omega)
theorem same_tot {K : Nat} (hK : K = 1000000000000) (x y : T_api_Verdict) (h1 : x.fSagas.length < 1000) (h2 : x.fLines.length < 1000) : ∃ r, audit_Same.f K x y = some r := by
 unfold audit_Same.f
 cases decide (x.fCode = y.fCode) with
 | false => exact ⟨_, rfl⟩
 | true =>
  simp only [cond_true]
  have e1 : ∃ r, slices_Equal_int_int.f K x.fSagas y.fSagas = some r := by
   unfold slices_Equal_int_int.f
   by_cases hl : x.fSagas.length = y.fSagas.length
   ·rw [bif_false (by simp; omega)]
    obtain ⟨s, hs⟩ := eqInts_tot (K := K) hl (by omega) x.fSagas.length 0 K (by omega) (by omega)
    rw [show ((0 : Nat) : Int) = 0 from rfl] at hs
    rw [hs]
    cases s <;> exact ⟨_, rfl⟩
   ·rw [bif_true (by simp; omega)]
    exact ⟨_, rfl⟩
  have e2 : ∃ r, slices_Equal_api_Line_api_Line.f K x.fLines y.fLines = some r := by
   unfold slices_Equal_api_Line_api_Line.f
   by_cases hl : x.fLines.length = y.fLines.length
   ·rw [bif_false (by simp; omega)]
    obtain ⟨s, hs⟩ := eqLines_tot (K := K) hl (by omega) x.fLines.length 0 K (by omega) (by omega)
    rw [show ((0 : Nat) : Int) = 0 from rfl] at hs
    rw [hs]
    cases s <;> exact ⟨_, rfl⟩
   ·rw [bif_true (by simp; omega)]
    exact ⟨_, rfl⟩
  obtain ⟨r1, h1⟩ := e1
  obtain ⟨r2, h2⟩ := e2
  rw [h1, h2]
  cases r1 <;> exact ⟨_, rfl⟩
/-- is a line's saga over? -/
def ovL (l : List T_api_Line) (i : Nat) : Bool :=
 match l[i]? with
 | some x => decide (2 ≤ x.fPhase) && decide (x.fPhase ≤ 4)
 | none => false
def ovD (sg : List Int) (l : List T_api_Line) (n : Int) (o : Bool) (j : Nat) : Bool :=
 match (sg.take j).findIdx? (fun s => decide (s = n)) with
 | some i => ovL l i
 | none => o
theorem ovD_succ {sg : List Int} {l : List T_api_Line} {n : Int} {o : Bool} {j : Nat} (hj : j < sg.length) : ovD sg l n o (j + 1) = ovD sg l n (if sg[j] = n then ovL l j else o) j := by
 unfold ovD
 rw [List.take_add_one, List.getElem?_eq_getElem hj, List.findIdx?_append]
 cases h : (sg.take j).findIdx? (fun s => decide (s = n)) with
 | some i => simp
 | none =>
  simp only [Option.none_or, Option.toList_some]
  by_cases e : sg[j] = n
  ·rw [if_pos e]
   have : ([sg[j]].findIdx? (fun s => decide (s = n))) = some 0 := by simp [List.findIdx?_cons, e]
   rw [this]
   simp [Nat.min_eq_left (Nat.le_of_lt hj)]
  ·rw [if_neg e]
   have : ([sg[j]].findIdx? (fun s => decide (s = n))) = none := by simp [List.findIdx?_cons, e]
   rw [this]
   rfl
theorem down_loop {K : Nat} {x : T_api_Verdict} {n : Int} (hs : x.fSagas.length < 1000) : ∀ (j k : Nat) (o : Bool), j ≤ x.fSagas.length → j < k → inspeximuslaw19_AuditSame_l1.l K x n k (o, (j : Int) - 1) = some (ovD x.fSagas x.fLines n o j) := by
 intro j
 induction j with
 | zero =>
  intro k o hj hk
  obtain ⟨k, rfl⟩ : ∃ j, k = j + 1 := ⟨k - 1, by omega⟩
  show inspeximuslaw19_AuditSame_l1.b K x n (inspeximuslaw19_AuditSame_l1.l K x n k) (o, ((0 : Nat) : Int) - 1) = _
  unfold inspeximuslaw19_AuditSame_l1.b
  rw [bif_false (by simp)]
  rfl
 | succ j ih =>
  intro k o hj hk
  obtain ⟨k, rfl⟩ : ∃ j, k = j + 1 := ⟨k - 1, by omega⟩
  rw [ovD_succ (by omega), ← ih k _ (by omega) (by omega)]
  show inspeximuslaw19_AuditSame_l1.b K x n (inspeximuslaw19_AuditSame_l1.l K x n k) (o, ((j + 1 : Nat) : Int) - 1) = _
  unfold inspeximuslaw19_AuditSame_l1.b
  have e : (((j + 1 : Nat) : Int) - 1) = (j : Int) := by omega
  simp only [e]
  rw [bif_true (by simp), getI_lt (List.getElem?_eq_getElem (l := x.fSagas) (i := j) (by omega)), wrap64 (by omega) (by omega)]
  simp only [Option.bind_some, jn]
  by_cases e1 : x.fSagas[j] = n
  ·rw [bif_true (by simp [e1]), if_pos e1]
   by_cases e2 : j < x.fLines.length
   ·rw [bif_true (by simp; omega), getI_lt (List.getElem?_eq_getElem (l := x.fLines) (i := j) e2)]
    simp only [Option.bind_some]
    have e3 : ovL x.fLines j = (decide (2 ≤ x.fLines[j].fPhase) && decide (x.fLines[j].fPhase ≤ 4)) := by unfold ovL; rw [List.getElem?_eq_getElem e2]
    rw [e3]
    cases decide (2 ≤ x.fLines[j].fPhase) <;> rfl
   ·rw [bif_false (by simp; omega)]
    have e3 : ovL x.fLines j = false := by unfold ovL; rw [List.getElem?_eq_none (by omega)]
    rw [e3]
  ·rw [bif_false (by simp [e1]), if_neg e1]
theorem index_loop {K : Nat} {l : List Int} {n : Int} (hs : l.length < 1000) : ∀ (m i k : Nat), i + m = l.length → m < k → slices_Index_int_int_l1.l K l n k (i : Int) = some (match (l.drop i).findIdx? (fun s => decide (s = n)) with | some d => .inl ((i + d : Nat) : Int) | none => .inr ()) := by
 intro m
 induction m with
 | zero =>
  intro i k hi hk
  obtain ⟨k, rfl⟩ : ∃ j, k = j + 1 := ⟨k - 1, by omega⟩
  show slices_Index_int_int_l1.b K l n (slices_Index_int_int_l1.l K l n k) (i : Int) = _
  unfold slices_Index_int_int_l1.b
  rw [bif_false (by simp; omega), List.drop_eq_nil_of_le (by omega)]
  rfl
 | succ m ih =>
  intro i k hi hk
  obtain ⟨k, rfl⟩ : ∃ j, k = j + 1 := ⟨k - 1, by omega⟩
  show slices_Index_int_int_l1.b K l n (slices_Index_int_int_l1.l K l n k) (i : Int) = _
  unfold slices_Index_int_int_l1.b
  rw [bif_true (by simp; omega), getI_lt (List.getElem?_eq_getElem (l := l) (i := i) (by omega)), wrap_succ (by omega)]
  simp only [Option.bind_some]
  rw [List.drop_eq_getElem_cons (by omega), List.findIdx?_cons]
  by_cases e : l[i] = n
  ·rw [bif_true (by simp [e])]
   simp [e]
  ·rw [bif_false (by simp; exact fun h => e h.symm), ih (i + 1) k (by omega) (by omega)]
   simp only [e, decide_false, Bool.false_eq_true, if_false]
   cases (l.drop (i + 1)).findIdx? (fun s => decide (s = n)) with
   | none => rfl
   | some d => simp only [Option.map_some]; congr 2; omega
theorem over_eq {K : Nat} (hK : K = 1000000000000) {x : T_api_Verdict} {n : Int} (hs : x.fSagas.length < 1000) : audit_Over.f K x n = some (ovD x.fSagas x.fLines n false x.fSagas.length) := by
 unfold audit_Over.f slices_Index_int_int.f
 have h := index_loop (K := K) (n := n) hs x.fSagas.length 0 K (by omega) (by omega)
 rw [show ((0 : Nat) : Int) = 0 from rfl] at h
 rw [h]
 unfold ovD
 rw [List.take_length, List.drop_zero]
 cases x.fSagas.findIdx? (fun s => decide (s = n)) with
 | none => rfl
 | some d =>
  simp only [Option.bind_some, jn, Nat.zero_add]
  rw [bif_true (by simp)]
  by_cases e2 : d < x.fLines.length
  ·rw [bif_true (by simp; omega), getI_lt (List.getElem?_eq_getElem (l := x.fLines) (i := d) e2)]
   simp only [Option.bind_some]
   have e3 : ovL x.fLines d = (decide (2 ≤ x.fLines[d].fPhase) && decide (x.fLines[d].fPhase ≤ 4)) := by unfold ovL; rw [List.getElem?_eq_getElem e2]
   rw [e3]
   cases decide (2 ≤ x.fLines[d].fPhase) <;> rfl
  ·rw [bif_false (by simp; omega)]
   have e3 : ovL x.fLines d = false := by unfold ovL; rw [List.getElem?_eq_none (by omega)]
   rw [e3]
theorem law_AuditSame {K : Nat} (hK : K = 1000000000000) (x y : T_api_Verdict) (n : Int) : inspeximuslaw19_AuditSame.f K x y n = some true := by
 unfold inspeximuslaw19_AuditSame.f
 rw [alive19 hK]
 simp only [Option.bind_some, Bool.not_true, cond_false, jn]
 by_cases h1 : (60 : Int) < ((x.fSagas.length : Nat) : Int)
 ·rw [bif_true (dec_t h1)]; rfl
 rw [bif_false (dec_f h1)]
 by_cases h2 : (60 : Int) < ((y.fSagas.length : Nat) : Int)
 ·rw [bif_true (dec_t h2)]; rfl
 rw [bif_false (dec_f h2)]
 by_cases h3 : (60 : Int) < ((x.fLines.length : Nat) : Int)
 ·rw [bif_true (dec_t h3)]; rfl
 rw [bif_false (dec_f h3)]
 by_cases h4 : (60 : Int) < ((y.fLines.length : Nat) : Int)
 ·rw [bif_true (dec_t h4)]
 rw [bif_false (dec_f h4), wrap64 (by omega) (by omega), down_loop (by omega) _ _ _ (Nat.le_refl _) (by omega)]
 obtain ⟨r, hr⟩ := same_tot hK x y (by omega) (by omega)
 have hr' : inspeximusref19_Same.f K x y = some r := by rw [← hr]; rfl
 rw [hr, hr', over_eq hK (by omega)]
 simp
end Go.Proofs.YtomndohdnfebgaaGreatDoor
namespace Go.Sep
open Go.ChangeShapes Go.WideShapes Go.ChangeAt Go.RowKit Go.Deep
def snapW (w : World) : Snap := fun b => w.heap[b]?
/-- what is read at a type is data -/
def Opens {α : Type} (K : Kd α) (P : Program) (t : TypeId) (ok : α → Prop) : Prop :=
 ∀ (H : Type) (enc : TypeId × Value → H) (w : World) (fuel : Nat) (cs : List Value) (x : DataW H × List MemPlace),
  DataW.trod enc P w 0 (fun _ => true) true fuel t cs = some x → ∃ y, K.r (snapW w) y cs ∧ ok y
def inR (k : IntKind) (n : Int) : Prop := k.min ≤ n ∧ n ≤ k.max
theorem inR_wf {k : IntKind} {n : Int} : (Lit.int k n).wf = true ↔ inR k n := by simp [Lit.wf, inR]
section
variable {α β : Type} {K : Kd α} {M : Kd β} {P : Program} {ok : α → Prop} {ok' : β → Prop}
theorem Opens_int {t : TypeId} {k : IntKind} (ht : P.underlying t = some (.int k)) : Opens (kdInt k) P t (inR k) := by
 intro H enc w fuel cs x h
 obtain ⟨n, rfl, _, hw⟩ := DataW.trod_int ht h
 exact ⟨n, rfl, inR_wf.1 hw⟩
theorem RL_snoc {D : Snap} : ∀ {l : List α} {cs c : List Value} {y : α}, RL K D l cs → K.r D y c → RL K D (l ++ [y]) (cs ++ c) := by
 intro l
 induction l with
 | nil => intro cs c y h hy; cases h; exact ⟨c, [], by simp, hy, rfl⟩
 | cons x l ih =>
  rintro cs c y ⟨c1, c2, rfl, h1, h2⟩ hy
  exact ⟨c1, c2 ++ c, by simp, h1, ih h2 hy⟩
theorem Opens_slice {t e : TypeId} (ht : P.underlying t = some (.slice e)) (hn : P.cellsOf e = K.n) (he : Opens K P e ok) : Opens (kdSlice K) P t (fun l => l.length ≤ maxLen ∧ ∀ y ∈ l, ok y) := by
 intro H enc w fuel cs x h
 rcases open_slice ht h with ⟨rfl, _⟩ | ⟨a, len, cap, m, n, Dt, Pl, rfl, _, hlc, hcm, hm, _, hx⟩
 ·exact ⟨[], ⟨none, 0, rfl, Sl.nil _ _⟩, by simp, by simp⟩
 have hlm : len ≤ m := by simp at hm; omega
 have key : ∀ k, k ≤ len → ∃ (l : List α) (cs : List Value), l.length = k ∧ RL K (snapW w) l cs ∧ (∀ y ∈ l, ok y) ∧ ∀ j u, cs[j]? = some u → w.cell? (a.add j) = some u := by
  intro k
  induction k with
  | zero => intro _; exact ⟨[], [], rfl, rfl, by simp, by simp⟩
  | succ k ih =>
   intro hk
   obtain ⟨l, cs, h1, h2, h3, h4⟩ := ih (by omega)
   obtain ⟨c, hc1, hc2⟩ := hx k (by omega)
   obtain ⟨y, hy, hyo⟩ := he H enc w n c _ hc2
   obtain ⟨_, hcl, hcc⟩ := World.cells?_some hc1
   refine ⟨l ++ [y], cs ++ c, by simp [h1], RL_snoc h2 hy, ?_, ?_⟩
   ·intro z hz
    rcases List.mem_append.1 hz with hz | hz
    ·exact h3 z hz
    ·simp at hz; subst hz; exact hyo
   ·intro j u hj
    have hcsl : cs.length = k * K.n := by rw [h2.len, h1]
    by_cases hjc : j < cs.length
    ·rw [List.getElem?_append_left hjc] at hj; exact h4 j u hj
    ·rw [List.getElem?_append_right (by omega)] at hj
     have hlt := (List.getElem?_eq_some_iff.1 hj).1
     have := hcc (j - cs.length) (by omega)
     rw [hj, hn] at this
     rw [← this]
     congr 1
     rw [show (a.add (k * K.n)).add (j - cs.length) = a.add (k * K.n + (j - cs.length)) from ?_]
     ·congr 1; omega
     ·unfold Addr.add
      by_cases hi : k * K.n = 0 <;> by_cases hj : j - cs.length = 0 <;> simp [hi, hj, Nat.add_assoc]
 obtain ⟨l, cs, h1, h2, h3, h4⟩ := key len (Nat.le_refl _)
 refine ⟨l, ⟨some a, cap, by rw [h1], by omega, hcm, cs, h2, ?_⟩, by omega, h3⟩
 cases hcs : cs with
 | nil => exact .inl rfl
 | cons u us =>
  right
  have h0 := h4 0 u (by simp [hcs])
  have e0 : a.add 0 = a := by simp [Addr.add]
  rw [e0] at h0
  obtain ⟨b, off, spot⟩ := a
  unfold World.cell? at h0
  split at h0
  ·rename_i C T fr hb
   cases spot with
   | some z => simp at h0
   | none =>
    refine ⟨b, off, C, T, fr, rfl, hb, fun j v hv => ?_⟩
    have hj := h4 j v (by rw [hcs]; exact hv)
    have ej : (⟨b, off, none⟩ : Addr).add j = ⟨b, off + j, none⟩ := by unfold Addr.add; split <;> simp_all
    rw [ej] at hj
    unfold World.cell? at hj
    have hb' : w.heap[b]? = some (.cells C T fr) := hb
    simpa [hb'] using hj
  ·cases h0
/-- an array of numbers -/
theorem Opens_arr {t e : TypeId} {k : IntKind} {N : Nat} (ht : P.underlying t = some (.array N e)) (he : P.underlying e = some (.int k)) (hc : P.cellsOf e = 1) (hct : P.cellsOf t = N) : Opens (kdArr k N) P t (fun v => ∀ i, i < N → inR k (vget v i)) := by
 intro H enc w fuel cs x h
 obtain ⟨xs, m, _, _, hl, hxs, hx⟩ := DataW.trod_array ht h
 rw [hct] at hl
 have each : ∀ i, i < N → ∃ n, cs[i]? = some (.int k n) ∧ inR k n := by
  intro i hi
  have h1 := hx i hi
  rw [List.getElem?_eq_getElem (by omega)] at h1
  rw [hc, Nat.mul_one] at h1
  obtain ⟨n, hn, _, hw⟩ := DataW.trod_int he h1
  refine ⟨n, ?_, inR_wf.1 hw⟩
  have := congrArg (fun (l : List Value) => l[0]?) hn
  simpa using this
 let f : Nat → Int := fun i => match cs[i]? with | some (.int _ n) => n | _ => 0
 have hf : ∀ i, i < N → vget (Vector.ofFn (fun (j : Fin N) => f j)) i = f i := by intro i hi; simp [vget, hi]
 refine ⟨Vector.ofFn (fun (j : Fin N) => f j), ?_, ?_⟩
 ·apply List.ext_getElem?
  intro i
  by_cases hi : i < N
  ·obtain ⟨n, hn, _⟩ := each i hi
   simp [acells, hi, hf i hi, f, hn]
  ·simp [acells, hi]; omega
 ·intro i hi
  obtain ⟨n, hn, hr⟩ := each i hi
  rw [hf i hi]
  simpa [f, hn] using hr
/-! ### structs -/
/-- the fields from a place on -/
def OpensF {α : Type} (K : Kd α) (P : Program) (fs : List Field) (off : Nat) (ok : α → Prop) : Prop :=
 ∀ (H : Type) (enc : TypeId × Value → H) (w : World) (fuel : Nat) (cs : List Value), cs.length = off + K.n →
  (∀ f ∈ fs, ∃ x, DataW.trod enc P w 0 (fun _ => true) true fuel f.type ((cs.drop f.offset).take (P.cellsOf f.type)) = some x) → ∃ y, K.r (snapW w) y (cs.drop off) ∧ ok y
theorem OpensF_one {f : Field} {off : Nat} (h : Opens K P f.type ok) (ho : f.offset = off) (hc : P.cellsOf f.type = K.n) : OpensF K P [f] off ok := by
 intro H enc w fuel cs hl hx
 obtain ⟨x, hx⟩ := hx f (by simp)
 rw [ho, hc, List.take_of_length_le (by simp; omega)] at hx
 exact h H enc w fuel _ x hx
theorem OpensF_cons {f : Field} {fs : List Field} {off off' : Nat} (h : Opens K P f.type ok) (ho : f.offset = off) (hc : P.cellsOf f.type = K.n) (ho' : off + K.n = off') (hs : OpensF M P fs off' ok') : OpensF (kdPair K M) P (f :: fs) off (fun y => ok y.1 ∧ ok' y.2) := by
 intro H enc w fuel cs hl hx
 obtain ⟨x, hx0⟩ := hx f (by simp)
 rw [ho, hc] at hx0
 obtain ⟨y1, h1, o1⟩ := h H enc w fuel _ x hx0
 obtain ⟨y2, h2, o2⟩ := hs H enc w fuel cs (by rw [hl]; show off + (K.n + M.n) = _; omega) (fun g hg => hx g (by simp [hg]))
 refine ⟨(y1, y2), ⟨_, _, ?_, h1, h2⟩, o1, o2⟩
 rw [← ho', ← List.drop_drop, List.take_append_drop]
theorem Opens_struct {t : TypeId} {fs : List Field} {f : β → α} (inv : α → β) (hi : ∀ y, f (inv y) = y) (ht : P.underlying t = some (.struct fs.toArray)) (hc : P.cellsOf t = K.n) (h : OpensF K P fs 0 ok) (hok : ∀ y, ok y → ok' (inv y)) : Opens (kdMap f K) P t ok' := by
 intro H enc w fuel cs x hx
 obtain ⟨xs, n, _, _, hl, hlen, hf⟩ := DataW.trod_struct ht hx
 obtain ⟨y, hy, ho⟩ := h H enc w n cs (by rw [hl, hc]; omega) (fun g hg => by
  obtain ⟨i, hi⟩ := List.getElem?_of_mem hg
  have := hf i g (by simpa using hi)
  have hlt : i < xs.length := by rw [hlen]; simpa using (List.getElem?_eq_some_iff.1 hi).1
  rw [List.getElem?_eq_getElem hlt] at this
  exact ⟨_, this⟩)
 exact ⟨inv y, by rw [List.drop_zero] at hy; show K.r _ (f (inv y)) cs; rw [hi]; exact hy, hok y ho⟩
/-- fields by their places -/
def fieldsOf (P : Program) (t : TypeId) : List Field := match P.underlying t with | some (.struct fs) => fs.toList | _ => []
def fieldIs (P : Program) (t : TypeId) (j : Nat) (ft : TypeId) (off : Nat) : Bool := match (fieldsOf P t)[j]? with | some f => Nat.beq f.type ft && Nat.beq f.offset off | none => false
def structN (P : Program) (t : TypeId) (n : Nat) : Bool := match P.underlying t with | some (.struct fs) => Nat.beq fs.toList.length n | _ => false
theorem fieldIs_spec {t ft : TypeId} {j off : Nat} (h : fieldIs P t j ft off = true) : ∃ f, (fieldsOf P t)[j]? = some f ∧ f.type = ft ∧ f.offset = off := by
 unfold fieldIs at h
 split at h
 ·rename_i f hf
  simp only [Bool.and_eq_true] at h
  exact ⟨f, hf, Nat.eq_of_beq_eq_true h.1, Nat.eq_of_beq_eq_true h.2⟩
 ·cases h
theorem structN_spec {t : TypeId} {n : Nat} (h : structN P t n = true) : P.underlying t = some (.struct (fieldsOf P t).toArray) ∧ (fieldsOf P t).length = n := by
 unfold structN at h
 unfold fieldsOf
 split at h
 ·rename_i fs hf
  rw [hf]
  exact ⟨by simp, Nat.eq_of_beq_eq_true h⟩
 ·cases h
theorem drop_at {l : List Field} {j : Nat} {f : Field} (h : l[j]? = some f) : l.drop j = f :: l.drop (j + 1) := by
 obtain ⟨hlt, he⟩ := List.getElem?_eq_some_iff.1 h
 rw [← he, List.getElem_cons_drop]
theorem OpensF_next {t ft : TypeId} {off off' : Nat} (j : Nat) (hf : fieldIs P t j ft off = true) (h : Opens K P ft ok) (hc : P.cellsOf ft = K.n) (ho' : off + K.n = off') (hs : OpensF M P ((fieldsOf P t).drop (j + 1)) off' ok') : OpensF (kdPair K M) P ((fieldsOf P t).drop j) off (fun y => ok y.1 ∧ ok' y.2) := by
 obtain ⟨f, h1, rfl, rfl⟩ := fieldIs_spec hf
 rw [drop_at h1]
 exact OpensF_cons h rfl hc ho' hs
theorem OpensF_last {t ft : TypeId} {off n : Nat} (j : Nat) (hn : structN P t (j + 1) = true) (hf : fieldIs P t j ft off = true) (h : Opens K P ft ok) (hc : P.cellsOf ft = K.n) : OpensF K P ((fieldsOf P t).drop j) off ok := by
 obtain ⟨f, h1, rfl, rfl⟩ := fieldIs_spec hf
 obtain ⟨_, h2⟩ := structN_spec hn
 rw [drop_at h1, List.drop_of_length_le (by omega)]
 exact OpensF_one h rfl hc
theorem Opens_type {t : TypeId} {n : Nat} {f : β → α} (inv : α → β) (hi : ∀ y, f (inv y) = y) (ht : structN P t n = true) (hc : P.cellsOf t = K.n) (h : OpensF K P ((fieldsOf P t).drop 0) 0 ok) (hok : ∀ y, ok y → ok' (inv y)) : Opens (kdMap f K) P t ok' :=
 Opens_struct inv hi (structN_spec ht).1 hc (by rw [List.drop_zero] at h; exact h) hok
/-! ### arguments -/
def aggT (P : Program) (t : TypeId) : Bool := match P.underlying t with | some (.struct _) => true | some (.array _ _) => true | _ => false
variable {H : Type} {enc : TypeId × Value → H} {W : World} {r : Reach} {b0 : Nat} {v : Value} {d : DataW H} {ps : List MemPlace}
theorem arg_int {t : TypeId} {k : IntKind} (ht : P.underlying t = some (.int k)) (hval : Value.okWide P W r b0 t v) (hd : DataW.Trod enc P W 0 (fun _ => true) true t v d ps) : ∃ n, v = .int k n ∧ inR k n := by
 obtain ⟨n, rfl, _, _, hw⟩ := open_int ht hval hd
 exact ⟨n, rfl, inR_wf.1 hw⟩
theorem arg_agg {t : TypeId} (ho : Opens K P t ok) (hagg : aggT P t = true) (hval : Value.okWide P W r b0 t v) (hd : DataW.Trod enc P W 0 (fun _ => true) true t v d ps) :
  ∃ (y : α) (cs : List Value), v = .agg cs.toArray ∧ K.r (snapW W) y cs ∧ ok y := by
 obtain ⟨fuel, hf⟩ := hd
 have hv : ∃ cs, v = .agg cs := by
  unfold aggT at hagg
  split at hagg
  ·rename_i hu; obtain ⟨cs, h, _⟩ := okWide_struct hu hval; exact ⟨cs, h⟩
  ·rename_i hu; simp only [Value.okWide, hu] at hval; obtain ⟨cs, h1, _⟩ := hval; exact ⟨cs, h1⟩
  ·cases hagg
 obtain ⟨cs, rfl⟩ := hv
 obtain ⟨y, hy, ho⟩ := ho H enc W fuel _ _ hf
 exact ⟨y, cs.toList, by simp, by simpa [Value.cells] using hy, ho⟩
end
/-! ### the end -/
theorem trodAll_cons {H : Type} {enc : TypeId × Value → H} {P : Program} {w : World} {b : Nat} {sp : Nat → Bool} {hd : Bool} {t : TypeId} {ts : List TypeId} {vs : List Value} {ds : List (DataW H)} {ps : List MemPlace}
  (h : DataW.TrodAll enc P w b sp hd (t :: ts) vs ds ps) : ∃ v vs' d ds' p q, vs = v :: vs' ∧ ds = d :: ds' ∧ ps = p ++ q ∧ DataW.Trod enc P w b sp hd t v d p ∧ DataW.TrodAll enc P w b sp hd ts vs' ds' q := by
 match vs, ds, h with
 | v :: vs, d :: ds, h =>
  obtain ⟨p, q, h1, h2, h3⟩ := h
  exact ⟨v, vs, d, ds, p, q, rfl, rfl, h3, h1, h2⟩
theorem trodAll_nil {H : Type} {enc : TypeId × Value → H} {P : Program} {w : World} {b : Nat} {sp : Nat → Bool} {hd : Bool} {vs : List Value} {ds : List (DataW H)} {ps : List MemPlace}
  (h : DataW.TrodAll enc P w b sp hd [] vs ds ps) : vs = [] ∧ ds = [] ∧ ps = [] := by
 match vs, ds, h with
 | [], [], h => exact ⟨rfl, rfl, h⟩
theorem args_of {args : Array Value} {l : List Value} (h : args.toList = l) : args = l.toArray := by subst h; simp
def rowsOk (P : Program) (ts : List TypeId) : Bool := ts.all fun t => P.readableRec t && decide (t < P.types.size)
theorem trodAll_below {H : Type} {enc : TypeId × Value → H} {P : Program} (hl : laidOutB P = true) {W W' : World} (hb : Below W.heap.size W W') : ∀ {ts : List TypeId} {vs : List Value} {ds : List (DataW H)} {ps : List MemPlace},
  rowsOk P ts = true → (∀ x ∈ ps, x.block < W.heap.size) → DataW.TrodAll enc P W 0 (fun _ => true) true ts vs ds ps → DataW.TrodAll enc P W' 0 (fun b => decide (b < W.heap.size)) true ts vs ds ps := by
 intro ts
 induction ts with
 | nil =>
  intro vs ds ps _ _ h
  obtain ⟨rfl, rfl, rfl⟩ := trodAll_nil h
  exact rfl
 | cons t ts ih =>
  intro vs ds ps ht hlt h
  obtain ⟨v, vs, d, ds, p, q, rfl, rfl, rfl, h1, h2⟩ := trodAll_cons h
  simp only [rowsOk, List.all_cons, Bool.and_eq_true, decide_eq_true_eq] at ht
  exact ⟨p, q, Below.trod hl ht.1.1 ht.1.2 h1 hb (fun x hx => hlt x (List.mem_append_left _ hx)), ih ht.2 (fun x hx => hlt x (List.mem_append_right _ hx)) h2, rfl⟩
/-- what a row whose input reads as it did asks for, behind a run that has but added blocks -/
theorem post_same0 {H : Type} {enc : TypeId × Value → H} {P : Program} {f : Func} {s : ChangeSpec} {apart fresh : Bool} {W W' : World} {args : Array Value} {v : Value} {ds gs : List (DataW H)} {before : List MemPlace}
  (hW : DataW.Whole enc P f.params.toList s.vars apart W args.toList ds gs before) (hv : s.vars = []) (hl : laidOutB P = true) (ht : rowsOk P f.params.toList = true)
  (hargs : (s.fn H (ds ++ gs)).args = ds) (hvs : (s.fn H (ds ++ gs)).vars = [])
  (hres : ∀ (b : Nat) (sp : Nat → Bool) (hd : Bool), DataW.TrodAll enc P W' b sp hd f.resultTypes.toList (v.resultList f.resultTypes.size) (s.fn H (ds ++ gs)).results [])
  (hb : Below W.heap.size W W') : s.post enc P f apart fresh false false W args v W' := by
 have hlt := hW.lt
 have hW0 := hW
 obtain ⟨p, q, hA, hV, rfl, _, _⟩ := hW
 refine ⟨ds, gs, p ++ q, [], p, [], hW0, hres _ _ _, ?_, ?_, hb.frame _, fun h => by cases h⟩
 ·rw [hargs]
  exact trodAll_below hl hb ht (fun x hx => by simpa using hlt x (List.mem_append_left _ hx)) hA
 ·rw [hvs, hv]; exact rfl
theorem st_start (W : World) : St W W (snapW W) [] := ⟨rfl, rfl, rfl, fun _ o h => ⟨o, h, opre_refl o⟩, fun _ _ h => absurd h List.not_mem_nil, List.nodup_nil⟩
theorem stp_below {W w' : World} {D1 : Snap} {L' : List Blk} (h : Stp W W (snapW W) [] w' D1 L') : Below W.heap.size W w' :=
 ⟨h.st.os, h.st.tape, h.st.output, h.size, fun k hk => h.keep k hk List.not_mem_nil⟩
/-! ### listed variables -/
theorem laid_in {P : Program} {w : World} : ∀ {l : List (String × DataW Unit)} {ps : List MemPlace} {nm : String} {d : DataW Unit}, DataW.LaidVars P w l ps → (nm, d) ∈ l →
  ∃ g t cs fuel p, P.globalNamed nm = some g ∧ (P.globals[g]?).map (·.type) = some t ∧ w.var? P nm = some cs ∧ DataW.trod (fun _ => ()) P w 0 (fun _ => true) false fuel t cs.toList = some (d, p) := by
 intro l
 induction l with
 | nil => intro ps nm d _ h; cases h
 | cons x l ih =>
  rintro ps nm d ⟨g, t, cs, fuel, p, q, h1, h2, h3, h4, h5, _⟩ hm
  rcases List.mem_cons.1 hm with rfl | hm
  ·exact ⟨g, t, cs, fuel, p, h1, h2, h3, h4⟩
  ·exact ih h5 hm
/-- a table of numbers that a row lists -/
theorem glob_cell {P : Program} {w : World} {l : List (String × DataW Unit)} {g : Nat} {t e : TypeId} {k : IntKind} {N : Nat} {v : Vector Int N} (nm : String) {d : DataW Unit} (hl : laidMetH P l w) (hp : (l.all fun x => x.2.handleName?.isNone) = true) (hm : (nm, d) ∈ l)
  (gn : P.globalNamed nm = some g) (gt : (P.globals[g]?).map (·.type) = some t) (ht : P.underlying t = some (.array N e)) (he : P.underlying e = some (.int k)) (hc : P.cellsOf e = 1) (hct : P.cellsOf t = N)
  (hd : d = .agg ((vlist v).map fun n => .lit (.int k n))) : Cell (kdArr k N) (snapW w) g 0 v := by
 rw [MakeChecks.laidMetH_plain _ _ _ hp] at hl
 obtain ⟨ps, hv, _⟩ := hl
 obtain ⟨g', t', cs, fuel, p, h1, h2, h3, h4⟩ := laid_in hv hm
 obtain rfl := Option.some.inj (gn.symm.trans h1)
 obtain rfl := Option.some.inj (gt.symm.trans h2)
 obtain ⟨xs, m, _, hx1, hlen, hn, hel⟩ := DataW.trod_array ht h4
 rw [hct] at hlen
 simp only [Prod.mk.injEq] at hx1
 rw [hd, DataW.agg.injEq] at hx1
 have hx1 := hx1.1
 have each : ∀ i, i < N → cs[i]? = some (.int k (vget v i)) := by
  intro i hi
  have h5 := hel i hi
  have hxi : i < xs.length := by omega
  rw [List.getElem?_eq_getElem hxi, hc, Nat.mul_one] at h5
  have hcs : i < cs.toList.length := by omega
  have e5 : (cs.toList.drop i).take 1 = [cs.toList[i]] := by
   rw [List.drop_eq_getElem_cons hcs]; rfl
  rw [e5] at h5
  obtain ⟨n, hn1, hn2, _⟩ := DataW.trod_int he h5
  have h6 : (xs.map (·.1))[i]? = ((vlist v).map fun n => (DataW.lit (.int k n) : DataW Unit))[i]? := by rw [hx1]
  rw [List.getElem?_map, List.getElem?_map, List.getElem?_eq_getElem hxi, hn2] at h6
  have hvi : (vlist v)[i]? = some (vget v i) := by simp [vlist, hi]
  rw [hvi] at h6
  simp only [Option.map_some, Option.some.injEq, DataW.lit.injEq, Lit.int.injEq] at h6
  have h7 : cs.toList[i] = .int k n := by simpa using hn1
  have h8 : cs.toList[i]? = some (.int k n) := by rw [List.getElem?_eq_getElem hcs, h7]
  rw [h6.2] at h8
  simpa using h8
 simp only [World.var?, gn, Option.bind_some] at h3
 split at h3
 ·rename_i C T fr hb
  cases h3
  refine ⟨acells k N v, cs, T, fr, rfl, hb, fun j u hu => ?_⟩
  simp only [acells, List.getElem?_map] at hu
  by_cases hj : j < N
  ·rw [List.getElem?_range hj] at hu
   simp only [Option.map_some] at hu
   rw [Nat.zero_add, each j hj, hu]
  ·rw [List.getElem?_eq_none (by simp; omega)] at hu
   cases hu
 ·cases h3
end Go.Sep
