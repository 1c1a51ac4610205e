/-
 A range over a function: the record of the loop and the block of its deferred calls are owned; the rounds are walked where the iterator calls yield.
-/
import Derived.Test.YtjgaokcplofimaaGreatDoorSepM
import Derived.RangeFuncLeaves
import Derived.RangeFuncRecord
namespace Go.Sep
section
variable {P : Program} {ρ : Option Nat} {ops : Array Oper} {Q : Exit → Act → World → Prop} {a : Act} {n : Nat} {ds : List Deferred} {E : List (Nat × Value)}
variable {g w w' w0 : World} {D D0 : Snap} {L L0 : List Blk} {i : Nat} {o : Oper} {d : Nat} {C : Act → World → Prop}
end
section
variable {P : Program} {ρ : Option Nat} {ops : Array Oper} {Q : Exit → Act → World → Prop} {a : Act} {n : Nat} {ds : List Deferred} {E : List (Nat × Value)}
variable {g w w' w0 : World} {D D0 : Snap} {L L0 : List Blk} {i : Nat} {o : Oper} {d : Nat} {C : Act → World → Prop}
/-! ### a function that holds such a loop -/
end
section
variable {P : Program} {a : Act} {n : Nat} {E : List (Nat × Value)} {g w w0 : World} {D D0 : Snap} {L L0 : List Blk}
end
/-! ### the record as one name -/
abbrev RecF := LoopState → Option Code → Blk
section
variable {P : Program} {ρ : Option Nat} {ops : Array Oper} {Q : Exit → Act → World → Prop} {a : Act} {n : Nat} {ds : List Deferred} {E : List (Nat × Value)}
variable {g w w' w0 : World} {D D0 : Snap} {L L0 : List Blk} {i : Nat} {o : Oper} {d : Nat} {C : Act → World → Prop}
variable {q : RecF} {l fn dd : Nat} {tmps : Array Value} {ps : Array Tmp} {assign body : Code}
/-- an element of an array that no one writes -/
theorem Cell.elem {k : IntKind} {N b off : Nat} {v : Vector Int N} {m : Int} (h : Cell (kdArr k N) D b off v) (hm : 0 ≤ m ∧ m.toNat < N) : Cell (kdInt k) D b (off + m.toNat) (vget v m.toNat) := by
 obtain ⟨cs, C, T, fr, hr, hb, hc⟩ := h
 obtain rfl := hr
 refine ⟨[.int k (vget v m.toNat)], C, T, fr, rfl, hb, fun j u hu => ?_⟩
 cases j with
 | zero =>
  simp at hu
  subst hu
  have := hc m.toNat (.int k (vget v m.toNat)) (by simp [acells, hm.2])
  simpa using this
 | succ j => simp at hu
end
/-! ### a loop within an iterator that ends by a return -/
section
variable {P : Program} {ρ : Option Nat} {Q : Exit → Act → World → Prop} {a : Act} {w : World}
end
/-! ### loads beside writes into slices of their own -/
/-! ### loads ahead of writes that wait for them by a chain -/
section
variable {P : Program} {ρ : Option Nat} {ops : Array Oper} {K : Act → World → Prop} {Rf : Nat → World → World → Prop} {R : World → World → Prop} {a : Act} {w : World} {n : Nat} {ds : List Deferred} {E : List (Nat × Value)}
theorem firstS {i : Nat} {S : List Nat} {oi : Oper} {v : Value} (hR : ∀ w, R w w) (hT : ∀ w w' w2, R w w' → R w' w2 → R w w2) (hRf : ∀ w, Rf i w w) (hi : ops[i]? = some oi) (hsel : ∀ (j : Nat) (o : Oper) cs b, ops[j]? = some o → o.op ≠ .select cs b) (hnd : ∀ (j : Nat) (o : Oper), ops[j]? = some o → noDefer o.op = true)
  (hS : ∀ j oj, ops[j]? = some oj → j ∈ S → j ≠ i → ∃ e ∈ oj.after, Region.binds .any e = true ∧ e.on ∈ S) :
  ∀ (fuel : Nat) (listed : Array Bool) (a : Act) (w : World), (∀ j ∈ S, listed.getD j false = false) →
   (∀ j oj, ops[j]? = some oj → j ≠ i → j ∉ S → listed.getD j true = false → (∀ e ∈ oj.after, Region.binds .any e = true → e.on ≠ i) → oi.apart ops oj = true ∧ ∀ w w', Rf j w w' → R w w') →
   i ∈ Region.ready .any ops listed → YG P ops R oi v a w →
   wpG P ρ ops Rf K (Qn K) fuel (listed.setIfInBounds i true) (a.put oi.dst v) w → wpG P ρ ops Rf K (Qn K) (fuel + 1) listed a w := by
 intro fuel
 induction fuel with
 | zero =>
  intro listed a w _ _ hr hy H
  refine ⟨fun h => (by rw [h] at hr; cases hr), fun j hj => ?_⟩
  by_cases hji : j = i
  ·subst hji; exact hy.op1 (hR _) hi (hnd _ _ hi) ⟨hRf _, H⟩
  ·have := ready_mono hj hji
   rw [H.1] at this
   cases this
 | succ fuel ih =>
  intro listed a w hun0 hfree hr hy H
  refine ⟨fun h => (by rw [h] at hr; cases hr), fun j hj => ?_⟩
  by_cases hji : j = i
  ·subst hji; exact hy.op1 (hR _) hi (hnd _ _ hi) ⟨hRf _, H⟩
  ·have h1 := H.2 j (ready_mono hj hji)
   obtain ⟨hjun, oj, hoj, hall⟩ := mem_ready.1 hj
   have hjS : j ∉ S := fun hm => by
    obtain ⟨e, he, hb, hes⟩ := hS j oj hoj hm hji
    have h3 := hall e he hb
    rw [hun0 _ hes] at h3
    cases h3
   have hnot : ∀ e ∈ oj.after, Region.binds .any e = true → e.on ≠ i := fun e he hb heq => by
    have h1 := hall e he hb
    have h0 := (mem_ready.1 hr).1
    rw [heq] at h1
    rcases Nat.lt_or_ge i listed.size with h' | h'
    ·simp [h'] at h0 h1; rw [h0] at h1; cases h1
    ·simp [Array.getElem?_eq_none h'] at h1
   have hfr := hfree j oj hoj hji hjS hjun hnot
   have h2 := opPut (oi := oi) (v := v) hoj hfr.1 (fun cs b => hsel i oi cs b hi) (fun cs b => hsel j oj cs b hoj) (hnd _ _ hoj) h1
   have hfree' : ∀ k ok, ops[k]? = some ok → k ≠ i → k ∉ S → (listed.setIfInBounds j true).getD k true = false →
     (∀ e ∈ ok.after, Region.binds .any e = true → e.on ≠ i) → oi.apart ops ok = true ∧ ∀ w w', Rf k w w' → R w w' := fun k ok hk hki hkS hun hno => by
    refine hfree k ok hk hki hkS ?_ hno
    by_cases hjk : j = k
    ·subst hjk; exact hjun
    ·rw [getD_set_ne true hjk] at hun; exact hun
   have hun1 : ∀ k ∈ S, (listed.setIfInBounds j true).getD k false = false := fun k hk => by
    have hjk : j ≠ k := fun e => hjS (e ▸ hk)
    rw [getD_set_ne false hjk]; exact hun0 k hk
   refine wpOpIn_mono (fun a' w' h3 => ⟨h3.2.1, ih (listed.setIfInBounds j true) a' w' hun1 hfree' (ready_mono hr (Ne.symm hji)) ?_ ?_⟩) h2
   ·intro w2 hk2
    rcases hy w2 (hT _ _ _ (hfr.2 _ _ h3.2.1) hk2) with ⟨hw, hv⟩ | ⟨hw, rfl⟩
    ·exact .inl ⟨by rw [h3.1.2]; exact hw, by rw [h3.1.1]; exact hv⟩
    ·exact .inr ⟨by rw [h3.1.2]; exact hw, rfl⟩
   ·rw [Array.setIfInBounds_comm _ _ hji]
    exact h3.2.2
/-- the operations S wait for the i-th; what could come up ahead of it and writes is among the keys -/
def holdB (Mf : Nat → List Nat) (keys S : List Nat) (ops : Array Oper) (listed : Array Bool) (i : Nat) : Bool :=
 (S.all fun j => !listed.getD j false && (j == i || match ops[j]? with
  | some oj => oj.after.any (fun e => Region.binds .any e && S.contains e.on)
  | none => false)) &&
 (List.range ops.size).all fun j => j == i || S.contains j || listed.getD j true || inB j keys || (Mf j).isEmpty
theorem holdB_S {Mf : Nat → List Nat} {keys S : List Nat} {ops : Array Oper} {i : Nat} {listed : Array Bool} (h : holdB Mf keys S ops listed i = true) :
  (∀ j oj, ops[j]? = some oj → j ∈ S → j ≠ i → ∃ e ∈ oj.after, Region.binds .any e = true ∧ e.on ∈ S) ∧ (∀ j ∈ S, listed.getD j false = false) ∧
  ∀ j oj, ops[j]? = some oj → j ≠ i → j ∉ S → listed.getD j true = false → inB j keys = true ∨ Mf j = [] := by
 unfold holdB at h
 rw [Bool.and_eq_true, List.all_eq_true, List.all_eq_true] at h
 refine ⟨fun j oj hj hm hne => ?_, fun j hm => ?_, fun j oj hj hne hm hun => ?_⟩
 ·have h1 := h.1 j hm
  simp only [hj, Bool.and_eq_true, Bool.or_eq_true, beq_iff_eq, hne, false_or] at h1
  have h2 := h1.2
  rw [← Array.any_toList] at h2
  obtain ⟨e, he, hb⟩ := List.any_eq_true.1 h2
  simp only [Bool.and_eq_true, List.contains_iff_mem] at hb
  exact ⟨e, Array.mem_toList_iff.1 he, hb.1, hb.2⟩
 ·have h1 := h.1 j hm
  simp only [Bool.and_eq_true, Bool.not_eq_true'] at h1
  exact h1.1
 ·have h1 := h.2 j (List.mem_range.2 (Array.getElem?_eq_some_iff.1 hj).1)
  simp only [Bool.or_eq_true, beq_iff_eq, hne, false_or, List.contains_iff_mem, hm, hun, Bool.false_eq_true, List.isEmpty_iff] at h1
  exact h1
theorem takeS {T : List (Nat × List Nat)} (keys S : List Nat) (i : Nat) {fuel : Nat} {listed : Array Bool} (listed' : Array Bool) (hs : noSelDef ops = true) (hf : Region.free .any ops listed i = true) (hr : (Region.ready .any ops listed).contains i = true) (hl : listed.setIfInBounds i true = listed') (hc : holdB (mfOf T) keys S ops listed i = true)
  (hE : Env a n ds E) (h : Tk P ops (Keeps (mfSel keys T)) i n ds E a w (fun a => wpG P ρ ops (fun j => Keeps (mfOf T j)) K (Qn K) fuel listed' a w)) : wpG P ρ ops (fun j => Keeps (mfOf T j)) K (Qn K) (fuel + 1) listed a w := by
 subst hl
 simp only [noSelDef, Bool.and_eq_true] at hs
 obtain ⟨o, v, ho, hd, _, hy, k⟩ := h
 obtain ⟨h1, h2, h3⟩ := holdB_S hc
 refine firstS (S := S) (R := Keeps (mfSel keys T)) (Keeps.refl _) (fun _ _ _ h h' => h.trans h') (fun w => Keeps.refl (mfOf T i) w) ho (Region.noSelect_spec hs.1) (fun j oj hj => ?_) h1 fuel listed a w h2 (fun j oj hj hne hm hun hno => ⟨Region.free_spec ho hf j oj hj hne hun hno, fun w w' hk => ?_⟩) (by simpa using hr) hy (k _ (hE.put hd v))
 ·exact List.all_eq_true.1 hs.2 oj (Array.mem_toList_iff.2 (Array.mem_of_getElem? hj))
 ·rcases h3 j oj hj hne hm hun with h4 | h4
  ·exact hk.mono (fun b hb => mfSel_mem T j b h4 hb)
  ·simp only [h4] at hk
   exact hk.mono (fun _ h => absurd h List.not_mem_nil)
theorem tS {T : List (Nat × List Nat)} (keys S : List Nat) (i m : Nat) {fuel : Nat} {listed : Array Bool} (hc : (okT ops listed i m && holdB (mfOf T) keys S ops listed i) = true) (hE : Env a n ds E)
  (h : Tk P ops (Keeps (mfSel keys T)) i n ds E a w (fun a => wpG P ρ ops (fun j => Keeps (mfOf T j)) K (Qn K) fuel (lb ops.size m) a w)) : wpG P ρ ops (fun j => Keeps (mfOf T j)) K (Qn K) (fuel + 1) listed a w := by
 rw [Bool.and_eq_true] at hc
 exact takeS keys S i _ (okT_spec hc.1).1 (okT_spec hc.1).2.1 (okT_spec hc.1).2.2.1 (okT_spec hc.1).2.2.2 hc.2 hE h
end
end Go.Sep
