/-
 Shorter forms of the rules: one check for each drawn operation, known values that are added, lists that are chosen and joined.
-/
import Derived.Test.YtjgaokcplofimaaDoorSepL
namespace Go.Sep
/-! ### drawn operations -/
def lbL : Nat → Nat → List Bool
 | 0, _ => []
 | n + 1, m => Nat.beq (m % 2) 1 :: lbL n (m / 2)
/-- which operations were carried out, as a number's bits -/
def lb (n m : Nat) : Array Bool := (lbL n m).toArray
def eqB : List Bool → List Bool → Bool
 | [], [] => true
 | x :: l, y :: m => (x == y) && eqB l m
 | _, _ => false
theorem eqB_spec : ∀ {l m : List Bool}, eqB l m = true → l = m
 | [], [], _ => rfl
 | x :: l, y :: m, h => by
  simp only [eqB, Bool.and_eq_true, beq_iff_eq] at h
  rw [h.1, eqB_spec h.2]
 | [], _ :: _, h => by cases h
 | _ :: _, [], h => by cases h
def setB (ops : Array Oper) (listed : Array Bool) (i m : Nat) : Bool := eqB (listed.toList.set i true) (lbL ops.size m)
theorem setB_spec {ops : Array Oper} {listed : Array Bool} {i m : Nat} (h : setB ops listed i m = true) : listed.setIfInBounds i true = lb ops.size m := by
 apply Array.ext'
 rw [Array.toList_setIfInBounds]
 exact eqB_spec h
def okT (ops : Array Oper) (listed : Array Bool) (i m : Nat) : Bool := noSelDef ops && (Region.free .any ops listed i && ((Region.ready .any ops listed).contains i && setB ops listed i m))
theorem okT_spec {ops : Array Oper} {listed : Array Bool} {i m : Nat} (h : okT ops listed i m = true) : noSelDef ops = true ∧ Region.free .any ops listed i = true ∧ (Region.ready .any ops listed).contains i = true ∧ listed.setIfInBounds i true = lb ops.size m := by
 unfold okT at h
 simp only [Bool.and_eq_true] at h
 exact ⟨h.1, h.2.1, h.2.2.1, setB_spec h.2.2.2⟩
def isOnly : List Nat → Nat → Bool
 | [j], i => Nat.beq j i
 | _, _ => false
theorem isOnly_spec : ∀ {l : List Nat} {i : Nat}, isOnly l i = true → l = [i]
 | [j], i, h => by rw [Nat.eq_of_beq_eq_true h]
 | [], _, h => by cases h
 | _ :: _ :: _, _, h => by cases h
section
variable {P : Program} {ρ : Option Nat} {ops : Array Oper} {K : Act → World → Prop} {Rf : Nat → World → World → Prop} {a : Act} {w : World} {n : Nat} {ds : List Deferred} {E : List (Nat × Value)}
theorem tW [hI : Idle Rf] (i m : Nat) {fuel : Nat} {listed : Array Bool} (hc : okT ops listed i m = true) (hE : Env a n ds E)
  (h : ∀ R, Tk P ops R i n ds E a w (fun a => wpG P ρ ops Rf K (Qn K) fuel (lb ops.size m) a w)) : wpG P ρ ops Rf K (Qn K) (fuel + 1) listed a w :=
 takeW i _ (okT_spec hc).1 (okT_spec hc).2.1 (okT_spec hc).2.2.1 (okT_spec hc).2.2.2 hE h
theorem tT {Mf : Nat → List Nat} (i m : Nat) {fuel : Nat} {listed : Array Bool} (hc : (okT ops listed i m && calmB Mf ops listed i) = true) (hE : Env a n ds E)
  (h : Tk P ops (Keeps []) i n ds E a w (fun a => wpG P ρ ops (fun j => Keeps (Mf j)) K (Qn K) fuel (lb ops.size m) a w)) : wpG P ρ ops (fun j => Keeps (Mf j)) K (Qn K) (fuel + 1) listed a w := by
 rw [Bool.and_eq_true] at hc
 exact takeT i _ (okT_spec hc.1).1 (okT_spec hc.1).2.1 (okT_spec hc.1).2.2.1 (okT_spec hc.1).2.2.2 hc.2 hE h
theorem tN {T : List (Nat × List Nat)} (keys : List Nat) (i m : Nat) {fuel : Nat} {listed : Array Bool} (hc : (okT ops listed i m && pendB (mfOf T) keys ops listed i) = true) (hE : Env a n ds E)
  (h : Tk P ops (Keeps (mfSel keys T)) i n ds E a w (fun a => wpG P ρ ops (fun j => Keeps (mfOf T j)) K (Qn K) fuel (lb ops.size m) a w)) : wpG P ρ ops (fun j => Keeps (mfOf T j)) K (Qn K) (fuel + 1) listed a w := by
 rw [Bool.and_eq_true] at hc
 exact takeN keys i _ (okT_spec hc.1).1 (okT_spec hc.1).2.1 (okT_spec hc.1).2.2.1 (okT_spec hc.1).2.2.2 hc.2 hE h
theorem oG (i m : Nat) {fuel : Nat} {listed : Array Bool} (hc : (isOnly (Region.ready .any ops listed) i && setB ops listed i m) = true)
  (h : Op1 P ρ ops (Qn K) i (fun a' w' => Rf i w w' ∧ wpG P ρ ops Rf K (Qn K) fuel (lb ops.size m) a' w') a w) : wpG P ρ ops Rf K (Qn K) (fuel + 1) listed a w := by
 rw [Bool.and_eq_true] at hc
 exact onlyG (isOnly_spec hc.1) (setB_spec hc.2) h
theorem twoB {i j m1 m2 : Nat} {fuel : Nat} {listed : Array Bool} (hr : Region.ready .any ops listed = [i, j]) (h1 : setB ops listed i m1 = true) (h2 : setB ops listed j m2 = true)
  (ki : Op1 P ρ ops (Qn K) i (fun a' w' => Rf i w w' ∧ wpG P ρ ops Rf K (Qn K) fuel (lb ops.size m1) a' w') a w)
  (kj : Op1 P ρ ops (Qn K) j (fun a' w' => Rf j w w' ∧ wpG P ρ ops Rf K (Qn K) fuel (lb ops.size m2) a' w') a w) : wpG P ρ ops Rf K (Qn K) (fuel + 1) listed a w :=
 twoG hr (setB_spec h1) (setB_spec h2) ki kj
end
/-! ### what is known -/
def catE : List (Nat × Value) → List (Nat × Value) → List (Nat × Value)
 | [], E => E
 | x :: l, E => x :: catE l E
section
variable {P : Program} {ρ : Option Nat} {ops : Array Oper} {Q : Exit → Act → World → Prop} {a : Act} {w : World} {n : Nat} {ds : List Deferred} {E : List (Nat × Value)}
/-- what is written is new, or was not known -/
def dstsOk (ops : Array Oper) (N E : List (Nat × Value)) : Nat → Nat → Bool
 | 0, _ => true
 | m + 1, i => (match ops[i]? with | some o => (match o.dst with | some d => (look N d).isSome || (look E d).isNone | none => true) | none => true) && dstsOk ops N E m (i + 1)
theorem look_cat : ∀ (N : List (Nat × Value)) (t : Nat) (v : Value), look (catE N E) t = some v → look N t = some v ∨ (look N t = none ∧ look E t = some v)
 | [], t, v, h => .inr ⟨rfl, h⟩
 | (k, u) :: N, t, v, h => by
  simp only [catE, look] at h ⊢
  cases hb : Nat.beq k t with
  | true => rw [hb] at h; exact .inl h
  | false => rw [hb] at h; exact look_cat N t v h
theorem evalSeg_look {N E0 : List (Nat × Value)} {t : Nat} (hN : look N t = none) (hE0 : (look E0 t).isSome = true) : ∀ (m i : Nat) (E X : List (Nat × Value)), evalSeg P ops n m i E = some X → dstsOk ops N E0 m i = true → look X t = look E t := by
 intro m
 induction m with
 | zero =>
  intro i E X h _
  simp only [evalSeg, Option.some.injEq] at h
  rw [h]
 | succ m ih =>
  intro i E X h hd
  simp only [evalSeg] at h
  simp only [dstsOk, Bool.and_eq_true] at hd
  split at h
  ·cases h
  ·rename_i o ho
   rw [ho] at hd
   have hu : ∀ v, look (upd E o.dst v) t = look E t := by
    intro v
    cases hdst : o.dst with
    | none => rfl
    | some d =>
     have h1 := hd.1
     simp only [hdst, Bool.or_eq_true] at h1
     simp only [upd, look]
     cases hb : Nat.beq d t with
     | false => rfl
     | true =>
      have := Nat.eq_of_beq_eq_true hb
      subst this
      rcases h1 with h1 | h1
      ·rw [hN] at h1; cases h1
      ·rw [Option.isNone_iff_eq_none] at h1
       rw [h1] at hE0; cases hE0
   cases hdo : dstOk n o.dst with
   | false => rw [hdo] at h; cases h
   | true =>
    rw [hdo] at h
    simp only [cond_true] at h
    split at h
    ·cases hs : srcOk P o.op with
     | false => rw [hs] at h; cases h
     | true =>
      rw [hs] at h
      simp only [cond_true] at h
      split at h
      ·rw [ih _ _ _ h hd.2, hu]
      ·cases h
    ·rw [ih _ _ _ h hd.2, hu]
    ·cases h
/-- m operations without memory, from the i-th on; what is new behind them -/
theorem segN (m : Nat) {i j : Nat} (N : List (Nat × Value)) (hE : Env a n ds E) (h : (evalSeg P ops n m i E).map (fun X => (sub X N, dstsOk ops N E m i)) = some (sub' N, true)) (hj : i + m = j)
  (k : ∀ a', Env a' n ds (catE N E) → At P ρ ops Q j a' w) : At P ρ ops Q i a w := by
 subst hj
 cases he : evalSeg P ops n m i E with
 | none => rw [he] at h; cases h
 | some X =>
  rw [he] at h
  simp only [Option.map_some, Option.some.injEq, Prod.mk.injEq] at h
  refine seg_sound m i E X a hE he fun a' h' => k a' ⟨h'.size, h'.ds, fun t v hv => h'.at_ t v ?_⟩
  rcases look_cat N t v hv with h1 | ⟨h1, h2⟩
  ·exact look_sub h.1 t v h1
  ·rw [evalSeg_look h1 (by rw [h2]; rfl) m i E X he h.2]
   exact h2
end
/-! ### blocks -/
/-- the chosen ones -/
inductive Pick {α : Type} (L : List α) : List Nat → List α → Prop
 | n : Pick L [] []
 | c {x : α} {is : List Nat} {l : List α} (i : Nat) (h : L[i]? = some x) (t : Pick L is l) : Pick L (i :: is) (x :: l)
theorem Pick.map {α : Type} {L : List α} : ∀ {is : List Nat} {l : List α}, Pick L is l → is.map (fun i => L[i]?) = l.map some := by
 intro is l h
 induction h with
 | n => rfl
 | c i h t ih => simp [h, ih]
def nodupN : List Nat → Bool
 | [] => true
 | i :: l => !l.contains i && nodupN l
theorem nodupN_spec : ∀ {l : List Nat}, nodupN l = true → l.Nodup := by
 intro l
 induction l with
 | nil => intro _; exact List.nodup_nil
 | cons i l ih =>
  intro h
  simp only [nodupN, Bool.and_eq_true, Bool.not_eq_true'] at h
  refine List.nodup_cons.2 ⟨fun hm => ?_, ih h.2⟩
  have := List.contains_iff_mem.2 hm
  rw [h.1] at this
  cases this
inductive App {α : Type} (R : List α) : List α → List α → Prop
 | n : App R [] R
 | c {x : α} {l m : List α} (t : App R l m) : App R (x :: l) (x :: m)
theorem App.eq {α : Type} {R l m : List α} (h : App R l m) : l ++ R = m := by
 induction h with
 | n => rfl
 | c t ih => simp [ih]
section
variable {g w0 w w' : World} {D0 D D' : Snap} {L0 L L' R M M' : List Blk}
theorem Stp.pk {is : List Nat} (h : Stp g w0 D0 L0 w D L) (hp : Pick L is L') (hn : nodupN is = true) : Stp g w0 D0 L0 w D L' := h.sel is hp.map (nodupN_spec hn)
theorem Stp.callR (h0 : Stp g w0 D0 L0 w D M) (h : Stp g w D L w' D' L') (he : L ++ R = M) (ha : App R L' M') : Stp g w0 D0 L0 w' D' M' := by
 subst he
 rw [← ha.eq]
 exact h0.call h
end
end Go.Sep
