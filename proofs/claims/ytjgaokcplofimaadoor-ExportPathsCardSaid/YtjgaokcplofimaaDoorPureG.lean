/-
 Plain: a loop over a list, told by what one step does; sequences of readers.
-/
import Derived.Test.YtjgaokcplofimaaDoorPureA
namespace Go.Sep
def runL {α σ ρ : Type} (f : σ → Nat → α → Option (Sum ρ σ)) (fin : σ → Option ρ) : σ → Nat → List α → Option ρ
 | s, _, [] => fin s
 | s, i, x :: l => (f s i x).bind fun t => match t with | .inl r => some r | .inr s' => runL f fin s' (i + 1) l
theorem loop_list {Y α σ ρ : Type} {L : Nat → Y → Option ρ} (enc : σ → Nat → Y) (l : List α) {f : σ → Nat → α → Option (Sum ρ σ)} {fin : σ → Option ρ}
  (h0 : ∀ k s, L (k + 1) (enc s l.length) = fin s)
  (h1 : ∀ k s i x, i < l.length → l[i]? = some x → L (k + 1) (enc s i) = (f s i x).bind fun t => match t with | .inl r => some r | .inr s' => L k (enc s' (i + 1))) :
  ∀ (m : List α) (s : σ) (i k : Nat), l.drop i = m → i ≤ l.length → m.length < k → L k (enc s i) = runL f fin s i m := by
 intro m
 induction m with
 | nil =>
  intro s i k hm hi hk
  obtain ⟨k, rfl⟩ : ∃ j, k = j + 1 := ⟨k - 1, by simp at hk; omega⟩
  have : i = l.length := by
   have := congrArg List.length hm
   simp at this; omega
  subst this
  exact h0 k s
 | cons x m ih =>
  intro s i k hm hi hk
  obtain ⟨k, rfl⟩ : ∃ j, k = j + 1 := ⟨k - 1, by simp at hk; omega⟩
  have hlt : i < l.length := by
   have := congrArg List.length hm
   simp at this; omega
  have hx : l[i]? = some x := by
   have := congrArg (fun (l : List α) => l[0]?) hm
   simpa using this
  have hd : l.drop (i + 1) = m := by rw [← List.drop_drop, hm]; rfl
  rw [h1 k s i x hlt hx]
  unfold runL
  cases f s i x with
  | none => rfl
  | some t =>
   cases t with
   | inl r => rfl
   | inr s' => exact ih s' (i + 1) k hd (by omega) (by simp at hk; omega)
theorem loop_all {Y α σ ρ : Type} {L : Nat → Y → Option ρ} (enc : σ → Nat → Y) (l : List α) (f : σ → Nat → α → Option (Sum ρ σ)) (fin : σ → Option ρ) (s : σ) {k : Nat} (hk : l.length < k)
  (h0 : ∀ k s, L (k + 1) (enc s l.length) = fin s)
  (h1 : ∀ k s i x, i < l.length → l[i]? = some x → L (k + 1) (enc s i) = (f s i x).bind fun t => match t with | .inl r => some r | .inr s' => L k (enc s' (i + 1))) :
  L k (enc s 0) = runL f fin s 0 l := loop_list enc l h0 h1 l s 0 k rfl (by omega) hk
/-- a search -/
theorem run_find {α σ β : Type} {good : α → Bool} {v : Nat → β} : ∀ {l : List α} {s : σ} {i : Nat} {f : σ → Nat → α → Option (Sum (Sum β Unit) σ)} (_ : ∀ s i x, x ∈ l → f s i x = some (bif good x then .inr s else .inl (.inl (v i)))),
  (l.all good = true → runL f (fun _ => some (.inr ())) s i l = some (.inr ())) ∧ (l.all good = false → ∃ j, i ≤ j ∧ j < i + l.length ∧ runL f (fun _ => some (.inr ())) s i l = some (.inl (v j))) := by
 intro l
 induction l with
 | nil => intro s i f _; exact ⟨fun _ => rfl, fun h => by simp at h⟩
 | cons x l ih =>
  intro s i f hf
  have hx := hf s i x (by simp)
  unfold runL
  rw [hx]
  cases hg : good x with
  | false =>
   refine ⟨fun h => by simp [hg] at h, fun _ => ⟨i, Nat.le_refl _, by simp, ?_⟩⟩
   rfl
  | true =>
   obtain ⟨i1, i2⟩ := ih (s := s) (i := i + 1) (f := f) (fun s i y hy => hf s i y (by simp [hy]))
   refine ⟨fun h => ?_, fun h => ?_⟩
   ·exact i1 (by simpa [hg] using h)
   ·obtain ⟨j, h1, h2, h3⟩ := i2 (by simpa [hg] using h)
    exact ⟨j, by omega, by simp; omega, h3⟩
theorem getI_lt {α : Type} {l : List α} {i : Nat} {x : α} (h : l[i]? = some x) : getI l (i : Int) = some x := by rw [getI_nat, h]
theorem zip_get {α β : Type} {l : List α} {m : List β} {i : Nat} {x : α × β} (h : (l.zip m)[i]? = some x) : l[i]? = some x.1 ∧ m[i]? = some x.2 := by
 have := List.getElem?_zip_eq_some.1 (by simpa using h)
 exact this
theorem wrap_succ {i : Nat} (h : i < 1000000000000) : IntKind.wrap .i64 ((i : Int) + 1) = ((i + 1 : Nat) : Int) := by rw [wrap64 (by omega) (by omega)]; rfl
theorem zip_all_eq {α : Type} [DecidableEq α] : ∀ {l m : List α}, l.length = m.length → ((l.zip m).all (fun x => decide (x.1 = x.2)) = decide (l = m)) := by
 intro l
 induction l with
 | nil => intro m h; cases m with | nil => rfl | cons _ _ => simp at h
 | cons a l ih =>
  intro m h
  cases m with
  | nil => simp at h
  | cons b m =>
   simp only [List.zip_cons_cons, List.all_cons]
   rw [ih (by simpa using h)]
   simp
end Go.Sep
