/-
  Elements of array values and of strings; copies.
-/
import Derived.Test.YtmjkjgidcmalhaaSepI
namespace Go.Sep

section
variable {P : Program} {ρ : Option Nat} {ops : Array Oper} {Q : Exit → Act → World → Prop} {a : Act} {n : Nat} {ds : List Deferred} {E : List (Nat × Value)}
variable {g w w0 : World} {D D0 : Snap} {L L0 : List Blk} {i : Nat} {o : Oper} {d : Nat} {C : Act → World → Prop} {C1 : Act → Prop} {M : List Nat}

theorem vlist_get {N : Nat} {v : Vector Int N} {m : Nat} {y : Int} (h : (vlist v)[m]? = some y) : m < N ∧ y = vget v m := by
  obtain ⟨h1, h2⟩ := List.getElem?_eq_some_iff.1 h
  simp [vlist] at h1 h2
  exact ⟨h1, h2.symm⟩

/-- 'index' of an array's value -/
theorem tk_indexA {t N : Nat} {x ix : Operand} {kk k : IntKind} {v : Vector Int N} {m y : Int} (ho : ops[i]? = some o) (hop : o.op = .index t x ix) (hg : guardOf ops E o = some true) (hd : o.dst = some d) (hE : Env a n ds E) (hn : Nat.blt d n = true)
    (hx : evalO E x = some (.agg (List.toArray (acells k N v)))) (hix : evalO E ix = some (.int kk m)) (hT : arrIntT P t = some (N, k)) (hy : getI (vlist v) m = some y)
    (c : ∀ a, Env a n ds ((d, .int k y) :: E) → C1 a) : Tk P ops M i n ds E a w C1 := by
  obtain ⟨e, ii, h1, h2, h3, h4⟩ := arrIntT_spec hT
  obtain ⟨h0, hy'⟩ := getI_some hy
  obtain ⟨hlt, rfl⟩ := vlist_get hy'
  have hltI : m < (N : Int) := by omega
  refine tk_of (v := .int k (vget v m.toNat)) hE ho hg hd hn (by simp [hop, noDefer]) (fun w' _ => ?_) c
  have hp := part_acells (P := P) h2 v hlt w'
  simp [execOp, hop, hE.eval hx, hE.eval hix, Instr.index, asIntOf, run_underlying' h1, h0, hltI, Go.sizeOf, typeInfo, h3, h4]
  rw [Nat.mul_one] at hp
  rw [hp]; rfl

/-- a string's bytes as numbers -/
def blist (s : ByteArray) : List Int := s.data.toList.map fun b => ((b.toNat : Nat) : Int)

def strT (P : Program) (t : TypeId) : Bool := match P.underlying t with | some .string => true | _ => false
theorem strT_spec {t : TypeId} (h : strT P t = true) : P.underlying t = some .string := by
  unfold strT at h
  split at h
  · assumption
  · cases h

/-- 'index' of a string -/
theorem tk_indexS {t : Nat} {x ix : Operand} {kk : IntKind} {s : ByteArray} {m y : Int} (ho : ops[i]? = some o) (hop : o.op = .index t x ix) (hg : guardOf ops E o = some true) (hd : o.dst = some d) (hE : Env a n ds E) (hn : Nat.blt d n = true)
    (hx : evalO E x = some (.string s)) (hix : evalO E ix = some (.int kk m)) (hT : strT P t = true) (hy : getI (blist s) m = some y)
    (c : ∀ a, Env a n ds ((d, .int .u8 y) :: E) → C1 a) : Tk P ops M i n ds E a w C1 := by
  have h1 := strT_spec hT
  obtain ⟨h0, hy'⟩ := getI_some hy
  simp only [blist, List.getElem?_map, Option.map_eq_some_iff] at hy'
  obtain ⟨b, hb, rfl⟩ := hy'
  have hs : s[m.toNat]? = some b := by
    obtain ⟨h2, h3⟩ := List.getElem?_eq_some_iff.1 hb
    have h2' : m.toNat < s.size := by rw [Array.length_toList] at h2; exact h2
    rw [getElem?_pos s m.toNat h2']
    exact congrArg some h3
  refine tk_of (v := .int .u8 (b.toNat : Nat)) hE ho hg hd hn (by simp [hop, noDefer]) (fun w' _ => ?_) c
  simp [execOp, hop, hE.eval hx, hE.eval hix, Instr.index, asIntOf, run_underlying' h1, h0, hs]
end

/-- the fields of a struct's type -/
def structFs (P : Program) (t : TypeId) : List Field :=
  match P.underlying t with
  | some (.struct fs) => fs.toList
  | _ => []

/-! ### what the operations of a drawn region write -/
def mfOf : List (Nat × List Nat) → Nat → List Nat
  | [], _ => []
  | (k, l) :: t, j => bif Nat.beq k j then l else mfOf t j
def mfAll : List (Nat × List Nat) → List Nat
  | [] => []
  | (_, l) :: t => l ++ mfAll t
theorem mfOf_mem : ∀ (t : List (Nat × List Nat)) (j b : Nat), b ∈ mfOf t j → b ∈ mfAll t := by
  intro t
  induction t with
  | nil => intro j b h; cases h
  | cons x t ih =>
    intro j b h
    simp only [mfOf] at h
    cases hk : Nat.beq x.1 j with
    | true => rw [hk] at h; exact List.mem_append_left _ h
    | false => rw [hk] at h; exact List.mem_append_right _ (ih j b h)
theorem nm_cons {b c : Nat} {l : List Nat} (h : b ≠ c) (t : b ∉ l) : b ∉ c :: l := fun hm => by
  rcases List.mem_cons.1 hm with e | e
  · exact h e
  · exact t e
theorem dn_nil {D : Snap} : ∀ m, m ∈ ([] : List Nat) → D m = none := fun _ h => absurd h List.not_mem_nil
theorem dn_cons {D : Snap} {c : Nat} {l : List Nat} (h : D c = none) (t : ∀ m, m ∈ l → D m = none) : ∀ m, m ∈ c :: l → D m = none := fun m hm => by
  rcases List.mem_cons.1 hm with rfl | e
  · exact h
  · exact t m e
end Go.Sep
