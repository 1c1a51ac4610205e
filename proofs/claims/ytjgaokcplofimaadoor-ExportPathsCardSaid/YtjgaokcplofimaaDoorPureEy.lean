/-
 Plain: exported bundles: what a bundle of places comes to.
-/
import Derived.Test.YtjgaokcplofimaaDoorPureEx
namespace Go.Proofs.YtjgaokcplofimaaDoor
open Go Go.Sep
structure okE (l : List Rc) (p : T_api_Point) : Prop where
 len : l.length ≤ 50
 d : ∀ x ∈ l, okD x
 small : ∀ x ∈ l, x.fSteps.length ≤ 30 ∧ x.fData.length ≤ 300
 sigs : p.fSigs.length ≤ 20
theorem okE.r {l : List Rc} {p : T_api_Point} (h : okE l p) : okR l := ⟨h.len, h.d⟩
/-! ### few -/
def greatE (x : Rc) : Bool := decide ((30 : Int) < (x.fSteps.length : Int)) || decide ((300 : Int) < (x.fData.length : Int))
theorem greatE_eq {K : Nat} (x : Rc) : inspeximusref04_Great.f K x = some (greatE x) := by
 unfold inspeximusref04_Great.f greatE
 cases decide ((30 : Int) < (x.fSteps.length : Int)) <;> rfl
def fewE (l : List Rc) (p : T_api_Point) : Bool := l.all (fun x => !greatE x) && (decide ((l.length : Int) ≤ 50) && decide ((p.fSigs.length : Int) ≤ 20))
theorem few_eq (l : List Rc) (p : T_api_Point) : inspeximuslaw18_few.f 1000000000000 l p = some (fewE l p) := by
 unfold inspeximuslaw18_few.f inspeximusref12_Great.f fewE
 by_cases h1 : (150 : Int) < (l.length : Int)
 ·rw [dec_t h1, dec_f (show ¬ (l.length : Int) ≤ 50 by omega)]
  simp
 rw [dec_f h1]
 have hL := loop_all (L := inspeximusref12_Great_l1.l 1000000000000 l) (fun (_ : Unit) (i : Nat) => (i : Int)) l (fun _ i y => some (bif !greatE y then .inr () else .inl (.inl true))) (fun _ => some (.inr ())) () (k := 1000000000000) (by omega)
  (fun k s => by
   show inspeximusref12_Great_l1.b 1000000000000 l (inspeximusref12_Great_l1.l 1000000000000 l k) _ = _
   unfold inspeximusref12_Great_l1.b
   rw [bif_false (dec_f (by simp))])
  (fun k s i y hi hy => by
   show inspeximusref12_Great_l1.b 1000000000000 l (inspeximusref12_Great_l1.l 1000000000000 l k) _ = _
   unfold inspeximusref12_Great_l1.b
   rw [bif_true (dec_t (by omega)), bnd (getI_lt hy), bnd (greatE_eq y), wrap_succ (by omega)]
   cases greatE y <;> rfl)
 have hL : inspeximusref12_Great_l1.l 1000000000000 l 1000000000000 0 = _ := hL
 obtain ⟨r1, r2⟩ := run_find (good := fun y => !greatE y) (v := fun _ => true) (l := l) (s := ()) (i := 0) (f := fun _ i y => some (bif !greatE y then .inr () else .inl (.inl true))) (fun s i x _ => rfl)
 simp only [cond_false]
 cases hg : l.all (fun y => !greatE y) with
 | true =>
  rw [hL, r1 hg]
  show (bif decide ((l.length : Int) ≤ 50) then _ else _) = _
  cases decide ((l.length : Int) ≤ 50) <;> rfl
 | false =>
  obtain ⟨j, _, _, hj⟩ := r2 hg
  rw [hL, hj]; rfl
theorem few_ok {l : List Rc} {p : T_api_Point} (h : fewE l p = true) (hd : ∀ x ∈ l, isB x.fData) : okE l p := by
 unfold fewE greatE at h
 simp only [Bool.and_eq_true, decide_eq_true_eq, List.all_eq_true, Bool.not_eq_true', Bool.or_eq_false_iff, decide_eq_false_iff_not] at h
 obtain ⟨h1, h2, h3⟩ := h
 exact ⟨by omega, fun x hx => ⟨hd x hx, by have := h1 x hx; omega, by have := h1 x hx; omega⟩, fun x hx => by have := h1 x hx; omega, by omega⟩
/-! ### what a bundle of places is -/
def hashE (l : List Rc) (p : T_api_Point) : List H32 := (export_Hashes.f 1000000000000 (l.take p.fSize.toNat)).getD []
def gE (l : List Rc) (mask : Int) (whole : Bool) (hs : List H32) (i : Nat) : It := ⟨(i : Int), maskE (l[i]?.getD zRc) i mask, bif whole then [] else pathE hs i⟩
def gd (l : List Rc) (p : T_api_Point) : Bool := l.all rightS && (decide (0 ≤ p.fSize) && decide (p.fSize ≤ (l.length : Int)))
def xbunE (l : List Rc) (p : T_api_Point) (mask : Int) (whole : Bool) (pl : List Nat) : Bun := ⟨whole, p, pl.map (gE l mask whole (hashE l p))⟩
def madeE (l : List Rc) (p : T_api_Point) (mask : Int) (whole : Bool) (pl : List Nat) : Bun × Bool :=
 bif gd l p && rightB (xbunE l p mask whole pl) then (xbunE l p mask whole pl, true) else (zBun, false)
theorem gd_iff {l : List Rc} {p : T_api_Point} (h : gd l p = true) : l.all rightS = true ∧ ∃ n : Nat, p.fSize = (n : Int) ∧ n ≤ l.length := by
 unfold gd at h
 simp only [Bool.and_eq_true, decide_eq_true_eq] at h
 exact ⟨h.1, p.fSize.toNat, by omega, by omega⟩
theorem hashE_eq {l : List Rc} {p : T_api_Point} (h : okE l p) (hg : gd l p = true) {n : Nat} (hn : p.fSize = (n : Int)) : export_Hashes.f 1000000000000 (l.take n) = some (hashE l p) ∧ (hashE l p).length = n := by
 obtain ⟨hr, m, hm, hm2⟩ := gd_iff hg
 have hl := h.len
 obtain ⟨hs, h1, h2⟩ := hashes_tot (l := l.take n) ⟨by simp; omega, fun x hx => h.d x (List.mem_of_mem_take hx)⟩ (List.all_eq_true.2 fun x hx => List.all_eq_true.1 hr x (List.mem_of_mem_take hx))
 unfold hashE
 rw [hn, Int.toNat_natCast, h1]
 exact ⟨rfl, by simp only [Option.getD_some]; rw [h2]; simp; omega⟩
/-- one item -/
def itemStep {β : Type} (l : List Rc) (size mask : Int) (whole : Bool) (hs : List H32) (i : Int) (out : List It) (j1 : List It → Option β) (e : Option β) : Option β :=
 (jn (fun (y3 : Bool) => (bif y3 then e else (jn (fun (y4 : T_api_Rec) => (jn (fun (y5 : (List (Vector Int 32))) => ((catI 256 (out) (([(T_api_Item.mk (i) (y4) (y5))] : List T_api_Item))).bind fun (l1 : (List T_api_Item)) => (j1 l1))) (fun j2 => (bif (!whole) then ((proof_Path.f 1000000000000 hs i).bind fun (r3 : ((List (Vector Int 32)) × Bool)) => (j2 r3.1)) else (j2 ([] : List (Vector Int 32))))))) (fun j4 => ((getI l i).bind fun (x1 : T_api_Rec) => ((export_masked.f 1000000000000 (x1) i mask).bind fun (r4 : (T_api_Rec)) => (j4 r4))))))) (fun j3 => (bif (decide (i < (0 : Int))) then (j3 true) else (j3 (decide (size ≤ i))))))
theorem itemStep_in {β : Type} {l : List Rc} {p : T_api_Point} (h : okE l p) {size mask : Int} {whole : Bool} {hs : List H32} {i : Nat} {out : List It} {j1 : List It → Option β} {e : Option β} (hi : (i : Int) < size) (hs1 : size = (hs.length : Int)) (hs2 : hs.length ≤ l.length) (ho : out.length ≤ 1000) : itemStep l size mask whole hs (i : Int) out j1 e = j1 (out ++ [gE l mask whole hs i]) := by
 have hl := h.len
 obtain ⟨x, hx⟩ := getI_ex (l := l) (i := i) (by omega)
 have hx' := hx
 rw [getI_nat] at hx'
 have hm := List.mem_of_getElem? hx'
 unfold itemStep
 refine Eq.trans (jn_val false (fun j => by
  try dsimp only
  rw [bif_false (dec_f (show ¬ (i : Int) < 0 by omega)), dec_f (show ¬ size ≤ (i : Int) by omega)])) ?_
 try dsimp only
 simp only [cond_false]
 refine Eq.trans (jn_val (maskE x i mask) (fun j => by
  try dsimp only
  rw [bnd hx, bnd (maskE_eq (h.d x hm) (h.small x hm) i mask).1])) ?_
 try dsimp only
 refine Eq.trans (jn_val (bif whole then [] else pathE hs i) (fun j => by
  try dsimp only
  cases whole with
  | true => rfl
  | false => rw [bif_true (by rfl), bnd (pathE_eq (by omega) (by omega)).1]; rfl)) ?_
 try dsimp only
 rw [bnd (catI_ok (by simp only [List.length_singleton]; omega))]
 unfold gE
 rw [hx']
 rfl
/-- the loops over places -/
theorem made_loop {L : Nat → (Int × List It) → Option (Sum (List It) (List It))} {g : Nat → It} {sel : Nat → Bool} {n : Nat}
  (hend : ∀ k i out, n ≤ i → L (k + 1) ((i : Int), out) = some (.inr out))
  (hstep : ∀ k i out, i < n → out.length ≤ i → L (k + 1) ((i : Int), out) = L k (((i + 1 : Nat) : Int), out ++ (bif sel i then [g i] else []))) :
  ∀ m i out k, i + m = n → m < k → out.length ≤ i → L k ((i : Int), out) = some (.inr (out ++ ((List.range' i m).filter sel).map g)) := by
 intro m
 induction m with
 | zero =>
  intro i out k hi hk ho
  obtain ⟨k, rfl⟩ : ∃ j, k = j + 1 := ⟨k - 1, by omega⟩
  rw [hend k i out (by omega)]
  simp
 | succ m ih =>
  intro i out k hi hk ho
  obtain ⟨k, rfl⟩ : ∃ j, k = j + 1 := ⟨k - 1, by omega⟩
  rw [hstep k i out (by omega) ho, ih (i + 1) _ k (by omega) (by omega) (by
   rw [List.length_append]
   cases sel i <;> simp <;> omega)]
  rw [List.range'_succ, List.filter_cons]
  cases sel i <;> simp
/-- the whole making -/
def madeS (l : List Rc) (p : T_api_Point) (whole : Bool) (loop : List H32 → Option (Sum (List It) (List It))) : Option (Bun × Bool) :=
 (jn (fun (y2 : Bool) => (bif y2 then (some (z_T_api_Bundle, false)) else ((subI l 0 p.fSize).bind fun (l1 : (List T_api_Rec)) => ((export_Hashes.f 1000000000000 (l1)).bind fun (r1 : ((List (Vector Int 32)))) => (jn (fun (y1 : T_api_Point) => ((loop r1).bind fun s1 => (match s1 with | .inl u1 => (fun (_ : (List T_api_Item)) => (some (z_T_api_Bundle, false))) u1 | .inr u2 => (fun (z1 : (List T_api_Item)) => ((bundle_Right.f 1000000000000 ((T_api_Bundle.mk (whole) (y1) (z1)))).bind fun (r2 : (Bool)) => (bif (!r2) then (some (z_T_api_Bundle, false)) else (some ((T_api_Bundle.mk (whole) (y1) (z1)), true))))) u2))) (fun j2 => ((slices_Clone_api_Sig_api_Sig.f 1000000000000 (p.fSigs)).bind fun (r3 : ((List T_api_Sig))) => (j2 { p with fSigs := r3 })))))))) (fun j1 => ((export_right.f 1000000000000 l).bind fun (r4 : (Bool)) => (bif (!r4) then (j1 true) else (bif (decide ((400 : Int) < ((List.length l : Nat) : Int))) then (j1 true) else (bif (decide (p.fSize < (0 : Int))) then (j1 true) else (j1 (decide (((List.length l : Nat) : Int) < p.fSize)))))))))
theorem sclone_eq {s : List Sg} (h : s.length ≤ 20) : slices_Clone_api_Sig_api_Sig.f 1000000000000 s = some s := by
 unfold slices_Clone_api_Sig_api_Sig.f
 rw [bnd (catI_ok (by rw [List.length_nil]; omega))]; rfl
theorem madeS_gd {l : List Rc} {p : T_api_Point} (h : okE l p) (whole : Bool) (loop : List H32 → Option (Sum (List It) (List It))) : madeS l p whole loop = bif gd l p then ((loop (hashE l p)).bind fun s1 => (match s1 with | .inl u1 => (fun (_ : (List T_api_Item)) => (some (z_T_api_Bundle, false))) u1 | .inr u2 => (fun (z1 : (List T_api_Item)) => ((bundle_Right.f 1000000000000 ((T_api_Bundle.mk (whole) (p) (z1)))).bind fun (r2 : (Bool)) => (bif (!r2) then (some (z_T_api_Bundle, false)) else (some ((T_api_Bundle.mk (whole) (p) (z1)), true))))) u2)) else some (zBun, false) := by
 have hl := h.len
 unfold madeS
 refine Eq.trans (jn_val (!gd l p) (fun j => ?_)) ?_
 ·try dsimp only
  rw [bnd (eright_eq h.r)]
  unfold gd
  cases l.all rightS with
  | false => rfl
  | true =>
   simp only [Bool.not_true, cond_false, Bool.true_and]
   rw [bif_false (dec_f (by omega))]
   by_cases h1 : p.fSize < 0
   ·rw [bif_true (dec_t h1), dec_f (show ¬ (0 : Int) ≤ p.fSize by omega)]; rfl
   ·rw [bif_false (dec_f h1), dec_t (show (0 : Int) ≤ p.fSize by omega)]
    by_cases h2 : (l.length : Int) < p.fSize
    ·rw [dec_t h2, dec_f (show ¬ p.fSize ≤ (l.length : Int) by omega)]; rfl
    ·rw [dec_f h2, dec_t (show p.fSize ≤ (l.length : Int) by omega)]; rfl
 ·try dsimp only
  cases hg : gd l p with
  | false => rfl
  | true =>
   obtain ⟨hr, n, hn, hn2⟩ := gd_iff hg
   simp only [Bool.not_true, cond_false, cond_true]
   have hsub : subI l 0 p.fSize = some (l.take n) := by rw [hn]; exact subI_0 hn2
   rw [bnd hsub, bnd (hashE_eq h hg hn).1]
   refine Eq.trans (jn_val p (fun j => ?_)) rfl
   try dsimp only
   rw [bnd (sclone_eq h.sigs)]
theorem xbunE_ok {l : List Rc} {p : T_api_Point} (h : okE l p) (hg : gd l p = true) {mask : Int} {whole : Bool} {pl : List Nat} (hp : ∀ i ∈ pl, (i : Int) < p.fSize) (hlen : pl.length ≤ 1000) : okBun (xbunE l p mask whole pl) := by
 obtain ⟨hr, n, hn, hn2⟩ := gd_iff hg
 have hl := h.len
 have hh := (hashE_eq h hg hn).2
 refine ⟨by have := h.sigs; show p.fSigs.length < _; omega, by show (pl.map _).length < _; rw [List.length_map]; omega, fun y hy => ?_⟩
 obtain ⟨i, hi, rfl⟩ := List.mem_map.1 hy
 have hin := hp i hi
 obtain ⟨x, hx⟩ := getI_ex (l := l) (i := i) (by omega)
 rw [getI_nat] at hx
 have hm := List.mem_of_getElem? hx
 refine ⟨?_, ?_⟩
 ·show okD (maskE (l[i]?.getD zRc) i mask)
  rw [hx]
  exact (maskE_right (h.d x hm) (h.small x hm) (List.all_eq_true.1 hr x hm) i mask).2
 ·show (bif whole then [] else pathE (hashE l p) i : List H32).length < _
  cases whole with
  | true => simp
  | false =>
   have := (pathE_eq (l := hashE l p) (i := i) (by omega) (by omega)).2
   simp only [cond_false]; omega
theorem madeS_eq {l : List Rc} {p : T_api_Point} (h : okE l p) {mask : Int} {whole : Bool} {loop : List H32 → Option (Sum (List It) (List It))} {pl : List Nat} (hloop : gd l p = true → loop (hashE l p) = some (.inr (pl.map (gE l mask whole (hashE l p)))))
  (hp : gd l p = true → ∀ i ∈ pl, (i : Int) < p.fSize) (hlen : gd l p = true → pl.length ≤ 1000) : madeS l p whole loop = some (madeE l p mask whole pl) := by
 rw [madeS_gd h]
 unfold madeE
 cases hg : gd l p with
 | false => rfl
 | true =>
  simp only [cond_true, Bool.true_and]
  rw [bnd (hloop hg)]
  show (bundle_Right.f 1000000000000 (xbunE l p mask whole pl)).bind _ = _
  rw [bnd (rightB_eq (Nat.le_refl _) (xbunE_ok h hg (hp hg) (hlen hg)))]
  cases rightB (xbunE l p mask whole pl) <;> rfl
/-! ### the four ways -/
def placesE (l : List Rc) (p : T_api_Point) (sel : Nat → Bool) : List Nat := (List.range' 0 p.fSize.toNat).filter sel
theorem placesE_lt {l : List Rc} {p : T_api_Point} {sel : Nat → Bool} (hg : gd l p = true) : ∀ i ∈ placesE l p sel, (i : Int) < p.fSize := by
 obtain ⟨_, n, hn, _⟩ := gd_iff hg
 intro i hi
 have := (List.mem_range'_1.1 (List.mem_filter.1 hi).1).2
 omega
theorem placesE_len {l : List Rc} {p : T_api_Point} {sel : Nat → Bool} (h : okE l p) (hg : gd l p = true) : (placesE l p sel).length ≤ 1000 := by
 obtain ⟨_, n, hn, _⟩ := gd_iff hg
 have h1 : (placesE l p sel).length ≤ _ := List.length_filter_le sel _
 rw [List.length_range'] at h1
 have := h.len
 omega
def selR (a b : Int) (i : Nat) : Bool := decide (a ≤ (i : Int)) && decide ((i : Int) < b)
theorem selR_eq (a b : Int) (i : Nat) : export_Range_1.f 1000000000000 (i : Int) a b = some (selR a b i) := by
 unfold export_Range_1.f selR
 cases decide (a ≤ (i : Int)) <;> rfl
theorem gd_min {l : List Rc} {p : T_api_Point} (hg : gd l p = true) : minI (maxI (0 : Int) p.fSize) ((List.length l : Nat) : Int) = p.fSize ∧ maxI (0 : Int) p.fSize = p.fSize := by
 obtain ⟨_, n, hn, hn2⟩ := gd_iff hg
 have : maxI (0 : Int) p.fSize = p.fSize := by
  unfold maxI
  split <;> omega
 rw [this]
 refine ⟨?_, rfl⟩
 unfold minI
 split <;> omega
theorem range_eq {l : List Rc} {p : T_api_Point} (h : okE l p) (mask a b : Int) : export_Range.f 1000000000000 l p mask a b = some (madeE l p mask false (placesE l p (selR a b))) := by
 unfold export_Range.f export_those.f
 rw [Option.bind_some]
 have key : ∀ n : Int, (gd l p = true → n = p.fSize) → export_made.f 1000000000000 l p mask false n a b = some (madeE l p mask false (placesE l p (selR a b))) := by
  intro n hn
  show madeS l p false (fun r1 => export_made_l1.l 1000000000000 l p mask false n a b r1 1000000000000 (0, [])) = _
  refine madeS_eq h (fun hg => ?_) placesE_lt (placesE_len h)
  obtain ⟨hr, m, hm, hm2⟩ := gd_iff hg
  have hh := (hashE_eq h hg hm).2
  have hl := h.len
  rw [hn hg, hm]
  generalize hashE l p = hs at hh
  have := made_loop (L := export_made_l1.l 1000000000000 l p mask false (m : Int) a b hs) (g := gE l mask false hs) (sel := selR a b) (n := m)
   (fun k i out hi => by
    show export_made_l1.b 1000000000000 l p mask false (m : Int) a b hs (export_made_l1.l 1000000000000 l p mask false (m : Int) a b hs k) _ = _
    unfold export_made_l1.b
    rw [bif_false (dec_f (by simp only; omega))])
   (fun k i out hi ho => by
    show export_made_l1.b 1000000000000 l p mask false (m : Int) a b hs (export_made_l1.l 1000000000000 l p mask false (m : Int) a b hs k) _ = _
    unfold export_made_l1.b
    rw [bif_true (dec_t (by simp only; omega))]
    refine Eq.trans (jn_val (out ++ (bif selR a b i then [gE l mask false hs i] else [])) (fun j => ?_)) ?_
    ·try dsimp only
     rw [bnd (selR_eq a b i)]
     cases selR a b i with
     | false => simp
     | true =>
      exact itemStep_in (j1 := j) (mask := mask) (whole := false) (size := p.fSize) (out := out) h (by omega) (by omega) (by omega) (by omega)
    ·try dsimp only
     rw [wrap_succ (by omega)])
   m 0 [] 1000000000000 (by omega) (by omega) (by simp)
  rw [List.nil_append] at this
  have e : placesE l p (selR a b) = (List.range' 0 m).filter (selR a b) := by unfold placesE; rw [hm, Int.toNat_natCast]
  rw [e]
  exact this
 rw [bnd (key _ (fun hg => (gd_min hg).1))]
end Go.Proofs.YtjgaokcplofimaaDoor
