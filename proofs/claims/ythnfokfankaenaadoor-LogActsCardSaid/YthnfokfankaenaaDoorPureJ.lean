/-
 Plain: a log's entries, how they are read of bytes, how a disk is opened.
-/
import Derived.Test.YthnfokfankaenaaDoorPureE
namespace Go.Proofs.YthnfokfankaenaaDoor
open Go Go.Sep
abbrev At := T_log_at
/-- the chain behind an entry -/
def chS (K : Nat) (h : H32) (b : List Int) : H32 := (mac_Of.f K 5 [vlist h, b]).getD zH
theorem chS_eq {K : Nat} (hK : 1000000000000 ≤ K) {h : H32} {b : List Int} (hb : b.length ≤ 10000) : mac_Of.f K 5 [vlist h, b] = some (chS K h b) ∧ isB (vlist (chS K h b)) := by
 obtain ⟨r, hr, hp⟩ := of_tot hK (d := 5) (l := [vlist h, b]) (by simp) (fun x hx => by
  simp at hx
  rcases hx with rfl | rfl
  ·rw [vlist_length]; omega
  ·exact hb)
 unfold chS
 rw [hr]
 exact ⟨rfl, vlist_inC hp⟩
def behS (K : Nat) (a : At) (b : List Int) : At := ⟨a.fCount + 1, chS K a.fChain b⟩
def cntA (a : At) (n : Nat) : Prop := 0 ≤ a.fCount ∧ a.fCount + n < 1000000000
theorem beh_eq {K : Nat} (hK : 1000000000000 ≤ K) {a : At} {b : List Int} (hb : b.length ≤ 10000) (ha : cntA a 1) : log_at_behind.f K a b = some (behS K a b) := by
 unfold log_at_behind.f
 have hs := subI_0 (l := vlist a.fChain) (b := 32) (by rw [vlist_length]; omega)
 rw [List.take_of_length_le (by rw [vlist_length]; omega)] at hs
 refine bind_of hs ?_
 refine bind_of (chS_eq hK hb).1 ?_
 rw [wrap64 (by have := ha.1; omega) (by have := ha.2; omega)]
 rfl
/-- an entry's bytes -/
def entS (K : Nat) (a : At) (b : List Int) : List Int := (numS b.length ++ b) ++ (vlist (chS K a.fChain b)).take 8
theorem entS_len (K : Nat) (a : At) {b : List Int} : (entS K a b).length = (numS b.length).length + b.length + 8 := by
 unfold entS
 simp only [List.length_append, List.length_take, vlist_length]
 omega
theorem laid_eq {K : Nat} (hK : 1000000000000 ≤ K) {a : At} {b : List Int} (hb : b.length ≤ 10000) (ha : cntA a 1) : log_at_laid.f K a b = some (entS K a b) := by
 unfold log_at_laid.f
 refine bind_of (beh_eq hK hb ha) ?_
 have hs := subI_0 (l := vlist (behS K a b).fChain) (b := 8) (by rw [vlist_length]; omega)
 refine bind_of hs ?_
 refine bind_of (bytes_eq hK (by omega)) ?_
 have hn := numS_len (n := b.length) (by omega)
 refine bind_of (all_eq hK (by simp; omega) (by simp)) ?_
 simp [entS, behS]
theorem entS_isB {K : Nat} (hK : 1000000000000 ≤ K) {a : At} {b : List Int} (hb : b.length ≤ 10000) (hB : isB b) : isB (entS K a b) :=
 isB_append.2 ⟨isB_append.2 ⟨numS_isB _, hB⟩, fun x hx => (chS_eq hK hb).2 x (List.mem_of_mem_take hx)⟩
/-- what may be an entry -/
def okE (b : List Int) : Prop := b ≠ [] ∧ b.length ≤ 2000 ∧ isB b
theorem okE.pos {b : List Int} (h : okE b) : 0 < b.length := List.length_pos_iff.2 h.1
/-- no entry stands at the head -/
def NoEnt (K : Nat) (a : At) (T : List Int) : Prop := ∀ x rest, okE x → T ≠ entS K a x ++ rest
theorem bytes_at {T x rest : List Int} (hx : okE x) (hT : isB T) (hl : T.length < 1000000000) (h : T = (numS x.length ++ x) ++ rest) : bytesR 2000 ⟨T, 0⟩ = (x, ⟨rest, 0⟩) := by
 subst h
 exact (bytesR_spec (most := 2000) (by omega)).ok x rest ⟨by have := hx.2.1; omega, hx.2.2⟩ ⟨hT, hl⟩
theorem ent_uniq {K : Nat} {a a' : At} {x y r r' : List Int} (hx : okE x) (hy : okE y) (hB : isB (entS K a x ++ r)) (hl : (entS K a x ++ r).length < 1000000000) (h : entS K a x ++ r = entS K a' y ++ r') : x = y := by
 have e1 := bytes_at (T := entS K a x ++ r) hx hB hl (rest := (vlist (chS K a.fChain x)).take 8 ++ r) (by simp [entS])
 have e2 := bytes_at (T := entS K a x ++ r) hy hB hl (rest := (vlist (chS K a'.fChain y)).take 8 ++ r') (by rw [h]; simp [entS])
 rw [e1] at e2
 simp only [Prod.mk.injEq] at e2
 exact e2.1
theorem prefix_eq {K : Nat} {T y : List Int} (hT : isB T) (hy : isB y) : bytes_HasPrefix.f K T y = some (decide (y.length ≤ T.length ∧ T.take y.length = y)) := by
 unfold bytes_HasPrefix.f
 by_cases h : y.length ≤ T.length
 ·rw [bif_true (dec_t (by omega))]
  refine bind_of (subI_0 h) ?_
  refine bind_of (bytes_same (fun x hx => hT x (List.mem_of_mem_take hx)) hy) ?_
  simp [h]
 ·rw [bif_false (dec_f (by omega)), dec_f (fun e => h e.1)]
/-- what is read at a place -/
theorem read_cases {K : Nat} (hK : 1000000000000 ≤ K) {B : List Int} {n : Nat} {a : At} (hB : isB B) (hl : B.length < 1000000) (hn : n ≤ B.length) (ha : cntA a 1) :
  (∃ x rest, okE x ∧ B.drop n = entS K a x ++ rest ∧ log_read.f K B (n : Int) a = some (⟨x, behS K a x, ((n + (entS K a x).length : Nat) : Int)⟩, true)) ∨
  (NoEnt K a (B.drop n) ∧ ∃ z, log_read.f K B (n : Int) a = some (z, false)) := by
 have hT : isB (B.drop n) := fun x hx => hB x (List.mem_of_mem_drop hx)
 have hTl : (B.drop n).length < 1000000000 := by simp; omega
 have hdet : ∀ x rest, okE x → B.drop n = entS K a x ++ rest → bytesR 2000 ⟨B.drop n, 0⟩ = (x, ⟨(vlist (chS K a.fChain x)).take 8 ++ rest, 0⟩) := fun x rest hx h =>
  bytes_at hx hT hTl (by rw [h]; simp [entS])
 have hback := (bytesR_spec (most := 2000) (by omega)).back ⟨B.drop n, 0⟩ ⟨hT, hTl⟩
 have hstart : ∀ f : List Int → Option (T_log_entry × Bool), (subI B (n : Int) ((B.length : Nat) : Int)).bind f = f (B.drop n) := fun f => by rw [subI_all hn]; rfl
 unfold log_read.f
 simp only [hstart]
 rw [read_eq (by omega)]
 simp only [Option.bind_some]
 rw [bytesR_eq hK ⟨hT, hTl⟩]
 simp only [Option.bind_some, jn]
 rw [rbad_eq]
 simp only [Option.bind_some]
 generalize ht : bytesR 2000 ⟨B.drop n, 0⟩ = t at hback hdet
 by_cases h0 : t.2.fBad = 0
 ·rw [bif_false (by simp [h0])]
  obtain ⟨_, hTe, hok1, hok2⟩ := hback h0
  by_cases h1 : t.1 = []
  ·right
   refine ⟨fun x rest hx h => ?_, ?_⟩
   ·have := hdet x rest hx h
    rw [this] at h1
    exact hx.1 h1
   ·rw [h1]; exact ⟨_, rfl⟩
  ·have hx : okE t.1 := ⟨h1, by omega, hok2⟩
   have hp := hx.pos
   rw [bif_false (dec_f (by omega)), laid_eq hK (by omega) ha]
   simp only [Option.bind_some]
   rw [prefix_eq hT (entS_isB hK (by omega) hok2)]
   simp only [Option.bind_some]
   by_cases h2 : (entS K a t.1).length ≤ (B.drop n).length ∧ (B.drop n).take (entS K a t.1).length = entS K a t.1
   ·left
    rw [dec_t h2]
    refine ⟨t.1, (B.drop n).drop (entS K a t.1).length, hx, ?_, ?_⟩
    ·conv => lhs; rw [← List.take_append_drop (entS K a t.1).length (B.drop n)]
     rw [h2.2]
    ·simp only [Bool.not_true, cond_false]
     rw [beh_eq hK (by omega) ha]
     simp only [Option.bind_some]
     have h3 := h2.1
     simp only [List.length_drop] at h3
     rw [wrap64 (by omega) (by omega)]
     rfl
   ·right
    rw [dec_f h2]
    refine ⟨fun x rest hx' h => h2 ?_, _, rfl⟩
    have := hdet x rest hx' h
    have e : t.1 = x := by rw [this]
    rw [e, h]
    simp
 ·right
  rw [bif_true (by simp [h0])]
  refine ⟨fun x rest hx h => h0 ?_, _, rfl⟩
  rw [hdet x rest hx h]
/-! ### a log's bytes -/
def logW (K : Nat) : At → List (List Int) → List Int
 | _, [] => []
 | a, b :: l => entS K a b ++ logW K (behS K a b) l
def endS (K : Nat) : At → List (List Int) → At
 | a, [] => a
 | a, b :: l => endS K (behS K a b) l
theorem logW_app (K : Nat) : ∀ (a : At) (l m : List (List Int)), logW K a (l ++ m) = logW K a l ++ logW K (endS K a l) m
 | _, [], _ => rfl
 | a, b :: l, m => by simp [logW, endS, logW_app K (behS K a b) l m]
theorem endS_app (K : Nat) : ∀ (a : At) (l m : List (List Int)), endS K a (l ++ m) = endS K (endS K a l) m
 | _, [], _ => rfl
 | a, b :: l, m => by simp [endS, endS_app K (behS K a b) l m]
theorem endS_cnt (K : Nat) : ∀ (a : At) (l : List (List Int)), (endS K a l).fCount = a.fCount + l.length
 | a, [] => by simp [endS]
 | a, b :: l => by
  rw [endS, endS_cnt K (behS K a b) l]
  simp [behS]; omega
def okL (l : List (List Int)) : Prop := ∀ b ∈ l, okE b
theorem logW_isB {K : Nat} (hK : 1000000000000 ≤ K) : ∀ {l : List (List Int)} {a : At}, okL l → isB (logW K a l)
 | [], _, _ => isB_nil
 | b :: l, a, h => by
  have hb := h b (by simp)
  exact isB_append.2 ⟨entS_isB hK (by have := hb.2.1; omega) hb.2.2, logW_isB hK (fun x hx => h x (by simp [hx]))⟩
theorem noEnt_nil (K : Nat) (a : At) : NoEnt K a [] := fun x rest _ h => by
 have := congrArg List.length h
 rw [List.length_append, entS_len] at this
 simp only [List.length_nil] at this
 omega
theorem logW_len_le (K : Nat) : ∀ (l : List (List Int)) (a : At), l.length ≤ (logW K a l).length
 | [], _ => by simp
 | b :: l, a => by
  have := logW_len_le K l (behS K a b)
  simp only [logW, List.length_append, List.length_cons, entS_len]; omega
theorem open_loop {K : Nat} (hK : 1000000000000 ≤ K) {B T : List Int} (hB : isB B) (hBl : B.length < 1000000) : ∀ (l : List (List Int)) (out : List (List Int)) (b : List Int) (a : At) (n k : Nat),
  B.drop n = logW K a l ++ T → n ≤ B.length → okL l → NoEnt K (endS K a l) T → l.length < k → cntA a (l.length + 1) → out.length + l.length < 1000000 →
  log_Open_l1.l K B k (out, (n : Int), ⟨b, a, (n : Int)⟩, a) = some (out ++ l, ((n + (logW K a l).length : Nat) : Int), endS K a l) := by
 intro l
 induction l with
 | nil =>
  intro out b a n k h hn hok hno hk hc _
  obtain ⟨k, rfl⟩ : ∃ j, k = j + 1 := ⟨k - 1, by omega⟩
  show log_Open_l1.b K B (log_Open_l1.l K B k) _ = _
  unfold log_Open_l1.b
  simp only
  rcases read_cases hK hB hBl hn hc with ⟨x, rest, hx, he, _⟩ | ⟨_, z, hz⟩
  ·exact absurd (h.symm.trans he) (by simpa [logW, endS] using hno x rest hx)
  ·rw [hz]
   simp [jn, logW, endS]
 | cons y l ih =>
  intro out b a n k h hn hok hno hk hc ho
  obtain ⟨k, rfl⟩ : ∃ j, k = j + 1 := ⟨k - 1, by omega⟩
  have hy := hok y (by simp)
  simp only [List.length_cons] at hc ho hk
  show log_Open_l1.b K B (log_Open_l1.l K B k) _ = _
  unfold log_Open_l1.b
  simp only
  have hd : isB (B.drop n) := fun x hx => hB x (List.mem_of_mem_drop hx)
  have he0 : B.drop n = entS K a y ++ (logW K (behS K a y) l ++ T) := by rw [h]; simp [logW]
  rcases read_cases hK hB hBl hn (a := a) ⟨hc.1, by have := hc.2; omega⟩ with ⟨x, rest, hx, he, hr⟩ | ⟨hno', _⟩
  ·have hxy : y = x := by
    refine ent_uniq hy hx (a := a) (a' := a) ?_ ?_ (he0.symm.trans he)
    ·rw [← he0]; exact hd
    ·rw [← he0]; simp; omega
   subst hxy
   rw [hr]
   simp only [Option.bind_some, jn, Bool.not_true, cond_false]
   rw [catI_ok (by simp; omega)]
   simp only [Option.bind_some]
   have hlen : n + (entS K a y).length ≤ B.length := by
    have := congrArg List.length he0
    simp only [List.length_drop, List.length_append] at this
    omega
   rw [ih (out ++ [y]) y (behS K a y) (n + (entS K a y).length) k ?_ hlen (fun z hz => hok z (by simp [hz])) hno (by omega) ⟨by simp [behS]; have := hc.1; omega, by simp [behS]; have := hc.2; omega⟩ (by simp; omega)]
   ·simp [logW, endS, Nat.add_assoc]
   ·rw [← List.drop_drop, he0, List.drop_left]
  ·exact absurd he0 (hno' y _ hy)
def a0 : At := ⟨0, zH⟩
/-- how a disk is opened -/
theorem open_eq' {K : Nat} (hK : 1000000000000 ≤ K) {B T : List Int} {l : List (List Int)} (hB : isB B) (hBl : B.length < 1000000) (h : B = logW K a0 l ++ T) (hok : okL l) (hno : NoEnt K (endS K a0 l) T) (la room : Int) :
  log_Open.f K B la room = some (l, 0, logW K a0 l, ((logW K a0 l).length : Int), endS K a0 l) := by
 have hll := logW_len_le K l a0
 have hBL := congrArg List.length h
 simp only [List.length_append] at hBL
 unfold log_Open.f disk_Disk_Bytes.f
 rw [catI_ok (by simp; omega)]
 simp only [Option.bind_some, List.nil_append]
 unfold log_entries.f
 simp only [Option.bind_some]
 have hL := open_loop hK hB hBl l [] [] a0 0 K (by simpa using h) (by omega) hok hno (by omega) ⟨by decide, by show (0 : Int) + _ < _; omega⟩ (by simp; omega)
 simp only [List.nil_append, Nat.zero_add] at hL
 refine bind_of (x := (l, ((logW K a0 l).length : Int), endS K a0 l)) hL ?_
 unfold disk_Disk_Cut.f disk_Disk_leave.f
 simp only [jn]
 rw [bif_false (dec_f (by omega)), bif_false (dec_f (by omega)), subI_0 (by omega)]
 have e : B.take (logW K a0 l).length = logW K a0 l := by rw [h, List.take_left]
 rw [e]
 rfl
/-- how an entry is put -/
theorem put_eq {K : Nat} (hK : 1000000000000 ≤ K) {b d : List Int} {a : At} (hb : okE b) (ha : cntA a 1) {la room : Int} (hd : d.length < 1000000) (hr : room < 1000000) (hroom : ((d.length + (entS K a b).length : Nat) : Int) ≤ room) :
  log_Log_Put.f K b a d la room = some (0, behS K a b, d ++ entS K a b) := by
 have hp := hb.pos
 have hl := hb.2.1
 have hn := numS_len (n := b.length) (by omega)
 have he := entS_len K a (b := b)
 unfold log_Log_Put.f
 rw [bif_false (dec_f (by omega)), bif_false (dec_f (by omega)), laid_eq hK (by omega) ha]
 simp only [Option.bind_some]
 unfold disk_Disk_Write.f
 rw [wrap64 (by omega) (by omega), bif_false (dec_f (by omega)), catI_ok (by omega)]
 simp only [Option.bind_some]
 rw [bif_false (by simp), beh_eq hK (by omega) ha]
 rfl
theorem append_eq {K : Nat} (hK : 1000000000000 ≤ K) {b d : List Int} {a : At} (hb : okE b) (ha : cntA a 1) {la room : Int} (hd : d.length < 1000000) (hr : room < 1000000) (hroom : ((d.length + (entS K a b).length : Nat) : Int) ≤ room) :
  log_Log_Append.f K b a d la room = some (0, behS K a b, d ++ entS K a b, ((d ++ entS K a b).length : Int)) := by
 unfold log_Log_Append.f
 rw [put_eq hK hb ha hd hr hroom]
 rfl
theorem put_nil {K : Nat} {d : List Int} {a : At} {la room : Int} : log_Log_Put.f K [] a d la room = some (1, a, d) := rfl
theorem append_nil {K : Nat} {d : List Int} {a : At} {la room : Int} : log_Log_Append.f K [] a d la room = some (1, a, d, la) := rfl
theorem entS_le {K : Nat} {a : At} {b : List Int} (h : b.length ≤ 2000) : (entS K a b).length ≤ b.length + 13 := by
 have hn := numS_len (n := b.length) (by omega)
 have he := entS_len K a (b := b)
 omega
theorem new_eq {K : Nat} {n : Int} (h1 : 1 ≤ n) (h2 : n ≤ 65536) : disk_New.f K n = some ([], 0, n) := by
 unfold disk_New.f
 simp only [jn]
 rw [bif_false (dec_f (by omega)), bif_false (dec_f (by omega))]
theorem open_new {K : Nat} (hK : 1000000000000 ≤ K) (la room : Int) : log_Open.f K [] la room = some ([], 0, [], 0, a0) :=
 open_eq' hK (l := []) (T := []) isB_nil (by simp) rfl (by simp [okL]) (noEnt_nil K _) la room
end Go.Proofs.YthnfokfankaenaaDoor
