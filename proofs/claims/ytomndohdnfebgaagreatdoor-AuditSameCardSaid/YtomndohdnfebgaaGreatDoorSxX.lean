/-
 Symbolic execution: contracts that come from printed proofs.
-/
import Derived.Test.YtomndohdnfebgaaGreatDoorSxR
namespace Go.Sep
section
variable {T : Tb} {P : Program} {G : List (Nat × Dy T)}
/-- a value of data -/
def agV (T : Tb) (t : Ty) (D : Snap) (x : den T.ty t) (v : Value) : Prop := bif agT t then ∃ c, (kdT T t).r D x c ∧ v = .agg c.toArray else (kdT T t).r D x [v]
def VU (T : Tb) (D : Snap) : (ts : List Ty) → TU T.ty ts → List Value → Prop
 | [], _, vs => vs = []
 | [t], x, vs => ∃ v, agV T t D x v ∧ vs = [v]
 | t :: t' :: ts, p, vs => ∃ v vs', agV T t D p.1 v ∧ VU T D (t' :: ts) p.2 vs' ∧ vs = v :: vs'
def dts : List Ty → Pt
 | [] => .nl
 | t :: ts => .cs (.dt t) (dts ts)
theorem VU_of {β : Nat → Option Nat} {D : Snap} {O : OwT T} : ∀ (ts : List Ty) (p : TU T.ty ts) (ds : List (Dy T)) (os : List (Nat × Pl)) (vs : List Value), PR β D O (dts ts) true ds os vs → ofU ts p = ds → os = [] ∧ VU T D ts p vs
 | [], _, _, _, _, ⟨_, h2, h3⟩, _ => ⟨h2, h3⟩
 | [t], x, ds, os, vs, ⟨d1, d2, o1, o2, v, c2, e1, e2, e3, h1, ⟨e4, e5, e6⟩⟩, hp => by
  subst e4 e5 e6 e1 e2 e3
  have key : ∀ {c : List Value}, PR β D O (.dt t) false d1 o1 c → o1 = [] ∧ (kdT T t).r D x c := fun ⟨y, h3, h4, h5⟩ => by
   subst h3
   simp only [ofU, List.append_nil, List.cons.injEq, and_true] at hp
   cases hp
   exact ⟨h4, h5⟩
  unfold VU agV
  have ha : agP (.dt t) = agT t := rfl
  rw [ha] at h1
  cases hb : agT t with
  | true =>
   rw [hb] at h1
   obtain ⟨c1, h3, h4⟩ := h1
   obtain ⟨h5, h6⟩ := key h3
   exact ⟨by simp [h5], v, ⟨c1, h6, h4⟩, rfl⟩
  | false =>
   rw [hb] at h1
   obtain ⟨h5, h6⟩ := key h1
   exact ⟨by simp [h5], v, h6, rfl⟩
 | t :: t' :: ts, p, ds, os, vs, ⟨d1, d2, o1, o2, v, c2, e1, e2, e3, h1, h2⟩, hp => by
  subst e1 e2 e3
  have key : ∀ {c : List Value}, PR β D O (.dt t) false d1 o1 c → o1 = [] ∧ (kdT T t).r D p.1 c ∧ ofU (t' :: ts) p.2 = d2 := fun ⟨y, h3, h4, h5⟩ => by
   subst h3
   have hp : (⟨t, p.1⟩ : Dy T) :: ofU (t' :: ts) p.2 = [⟨t, y⟩] ++ d2 := hp
   simp only [List.cons_append, List.nil_append, List.cons.injEq] at hp
   obtain ⟨h6, h7⟩ := hp
   cases h6
   exact ⟨h4, h5, h7⟩
  unfold VU agV
  have ha : agP (.dt t) = agT t := rfl
  rw [ha] at h1
  cases hb : agT t with
  | true =>
   rw [hb] at h1
   obtain ⟨c1, h3, h4⟩ := h1
   obtain ⟨h5, h6, h7⟩ := key h3
   obtain ⟨h8, h9⟩ := VU_of (t' :: ts) p.2 d2 o2 c2 h2 h7
   exact ⟨by simp [h5, h8], v, c2, ⟨c1, h6, h4⟩, h9, rfl⟩
  | false =>
   rw [hb] at h1
   obtain ⟨h5, h6, h7⟩ := key h1
   obtain ⟨h8, h9⟩ := VU_of (t' :: ts) p.2 d2 o2 c2 h2 h7
   exact ⟨by simp [h5, h8], v, c2, h6, h9, rfl⟩
/-- data are given, and one comes of it -/
theorem vok_glue {fid : FuncId} {ts : List Ty} {rt : Ty} {fn : TU T.ty ts → Option (den T.ty rt)}
  (hc : ∀ (g w0 : World) (D : Snap) (p : TU T.ty ts) (vals : List Value) (r : den T.ty rt), GlO G D → VU T D ts p vals → St g w0 D [] → fn p = some r →
   CallsIn (Fw none) 0 P fid vals.toArray w0 fun e w' => ∃ u, e = .returned u ∧ ∃ D', agV T rt D' r u ∧ Stp g w0 D [] w' D' [])
  (hfn : (P.funcs[fid]?).map (fun F => (F.name == "runtime.NumGoroutine", F.body.isNone)) = some (false, false)) :
  VOk P G ({ fid := fid, args := dts ts, blks := [], pt := ts, rt := [rt], fn := fn, res := .cs (.dt rt) .nl, out := [], new := [] } : FSp T) := by
 refine ⟨?_, hfn, rfl, fun _ hx => (by cases hx), fun _ hx => (by cases hx)⟩
 intro g w0 D β p dA dB oA oB vals Bs Qs r hG hp hA hB hidx hSt hr
 obtain ⟨e1, e2, e3⟩ : dB = [] ∧ oB = [] ∧ Bs = [] := hB
 subst e1 e2 e3
 have hp : ofU ts p = dA := by rw [hp, List.append_nil]
 obtain ⟨h1, h2⟩ := VU_of ts p dA oA vals hA hp
 subst h1
 have hq : Qs = [] := by
  have := congrArg List.length hidx
  simp at this
  exact List.eq_nil_of_length_eq_zero this.symm
 subst hq
 refine CallsIn.mono (hc g w0 D p vals r hG h2 hSt hr) fun e w' ⟨u, h3, D', h4, h5⟩ => ?_
 refine ⟨u, h3, D', β, [], [], [], [⟨rt, r⟩], [], [], [], [], [], [u], fun _ _ _ h => h, rfl, ⟨[⟨rt, r⟩], [], [], [], u, [], rfl, rfl, rfl, ?_, rfl, rfl, rfl⟩, rfl, ⟨rfl, rfl, rfl, rfl⟩, ⟨rfl, rfl, rfl⟩, rfl, h5⟩
 have ha : agP (.dt rt) = agT rt := rfl
 rw [ha]
 unfold agV at h4
 cases hb : agT rt with
 | true => rw [hb] at h4; obtain ⟨c, h6, h7⟩ := h4; exact ⟨c, ⟨r, rfl, rfl, h6⟩, h7⟩
 | false => rw [hb] at h4; exact ⟨r, rfl, rfl, h4⟩
/-- data are given, and a slice of its own comes of it -/
theorem vok_glueO {fid : FuncId} {ts : List Ty} {rt : Ty} {e : TypeId} {f : Bool} {fn : TU T.ty ts → Option (List (den T.ty rt))}
  (hc : ∀ (g w0 : World) (D : Snap) (p : TU T.ty ts) (vals : List Value) (r : List (den T.ty rt)), GlO G D → VU T D ts p vals → St g w0 D [] → fn p = some r →
   CallsIn (Fw none) 0 P fid vals.toArray w0 fun e' w' => ∃ u, e' = .returned u ∧ ∃ D' A cap q, u = .slice A r.length cap ∧ OwnX f (kdT T rt) e D' A cap r q ∧ Stp g w0 D [] w' D' [q])
  (hfn : (P.funcs[fid]?).map (fun F => (F.name == "runtime.NumGoroutine", F.body.isNone)) = some (false, false)) :
  VOk P G ({ fid := fid, args := dts ts, blks := [], pt := ts, rt := [.sl rt], fn := fn, res := .cs (.own rt e f) .nl, out := [], new := [] } : FSp T) := by
 refine ⟨?_, hfn, rfl, fun _ hx => (by cases hx), fun _ hx => (by cases hx)⟩
 intro g w0 D β p dA dB oA oB vals Bs Qs r hG hp hA hB hidx hSt hr
 obtain ⟨e1, e2, e3⟩ : dB = [] ∧ oB = [] ∧ Bs = [] := hB
 subst e1 e2 e3
 have hp : ofU ts p = dA := by rw [hp, List.append_nil]
 obtain ⟨h1, h2⟩ := VU_of ts p dA oA vals hA hp
 subst h1
 have hq : Qs = [] := by
  have := congrArg List.length hidx
  simp at this
  exact List.eq_nil_of_length_eq_zero this.symm
 subst hq
 refine CallsIn.mono (hc g w0 D p vals r hG h2 hSt hr) fun e' w' ⟨u, h3, D', A, cap, q, h4, h5, h6⟩ => ?_
 refine ⟨u, h3, D', β, [], [], [q], [⟨.sl rt, r⟩], [], [], [(0, .own A cap (List.length r))], [], [], [u], fun _ _ _ h => h, rfl, ⟨[⟨.sl rt, r⟩], [], [(0, .own A cap (List.length r))], [], u, [], rfl, rfl, rfl, ?_, rfl, rfl, rfl⟩, rfl, ⟨rfl, rfl, rfl, rfl⟩, ⟨rfl, rfl, rfl⟩, rfl, h6⟩
 exact ⟨r, 0, A, cap, rfl, rfl, by rw [h4], q, rfl, h5⟩
theorem VU_to {β : Nat → Option Nat} {D : Snap} {O : OwT T} : ∀ (ts : List Ty) (p : TU T.ty ts) (vs : List Value), VU T D ts p vs → PR β D O (dts ts) true (ofU ts p) [] vs
 | [], _, _, h => ⟨rfl, rfl, h⟩
 | [t], x, _, ⟨v, h1, e⟩ => by
  subst e
  refine ⟨[⟨t, x⟩], [], [], [], v, [], rfl, rfl, rfl, ?_, rfl, rfl, rfl⟩
  have ha : agP (.dt t) = agT t := rfl
  rw [ha]
  unfold agV at h1
  cases hb : agT t with
  | true => rw [hb] at h1; obtain ⟨c, h2, h3⟩ := h1; exact ⟨c, ⟨x, rfl, rfl, h2⟩, h3⟩
  | false => rw [hb] at h1; exact ⟨x, rfl, rfl, h1⟩
 | t :: t' :: ts, p, _, ⟨v, vs, h1, h2, e⟩ => by
  subst e
  refine ⟨[⟨t, p.1⟩], ofU (t' :: ts) p.2, [], [], v, vs, rfl, rfl, rfl, ?_, VU_to (t' :: ts) p.2 vs h2⟩
  have ha : agP (.dt t) = agT t := rfl
  rw [ha]
  unfold agV at h1
  cases hb : agT t with
  | true => rw [hb] at h1; obtain ⟨c, h3, h4⟩ := h1; exact ⟨c, ⟨p.1, rfl, rfl, h3⟩, h4⟩
  | false => rw [hb] at h1; exact ⟨p.1, rfl, rfl, h1⟩
theorem glo_nil {D : Snap} : GlO ([] : List (Nat × Dy T)) D := fun _ _ h => by cases h
theorem glo_cons {D : Snap} {n : Nat} {d : Dy T} {G : List (Nat × Dy T)} (h : Cell (kdT T d.t) D n 0 d.x) (h' : GlO G D) : GlO ((n, d) :: G) D := fun g d' hl => by
 simp only [lookA] at hl
 cases hb : Nat.beq n g with
 | true =>
  rw [hb] at hl
  obtain rfl := Nat.eq_of_beq_eq_true hb
  simp only [cond_true, Option.some.injEq] at hl
  subst hl
  exact h
 | false => rw [hb] at hl; exact h' g d' hl
/-- a law: data are given, a flag comes of it -/
theorem vok_row {fid : FuncId} (ts : List Ty) {fn : TU T.ty ts → Option Bool} {vs : List Value} {g w0 : World} {D : Snap} {p : TU T.ty ts} {r : Bool}
  (h : VOk P G ({ fid := fid, args := dts ts, blks := [], pt := ts, rt := [.bool], fn := fn, res := .cs (.dt .bool) .nl, out := [], new := [] } : FSp T)) (hf : fn p = some r) (hG : GlO G D) (hv : VU T D ts p vs) (hS : St g w0 D []) :
  CallsIn (Fw none) 0 P fid vs.toArray w0 fun e w' => ∃ v, e = .returned v ∧ ∃ D1, v = .bool r ∧ Stp g w0 D [] w' D1 [] := by
 refine (h.v g w0 D (fun _ => none) p (ofU ts p) [] [] [] vs [] [] r hG (by simp) (VU_to ts p vs hv) ⟨rfl, rfl, rfl⟩ rfl hS hf).mono fun e w' hh => ?_
 obtain ⟨v, e1, D', β', Bs', Ns, Qs', dR, dO, dN, oR, oO, oN, vs', h1, h2, h3, h4, h5, h6, h7, h8⟩ := hh
 obtain ⟨_, g2, g3, g4⟩ : dO = [] ∧ oO = [] ∧ ([] : List Blk) = [] ∧ Bs' = [] := h5
 obtain ⟨f1, f2, f3⟩ : dN = [] ∧ oN = [] ∧ Ns = [] := h6
 obtain ⟨d1, d2, o1, o2, u, c2, k1, k2, k3, k4, k5, k6, k7⟩ := h3
 subst k5 k6 k7
 obtain ⟨x, m1, m2, m3⟩ : ∃ x : Bool, d1 = [⟨.bool, x⟩] ∧ o1 = [] ∧ [u] = [.bool x] := k4
 subst g2 f2 m2 k2
 have hq : Qs' = [] := by
  have := congrArg List.length h7
  simp at this
  exact List.eq_nil_of_length_eq_zero this.symm
 subst hq g4 f3
 have h2 : [(⟨.bool, r⟩ : Dy T)] = dR ++ (dO ++ dN) := h2
 rename_i ea
 subst k1 m1 f1
 have hx : x = r := by
  simp only [List.append_nil, List.cons_append, List.nil_append] at h2
  injection h2 with z1 z2
  cases z1
  rfl
 subst hx
 refine ⟨v, e1, D', ?_, h8⟩
 rw [h4, k3]
 cases m3
 rfl
theorem vu_one {D : Snap} {t : Ty} {x : den T.ty t} {v : Value} (h : agV T t D x v) : VU T D [t] x [v] := ⟨v, h, rfl⟩
theorem vu_cons {D : Snap} {t t' : Ty} {ts : List Ty} {x : den T.ty t} {p : TU T.ty (t' :: ts)} {v : Value} {vs : List Value} (h : agV T t D x v) (h' : VU T D (t' :: ts) p vs) : VU T D (t :: t' :: ts) (x, p) (v :: vs) := ⟨v, vs, h, h', rfl⟩
theorem ag_v {D : Snap} {t : Ty} {x : den T.ty t} {v : Value} (hb : agT t = false) (h : (kdT T t).r D x [v]) : agV T t D x v := by unfold agV; rw [hb]; exact h
theorem ag_a {D : Snap} {t : Ty} {x : den T.ty t} {c : List Value} (hb : agT t = true) (h : (kdT T t).r D x c) : agV T t D x (.agg c.toArray) := by unfold agV; rw [hb]; exact ⟨c, h, rfl⟩
end
end Go.Sep
