/-
 A function that defers one closure which calls recover, left by a plain return.
 Conditions: none; nothing is claimed here.
-/
import Derived.Test.YtjgaokcplofimaaDoorSepN
import Derived.RecoverIn
set_option linter.unusedVariables false
namespace Go.Sep
open Go
section
variable {P : Program} {ops : Array Oper} {Q : Exit → Act → World → Prop} {a : Act} {w : World} {n : Nat} {ds : List Deferred} {E : List (Nat × Value)}
/-- the closure is laid upon the frame's deferred calls -/
theorem op_defer {i : Nat} {o : Oper} {x : Operand} {ts : Array TypeId} {f : FuncId} {cap : Array Value} {C : Act → World → Prop} (ho : ops[i]? = some o) (hop : o.op = .defer { callee := .value x, args := #[], argTypes := ts }) (hg : guardOf ops E o = some true) (hd : o.dst = none) (hE : Env a n ds E)
  (hx : evalO E x = some (.func (.func f) #[] cap)) (k : ∀ a', Env a' n ({ target := .fn (.func f) cap, args := #[] } :: ds) E → C a' w) : Op1 P none ops Q i C a w := by
 have hw := wanted_of (ops := ops) hE hg
 simp only [Op1, wpOpIn, ho, hw, if_true, Oper.wpIn]
 refine ⟨fun _ _ => trivial, ?_⟩
 have hr : (o.semAt (Fw none).round a.eval).run P w = .ok (.defer { target := .fn (.func f) cap, args := #[] }) w := by
  show (execOp a.eval o).run P w = _
  simp [execOp, hop, resolve, hE.eval hx, Deferred.ofValue]
 rw [hr]
 show C _ w
 refine k _ ?_
 rw [hd]
 exact ⟨hE.size, by show _ :: a.defers = _; rw [hE.ds], hE.at_⟩
theorem calls_bodyD {f : FuncId} {fn : Func} {c : Code} {args : List Value} {R : Ending → World → Prop} (hf : P.funcs[f]? = some fn) (hb : fn.body = some c) (hn : fn.ntmps = n) (hle : Nat.ble args.length n = true)
  (h : ∀ a, Env a n [] (argE 0 args) → c.wpIn (Fw none) 0 P (bodyPostDIn (Fw none) 0 P fn R) a w) : CallsIn (Fw none) 0 P f args.toArray w R := by
 refine callsIn_of_wp_defers hf hb trivial (h _ ⟨?_, rfl, ?_⟩)
 ·have := Nat.le_of_ble_eq_true hle
  simp [hn]; omega
 ·intro t v hv
  obtain ⟨_, h2⟩ := look_argE args 0 t v hv
  simp only [Nat.sub_zero] at h2
  have hlt := (List.getElem?_eq_some_iff.1 h2).1
  rw [Array.getElem?_append_left (by simpa using hlt)]
  simpa using h2
theorem ret_def {fn : Func} {R : Ending → World → Prop} {f : FuncId} {cap : Array Value} (vs : List Value) (hE : Env a n [{ target := .fn (.func f) cap, args := #[] }] E) (hfn : (P.funcs[f]?).map (fun F => (F.name == "runtime.NumGoroutine", F.body.isNone)) = some (false, false))
  (hc : CallsDIn (Fw none) 0 P f cap .returning w fun e u' w' => e = .returned (.tuple #[]) ∧ u' = .returning ∧ w' = w) (h : ResOk P E w fn.results.toList vs) (hR : R (.returned (retV vs)) w) : bodyPostDIn (Fw none) 0 P fn R .ret a w := by
 show LeavesIn (Fw none) 0 P fn a.tmps R a.defers .returning w
 rw [hE.ds]
 obtain ⟨F, hF, hF2⟩ := Option.map_eq_some_iff.1 hfn
 simp only [Prod.mk.injEq] at hF2
 have h1 : ¬ F.name = "runtime.NumGoroutine" := by simpa using hF2.1
 have h2 : F.body ≠ none := by intro e; rw [e] at hF2; simp at hF2
 refine leavesIn_cons (f := f) (args := cap) (by simp) (by intro h; cases h) (by simp [invoke, callFunc, hF, h1, h2]) (fun _ _ => trivial) (hc.mono ?_)
 rintro e u' w' ⟨rfl, rfl, rfl⟩
 show LeavesIn (Fw none) 0 P fn a.tmps R [] (settle .returning) w'
 exact ⟨_, results_run hE h, hR⟩
end
section
variable {P : Program} {ops : Array Oper} {Q : Exit → Act → List Frame → World → Prop} {a : Act} {cs : List Frame} {w : World} {n : Nat} {ds : List Deferred} {E : List (Nat × Value)}
theorem opsS_tk {i : Nat} {rest : List Nat} (hE : Env a n ds E) (h : Tk P ops (Keeps []) i n ds E a w (fun a => wpOpsSIn (Fw none) 0 P ops Q rest a cs w)) : wpOpsSIn (Fw none) 0 P ops Q (i :: rest) a cs w := by
 obtain ⟨o, v, ho, hd, hnd, hy, k⟩ := h
 simp only [wpOpsSIn, ho]
 refine ⟨fun _ _ => trivial, ?_⟩
 rcases hy w (Keeps.refl _ _) with ⟨hw, hv⟩ | ⟨hw, rfl⟩
 ·rw [if_pos hw, hv]
  exact k _ (hE.put hd v)
 ·rw [if_neg (by rw [hw]; simp)]
  exact k _ (hE.put hd undef)
theorem opsS_recover {i d : Nat} {o : Oper} {ts : Array TypeId} {rest : List Nat} (ho : ops[i]? = some o) (hop : o.op = .call { callee := .builtin .recover, args := #[], argTypes := ts }) (hg : guardOf ops E o = some true) (hd : o.dst = some d) (hE : Env a n ds E) (hn : Nat.blt d n = true)
  (hr : recoverD cs = none) (k : ∀ a', Env a' n ds ((d, .nilIface) :: E) → wpOpsSIn (Fw none) 0 P ops Q rest a' cs w) : wpOpsSIn (Fw none) 0 P ops Q (i :: rest) a cs w := by
 have hw := wanted_of (ops := ops) hE hg
 have hx : (execOp a.eval o).run P w = .ok .recover w := by
  simp [execOp, hop, resolve, invoke, builtin]
 simp only [wpOpsSIn, ho]
 refine ⟨fun _ _ => trivial, ?_⟩
 rw [if_pos hw, hx]
 simp only [hr]
 have := hE.put (d := some d) (by simp [dstOk, hn]) .nilIface
 rw [hd]
 exact k _ this
theorem callsD_bodyS {f : FuncId} {fn : Func} {c : Code} {args : List Value} {u : FrameMode} {R : Ending → FrameMode → World → Prop} (hf : P.funcs[f]? = some fn) (hb : fn.body = some c) (hn : fn.ntmps = n) (hle : Nat.ble args.length n = true)
  (h : ∀ (c₀ : Frame) (cs : List Frame) a, c₀.mode = u → Env a n [] (argE 0 args) → c.wpSIn (Fw none) 0 P (bodyPostS P fn c₀ cs R) a (c₀ :: cs) w) : CallsDIn (Fw none) 0 P f args.toArray u w R := by
 refine callsDIn_of_wpSIn hf hb trivial (fun c₀ cs hu => h c₀ cs _ hu ⟨?_, rfl, ?_⟩)
 ·have := Nat.le_of_ble_eq_true hle
  simp [hn]; omega
 ·intro t v hv
  obtain ⟨_, h2⟩ := look_argE args 0 t v hv
  simp only [Nat.sub_zero] at h2
  have hlt := (List.getElem?_eq_some_iff.1 h2).1
  rw [Array.getElem?_append_left (by simpa using hlt)]
  simpa using h2
theorem regS {id : Nat} {l : List Nat} (hs : List.range ops.size = l) (h : wpOpsSIn (Fw none) 0 P ops Q l a cs w) : (Code.region id ops false).wpSIn (Fw none) 0 P Q a cs w := wpSIn_region (by rw [hs]; exact h)
end
end Go.Sep
