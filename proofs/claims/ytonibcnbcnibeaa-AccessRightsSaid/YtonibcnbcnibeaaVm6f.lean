/-
  Calls, and slice literals. No program is named here.
-/
import Derived.Test.YtonibcnbcnibeaaVm6e
namespace Go.VM
open Go.RowKit

/-- What an operation comes to. -/
def Outc (P : Program) (r : Result Next) (K : Value → World → Prop) : Prop := match r with
  | .ok (.value v) w' => K v w'
  | .ok .skip w' => K undef w'
  | .ok (.enter f args) w' => Calls P f args w' fun e w'' => ∃ v, e = .returned v ∧ K v w''
  | _ => False

theorem Outc.wp {P : Program} {o : Oper} {a : Act} {w : World} {next : Act → World → Prop} {Q : Exit → Act → World → Prop}
    (h : Outc P ((execOp a.eval o).run P w) fun v w' => next (a.put o.dst v) w') : o.wp P a w next Q := by
  unfold Oper.wp
  generalize (execOp a.eval o).run P w = r at h
  unfold Outc at h
  split at h
  · exact h
  · exact h
  · exact h.mono fun e w'' ⟨v, he, hk⟩ => by subst he; exact hk
  · exact h.elim

def All (w : World) : Nat → Prop := fun b => b < w.heap.size
theorem All.below {w w' : World} {B : Nat} (hb : Below B w w') : ∀ b, All w b → All w' b := fun _ h => Nat.lt_of_lt_of_le h hb.size

section
variable {P : Program} {S : Nat → Prop} {w : World}

theorem callFunc_run {f : FuncId} (hf : okFn P f = true) (args : Array Value) (w' : World) : (callFunc f args).run P w' = .ok (.enter f args) w' := by
  unfold okFn at hf
  cases h : P.funcs[f]? with
  | none => rw [h] at hf; cases hf
  | some fn =>
    rw [h] at hf
    simp only [Bool.and_eq_true, bne_iff_ne, ne_eq] at hf
    obtain ⟨c, hc⟩ := Option.isSome_iff_exists.1 hf.2
    simp [callFunc, h, hf.1, hc]

theorem call_enter {o : Orc} (ho : SoundO P o) {oper : Oper} {ρ : Operand → Value} (hρ : ∀ f, ρ (.func f) = .func (.func f) #[] #[]) {f : FuncId} {args : Array Operand} {tys : Array TypeId} (hop : oper.op = .call { callee := .value (.func f), args := args, argTypes := tys })
    {zs : List V} {y : V} (hy : o f zs = some y) (w' : World) : (execOp ρ oper).run P w' = .ok (.enter f (args.map ρ)) w' := by
  have hk := (ho f zs y hy).1
  simp [execOp, hop, resolve, hρ, Deferred.ofValue, invoke, callFunc_run hk]

theorem callv_enter {o : Orc} (ho : SoundO P o) {oper : Oper} {ρ : Operand → Value} {x : Operand} {args : Array Operand} {tys : Array TypeId} (hop : oper.op = .call { callee := .value x, args := args, argTypes := tys })
    {vs : List V} {y : V} (hr : Reps S w (ρ x :: args.toList.map ρ) vs) (hy : callV o vs = some y) :
    ∃ f us zs, o f zs = some y ∧ Reps S w us zs ∧ ∀ w' : World, (execOp ρ oper).run P w' = .ok (.enter f us.toArray) w' := by
  match vs, hr, hy with
  | [], _, hy => simp [callV] at hy
  | v :: vs, hr, hy =>
    have h1 := hr.head
    have h2 := hr.tail
    cases v <;> simp only [callV, reduceCtorEq] at hy
    rename_i fn xs ys
    cases fn <;> simp only [reduceCtorEq] at hy
    rename_i f
    generalize hxv : ρ x = xv at h1
    cases h1 with
    | f _ fs cs _ _ hx' hy' hf hc =>
      have r1 : Reps S w fs.toList xs := ⟨by simpa using hx', fun j u x hu hx => hf j u x (by simpa using hu) hx⟩
      have r2 : Reps S w cs.toList ys := ⟨by simpa using hy', fun j u x hu hx => hc j u x (by simpa using hu) hx⟩
      have hk := (ho f _ y hy).1
      refine ⟨f, fs.toList ++ args.toList.map ρ ++ cs.toList, _, hy, (r1.append h2).append r2, fun w' => ?_⟩
      simp [execOp, hop, resolve, hxv, Deferred.ofValue, invoke, callFunc_run hk]

/-- What was returned, frozen, reads in every set that holds what it owns. -/
theorem Res1.frz {base : Nat} {v : Value} {y : V} (h : Res1 P S w base v y) {S' : Nat → Prop} (hS : ∀ b, S b → S' b) (hg : ∀ b, base ≤ b → b < w.heap.size → S' b) : Rep S' w v (frz y) := by
  cases y with
  | ow e es =>
    refine h.1.frz hS fun g hg' => ?_
    obtain ⟨vs, ⟨_, hv⟩, _⟩ := h.1
    rcases hv with ⟨rfl, _⟩ | ⟨g', cap, cur, rfl, hb, hh, _⟩
    · simp [blkOf] at hg'
    · simp only [blkOf, Option.some.injEq] at hg'
      subst hg'
      exact hg _ hb (Array.getElem?_eq_some_iff.1 hh).1
  | bx cs =>
    refine h.1.frz hS fun g hg' => ?_
    obtain ⟨g', vs, ty, rfl, hb, hh, _⟩ := h.1
    simp only [blkOf, Option.some.injEq] at hg'
    subst hg'
    exact hg _ hb (Array.getElem?_eq_some_iff.1 hh).1
  | al n => exact h.elim
  | pe a b c d => exact h.elim
  | pb a b c => exact h.elim
  | t ys => exact h.elim
  | ud => exact h.elim
  | _ => exact Rep.mono h hS

theorem Res.frzt {base : Nat} {v : Value} {y : V} (h : Res P S w base v y) {S' : Nat → Prop} (hS : ∀ b, S b → S' b) (hg : ∀ b, base ≤ b → b < w.heap.size → S' b) : Rep S' w v (frzt y) := by
  cases y with
  | t ys =>
    obtain ⟨us, rfl, hl, hh, _⟩ := h
    refine .t _ _ (by simpa using hl) fun j u x hu hx => ?_
    rw [List.getElem?_map] at hx
    cases hy : ys[j]? with
    | none => rw [hy] at hx; cases hx
    | some y =>
      rw [hy] at hx
      simp only [Option.map_some, Option.some.injEq] at hx
      subst hx
      exact (hh j u y (by simpa using hu) hy).frz hS hg
  | ow e es => exact Res1.frz (P := P) (y := .ow e es) h hS hg
  | bx cs => exact Res1.frz (P := P) (y := .bx cs) h hS hg
  | al n => exact h.elim
  | pe a b c d => exact h.elim
  | pb a b c => exact h.elim
  | ud => exact h.elim
  | _ => exact Rep.mono h hS
end
end Go.VM
