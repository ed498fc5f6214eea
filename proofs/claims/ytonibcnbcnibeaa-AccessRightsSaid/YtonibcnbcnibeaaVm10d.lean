/-
  What is known of functions, one after the other. No program is named here.
-/
import Derived.Test.YtonibcnbcnibeaaVm10c
namespace Go.VM
open Go.RowKit

/-- What is known, and one function more. -/
def add (o : Orc) (f : Nat) (s : List V → Option V) : Orc := fun g xs => if g = f then s xs else o g xs
def o0 : Orc := fun _ _ => none
@[simp] theorem add_same (o : Orc) (f : Nat) (s : List V → Option V) (xs : List V) : add o f s f xs = s xs := by simp [add]
theorem add_ne (o : Orc) {f g : Nat} (s : List V → Option V) (xs : List V) (h : g ≠ f) : add o f s g xs = o g xs := by simp [add, h]
theorem sound0 (P : Program) : SoundO P o0 := fun _ _ _ h => by simp [o0] at h

theorem SoundO.ext {P : Program} {o : Orc} (ho : SoundO P o) {f : Nat} (hok : okFn P f = true) {s : List V → Option V} (hs : ∀ xs y, s xs = some y → PF P f xs y) : SoundO P (add o f s) := by
  intro g xs y h
  unfold VM.add at h
  split at h
  · rename_i e; subst e; exact ⟨hok, hs xs y h⟩
  · exact ho g xs y h
/-- A function whose code the evaluator runs. -/
theorem SoundO.add {P : Program} {o : Orc} (ho : SoundO P o) {f : Nat} {fn : Func} (hf : P.funcs[f]? = some fn) (hok : okFn P f = true) {fc : FCode} (hc : compile P fn = some fc) {s : List V → Option V} (hs : ∀ xs y, s xs = some y → bodyV o fc xs = some y) : SoundO P (add o f s) :=
  ho.ext hok fun xs y h => body_sound ho hf hc (hs xs y h)
/-- The same of a function that calls itself: its calls are counted. -/
theorem SoundO.addR {P : Program} {o : Orc} (ho : SoundO P o) {f : Nat} {fn : Func} (hf : P.funcs[f]? = some fn) (hok : okFn P f = true) {fc : FCode} (hc : compile P fn = some fc) (s : Nat → List V → Option V) (h0 : ∀ xs, s 0 xs = none) (hs : ∀ n xs y, s (n + 1) xs = some y → bodyV (VM.add o f (s n)) fc xs = some y)
    {t : List V → Option V} (ht : ∀ xs y, t xs = some y → ∃ n, s n xs = some y) : SoundO P (VM.add o f t) := by
  have key : ∀ n, SoundO P (VM.add o f (s n)) := by
    intro n
    induction n with
    | zero => exact ho.ext hok fun xs y h => by rw [h0] at h; cases h
    | succ n ih => exact ho.ext hok fun xs y h => body_sound ih hf hc (hs n xs y h)
  refine ho.ext hok fun xs y h => ?_
  obtain ⟨n, hn⟩ := ht xs y h
  exact ((key n) f xs y (by simp [hn])).2
end Go.VM
