/-
  The library's slices.Reverse of numbers as a mutator (a part of Vm17: import the one or the other). No program is named here.
-/
import Derived.Test.YtdlpbedneamebaaGreatDoorVmO
import Derived.Shelf.Slices.Reverse
import Derived.Lib.OwnBridge
set_option linter.unusedSectionVars false
namespace Go.VM
open Go.Sort Go.Lib Go.Proofs Go.Shelf Go.RowKit
variable [Glob]
def toInts : List V → Option (List Int)
  | [] => some []
  | .i .i64 n :: r => (toInts r).map (n :: ·)
  | _ => none
abbrev ints (l : List Int) : List V := encL (V.i .i64) l
@[simp] theorem toInts_ints (l : List Int) : toInts (ints l) = some l := by
  induction l with
  | nil => rfl
  | cons x l ih => simp only [ints, encL_cons, toInts] at ih ⊢; rw [ih]; rfl
theorem toInts_eq : ∀ {es : List V} {zs : List Int}, toInts es = some zs → es = ints zs
  | [], zs, h => by simp only [toInts, Option.some.injEq] at h; subst h; rfl
  | x :: r, zs, h => by
    unfold toInts at h
    split at h
    · rename_i he; cases he
    · rename_i n r' he
      cases he
      cases hr : toInts r with
      | none => rw [hr] at h; cases h
      | some ys =>
        rw [hr] at h
        simp only [Option.map_some, Option.some.injEq] at h
        subst h
        rw [toInts_eq hr]
        simp [ints, encL_cons]
    · cases h
def revRun (es xs : List V) : Option (List V) := match xs with
  | [] => (toInts es).bind fun zs => if zs.length ≤ 1000000 then some (ints zs.reverse) else none
  | _ => none
section
variable {P : Program} {S : Nat → Prop} {w : World} {e : TypeId}
theorem flatc_ints (zs : List Int) : flatc (ints zs) = ints zs := by
  induction zs with
  | nil => rfl
  | cons x l ih => rw [ints, encL_cons, flatc_cons]; rw [ints] at ih; rw [ih]; rfl
theorem reps_ints : ∀ {vs : List Value} {zs : List Int}, Reps S w vs (ints zs) → vs = zs.map (Value.int .i64)
  | [], [], _ => rfl
  | [], _ :: _, h => absurd h.1 (by simp)
  | _ :: _, [], h => absurd h.1 (by simp)
  | v :: vs, z :: zs, h => by
    rw [ints, encL_cons] at h
    have h1 := h.head
    have h2 := reps_ints (zs := zs) h.tail
    rw [List.map_cons, ← h2]
    cases h1; rfl
theorem ints_reps (zs : List Int) : Reps S w (zs.map (Value.int .i64)) (ints zs) := by
  induction zs with
  | nil => exact Reps.nil
  | cons z zs ih => rw [ints, encL_cons, List.map_cons]; exact Reps.cons (.i .i64 z) ih
theorem ints_cells (hc : P.cellsOf e = 1) (zs : List Int) : ∀ x ∈ ints zs, x.cells.length = P.cellsOf e := fun x hx => by
  obtain ⟨n, _, rfl⟩ := List.mem_map.1 hx
  rw [hc]; rfl
theorem ints_cell (zs : List Int) : ∀ x ∈ flatc (ints zs), x.cell = true := fun x hx => by
  rw [flatc_ints] at hx
  obtain ⟨n, _, rfl⟩ := List.mem_map.1 hx
  rfl
theorem len_ints (zs : List Int) : (ints zs).length = zs.length := by simp [ints]
theorem nums_PFM {f : FuncId} {nl ret : Bool} (hc : P.cellsOf e = 1) {zs ys : List Int}
    (h0 : zs = [] → ∀ w, Calls P f #[.slice none 0 0] w fun ex w' => ys = [] ∧ ex = .returned (if ret = true then .slice none 0 0 else .tuple #[]) ∧ w' = w)
    (h1 : ∀ (w : World) (base g cap : Nat), w.ownsRow base e 1 (.slice (some ⟨g, 0, none⟩) zs.length cap) zs.length (zs.map (Value.int .i64)) → base ≤ g → g < w.heap.size → zs.length ≤ cap → Holds (Value.int .i64) w g 0 zs.toArray →
      Calls P f #[.slice (some ⟨g, 0, none⟩) zs.length cap] w fun ex w' => ex = .returned (if ret = true then .slice (some ⟨g, 0, none⟩) ys.length cap else .tuple #[]) ∧ (ret = false → ys.length = zs.length) ∧ w.grownBy w' (some g) ∧ w'.ownsRow base e 1 (.slice (some ⟨g, 0, none⟩) ys.length cap) ys.length (ys.map (Value.int .i64))) :
    PFM P f e ret nl (ints zs) [] (ints ys) := by
  intro S w base u vs us hS hG hB hown hk hcl hr hng hus _
  have hus0 : us = [] := List.eq_nil_of_length_eq_zero hus.1
  subst hus0
  rw [flatc_ints] at hr
  have hvs := reps_ints hr
  subst hvs
  rw [len_ints, hc] at hown
  by_cases hnn : u = .slice none 0 0
  · subst hnn
    have hz0 : zs = [] := by
      have := hown.1
      rcases hown.2 with ⟨_, h⟩ | ⟨g, cap, cur, h, _⟩
      · exact List.eq_nil_of_length_eq_zero h
      · cases h
    refine (h0 hz0 w).mono fun ex w' ⟨hy, he, hw⟩ => ?_
    subst hw hy
    refine ⟨_, .slice none 0 0, [], he, ⟨rfl, rfl, rfl, Nat.le_refl _, fun _ _ _ => rfl⟩, .inl rfl, World.ownsRow_nil w' base e _, ints_cells hc [], ints_cell [], Reps.nil, ?_⟩
    cases ret <;> simp
  · obtain ⟨g, cap, hu, hbg, hgl, hncap, _, _, hH⟩ := Lib.holds_of_ownsRow hown hnn
    subst hu
    refine (h1 w base g cap hown hbg hgl hncap hH).mono fun ex w' ⟨he, hl, hg, ho⟩ => ?_
    refine ⟨_, .slice (some ⟨g, 0, none⟩) ys.length cap, ys.map (Value.int .i64), he, hg, .inl rfl, ?_, ints_cells hc _, ints_cell _, by rw [flatc_ints]; exact ints_reps _, ?_⟩
    · rw [len_ints, hc]; exact ho
    · cases ret with
      | true => simp
      | false => simp [hl rfl]
theorem grownBy_putRow {g q : Nat} (d : Array Int) : w.grownBy (putRow (Value.int .i64) (Sort.ahead w q) g 0 d) (some g) := by
  refine ⟨rfl, rfl, rfl, by simp [putRow, mapBlock, Sort.ahead], fun k hk hne => ?_⟩
  have : g ≠ k := fun e => hne (by rw [e])
  simp [putRow, mapBlock, Sort.ahead, Array.getElem?_modify, this]
theorem rev_PFM {ρ : Ren} (L : Lays.n112 P ρ) (hc : P.cellsOf e = 1) (es xs es' : List V) (h : revRun es xs = some es') : PFM P (ρ.f 112) e false false es xs es' := by
  unfold revRun at h
  split at h
  · cases hz : toInts es with
    | none => rw [hz] at h; cases h
    | some zs =>
      rw [hz] at h
      simp only [Option.bind_some] at h
      split at h
      · rename_i hsz
        simp only [Option.some.injEq] at h
        subst h
        have := toInts_eq hz
        subst this
        refine nums_PFM hc (fun hz0 w => ?_) fun w base g cap hown hbg hgl hncap hH => ?_
        · subst hz0
          exact (Any.slices_Reverse_int_empty L none 0 w).mono fun ex w' ⟨he, hw⟩ => ⟨rfl, he, hw⟩
        · refine (Any.slices_Reverse_int L g 0 cap zs w hH (by omega)).mono fun ex w' ⟨he, q, hw⟩ => ?_
          subst hw
          have hp := Lib.ownsRow_putRow (q := q) (k := zs.length) (ys := zs.reverse) hown (by simp) (Nat.le_refl _)
          rw [List.take_of_length_le (by simp)] at hp
          refine ⟨he, fun _ => by simp, grownBy_putRow _, ?_⟩
          rw [List.length_reverse]; exact hp
      · cases h
  · cases h
end
end Go.VM
/-
  What the mutating library functions do where they are run at fixed inputs, and a table of codes that is compiled as it is read. No program is named here.
-/
namespace Go.VM
variable [Glob]
def endRun (e : Nat) (es xs : List V) : Option (List V) := match xs with
  | [.i .i64 i, .ow e' [p]] => if e' = e ∧ i = es.length ∧ es.length ≤ 1000000 then some (es ++ [p]) else none
  | _ => none
def isTwo : List V → Bool
  | [.a [.i .i64 a, .i .i64 n, .s c], .a [.i .i64 b, .i .i64 m, .s d]] => decide (a = 101 ∧ n = 100000 ∧ c = [69, 85, 82] ∧ b = 1000 ∧ m = -100000 ∧ d = [69, 85, 82])
  | _ => false
def colRun (es xs : List V) : Option (List V) := match es, xs with
  | [], [.l ls] => if isTwo ls = true then some ls else none
  | _, _ => none
def keepRun (f : Nat) (es xs : List V) : Option (List V) := match xs with
  | [.f (.func g) [] []] => if g = f ∧ isTwo es = true then some es else none
  | _ => none
def pow10 : List V := (List.range 20).map fun k => .i .u64 (10 ^ k)
def tabP (P : Program) (l : List (Nat × FCode)) (f : Nat) : Option FCode := match tabOf l f with
  | some c => some c
  | none => if okFn P f = true then (P.funcs[f]?).bind (compile P) else none
theorem tabP_ok {P : Program} {l : List (Nat × FCode)} (h : ∀ p ∈ l, ∃ fn, P.funcs[p.1]? = some fn ∧ compile P fn = some p.2 ∧ okFn P p.1 = true) {f : Nat} {fc : FCode} (hf : tabP P l f = some fc) :
    ∃ fn, P.funcs[f]? = some fn ∧ compile P fn = some fc ∧ okFn P f = true := by
  unfold tabP at hf
  split at hf
  · rename_i c hc
    cases hf
    exact h _ (tabOf_mem hc)
  · split at hf
    · rename_i ho
      simp only [Option.bind_eq_some_iff] at hf
      obtain ⟨fn, h1, h2⟩ := hf
      exact ⟨fn, h1, h2, ho⟩
    · cases hf
end Go.VM
