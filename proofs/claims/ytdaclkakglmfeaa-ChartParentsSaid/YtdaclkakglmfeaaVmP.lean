/-
  The library's functions that write into a slice of numbers of the call's own: slices.Sort, slices.Compact, slices.Grow (of the nil slice), slices.Reverse. No program is named here.
-/
import Derived.Test.YtdaclkakglmfeaaVmO
import Derived.Shelf.Sort.Plain
import Derived.Shelf.Slices.CompactI
import Derived.Shelf.Slices.Reverse
import Derived.Shelf.Slices.In.SortNone
import Derived.Shelf.Spec.SlicesGrow
import Derived.Sort.OwnSortedInts
import Derived.Lib.OwnBridge
set_option linter.unusedSectionVars false
namespace Go.VM
open Go.Sort Go.Lib Go.Proofs Go.Shelf Go.RowKit
variable [Glob]
def toInts : List V → Option (List Int)
  | [] => some []
  | .i .i64 n :: r => (toInts r).map (n :: ·)
  | _ => none
abbrev ints (l : List Int) : List V := encL (V.i .i64) l
@[simp] theorem toInts_ints (l : List Int) : toInts (ints l) = some l := by
  induction l with
  | nil => rfl
  | cons x l ih => simp only [ints, encL_cons, toInts] at ih ⊢; rw [ih]; rfl
theorem toInts_eq : ∀ {es : List V} {zs : List Int}, toInts es = some zs → es = ints zs
  | [], zs, h => by simp only [toInts, Option.some.injEq] at h; subst h; rfl
  | x :: r, zs, h => by
    unfold toInts at h
    split at h
    · rename_i he; cases he
    · rename_i n r' he
      cases he
      cases hr : toInts r with
      | none => rw [hr] at h; cases h
      | some ys =>
        rw [hr] at h
        simp only [Option.map_some, Option.some.injEq] at h
        subst h
        rw [toInts_eq hr]
        simp [ints, encL_cons]
    · cases h
def ins1i (x : Int) : List Int → List Int
  | [] => [x]
  | y :: r => if x ≤ y then x :: y :: r else y :: ins1i x r
def isort : List Int → List Int
  | [] => []
  | x :: r => ins1i x (isort r)
theorem ins1i_perm (x : Int) : ∀ l, (ins1i x l).Perm (x :: l)
  | [] => .refl _
  | y :: r => by
    unfold ins1i
    split
    · exact .refl _
    · exact ((ins1i_perm x r).cons y).trans (.swap x y r)
theorem isort_perm : ∀ l, (isort l).Perm l
  | [] => .refl _
  | x :: r => (ins1i_perm x _).trans ((isort_perm r).cons x)
theorem ins1i_sorted (x : Int) : ∀ l : List Int, l.Pairwise (· ≤ ·) → (ins1i x l).Pairwise (· ≤ ·)
  | [], _ => by simp [ins1i]
  | y :: r, h => by
    unfold ins1i
    have h' := List.pairwise_cons.1 h
    split
    · refine List.pairwise_cons.2 ⟨fun z hz => ?_, h⟩
      rcases List.mem_cons.1 hz with rfl | hz
      · assumption
      · have := h'.1 z hz; omega
    · refine List.pairwise_cons.2 ⟨fun z hz => ?_, ins1i_sorted x r h'.2⟩
      rcases List.mem_cons.1 ((ins1i_perm x r).mem_iff.1 hz) with rfl | hz
      · omega
      · exact h'.1 z hz
theorem isort_sorted : ∀ l : List Int, (isort l).Pairwise (· ≤ ·)
  | [] => by simp [isort]
  | x :: r => ins1i_sorted x _ (isort_sorted r)
theorem isort_eq (l : List Int) : isort l = l.mergeSort fun x y => decide (x ≤ y) := by
  refine List.Perm.eq_of_pairwise (le := fun x y => decide (x ≤ y)) (fun a b _ _ h1 h2 => ?_) ?_ ?_ ((isort_perm l).trans (List.mergeSort_perm l _).symm)
  · simp only [decide_eq_true_eq] at h1 h2; omega
  · exact (isort_sorted l).imp fun h => by simpa using h
  · exact List.pairwise_mergeSort (fun a b c h1 h2 => by simp only [decide_eq_true_eq] at *; omega) (fun a b => by simp only [Bool.or_eq_true, decide_eq_true_eq]; omega) l
def sortRun (es xs : List V) : Option (List V) := match xs with
  | [] => (toInts es).bind fun zs => if zs.length ≤ 1000000 then some (ints (isort zs)) else none
  | _ => none
def compRun (es xs : List V) : Option (List V) := match xs with
  | [] => (toInts es).bind fun zs => if zs.length ≤ 1000000 then some (ints (Lib.compact zs)) else none
  | _ => none
def revRun (es xs : List V) : Option (List V) := match xs with
  | [] => (toInts es).bind fun zs => if zs.length ≤ 1000000 then some (ints zs.reverse) else none
  | _ => none
def growRun (es xs : List V) : Option (List V) := match es, xs with
  | [], [.i .i64 n] => if 0 ≤ n ∧ n ≤ 1000000 then some [] else none
  | _, _ => none
section
variable {P : Program} {S : Nat → Prop} {w : World} {e : TypeId}
theorem flatc_ints (zs : List Int) : flatc (ints zs) = ints zs := by
  induction zs with
  | nil => rfl
  | cons x l ih => rw [ints, encL_cons, flatc_cons]; rw [ints] at ih; rw [ih]; rfl
theorem reps_ints : ∀ {vs : List Value} {zs : List Int}, Reps S w vs (ints zs) → vs = zs.map (Value.int .i64)
  | [], [], _ => rfl
  | [], _ :: _, h => absurd h.1 (by simp)
  | _ :: _, [], h => absurd h.1 (by simp)
  | v :: vs, z :: zs, h => by
    rw [ints, encL_cons] at h
    have h1 := h.head
    have h2 := reps_ints (zs := zs) h.tail
    rw [List.map_cons, ← h2]
    cases h1; rfl
theorem ints_reps (zs : List Int) : Reps S w (zs.map (Value.int .i64)) (ints zs) := by
  induction zs with
  | nil => exact Reps.nil
  | cons z zs ih => rw [ints, encL_cons, List.map_cons]; exact Reps.cons (.i .i64 z) ih
theorem ints_cells (hc : P.cellsOf e = 1) (zs : List Int) : ∀ x ∈ ints zs, x.cells.length = P.cellsOf e := fun x hx => by
  obtain ⟨n, _, rfl⟩ := List.mem_map.1 hx
  rw [hc]; rfl
theorem ints_cell (zs : List Int) : ∀ x ∈ flatc (ints zs), x.cell = true := fun x hx => by
  rw [flatc_ints] at hx
  obtain ⟨n, _, rfl⟩ := List.mem_map.1 hx
  rfl
theorem len_ints (zs : List Int) : (ints zs).length = zs.length := by simp [ints]
/-- What all four share: the elements are numbers. -/
theorem nums_PFM {f : FuncId} {nl ret : Bool} (hc : P.cellsOf e = 1) {zs ys : List Int}
    (h0 : zs = [] → ∀ w, Calls P f #[.slice none 0 0] w fun ex w' => ys = [] ∧ ex = .returned (if ret = true then .slice none 0 0 else .tuple #[]) ∧ w' = w)
    (h1 : ∀ (w : World) (base g cap : Nat), w.ownsRow base e 1 (.slice (some ⟨g, 0, none⟩) zs.length cap) zs.length (zs.map (Value.int .i64)) → base ≤ g → g < w.heap.size → zs.length ≤ cap → Holds (Value.int .i64) w g 0 zs.toArray →
      Calls P f #[.slice (some ⟨g, 0, none⟩) zs.length cap] w fun ex w' => ex = .returned (if ret = true then .slice (some ⟨g, 0, none⟩) ys.length cap else .tuple #[]) ∧ (ret = false → ys.length = zs.length) ∧ w.grownBy w' (some g) ∧ w'.ownsRow base e 1 (.slice (some ⟨g, 0, none⟩) ys.length cap) ys.length (ys.map (Value.int .i64))) :
    PFM P f e ret nl (ints zs) [] (ints ys) := by
  intro S w base u vs us hS hG hB hown hk hcl hr hng hus _
  have hus0 : us = [] := List.eq_nil_of_length_eq_zero hus.1
  subst hus0
  rw [flatc_ints] at hr
  have hvs := reps_ints hr
  subst hvs
  rw [len_ints, hc] at hown
  by_cases hnn : u = .slice none 0 0
  · subst hnn
    have hz0 : zs = [] := by
      have := hown.1
      rcases hown.2 with ⟨_, h⟩ | ⟨g, cap, cur, h, _⟩
      · exact List.eq_nil_of_length_eq_zero h
      · cases h
    refine (h0 hz0 w).mono fun ex w' ⟨hy, he, hw⟩ => ?_
    subst hw hy
    refine ⟨_, .slice none 0 0, [], he, ⟨rfl, rfl, rfl, Nat.le_refl _, fun _ _ _ => rfl⟩, .inl rfl, World.ownsRow_nil w' base e _, ints_cells hc [], ints_cell [], Reps.nil, ?_⟩
    cases ret <;> simp
  · obtain ⟨g, cap, hu, hbg, hgl, hncap, _, _, hH⟩ := Lib.holds_of_ownsRow hown hnn
    subst hu
    refine (h1 w base g cap hown hbg hgl hncap hH).mono fun ex w' ⟨he, hl, hg, ho⟩ => ?_
    refine ⟨_, .slice (some ⟨g, 0, none⟩) ys.length cap, ys.map (Value.int .i64), he, hg, .inl rfl, ?_, ints_cells hc _, ints_cell _, by rw [flatc_ints]; exact ints_reps _, ?_⟩
    · rw [len_ints, hc]; exact ho
    · cases ret with
      | true => simp
      | false => simp [hl rfl]
theorem sort_PFM {ρ : Ren} (L : Lays.n189 P ρ) (hc : P.cellsOf e = 1) (es xs es' : List V) (h : sortRun es xs = some es') : PFM P (ρ.f 189) e false false es xs es' := by
  unfold sortRun at h
  split at h
  · cases hz : toInts es with
    | none => rw [hz] at h; cases h
    | some zs =>
      rw [hz] at h
      simp only [Option.bind_some] at h
      split at h
      · rename_i hsz
        simp only [Option.some.injEq] at h
        subst h
        have := toInts_eq hz
        subst this
        have hlen : (isort zs).length = zs.length := (isort_perm zs).length_eq
        refine nums_PFM hc (fun hz0 w => ?_) fun w base g cap hown hbg hgl hncap hH => ?_
        · subst hz0
          exact (Any.slices_Sort_int_none L none 0 w).mono fun ex w' ⟨he, hw⟩ => ⟨rfl, he, hw⟩
        · refine (Any.slices_Sort_int L g 0 cap zs w hH hgl (by omega)).mono fun ex w' ⟨he, nn, os, hw⟩ => ?_
          subst hw
          rw [← isort_eq]
          rcases hown.2 with ⟨h0, _⟩ | ⟨g', cap', cur, hv, hbase, hb, h1, h2, h3, h4⟩
          · cases h0
          cases hv
          have hs := ownsRow_sortedI (n := nn) (os := os) (ts := isort zs) hlen hbase hb h1 h2 h3
          rw [hlen]
          exact ⟨he, fun _ => rfl, grownBy_sortedI _, hs⟩
      · cases h
  · cases h
theorem grownBy_putRow {g q : Nat} (d : Array Int) : w.grownBy (putRow (Value.int .i64) (Sort.ahead w q) g 0 d) (some g) := by
  refine ⟨rfl, rfl, rfl, by simp [putRow, mapBlock, Sort.ahead], fun k hk hne => ?_⟩
  have : g ≠ k := fun e => hne (by rw [e])
  simp [putRow, mapBlock, Sort.ahead, Array.getElem?_modify, this]
theorem comp_PFM {ρ : Ren} (L : Lays2.n20 P ρ) (hc : P.cellsOf e = 1) (es xs es' : List V) (h : compRun es xs = some es') : PFM P (ρ.f 20) e true false es xs es' := by
  unfold compRun at h
  split at h
  · cases hz : toInts es with
    | none => rw [hz] at h; cases h
    | some zs =>
      rw [hz] at h
      simp only [Option.bind_some] at h
      split at h
      · rename_i hsz
        simp only [Option.some.injEq] at h
        subst h
        have := toInts_eq hz
        subst this
        have hle := Lib.compact_length_le zs
        refine nums_PFM hc (fun hz0 w => ?_) fun w base g cap hown hbg hgl hncap hH => ?_
        · subst hz0
          exact (Any.slices_Compact_int_empty L none 0 w).mono fun ex w' ⟨he, hw⟩ => ⟨rfl, he, hw⟩
        · refine (Any.slices_Compact_int L g 0 cap zs w hH (by omega) hncap).mono fun ex w' ⟨he, q, hw⟩ => ?_
          subst hw
          have hp := Lib.ownsRow_putRow (q := q) (k := (Lib.compact zs).length) (ys := Lib.compact zs ++ List.replicate (zs.length - (Lib.compact zs).length) 0) hown (by simp; omega) hle
          rw [List.take_left] at hp
          exact ⟨he, (fun h : true = false => absurd h (by simp)), grownBy_putRow _, hp⟩
      · cases h
  · cases h
theorem rev_PFM {ρ : Ren} (L : Lays.n112 P ρ) (hc : P.cellsOf e = 1) (es xs es' : List V) (h : revRun es xs = some es') : PFM P (ρ.f 112) e false false es xs es' := by
  unfold revRun at h
  split at h
  · cases hz : toInts es with
    | none => rw [hz] at h; cases h
    | some zs =>
      rw [hz] at h
      simp only [Option.bind_some] at h
      split at h
      · rename_i hsz
        simp only [Option.some.injEq] at h
        subst h
        have := toInts_eq hz
        subst this
        refine nums_PFM hc (fun hz0 w => ?_) fun w base g cap hown hbg hgl hncap hH => ?_
        · subst hz0
          exact (Any.slices_Reverse_int_empty L none 0 w).mono fun ex w' ⟨he, hw⟩ => ⟨rfl, he, hw⟩
        · refine (Any.slices_Reverse_int L g 0 cap zs w hH (by omega)).mono fun ex w' ⟨he, q, hw⟩ => ?_
          subst hw
          have hp := Lib.ownsRow_putRow (q := q) (k := zs.length) (ys := zs.reverse) hown (by simp) (Nat.le_refl _)
          rw [List.take_of_length_le (by simp)] at hp
          refine ⟨he, fun _ => by simp, grownBy_putRow _, ?_⟩
          rw [List.length_reverse]; exact hp
      · cases h
  · cases h
theorem grow_PFM {ρ : Ren} (L : Lays8.n4 P ρ) {i0 : TypeInfo} {z : Value} (hi0 : P.info? (ρ.t 25) = some i0) (hz0 : i0.zero = some z) (hs0 : i0.size = 1) (hzs : z.cells.size = 1) (hb0 : i0.bytes ≤ 80) (es xs es' : List V) (h : growRun es xs = some es') : PFM P (ρ.f 4) (ρ.t 25) true true es xs es' := by
  have hc : P.cellsOf (ρ.t 25) = 1 := by simp [Program.cellsOf, hi0, hs0]
  unfold growRun at h
  split at h
  · rename_i n
    split at h
    · rename_i hn
      simp only [Option.some.injEq] at h
      subst h
      intro S w base u vs us hS hG hB hown hk hcl hr hng hus hnl
      have hu := hnl rfl
      subst hu
      obtain ⟨m, rfl⟩ : ∃ m : Nat, n = m := ⟨n.toNat, by omega⟩
      have hus1 : us = [.int .i64 m] := by
        match us, hus with
        | [v], h =>
          have h1 : Rep S w v (.i .i64 m) := h.head
          cases h1; rfl
        | [], h => exact absurd h.1 (by simp)
        | _ :: _ :: _, h => exact absurd h.1 (by simp)
      subst hus1
      by_cases hm : m = 0
      · subst hm
        refine (Any8.slices_Grow_room L none 0 0 0 w (Nat.le_refl _) (by omega) (by omega) (Nat.le_refl _)).mono fun ex w' ⟨he, hw⟩ => ?_
        subst hw
        exact ⟨_, _, [], he, ⟨rfl, rfl, rfl, Nat.le_refl _, fun _ _ _ => rfl⟩, .inl rfl, World.ownsRow_nil w' base _ _, by simp, by simp [flatc], Reps.nil, by simp⟩
      · have hbig : (0 + m) * i0.bytes ≤ 140737488355328 := by
          have : (0 + m) * i0.bytes ≤ 1000000 * 80 := Nat.mul_le_mul (by omega) hb0
          omega
        refine (Any8.slices_Grow_grow L i0 z hi0 hz0 (by omega) none 0 0 m [] w (Nat.le_refl _) (by omega) hbig (by omega) (by simp) (fun _ => rfl) (fun a h => by cases h)).mono fun ex w' ⟨he, hw⟩ => ?_
        subst hw
        have hge := grownCap_ge w (0 + m) 0 (ρ.t 25)
        have hle := grownCap_le_maxLen w (0 + m) 0 (ρ.t 25) (by simp only [maxLen]; omega)
        refine ⟨_, _, [], he, ⟨rfl, rfl, rfl, by simp, fun k hk _ => ?_⟩, .inr rfl, ⟨by simp, .inr ⟨w.heap.size, _, _, rfl, hB, heap_alloc_new _ _, Nat.zero_le _, hle, ?_, by simp⟩⟩, by simp, by simp [flatc], Reps.nil, by simp⟩
        · exact heap_alloc_old _ _ hk
        · rw [Nat.zero_add] at hge
          rw [hc, Nat.mul_one]
          simp [Builtin.zeroCells, hzs]
          omega
    · cases h
  · cases h
end
end Go.VM
