/-
  The library's functions that write into a slice of numbers of the call's own: slices.Sort, slices.Compact, slices.Grow (of the nil slice), slices.Reverse. No program is named here.
-/
import Derived.Test.YtggmlfmhinafhaaVmO
import Derived.Shelf.Sort.Plain
import Derived.Shelf.Slices.CompactI
import Derived.Shelf.Slices.Reverse
import Derived.Shelf.Slices.In.SortNone
import Derived.Shelf.Spec.SlicesGrow
import Derived.Sort.OwnSortedInts
import Derived.Lib.OwnBridge
import Derived.Shelf.SlSortCmp.NoneTotal
set_option linter.unusedSectionVars false
namespace Go.VM
open Go.Sort Go.Lib Go.Proofs Go.Shelf Go.RowKit
variable [Glob]
def toInts : List V → Option (List Int)
  | [] => some []
  | .i .i64 n :: r => (toInts r).map (n :: ·)
  | _ => none
abbrev ints (l : List Int) : List V := encL (V.i .i64) l
@[simp] theorem toInts_ints (l : List Int) : toInts (ints l) = some l := by
  induction l with
  | nil => rfl
  | cons x l ih => simp only [ints, encL_cons, toInts] at ih ⊢; rw [ih]; rfl
theorem toInts_eq : ∀ {es : List V} {zs : List Int}, toInts es = some zs → es = ints zs
  | [], zs, h => by simp only [toInts, Option.some.injEq] at h; subst h; rfl
  | x :: r, zs, h => by
    unfold toInts at h
    split at h
    · rename_i he; cases he
    · rename_i n r' he
      cases he
      cases hr : toInts r with
      | none => rw [hr] at h; cases h
      | some ys =>
        rw [hr] at h
        simp only [Option.map_some, Option.some.injEq] at h
        subst h
        rw [toInts_eq hr]
        simp [ints, encL_cons]
    · cases h
def ins1i (x : Int) : List Int → List Int
  | [] => [x]
  | y :: r => if x ≤ y then x :: y :: r else y :: ins1i x r
def isort : List Int → List Int
  | [] => []
  | x :: r => ins1i x (isort r)
theorem ins1i_perm (x : Int) : ∀ l, (ins1i x l).Perm (x :: l)
  | [] => .refl _
  | y :: r => by
    unfold ins1i
    split
    · exact .refl _
    · exact ((ins1i_perm x r).cons y).trans (.swap x y r)
theorem isort_perm : ∀ l, (isort l).Perm l
  | [] => .refl _
  | x :: r => (ins1i_perm x _).trans ((isort_perm r).cons x)
theorem ins1i_sorted (x : Int) : ∀ l : List Int, l.Pairwise (· ≤ ·) → (ins1i x l).Pairwise (· ≤ ·)
  | [], _ => by simp [ins1i]
  | y :: r, h => by
    unfold ins1i
    have h' := List.pairwise_cons.1 h
    split
    · refine List.pairwise_cons.2 ⟨fun z hz => ?_, h⟩
      rcases List.mem_cons.1 hz with rfl | hz
      · assumption
      · have := h'.1 z hz; omega
    · refine List.pairwise_cons.2 ⟨fun z hz => ?_, ins1i_sorted x r h'.2⟩
      rcases List.mem_cons.1 ((ins1i_perm x r).mem_iff.1 hz) with rfl | hz
      · omega
      · exact h'.1 z hz
theorem isort_sorted : ∀ l : List Int, (isort l).Pairwise (· ≤ ·)
  | [] => by simp [isort]
  | x :: r => ins1i_sorted x _ (isort_sorted r)
theorem isort_eq (l : List Int) : isort l = l.mergeSort fun x y => decide (x ≤ y) := by
  refine List.Perm.eq_of_pairwise (le := fun x y => decide (x ≤ y)) (fun a b _ _ h1 h2 => ?_) ?_ ?_ ((isort_perm l).trans (List.mergeSort_perm l _).symm)
  · simp only [decide_eq_true_eq] at h1 h2; omega
  · exact (isort_sorted l).imp fun h => by simpa using h
  · exact List.pairwise_mergeSort (fun a b c h1 h2 => by simp only [decide_eq_true_eq] at *; omega) (fun a b => by simp only [Bool.or_eq_true, decide_eq_true_eq]; omega) l
def sortRun (es xs : List V) : Option (List V) := match xs with
  | [] => (toInts es).bind fun zs => if zs.length ≤ 1000000 then some (ints (isort zs)) else none
  | _ => none
def compRun (es xs : List V) : Option (List V) := match xs with
  | [] => (toInts es).bind fun zs => if zs.length ≤ 1000000 then some (ints (Lib.compact zs)) else none
  | _ => none
def revRun (es xs : List V) : Option (List V) := match xs with
  | [] => (toInts es).bind fun zs => if zs.length ≤ 1000000 then some (ints zs.reverse) else none
  | _ => none
def growRun (es xs : List V) : Option (List V) := match es, xs with
  | [], [.i .i64 n] => if 0 ≤ n ∧ n ≤ 1000000 then some [] else none
  | _, _ => none
section
variable {P : Program} {S : Nat → Prop} {w : World} {e : TypeId}
theorem flatc_ints (zs : List Int) : flatc (ints zs) = ints zs := by
  induction zs with
  | nil => rfl
  | cons x l ih => rw [ints, encL_cons, flatc_cons]; rw [ints] at ih; rw [ih]; rfl
theorem reps_ints : ∀ {vs : List Value} {zs : List Int}, Reps S w vs (ints zs) → vs = zs.map (Value.int .i64)
  | [], [], _ => rfl
  | [], _ :: _, h => absurd h.1 (by simp)
  | _ :: _, [], h => absurd h.1 (by simp)
  | v :: vs, z :: zs, h => by
    rw [ints, encL_cons] at h
    have h1 := h.head
    have h2 := reps_ints (zs := zs) h.tail
    rw [List.map_cons, ← h2]
    cases h1; rfl
theorem ints_reps (zs : List Int) : Reps S w (zs.map (Value.int .i64)) (ints zs) := by
  induction zs with
  | nil => exact Reps.nil
  | cons z zs ih => rw [ints, encL_cons, List.map_cons]; exact Reps.cons (.i .i64 z) ih
theorem ints_cells (hc : P.cellsOf e = 1) (zs : List Int) : ∀ x ∈ ints zs, x.cells.length = P.cellsOf e := fun x hx => by
  obtain ⟨n, _, rfl⟩ := List.mem_map.1 hx
  rw [hc]; rfl
theorem ints_cell (zs : List Int) : ∀ x ∈ flatc (ints zs), x.cell = true := fun x hx => by
  rw [flatc_ints] at hx
  obtain ⟨n, _, rfl⟩ := List.mem_map.1 hx
  rfl
theorem len_ints (zs : List Int) : (ints zs).length = zs.length := by simp [ints]
/-- What all four share: the elements are numbers. -/
theorem nums_PFM {f : FuncId} {nl ret : Bool} (hc : P.cellsOf e = 1) {zs ys : List Int}
    (h0 : zs = [] → ∀ w, Calls P f #[.slice none 0 0] w fun ex w' => ys = [] ∧ ex = .returned (if ret = true then .slice none 0 0 else .tuple #[]) ∧ w' = w)
    (h1 : ∀ (w : World) (base g cap : Nat), w.ownsRow base e 1 (.slice (some ⟨g, 0, none⟩) zs.length cap) zs.length (zs.map (Value.int .i64)) → base ≤ g → g < w.heap.size → zs.length ≤ cap → Holds (Value.int .i64) w g 0 zs.toArray →
      Calls P f #[.slice (some ⟨g, 0, none⟩) zs.length cap] w fun ex w' => ex = .returned (if ret = true then .slice (some ⟨g, 0, none⟩) ys.length cap else .tuple #[]) ∧ (ret = false → ys.length = zs.length) ∧ w.grownBy w' (some g) ∧ w'.ownsRow base e 1 (.slice (some ⟨g, 0, none⟩) ys.length cap) ys.length (ys.map (Value.int .i64))) :
    PFM P f e ret nl (ints zs) [] (ints ys) := by
  intro S w base u vs us hS hG hB hown hk hcl hr hng hus _
  have hus0 : us = [] := List.eq_nil_of_length_eq_zero hus.1
  subst hus0
  rw [flatc_ints] at hr
  have hvs := reps_ints hr
  subst hvs
  rw [len_ints, hc] at hown
  by_cases hnn : u = .slice none 0 0
  · subst hnn
    have hz0 : zs = [] := by
      have := hown.1
      rcases hown.2 with ⟨_, h⟩ | ⟨g, cap, cur, h, _⟩
      · exact List.eq_nil_of_length_eq_zero h
      · cases h
    refine (h0 hz0 w).mono fun ex w' ⟨hy, he, hw⟩ => ?_
    subst hw hy
    refine ⟨_, .slice none 0 0, [], he, ⟨rfl, rfl, rfl, Nat.le_refl _, fun _ _ _ => rfl⟩, .inl rfl, World.ownsRow_nil w' base e _, ints_cells hc [], ints_cell [], Reps.nil, ?_⟩
    cases ret <;> simp
  · obtain ⟨g, cap, hu, hbg, hgl, hncap, _, _, hH⟩ := Lib.holds_of_ownsRow hown hnn
    subst hu
    refine (h1 w base g cap hown hbg hgl hncap hH).mono fun ex w' ⟨he, hl, hg, ho⟩ => ?_
    refine ⟨_, .slice (some ⟨g, 0, none⟩) ys.length cap, ys.map (Value.int .i64), he, hg, .inl rfl, ?_, ints_cells hc _, ints_cell _, by rw [flatc_ints]; exact ints_reps _, ?_⟩
    · rw [len_ints, hc]; exact ho
    · cases ret with
      | true => simp
      | false => simp [hl rfl]
theorem sort_PFM {ρ : Ren} (L : Lays.n189 P ρ) (hc : P.cellsOf e = 1) (es xs es' : List V) (h : sortRun es xs = some es') : PFM P (ρ.f 189) e false false es xs es' := by
  unfold sortRun at h
  split at h
  · cases hz : toInts es with
    | none => rw [hz] at h; cases h
    | some zs =>
      rw [hz] at h
      simp only [Option.bind_some] at h
      split at h
      · rename_i hsz
        simp only [Option.some.injEq] at h
        subst h
        have := toInts_eq hz
        subst this
        have hlen : (isort zs).length = zs.length := (isort_perm zs).length_eq
        refine nums_PFM hc (fun hz0 w => ?_) fun w base g cap hown hbg hgl hncap hH => ?_
        · subst hz0
          exact (Any.slices_Sort_int_none L none 0 w).mono fun ex w' ⟨he, hw⟩ => ⟨rfl, he, hw⟩
        · refine (Any.slices_Sort_int L g 0 cap zs w hH hgl (by omega)).mono fun ex w' ⟨he, nn, os, hw⟩ => ?_
          subst hw
          rw [← isort_eq]
          rcases hown.2 with ⟨h0, _⟩ | ⟨g', cap', cur, hv, hbase, hb, h1, h2, h3, h4⟩
          · cases h0
          cases hv
          have hs := ownsRow_sortedI (n := nn) (os := os) (ts := isort zs) hlen hbase hb h1 h2 h3
          rw [hlen]
          exact ⟨he, fun _ => rfl, grownBy_sortedI _, hs⟩
      · cases h
  · cases h
theorem grownBy_putRow {g q : Nat} (d : Array Int) : w.grownBy (putRow (Value.int .i64) (Sort.ahead w q) g 0 d) (some g) := by
  refine ⟨rfl, rfl, rfl, by simp [putRow, mapBlock, Sort.ahead], fun k hk hne => ?_⟩
  have : g ≠ k := fun e => hne (by rw [e])
  simp [putRow, mapBlock, Sort.ahead, Array.getElem?_modify, this]
theorem comp_PFM {ρ : Ren} (L : Lays2.n20 P ρ) (hc : P.cellsOf e = 1) (es xs es' : List V) (h : compRun es xs = some es') : PFM P (ρ.f 20) e true false es xs es' := by
  unfold compRun at h
  split at h
  · cases hz : toInts es with
    | none => rw [hz] at h; cases h
    | some zs =>
      rw [hz] at h
      simp only [Option.bind_some] at h
      split at h
      · rename_i hsz
        simp only [Option.some.injEq] at h
        subst h
        have := toInts_eq hz
        subst this
        have hle := Lib.compact_length_le zs
        refine nums_PFM hc (fun hz0 w => ?_) fun w base g cap hown hbg hgl hncap hH => ?_
        · subst hz0
          exact (Any.slices_Compact_int_empty L none 0 w).mono fun ex w' ⟨he, hw⟩ => ⟨rfl, he, hw⟩
        · refine (Any.slices_Compact_int L g 0 cap zs w hH (by omega) hncap).mono fun ex w' ⟨he, q, hw⟩ => ?_
          subst hw
          have hp := Lib.ownsRow_putRow (q := q) (k := (Lib.compact zs).length) (ys := Lib.compact zs ++ List.replicate (zs.length - (Lib.compact zs).length) 0) hown (by simp; omega) hle
          rw [List.take_left] at hp
          exact ⟨he, (fun h : true = false => absurd h (by simp)), grownBy_putRow _, hp⟩
      · cases h
  · cases h
theorem rev_PFM {ρ : Ren} (L : Lays.n112 P ρ) (hc : P.cellsOf e = 1) (es xs es' : List V) (h : revRun es xs = some es') : PFM P (ρ.f 112) e false false es xs es' := by
  unfold revRun at h
  split at h
  · cases hz : toInts es with
    | none => rw [hz] at h; cases h
    | some zs =>
      rw [hz] at h
      simp only [Option.bind_some] at h
      split at h
      · rename_i hsz
        simp only [Option.some.injEq] at h
        subst h
        have := toInts_eq hz
        subst this
        refine nums_PFM hc (fun hz0 w => ?_) fun w base g cap hown hbg hgl hncap hH => ?_
        · subst hz0
          exact (Any.slices_Reverse_int_empty L none 0 w).mono fun ex w' ⟨he, hw⟩ => ⟨rfl, he, hw⟩
        · refine (Any.slices_Reverse_int L g 0 cap zs w hH (by omega)).mono fun ex w' ⟨he, q, hw⟩ => ?_
          subst hw
          have hp := Lib.ownsRow_putRow (q := q) (k := zs.length) (ys := zs.reverse) hown (by simp) (Nat.le_refl _)
          rw [List.take_of_length_le (by simp)] at hp
          refine ⟨he, fun _ => by simp, grownBy_putRow _, ?_⟩
          rw [List.length_reverse]; exact hp
      · cases h
  · cases h
theorem grow_PFM {ρ : Ren} (L : Lays8.n4 P ρ) {i0 : TypeInfo} {z : Value} (hi0 : P.info? (ρ.t 25) = some i0) (hz0 : i0.zero = some z) (hs0 : i0.size = 1) (hzs : z.cells.size = 1) (hb0 : i0.bytes ≤ 80) (es xs es' : List V) (h : growRun es xs = some es') : PFM P (ρ.f 4) (ρ.t 25) true true es xs es' := by
  have hc : P.cellsOf (ρ.t 25) = 1 := by simp [Program.cellsOf, hi0, hs0]
  unfold growRun at h
  split at h
  · rename_i n
    split at h
    · rename_i hn
      simp only [Option.some.injEq] at h
      subst h
      intro S w base u vs us hS hG hB hown hk hcl hr hng hus hnl
      have hu := hnl rfl
      subst hu
      obtain ⟨m, rfl⟩ : ∃ m : Nat, n = m := ⟨n.toNat, by omega⟩
      have hus1 : us = [.int .i64 m] := by
        match us, hus with
        | [v], h =>
          have h1 : Rep S w v (.i .i64 m) := h.head
          cases h1; rfl
        | [], h => exact absurd h.1 (by simp)
        | _ :: _ :: _, h => exact absurd h.1 (by simp)
      subst hus1
      by_cases hm : m = 0
      · subst hm
        refine (Any8.slices_Grow_room L none 0 0 0 w (Nat.le_refl _) (by omega) (by omega) (Nat.le_refl _)).mono fun ex w' ⟨he, hw⟩ => ?_
        subst hw
        exact ⟨_, _, [], he, ⟨rfl, rfl, rfl, Nat.le_refl _, fun _ _ _ => rfl⟩, .inl rfl, World.ownsRow_nil w' base _ _, by simp, by simp [flatc], Reps.nil, by simp⟩
      · have hbig : (0 + m) * i0.bytes ≤ 140737488355328 := by
          have : (0 + m) * i0.bytes ≤ 1000000 * 80 := Nat.mul_le_mul (by omega) hb0
          omega
        refine (Any8.slices_Grow_grow L i0 z hi0 hz0 (by omega) none 0 0 m [] w (Nat.le_refl _) (by omega) hbig (by omega) (by simp) (fun _ => rfl) (fun a h => by cases h)).mono fun ex w' ⟨he, hw⟩ => ?_
        subst hw
        have hge := grownCap_ge w (0 + m) 0 (ρ.t 25)
        have hle := grownCap_le_maxLen w (0 + m) 0 (ρ.t 25) (by simp only [maxLen]; omega)
        refine ⟨_, _, [], he, ⟨rfl, rfl, rfl, by simp, fun k hk _ => ?_⟩, .inr rfl, ⟨by simp, .inr ⟨w.heap.size, _, _, rfl, hB, heap_alloc_new _ _, Nat.zero_le _, hle, ?_, by simp⟩⟩, by simp, by simp [flatc], Reps.nil, by simp⟩
        · exact heap_alloc_old _ _ hk
        · rw [Nat.zero_add] at hge
          rw [hc, Nat.mul_one]
          simp [Builtin.zeroCells, hzs]
          omega
    · cases h
  · cases h
end
end Go.VM
/-
  slices.SortFunc at a slice of structs of the call's own, by a closure that captures nothing. No program is named here.
-/
namespace Go.VM
open Go.Sort Go.Lib Go.Proofs Go.Shelf Go.RowKit
variable [Glob]
section
variable {P : Program} {S : Nat → Prop} {w : World} {e : TypeId} {α : Type} [Inhabited α]
omit [Glob] in
theorem flat_get {enc : α → List Value} {k : Nat} (hk : ∀ x, (enc x).length = k) : ∀ (zs : List α) (t : Nat), t < zs.length * k → (zs.flatMap enc)[t]? = (enc zs[t / k]!)[t % k]?
  | [], t, h => by simp at h
  | x :: r, t, h => by
    rw [List.flatMap_cons]
    by_cases ht : t < k
    · rw [List.getElem?_append_left (by rw [hk]; exact ht), Nat.div_eq_of_lt ht, Nat.mod_eq_of_lt ht]
      simp
    · have hk0 : 0 < k := by
        rcases Nat.eq_zero_or_pos k with h0 | h0
        · subst h0; simp at h
        · exact h0
      rw [List.getElem?_append_right (by rw [hk]; omega), hk, flat_get hk r (t - k) (by simp only [List.length_cons, Nat.add_mul, Nat.one_mul] at h; omega)]
      have e1 : t / k = (t - k) / k + 1 := by rw [Nat.div_eq_sub_div hk0 (by omega)]
      have e2 : t % k = (t - k) % k := Nat.mod_eq_sub_mod (by omega)
      rw [e1, e2]
      simp
omit [Glob] in
theorem flat_len {enc : α → List Value} {k : Nat} (hk : ∀ x, (enc x).length = k) (zs : List α) : (zs.flatMap enc).length = zs.length * k := by
  induction zs with
  | nil => simp
  | cons x r ih => rw [List.flatMap_cons, List.length_append, ih, hk, List.length_cons, Nat.add_mul, Nat.one_mul, Nat.add_comm]
omit [Glob] in
theorem flatK_list {enc : α → List Value} {k : Nat} (hk : ∀ x, (enc x).length = k) (zs : List α) : flatK enc k zs.toArray = (zs.flatMap enc).toArray := by
  refine ext_get! (by simp [flat_len hk]) fun t ht => ?_
  have ht' : t < zs.length * k := by simpa using ht
  rw [get_flatK _ _ _ _ (by simpa using ht')]
  have h := flat_get hk zs t ht'
  have hl := flat_len hk zs
  rw [List.getElem?_eq_getElem (by omega)] at h
  rw [getElem!_pos (zs.flatMap enc).toArray t (by simp [hl, ht'])]
  have hm : t % k < (enc zs[t / k]!).length := by
    rw [hk]
    refine Nat.mod_lt _ ?_
    rcases Nat.eq_zero_or_pos k with h0 | h0
    · subst h0; simp at ht'
    · exact h0
  rw [List.getElem?_eq_getElem hm] at h
  simp only [Option.some.injEq] at h
  simp only [List.getElem_toArray, List.getElem!_toArray]
  rw [getElem!_pos (enc zs[t / k]!) (t % k) hm, h]
omit [Glob] in
theorem holds_of_blockV {g : Nat} {cur : Array Value} {ss : List Value} (hb : w.heap[g]? = some (.cells cur e (0, 0))) (ht : cur.toList.take ss.length = ss) : Holds id w g 0 ss.toArray := by
  intro j hj
  have hj' : j < ss.length := by simpa using hj
  refine ⟨?_, by simp [World.frozen?, hb]⟩
  have h1 : (cur.toList.take ss.length)[j]? = ss[j]? := by rw [ht]
  rw [List.getElem?_take_of_lt hj'] at h1
  simp only [World.cell?, hb, Nat.zero_add]
  simp only [Option.isSome_none, Bool.false_eq_true, if_false]
  rw [← Array.getElem?_toList, h1]
  simp [hj']
omit [Glob] in
theorem heap_sortedV {g n : Nat} {os : Array Obj} {cur : Array Value} {fr : Nat × Nat} (d : Array Value) (hb : w.heap[g]? = some (.cells cur e fr)) :
    (grow (putRow id (Sort.ahead w n) g 0 d) os).heap[g]? = some (.cells (putCells id 0 d cur) e fr) := by
  have hg : g < w.heap.size := (Array.getElem?_eq_some_iff.1 hb).1
  rw [heap_grow_old _ _ (by simpa using hg)]
  simp [putRow, mapBlock, Sort.ahead, Array.getElem?_modify, hb, onCells]
omit [Glob] in
theorem grownBy_sortedV {g n : Nat} {os : Array Obj} (d : Array Value) : w.grownBy (grow (putRow id (Sort.ahead w n) g 0 d) os) (some g) := by
  refine ⟨rfl, rfl, rfl, by simp, fun k hk hne => ?_⟩
  rw [heap_grow_old _ _ (by simpa using hk)]
  have : g ≠ k := fun e => hne (by rw [e])
  simp [putRow, mapBlock, Sort.ahead, Array.getElem?_modify, this]
omit [Glob] in
theorem take_putCellsV (cur : Array Value) (ts : List Value) (h : ts.length ≤ cur.size) : (putCells id 0 ts.toArray cur).toList.take ts.length = ts := by
  apply List.ext_getElem?
  intro j
  by_cases hj : j < ts.length
  · rw [List.getElem?_take_of_lt hj, Array.getElem?_toList]
    simp [putCells, hj, show j < cur.size by omega]
  · rw [List.getElem?_take_eq_none (by omega), List.getElem?_eq_none (by omega)]
omit [Glob] in
theorem perm_of_permIn {d d' : Array α} (h : PermIn 0 d.size d d') : d'.toList.Perm d.toList := by
  have h3 := h.2.2
  have e1 : d.extract 0 d.size = d := by simp
  have e2 : d'.extract 0 d.size = d' := by rw [← h.1]; simp
  rwa [e1, e2] at h3
omit [Glob] in
theorem pairwise_of_sortedIn {lt : α → α → Bool} {d : Array α} (h : SortedIn lt 0 d.size d) : d.toList.Pairwise fun x y => lt y x = false := by
  rw [List.pairwise_iff_getElem]
  intro i j hi hj hij
  have hi' : i < d.size := by simpa using hi
  have hj' : j < d.size := by simpa using hj
  have := h i j (Nat.zero_le _) hij hj'
  rw [getElem!_pos d j hj', getElem!_pos d i hi'] at this
  simpa using this
set_option maxHeartbeats 1000000 in
theorem sortK_PFM {ρ : Ren} (L : SlLaysF0.n6 P ρ) {k : Nat} (aE : ∀ w, (isAgg (ρ.t 24)).run P w = .ok true w) (zE : ∀ w, (Go.sizeOf (ρ.t 24)).run P w = .ok k w) (hc : P.cellsOf e = k)
    {enc : α → List Value} {encV : α → V} (hk : ∀ x, (enc x).length = k) (h1 : ∀ x, ∀ v ∈ enc x, v.oneCell' = true) (hkV : ∀ x, (encV x).cells.length = k) (hcV : ∀ x, ∀ c ∈ (encV x).cells, c.cell = true)
    (hto : ∀ (S : Nat → Prop) (w : World) (vs : List Value) (x : α), Reps S w vs (encV x).cells → vs = enc x) (hfrom : ∀ (S : Nat → Prop) (w : World) (x : α), Reps S w (enc x) (encV x).cells)
    {cf : α → α → Int} (hO : SWO (ltOf cf)) {g : Nat} (eg : ∀ args w, (callFunc g args).run P w = .ok (.enter g args) w) (hcmp : ∀ blk off size w, CmpLays P g #[] enc k cf blk off size w)
    {zs ys : List α} (hu : ∀ l : List α, l.Perm zs → l.Pairwise (fun x y => ltOf cf y x = false) → l = ys) (hsz : zs.length ≤ 1000000) :
    PFM P (ρ.f 6) e false false (zs.map encV) [.f (.func g) [] []] (ys.map encV) := by
  have reps_to : ∀ (S : Nat → Prop) (w : World) (l : List α) (vs : List Value), Reps S w vs (flatc (l.map encV)) → vs = l.flatMap enc := by
    intro S w l
    induction l with
    | nil => intro vs h; exact List.eq_nil_of_length_eq_zero h.1
    | cons x r ih =>
      intro vs h
      rw [List.map_cons, flatc_cons] at h
      have hlen := h.1
      rw [List.length_append, hkV] at hlen
      have hsp : vs = vs.take k ++ vs.drop k := (List.take_append_drop k vs).symm
      have ha : Reps S w (vs.take k) (encV x).cells := by
        refine ⟨by rw [List.length_take, hkV]; omega, fun j v y hv hy => h.2 j v y ?_ ?_⟩
        · have hj : j < (vs.take k).length := (List.getElem?_eq_some_iff.1 hv).1
          rw [List.getElem?_take_of_lt (by simp at hj; omega)] at hv
          exact hv
        · have hj : j < (encV x).cells.length := (List.getElem?_eq_some_iff.1 hy).1
          rw [List.getElem?_append_left hj]; exact hy
      have hb : Reps S w (vs.drop k) (flatc (r.map encV)) := by
        refine ⟨by rw [List.length_drop]; omega, fun j v y hv hy => h.2 (k + j) v y ?_ ?_⟩
        · rw [List.getElem?_drop] at hv; exact hv
        · rw [List.getElem?_append_right (by rw [hkV]; omega), hkV, Nat.add_sub_cancel_left]; exact hy
      rw [hsp, hto S w _ x ha, ih _ hb, List.flatMap_cons]
  have reps_from : ∀ (S : Nat → Prop) (w : World) (l : List α), Reps S w (l.flatMap enc) (flatc (l.map encV)) := by
    intro S w l
    induction l with
    | nil => exact Reps.nil
    | cons x r ih =>
      rw [List.map_cons, flatc_cons, List.flatMap_cons]
      exact Reps.append (hfrom S w x) ih
  have cellsV : ∀ l : List α, ∀ x ∈ l.map encV, x.cells.length = P.cellsOf e := by
    intro l x hx
    obtain ⟨y, _, rfl⟩ := List.mem_map.1 hx
    rw [hc]; exact hkV y
  have cellV : ∀ l : List α, ∀ x ∈ flatc (l.map encV), x.cell = true := by
    intro l x hx
    obtain ⟨y, hy, hx⟩ := List.mem_flatMap.1 hx
    obtain ⟨z, _, rfl⟩ := List.mem_map.1 hy
    exact hcV z x hx
  intro S w base u vs us hS hG hB hown _ _ hr hng hus _
  have hvs := reps_to _ _ _ _ hr
  subst hvs
  have hus1 : us = [.func (.func g) #[] #[]] := by
    match us, hus with
    | [v], h =>
      have h1 : Rep S w v (.f (.func g) [] []) := h.2 0 v _ rfl rfl
      cases h1 with
      | f fn fs cs xs ys hx hy h h' =>
        have e1 : fs = #[] := Array.eq_empty_of_size_eq_zero hx
        have e2 : cs = #[] := Array.eq_empty_of_size_eq_zero hy
        subst e1 e2; rfl
    | [], h => exact absurd h.1 (by simp)
    | _ :: _ :: _, h => exact absurd h.1 (by simp)
  subst hus1
  rw [List.length_map, hc] at hown
  have hyl : ys.length = zs.length := by
    have hp : (zs.mergeSort fun x y => !ltOf cf y x).Perm zs := List.mergeSort_perm zs _
    have hs : (zs.mergeSort fun x y => !ltOf cf y x).Pairwise fun x y => ltOf cf y x = false :=
      (List.pairwise_mergeSort (le := fun x y => !ltOf cf y x) (fun a b c h1 h2 => by
        simp only [Bool.not_eq_true'] at *
        exact hO.ntrans _ _ _ h2 h1) (fun a b => by
        cases h1 : ltOf cf b a with
        | false => simp
        | true =>
          cases h2 : ltOf cf a b with
          | false => simp
          | true => have := hO.trans _ _ _ h1 h2; rw [hO.irrefl] at this; cases this) zs).imp fun h => by simpa using h
    rw [← hu _ hp hs, hp.length_eq]
  by_cases hnn : u = .slice none 0 0
  · subst hnn
    have hz0 : zs = [] := by
      rcases hown.2 with ⟨h0, h⟩ | ⟨g, cap, cur, h, _⟩
      · have h2 : zs.length = 0 := by
          have := congrArg (fun v : Value => match v with | .slice _ n _ => n | _ => 0) h0
          first | exact h | simpa using this
        exact List.eq_nil_of_length_eq_zero h2
      · cases h
    subst hz0
    have hy0 : ys = [] := List.eq_nil_of_length_eq_zero hyl
    subst hy0
    refine (AnyF.slices_SortFunc_none L none 0 _ w).mono fun ex w' ⟨he, hw⟩ => ?_
    subst hw
    exact ⟨_, .slice none 0 0, [], he, ⟨rfl, rfl, rfl, Nat.le_refl _, fun _ _ _ => rfl⟩, .inl rfl, World.ownsRow_nil w' base e _, cellsV [], cellV [], Reps.nil, by simp⟩
  · have hol := hown.1
    rcases hown.2 with ⟨h0, _⟩ | ⟨g', cap, cur, hv, hbase, hb, hn, hm, hs, ht⟩
    · exact absurd h0 hnn
    subst hv
    have hlt : g' < w.heap.size := (Array.getElem?_eq_some_iff.1 hb).1
    have hfl := flat_len hk zs
    have hH : HoldsK enc k w g' 0 zs.toArray := by
      unfold HoldsK
      rw [flatK_list hk]
      refine holds_of_blockV hb ?_
      rw [hfl]; exact ht
    have hcall := AnyQ.slices_SortFunc L k aE zE enc hk h1 cf hO g #[] g' 0 cap zs.toArray w eg (hcmp _ _ _ _) hH hlt (by simp; omega)
    simp only [List.size_toArray] at hcall
    refine hcall.mono fun ex w' ⟨he, d', nn, os, hp, hso, hw⟩ => ?_
    have hd : d'.toList = ys := by
      refine hu _ ?_ ?_
      · have := perm_of_permIn (d := zs.toArray) (d' := d') (by simpa using hp)
        simpa using this
      · refine pairwise_of_sortedIn (d := d') ?_
        have := hp.1
        rw [this]; simpa using hso
    have hd' : d' = ys.toArray := by rw [← hd]
    subst hd' hw
    have hfy := flat_len hk ys
    have hcap : zs.length * k ≤ cap * k := Nat.mul_le_mul_right k hn
    simp only [sortWorldK, putRowK, flatK_list hk]
    refine ⟨_, .slice (some ⟨g', 0, none⟩) zs.length cap, ys.flatMap enc, he, grownBy_sortedV _, .inl rfl, ?_, cellsV _, cellV _, reps_from _ _ _, by simp⟩
    rw [List.length_map, hc, hyl]
    refine ⟨by rw [hfy, hyl], .inr ⟨g', cap, _, rfl, hbase, heap_sortedV _ hb, hn, hm, by simp [putCells, hs], ?_⟩⟩
    have := take_putCellsV cur (ys.flatMap enc) (by rw [hfy, hyl]; omega)
    rwa [hfy, hyl] at this
end
end Go.VM
