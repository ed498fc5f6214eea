/-
  What the functions that the laws reach compute: the nth open day; laws 6 and 8.
-/
import Derived.Test.YtmhodpnjhkokoaaSpec3
namespace Go.Proofs.Ytmhodpnjhkokoaa
open Go.VM
/-! ### The nth number that meets a condition: plain -/
/-- The first of N numbers that meets a condition and has k such ahead of it. -/
def nthAt (p : Nat → Bool) (k i : Nat) : Option Nat := if p i = true ∧ cnt p i = k then some i else none
def nth (p : Nat → Bool) (N k : Nat) : Option Nat := (List.range N).findSome? (nthAt p k)
/-- The first from a place on. -/
def fromAt (p : Nat → Bool) (a i : Nat) : Option Nat := if a ≤ i ∧ p i = true then some i else none
def from' (p : Nat → Bool) (N a : Nat) : Option Nat := (List.range N).findSome? (fromAt p a)
theorem find_iff {α : Type} {f : Nat → Option α} {N : Nat} {x : α} : (List.range N).findSome? f = some x ↔ ∃ i, i < N ∧ f i = some x ∧ ∀ j, j < i → f j = none := by
  induction N with
  | zero => simp
  | succ N ih =>
    rw [List.range_succ, List.findSome?_append]
    cases hq : (List.range N).findSome? f with
    | some y =>
      obtain ⟨i, hi, hfi, hlt⟩ := (by
        have : ∀ y, (List.range N).findSome? f = some y → ∃ i, i < N ∧ f i = some y ∧ ∀ j, j < i → f j = none := by
          clear hq ih
          induction N with
          | zero => intro y h; simp at h
          | succ N ih2 =>
            intro y h
            rw [List.range_succ, List.findSome?_append] at h
            cases hq : (List.range N).findSome? f with
            | some z =>
              rw [hq] at h
              simp only [Option.some_or, Option.some.injEq] at h
              subst h
              obtain ⟨i, hi, h1, h2⟩ := ih2 z hq
              exact ⟨i, by omega, h1, h2⟩
            | none =>
              rw [hq] at h
              simp only [Option.none_or, List.findSome?_cons, List.findSome?_nil] at h
              cases hN : f N with
              | none => rw [hN] at h; cases h
              | some z => rw [hN] at h; cases h; exact ⟨N, by omega, hN, fun j hj => range_find_none.1 hq j hj⟩
        exact this y hq : ∃ i, i < N ∧ f i = some y ∧ ∀ j, j < i → f j = none)
      simp only [Option.some_or, Option.some.injEq]
      constructor
      · rintro rfl; exact ⟨i, by omega, hfi, hlt⟩
      · rintro ⟨j, hj, hfj, hltj⟩
        have : i = j := by
          by_cases h1 : i < j
          · rw [hltj i h1] at hfi; cases hfi
          · by_cases h2 : j < i
            · rw [hlt j h2] at hfj; cases hfj
            · omega
        subst this
        rw [hfi] at hfj; exact Option.some.inj hfj
    | none =>
      have hn := range_find_none.1 hq
      simp only [Option.none_or, List.findSome?_cons, List.findSome?_nil]
      constructor
      · intro h
        cases hN : f N with
        | none => rw [hN] at h; cases h
        | some z => rw [hN] at h; cases h; exact ⟨N, by omega, hN, fun j hj => hn j hj⟩
      · rintro ⟨i, hi, hfi, hlt⟩
        have : i = N := by
          false_or_by_contra
          have := hn i (by omega)
          rw [this] at hfi; cases hfi
        subst this
        rw [hfi]
theorem cnt_mono (p : Nat → Bool) {a b : Nat} (h : a ≤ b) : cnt p a ≤ cnt p b := by
  obtain ⟨c, rfl⟩ : ∃ c, b = a + c := ⟨b - a, by omega⟩
  rw [cnt_add]; omega
theorem nth_some {p : Nat → Bool} {N k i : Nat} : nth p N k = some i ↔ i < N ∧ p i = true ∧ cnt p i = k := by
  unfold nth
  rw [find_iff]
  constructor
  · rintro ⟨j, hj, hfj, _⟩
    unfold nthAt at hfj
    split at hfj
    · rename_i hc; cases hfj; exact ⟨hj, hc⟩
    · cases hfj
  · rintro ⟨h1, h2, h3⟩
    refine ⟨i, h1, by simp [nthAt, h2, h3], fun j hj => ?_⟩
    unfold nthAt
    rw [if_neg]
    rintro ⟨k1, k2⟩
    have : cnt p (j + 1) = cnt p j + 1 := by show cnt p j + _ = _; rw [if_pos k1]
    have := cnt_mono p (show j + 1 ≤ i by omega)
    omega
theorem nth_none {p : Nat → Bool} {N k : Nat} : nth p N k = none ↔ cnt p N ≤ k := by
  constructor
  · intro h
    false_or_by_contra
    have key : ∀ n, n ≤ N → k < cnt p n → ∃ i, i < n ∧ p i = true ∧ cnt p i = k := by
      intro n
      induction n with
      | zero => intro _ h; simp [cnt] at h
      | succ n ih =>
        intro hn hk
        by_cases h1 : k < cnt p n
        · obtain ⟨i, hi, h2⟩ := ih (by omega) h1
          exact ⟨i, by omega, h2⟩
        · have : cnt p (n + 1) = cnt p n + if p n = true then 1 else 0 := rfl
          by_cases hp : p n = true
          · rw [if_pos hp] at this
            exact ⟨n, by omega, hp, by omega⟩
          · rw [if_neg hp] at this; omega
    obtain ⟨i, hi, h1, h2⟩ := key N (Nat.le_refl _) (by omega)
    rw [nth_some.2 ⟨hi, h1, h2⟩] at h; cases h
  · intro h
    cases hq : nth p N k with
    | none => rfl
    | some i =>
      obtain ⟨h1, h2, h3⟩ := nth_some.1 hq
      have : cnt p (i + 1) = cnt p i + 1 := by show cnt p i + _ = _; rw [if_pos h2]
      have := cnt_mono p (show i + 1 ≤ N by omega)
      omega
theorem from_some {p : Nat → Bool} {N a i : Nat} : from' p N a = some i ↔ (i < N ∧ a ≤ i ∧ p i = true) ∧ ∀ j, a ≤ j → j < i → p j = false := by
  unfold from'
  rw [find_iff]
  constructor
  · rintro ⟨j, hj, hfj, hlt⟩
    unfold fromAt at hfj
    split at hfj
    · rename_i hc
      cases hfj
      refine ⟨⟨hj, hc⟩, fun m hm hmi => ?_⟩
      have := hlt m hmi
      unfold fromAt at this
      cases hp : p m with
      | false => rfl
      | true => rw [if_pos ⟨hm, hp⟩] at this; cases this
    · cases hfj
  · rintro ⟨⟨h1, h2, h3⟩, h4⟩
    refine ⟨i, h1, by simp [fromAt, h2, h3], fun j hj => ?_⟩
    unfold fromAt
    rw [if_neg]
    rintro ⟨k1, k2⟩
    rw [h4 j k1 hj] at k2; cases k2
/-- The next one after the nth is the n + 1st. -/
theorem nth_succ {p : Nat → Bool} {N k i : Nat} (h : nth p N k = some i) : nth p N (k + 1) = from' p N (i + 1) := by
  obtain ⟨h1, h2, h3⟩ := nth_some.1 h
  have hc : cnt p (i + 1) = k + 1 := by show cnt p i + _ = _; rw [if_pos h2, h3]
  cases hq : from' p N (i + 1) with
  | some j =>
    obtain ⟨⟨g1, g2, g3⟩, g4⟩ := from_some.1 hq
    rw [nth_some]
    refine ⟨g1, g3, ?_⟩
    obtain ⟨m, rfl⟩ : ∃ m, j = i + 1 + m := ⟨j - (i + 1), by omega⟩
    rw [cnt_add, hc, cnt_false fun t ht => g4 (i + 1 + t) (by omega) (by omega)]
  | none =>
    rw [nth_none]
    have hn := range_find_none.1 hq
    obtain ⟨m, rfl⟩ : ∃ m, N = i + 1 + m := ⟨N - (i + 1), by omega⟩
    rw [cnt_add, hc, cnt_false fun t ht => by
      have := hn (i + 1 + t) (by omega)
      unfold fromAt at this
      cases hp : p (i + 1 + t) with
      | false => rfl
      | true => rw [if_pos ⟨by omega, hp⟩] at this; cases this]
    omega
theorem nth_zero (p : Nat → Bool) (N : Nat) : nth p N 0 = from' p N 0 := by
  cases hq : from' p N 0 with
  | some j =>
    obtain ⟨⟨g1, g2, g3⟩, g4⟩ := from_some.1 hq
    exact nth_some.2 ⟨g1, g3, cnt_false fun i hi => g4 i (by omega) hi⟩
  | none =>
    rw [nth_none]
    have hn := range_find_none.1 hq
    rw [cnt_false fun t ht => by
      have := hn t ht
      unfold fromAt at this
      cases hp : p t with
      | false => rfl
      | true => rw [if_pos ⟨by omega, hp⟩] at this; cases this]
    omega
/-! ### Add -/
/-- Is the day i + 1 days after a day open? -/
abbrev aft (c : Calendar) (d : Int) (i : Nat) : Bool := openB c (d + 1 + i)
def addN (c : Calendar) (d : Int) (k : Nat) : Option Nat := nth (aft c d) (73048 - d).toNat k
def okA (d n : Int) : Bool := validD d && (decide (1 ≤ n) && decide (n ≤ 1000))
def addV (c : Calendar) (d n : Int) : V := if okA d n = true then (match addN c d (n - 1).toNat with
  | some i => .t [.i .i64 (d + 1 + i), .i .i64 0]
  | none => .t [.i .i64 0, .i .i64 11]) else .t [.i .i64 0, .i .i64 1]
theorem okA_iff {d n : Int} : okA d n = true ↔ (0 ≤ d ∧ d ≤ 73048) ∧ 1 ≤ n ∧ n ≤ 1000 := by simp [okA, validD]
theorem r24 (c : Calendar) (d n : Int) (h : Small c) (hv : okA d n = true) {i : Nat} (h8 : d + 1 + (i : Int) ≤ 73048) (hlt : (cnt (aft c d) (i + 1) : Int) < n) :
    kE [2, 3, 8] (exec O body24_1 [(2, .i .i64 (n - (cnt (aft c d) i : Nat))), (3, .bx c.cells), (8, .i .i64 (d + 1 + i))]) = some (.n, [(2, .i .i64 (n - (cnt (aft c d) (i + 1) : Nat))), (3, .bx c.cells), (8, .i .i64 (d + 1 + (i + 1 : Nat)))]) := by
  have hd := okA_iff.1 hv
  have hw := wrap_i64 (d + 1 + (i + 1)) (by omega)
  have h20 := e20 c (d + 1 + i) h
  have ha : d + 1 + (i : Int) + 1 = d + 1 + ((i : Int) + 1) := by omega
  have hs : cnt (aft c d) (i + 1) = cnt (aft c d) i + if openB c (d + 1 + i) = true then 1 else 0 := rfl
  cases ho : openB c (d + 1 + i) with
  | false =>
    rw [ho] at h20 hs
    simp only [Bool.false_eq_true, if_false, Nat.add_zero] at hs
    rw [hs] at hlt ⊢
    have hne : ¬ n - (cnt (aft c d) i : Int) = 0 := by omega
    simp [body24_1, h8, h20, hw, ha, hne]
  | true =>
    rw [ho] at h20 hs
    simp only [if_true] at hs
    rw [hs] at hlt ⊢
    have hw2 := wrap_i64 (n - (cnt (aft c d) i : Int) - 1) (by omega)
    have hne : ¬ n - (cnt (aft c d) i : Int) - 1 = 0 := by omega
    have he : n - ((cnt (aft c d) i + 1 : Nat) : Int) = n - (cnt (aft c d) i : Int) - 1 := by omega
    rw [he]
    simp [body24_1, h8, h20, hw, ha, hne, hw2]
theorem l24 (c : Calendar) (d n : Int) (h : Small c) (hv : okA d n = true) : loopK O [2, 3, 8] body24_1 [(2, .i .i64 n), (3, .bx c.cells), (8, .i .i64 (d + 1))] = some (optE (fun (i : Nat) => (.r, [(6, .i .i64 (d + 1 + i)), (7, .i .i64 0)])) (.e 0, []) (addN c d (n - 1).toNat)) := by
  have hd := okA_iff.1 hv
  unfold addN
  obtain ⟨N, hN⟩ : ∃ N : Nat, (73048 - d).toNat = N := ⟨_, rfl⟩
  rw [hN]
  have h0 : d + 1 + ((0 : Nat) : Int) = d + 1 := by simp
  have h0' : n - ((cnt (aft c d) 0 : Nat) : Int) = n := by simp [cnt]
  cases hq : nth (aft c d) N (n - 1).toNat with
  | none =>
    have hle := nth_none.1 hq
    have := loopK_run (o := O) (kin := [2, 3, 8]) (c := body24_1) (fun i => [(2, .i .i64 (n - (cnt (aft c d) i : Nat))), (3, .bx c.cells), (8, .i .i64 (d + 1 + i))]) N (.e 0, []) (by simp) (fun i hi => by
      have := cnt_mono (aft c d) (show i + 1 ≤ N by omega)
      exact r24 c d n h hv (by omega) (by omega)) (by
        have h8 : ¬ d + 1 + (N : Int) ≤ 73048 := by omega
        simp [body24_1, h8]) (by simp)
    rw [h0, h0'] at this
    exact this
  | some k =>
    obtain ⟨h1, h2, h3⟩ := nth_some.1 hq
    have := loopK_run (o := O) (kin := [2, 3, 8]) (c := body24_1) (fun i => [(2, .i .i64 (n - (cnt (aft c d) i : Nat))), (3, .bx c.cells), (8, .i .i64 (d + 1 + i))]) k (.r, [(6, .i .i64 (d + 1 + k)), (7, .i .i64 0)]) (by simp) (fun i hi => by
      have := cnt_mono (aft c d) (show i + 1 ≤ k by omega)
      exact r24 c d n h hv (by omega) (by omega)) (by
        have h8 : d + 1 + (k : Int) ≤ 73048 := by omega
        have h20 := e20 c (d + 1 + k) h
        have h2' : openB c (d + 1 + k) = true := h2
        rw [h2'] at h20
        have hn1 : n - (cnt (aft c d) k : Int) = 1 := by omega
        simp [body24_1, h8, h20, hn1, show IntKind.i64.wrap 0 = 0 from rfl]) (by simp)
    rw [h0, h0'] at this
    exact this
theorem e24 (c : Calendar) (d n : Int) (h : Small c) : O 24 [c.v, .i .i64 d, .i .i64 n] = some (addV c d n) := by
  refine orun (fc := code24) rfl rfl rfl ?_
  unfold addV
  by_cases k1 : validD d = true
  · by_cases k2 : n < 1
    · have ho : okA d n = false := by simp [okA, k1]; omega
      simp [code24, k1, k2, ho]
    · by_cases k3 : 1000 < n
      · have ho : okA d n = false := by simp [okA, k1]; omega
        simp [code24, k1, k2, k3, ho]
      · have ho : okA d n = true := by simp [okA, k1]; omega
        have hl := l24 c d n h ho
        have hd := okA_iff.1 ho
        have hw := wrap_i64 (d + 1) (by omega)
        cases hq : addN c d (n - 1).toNat <;> rw [hq] at hl <;> simp [code24, k1, k2, k3, ho, hw, exec_loopK, hl]
  · have k1' : validD d = false := by simpa using k1
    have ho : okA d n = false := by simp [okA, k1']
    simp [code24, k1', ho]
/-! ### The program's Add -/
theorem upD_from (c : Calendar) (d : Int) {i : Nat} (_hd : 0 ≤ d) (hi : d + 1 + (i : Int) ≤ 73048) : upD c (d + 1 + i) = (from' (aft c d) (73048 - d).toNat i).map fun (j : Nat) => d + 1 + (j : Int) := by
  obtain ⟨N, hN⟩ : ∃ N : Nat, (73048 - d).toNat = N := ⟨_, rfl⟩
  rw [hN]
  unfold upD
  have hM : (73049 - (d + 1 + (i : Int))).toNat = N - i := by omega
  rw [hM]
  cases hq : from' (aft c d) N i with
  | some j =>
    obtain ⟨⟨g1, g2, g3⟩, g4⟩ := from_some.1 hq
    rw [Option.map_some, find_iff]
    refine ⟨j - i, by omega, ?_, fun m hm => ?_⟩
    · have e : d + 1 + (i : Int) + ((j - i : Nat) : Int) = d + 1 + j := by omega
      have g3' : openB c (d + 1 + j) = true := g3
      simp [upAt, e, g3']
    · have g := g4 (i + m) (by omega) (by omega)
      have e : d + 1 + (i : Int) + (m : Int) = d + 1 + ((i + m : Nat) : Int) := by omega
      have g' : openB c (d + 1 + ((i + m : Nat) : Int)) = false := g
      unfold upAt
      rw [e, g']; rfl
  | none =>
    rw [Option.map_none]
    have hn := range_find_none.1 hq
    refine range_find_none.2 fun m hm => ?_
    have := hn (i + m) (by omega)
    have e : d + 1 + (i : Int) + (m : Int) = d + 1 + ((i + m : Nat) : Int) := by omega
    unfold upAt
    rw [e]
    unfold fromAt at this
    cases hp : openB c (d + 1 + ((i + m : Nat) : Int)) with
    | false => rfl
    | true =>
      have hp' : aft c d (i + m) = true := hp
      rw [if_pos ⟨by omega, hp'⟩] at this; cases this
/-- The day before the search for the kth: the day itself, or the k - 1st. -/
def dayK (c : Calendar) (d : Int) (k : Nat) : Int := match k with
  | 0 => d
  | k + 1 => match addN c d k with
    | some i => d + 1 + i
    | none => 0
def lackK (c : Calendar) (d : Int) (k : Nat) : Option Unit := match addN c d k with
  | some _ => none
  | none => some ()
theorem addN_down (c : Calendar) (d : Int) {k j : Nat} (h : j ≤ k) {i : Nat} (hk : addN c d k = some i) : ∃ m, addN c d j = some m := by
  cases hq : addN c d j with
  | some m => exact ⟨m, rfl⟩
  | none =>
    have h1 := nth_none.1 hq
    have h2 : addN c d k = none := nth_none.2 (by omega)
    rw [h2] at hk; cases hk
/-- One round where the kth is there to be searched from. -/
theorem next_eq (c : Calendar) (d : Int) (hd : 0 ≤ d ∧ d ≤ 73048) (k : Nat) (hk : ∀ j, j < k → ∃ m, addN c d j = some m) : (0 ≤ dayK c d k ∧ dayK c d k ≤ 73048) ∧ (dayK c d k = 73048 → addN c d k = none) ∧ (dayK c d k ≠ 73048 → upD c (dayK c d k + 1) = (addN c d k).map fun (j : Nat) => d + 1 + (j : Int)) := by
  cases k with
  | zero =>
    simp only [dayK]
    refine ⟨hd, fun h => ?_, fun h => ?_⟩
    · unfold addN; rw [h]; rfl
    · have := upD_from c d (i := 0) hd.1 (by simp; omega)
      have e : d + 1 + ((0 : Nat) : Int) = d + 1 := by simp
      rw [e] at this
      rw [this]; unfold addN; rw [nth_zero]
  | succ k =>
    obtain ⟨m, hm⟩ := hk k (by omega)
    have hdk : dayK c d (k + 1) = d + 1 + m := by simp [dayK, hm]
    rw [hdk]
    have hm1 := (nth_some.1 hm).1
    refine ⟨by omega, fun h => ?_, fun h => ?_⟩
    · have hs := nth_succ hm
      show nth (aft c d) (73048 - d).toNat (k + 1) = none
      rw [hs]
      refine range_find_none.2 fun i hi => ?_
      unfold fromAt
      rw [if_neg (by omega)]
    · have := upD_from c d (i := m + 1) hd.1 (by omega)
      have e : d + 1 + ((m + 1 : Nat) : Int) = d + 1 + m + 1 := by omega
      rw [e] at this
      rw [this]
      show _ = (nth (aft c d) (73048 - d).toNat (k + 1)).map _
      rw [nth_succ hm]
theorem r23 (c : Calendar) (d n : Int) (h : Small c) (hv : okA d n = true) {k : Nat} (hk : (k : Int) < n) (hk0 : ∀ j, j < k → ∃ m, addN c d j = some m) :
    kE [1, 3, 21, 22] (exec O body23_1 [(1, .i .i64 (dayK c d k)), (3, .bx c.cells), (21, .i .i64 n), (22, .i .i64 k)]) = (match addN c d k with
      | some i => some (.n, [(1, .i .i64 (d + 1 + i)), (3, .bx c.cells), (21, .i .i64 n), (22, .i .i64 (k + 1 : Nat))])
      | none => some (.r, [(6, .i .i64 0), (7, .i .i64 11)])) := by
  have hd := okA_iff.1 hv
  obtain ⟨hb, h1, h2⟩ := next_eq c d hd.1 k hk0
  generalize hdk : dayK c d k = x at hb h1 h2 ⊢
  have hw := wrap_i64 (k + 1) (by omega)
  have hw1 := wrap_i64 (x + 1) (by omega)
  by_cases hx : x = 73048
  · rw [h1 hx]
    simp [body23_1, hk, hx]
  · have hu := h2 hx
    have h15 := e15 c (x + 1) h
    have hvx : validD (x + 1) = true := valid_iff.2 (by omega)
    rw [hu, hvx] at h15
    cases hq : addN c d k with
    | none => rw [hq] at h15; simp [dayV] at h15; simp [body23_1, hk, hx, hw1, h15]
    | some i => rw [hq] at h15; simp [dayV] at h15; simp [body23_1, hk, hx, hw1, h15, hw]
theorem l23 (c : Calendar) (d n : Int) (h : Small c) (hv : okA d n = true) : loopK O [1, 3, 21, 22] body23_1 [(1, .i .i64 d), (3, .bx c.cells), (21, .i .i64 n), (22, .i .i64 0)] = some (match addN c d (n - 1).toNat with
    | some i => (.e 0, [(1, .i .i64 (d + 1 + i))])
    | none => (.r, [(6, .i .i64 0), (7, .i .i64 11)])) := by
  have hd := okA_iff.1 hv
  obtain ⟨M, hM⟩ : ∃ M : Nat, n = M + 1 := ⟨(n - 1).toNat, by omega⟩
  subst hM
  have hMt : ((M : Int) + 1 - 1).toNat = M := by omega
  rw [hMt]
  cases hq : addN c d M with
  | some i =>
    have := loopK_run (o := O) (kin := [1, 3, 21, 22]) (c := body23_1) (fun k => [(1, .i .i64 (dayK c d k)), (3, .bx c.cells), (21, .i .i64 ((M : Int) + 1)), (22, .i .i64 k)]) (M + 1) (.e 0, [(1, .i .i64 (d + 1 + i))]) (by simp) (fun k hk => by
      have hdn : ∀ j, j ≤ M → ∃ m, addN c d j = some m := fun j hj => addN_down c d hj hq
      have hr := r23 c d (M + 1) h hv (k := k) (by omega) (fun j hj => hdn j (by omega))
      obtain ⟨m, hm⟩ := hdn k (by omega)
      rw [hm] at hr
      rw [hr]
      have : dayK c d (k + 1) = d + 1 + m := by simp [dayK, hm]
      simp only [this]) (by
        have : dayK c d (M + 1) = d + 1 + i := by simp [dayK, hq]
        simp [body23_1, this]) (by simp)
    exact this
  | none =>
    -- the first that is lacking
    obtain ⟨k, hk, hkn, hkd⟩ : ∃ k, k ≤ M ∧ addN c d k = none ∧ ∀ j, j < k → ∃ m, addN c d j = some m := by
      clear hv
      have key : ∀ M, addN c d M = none → ∃ k, k ≤ M ∧ addN c d k = none ∧ ∀ j, j < k → ∃ m, addN c d j = some m := by
        intro M
        induction M with
        | zero => intro h; exact ⟨0, Nat.le_refl _, h, fun j hj => by omega⟩
        | succ M ih =>
          intro h
          cases hq : addN c d M with
          | none => obtain ⟨k, h1, h2, h3⟩ := ih hq; exact ⟨k, by omega, h2, h3⟩
          | some m => exact ⟨M + 1, Nat.le_refl _, h, fun j hj => addN_down c d (show j ≤ M by omega) hq⟩
      exact key M hq
    have := loopK_run (o := O) (kin := [1, 3, 21, 22]) (c := body23_1) (fun k => [(1, .i .i64 (dayK c d k)), (3, .bx c.cells), (21, .i .i64 ((M : Int) + 1)), (22, .i .i64 k)]) k (.r, [(6, .i .i64 0), (7, .i .i64 11)]) (by simp) (fun j hj => by
      have hr := r23 c d (M + 1) h hv (k := j) (by omega) (fun i hi => hkd i (by omega))
      obtain ⟨m, hm⟩ := hkd j hj
      rw [hm] at hr
      rw [hr]
      have : dayK c d (j + 1) = d + 1 + m := by simp [dayK, hm]
      simp only [this]) (by
        have hr := r23 c d (M + 1) h hv (k := k) (by omega) hkd
        rw [hkn] at hr
        have hx : ∀ (z : Option (Ex × Env)), kE [1, 3, 21, 22] z = some (.r, [(6, .i .i64 0), (7, .i .i64 11)]) → z = some (.r, [(6, .i .i64 0), (7, .i .i64 11)]) := fun z hz => by
          cases z with
          | none => simp at hz
          | some q =>
            obtain ⟨e, env⟩ := q
            cases e <;> simp [kE] at hz ⊢ <;> exact hz
        exact hx _ hr) (by simp)
    exact this
theorem e23 (c : Calendar) (d n : Int) (h : Small c) : O 23 [c.v, .i .i64 d, .i .i64 n] = some (addV c d n) := by
  refine orun (fc := code23) rfl rfl rfl ?_
  unfold addV
  by_cases k1 : validD d = true
  · by_cases k2 : n < 1
    · have ho : okA d n = false := by simp [okA, k1]; omega
      simp [code23, k1, k2, ho]
    · by_cases k3 : 1000 < n
      · have ho : okA d n = false := by simp [okA, k1]; omega
        simp [code23, k1, k2, k3, ho]
      · have ho : okA d n = true := by simp [okA, k1]; omega
        have hl := l23 c d n h ho
        cases hq : addN c d (n - 1).toNat <;> rw [hq] at hl <;> simp [code23, k1, k2, k3, ho, exec_loopK, hl]
  · have k1' : validD d = false := by simpa using k1
    have ho : okA d n = false := by simp [okA, k1']
    simp [code23, k1', ho]
/-! ### Law 6 -/
theorem e6 (c : Calendar) (d n : Int) : O 6 [c.v, .i .i64 d, .i .i64 n] = some (.b true) := by
  refine orun (fc := code6) rfl rfl rfl ?_
  have h14 := e14 c
  cases hf : fewB c with
  | false => rw [hf] at h14; simp [code6, h14, live]
  | true =>
    rw [hf] at h14
    have hs := few_small hf
    have h23 := e23 c d n hs
    have h24 := e24 c d n hs
    unfold addV at h23 h24
    cases ho : okA d n <;> rw [ho] at h23 h24
    · simp at h23 h24
      simp [code6, h14, h23, h24, live]
    · cases hq : addN c d (n - 1).toNat <;> rw [hq] at h23 h24 <;> simp at h23 h24 <;> simp [code6, h14, h23, h24, live]
/-! ### Law 8 -/
theorem cnt_days (c : Calendar) (d : Int) (hd : 0 ≤ d) (N : Nat) (hN : d + 1 + (N : Int) ≤ 73049) : cntD c (d + 1) (d + 1 + N) = cnt (aft c d) N := by
  unfold cntD
  rw [if_neg (by omega), if_neg (by omega)]
  have : (d + 1 + (N : Int) - (d + 1)).toNat = N := by omega
  rw [this]
theorem e8 (c : Calendar) (d n : Int) : O 8 [c.v, .i .i64 d, .i .i64 n] = some (.b true) := by
  refine orun (fc := code8) rfl rfl rfl ?_
  have h14 := e14 c
  cases hf : fewB c with
  | false => rw [hf] at h14; simp [code8, h14, live]
  | true =>
    rw [hf] at h14
    have hs := few_small hf
    have h23 := e23 c d n hs
    unfold addV at h23
    by_cases k1 : validD d = true
    · by_cases k2 : n < 1
      · have ho : okA d n = false := by simp [okA, k1]; omega
        rw [ho] at h23; simp at h23
        simp [code8, h14, h23, k1, k2, live]
      · by_cases k3 : 1000 < n
        · have ho : okA d n = false := by simp [okA, k1]; omega
          rw [ho] at h23; simp at h23
          simp [code8, h14, h23, k1, k2, k3, live]
        · have ho : okA d n = true := by simp [okA, k1]; omega
          rw [ho] at h23
          have hd := okA_iff.1 ho
          have hw := wrap_i64 (d + 1) (by omega)
          have hw2 := wrap_i64 (n - 1) (by omega)
          cases hq : addN c d (n - 1).toNat with
          | none =>
            rw [hq] at h23; simp at h23
            have h25 := e25 c (d + 1) 73049 hs
            have hle := nth_none.1 hq
            have hc := cnt_days c d hd.1.1 (73048 - d).toNat (by omega)
            have he : d + 1 + ((73048 - d).toNat : Int) = 73049 := by omega
            rw [he] at hc
            rw [hc] at h25
            have hlt : ((cnt (aft c d) (73048 - d).toNat : Nat) : Int) < n := by omega
            simp [code8, h14, h23, k1, k2, k3, hw, h25, hlt, live]
          | some i =>
            rw [hq] at h23; simp at h23
            obtain ⟨g1, g2, g3⟩ := nth_some.1 hq
            have h25 := e25 c (d + 1) (d + 1 + i) hs
            rw [cnt_days c d hd.1.1 i (by omega)] at h25
            have h19 := e19 c (d + 1 + i) hs
            have g2' : openB c (d + 1 + i) = true := g2
            rw [g2'] at h19
            have hgt : d < d + 1 + (i : Int) := by omega
            have hc : ((cnt (aft c d) i : Nat) : Int) = n - 1 := by omega
            simp [code8, h14, h23, k1, k2, k3, hw, hw2, h25, h19, hgt, hc, live]
    · have k1' : validD d = false := by simpa using k1
      have ho : okA d n = false := by simp [okA, k1']
      rw [ho] at h23; simp at h23
      simp [code8, h14, h23, k1', live]
end Go.Proofs.Ytmhodpnjhkokoaa
