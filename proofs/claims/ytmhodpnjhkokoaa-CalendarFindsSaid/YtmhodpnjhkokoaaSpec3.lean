/-
  What the functions that the laws reach compute: Find, Same, Join; laws 3, 4 and 10.
-/
import Derived.Test.YtmhodpnjhkokoaaSpec2
namespace Go.Proofs.Ytmhodpnjhkokoaa
open Go.VM
def fewB (c : Calendar) : Bool := decide (c.weekend.length ≤ 20) && decide (c.holidays.length ≤ 40)
theorem e14 (c : Calendar) : O 14 [c.v] = some (.b (fewB c)) := by
  refine orun (fc := code14) rfl rfl rfl ?_
  have h1 : (c.weekend.length : Int) ≤ 20 ↔ c.weekend.length ≤ 20 := by omega
  have h2 : (c.holidays.length : Int) ≤ 40 ↔ c.holidays.length ≤ 40 := by omega
  simp [code14, fewB, h1, h2]
theorem few_len {c : Calendar} (h : fewB c = true) : c.weekend.length ≤ 20 ∧ c.holidays.length ≤ 40 := by simpa [fewB] using h
theorem few_small {c : Calendar} (h : fewB c = true) : Small c := by have := few_len h; exact ⟨by omega, by omega⟩
theorem l49 (l : List Int) (h : l.length ≤ 1000) : loopK O [0, 1, 5] body49_1 [(0, .l (encL (V.i .i64) l)), (1, .l (encL (V.i .i64) l)), (5, .i .i64 0)] = some (.e 0, []) :=
  loopK_run (o := O) (kin := [0, 1, 5]) (c := body49_1) (fun i => [(0, .l (encL (V.i .i64) l)), (1, .l (encL (V.i .i64) l)), (5, .i .i64 i)]) l.length (.e 0, []) (by simp) (fun i hi => by
    have hw := wrap_i64 (i + 1) (by omega)
    simp [body49_1, hi, hw]) (by simp [body49_1]) (by simp)
theorem e49 (l : List Int) (h : l.length ≤ 1000) : O 49 [.l (encL (V.i .i64) l), .l (encL (V.i .i64) l)] = some (.b true) := by
  refine orun (fc := code49) rfl rfl rfl ?_
  have hl := l49 l h
  simp [code49, exec_loopK, hl]
theorem e29 (c : Calendar) (h : Small c) : O 29 [c.v, c.v] = some (.b true) := by
  refine orun (fc := code29) rfl rfl rfl ?_
  have h1 := e49 c.weekend h.1
  have h2 := e49 c.holidays h.2
  simp [code29, h1, h2]
/-! ### Law 3 -/
theorem e3 (c : Calendar) : O 3 [c.v] = some (.b true) := by
  refine orun (fc := code3) rfl rfl rfl ?_
  by_cases h1 : (100 : Int) < (c.name.length : Int)
  · simp [code3, h1, live]
  · by_cases h2 : (100 : Int) < (c.weekend.length : Int)
    · simp [code3, h1, h2, live]
    · by_cases h3 : (500 : Int) < (c.holidays.length : Int)
      · simp [code3, h1, h2, h3, live]
      · have hs : Small c := ⟨by omega, by omega⟩
        have h12 := e12 c hs (by simp only [maxLen]; omega)
        have h13 := e13 c hs
        simp [code3, h1, h2, h3, h12, h13, live]
/-! ### Law 4 -/
set_option maxHeartbeats 4000000 in
theorem e4 (c : Calendar) (d : Int) : O 4 [c.v, .i .i64 d] = some (.b true) := by
  refine orun (fc := code4) rfl rfl rfl ?_
  have h14 := e14 c
  cases hf : fewB c with
  | false => rw [hf] at h14; simp [code4, h14, live]
  | true =>
    rw [hf] at h14
    have hs := few_small hf
    have h15 := e15 c d hs
    have h16 := e16 c d hs
    have h17 := e17 c d hs
    have h18 := e18 c d hs
    have h19 := e19 c d hs
    have h20 := e20 c d hs
    cases hv : validD d <;> cases hu : upD c d <;> cases hd : dnD c d <;> rw [hv, hu] at h15 h16 <;> rw [hv, hd] at h17 h18 <;> simp [dayV] at h15 h16 h17 h18 <;> simp [code4, h14, h15, h16, h17, h18, h19, h20, live]
/-! ### Find -/
def nameAt (l : List Calendar) (n : List UInt8) (i : Nat) : Option Nat := match l[i]? with
  | some c => if c.name = n then some i else none
  | none => none
def posN (l : List Calendar) (n : List UInt8) : Option Nat := (List.range l.length).findSome? (nameAt l n)
theorem posN_some {l : List Calendar} {n : List UInt8} {i : Nat} (h : posN l n = some i) : i < l.length := by
  unfold posN at h
  obtain ⟨k, hk, hp⟩ := List.exists_of_findSome?_eq_some h
  have hk' : k < l.length := List.mem_range.1 hk
  simp [nameAt, hk'] at hp
  obtain ⟨_, rfl⟩ := hp
  exact hk'
@[simp] theorem e52 (c : Calendar) (n : List UInt8) : O 52 [c.v, .r [.s n]] = some (.b (decide (c.name = n))) := by
  refine orun (fc := code52) rfl rfl rfl ?_; simp [code52]
theorem l51 (l : List Calendar) (n : List UInt8) (h : l.length ≤ 1000) : loopK O [0, 1, 7, 8] body51_1 [(0, .l (encL Calendar.v l)), (1, .f (.func 52) [] [.r [.s n]]), (7, .i .i64 l.length), (8, .i .i64 0)] = some (optE (fun (i : Nat) => (.r, [(4, .i .i64 i)])) (.e 0, []) (posN l n)) := by
  have := loopK_code (o := O) (kin := [0, 1, 7, 8]) (c := body51_1) (fun i => [(0, .l (encL Calendar.v l)), (1, .f (.func 52) [] [.r [.s n]]), (7, .i .i64 l.length), (8, .i .i64 i)]) l.length (nameAt l n) (fun (i : Nat) => (.r, [(4, .i .i64 i)])) (.e 0, []) (by simp) (by simp) (fun i hi => by
    have hw := wrap_i64 (i + 1) (by omega)
    have h52 := e52 l[i] n
    by_cases c : l[i].name = n
    · rw [decide_eq_true c] at h52
      simp only [Calendar.v, c] at h52
      simp [body51_1, hi, nameAt, c, h52]
    · rw [decide_eq_false c] at h52
      simp [body51_1, hi, hw, nameAt, c, h52]) (by simp [body51_1]) (by simp)
  exact this
theorem e51 (l : List Calendar) (n : List UInt8) (h : l.length ≤ 1000) : O 51 [.l (encL Calendar.v l), .f (.func 52) [] [.r [.s n]]] = some (posV (posN l n)) := by
  refine orun (fc := code51) rfl rfl rfl ?_
  have hl := l51 l n h
  cases hp : posN l n <;> rw [hp] at hl <;> simp [code51, exec_loopK, hl, posV]
/-! ### Counts -/
/-- How many of the first n numbers meet a condition. -/
def cnt (p : Nat → Bool) : Nat → Nat
  | 0 => 0
  | n + 1 => cnt p n + if p n = true then 1 else 0
theorem cnt_le (p : Nat → Bool) : ∀ n, cnt p n ≤ n
  | 0 => Nat.le_refl _
  | n + 1 => by
    have := cnt_le p n
    unfold cnt
    split <;> omega
theorem cnt_congr {p q : Nat → Bool} : ∀ {n : Nat}, (∀ i, i < n → p i = q i) → cnt p n = cnt q n
  | 0, _ => rfl
  | n + 1, h => by
    unfold cnt
    rw [cnt_congr fun i hi => h i (by omega), h n (by omega)]
theorem cnt_false {p : Nat → Bool} {n : Nat} (h : ∀ i, i < n → p i = false) : cnt p n = 0 := by
  induction n with
  | zero => rfl
  | succ n ih =>
    unfold cnt
    rw [ih fun i hi => h i (by omega), h n (by omega)]
    rfl
theorem cnt_add (p : Nat → Bool) (m : Nat) : ∀ n, cnt p (m + n) = cnt p m + cnt (fun i => p (m + i)) n
  | 0 => rfl
  | n + 1 => by
    show cnt p (m + n) + _ = cnt p m + (cnt (fun i => p (m + i)) n + _)
    rw [cnt_add p m n]
    exact Nat.add_assoc _ _ _
/-- The open days from one day to ahead of another. -/
def cntD (c : Calendar) (a b : Int) : Nat := cnt (fun i => openB c ((if a < 0 then 0 else a) + i)) ((if 73049 < b then 73049 else b) - (if a < 0 then 0 else a)).toNat
theorem l25 (c : Calendar) (a b : Int) (h : Small c) : loopK O [2, 3, 7, 8] body25_1 [(2, .i .i64 b), (3, .bx c.cells), (7, .i .i64 0), (8, .i .i64 (if a < 0 then 0 else a))] = some (.e 0, [(7, .i .i64 (cntD c a b))]) := by
  unfold cntD
  generalize hl : (if a < 0 then (0 : Int) else a) = lo
  have hlo : 0 ≤ lo := by rw [← hl]; split <;> omega
  obtain ⟨H, hH⟩ : ∃ H : Int, (if 73049 < b then 73049 else b) = H := ⟨_, rfl⟩
  have hH9 : H ≤ 73049 := by rw [← hH]; split <;> omega
  rw [hH]
  obtain ⟨N, hN⟩ : ∃ N : Nat, (H - lo).toNat = N := ⟨_, rfl⟩
  rw [hN]
  have := loopK_run (o := O) (kin := [2, 3, 7, 8]) (c := body25_1) (fun i => [(2, .i .i64 b), (3, .bx c.cells), (7, .i .i64 (cnt (fun i => openB c (lo + i)) i : Nat)), (8, .i .i64 (lo + i))]) N (.e 0, [(7, .i .i64 (cnt (fun i => openB c (lo + i)) N : Nat))]) (by simp) (fun i hi => by
    have hb1 : lo + (i : Int) < H := by omega
    have hw := wrap_i64 (lo + (i + 1)) (by omega)
    have hle := cnt_le (fun i => openB c (lo + i)) i
    have hw2 := wrap_i64 ((cnt (fun i => openB c (lo + i)) i : Nat) + 1) (by omega)
    have h19 := e19 c (lo + i) h
    have ha : lo + (i : Int) + 1 = lo + ((i : Int) + 1) := by omega
    cases ho : openB c (lo + i) <;> rw [ho] at h19 <;> simp [body25_1, h19, hw, hw2, ha, cnt, ho, hH, hb1]) (by
      have hn : ¬ lo + (N : Int) < H := by omega
      simp [body25_1, hH, hn]) (by simp)
  have h0 : lo + ((0 : Nat) : Int) = lo := by simp
  rw [h0] at this
  exact this
theorem e25 (c : Calendar) (a b : Int) (h : Small c) : O 25 [c.v, .i .i64 a, .i .i64 b] = some (.i .i64 (cntD c a b)) := by
  refine orun (fc := code25) rfl rfl rfl ?_
  have hl := l25 c a b h
  by_cases h0 : a < 0
  · rw [if_pos h0] at hl
    simp [code25, exec_loopK, hl, h0]
  · rw [if_neg h0] at hl
    simp [code25, exec_loopK, hl, h0]
def inB (c : Calendar) (a b : Int) (i : Nat) : Bool := (decide (a ≤ i) && decide ((i : Int) < b)) && openB c i
theorem l26 (c : Calendar) (a b : Int) (h : Small c) : loopK O [1, 2, 3, 7, 8] body26_1 [(1, .i .i64 a), (2, .i .i64 b), (3, .bx c.cells), (7, .i .i64 0), (8, .i .i64 0)] = some (.e 0, [(7, .i .i64 (cnt (inB c a b) 73049 : Nat))]) := by
  have := loopK_run (o := O) (kin := [1, 2, 3, 7, 8]) (c := body26_1) (fun i => [(1, .i .i64 a), (2, .i .i64 b), (3, .bx c.cells), (7, .i .i64 (cnt (inB c a b) i : Nat)), (8, .i .i64 i)]) 73049 (.e 0, [(7, .i .i64 (cnt (inB c a b) 73049 : Nat))]) (by simp) (fun i hi => by
    have hw := wrap_i64 (i + 1) (by omega)
    have hle := cnt_le (inB c a b) i
    have hw2 := wrap_i64 ((cnt (inB c a b) i : Nat) + 1) (by omega)
    have h20 := e20 c i h
    have h8 : (i : Int) ≤ 73048 := by omega
    by_cases h1 : a ≤ (i : Int)
    · by_cases h2 : (i : Int) < b
      · cases ho : openB c i <;> rw [ho] at h20 <;> simp [body26_1, h20, hw, hw2, cnt, inB, ho, h8, h1, h2]
      · simp [body26_1, hw, cnt, inB, h8, h1, h2]
    · simp [body26_1, hw, cnt, inB, h8, h1]) (by simp [body26_1]) (by simp)
  exact this
theorem cnt_in (c : Calendar) (a b : Int) : cnt (inB c a b) 73049 = cntD c a b := by
  unfold cntD
  generalize hl : (if a < 0 then (0 : Int) else a) = lo
  obtain ⟨H, hH⟩ : ∃ H : Int, (if 73049 < b then 73049 else b) = H := ⟨_, rfl⟩
  rw [hH]
  have hlo : 0 ≤ lo ∧ (∀ i : Nat, a ≤ (i : Int) ↔ lo ≤ (i : Int)) := by
    rw [← hl]
    split
    · exact ⟨by omega, fun i => by omega⟩
    · exact ⟨by omega, fun i => Iff.rfl⟩
  have hHi : H ≤ 73049 ∧ (∀ i : Nat, i < 73049 → ((i : Int) < b ↔ (i : Int) < H)) := by
    rw [← hH]
    split
    · exact ⟨by omega, fun i hi => by omega⟩
    · exact ⟨by omega, fun i hi => Iff.rfl⟩
  by_cases he : lo < H
  · obtain ⟨L, hL⟩ : ∃ L : Nat, lo = L := ⟨lo.toNat, by omega⟩
    obtain ⟨N, hN⟩ : ∃ N : Nat, (H - lo).toNat = N := ⟨_, rfl⟩
    obtain ⟨R, hR⟩ : ∃ R : Nat, 73049 = L + N + R := ⟨73049 - L - N, by omega⟩
    rw [hN, hR, cnt_add, cnt_add]
    have z1 : cnt (inB c a b) L = 0 := cnt_false fun i hi => by
      have : ¬ a ≤ (i : Int) := fun h => by have := (hlo.2 i).1 h; omega
      simp [inB, this]
    have z3 : cnt (fun i => inB c a b (L + N + i)) R = 0 := cnt_false fun i hi => by
      have : ¬ ((L + N + i : Nat) : Int) < b := fun h => by have := (hHi.2 (L + N + i) (by omega)).1 h; omega
      unfold inB
      rw [decide_eq_false this]; simp
    rw [z1, z3, Nat.zero_add, Nat.add_zero]
    refine cnt_congr fun i hi => ?_
    have h1 : a ≤ ((L + i : Nat) : Int) := (hlo.2 _).2 (by omega)
    have h2 : ((L + i : Nat) : Int) < b := (hHi.2 _ (by omega)).2 (by omega)
    have h3 : ((L + i : Nat) : Int) = lo + i := by omega
    unfold inB
    rw [decide_eq_true h1, decide_eq_true h2, h3]
    rfl
  · have hN : (H - lo).toNat = 0 := by omega
    rw [hN]
    refine (cnt_false fun i hi => ?_).trans rfl
    by_cases h1 : a ≤ (i : Int)
    · have : ¬ (i : Int) < b := fun h => by have := (hHi.2 i hi).1 h; have := (hlo.2 i).1 h1; omega
      simp [inB, this]
    · simp [inB, h1]
theorem e26 (c : Calendar) (a b : Int) (h : Small c) : O 26 [c.v, .i .i64 a, .i .i64 b] = some (.i .i64 (cntD c a b)) := by
  refine orun (fc := code26) rfl rfl rfl ?_
  have hl := l26 c a b h
  rw [cnt_in] at hl
  simp [code26, exec_loopK, hl]
/-! ### Law 7 -/
theorem cntD_le (c : Calendar) (a b : Int) : cntD c a b ≤ 73049 := by
  rw [← cnt_in]; exact cnt_le _ _
theorem cnt_split {p q r : Nat → Bool} : ∀ {n : Nat}, (∀ i, i < n → (if r i = true then 1 else 0) = (if p i = true then 1 else 0) + (if q i = true then 1 else 0)) → cnt r n = cnt p n + cnt q n
  | 0, _ => rfl
  | n + 1, h => by
    show cnt r n + _ = (cnt p n + _) + (cnt q n + _)
    rw [cnt_split (n := n) fun i hi => h i (by omega), h n (by omega)]
    omega
theorem cntD_add (c : Calendar) {a m b : Int} (h1 : a ≤ m) (h2 : m ≤ b) : cntD c a m + cntD c m b = cntD c a b := by
  rw [← cnt_in, ← cnt_in, ← cnt_in]
  refine (cnt_split fun i _ => ?_).symm
  unfold inB
  by_cases k1 : a ≤ (i : Int) <;> by_cases k2 : (i : Int) < m <;> by_cases k3 : m ≤ (i : Int) <;> by_cases k4 : (i : Int) < b <;> first | omega | (cases openB c i <;> simp [k1, k2, k3, k4])
theorem e7 (c : Calendar) (s : Span) : O 7 [c.v, s.v] = some (.b true) := by
  refine orun (fc := code7) rfl rfl rfl ?_
  have h14 := e14 c
  cases hf : fewB c with
  | false => rw [hf] at h14; simp [code7, h14, live]
  | true =>
    rw [hf] at h14
    have hs := few_small hf
    obtain ⟨a, m, b⟩ := s
    have h1 := e25 c a b hs
    have h2 := e26 c a b hs
    have h3 := e25 c a m hs
    have h4 := e25 c m b hs
    by_cases k1 : m < a
    · simp [code7, h14, h1, h2, k1, live]
    · by_cases k2 : b < m
      · simp [code7, h14, h1, h2, k1, k2, live]
      · have hadd := cntD_add c (show a ≤ m by omega) (show m ≤ b by omega)
        have hle := cntD_le c a b
        have hw := wrap_i64 ((cntD c a m : Int) + (cntD c m b : Int)) (by omega)
        have he : (cntD c a m : Int) + (cntD c m b : Int) = (cntD c a b : Int) := by omega
        rw [he] at hw
        simp [code7, h14, h1, h2, h3, h4, k1, k2, he, hw, live]
end Go.Proofs.Ytmhodpnjhkokoaa
