/-
  What the functions that the laws reach compute: civil dates, the end of a month; law 5.
-/
import Derived.Test.YtmhodpnjhkokoaaSpec4
namespace Go.Proofs.Ytmhodpnjhkokoaa
open Go.VM
def leapB (y : Int) : Bool := if Int.tmod y 4 = 0 then (if Int.tmod y 100 = 0 then decide (Int.tmod y 400 = 0) else true) else false
@[simp] theorem e66 (y : Int) : O 66 [.i .i64 y] = some (.b (leapB y)) := by
  refine orun (fc := code66) rfl rfl rfl ?_
  unfold leapB
  by_cases h1 : Int.tmod y 4 = 0
  · by_cases h2 : Int.tmod y 100 = 0 <;> simp [code66, h1, h2]
  · simp [code66, h1]
@[simp] theorem e68 (y : Int) : O 68 [.i .i64 y] = some (.b (leapB y)) := by
  refine orun (fc := code68) rfl rfl rfl ?_
  unfold leapB
  by_cases h1 : Int.tmod y 4 = 0
  · by_cases h2 : Int.tmod y 100 = 0 <;> simp [code68, h1, h2]
  · simp [code68, h1]
def ylen (k : Nat) : Int := if leapB (2000 + k) = true then 366 else 365
theorem e67 (k : Nat) : O 67 [.i .i64 (2000 + k)] = some (.i .i64 (ylen k)) := by
  refine orun (fc := code67) rfl rfl rfl ?_
  unfold ylen
  cases h : leapB (2000 + k) <;> simp [code67, h]
def bgn (k : Nat) : Int := 365 * k + ((k + 3) / 4 : Nat) - (if 100 < k then 1 else 0)
theorem bgn_succ (k : Nat) : k < 200 → bgn (k + 1) = bgn k + ylen k := by
  have : ∀ k < 200, bgn (k + 1) = bgn k + ylen k := by decide +kernel
  exact this k
theorem bgn_mono {a b : Nat} (h : a ≤ b) : bgn a ≤ bgn b := by
  unfold bgn
  split <;> split <;> omega
theorem e65 (k : Nat) (h : k ≤ 200) : O 65 [.i .i64 (2000 + k)] = some (.i .i64 (bgn k)) := by
  refine orun (fc := code65) rfl rfl rfl ?_
  have e1 : (2000 : Int) + k - 2000 = k := by omega
  have hw1 := wrap_i64 (k : Int) (by omega)
  have hw2 := wrap_i64 ((k : Int) + 3) (by omega)
  have hd : Int.tdiv ((k : Int) + 3) 4 = (((k + 3) / 4 : Nat) : Int) := by
    rw [Int.tdiv_eq_ediv_of_nonneg (by omega)]; omega
  obtain ⟨q, hq⟩ : ∃ q : Nat, (k + 3) / 4 = q := ⟨_, rfl⟩
  rw [hq] at hd
  have hwq := wrap_i64 (q : Int) (by omega)
  have hwq1 := wrap_i64 ((q : Int) - 1) (by omega)
  have hw3 := wrap_i64 (365 * (k : Int)) (by omega)
  have hw4 := wrap_i64 (365 * (k : Int) + q) (by omega)
  have hw5 := wrap_i64 (365 * (k : Int) + ((q : Int) - 1)) (by omega)
  unfold bgn
  rw [hq]
  by_cases h1 : 100 < k
  · have h2 : (2100 : Int) < 2000 + k := by omega
    have e2 : 365 * (k : Int) + q - 1 = 365 * k + (q - 1) := by omega
    simp [code65, e1, hw1, hw2, hd, hwq, hwq1, hw3, hw5, h1, h2, e2]
  · have h2 : ¬ (2100 : Int) < 2000 + k := by omega
    simp [code65, e1, hw1, hw2, hd, hwq, hw3, hw4, h1, h2]
/-! ### Months -/
def lenB (b : Bool) : Nat → Int
  | 1 => 31
  | 2 => if b then 29 else 28
  | 3 => 31
  | 4 => 30
  | 5 => 31
  | 6 => 30
  | 7 => 31
  | 8 => 31
  | 9 => 30
  | 10 => 31
  | 11 => 30
  | 12 => 31
  | _ => 0
theorem e58 (y : Int) (m : Nat) (h1 : 1 ≤ m) (h2 : m ≤ 12) : O 58 [.i .i64 y, .i .i64 m] = some (.i .i64 (lenB (leapB y) m)) := by
  refine orun (fc := code58) rfl rfl rfl ?_
  match m, h1, h2 with
  | 1, _, _ => simp [code58, lenB, sub]
  | 2, _, _ => cases h : leapB y <;> simp [code58, lenB, sub, h]
  | 3, _, _ => simp [code58, lenB, sub]
  | 4, _, _ => simp [code58, lenB, sub]
  | 5, _, _ => simp [code58, lenB, sub]
  | 6, _, _ => simp [code58, lenB, sub]
  | 7, _, _ => simp [code58, lenB, sub]
  | 8, _, _ => simp [code58, lenB, sub]
  | 9, _, _ => simp [code58, lenB, sub]
  | 10, _, _ => simp [code58, lenB, sub]
  | 11, _, _ => simp [code58, lenB, sub]
  | 12, _, _ => simp [code58, lenB, sub]
theorem e60 (y : Int) (m : Nat) (h1 : 1 ≤ m) (h2 : m ≤ 12) : O 60 [.i .i64 y, .i .i64 m] = some (.i .i64 (lenB (leapB y) m)) := by
  refine orun (fc := code60) rfl rfl rfl ?_
  match m, h1, h2 with
  | 1, _, _ => simp [code60, lenB]
  | 2, _, _ => cases h : leapB y <;> simp [code60, lenB, h]
  | 3, _, _ => simp [code60, lenB]
  | 4, _, _ => simp [code60, lenB]
  | 5, _, _ => simp [code60, lenB]
  | 6, _, _ => simp [code60, lenB]
  | 7, _, _ => simp [code60, lenB]
  | 8, _, _ => simp [code60, lenB]
  | 9, _, _ => simp [code60, lenB]
  | 10, _, _ => simp [code60, lenB]
  | 11, _, _ => simp [code60, lenB]
  | 12, _, _ => simp [code60, lenB]
/-- The days of the first months. -/
def cum (b : Bool) : Nat → Int
  | 0 => 0
  | m + 1 => cum b m + lenB b (m + 1)
theorem cum12 (k : Nat) : cum (leapB (2000 + k)) 12 = ylen k := by
  unfold ylen
  cases leapB (2000 + k) <;> rfl
theorem lenB_pos (b : Bool) (m : Nat) (h1 : 1 ≤ m) (h2 : m ≤ 12) : 28 ≤ lenB b m ∧ lenB b m ≤ 31 := by
  have : ∀ b, ∀ m < 13, 1 ≤ m → 28 ≤ lenB b m ∧ lenB b m ≤ 31 := by decide +kernel
  exact this b m (by omega) h1
theorem cum_mono (b : Bool) {m n : Nat} (h : m ≤ n) (hn : n ≤ 12) : cum b m ≤ cum b n := by
  have : ∀ b, ∀ n < 13, ∀ m < n + 1, cum b m ≤ cum b n := by decide +kernel
  exact this b n (by omega) m (by omega)
/-- Where a number falls between the steps of a stair. -/
theorem stair (f : Nat → Int) (d : Int) (h0 : f 0 ≤ d) : ∀ n, d < f n → ∃ y, y < n ∧ f y ≤ d ∧ d < f (y + 1)
  | 0, h => by omega
  | n + 1, h => by
    by_cases hn : d < f n
    · obtain ⟨y, h1, h2⟩ := stair f d h0 n hn
      exact ⟨y, by omega, h2⟩
    · exact ⟨n, by omega, by omega, h⟩
theorem year_of {d : Int} (hv : validD d = true) : ∃ Y, Y < 200 ∧ bgn Y ≤ d ∧ d < bgn (Y + 1) := by
  have hd := valid_iff.1 hv
  exact stair bgn d (by have : bgn 0 = 0 := rfl; omega) 200 (by have : bgn 200 = 73049 := rfl; omega)
theorem month_of {Y : Nat} {d : Int} (hY : Y < 200) (h1 : bgn Y ≤ d) (h2 : d < bgn (Y + 1)) : ∃ M, M < 12 ∧ cum (leapB (2000 + Y)) M ≤ d - bgn Y ∧ d - bgn Y < cum (leapB (2000 + Y)) (M + 1) :=
  stair (cum (leapB (2000 + Y))) (d - bgn Y) (by have : cum (leapB (2000 + Y)) 0 = 0 := rfl; omega) 12 (by rw [cum12]; have := bgn_succ Y hY; omega)
def civV (Y M : Nat) (d : Int) : V := .t [.i .i64 (2000 + Y), .i .i64 (M + 1 : Nat), .i .i64 (d - bgn Y - cum (leapB (2000 + Y)) M + 1)]
theorem bgn_bounds (k : Nat) (h : k ≤ 200) : 0 ≤ bgn k ∧ bgn k ≤ 366 * k ∧ bgn k ≤ 73049 := by
  unfold bgn
  split <;> omega
theorem l57a {d : Int} (_hv : validD d = true) {Y k0 : Nat} (hY : Y < 200) (h1 : bgn Y ≤ d) (h2 : d < bgn (Y + 1)) (hk : k0 ≤ Y) : loopK O [0, 5] body57_1 [(0, .i .i64 d), (5, .i .i64 (2000 + k0))] = some (.e 0, [(0, .i .i64 d), (5, .i .i64 (2000 + Y))]) := by
  obtain ⟨n, rfl⟩ : ∃ n, Y = k0 + n := ⟨Y - k0, by omega⟩
  have := loopK_run (o := O) (kin := [0, 5]) (c := body57_1) (fun i => [(0, .i .i64 d), (5, .i .i64 (2000 + (k0 + i : Nat)))]) n (.e 0, [(0, .i .i64 d), (5, .i .i64 (2000 + (k0 + n : Nat)))]) (by simp) (fun i hi => by
    have e1 : (2000 : Int) + ((k0 + i : Nat) : Int) + 1 = 2000 + ((k0 + i + 1 : Nat) : Int) := by omega
    have h65 := e65 (k0 + i + 1) (by omega)
    have hw := wrap_i64 (2000 + ((k0 + i + 1 : Nat) : Int)) (by omega)
    have hle : bgn (k0 + i + 1) ≤ d := by have := bgn_mono (show k0 + i + 1 ≤ k0 + n by omega); omega
    have e2 : k0 + (i + 1) = k0 + i + 1 := by omega
    rw [e2]
    generalize hz : (2000 : Int) + ((k0 + i + 1 : Nat) : Int) = z at *
    generalize hx : (2000 : Int) + ((k0 + i : Nat) : Int) = x at *
    simp [body57_1, e1, hw, h65, hle]) (by
      have e1 : (2000 : Int) + ((k0 + n : Nat) : Int) + 1 = 2000 + ((k0 + n + 1 : Nat) : Int) := by omega
      have h65 := e65 (k0 + n + 1) (by omega)
      have hw := wrap_i64 (2000 + ((k0 + n + 1 : Nat) : Int)) (by omega)
      have hle : ¬ bgn (k0 + n + 1) ≤ d := by omega
      generalize hz : (2000 : Int) + ((k0 + n + 1 : Nat) : Int) = z at *
      generalize hx : (2000 : Int) + ((k0 + n : Nat) : Int) = x at *
      simp [body57_1, e1, hw, h65, hle]) (by simp)
  exact this
theorem l57b (y r : Int) (b : Bool) (hb : leapB y = b) {M : Nat} (hM : M < 12) (hr : 0 ≤ r) (hr2 : r ≤ 400) (h1 : cum b M ≤ r) (h2 : r < cum b (M + 1)) : loopK O [0, 5, 6] body57_2 [(0, .i .i64 r), (5, .i .i64 y), (6, .i .i64 1)] = some (.e 2, [(0, .i .i64 (r - cum b M)), (5, .i .i64 y), (6, .i .i64 (M + 1 : Nat))]) := by
  have := loopK_run (o := O) (kin := [0, 5, 6]) (c := body57_2) (fun i => [(0, .i .i64 (r - cum b i)), (5, .i .i64 y), (6, .i .i64 (i + 1 : Nat))]) M (.e 2, [(0, .i .i64 (r - cum b M)), (5, .i .i64 y), (6, .i .i64 (M + 1 : Nat))]) (by simp) (fun i hi => by
    have h58 := e58 y (i + 1) (by omega) (by omega)
    rw [hb] at h58
    have hc : cum b (i + 1) = cum b i + lenB b (i + 1) := rfl
    have hm := cum_mono b (show i + 1 ≤ M by omega) (by omega)
    have h0 := cum_mono b (show 0 ≤ i + 1 by omega) (by omega)
    have h00 : cum b 0 = 0 := rfl
    have hp := lenB_pos b (i + 1) (by omega) (by omega)
    have hle : lenB b (i + 1) ≤ r - cum b i := by omega
    have hw := wrap_i64 (r - cum b i - lenB b (i + 1)) (by omega)
    have hw2 := wrap_i64 ((i + 1 : Nat) + 1) (by omega)
    have e1 : r - cum b (i + 1) = r - cum b i - lenB b (i + 1) := by omega
    rw [e1]
    generalize lenB b (i + 1) = L at *
    generalize r - cum b i = R at *
    simp at h58 hw2
    simp [body57_2, h58, hle, hw, hw2]) (by
      have h58 := e58 y (M + 1) (by omega) (by omega)
      rw [hb] at h58
      have hc : cum b (M + 1) = cum b M + lenB b (M + 1) := rfl
      have hle : ¬ lenB b (M + 1) ≤ r - cum b M := by omega
      generalize lenB b (M + 1) = L at *
      generalize r - cum b M = R at *
      simp at h58
      simp [body57_2, h58, hle]) (by simp)
  have h00 : r - cum b 0 = r := by simp [cum]
  rw [h00] at this
  exact this
theorem e57 {d : Int} (hv : validD d = true) {Y M : Nat} (hY : Y < 200) (h1 : bgn Y ≤ d) (h2 : d < bgn (Y + 1)) (hM : M < 12) (h3 : cum (leapB (2000 + Y)) M ≤ d - bgn Y) (h4 : d - bgn Y < cum (leapB (2000 + Y)) (M + 1)) : O 57 [.i .i64 d] = some (civV Y M d) := by
  refine orun (fc := code57) rfl rfl rfl ?_
  have hd := valid_iff.1 hv
  obtain ⟨k0, hk0⟩ : ∃ k0 : Nat, Int.tdiv d 366 = k0 := ⟨(Int.tdiv d 366).toNat, by rw [Int.tdiv_eq_ediv_of_nonneg hd.1]; omega⟩
  have hk1 : 366 * (k0 : Int) ≤ d ∧ (k0 : Int) ≤ 199 := by rw [Int.tdiv_eq_ediv_of_nonneg hd.1] at hk0; omega
  have hk : k0 ≤ Y := by
    false_or_by_contra
    have := bgn_mono (show Y + 1 ≤ k0 by omega)
    have := (bgn_bounds k0 (by omega)).2.1
    omega
  have la := l57a hv hY h1 h2 hk
  have hyl := bgn_succ Y hY
  have hyl2 : ylen Y ≤ 366 := by unfold ylen; split <;> omega
  have lb := l57b (2000 + Y) (d - bgn Y) _ rfl hM (by omega) (by omega) h3 h4
  have h65 := e65 Y (by omega)
  have hb := bgn_bounds Y (by omega)
  have hw0 := wrap_i64 (k0 : Int) (by omega)
  have hw1 := wrap_i64 (2000 + (k0 : Int)) (by omega)
  have hw2 := wrap_i64 (d - bgn Y) (by omega)
  have h00 := cum_mono (leapB (2000 + Y)) (show 0 ≤ M by omega) (by omega)
  have h01 : cum (leapB (2000 + Y)) 0 = 0 := rfl
  have hw3 := wrap_i64 (d - bgn Y - cum (leapB (2000 + Y)) M + 1) (by omega)
  unfold civV
  generalize cum (leapB (2000 + Y)) M = C at *
  generalize hB : bgn Y = B at *
  generalize hy : (2000 : Int) + (Y : Int) = y at *
  simp [code57, hv, hk0, hw0, hw1, exec_loopK, la, h65, hw2, lb, hw3]
end Go.Proofs.Ytmhodpnjhkokoaa
