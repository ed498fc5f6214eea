/-
  What the functions that the laws reach compute: the days on which versions begin.
-/
import Derived.Test.YtlmbgmobghmmmaaSpec4
namespace Go.Proofs.Ytlmbgmobghmmmaa
open Go.VM
def inB (a b d : Int) : Bool := decide (a ≤ d) && decide (d ≤ b)
def dayF (v : List Product) (a b : Int) : List Int := (v.map (·.from')).filter (inB a b)
theorem dayF_take (v : List Product) (a b : Int) {i : Nat} (hi : i < v.length) : dayF (v.take (i + 1)) a b = if inB a b v[i].from' = true then dayF (v.take i) a b ++ [v[i].from'] else dayF (v.take i) a b := by
  unfold dayF
  rw [List.take_succ_eq_append_getElem hi, List.map_append, List.filter_append]
  cases h : inB a b v[i].from' <;> simp [h]
theorem dayF_len (v : List Product) (a b : Int) (i : Nat) : (dayF (v.take i) a b).length ≤ i := by
  have h1 := List.length_filter_le (inB a b) ((v.take i).map (·.from'))
  have h2 : ((v.take i).map (·.from')).length ≤ i := by simp; omega
  unfold dayF; omega
theorem l24 (v : List Product) (a b : Int) (h : v.length ≤ 1000) : loopK O [2, 3, 9, 14, 15, 16] body24_1 [(2, .i .i64 a), (3, .i .i64 b), (9, .ow 3 []), (14, .ow 33 (encL Product.v v)), (15, .i .i64 v.length), (16, .i .i64 0)] = some (.e 0, [(9, .ow 3 (ints (dayF v a b)))]) := by
  have := loopK_run (o := O) (kin := [2, 3, 9, 14, 15, 16]) (c := body24_1) (fun i => [(2, .i .i64 a), (3, .i .i64 b), (9, .ow 3 (ints (dayF (v.take i) a b))), (14, .ow 33 (encL Product.v v)), (15, .i .i64 v.length), (16, .i .i64 i)]) v.length (.e 0, [(9, .ow 3 (ints (dayF v a b)))]) (by simp) (fun i hi => by
    have hw := wrap_i64 (i + 1) (by omega)
    have hlen := dayF_len v a b i
    have hb : ((dayF (v.take i) a b).length + 1) * 8 ≤ 140737488355328 := by omega
    have ht : v[i].rest.take 15 = v[i].rest := List.take_of_length_le (by simp)
    rw [dayF_take v a b hi]
    generalize dayF (v.take i) a b = u at hlen hb ⊢
    unfold inB
    by_cases h1 : a ≤ v[i].from'
    · by_cases h2 : v[i].from' ≤ b
      · simp [body24_1, hi, hw, ht, h1, h2, hb, encL_append, encL_cons]
      · simp [body24_1, hi, hw, ht, h1, h2]
    · simp [body24_1, hi, hw, ht, h1]) (by simp [body24_1]) (by simp)
  exact this
theorem e24 (l : List Product) (n : List UInt8) (a b : Int) (h : l.length ≤ 1000) : O 24 [.l (encL Product.v l), .s n, .i .i64 a, .i .i64 b] = some (.ow 3 (ints (uni (dayF (verS l n) a b) []))) := by
  refine orun (fc := code24) rfl rfl rfl ?_
  have h21 := e21 l n h
  have hv : (verS l n).length ≤ 1000 := by
    have := List.length_filter_le (fun p : Product => decide (p.name = n)) l
    unfold verS; omega
  have hl := l24 (verS l n) a b hv
  have hd : (dayF (verS l n) a b).length ≤ 1000 := by
    have := dayF_len (verS l n) a b (verS l n).length
    rw [List.take_length] at this; omega
  unfold uni
  rw [List.append_nil]
  generalize dayF (verS l n) a b = d at hl hd ⊢
  generalize verS l n = v at h21 hl hv
  have h2 : d.length ≤ 1000000 := by omega
  have h3 : (isort d).length ≤ 1000000 := by rw [(isort_perm _).length_eq]; exact h2
  generalize hs : isort d = s at h3 ⊢
  simp [code24, exec_loopK, h21, hl, sortRun, compRun, hs, h2, h3]
def dayS (l : List Product) (n : List UInt8) (a b : Int) : List Int := dayF (verS l n) a b
theorem dayS_take (l : List Product) (n : List UInt8) (a b : Int) {i : Nat} (hi : i < l.length) : dayS (l.take (i + 1)) n a b = if l[i].name = n ∧ inB a b l[i].from' = true then dayS (l.take i) n a b ++ [l[i].from'] else dayS (l.take i) n a b := by
  unfold dayS dayF
  rw [verS_take l n hi]
  by_cases h : l[i].name = n
  · rw [if_pos h, List.map_append, List.filter_append]
    cases h2 : inB a b l[i].from' <;> simp [h, h2]
  · simp [h]
theorem dayS_len (l : List Product) (n : List UInt8) (a b : Int) (i : Nat) : (dayS (l.take i) n a b).length ≤ i := by
  have h1 := List.length_filter_le (inB a b) ((verS (l.take i) n).map (·.from'))
  have h2 := verS_len l n i
  unfold dayS dayF
  rw [List.length_map] at h1; omega
theorem l25 (l : List Product) (n : List UInt8) (a b : Int) (h : l.length ≤ 1000) : loopK O [0, 1, 2, 3, 9, 10] body25_1 [(0, .l (encL Product.v l)), (1, .s n), (2, .i .i64 a), (3, .i .i64 b), (9, .ow 3 []), (10, .i .i64 0)] = some (.e 0, [(9, .ow 3 (ints (dayS l n a b)))]) := by
  have := loopK_run (o := O) (kin := [0, 1, 2, 3, 9, 10]) (c := body25_1) (fun i => [(0, .l (encL Product.v l)), (1, .s n), (2, .i .i64 a), (3, .i .i64 b), (9, .ow 3 (ints (dayS (l.take i) n a b))), (10, .i .i64 i)]) l.length (.e 0, [(9, .ow 3 (ints (dayS l n a b)))]) (by simp) (fun i hi => by
    have hw := wrap_i64 (i + 1) (by omega)
    have hlen := dayS_len l n a b i
    have hb : ((dayS (l.take i) n a b).length + 1) * 8 ≤ 140737488355328 := by omega
    rw [dayS_take l n a b hi]
    generalize dayS (l.take i) n a b = u at hlen hb ⊢
    unfold inB
    by_cases h0 : l[i].name = n
    · by_cases h1 : a ≤ l[i].from'
      · by_cases h2 : l[i].from' ≤ b
        · simp [body25_1, hi, hw, h0, h1, h2, hb, encL_append, encL_cons]
        · simp [body25_1, hi, hw, h0, h1, h2]
      · simp [body25_1, hi, hw, h0, h1]
    · simp [body25_1, hi, hw, h0]) (by simp [body25_1]) (by simp)
  exact this
theorem seq_run {o : Orc} {rs : List RV} {a b : C} {env e' : Env} {y : Option V} (h1 : exec o a env = some (.n, e')) (h2 : retE rs (exec o b e') = y) : retE rs (exec o (.seq a b) env) = y := by
  simp only [exec, h1, Option.bind_some]
  exact h2
set_option maxHeartbeats 8000000 in
theorem e37 (d : List Int) (h : d.length ≤ 1000) : O 37 [.a [.s [], .l [], .l (ints d)], .a [.s [], .l [], .l []]] = some (.a [.s [], .l (ints (uni [] [])), .l (ints (uni d []))]) := by
  refine orun (fc := code37) rfl rfl rfl ?_
  have h1 := e45' [] [] (by simp)
  have h2 := e45' d [] (by simpa using h)
  have hn : ints [] = [] := rfl
  rw [hn] at h1 h2
  generalize ints (uni [] []) = u at h1 ⊢
  generalize ints (uni d []) = v at h2 ⊢
  generalize ints d = k at h2 ⊢
  simp only [code37]
  refine seq_run (by simp; rfl) ?_
  simp (config := { maxSteps := 1000000 }) [h1, h2]
theorem e25 (l : List Product) (n : List UInt8) (a b : Int) (h : l.length ≤ 1000) : O 25 [.l (encL Product.v l), .s n, .i .i64 a, .i .i64 b] = some (.l (ints (uni (dayF (verS l n) a b) []))) := by
  refine orun (fc := code25) rfl rfl rfl ?_
  have hl := l25 l n a b h
  have hd : (dayS l n a b).length ≤ 1000 := by
    have := dayS_len l n a b l.length
    rw [List.take_length] at this; omega
  have h37 := e37 (dayS l n a b) hd
  rw [show dayF (verS l n) a b = dayS l n a b from rfl]
  generalize dayS l n a b = d at hl h37 ⊢
  generalize uni d [] = v at h37 ⊢
  generalize ints (uni [] []) = u at h37
  simp [code25, exec_loopK, hl, h37]
end Go.Proofs.Ytlmbgmobghmmmaa
