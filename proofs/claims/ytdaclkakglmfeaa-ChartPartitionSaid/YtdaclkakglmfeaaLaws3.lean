/-
  The law that each account without children is below exactly one root answers yes.
-/
import Derived.Test.YtdaclkakglmfeaaLaws2
import Derived.Test.YtdaclkakglmfeaaPart
namespace Go.Proofs.Ytdaclkakglmfeaa
open Go.VM
def cntT (m : List Int) (x : Int) (j : Nat) : Nat := (m.take j).count x
theorem cntT_succ {m : List Int} {x : Int} {j : Nat} (hj : j < m.length) : cntT m x (j + 1) = cntT m x j + if m[j] = x then 1 else 0 := by
  unfold cntT
  rw [List.take_succ_eq_append_getElem hj, List.count_append]
  by_cases h : m[j] = x <;> simp [h]
theorem cntT_le (m : List Int) (x : Int) (j : Nat) : cntT m x j ≤ m.length := by
  unfold cntT
  have h1 := List.count_le_length (a := x) (l := m.take j)
  have h2 : (m.take j).length ≤ m.length := by rw [List.length_take]; omega
  omega
section
variable (l : List Gl)
theorem l7a (i k : Nat) (hi : i < l.length) (n : Nat) (leaf : Bool) (m : List Int) (hm : m.length ≤ 1000) (hn : n ≤ 1000000) : loopK (O XO) [0, 5, 6, 7, 8, 9, 10] body7_1 [(0, .l (encG l)), (5, .i .i64 i), (6, .i .i64 n), (7, .b leaf), (8, .i .i64 k), (9, .ow 3 (ints m)), (10, .i .i64 0)] =
    some (.e 4, [(0, .l (encG l)), (5, .i .i64 i), (6, .i .i64 ((n + m.count l[i].id : Nat) : Int)), (7, .b leaf), (8, .i .i64 k)]) := by
  have := loopK_run (o := O XO) (kin := [0, 5, 6, 7, 8, 9, 10]) (c := body7_1) (fun j => [(0, .l (encG l)), (5, .i .i64 i), (6, .i .i64 ((n + cntT m l[i].id j : Nat) : Int)), (7, .b leaf), (8, .i .i64 k), (9, .ow 3 (ints m)), (10, .i .i64 j)]) m.length (.e 4, [(0, .l (encG l)), (5, .i .i64 i), (6, .i .i64 ((n + m.count l[i].id : Nat) : Int)), (7, .b leaf), (8, .i .i64 k)]) (by simp) (fun j hj => by
    have hw := wrap_i64 (j + 1) (by omega)
    have hc := cntT_le m l[i].id j
    rw [cntT_succ hj]
    generalize cntT m l[i].id j = c at hc ⊢
    have hw2 : IntKind.i64.wrap ((n : Int) + (c : Int) + 1) = (n : Int) + (c : Int) + 1 := wrap_i64 _ (by omega)
    by_cases he : m[j] = l[i].id
    · rw [if_pos he]
      have : ((n + (c + 1) : Nat) : Int) = (n : Int) + (c : Int) + 1 := by omega
      rw [this]
      simp [body7_1, hi, hj, hw, hw2, he]
    · rw [if_neg he]
      simp [body7_1, hi, hj, hw, he]) (by simp [body7_1, cntT]) (by simp)
  simpa [cntT] using this
theorem leafK_succ {id : Int} {k : Nat} (hk : k < l.length) : leafK l id (k + 1) = (leafK l id k && !decide (l[k].parent = id)) := by
  unfold leafK
  rw [List.take_succ_eq_append_getElem hk, List.all_append]
  simp
theorem cntN_le (id : Int) : ∀ k, k ≤ l.length → cntN l id k ≤ k * 1000 ∨ ¬ l.length ≤ 1000
  | 0, _ => by simp [cntN]
  | k + 1, hk => by
    by_cases h : l.length ≤ 1000
    · left
      have hk' : k < l.length := by omega
      rw [cntN_succ hk']
      have ih := (cntN_le id k (by omega)).resolve_right (by omega)
      have : cntK l id l[k] ≤ 1000 := by
        unfold cntK
        split
        · have h1 := List.count_le_length (a := id) (l := leaves l l[k].id)
          have h2 := leaves_len l l[k].id
          omega
        · omega
      omega
    · exact .inr h
theorem l7b (i : Nat) (hi : i < l.length) (hl : l.length ≤ 100) : loopK (O XO) [0, 5, 6, 7, 8] body7_2 [(0, .l (encG l)), (5, .i .i64 i), (6, .i .i64 0), (7, .b true), (8, .i .i64 0)] =
    some (.e 2, [(0, .l (encG l)), (5, .i .i64 i), (6, .i .i64 (cntN l l[i].id l.length : Int)), (7, .b (leafK l l[i].id l.length))]) := by
  have := loopK_run (o := O XO) (kin := [0, 5, 6, 7, 8]) (c := body7_2) (fun k => [(0, .l (encG l)), (5, .i .i64 i), (6, .i .i64 (cntN l l[i].id k : Int)), (7, .b (leafK l l[i].id k)), (8, .i .i64 k)]) l.length (.e 2, [(0, .l (encG l)), (5, .i .i64 i), (6, .i .i64 (cntN l l[i].id l.length : Int)), (7, .b (leafK l l[i].id l.length))]) (by simp) (fun k hk => by
    have hw := wrap_i64 (k + 1) (by omega)
    have hcn := (cntN_le l l[i].id k (by omega)).resolve_right (by omega)
    rw [cntN_succ hk, leafK_succ l hk]
    have h19 := e19 (X := XO) l l[k].id (by omega)
    have hml := leaves_len l l[k].id
    have h7 := fun leaf => l7a l i k hi (cntN l l[i].id k) leaf (leaves l l[k].id) (by omega) (by omega)
    unfold cntK
    generalize cntN l l[i].id k = n at hcn h7 ⊢
    generalize leafK l l[i].id k = leaf
    generalize leaves l l[k].id = m at h19 h7 ⊢
    by_cases h0 : l[k].parent = 0
    · rw [if_pos h0]
      generalize m.count l[i].id = c at h7 ⊢
      generalize ints m = M at h19 h7
      cases leaf with
      | false =>
        have h7' := h7 false
        simp at h7'
        simp [body7_2, exec_loopK, hi, hk, hw, h0, h19, h7']
      | true =>
        by_cases he : (0 : Int) = l[i].id
        · have h7' := h7 false
          simp at h7'
          simp [body7_2, exec_loopK, hi, hk, hw, h0, h19, h7', ← he]
        · have h7' := h7 true
          simp at h7'
          simp [body7_2, exec_loopK, hi, hk, hw, h0, h19, h7', he]
    · rw [if_neg h0]
      cases leaf with
      | false => simp [body7_2, hi, hk, hw, h0]
      | true =>
        by_cases he : l[k].parent = l[i].id
        · have h0' : ¬ l[i].id = 0 := he ▸ h0
          simp [body7_2, hi, hk, hw, h0', he]
        · simp [body7_2, hi, hk, hw, h0, he]) (by simp [body7_2]) (by simp)
  simpa [cntN, leafK] using this
theorem l7c (h : Good l) : loopK (O XO) [0, 5] body7_3 [(0, .l (encG l)), (5, .i .i64 0)] = some (.e 0, []) := by
  have hl := h.len
  have := loopK_run (o := O XO) (kin := [0, 5]) (c := body7_3) (fun i => [(0, .l (encG l)), (5, .i .i64 i)]) l.length (.e 0, []) (by simp) (fun i hi => by
    have hw := wrap_i64 (i + 1) (by omega)
    have h7 := l7b l i hi (by omega)
    rw [cnt_eq h hi, leafK_eq] at h7
    cases hp : parentB l l[i].id <;> rw [hp] at h7 <;> simp at h7 <;> simp [body7_3, exec_loopK, hi, hw, h7]) (by simp [body7_3]) (by simp)
  exact this
end
theorem e7 (l : List Gl) (p : Plan) (hn : ∀ g ∈ l, g.name.length ≤ maxLen) (h : l.length ≤ maxLen) : O XO 7 [.l (encG l), p.v] = some (.b true) := by
  refine orun (fc := code7) rfl rfl rfl ?_
  have h10 := e10 (X := XO) l p hn h
  have h11 := e11 (X := XO) l p hn h
  by_cases h0 : chkG l p = 0
  · have hl := l7c l (good_of h0)
    rw [h0] at h10 h11
    simp [code7, exec_loopK, h10, h11, hl, live]
  · generalize chkG l p = c at h10 h11 h0
    simp [code7, h10, h0, live]
end Go.Proofs.Ytdaclkakglmfeaa
