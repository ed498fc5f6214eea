/-
  Laws 3 to 6 answer true; what lists keep when a direct debit is settled or returned.
-/
import Derived.Test.YtoahbbpjhdegoaaDoorSpec5
namespace Go.Proofs.YtoahbbpjhdegoaaDoor
open Go.VM
set_option maxHeartbeats 8000000 in
theorem e3 (l : List Debit) (d : Int) (hk : KOk l) : O 3 [.l (enc l), .i .i64 d] = some (.b true) := by
  refine orun (fc := code3) rfl rfl rfl ?_
  have h9 := e9 l
  by_cases h : l.length ≤ 80
  · have h11 := e11 l hk
    have h12 := e12 l
    have h14 := e14 l d (by omega)
    have h15 := e15 l d (by omega)
    have h13 := e13 (due l d) (by have := due_len l d; omega)
    simp [code3, h9, h, h11, h12, h14, h15, h13, live]
  · simp [code3, h9, h, live]
theorem len_keys (l : List Debit) : (keys l).length = l.length := by simp [keys]
set_option maxHeartbeats 8000000 in
theorem e4 (l : List Debit) (ms : List Mandate) (x : Debit) (day : Int) (hk : x.key.length ≤ maxLen) : O 4 [.l (enc l), .l (encM ms), Ask.v ⟨x, day⟩] = some (.b true) := by
  refine orun (fc := code4) rfl rfl rfl ?_
  have h9 := e9 l
  by_cases h : l.length ≤ 80
  · by_cases hm : ms.length ≤ 80
    · have hm' : ¬ (80 : Int) < (ms.length : Int) := by omega
      have h16 := e16 l ms x day (by omega) (by omega) hk
      have h17 := e17 l ms x day (by omega) (by omega)
      have h13a := e13 (l ++ [x]) (by simp; omega)
      have h13b : O 13 [.l [], .l []] = some (.b true) := e13 [] (by simp)
      rw [enc_append] at h13a
      simp only [presV, enc_append] at h16 h17
      by_cases hp : presE l ms x day = 0
      · rw [if_pos hp] at h16 h17
        simp [code4, h9, h, hm', h16, h17, h13a, live]
      · rw [if_neg hp] at h16 h17
        simp [code4, h9, h, hm', h16, h17, h13b, live]
    · have hm' : (80 : Int) < (ms.length : Int) := by omega
      simp [code4, h9, h, hm', live]
  · simp [code4, h9, h, live]
theorem e5 (e r : Int) : O 5 [.i .i64 e, .i .i64 r] = some (.b true) := by
  refine orun (fc := code5) rfl rfl rfl ?_
  simp [code5, live]
theorem set_len (l : List Debit) (i : Nat) (x : Debit) : (l.set i x).length = l.length := List.length_set
theorem setP_len (l : List Debit) (id d e : Int) : (setP l id d e).1.length ≤ l.length := by
  unfold setP
  split
  · simp
  · split
    · split
      · simp
      · split <;> simp
    · simp
theorem retP_len (l : List Debit) (id r d : Int) : (retP l id r d).1.length ≤ l.length := by
  unfold retP
  split
  · simp
  · split
    · split
      · simp
      · split
        · simp
        · split <;> simp
    · simp
set_option maxHeartbeats 8000000 in
theorem e6 (l : List Debit) (id r d e : Int) : O 6 [.l (enc l), Act.v ⟨id, r, d, e⟩] = some (.b true) := by
  refine orun (fc := code6) rfl rfl rfl ?_
  have h9 := e9 l
  by_cases h : l.length ≤ 80
  · have h22 := e22 l id d e (by omega)
    have h23 := e23 l id d e (by omega)
    have h24 := e24 l id r d (by omega)
    have h25 := e25 l id r d (by omega)
    have h13a := e13 (setP l id d e).1 (by have := setP_len l id d e; omega)
    have h13b := e13 (retP l id r d).1 (by have := retP_len l id r d; omega)
    simp only [resV'] at h22 h23 h24 h25
    simp [code6, h9, h, h22, h23, h24, h25, h13a, h13b, live]
  · simp [code6, h9, h, live]
end Go.Proofs.YtoahbbpjhdegoaaDoor
