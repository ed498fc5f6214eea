/-
  The laws on decisions, changes and rights, over what the functions compute.
-/
import Derived.Test.YtonibcnbcnibeaaLaws
namespace Go.Proofs.Ytonibcnbcnibeaa
open Go.VM
theorem half_alone (us : List User) (name : List UInt8) (r a : Int) (h : alone us name r a = true) : alone us name r (a.tdiv 2) = true := by
  simp only [alone, Bool.and_eq_true, decide_eq_true_eq] at h ⊢
  obtain ⟨⟨h1, h2⟩, h3⟩ := h
  rw [Int.tdiv_eq_ediv_of_nonneg h2]
  exact ⟨⟨h1, by omega⟩, by omega⟩
theorem alone_nonneg {us : List User} {name : List UInt8} {r a : Int} (h : alone us name r a = true) : 0 ≤ a := by
  simp only [alone, Bool.and_eq_true, decide_eq_true_eq] at h
  exact h.1.2
theorem l4 (us : List User) (r a : Int) (h : us.length ≤ 40) (ha : a ≤ 9223372036854775807) : loopK O [0, 1, 2, 7] body4_1 [(0, .l (users us)), (1, .i .i64 r), (2, .i .i64 a), (7, .i .i64 0)] = some (.e 0, []) := by
  have := loopK_search (o := O) (kin := [0, 1, 2, 7]) (c := body4_1) (fun i => [(0, .l (users us)), (1, .i .i64 r), (2, .i .i64 a), (7, .i .i64 i)]) (us.length + 1) (fun _ => false) (fun _ => (.e 0, [])) (.e 0, []) (by simp) (fun i hi hst => by simp at hst) (fun i hi hst => ?_) ?_ (by simp)
  · have hf : (List.range (us.length + 1)).find? (fun _ => false) = none := by simp
    rw [hf] at this
    exact this
  · have hw := wrap_i64 (i + 1) (by omega)
    have hle : (i : Int) ≤ (us.length : Int) := by omega
    have key : ∀ name : List UInt8, alone us name r a = false ∨ (alone us name r a = true ∧ IntKind.i64.wrap (a.tdiv 2) = a.tdiv 2 ∧ alone us name r (a.tdiv 2) = true) := by
      intro name
      cases hc : alone us name r a with
      | false => exact .inl rfl
      | true =>
        have h0 := alone_nonneg hc
        refine .inr ⟨rfl, wrap_i64 _ ?_, half_alone _ _ _ _ hc⟩
        rw [Int.tdiv_eq_ediv_of_nonneg h0]
        omega
    by_cases hi' : i < us.length
    · have hlt : (i : Int) < (us.length : Int) := by omega
      rcases key us[i].name with hc | ⟨hc, hd, he⟩
      · simp [body4_1, hi', hw, hle, hlt, e13 _ _ _ _ h, e14 _ _ _ h, e15 _ _ _ h, e16 _ _ _ _ h, hc]
      · simp [body4_1, hi', hw, hle, hlt, e13 _ _ _ _ h, e14 _ _ _ h, e15 _ _ _ h, e16 _ _ _ _ h, hc, hd, he]
    · have hlt : ¬ (i : Int) < (us.length : Int) := by omega
      rcases key [110, 111, 98, 111, 100, 121] with hc | ⟨hc, hd, he⟩
      · simp [body4_1, hw, hle, hlt, e13 _ _ _ _ h, e14 _ _ _ h, e15 _ _ _ h, e16 _ _ _ _ h, hc]
      · simp [body4_1, hw, hle, hlt, e13 _ _ _ _ h, e14 _ _ _ h, e15 _ _ _ h, e16 _ _ _ _ h, hc, hd, he]
  · have hlt : ¬ ((us.length : Int) + 1 ≤ (us.length : Int)) := by omega
    simp [body4_1, hlt]
theorem e4 (us : List User) (r a : Int) (hl : us.length ≤ 9223372036854775807) (ha : a ≤ 9223372036854775807) : O 4 [.l (users us), .i .i64 r, .i .i64 a] = some (.b true) := by
  refine O_code (fc := code4) rfl ?_
  rw [bodyV_eq _ _ _ rfl (by rfl)]
  cases hg : great us with
  | true => simp [code4, e7 us hl, hg]
  | false =>
    obtain ⟨h1, h2⟩ := not_great hg
    simp [code4, e7 us hl, hg, exec_loopK, l4 us r a h1 ha, e12]

/-! ### Bits -/
theorem ofInt_nat (n : Nat) : (BitVec.ofInt 64 (n : Int)).toNat = n % 2 ^ 64 := by
  rw [BitVec.ofInt_natCast, BitVec.toNat_ofNat]
theorem bits_or (x y : Nat) (hx : x < 2 ^ 62) (hy : y < 2 ^ 62) : bitsV .or .i64 (x : Int) (y : Int) = ((x ||| y : Nat) : Int) := by
  have h : x ||| y < 2 ^ 62 := Nat.or_lt_two_pow hx hy
  show IntKind.i64.wrap ((BitVec.ofInt 64 (x : Int) ||| BitVec.ofInt 64 (y : Int)).toNat : Int) = _
  rw [BitVec.toNat_or, ofInt_nat, ofInt_nat, Nat.mod_eq_of_lt (by omega), Nat.mod_eq_of_lt (by omega)]
  exact wrap_i64 _ (by omega)
theorem bits_and (x y : Nat) (hx : x < 2 ^ 62) (hy : y < 2 ^ 62) : bitsV .and .i64 (x : Int) (y : Int) = ((x &&& y : Nat) : Int) := by
  have h : x &&& y ≤ x := Nat.and_le_left
  show IntKind.i64.wrap ((BitVec.ofInt 64 (x : Int) &&& BitVec.ofInt 64 (y : Int)).toNat : Int) = _
  rw [BitVec.toNat_and, ofInt_nat, ofInt_nat, Nat.mod_eq_of_lt (by omega), Nat.mod_eq_of_lt (by omega)]
  exact wrap_i64 _ (by omega)
/-- x without y. -/
def without (x y : Nat) : Nat := ((BitVec.ofNat 64 x) &&& ~~~ (BitVec.ofNat 64 y)).toNat
theorem without_le (x y : Nat) (hx : x < 2 ^ 62) : without x y ≤ x := by
  unfold without
  rw [BitVec.toNat_and, BitVec.toNat_ofNat, Nat.mod_eq_of_lt (by omega)]
  exact Nat.and_le_left
theorem without_bit (x y k : Nat) (hk : k < 62) (hx : x < 2 ^ 62) (hy : y < 2 ^ 62) : (without x y).testBit k = (x.testBit k && !y.testBit k) := by
  unfold without
  rw [BitVec.toNat_and, BitVec.toNat_ofNat, Nat.mod_eq_of_lt (by omega), Nat.testBit_and]
  congr 1
  have := BitVec.getLsbD_not (x := BitVec.ofNat 64 y) (i := k)
  rw [BitVec.getLsbD, BitVec.getLsbD, BitVec.toNat_ofNat, Nat.mod_eq_of_lt (by omega)] at this
  rw [this]
  have : k < 64 := by omega
  simp [this]
theorem bits_without (x y : Nat) (hx : x < 2 ^ 62) (hy : y < 2 ^ 62) : bitsV .andNot .i64 (x : Int) (y : Int) = ((without x y : Nat) : Int) := by
  have h := without_le x y hx
  show IntKind.i64.wrap ((BitVec.ofInt 64 (x : Int) &&& ~~~ BitVec.ofInt 64 (y : Int)).toNat : Int) = _
  rw [BitVec.ofInt_natCast, BitVec.ofInt_natCast]
  exact wrap_i64 _ (by unfold without at h; omega)
theorem bit_and (x k : Nat) : (x &&& 2 ^ k = 2 ^ k) ↔ x.testBit k = true := by
  constructor
  · intro h
    have : (x &&& 2 ^ k).testBit k = true := by rw [h]; simp
    rw [Nat.testBit_and] at this
    simp only [Bool.and_eq_true] at this
    exact this.1
  · intro h
    apply Nat.eq_of_testBit_eq
    intro i
    rw [Nat.testBit_and]
    by_cases hi : k = i
    · subst hi; simp [h]
    · rw [Nat.testBit_two_pow_of_ne hi]; simp
end Go.Proofs.Ytonibcnbcnibeaa
