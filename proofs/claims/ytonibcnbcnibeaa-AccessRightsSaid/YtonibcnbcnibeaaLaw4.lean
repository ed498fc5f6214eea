/-
  The law on rights: a grant or withdrawal changes one right alone.
-/
import Derived.Test.YtonibcnbcnibeaaLaw3
namespace Go.Proofs.Ytonibcnbcnibeaa
open Go.VM
theorem names_lt {us : List User} (h : chk us = 0) : ∀ (d i : Nat) (hi : i < us.length) (hj : i + d + 1 < us.length), us[i].name < us[i + d + 1].name
  | 0, i, hi, hj => (cd_ok hj ((chk_ok h).2.2 _ hj)).2.2.2.2.2 i rfl hi
  | d + 1, i, hi, hj => List.lt_trans (names_lt h d i hi (by omega)) ((cd_ok hj ((chk_ok h).2.2 _ hj)).2.2.2.2.2 (i + d + 1) rfl (by omega))
theorem pos_at {us : List User} (h : chk us = 0) {j : Nat} (hj : j < us.length) : pos us us[j].name = some j := by
  unfold pos
  rw [List.find?_range_eq_some]
  refine ⟨by simp [named, hj], by simpa using hj, fun i hi => ?_⟩
  have hi' : i < us.length := by omega
  have := names_lt h (j - i - 1) i hi' (by omega)
  rw [show us[i + (j - i - 1) + 1] = us[j] from by congr 1; omega] at this
  simp only [named, List.getElem?_eq_getElem hi', Option.map_some, Option.some.injEq, Bool.not_eq_true', decide_eq_false_iff_not]
  intro e
  rw [e] at this
  exact List.lt_irrefl _ this
theorem pos_set (us : List User) (i : Nat) (x : Int) (name : List UInt8) : pos (setR us i x) name = pos us name := by
  unfold pos
  rw [setR_length]
  congr 1
  funext j
  simp only [named, setR_name]
theorem got_at {us : List User} (h : chk us = 0) {j : Nat} (hj : j < us.length) : got us us[j].name = (us[j], true) := by
  simp [got, pos_at h hj, hj]
theorem got_set {us : List User} (h : chk us = 0) (i : Nat) (x : Int) {j : Nat} (hj : j < us.length) : got (setR us i x) us[j].name = (if i = j then { us[j] with rights := x } else us[j], true) := by
  have hj' : j < (setR us i x).length := by rw [setR_length]; exact hj
  simp only [got, pos_set, pos_at h hj, Option.bind_some, List.getElem?_eq_getElem hj', setR_get us i x j hj]
/-- A power of two. -/
def pw (k : Nat) : Int := ((2 ^ k : Nat) : Int)
theorem pw_0 : pw 0 = 1 := by decide
theorem pw_7 : pw 7 = 128 := by decide
theorem pw_succ (k : Nat) : 2 * pw k = pw (k + 1) := by unfold pw; rw [Nat.pow_succ]; omega
theorem pw_le {k : Nat} (h : k < 7) : 1 ≤ pw k ∧ pw k ≤ 64 := by
  have h1 : 2 ^ k ≤ 2 ^ 6 := Nat.pow_le_pow_right (by omega) (by omega)
  have h2 : 0 < 2 ^ k := Nat.pow_pos (by omega)
  unfold pw; omega
def part (r : Int) (k : Nat) : Bool := decide ((r.tdiv (pw k)).tmod 2 = 1)
theorem part_bit (r k : Nat) : part (r : Int) k = r.testBit k := by
  have h : ((r : Int).tdiv (pw k)).tmod 2 = ((r / 2 ^ k % 2 : Nat) : Int) := by
    unfold pw
    rw [← Int.ofNat_tdiv, show (2 : Int) = ((2 : Nat) : Int) from rfl, ← Int.ofNat_tmod]
  unfold part
  rw [h, Nat.testBit_eq_decide_div_mod_eq, Bool.eq_iff_iff]
  generalize r / 2 ^ k % 2 = m
  simp only [decide_eq_true_eq]
  omega
theorem has_bit (x k : Nat) (hk : k < 7) (hx : x < 2 ^ 62) : decide (bitsV .and .i64 (x : Int) (pw k) = pw k) = x.testBit k := by
  unfold pw
  rw [bits_and x (2 ^ k) hx (Nat.lt_of_le_of_lt (Nat.pow_le_pow_right (by omega) (show k ≤ 6 by omega)) (by omega))]
  rw [Bool.eq_iff_iff, ← bit_and x k]
  simp only [decide_eq_true_eq]
  omega
theorem known_pw {k : Nat} (h : k < 7) : known (pw k) = true := by
  have := pw_le h
  simp only [known, Bool.and_eq_true, decide_eq_true_eq]
  omega
theorem has_at {us : List User} (h : chk us = 0) {j : Nat} (hj : j < us.length) {k : Nat} (hk : k < 7) : has us us[j].name (pw k) = us[j].rights.toNat.testBit k := by
  have hr := cd_ok hj ((chk_ok h).2.2 j hj)
  obtain ⟨n, hn⟩ := Int.eq_ofNat_of_zero_le hr.2.1
  simp only [has, got_at h hj, known_pw hk, Bool.true_and]
  rw [hn, has_bit n k hk (by omega)]
  rfl
theorem has_grant {us : List User} (h : chk us = 0) {i j : Nat} (hi : i < us.length) (hj : j < us.length) {k : Nat} (hk : k < 7) {r : Int} (hr : known r = true) :
    has (setR us i (bitsV .or .i64 us[i].rights r)) us[j].name (pw k) = (has us us[j].name (pw k) || (decide (i = j) && part r k)) := by
  rw [has_at h hj hk]
  have h1 := cd_ok hi ((chk_ok h).2.2 i hi)
  have h2 := cd_ok hj ((chk_ok h).2.2 j hj)
  simp only [known, Bool.and_eq_true, decide_eq_true_eq] at hr
  obtain ⟨m, rfl⟩ := Int.eq_ofNat_of_zero_le (show 0 ≤ r by omega)
  simp only [has, got_set h i _ hj, known_pw hk, Bool.true_and]
  by_cases hij : i = j
  · subst hij
    obtain ⟨n, hn⟩ := Int.eq_ofNat_of_zero_le h1.2.1
    rw [if_pos rfl, hn, bits_or n m (by omega) (by omega), has_bit _ k hk (Nat.or_lt_two_pow (by omega) (by omega)), Nat.testBit_or, part_bit]
    simp
  · obtain ⟨n, hn⟩ := Int.eq_ofNat_of_zero_le h2.2.1
    rw [if_neg hij, hn, has_bit n k hk (by omega)]
    simp [hij]
theorem has_withdraw {us : List User} (h : chk us = 0) {i j : Nat} (hi : i < us.length) (hj : j < us.length) {k : Nat} (hk : k < 7) {r : Int} (hr : known r = true) :
    has (setR us i (bitsV .andNot .i64 us[i].rights r)) us[j].name (pw k) = (has us us[j].name (pw k) && !(decide (i = j) && part r k)) := by
  rw [has_at h hj hk]
  have h1 := cd_ok hi ((chk_ok h).2.2 i hi)
  have h2 := cd_ok hj ((chk_ok h).2.2 j hj)
  simp only [known, Bool.and_eq_true, decide_eq_true_eq] at hr
  obtain ⟨m, rfl⟩ := Int.eq_ofNat_of_zero_le (show 0 ≤ r by omega)
  simp only [has, got_set h i _ hj, known_pw hk, Bool.true_and]
  by_cases hij : i = j
  · subst hij
    obtain ⟨n, hn⟩ := Int.eq_ofNat_of_zero_le h1.2.1
    have := without_le n m (by omega)
    rw [if_pos rfl, hn, bits_without n m (by omega) (by omega), has_bit _ k hk (by omega), without_bit n m k (by omega) (by omega) (by omega), part_bit]
    simp
  · obtain ⟨n, hn⟩ := Int.eq_ofNat_of_zero_le h2.2.1
    rw [if_neg hij, hn, has_bit n k hk (by omega)]
    simp [hij]
/-- The name is that of user j alone. -/
theorem name_at {us : List User} (h : chk us = 0) {i j : Nat} {name : List UInt8} (hp : pos us name = some i) (hj : j < us.length) : decide (us[j].name = name) = decide (i = j) := by
  obtain ⟨hi, hn⟩ := pos_some hp
  rw [List.getElem?_eq_getElem hi] at hn
  simp only [Option.map_some, Option.some.injEq] at hn
  rw [Bool.eq_iff_iff]
  simp only [decide_eq_true_eq]
  constructor
  · intro e
    have := pos_at h hj
    rw [e, hp] at this
    exact (Option.some.inj this)
  · rintro rfl
    exact hn
theorem l6a (us A B : List User) (name : List UInt8) (r : Int) (i j : Nat) (h1 : us.length ≤ 40) (hA : A.length ≤ 40) (hB : B.length ≤ 40) (hr : known r = true) (hj : j < us.length) (hn : decide (us[j].name = name) = decide (i = j))
    (ga : ∀ k, k < 7 → has A us[j].name (pw k) = (has us us[j].name (pw k) || (decide (i = j) && part r k))) (gb : ∀ k, k < 7 → has B us[j].name (pw k) = (has us us[j].name (pw k) && !(decide (i = j) && part r k))) :
    loopK O [0, 1, 2, 7, 9, 11, 12] body6_1 [(0, .l (users us)), (1, .s name), (2, .i .i64 r), (7, .ow 25 (users A)), (9, .ow 25 (users B)), (11, .i .i64 j), (12, .i .i64 (pw 0))] =
      some (.e 2, [(0, .l (users us)), (1, .s name), (2, .i .i64 r), (7, .ow 25 (users A)), (9, .ow 25 (users B)), (11, .i .i64 j)]) := by
  have := loopK_search (o := O) (kin := [0, 1, 2, 7, 9, 11, 12]) (c := body6_1) (fun k => [(0, .l (users us)), (1, .s name), (2, .i .i64 r), (7, .ow 25 (users A)), (9, .ow 25 (users B)), (11, .i .i64 j), (12, .i .i64 (pw k))]) 7 (fun _ => false) (fun _ => (.r, []))
    (.e 2, [(0, .l (users us)), (1, .s name), (2, .i .i64 r), (7, .ow 25 (users A)), (9, .ow 25 (users B)), (11, .i .i64 j)]) (by simp) (fun i hi hst => by simp at hst) (fun k hk hst => ?_) ?_ (by simp)
  · have hf : (List.range 7).find? (fun _ => false) = none := by simp
    rw [hf] at this
    exact this
  · have hp := pw_le hk
    have hw := wrap_i64 (2 * pw k) (by omega)
    rw [pw_succ] at hw
    have h64 : pw k ≤ 64 := hp.2
    have h0 : pw k ≠ 0 := by omega
    have hq : IntKind.i64.wrap (r.tdiv (pw k)) = r.tdiv (pw k) := by
      simp only [known, Bool.and_eq_true, decide_eq_true_eq] at hr
      refine wrap_i64 _ ?_
      rw [Int.tdiv_eq_ediv_of_nonneg (by omega)]
      have := Int.ediv_nonneg (show 0 ≤ r by omega) (show 0 ≤ pw k by omega)
      have := Int.ediv_le_self (pw k) (show 0 ≤ r by omega)
      omega
    have hpt : decide ((r.tdiv (pw k)).tmod 2 = 1) = part r k := rfl
    have ga' := ga k hk
    have gb' := gb k hk
    cases hij : decide (i = j) <;> cases hpr : part r k <;> cases hh : has us us[j].name (pw k) <;> rw [hij] at hn <;> rw [hpr] at hpt <;> rw [hh, hij, hpr] at ga' gb' <;> simp only [decide_eq_true_eq, decide_eq_false_iff_not] at hn hpt <;>
      first
      | (subst hn; simp [body6_1, hj, hw, h64, h0, hq, hpt, pw_succ, e14 _ _ _ h1, e14 _ _ _ hA, e14 _ _ _ hB, hh, ga', gb']; done)
      | (simp [body6_1, hj, hw, h64, h0, hq, hpt, hn, pw_succ, e14 _ _ _ h1, e14 _ _ _ hA, e14 _ _ _ hB, hh, ga', gb']; done)
  · rw [pw_7]
    simp [body6_1]
theorem l6 (us A B : List User) (name : List UInt8) (r : Int) (i : Nat) (h1 : us.length ≤ 40) (hA : A.length = us.length) (hB : B.length = us.length) (hr : known r = true) (hn : ∀ j (hj : j < us.length), decide (us[j].name = name) = decide (i = j))
    (na : ∀ j (hj : j < us.length), A[j].name = us[j].name ∧ A[j].limit = us[j].limit ∧ B[j].name = us[j].name ∧ B[j].limit = us[j].limit)
    (ga : ∀ j (hj : j < us.length), ∀ k, k < 7 → has A us[j].name (pw k) = (has us us[j].name (pw k) || (decide (i = j) && part r k))) (gb : ∀ j (hj : j < us.length), ∀ k, k < 7 → has B us[j].name (pw k) = (has us us[j].name (pw k) && !(decide (i = j) && part r k))) :
    loopK O [0, 1, 2, 7, 9, 11] body6_2 [(0, .l (users us)), (1, .s name), (2, .i .i64 r), (7, .ow 25 (users A)), (9, .ow 25 (users B)), (11, .i .i64 0)] = some (.e 0, []) := by
  have := loopK_search (o := O) (kin := [0, 1, 2, 7, 9, 11]) (c := body6_2) (fun j => [(0, .l (users us)), (1, .s name), (2, .i .i64 r), (7, .ow 25 (users A)), (9, .ow 25 (users B)), (11, .i .i64 j)]) us.length (fun _ => false) (fun _ => (.r, []))
    (.e 0, []) (by simp) (fun i hi hst => by simp at hst) (fun j hj hst => ?_) ?_ (by simp)
  · have hf : (List.range us.length).find? (fun _ => false) = none := by simp
    rw [hf] at this
    exact this
  · have hw := wrap_i64 (j + 1) (by omega)
    have hl := l6a us A B name r i j h1 (by omega) (by omega) hr hj (hn j hj) (ga j hj) (gb j hj)
    rw [pw_0] at hl
    obtain ⟨n1, n2, n3, n4⟩ := na j hj
    have jA : j < A.length := by omega
    have jB : j < B.length := by omega
    simp [body6_2, hj, hw, jA, jB, n1, n2, n3, n4, exec_loopK, hl]
  · simp [body6_2]
set_option maxHeartbeats 2000000 in
theorem e6 (us : List User) (name : List UInt8) (r : Int) (hl : us.length ≤ 9223372036854775807) : O 6 [.l (users us), .s name, .i .i64 r] = some (.b true) := by
  refine O_code (fc := code6) rfl ?_
  rw [bodyV_eq _ _ _ rfl (by rfl)]
  cases hg : great us with
  | true => simp [code6, e7 us hl, hg]
  | false =>
    obtain ⟨h1, h2⟩ := not_great hg
    have c0 := e10 us h1 h2
    by_cases hc : chk us = 0
    · rw [hc] at c0
      have g1 := e17 us name r h1
      have g3 := e19 us name r h1
      cases hp : pos us name with
      | none => simp [chg, hp, chgV] at g1 g3; simp [code6, e7 us hl, hg, c0, g1, g3, e12, wrap_i64 0 (by omega)]
      | some i =>
        have hi := (pos_some hp).1
        cases hk : known r with
        | false => simp [chg, hp, chgV, hk] at g1 g3; simp [code6, e7 us hl, hg, c0, g1, g3, e12, wrap_i64 0 (by omega)]
        | true =>
          simp [chg, hp, chgV, hk, hi] at g1 g3
          have ga := fun j (hj : j < us.length) k (hk' : k < 7) => has_grant hc hi hj hk' hk
          have gb := fun j (hj : j < us.length) k (hk' : k < 7) => has_withdraw hc hi hj hk' hk
          have lA := setR_length us i (bitsV .or .i64 us[i].rights r)
          have lB := setR_length us i (bitsV .andNot .i64 us[i].rights r)
          have nA := fun j (hj : j < us.length) => setR_get us i (bitsV .or .i64 us[i].rights r) j hj
          have nB := fun j (hj : j < us.length) => setR_get us i (bitsV .andNot .i64 us[i].rights r) j hj
          have nn : ∀ j (hj : j < us.length), (setR us i (bitsV .or .i64 us[i].rights r))[j].name = us[j].name ∧ (setR us i (bitsV .or .i64 us[i].rights r))[j].limit = us[j].limit ∧ (setR us i (bitsV .andNot .i64 us[i].rights r))[j].name = us[j].name ∧ (setR us i (bitsV .andNot .i64 us[i].rights r))[j].limit = us[j].limit := fun j hj => by
            rw [nA j hj, nB j hj]
            split <;> simp
          have hL := l6 us _ _ name r i h1 lA lB hk (fun j hj => name_at hc hp hj) nn ga gb
          clear nA nB nn ga gb
          generalize setR us i (bitsV .or .i64 us[i].rights r) = A at *
          generalize setR us i (bitsV .andNot .i64 us[i].rights r) = B at *
          have lA' : (A.length : Int) = us.length := by omega
          have lB' : (B.length : Int) = us.length := by omega
          simp [code6, e7 us hl, hg, c0, g1, g3, lA', lB', exec_loopK, hL, e12]
    · simp [code6, e7 us hl, hg, c0, hc]
end Go.Proofs.Ytonibcnbcnibeaa
