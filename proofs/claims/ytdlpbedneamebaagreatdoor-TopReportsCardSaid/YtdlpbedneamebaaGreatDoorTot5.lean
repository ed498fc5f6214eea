/-
  Functions that only answer: versions of products, accounts.
-/
import Derived.Test.YtdlpbedneamebaaGreatDoorTot
namespace Go.Proofs.YtdlpbedneamebaaGreatDoor
open Go.VM
variable {X : Orc}
theorem t44 (a : Account) : ∃ t, O X 82 [a.v] = some (.b t) := by
  obtain ⟨z, hz⟩ := t62 (X := X) a.id
  have h37 := o81 (X := X) a.opened
  generalize decide (0 ≤ a.opened ∧ a.opened ≤ 73048) = u at h37
  have : ∃ y, O X 82 [a.v] = some y ∧ B1 y := by
    refine orunE (fc := code82) rfl rfl rfl ?_
    by_cases h1 : 1000 ≤ a.id
    · by_cases h2 : a.id ≤ 99999999
      · cases u <;> simp [code82, hz, h37, h1, h2]
      · simp [code82, h1, h2]
    · simp [code82, h1]
  obtain ⟨y, h, n, rfl⟩ := this
  exact ⟨n, h⟩
theorem t34 (a b : Product) : ∃ t, O X 127 [a.v, b.v] = some (.b t) := by
  have : ∃ y, O X 127 [a.v, b.v] = some y ∧ B1 y := by
    refine orunE (fc := code127) rfl rfl rfl ?_
    by_cases h1 : Op.bytesLess a.name b.name = true
    · simp [code127, h1]
    · by_cases h2 : a.name = b.name <;> simp [code127, h1, h2]
  obtain ⟨y, h, n, rfl⟩ := this
  exact ⟨n, h⟩
theorem t11 (l : List Product) : ∃ n, O X 79 [.l (encL Product.v l)] = some (.i .i64 n) := by
  by_cases h6 : (64 : Int) < (l.length : Int)
  · exact ⟨5, orun (fc := code79) rfl rfl rfl (by simp [code79, h6])⟩
  have l1 : ∃ r, loopK (O X) [0, 3] body79_1 [(0, .l (encL Product.v l)), (3, .i .i64 ((0 + 1 : Nat) : Int))] = some r ∧ ((∃ n, r = (.r, [(2, .i .i64 n)])) ∨ r = (.e 0, [(0, .l (encL Product.v l))])) := by
    refine loopK_tot (fun i => [(0, .l (encL Product.v l)), (3, .i .i64 ((i + 1 : Nat) : Int))]) (l.length - 1) _ (by simp) (fun i hi => ?_) ?_
    · generalize hp : i + 1 = p
      have hpl : p < l.length := by omega
      have hil : i < l.length := by omega
      have hw : IntKind.i64.wrap ((p : Int) + 1) = ((p + 1 : Nat) : Int) := by rw [wrap_i64 _ (by omega)]; omega
      have hw1 : IntKind.i64.wrap ((p : Int) - 1) = (i : Int) := by rw [wrap_i64 _ (by omega)]; omega
      generalize ((p + 1 : Nat) : Int) = p2 at hw ⊢
      obtain ⟨t, ht⟩ := t34 (X := X) l[i] l[p]
      simp only [Product.v] at ht
      cases t <;> simp [-Prod.exists, body79_1, hpl, hil, hw, hw1, ht]
    · have h1 : ¬ (((l.length - 1 + 1 : Nat) : Int) < (l.length : Int)) := by omega
      generalize ((l.length - 1 + 1 : Nat) : Int) = z at h1 ⊢
      simp [-Prod.exists, body79_1, h1]
  have l2 : ∃ r, loopK (O X) [0, 4] body79_2 [(0, .l (encL Product.v l)), (4, .i .i64 ((0 + 1 : Nat) : Int))] = some r ∧ ((∃ n, r = (.r, [(2, .i .i64 n)])) ∨ r = (.e 2, [])) := by
    refine loopK_tot (fun i => [(0, .l (encL Product.v l)), (4, .i .i64 ((i + 1 : Nat) : Int))]) (l.length - 1) _ (by simp) (fun i hi => ?_) ?_
    · generalize hp : i + 1 = p
      have hpl : p < l.length := by omega
      have hil : i < l.length := by omega
      have hw : IntKind.i64.wrap ((p : Int) + 1) = ((p + 1 : Nat) : Int) := by rw [wrap_i64 _ (by omega)]; omega
      have hw1 : IntKind.i64.wrap ((p : Int) - 1) = (i : Int) := by rw [wrap_i64 _ (by omega)]; omega
      generalize ((p + 1 : Nat) : Int) = p2 at hw ⊢
      by_cases h1 : l[p].name = l[i].name
      · by_cases h2 : l[p].currency = l[i].currency <;> simp [-Prod.exists, body79_2, hpl, hil, hw, hw1, h1, h2]
      · simp [-Prod.exists, body79_2, hpl, hil, hw, hw1, h1]
    · have h1 : ¬ (((l.length - 1 + 1 : Nat) : Int) < (l.length : Int)) := by omega
      generalize ((l.length - 1 + 1 : Nat) : Int) = z at h1 ⊢
      simp [-Prod.exists, body79_2, h1]
  obtain ⟨r1, l1, hr1⟩ := l1
  obtain ⟨r2, l2, hr2⟩ := l2
  simp at l1 l2
  rcases hr1 with ⟨n, rfl⟩ | rfl
  · exact ⟨n, orun (fc := code79) rfl rfl rfl (by simp [code79, h6, exec_loopK, l1])⟩
  rcases hr2 with ⟨n, rfl⟩ | rfl
  · exact ⟨n, orun (fc := code79) rfl rfl rfl (by simp [code79, h6, exec_loopK, l1, l2])⟩
  · exact ⟨0, orun (fc := code79) rfl rfl rfl (by simp [code79, h6, exec_loopK, l1, l2])⟩
def p0 : Product := ⟨[], [], [], 0, 0, 0, 0, ⟨[], false, 0, 0, false⟩, ⟨[], false, 0, 0, false⟩, [], []⟩
theorem t63 (l : List Product) (s : List UInt8) (d : Int) (h : l.length ≤ 1000) : ∃ (p : Product) (u : Bool), O X 134 [.l (encL Product.v l), .s s, .i .i64 d] = some (.t [p.v, .b u]) := by
  have hl : ∃ r, loopK (O X) [0, 1, 2, 6, 8, 9] body134_1 [(0, .l (encL Product.v l)), (1, .s s), (2, .i .i64 d), (6, .bx p0.cells), (8, .i .i64 (-1)), (9, .i .i64 0)] = some r ∧ (∃ a : Int, r = (.e 0, [(0, .l (encL Product.v l)), (6, .bx p0.cells), (8, .i .i64 a)]) ∧ (a = -1 ∨ ∃ k : Nat, a = k ∧ k < l.length)) := by
    refine loopK_inv (fun i env => ∃ a : Int, env = [(0, .l (encL Product.v l)), (1, .s s), (2, .i .i64 d), (6, .bx p0.cells), (8, .i .i64 a), (9, .i .i64 (i : Int))] ∧ (a = -1 ∨ ∃ k : Nat, a = k ∧ k < l.length)) l.length _ (fun i env hI => ?_) (fun i env hi hI => ?_) (fun env hI => ?_) l.length 0 _ (by omega) ⟨-1, by simp, .inl rfl⟩
    · obtain ⟨a, rfl, _⟩ := hI; simp
    · obtain ⟨a, rfl, ha⟩ := hI
      left
      have hw := wrap_i64 (i + 1) (by omega)
      by_cases h1 : l[i].name = s
      · by_cases h2 : l[i].from' ≤ d
        · rcases ha with rfl | ⟨k, rfl, hk⟩
          · simp [body134_1, hi, hw, h1, h2]
            exact ⟨i, rfl, hi⟩
          · by_cases h3 : l[k].from' < l[i].from'
            · simp [body134_1, hi, hk, hw, h1, h2, h3]
              exact ⟨i, rfl, hi⟩
            · simp [body134_1, hi, hk, hw, h1, h2, h3]
              exact ⟨k, rfl, hk⟩
        · exact ⟨[(0, .l (encL Product.v l)), (1, .s s), (2, .i .i64 d), (6, .bx p0.cells), (8, .i .i64 a), (9, .i .i64 ((i + 1 : Nat) : Int))], by simp [body134_1, hi, hw, h1, h2], a, rfl, ha⟩
      · exact ⟨[(0, .l (encL Product.v l)), (1, .s s), (2, .i .i64 d), (6, .bx p0.cells), (8, .i .i64 a), (9, .i .i64 ((i + 1 : Nat) : Int))], by simp [body134_1, hi, hw, h1], a, rfl, ha⟩
    · obtain ⟨a, rfl, ha⟩ := hI
      exact ⟨(.e 0, [(0, .l (encL Product.v l)), (6, .bx p0.cells), (8, .i .i64 a)]), by simp [body134_1], by simp, a, rfl, ha⟩
  obtain ⟨_, hl, a, rfl, ha⟩ := hl
  rcases ha with rfl | ⟨k, rfl, hk⟩
  · refine ⟨p0, false, orun (fc := code134) rfl rfl rfl ?_⟩
    simp [p0, Product.cells] at hl
    simp [code134, exec_loopK, hl, p0]
  · refine ⟨l[k], true, orun (fc := code134) rfl rfl rfl ?_⟩
    simp [p0, Product.cells] at hl
    simp [code134, exec_loopK, hl, hk]
theorem t45 (b : Books) (a : Account) (h : b.products.length ≤ 1000) : ∃ n, O X 83 [b.v, a.v] = some (.i .i64 n) := by
  obtain ⟨t, ht⟩ := t38 (X := X) a.owner
  obtain ⟨p, u, hp⟩ := t63 (X := X) b.products a.product a.opened h
  cases t with
  | false => exact ⟨4, orun (fc := code83) rfl rfl rfl (by simp [code83, ht])⟩
  | true =>
    cases u with
    | false => exact ⟨11, orun (fc := code83) rfl rfl rfl (by simp [code83, ht, hp])⟩
    | true => exact ⟨0, orun (fc := code83) rfl rfl rfl (by simp [code83, ht, hp])⟩
end Go.Proofs.YtdlpbedneamebaaGreatDoor
namespace Go.Proofs.YtdlpbedneamebaaGreatDoor
open Go.VM
variable {X : Orc}
theorem t70 (b : Books) (id d : Int) (h : b.accounts.length ≤ 1000) : ∃ t, O X 181 [b.v, .i .i64 id, .i .i64 d] = some (.b t) ∧ (t = true → (posA b.accounts id).isSome = true) := by
  have hf := e180 (X := X) b id h
  cases ha : posA b.accounts id with
  | none =>
    rw [ha] at hf
    simp [aV, a0] at hf
    exact ⟨false, orun (fc := code181) rfl rfl rfl (by simp [code181, hf]), fun h => by cases h⟩
  | some i =>
    obtain ⟨hi, _⟩ := posA_some ha
    rw [ha] at hf
    simp [aV, hi] at hf
    have : ∃ y, O X 181 [b.v, .i .i64 id, .i .i64 d] = some y ∧ B1 y := by
      refine orunE (fc := code181) rfl rfl rfl ?_
      simp [code181, hf]
    obtain ⟨y, h, n, rfl⟩ := this
    exact ⟨n, h, fun _ => rfl⟩
end Go.Proofs.YtdlpbedneamebaaGreatDoor
namespace Go.Proofs.YtdlpbedneamebaaGreatDoor
open Go.VM
variable {X : Orc}
set_option maxHeartbeats 4000000 in
theorem t14 (b : Books) (hp : b.products.length ≤ 1000) : ∃ n, O X 40 [b.v] = some (.i .i64 n) := by
  by_cases h6 : (64 : Int) < (b.accounts.length : Int)
  · exact ⟨5, orun (fc := code40) rfl rfl rfl (by simp [code40, h6])⟩
  have hl : ∃ r, loopK (O X) [1, 3] body40_1 [(1, .bx b.cells), (3, .i .i64 (0 : Nat))] = some r ∧ ((∃ n, r = (.r, [(2, .i .i64 n)])) ∨ r = (.e 0, [])) := by
    refine loopK_tot (fun i => [(1, .bx b.cells), (3, .i .i64 (i : Int))]) b.accounts.length _ (by simp) (fun i hi => ?_) (by simp [body40_1])
    have hw := wrap_i64 (i + 1) (by omega)
    obtain ⟨t, ht⟩ := t44 (X := X) b.accounts[i]
    obtain ⟨n, hn⟩ := t45 (X := X) b b.accounts[i] hp
    simp only [Account.v] at ht hn
    have h37 := o81 (X := X) b.accounts[i].closed
    generalize decide (0 ≤ b.accounts[i].closed ∧ b.accounts[i].closed ≤ 73048) = u at h37
    by_cases h0 : i = 0
    · subst h0
      by_cases hn0 : n = 0 <;> cases u <;> cases t <;> simp [-Prod.exists, ex_ite, body40_1, hi, ht, hn, h37, hn0, w1]
    · obtain ⟨p, hp⟩ : ∃ p, p + 1 = i := ⟨i - 1, by omega⟩
      have hpl : p < b.accounts.length := by omega
      have h0' : 0 < i := by omega
      have hw1 : IntKind.i64.wrap ((i : Int) - 1) = (p : Int) := by rw [wrap_i64 _ (by omega)]; omega
      by_cases hn0 : n = 0 <;> cases u <;> cases t <;> simp [-Prod.exists, ex_ite, body40_1, hi, hpl, hw, hw1, h0', ht, hn, h37, hn0]
  obtain ⟨r, hl, hr⟩ := hl
  simp only [Int.natCast_zero] at hl
  rcases hr with ⟨n, rfl⟩ | rfl
  · exact ⟨n, orun (fc := code40) rfl rfl rfl (by simp [code40, h6, exec_loopK, hl])⟩
  · exact ⟨0, orun (fc := code40) rfl rfl rfl (by simp [code40, h6, exec_loopK, hl])⟩
end Go.Proofs.YtdlpbedneamebaaGreatDoor
namespace Go.Proofs.YtdlpbedneamebaaGreatDoor
open Go.VM
variable {X : Orc}
abbrev strs (l : List (List UInt8)) : List V := encL V.s l
noncomputable def words : List (List UInt8) := match exec (fun _ _ => none) code288.body (args0 0 []) with
  | some (_, (_, .ow _ es) :: _) => es.map fun | .s x => x | _ => []
  | _ => []
theorem o288 : O X 288 [] = some (.ow 9 (strs words)) := orun (fc := code288) rfl rfl rfl (by kernel_rfl)
theorem words_len : words.length ≤ 100 := by decide +kernel
theorem t103 (s : List UInt8) : ∃ t, O X 274 [.s s] = some (.b t) := by
  have hlen := words_len
  have h105 := o288 (X := X)
  generalize words = l at hlen h105
  have hl : ∃ r, loopK (O X) [0, 3, 4] body274_1 [(0, .s s), (3, .ow 9 (strs l)), (4, .i .i64 (0 : Nat))] = some r ∧ (r = (.r, [(2, .b true)]) ∨ r = (.e 0, [])) := by
    refine loopK_tot (fun i => [(0, .s s), (3, .ow 9 (strs l)), (4, .i .i64 (i : Int))]) l.length _ (by simp) (fun i hi => ?_) (by simp [body274_1])
    have hw := wrap_i64 (i + 1) (by omega)
    simp [-Prod.exists, body274_1, hi, hw]
    repeat' split
    all_goals simp [-Prod.exists]
  obtain ⟨r, hl, hr⟩ := hl
  simp only [Int.natCast_zero] at hl
  rcases hr with rfl | rfl
  · exact ⟨true, orun (fc := code274) rfl rfl rfl (by simp [code274, exec_loopK, h105, hl])⟩
  · exact ⟨false, orun (fc := code274) rfl rfl rfl (by simp [code274, exec_loopK, h105, hl])⟩
theorem t96 (s : List UInt8) : ∃ t, O X 248 [.s s] = some (.b t) := by
  have h1 := e273 (X := X) s
  obtain ⟨t, ht⟩ := t103 (X := X) s
  generalize nameOk s = u at h1
  have : ∃ y, O X 248 [.s s] = some y ∧ B1 y := by
    refine orunE (fc := code248) rfl rfl rfl ?_
    cases u <;> simp [code248, h1, ht]
  obtain ⟨y, h, n, rfl⟩ := this
  exact ⟨n, h⟩
end Go.Proofs.YtdlpbedneamebaaGreatDoor
namespace Go.Proofs.YtdlpbedneamebaaGreatDoor
open Go.VM
variable {X : Orc}
theorem u64_rng (z : Int) : 0 ≤ IntKind.u64.wrap z ∧ IntKind.u64.wrap z < 18446744073709551616 := by rw [IntKind.wrap_u64]; omega
theorem dig_slc (o : Orc) (d : Int) (h0 : 0 ≤ d) (h1 : d < 10) : ∃ c, opQ o (.slcs true true) [.s [48, 49, 50, 51, 52, 53, 54, 55, 56, 57], .i .u64 d, .i .u64 (IntKind.u64.wrap (d + 1))] = some (.s [c]) := by
  have hw : IntKind.u64.wrap (d + 1) = d + 1 := by rw [IntKind.wrap_u64]; omega
  rw [hw]
  have : d = 0 ∨ d = 1 ∨ d = 2 ∨ d = 3 ∨ d = 4 ∨ d = 5 ∨ d = 6 ∨ d = 7 ∨ d = 8 ∨ d = 9 := by omega
  rcases this with rfl | rfl | rfl | rfl | rfl | rfl | rfl | rfl | rfl | rfl <;> exact ⟨_, rfl⟩
theorem t229 (m : Int) (h0 : 0 ≤ m) (h1 : m < 18446744073709551616) : ∃ s : List UInt8, O X 229 [.i .u64 m] = some (.s s) ∧ s.length ≤ 20 := by
  have hl := loopK_inv (o := O X) (kin := [0, 3]) (c := body229_1) (fun i env => ∃ (m : Int) (s : List UInt8), env = [(0, .i .u64 m), (3, .s s)] ∧ 0 ≤ m ∧ m < ((10 ^ (20 - i) : Nat) : Int) ∧ s.length = i) 20 (fun r => ∃ s : List UInt8, r = (.e 0, [(3, .s s)]) ∧ s.length ≤ 20) (fun i env hI => by obtain ⟨m, s, rfl, _⟩ := hI; simp) (fun i env hi hI => by
    obtain ⟨m, s, rfl, h0, h1, hs⟩ := hI
    by_cases hc : s = [] ∨ 0 < m
    · left
      obtain ⟨c, hslc⟩ := dig_slc (O X) (m.tmod 10) (by rw [Int.tmod_eq_emod_of_nonneg h0]; omega) (by rw [Int.tmod_eq_emod_of_nonneg h0]; omega)
      have hq : IntKind.u64.wrap (m.tdiv 10) = m / 10 := by
        rw [Int.tdiv_eq_ediv_of_nonneg h0, IntKind.wrap_u64]
        have h10 : 10 ^ (20 - i) ≤ 10 ^ 20 := Nat.pow_le_pow_right (by decide) (by omega)
        have h20 : 10 ^ 20 = 100000000000000000000 := by decide
        omega
      have hlen : (1 : Nat) + s.length ≤ 9223372036854775807 := by omega
      refine ⟨[(0, .i .u64 (m / 10)), (3, .s (c :: s))], ?_, m / 10, c :: s, rfl, by omega, ?_, by simp [hs]⟩
      · rcases hc with rfl | hc
        · simp [body229_1, hslc, hq]
        · simp [body229_1, hslc, hq, hc, hs]
          omega
      · have e : 20 - i = (20 - (i + 1)) + 1 := by omega
        rw [e, Nat.pow_succ] at h1
        omega
    · right
      simp only [not_or] at hc
      obtain ⟨hc1, hc2⟩ := hc
      exact ⟨(.e 0, [(3, .s s)]), by simp [body229_1, hc1, hc2], by simp, s, rfl, by omega⟩) (fun env hI => by
    obtain ⟨m, s, rfl, h0, h1, hs⟩ := hI
    have hm : ¬ 0 < m := by
      have h1 : m < ((10 ^ 0 : Nat) : Int) := h1
      omega
    have hs0 : s ≠ [] := by rintro rfl; simp at hs
    exact ⟨(.e 0, [(3, .s s)]), by simp [body229_1, hs0, hm], by simp, s, rfl, by omega⟩) 20 0 [(0, .i .u64 m), (3, .s [])] (by omega) ⟨m, [], rfl, h0, Int.lt_trans h1 (by decide), rfl⟩
  obtain ⟨r, hl, s, rfl, hs⟩ := hl
  exact ⟨s, orun (fc := code229) rfl rfl rfl (by simp [code229, exec_loopK, hl]), hs⟩
theorem t212 (n : Int) : ∃ s : List UInt8, O X 212 [.i .i64 n] = some (.s s) ∧ s.length ≤ 21 := by
  by_cases hn : 0 ≤ n
  · have hr := u64_rng n
    obtain ⟨s, h, hs⟩ := t229 (X := X) (IntKind.u64.wrap n) hr.1 hr.2
    exact ⟨s, orun (fc := code212) rfl rfl rfl (by simp [code212, hn, h]), by omega⟩
  · have hr := u64_rng (bitsV .xor .u64 (IntKind.u64.max) (IntKind.u64.wrap n) + 1)
    obtain ⟨s, h, hs⟩ := t229 (X := X) _ hr.1 hr.2
    have hlen : 1 + s.length ≤ 9223372036854775807 := by omega
    exact ⟨45 :: s, orun (fc := code212) rfl rfl rfl (by simp [code212, hn, h, hlen, IntKind.signed]), by simp; omega⟩
theorem t211 (l : List (List UInt8)) (K : Nat) (hK : K ≤ 1000000) (hl : l.length ≤ 1000) (h : ∀ x ∈ l, x.length ≤ K) : ∃ s : List UInt8, O X 211 [.l (encL V.s l)] = some (.s s) ∧ s.length ≤ l.length * (K + 22) := by
  have hx := loopK_inv (o := O X) (kin := [0, 3, 4]) (c := body211_1) (fun i env => ∃ s : List UInt8, env = [(0, .l (encL V.s l)), (3, .s s), (4, .i .i64 (i : Int))] ∧ s.length ≤ i * (K + 22)) l.length (fun r => ∃ s : List UInt8, r = (.e 0, [(3, .s s)]) ∧ s.length ≤ l.length * (K + 22)) (fun i env hI => by obtain ⟨s, rfl, _⟩ := hI; simp) (fun i env hi hI => by
    obtain ⟨s, rfl, hs⟩ := hI
    left
    have hw := wrap_i64 (i + 1) (by omega)
    obtain ⟨t, ht, htl⟩ := t212 (X := X) (l[i].length : Int)
    have hxl := h l[i] (List.getElem_mem hi)
    have hb : i * (K + 22) ≤ 1000 * (K + 22) := Nat.mul_le_mul_right _ (by omega)
    have h1 : s.length + t.length ≤ 9223372036854775807 := by omega
    have h2 : s.length + t.length + 1 ≤ 9223372036854775807 := by omega
    have h3 : s.length + (t.length + 1) + l[i].length ≤ 9223372036854775807 := by omega
    refine ⟨[(0, .l (encL V.s l)), (3, .s (s ++ (t ++ 58 :: l[i]))), (4, .i .i64 ((i + 1 : Nat) : Int))], ?_, _, rfl, ?_⟩
    · simp [body211_1, hi, hw, ht, h1, h2, h3]
    · rw [Nat.succ_mul]
      simp only [List.length_append, List.length_cons]
      omega) (fun env hI => by
    obtain ⟨s, rfl, hs⟩ := hI
    exact ⟨(.e 0, [(3, .s s)]), by simp [body211_1], by simp, s, rfl, hs⟩) l.length 0 [(0, .l (encL V.s l)), (3, .s []), (4, .i .i64 ((0 : Nat) : Int))] (by omega) ⟨[], rfl, by simp⟩
  obtain ⟨r, hx, s, rfl, hs⟩ := hx
  simp only [Int.natCast_zero] at hx
  exact ⟨s, orun (fc := code211) rfl rfl rfl (by simp [code211, exec_loopK, hx]), hs⟩
theorem t208 (n : Int) (s : List UInt8) (h : s.length ≤ 1000000) : ∃ m, O X 208 [.i .u64 n, .s s] = some (.i .u64 m) := by
  have hx := loopK_inv (o := O X) (kin := [0, 1, 5]) (c := body208_1) (fun i env => ∃ n : Int, env = [(0, .i .u64 n), (1, .s s), (5, .i .i64 (i : Int))]) s.length (fun r => ∃ n : Int, r = (.e 0, [(0, .i .u64 n)])) (fun i env hI => by obtain ⟨n, rfl⟩ := hI; simp) (fun i env hi hI => by
    obtain ⟨n, rfl⟩ := hI
    left
    have hw := wrap_i64 (i + 1) (by omega)
    refine ⟨[(0, .i .u64 (IntKind.u64.wrap (bitsV .xor .u64 n (IntKind.u64.wrap (s[i].toNat : Int)) * 1099511628211))), (1, .s s), (5, .i .i64 ((i + 1 : Nat) : Int))], ?_, _, rfl⟩
    simp [body208_1, hi, hw]) (fun env hI => by
    obtain ⟨n, rfl⟩ := hI
    exact ⟨(.e 0, [(0, .i .u64 n)]), by simp [body208_1], by simp, n, rfl⟩) s.length 0 [(0, .i .u64 n), (1, .s s), (5, .i .i64 ((0 : Nat) : Int))] (by omega) ⟨n, rfl⟩
  obtain ⟨r, hx, m, rfl⟩ := hx
  simp only [Int.natCast_zero] at hx
  exact ⟨m, orun (fc := code208) rfl rfl rfl (by simp [code208, exec_loopK, hx])⟩
theorem t209 (s : List UInt8) (h : s.length ≤ 1000000) : ∃ m, O X 209 [.s s] = some (.i .u64 m) := by
  obtain ⟨m, hm⟩ := t208 (X := X) 14695981039346656037 s h
  exact ⟨m, orun (fc := code209) rfl rfl rfl (by simp [code209, hm])⟩
def u8s (l : List Int) : List V := encL (V.i .u8) l
theorem bytes_u8s (l : List Int) : bytesOf (u8s l) = some (l.map fun n => UInt8.ofNat n.toNat) := by
  induction l with
  | nil => rfl
  | cons x l ih => simp only [u8s, encL_cons, bytesOf] at ih ⊢; rw [ih]; rfl
theorem t210 (n : Int) : ∃ s : List UInt8, O X 210 [.i .u64 n] = some (.s s) ∧ s.length = 8 := by
  have hx := loopK_inv (o := O X) (kin := [0, 3, 4]) (c := body210_1) (fun i env => ∃ (n : Int) (l : List Int), env = [(0, .i .u64 n), (3, .ow 5 (u8s l)), (4, .i .i64 (i : Int))] ∧ l.length = i) 8 (fun r => ∃ l : List Int, r = (.e 0, [(3, .ow 5 (u8s l))]) ∧ l.length = 8) (fun i env hI => by obtain ⟨n, l, rfl, _⟩ := hI; simp) (fun i env hi hI => by
    obtain ⟨n, l, rfl, hl⟩ := hI
    left
    have hw := wrap_i64 (i + 1) (by omega)
    have hi8 : (i : Int) < 8 := by omega
    have hul : (u8s l).length = i := by simp [u8s, hl]
    have hb : (i + 1) * 1 ≤ 140737488355328 := by omega
    refine ⟨[(0, .i .u64 (IntKind.u64.wrap (n.tdiv 256))), (3, .ow 5 (u8s (l ++ [IntKind.u8.wrap (n.tmod 256)]))), (4, .i .i64 ((i + 1 : Nat) : Int))], ?_, _, _, rfl, by simp [hl]⟩
    have e : u8s (l ++ [IntKind.u8.wrap (n.tmod 256)]) = u8s l ++ [.i .u8 (IntKind.u8.wrap (n.tmod 256))] := by simp [u8s, encL]
    rw [e]
    generalize u8s l = U at hul ⊢
    simp [body210_1, hi8, hw, hul]
    omega) (fun env hI => by
    obtain ⟨n, l, rfl, hl⟩ := hI
    exact ⟨(.e 0, [(3, .ow 5 (u8s l))]), by simp [body210_1], by simp, l, rfl, hl⟩) 8 0 [(0, .i .u64 n), (3, .ow 5 []), (4, .i .i64 ((0 : Nat) : Int))] (by omega) ⟨n, [], rfl, rfl⟩
  obtain ⟨r, hx, l, rfl, hl⟩ := hx
  simp only [Int.natCast_zero] at hx
  have hb := bytes_u8s l
  have hb2 : opQ (O X) .b2s [.l (u8s l)] = some (.s (l.map fun n => UInt8.ofNat n.toNat)) := by simp [opQ, hb]
  generalize u8s l = U at hx hb2
  refine ⟨l.map fun n => UInt8.ofNat n.toNat, orun (fc := code210) rfl rfl rfl (by simp [code210, exec_loopK, hx, hb2]), by simp [hl]⟩
theorem t177 (n : Int) (s : List UInt8) (h : s.length ≤ 1000000) : ∃ m, O X 177 [.i .u64 n, .s s] = some (.i .u64 m) := by
  obtain ⟨e, he, hl⟩ := t210 (X := X) n
  obtain ⟨a, ha⟩ := t209 (X := X) e (by omega)
  obtain ⟨m, hm⟩ := t208 (X := X) a s h
  exact ⟨m, orun (fc := code177) rfl rfl rfl (by simp [code177, he, ha, hm])⟩
end Go.Proofs.YtdlpbedneamebaaGreatDoor
