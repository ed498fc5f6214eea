/-
  Functions that only answer: numbers of accounts, legs.
-/
import Derived.Test.YtmhbkofbbkogeaaGreatTot
namespace Go.Proofs.YtmhbkofbbkogeaaGreat
open Go.VM
variable {X : Orc}
theorem t88 (s : List UInt8) (h : s.length ≤ 1000) : ∃ t, O X 88 [.s s] = some (.b t) := by
  have hl : ∃ r, loopK (O X) [0, 3] body88_1 [(0, .s s), (3, .i .i64 (0 : Nat))] = some r ∧ (r = (.r, [(2, .b false)]) ∨ r = (.e 0, [])) := by
    refine loopK_tot (fun i => [(0, .s s), (3, .i .i64 (i : Int))]) s.length _ (by simp) (fun i hi => ?_) (by simp [body88_1])
    have hw := wrap_i64 (i + 1) (by omega)
    simp [-Prod.exists, body88_1, hi, hw]
    repeat' split
    all_goals simp [-Prod.exists]
  obtain ⟨r, hl, hr⟩ := hl
  simp only [Int.natCast_zero] at hl
  rcases hr with rfl | rfl
  · exact ⟨false, orun (fc := code88) rfl rfl rfl (by simp [code88, exec_loopK, hl])⟩
  · exact ⟨true, orun (fc := code88) rfl rfl rfl (by simp [code88, exec_loopK, hl])⟩
theorem t78 (s : List UInt8) : ∃ t, O X 78 [.s s] = some (.b t) := by
  by_cases h3 : (s.length : Int) = 3
  · have hl : ∃ r, loopK (O X) [0, 3] body78_1 [(0, .s s), (3, .i .i64 (0 : Nat))] = some r ∧ (r = (.r, [(2, .b false)]) ∨ r = (.e 0, [])) := by
      refine loopK_tot (fun i => [(0, .s s), (3, .i .i64 (i : Int))]) s.length _ (by simp) (fun i hi => ?_) (by simp [body78_1])
      have hw := wrap_i64 (i + 1) (by omega)
      simp [-Prod.exists, body78_1, hi, hw]
      repeat' split
      all_goals simp [-Prod.exists]
    obtain ⟨r, hl, hr⟩ := hl
    simp only [Int.natCast_zero] at hl
    rcases hr with rfl | rfl
    · exact ⟨false, orun (fc := code78) rfl rfl rfl (by simp [code78, h3, exec_loopK, hl])⟩
    · exact ⟨true, orun (fc := code78) rfl rfl rfl (by simp [code78, h3, exec_loopK, hl])⟩
  · exact ⟨false, orun (fc := code78) rfl rfl rfl (by simp [code78, h3])⟩
theorem t66 (x : Leg) : ∃ n, O X 66 [x.v] = some (.i .i64 n) := by
  obtain ⟨t, ht⟩ := t78 (X := X) x.currency
  have : ∃ y, O X 66 [x.v] = some y ∧ I1 y := by
    refine orunE (fc := code66) rfl rfl rfl ?_
    cases t <;> simp [code66, ht]
  obtain ⟨y, h, n, rfl⟩ := this
  exact ⟨n, h⟩
theorem u8_rng (z : Int) : 0 ≤ IntKind.u8.wrap z ∧ IntKind.u8.wrap z < 256 := by rw [IntKind.wrap_u8]; omega
theorem tm97 (m : Int) (h0 : 0 ≤ m) (h1 : m ≤ 100000) : 0 ≤ (IntKind.i64.wrap m).tmod 97 ∧ (IntKind.i64.wrap m).tmod 97 < 97 := by
  rw [wrap_i64 _ (by omega), Int.tmod_eq_emod_of_nonneg h0]
  omega
theorem r89a (n z : Int) (h0 : 0 ≤ n) (h1 : n < 97) : 0 ≤ (IntKind.i64.wrap (IntKind.i64.wrap (10 * n) + IntKind.i64.wrap (IntKind.u8.wrap z))).tmod 97 ∧ (IntKind.i64.wrap (IntKind.i64.wrap (10 * n) + IntKind.i64.wrap (IntKind.u8.wrap z))).tmod 97 < 97 := by
  have := u8_rng z
  rw [wrap_i64 (10 * n) (by omega), wrap_i64 (IntKind.u8.wrap z) (by omega)]
  exact tm97 _ (by omega) (by omega)
theorem r89b (n z : Int) (h0 : 0 ≤ n) (h1 : n < 97) : 0 ≤ (IntKind.i64.wrap (IntKind.i64.wrap (IntKind.i64.wrap (100 * n) + IntKind.i64.wrap (IntKind.u8.wrap z)) + 10)).tmod 97 ∧ (IntKind.i64.wrap (IntKind.i64.wrap (IntKind.i64.wrap (100 * n) + IntKind.i64.wrap (IntKind.u8.wrap z)) + 10)).tmod 97 < 97 := by
  have := u8_rng z
  rw [wrap_i64 (100 * n) (by omega), wrap_i64 (IntKind.u8.wrap z) (by omega), wrap_i64 (100 * n + IntKind.u8.wrap z) (by omega)]
  exact tm97 _ (by omega) (by omega)
theorem t89 (s : List UInt8) (h : s.length ≤ 1000) : ∃ n, O X 89 [.s s] = some (.i .i64 n) ∧ 0 ≤ n ∧ n < 97 := by
  have hl : ∃ r, loopK (O X) [0, 3, 4] body89_1 [(0, .s s), (3, .i .i64 0), (4, .i .i64 0)] = some r ∧ (∃ n : Int, r = (.e 0, [(3, .i .i64 n)]) ∧ 0 ≤ n ∧ n < 97) := by
    refine loopK_inv (fun i env => ∃ n : Int, env = [(0, .s s), (3, .i .i64 n), (4, .i .i64 (i : Int))] ∧ 0 ≤ n ∧ n < 97) s.length _ (fun i env hI => ?_) (fun i env hi hI => ?_) (fun env hI => ?_) s.length 0 _ (by omega) ⟨0, by simp, by omega, by omega⟩
    · obtain ⟨n, rfl, _⟩ := hI; simp
    · obtain ⟨n, rfl, h0, h1⟩ := hI
      left
      have hw := wrap_i64 (i + 1) (by omega)
      by_cases hc : (s[i].toNat : Int) ≤ 57
      · simp [body89_1, hi, hw, hc]
        exact r89a _ _ h0 h1
      · simp [body89_1, hi, hw, hc]
        exact r89b _ _ h0 h1
    · obtain ⟨n, rfl, h0, h1⟩ := hI
      exact ⟨(.e 0, [(3, .i .i64 n)]), by simp [body89_1], by simp, n, rfl, h0, h1⟩
  obtain ⟨_, hl, n, rfl, h0, h1⟩ := hl
  exact ⟨n, orun (fc := code89) rfl rfl rfl (by simp [code89, exec_loopK, hl]), h0, h1⟩
theorem dig (q : Int) (h0 : 0 ≤ q) (h1 : q < 10) : ∃ d, opQ (O X) (.slcs true true) [.s [48, 49, 50, 51, 52, 53, 54, 55, 56, 57], .i .i64 q, .i .i64 (q + 1)] = some (.s [d]) := by
  have : q = 0 ∨ q = 1 ∨ q = 2 ∨ q = 3 ∨ q = 4 ∨ q = 5 ∨ q = 6 ∨ q = 7 ∨ q = 8 ∨ q = 9 := by omega
  rcases this with h | h | h | h | h | h | h | h | h | h <;> rw [h] <;> exact ⟨_, rfl⟩
theorem t77 (s : List UInt8) : ∃ z n, O X 77 [.s s] = some (.t [.s z, .i .i64 n]) := by
  by_cases h1 : (s.length : Int) < 1
  · exact ⟨[], 5, orun (fc := code77) rfl rfl rfl (by simp [code77, h1])⟩
  by_cases h2 : (46 : Int) < (s.length : Int)
  · exact ⟨[], 5, orun (fc := code77) rfl rfl rfl (by simp [code77, h1, h2])⟩
  obtain ⟨t, ht⟩ := t88 (X := X) s (by omega)
  cases t with
  | false => exact ⟨[], 2, orun (fc := code77) rfl rfl rfl (by simp [code77, h1, h2, ht])⟩
  | true =>
    obtain ⟨n, hn, h0, h97⟩ := t89 (X := X) (s ++ [48, 48]) (by rw [List.length_append]; simp; omega)
    have hw : IntKind.i64.wrap (98 - n) = 98 - n := wrap_i64 _ (by omega)
    generalize hk : 98 - n = k at hw
    have : ∃ y, O X 77 [.s s] = some y ∧ ∃ z n, y = .t [.s z, .i .i64 n] := by
      refine orunE (fc := code77) rfl rfl rfl ?_
      have hlen : s.length ≤ 9223372036854775805 := by omega
      have hlen2 : s.length ≤ 9223372036854775806 := by omega
      have hq : IntKind.i64.wrap (k.tdiv 10) = k / 10 := by
        rw [Int.tdiv_eq_ediv_of_nonneg (by omega)]
        exact wrap_i64 _ (by omega)
      have hr : k.tmod 10 = k % 10 := Int.tmod_eq_emod_of_nonneg (by omega)
      have hq1 : IntKind.i64.wrap (k / 10 + 1) = k / 10 + 1 := wrap_i64 _ (by omega)
      have hr1 : IntKind.i64.wrap (k % 10 + 1) = k % 10 + 1 := wrap_i64 _ (by omega)
      obtain ⟨d, hd⟩ := dig (X := X) (k / 10) (by omega) (by omega)
      obtain ⟨e, he⟩ := dig (X := X) (k % 10) (by omega) (by omega)
      generalize k / 10 = q at hq hq1 hd
      generalize k % 10 = r at hr hr1 he
      simp [code77, h1, h2, ht, hn, hk, hw, hq, hr, hq1, hr1, hd, he, hlen, hlen2]
    obtain ⟨y, h, z, m, rfl⟩ := this
    exact ⟨z, m, h⟩
theorem t62 (id : Int) : ∃ z, O X 62 [.i .i64 id] = some (.s z) := by
  by_cases h1 : id < 1000
  · exact ⟨[], orun (fc := code62) rfl rfl rfl (by simp [code62, h1])⟩
  by_cases h2 : 99999999 < id
  · exact ⟨[], orun (fc := code62) rfl rfl rfl (by simp [code62, h1, h2])⟩
  have hl : ∃ r, loopK (O X) [0, 3, 4] body62_1 [(0, .i .i64 id), (3, .s []), (4, .i .i64 0)] = some r ∧ (∃ z : List UInt8, r = (.e 0, [(3, .s z)]) ∧ z.length ≤ 8) := by
    refine loopK_inv (fun i env => ∃ (m : Int) (z : List UInt8), env = [(0, .i .i64 m), (3, .s z), (4, .i .i64 (i : Int))] ∧ 0 ≤ m ∧ m ≤ 99999999 ∧ z.length = i) 8 _ (fun i env hI => ?_) (fun i env hi hI => ?_) (fun env hI => ?_) 8 0 _ (by omega) ⟨id, [], by simp, by omega, by omega, rfl⟩
    · obtain ⟨m, z, rfl, _⟩ := hI; simp
    · obtain ⟨m, z, rfl, h0, h1, hz⟩ := hI
      left
      have hw := wrap_i64 (i + 1) (by omega)
      have hi' : (i : Int) < 8 := by omega
      have hq : IntKind.i64.wrap (m.tdiv 10) = m / 10 := by
        rw [Int.tdiv_eq_ediv_of_nonneg (by omega)]
        exact wrap_i64 _ (by omega)
      have hr : m.tmod 10 = m % 10 := Int.tmod_eq_emod_of_nonneg (by omega)
      have hr1 : IntKind.i64.wrap (m % 10 + 1) = m % 10 + 1 := wrap_i64 _ (by omega)
      obtain ⟨e, he⟩ := dig (X := X) (m % 10) (by omega) (by omega)
      have hm : 0 ≤ m / 10 ∧ m / 10 ≤ 99999999 := by omega
      generalize m / 10 = q at hq hm
      generalize m % 10 = r at hr hr1 he
      have hlen : 1 + i ≤ 9223372036854775807 := by omega
      simp [body62_1, hi', hw, hq, hr, hr1, he, hlen, hz]
      exact ⟨q, e :: z, ⟨rfl, rfl⟩, hm.1, hm.2, by simp [hz]⟩
    · obtain ⟨m, z, rfl, h0, h1, hz⟩ := hI
      exact ⟨(.e 0, [(3, .s z)]), by simp [body62_1], by simp, z, rfl, by omega⟩
  obtain ⟨_, hl, z, rfl, hz⟩ := hl
  obtain ⟨y, n, hs⟩ := t77 (X := X) ([67, 66] ++ z)
  have hlen : 2 + z.length ≤ 9223372036854775807 := by omega
  exact ⟨y, orun (fc := code62) rfl rfl rfl (by
    simp at hs
    simp [code62, h1, h2, exec_loopK, hl, hs, hlen])⟩
end Go.Proofs.YtmhbkofbbkogeaaGreat
namespace Go.Proofs.YtmhbkofbbkogeaaGreat
open Go.VM
variable {X : Orc}
theorem t44 (a : Account) : ∃ t, O X 44 [a.v] = some (.b t) := by
  obtain ⟨z, hz⟩ := t62 (X := X) a.id
  have h37 := o37 (X := X) a.opened
  generalize decide (0 ≤ a.opened ∧ a.opened ≤ 73048) = u at h37
  have : ∃ y, O X 44 [a.v] = some y ∧ B1 y := by
    refine orunE (fc := code44) rfl rfl rfl ?_
    by_cases h1 : 1000 ≤ a.id
    · by_cases h2 : a.id ≤ 99999999
      · cases u <;> simp [code44, hz, h37, h1, h2]
      · simp [code44, h1, h2]
    · simp [code44, h1]
  obtain ⟨y, h, n, rfl⟩ := this
  exact ⟨n, h⟩
theorem t34 (a b : Product) : ∃ t, O X 34 [a.v, b.v] = some (.b t) := by
  have : ∃ y, O X 34 [a.v, b.v] = some y ∧ B1 y := by
    refine orunE (fc := code34) rfl rfl rfl ?_
    by_cases h1 : Op.bytesLess a.name b.name = true
    · simp [code34, h1]
    · by_cases h2 : a.name = b.name <;> simp [code34, h1, h2]
  obtain ⟨y, h, n, rfl⟩ := this
  exact ⟨n, h⟩
theorem t11 (l : List Product) : ∃ n, O X 11 [.l (encL Product.v l)] = some (.i .i64 n) := by
  by_cases h6 : (64 : Int) < (l.length : Int)
  · exact ⟨5, orun (fc := code11) rfl rfl rfl (by simp [code11, h6])⟩
  have l1 : ∃ r, loopK (O X) [0, 3] body11_1 [(0, .l (encL Product.v l)), (3, .i .i64 ((0 + 1 : Nat) : Int))] = some r ∧ ((∃ n, r = (.r, [(2, .i .i64 n)])) ∨ r = (.e 0, [(0, .l (encL Product.v l))])) := by
    refine loopK_tot (fun i => [(0, .l (encL Product.v l)), (3, .i .i64 ((i + 1 : Nat) : Int))]) (l.length - 1) _ (by simp) (fun i hi => ?_) ?_
    · generalize hp : i + 1 = p
      have hpl : p < l.length := by omega
      have hil : i < l.length := by omega
      have hw : IntKind.i64.wrap ((p : Int) + 1) = ((p + 1 : Nat) : Int) := by rw [wrap_i64 _ (by omega)]; omega
      have hw1 : IntKind.i64.wrap ((p : Int) - 1) = (i : Int) := by rw [wrap_i64 _ (by omega)]; omega
      generalize ((p + 1 : Nat) : Int) = p2 at hw ⊢
      obtain ⟨t, ht⟩ := t34 (X := X) l[i] l[p]
      simp only [Product.v] at ht
      cases t <;> simp [-Prod.exists, body11_1, hpl, hil, hw, hw1, ht]
    · have h1 : ¬ (((l.length - 1 + 1 : Nat) : Int) < (l.length : Int)) := by omega
      generalize ((l.length - 1 + 1 : Nat) : Int) = z at h1 ⊢
      simp [-Prod.exists, body11_1, h1]
  have l2 : ∃ r, loopK (O X) [0, 4] body11_2 [(0, .l (encL Product.v l)), (4, .i .i64 ((0 + 1 : Nat) : Int))] = some r ∧ ((∃ n, r = (.r, [(2, .i .i64 n)])) ∨ r = (.e 2, [])) := by
    refine loopK_tot (fun i => [(0, .l (encL Product.v l)), (4, .i .i64 ((i + 1 : Nat) : Int))]) (l.length - 1) _ (by simp) (fun i hi => ?_) ?_
    · generalize hp : i + 1 = p
      have hpl : p < l.length := by omega
      have hil : i < l.length := by omega
      have hw : IntKind.i64.wrap ((p : Int) + 1) = ((p + 1 : Nat) : Int) := by rw [wrap_i64 _ (by omega)]; omega
      have hw1 : IntKind.i64.wrap ((p : Int) - 1) = (i : Int) := by rw [wrap_i64 _ (by omega)]; omega
      generalize ((p + 1 : Nat) : Int) = p2 at hw ⊢
      by_cases h1 : l[p].name = l[i].name
      · by_cases h2 : l[p].currency = l[i].currency <;> simp [-Prod.exists, body11_2, hpl, hil, hw, hw1, h1, h2]
      · simp [-Prod.exists, body11_2, hpl, hil, hw, hw1, h1]
    · have h1 : ¬ (((l.length - 1 + 1 : Nat) : Int) < (l.length : Int)) := by omega
      generalize ((l.length - 1 + 1 : Nat) : Int) = z at h1 ⊢
      simp [-Prod.exists, body11_2, h1]
  obtain ⟨r1, l1, hr1⟩ := l1
  obtain ⟨r2, l2, hr2⟩ := l2
  simp at l1 l2
  rcases hr1 with ⟨n, rfl⟩ | rfl
  · exact ⟨n, orun (fc := code11) rfl rfl rfl (by simp [code11, h6, exec_loopK, l1])⟩
  rcases hr2 with ⟨n, rfl⟩ | rfl
  · exact ⟨n, orun (fc := code11) rfl rfl rfl (by simp [code11, h6, exec_loopK, l1, l2])⟩
  · exact ⟨0, orun (fc := code11) rfl rfl rfl (by simp [code11, h6, exec_loopK, l1, l2])⟩
def p0 : Product := ⟨[], [], [], 0, 0, 0, 0, ⟨[], false, 0, 0, false⟩, ⟨[], false, 0, 0, false⟩, [], []⟩
theorem t63 (l : List Product) (s : List UInt8) (d : Int) (h : l.length ≤ 1000) : ∃ (p : Product) (u : Bool), O X 63 [.l (encL Product.v l), .s s, .i .i64 d] = some (.t [p.v, .b u]) := by
  have hl : ∃ r, loopK (O X) [0, 1, 2, 6, 8, 9] body63_1 [(0, .l (encL Product.v l)), (1, .s s), (2, .i .i64 d), (6, .bx p0.cells), (8, .i .i64 (-1)), (9, .i .i64 0)] = some r ∧ (∃ a : Int, r = (.e 0, [(0, .l (encL Product.v l)), (6, .bx p0.cells), (8, .i .i64 a)]) ∧ (a = -1 ∨ ∃ k : Nat, a = k ∧ k < l.length)) := by
    refine loopK_inv (fun i env => ∃ a : Int, env = [(0, .l (encL Product.v l)), (1, .s s), (2, .i .i64 d), (6, .bx p0.cells), (8, .i .i64 a), (9, .i .i64 (i : Int))] ∧ (a = -1 ∨ ∃ k : Nat, a = k ∧ k < l.length)) l.length _ (fun i env hI => ?_) (fun i env hi hI => ?_) (fun env hI => ?_) l.length 0 _ (by omega) ⟨-1, by simp, .inl rfl⟩
    · obtain ⟨a, rfl, _⟩ := hI; simp
    · obtain ⟨a, rfl, ha⟩ := hI
      left
      have hw := wrap_i64 (i + 1) (by omega)
      by_cases h1 : l[i].name = s
      · by_cases h2 : l[i].from' ≤ d
        · rcases ha with rfl | ⟨k, rfl, hk⟩
          · simp [body63_1, hi, hw, h1, h2]
            exact ⟨i, rfl, hi⟩
          · by_cases h3 : l[k].from' < l[i].from'
            · simp [body63_1, hi, hk, hw, h1, h2, h3]
              exact ⟨i, rfl, hi⟩
            · simp [body63_1, hi, hk, hw, h1, h2, h3]
              exact ⟨k, rfl, hk⟩
        · exact ⟨[(0, .l (encL Product.v l)), (1, .s s), (2, .i .i64 d), (6, .bx p0.cells), (8, .i .i64 a), (9, .i .i64 ((i + 1 : Nat) : Int))], by simp [body63_1, hi, hw, h1, h2], a, rfl, ha⟩
      · exact ⟨[(0, .l (encL Product.v l)), (1, .s s), (2, .i .i64 d), (6, .bx p0.cells), (8, .i .i64 a), (9, .i .i64 ((i + 1 : Nat) : Int))], by simp [body63_1, hi, hw, h1], a, rfl, ha⟩
    · obtain ⟨a, rfl, ha⟩ := hI
      exact ⟨(.e 0, [(0, .l (encL Product.v l)), (6, .bx p0.cells), (8, .i .i64 a)]), by simp [body63_1], by simp, a, rfl, ha⟩
  obtain ⟨_, hl, a, rfl, ha⟩ := hl
  rcases ha with rfl | ⟨k, rfl, hk⟩
  · refine ⟨p0, false, orun (fc := code63) rfl rfl rfl ?_⟩
    simp [p0, Product.cells] at hl
    simp [code63, exec_loopK, hl, p0]
  · refine ⟨l[k], true, orun (fc := code63) rfl rfl rfl ?_⟩
    simp [p0, Product.cells] at hl
    simp [code63, exec_loopK, hl, hk]
theorem t45 (b : Books) (a : Account) (h : b.products.length ≤ 1000) : ∃ n, O X 45 [b.v, a.v] = some (.i .i64 n) := by
  obtain ⟨t, ht⟩ := t38 (X := X) a.owner
  obtain ⟨p, u, hp⟩ := t63 (X := X) b.products a.product a.opened h
  cases t with
  | false => exact ⟨4, orun (fc := code45) rfl rfl rfl (by simp [code45, ht])⟩
  | true =>
    cases u with
    | false => exact ⟨11, orun (fc := code45) rfl rfl rfl (by simp [code45, ht, hp])⟩
    | true => exact ⟨0, orun (fc := code45) rfl rfl rfl (by simp [code45, ht, hp])⟩
end Go.Proofs.YtmhbkofbbkogeaaGreat
namespace Go.Proofs.YtmhbkofbbkogeaaGreat
open Go.VM
variable {X : Orc}
theorem t70 (b : Books) (id d : Int) (h : b.accounts.length ≤ 1000) : ∃ t, O X 70 [b.v, .i .i64 id, .i .i64 d] = some (.b t) ∧ (t = true → (posA b.accounts id).isSome = true) := by
  have hf := e80 (X := X) b id h
  cases ha : posA b.accounts id with
  | none =>
    rw [ha] at hf
    simp [aV, a0] at hf
    exact ⟨false, orun (fc := code70) rfl rfl rfl (by simp [code70, hf]), fun h => by cases h⟩
  | some i =>
    obtain ⟨hi, _⟩ := posA_some ha
    rw [ha] at hf
    simp [aV, hi] at hf
    have : ∃ y, O X 70 [b.v, .i .i64 id, .i .i64 d] = some y ∧ B1 y := by
      refine orunE (fc := code70) rfl rfl rfl ?_
      simp [code70, hf]
    obtain ⟨y, h, n, rfl⟩ := this
    exact ⟨n, h, fun _ => rfl⟩
theorem t69 (b : Books) (id d : Int) (h : b.accounts.length ≤ 1000) (hp : b.products.length ≤ 1000) : ∃ (p : Product) (u : Bool), O X 69 [b.v, .i .i64 id, .i .i64 d] = some (.t [p.v, .b u]) ∧ (u = true → (posA b.accounts id).isSome = true) := by
  have hf := e80 (X := X) b id h
  cases ha : posA b.accounts id with
  | none =>
    rw [ha] at hf
    simp [aV, a0] at hf
    exact ⟨p0, false, orun (fc := code69) rfl rfl rfl (by simp [code69, hf, p0]), fun h => by cases h⟩
  | some i =>
    obtain ⟨hi, _⟩ := posA_some ha
    rw [ha] at hf
    simp [aV, hi] at hf
    obtain ⟨p, u, hq⟩ := t63 (X := X) b.products b.accounts[i].product d hp
    exact ⟨p, u, orun (fc := code69) rfl rfl rfl (by simp [code69, hf, hq]), fun _ => rfl⟩
end Go.Proofs.YtmhbkofbbkogeaaGreat
namespace Go.Proofs.YtmhbkofbbkogeaaGreat
open Go.VM
variable {X : Orc}
set_option maxHeartbeats 4000000 in
theorem t14 (b : Books) (hp : b.products.length ≤ 1000) : ∃ n, O X 14 [b.v] = some (.i .i64 n) := by
  by_cases h6 : (64 : Int) < (b.accounts.length : Int)
  · exact ⟨5, orun (fc := code14) rfl rfl rfl (by simp [code14, h6])⟩
  have hl : ∃ r, loopK (O X) [1, 3] body14_1 [(1, .bx b.cells), (3, .i .i64 (0 : Nat))] = some r ∧ ((∃ n, r = (.r, [(2, .i .i64 n)])) ∨ r = (.e 0, [])) := by
    refine loopK_tot (fun i => [(1, .bx b.cells), (3, .i .i64 (i : Int))]) b.accounts.length _ (by simp) (fun i hi => ?_) (by simp [body14_1])
    have hw := wrap_i64 (i + 1) (by omega)
    obtain ⟨t, ht⟩ := t44 (X := X) b.accounts[i]
    obtain ⟨n, hn⟩ := t45 (X := X) b b.accounts[i] hp
    simp only [Account.v] at ht hn
    have h37 := o37 (X := X) b.accounts[i].closed
    generalize decide (0 ≤ b.accounts[i].closed ∧ b.accounts[i].closed ≤ 73048) = u at h37
    by_cases h0 : i = 0
    · subst h0
      by_cases hn0 : n = 0 <;> cases u <;> cases t <;> simp [-Prod.exists, ex_ite, body14_1, hi, ht, hn, h37, hn0, w1]
    · obtain ⟨p, hp⟩ : ∃ p, p + 1 = i := ⟨i - 1, by omega⟩
      have hpl : p < b.accounts.length := by omega
      have h0' : 0 < i := by omega
      have hw1 : IntKind.i64.wrap ((i : Int) - 1) = (p : Int) := by rw [wrap_i64 _ (by omega)]; omega
      by_cases hn0 : n = 0 <;> cases u <;> cases t <;> simp [-Prod.exists, ex_ite, body14_1, hi, hpl, hw, hw1, h0', ht, hn, h37, hn0]
  obtain ⟨r, hl, hr⟩ := hl
  simp only [Int.natCast_zero] at hl
  rcases hr with ⟨n, rfl⟩ | rfl
  · exact ⟨n, orun (fc := code14) rfl rfl rfl (by simp [code14, h6, exec_loopK, hl])⟩
  · exact ⟨0, orun (fc := code14) rfl rfl rfl (by simp [code14, h6, exec_loopK, hl])⟩
end Go.Proofs.YtmhbkofbbkogeaaGreat
namespace Go.Proofs.YtmhbkofbbkogeaaGreat
open Go.VM
variable {X : Orc}
abbrev strs (l : List (List UInt8)) : List V := encL V.s l
noncomputable def words : List (List UInt8) := match exec (fun _ _ => none) code105.body (args0 0 []) with
  | some (_, (_, .ow _ es) :: _) => es.map fun | .s x => x | _ => []
  | _ => []
theorem o105 : O X 105 [] = some (.ow 9 (strs words)) := orun (fc := code105) rfl rfl rfl (by kernel_rfl)
theorem words_len : words.length ≤ 100 := by decide +kernel
theorem t103 (s : List UInt8) : ∃ t, O X 103 [.s s] = some (.b t) := by
  have hlen := words_len
  have h105 := o105 (X := X)
  generalize words = l at hlen h105
  have hl : ∃ r, loopK (O X) [0, 3, 4] body103_1 [(0, .s s), (3, .ow 9 (strs l)), (4, .i .i64 (0 : Nat))] = some r ∧ (r = (.r, [(2, .b true)]) ∨ r = (.e 0, [])) := by
    refine loopK_tot (fun i => [(0, .s s), (3, .ow 9 (strs l)), (4, .i .i64 (i : Int))]) l.length _ (by simp) (fun i hi => ?_) (by simp [body103_1])
    have hw := wrap_i64 (i + 1) (by omega)
    simp [-Prod.exists, body103_1, hi, hw]
    repeat' split
    all_goals simp [-Prod.exists]
  obtain ⟨r, hl, hr⟩ := hl
  simp only [Int.natCast_zero] at hl
  rcases hr with rfl | rfl
  · exact ⟨true, orun (fc := code103) rfl rfl rfl (by simp [code103, exec_loopK, h105, hl])⟩
  · exact ⟨false, orun (fc := code103) rfl rfl rfl (by simp [code103, exec_loopK, h105, hl])⟩
theorem t96 (s : List UInt8) : ∃ t, O X 96 [.s s] = some (.b t) := by
  have h1 := e102 (X := X) s
  obtain ⟨t, ht⟩ := t103 (X := X) s
  generalize nameOk s = u at h1
  have : ∃ y, O X 96 [.s s] = some y ∧ B1 y := by
    refine orunE (fc := code96) rfl rfl rfl ?_
    cases u <;> simp [code96, h1, ht]
  obtain ⟨y, h, n, rfl⟩ := this
  exact ⟨n, h⟩
end Go.Proofs.YtmhbkofbbkogeaaGreat
