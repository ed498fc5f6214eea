/-
  Functions that only answer: names, currencies, calendars, holds, blocks.
-/
import Derived.Test.YtdlpbedneamebaaGreatDoorSpec4
namespace Go.Proofs.YtdlpbedneamebaaGreatDoor
open Go.VM
variable {X : Orc}
theorem orunE {f : Nat} {fc : FCode} (ht : tab f = some fc) {args : List V} {R : V → Prop} (hl : args.length = fc.np) (ha : args.all V.arg = true) (h : ∃ y, retE fc.res (exec (O X) fc.body (args0 0 args)) = some y ∧ R y) : ∃ y, O X f args = some y ∧ R y := run_ex ht hl ha h
theorem w1 : IntKind.i64.wrap 1 = 1 := wrap_i64 1 (by omega)
theorem t30 (s : List UInt8) : ∃ t, O X 74 [.s s] = some (.b t) := by
  by_cases h3 : s.length = 3
  · have hl : ∃ r, loopK (O X) [0, 3] body74_1 [(0, .s s), (3, .i .i64 (0 : Nat))] = some r ∧ (r = (.r, [(2, .b false)]) ∨ r = (.e 0, [])) := by
      refine loopK_tot (fun i => [(0, .s s), (3, .i .i64 (i : Int))]) 3 _ (by simp) (fun i hi => ?_) (by simp [body74_1])
      have hw := wrap_i64 (i + 1) (by omega)
      have hs : i < s.length := by omega
      have hi' : (i : Int) < 3 := by omega
      simp [-Prod.exists, body74_1, hs, hi', hw]
      repeat' split
      all_goals simp [-Prod.exists]
    obtain ⟨r, hl, hr⟩ := hl
    simp only [Int.natCast_zero] at hl
    refine ⟨_, orun (fc := code74) rfl rfl rfl (y := .b (match r.1 with | .r => false | _ => true)) ?_⟩
    rcases hr with rfl | rfl <;> simp [code74, h3, exec_loopK, hl]
  · have h3' : ¬ (s.length : Int) = 3 := by omega
    exact ⟨_, orun (fc := code74) rfl rfl rfl (y := .b false) (by simp [code74, h3'])⟩
theorem t9 (l : List Currency) : ∃ n, O X 36 [.l (encL Currency.v l)] = some (.i .i64 n) := by
  by_cases h1 : l.length < 1
  · have h1' : (l.length : Int) < 1 := by omega
    exact ⟨_, orun (fc := code36) rfl rfl rfl (y := .i .i64 5) (by simp [code36, h1'])⟩
  by_cases h2 : 8 < l.length
  · have h1' : ¬ (l.length : Int) < 1 := by omega
    have h2' : (8 : Int) < (l.length : Int) := by omega
    exact ⟨_, orun (fc := code36) rfl rfl rfl (y := .i .i64 5) (by simp [code36, h1', h2'])⟩
  have h1' : ¬ (l.length : Int) < 1 := by omega
  have h2' : ¬ (8 : Int) < (l.length : Int) := by omega
  have hl : ∃ r, loopK (O X) [0, 3] body36_1 [(0, .l (encL Currency.v l)), (3, .i .i64 (0 : Nat))] = some r ∧ ((∃ n, r = (.r, [(2, .i .i64 n)])) ∨ r = (.e 0, [])) := by
    refine loopK_tot (fun i => [(0, .l (encL Currency.v l)), (3, .i .i64 (i : Int))]) l.length _ (by simp) (fun i hi => ?_) (by simp [body36_1])
    have hw := wrap_i64 (i + 1) (by omega)
    obtain ⟨t, ht⟩ := t30 (X := X) l[i].code
    cases t with
    | false => simp [-Prod.exists, body36_1, hi, ht]
    | true =>
      by_cases h0 : i = 0
      · subst h0
        simp [-Prod.exists, body36_1, hi, ht]
        repeat' split
        all_goals simp [-Prod.exists, w1]
      · obtain ⟨p, hp⟩ : ∃ p, p + 1 = i := ⟨i - 1, by omega⟩
        have hpl : p < l.length := by omega
        have hw1 : IntKind.i64.wrap ((i : Int) - 1) = (p : Int) := by rw [wrap_i64 _ (by omega)]; omega
        simp [-Prod.exists, body36_1, hi, hw, ht, hw1, hpl]
        repeat' split
        all_goals simp [-Prod.exists]
  obtain ⟨r, hl, hr⟩ := hl
  simp only [Int.natCast_zero] at hl
  rcases hr with ⟨n, rfl⟩ | rfl
  · exact ⟨n, orun (fc := code36) rfl rfl rfl (by simp [code36, h1', h2', exec_loopK, hl])⟩
  · exact ⟨0, orun (fc := code36) rfl rfl rfl (by simp [code36, h1', h2', exec_loopK, hl])⟩
theorem o81 (d : Int) : O X 81 [.i .i64 d] = some (.b (decide (0 ≤ d ∧ d ≤ 73048))) := by
  refine orun (fc := code81) rfl rfl rfl ?_
  by_cases h : 0 ≤ d <;> simp [code81, h]
theorem t35 (s : List UInt8) : ∃ t, O X 89 [.s s] = some (.b t) := by
  by_cases h1 : (s.length : Int) < 1
  · exact ⟨false, orun (fc := code89) rfl rfl rfl (by simp [code89, h1])⟩
  by_cases h2 : (16 : Int) < s.length
  · exact ⟨false, orun (fc := code89) rfl rfl rfl (by simp [code89, h1, h2])⟩
  have h0 : 0 < s.length := by omega
  have hl : ∃ r, loopK (O X) [0, 3] body89_1 [(0, .s s), (3, .i .i64 (0 : Nat))] = some r ∧ (r = (.r, [(2, .b false)]) ∨ r = (.e 0, [])) := by
    refine loopK_tot (fun i => [(0, .s s), (3, .i .i64 (i : Int))]) s.length _ (by simp) (fun i hi => ?_) (by simp [body89_1])
    have hw := wrap_i64 (i + 1) (by omega)
    simp [-Prod.exists, body89_1, hi, hw]
    repeat' split
    all_goals simp [-Prod.exists]
  obtain ⟨r, hl, hr⟩ := hl
  simp only [Int.natCast_zero] at hl
  by_cases h3 : (s[0].toNat : Int) < 97
  · exact ⟨false, orun (fc := code89) rfl rfl rfl (by simp [code89, h1, h2, h0, h3])⟩
  by_cases h4 : (122 : Int) < (s[0].toNat : Int)
  · exact ⟨false, orun (fc := code89) rfl rfl rfl (by simp [code89, h1, h2, h0, h3, h4])⟩
  rcases hr with rfl | rfl
  · exact ⟨false, orun (fc := code89) rfl rfl rfl (by simp [code89, h1, h2, h0, h3, h4, exec_loopK, hl])⟩
  · exact ⟨true, orun (fc := code89) rfl rfl rfl (by simp [code89, h1, h2, h0, h3, h4, exec_loopK, hl])⟩
theorem t36 (l : List Int) (h : l.length ≤ 1000) : ∃ t, O X 125 [.l (ints l)] = some (.b t) := by
  have hl : ∃ r, loopK (O X) [0, 3] body125_1 [(0, .l (ints l)), (3, .i .i64 ((0 + 1 : Nat) : Int))] = some r ∧ (r = (.r, [(2, .b false)]) ∨ r = (.e 0, [])) := by
    refine loopK_tot (fun i => [(0, .l (ints l)), (3, .i .i64 ((i + 1 : Nat) : Int))]) (l.length - 1) _ (by simp) (fun i hi => ?_) ?_
    · generalize hp : i + 1 = p
      have hpl : p < l.length := by omega
      have hil : i < l.length := by omega
      have hw : IntKind.i64.wrap ((p : Int) + 1) = ((p + 1 : Nat) : Int) := by rw [wrap_i64 _ (by omega)]; omega
      have hw1 : IntKind.i64.wrap ((p : Int) - 1) = (i : Int) := by rw [wrap_i64 _ (by omega)]; omega
      generalize ((p + 1 : Nat) : Int) = p2 at hw ⊢
      simp [-Prod.exists, body125_1, hpl, hil, hw, hw1]
      repeat' split
      all_goals simp [-Prod.exists]
    · have h1 : ¬ (((l.length - 1 + 1 : Nat) : Int) < (l.length : Int)) := by omega
      generalize ((l.length - 1 + 1 : Nat) : Int) = z at h1 ⊢
      simp [-Prod.exists, body125_1, h1]
  obtain ⟨r, hl, hr⟩ := hl
  simp at hl
  rcases hr with rfl | rfl
  · exact ⟨false, orun (fc := code125) rfl rfl rfl (by simp [code125, exec_loopK, hl])⟩
  · exact ⟨true, orun (fc := code125) rfl rfl rfl (by simp [code125, exec_loopK, hl])⟩
theorem t12 (c : Calendar) (hw : c.weekend.length ≤ 1000) (hh : c.holidays.length ≤ 1000) : ∃ n, O X 75 [c.v] = some (.i .i64 n) := by
  obtain ⟨t, ht⟩ := t35 (X := X) c.name
  obtain ⟨u, hu⟩ := t36 (X := X) c.weekend hw
  obtain ⟨v, hv⟩ := t36 (X := X) c.holidays hh
  have l1 : ∃ r, loopK (O X) [1, 3] body75_1 [(1, .bx c.cells), (3, .i .i64 (0 : Nat))] = some r ∧ ((∃ n, r = (.r, [(2, .i .i64 n)])) ∨ r = (.e 0, [(1, .bx c.cells)])) := by
    refine loopK_tot (fun i => [(1, .bx c.cells), (3, .i .i64 (i : Int))]) c.weekend.length _ (by simp) (fun i hi => ?_) (by simp [body75_1])
    have hw := wrap_i64 (i + 1) (by omega)
    simp [-Prod.exists, body75_1, hi, hw]
    repeat' split
    all_goals simp [-Prod.exists]
  have l2 : ∃ r, loopK (O X) [1, 4] body75_2 [(1, .bx c.cells), (4, .i .i64 (0 : Nat))] = some r ∧ ((∃ n, r = (.r, [(2, .i .i64 n)])) ∨ r = (.e 2, [(1, .bx c.cells)])) := by
    refine loopK_tot (fun i => [(1, .bx c.cells), (4, .i .i64 (i : Int))]) c.holidays.length _ (by simp) (fun i hi => ?_) (by simp [body75_2])
    have hw := wrap_i64 (i + 1) (by omega)
    have h37 := o81 (X := X) c.holidays[i]
    by_cases hc : 0 ≤ c.holidays[i] ∧ c.holidays[i] ≤ 73048
    · rw [decide_eq_true hc] at h37
      simp [-Prod.exists, body75_2, hi, hw, h37]
    · rw [decide_eq_false hc] at h37
      simp [-Prod.exists, body75_2, hi, h37]
  obtain ⟨r1, l1, hr1⟩ := l1
  obtain ⟨r2, l2, hr2⟩ := l2
  simp at l1 l2
  have : ∃ y, O X 75 [c.v] = some y ∧ ∃ n, y = .i .i64 n := by
    refine orunE (fc := code75) rfl rfl rfl ?_
    cases t with
    | false => simp [code75, ht]
    | true =>
      rcases hr1 with ⟨n, rfl⟩ | rfl
      · simp [code75, ht, exec_loopK, l1]
      · by_cases h6 : (6 : Int) < (c.weekend.length : Int)
        · simp [code75, ht, exec_loopK, l1, h6]
        · cases u with
          | false => simp [code75, ht, exec_loopK, l1, h6, hu]
          | true =>
            by_cases h4 : (400 : Int) < (c.holidays.length : Int)
            · simp [code75, ht, exec_loopK, l1, h6, hu, h4]
            · rcases hr2 with ⟨n, rfl⟩ | rfl
              · simp [code75, ht, exec_loopK, l1, l2, h6, hu, h4]
              · cases v <;> simp [code75, ht, exec_loopK, l1, l2, h6, hu, h4, hv]
  obtain ⟨y, h, n, rfl⟩ := this
  exact ⟨n, h⟩
theorem t38 (s : List UInt8) : ∃ t, O X 128 [.s s] = some (.b t) := by
  by_cases h1 : s = []
  · exact ⟨false, orun (fc := code128) rfl rfl rfl (by simp [code128, h1])⟩
  by_cases h2 : (16 : Int) < s.length
  · exact ⟨false, orun (fc := code128) rfl rfl rfl (by simp [code128, h1, h2])⟩
  have h0 : 0 < s.length := List.length_pos_iff.2 h1
  have hl : ∃ r, loopK (O X) [0, 3] body128_1 [(0, .s s), (3, .i .i64 ((0 + 1 : Nat) : Int))] = some r ∧ (r = (.r, [(2, .b false)]) ∨ r = (.e 0, [])) := by
    refine loopK_tot (fun i => [(0, .s s), (3, .i .i64 ((i + 1 : Nat) : Int))]) (s.length - 1) _ (by simp) (fun i hi => ?_) ?_
    · generalize hp : i + 1 = p
      have hpl : p < s.length := by omega
      have hw : IntKind.i64.wrap ((p : Int) + 1) = ((p + 1 : Nat) : Int) := by rw [wrap_i64 _ (by omega)]; omega
      generalize ((p + 1 : Nat) : Int) = p2 at hw ⊢
      simp [-Prod.exists, body128_1, hpl, hw]
      repeat' split
      all_goals simp [-Prod.exists]
    · have h1 : ¬ (((s.length - 1 + 1 : Nat) : Int) < (s.length : Int)) := by omega
      generalize ((s.length - 1 + 1 : Nat) : Int) = z at h1 ⊢
      simp [-Prod.exists, body128_1, h1]
  obtain ⟨r, hl, hr⟩ := hl
  simp at hl
  by_cases h3 : (s[0].toNat : Int) < 97
  · exact ⟨false, orun (fc := code128) rfl rfl rfl (by simp [code128, h1, h2, h0, h3])⟩
  by_cases h4 : (122 : Int) < (s[0].toNat : Int)
  · exact ⟨false, orun (fc := code128) rfl rfl rfl (by simp [code128, h1, h2, h0, h3, h4])⟩
  rcases hr with rfl | rfl
  · exact ⟨false, orun (fc := code128) rfl rfl rfl (by simp [code128, h1, h2, h0, h3, h4, exec_loopK, hl])⟩
  · exact ⟨true, orun (fc := code128) rfl rfl rfl (by simp [code128, h1, h2, h0, h3, h4, exec_loopK, hl])⟩
theorem t65l (s : List UInt8) (m lo : Int) (hm : m ≤ 1000) : ∃ t, O X 182 [.s s, .i .i64 m, .i .u8 lo] = some (.b t) ∧ (t = true → (s.length : Int) ≤ m) := by
  by_cases h1 : m < (s.length : Int)
  · exact ⟨false, orun (fc := code182) rfl rfl rfl (by simp [code182, h1]), by simp⟩
  have hl : ∃ r, loopK (O X) [0, 2, 7] body182_1 [(0, .s s), (2, .i .u8 lo), (7, .i .i64 (0 : Nat))] = some r ∧ (r = (.r, [(6, .b false)]) ∨ r = (.e 0, [])) := by
    refine loopK_tot (fun i => [(0, .s s), (2, .i .u8 lo), (7, .i .i64 (i : Int))]) s.length _ (by simp) (fun i hi => ?_) (by simp [body182_1])
    have hw := wrap_i64 (i + 1) (by omega)
    simp [-Prod.exists, body182_1, hi, hw]
    repeat' split
    all_goals simp [-Prod.exists]
  obtain ⟨r, hl, hr⟩ := hl
  simp only [Int.natCast_zero] at hl
  rcases hr with rfl | rfl
  · exact ⟨false, orun (fc := code182) rfl rfl rfl (by simp [code182, h1, exec_loopK, hl]), by simp⟩
  · exact ⟨true, orun (fc := code182) rfl rfl rfl (by simp [code182, h1, exec_loopK, hl]), fun _ => by omega⟩
theorem t64l (s : List UInt8) : ∃ t, O X 139 [.s s] = some (.b t) ∧ (t = true → s.length ≤ 48) := by
  obtain ⟨t, ht, hl⟩ := t65l (X := X) s 48 33 (by omega)
  by_cases h : (1 : Int) ≤ (s.length : Int)
  · exact ⟨t, orun (fc := code139) rfl rfl rfl (by simp [code139, h, ht]), fun h => by have := hl h; omega⟩
  · exact ⟨false, orun (fc := code139) rfl rfl rfl (by simp [code139, h]), by simp⟩
theorem t64 (s : List UInt8) : ∃ t, O X 139 [.s s] = some (.b t) :=
  let ⟨t, h, _⟩ := t64l (X := X) s; ⟨t, h⟩
end Go.Proofs.YtdlpbedneamebaaGreatDoor
namespace Go.Proofs.YtdlpbedneamebaaGreatDoor
open Go.VM
variable {X : Orc}
theorem t48 (h : Hold) : ∃ n, O X 86 [h.v] = some (.i .i64 n) := by
  obtain ⟨t, ht⟩ := t64 (X := X) h.key
  have a := o81 (X := X) h.from'
  have b := o81 (X := X) h.to'
  generalize decide (0 ≤ h.from' ∧ h.from' ≤ 73048) = u at a
  generalize decide (0 ≤ h.to' ∧ h.to' ≤ 73048) = v at b
  have : ∃ y, O X 86 [h.v] = some y ∧ ∃ n, y = .i .i64 n := by
    refine orunE (fc := code86) rfl rfl rfl ?_
    cases t <;> cases u <;> cases v <;> simp [code86, ht, a, b] <;> repeat' split
    all_goals simp
  obtain ⟨y, h, n, rfl⟩ := this
  exact ⟨n, h⟩
theorem t49 (l : List Hold) (s : List UInt8) (h : l.length ≤ 1000) : ∃ t, O X 87 [.l (encL Hold.v l), .s s] = some (.b t) := by
  have hl : ∃ r, loopK (O X) [0, 1, 5] body87_1 [(0, .l (encL Hold.v l)), (1, .s s), (5, .i .i64 (0 : Nat))] = some r ∧ (r = (.r, [(4, .b true)]) ∨ r = (.e 0, [])) := by
    refine loopK_tot (fun i => [(0, .l (encL Hold.v l)), (1, .s s), (5, .i .i64 (i : Int))]) l.length _ (by simp) (fun i hi => ?_) (by simp [body87_1])
    have hw := wrap_i64 (i + 1) (by omega)
    simp [-Prod.exists, body87_1, hi, hw]
    repeat' split
    all_goals simp [-Prod.exists]
  obtain ⟨r, hl, hr⟩ := hl
  simp only [Int.natCast_zero] at hl
  rcases hr with rfl | rfl
  · exact ⟨true, orun (fc := code87) rfl rfl rfl (by simp [code87, exec_loopK, hl])⟩
  · exact ⟨false, orun (fc := code87) rfl rfl rfl (by simp [code87, exec_loopK, hl])⟩
theorem slc_holds (l : List Hold) (i : Nat) (h : i ≤ l.length) : opQ (O X) (.slc 6 false true) [.l (encL Hold.v l), .i .i64 i] = some (.l (encL Hold.v (l.take i))) := by
  have hb : bnds (encL Hold.v l).length false true [.i .i64 (i : Int)] = some (0, i) := by
    have : (i : Int) ≤ ((encL Hold.v l).length : Int) := by simp; omega
    simp only [bnds]
    rw [if_pos ⟨by omega, this⟩]
    simp
  have ha : (encL Hold.v l).all (fun x => x.cells.length == 6) = true := encL_all fun _ => rfl
  simp only [opQ, ha, if_true, hb, Option.map_some, List.drop_zero]
  simp [encL]
theorem t16 (l : List Hold) : ∃ n, O X 42 [.l (encL Hold.v l)] = some (.i .i64 n) := by
  by_cases h1 : (64 : Int) < (l.length : Int)
  · exact ⟨5, orun (fc := code42) rfl rfl rfl (by simp [code42, h1])⟩
  have hl : ∃ r, loopK (O X) [0, 3] body42_1 [(0, .l (encL Hold.v l)), (3, .i .i64 (0 : Nat))] = some r ∧ ((∃ n, r = (.r, [(2, .i .i64 n)])) ∨ r = (.e 0, [])) := by
    refine loopK_tot (fun i => [(0, .l (encL Hold.v l)), (3, .i .i64 (i : Int))]) l.length _ (by simp) (fun i hi => ?_) (by simp [body42_1])
    have hw := wrap_i64 (i + 1) (by omega)
    obtain ⟨n, hn⟩ := t48 (X := X) l[i]
    simp only [Hold.v] at hn
    obtain ⟨t, ht⟩ := t49 (X := X) (l.take i) l[i].key (by rw [List.length_take]; omega)
    have hs := slc_holds (X := X) l i (by omega)
    by_cases hn0 : n = 0
    · subst hn0
      by_cases h0 : i = 0
      · subst h0
        cases t <;> simp [-Prod.exists, body42_1, hi, hn] <;> simp at hs ht <;> simp [-Prod.exists, hs, ht, w1]
      · obtain ⟨p, hp⟩ : ∃ p, p + 1 = i := ⟨i - 1, by omega⟩
        have hpl : p < l.length := by omega
        have h0' : 0 < i := by omega
        have hw1 : IntKind.i64.wrap ((i : Int) - 1) = (p : Int) := by rw [wrap_i64 _ (by omega)]; omega
        by_cases hid : l[i].id ≤ l[p].id
        · simp [-Prod.exists, body42_1, hi, hn, h0', hw1, hpl, hid]
        · cases t <;> simp [-Prod.exists, body42_1, hi, hw, hn, h0', hw1, hpl, hid, hs, ht]
    · simp [-Prod.exists, body42_1, hi, hn, hn0]
  obtain ⟨r, hl, hr⟩ := hl
  simp only [Int.natCast_zero] at hl
  rcases hr with ⟨n, rfl⟩ | rfl
  · exact ⟨n, orun (fc := code42) rfl rfl rfl (by simp [code42, h1, exec_loopK, hl])⟩
  · exact ⟨0, orun (fc := code42) rfl rfl rfl (by simp [code42, h1, exec_loopK, hl])⟩
theorem t50 (b : Block) : ∃ t, O X 88 [b.v] = some (.b t) := by
  have h1 := o81 (X := X) b.from'
  have h2 := o81 (X := X) b.to'
  generalize decide (0 ≤ b.from' ∧ b.from' ≤ 73048) = u at h1
  generalize decide (0 ≤ b.to' ∧ b.to' ≤ 73048) = v at h2
  have : ∃ y, O X 88 [b.v] = some y ∧ ∃ n, y = .b n := by
    refine orunE (fc := code88) rfl rfl rfl ?_
    by_cases h4 : b.kind = 4 <;> cases u <;> cases v <;> simp [code88, h1, h2, h4] <;> repeat' split
    all_goals omega
  obtain ⟨y, h, n, rfl⟩ := this
  exact ⟨n, h⟩
theorem t17 (l : List Block) : ∃ n, O X 43 [.l (encL Block.v l)] = some (.i .i64 n) := by
  by_cases h1 : (64 : Int) < (l.length : Int)
  · exact ⟨5, orun (fc := code43) rfl rfl rfl (by simp [code43, h1])⟩
  have hl : ∃ r, loopK (O X) [0, 3] body43_1 [(0, .l (encL Block.v l)), (3, .i .i64 (0 : Nat))] = some r ∧ ((∃ n, r = (.r, [(2, .i .i64 n)])) ∨ r = (.e 0, [])) := by
    refine loopK_tot (fun i => [(0, .l (encL Block.v l)), (3, .i .i64 (i : Int))]) l.length _ (by simp) (fun i hi => ?_) (by simp [body43_1])
    have hw := wrap_i64 (i + 1) (by omega)
    obtain ⟨n, hn⟩ := t50 (X := X) l[i]
    simp only [Block.v] at hn
    obtain ⟨t, ht⟩ := t35 (X := X) l[i].source
    cases n with
    | false => simp [-Prod.exists, body43_1, hi, hn]
    | true =>
      cases t with
      | false => simp [-Prod.exists, body43_1, hi, hn, ht]
      | true =>
        by_cases h0 : i = 0
        · subst h0
          simp [-Prod.exists, body43_1, hi, hn, ht, w1]
        · obtain ⟨p, hp⟩ : ∃ p, p + 1 = i := ⟨i - 1, by omega⟩
          have hpl : p < l.length := by omega
          have h0' : 0 < i := by omega
          have hw1 : IntKind.i64.wrap ((i : Int) - 1) = (p : Int) := by rw [wrap_i64 _ (by omega)]; omega
          by_cases hid : l[i].id ≤ l[p].id
          · simp [-Prod.exists, body43_1, hi, hn, ht, h0', hw1, hpl, hid]
          · simp [-Prod.exists, body43_1, hi, hw, hn, ht, h0', hw1, hpl, hid]
  obtain ⟨r, hl, hr⟩ := hl
  simp only [Int.natCast_zero] at hl
  rcases hr with ⟨n, rfl⟩ | rfl
  · exact ⟨n, orun (fc := code43) rfl rfl rfl (by simp [code43, h1, exec_loopK, hl])⟩
  · exact ⟨0, orun (fc := code43) rfl rfl rfl (by simp [code43, h1, exec_loopK, hl])⟩
end Go.Proofs.YtdlpbedneamebaaGreatDoor
namespace Go.Proofs.YtdlpbedneamebaaGreatDoor
open Go.VM
variable {X : Orc}
theorem t59 (l : List Tier) : ∃ n, O X 172 [.l (encL Tier.v l)] = some (.i .i64 n) := by
  by_cases h6 : (6 : Int) < (l.length : Int)
  · exact ⟨5, orun (fc := code172) rfl rfl rfl (by simp [code172, h6])⟩
  have l1 : ∃ r, loopK (O X) [0, 3] body172_1 [(0, .l (encL Tier.v l)), (3, .i .i64 (0 : Nat))] = some r ∧ ((∃ n, r = (.r, [(2, .i .i64 n)])) ∨ r = (.e 0, [(0, .l (encL Tier.v l))])) := by
    refine loopK_tot (fun i => [(0, .l (encL Tier.v l)), (3, .i .i64 (i : Int))]) l.length _ (by simp) (fun i hi => ?_) (by simp [body172_1])
    have hw := wrap_i64 (i + 1) (by omega)
    simp [-Prod.exists, body172_1, hi, hw]
    repeat' split
    all_goals simp [-Prod.exists]
  have l2 : ∃ r, loopK (O X) [0, 4] body172_2 [(0, .l (encL Tier.v l)), (4, .i .i64 ((0 + 1 : Nat) : Int))] = some r ∧ ((∃ n, r = (.r, [(2, .i .i64 n)])) ∨ r = (.e 2, [(0, .l (encL Tier.v l))])) := by
    refine loopK_tot (fun i => [(0, .l (encL Tier.v l)), (4, .i .i64 ((i + 1 : Nat) : Int))]) (l.length - 1) _ (by simp) (fun i hi => ?_) ?_
    · generalize hp : i + 1 = p
      have hpl : p < l.length := by omega
      have hil : i < l.length := by omega
      have hw : IntKind.i64.wrap ((p : Int) + 1) = ((p + 1 : Nat) : Int) := by rw [wrap_i64 _ (by omega)]; omega
      have hw1 : IntKind.i64.wrap ((p : Int) - 1) = (i : Int) := by rw [wrap_i64 _ (by omega)]; omega
      generalize ((p + 1 : Nat) : Int) = p2 at hw ⊢
      simp [-Prod.exists, body172_2, hpl, hil, hw, hw1]
      repeat' split
      all_goals simp [-Prod.exists]
    · have h1 : ¬ (((l.length - 1 + 1 : Nat) : Int) < (l.length : Int)) := by omega
      generalize ((l.length - 1 + 1 : Nat) : Int) = z at h1 ⊢
      simp [-Prod.exists, body172_2, h1]
  obtain ⟨r1, l1, hr1⟩ := l1
  obtain ⟨r2, l2, hr2⟩ := l2
  simp at l1 l2
  rcases hr1 with ⟨n, rfl⟩ | rfl
  · exact ⟨n, orun (fc := code172) rfl rfl rfl (by simp [code172, h6, exec_loopK, l1])⟩
  rcases hr2 with ⟨n, rfl⟩ | rfl
  · exact ⟨n, orun (fc := code172) rfl rfl rfl (by simp [code172, h6, exec_loopK, l1, l2])⟩
  by_cases h0 : 0 < l.length
  · by_cases hf : l[0].from' = 0
    · exact ⟨0, orun (fc := code172) rfl rfl rfl (by simp [code172, h6, exec_loopK, l1, l2, h0, hf])⟩
    · exact ⟨1, orun (fc := code172) rfl rfl rfl (by simp [code172, h6, exec_loopK, l1, l2, h0, hf])⟩
  · exact ⟨0, orun (fc := code172) rfl rfl rfl (by simp [code172, h6, exec_loopK, l1, l2, h0])⟩
theorem t41 (x : Interest) : ∃ n, O X 131 [x.v] = some (.i .i64 n) := by
  obtain ⟨n, hn⟩ := t59 (X := X) x.tiers
  have : ∃ y, O X 131 [x.v] = some y ∧ ∃ n, y = .i .i64 n := by
    refine orunE (fc := code131) rfl rfl rfl ?_
    by_cases h0 : n = 0
    · subst h0
      simp [code131, hn]
      repeat' split
      all_goals simp
    · simp [code131, hn, h0]
  obtain ⟨y, h, n, rfl⟩ := this
  exact ⟨n, h⟩
theorem o249 (t : Int) : O X 249 [.i .i64 t] = some (.b (decide (1 ≤ t ∧ t ≤ 5))) := by
  refine orun (fc := code249) rfl rfl rfl ?_
  by_cases h : 1 ≤ t <;> simp [code249, h]
theorem t106 (t : Int) : ∃ b, O X 289 [.i .i64 t] = some (.b b) := by
  have : ∃ y, O X 289 [.i .i64 t] = some y ∧ ∃ n, y = .b n := by
    refine orunE (fc := code289) rfl rfl rfl ?_
    simp [code289]
    omega
  obtain ⟨y, h, n, rfl⟩ := this
  exact ⟨n, h⟩
theorem t108 (a b : Int) : ∃ n u, O X 302 [.i .i64 a, .i .i64 b] = some (.t [.i .i64 n, .b u]) := by
  obtain ⟨u, hu⟩ := t106 (X := X) a
  obtain ⟨v, hv⟩ := t106 (X := X) b
  have : ∃ y, O X 302 [.i .i64 a, .i .i64 b] = some y ∧ ∃ n u, y = .t [.i .i64 n, .b u] := by
    refine orunE (fc := code302) rfl rfl rfl ?_
    by_cases hab : a = b <;> cases u <;> cases v <;> simp [code302, hu, hv, hab] <;> repeat' split
    all_goals simp
  obtain ⟨y, h, n, u, rfl⟩ := this
  exact ⟨n, u, h⟩
theorem t99 (op : Int) : ∃ n, O X 270 [.i .i64 op] = some (.i .i64 n) ∧ n ≤ 3 := by
  have : ∃ y, O X 270 [.i .i64 op] = some y ∧ ∃ n, y = .i .i64 n ∧ n ≤ 3 := by
    refine orunE (fc := code270) rfl rfl rfl ?_
    simp [code270]
    repeat' split
    all_goals simp
  obtain ⟨y, h, n, rfl, hn⟩ := this
  exact ⟨n, h, hn⟩
theorem t100 (op : Int) : ∃ n, O X 271 [.i .i64 op] = some (.i .i64 n) := by
  have : ∃ y, O X 271 [.i .i64 op] = some y ∧ ∃ n, y = .i .i64 n := by
    refine orunE (fc := code271) rfl rfl rfl ?_
    simp [code271]
    repeat' split
    all_goals simp
  obtain ⟨y, h, n, rfl⟩ := this
  exact ⟨n, h⟩
theorem ex_ite {α : Type} {p : Prop} [Decidable p] {a b : Option α} {R : α → Prop} : (∃ y, (if p then a else b) = some y ∧ R y) = if p then ∃ y, a = some y ∧ R y else ∃ y, b = some y ∧ R y := by split <;> rfl
def IB (y : V) : Prop := ∃ n u, y = .t [.i .i64 n, .b u]
@[simp] theorem IB_mk (n : Int) (u : Bool) : IB (.t [.i .i64 n, .b u]) = True := eq_true ⟨n, u, rfl⟩
def II (y : V) : Prop := ∃ n u, y = .t [.i .i64 n, .i .i64 u]
@[simp] theorem II_mk (n u : Int) : II (.t [.i .i64 n, .i .i64 u]) = True := eq_true ⟨n, u, rfl⟩
def I1 (y : V) : Prop := ∃ n, y = .i .i64 n
@[simp] theorem I1_mk (n : Int) : I1 (.i .i64 n) = True := eq_true ⟨n, rfl⟩
def B1 (y : V) : Prop := ∃ n, y = .b n
@[simp] theorem B1_mk (n : Bool) : B1 (.b n) = True := eq_true ⟨n, rfl⟩
set_option maxHeartbeats 2000000 in
theorem t107 (op a b : Int) : ∃ n u, O X 290 [.i .i64 op, .i .i64 a, .i .i64 b] = some (.t [.i .i64 n, .b u]) := by
  obtain ⟨u, hu⟩ := t106 (X := X) a
  obtain ⟨m, v, hv⟩ := t108 (X := X) a b
  have : ∃ y, O X 290 [.i .i64 op, .i .i64 a, .i .i64 b] = some y ∧ IB y := by
    refine orunE (fc := code290) rfl rfl rfl ?_
    by_cases hab : a = b
    · subst hab
      simp [code290, hu, hv, ex_ite]
    · simp [code290, hu, hv, hab, ex_ite]
  obtain ⟨y, h, n, u, rfl⟩ := this
  exact ⟨n, u, h⟩
theorem ix_1 (a b : Int) (l : List Int) : opQ (O X) (.ix 1) [.l (ints (a :: b :: l)), .i .i64 1] = some (.r [.i .i64 b]) := rfl
theorem ix_2 (a b c : Int) (l : List Int) : opQ (O X) (.ix 1) [.l (ints (a :: b :: c :: l)), .i .i64 2] = some (.r [.i .i64 c]) := rfl
theorem t104 (op : Int) (l : List Int) : ∃ n u, O X 275 [.i .i64 op, .l (ints l)] = some (.t [.i .i64 n, .b u]) := by
  have : ∃ y, O X 275 [.i .i64 op, .l (ints l)] = some y ∧ IB y := by
    refine orunE (fc := code275) rfl rfl rfl ?_
    by_cases h1 : l.length = 1
    · obtain ⟨a, rfl⟩ := List.length_eq_one_iff.1 h1
      obtain ⟨u, hu⟩ := t106 (X := X) a
      simp [code275, hu, ex_ite]
    by_cases h2 : l.length = 2
    · match l, h2 with
      | [a, b], _ =>
        obtain ⟨n, u, hu⟩ := t107 (X := X) op a b
        simp [code275, hu, ix_1]
    by_cases h3 : l.length = 3
    · match l, h3 with
      | [a, b, c], _ => simp [code275, ix_1, ix_2, ex_ite]
    have h1' : ¬ (l.length : Int) = 1 := by omega
    have h2' : ¬ (l.length : Int) = 2 := by omega
    have h3' : ¬ (l.length : Int) = 3 := by omega
    simp [code275, h1', h2', h3']
  obtain ⟨y, h, n, u, rfl⟩ := this
  exact ⟨n, u, h⟩
theorem t98 (op : Int) (l : List Int) : ∃ n u, O X 250 [.i .i64 op, .l (ints l)] = some (.t [.i .i64 n, .b u]) := by
  by_cases h3 : (3 : Int) < (l.length : Int)
  · exact ⟨0, false, orun (fc := code250) rfl rfl rfl (by simp [code250, h3])⟩
  have hl : ∃ r, loopK (O X) [0, 1, 6] body250_1 [(0, .i .i64 op), (1, .l (ints l)), (6, .i .i64 (0 : Nat))] = some r ∧ (r = (.r, [(4, .i .i64 0), (5, .b false)]) ∨ r = (.e 0, [(0, .i .i64 op), (1, .l (ints l))])) := by
    refine loopK_tot (fun i => [(0, .i .i64 op), (1, .l (ints l)), (6, .i .i64 (i : Int))]) l.length _ (by simp) (fun i hi => ?_) (by simp [body250_1])
    have hw := wrap_i64 (i + 1) (by omega)
    have h97 := o249 (X := X) l[i]
    by_cases hc : 1 ≤ l[i] ∧ l[i] ≤ 5
    · rw [decide_eq_true hc] at h97
      simp [-Prod.exists, body250_1, hi, hw, h97]
    · rw [decide_eq_false hc] at h97
      simp [-Prod.exists, body250_1, hi, h97]
  obtain ⟨r, hl, hr⟩ := hl
  simp only [Int.natCast_zero] at hl
  obtain ⟨n, u, h104⟩ := t104 (X := X) op l
  rcases hr with rfl | rfl
  · exact ⟨0, false, orun (fc := code250) rfl rfl rfl (by simp [code250, h3, exec_loopK, hl])⟩
  · cases u with
    | false => exact ⟨0, false, orun (fc := code250) rfl rfl rfl (by simp [code250, h3, exec_loopK, hl, h104])⟩
    | true => exact ⟨n, true, orun (fc := code250) rfl rfl rfl (by simp [code250, h3, exec_loopK, hl, h104])⟩
end Go.Proofs.YtdlpbedneamebaaGreatDoor
namespace Go.Proofs.YtdlpbedneamebaaGreatDoor
open Go.VM
variable {X : Orc}
theorem t88 (s : List UInt8) (h : s.length ≤ 1000) : ∃ t, O X 143 [.s s] = some (.b t) := by
  have hl : ∃ r, loopK (O X) [0, 3] body143_1 [(0, .s s), (3, .i .i64 (0 : Nat))] = some r ∧ (r = (.r, [(2, .b false)]) ∨ r = (.e 0, [])) := by
    refine loopK_tot (fun i => [(0, .s s), (3, .i .i64 (i : Int))]) s.length _ (by simp) (fun i hi => ?_) (by simp [body143_1])
    have hw := wrap_i64 (i + 1) (by omega)
    simp [-Prod.exists, body143_1, hi, hw]
    repeat' split
    all_goals simp [-Prod.exists]
  obtain ⟨r, hl, hr⟩ := hl
  simp only [Int.natCast_zero] at hl
  rcases hr with rfl | rfl
  · exact ⟨false, orun (fc := code143) rfl rfl rfl (by simp [code143, exec_loopK, hl])⟩
  · exact ⟨true, orun (fc := code143) rfl rfl rfl (by simp [code143, exec_loopK, hl])⟩
theorem t78l (s : List UInt8) : ∃ t, O X 228 [.s s] = some (.b t) ∧ (t = true → s.length = 3) := by
  by_cases h3 : (s.length : Int) = 3
  · have hl : ∃ r, loopK (O X) [0, 3] body228_1 [(0, .s s), (3, .i .i64 (0 : Nat))] = some r ∧ (r = (.r, [(2, .b false)]) ∨ r = (.e 0, [])) := by
      refine loopK_tot (fun i => [(0, .s s), (3, .i .i64 (i : Int))]) s.length _ (by simp) (fun i hi => ?_) (by simp [body228_1])
      have hw := wrap_i64 (i + 1) (by omega)
      simp [-Prod.exists, body228_1, hi, hw]
      repeat' split
      all_goals simp [-Prod.exists]
    obtain ⟨r, hl, hr⟩ := hl
    simp only [Int.natCast_zero] at hl
    rcases hr with rfl | rfl
    · exact ⟨false, orun (fc := code228) rfl rfl rfl (by simp [code228, h3, exec_loopK, hl]), fun _ => by omega⟩
    · exact ⟨true, orun (fc := code228) rfl rfl rfl (by simp [code228, h3, exec_loopK, hl]), fun _ => by omega⟩
  · exact ⟨false, orun (fc := code228) rfl rfl rfl (by simp [code228, h3]), by simp⟩
theorem t66l (x : Leg) : ∃ n, O X 206 [x.v] = some (.i .i64 n) ∧ (n = 0 → x.currency.length = 3) := by
  obtain ⟨t, ht, hl⟩ := t78l (X := X) x.currency
  have : ∃ y, O X 206 [x.v] = some y ∧ ∃ n, y = .i .i64 n ∧ (n = 0 → x.currency.length = 3) := by
    have hb : ∃ y, O X 206 [x.v] = some y ∧ ∃ n, y = .i .i64 n ∧ (n = 0 → t = true) := by
      refine orunE (fc := code206) rfl rfl rfl ?_
      cases t <;> simp [code206, ht] <;> (repeat' split) <;> simp
    obtain ⟨y, h, n, rfl, h0⟩ := hb
    exact ⟨_, h, n, rfl, fun e => hl (h0 e)⟩
  obtain ⟨y, h, n, rfl, hn⟩ := this
  exact ⟨n, h, hn⟩
theorem u8_rng (z : Int) : 0 ≤ IntKind.u8.wrap z ∧ IntKind.u8.wrap z < 256 := by rw [IntKind.wrap_u8]; omega
theorem tm97 (m : Int) (h0 : 0 ≤ m) (h1 : m ≤ 100000) : 0 ≤ (IntKind.i64.wrap m).tmod 97 ∧ (IntKind.i64.wrap m).tmod 97 < 97 := by
  rw [wrap_i64 _ (by omega), Int.tmod_eq_emod_of_nonneg h0]
  omega
theorem r89a (n z : Int) (h0 : 0 ≤ n) (h1 : n < 97) : 0 ≤ (IntKind.i64.wrap (IntKind.i64.wrap (10 * n) + IntKind.i64.wrap (IntKind.u8.wrap z))).tmod 97 ∧ (IntKind.i64.wrap (IntKind.i64.wrap (10 * n) + IntKind.i64.wrap (IntKind.u8.wrap z))).tmod 97 < 97 := by
  have := u8_rng z
  rw [wrap_i64 (10 * n) (by omega), wrap_i64 (IntKind.u8.wrap z) (by omega)]
  exact tm97 _ (by omega) (by omega)
theorem r89b (n z : Int) (h0 : 0 ≤ n) (h1 : n < 97) : 0 ≤ (IntKind.i64.wrap (IntKind.i64.wrap (IntKind.i64.wrap (100 * n) + IntKind.i64.wrap (IntKind.u8.wrap z)) + 10)).tmod 97 ∧ (IntKind.i64.wrap (IntKind.i64.wrap (IntKind.i64.wrap (100 * n) + IntKind.i64.wrap (IntKind.u8.wrap z)) + 10)).tmod 97 < 97 := by
  have := u8_rng z
  rw [wrap_i64 (100 * n) (by omega), wrap_i64 (IntKind.u8.wrap z) (by omega), wrap_i64 (100 * n + IntKind.u8.wrap z) (by omega)]
  exact tm97 _ (by omega) (by omega)
theorem t89 (s : List UInt8) (h : s.length ≤ 1000) : ∃ n, O X 144 [.s s] = some (.i .i64 n) ∧ 0 ≤ n ∧ n < 97 := by
  have hl : ∃ r, loopK (O X) [0, 3, 4] body144_1 [(0, .s s), (3, .i .i64 0), (4, .i .i64 0)] = some r ∧ (∃ n : Int, r = (.e 0, [(3, .i .i64 n)]) ∧ 0 ≤ n ∧ n < 97) := by
    refine loopK_inv (fun i env => ∃ n : Int, env = [(0, .s s), (3, .i .i64 n), (4, .i .i64 (i : Int))] ∧ 0 ≤ n ∧ n < 97) s.length _ (fun i env hI => ?_) (fun i env hi hI => ?_) (fun env hI => ?_) s.length 0 _ (by omega) ⟨0, by simp, by omega, by omega⟩
    · obtain ⟨n, rfl, _⟩ := hI; simp
    · obtain ⟨n, rfl, h0, h1⟩ := hI
      left
      have hw := wrap_i64 (i + 1) (by omega)
      by_cases hc : (s[i].toNat : Int) ≤ 57
      · simp [body144_1, hi, hw, hc]
        exact r89a _ _ h0 h1
      · simp [body144_1, hi, hw, hc]
        exact r89b _ _ h0 h1
    · obtain ⟨n, rfl, h0, h1⟩ := hI
      exact ⟨(.e 0, [(3, .i .i64 n)]), by simp [body144_1], by simp, n, rfl, h0, h1⟩
  obtain ⟨_, hl, n, rfl, h0, h1⟩ := hl
  exact ⟨n, orun (fc := code144) rfl rfl rfl (by simp [code144, exec_loopK, hl]), h0, h1⟩
theorem dig (q : Int) (h0 : 0 ≤ q) (h1 : q < 10) : ∃ d, opQ (O X) (.slcs true true) [.s [48, 49, 50, 51, 52, 53, 54, 55, 56, 57], .i .i64 q, .i .i64 (q + 1)] = some (.s [d]) := by
  have : q = 0 ∨ q = 1 ∨ q = 2 ∨ q = 3 ∨ q = 4 ∨ q = 5 ∨ q = 6 ∨ q = 7 ∨ q = 8 ∨ q = 9 := by omega
  rcases this with h | h | h | h | h | h | h | h | h | h <;> rw [h] <;> exact ⟨_, rfl⟩
theorem t77 (s : List UInt8) : ∃ z n, O X 94 [.s s] = some (.t [.s z, .i .i64 n]) := by
  by_cases h1 : (s.length : Int) < 1
  · exact ⟨[], 5, orun (fc := code94) rfl rfl rfl (by simp [code94, h1])⟩
  by_cases h2 : (46 : Int) < (s.length : Int)
  · exact ⟨[], 5, orun (fc := code94) rfl rfl rfl (by simp [code94, h1, h2])⟩
  obtain ⟨t, ht⟩ := t88 (X := X) s (by omega)
  cases t with
  | false => exact ⟨[], 2, orun (fc := code94) rfl rfl rfl (by simp [code94, h1, h2, ht])⟩
  | true =>
    obtain ⟨n, hn, h0, h97⟩ := t89 (X := X) (s ++ [48, 48]) (by rw [List.length_append]; simp; omega)
    have hw : IntKind.i64.wrap (98 - n) = 98 - n := wrap_i64 _ (by omega)
    generalize hk : 98 - n = k at hw
    have : ∃ y, O X 94 [.s s] = some y ∧ ∃ z n, y = .t [.s z, .i .i64 n] := by
      refine orunE (fc := code94) rfl rfl rfl ?_
      have hlen : s.length ≤ 9223372036854775805 := by omega
      have hlen2 : s.length ≤ 9223372036854775806 := by omega
      have hq : IntKind.i64.wrap (k.tdiv 10) = k / 10 := by
        rw [Int.tdiv_eq_ediv_of_nonneg (by omega)]
        exact wrap_i64 _ (by omega)
      have hr : k.tmod 10 = k % 10 := Int.tmod_eq_emod_of_nonneg (by omega)
      have hq1 : IntKind.i64.wrap (k / 10 + 1) = k / 10 + 1 := wrap_i64 _ (by omega)
      have hr1 : IntKind.i64.wrap (k % 10 + 1) = k % 10 + 1 := wrap_i64 _ (by omega)
      obtain ⟨d, hd⟩ := dig (X := X) (k / 10) (by omega) (by omega)
      obtain ⟨e, he⟩ := dig (X := X) (k % 10) (by omega) (by omega)
      generalize k / 10 = q at hq hq1 hd
      generalize k % 10 = r at hr hr1 he
      simp [code94, h1, h2, ht, hn, hk, hw, hq, hr, hq1, hr1, hd, he, hlen, hlen2]
    obtain ⟨y, h, z, m, rfl⟩ := this
    exact ⟨z, m, h⟩
theorem t62 (id : Int) : ∃ z, O X 51 [.i .i64 id] = some (.s z) := by
  by_cases h1 : id < 1000
  · exact ⟨[], orun (fc := code51) rfl rfl rfl (by simp [code51, h1])⟩
  by_cases h2 : 99999999 < id
  · exact ⟨[], orun (fc := code51) rfl rfl rfl (by simp [code51, h1, h2])⟩
  have hl : ∃ r, loopK (O X) [0, 3, 4] body51_1 [(0, .i .i64 id), (3, .s []), (4, .i .i64 0)] = some r ∧ (∃ z : List UInt8, r = (.e 0, [(3, .s z)]) ∧ z.length ≤ 8) := by
    refine loopK_inv (fun i env => ∃ (m : Int) (z : List UInt8), env = [(0, .i .i64 m), (3, .s z), (4, .i .i64 (i : Int))] ∧ 0 ≤ m ∧ m ≤ 99999999 ∧ z.length = i) 8 _ (fun i env hI => ?_) (fun i env hi hI => ?_) (fun env hI => ?_) 8 0 _ (by omega) ⟨id, [], by simp, by omega, by omega, rfl⟩
    · obtain ⟨m, z, rfl, _⟩ := hI; simp
    · obtain ⟨m, z, rfl, h0, h1, hz⟩ := hI
      left
      have hw := wrap_i64 (i + 1) (by omega)
      have hi' : (i : Int) < 8 := by omega
      have hq : IntKind.i64.wrap (m.tdiv 10) = m / 10 := by
        rw [Int.tdiv_eq_ediv_of_nonneg (by omega)]
        exact wrap_i64 _ (by omega)
      have hr : m.tmod 10 = m % 10 := Int.tmod_eq_emod_of_nonneg (by omega)
      have hr1 : IntKind.i64.wrap (m % 10 + 1) = m % 10 + 1 := wrap_i64 _ (by omega)
      obtain ⟨e, he⟩ := dig (X := X) (m % 10) (by omega) (by omega)
      have hm : 0 ≤ m / 10 ∧ m / 10 ≤ 99999999 := by omega
      generalize m / 10 = q at hq hm
      generalize m % 10 = r at hr hr1 he
      have hlen : 1 + i ≤ 9223372036854775807 := by omega
      simp [body51_1, hi', hw, hq, hr, hr1, he, hlen, hz]
      exact ⟨q, e :: z, ⟨rfl, rfl⟩, hm.1, hm.2, by simp [hz]⟩
    · obtain ⟨m, z, rfl, h0, h1, hz⟩ := hI
      exact ⟨(.e 0, [(3, .s z)]), by simp [body51_1], by simp, z, rfl, by omega⟩
  obtain ⟨_, hl, z, rfl, hz⟩ := hl
  obtain ⟨y, n, hs⟩ := t77 (X := X) ([67, 66] ++ z)
  have hlen : 2 + z.length ≤ 9223372036854775807 := by omega
  exact ⟨y, orun (fc := code51) rfl rfl rfl (by
    simp at hs
    simp [code51, h1, h2, exec_loopK, hl, hs, hlen])⟩
end Go.Proofs.YtdlpbedneamebaaGreatDoor
