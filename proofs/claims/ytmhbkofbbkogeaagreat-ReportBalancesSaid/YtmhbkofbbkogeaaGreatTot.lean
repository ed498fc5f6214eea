/-
  Functions that only answer: names, currencies, calendars, holds, blocks.
-/
import Derived.Test.YtmhbkofbbkogeaaGreatSpec6
namespace Go.Proofs.YtmhbkofbbkogeaaGreat
open Go.VM
variable {X : Orc}
theorem orunE {f : Nat} {fc : FCode} (ht : tab f = some fc) {args : List V} {R : V → Prop} (hl : args.length = fc.np) (ha : args.all V.arg = true) (h : ∃ y, retE fc.res (exec (O X) fc.body (args0 0 args)) = some y ∧ R y) : ∃ y, O X f args = some y ∧ R y := run_ex ht hl ha h
theorem w1 : IntKind.i64.wrap 1 = 1 := wrap_i64 1 (by omega)
abbrev isB (y : V) : Prop := ∃ t, y = .b t
abbrev isI (y : V) : Prop := ∃ n, y = .i .i64 n
theorem t30 (s : List UInt8) : ∃ t, O X 30 [.s s] = some (.b t) := by
  by_cases h3 : s.length = 3
  · have hl : ∃ r, loopK (O X) [0, 3] body30_1 [(0, .s s), (3, .i .i64 (0 : Nat))] = some r ∧ (r = (.r, [(2, .b false)]) ∨ r = (.e 0, [])) := by
      refine loopK_tot (fun i => [(0, .s s), (3, .i .i64 (i : Int))]) 3 _ (by simp) (fun i hi => ?_) (by simp [body30_1])
      have hw := wrap_i64 (i + 1) (by omega)
      have hs : i < s.length := by omega
      have hi' : (i : Int) < 3 := by omega
      simp [-Prod.exists, body30_1, hs, hi', hw]
      repeat' split
      all_goals simp [-Prod.exists]
    obtain ⟨r, hl, hr⟩ := hl
    simp only [Int.natCast_zero] at hl
    refine ⟨_, orun (fc := code30) rfl rfl rfl (y := .b (match r.1 with | .r => false | _ => true)) ?_⟩
    rcases hr with rfl | rfl <;> simp [code30, h3, exec_loopK, hl]
  · have h3' : ¬ (s.length : Int) = 3 := by omega
    exact ⟨_, orun (fc := code30) rfl rfl rfl (y := .b false) (by simp [code30, h3'])⟩
theorem t9 (l : List Currency) : ∃ n, O X 9 [.l (encL Currency.v l)] = some (.i .i64 n) := by
  by_cases h1 : l.length < 1
  · have h1' : (l.length : Int) < 1 := by omega
    exact ⟨_, orun (fc := code9) rfl rfl rfl (y := .i .i64 5) (by simp [code9, h1'])⟩
  by_cases h2 : 8 < l.length
  · have h1' : ¬ (l.length : Int) < 1 := by omega
    have h2' : (8 : Int) < (l.length : Int) := by omega
    exact ⟨_, orun (fc := code9) rfl rfl rfl (y := .i .i64 5) (by simp [code9, h1', h2'])⟩
  have h1' : ¬ (l.length : Int) < 1 := by omega
  have h2' : ¬ (8 : Int) < (l.length : Int) := by omega
  have hl : ∃ r, loopK (O X) [0, 3] body9_1 [(0, .l (encL Currency.v l)), (3, .i .i64 (0 : Nat))] = some r ∧ ((∃ n, r = (.r, [(2, .i .i64 n)])) ∨ r = (.e 0, [])) := by
    refine loopK_tot (fun i => [(0, .l (encL Currency.v l)), (3, .i .i64 (i : Int))]) l.length _ (by simp) (fun i hi => ?_) (by simp [body9_1])
    have hw := wrap_i64 (i + 1) (by omega)
    obtain ⟨t, ht⟩ := t30 (X := X) l[i].code
    cases t with
    | false => simp [-Prod.exists, body9_1, hi, ht]
    | true =>
      by_cases h0 : i = 0
      · subst h0
        simp [-Prod.exists, body9_1, hi, ht]
        repeat' split
        all_goals simp [-Prod.exists, w1]
      · obtain ⟨p, hp⟩ : ∃ p, p + 1 = i := ⟨i - 1, by omega⟩
        have hpl : p < l.length := by omega
        have hw1 : IntKind.i64.wrap ((i : Int) - 1) = (p : Int) := by rw [wrap_i64 _ (by omega)]; omega
        simp [-Prod.exists, body9_1, hi, hw, ht, hw1, hpl]
        repeat' split
        all_goals simp [-Prod.exists]
  obtain ⟨r, hl, hr⟩ := hl
  simp only [Int.natCast_zero] at hl
  rcases hr with ⟨n, rfl⟩ | rfl
  · exact ⟨n, orun (fc := code9) rfl rfl rfl (by simp [code9, h1', h2', exec_loopK, hl])⟩
  · exact ⟨0, orun (fc := code9) rfl rfl rfl (by simp [code9, h1', h2', exec_loopK, hl])⟩
theorem o37 (d : Int) : O X 37 [.i .i64 d] = some (.b (decide (0 ≤ d ∧ d ≤ 73048))) := by
  refine orun (fc := code37) rfl rfl rfl ?_
  by_cases h : 0 ≤ d <;> simp [code37, h]
theorem t35 (s : List UInt8) : ∃ t, O X 35 [.s s] = some (.b t) := by
  by_cases h1 : (s.length : Int) < 1
  · exact ⟨false, orun (fc := code35) rfl rfl rfl (by simp [code35, h1])⟩
  by_cases h2 : (16 : Int) < s.length
  · exact ⟨false, orun (fc := code35) rfl rfl rfl (by simp [code35, h1, h2])⟩
  have h0 : 0 < s.length := by omega
  have hl : ∃ r, loopK (O X) [0, 3] body35_1 [(0, .s s), (3, .i .i64 (0 : Nat))] = some r ∧ (r = (.r, [(2, .b false)]) ∨ r = (.e 0, [])) := by
    refine loopK_tot (fun i => [(0, .s s), (3, .i .i64 (i : Int))]) s.length _ (by simp) (fun i hi => ?_) (by simp [body35_1])
    have hw := wrap_i64 (i + 1) (by omega)
    simp [-Prod.exists, body35_1, hi, hw]
    repeat' split
    all_goals simp [-Prod.exists]
  obtain ⟨r, hl, hr⟩ := hl
  simp only [Int.natCast_zero] at hl
  by_cases h3 : (s[0].toNat : Int) < 97
  · exact ⟨false, orun (fc := code35) rfl rfl rfl (by simp [code35, h1, h2, h0, h3])⟩
  by_cases h4 : (122 : Int) < (s[0].toNat : Int)
  · exact ⟨false, orun (fc := code35) rfl rfl rfl (by simp [code35, h1, h2, h0, h3, h4])⟩
  rcases hr with rfl | rfl
  · exact ⟨false, orun (fc := code35) rfl rfl rfl (by simp [code35, h1, h2, h0, h3, h4, exec_loopK, hl])⟩
  · exact ⟨true, orun (fc := code35) rfl rfl rfl (by simp [code35, h1, h2, h0, h3, h4, exec_loopK, hl])⟩
theorem t36 (l : List Int) (h : l.length ≤ 1000) : ∃ t, O X 36 [.l (ints l)] = some (.b t) := by
  have hl : ∃ r, loopK (O X) [0, 3] body36_1 [(0, .l (ints l)), (3, .i .i64 ((0 + 1 : Nat) : Int))] = some r ∧ (r = (.r, [(2, .b false)]) ∨ r = (.e 0, [])) := by
    refine loopK_tot (fun i => [(0, .l (ints l)), (3, .i .i64 ((i + 1 : Nat) : Int))]) (l.length - 1) _ (by simp) (fun i hi => ?_) ?_
    · generalize hp : i + 1 = p
      have hpl : p < l.length := by omega
      have hil : i < l.length := by omega
      have hw : IntKind.i64.wrap ((p : Int) + 1) = ((p + 1 : Nat) : Int) := by rw [wrap_i64 _ (by omega)]; omega
      have hw1 : IntKind.i64.wrap ((p : Int) - 1) = (i : Int) := by rw [wrap_i64 _ (by omega)]; omega
      generalize ((p + 1 : Nat) : Int) = p2 at hw ⊢
      simp [-Prod.exists, body36_1, hpl, hil, hw, hw1]
      repeat' split
      all_goals simp [-Prod.exists]
    · have h1 : ¬ (((l.length - 1 + 1 : Nat) : Int) < (l.length : Int)) := by omega
      generalize ((l.length - 1 + 1 : Nat) : Int) = z at h1 ⊢
      simp [-Prod.exists, body36_1, h1]
  obtain ⟨r, hl, hr⟩ := hl
  simp at hl
  rcases hr with rfl | rfl
  · exact ⟨false, orun (fc := code36) rfl rfl rfl (by simp [code36, exec_loopK, hl])⟩
  · exact ⟨true, orun (fc := code36) rfl rfl rfl (by simp [code36, exec_loopK, hl])⟩
theorem t12 (c : Calendar) (hw : c.weekend.length ≤ 1000) (hh : c.holidays.length ≤ 1000) : ∃ n, O X 12 [c.v] = some (.i .i64 n) := by
  obtain ⟨t, ht⟩ := t35 (X := X) c.name
  obtain ⟨u, hu⟩ := t36 (X := X) c.weekend hw
  obtain ⟨v, hv⟩ := t36 (X := X) c.holidays hh
  have l1 : ∃ r, loopK (O X) [1, 3] body12_1 [(1, .bx c.cells), (3, .i .i64 (0 : Nat))] = some r ∧ ((∃ n, r = (.r, [(2, .i .i64 n)])) ∨ r = (.e 0, [(1, .bx c.cells)])) := by
    refine loopK_tot (fun i => [(1, .bx c.cells), (3, .i .i64 (i : Int))]) c.weekend.length _ (by simp) (fun i hi => ?_) (by simp [body12_1])
    have hw := wrap_i64 (i + 1) (by omega)
    simp [-Prod.exists, body12_1, hi, hw]
    repeat' split
    all_goals simp [-Prod.exists]
  have l2 : ∃ r, loopK (O X) [1, 4] body12_2 [(1, .bx c.cells), (4, .i .i64 (0 : Nat))] = some r ∧ ((∃ n, r = (.r, [(2, .i .i64 n)])) ∨ r = (.e 2, [(1, .bx c.cells)])) := by
    refine loopK_tot (fun i => [(1, .bx c.cells), (4, .i .i64 (i : Int))]) c.holidays.length _ (by simp) (fun i hi => ?_) (by simp [body12_2])
    have hw := wrap_i64 (i + 1) (by omega)
    have h37 := o37 (X := X) c.holidays[i]
    by_cases hc : 0 ≤ c.holidays[i] ∧ c.holidays[i] ≤ 73048
    · rw [decide_eq_true hc] at h37
      simp [-Prod.exists, body12_2, hi, hw, h37]
    · rw [decide_eq_false hc] at h37
      simp [-Prod.exists, body12_2, hi, h37]
  obtain ⟨r1, l1, hr1⟩ := l1
  obtain ⟨r2, l2, hr2⟩ := l2
  simp at l1 l2
  have : ∃ y, O X 12 [c.v] = some y ∧ ∃ n, y = .i .i64 n := by
    refine orunE (fc := code12) rfl rfl rfl ?_
    cases t with
    | false => simp [code12, ht]
    | true =>
      rcases hr1 with ⟨n, rfl⟩ | rfl
      · simp [code12, ht, exec_loopK, l1]
      · by_cases h6 : (6 : Int) < (c.weekend.length : Int)
        · simp [code12, ht, exec_loopK, l1, h6]
        · cases u with
          | false => simp [code12, ht, exec_loopK, l1, h6, hu]
          | true =>
            by_cases h4 : (400 : Int) < (c.holidays.length : Int)
            · simp [code12, ht, exec_loopK, l1, h6, hu, h4]
            · rcases hr2 with ⟨n, rfl⟩ | rfl
              · simp [code12, ht, exec_loopK, l1, l2, h6, hu, h4]
              · cases v <;> simp [code12, ht, exec_loopK, l1, l2, h6, hu, h4, hv]
  obtain ⟨y, h, n, rfl⟩ := this
  exact ⟨n, h⟩
theorem t38 (s : List UInt8) : ∃ t, O X 38 [.s s] = some (.b t) := by
  by_cases h1 : s = []
  · exact ⟨false, orun (fc := code38) rfl rfl rfl (by simp [code38, h1])⟩
  by_cases h2 : (16 : Int) < s.length
  · exact ⟨false, orun (fc := code38) rfl rfl rfl (by simp [code38, h1, h2])⟩
  have h0 : 0 < s.length := List.length_pos_iff.2 h1
  have hl : ∃ r, loopK (O X) [0, 3] body38_1 [(0, .s s), (3, .i .i64 ((0 + 1 : Nat) : Int))] = some r ∧ (r = (.r, [(2, .b false)]) ∨ r = (.e 0, [])) := by
    refine loopK_tot (fun i => [(0, .s s), (3, .i .i64 ((i + 1 : Nat) : Int))]) (s.length - 1) _ (by simp) (fun i hi => ?_) ?_
    · generalize hp : i + 1 = p
      have hpl : p < s.length := by omega
      have hw : IntKind.i64.wrap ((p : Int) + 1) = ((p + 1 : Nat) : Int) := by rw [wrap_i64 _ (by omega)]; omega
      generalize ((p + 1 : Nat) : Int) = p2 at hw ⊢
      simp [-Prod.exists, body38_1, hpl, hw]
      repeat' split
      all_goals simp [-Prod.exists]
    · have h1 : ¬ (((s.length - 1 + 1 : Nat) : Int) < (s.length : Int)) := by omega
      generalize ((s.length - 1 + 1 : Nat) : Int) = z at h1 ⊢
      simp [-Prod.exists, body38_1, h1]
  obtain ⟨r, hl, hr⟩ := hl
  simp at hl
  by_cases h3 : (s[0].toNat : Int) < 97
  · exact ⟨false, orun (fc := code38) rfl rfl rfl (by simp [code38, h1, h2, h0, h3])⟩
  by_cases h4 : (122 : Int) < (s[0].toNat : Int)
  · exact ⟨false, orun (fc := code38) rfl rfl rfl (by simp [code38, h1, h2, h0, h3, h4])⟩
  rcases hr with rfl | rfl
  · exact ⟨false, orun (fc := code38) rfl rfl rfl (by simp [code38, h1, h2, h0, h3, h4, exec_loopK, hl])⟩
  · exact ⟨true, orun (fc := code38) rfl rfl rfl (by simp [code38, h1, h2, h0, h3, h4, exec_loopK, hl])⟩
theorem t65 (s : List UInt8) (m lo : Int) (hm : m ≤ 1000) : ∃ t, O X 65 [.s s, .i .i64 m, .i .u8 lo] = some (.b t) := by
  by_cases h1 : m < (s.length : Int)
  · exact ⟨false, orun (fc := code65) rfl rfl rfl (by simp [code65, h1])⟩
  have hl : ∃ r, loopK (O X) [0, 2, 7] body65_1 [(0, .s s), (2, .i .u8 lo), (7, .i .i64 (0 : Nat))] = some r ∧ (r = (.r, [(6, .b false)]) ∨ r = (.e 0, [])) := by
    refine loopK_tot (fun i => [(0, .s s), (2, .i .u8 lo), (7, .i .i64 (i : Int))]) s.length _ (by simp) (fun i hi => ?_) (by simp [body65_1])
    have hw := wrap_i64 (i + 1) (by omega)
    simp [-Prod.exists, body65_1, hi, hw]
    repeat' split
    all_goals simp [-Prod.exists]
  obtain ⟨r, hl, hr⟩ := hl
  simp only [Int.natCast_zero] at hl
  rcases hr with rfl | rfl
  · exact ⟨false, orun (fc := code65) rfl rfl rfl (by simp [code65, h1, exec_loopK, hl])⟩
  · exact ⟨true, orun (fc := code65) rfl rfl rfl (by simp [code65, h1, exec_loopK, hl])⟩
theorem t64 (s : List UInt8) : ∃ t, O X 64 [.s s] = some (.b t) := by
  obtain ⟨t, ht⟩ := t65 (X := X) s 48 33 (by omega)
  by_cases h : (1 : Int) ≤ (s.length : Int)
  · exact ⟨t, orun (fc := code64) rfl rfl rfl (by simp [code64, h, ht])⟩
  · exact ⟨false, orun (fc := code64) rfl rfl rfl (by simp [code64, h])⟩
end Go.Proofs.YtmhbkofbbkogeaaGreat
namespace Go.Proofs.YtmhbkofbbkogeaaGreat
open Go.VM
variable {X : Orc}
theorem t48 (h : Hold) : ∃ n, O X 48 [h.v] = some (.i .i64 n) := by
  obtain ⟨t, ht⟩ := t64 (X := X) h.key
  have a := o37 (X := X) h.from'
  have b := o37 (X := X) h.to'
  generalize decide (0 ≤ h.from' ∧ h.from' ≤ 73048) = u at a
  generalize decide (0 ≤ h.to' ∧ h.to' ≤ 73048) = v at b
  have : ∃ y, O X 48 [h.v] = some y ∧ ∃ n, y = .i .i64 n := by
    refine orunE (fc := code48) rfl rfl rfl ?_
    cases t <;> cases u <;> cases v <;> simp [code48, ht, a, b] <;> repeat' split
    all_goals simp
  obtain ⟨y, h, n, rfl⟩ := this
  exact ⟨n, h⟩
theorem t49 (l : List Hold) (s : List UInt8) (h : l.length ≤ 1000) : ∃ t, O X 49 [.l (encL Hold.v l), .s s] = some (.b t) := by
  have hl : ∃ r, loopK (O X) [0, 1, 5] body49_1 [(0, .l (encL Hold.v l)), (1, .s s), (5, .i .i64 (0 : Nat))] = some r ∧ (r = (.r, [(4, .b true)]) ∨ r = (.e 0, [])) := by
    refine loopK_tot (fun i => [(0, .l (encL Hold.v l)), (1, .s s), (5, .i .i64 (i : Int))]) l.length _ (by simp) (fun i hi => ?_) (by simp [body49_1])
    have hw := wrap_i64 (i + 1) (by omega)
    simp [-Prod.exists, body49_1, hi, hw]
    repeat' split
    all_goals simp [-Prod.exists]
  obtain ⟨r, hl, hr⟩ := hl
  simp only [Int.natCast_zero] at hl
  rcases hr with rfl | rfl
  · exact ⟨true, orun (fc := code49) rfl rfl rfl (by simp [code49, exec_loopK, hl])⟩
  · exact ⟨false, orun (fc := code49) rfl rfl rfl (by simp [code49, exec_loopK, hl])⟩
theorem slc_holds (l : List Hold) (i : Nat) (h : i ≤ l.length) : opQ (O X) (.slc 6 false true) [.l (encL Hold.v l), .i .i64 i] = some (.l (encL Hold.v (l.take i))) := by
  have hb : bnds (encL Hold.v l).length false true [.i .i64 (i : Int)] = some (0, i) := by
    have : (i : Int) ≤ ((encL Hold.v l).length : Int) := by simp; omega
    simp only [bnds]
    rw [if_pos ⟨by omega, this⟩]
    simp
  have ha : (encL Hold.v l).all (fun x => x.cells.length == 6) = true := encL_all fun _ => rfl
  simp only [opQ, ha, if_true, hb, Option.map_some, List.drop_zero]
  simp [encL]
theorem t16 (l : List Hold) : ∃ n, O X 16 [.l (encL Hold.v l)] = some (.i .i64 n) := by
  by_cases h1 : (64 : Int) < (l.length : Int)
  · exact ⟨5, orun (fc := code16) rfl rfl rfl (by simp [code16, h1])⟩
  have hl : ∃ r, loopK (O X) [0, 3] body16_1 [(0, .l (encL Hold.v l)), (3, .i .i64 (0 : Nat))] = some r ∧ ((∃ n, r = (.r, [(2, .i .i64 n)])) ∨ r = (.e 0, [])) := by
    refine loopK_tot (fun i => [(0, .l (encL Hold.v l)), (3, .i .i64 (i : Int))]) l.length _ (by simp) (fun i hi => ?_) (by simp [body16_1])
    have hw := wrap_i64 (i + 1) (by omega)
    obtain ⟨n, hn⟩ := t48 (X := X) l[i]
    simp only [Hold.v] at hn
    obtain ⟨t, ht⟩ := t49 (X := X) (l.take i) l[i].key (by rw [List.length_take]; omega)
    have hs := slc_holds (X := X) l i (by omega)
    by_cases hn0 : n = 0
    · subst hn0
      by_cases h0 : i = 0
      · subst h0
        cases t <;> simp [-Prod.exists, body16_1, hi, hn] <;> simp at hs ht <;> simp [-Prod.exists, hs, ht, w1]
      · obtain ⟨p, hp⟩ : ∃ p, p + 1 = i := ⟨i - 1, by omega⟩
        have hpl : p < l.length := by omega
        have h0' : 0 < i := by omega
        have hw1 : IntKind.i64.wrap ((i : Int) - 1) = (p : Int) := by rw [wrap_i64 _ (by omega)]; omega
        by_cases hid : l[i].id ≤ l[p].id
        · simp [-Prod.exists, body16_1, hi, hn, h0', hw1, hpl, hid]
        · cases t <;> simp [-Prod.exists, body16_1, hi, hw, hn, h0', hw1, hpl, hid, hs, ht]
    · simp [-Prod.exists, body16_1, hi, hn, hn0]
  obtain ⟨r, hl, hr⟩ := hl
  simp only [Int.natCast_zero] at hl
  rcases hr with ⟨n, rfl⟩ | rfl
  · exact ⟨n, orun (fc := code16) rfl rfl rfl (by simp [code16, h1, exec_loopK, hl])⟩
  · exact ⟨0, orun (fc := code16) rfl rfl rfl (by simp [code16, h1, exec_loopK, hl])⟩
theorem t50 (b : Block) : ∃ t, O X 50 [b.v] = some (.b t) := by
  have h1 := o37 (X := X) b.from'
  have h2 := o37 (X := X) b.to'
  generalize decide (0 ≤ b.from' ∧ b.from' ≤ 73048) = u at h1
  generalize decide (0 ≤ b.to' ∧ b.to' ≤ 73048) = v at h2
  have : ∃ y, O X 50 [b.v] = some y ∧ ∃ n, y = .b n := by
    refine orunE (fc := code50) rfl rfl rfl ?_
    by_cases h4 : b.kind = 4 <;> cases u <;> cases v <;> simp [code50, h1, h2, h4] <;> repeat' split
    all_goals omega
  obtain ⟨y, h, n, rfl⟩ := this
  exact ⟨n, h⟩
theorem t17 (l : List Block) : ∃ n, O X 17 [.l (encL Block.v l)] = some (.i .i64 n) := by
  by_cases h1 : (64 : Int) < (l.length : Int)
  · exact ⟨5, orun (fc := code17) rfl rfl rfl (by simp [code17, h1])⟩
  have hl : ∃ r, loopK (O X) [0, 3] body17_1 [(0, .l (encL Block.v l)), (3, .i .i64 (0 : Nat))] = some r ∧ ((∃ n, r = (.r, [(2, .i .i64 n)])) ∨ r = (.e 0, [])) := by
    refine loopK_tot (fun i => [(0, .l (encL Block.v l)), (3, .i .i64 (i : Int))]) l.length _ (by simp) (fun i hi => ?_) (by simp [body17_1])
    have hw := wrap_i64 (i + 1) (by omega)
    obtain ⟨n, hn⟩ := t50 (X := X) l[i]
    simp only [Block.v] at hn
    obtain ⟨t, ht⟩ := t35 (X := X) l[i].source
    cases n with
    | false => simp [-Prod.exists, body17_1, hi, hn]
    | true =>
      cases t with
      | false => simp [-Prod.exists, body17_1, hi, hn, ht]
      | true =>
        by_cases h0 : i = 0
        · subst h0
          simp [-Prod.exists, body17_1, hi, hn, ht, w1]
        · obtain ⟨p, hp⟩ : ∃ p, p + 1 = i := ⟨i - 1, by omega⟩
          have hpl : p < l.length := by omega
          have h0' : 0 < i := by omega
          have hw1 : IntKind.i64.wrap ((i : Int) - 1) = (p : Int) := by rw [wrap_i64 _ (by omega)]; omega
          by_cases hid : l[i].id ≤ l[p].id
          · simp [-Prod.exists, body17_1, hi, hn, ht, h0', hw1, hpl, hid]
          · simp [-Prod.exists, body17_1, hi, hw, hn, ht, h0', hw1, hpl, hid]
  obtain ⟨r, hl, hr⟩ := hl
  simp only [Int.natCast_zero] at hl
  rcases hr with ⟨n, rfl⟩ | rfl
  · exact ⟨n, orun (fc := code17) rfl rfl rfl (by simp [code17, h1, exec_loopK, hl])⟩
  · exact ⟨0, orun (fc := code17) rfl rfl rfl (by simp [code17, h1, exec_loopK, hl])⟩
end Go.Proofs.YtmhbkofbbkogeaaGreat
namespace Go.Proofs.YtmhbkofbbkogeaaGreat
open Go.VM
variable {X : Orc}
theorem t59 (l : List Tier) : ∃ n, O X 59 [.l (encL Tier.v l)] = some (.i .i64 n) := by
  by_cases h6 : (6 : Int) < (l.length : Int)
  · exact ⟨5, orun (fc := code59) rfl rfl rfl (by simp [code59, h6])⟩
  have l1 : ∃ r, loopK (O X) [0, 3] body59_1 [(0, .l (encL Tier.v l)), (3, .i .i64 (0 : Nat))] = some r ∧ ((∃ n, r = (.r, [(2, .i .i64 n)])) ∨ r = (.e 0, [(0, .l (encL Tier.v l))])) := by
    refine loopK_tot (fun i => [(0, .l (encL Tier.v l)), (3, .i .i64 (i : Int))]) l.length _ (by simp) (fun i hi => ?_) (by simp [body59_1])
    have hw := wrap_i64 (i + 1) (by omega)
    simp [-Prod.exists, body59_1, hi, hw]
    repeat' split
    all_goals simp [-Prod.exists]
  have l2 : ∃ r, loopK (O X) [0, 4] body59_2 [(0, .l (encL Tier.v l)), (4, .i .i64 ((0 + 1 : Nat) : Int))] = some r ∧ ((∃ n, r = (.r, [(2, .i .i64 n)])) ∨ r = (.e 2, [(0, .l (encL Tier.v l))])) := by
    refine loopK_tot (fun i => [(0, .l (encL Tier.v l)), (4, .i .i64 ((i + 1 : Nat) : Int))]) (l.length - 1) _ (by simp) (fun i hi => ?_) ?_
    · generalize hp : i + 1 = p
      have hpl : p < l.length := by omega
      have hil : i < l.length := by omega
      have hw : IntKind.i64.wrap ((p : Int) + 1) = ((p + 1 : Nat) : Int) := by rw [wrap_i64 _ (by omega)]; omega
      have hw1 : IntKind.i64.wrap ((p : Int) - 1) = (i : Int) := by rw [wrap_i64 _ (by omega)]; omega
      generalize ((p + 1 : Nat) : Int) = p2 at hw ⊢
      simp [-Prod.exists, body59_2, hpl, hil, hw, hw1]
      repeat' split
      all_goals simp [-Prod.exists]
    · have h1 : ¬ (((l.length - 1 + 1 : Nat) : Int) < (l.length : Int)) := by omega
      generalize ((l.length - 1 + 1 : Nat) : Int) = z at h1 ⊢
      simp [-Prod.exists, body59_2, h1]
  obtain ⟨r1, l1, hr1⟩ := l1
  obtain ⟨r2, l2, hr2⟩ := l2
  simp at l1 l2
  rcases hr1 with ⟨n, rfl⟩ | rfl
  · exact ⟨n, orun (fc := code59) rfl rfl rfl (by simp [code59, h6, exec_loopK, l1])⟩
  rcases hr2 with ⟨n, rfl⟩ | rfl
  · exact ⟨n, orun (fc := code59) rfl rfl rfl (by simp [code59, h6, exec_loopK, l1, l2])⟩
  by_cases h0 : 0 < l.length
  · by_cases hf : l[0].from' = 0
    · exact ⟨0, orun (fc := code59) rfl rfl rfl (by simp [code59, h6, exec_loopK, l1, l2, h0, hf])⟩
    · exact ⟨1, orun (fc := code59) rfl rfl rfl (by simp [code59, h6, exec_loopK, l1, l2, h0, hf])⟩
  · exact ⟨0, orun (fc := code59) rfl rfl rfl (by simp [code59, h6, exec_loopK, l1, l2, h0])⟩
theorem t41 (x : Interest) : ∃ n, O X 41 [x.v] = some (.i .i64 n) := by
  obtain ⟨n, hn⟩ := t59 (X := X) x.tiers
  have : ∃ y, O X 41 [x.v] = some y ∧ ∃ n, y = .i .i64 n := by
    refine orunE (fc := code41) rfl rfl rfl ?_
    by_cases h0 : n = 0
    · subst h0
      simp [code41, hn]
      repeat' split
      all_goals simp
    · simp [code41, hn, h0]
  obtain ⟨y, h, n, rfl⟩ := this
  exact ⟨n, h⟩
theorem o97 (t : Int) : O X 97 [.i .i64 t] = some (.b (decide (1 ≤ t ∧ t ≤ 5))) := by
  refine orun (fc := code97) rfl rfl rfl ?_
  by_cases h : 1 ≤ t <;> simp [code97, h]
theorem t106 (t : Int) : ∃ b, O X 106 [.i .i64 t] = some (.b b) := by
  have : ∃ y, O X 106 [.i .i64 t] = some y ∧ ∃ n, y = .b n := by
    refine orunE (fc := code106) rfl rfl rfl ?_
    simp [code106]
    omega
  obtain ⟨y, h, n, rfl⟩ := this
  exact ⟨n, h⟩
theorem t108 (a b : Int) : ∃ n u, O X 108 [.i .i64 a, .i .i64 b] = some (.t [.i .i64 n, .b u]) := by
  obtain ⟨u, hu⟩ := t106 (X := X) a
  obtain ⟨v, hv⟩ := t106 (X := X) b
  have : ∃ y, O X 108 [.i .i64 a, .i .i64 b] = some y ∧ ∃ n u, y = .t [.i .i64 n, .b u] := by
    refine orunE (fc := code108) rfl rfl rfl ?_
    by_cases hab : a = b <;> cases u <;> cases v <;> simp [code108, hu, hv, hab] <;> repeat' split
    all_goals simp
  obtain ⟨y, h, n, u, rfl⟩ := this
  exact ⟨n, u, h⟩
theorem t99 (op : Int) : ∃ n, O X 99 [.i .i64 op] = some (.i .i64 n) ∧ n ≤ 3 := by
  have : ∃ y, O X 99 [.i .i64 op] = some y ∧ ∃ n, y = .i .i64 n ∧ n ≤ 3 := by
    refine orunE (fc := code99) rfl rfl rfl ?_
    simp [code99]
    repeat' split
    all_goals simp
  obtain ⟨y, h, n, rfl, hn⟩ := this
  exact ⟨n, h, hn⟩
theorem t100 (op : Int) : ∃ n, O X 100 [.i .i64 op] = some (.i .i64 n) := by
  have : ∃ y, O X 100 [.i .i64 op] = some y ∧ ∃ n, y = .i .i64 n := by
    refine orunE (fc := code100) rfl rfl rfl ?_
    simp [code100]
    repeat' split
    all_goals simp
  obtain ⟨y, h, n, rfl⟩ := this
  exact ⟨n, h⟩
theorem ex_ite {α : Type} {p : Prop} [Decidable p] {a b : Option α} {R : α → Prop} : (∃ y, (if p then a else b) = some y ∧ R y) = if p then ∃ y, a = some y ∧ R y else ∃ y, b = some y ∧ R y := by split <;> rfl
/-- A number and a truth value. -/
def IB (y : V) : Prop := ∃ n u, y = .t [.i .i64 n, .b u]
@[simp] theorem IB_mk (n : Int) (u : Bool) : IB (.t [.i .i64 n, .b u]) = True := eq_true ⟨n, u, rfl⟩
/-- Two numbers. -/
def II (y : V) : Prop := ∃ n u, y = .t [.i .i64 n, .i .i64 u]
@[simp] theorem II_mk (n u : Int) : II (.t [.i .i64 n, .i .i64 u]) = True := eq_true ⟨n, u, rfl⟩
def I1 (y : V) : Prop := ∃ n, y = .i .i64 n
@[simp] theorem I1_mk (n : Int) : I1 (.i .i64 n) = True := eq_true ⟨n, rfl⟩
def B1 (y : V) : Prop := ∃ n, y = .b n
@[simp] theorem B1_mk (n : Bool) : B1 (.b n) = True := eq_true ⟨n, rfl⟩
set_option maxHeartbeats 2000000 in
theorem t107 (op a b : Int) : ∃ n u, O X 107 [.i .i64 op, .i .i64 a, .i .i64 b] = some (.t [.i .i64 n, .b u]) := by
  obtain ⟨u, hu⟩ := t106 (X := X) a
  obtain ⟨m, v, hv⟩ := t108 (X := X) a b
  have : ∃ y, O X 107 [.i .i64 op, .i .i64 a, .i .i64 b] = some y ∧ IB y := by
    refine orunE (fc := code107) rfl rfl rfl ?_
    by_cases hab : a = b
    · subst hab
      simp [code107, hu, hv, ex_ite]
    · simp [code107, hu, hv, hab, ex_ite]
  obtain ⟨y, h, n, u, rfl⟩ := this
  exact ⟨n, u, h⟩
theorem ix_1 (a b : Int) (l : List Int) : opQ (O X) (.ix 1) [.l (ints (a :: b :: l)), .i .i64 1] = some (.r [.i .i64 b]) := rfl
theorem ix_2 (a b c : Int) (l : List Int) : opQ (O X) (.ix 1) [.l (ints (a :: b :: c :: l)), .i .i64 2] = some (.r [.i .i64 c]) := rfl
theorem t104 (op : Int) (l : List Int) : ∃ n u, O X 104 [.i .i64 op, .l (ints l)] = some (.t [.i .i64 n, .b u]) := by
  have : ∃ y, O X 104 [.i .i64 op, .l (ints l)] = some y ∧ IB y := by
    refine orunE (fc := code104) rfl rfl rfl ?_
    by_cases h1 : l.length = 1
    · obtain ⟨a, rfl⟩ := List.length_eq_one_iff.1 h1
      obtain ⟨u, hu⟩ := t106 (X := X) a
      simp [code104, hu, ex_ite]
    by_cases h2 : l.length = 2
    · match l, h2 with
      | [a, b], _ =>
        obtain ⟨n, u, hu⟩ := t107 (X := X) op a b
        simp [code104, hu, ix_1]
    by_cases h3 : l.length = 3
    · match l, h3 with
      | [a, b, c], _ => simp [code104, ix_1, ix_2, ex_ite]
    have h1' : ¬ (l.length : Int) = 1 := by omega
    have h2' : ¬ (l.length : Int) = 2 := by omega
    have h3' : ¬ (l.length : Int) = 3 := by omega
    simp [code104, h1', h2', h3']
  obtain ⟨y, h, n, u, rfl⟩ := this
  exact ⟨n, u, h⟩
theorem t98 (op : Int) (l : List Int) : ∃ n u, O X 98 [.i .i64 op, .l (ints l)] = some (.t [.i .i64 n, .b u]) := by
  by_cases h3 : (3 : Int) < (l.length : Int)
  · exact ⟨0, false, orun (fc := code98) rfl rfl rfl (by simp [code98, h3])⟩
  have hl : ∃ r, loopK (O X) [0, 1, 6] body98_1 [(0, .i .i64 op), (1, .l (ints l)), (6, .i .i64 (0 : Nat))] = some r ∧ (r = (.r, [(4, .i .i64 0), (5, .b false)]) ∨ r = (.e 0, [(0, .i .i64 op), (1, .l (ints l))])) := by
    refine loopK_tot (fun i => [(0, .i .i64 op), (1, .l (ints l)), (6, .i .i64 (i : Int))]) l.length _ (by simp) (fun i hi => ?_) (by simp [body98_1])
    have hw := wrap_i64 (i + 1) (by omega)
    have h97 := o97 (X := X) l[i]
    by_cases hc : 1 ≤ l[i] ∧ l[i] ≤ 5
    · rw [decide_eq_true hc] at h97
      simp [-Prod.exists, body98_1, hi, hw, h97]
    · rw [decide_eq_false hc] at h97
      simp [-Prod.exists, body98_1, hi, h97]
  obtain ⟨r, hl, hr⟩ := hl
  simp only [Int.natCast_zero] at hl
  obtain ⟨n, u, h104⟩ := t104 (X := X) op l
  rcases hr with rfl | rfl
  · exact ⟨0, false, orun (fc := code98) rfl rfl rfl (by simp [code98, h3, exec_loopK, hl])⟩
  · cases u with
    | false => exact ⟨0, false, orun (fc := code98) rfl rfl rfl (by simp [code98, h3, exec_loopK, hl, h104])⟩
    | true => exact ⟨n, true, orun (fc := code98) rfl rfl rfl (by simp [code98, h3, exec_loopK, hl, h104])⟩
end Go.Proofs.YtmhbkofbbkogeaaGreat
