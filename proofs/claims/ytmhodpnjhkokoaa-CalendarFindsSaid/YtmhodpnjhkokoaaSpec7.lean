/-
  What the functions that the laws reach compute: the document's civil dates, the end of a month, Adjust; law 5.
-/
import Derived.Test.YtmhodpnjhkokoaaSpec6
namespace Go.Proofs.Ytmhodpnjhkokoaa
open Go.VM
theorem l59a {d : Int} (hv : validD d = true) {Y : Nat} (hY : Y < 200) (h1 : bgn Y ≤ d) (h2 : d < bgn (Y + 1)) : loopK O [0, 5, 6] body59_1 [(0, .i .i64 d), (5, .i .i64 2000), (6, .i .i64 1)] = some (.e 0, [(0, .i .i64 (d - bgn Y)), (5, .i .i64 (2000 + Y)), (6, .i .i64 1)]) := by
  have hd := valid_iff.1 hv
  have := loopK_run (o := O) (kin := [0, 5, 6]) (c := body59_1) (fun i => [(0, .i .i64 (d - bgn i)), (5, .i .i64 (2000 + (i : Nat))), (6, .i .i64 1)]) Y (.e 0, [(0, .i .i64 (d - bgn Y)), (5, .i .i64 (2000 + Y)), (6, .i .i64 1)]) (by simp) (fun i hi => by
    have h67 := e67 i
    have hs := bgn_succ i (by omega)
    have hm := bgn_mono (show i + 1 ≤ Y by omega)
    have hb := bgn_bounds i (by omega)
    have hle : ylen i ≤ d - bgn i := by omega
    have hw := wrap_i64 (d - bgn i - ylen i) (by unfold ylen; split <;> omega)
    have hw2 := wrap_i64 (2000 + (i : Int) + 1) (by omega)
    have e1 : d - bgn (i + 1) = d - bgn i - ylen i := by omega
    have e2 : (2000 : Int) + ((i + 1 : Nat) : Int) = 2000 + (i : Int) + 1 := by omega
    rw [e1, e2]
    generalize (2000 : Int) + (i : Int) = x at *
    generalize ylen i = L at *
    generalize d - bgn i = R at *
    simp [body59_1, h67, hle, hw, hw2]) (by
      have h67 := e67 Y
      have hs := bgn_succ Y hY
      have hle : ¬ ylen Y ≤ d - bgn Y := by omega
      generalize (2000 : Int) + (Y : Int) = x at *
      generalize ylen Y = L at *
      generalize d - bgn Y = R at *
      simp [body59_1, h67, hle]) (by simp)
  have h00 : d - bgn 0 = d := by have : bgn 0 = 0 := rfl; omega
  have h01 : (2000 : Int) + ((0 : Nat) : Int) = 2000 := by simp
  rw [h00, h01] at this
  exact this
theorem l59b (y r : Int) (b : Bool) (hb : leapB y = b) {M : Nat} (hM : M < 12) (hr : 0 ≤ r) (hr2 : r ≤ 400) (h1 : cum b M ≤ r) (h2 : r < cum b (M + 1)) : loopK O [0, 5, 6] body59_2 [(0, .i .i64 r), (5, .i .i64 y), (6, .i .i64 1)] = some (.e 2, [(0, .i .i64 (r - cum b M)), (5, .i .i64 y), (6, .i .i64 (M + 1 : Nat))]) := by
  have := loopK_run (o := O) (kin := [0, 5, 6]) (c := body59_2) (fun i => [(0, .i .i64 (r - cum b i)), (5, .i .i64 y), (6, .i .i64 (i + 1 : Nat))]) M (.e 2, [(0, .i .i64 (r - cum b M)), (5, .i .i64 y), (6, .i .i64 (M + 1 : Nat))]) (by simp) (fun i hi => by
    have h58 := e60 y (i + 1) (by omega) (by omega)
    rw [hb] at h58
    have hc : cum b (i + 1) = cum b i + lenB b (i + 1) := rfl
    have hm := cum_mono b (show i + 1 ≤ M by omega) (by omega)
    have h0 := cum_mono b (show 0 ≤ i + 1 by omega) (by omega)
    have h00 : cum b 0 = 0 := rfl
    have hp := lenB_pos b (i + 1) (by omega) (by omega)
    have hle : lenB b (i + 1) ≤ r - cum b i := by omega
    have hw := wrap_i64 (r - cum b i - lenB b (i + 1)) (by omega)
    have hw2 := wrap_i64 ((i + 1 : Nat) + 1) (by omega)
    have e1 : r - cum b (i + 1) = r - cum b i - lenB b (i + 1) := by omega
    rw [e1]
    generalize lenB b (i + 1) = L at *
    generalize r - cum b i = R at *
    simp at h58 hw2
    simp [body59_2, h58, hle, hw, hw2]) (by
      have h58 := e60 y (M + 1) (by omega) (by omega)
      rw [hb] at h58
      have hc : cum b (M + 1) = cum b M + lenB b (M + 1) := rfl
      have hle : ¬ lenB b (M + 1) ≤ r - cum b M := by omega
      generalize lenB b (M + 1) = L at *
      generalize r - cum b M = R at *
      simp at h58
      simp [body59_2, h58, hle]) (by simp)
  have h00 : r - cum b 0 = r := by simp [cum]
  rw [h00] at this
  exact this
theorem e59 {d : Int} (hv : validD d = true) {Y M : Nat} (hY : Y < 200) (h1 : bgn Y ≤ d) (h2 : d < bgn (Y + 1)) (hM : M < 12) (h3 : cum (leapB (2000 + Y)) M ≤ d - bgn Y) (h4 : d - bgn Y < cum (leapB (2000 + Y)) (M + 1)) : O 59 [.i .i64 d] = some (civV Y M d) := by
  refine orun (fc := code59) rfl rfl rfl ?_
  have hd := valid_iff.1 hv
  have la := l59a hv hY h1 h2
  have hyl := bgn_succ Y hY
  have hyl2 : ylen Y ≤ 366 := by unfold ylen; split <;> omega
  have lb := l59b (2000 + Y) (d - bgn Y) _ rfl hM (by omega) (by omega) h3 h4
  have hb := bgn_bounds Y (by omega)
  have h00 := cum_mono (leapB (2000 + Y)) (show 0 ≤ M by omega) (by omega)
  have h01 : cum (leapB (2000 + Y)) 0 = 0 := rfl
  have hw3 := wrap_i64 (d - bgn Y - cum (leapB (2000 + Y)) M + 1) (by omega)
  unfold civV
  generalize cum (leapB (2000 + Y)) M = C at *
  generalize hB : bgn Y = B at *
  generalize hy : (2000 : Int) + (Y : Int) = y at *
  simp [code59, hv, exec_loopK, la, lb, hw3]
/-- The end of a day's month, as both reckon it. -/
theorem month_end (d : Int) : ∃ x, O 46 [.i .i64 d] = some (.i .i64 x) ∧ O 47 [.i .i64 d] = some (.i .i64 x) := by
  cases hv : validD d with
  | false =>
    refine ⟨-1, ?_, ?_⟩
    · refine orun (fc := code46) rfl rfl rfl ?_; simp [code46, hv]
    · refine orun (fc := code47) rfl rfl rfl ?_; simp [code47, hv]
  | true =>
    have hd := valid_iff.1 hv
    obtain ⟨Y, hY, h1, h2⟩ := year_of hv
    obtain ⟨M, hM, h3, h4⟩ := month_of hY h1 h2
    have h57 := e57 hv hY h1 h2 hM h3 h4
    have h59 := e59 hv hY h1 h2 hM h3 h4
    have h58 := e58 (2000 + Y) (M + 1) (by omega) (by omega)
    have h60 := e60 (2000 + Y) (M + 1) (by omega) (by omega)
    have hp := lenB_pos (leapB (2000 + Y)) (M + 1) (by omega) (by omega)
    have hyl := bgn_succ Y hY
    have hyl2 : ylen Y ≤ 366 := by unfold ylen; split <;> omega
    have hb := bgn_bounds Y (by omega)
    have h00 := cum_mono (leapB (2000 + Y)) (show 0 ≤ M by omega) (by omega)
    have h01 : cum (leapB (2000 + Y)) 0 = 0 := rfl
    unfold civV at h57 h59
    generalize lenB (leapB (2000 + Y)) (M + 1) = L at *
    generalize hn : d - bgn Y - cum (leapB (2000 + Y)) M + 1 = n at *
    have hw1 := wrap_i64 (d - n) (by omega)
    have hw2 := wrap_i64 (d - n + L) (by omega)
    have hw3 := wrap_i64 (d + L) (by omega)
    have hw4 := wrap_i64 (d + L - n) (by omega)
    have he : d + L - n = d - n + L := by omega
    refine ⟨d - n + L, ?_, ?_⟩
    · refine orun (fc := code46) rfl rfl rfl ?_
      simp [code46, hv, h57] at h58 ⊢
      simp [h58, hw1, hw2]
    · refine orun (fc := code47) rfl rfl rfl ?_
      simp [code47, hv, h59] at h60 ⊢
      simp [h60, hw3, he, hw2]
/-- Adjust answers as the document's Adjust. -/
theorem adjust (c : Calendar) (d r : Int) (h : Small c) : ∃ x e, O 21 [c.v, .i .i64 d, .i .i64 r] = some (.t [.i .i64 x, .i .i64 e]) ∧ O 22 [c.v, .i .i64 d, .i .i64 r] = some (.t [.i .i64 x, .i .i64 e]) := by
  have h15 := e15 c d h
  have h16 := e16 c d h
  have h17 := e17 c d h
  have h18 := e18 c d h
  obtain ⟨m, h46, h47⟩ := month_end d
  have both : ∀ x e, retE code21.res (exec O code21.body (args0 0 [c.v, .i .i64 d, .i .i64 r])) = some (.t [.i .i64 x, .i .i64 e]) → retE code22.res (exec O code22.body (args0 0 [c.v, .i .i64 d, .i .i64 r])) = some (.t [.i .i64 x, .i .i64 e]) → ∃ x e, O 21 [c.v, .i .i64 d, .i .i64 r] = some (.t [.i .i64 x, .i .i64 e]) ∧ O 22 [c.v, .i .i64 d, .i .i64 r] = some (.t [.i .i64 x, .i .i64 e]) :=
    fun x e g1 g2 => ⟨x, e, orun (fc := code21) rfl rfl rfl g1, orun (fc := code22) rfl rfl rfl g2⟩
  cases hv : validD d with
  | false => exact both 0 1 (by simp [code21, hv]) (by simp [code22, hv])
  | true =>
    by_cases r1 : r < 0
    · exact both 0 1 (by
        have n0 : ¬ r = 0 := by omega
        have n1 : ¬ r = 1 := by omega
        have n2 : ¬ r = 2 := by omega
        have n3 : ¬ r = 3 := by omega
        simp [code21, hv, n0, n1, n2, n3]) (by simp [code22, hv, r1])
    · by_cases r2 : 3 < r
      · exact both 0 1 (by
          have n0 : ¬ r = 0 := by omega
          have n1 : ¬ r = 1 := by omega
          have n2 : ¬ r = 2 := by omega
          have n3 : ¬ r = 3 := by omega
          simp [code21, hv, n0, n1, n2, n3]) (by simp [code22, hv, r1, r2])
      · obtain rfl | rfl | rfl | rfl : r = 0 ∨ r = 1 ∨ r = 2 ∨ r = 3 := by omega
        · exact both d 0 (by simp [code21, hv]) (by simp [code22, hv])
        · cases hu : upD c d with
          | none => rw [hv, hu] at h15 h16; simp [dayV] at h15 h16; exact both 0 11 (by simp [code21, hv, h15]) (by simp [code22, hv, h16])
          | some x => rw [hv, hu] at h15 h16; simp [dayV] at h15 h16; exact both x 0 (by simp [code21, hv, h15]) (by simp [code22, hv, h16])
        · cases hu : upD c d with
          | none =>
            rw [hv, hu] at h15 h16; simp [dayV] at h15 h16
            cases hd : dnD c d with
            | none => rw [hv, hd] at h17 h18; simp [dayV] at h17 h18; exact both 0 11 (by simp [code21, hv, h15, h17]) (by simp [code22, hv, h16, h18])
            | some y => rw [hv, hd] at h17 h18; simp [dayV] at h17 h18; exact both y 0 (by simp [code21, hv, h15, h17]) (by simp [code22, hv, h16, h18])
          | some x =>
            rw [hv, hu] at h15 h16; simp [dayV] at h15 h16
            by_cases hm : x ≤ m
            · exact both x 0 (by simp [code21, hv, h15, h46, hm]) (by simp [code22, hv, h16, h47, hm])
            · cases hd : dnD c d with
              | none => rw [hv, hd] at h17 h18; simp [dayV] at h17 h18; exact both 0 11 (by simp [code21, hv, h15, h46, hm, h17]) (by simp [code22, hv, h16, h47, hm, h18])
              | some y => rw [hv, hd] at h17 h18; simp [dayV] at h17 h18; exact both y 0 (by simp [code21, hv, h15, h46, hm, h17]) (by simp [code22, hv, h16, h47, hm, h18])
        · cases hd : dnD c d with
          | none => rw [hv, hd] at h17 h18; simp [dayV] at h17 h18; exact both 0 11 (by simp [code21, hv, h17]) (by simp [code22, hv, h18])
          | some y => rw [hv, hd] at h17 h18; simp [dayV] at h17 h18; exact both y 0 (by simp [code21, hv, h17]) (by simp [code22, hv, h18])
theorem e5 (c : Calendar) (d r : Int) : O 5 [c.v, .i .i64 d, .i .i64 r] = some (.b true) := by
  refine orun (fc := code5) rfl rfl rfl ?_
  have h14 := e14 c
  cases hf : fewB c with
  | false => rw [hf] at h14; simp [code5, h14, live]
  | true =>
    rw [hf] at h14
    obtain ⟨x, e, h1, h2⟩ := adjust c d r (few_small hf)
    simp [code5, h14, h1, h2, live]
end Go.Proofs.Ytmhodpnjhkokoaa
