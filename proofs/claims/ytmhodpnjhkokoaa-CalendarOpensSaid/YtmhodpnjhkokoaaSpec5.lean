/-
  What the functions that the laws reach compute: Join; law 9.
-/
import Derived.Test.YtmhodpnjhkokoaaSpec4
namespace Go.Proofs.Ytmhodpnjhkokoaa
open Go.VM
theorem seq_run {o : Orc} {rs : List RV} {a b : C} {env e' : Env} {y : Option V} (h1 : exec o a env = some (.n, e')) (h2 : retE rs (exec o b e') = y) : retE rs (exec o (.seq a b) env) = y := by
  simp only [exec, h1, Option.bind_some]
  exact h2
def joinC (a b : Calendar) : Calendar := ⟨a.name, uni a.weekend b.weekend, uni a.holidays b.holidays⟩
set_option maxHeartbeats 8000000 in
theorem e28 (a b : Calendar) (h1 : a.weekend.length + b.weekend.length ≤ 1000) (h2 : a.holidays.length + b.holidays.length ≤ 1000) : O 28 [a.v, b.v] = some (joinC a b).v := by
  refine orun (fc := code28) rfl rfl rfl ?_
  have g1 := e48' a.weekend b.weekend h1
  have g2 := e48' a.holidays b.holidays h2
  obtain ⟨an, aw, ah⟩ := a
  obtain ⟨bn, bw, bh⟩ := b
  simp only [joinC, Calendar.v] at g1 g2 ⊢
  generalize encL (V.i .i64) (uni aw bw) = w3 at *
  generalize encL (V.i .i64) (uni ah bh) = h3 at *
  generalize encL (V.i .i64) aw = w1 at *
  generalize encL (V.i .i64) bw = w2 at *
  generalize encL (V.i .i64) ah = k1 at *
  generalize encL (V.i .i64) bh = k2 at *
  simp only [code28]
  refine seq_run (by simp; rfl) ?_
  simp (config := { maxSteps := 1000000 }) [g1, g2]
set_option maxHeartbeats 8000000 in
theorem e30 (a b : Calendar) (h1 : a.weekend.length + b.weekend.length ≤ 1000) (h2 : a.holidays.length + b.holidays.length ≤ 1000) : O 30 [a.v, b.v] = some (joinC a b).v := by
  refine orun (fc := code30) rfl rfl rfl ?_
  have g1 := e50' a.weekend b.weekend h1
  have g2 := e50' a.holidays b.holidays h2
  obtain ⟨an, aw, ah⟩ := a
  obtain ⟨bn, bw, bh⟩ := b
  simp only [joinC, Calendar.v] at g1 g2 ⊢
  generalize encL (V.i .i64) (uni aw bw) = w3 at *
  generalize encL (V.i .i64) (uni ah bh) = h3 at *
  generalize encL (V.i .i64) aw = w1 at *
  generalize encL (V.i .i64) bw = w2 at *
  generalize encL (V.i .i64) ah = k1 at *
  generalize encL (V.i .i64) bh = k2 at *
  simp only [code30]
  refine seq_run (by simp; rfl) ?_
  simp (config := { maxSteps := 1000000 }) [g1, g2]
theorem join_open (a b : Calendar) (d : Int) : openB (joinC a b) d = (openB a d && openB b d) := by
  unfold openB joinC
  simp only [mem_uni]
  cases validD d
  · rfl
  · by_cases h1 : wd d ∈ a.weekend <;> by_cases h2 : wd d ∈ b.weekend <;> by_cases h3 : d ∈ a.holidays <;> by_cases h4 : d ∈ b.holidays <;> simp [h1, h2, h3, h4]
theorem join_chk {a b : Calendar} (ha : chk a = 0) (hb : chk b = 0) (hw : (uni a.weekend b.weekend).length < 7) (hh : (uni a.holidays b.holidays).length ≤ 400) : chk (joinC a b) = 0 := by
  have key : ∀ c : Calendar, chk c = 0 ↔ nameOk c.name = true ∧ c.weekend.length < 7 ∧ (outP c.weekend 0 6).isNone = true ∧ ascB c.weekend = true ∧ c.holidays.length ≤ 400 ∧ (outP c.holidays 0 73048).isNone = true ∧ ascB c.holidays = true := by
    intro c
    unfold chk
    cases nameOk c.name
    · simp
    · by_cases k1 : 7 ≤ c.weekend.length
      · simp [k1]; omega
      · cases k2 : (outP c.weekend 0 6).isNone
        · simp
        · cases k3 : ascB c.weekend
          · simp
          · by_cases k4 : 400 < c.holidays.length
            · simp [k1, k4]; omega
            · cases k5 : (outP c.holidays 0 73048).isNone
              · simp [k1, k4]
              · cases k6 : ascB c.holidays
                · simp [k1, k4]
                · simp [k1, k4]; omega
  rw [key] at ha hb ⊢
  obtain ⟨a1, a2, a3, a4, a5, a6, a7⟩ := ha
  obtain ⟨b1, b2, b3, b4, b5, b6, b7⟩ := hb
  rw [outP_iff] at a3 a6 b3 b6
  refine ⟨a1, hw, ?_, (ascB_iff _).2 (uni_asc _ _), hh, ?_, (ascB_iff _).2 (uni_asc _ _)⟩
  · rw [outP_iff]
    intro x hx
    rcases mem_uni.1 hx with h | h
    · exact a3 x h
    · exact b3 x h
  · rw [outP_iff]
    intro x hx
    rcases mem_uni.1 hx with h | h
    · exact a6 x h
    · exact b6 x h
set_option maxHeartbeats 8000000 in
theorem e9 (a b : Calendar) (d : Int) (hna : a.name.length ≤ maxLen) (hnb : b.name.length ≤ maxLen) : O 9 [a.v, b.v, .i .i64 d] = some (.b true) := by
  refine orun (fc := code9) rfl rfl rfl ?_
  have ga := e14 a
  have gb := e14 b
  cases fa : fewB a with
  | false => rw [fa] at ga; simp [code9, ga, live]
  | true =>
    rw [fa] at ga
    cases fb : fewB b with
    | false => rw [fb] at gb; simp [code9, ga, gb, live]
    | true =>
      rw [fb] at gb
      have la := few_len fa
      have lb := few_len fb
      have sa := few_small fa
      have sb := few_small fb
      have u1 := uni_len a.weekend b.weekend
      have u2 := uni_len a.holidays b.holidays
      have sj : Small (joinC a b) := ⟨by simp only [joinC]; omega, by simp only [joinC]; omega⟩
      have h28 := e28 a b (by omega) (by omega)
      have h30 := e30 a b (by omega) (by omega)
      have h29 := e29 _ sj
      have o1 := e19 _ d sj
      have o2 := e19 a d sa
      have o3 := e19 b d sb
      have c1 := e12 a sa hna
      have c2 := e12 b sb hnb
      have c3 := e12 _ sj hna
      rw [join_open] at o1
      have hcc : chk a = 0 → chk b = 0 → (joinC a b).weekend.length < 7 → chk (joinC a b) = 0 := fun h1 h2 h3 => join_chk h1 h2 h3 (by omega)
      generalize hj : joinC a b = j at *
      simp only [code9]
      have hopen : (openB a d && openB b d) = (if openB a d = true then openB b d else false) := by cases openB a d <;> rfl
      by_cases k1 : chk a = 0
      · by_cases k2 : chk b = 0
        · by_cases k3 : j.weekend.length < 7
          · have k4 := hcc k1 k2 k3
            have k3' : (j.weekend.length : Int) < 7 := by omega
            rw [k1] at c1; rw [k2] at c2; rw [k4] at c3
            cases p1 : openB a d <;> cases p2 : openB b d <;> rw [p1] at o2 <;> rw [p2] at o3 <;> rw [p1, p2] at o1 <;> simp [ga, gb, h28, h30, h29, o1, o2, o3, c1, c2, c3, k3', live]
          · have k3' : ¬ (j.weekend.length : Int) < 7 := by omega
            rw [k1] at c1; rw [k2] at c2
            cases p1 : openB a d <;> cases p2 : openB b d <;> rw [p1] at o2 <;> rw [p2] at o3 <;> rw [p1, p2] at o1 <;> simp [ga, gb, h28, h30, h29, o1, o2, o3, c1, c2, k3', live]
        · rw [k1] at c1
          cases p1 : openB a d <;> cases p2 : openB b d <;> rw [p1] at o2 <;> rw [p2] at o3 <;> rw [p1, p2] at o1 <;> simp [ga, gb, h28, h30, h29, o1, o2, o3, c1, c2, k2, live]
      · cases p1 : openB a d <;> cases p2 : openB b d <;> rw [p1] at o2 <;> rw [p2] at o3 <;> rw [p1, p2] at o1 <;> simp [ga, gb, h28, h30, h29, o1, o2, o3, c1, k1, live]
end Go.Proofs.Ytmhodpnjhkokoaa
