/-
  What the functions that the laws reach compute: new requests.
-/
import Derived.Test.YthonmlhljdhlbaaSpec5
namespace Go.Proofs.Ythonmlhljdhlbaa
open Go.VM
def resV' (p : List Request × Int) : V := .t [.ow 35 (enc p.1), .i .i64 p.2]
def proposed (l : List Request) (m : Request) : List Request × Int :=
  if (chk l ≠ 0 ∨ chk [m] ≠ 0) ∨ m.state ≠ 1 then ([], 1) else if 0 < l.length ∧ m.id ≤ (l[l.length - 1]?.map Request.id).getD 0 then ([], 10) else if 64 ≤ l.length then ([], 5) else (l ++ [m], 0)
theorem chk_len {l : List Request} (h : chk l = 0) : l.length ≤ 64 := by
  unfold chk at h
  split at h
  · cases h
  · omega
set_option maxRecDepth 20000 in
set_option maxHeartbeats 16000000 in
theorem e13 (l : List Request) (m : Request) (hf : Few l) (hm : few m.command) : O 13 [.l (enc l), m.v] = some (resV' (proposed l m)) := by
  refine orun (fc := code13) rfl rfl rfl ?_
  have h1 := e10 l
  have h2 : O 10 [.l [m.v]] = some (.i .i64 (chk [m])) := e10 [m]
  have h34 := e34 m.command hm
  by_cases c1 : (chk l ≠ 0 ∨ chk [m] ≠ 0) ∨ m.state ≠ 1
  · have : proposed l m = ([], 1) := by unfold proposed; rw [if_pos c1]
    by_cases k1 : chk l = 0
    · rw [k1] at h1
      by_cases k2 : chk [m] = 0
      · have k4 : ¬ m.state = 1 := fun k4 => by
          rcases c1 with (h | h) | h
          · exact h k1
          · exact h k2
          · exact h k4
        rw [k2] at h2
        simp [code13, h1, h2, k4, this, resV']
      · simp [code13, h1, h2, k2, this, resV']
    · simp [code13, h1, k1, this, resV']
  · have k1 : chk l = 0 := by false_or_by_contra; exact c1 (.inl (.inl ‹_›))
    have k2 : chk [m] = 0 := by false_or_by_contra; exact c1 (.inl (.inr ‹_›))
    have k4 : m.state = 1 := by false_or_by_contra; exact c1 (.inr ‹_›)
    rw [k1] at h1; rw [k2] at h2
    obtain ⟨m1, m2, m3, m4, m5, m6, m7⟩ := m
    simp only at k4 h34
    subst k4
    have hlen := chk_len k1
    have h35 := e35 l (by omega) hf
    have hb : (l.length + 1) * 368 ≤ 140737488355328 := by omega
    cases l with
    | nil => simp at h1 h35; simp (config := { maxSteps := 2000000 }) [code13, h1, h2, h34, h35, proposed, k1, k2, resV', encL_cons]
    | cons m0 r =>
      generalize hl : m0 :: r = l at *
      obtain ⟨k, hk⟩ : ∃ k, l.length = k + 1 := ⟨r.length, by rw [← hl]; rfl⟩
      have hw0 := wrap_i64 (k : Int) (by omega)
      have f0 : (0 : Int) < (k : Int) + 1 := by omega
      by_cases c2 : m1 ≤ l[k].id
      · simp [code13, h1, h2, proposed, k1, k2, hk, hw0, f0, c2, resV']
      · by_cases c3 : (64 : Int) ≤ (k : Int) + 1
        · have c3' : 64 ≤ k + 1 := by omega
          simp [code13, h1, h2, proposed, k1, k2, hk, hw0, f0, c2, c3, c3', resV']
        · have c3' : ¬ 64 ≤ k + 1 := by omega
          rw [hk] at hb
          simp (config := { maxSteps := 2000000 }) [code13, h1, h2, h34, h35, proposed, k1, k2, hk, hw0, f0, c2, c3, c3', resV', hb, encL_append, encL_cons]
set_option maxRecDepth 20000 in
set_option maxHeartbeats 16000000 in
theorem e14 (l : List Request) (m : Request) : O 14 [.l (enc l), m.v] = some (resV' (proposed l m)) := by
  refine orun (fc := code14) rfl rfl rfl ?_
  have h1 := e11 l
  have h2 : O 11 [.l [m.v]] = some (.i .i64 (chk [m])) := e11 [m]
  by_cases c1 : (chk l ≠ 0 ∨ chk [m] ≠ 0) ∨ m.state ≠ 1
  · have : proposed l m = ([], 1) := by unfold proposed; rw [if_pos c1]
    by_cases k1 : chk l = 0
    · rw [k1] at h1
      by_cases k2 : chk [m] = 0
      · have k4 : ¬ m.state = 1 := fun k4 => by
          rcases c1 with (h | h) | h
          · exact h k1
          · exact h k2
          · exact h k4
        rw [k2] at h2
        simp [code14, h1, h2, k4, this, resV']
      · simp [code14, h1, h2, k2, this, resV']
    · simp [code14, h1, k1, this, resV']
  · have k1 : chk l = 0 := by false_or_by_contra; exact c1 (.inl (.inl ‹_›))
    have k2 : chk [m] = 0 := by false_or_by_contra; exact c1 (.inl (.inr ‹_›))
    have k4 : m.state = 1 := by false_or_by_contra; exact c1 (.inr ‹_›)
    rw [k1] at h1; rw [k2] at h2
    obtain ⟨m1, m2, m3, m4, m5, m6, m7⟩ := m
    simp only at k4
    subst k4
    have hlen := chk_len k1
    have hb : (l.length + 1) * 368 ≤ 140737488355328 := by omega
    have hb0 : l.length * 368 ≤ 140737488355328 := by omega
    cases l with
    | nil => simp at h1; simp (config := { maxSteps := 2000000 }) [code14, h1, h2, proposed, k1, k2, resV', encL_cons]
    | cons m0 r =>
      generalize hl : m0 :: r = l at *
      obtain ⟨k, hk⟩ : ∃ k, l.length = k + 1 := ⟨r.length, by rw [← hl]; rfl⟩
      have hw0 := wrap_i64 (k : Int) (by omega)
      have f0 : (0 : Int) < (k : Int) + 1 := by omega
      by_cases c2 : m1 ≤ l[k].id
      · simp [code14, h1, h2, proposed, k1, k2, hk, hw0, f0, c2, resV']
      · by_cases c3 : (64 : Int) ≤ (k : Int) + 1
        · have c3' : 64 ≤ k + 1 := by omega
          simp [code14, h1, h2, proposed, k1, k2, hk, hw0, f0, c2, c3, c3', resV']
        · have c3' : ¬ 64 ≤ k + 1 := by omega
          rw [hk] at hb hb0
          simp (config := { maxSteps := 2000000 }) [code14, h1, h2, proposed, k1, k2, hk, hw0, f0, c2, c3, c3', resV', hb, hb0, encL_append, encL_cons]
end Go.Proofs.Ythonmlhljdhlbaa
