/-
  What the functions that the laws reach compute: new mandates, and changes.
-/
import Derived.Test.YtflcddjpnbefhaaSpec2
namespace Go.Proofs.Ytflcddjpnbefhaa
open Go.VM
def resV' (p : List Mandate × Int) : V := .t [.ow 28 (enc p.1), .i .i64 p.2]
def signed (l : List Mandate) (m : Mandate) : List Mandate × Int :=
  if ((chk l ≠ 0 ∨ chk [m] ≠ 0) ∨ m.used ≠ 0) ∨ m.revoked ≠ 0 then ([], 1) else if 0 < l.length ∧ m.id ≤ (l[l.length - 1]?.map Mandate.id).getD 0 then ([], 10) else if 64 ≤ l.length then ([], 5) else (l ++ [m], 0)
theorem chk_len {l : List Mandate} (h : chk l = 0) : l.length ≤ 64 := by
  unfold chk at h
  split at h
  · cases h
  · omega
set_option maxHeartbeats 8000000 in
theorem e13 (l : List Mandate) (m : Mandate) : O 13 [.l (enc l), m.v] = some (resV' (signed l m)) := by
  refine orun (fc := code13) rfl rfl rfl ?_
  have h1 := e10 l
  have h2 : O 10 [.l [m.v]] = some (.i .i64 (chk [m])) := e10 [m]
  by_cases c1 : ((chk l ≠ 0 ∨ chk [m] ≠ 0) ∨ m.used ≠ 0) ∨ m.revoked ≠ 0
  · have : signed l m = ([], 1) := by unfold signed; rw [if_pos c1]
    simp [code13, h1, h2, this, resV']
    have c1' := c1
    by_cases k1 : chk l = 0 <;> by_cases k2 : chk [m] = 0 <;> by_cases k3 : m.used = 0 <;> by_cases k4 : m.revoked = 0 <;> simp_all
  · have k1 : chk l = 0 := by false_or_by_contra; exact c1 (.inl (.inl (.inl ‹_›)))
    have k2 : chk [m] = 0 := by false_or_by_contra; exact c1 (.inl (.inl (.inr ‹_›)))
    have k3 : m.used = 0 := by false_or_by_contra; exact c1 (.inl (.inr ‹_›))
    have k4 : m.revoked = 0 := by false_or_by_contra; exact c1 (.inr ‹_›)
    rw [k1] at h1; rw [k2] at h2
    obtain ⟨m1, m2, m3, m4, m5, m6, m7⟩ := m
    simp only at k3 k4
    subst k3 k4
    have hlen := chk_len k1
    have h28 := e28 l (by omega)
    have hb : (l.length + 1) * 64 ≤ 140737488355328 := by omega
    cases l with
    | nil => simp at h1 h28; simp [code13, h1, h2, h28, signed, k1, k2, resV', encL_cons]
    | cons m0 r =>
      generalize hl : m0 :: r = l at *
      obtain ⟨k, hk⟩ : ∃ k, l.length = k + 1 := ⟨r.length, by rw [← hl]; rfl⟩
      have hw0 := wrap_i64 (k : Int) (by omega)
      have f0 : (0 : Int) < (k : Int) + 1 := by omega
      by_cases c2 : m1 ≤ l[k].id
      · simp [code13, h1, h2, signed, k1, k2, hk, hw0, f0, c2, resV']
      · by_cases c3 : (64 : Int) ≤ (k : Int) + 1
        · have c3' : 64 ≤ k + 1 := by omega
          simp [code13, h1, h2, signed, k1, k2, hk, hw0, f0, c2, c3, c3', resV']
        · have c3' : ¬ 64 ≤ k + 1 := by omega
          rw [hk] at hb
          simp [code13, h1, h2, h28, signed, k1, k2, hk, hw0, f0, c2, c3, c3', resV', hb, encL_append, encL_cons]
set_option maxHeartbeats 8000000 in
theorem e14 (l : List Mandate) (m : Mandate) : O 14 [.l (enc l), m.v] = some (resV' (signed l m)) := by
  refine orun (fc := code14) rfl rfl rfl ?_
  have h1 := e11 l
  have h2 : O 11 [.l [m.v]] = some (.i .i64 (chk [m])) := e11 [m]
  by_cases c1 : ((chk l ≠ 0 ∨ chk [m] ≠ 0) ∨ m.used ≠ 0) ∨ m.revoked ≠ 0
  · have : signed l m = ([], 1) := by unfold signed; rw [if_pos c1]
    simp [code14, h1, h2, this, resV']
    have c1' := c1
    by_cases k1 : chk l = 0 <;> by_cases k2 : chk [m] = 0 <;> by_cases k3 : m.used = 0 <;> by_cases k4 : m.revoked = 0 <;> simp_all
  · have k1 : chk l = 0 := by false_or_by_contra; exact c1 (.inl (.inl (.inl ‹_›)))
    have k2 : chk [m] = 0 := by false_or_by_contra; exact c1 (.inl (.inl (.inr ‹_›)))
    have k3 : m.used = 0 := by false_or_by_contra; exact c1 (.inl (.inr ‹_›))
    have k4 : m.revoked = 0 := by false_or_by_contra; exact c1 (.inr ‹_›)
    rw [k1] at h1; rw [k2] at h2
    obtain ⟨m1, m2, m3, m4, m5, m6, m7⟩ := m
    simp only at k3 k4
    subst k3 k4
    have hlen := chk_len k1
    have hb0 : l.length * 64 ≤ 140737488355328 := by omega
    have hb : (l.length + 1) * 64 ≤ 140737488355328 := by omega
    cases l with
    | nil => simp at h1; simp [code14, h1, h2, signed, k1, k2, resV', encL_cons]
    | cons m0 r =>
      generalize hl : m0 :: r = l at *
      obtain ⟨k, hk⟩ : ∃ k, l.length = k + 1 := ⟨r.length, by rw [← hl]; rfl⟩
      have hw0 := wrap_i64 (k : Int) (by omega)
      have f0 : (0 : Int) < (k : Int) + 1 := by omega
      by_cases c2 : m1 ≤ l[k].id
      · simp [code14, h1, h2, signed, k1, k2, hk, hw0, f0, c2, resV']
      · by_cases c3 : (64 : Int) ≤ (k : Int) + 1
        · have c3' : 64 ≤ k + 1 := by omega
          simp [code14, h1, h2, signed, k1, k2, hk, hw0, f0, c2, c3, c3', resV']
        · have c3' : ¬ 64 ≤ k + 1 := by omega
          rw [hk] at hb hb0
          simp [code14, h1, h2, signed, k1, k2, hk, hw0, f0, c2, c3, c3', resV', hb, hb0, encL_append, encL_cons]
def revoked (l : List Mandate) (id d : Int) : List Mandate × Int := match pos l id with
  | none => ([], 11)
  | some i => match l[i]? with
    | some m => if m.revoked ≠ 0 then ([], 17) else if (d < 1 ∨ 73048 < d) ∨ d < m.signed then ([], 1) else (l.set i { m with revoked := d }, 0)
    | none => ([], 11)
def used (l : List Mandate) (id d : Int) : List Mandate × Int := match pos l id with
  | none => ([], 11)
  | some i => match l[i]? with
    | some m => if d < 1 ∨ 73048 < d then ([], 1) else if d < m.signed ∨ d < m.used then ([], 10) else (l.set i { m with used := d }, 0)
    | none => ([], 11)
set_option maxHeartbeats 4000000 in
theorem e16 (l : List Mandate) (id d : Int) (h : l.length ≤ 100) : O 16 [.l (enc l), .i .i64 id, .i .i64 d] = some (resV' (revoked l id d)) := by
  refine orun (fc := code16) rfl rfl rfl ?_
  have h29 := e29 l id (by omega)
  have h28 := e28 l h
  cases hp : pos l id with
  | none => rw [hp] at h29; simp [findV] at h29; simp [code16, h29, revoked, hp, resV']
  | some i =>
    obtain ⟨hi, _⟩ := pos_some hp
    rw [hp] at h29; simp [findV] at h29
    by_cases c1 : l[i].revoked = 0
    · by_cases c2 : (d < 1 ∨ 73048 < d) ∨ d < l[i].signed
      · simp [code16, h29, revoked, hp, resV', hi, c1, c2]
      · simp [code16, h29, h28, revoked, hp, resV', hi, c1, c2, encL_set]
    · simp [code16, h29, revoked, hp, resV', hi, c1]
set_option maxHeartbeats 4000000 in
theorem e17 (l : List Mandate) (id d : Int) (h : l.length ≤ 100) : O 17 [.l (enc l), .i .i64 id, .i .i64 d] = some (resV' (revoked l id d)) := by
  refine orun (fc := code17) rfl rfl rfl ?_
  have h30 := e30 l id (by omega)
  have hb0 : l.length * 64 ≤ 140737488355328 := by omega
  cases hp : pos l id with
  | none => rw [hp] at h30; simp [posV] at h30; simp [code17, h30, revoked, hp, resV']
  | some i =>
    obtain ⟨hi, _⟩ := pos_some hp
    rw [hp] at h30; simp [posV] at h30
    by_cases c1 : l[i].revoked = 0
    · by_cases c2 : (d < 1 ∨ 73048 < d) ∨ d < l[i].signed
      · simp [code17, h30, revoked, hp, resV', hi, c1, c2]
      · simp [code17, h30, hb0, revoked, hp, resV', hi, c1, c2, encL_set]
    · simp [code17, h30, revoked, hp, resV', hi, c1]
set_option maxHeartbeats 4000000 in
theorem e18 (l : List Mandate) (id d : Int) (h : l.length ≤ 100) : O 18 [.l (enc l), .i .i64 id, .i .i64 d] = some (resV' (used l id d)) := by
  refine orun (fc := code18) rfl rfl rfl ?_
  have h29 := e29 l id (by omega)
  have h28 := e28 l h
  cases hp : pos l id with
  | none => rw [hp] at h29; simp [findV] at h29; simp [code18, h29, used, hp, resV']
  | some i =>
    obtain ⟨hi, _⟩ := pos_some hp
    rw [hp] at h29; simp [findV] at h29
    by_cases c1 : d < 1 ∨ 73048 < d
    · simp [code18, h29, used, hp, resV', hi, c1]
    · by_cases c2 : d < l[i].signed ∨ d < l[i].used
      · have c2' : d < (if l[i].used > l[i].signed then l[i].used else l[i].signed) := by split <;> omega
        simp [code18, h29, used, hp, resV', hi, c1, c2, c2']
      · have c2' : ¬ d < (if l[i].used > l[i].signed then l[i].used else l[i].signed) := by split <;> omega
        simp [code18, h29, h28, used, hp, resV', hi, c1, c2, c2', encL_set]
set_option maxHeartbeats 4000000 in
theorem e19 (l : List Mandate) (id d : Int) (h : l.length ≤ 100) : O 19 [.l (enc l), .i .i64 id, .i .i64 d] = some (resV' (used l id d)) := by
  refine orun (fc := code19) rfl rfl rfl ?_
  have h30 := e30 l id (by omega)
  have hb0 : l.length * 64 ≤ 140737488355328 := by omega
  cases hp : pos l id with
  | none => rw [hp] at h30; simp [posV] at h30; simp [code19, h30, used, hp, resV']
  | some i =>
    obtain ⟨hi, _⟩ := pos_some hp
    rw [hp] at h30; simp [posV] at h30
    by_cases c1 : d < 1 ∨ 73048 < d
    · simp [code19, h30, used, hp, resV', hi, c1]
    · by_cases c2 : d < l[i].signed ∨ d < l[i].used
      · simp [code19, h30, used, hp, resV', hi, c1, c2]
      · simp [code19, h30, hb0, used, hp, resV', hi, c1, c2, encL_set]
end Go.Proofs.Ytflcddjpnbefhaa
