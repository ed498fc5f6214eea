/-
  What the functions that the laws reach compute: what expires, what is open, what is proposed.
-/
import Derived.Test.YthonmlhljdhlbaaSpec4
namespace Go.Proofs.Ythonmlhljdhlbaa
open Go.VM
/-- A request on this day. -/
def exd (d : Int) (r : Request) : Request := if r.state = 1 ∧ r.until' < d then { r with state := 4 } else r
def part (l : List Request) (d : Int) (i : Nat) : List Request := (l.take i).map (exd d) ++ l.drop i
@[simp] theorem part_len (l : List Request) (d : Int) (i : Nat) : (part l d i).length = l.length := by simp [part]; omega
theorem part_get (l : List Request) (d : Int) (i : Nat) (hi : i < l.length) : (part l d i)[i]? = some l[i] := by
  unfold part
  rw [List.getElem?_append_right (by simp; omega)]
  simp [Nat.min_eq_left (Nat.le_of_lt hi), hi]
theorem part_set (l : List Request) (d : Int) (i : Nat) (hi : i < l.length) : (part l d i).set i (exd d l[i]) = part l d (i + 1) := by
  unfold part
  have hl : ((l.take i).map (exd d)).length = i := by simp; omega
  rw [List.set_append_right _ _ (by omega), hl, Nat.sub_self, List.drop_eq_getElem_cons hi, List.set_cons_zero, List.take_succ_eq_append_getElem hi, List.map_append, List.append_assoc]
  rfl
theorem part_at (l : List Request) (d : Int) (i : Nat) (hi : i < l.length) (h : i < (part l d i).length) : (part l d i)[i] = l[i] := by
  have hp := part_get l d i hi
  rw [List.getElem?_eq_getElem h] at hp
  exact Option.some.inj hp
theorem part_same (l : List Request) (d : Int) (i : Nat) (hi : i < l.length) (h : exd d l[i] = l[i]) : part l d (i + 1) = part l d i := by
  rw [← part_set l d i hi, h]
  have hp := part_get l d i hi
  have hil : i < (part l d i).length := by simpa using hi
  have : (part l d i)[i] = l[i] := by
    rw [List.getElem?_eq_getElem hil] at hp
    exact Option.some.inj hp
  rw [← this, List.set_getElem_self]
def expire (l : List Request) (d : Int) : List Request := l.map (exd d)
theorem part_all (l : List Request) (d : Int) : part l d l.length = expire l d := by simp [part, expire]
theorem l26 (l : List Request) (d : Int) (h : l.length ≤ 100) : loopK O [1, 5, 10, 11, 12] body26_1 [(1, .i .i64 d), (5, .ow 35 (enc (part l d 0))), (10, .al 5), (11, .i .i64 l.length), (12, .i .i64 0)] = some (.e 0, [(5, .ow 35 (enc (part l d l.length)))]) :=
  loopK_run (o := O) (kin := [1, 5, 10, 11, 12]) (c := body26_1) (fun i => [(1, .i .i64 d), (5, .ow 35 (enc (part l d i))), (10, .al 5), (11, .i .i64 l.length), (12, .i .i64 i)]) l.length _ (by simp) (fun i hi => by
    have hw := wrap_i64 (i + 1) (by omega)
    have hp := part_at l d i hi (by simpa using hi)
    by_cases c : l[i].state = 1 ∧ l[i].until' < d
    · have hs := part_set l d i hi
      have he : exd d l[i] = { l[i] with state := 4 } := by simp [exd, c]
      rw [he] at hs
      rw [← hs]
      simp [body26_1, hi, hw, hp, c, encL_set]
    · have he : exd d l[i] = l[i] := by simp only [exd]; rw [if_neg c]
      rw [part_same l d i hi he]
      by_cases c1 : l[i].state = 1
      · have c2 : ¬ l[i].until' < d := fun h => c ⟨c1, h⟩
        simp [body26_1, hi, hw, hp, c1, c2]
      · simp [body26_1, hi, hw, hp, c1]) (by simp [body26_1]) (by simp)
theorem e26 (l : List Request) (d : Int) (h : l.length ≤ 100) (hf : Few l) : O 26 [.l (enc l), .i .i64 d] = some (.ow 35 (enc (expire l d))) := by
  refine orun (fc := code26) rfl rfl rfl ?_
  have hl := l26 l d h
  rw [part_all] at hl
  have h0 : part l d 0 = l := by simp [part]
  rw [h0] at hl
  simp [code26, e35 l h hf, exec_loopK, hl]
theorem l27 (l : List Request) (d : Int) (h : l.length ≤ 100) : loopK O [1, 5, 6] body27_1 [(1, .i .i64 d), (5, .ow 35 (enc (part l d 0))), (6, .i .i64 0)] = some (.e 0, [(5, .ow 35 (enc (part l d l.length)))]) :=
  loopK_run (o := O) (kin := [1, 5, 6]) (c := body27_1) (fun i => [(1, .i .i64 d), (5, .ow 35 (enc (part l d i))), (6, .i .i64 i)]) l.length _ (by simp) (fun i hi => by
    have hw := wrap_i64 (i + 1) (by omega)
    have hp := part_at l d i hi (by simpa using hi)
    by_cases c : l[i].state = 1 ∧ l[i].until' < d
    · have hs := part_set l d i hi
      have he : exd d l[i] = { l[i] with state := 4 } := by simp [exd, c]
      rw [he] at hs
      rw [← hs]
      simp [body27_1, hi, hw, hp, c, encL_set]
    · have he : exd d l[i] = l[i] := by simp only [exd]; rw [if_neg c]
      rw [part_same l d i hi he]
      by_cases c1 : l[i].state = 1
      · have c2 : ¬ l[i].until' < d := fun h => c ⟨c1, h⟩
        simp [body27_1, hi, hw, hp, c1, c2]
      · simp [body27_1, hi, hw, hp, c1]) (by simp [body27_1]) (by simp)
theorem e27 (l : List Request) (d : Int) (h : l.length ≤ 100) : O 27 [.l (enc l), .i .i64 d] = some (.ow 35 (enc (expire l d))) := by
  refine orun (fc := code27) rfl rfl rfl ?_
  have hl := l27 l d h
  rw [part_all] at hl
  have h0 : part l d 0 = l := by simp [part]
  rw [h0] at hl
  have hb : l.length * 368 ≤ 140737488355328 := by omega
  simp [code27, hb, exec_loopK, hl]
/-! ### Open -/
def opens (l : List Request) : List Int := (l.filter fun r => decide (r.state = 1)).map Request.id
theorem opens_len (l : List Request) : (opens l).length ≤ l.length := by
  unfold opens; rw [List.length_map]; exact List.length_filter_le ..
theorem opens_succ (l : List Request) (i : Nat) (hi : i < l.length) : opens (l.take (i + 1)) = if l[i].state = 1 then opens (l.take i) ++ [l[i].id] else opens (l.take i) := by
  rw [List.take_succ_eq_append_getElem hi]
  unfold opens
  rw [List.filter_append, List.map_append]
  by_cases c : l[i].state = 1 <;> simp [c]
theorem l29 (l : List Request) (h : l.length ≤ 100) : loopK O [3, 6, 7, 8] body29_1 [(3, .ow 3 (encI (opens (l.take 0)))), (6, .l (enc l)), (7, .i .i64 l.length), (8, .i .i64 0)] = some (.e 0, [(3, .ow 3 (encI (opens (l.take l.length))))]) :=
  loopK_run (o := O) (kin := [3, 6, 7, 8]) (c := body29_1) (fun i => [(3, .ow 3 (encI (opens (l.take i)))), (6, .l (enc l)), (7, .i .i64 l.length), (8, .i .i64 i)]) l.length _ (by simp) (fun i hi => by
    have hw := wrap_i64 (i + 1) (by omega)
    have hol := opens_len (l.take i)
    have hb : ((opens (l.take i)).length + 1) * 8 ≤ 140737488355328 := by simp at hol; omega
    rw [opens_succ l i hi]
    by_cases c : l[i].state = 1 <;> simp [body29_1, hi, hw, c, hb, encL_append, encL_cons]) (by simp [body29_1]) (by simp)
@[simp] theorem e29 (l : List Request) (h : l.length ≤ 100) : O 29 [.l (enc l)] = some (.ow 3 (encI (opens l))) := by
  refine orun (fc := code29) rfl rfl rfl ?_
  have hl := l29 l h
  rw [List.take_length] at hl
  simp [opens] at hl
  simp [code29, exec_loopK, hl, opens]
theorem l30 (l : List Request) (h : l.length ≤ 100) : loopK O [0, 3, 4] body30_1 [(0, .l (enc l)), (3, .ow 3 (encI (opens (l.take 0)))), (4, .i .i64 0)] = some (.e 0, [(3, .ow 3 (encI (opens (l.take l.length))))]) :=
  loopK_run (o := O) (kin := [0, 3, 4]) (c := body30_1) (fun i => [(0, .l (enc l)), (3, .ow 3 (encI (opens (l.take i)))), (4, .i .i64 i)]) l.length _ (by simp) (fun i hi => by
    have hw := wrap_i64 (i + 1) (by omega)
    have hol := opens_len (l.take i)
    have hb : ((opens (l.take i)).length + 1) * 8 ≤ 140737488355328 := by simp at hol; omega
    rw [opens_succ l i hi]
    by_cases c : l[i].state = 1 <;> simp [body30_1, hi, hw, c, hb, encL_append, encL_cons]) (by simp [body30_1]) (by simp)
@[simp] theorem e30 (l : List Request) (h : l.length ≤ 100) : O 30 [.l (enc l)] = some (.ow 3 (encI (opens l))) := by
  refine orun (fc := code30) rfl rfl rfl ?_
  have hl := l30 l h
  rw [List.take_length] at hl
  simp [opens] at hl
  simp [code30, exec_loopK, hl, opens]
end Go.Proofs.Ythonmlhljdhlbaa
