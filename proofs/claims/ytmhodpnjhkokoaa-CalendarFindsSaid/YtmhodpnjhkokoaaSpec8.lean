/-
  What the functions that the laws reach compute: Find; law 10.
-/
import Derived.Test.YtmhodpnjhkokoaaSpec5
namespace Go.Proofs.Ytmhodpnjhkokoaa
open Go.VM
/-- Lists that memory can hold a copy of. -/
def Held (c : Calendar) : Prop := (c.weekend.length ≤ maxLen ∧ c.weekend.length * 8 ≤ 140737488355328) ∧ (c.holidays.length ≤ maxLen ∧ c.holidays.length * 8 ≤ 140737488355328)
theorem l49b (l : List Int) (h : l.length * 8 ≤ 140737488355328) : loopK O [0, 1, 5] body49_1 [(0, .l (encL (V.i .i64) l)), (1, .l (encL (V.i .i64) l)), (5, .i .i64 0)] = some (.e 0, []) :=
  loopK_run (o := O) (kin := [0, 1, 5]) (c := body49_1) (fun i => [(0, .l (encL (V.i .i64) l)), (1, .l (encL (V.i .i64) l)), (5, .i .i64 i)]) l.length (.e 0, []) (by simp) (fun i hi => by
    have hw := wrap_i64 (i + 1) (by omega)
    simp [body49_1, hi, hw]) (by simp [body49_1]) (by simp)
theorem e49b (l : List Int) (h : l.length * 8 ≤ 140737488355328) : O 49 [.l (encL (V.i .i64) l), .l (encL (V.i .i64) l)] = some (.b true) := by
  refine orun (fc := code49) rfl rfl rfl ?_
  have hl := l49b l h
  simp [code49, exec_loopK, hl]
theorem e29b (c : Calendar) (h : Held c) : O 29 [c.v, c.v] = some (.b true) := by
  refine orun (fc := code29) rfl rfl rfl ?_
  have h1 := e49b c.weekend h.1.2
  have h2 := e49b c.holidays h.2.2
  simp [code29, h1, h2]
def noCal : Calendar := ⟨[], [], []⟩
def findV (l : List Calendar) (n : List UInt8) : V := match (posN l n).bind (l[·]?) with
  | some c => .t [c.v, .b true]
  | none => .t [noCal.v, .b false]
set_option maxHeartbeats 8000000 in
theorem e31 (l : List Calendar) (n : List UInt8) (h : l.length ≤ 1000) (hh : ∀ c ∈ l, Held c) : O 31 [.l (encL Calendar.v l), .s n] = some (findV l n) := by
  refine orun (fc := code31) rfl rfl rfl ?_
  have h51 := e51 l n h
  unfold findV
  cases hp : posN l n with
  | none => rw [hp] at h51; simp [posV] at h51; simp [code31, h51, noCal]
  | some i =>
    have hi := posN_some hp
    rw [hp] at h51; simp [posV] at h51
    have hc := hh _ (List.getElem_mem hi)
    have g1 := e53 l[i].weekend hc.1.1 hc.1.2
    have g2 := e53 l[i].holidays hc.2.1 hc.2.2
    simp only [Option.bind_some, List.getElem?_eq_getElem hi]
    generalize hx : l[i] = x at g1 g2 ⊢
    obtain ⟨xn, xw, xh⟩ := x
    simp only [Calendar.v] at g1 g2 ⊢
    simp only [code31]
    refine seq_run (by simp; rfl) ?_
    refine seq_run (by simp [h51]; rfl) ?_
    refine seq_run (by simp; rfl) ?_
    refine seq_run (by simp [hi, hx]; rfl) ?_
    generalize encL (V.i .i64) xw = w1 at *
    generalize encL (V.i .i64) xh = k1 at *
    refine seq_run (by simp (config := { maxSteps := 1000000 }) [g1, g2]; rfl) ?_
    simp
theorem l32 (l : List Calendar) (n : List UInt8) (h : l.length ≤ 1000) : loopK O [0, 1, 4, 6] body32_1 [(0, .l (encL Calendar.v l)), (1, .s n), (4, .bx [.s [], .l [], .l []]), (6, .i .i64 0)] = some (optE (fun (i : Nat) => (.r, [(4, .bx ((l[i]?).getD noCal).cells), (5, .b true)])) (.e 0, [(4, .bx [.s [], .l [], .l []])]) (posN l n)) := by
  have := loopK_code (o := O) (kin := [0, 1, 4, 6]) (c := body32_1) (fun i => [(0, .l (encL Calendar.v l)), (1, .s n), (4, .bx [.s [], .l [], .l []]), (6, .i .i64 i)]) l.length (nameAt l n) (fun (i : Nat) => (.r, [(4, .bx ((l[i]?).getD noCal).cells), (5, .b true)])) (.e 0, [(4, .bx [.s [], .l [], .l []])]) (by simp) (by simp) (fun i hi => by
    have hw := wrap_i64 (i + 1) (by omega)
    by_cases c : l[i].name = n
    · simp [body32_1, hi, nameAt, c]
    · simp [body32_1, hi, hw, nameAt, c]) (by simp [body32_1]) (by simp)
  exact this
set_option maxHeartbeats 8000000 in
theorem e32 (l : List Calendar) (n : List UInt8) (h : l.length ≤ 1000) : O 32 [.l (encL Calendar.v l), .s n] = some (findV l n) := by
  refine orun (fc := code32) rfl rfl rfl ?_
  have hl := l32 l n h
  unfold findV
  cases hp : posN l n with
  | none => rw [hp] at hl; simp [code32, exec_loopK, hl, noCal]
  | some i =>
    have hi := posN_some hp
    rw [hp] at hl
    simp only [optE, List.getElem?_eq_getElem hi, Option.getD_some] at hl
    simp only [Option.bind_some, List.getElem?_eq_getElem hi]
    simp [code32, exec_loopK, hl]
set_option maxHeartbeats 8000000 in
theorem e10 (l : List Calendar) (n : List UInt8) (hh : ∀ c ∈ l, Held c) : O 10 [.l (encL Calendar.v l), .s n] = some (.b true) := by
  refine orun (fc := code10) rfl rfl rfl ?_
  by_cases k1 : (30 : Int) < (l.length : Int)
  · simp [code10, k1, live]
  · by_cases k2 : (100 : Int) < (n.length : Int)
    · simp [code10, k1, k2, live]
    · have h31 := e31 l n (by omega) hh
      have h32 := e32 l n (by omega)
      unfold findV at h31 h32
      cases hq : (posN l n).bind (l[·]?) with
      | none =>
        rw [hq] at h31 h32
        simp only at h31 h32
        have h29 : O 29 [.a [.s [], .l [], .l []], .a [.s [], .l [], .l []]] = some (.b true) := e29b noCal (by simp [Held, noCal, maxLen])
        simp only [noCal] at h31 h32
        simp [code10, k1, k2, h31, h32, h29, live]
      | some c =>
        rw [hq] at h31 h32
        simp only at h31 h32
        have hc : c ∈ l := by
          obtain ⟨i, _, hi⟩ := Option.bind_eq_some_iff.1 hq
          exact List.mem_of_getElem? hi
        have h29 := e29b c (hh c hc)
        simp [code10, k1, k2, h31, h32, h29, live]
end Go.Proofs.Ytmhodpnjhkokoaa
