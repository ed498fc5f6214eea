/-
  The union of two lists of numbers by the document's code.
-/
import Derived.Test.YtlmbgmobghmmmaaOrd
import Derived.Test.YtlmbgmobghmmmaaNames
namespace Go.Proofs.Ytlmbgmobghmmmaa
open Go.VM
def ext1 : Orc := fun _ _ => none
noncomputable def O1 : Orc := den tab ext1
theorem sound1 : SoundO Try.prog O1 := den_sound (fun f fc h => codes_ok _ (tabOf_mem h)) (fun f xs y h => by cases h) mutOK
theorem orun1 {f : Nat} {fc : FCode} (ht : tab f = some fc) {args : List V} {y : V} (hl : args.length = fc.np) (ha : args.all V.arg = true) (h : retE fc.res (exec O1 fc.body (args0 0 args)) = some y) : O1 f args = some y := VM.run ht hl ha h
@[simp] theorem mut29 : mutOf 29 = ⟨33, true, false, insRun 33⟩ := rfl
@[simp] theorem mut35 : mutOf 35 = ⟨3, false, false, sortRun⟩ := rfl
@[simp] theorem mut36 : mutOf 36 = ⟨3, true, false, compRun⟩ := rfl
def atV : Option Nat → Int
  | some k => k
  | none => -1
theorem l45a (l u : List Int) (k : Nat) (hk : k ≤ u.length) (h : l.length ≤ 1000) (hu : u.length ≤ 1000) : loopK O1 [5, 6, 7, 8] body45_1 [(5, .ow 3 (ints l)), (6, .ow 3 (ints (u.take k))), (7, .i .i64 (-1)), (8, .i .i64 0)] = some (.e 2, [(5, .ow 3 (ints l)), (6, .ow 3 (ints (u.take k))), (7, .i .i64 (atV (best l (lastOf u k) l.length)))]) := by
  have := loopK_run (o := O1) (kin := [5, 6, 7, 8]) (c := body45_1) (fun i => [(5, .ow 3 (ints l)), (6, .ow 3 (ints (u.take k))), (7, .i .i64 (atV (best l (lastOf u k) i))), (8, .i .i64 i)]) l.length (.e 2, [(5, .ow 3 (ints l)), (6, .ow 3 (ints (u.take k))), (7, .i .i64 (atV (best l (lastOf u k) l.length)))]) (by simp) (fun i hi => by
    have hw := wrap_i64 (i + 1) (by omega)
    have hs := best_spec l (lastOf u k) i (by omega)
    have hb1 := best_succ l (lastOf u k) hi
    rw [hb1]
    have hlt : (u.take k).length = k := by simp; omega
    generalize hv : u.take k = v at hlt ⊢
    -- is the number above the last one?
    have hab : aboveB (lastOf u k) l[i] = true ∨ aboveB (lastOf u k) l[i] = false := by cases aboveB (lastOf u k) l[i] <;> simp
    by_cases hk0 : k = 0
    · have hlo : lastOf u k = none := by simp [lastOf, hk0]
      rw [hlo] at hs ⊢
      have hv0 : v = [] := List.eq_nil_of_length_eq_zero (by omega)
      subst hv0
      cases hb : best l none i with
      | none => simp [body45_1, hi, hw, aboveB, lessB, atV]
      | some j =>
        rw [hb] at hs
        obtain ⟨hj, _⟩ := hs
        by_cases hc : l[i] < l[j] <;> simp [body45_1, hi, hj, hw, aboveB, lessB, atV, hc]
    · have hk1 : k - 1 < v.length := by omega
      have hlo : lastOf u k = some v[k - 1] := by
        unfold lastOf
        rw [if_neg hk0]
        subst hv
        rw [List.getElem_take, List.getElem?_eq_getElem]
      rw [hlo] at hs ⊢
      have hvk : (v.length : Int) = k := by omega
      have hvk0 : ¬ (k : Int) = 0 := by omega
      obtain ⟨m, rfl⟩ : ∃ m, k = m + 1 := ⟨k - 1, by omega⟩
      have hwm := wrap_i64 (m : Int) (by omega)
      have hm : m < v.length := by omega
      simp only [Nat.add_sub_cancel] at hs hlo ⊢
      have hne : ¬ (m : Int) + 1 = 0 := by omega
      cases hb : best l (some v[m]) i with
      | none =>
        by_cases ha : v[m] < l[i] <;> simp [body45_1, hi, hw, hwm, hlt, aboveB, lessB, atV, ha, hne]
      | some j =>
        rw [hb] at hs
        obtain ⟨hj, _⟩ := hs
        by_cases ha : v[m] < l[i]
        · by_cases hc : l[i] < l[j] <;> simp [body45_1, hi, hj, hw, hwm, hlt, aboveB, lessB, atV, ha, hc, hne]
        · simp [body45_1, hi, hj, hw, hwm, hlt, aboveB, lessB, atV, ha, hne]) (by simp [body45_1]) (by simp)
  exact this
theorem l45b (l u : List Int) (ha : u.Pairwise (· < ·)) (hm : ∀ x, x ∈ u ↔ x ∈ l) (hul : u.length ≤ l.length) (h : l.length ≤ 1000) :
    loopK O1 [5, 6] body45_2 [(5, .ow 3 (ints l)), (6, .ow 3 [])] = some (if u.length = l.length then (.e 0, [(6, .ow 3 (ints u))]) else (.r, [(4, .ow 3 (ints u))])) := by
  have := loopK_run (o := O1) (kin := [5, 6]) (c := body45_2) (fun k => [(5, .ow 3 (ints l)), (6, .ow 3 (ints (u.take k)))]) u.length (if u.length = l.length then (.e 0, [(6, .ow 3 (ints u))]) else (.r, [(4, .ow 3 (ints u))])) (by simp) (fun k hk => by
    obtain ⟨j, hj, hb, hje⟩ := best_next ha hm hk
    have hl := l45a l u k (by omega) h (by omega)
    rw [hb] at hl
    have hlt : (u.take k).length = k := by simp; omega
    have hkl : k < l.length := by omega
    have hb1 : (k + 1) * 8 ≤ 140737488355328 := by omega
    have ht : u.take (k + 1) = u.take k ++ [u[k]] := List.take_succ_eq_append_getElem hk
    generalize hv : u.take k = v at *
    generalize hx : u[k] = x at *
    simp only [atV] at hl
    simp [body45_2, hlt, hkl, exec_loopK, hl, hj, hje, hb1, ht, encL_append, encL_cons]) (by
    by_cases he : u.length = l.length
    · have ht : u.take l.length = u := by rw [← he, List.take_length]
      simp [body45_2, he, ht]
    · have hl := l45a l u u.length (Nat.le_refl _) h (by omega)
      rw [best_end ha hm] at hl
      have hkl : u.length < l.length := by omega
      rw [List.take_length] at hl
      simp only [atV] at hl
      simp [body45_2, hkl, exec_loopK, hl, he]) (by split <;> simp)
  exact this
theorem e45 (a b : List Int) (h : a.length + b.length ≤ 1000) : O1 45 [.l (ints a), .l (ints b)] = some (.ow 3 (ints (uni a b))) := by
  refine orun1 (fc := code45) rfl rfl rfl ?_
  have hl := l45b (a ++ b) (uni a b) (uni_asc a b) (fun x => by rw [mem_uni, List.mem_append]) (by rw [List.length_append]; exact uni_len a b) (by rw [List.length_append]; exact h)
  have hb1 : a.length * 8 ≤ 140737488355328 := by omega
  have hb2 : (a.length + b.length) * 8 ≤ 140737488355328 := by omega
  generalize uni a b = u at hl ⊢
  have hab : ints (a ++ b) = ints a ++ ints b := encL_append _
  rw [hab] at hl
  by_cases he : u.length = (a ++ b).length
  · rw [if_pos he] at hl
    simp [code45, exec_loopK, hl, hb1, hb2]
  · rw [if_neg he] at hl
    simp [code45, exec_loopK, hl, hb1, hb2]
def uniL : List V → Option V
  | [.l x, .l y] => (toInts x).bind fun a => (toInts y).bind fun b => if a.length + b.length ≤ 1000 then some (.l (ints (uni a b))) else none
  | _ => none
theorem uniL_PF {f : Nat} (hf : f = 45) (xs : List V) (y : V) (h : uniL xs = some y) : okFn Try.prog f = true ∧ PF Try.prog f xs y := by
  unfold uniL at h
  split at h
  · rename_i x y'
    cases hx : toInts x with
    | none => rw [hx] at h; cases h
    | some a =>
      cases hy : toInts y' with
      | none => rw [hx, hy] at h; cases h
      | some b =>
        rw [hx, hy] at h
        simp only [Option.bind_some] at h
        split at h
        · rename_i hl
          cases h
          have := toInts_eq hx
          subst this
          have := toInts_eq hy
          subst this
          subst hf
          have := sound1.2 45 _ _ (e45 a b hl)
          exact ⟨this.1, this.2.frz⟩
        · cases h
  · cases h
end Go.Proofs.Ytlmbgmobghmmmaa
