/-
  The union of two lists of numbers, by the program's code and by the document's.
-/
import Derived.Test.YtmhodpnjhkokoaaSets
import Derived.Test.YtmhodpnjhkokoaaLaid
namespace Go.Proofs.Ytmhodpnjhkokoaa
open Go.VM
theorem mutOK : MutOK Try.prog := by
  intro f mu hl
  have hc : (f = 62 ∧ mu = ⟨3, false, false, sortRun⟩) ∨ (f = 63 ∧ mu = ⟨3, true, false, compRun⟩) ∨ (f = 69 ∧ mu = ⟨3, true, true, growRun⟩) := by
    simp only [Glob.muts, List.lookup] at hl
    split at hl
    · rename_i h; exact .inl ⟨by simpa using h, (Option.some.inj hl).symm⟩
    · split at hl
      · rename_i h; exact .inr (.inl ⟨by simpa using h, (Option.some.inj hl).symm⟩)
      · split at hl
        · rename_i h; exact .inr (.inr ⟨by simpa using h, (Option.some.inj hl).symm⟩)
        · cases hl
  rcases hc with ⟨rfl, rfl⟩ | ⟨rfl, rfl⟩ | ⟨rfl, rfl⟩
  · exact ⟨by kernel_rfl, fun es xs es' h => sort_PFM (e := 3) Try.lays189 (by kernel_rfl) es xs es' h⟩
  · exact ⟨by kernel_rfl, fun es xs es' h => comp_PFM (e := 3) Try.laysNm220 (by kernel_rfl) es xs es' h⟩
  · exact ⟨by kernel_rfl, fun es xs es' h => grow_PFM Try.laysGrow (i0 := Try.t3) (z := .int .i64 0) (by kernel_rfl) (by kernel_rfl) (by kernel_rfl) (by kernel_rfl) (by decide +kernel) es xs es' h⟩
def ext1 : Orc := fun _ _ => none
noncomputable def O1 : Orc := den tab ext1
theorem sound1 : SoundO Try.prog O1 := den_sound (fun f fc h => codes_ok _ (tabOf_mem h)) (fun f xs y h => by cases h) mutOK
theorem orun1 {f : Nat} {fc : FCode} (ht : tab f = some fc) {args : List V} {y : V} (hl : args.length = fc.np) (ha : args.all V.arg = true) (h : retE fc.res (exec O1 fc.body (args0 0 args)) = some y) : O1 f args = some y := VM.run ht hl ha h
@[simp] theorem mut62 : mutOf 62 = ⟨3, false, false, sortRun⟩ := rfl
@[simp] theorem mut63 : mutOf 63 = ⟨3, true, false, compRun⟩ := rfl
@[simp] theorem mut69 : mutOf 69 = ⟨3, true, true, growRun⟩ := rfl
def upSum (a b : List Int) (i : Nat) : Nat := if i = 0 then 0 else if i = 1 then a.length else a.length + b.length
def upTo (a b : List Int) (i : Nat) : List Int := if i = 0 then [] else if i = 1 then a else a ++ b
theorem l61a (a b : List Int) (h : a.length + b.length ≤ 1000) : loopK O1 [0, 3, 9, 10, 11] body61_1 [(0, .l [.l (ints a), .l (ints b)]), (3, .i .i64 0), (9, .l [.l (ints a), .l (ints b)]), (10, .i .i64 2), (11, .i .i64 0)] = some (.e 0, [(0, .l [.l (ints a), .l (ints b)]), (3, .i .i64 (a.length + b.length : Nat))]) := by
  have := loopK_run (o := O1) (kin := [0, 3, 9, 10, 11]) (c := body61_1) (fun i => [(0, .l [.l (ints a), .l (ints b)]), (3, .i .i64 (upSum a b i : Nat)), (9, .l [.l (ints a), .l (ints b)]), (10, .i .i64 2), (11, .i .i64 i)]) 2 (.e 0, [(0, .l [.l (ints a), .l (ints b)]), (3, .i .i64 (a.length + b.length : Nat))]) (by simp) (fun i hi => by
    have hw1 := wrap_i64 (a.length : Int) (by omega)
    have hw2 := wrap_i64 ((a.length : Int) + (b.length : Int)) (by omega)
    have h1 : ¬ (a.length : Int) < 0 := by omega
    have h2 : ¬ (a.length : Int) + (b.length : Int) < 0 := by omega
    match i, hi with
    | 0, _ => simp [body61_1, upSum, hw1, h1, show IntKind.i64.wrap 1 = 1 from rfl]
    | 1, _ => simp [body61_1, upSum, hw2, h2, show IntKind.i64.wrap 2 = 2 from rfl]) (by simp [body61_1, upSum]) (by simp)
  exact this
theorem l61b (a b : List Int) (h : a.length + b.length ≤ 1000) : loopK O1 [6, 25, 26, 27] body61_2 [(6, .ow 3 []), (25, .l [.l (ints a), .l (ints b)]), (26, .i .i64 2), (27, .i .i64 0)] = some (.e 2, [(6, .ow 3 (ints (a ++ b)))]) := by
  have := loopK_run (o := O1) (kin := [6, 25, 26, 27]) (c := body61_2) (fun i => [(6, .ow 3 (ints (upTo a b i))), (25, .l [.l (ints a), .l (ints b)]), (26, .i .i64 2), (27, .i .i64 i)]) 2 (.e 2, [(6, .ow 3 (ints (a ++ b)))]) (by simp) (fun i hi => by
    have hb1 : a.length * 8 ≤ 140737488355328 := by omega
    have hb2 : (a.length + b.length) * 8 ≤ 140737488355328 := by omega
    match i, hi with
    | 0, _ => simp [body61_2, upTo, hb1, show IntKind.i64.wrap 1 = 1 from rfl]
    | 1, _ =>
      simp [body61_2, upTo, hb2, show IntKind.i64.wrap 2 = 2 from rfl]
      exact (encL_append _).symm) (by simp [body61_2, upTo]) (by simp)
  exact this
theorem e61 (a b : List Int) (h : a.length + b.length ≤ 1000) : O1 61 [.l [.l (ints a), .l (ints b)]] = some (.ow 3 (ints (a ++ b))) := by
  refine orun1 (fc := code61) rfl rfl rfl ?_
  have h1 := l61a a b h
  have h2 := l61b a b h
  have h3 : (0 : Int) ≤ (a.length : Int) + (b.length : Int) := by omega
  have h4 : (a.length : Int) + (b.length : Int) ≤ 1000000 := by omega
  simp at h1 h2
  simp [code61, exec_loopK, h1, h2, growRun, h3, h4]
theorem e48 (a b : List Int) (h : a.length + b.length ≤ 1000) : O1 48 [.l (ints a), .l (ints b)] = some (.ow 3 (ints (uni a b))) := by
  refine orun1 (fc := code48) rfl rfl rfl ?_
  have h1 := e61 a b h
  have h2 : (a ++ b).length ≤ 1000000 := by simp; omega
  have h3 : (isort (a ++ b)).length ≤ 1000000 := by rw [(isort_perm _).length_eq]; exact h2
  unfold uni
  generalize a ++ b = c at h1 h2 h3 ⊢
  generalize hd : isort c = d at h3 ⊢
  simp [code48, h1, sortRun, compRun, hd, h2, h3]
def atV : Option Nat → Int
  | some k => k
  | none => -1
theorem l50a (l u : List Int) (k : Nat) (hk : k ≤ u.length) (h : l.length ≤ 1000) (hu : u.length ≤ 1000) : loopK O1 [5, 6, 7, 8] body50_1 [(5, .ow 3 (ints l)), (6, .ow 3 (ints (u.take k))), (7, .i .i64 (-1)), (8, .i .i64 0)] = some (.e 2, [(5, .ow 3 (ints l)), (6, .ow 3 (ints (u.take k))), (7, .i .i64 (atV (best l (lastOf u k) l.length)))]) := by
  have := loopK_run (o := O1) (kin := [5, 6, 7, 8]) (c := body50_1) (fun i => [(5, .ow 3 (ints l)), (6, .ow 3 (ints (u.take k))), (7, .i .i64 (atV (best l (lastOf u k) i))), (8, .i .i64 i)]) l.length (.e 2, [(5, .ow 3 (ints l)), (6, .ow 3 (ints (u.take k))), (7, .i .i64 (atV (best l (lastOf u k) l.length)))]) (by simp) (fun i hi => by
    have hw := wrap_i64 (i + 1) (by omega)
    have hs := best_spec l (lastOf u k) i (by omega)
    have hb1 := best_succ l (lastOf u k) hi
    rw [hb1]
    have hlt : (u.take k).length = k := by simp; omega
    generalize hv : u.take k = v at hlt ⊢
    -- is the number above the last one?
    have hab : aboveB (lastOf u k) l[i] = true ∨ aboveB (lastOf u k) l[i] = false := by cases aboveB (lastOf u k) l[i] <;> simp
    by_cases hk0 : k = 0
    · have hlo : lastOf u k = none := by simp [lastOf, hk0]
      rw [hlo] at hs ⊢
      have hv0 : v = [] := List.eq_nil_of_length_eq_zero (by omega)
      subst hv0
      cases hb : best l none i with
      | none => simp [body50_1, hi, hw, aboveB, atV]
      | some j =>
        rw [hb] at hs
        obtain ⟨hj, _⟩ := hs
        by_cases hc : l[i] < l[j] <;> simp [body50_1, hi, hj, hw, aboveB, atV, hc]
    · have hk1 : k - 1 < v.length := by omega
      have hlo : lastOf u k = some v[k - 1] := by
        unfold lastOf
        rw [if_neg hk0]
        subst hv
        rw [List.getElem_take, List.getElem?_eq_getElem]
      rw [hlo] at hs ⊢
      have hvk : (v.length : Int) = k := by omega
      have hvk0 : ¬ (k : Int) = 0 := by omega
      obtain ⟨m, rfl⟩ : ∃ m, k = m + 1 := ⟨k - 1, by omega⟩
      have hwm := wrap_i64 (m : Int) (by omega)
      have hm : m < v.length := by omega
      simp only [Nat.add_sub_cancel] at hs hlo ⊢
      have hne : ¬ (m : Int) + 1 = 0 := by omega
      cases hb : best l (some v[m]) i with
      | none =>
        by_cases ha : v[m] < l[i] <;> simp [body50_1, hi, hw, hwm, hlt, aboveB, atV, ha, hne]
      | some j =>
        rw [hb] at hs
        obtain ⟨hj, _⟩ := hs
        by_cases ha : v[m] < l[i]
        · by_cases hc : l[i] < l[j] <;> simp [body50_1, hi, hj, hw, hwm, hlt, aboveB, atV, ha, hc, hne]
        · simp [body50_1, hi, hj, hw, hwm, hlt, aboveB, atV, ha, hne]) (by simp [body50_1]) (by simp)
  exact this
theorem l50b (l u : List Int) (ha : u.Pairwise (· < ·)) (hm : ∀ x, x ∈ u ↔ x ∈ l) (hul : u.length ≤ l.length) (h : l.length ≤ 1000) :
    loopK O1 [5, 6] body50_2 [(5, .ow 3 (ints l)), (6, .ow 3 [])] = some (if u.length = l.length then (.e 0, [(6, .ow 3 (ints u))]) else (.r, [(4, .ow 3 (ints u))])) := by
  have := loopK_run (o := O1) (kin := [5, 6]) (c := body50_2) (fun k => [(5, .ow 3 (ints l)), (6, .ow 3 (ints (u.take k)))]) u.length (if u.length = l.length then (.e 0, [(6, .ow 3 (ints u))]) else (.r, [(4, .ow 3 (ints u))])) (by simp) (fun k hk => by
    obtain ⟨j, hj, hb, hje⟩ := best_next ha hm hk
    have hl := l50a l u k (by omega) h (by omega)
    rw [hb] at hl
    have hlt : (u.take k).length = k := by simp; omega
    have hkl : k < l.length := by omega
    have hb1 : (k + 1) * 8 ≤ 140737488355328 := by omega
    have ht : u.take (k + 1) = u.take k ++ [u[k]] := List.take_succ_eq_append_getElem hk
    generalize hv : u.take k = v at *
    generalize hx : u[k] = x at *
    simp only [atV] at hl
    simp [body50_2, hlt, hkl, exec_loopK, hl, hj, hje, hb1, ht, encL_append, encL_cons]) (by
    by_cases he : u.length = l.length
    · have ht : u.take l.length = u := by rw [← he, List.take_length]
      simp [body50_2, he, ht]
    · have hl := l50a l u u.length (Nat.le_refl _) h (by omega)
      rw [best_end ha hm] at hl
      have hkl : u.length < l.length := by omega
      rw [List.take_length] at hl
      simp only [atV] at hl
      simp [body50_2, hkl, exec_loopK, hl, he]) (by split <;> simp)
  exact this
theorem e50 (a b : List Int) (h : a.length + b.length ≤ 1000) : O1 50 [.l (ints a), .l (ints b)] = some (.ow 3 (ints (uni a b))) := by
  refine orun1 (fc := code50) rfl rfl rfl ?_
  have hl := l50b (a ++ b) (uni a b) (uni_asc a b) (fun x => by rw [mem_uni, List.mem_append]) (by rw [List.length_append]; exact uni_len a b) (by rw [List.length_append]; exact h)
  have hb1 : a.length * 8 ≤ 140737488355328 := by omega
  have hb2 : (a.length + b.length) * 8 ≤ 140737488355328 := by omega
  generalize uni a b = u at hl ⊢
  have hab : ints (a ++ b) = ints a ++ ints b := encL_append _
  rw [hab] at hl
  by_cases he : u.length = (a ++ b).length
  · rw [if_pos he] at hl
    simp [code50, exec_loopK, hl, hb1, hb2]
  · rw [if_neg he] at hl
    simp [code50, exec_loopK, hl, hb1, hb2]
/-! ### What the laws' functions see of it -/
def uniL : List V → Option V
  | [.l x, .l y] => (toInts x).bind fun a => (toInts y).bind fun b => if a.length + b.length ≤ 1000 then some (.l (ints (uni a b))) else none
  | _ => none
theorem uniL_PF {f : Nat} (hf : f = 48 ∨ f = 50) (xs : List V) (y : V) (h : uniL xs = some y) : okFn Try.prog f = true ∧ PF Try.prog f xs y := by
  unfold uniL at h
  split at h
  · rename_i x y'
    cases hx : toInts x with
    | none => rw [hx] at h; cases h
    | some a =>
      cases hy : toInts y' with
      | none => rw [hx, hy] at h; cases h
      | some b =>
        rw [hx, hy] at h
        simp only [Option.bind_some] at h
        split at h
        · rename_i hl
          cases h
          have := toInts_eq hx
          subst this
          have := toInts_eq hy
          subst this
          rcases hf with rfl | rfl
          · have := sound1.2 48 _ _ (e48 a b hl)
            exact ⟨this.1, this.2.frz⟩
          · have := sound1.2 50 _ _ (e50 a b hl)
            exact ⟨this.1, this.2.frz⟩
        · cases h
  · cases h
end Go.Proofs.Ytmhodpnjhkokoaa
