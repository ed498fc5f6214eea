/-
  What the functions that the laws reach compute: the binary search.
-/
import Derived.Test.YtlmbgmobghmmmaaSpec2
namespace Go.Proofs.Ytlmbgmobghmmmaa
open Go.VM
section
variable {o : Orc} {kin : List Nat} {c : C} {F F' : Env}
theorem loopK_step (hF : keepE kin F = F) (hF' : keepE kin F' = F') (h : kE kin (exec o c F) = some (.n, F')) : loopK o kin c F = loopK o kin c F' := by
  rcases kE_inv h with ⟨_, g, hg, hk⟩ | ⟨hn, _⟩
  · rw [loopK, loopC_eq, hF, hg, roundE_n]
    rw [loopK, loopC_eq, loopC_eq, hk, hF']
  · exact absurd rfl hn
theorem loopK_stop {X : Ex × Env} (hF : keepE kin F = F) (h : exec o c F = some X) (hX : X.1 ≠ .n) : loopK o kin c F = some X :=
  loopK_run (fun _ => F) 0 X (fun _ => hF) (fun i hi => by omega) h hX
end
theorem wrap_u64 (n : Int) (h : 0 ≤ n ∧ n ≤ 1000000) : IntKind.u64.wrap n = n := by
  have : IntKind.u64.wrap n = n % 18446744073709551616 := rfl
  rw [this]; omega
theorem half (i j : Nat) : ((i : Int) + (j : Int)).fdiv 2 = (((i + j) / 2 : Nat) : Int) := by
  rw [Int.fdiv_eq_ediv_of_nonneg _ (by omega)]; omega
theorem shr1 (o : Orc) (a : Int) : opQ o (.bin .shr) [.i .u64 a, .i .u64 1] = some (.i .u64 (a.fdiv 2)) := rfl
/-- What stands ahead of a version in an ordered list. -/
def Split (l : List Product) (p : Product) (lb : Nat) : Prop := lb ≤ l.length ∧ (∀ i (hi : i < l.length), i < lb → befB l[i] p = true) ∧ ∀ i (hi : i < l.length), lb ≤ i → befB l[i] p = false
theorem l28 (l : List Product) (p : Product) (lb : Nat) (hs : Split l p lb) (h : l.length ≤ 1000) : ∀ (m i j : Nat), j - i = m → i ≤ lb → lb ≤ j → j ≤ l.length →
    loopK O [0, 2, 4, 8, 9, 10] body28_1 [(0, .l (encL Product.v l)), (2, .f (.func 26) [] []), (4, .bx p.cells), (8, .i .i64 l.length), (9, .i .i64 i), (10, .i .i64 j)] = some (.e 0, [(0, .l (encL Product.v l)), (2, .f (.func 26) [] []), (4, .bx p.cells), (8, .i .i64 l.length), (9, .i .i64 lb)]) := by
  intro m
  induction m using Nat.strongRecOn with
  | _ m ih =>
    intro i j hm hi hj hjl
    by_cases hij : i < j
    · have hk : (i + j) / 2 < l.length := by omega
      have hki : i ≤ (i + j) / 2 := by omega
      have hkj : (i + j) / 2 < j := by omega
      have hwu := wrap_u64 ((i : Int) + j) (by omega)
      have hw1 := wrap_i64 ((i : Int) + j) (by omega)
      have hh := half i j
      have hw2 := wrap_i64 (((i + j) / 2 : Nat) : Int) (by omega)
      have hw3 := wrap_i64 ((((i + j) / 2 : Nat) : Int) + 1) (by omega)
      have hwu2 := wrap_u64 (((i + j) / 2 : Nat) : Int) (by omega)
      have hc := cmpP_lt l[(i + j) / 2] p
      generalize hkk : (i + j) / 2 = k at *
      cases hb : befB l[k] p with
      | true =>
        have hlt : cmpP l[k] p < 0 := by rw [hb] at hc; simpa using hc
        have hkl : k < lb := by
          false_or_by_contra
          have := hs.2.2 k hk (by omega)
          rw [hb] at this; cases this
        rw [loopK_step (F' := [(0, .l (encL Product.v l)), (2, .f (.func 26) [] []), (4, .bx p.cells), (8, .i .i64 l.length), (9, .i .i64 ((k + 1 : Nat) : Int)), (10, .i .i64 j)]) (by simp) (by simp) (by
          simp [body28_1, hij, hwu, hw1, shr1, hh, hw2, hw3, hk, hlt])]
        exact ih (j - (k + 1)) (by omega) (k + 1) j rfl (by omega) hj hjl
      | false =>
        have hlt : ¬ cmpP l[k] p < 0 := by rw [hb] at hc; simpa using hc
        have hkl : lb ≤ k := by
          false_or_by_contra
          have := hs.2.1 k hk (by omega)
          rw [hb] at this; cases this
        rw [loopK_step (F' := [(0, .l (encL Product.v l)), (2, .f (.func 26) [] []), (4, .bx p.cells), (8, .i .i64 l.length), (9, .i .i64 i), (10, .i .i64 k)]) (by simp) (by simp) (by
          simp [body28_1, hij, hwu, hw1, shr1, hh, hw2, hk, hlt])]
        exact ih (k - i) (by omega) i k rfl hi hkl (by omega)
    · have : i = lb := by omega
      subst this
      refine loopK_stop (by simp) ?_ (by simp)
      simp [body28_1, hij]
def foundB (l : List Product) (p : Product) (lb : Nat) : Bool := match l[lb]? with
  | some q => decide (q.name = p.name) && decide (q.from' = p.from')
  | none => false
theorem e28 (l : List Product) (p : Product) (lb : Nat) (hs : Split l p lb) (h : l.length ≤ 1000) : O 28 [.l (encL Product.v l), p.v, .f (.func 26) [] []] = some (.t [.i .i64 lb, .b (foundB l p lb)]) := by
  refine orun (fc := code28) rfl rfl rfl ?_
  have hl := l28 l p lb hs h (l.length - 0) 0 l.length rfl (by omega) hs.1 (Nat.le_refl _)
  rw [show ((0 : Nat) : Int) = 0 from rfl] at hl
  unfold foundB
  by_cases hlb : lb < l.length
  · have hc := cmpP_zero l[lb] p
    rw [List.getElem?_eq_getElem hlb]
    simp only
    rw [← hc]
    simp [code28, exec_loopK, hl, hlb]
  · rw [List.getElem?_eq_none (by omega)]
    simp [code28, exec_loopK, hl, hlb]
end Go.Proofs.Ytlmbgmobghmmmaa
