/-
  The leaves below a root of the chart.
-/
import Derived.Test.YtmhbkofbbkogeaaGreatChart
namespace Go.Proofs.YtmhbkofbbkogeaaGreat
open Go.VM
variable {X : Orc}
/-- Where a number goes in, looked for from the end. -/
def dn (out : List Int) (x : Int) : Nat → Nat
  | 0 => 0
  | k + 1 => match out[k]? with
    | some y => if x < y then dn out x k else k + 1
    | none => k + 1
theorem dn_spec (out : List Int) (x : Int) : ∀ k, k ≤ out.length → dn out x k ≤ k ∧ (∀ j (hj : j < out.length), dn out x k ≤ j → j < k → x < out[j]) ∧ (∀ y, 0 < dn out x k → out[dn out x k - 1]? = some y → y ≤ x)
  | 0, _ => ⟨Nat.le_refl _, fun j _ _ h => absurd h (by omega), fun _ h => absurd h (by simp [dn])⟩
  | k + 1, hk => by
    have hk' : k < out.length := by omega
    obtain ⟨h1, h2, h3⟩ := dn_spec out x k (by omega)
    have hdn : dn out x (k + 1) = if x < out[k] then dn out x k else k + 1 := by
      show (match out[k]? with | some y => if x < y then dn out x k else k + 1 | none => k + 1) = _
      rw [List.getElem?_eq_getElem hk']
    by_cases hx : x < out[k]
    · rw [if_pos hx] at hdn
      rw [hdn]
      refine ⟨by omega, fun j hj h4 h5 => ?_, h3⟩
      by_cases e : j = k
      · subst e; exact hx
      · exact h2 j hj h4 (by omega)
    · rw [if_neg hx] at hdn
      rw [hdn]
      refine ⟨Nat.le_refl _, fun j _ h4 h5 => absurd h5 (by omega), fun y _ hy => ?_⟩
      rw [Nat.add_sub_cancel, List.getElem?_eq_getElem hk'] at hy
      cases hy
      omega
def insK (out : List Int) (x : Int) : List Int := let k := dn out x out.length
  if 0 < k ∧ (out[k - 1]?) = some x then out else out.take k ++ x :: out.drop k
theorem insK_len (out : List Int) (x : Int) : (insK out x).length ≤ out.length + 1 := by
  unfold insK
  simp only
  split
  · omega
  · simp only [List.length_append, List.length_take, List.length_cons, List.length_drop]; omega
def leafB (l : List Gl) (root : Int) (g : Gl) : Bool := !parentB l g.id && under l g.id root
def lf (l : List Gl) (root : Int) (acc : List Int) (g : Gl) : List Int := if leafB l root g = true then insK acc g.id else acc
theorem lf_len (l : List Gl) (root : Int) : ∀ (m : List Gl) (acc : List Int), (m.foldl (lf l root) acc).length ≤ acc.length + m.length
  | [], acc => by simp
  | g :: m, acc => by
    rw [List.foldl_cons]
    have := lf_len l root m (lf l root acc g)
    have h2 : (lf l root acc g).length ≤ acc.length + 1 := by
      unfold lf
      split
      · exact insK_len _ _
      · omega
    simp only [List.length_cons]
    omega
/-- The leaves below a root, as they are put in. -/
def lvsF (l : List Gl) (root : Int) : List Int := l.foldl (lf l root) []
theorem slc_i1 (l : List Int) (i : Nat) (h : i ≤ l.length) : opQ (O X) (.slc 1 false true) [.l (ints l), .i .i64 i] = some (.l (ints (l.take i))) := by
  have hb : bnds (ints l).length false true [.i .i64 (i : Int)] = some (0, i) := by
    have : (i : Int) ≤ ((ints l).length : Int) := by simp; omega
    simp only [bnds]
    rw [if_pos ⟨by omega, this⟩]
    simp
  have ha : (ints l).all (fun x => x.cells.length == 1) = true := encL_all fun _ => rfl
  simp only [opQ, ha, if_true, hb, Option.map_some, List.drop_zero]
  simp [encL]
theorem slc_i2 (l : List Int) (i : Nat) (h : i ≤ l.length) : opQ (O X) (.slc 1 true false) [.l (ints l), .i .i64 i] = some (.l (ints (l.drop i))) := by
  have hb : bnds (ints l).length true false [.i .i64 (i : Int)] = some (i, l.length) := by
    have : (i : Int) ≤ ((ints l).length : Int) := by simp; omega
    simp only [bnds]
    rw [if_pos ⟨by omega, this⟩]
    simp
  have ha : (ints l).all (fun x => x.cells.length == 1) = true := encL_all fun _ => rfl
  simp only [opQ, ha, if_true, hb, Option.map_some]
  have : (ints l).take l.length = ints l := by rw [List.take_of_length_le (by simp)]
  rw [this]
  simp [encL]
theorem l68a (l : List Gl) (root : Int) (i : Nat) (hi : i < l.length) (out : List Int) (ho : out.length ≤ 1000) : ∀ k, k ≤ out.length → loopK (O X) [0, 1, 5, 6, 7] body68_1 [(0, .l (encG l)), (1, .i .i64 root), (5, .ow 3 (ints out)), (6, .i .i64 i), (7, .i .i64 k)] = some (.e 2, [(0, .l (encG l)), (1, .i .i64 root), (5, .ow 3 (ints out)), (6, .i .i64 i), (7, .i .i64 (dn out l[i].id k))])
  | 0, hk => by
    refine loopK_end (by simp) ?_ (by simp)
    simp [body68_1, dn]
  | k + 1, hk => by
    have hk' : k < out.length := by omega
    have hp : (0 : Int) < (k : Int) + 1 := by omega
    have hw : IntKind.i64.wrap (k : Int) = (k : Int) := wrap_i64 _ (by omega)
    have hdn : dn out l[i].id (k + 1) = if l[i].id < out[k] then dn out l[i].id k else k + 1 := by
      show (match out[k]? with | some y => if l[i].id < y then dn out l[i].id k else k + 1 | none => k + 1) = _
      rw [List.getElem?_eq_getElem hk']
    by_cases hx : l[i].id < out[k]
    · rw [if_pos hx] at hdn
      rw [hdn, ← l68a l root i hi out ho k (by omega)]
      refine loopK_go (by simp) (by simp) ?_
      simp [body68_1, hi, hk', hp, hw, hx]
    · rw [if_neg hx] at hdn
      rw [hdn]
      refine loopK_end (by simp) ?_ (by simp)
      simp [body68_1, hi, hk', hp, hw, hx]
theorem l68 (l : List Gl) (root : Int) (h : l.length ≤ 1000) : loopK (O X) [0, 1, 5, 6] body68_2 [(0, .l (encG l)), (1, .i .i64 root), (5, .ow 3 []), (6, .i .i64 0)] = some (.e 0, [(5, .ow 3 (ints (lvsF l root)))]) := by
  have := loopK_run (o := O X) (kin := [0, 1, 5, 6]) (c := body68_2) (fun i => [(0, .l (encG l)), (1, .i .i64 root), (5, .ow 3 (ints ((l.take i).foldl (lf l root) []))), (6, .i .i64 i)]) l.length (.e 0, [(5, .ow 3 (ints (lvsF l root)))]) (by simp) (fun i hi => by
    have hw := wrap_i64 (i + 1) (by omega)
    have h34 := e58 (X := X) l l[i].id h
    have h18 := e79 (X := X) l l[i].id root h
    have hlen := lf_len l root (l.take i) []
    rw [List.length_take] at hlen
    simp only [List.length_nil] at hlen
    have hstep : (l.take (i + 1)).foldl (lf l root) [] = lf l root ((l.take i).foldl (lf l root) []) l[i] := by
      rw [List.take_succ_eq_append_getElem hi, List.foldl_append]; rfl
    rw [hstep]
    generalize (l.take i).foldl (lf l root) [] = out at hlen ⊢
    unfold lf leafB
    cases hp : parentB l l[i].id <;> rw [hp] at h34
    · cases hu : under l l[i].id root <;> rw [hu] at h18
      · simp [body68_2, hi, hw, h34, h18]
      · simp only [Bool.not_false, Bool.and_self, if_true]
        have hl := l68a (X := X) l root i hi out (by omega) out.length (Nat.le_refl _)
        obtain ⟨d1, d2, d3⟩ := dn_spec out l[i].id out.length (Nat.le_refl _)
        have hA : (ints out).length = out.length := by simp
        unfold insK
        simp only
        generalize dn out l[i].id out.length = k at hl d1 d2 d3 ⊢
        have hs1 := slc_i1 (X := X) out k d1
        have hs2 := slc_i2 (X := X) out k d1
        have hT : (ints (out.take k)).length ≤ 1000 := by simp; omega
        have hD : (ints (out.drop k)).length ≤ 1000 := by simp; omega
        have hap1 : (ints (out.take k)).length * 8 ≤ 140737488355328 := by omega
        have hap2 : ((ints (out.take k)).length + 1) * 8 ≤ 140737488355328 := by omega
        have hap3 : ((ints (out.take k)).length + 1 + (ints (out.drop k)).length) * 8 ≤ 140737488355328 := by omega
        have hTc : (∀ y ∈ ints (out.take k), y.cells.length = 1) = True := encL_len fun _ => rfl
        have hDc : (∀ y ∈ ints (out.drop k), y.cells.length = 1) = True := encL_len fun _ => rfl
        have hres : ints (out.take k ++ l[i].id :: out.drop k) = ints (out.take k) ++ .i .i64 l[i].id :: ints (out.drop k) := by simp [encL]
        have hsame : (0 < k ∧ out[k - 1]? = some l[i].id) → kE [0, 1, 5, 6] (exec (O X) body68_2 [(0, .l (encG l)), (1, .i .i64 root), (5, .ow 3 (ints out)), (6, .i .i64 i)]) = some (.n, [(0, .l (encG l)), (1, .i .i64 root), (5, .ow 3 (ints out)), (6, .i .i64 ((i + 1 : Nat) : Int))]) := by
          rintro ⟨h0, h1⟩
          obtain ⟨k', rfl⟩ : ∃ k', k = k' + 1 := ⟨k - 1, by omega⟩
          have hk' : k' < out.length := by omega
          have hp0 : (0 : Int) < (k' : Int) + 1 := by omega
          have hwk : IntKind.i64.wrap (k' : Int) = (k' : Int) := wrap_i64 _ (by omega)
          rw [Nat.add_sub_cancel, List.getElem?_eq_getElem hk'] at h1
          have h1' : out[k'] = l[i].id := Option.some.inj h1
          simp at hl
          simp [body68_2, exec_loopK, hi, hw, h34, h18, hl, hp0, hwk, hk', h1']
        have hdiff : ¬ (0 < k ∧ out[k - 1]? = some l[i].id) → kE [0, 1, 5, 6] (exec (O X) body68_2 [(0, .l (encG l)), (1, .i .i64 root), (5, .ow 3 (ints out)), (6, .i .i64 i)]) = some (.n, [(0, .l (encG l)), (1, .i .i64 root), (5, .ow 3 (ints (out.take k ++ l[i].id :: out.drop k))), (6, .i .i64 ((i + 1 : Nat) : Int))]) := by
          intro hne
          rw [hres]
          cases k with
          | zero =>
            simp only [Int.natCast_zero] at hl hs1 hs2
            generalize ints (out.take 0) = T at *
            generalize ints (out.drop 0) = D at *
            generalize ints out = A at *
            simp [body68_2, exec_loopK, hi, hw, h34, h18, hl, hs1, hs2, hA, hap1, hap2, hap3, hTc, hDc]
          | succ k' =>
            have hk' : k' < out.length := by omega
            have hp0 : (0 : Int) < (k' : Int) + 1 := by omega
            have hwk : IntKind.i64.wrap (k' : Int) = (k' : Int) := wrap_i64 _ (by omega)
            have h1' : ¬ out[k'] = l[i].id := fun e => hne ⟨by omega, by rw [Nat.add_sub_cancel, List.getElem?_eq_getElem hk', e]⟩
            simp only [Int.natCast_add, Int.natCast_one] at hl hs1 hs2
            generalize ints (out.take (k' + 1)) = T at *
            generalize ints (out.drop (k' + 1)) = D at *
            simp [body68_2, exec_loopK, hi, hw, h34, h18, hl, hs1, hs2, hp0, hwk, hk', h1', hap1, hap2, hap3, hTc, hDc]
        by_cases hc : 0 < k ∧ out[k - 1]? = some l[i].id
        · rw [if_pos hc]; exact hsame hc
        · rw [if_neg hc]; exact hdiff hc
    · simp [body68_2, hi, hw, h34]) (by simp [body68_2, lvsF]) (by simp)
  simpa using this
theorem e68 (l : List Gl) (root : Int) (h : l.length ≤ 1000) : O X 68 [.l (encG l), .i .i64 root] = some (.ow 3 (ints (lvsF l root))) := by
  refine orun (fc := code68) rfl rfl rfl ?_
  have hl := l68 (X := X) l root h
  generalize ints (lvsF l root) = D at hl ⊢
  simp [code68, exec_loopK, hl]
end Go.Proofs.YtmhbkofbbkogeaaGreat
