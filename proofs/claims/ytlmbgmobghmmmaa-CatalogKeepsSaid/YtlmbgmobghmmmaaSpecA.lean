/-
  What the functions that the laws reach compute: a version is added, by the program's code and by the document's.
-/
import Derived.Test.YtlmbgmobghmmmaaSpec9
import Derived.Test.YtlmbgmobghmmmaaSpec5
namespace Go.Proofs.Ytlmbgmobghmmmaa
open Go.VM
def resA (r : List Product × Int) : V := .t [.ow 33 (encL Product.v r.1), .i .i64 r.2]
set_option maxHeartbeats 8000000 in
theorem e13 (l : List Product) (p : Product) (h : l.length ≤ 1000) : O 13 [.l (encL Product.v l), p.v] = some (resA (addR l p)) := by
  refine orun (fc := code13) rfl rfl rfl ?_
  have h10 := e10 l h
  unfold addR
  by_cases hc : chk l = 0
  · rw [if_neg (by simp [hc])]
    obtain ⟨hord, hlen, _⟩ := chk_zero hc
    have hs := lb_split hord p
    have h28 := e28 l p _ hs h
    rw [found_dup hord p] at h28
    rw [hc] at h10
    cases hd : (dupS l p).isSome with
    | true =>
      rw [hd] at h28
      rw [if_pos rfl]
      simp [code13, h10, h28, resA]
    | false =>
      rw [hd] at h28
      rw [if_neg (by simp)]
      have h21 := e21 l p.name h
      have hv : (verS l p.name).length ≤ 1000 := by
        have := List.length_filter_le (fun q : Product => decide (q.name = p.name)) l
        unfold verS; omega
      have hl := l13 (encL Product.v l) p (lbP l p) (verS l p.name) hv
      have hoc := oth_cur l p
      generalize verS l p.name = v at h21 hl hoc
      cases hf : (List.range v.length).findSome? (curV p v) with
      | some u =>
        rw [hf] at hl hoc
        rw [← hoc]
        simp [code13, exec_loopK, h10, h28, h21, hl, resA]
      | none =>
        rw [hf] at hl hoc
        rw [← hoc]
        simp only [Option.isSome_none, Bool.false_eq_true, if_false]
        by_cases h64 : 64 ≤ l.length
        · rw [if_pos h64]
          have h64' : (64 : Int) ≤ l.length := by omega
          simp [code13, exec_loopK, h10, h28, h21, hl, resA, h64']
        · rw [if_neg h64]
          have h64' : ¬ (64 : Int) ≤ l.length := by omega
          have h30 := e30 l h
          have hle := hs.1
          generalize lbP l p = lb at h28 hl hle ⊢
          have hins : insRun 33 (encL Product.v l) [.i .i64 lb, .ow 33 [p.v]] = some (encL Product.v (l.take lb ++ p :: l.drop lb)) := by
            show (if (33 : Nat) = 33 ∧ 0 ≤ (lb : Int) ∧ ((lb : Int).toNat ≤ (encL Product.v l).length) ∧ (encL Product.v l).length ≤ 1000000 then _ else none) = _
            rw [if_pos ⟨rfl, by omega, by simp; omega, by simp; omega⟩]
            simp [encL]
          generalize l.take lb ++ p :: l.drop lb = R at hins ⊢
          generalize hRV : encL Product.v R = RV at hins
          generalize hL : encL Product.v l = L at *
          have hLl : (L.length : Int) = l.length := by rw [← hL]; simp
          simp only [code13]
          refine seq_run (by simp; rfl) ?_
          refine seq_run (by simp [h10]; rfl) ?_
          refine seq_run (by simp [h28]; rfl) ?_
          refine seq_run (by simp; rfl) ?_
          refine seq_run (by simp [exec_loopK, h21, hl]; rfl) ?_
          refine seq_run (by simp [hLl, h64']; rfl) ?_
          simp (config := { maxSteps := 1000000 }) [h30, hins, resA, hRV]
  · rw [if_pos hc]
    simp [code13, h10, hc, resA]
/-! ### The document's code -/
theorem l14a (l : List Product) (p : Product) (h : l.length ≤ 1000) : loopK O [0, 3, 6, 7] body14_1 [(0, .l (encL Product.v l)), (3, .bx p.cells), (6, .b false), (7, .i .i64 0)] =
    some (optE (fun (_ : Unit) => (.r, [(4, .ow 33 []), (5, .i .i64 12)])) (.e 0, [(0, .l (encL Product.v l)), (3, .bx p.cells), (6, .b (othS l p))]) (dupS l p)) := by
  have := loopK_code (o := O) (kin := [0, 3, 6, 7]) (c := body14_1) (fun i => [(0, .l (encL Product.v l)), (3, .bx p.cells), (6, .b (othS (l.take i) p)), (7, .i .i64 i)]) l.length (dupB l p) (fun (_ : Unit) => (.r, [(4, .ow 33 []), (5, .i .i64 12)])) (.e 0, [(0, .l (encL Product.v l)), (3, .bx p.cells), (6, .b (othS l p))]) (by simp) (by simp) (fun i hi => by
    have hw := wrap_i64 ((i : Int) + 1) (by omega)
    have ho : dupB l p i = if l[i].name = p.name ∧ l[i].from' = p.from' then some () else none := by simp [dupB, hi]
    have hx : othS (l.take (i + 1)) p = (othS (l.take i) p || othB p l[i]) := by
      unfold othS
      rw [List.take_succ_eq_append_getElem hi, List.any_append]; simp
    rw [ho, hx]
    unfold othB
    generalize othS (l.take i) p = ob
    by_cases h1 : l[i].name = p.name
    · by_cases h2 : l[i].from' = p.from'
      · simp [body14_1, hi, h1, h2]
      · by_cases h3 : l[i].currency = p.currency <;> cases ob <;> simp [body14_1, hi, hw, h1, h2, h3]
    · cases ob <;> simp [body14_1, hi, hw, h1]) (by simp [body14_1]) (by simp)
  exact this
theorem l14b (l : List Product) (p : Product) (lb : Nat) (hs : Split l p lb) (h : l.length ≤ 1000) : loopK O [0, 3, 8, 9] body14_2 [(0, .l (encL Product.v l)), (3, .bx p.cells), (8, .ow 33 []), (9, .i .i64 0)] = some (.e 2, [(0, .l (encL Product.v l)), (3, .bx p.cells), (8, .ow 33 (encL Product.v (l.take lb))), (9, .i .i64 lb)]) := by
  have := loopK_run (o := O) (kin := [0, 3, 8, 9]) (c := body14_2) (fun i => [(0, .l (encL Product.v l)), (3, .bx p.cells), (8, .ow 33 (encL Product.v (l.take i))), (9, .i .i64 i)]) lb (.e 2, [(0, .l (encL Product.v l)), (3, .bx p.cells), (8, .ow 33 (encL Product.v (l.take lb))), (9, .i .i64 lb)]) (by simp) (fun i hi => by
    have hle := hs.1
    have hil : i < l.length := by omega
    have hw := wrap_i64 (i + 1) (by omega)
    have hb := hs.2.1 i hil hi
    have hlt : (l.take i).length = i := by simp; omega
    have hb1 : (i + 1) * 240 ≤ 140737488355328 := by omega
    have ht : l.take (i + 1) = l.take i ++ [l[i]] := List.take_succ_eq_append_getElem hil
    rw [ht]
    generalize l.take i = v at hlt ⊢
    simp [body14_2, hil, hw, hb, hlt, hb1, encL_append, encL_cons]) (by
      by_cases hlb : lb < l.length
      · have hb := hs.2.2 lb hlb (Nat.le_refl _)
        simp [body14_2, hlb, hb]
      · simp [body14_2, hlb]) (by simp)
  exact this
set_option maxHeartbeats 8000000 in
theorem e14 (l : List Product) (p : Product) (h : l.length ≤ 1000) : O 14 [.l (encL Product.v l), p.v] = some (resA (addR l p)) := by
  refine orun (fc := code14) rfl rfl rfl ?_
  have h11 := e11 l h
  have hl := l14a l p h
  unfold addR
  by_cases hc : chk l = 0
  · rw [if_neg (by simp [hc])]
    obtain ⟨hord, hlen, _⟩ := chk_zero hc
    have hs := lb_split hord p
    have hl2 := l14b l p _ hs h
    rw [hc] at h11
    cases hd : dupS l p with
    | some u =>
      rw [hd] at hl
      simp [code14, exec_loopK, h11, hl, resA]
    | none =>
      rw [hd] at hl
      cases ho : othS l p <;> rw [ho] at hl
      · simp only [Option.isSome_none, Bool.false_eq_true, if_false]
        by_cases h64 : 64 ≤ l.length
        · have h64' : (64 : Int) ≤ l.length := by omega
          simp [code14, exec_loopK, h11, hl, resA, h64, h64']
        · have h64' : ¬ (64 : Int) ≤ l.length := by omega
          rw [if_neg h64]
          have hle := hs.1
          generalize lbP l p = lb at hl2 hle ⊢
          have hlt : (l.take lb).length = lb := by simp; omega
          have hsl : opQ O (.slc 19 true false) [.l (encL Product.v l), .i .i64 lb] = some (.l (encL Product.v (l.drop lb))) := by
            show (if (encL Product.v l).all (fun x => x.cells.length == 19) = true then (bnds (encL Product.v l).length true false [.i .i64 lb]).map (fun p => V.l (((encL Product.v l).take p.2).drop p.1)) else none) = _
            rw [if_pos (Product.all_len l)]
            show ((if 0 ≤ (lb : Int) ∧ (lb : Int) ≤ ((encL Product.v l).length : Int) then some ((lb : Int).toNat, (encL Product.v l).length) else none).map fun p => V.l (((encL Product.v l).take p.2).drop p.1)) = _
            rw [if_pos ⟨by omega, by simp; omega⟩]
            simp only [Option.map_some]
            rw [List.take_of_length_le (Nat.le_refl _)]
            simp [encL]
          have hdn : (l.drop lb).length = l.length - lb := by simp
          have hb1 : (lb + 1) * 240 ≤ 140737488355328 := by omega
          have hb2 : (lb + 1 + (l.length - lb)) * 240 ≤ 140737488355328 := by
            have h9 : lb + 1 + (l.length - lb) ≤ 2000 := by omega
            exact Nat.le_trans (Nat.mul_le_mul_right 240 h9) (by decide)
          have hR : encL Product.v (l.take lb ++ p :: l.drop lb) = encL Product.v (l.take lb) ++ [p.v] ++ encL Product.v (l.drop lb) := by
            rw [show l.take lb ++ p :: l.drop lb = l.take lb ++ [p] ++ l.drop lb from by simp, encL_append, encL_append]
            rfl
          simp only [resA, hR]
          generalize l.take lb = A at hl2 hlt ⊢
          generalize l.drop lb = B at hsl hdn ⊢
          simp [code14, exec_loopK, h11, hl, hl2, h64', hlt, hb1, hb2, hsl, hdn]
      · simp [code14, exec_loopK, h11, hl, resA]
  · rw [if_pos hc]
    simp [code14, h11, hc, resA]
end Go.Proofs.Ytlmbgmobghmmmaa
