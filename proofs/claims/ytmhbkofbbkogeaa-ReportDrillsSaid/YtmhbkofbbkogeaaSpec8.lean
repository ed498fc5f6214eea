/-
  What the functions that the laws reach compute: the reference's report.
-/
import Derived.Test.YtmhbkofbbkogeaaSpec5
namespace Go.Proofs.Ytmhbkofbbkogeaa
open Go.VM
variable {X : Orc}
/-- The cell of a row and a currency. -/
def cellOf (b : Books) (r : Row) (bk : Int) (x : Currency) : Cell := ⟨r.name, x.code, sumN b r x.code bk⟩
def cellBad (b : Books) (r : Row) (bk : Int) (k : Nat) : Option Unit := match b.currencies[k]? with
  | some x => if cellE (sumN b r x.code bk) = 0 then none else some ()
  | none => none
def rowBad (b : Books) (l : List Row) (bk : Int) (i : Nat) : Option Unit := match l[i]? with
  | some r => (List.range b.currencies.length).findSome? (cellBad b r bk)
  | none => none
def rowCells (b : Books) (bk : Int) (r : Row) : List Cell := b.currencies.map (cellOf b r bk)
def cellsOfL (b : Books) (l : List Row) (bk : Int) : List Cell := l.flatMap (rowCells b bk)
def makeV (b : Books) (l : List Row) (bk : Int) : V :=
  if chk b l = 0 then (match (List.range l.length).findSome? (rowBad b l bk) with
    | none => .t [.ow 58 (encX (cellsOfL b l bk)), .i .i64 0]
    | some _ => .t [.ow 58 [], .i .i64 6]) else .t [.ow 58 [], .i .i64 (chk b l)]
theorem cellE_val (n : Int) : cellE n = 0 ∨ cellE n = 6 := by unfold cellE; split <;> simp
theorem cellN_ok {n : Int} (h : cellE n = 0) : cellN n = n := by
  unfold cellE at h; unfold cellN
  split at h
  · cases h
  · rw [if_neg ‹_›]
theorem encX_snoc (l : List Cell) (x : Cell) : encX l ++ [x.v] = encX (l ++ [x]) := by simp [encL]
theorem rowCells_len (b : Books) (bk : Int) (r : Row) : (rowCells b bk r).length = b.currencies.length := by simp [rowCells]
theorem cellsOfL_len (b : Books) (bk : Int) : ∀ l : List Row, (cellsOfL b l bk).length = l.length * b.currencies.length
  | [] => by simp [cellsOfL]
  | r :: l => by
    have := cellsOfL_len b bk l
    simp only [cellsOfL, List.flatMap_cons, List.length_append, rowCells_len, List.length_cons] at this ⊢
    rw [this, Nat.add_mul, Nat.one_mul, Nat.add_comm]
set_option maxHeartbeats 8000000 in
theorem l15i (b : Books) (l : List Row) (bk : Int) (i : Nat) (hi : i < l.length) (h : Fine b) (hl : Rows l) (_hll : l.length ≤ 64) (acc : List Cell) (hacc : acc.length ≤ 64000) : loopK (O X) [1, 2, 3, 9, 10, 11] body15_1 [(1, .l (encR l)), (2, .i .i64 bk), (3, .bx b.cells), (9, .ow 58 (encX acc)), (10, .i .i64 i), (11, .i .i64 0)] =
    some (optE (fun (_ : Unit) => (.r, [(6, .ow 58 []), (7, .i .i64 6)])) (.e 2, [(1, .l (encR l)), (2, .i .i64 bk), (3, .bx b.cells), (9, .ow 58 (encX (acc ++ rowCells b bk l[i]))), (10, .i .i64 i)]) ((List.range b.currencies.length).findSome? (cellBad b l[i] bk))) := by
  have hcl := h.curs
  have := loopK_code (o := O X) (kin := [1, 2, 3, 9, 10, 11]) (c := body15_1) (fun k => [(1, .l (encR l)), (2, .i .i64 bk), (3, .bx b.cells), (9, .ow 58 (encX (acc ++ (b.currencies.take k).map (cellOf b l[i] bk)))), (10, .i .i64 i), (11, .i .i64 k)]) b.currencies.length (cellBad b l[i] bk) (fun (_ : Unit) => (.r, [(6, .ow 58 []), (7, .i .i64 6)])) (.e 2, [(1, .l (encR l)), (2, .i .i64 bk), (3, .bx b.cells), (9, .ow 58 (encX (acc ++ rowCells b bk l[i]))), (10, .i .i64 i)]) (by simp) (by simp) (fun k hk => by
    have hw := wrap_i64 (k + 1) (by omega)
    have hm : l[i] ∈ l := List.getElem_mem hi
    have h37 := e37 (X := X) b l[i] b.currencies[k].code bk h (hl.roots _ hm)
    have hlen : (acc ++ (b.currencies.take k).map (cellOf b l[i] bk)).length ≤ 65000 := by
      rw [List.length_append, List.length_map, List.length_take]; omega
    have hts : (b.currencies.take (k + 1)).map (cellOf b l[i] bk) = (b.currencies.take k).map (cellOf b l[i] bk) ++ [cellOf b l[i] bk b.currencies[k]] := by
      rw [List.take_succ_eq_append_getElem hk, List.map_append]; rfl
    rw [hts, ← List.append_assoc, ← encX_snoc]
    generalize acc ++ (b.currencies.take k).map (cellOf b l[i] bk) = ac at hlen ⊢
    have hap : (ac.length + 1) * 40 ≤ 140737488355328 := by omega
    unfold cellOf
    have hcb : cellBad b l[i] bk k = if cellE (sumN b l[i] b.currencies[k].code bk) = 0 then none else some () := by simp [cellBad, hk]
    rw [hcb]
    generalize sumN b l[i] b.currencies[k].code bk = n at h37 ⊢
    by_cases h0 : cellE n = 0
    · rw [h0, cellN_ok h0] at h37
      rw [if_pos h0]
      simp (config := { maxSteps := 1000000 }) [body15_1, hi, hk, hw, h37, hap]
    · have h6 : cellE n = 6 := (cellE_val n).resolve_left h0
      rw [h6] at h37
      rw [if_neg h0]
      simp (config := { maxSteps := 1000000 }) [body15_1, hi, hk, h37]) (by simp [body15_1, rowCells]) (by simp)
  simpa using this
theorem l15 (b : Books) (l : List Row) (bk : Int) (h : Fine b) (hl : Rows l) (hll : l.length ≤ 64) : loopK (O X) [1, 2, 3, 9, 10] body15_2 [(1, .l (encR l)), (2, .i .i64 bk), (3, .bx b.cells), (9, .ow 58 []), (10, .i .i64 0)] =
    some (optE (fun (_ : Unit) => (.r, [(6, .ow 58 []), (7, .i .i64 6)])) (.e 0, [(9, .ow 58 (encX (cellsOfL b l bk)))]) ((List.range l.length).findSome? (rowBad b l bk))) := by
  have hcl := h.curs
  have := loopK_code (o := O X) (kin := [1, 2, 3, 9, 10]) (c := body15_2) (fun i => [(1, .l (encR l)), (2, .i .i64 bk), (3, .bx b.cells), (9, .ow 58 (encX (cellsOfL b (l.take i) bk))), (10, .i .i64 i)]) l.length (rowBad b l bk) (fun (_ : Unit) => (.r, [(6, .ow 58 []), (7, .i .i64 6)])) (.e 0, [(9, .ow 58 (encX (cellsOfL b l bk)))]) (by simp) (by simp) (fun i hi => by
    have hw := wrap_i64 (i + 1) (by omega)
    have hlen := cellsOfL_len b bk (l.take i)
    have hmul : (l.take i).length * b.currencies.length ≤ 64 * 1000 := Nat.mul_le_mul (by rw [List.length_take]; omega) hcl
    have h1 := l15i (X := X) b l bk i hi h hl hll (cellsOfL b (l.take i) bk) (by omega)
    have hts : cellsOfL b (l.take (i + 1)) bk = cellsOfL b (l.take i) bk ++ rowCells b bk l[i] := by
      unfold cellsOfL
      rw [List.take_succ_eq_append_getElem hi, List.flatMap_append]; simp
    rw [hts]
    have hrb : rowBad b l bk i = (List.range b.currencies.length).findSome? (cellBad b l[i] bk) := by simp [rowBad, hi]
    rw [hrb]
    cases hq : (List.range b.currencies.length).findSome? (cellBad b l[i] bk) <;> rw [hq] at h1 <;> simp at h1 <;> simp [body15_2, exec_loopK, hi, hw, h1]) (by simp [body15_2]) (by simp)
  simpa [cellsOfL] using this
theorem e15 (b : Books) (l : List Row) (bk : Int) (h : Fine b) (hl : Rows l) (hll : l.length ≤ maxLen) : O X 15 [b.v, .l (encR l), .i .i64 bk] = some (makeV b l bk) := by
  refine orun (fc := code15) rfl rfl rfl ?_
  have h9 := e10 (X := X) b l h.chart hl hll
  unfold makeV
  by_cases h0 : chk b l = 0
  · rw [h0] at h9
    rw [if_pos h0]
    have h1 := l15 (X := X) b l bk h hl (chk_rows h0).2
    cases hq : (List.range l.length).findSome? (rowBad b l bk) <;> rw [hq] at h1 <;> simp at h1 <;> simp [code15, exec_loopK, h9, h1]
  · rw [if_neg h0]
    generalize chk b l = e at h9 h0
    simp [code15, h9, h0]
end Go.Proofs.Ytmhbkofbbkogeaa
