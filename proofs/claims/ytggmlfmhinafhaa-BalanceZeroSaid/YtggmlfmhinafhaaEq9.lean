/-
  The law on opposite journals.
-/
import Derived.Test.YtggmlfmhinafhaaEq7
namespace Go.Proofs.Ytggmlfmhinafhaa
open Go.VM Go.RowKit
def negL (x : Leg) : Leg := ⟨x.account, IntKind.i64.wrap (-x.amount), x.currency⟩
def opE (e : Entry) : Entry := ⟨0, 0, 0, 0, 0, 0, [], [], e.legs.map negL, 0⟩
/-! ### The plain law -/
theorem all_app (j k : List Entry) : allL (j ++ k) = allL j ++ allL k := by unfold allL; rw [List.flatMap_append]
theorem all_op (j : List Entry) : allL (j.map opE) = (allL j).map negL := by
  unfold allL
  induction j with
  | nil => rfl
  | cons e j ih => rw [List.map_cons, List.flatMap_cons, ih, List.flatMap_cons, List.map_append]; rfl
theorem kS_op (k : LKey) (xs : List Leg) : wrap64 (kS k (xs.map negL)) = wrap64 (- kS k xs) := by
  induction xs with
  | nil => rfl
  | cons x xs ih =>
    have h1 : kS k ((x :: xs).map negL) = (if legKey x = k then IntKind.i64.wrap (-x.amount) else 0) + kS k (xs.map negL) := rfl
    have h2 : kS k (x :: xs) = (if legKey x = k then x.amount else 0) + kS k xs := rfl
    rw [h1, h2, ← wr, ih, wr, iw]
    split
    · rw [wl]; congr 1; omega
    · congr 1; omega
theorem tr_zero (j : List Entry) : trF (j ++ j.map opE) = [] := by
  have h := sums_cl (j ++ j.map opE)
  have hf : (sumsL (j ++ j.map opE)).filter (fun x => x.amount != 0) = [] := by
    rw [List.filter_eq_nil_iff]
    intro y hy
    have := ((h.2 y).1 hy).2
    have h2 : kS (legKey y) (allL j ++ (allL j).map negL) = kS (legKey y) (allL j) + kS (legKey y) ((allL j).map negL) := by unfold kS; exact S_append ..
    rw [all_app, all_op, h2, ← wr, kS_op, wr, Int.add_right_neg, w0] at this
    simp [this]
  unfold trF
  rw [hf]; rfl
theorem op_ok {j : List Entry} (h : fewB j = true) (ho : ∀ e ∈ j, e.ok) : jok (j ++ j.map opE) = true := by
  have h1 := few_jok h ho
  have h2 := few_len h
  unfold jok at *
  simp only [Bool.and_eq_true, decide_eq_true_eq, List.all_eq_true] at *
  refine ⟨by rw [List.length_append, List.length_map]; omega, fun e he => ?_⟩
  rcases List.mem_append.1 he with he | he
  · exact h1.2 e he
  · obtain ⟨f, hf, rfl⟩ := List.mem_map.1 he
    have := h1.2 f hf
    unfold entB opE at *
    simp only [Bool.and_eq_true, decide_eq_true_eq, List.all_eq_true] at *
    refine ⟨by rw [List.length_map]; exact this.1, fun x hx => ?_⟩
    obtain ⟨y, hy, rfl⟩ := List.mem_map.1 hx
    exact this.2 y hy
def sumS (a : Int) (n : Int) (x : Leg) : Int := if x.account = a then IntKind.i64.wrap (n - x.amount) else n
def fS (a : Int) (x : Leg) : Int := if x.account = a then - x.amount else 0
theorem S_perm {α : Type} (f : α → Int) {l k : List α} (h : l.Perm k) : S f l = S f k := by
  induction h with
  | nil => rfl
  | cons x _ ih => simp only [S, ih]
  | swap x y l => simp only [S]; omega
  | trans _ _ h1 h2 => exact h1.trans h2
theorem addL_S (a : Int) (x : Leg) : ∀ s : List Leg, wrap64 (S (fS a) (addL s x)) = wrap64 (S (fS a) s + fS a x)
  | [] => by
    simp only [addL, S, fS]
    split
    · unfold wrap64; omega
    · rfl
  | z :: r => by
    unfold addL
    split
    · rename_i h
      simp only [S, fS, h.1]
      split
      · unfold wrap64; omega
      · congr 1; omega
    · have ih := addL_S a x r
      simp only [S]
      rw [← wr, ih, wr]
      congr 1; omega
theorem sums_S (a : Int) (j : List Entry) : wrap64 (S (fS a) (sumsL j)) = wrap64 (S (fS a) (allL j)) := by
  rw [sumsL_all]
  have key : ∀ (xs s : List Leg), wrap64 (S (fS a) (xs.foldl addL s)) = wrap64 (S (fS a) s + S (fS a) xs) := by
    intro xs
    induction xs with
    | nil => intro s; simp [S]
    | cons x xs ih =>
      intro s
      rw [List.foldl_cons, ih, ← wl, addL_S, wl, S]
      congr 1; omega
  rw [key]; simp [S]
theorem tr_sum (a : Int) (j : List Entry) : (trF j).foldl (sumS a) 0 = ofF a j := by
  rw [fold_eq (fS a) (fun n x => ?_) (fun n x h => ?_), ofF_eq]
  · unfold trF
    rw [S_perm _ (isortL_perm _), S_filter]
    have h1 : S (fun x => if (x.amount != 0) = true then fS a x else 0) (sumsL j) = S (fS a) (sumsL j) := S_congr fun x _ => by
      by_cases h : x.amount = 0
      · simp [h, fS]
      · simp [h]
    rw [h1, sums_S]
    unfold allL
    rw [S_flat]; rfl
  · unfold sumS fS
    split
    · rw [iw, ww]; congr 1
    · rw [Int.add_zero]
  · unfold sumS
    split
    · rw [iw, ww]
    · exact h
theorem tr_asc (j : List Entry) (ho : ∀ e ∈ j, e.ok) : Asc (trF j) := by
  rw [tr_ref j (all_i64 ho), filt_map]
  exact (rtr_cl j (all_i64 ho)).1.filter _
theorem tr_nz (j : List Entry) : ∀ x ∈ trF j, x.amount ≠ 0 := fun x hx => by
  unfold trF at hx
  have := (isortL_perm _).mem_iff.1 hx
  simpa using (List.mem_filter.1 this).2
/-! ### The law -/
theorem l7a (j : List Entry) (hl : ∀ e ∈ j, e.legs.length ≤ 20) (i : Nat) (hi : i < j.length) (A : List Entry) :
    loopK (O XM) [0, 3, 4, 5, 6] body7_1 [(0, .l (ents j)), (3, .ow 41 (ents A)), (4, .i .i64 i), (5, .ow 44 (legs [])), (6, .i .i64 0)] = some (.e 2, [(0, .l (ents j)), (3, .ow 41 (ents A)), (4, .i .i64 i), (5, .ow 44 (legs (j[i].legs.map negL)))]) := by
  have := loopK_run (o := O XM) (kin := [0, 3, 4, 5, 6]) (c := body7_1) (fun k => [(0, .l (ents j)), (3, .ow 41 (ents A)), (4, .i .i64 i), (5, .ow 44 (legs ((j[i].legs.take k).map negL))), (6, .i .i64 k)]) j[i].legs.length (.e 2, [(0, .l (ents j)), (3, .ow 41 (ents A)), (4, .i .i64 i), (5, .ow 44 (legs (j[i].legs.map negL)))]) (by simp) (fun k hk => by
    have h20 := hl _ (List.getElem_mem hi)
    have hw := wrap_i64 (k + 1) (by omega)
    have hL : ((j[i].legs.take k).map negL).length ≤ 20 := by rw [List.length_map, List.length_take]; omega
    rw [List.take_succ_eq_append_getElem hk, List.map_append]
    generalize (j[i].legs.take k).map negL = L at hL ⊢
    have hm : (L.length + 1) * 32 ≤ 140737488355328 := by omega
    simp [body7_1, hi, hk, hw, hm, negL]
    simp [legs, encL]) (by simp [body7_1, hi]) (by simp)
  simpa using this
theorem l7b (j : List Entry) (h50 : j.length ≤ 100) (hl : ∀ e ∈ j, e.legs.length ≤ 20) :
    loopK (O XM) [0, 3, 4] body7_2 [(0, .l (ents j)), (3, .ow 41 (ents j)), (4, .i .i64 0)] = some (.e 0, [(0, .l (ents j)), (3, .ow 41 (ents (j ++ j.map opE)))]) := by
  have := loopK_run (o := O XM) (kin := [0, 3, 4]) (c := body7_2) (fun i => [(0, .l (ents j)), (3, .ow 41 (ents (j ++ (j.take i).map opE))), (4, .i .i64 i)]) j.length (.e 0, [(0, .l (ents j)), (3, .ow 41 (ents (j ++ j.map opE)))]) (by simp) (fun i hi => by
    have hw := wrap_i64 (i + 1) (by omega)
    have hL : (j ++ (j.take i).map opE).length ≤ 200 := by rw [List.length_append, List.length_map, List.length_take]; omega
    rw [List.take_succ_eq_append_getElem hi, List.map_append, ← List.append_assoc]
    generalize j ++ (j.take i).map opE = A at hL ⊢
    have hm : (A.length + 1) * 112 ≤ 140737488355328 := by omega
    have ha := l7a j hl i hi A
    rw [show legs [] = [] from rfl] at ha
    unfold opE
    simp only [List.map_cons, List.map_nil]
    generalize j[i].legs.map negL = N at ha ⊢
    simp [body7_2, exec_loopK, hi, hw, ha, hm]
    simp [ents, encL]) (by simp [body7_2]) (by simp)
  simpa using this
theorem l7c (j : List Entry) (t : List Leg) (ht : t.length ≤ 200000) (i : Nat) (hi : i < t.length) :
    loopK (O XM) [0, 8, 9, 10, 11] body7_3 [(0, .l (ents j)), (8, .ow 44 (legs t)), (9, .i .i64 i), (10, .i .i64 0), (11, .i .i64 0)] = some (.e 6, [(0, .l (ents j)), (8, .ow 44 (legs t)), (9, .i .i64 i), (10, .i .i64 (t.foldl (sumS t[i].account) 0))]) := by
  have := loopK_run (o := O XM) (kin := [0, 8, 9, 10, 11]) (c := body7_3) (fun k => [(0, .l (ents j)), (8, .ow 44 (legs t)), (9, .i .i64 i), (10, .i .i64 ((t.take k).foldl (sumS t[i].account) 0)), (11, .i .i64 k)]) t.length (.e 6, [(0, .l (ents j)), (8, .ow 44 (legs t)), (9, .i .i64 i), (10, .i .i64 (t.foldl (sumS t[i].account) 0))]) (by simp) (fun k hk => by
    have hw := wrap_i64 (k + 1) (by omega)
    rw [ft_succ (sumS t[i].account) 0 t hk]
    generalize (t.take k).foldl (sumS t[i].account) 0 = n
    by_cases h : t[k].account = t[i].account <;> simp [body7_3, hi, hk, hw, h, sumS]) (by simp [body7_3]) (by simp)
  simpa using this
theorem l7d (j : List Entry) (hj : jok j = true) (ho : ∀ e ∈ j, e.ok) (hlen : (trF j).length ≤ 200000) :
    loopK (O XM) [0, 8, 9] body7_4 [(0, .l (ents j)), (8, .ow 44 (legs (trF j))), (9, .i .i64 0)] = some (.e 4, []) := by
  have hasc := tr_asc j ho
  have hnz := tr_nz j
  have hsum := fun a => tr_sum a j
  generalize trF j = t at hlen hasc hnz hsum ⊢
  have := loopK_run (o := O XM) (kin := [0, 8, 9]) (c := body7_4) (fun i => [(0, .l (ents j)), (8, .ow 44 (legs t)), (9, .i .i64 i)]) t.length (.e 4, []) (by simp) (fun i hi => by
    have hw := wrap_i64 (i + 1) (by omega)
    have ha := l7c j t hlen i hi
    have h12 := x12 hj t[i].account
    rw [hsum] at ha
    generalize ofF t[i].account j = n at ha h12
    have h0 := hnz _ (List.getElem_mem hi)
    by_cases hi0 : i = 0
    · subst hi0
      simp only [Int.natCast_zero, Int.zero_add] at ha hw ⊢
      simp [body7_4, exec_loopK, hi, ha, h12, h0]
      exact hw
    · obtain ⟨p, hp⟩ : ∃ p, p + 1 = i := ⟨i - 1, by omega⟩
      have hpl : p < t.length := by omega
      have hlt := List.pairwise_iff_getElem.1 hasc p i hpl hi (by omega)
      rw [lessL_iff] at hlt
      have hw1 : IntKind.i64.wrap ((i : Int) - 1) = (p : Int) := by rw [wrap_i64 _ (by omega)]; omega
      have hA : ¬ t[i].account < t[p].account := by rcases hlt with h | h <;> omega
      by_cases hE : t[i].account = t[p].account
      · have hB : t[p].currency < t[i].currency := by
          rcases hlt with h | h
          · omega
          · exact h.2
        have hB1 : Op.bytesLess t[i].currency t[p].currency = false := by
          rw [bl_eq, decide_eq_false_iff_not]
          exact fun h => List.lt_irrefl _ (List.lt_trans h hB)
        have hB2 : ¬ t[i].currency = t[p].currency := fun e => by rw [e] at hB; exact List.lt_irrefl _ hB
        rw [hE] at h12
        simp [body7_4, exec_loopK, hi, hpl, ha, hw, hw1, h12, h0, hE, hB1, hB2]
      · simp [body7_4, exec_loopK, hi, hpl, ha, hw, hw1, h12, h0, hA, hE]) (by simp [body7_4]) (by simp)
  simpa using this
theorem o7 (j : List Entry) (ho : ∀ e ∈ j, e.ok) : O XM 7 [.l (ents j)] = some (.b true) := by
  have h8 := o8 (X := XM) j
  have hlive := live
  refine orun (fc := code7) rfl rfl rfl ?_
  by_cases h50 : (50 : Int) < (j.length : Int)
  · simp [code7, h50, hlive]
  by_cases h : fewB j = true
  · have hj := few_jok h ho
    have hop := op_ok h ho
    have hlen := few_len h
    have hb := l7b j hlen (few_legs h)
    have ez := x22 hop
    rw [tr_zero] at ez
    have e22 := x22 hj
    have htl := tr_len h ho
    have hd := l7d j hj ho (by omega)
    have hm : j.length * 112 ≤ 140737488355328 := by omega
    generalize j ++ j.map opE = A at hb ez
    generalize trF j = t at e22 hd
    rw [h] at h8
    simp [code7, exec_loopK, h50, h8, hb, ez, e22, hd, hm, hlive]
  · rw [Bool.not_eq_true] at h
    rw [h] at h8
    simp [code7, h50, h8, hlive]
end Go.Proofs.Ytggmlfmhinafhaa
