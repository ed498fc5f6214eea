/-
  The program's report gives the cells that the document defines, whatever order the maps' entries come in.
-/
import Derived.Test.YtdlpbedneamebaaGreatDoorSpec8
namespace Go.Proofs.YtdlpbedneamebaaGreatDoor
open Go.VM
variable {X : Orc}
abbrev kJ : List Nat := [2, 3, 9, 11, 12, 26, 27, 28, 34, 35, 36]
abbrev kO : List Nat := [2, 3, 9, 26, 27, 28]
abbrev bodyJ : N := .seq (.c n6_10) (.seq (.c n6_11) (.seq (.blk 3 (.seq (.c n6_12) (.seq (.c n6_13) (.rng n6_15 (.c n6_14))))) (.c n6_16)))
abbrev bodyO : N := .seq (.c n6_5) (.seq (.c n6_6) (.seq (.blk 1 (.seq (.c n6_7) (.seq (.c n6_8) (.seq (.seq (.c n6_9) (.blk 2 (.loop kJ bodyJ))) (.c n6_17))))) (.c n6_18)))
section
variable (b : Books) (l : List Row) (bk : Int)
/-! ### A round over the journal -/
abbrev EJ1 (acc : List Cell) (i : Nat) (r : Row) (S : Am) (k : Nat) (t : Bool) : Env := [(2, .i .i64 bk), (3, .bx b.cells), (9, .ow 47 (encX acc)), (11, .bx r.cells), (12, .mp (kA S) (vA S)), (26, .l (encR l)), (27, .i .i64 l.length), (28, .i .i64 i), (34, .l (encE b.journal)), (35, .i .i64 b.journal.length), (36, .i .i64 k), (37, .b t)]
abbrev EJ2 (acc : List Cell) (i : Nat) (r : Row) (S : Am) (k : Nat) (e : Entry) : Env := [(2, .i .i64 bk), (3, .bx b.cells), (9, .ow 47 (encX acc)), (11, .bx r.cells), (12, .mp (kA S) (vA S)), (14, .bx e.cells), (26, .l (encR l)), (27, .i .i64 l.length), (28, .i .i64 i), (34, .l (encE b.journal)), (35, .i .i64 b.journal.length), (36, .i .i64 k), (37, .b true)]
abbrev EJ3 (acc : List Cell) (i : Nat) (r : Row) (S : Am) (k : Nat) (e : Entry) : Env := [(2, .i .i64 bk), (3, .bx b.cells), (9, .ow 47 (encX acc)), (11, .bx r.cells), (12, .mp (kA S) (vA S)), (14, .bx e.cells), (26, .l (encR l)), (27, .i .i64 l.length), (28, .i .i64 i), (34, .l (encE b.journal)), (35, .i .i64 b.journal.length), (36, .i .i64 k), (37, .b true), (43, .b false)]
variable (acc : List Cell) (i : Nat) (r : Row) (S : Am) (k : Nat)
theorem x10 (h : k < b.journal.length) : exec (O X) n6_10 (EJ b l bk acc i r S k) = some (.n, EJ1 b l bk acc i r S k true) := by
  have h' : (k : Int) < (b.journal.length : Int) := by omega
  simp [n6_10, h]
theorem x10e : exec (O X) n6_10 (EJ b l bk acc i r S b.journal.length) = some (.n, EJ1 b l bk acc i r S b.journal.length false) := by simp [n6_10]
theorem x11 : exec (O X) n6_11 (EJ1 b l bk acc i r S k true) = some (.n, EJ1 b l bk acc i r S k true) := by simp [n6_11]
theorem x11e : exec (O X) n6_11 (EJ1 b l bk acc i r S k false) = some (.e 2, EP b l bk acc i r S) := by simp [n6_11]
theorem x12 (h : k < b.journal.length) : exec (O X) n6_12 (EJ1 b l bk acc i r S k true) = some (.n, EJ2 b l bk acc i r S k b.journal[k]) := by simp [n6_12, h]
theorem x13a (e : Entry) (h : bk < e.booked) : exec (O X) n6_13 (EJ2 b l bk acc i r S k e) = some (.e 3, EJ b l bk acc i r S k) := by simp [n6_13, h]
theorem x13b (e : Entry) (h : ¬ bk < e.booked) : exec (O X) n6_13 (EJ2 b l bk acc i r S k e) = some (.n, EJ3 b l bk acc i r S k e) := by simp [n6_13, h]
theorem x16a (h : k ≤ 1000) : exec (O X) n6_16 (EJ b l bk acc i r S k) = some (.n, EJ b l bk acc i r S (k + 1)) := by
  have hw := wrap_i64 (k + 1) (by omega)
  simp [n6_16, hw]
theorem x16b (h : k ≤ 1000) (e : Entry) (o : Option (List UInt8 × Int)) : ∃ env, exec (O X) n6_16 (EQ b l bk acc i r S k e o) = some (.n, env) ∧ keepE kJ env = EJ b l bk acc i r S (k + 1) := by
  have hw := wrap_i64 (k + 1) (by omega)
  cases o with
  | none => exact ⟨[(2, .i .i64 bk), (3, .bx b.cells), (9, .ow 47 (encX acc)), (11, .bx r.cells), (12, .mp (kA S) (vA S)), (14, .bx e.cells), (26, .l (encR l)), (27, .i .i64 l.length), (28, .i .i64 i), (34, .l (encE b.journal)), (35, .i .i64 b.journal.length), (36, .i .i64 (k + 1)), (37, .b true), (43, .b false)], by simp [EQ, n6_16, hw], by simp⟩
  | some p => exact ⟨[(2, .i .i64 bk), (3, .bx b.cells), (9, .ow 47 (encX acc)), (11, .bx r.cells), (12, .mp (kA S) (vA S)), (15, .s p.1), (16, .i .i64 p.2), (26, .l (encR l)), (27, .i .i64 l.length), (28, .i .i64 i), (34, .l (encE b.journal)), (35, .i .i64 b.journal.length), (36, .i .i64 (k + 1))], by simp [EQ, n6_16, hw], by simp⟩
theorem kA_cell (m : Am) : (kA m).all V.cell = true := by
  rw [List.all_eq_true]; intro x hx; obtain ⟨y, _, rfl⟩ := List.mem_map.1 hx; rfl
theorem vA_cell (m : Am) : (vA m).all V.cell = true := by
  rw [List.all_eq_true]; intro x hx; obtain ⟨y, _, rfl⟩ := List.mem_map.1 hx; rfl
theorem zipA (m : Am) : (kA m).zip (vA m) = m.map pv := by
  induction m with
  | nil => rfl
  | cons p m ih => simp only [kA, vA, List.map_cons, List.zip_cons_cons] at ih ⊢; rw [ih]
theorem g14 (h : Fine b) (hr : r.roots.length ≤ 1000) (e : Entry) (he : e.legs.length ≤ 1000) (G : List UInt8 → Int) (hG : ∀ c, w (G c) = G c) (hS : ∀ c, getA c S = G c) (K : Ex → Env → Prop)
    (hK : ∀ S' o, (∀ c, getA c S' = w (G c + getA c (amountsA b r e))) → K .n (EQ b l bk acc i r S' k e o)) : WP (O X) (.rng n6_15 (.c n6_14)) (EJ3 b l bk acc i r S k e) K := by
  have h35 := e19 (X := X) b r e h hr he
  refine WP_mono (.rng n6_15 (.c n6_14)) _ (fun ex env => ex = .n ∧ ∃ S' o', (∀ c, getA c S' = w (G c + getA c (amountsA b r e))) ∧ env = EQ b l bk acc i r S' k e o') _ (fun ex env hx => ?_) ?_
  · obtain ⟨rfl, S', o', h1, rfl⟩ := hx
    exact hK S' o' h1
  · have hnd := amounts_nodup b r e
    generalize amountsA b r e = am at h35 hnd ⊢
    have hr14 := fun bb => r14 (X := X) b l bk acc i r k e G am bb am.length am S none rfl (Half.start hnd hG hS)
    have hz := zipA am
    have hc1 := kA_cell am
    have hc2 := vA_cell am
    have hlen : (kA am).length = am.length := by simp [kA]
    rw [← hz, ← hlen] at hr14
    generalize kA am = K1 at h35 hr14 hc1
    generalize vA am = W1 at h35 hr14 hc2
    refine ⟨[(2, .i .i64 bk), (3, .bx b.cells), (9, .ow 47 (encX acc)), (11, .bx r.cells), (12, .mp (kA S) (vA S)), (14, .bx e.cells), (26, .l (encR l)), (27, .i .i64 l.length), (28, .i .i64 i), (34, .l (encE b.journal)), (35, .i .i64 b.journal.length), (36, .i .i64 k), (37, .b true), (43, .b false), (44, b.v), (45, r.v), (46, e.v), (47, .mp K1 W1)], ?_, 47, K1, W1, rfl, hc1, hc2, fun bb => ?_⟩
    · simp [n6_15, h35]
    · have := hr14 bb
      unfold ER at this
      exact this
theorem j14 (h : Fine b) (hr : r.roots.length ≤ 1000) (hs : r.sign = 1 ∨ r.sign = -1) (K : Ex → Env → Prop) (hK : ∀ S, (∀ c, getA c S = sumN b r c bk) → K .n (EP b l bk acc i r S)) (env : Env) (henv : keepE kJ env = EJ b l bk acc i r [] 0) : WP (O X) (.blk 2 (.loop kJ bodyJ)) env K := by
  have hj := h.jour
  refine WP.loop' (fun n env => ∃ k S, n + k = b.journal.length ∧ (∀ c, getA c S = (b.journal.take k).foldl (jN b r c bk) 0) ∧ keepE kJ env = EJ b l bk acc i r S k) (fun n env hI => ?_) (n := b.journal.length) ⟨0, [], rfl, fun c => by simp [getA, getO], henv⟩
  obtain ⟨k, S, hn, hS, hk⟩ := hI
  rw [hk]
  by_cases hlt : k < b.journal.length
  · refine ⟨.n, _, x10 b l bk acc i r S k hlt, .n, _, x11 b l bk acc i r S k, .n, _, x12 b l bk acc i r S k hlt, ?_⟩
    have hstep : ∀ c, (b.journal.take (k + 1)).foldl (jN b r c bk) 0 = jN b r c bk ((b.journal.take k).foldl (jN b r c bk) 0) b.journal[k] := fun c => fold_take _ _ _ hlt
    by_cases hb : bk < b.journal[k].booked
    · refine ⟨.e 3, _, x13a b l bk acc i r S k _ hb, ?_⟩
      refine ⟨.n, _, x16a b l bk acc i r S k (by omega), n - 1, by omega, k + 1, S, by omega, fun c => ?_, by simp⟩
      rw [hstep, hS, jN, if_pos hb]
    · refine ⟨.n, _, x13b b l bk acc i r S k _ hb, ?_⟩
      refine g14 b l bk acc i r S k h hr _ (h.legs _ (List.getElem_mem hlt)) (fun c => (b.journal.take k).foldl (jN b r c bk) 0) (fun c => ?_) hS _ (fun S' o hS' => ?_)
      · have hrng : ∀ (L : List Entry) (n : Int), w n = n → w (L.foldl (jN b r c bk) n) = L.foldl (jN b r c bk) n := by
          intro L
          induction L with
          | nil => intro n h; exact h
          | cons e L ih =>
            intro n h
            rw [List.foldl_cons]
            refine ih _ ?_
            unfold jN
            split
            · exact h
            · have := w_rng (n + amountN b r c e)
              exact wrap_i64 _ this
        exact hrng _ 0 (by simp [w, IntKind.wrap_i64])
      · obtain ⟨env1, h1, h2⟩ := x16b (X := X) b l bk acc i r S' k (by omega) b.journal[k] o
        refine ⟨.n, env1, h1, n - 1, by omega, k + 1, S', by omega, fun c => ?_, h2⟩
        rw [hstep, hS', jN, if_neg hb, am_eq b r c _ hs]
  · have hkl : k = b.journal.length := by omega
    subst hkl
    refine ⟨.n, _, x10e b l bk acc i r S, .e 2, _, x11e b l bk acc i r S b.journal.length, hK S fun c => ?_⟩
    rw [hS, List.take_length]; rfl
/-! ### The currencies -/
set_option maxHeartbeats 8000000 in
theorem l6 (h : Fine b) (hS : ∀ c, getA c S = sumN b r c bk) (hacc : acc.length ≤ 64000) : loopK (O X) [2, 3, 9, 11, 12, 26, 27, 28, 61, 62, 63] body7_1 [(2, .i .i64 bk), (3, .bx b.cells), (9, .ow 47 (encX acc)), (11, .bx r.cells), (12, .mp (kA S) (vA S)), (26, .l (encR l)), (27, .i .i64 l.length), (28, .i .i64 i), (61, .l (encC b.currencies)), (62, .i .i64 b.currencies.length), (63, .i .i64 0)] =
    some (optE (fun (_ : Unit) => (.r, [(6, .ow 47 []), (7, .i .i64 6)])) (.e 6, EO b l bk (acc ++ rowCells b bk r) i) ((List.range b.currencies.length).findSome? (cellBad b r bk))) := by
  have hcl := h.curs
  have := loopK_code (o := O X) (kin := [2, 3, 9, 11, 12, 26, 27, 28, 61, 62, 63]) (c := body7_1) (fun q => [(2, .i .i64 bk), (3, .bx b.cells), (9, .ow 47 (encX (acc ++ (b.currencies.take q).map (cellOf b r bk)))), (11, .bx r.cells), (12, .mp (kA S) (vA S)), (26, .l (encR l)), (27, .i .i64 l.length), (28, .i .i64 i), (61, .l (encC b.currencies)), (62, .i .i64 b.currencies.length), (63, .i .i64 q)]) b.currencies.length (cellBad b r bk) (fun (_ : Unit) => (.r, [(6, .ow 47 []), (7, .i .i64 6)])) (.e 6, EO b l bk (acc ++ rowCells b bk r) i) (by simp) (by simp) (fun q hq => by
    have hw := wrap_i64 (q + 1) (by omega)
    have hlen : (acc ++ (b.currencies.take q).map (cellOf b r bk)).length ≤ 65000 := by
      rw [List.length_append, List.length_map, List.length_take]; omega
    have hts : (b.currencies.take (q + 1)).map (cellOf b r bk) = (b.currencies.take q).map (cellOf b r bk) ++ [cellOf b r bk b.currencies[q]] := by
      rw [List.take_succ_eq_append_getElem hq, List.map_append]; rfl
    rw [hts, ← List.append_assoc, ← encX_snoc]
    generalize acc ++ (b.currencies.take q).map (cellOf b r bk) = ac at hlen ⊢
    have hap : (ac.length + 1) * 40 ≤ 140737488355328 := by omega
    unfold cellOf
    have hcb : cellBad b r bk q = if cellE (sumN b r b.currencies[q].code bk) = 0 then none else some () := by simp [cellBad, hq]
    rw [hcb]
    have hg := get_A b.currencies[q].code S
    rw [hS] at hg
    have ha := kA_all S
    have h5 : keyB 1 (.s b.currencies[q].code) = true := rfl
    have h36 := e20 (X := X) (sumN b r b.currencies[q].code bk)
    generalize sumN b r b.currencies[q].code bk = n at hg h36 ⊢
    generalize kA S = K1 at hg ha ⊢
    generalize vA S = W1 at hg ⊢
    have ha' : (∀ x, x ∈ K1 → keyB 1 x = true) = True := eq_true fun x hx => List.all_eq_true.1 ha x hx
    by_cases h0 : cellE n = 0
    · rw [h0] at h36
      rw [if_pos h0]
      simp [body7_1, hq, hw, hg, h5, ha', h36, hap]
    · simp only [h0, decide_false] at h36
      rw [if_neg h0]
      simp [body7_1, hq, hg, h5, ha', h36]) (by simp [body7_1, rowCells]) (by simp)
  simpa using this
theorem x17a (h : Fine b) (hS : ∀ c, getA c S = sumN b r c bk) (hacc : acc.length ≤ 64000) (hq : (List.range b.currencies.length).findSome? (cellBad b r bk) = none) : exec (O X) n6_17 (EP b l bk acc i r S) = some (.n, EO b l bk (acc ++ rowCells b bk r) i) := by
  have hl := l6 (X := X) b l bk acc i r S h hS hacc
  rw [hq] at hl
  simp only [optE_none] at hl
  generalize acc ++ rowCells b bk r = ac at hl ⊢
  simp [n6_17, exec_loopK, hl]
theorem x17b (h : Fine b) (hS : ∀ c, getA c S = sumN b r c bk) (hacc : acc.length ≤ 64000) {u : Unit} (hq : (List.range b.currencies.length).findSome? (cellBad b r bk) = some u) : exec (O X) n6_17 (EP b l bk acc i r S) = some (.r, [(6, .ow 47 []), (7, .i .i64 6)]) := by
  have hl := l6 (X := X) b l bk acc i r S h hS hacc
  rw [hq] at hl
  simp only [optE_some] at hl
  simp [n6_17, exec_loopK, hl]
/-! ### The rows -/
theorem x5 (h : i < l.length) : exec (O X) n6_5 (EO b l bk acc i) = some (.n, EO b l bk acc i ++ [(29, .b true)]) := by simp [n6_5, h]
theorem x5e : exec (O X) n6_5 (EO b l bk acc l.length) = some (.n, EO b l bk acc l.length ++ [(29, .b false)]) := by simp [n6_5]
theorem x6 : exec (O X) n6_6 (EO b l bk acc i ++ [(29, .b true)]) = some (.n, EO b l bk acc i ++ [(29, .b true)]) := by simp [n6_6]
theorem x6e : exec (O X) n6_6 (EO b l bk acc i ++ [(29, .b false)]) = some (.e 0, [(9, .ow 47 (encX acc))]) := by simp [n6_6]
theorem x7 (h : i < l.length) : exec (O X) n6_7 (EO b l bk acc i ++ [(29, .b true)]) = some (.n, [(2, .i .i64 bk), (3, .bx b.cells), (9, .ow 47 (encX acc)), (11, .bx l[i].cells), (26, .l (encR l)), (27, .i .i64 l.length), (28, .i .i64 i), (29, .b true)]) := by simp [n6_7, h]
theorem x8 : exec (O X) n6_8 [(2, .i .i64 bk), (3, .bx b.cells), (9, .ow 47 (encX acc)), (11, .bx r.cells), (26, .l (encR l)), (27, .i .i64 l.length), (28, .i .i64 i), (29, .b true)] = some (.n, [(2, .i .i64 bk), (3, .bx b.cells), (9, .ow 47 (encX acc)), (11, .bx r.cells), (12, .mp [] []), (26, .l (encR l)), (27, .i .i64 l.length), (28, .i .i64 i), (29, .b true)]) := by simp [n6_8]
theorem x9 : ∃ env, exec (O X) n6_9 [(2, .i .i64 bk), (3, .bx b.cells), (9, .ow 47 (encX acc)), (11, .bx r.cells), (12, .mp [] []), (26, .l (encR l)), (27, .i .i64 l.length), (28, .i .i64 i), (29, .b true)] = some (.n, env) ∧ keepE kJ env = EJ b l bk acc i r [] 0 := by
  refine ⟨[(2, .i .i64 bk), (3, .bx b.cells), (9, .ow 47 (encX acc)), (11, .bx r.cells), (12, .mp [] []), (26, .l (encR l)), (27, .i .i64 l.length), (28, .i .i64 i), (29, .b true), (34, .l (encE b.journal)), (35, .i .i64 b.journal.length), (36, .i .i64 0)], by simp [n6_9], by simp [kA, vA]⟩
theorem x18 (h : i ≤ 1000) : exec (O X) n6_18 (EO b l bk acc i) = some (.n, EO b l bk acc (i + 1)) := by
  have hw := wrap_i64 (i + 1) (by omega)
  simp [n6_18, hw]
end
theorem o6 (b : Books) (l : List Row) (bk : Int) (h : Fine b) (hl : Rows l) (hc : chk b l = 0) (K : Ex → Env → Prop)
    (h1 : (List.range l.length).findSome? (rowBad b l bk) = none → K .n [(9, .ow 47 (encX (cellsOfL b l bk)))])
    (h2 : ∀ u, (List.range l.length).findSome? (rowBad b l bk) = some u → K .r [(6, .ow 47 []), (7, .i .i64 6)]) (env : Env) (henv : keepE kO env = EO b l bk [] 0) : WP (O X) (.blk 0 (.loop kO bodyO)) env K := by
  have hll := chk_rows hc
  have hcl := h.curs
  refine WP.loop' (fun n env => ∃ i, n + i = l.length ∧ (∀ j, j < i → rowBad b l bk j = none) ∧ keepE kO env = EO b l bk (cellsOfL b (l.take i) bk) i) (fun n env hI => ?_) (n := l.length) ⟨0, rfl, fun j hj => absurd hj (by omega), henv⟩
  obtain ⟨i, hn, hbad, hk⟩ := hI
  rw [hk]
  by_cases hlt : i < l.length
  · have hm : l[i] ∈ l := List.getElem_mem hlt
    have hlen := cellsOfL_len b bk (l.take i)
    have hmul : (l.take i).length * b.currencies.length ≤ 64 * 1000 := Nat.mul_le_mul (by rw [List.length_take]; omega) hcl
    obtain ⟨env9, h9, h9k⟩ := x9 (X := X) b l bk (cellsOfL b (l.take i) bk) i l[i]
    refine ⟨.n, _, x5 b l bk _ i hlt, .n, _, x6 b l bk _ i, .n, _, x7 b l bk _ i hlt, .n, _, x8 b l bk _ i l[i], .n, env9, h9, ?_⟩
    refine j14 b l bk _ i l[i] h (hl.roots _ hm) (chk_sign hc _ hm) _ (fun S hS => ?_) env9 h9k
    have hrb : rowBad b l bk i = (List.range b.currencies.length).findSome? (cellBad b l[i] bk) := by simp [rowBad, hlt]
    cases hq : (List.range b.currencies.length).findSome? (cellBad b l[i] bk) with
    | none =>
      refine ⟨.n, _, x17a b l bk _ i l[i] S h hS (by omega) hq, .n, _, x18 b l bk _ i (by omega), n - 1, by omega, i + 1, by omega, fun j hj => ?_, ?_⟩
      · rcases Nat.lt_or_ge j i with hji | hji
        · exact hbad j hji
        · have : j = i := by omega
          subst this; rw [hrb, hq]
      · have hts : cellsOfL b (l.take (i + 1)) bk = cellsOfL b (l.take i) bk ++ rowCells b bk l[i] := by
          unfold cellsOfL
          rw [List.take_succ_eq_append_getElem hlt, List.flatMap_append]; simp
        rw [hts]; simp
    | some u =>
      refine ⟨.r, _, x17b b l bk _ i l[i] S h hS (by omega) hq, ?_⟩
      have hex : ∃ u, (List.range l.length).findSome? (rowBad b l bk) = some u := by
        cases hz : (List.range l.length).findSome? (rowBad b l bk) with
        | some u => exact ⟨u, rfl⟩
        | none =>
          have := range_find_none.1 hz i hlt
          rw [hrb, hq] at this; cases this
      obtain ⟨u', hu'⟩ := hex
      exact h2 u' hu'
  · have hil : i = l.length := by omega
    subst hil
    refine ⟨.n, _, x5e b l bk _, .e 0, _, x6e b l bk _ l.length, ?_⟩
    rw [List.take_length]
    exact h1 (range_find_none.2 hbad)
/-! ### All of it -/
theorem x1 (b : Books) (l : List Row) (bk : Int) : exec (O X) n6_1 [(0, b.v), (1, .l (encR l)), (2, .i .i64 bk)] = some (.n, [(0, b.v), (1, .l (encR l)), (2, .i .i64 bk), (3, .bx b.cells), (6, .ow 47 []), (7, .i .i64 0)]) := by simp [n6_1]
theorem x2 (b : Books) (l : List Row) (bk : Int) (h9 : O X 18 [b.v, .l (encR l)] = some (.i .i64 0)) : exec (O X) n6_2 [(0, b.v), (1, .l (encR l)), (2, .i .i64 bk), (3, .bx b.cells), (6, .ow 47 []), (7, .i .i64 0)] = some (.n, [(0, b.v), (1, .l (encR l)), (2, .i .i64 bk), (3, .bx b.cells), (6, .ow 47 []), (7, .i .i64 0), (8, .i .i64 0), (24, .b false)]) := by simp [n6_2, h9]
theorem x2e (b : Books) (l : List Row) (bk : Int) {e : Int} (h0 : e ≠ 0) (h9 : O X 18 [b.v, .l (encR l)] = some (.i .i64 e)) : exec (O X) n6_2 [(0, b.v), (1, .l (encR l)), (2, .i .i64 bk), (3, .bx b.cells), (6, .ow 47 []), (7, .i .i64 0)] = some (.r, [(6, .ow 47 []), (7, .i .i64 e)]) := by simp [n6_2, h9, h0]
theorem x3 (b : Books) (l : List Row) (bk : Int) : ∃ env, exec (O X) n6_3 [(0, b.v), (1, .l (encR l)), (2, .i .i64 bk), (3, .bx b.cells), (6, .ow 47 []), (7, .i .i64 0), (8, .i .i64 0), (24, .b false)] = some (.n, env) ∧ ∃ env', exec (O X) n6_4 env = some (.n, env') ∧ keepE kO env' = EO b l bk [] 0 := by
  refine ⟨[(0, b.v), (1, .l (encR l)), (2, .i .i64 bk), (3, .bx b.cells), (6, .ow 47 []), (7, .i .i64 0), (8, .i .i64 0), (9, .ow 47 []), (24, .b false)], by simp [n6_3], [(0, b.v), (1, .l (encR l)), (2, .i .i64 bk), (3, .bx b.cells), (6, .ow 47 []), (7, .i .i64 0), (8, .i .i64 0), (9, .ow 47 []), (24, .b false), (26, .l (encR l)), (27, .i .i64 l.length), (28, .i .i64 0)], by simp [n6_4], by simp⟩
theorem x19 (acc : List Cell) : exec (O X) n6_19 [(9, .ow 47 (encX acc))] = some (.r, [(6, .ow 47 (encX acc)), (7, .i .i64 0)]) := by simp [n6_19]
theorem ret14 (es : List V) (n : Int) : retV code7.res [(6, .ow 47 es), (7, .i .i64 n)] = some (.t [.ow 47 es, .i .i64 n]) := by simp [code7, retV_eq]
theorem pf6 {o : Orc} (ho : SoundO Tryz.prog o) (hX : o = O X) (b : Books) (l : List Row) (bk : Int) (h : Fine b) (hl : Rows l) (hll : l.length ≤ maxLen) : PF Tryz.prog 7 [b.v, .l (encR l), .i .i64 bk] (makeV b l bk) := by
  subst hX
  refine bodyN_sound ho Tryz.func7 comp7 rfl rfl ?_
  have h9 := e18 (X := X) b l h.chart hl hll
  refine ⟨.n, _, x1 b l bk, ?_⟩
  unfold makeV
  by_cases h0 : chk b l = 0
  · rw [h0] at h9
    rw [if_pos h0]
    obtain ⟨env3, h3, env4, h4, h4k⟩ := x3 (X := X) b l bk
    refine ⟨.n, _, x2 b l bk h9, .n, env3, h3, .n, env4, h4, ?_⟩
    refine o6 b l bk h hl h0 _ (fun hq => ?_) (fun u hq => ?_) env4 h4k
    · rw [hq]
      exact ⟨.r, _, x19 _, by simp, ret14 _ _⟩
    · rw [hq]
      exact ⟨by simp, ret14 _ _⟩
  · rw [if_neg h0]
    exact ⟨.r, _, x2e b l bk h0 h9, by simp, ret14 _ _⟩
end Go.Proofs.YtdlpbedneamebaaGreatDoor
namespace Go.Proofs.YtdlpbedneamebaaGreatDoor
open Go.VM
theorem enc_inj {α : Type} {f : α → V} (hf : ∀ x y, f x = f y → x = y) {l k : List α} : encL f l = encL f k ↔ l = k := by
  refine ⟨fun h => ?_, fun h => by rw [h]⟩
  exact (List.map_inj_right hf).1 h
theorem ints_inj {l k : List Int} : encL (V.i .i64) l = encL (V.i .i64) k ↔ l = k := enc_inj fun x y h => by simpa using h
theorem Currency.inj (x y : Currency) (h : x.v = y.v) : x = y := by
  cases x; cases y
  simp at h
  simp [h]
theorem Currency.enc {l k : List Currency} : encL Currency.v l = encL Currency.v k ↔ l = k := enc_inj Currency.inj
theorem Calendar.inj (x y : Calendar) (h : x.v = y.v) : x = y := by
  cases x; cases y
  simp [ints_inj] at h
  simp [h]
theorem Calendar.enc {l k : List Calendar} : encL Calendar.v l = encL Calendar.v k ↔ l = k := enc_inj Calendar.inj
theorem Gl.inj (x y : Gl) (h : x.v = y.v) : x = y := by
  cases x; cases y
  simp at h
  simp [h]
theorem Gl.enc {l k : List Gl} : encL Gl.v l = encL Gl.v k ↔ l = k := enc_inj Gl.inj
theorem Plan.inj (x y : Plan) (h : x.v = y.v) : x = y := by
  cases x; cases y
  simp at h
  simp [h]
theorem Plan.enc {l k : List Plan} : encL Plan.v l = encL Plan.v k ↔ l = k := enc_inj Plan.inj
theorem Tier.inj (x y : Tier) (h : x.v = y.v) : x = y := by
  cases x; cases y
  simp at h
  simp [h]
theorem Tier.enc {l k : List Tier} : encL Tier.v l = encL Tier.v k ↔ l = k := enc_inj Tier.inj
theorem Expr.inj (x y : Expr) (h : x.v = y.v) : x = y := by
  cases x; cases y
  simp at h
  simp [h]
theorem Expr.enc {l k : List Expr} : encL Expr.v l = encL Expr.v k ↔ l = k := enc_inj Expr.inj
theorem Fee.inj (x y : Fee) (h : x.v = y.v) : x = y := by
  cases x; cases y
  rename_i a b c d e f g i; cases c; cases d; cases g; cases i
  simp at h
  simp [h]
theorem Fee.enc {l k : List Fee} : encL Fee.v l = encL Fee.v k ↔ l = k := enc_inj Fee.inj
theorem Rule.inj (x y : Rule) (h : x.v = y.v) : x = y := by
  cases x; cases y
  rename_i a b c d e f; cases c; cases f
  simp at h
  simp [h]
theorem Rule.enc {l k : List Rule} : encL Rule.v l = encL Rule.v k ↔ l = k := enc_inj Rule.inj
theorem Product.inj (x y : Product) (h : x.v = y.v) : x = y := by
  cases x; cases y
  rename_i a1 a2 a3 a4 a5 a6 a7 a8 a9 a10 a11 b1 b2 b3 b4 b5 b6 b17 b8 b36 b38 b79; cases a8; cases a9; cases b8; cases b36
  simp [Tier.enc, Fee.enc, Rule.enc] at h
  simp [h]
theorem Product.enc {l k : List Product} : encL Product.v l = encL Product.v k ↔ l = k := enc_inj Product.inj
theorem Account.inj (x y : Account) (h : x.v = y.v) : x = y := by
  cases x; cases y
  simp at h
  simp [h]
theorem Account.enc {l k : List Account} : encL Account.v l = encL Account.v k ↔ l = k := enc_inj Account.inj
theorem Leg.inj (x y : Leg) (h : x.v = y.v) : x = y := by
  cases x; cases y
  simp at h
  simp [h]
theorem Leg.enc {l k : List Leg} : encL Leg.v l = encL Leg.v k ↔ l = k := enc_inj Leg.inj
theorem Entry.inj (x y : Entry) (h : x.v = y.v) : x = y := by
  cases x; cases y
  simp [Leg.enc] at h
  simp [h]
theorem Entry.enc {l k : List Entry} : encL Entry.v l = encL Entry.v k ↔ l = k := enc_inj Entry.inj
theorem Hold.inj (x y : Hold) (h : x.v = y.v) : x = y := by
  cases x; cases y
  simp at h
  simp [h]
theorem Hold.enc {l k : List Hold} : encL Hold.v l = encL Hold.v k ↔ l = k := enc_inj Hold.inj
theorem Block.inj (x y : Block) (h : x.v = y.v) : x = y := by
  cases x; cases y
  simp at h
  simp [h]
theorem Block.enc {l k : List Block} : encL Block.v l = encL Block.v k ↔ l = k := enc_inj Block.inj
theorem Row.inj (x y : Row) (h : x.v = y.v) : x = y := by
  cases x; cases y
  simp [ints_inj] at h
  simp [h]
theorem Row.enc {l k : List Row} : encL Row.v l = encL Row.v k ↔ l = k := enc_inj Row.inj
theorem Books.inj (x y : Books) (h : x.v = y.v) : x = y := by
  cases x; cases y
  rename_i a1 a2 a3 a4 a5 a6 a7 a8 a9 b1 b2 b3 b4 b5 b6 b17 b8 b36; cases a4; cases b4
  simp [Currency.enc, Calendar.enc, Gl.enc, Product.enc, Account.enc, Entry.enc, Hold.enc, Block.enc] at h
  simp [h]
theorem Books.enc {l k : List Books} : encL Books.v l = encL Books.v k ↔ l = k := enc_inj Books.inj
end Go.Proofs.YtdlpbedneamebaaGreatDoor
