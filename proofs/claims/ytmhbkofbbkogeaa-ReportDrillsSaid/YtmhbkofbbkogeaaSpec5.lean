/-
  What the functions that the laws reach compute: drilling down, amounts by Id, the reference's report.
-/
import Derived.Test.YtmhbkofbbkogeaaSpec3
import Derived.Test.YtmhbkofbbkogeaaSpec4
namespace Go.Proofs.Ytmhbkofbbkogeaa
open Go.VM
variable {X : Orc}
theorem chk_sign {b : Books} {l : List Row} (h : chk b l = 0) : ∀ r ∈ l, r.sign = 1 ∨ r.sign = -1 := by
  intro r hr
  obtain ⟨i, hi, rfl⟩ := List.getElem_of_mem hr
  unfold chk at h
  split at h
  · cases h
  · cases hq : (List.range l.length).findSome? (rowAt b l) with
    | some e =>
      rw [hq] at h
      obtain ⟨k, hk, hp⟩ := List.exists_of_findSome?_eq_some hq
      simp only [Option.getD_some] at h
      subst h
      have hk' : k < l.length := List.mem_range.1 hk
      simp only [rowAt, List.getElem?_eq_getElem hk'] at hp
      split at hp
      · cases hp
      · split at hp
        · cases hp
        · split at hp
          · rename_i h0
            simp only [Option.some.injEq] at hp
            exact absurd hp h0
          · cases hp
    | none =>
      have := range_find_none.1 hq i hi
      simp only [rowAt, List.getElem?_eq_getElem hi] at this
      split at this
      · cases this
      · split at this
        · cases this
        · rename_i h1
          by_cases h2 : l[i].sign = 1
          · exact .inl h2
          · by_cases h3 : l[i].sign = -1
            · exact .inr h3
            · exact absurd ⟨h2, h3⟩ h1
theorem chk_rows {b : Books} {l : List Row} (h : chk b l = 0) : 1 ≤ l.length ∧ l.length ≤ 64 := by
  unfold chk at h
  split at h
  · cases h
  · omega
/-- Each row of a list that is accepted is accepted. -/
theorem chk_one {b : Books} {l : List Row} (h : chk b l = 0) {r : Row} (hr : r ∈ l) : chk b [r] = 0 := by
  obtain ⟨i, hi, rfl⟩ := List.getElem_of_mem hr
  have hn : rowAt b l i = none := by
    unfold chk at h
    split at h
    · cases h
    · cases hq : (List.range l.length).findSome? (rowAt b l) with
      | none => exact range_find_none.1 hq i hi
      | some e =>
        rw [hq] at h
        obtain ⟨k, hk, hp⟩ := List.exists_of_findSome?_eq_some hq
        simp only [Option.getD_some] at h
        subst h
        have hk' : k < l.length := List.mem_range.1 hk
        simp only [rowAt, List.getElem?_eq_getElem hk'] at hp
        split at hp
        · cases hp
        · split at hp
          · cases hp
          · split at hp
            · rename_i h0
              simp only [Option.some.injEq] at hp
              exact absurd hp h0
            · cases hp
  have hn' : rowAt b [l[i]] 0 = none := by
    simp only [rowAt, List.getElem?_eq_getElem hi] at hn
    simpa [rowAt] using hn
  unfold chk
  rw [if_neg (by simp)]
  simp [List.range_succ, hn']
/-! ### Drilling down -/
def dS (b : Books) (r : Row) (c : List UInt8) (bk : Int) (acc : List Int) (e : Entry) : List Int := if e.booked ≤ bk ∧ amountN b r c e ≠ 0 then acc ++ [e.id] else acc
def drill (b : Books) (r : Row) (c : List UInt8) (bk : Int) : List Int := b.journal.foldl (dS b r c bk) []
theorem dS_len (b : Books) (r : Row) (c : List UInt8) (bk : Int) (l : List Entry) : (l.foldl (dS b r c bk) []).length ≤ l.length := by
  have key : ∀ (l : List Entry) (acc : List Int), (l.foldl (dS b r c bk) acc).length ≤ acc.length + l.length := by
    intro l
    induction l with
    | nil => intro acc; simp
    | cons e l ih =>
      intro acc
      rw [List.foldl_cons]
      have := ih (dS b r c bk acc e)
      have h2 : (dS b r c bk acc e).length ≤ acc.length + 1 := by unfold dS; split <;> simp
      simp only [List.length_cons]
      omega
  simpa using key l []
theorem l17 (b : Books) (r : Row) (c : List UInt8) (bk : Int) (h : Fine b) (hr : r.roots.length ≤ 1000) (hs : r.sign = 1 ∨ r.sign = -1) : loopK (O X) [2, 3, 4, 5, 13, 33, 34, 35] body17_1 [(2, .s c), (3, .i .i64 bk), (4, .bx b.cells), (5, .bx r.cells), (13, .ow 3 []), (33, .l (encE b.journal)), (34, .i .i64 b.journal.length), (35, .i .i64 0)] =
    some (.e 0, [(13, .ow 3 (ints (drill b r c bk)))]) := by
  have := loopK_run (o := O X) (kin := [2, 3, 4, 5, 13, 33, 34, 35]) (c := body17_1) (fun i => [(2, .s c), (3, .i .i64 bk), (4, .bx b.cells), (5, .bx r.cells), (13, .ow 3 (ints ((b.journal.take i).foldl (dS b r c bk) []))), (33, .l (encE b.journal)), (34, .i .i64 b.journal.length), (35, .i .i64 i)]) b.journal.length (.e 0, [(13, .ow 3 (ints (drill b r c bk)))]) (by simp) (fun i hi => by
    have hj := h.jour
    have hw := wrap_i64 (i + 1) (by omega)
    have h1 := e35 (X := X) b r b.journal[i] h hr (h.legs _ (List.getElem_mem hi))
    have hlen := dS_len b r c bk (b.journal.take i)
    rw [List.length_take] at hlen
    rw [fold_take _ _ _ hi]
    generalize (b.journal.take i).foldl (dS b r c bk) [] = acc at hlen
    have hap : (acc.length + 1) * 8 ≤ 140737488355328 := by omega
    have hsn := ints_snoc acc b.journal[i].id
    have hg := get_A c (amountsA b r b.journal[i])
    rw [am_eq b r c _ hs] at hg
    have ha := kA_all (amountsA b r b.journal[i])
    have h5 : keyB 1 (.s c) = true := rfl
    by_cases hb : b.journal[i].booked ≤ bk
    · by_cases h0 : amountN b r c b.journal[i] = 0
      · have hd : dS b r c bk acc b.journal[i] = acc := by simp [dS, h0]
        rw [hd]
        rw [h0] at hg
        generalize kA (amountsA b r b.journal[i]) = K at h1 hg ha
        generalize vA (amountsA b r b.journal[i]) = W at h1 hg
        have ha' : (∀ x, x ∈ K → keyB 1 x = true) = True := eq_true fun x hx => List.all_eq_true.1 ha x hx
        simp [body17_1, hi, hw, h1, hg, h5, ha', hb]
      · have hd : dS b r c bk acc b.journal[i] = acc ++ [b.journal[i].id] := by simp [dS, h0, hb]
        rw [hd, ← hsn]
        generalize amountN b r c b.journal[i] = a at hg h0
        generalize kA (amountsA b r b.journal[i]) = K at h1 hg ha
        generalize vA (amountsA b r b.journal[i]) = W at h1 hg
        have ha' : (∀ x, x ∈ K → keyB 1 x = true) = True := eq_true fun x hx => List.all_eq_true.1 ha x hx
        simp [body17_1, hi, hw, h1, hg, h5, ha', hb, h0, hap]
    · have hd : dS b r c bk acc b.journal[i] = acc := by simp [dS, hb]
      rw [hd]
      simp [body17_1, hi, hw, hb]) (by simp [body17_1, drill]) (by simp)
  simpa using this
def drillV (b : Books) (r : Row) (c : List UInt8) (bk : Int) : V :=
  if chk b [r] = 0 then (if (findC b.currencies c).isSome = true then .t [.ow 3 (ints (drill b r c bk)), .i .i64 0] else .t [.ow 3 [], .i .i64 14]) else .t [.ow 3 [], .i .i64 (chk b [r])]
theorem enc_one (r : Row) : encR [r] = [r.v] := rfl
theorem Rows.one {r : Row} (h1 : r.roots.length ≤ 1000) (h2 : r.name.length ≤ maxLen) : Rows [r] := ⟨by simpa using h1, by simpa using h2⟩
theorem e17 (b : Books) (r : Row) (c : List UInt8) (bk : Int) (h : Fine b) (hr : r.roots.length ≤ 1000) (hn : r.name.length ≤ maxLen) : O X 17 [b.v, r.v, .s c, .i .i64 bk] = some (drillV b r c bk) := by
  refine orun (fc := code17) rfl rfl rfl ?_
  have h9 := e9 (X := X) b [r] h.chart (Rows.one hr hn) (by show 1 ≤ maxLen; unfold maxLen; omega)
  rw [enc_one] at h9
  have h38 := e38 (X := X) b.currencies c h.curs
  unfold drillV
  by_cases h0 : chk b [r] = 0
  · rw [h0] at h9
    rw [if_pos h0]
    cases hc : findC b.currencies c with
    | none => rw [hc] at h38; simp [cV, c0] at h38; simp [code17, h9, h38]
    | some x =>
      rw [hc] at h38; simp [cV] at h38
      have hl := l17 (X := X) b r c bk h hr (chk_sign h0 r (List.mem_singleton.2 rfl))
      simp [code17, exec_loopK, h9, h38, hl]
  · rw [if_neg h0]
    generalize chk b [r] = e at h9 h0
    simp [code17, h9, h0]
theorem l18 (b : Books) (r : Row) (c : List UInt8) (bk : Int) (h : Fine b) (hr : r.roots.length ≤ 1000) : loopK (O X) [2, 3, 4, 5, 13, 14] body18_1 [(2, .s c), (3, .i .i64 bk), (4, .bx b.cells), (5, .bx r.cells), (13, .ow 3 []), (14, .i .i64 0)] =
    some (.e 0, [(13, .ow 3 (ints (drill b r c bk)))]) := by
  have := loopK_run (o := O X) (kin := [2, 3, 4, 5, 13, 14]) (c := body18_1) (fun i => [(2, .s c), (3, .i .i64 bk), (4, .bx b.cells), (5, .bx r.cells), (13, .ow 3 (ints ((b.journal.take i).foldl (dS b r c bk) []))), (14, .i .i64 i)]) b.journal.length (.e 0, [(13, .ow 3 (ints (drill b r c bk)))]) (by simp) (fun i hi => by
    have hj := h.jour
    have hw := wrap_i64 (i + 1) (by omega)
    have h1 := e40 (X := X) b r c b.journal[i] h hr (h.legs _ (List.getElem_mem hi))
    have hlen := dS_len b r c bk (b.journal.take i)
    rw [List.length_take] at hlen
    rw [fold_take _ _ _ hi]
    generalize (b.journal.take i).foldl (dS b r c bk) [] = acc at hlen
    have hap : (acc.length + 1) * 8 ≤ 140737488355328 := by omega
    have hsn := ints_snoc acc b.journal[i].id
    by_cases hb : b.journal[i].booked ≤ bk
    · by_cases h0 : amountN b r c b.journal[i] = 0
      · have hd : dS b r c bk acc b.journal[i] = acc := by simp [dS, h0]
        rw [hd]
        rw [h0] at h1
        simp [body18_1, hi, hw, h1, hb]
      · have hd : dS b r c bk acc b.journal[i] = acc ++ [b.journal[i].id] := by simp [dS, h0, hb]
        rw [hd, ← hsn]
        generalize amountN b r c b.journal[i] = a at h1 h0
        simp [body18_1, hi, hw, h1, hb, h0, hap]
    · have hd : dS b r c bk acc b.journal[i] = acc := by simp [dS, hb]
      rw [hd]
      simp [body18_1, hi, hw, hb]) (by simp [body18_1, drill]) (by simp)
  simpa using this
theorem e18 (b : Books) (r : Row) (c : List UInt8) (bk : Int) (h : Fine b) (hr : r.roots.length ≤ 1000) (hn : r.name.length ≤ maxLen) : O X 18 [b.v, r.v, .s c, .i .i64 bk] = some (drillV b r c bk) := by
  refine orun (fc := code18) rfl rfl rfl ?_
  have h9 := e10 (X := X) b [r] h.chart (Rows.one hr hn) (by show 1 ≤ maxLen; unfold maxLen; omega)
  rw [enc_one] at h9
  have h38 := e39 (X := X) b.currencies c h.curs
  unfold drillV
  by_cases h0 : chk b [r] = 0
  · rw [h0] at h9
    rw [if_pos h0]
    cases hc : findC b.currencies c with
    | none => rw [hc] at h38; simp [cV, c0] at h38; simp [code18, h9, h38]
    | some x =>
      rw [hc] at h38; simp [cV] at h38
      have hl := l18 (X := X) b r c bk h hr
      simp [code18, exec_loopK, h9, h38, hl]
  · rw [if_neg h0]
    generalize chk b [r] = e at h9 h0
    simp [code18, h9, h0]
/-! ### Amounts by Id -/
def byId (b : Books) (r : Row) (c : List UInt8) (id : Int) (i : Nat) : Option Int := match b.journal[i]? with
  | some e => if e.id = id then some (amountN b r c e) else none
  | none => none
def amtId (b : Books) (r : Row) (c : List UInt8) (id : Int) : Int := if chk b [r] = 0 then ((List.range b.journal.length).findSome? (byId b r c id)).getD 0 else 0
theorem l20 (b : Books) (r : Row) (c : List UInt8) (id : Int) (h : Fine b) (hr : r.roots.length ≤ 1000) (hs : r.sign = 1 ∨ r.sign = -1) : loopK (O X) [2, 3, 4, 5, 17, 18, 19] body20_1 [(2, .s c), (3, .i .i64 id), (4, .bx b.cells), (5, .bx r.cells), (17, .l (encE b.journal)), (18, .i .i64 b.journal.length), (19, .i .i64 0)] =
    some (optE (fun (n : Int) => (.r, [(8, .i .i64 n)])) (.e 0, []) ((List.range b.journal.length).findSome? (byId b r c id))) := by
  have := loopK_code (o := O X) (kin := [2, 3, 4, 5, 17, 18, 19]) (c := body20_1) (fun i => [(2, .s c), (3, .i .i64 id), (4, .bx b.cells), (5, .bx r.cells), (17, .l (encE b.journal)), (18, .i .i64 b.journal.length), (19, .i .i64 i)]) b.journal.length (byId b r c id) (fun (n : Int) => (.r, [(8, .i .i64 n)])) (.e 0, []) (by simp) (by simp) (fun i hi => by
    have hj := h.jour
    have hw := wrap_i64 (i + 1) (by omega)
    have h1 := e35 (X := X) b r b.journal[i] h hr (h.legs _ (List.getElem_mem hi))
    have hg := get_A c (amountsA b r b.journal[i])
    rw [am_eq b r c _ hs] at hg
    have ha := kA_all (amountsA b r b.journal[i])
    have h5 : keyB 1 (.s c) = true := rfl
    by_cases hb : b.journal[i].id = id
    · have hd : byId b r c id i = some (amountN b r c b.journal[i]) := by simp [byId, hi, hb]
      rw [hd]
      generalize amountN b r c b.journal[i] = a at hg
      generalize kA (amountsA b r b.journal[i]) = K at h1 hg ha
      generalize vA (amountsA b r b.journal[i]) = W at h1 hg
      have ha' : (∀ x, x ∈ K → keyB 1 x = true) = True := eq_true fun x hx => List.all_eq_true.1 ha x hx
      subst hb
      simp [body20_1, hi, h1, hg, h5, ha']
    · have hd : byId b r c id i = none := by simp [byId, hi, hb]
      rw [hd]
      simp [body20_1, hi, hw, hb]) (by simp [body20_1]) (by simp)
  exact this
theorem e20 (b : Books) (r : Row) (c : List UInt8) (id : Int) (h : Fine b) (hr : r.roots.length ≤ 1000) (hn : r.name.length ≤ maxLen) : O X 20 [b.v, r.v, .s c, .i .i64 id] = some (.i .i64 (amtId b r c id)) := by
  refine orun (fc := code20) rfl rfl rfl ?_
  have h9 := e9 (X := X) b [r] h.chart (Rows.one hr hn) (by show 1 ≤ maxLen; unfold maxLen; omega)
  rw [enc_one] at h9
  unfold amtId
  by_cases h0 : chk b [r] = 0
  · rw [h0] at h9
    rw [if_pos h0]
    have hl := l20 (X := X) b r c id h hr (chk_sign h0 r (List.mem_singleton.2 rfl))
    cases hq : (List.range b.journal.length).findSome? (byId b r c id) <;> rw [hq] at hl <;> simp at hl <;> simp [code20, exec_loopK, h9, hl]
  · rw [if_neg h0]
    generalize chk b [r] = e at h9 h0
    simp [code20, h9, h0]
theorem l21 (b : Books) (r : Row) (c : List UInt8) (id : Int) (h : Fine b) (hr : r.roots.length ≤ 1000) : loopK (O X) [2, 3, 4, 5, 9] body21_1 [(2, .s c), (3, .i .i64 id), (4, .bx b.cells), (5, .bx r.cells), (9, .i .i64 0)] =
    some (optE (fun (n : Int) => (.r, [(8, .i .i64 n)])) (.e 0, []) ((List.range b.journal.length).findSome? (byId b r c id))) := by
  have := loopK_code (o := O X) (kin := [2, 3, 4, 5, 9]) (c := body21_1) (fun i => [(2, .s c), (3, .i .i64 id), (4, .bx b.cells), (5, .bx r.cells), (9, .i .i64 i)]) b.journal.length (byId b r c id) (fun (n : Int) => (.r, [(8, .i .i64 n)])) (.e 0, []) (by simp) (by simp) (fun i hi => by
    have hj := h.jour
    have hw := wrap_i64 (i + 1) (by omega)
    have h1 := e40 (X := X) b r c b.journal[i] h hr (h.legs _ (List.getElem_mem hi))
    by_cases hb : b.journal[i].id = id
    · have hd : byId b r c id i = some (amountN b r c b.journal[i]) := by simp [byId, hi, hb]
      rw [hd]
      generalize amountN b r c b.journal[i] = a at h1
      subst hb
      simp [body21_1, hi, h1]
    · have hd : byId b r c id i = none := by simp [byId, hi, hb]
      rw [hd]
      simp [body21_1, hi, hw, hb]) (by simp [body21_1]) (by simp)
  exact this
theorem e21 (b : Books) (r : Row) (c : List UInt8) (id : Int) (h : Fine b) (hr : r.roots.length ≤ 1000) (hn : r.name.length ≤ maxLen) : O X 21 [b.v, r.v, .s c, .i .i64 id] = some (.i .i64 (amtId b r c id)) := by
  refine orun (fc := code21) rfl rfl rfl ?_
  have h9 := e10 (X := X) b [r] h.chart (Rows.one hr hn) (by show 1 ≤ maxLen; unfold maxLen; omega)
  rw [enc_one] at h9
  unfold amtId
  by_cases h0 : chk b [r] = 0
  · rw [h0] at h9
    rw [if_pos h0]
    have hl := l21 (X := X) b r c id h hr
    cases hq : (List.range b.journal.length).findSome? (byId b r c id) <;> rw [hq] at hl <;> simp at hl <;> simp [code21, exec_loopK, h9, hl]
  · rw [if_neg h0]
    generalize chk b [r] = e at h9 h0
    simp [code21, h9, h0]
end Go.Proofs.Ytmhbkofbbkogeaa
