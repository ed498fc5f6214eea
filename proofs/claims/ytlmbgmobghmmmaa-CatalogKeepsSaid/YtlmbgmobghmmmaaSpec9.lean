/-
  What the functions that the laws reach compute: a version is added.
-/
import Derived.Test.YtlmbgmobghmmmaaSpec4
import Derived.Test.YtlmbgmobghmmmaaSpec8
namespace Go.Proofs.Ytlmbgmobghmmmaa
open Go.VM
theorem bef_iff (a b : Product) : befB a b = true ↔ a.name < b.name ∨ (a.name = b.name ∧ a.from' < b.from') := by
  unfold befB
  simp only [Bool.or_eq_true, Bool.and_eq_true, decide_eq_true_eq]
theorem bef_trans {a b c : Product} (h1 : befB a b = true) (h2 : befB b c = true) : befB a c = true := by
  rw [bef_iff] at *
  rcases h1 with h1 | ⟨h1, g1⟩ <;> rcases h2 with h2 | ⟨h2, g2⟩
  · exact .inl (List.lt_trans h1 h2)
  · exact .inl (h2 ▸ h1)
  · exact .inl (h1 ▸ h2)
  · exact .inr ⟨h1.trans h2, by omega⟩
theorem bef_key {a b c : Product} (hn : b.name = c.name) (hf : b.from' = c.from') : befB a b = befB a c := by unfold befB; rw [hn, hf]
theorem bef_irr {a b : Product} (hn : a.name = b.name) (hf : a.from' = b.from') : befB a b = false := by
  unfold befB
  rw [hn, hf]
  have : ¬ b.name < b.name := List.lt_irrefl _
  simp [this]
def OrdL (l : List Product) : Prop := ∀ i j (hi : i < l.length) (hj : j < l.length), i < j → befB l[i] l[j] = true
theorem ord_of {l : List Product} (h : ordS l = none) : OrdL l := by
  have h1 : ∀ i (hi : i + 1 < l.length), befB l[i] l[i + 1] = true := fun i hi => by
    have := range_find_none.1 h i (by omega)
    have hi0 : i < l.length := by omega
    simp only [ordB, List.getElem?_eq_getElem hi0, List.getElem?_eq_getElem hi] at this
    cases hb : befB l[i] l[i + 1] with
    | true => rfl
    | false => rw [hb] at this; simp at this
  intro i j hi hj hij
  induction j with
  | zero => omega
  | succ j ih =>
    by_cases he : i = j
    · subst he; exact h1 i hj
    · exact bef_trans (ih (by omega) (by omega)) (h1 j hj)
def lbP (l : List Product) (p : Product) : Nat := (l.takeWhile fun q => befB q p).length
theorem tw_imp {α : Type} {q : α → Bool} : ∀ {m : List α} {x : α}, x ∈ m.takeWhile q → q x = true
  | [], x, h => by simp at h
  | y :: m, x, h => by
    rw [List.takeWhile_cons] at h
    split at h
    · rcases List.mem_cons.1 h with rfl | h
      · assumption
      · exact tw_imp h
    · cases h
theorem lb_split {l : List Product} (h : OrdL l) (p : Product) : Split l p (lbP l p) := by
  have hpre : l.takeWhile (fun q => befB q p) <+: l := List.takeWhile_prefix _
  have hle : lbP l p ≤ l.length := hpre.length_le
  refine ⟨hle, fun i hi hlt => ?_, fun i hi hge => ?_⟩
  · have : (l.takeWhile fun q => befB q p)[i]'hlt = l[i] := hpre.getElem hlt
    rw [← this]
    exact tw_imp (q := fun q => befB q p) (List.getElem_mem hlt)
  · cases hb : befB l[i] p with
    | false => rfl
    | true =>
      exfalso
      have hlb : lbP l p < l.length := by omega
      have hlbT : befB l[lbP l p] p = true := by
        by_cases he : lbP l p = i
        · simp only [he]; exact hb
        · exact bef_trans (h _ i hlb hi (by omega)) hb
      have : ∀ (m : List Product) (hm : (m.takeWhile fun q => befB q p).length < m.length), befB (m[(m.takeWhile fun q => befB q p).length]) p = false := by
        intro m
        induction m with
        | nil => intro hm; simp at hm
        | cons x m ih =>
          intro hm
          cases hx : befB x p with
          | false => simp [hx]
          | true =>
            simp only [List.takeWhile_cons, hx, if_true, List.length_cons] at hm ⊢
            simpa using ih (by omega)
      have := this l hlb
      unfold lbP at hlbT
      rw [this] at hlbT
      cases hlbT
def dupB (l : List Product) (p : Product) (i : Nat) : Option Unit := match l[i]? with
  | some q => if q.name = p.name ∧ q.from' = p.from' then some () else none
  | none => none
def dupS (l : List Product) (p : Product) : Option Unit := (List.range l.length).findSome? (dupB l p)
theorem found_dup {l : List Product} (h : OrdL l) (p : Product) : foundB l p (lbP l p) = (dupS l p).isSome := by
  have hs := lb_split h p
  cases hd : dupS l p with
  | none =>
    simp only [Option.isSome_none]
    unfold foundB
    by_cases hlb : lbP l p < l.length
    · have := range_find_none.1 hd _ hlb
      simp only [dupB, List.getElem?_eq_getElem hlb] at this ⊢
      by_cases hc : l[lbP l p].name = p.name ∧ l[lbP l p].from' = p.from'
      · rw [if_pos hc] at this; cases this
      · cases hx : decide (l[lbP l p].name = p.name) && decide (l[lbP l p].from' = p.from') with
        | false => rfl
        | true => simp only [Bool.and_eq_true, decide_eq_true_eq] at hx; exact absurd hx hc
    · rw [List.getElem?_eq_none (by omega)]
  | some u =>
    simp only [Option.isSome_some]
    obtain ⟨i, hi, hx⟩ := List.exists_of_findSome?_eq_some hd
    have hi' : i < l.length := List.mem_range.1 hi
    simp only [dupB, List.getElem?_eq_getElem hi'] at hx
    split at hx
    · rename_i hc
      have h1 : lbP l p ≤ i := by
        false_or_by_contra
        have := hs.2.1 i hi' (by omega)
        rw [bef_irr hc.1 hc.2] at this; cases this
      have h2 : lbP l p = i := by
        false_or_by_contra
        have hlb : lbP l p < l.length := by omega
        have h3 := h _ i hlb hi' (by omega)
        rw [bef_key hc.1 hc.2, hs.2.2 _ hlb (Nat.le_refl _)] at h3
        cases h3
      unfold foundB
      rw [h2, List.getElem?_eq_getElem hi']
      simp [hc.1, hc.2]
    · cases hx
def othB (p q : Product) : Bool := decide (q.name = p.name) && !decide (q.currency = p.currency)
def othS (l : List Product) (p : Product) : Bool := l.any (othB p)
def addR (l : List Product) (p : Product) : List Product × Int :=
  if chk l ≠ 0 then ([], 1) else if (dupS l p).isSome = true then ([], 12) else if othS l p = true then ([], 14) else if 64 ≤ l.length then ([], 5) else (l.take (lbP l p) ++ p :: l.drop (lbP l p), 0)
theorem chk_zero {l : List Product} (h : chk l = 0) : OrdL l ∧ l.length ≤ 64 ∧ curS l = none := by
  unfold chk at h
  split at h
  · omega
  · split at h
    · omega
    · split at h
      · omega
      · rename_i h1 h2 h3
        refine ⟨ord_of ?_, by omega, ?_⟩
        · cases ho : ordS l with
          | none => rfl
          | some u => rw [ho] at h2; exact absurd rfl h2
        · cases ho : curS l with
          | none => rfl
          | some u => rw [ho] at h3; exact absurd rfl h3
/-! ### The program's code -/
def curV (p : Product) (v : List Product) (i : Nat) : Option Unit := match v[i]? with
  | some q => if q.currency = p.currency then none else some ()
  | none => none
theorem l13 (L : List V) (p : Product) (n : Int) (v : List Product) (h : v.length ≤ 1000) : loopK O [0, 3, 6, 23, 24, 25] body13_1 [(0, .l L), (3, .bx p.cells), (6, .i .i64 n), (23, .ow 33 (encL Product.v v)), (24, .i .i64 v.length), (25, .i .i64 0)] =
    some (optE (fun (_ : Unit) => (.r, [(4, .ow 33 []), (5, .i .i64 14)])) (.e 0, [(0, .l L), (3, .bx p.cells), (6, .i .i64 n)]) ((List.range v.length).findSome? (curV p v))) := by
  have := loopK_code (o := O) (kin := [0, 3, 6, 23, 24, 25]) (c := body13_1) (fun i => [(0, .l L), (3, .bx p.cells), (6, .i .i64 n), (23, .ow 33 (encL Product.v v)), (24, .i .i64 v.length), (25, .i .i64 i)]) v.length (curV p v) (fun (_ : Unit) => (.r, [(4, .ow 33 []), (5, .i .i64 14)])) (.e 0, [(0, .l L), (3, .bx p.cells), (6, .i .i64 n)]) (by simp) (by simp) (fun i hi => by
    have hw := wrap_i64 ((i : Int) + 1) (by omega)
    have ht : v[i].rest.take 15 = v[i].rest := List.take_of_length_le (by simp)
    have ho : curV p v i = if v[i].currency = p.currency then none else some () := by simp [curV, hi]
    rw [ho]
    by_cases h1 : v[i].currency = p.currency <;> simp [body13_1, hi, hw, ht, h1]) (by simp [body13_1]) (by simp)
  exact this
theorem oth_cur (l : List Product) (p : Product) : ((List.range (verS l p.name).length).findSome? (curV p (verS l p.name))).isSome = othS l p := by
  cases ho : othS l p with
  | true =>
    unfold othS at ho
    obtain ⟨q, hq, hx⟩ := List.any_eq_true.1 ho
    unfold othB at hx
    simp only [Bool.and_eq_true, decide_eq_true_eq, Bool.not_eq_true', decide_eq_false_iff_not] at hx
    have hv : q ∈ verS l p.name := List.mem_filter.2 ⟨hq, by simp [hx.1]⟩
    obtain ⟨i, hi, rfl⟩ := List.getElem_of_mem hv
    cases hf : (List.range (verS l p.name).length).findSome? (curV p (verS l p.name)) with
    | some u => rfl
    | none =>
      have := range_find_none.1 hf i hi
      simp only [curV, List.getElem?_eq_getElem hi, if_neg hx.2] at this
      cases this
  | false =>
    unfold othS at ho
    rw [List.any_eq_false] at ho
    have : (List.range (verS l p.name).length).findSome? (curV p (verS l p.name)) = none := range_find_none.2 fun i hi => by
      have hm := List.mem_filter.1 (List.getElem_mem hi : (verS l p.name)[i] ∈ verS l p.name)
      have := ho _ hm.1
      unfold othB at this
      have hn : (verS l p.name)[i].name = p.name := by simpa using hm.2
      simp only [hn, decide_true, Bool.true_and, Bool.not_eq_true', Bool.not_eq_false] at this
      have hc : (verS l p.name)[i].currency = p.currency := by simpa using this
      simp [curV, hi, hc]
    rw [this]; rfl
end Go.Proofs.Ytlmbgmobghmmmaa
