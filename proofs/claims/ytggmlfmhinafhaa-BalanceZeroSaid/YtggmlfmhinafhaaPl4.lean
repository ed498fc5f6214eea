/-
  The trial balance is as the reference says: each key has its sum, and the keys ascend.
-/
import Derived.Test.YtggmlfmhinafhaaPl1
import Derived.Test.YtggmlfmhinafhaaEq2
namespace Go.Proofs.Ytggmlfmhinafhaa
open Go.VM Go.RowKit
abbrev LKey := Int × List UInt8
def amt : List Leg → LKey → Int
  | [], _ => 0
  | y :: r, k => if legKey y = k then y.amount else amt r k
theorem amt_none {s : List Leg} {k : LKey} (h : ∀ y ∈ s, legKey y ≠ k) : amt s k = 0 := by
  induction s with
  | nil => rfl
  | cons y r ih =>
    unfold amt
    rw [if_neg (h y (List.mem_cons_self ..)), ih fun z hz => h z (List.mem_cons_of_mem _ hz)]
theorem amt_spec (s : List Leg) (k : LKey) : (∃ y ∈ s, legKey y = k ∧ y.amount = amt s k) ∨ ((∀ y ∈ s, legKey y ≠ k) ∧ amt s k = 0) := by
  induction s with
  | nil => exact .inr ⟨(fun _ h => by cases h), rfl⟩
  | cons y r ih =>
    unfold amt
    by_cases h : legKey y = k
    · rw [if_pos h]
      exact .inl ⟨y, List.mem_cons_self .., h, rfl⟩
    · rw [if_neg h]
      rcases ih with ⟨z, hz, h1, h2⟩ | ⟨h1, h2⟩
      · exact .inl ⟨z, List.mem_cons_of_mem _ hz, h1, h2⟩
      · refine .inr ⟨fun z hz => ?_, h2⟩
        rcases List.mem_cons.1 hz with rfl | hz
        · exact h
        · exact h1 z hz
/-- The sum of what has a key. -/
def kS (k : LKey) (xs : List Leg) : Int := S (fun x => if legKey x = k then x.amount else 0) xs
theorem kS_none {k : LKey} {xs : List Leg} (h : ∀ x ∈ xs, legKey x ≠ k) : kS k xs = 0 := by
  unfold kS
  exact Eq.trans (S_congr (g := fun _ => 0) fun x hx => if_neg (h x hx)) (S_zero xs)
theorem kS_snoc (k : LKey) (xs : List Leg) (x : Leg) : kS k (xs ++ [x]) = kS k xs + if legKey x = k then x.amount else 0 := by
  unfold kS
  rw [S_append]
  simp only [S, Int.add_zero]
/-- Each key that there is, once, with its sum. -/
def Cl (xs s : List Leg) : Prop := (s.map legKey).Nodup ∧ ∀ y, y ∈ s ↔ (∃ x ∈ xs, legKey x = legKey y) ∧ y.amount = wrap64 (kS (legKey y) xs)
theorem Cl.amt {xs s : List Leg} (h : Cl xs s) (k : LKey) : wrap64 (amt s k) = wrap64 (kS k xs) := by
  rcases amt_spec s k with ⟨y, hy, h1, h2⟩ | ⟨h1, h2⟩
  · rw [← h2, ((h.2 y).1 hy).2, h1, ww]
  · rw [h2, kS_none fun x hx he => ?_]
    refine h1 ⟨k.1, wrap64 (kS k xs), k.2⟩ ((h.2 _).2 ⟨⟨x, hx, he⟩, rfl⟩) rfl
theorem Cl.step {xs s s' : List Leg} {x : Leg} (h : Cl xs s) (hk : (s'.map legKey).Nodup) (hm : ∀ y, y ∈ s' ↔ (y ∈ s ∧ legKey y ≠ legKey x) ∨ (legKey y = legKey x ∧ y.amount = wrap64 (Ytggmlfmhinafhaa.amt s (legKey x) + x.amount))) : Cl (xs ++ [x]) s' := by
  refine ⟨hk, fun y => ?_⟩
  rw [hm, kS_snoc]
  by_cases hy : legKey y = legKey x
  · rw [if_pos hy.symm, ← wl (kS _ _), hy, ← h.amt, wl]
    simp only [ne_eq, not_true_eq_false, and_false, false_or, true_and]
    constructor
    · intro h2
      exact ⟨⟨x, by simp, rfl⟩, h2⟩
    · intro h2; exact h2.2
  · rw [if_neg fun e => hy e.symm, Int.add_zero, h.2]
    constructor
    · rintro (⟨⟨⟨z, hz, hzy⟩, h2⟩, _⟩ | ⟨h2, _⟩)
      · exact ⟨⟨z, List.mem_append_left _ hz, hzy⟩, h2⟩
      · exact absurd h2 hy
    · rintro ⟨⟨z, hz, hzy⟩, h2⟩
      rcases List.mem_append.1 hz with hz | hz
      · exact .inl ⟨⟨⟨z, hz, hzy⟩, h2⟩, hy⟩
      · rw [List.mem_singleton] at hz
        subst hz
        exact absurd hzy.symm hy
theorem Cl.nil : Cl [] [] := ⟨List.nodup_nil, fun y => by simp⟩
theorem snoc_ind {α β : Type} {f : β → α → β} {b : β} (Q : List α → β → Prop) (h0 : Q [] b) (hs : ∀ xs x s, Q xs s → Q (xs ++ [x]) (f s x)) : ∀ xs ys s, Q ys s → Q (ys ++ xs) (xs.foldl f s)
  | [], ys, s, h => by simpa using h
  | x :: xs, ys, s, h => by
    have := snoc_ind Q h0 hs xs (ys ++ [x]) (f s x) (hs ys x s h)
    simpa using this
/-! ### The program's list -/
theorem addL_spec (x : Leg) : ∀ s : List Leg, (s.map legKey).Nodup → ((addL s x).map legKey).Nodup ∧ ∀ y, y ∈ addL s x ↔ (y ∈ s ∧ legKey y ≠ legKey x) ∨ (legKey y = legKey x ∧ y.amount = wrap64 (amt s (legKey x) + x.amount))
  | [], _ => by
    refine ⟨by simp [addL], fun y => ?_⟩
    simp only [addL, List.mem_singleton, List.not_mem_nil, false_and, false_or, amt]
    constructor
    · rintro rfl; exact ⟨rfl, rfl⟩
    · rintro ⟨h1, h2⟩
      obtain ⟨ya, ym, yc⟩ := y
      simp only [legKey, Prod.mk.injEq] at h1
      simp only [h1.1, h1.2] at *
      rw [h2]
  | z :: r, h => by
    rw [List.map_cons, List.nodup_cons] at h
    by_cases hz : z.account = x.account ∧ z.currency = x.currency
    · have hk : legKey z = legKey x := by simp [legKey, hz.1, hz.2]
      have hr : ∀ y ∈ r, legKey y ≠ legKey x := fun y hy e => h.1 (List.mem_map.2 ⟨y, hy, e.trans hk.symm⟩)
      unfold addL
      rw [if_pos hz]
      refine ⟨?_, fun y => ?_⟩
      · rw [List.map_cons]; exact List.nodup_cons.2 h
      · rw [amt, if_pos hk, List.mem_cons, List.mem_cons]
        constructor
        · rintro (rfl | hy)
          · exact .inr ⟨hk, rfl⟩
          · exact .inl ⟨.inr hy, hr y hy⟩
        · rintro (⟨rfl | hy, h2⟩ | ⟨h1, h2⟩)
          · exact absurd hk h2
          · exact .inr hy
          · left
            obtain ⟨ya, ym, yc⟩ := y
            simp only [legKey, Prod.mk.injEq] at h1
            simp only at h2
            rw [h2, hz.1, hz.2, h1.1, h1.2]
    · have hk : legKey z ≠ legKey x := fun e => hz (by simpa [legKey] using e)
      obtain ⟨h1, h2⟩ := addL_spec x r h.2
      unfold addL
      rw [if_neg hz]
      refine ⟨?_, fun y => ?_⟩
      · rw [List.map_cons]
        refine List.nodup_cons.2 ⟨fun hm => ?_, h1⟩
        obtain ⟨y, hy, hyz⟩ := List.mem_map.1 hm
        rcases (h2 y).1 hy with ⟨hy, _⟩ | ⟨hy, _⟩
        · exact h.1 (List.mem_map.2 ⟨y, hy, hyz⟩)
        · exact hk (hyz.symm.trans hy)
      · rw [amt, if_neg hk, List.mem_cons, List.mem_cons, h2]
        constructor
        · rintro (rfl | (⟨hy, h3⟩ | h3))
          · exact .inl ⟨.inl rfl, hk⟩
          · exact .inl ⟨.inr hy, h3⟩
          · exact .inr h3
        · rintro (⟨rfl | hy, h3⟩ | h3)
          · exact .inl rfl
          · exact .inr (.inl ⟨hy, h3⟩)
          · exact .inr (.inr h3)
def allL (l : List Entry) : List Leg := l.flatMap (·.legs)
theorem sumsL_all (l : List Entry) : sumsL l = (allL l).foldl addL [] := by
  have key : ∀ (l : List Entry) (s : List Leg), l.foldl (fun s e => e.legs.foldl addL s) s = (allL l).foldl addL s := by
    intro l
    induction l with
    | nil => intro s; rfl
    | cons e l ih =>
      intro s
      rw [List.foldl_cons, ih]
      unfold allL
      rw [List.flatMap_cons, List.foldl_append]
  exact key l []
theorem rtr3_all (l : List Entry) : rtr3 l = (allL l).foldl ad3 [] := by
  have key : ∀ (l : List Entry) (s : List L3), l.foldl rtrS s = (allL l).foldl ad3 s := by
    intro l
    induction l with
    | nil => intro s; rfl
    | cons e l ih =>
      intro s
      rw [List.foldl_cons, ih]
      unfold allL
      rw [List.flatMap_cons, List.foldl_append]; rfl
  exact key l []
theorem sums_cl (l : List Entry) : Cl (allL l) (sumsL l) := by
  rw [sumsL_all]
  have := snoc_ind (f := addL) (b := []) Cl Cl.nil (fun xs x s h => h.step (addL_spec x s h.1).1 (addL_spec x s h.1).2) (allL l) [] [] Cl.nil
  simpa using this
/-! ### The reference's list -/
def toL (x : L3) : Leg := ⟨x.1, x.2.1, x.2.2⟩
def addG : List Leg → Leg → List Leg
  | [], x => [x]
  | y :: r, x => if lessL y x = true then y :: addG r x else if lessL x y = true then x :: y :: r else ⟨y.account, wrap64 (y.amount + x.amount), y.currency⟩ :: r
theorem lt3_toL (x y : L3) : lt3 x y = lessL (toL x) (toL y) := rfl
theorem toL_leg3 (x : Leg) : toL (leg3 x) = x := rfl
theorem ad3_map (x : Leg) : ∀ t : List L3, (ad3 t x).map toL = addG (t.map toL) x
  | [] => rfl
  | y :: r => by
    unfold ad3 add3 up3
    rw [List.map_cons, addG]
    by_cases h : lt3 y (leg3 x) = true
    · have h' : lessL (toL y) x = true := h
      rw [if_pos h, if_pos h', ← ad3_map x r]
      unfold ad3 add3
      rw [List.getElem?_cons_succ, List.take_succ_cons, List.drop_succ_cons]
      simp only [List.set_cons_succ]
      split
      · split
        · simp
        · simp
      · simp
    · have h' : ¬ lessL (toL y) x = true := h
      rw [if_neg h, if_neg h']
      simp only [List.getElem?_cons_zero, List.take_zero, List.drop_zero, List.set_cons_zero, List.nil_append]
      by_cases h2 : lt3 (leg3 x) y = true
      · have h2' : lessL x (toL y) = true := h2
        rw [if_pos h2, if_pos h2']; rfl
      · have h2' : ¬ lessL x (toL y) = true := h2
        rw [if_neg h2, if_neg h2', iw]; rfl
theorem lessL_key {x x' z : Leg} (h : legKey x = legKey x') : (lessL x z = lessL x' z) ∧ (lessL z x = lessL z x') := by
  simp only [legKey, Prod.mk.injEq] at h
  unfold lessL
  rw [h.1, h.2]
  exact ⟨rfl, rfl⟩
theorem lessL_ne {x y : Leg} (h : lessL x y = true) : legKey x ≠ legKey y := fun e => lessL_irr y (by rw [← (lessL_key e).1]; exact h)
theorem key_of_not {x y : Leg} (h1 : ¬ lessL x y = true) (h2 : ¬ lessL y x = true) : legKey x = legKey y := by
  rcases lessL_tri x y with h | h | h
  · exact absurd h h1
  · exact absurd h h2
  · simp [legKey, h.1, h.2]
abbrev Asc (t : List Leg) : Prop := t.Pairwise fun x y => lessL x y = true
theorem addG_spec (x : Leg) (hx : I64 x.amount) : ∀ t : List Leg, Asc t → Asc (addG t x) ∧ ∀ y, y ∈ addG t x ↔ (y ∈ t ∧ legKey y ≠ legKey x) ∨ (legKey y = legKey x ∧ y.amount = wrap64 (amt t (legKey x) + x.amount)) := by
  have hwx : wrap64 (0 + x.amount) = x.amount := by unfold I64 at hx; unfold wrap64; omega
  have heq : ∀ y : Leg, (y = x ↔ legKey y = legKey x ∧ y.amount = x.amount) := fun y => by
    constructor
    · rintro rfl; exact ⟨rfl, rfl⟩
    · rintro ⟨h1, h2⟩
      cases y; cases x
      simp only [legKey, Prod.mk.injEq] at h1
      simp only at h2
      rw [h1.1, h1.2, h2]
  intro t
  induction t with
  | nil =>
    intro _
    refine ⟨by simp [addG], fun y => ?_⟩
    simp only [addG, List.mem_singleton, List.not_mem_nil, false_and, false_or, amt, hwx, heq]
  | cons z r ih =>
    intro h
    obtain ⟨hz, hr⟩ := List.pairwise_cons.1 h
    unfold addG
    by_cases h1 : lessL z x = true
    · obtain ⟨i1, i2⟩ := ih hr
      have hk := lessL_ne h1
      rw [if_pos h1]
      refine ⟨List.pairwise_cons.2 ⟨fun y hy => ?_, i1⟩, fun y => ?_⟩
      · rcases (i2 y).1 hy with ⟨hy, _⟩ | ⟨hy, _⟩
        · exact hz y hy
        · rw [(lessL_key hy).2]; exact h1
      · rw [amt, if_neg hk, List.mem_cons, List.mem_cons, i2]
        constructor
        · rintro (rfl | (⟨hy, h3⟩ | h3))
          · exact .inl ⟨.inl rfl, hk⟩
          · exact .inl ⟨.inr hy, h3⟩
          · exact .inr h3
        · rintro (⟨rfl | hy, h3⟩ | h3)
          · exact .inl rfl
          · exact .inr (.inl ⟨hy, h3⟩)
          · exact .inr (.inr h3)
    · rw [if_neg h1]
      by_cases h2 : lessL x z = true
      · rw [if_pos h2]
        have hall : ∀ y ∈ z :: r, lessL x y = true := fun y hy => by
          rcases List.mem_cons.1 hy with rfl | hy
          · exact h2
          · exact lessL_tra h2 (hz y hy)
        have hne : ∀ y ∈ z :: r, legKey y ≠ legKey x := fun y hy e => lessL_ne (hall y hy) e.symm
        refine ⟨List.pairwise_cons.2 ⟨hall, h⟩, fun y => ?_⟩
        rw [amt_none hne, hwx, List.mem_cons, heq]
        constructor
        · rintro (h3 | hy)
          · exact .inr h3
          · exact .inl ⟨hy, hne y hy⟩
        · rintro (⟨hy, _⟩ | h3)
          · exact .inr hy
          · exact .inl h3
      · rw [if_neg h2]
        have hk := key_of_not h1 h2
        have hne : ∀ y ∈ r, legKey y ≠ legKey x := fun y hy e => lessL_ne (hz y hy) (hk.trans e.symm)
        refine ⟨List.pairwise_cons.2 ⟨fun y hy => ?_, hr⟩, fun y => ?_⟩
        · exact ((lessL_key (x := ⟨z.account, wrap64 (z.amount + x.amount), z.currency⟩) (x' := z) (z := y) rfl).1).trans (hz y hy)
        · rw [amt, if_pos hk, List.mem_cons, List.mem_cons]
          constructor
          · rintro (rfl | hy)
            · exact .inr ⟨hk, rfl⟩
            · exact .inl ⟨.inr hy, hne y hy⟩
          · rintro (⟨rfl | hy, h3⟩ | ⟨h3, h4⟩)
            · exact absurd hk h3
            · exact .inr hy
            · left
              rw [← hk] at h3
              obtain ⟨ya, ym, yc⟩ := y
              simp only [legKey, Prod.mk.injEq] at h3
              simp only at h4
              rw [h4, h3.1, h3.2]
theorem asc_nodup {t : List Leg} (h : Asc t) : (t.map legKey).Nodup := by
  rw [List.Nodup, List.pairwise_map]
  exact h.imp fun h => lessL_ne h
theorem rtr_cl (l : List Entry) (h : ∀ x ∈ allL l, I64 x.amount) : Asc ((rtr3 l).map toL) ∧ Cl (allL l) ((rtr3 l).map toL) := by
  rw [rtr3_all]
  generalize allL l = xs at h ⊢
  have key : ∀ (xs ys : List Leg) (t : List L3), (∀ x ∈ xs, I64 x.amount) → Asc (t.map toL) → Cl ys (t.map toL) → Asc ((xs.foldl ad3 t).map toL) ∧ Cl (ys ++ xs) ((xs.foldl ad3 t).map toL) := by
    intro xs
    induction xs with
    | nil => intro ys t _ h1 h2; simpa using ⟨h1, h2⟩
    | cons x xs ih =>
      intro ys t hx h1 h2
      obtain ⟨a1, a2⟩ := addG_spec x (hx x (List.mem_cons_self ..)) _ h1
      have := ih (ys ++ [x]) (ad3 t x) (fun z hz => hx z (List.mem_cons_of_mem _ hz)) (by rw [ad3_map]; exact a1) (by rw [ad3_map]; exact h2.step (asc_nodup a1) a2)
      simpa using this
  simpa using key xs [] [] h List.Pairwise.nil Cl.nil
theorem nodup_of_keys {s : List Leg} (h : (s.map legKey).Nodup) : s.Nodup := by
  rw [List.Nodup, List.pairwise_map] at h
  exact h.imp fun h e => h (by rw [e])
theorem filt_map (t : List L3) : (t.filter nz3).map toL = (t.map toL).filter fun x => x.amount != 0 := by
  rw [List.filter_map]; rfl
theorem tr_ref (l : List Entry) (h : ∀ x ∈ allL l, I64 x.amount) : trF l = ((rtr3 l).filter nz3).map toL := by
  obtain ⟨h1, h2⟩ := rtr_cl l h
  have h3 := sums_cl l
  rw [filt_map]
  generalize (rtr3 l).map toL = t at h1 h2
  unfold trF
  have hp : t.Perm (sumsL l) := (List.perm_ext_iff_of_nodup (nodup_of_keys h2.1) (nodup_of_keys h3.1)).2 fun y => (h2.2 y).trans (h3.2 y).symm
  refine (sorted_uniqL (l := t.filter fun x => x.amount != 0) ?_ (hp.filter _) ((h1.filter _).imp fun h => fun h' => lessL_irr _ (lessL_tra h h'))).symm
  exact (h3.1.sublist ((List.filter_sublist ..).map _))
theorem l3s_legs (t : List L3) : l3s t = encL Leg.v (t.map toL) := by
  simp only [l3s, encL, List.map_map]; rfl
end Go.Proofs.Ytggmlfmhinafhaa
