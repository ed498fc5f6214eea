/-
  The law on the gap of what is left answers true for every input, and its arguments read as they did.
-/
import Derived.Test.YtmhpmghhgppdnaaChecks
import Derived.Test.YtmhpmghhgppdnaaEq8
namespace Go.Proofs.Ytmhpmghhgppdnaa
open Go.VM Go.RowKit
/-! ### Sums -/
def sumI : List Int → Int
  | [] => 0
  | x :: r => x + sumI r
theorem sumI_append : ∀ (l m : List Int), sumI (l ++ m) = sumI l + sumI m
  | [], m => by simp [sumI]
  | x :: r, m => by rw [List.cons_append, sumI, sumI_append r m, sumI]; omega
theorem sumI_perm {l m : List Int} (h : l.Perm m) : sumI l = sumI m := by
  induction h with
  | nil => rfl
  | cons x _ ih => simp only [sumI, ih]
  | swap x y l => simp only [sumI]; omega
  | trans _ _ h1 h2 => exact h1.trans h2
def amts (l : List Item) : List Int := l.map (·.amount)
def allV (l : List Item) : Prop := ∀ x ∈ l, validA x.amount = true
theorem badA_none {l : List Item} : (List.range l.length).findSome? (badA l) = none ↔ allV l := by
  rw [range_find_none]
  constructor
  · intro h x hx
    obtain ⟨i, hi, rfl⟩ := List.mem_iff_getElem.1 hx
    have := h i hi
    simp only [badA, List.getElem?_eq_getElem hi] at this
    split at this
    · assumption
    · cases this
  · intro h i hi
    simp only [badA, List.getElem?_eq_getElem hi]
    rw [if_pos (h _ (List.getElem_mem hi))]
theorem psum_eq {l : List Item} (h : allV l) (hl : l.length ≤ 4096) : ∀ i, i ≤ l.length → psum l i = sumI (amts (l.take i)) ∧ -(1000000000000 * (i : Int)) ≤ sumI (amts (l.take i)) ∧ sumI (amts (l.take i)) ≤ 1000000000000 * (i : Int)
  | 0, _ => by simp [psum, amts, sumI]
  | i + 1, hi => by
    obtain ⟨h1, h2, h3⟩ := psum_eq h hl i (by omega)
    have hv := h _ (List.getElem_mem (show i < l.length by omega))
    simp only [validA, Bool.and_eq_true, decide_eq_true_eq] at hv
    have hs : sumI (amts (l.take (i + 1))) = sumI (amts (l.take i)) + l[i].amount := by
      rw [List.take_succ_eq_append_getElem (by omega)]
      unfold amts
      rw [List.map_append, sumI_append]
      simp [sumI]
    rw [hs]
    refine ⟨?_, by omega, by omega⟩
    have he : psum l (i + 1) = IntKind.i64.wrap (psum l i + l[i].amount) := by
      simp only [psum, List.getElem?_eq_getElem (show i < l.length by omega), Option.map_some, Option.getD_some]
    rw [he, h1]
    have hr : -9223372036854775808 ≤ sumI (amts (l.take i)) + l[i].amount ∧ sumI (amts (l.take i)) + l[i].amount < 9223372036854775808 := by omega
    generalize sumI (amts (l.take i)) + l[i].amount = z at hr
    simp [IntKind.wrap, IntKind.bits, IntKind.signed]
    omega
theorem sumO_eq {l : List Item} (h : allV l) (hl : l.length ≤ 4096) : sumO l = some (sumI (amts l)) := by
  unfold sumO
  rw [badA_none.2 h]
  have := (psum_eq h hl l.length (Nat.le_refl _)).1
  rw [List.take_length] at this
  simp only [this]
theorem sumO_valid {l : List Item} {n : Int} (h : sumO l = some n) : allV l := by
  refine badA_none.1 ?_
  unfold sumO at h
  split at h
  · cases h
  · assumption
/-! ### What is chosen -/
def chP (l : List Item) (ks : List Int) : List Item := ks.filterMap fun k => l[k.toNat]?
theorem chP_sum (l : List Item) : ∀ (ks : List Int), (∀ k ∈ ks, ∃ i : Nat, i < l.length ∧ k = i) → sumI (amts (chP l ks)) = sumI (ks.map (amtAt l))
  | [], _ => rfl
  | k :: r, h => by
    obtain ⟨i, hi, rfl⟩ := h k (List.mem_cons_self ..)
    have ih := chP_sum l r fun k hk => h k (List.mem_cons_of_mem _ hk)
    have e : chP l ((i : Int) :: r) = l[i] :: chP l r := by
      unfold chP
      rw [List.filterMap_cons_some (b := l[i]) (by simp [hi])]
    rw [e, List.map_cons]
    simp only [amts, List.map_cons, sumI] at ih ⊢
    rw [ih]
    simp [amtAt, hi]
theorem chP_valid {l : List Item} (h : allV l) (ks : List Int) : allV (chP l ks) := by
  intro x hx
  obtain ⟨k, _, hk⟩ := List.mem_filterMap.1 hx
  obtain ⟨hi, rfl⟩ := List.getElem?_eq_some_iff.1 hk
  exact h _ (List.getElem_mem hi)
theorem chP_len (l : List Item) (ks : List Int) : (chP l ks).length ≤ ks.length := List.length_filterMap_le _ _
theorem left_perm (n : Nat) (ks : List Int) (hd : ks.Nodup) (hin : ∀ k ∈ ks, ∃ i : Nat, i < n ∧ k = i) : (ks ++ restP n ks).Perm ((List.range n).map fun (i : Nat) => (i : Int)) := by
  have hr : ((List.range n).map fun (i : Nat) => (i : Int)).Nodup := by
    refine (List.pairwise_map.2 ?_)
    exact List.pairwise_lt_range.imp fun h => by omega
  refine (List.perm_ext_iff_of_nodup ?_ hr).2 fun k => ?_
  · refine List.nodup_append.2 ⟨hd, ?_, fun u hu v hv => ?_⟩
    · unfold restP
      refine List.pairwise_map.2 ?_
      exact (List.Pairwise.filter _ List.pairwise_lt_range).imp fun h => by omega
    · unfold restP at hv
      simp only [List.mem_map, List.mem_filter, Bool.not_eq_true', Bool.eq_false_iff, ne_eq, List.contains_iff_mem] at hv
      obtain ⟨i, ⟨_, h2⟩, rfl⟩ := hv
      rintro rfl; exact h2 hu
  · unfold restP
    simp only [List.mem_append, List.mem_map, List.mem_filter, List.mem_range, Bool.not_eq_true', Bool.eq_false_iff, ne_eq, List.contains_iff_mem]
    constructor
    · rintro (h | ⟨i, ⟨h1, _⟩, rfl⟩)
      · obtain ⟨i, h1, rfl⟩ := hin k h
        exact ⟨i, h1, rfl⟩
      · exact ⟨i, h1, rfl⟩
    · rintro ⟨i, h1, rfl⟩
      by_cases h : (i : Int) ∈ ks
      · exact .inl h
      · exact .inr ⟨i, ⟨h1, h⟩, rfl⟩
theorem all_amts (l : List Item) : (((List.range l.length).map fun (i : Nat) => (i : Int)).map (amtAt l)) = amts l := by
  refine List.ext_getElem (by simp [amts]) fun i h1 h2 => ?_
  have hi : i < l.length := by simpa [amts] using h2
  simp [amts, amtAt, hi]
theorem part_sum (l : List Item) (ks : List Int) (hd : ks.Nodup) (hin : ∀ k ∈ ks, ∃ i : Nat, i < l.length ∧ k = i) : sumI (amts l) = sumI (ks.map (amtAt l)) + sumI (amts (chP l (restP l.length ks))) := by
  have hp := sumI_perm ((left_perm l.length ks hd hin).map (amtAt l))
  rw [all_amts, List.map_append, sumI_append] at hp
  rw [← hp, chP_sum]
  intro k hk
  have : k ∈ ks ++ restP l.length ks := List.mem_append_right _ hk
  obtain ⟨i, hi, e⟩ := List.mem_map.1 ((left_perm l.length ks hd hin).mem_iff.1 this)
  exact ⟨i, List.mem_range.1 hi, e.symm⟩
/-- Behind Match the gap is the same. -/
theorem gap_left (a b : List Item) (ha : a.length ≤ 4096) (hb : b.length ≤ 4096) (h : (gapR a b).2 = 0) : gapR (chP a (freeP a.length (allR3 a b) true)) (chP b (freeP b.length (allR3 a b) false)) = gapR a b := by
  have hG := good_all a b
  cases hx : sumO a with
  | none => simp [gapR, hx] at h
  | some x =>
    cases hy : sumO b with
    | none => simp [gapR, hx, hy] at h
    | some y =>
      have va := sumO_valid hx
      have vb := sumO_valid hy
      have ex := sumO_eq va ha
      have ey := sumO_eq vb hb
      have la : (chP a (freeP a.length (allR3 a b) true)).length ≤ 4096 := by
        have h1 := chP_len a (freeP a.length (allR3 a b) true)
        have h2 : (freeP a.length (allR3 a b) true).length ≤ a.length := restP_len _ _
        omega
      have lb : (chP b (freeP b.length (allR3 a b) false)).length ≤ 4096 := by
        have h1 := chP_len b (freeP b.length (allR3 a b) false)
        have h2 : (freeP b.length (allR3 a b) false).length ≤ b.length := restP_len _ _
        omega
      have cx := sumO_eq (chP_valid va (freeP a.length (allR3 a b) true)) la
      have cy := sumO_eq (chP_valid vb (freeP b.length (allR3 a b) false)) lb
      have p1 := part_sum a ((allR3 a b).map (keyP true)) hG.k1 (good_key1 hG)
      have p2 := part_sum b ((allR3 a b).map (keyP false)) hG.k2 (good_key2 hG)
      have em : ((allR3 a b).map (keyP true)).map (amtAt a) = ((allR3 a b).map (keyP false)).map (amtAt b) := by
        rw [List.map_map, List.map_map]
        refine List.map_congr_left fun z hz => ?_
        obtain ⟨i, k, hi, hk, e1, e2, _, hf⟩ := hG.ok z hz
        simp only [fitsR, Bool.and_eq_true, decide_eq_true_eq] at hf
        simp only [Function.comp, keyP, if_true, Bool.false_eq_true, if_false]
        rw [e1, e2]
        simp [amtAt, hi, hk, hf.1]
      rw [em] at p1
      have hd : sumI (amts (chP a (freeP a.length (allR3 a b) true))) - sumI (amts (chP b (freeP b.length (allR3 a b) false))) = sumI (amts a) - sumI (amts b) := by
        unfold freeP
        omega
      simp only [gapR, ex, ey, cx, cy, hd]
theorem gap_err {a b : List Item} (h : (gapR a b).2 ≠ 0) : (gapR a b).1 = 0 := by
  unfold gapR at h ⊢
  split
  · rename_i x y hx hy
    rw [hx, hy] at h
    simp only at h
    split
    · rename_i hv; rw [if_pos hv] at h; exact absurd rfl h
    · rfl
  · rfl
/-! ### The law -/
section
variable {X : Orc}
theorem o22 (l : List Item) (ks : List Int) (hl : l.length ≤ 4096) (hk : ks.length ≤ 4096) (hin : ∀ k ∈ ks, ∃ i : Nat, i < l.length ∧ k = i) : O X 22 [.l (items l), .l (ints ks)] = some (.ow 40 (items (chP l ks))) := by
  refine orun (fc := code22) rfl rfl rfl ?_
  have hl := loopK_run (o := O X) (kin := [0, 1, 5, 6]) (c := body22_1) (fun i => [(0, .l (items l)), (1, .l (ints ks)), (5, .ow 40 (items (chP l (ks.take i)))), (6, .i .i64 i)]) ks.length (.e 0, [(5, .ow 40 (items (chP l ks)))]) (by simp) (fun i hi => by
    have hw := wrap_i64 (i + 1) (by omega)
    obtain ⟨p, hp, e⟩ := hin _ (List.getElem_mem hi)
    have hlen := chP_len l (ks.take i)
    rw [List.length_take] at hlen
    have hb : ((chP l (ks.take i)).length + 1) * 32 ≤ 140737488355328 := by omega
    have hs : chP l (ks.take (i + 1)) = chP l (ks.take i) ++ [l[p]] := by
      unfold chP
      rw [List.take_succ_eq_append_getElem hi, List.filterMap_append, e]
      simp [hp]
    simp [body22_1, hi, hw, e, hp, hs, hb, encL_append, encL_cons, encL_nil]) (by simp [body22_1]) (by simp)
  have h0 : chP l (ks.take 0) = [] := by simp [chP]
  simp only [zz, h0, items, encL_nil] at hl
  simp [code22, exec_loopK, hl]
end
theorem o7 (a b : List Item) (hda : daysOk a) (hdb : daysOk b) : O XM 7 [.l (items a), .l (items b)] = some (.b true) := by
  refine orun (fc := code7) rfl rfl rfl ?_
  have h1 := o9 (X := XM) a
  have h2 := o9 (X := XM) b
  have hlive := live
  cases ha : greatP a with
  | true => rw [ha] at h1; simp [code7, h1, hlive]
  | false =>
    rw [ha] at h1
    cases hb : greatP b with
    | true => rw [hb] at h2; simp [code7, h1, h2, hlive]
    | false =>
      rw [hb] at h2
      have la := greatP_len ha
      have lb := greatP_len hb
      have g1 := o17 (X := XM) a b (by omega) (by omega)
      have g2 := o18 (X := XM) a b (by omega) (by omega)
      by_cases hf : (gapR a b).2 = 0
      · have h3 := XM_ok (a := a) (b := b) (by omega) (by omega) hda hdb
        rw [matchV_eq] at h3
        have m1 : (freeP a.length (allR3 a b) true).length ≤ a.length := restP_len _ _
        have m2 : (freeP b.length (allR3 a b) false).length ≤ b.length := restP_len _ _
        have c1 := o22 (X := XM) a (freeP a.length (allR3 a b) true) (by omega) (by omega) (fun k hk => by
          obtain ⟨i, hi, e, _⟩ := freeP_mem.1 hk
          exact ⟨i, hi, e⟩)
        have c2 := o22 (X := XM) b (freeP b.length (allR3 a b) false) (by omega) (by omega) (fun k hk => by
          obtain ⟨i, hi, e, _⟩ := freeP_mem.1 hk
          exact ⟨i, hi, e⟩)
        have n1 := chP_len a (freeP a.length (allR3 a b) true)
        have n2 := chP_len b (freeP b.length (allR3 a b) false)
        have g3 := o17 (X := XM) (chP a (freeP a.length (allR3 a b) true)) (chP b (freeP b.length (allR3 a b) false)) (by omega) (by omega)
        rw [gap_left a b (by omega) (by omega) hf] at g3
        simp [code7, h1, h2, g1, g2, h3, c1, c2, g3, hf, hlive]
      · have hz := gap_err hf
        simp [code7, h1, h2, g1, g2, hf, hz, hlive]
end Go.Proofs.Ytmhpmghhgppdnaa
namespace Go.Proofs.Ytmhpmghhgppdnaa
open Go.ChangeShapes Go.WideShapes Go.ChangeAt Go.RowKit Go.VM

theorem days_of {l : List Item} (h : ∀ y ∈ l, y.ok) : daysOk l := fun y hy => (h y hy).2.1
theorem pf7 (xs : List V) (h : FitAll Try.prog [22, 22] xs) : PF Try.prog 7 xs (.b true) := by
  obtain ⟨y1, r1, rfl, h1, y2, r2, rfl, h2, rfl⟩ := h
  obtain ⟨a, rfl, _, ha⟩ := arg22 h1
  obtain ⟨b, rfl, _, hb⟩ := arg22 h2
  rw [pack22, pack22]
  exact (sound.2 7 _ _ (o7 a b (days_of ha) (days_of hb))).2
set_option maxRecDepth 100000 in
theorem reconcileLeft_lifted (os : Os) (started : os.Started) (H : Type) (enc : TypeId × Value → H) :
    ReturnsInHanded {} Try.checked os 7 .any (Rows.reconcileLeftSpec.pre6 enc Try.prog Try.f7 Rows.reconcileLeftRow.domain false) (Rows.reconcileLeftSpec.post enc Try.prog Try.f7 false true false false) := by
  refine returnsInHanded_of_change (C := Try.checked) own started (by kernel_rfl) Try.func7
    (ChangeSpec.witness6 (enc := enc) (C := Try.checked) false ⟨#[], #[.slice none 0 0, .slice none 0 0], []⟩ 8 (by kernel_rfl) (by kernel_rfl) (by kernel_rfl) (by kernel_rfl)) ?_
  intro W base args ds gs before hval hW _ _
  refine calls_true (P := Try.prog) laidOut ?_ ?_ (tb := 4) rfl Try.underlying4 rfl ?_ ?_ hval hW (fun _ h => by cases h)
  · rw [Try.params7]; simp only [List.mem_cons, List.not_mem_nil, or_false, forall_eq_or_imp, forall_eq]
    exact ⟨⟨by kernel_rfl, by decide +kernel⟩, ⟨by kernel_rfl, by decide +kernel⟩⟩
  · rw [Try.params7]; simp only [List.mem_cons, List.not_mem_nil, or_false, forall_eq_or_imp, forall_eq]
    exact ⟨by kernel_rfl, by kernel_rfl⟩
  · rw [Try.params7]
    intro ds hd
    match ds, hd with
    | [d1, d2], _ => rfl
  · rw [Try.params7]; exact pf7
theorem reconcileLeft_holds : Rows.ReconcileLeftSaid :=
  OpenClaim.holds_of_wide 7 Try.f7 rfl rfl rfl rfl rfl rfl rfl ⟨rfl, rfl, rfl, rfl, rfl⟩ rfl rfl rfl rfl rfl (by kernel_rfl) Try.func7 (by kernel_rfl)
    (of_decide_eq_true (by kernel_rfl)) (by unfold Func.isWrapper; first | (rw [if_pos (by decide +kernel)]; kernel_rfl) | (rw [if_neg (by decide +kernel)]; exact ⟨rfl, rfl⟩))
    (fun os started H enc _ => reconcileLeft_lifted os started H enc)
#print axioms reconcileLeft_holds
end Go.Proofs.Ytmhpmghhgppdnaa
