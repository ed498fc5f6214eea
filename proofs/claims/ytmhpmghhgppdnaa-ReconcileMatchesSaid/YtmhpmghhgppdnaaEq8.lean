/-
  Match finds what the reference finds: plain data.
-/
import Derived.Test.YtmhpmghhgppdnaaEq7
import Derived.Test.YtmhpmghhgppdnaaMut
import Derived.Test.YtmhpmghhgppdnaaExt
namespace Go.Proofs.Ytmhpmghhgppdnaa
open Go.VM Go.RowKit
/-- What pass and item ask of the other's k-th item. -/
def wantB (b : List Item) (tak : List Int) (x : Item) (pass : Int) (k : Nat) : Bool := match b[k]? with
  | some y => !tak.contains (k : Int) && fitsR x y pass
  | none => false
theorem find_idxs (b : List Item) (p : Item → Bool) (q : Int → Bool) : (idxs b p).find? q = ((List.range b.length).find? fun (k : Nat) => (match b[k]? with | some y => p y | none => false) && q (k : Int)).map fun (k : Nat) => (k : Int) := by
  unfold idxs
  rw [List.find?_map, List.find?_filter]
  congr 2
  funext k
  simp only [Function.comp, Bool.decide_and, Bool.decide_eq_true]
  cases b[k]? <;> rfl
theorem matchP_eq (b : List Item) (tak : List Int) (x : Item) {pass : Int} (hp : pass = 1 ∨ pass = 2 ∨ pass = 3) : matchP b tak x pass = ((List.range b.length).find? (wantB b tak x pass)).map fun (k : Nat) => (k : Int) := by
  have key : ∀ (p : Item → Bool) (f : Item → Bool), (∀ y, (p y && f y) = fitsR x y pass) → (idxs b p).find? (goodT b tak f) = ((List.range b.length).find? (wantB b tak x pass)).map fun (k : Nat) => (k : Int) := by
    intro p f h
    rw [find_idxs]
    congr 2
    funext k
    unfold wantB goodT
    rw [Int.toNat_natCast]
    cases hy : b[k]? with
    | none => simp
    | some y =>
      simp only
      rw [← h y]
      cases p y <;> cases f y <;> cases tak.contains (k : Int) <;> rfl
  unfold matchP takeP
  rcases hp with rfl | rfl | rfl
  · refine key _ _ fun y => ?_
    simp only [fitP, fitsR, if_true]
    rw [Bool.and_comm, decide_eq_decide.2 (eq_comm (a := y.amount)), decide_eq_decide.2 (eq_comm (a := y.ref))]
  · refine key _ _ fun y => ?_
    simp only [fitP, fitsR, if_true, show ¬ (2 : Int) = 1 by decide, if_false]
    rw [decide_eq_decide.2 (eq_comm (a := y.amount)), decide_eq_decide.2 (eq_comm (a := y.day))]
  · refine key _ _ fun y => ?_
    simp only [fitP, fitsR, show ¬ (3 : Int) = 1 by decide, show ¬ (3 : Int) = 2 by decide, if_false]
    rw [decide_eq_decide.2 (eq_comm (a := y.amount))]
/-- The sets are the pairs' own. -/
structure Same (st : St3) (l : List Tri) : Prop where
  out : st.out = l
  met : st.met = l.map (keyP true)
  tak : st.tak = l.map (keyP false)
theorem step_same (a b : List Item) {pass : Int} (hp : pass = 1 ∨ pass = 2 ∨ pass = 3) {st : St3} {l : List Tri} (h : Same st l) {i : Nat} (hi : i < a.length) : Same (step3 a b pass st i) (rowR a b pass i l b.length) := by
  unfold step3 rowR
  rw [List.getElem?_eq_getElem hi]
  simp only
  cases hc : (l.map (keyP true)).contains (i : Int) with
  | true =>
    rw [foldR_in a b pass i _ l hc, h.met, hc, if_pos rfl]
    exact h
  | false =>
    rw [foldR a b pass i _ l hc, h.met, hc, if_neg (by simp), matchP_eq b st.tak a[i] hp]
    have e : okR a b pass i l = wantB b st.tak a[i] pass := by
      funext k
      unfold okR wantB
      rw [List.getElem?_eq_getElem hi, h.tak, hc]
      cases b[k]? with
      | none => rfl
      | some y => simp only [Bool.not_false, Bool.true_and]
    rw [e]
    cases (List.range b.length).find? (wantB b st.tak a[i] pass) with
    | none => exact h
    | some k =>
      simp only [Option.map_some]
      exact ⟨by simp [h.out], by simp [keyP], by simp [h.tak, keyP]⟩
theorem pass_same (a b : List Item) {pass : Int} (hp : pass = 1 ∨ pass = 2 ∨ pass = 3) {st : St3} {l : List Tri} (h : Same st l) : Same (pass3 a b pass st) (passR a b pass l a.length) := by
  have key : ∀ n, n ≤ a.length → Same ((List.range n).foldl (step3 a b pass) st) (passR a b pass l n) := by
    intro n
    induction n with
    | zero => intro _; exact h
    | succ n ih =>
      intro hn
      rw [List.range_succ, List.foldl_append]
      exact step_same a b hp (ih (by omega)) (by omega)
  exact key _ (Nat.le_refl _)
theorem all_same (a b : List Item) : Same (all3 a b) (allR3 a b) :=
  pass_same a b (.inr (.inr rfl)) (pass_same a b (.inr (.inl rfl)) (pass_same a b (.inl rfl) ⟨rfl, rfl, rfl⟩))
/-- What a pair says. -/
def PairOK (a b : List Item) (x : Tri) : Prop := ∃ (i k : Nat) (hi : i < a.length) (hk : k < b.length), x.1 = i ∧ x.2.1 = k ∧ (x.2.2 = 1 ∨ x.2.2 = 2 ∨ x.2.2 = 3) ∧ fitsR a[i] b[k] x.2.2 = true
structure Good (a b : List Item) (l : List Tri) : Prop where
  k1 : (l.map (keyP true)).Nodup
  k2 : (l.map (keyP false)).Nodup
  ok : ∀ x ∈ l, PairOK a b x
theorem Good.nil (a b : List Item) : Good a b [] := ⟨by simp, by simp, by simp⟩
theorem Good.step {a b : List Item} {l : List Tri} (h : Good a b l) {pass : Int} (hp : pass = 1 ∨ pass = 2 ∨ pass = 3) (i k : Nat) : Good a b (stepR a b pass i l k) := by
  unfold stepR
  split
  · rename_i hok
    unfold okR at hok
    split at hok
    · rename_i x y hx hy
      simp only [Bool.and_eq_true, Bool.not_eq_true'] at hok
      obtain ⟨h1, h2, h3⟩ := hok
      obtain ⟨hi, rfl⟩ := List.getElem?_eq_some_iff.1 hx
      obtain ⟨hk, rfl⟩ := List.getElem?_eq_some_iff.1 hy
      have n1 : (i : Int) ∉ l.map (keyP true) := fun hc => by rw [← List.contains_iff_mem, h1] at hc; cases hc
      have n2 : (k : Int) ∉ l.map (keyP false) := fun hc => by rw [← List.contains_iff_mem, h2] at hc; cases hc
      refine ⟨?_, ?_, fun z hz => ?_⟩
      · rw [List.map_append]
        exact List.nodup_append.2 ⟨h.k1, by simp, fun u hu v hv => by
          simp only [List.map_cons, List.map_nil, List.mem_singleton, keyP, if_true] at hv
          rintro rfl; exact n1 (hv ▸ hu)⟩
      · rw [List.map_append]
        exact List.nodup_append.2 ⟨h.k2, by simp, fun u hu v hv => by
          simp only [List.map_cons, List.map_nil, List.mem_singleton, keyP, Bool.false_eq_true, if_false] at hv
          rintro rfl; exact n2 (hv ▸ hu)⟩
      · rcases List.mem_append.1 hz with hz | hz
        · exact h.ok z hz
        · rw [List.mem_singleton] at hz
          subst hz
          exact ⟨i, k, hi, hk, rfl, rfl, hp, h3⟩
    · cases hok
  · exact h
theorem Good.row {a b : List Item} {pass : Int} (hp : pass = 1 ∨ pass = 2 ∨ pass = 3) (i : Nat) : ∀ (ks : List Nat) {l : List Tri}, Good a b l → Good a b (ks.foldl (stepR a b pass i) l)
  | [], _, h => h
  | k :: ks, _, h => Good.row hp i ks (h.step hp i k)
theorem Good.pass {a b : List Item} {l : List Tri} (h : Good a b l) {pass : Int} (hp : pass = 1 ∨ pass = 2 ∨ pass = 3) : ∀ n, Good a b (passR a b pass l n)
  | 0 => h
  | n + 1 => Good.row hp n _ (Good.pass h hp n)
theorem good_all (a b : List Item) : Good a b (allR3 a b) :=
  ((((Good.nil a b).pass (.inl rfl) _).pass (.inr (.inl rfl)) _).pass (.inr (.inr rfl)) _)
/-! ### In order -/
theorem key_inj {l : List Tri} {c : Bool} (h : (l.map (keyP c)).Nodup) {x y : Tri} (hx : x ∈ l) (hy : y ∈ l) (he : keyP c x = keyP c y) : x = y := by
  induction l with
  | nil => cases hx
  | cons z r ih =>
    rw [List.map_cons, List.nodup_cons] at h
    rcases List.mem_cons.1 hx with rfl | hx'
    · rcases List.mem_cons.1 hy with rfl | hy'
      · rfl
      · exact absurd (List.mem_map.2 ⟨y, hy', he.symm⟩) h.1
    · rcases List.mem_cons.1 hy with rfl | hy'
      · exact absurd (List.mem_map.2 ⟨x, hx', he⟩) h.1
      · exact ih h.2 hx' hy'
theorem pickR_mem {l : List Tri} (h : (l.map (keyP true)).Nodup) (i : Nat) (x : Tri) : x ∈ pickR l i ↔ x ∈ l ∧ x.1 = i := by
  unfold pickR
  cases hq : (List.range l.length).findSome? (atF l i true) with
  | none =>
    have h0 := range_find_none.1 hq
    simp only [List.not_mem_nil, false_iff]
    rintro ⟨hx, hi⟩
    obtain ⟨j, hj, rfl⟩ := List.mem_iff_getElem.1 hx
    have := h0 j hj
    simp [atF, hj, keyP, hi] at this
  | some k =>
    obtain ⟨j, _, hj⟩ := List.exists_of_findSome?_eq_some hq
    obtain ⟨rfl, hk, hkey⟩ := atF_some hj
    simp only [List.getElem?_eq_getElem hk, Option.toList_some, List.mem_singleton]
    constructor
    · rintro rfl; exact ⟨List.getElem_mem hk, by simpa [keyP] using hkey⟩
    · rintro ⟨hx, hi⟩
      refine key_inj h hx (List.getElem_mem hk) ?_
      rw [hkey]; simpa [keyP] using hi
theorem outT_mem {l : List Tri} (h : (l.map (keyP true)).Nodup) (x : Tri) : ∀ n, x ∈ outT l n ↔ x ∈ l ∧ ∃ i, i < n ∧ x.1 = i
  | 0 => by simp [outT]
  | n + 1 => by
    simp only [outT, List.mem_append, outT_mem h x n, pickR_mem h n x]
    constructor
    · rintro (⟨h1, i, h2, h3⟩ | ⟨h1, h2⟩)
      · exact ⟨h1, i, by omega, h3⟩
      · exact ⟨h1, n, by omega, h2⟩
    · rintro ⟨h1, i, h2, h3⟩
      rcases Nat.lt_or_ge i n with h4 | h4
      · exact .inl ⟨h1, i, h4, h3⟩
      · obtain rfl : i = n := by omega
        exact .inr ⟨h1, h3⟩
theorem outT_pw {l : List Tri} (h : (l.map (keyP true)).Nodup) : ∀ n, (outT l n).Pairwise fun x y => x.1 < y.1
  | 0 => List.Pairwise.nil
  | n + 1 => by
    simp only [outT]
    refine List.pairwise_append.2 ⟨outT_pw h n, ?_, fun x hx y hy => ?_⟩
    · have := pickR_len l n
      cases hp : pickR l n with
      | nil => exact List.Pairwise.nil
      | cons z r =>
        rw [hp] at this
        have : r = [] := by simpa using this
        subst this
        exact List.pairwise_singleton _ _
    · obtain ⟨_, i, hi, he⟩ := (outT_mem h x n).1 hx
      obtain ⟨_, hy⟩ := (pickR_mem h n y).1 hy
      omega
theorem insT_sorted (x : Tri) : ∀ l : List Tri, (l.Pairwise fun x y => x.1 ≤ y.1) → (insT x l).Pairwise fun x y => x.1 ≤ y.1
  | [], _ => by simp [insT]
  | y :: r, h => by
    unfold insT
    have h' := List.pairwise_cons.1 h
    split
    · refine List.pairwise_cons.2 ⟨fun z hz => ?_, h⟩
      rcases List.mem_cons.1 hz with rfl | hz
      · assumption
      · have := h'.1 z hz; omega
    · refine List.pairwise_cons.2 ⟨fun z hz => ?_, insT_sorted x r h'.2⟩
      rcases List.mem_cons.1 ((insT_perm x r).mem_iff.1 hz) with rfl | hz
      · omega
      · exact h'.1 z hz
theorem isortT_sorted : ∀ l : List Tri, (isortT l).Pairwise fun x y => x.1 ≤ y.1
  | [] => by simp [isortT]
  | x :: r => insT_sorted x _ (isortT_sorted r)
theorem nodup_of_map {α β : Type} {f : α → β} : ∀ {l : List α}, (l.map f).Nodup → l.Nodup
  | [], _ => List.nodup_nil
  | x :: r, h => by
    rw [List.map_cons, List.nodup_cons] at h
    exact List.nodup_cons.2 ⟨fun hx => h.1 (List.mem_map.2 ⟨x, hx, rfl⟩), nodup_of_map h.2⟩
theorem isort_out {a b : List Item} {l : List Tri} (h : Good a b l) : isortT l = outT l a.length := by
  have hpw := outT_pw h.k1 a.length
  have hperm : (outT l a.length).Perm l := by
    refine (List.perm_ext_iff_of_nodup (hpw.imp fun {x y} hxy => by rintro rfl; omega) (nodup_of_map h.k1)).2 fun x => ?_
    rw [outT_mem h.k1]
    refine ⟨fun h => h.1, fun hx => ⟨hx, ?_⟩⟩
    obtain ⟨i, _, hi, _, e, _⟩ := h.ok x hx
    exact ⟨i, hi, e⟩
  refine List.Perm.eq_of_pairwise (le := fun x y : Tri => x.1 ≤ y.1) (fun x y hx hy h1 h2 => ?_) (isortT_sorted l) (hpw.imp fun h => by omega) ((isortT_perm l).trans hperm.symm)
  refine key_inj (c := true) h.k1 ((isortT_perm l).mem_iff.1 hx) (hperm.mem_iff.1 hy) ?_
  simp only [keyP, if_true]; omega
theorem strict_of_pw : ∀ {l : List Tri}, (l.Pairwise fun x y => x.1 < y.1) → strictT l = true
  | [], _ => rfl
  | [_], _ => rfl
  | x :: y :: r, h => by
    have h' := List.pairwise_cons.1 h
    simp only [strictT, Bool.and_eq_true, decide_eq_true_eq]
    exact ⟨h'.1 y (List.mem_cons_self ..), strict_of_pw h'.2⟩
/-- Match, as the reference says it. -/
def outM (a b : List Item) : List Tri := outT (allR3 a b) a.length
theorem matchV_eq (a b : List Item) : matchV a b = .t [.l (tris (outM a b)), .l (ints (freeP a.length (allR3 a b) true)), .l (ints (freeP b.length (allR3 a b) false))] := by
  have h := all_same a b
  unfold matchV freeP outM
  rw [h.out, h.met, h.tak, isort_out (good_all a b)]
theorem strict_all (a b : List Item) : strictT (isortT (all3 a b).out) = true := by
  rw [(all_same a b).out, isort_out (good_all a b)]
  exact strict_of_pw (outT_pw (good_all a b).k1 _)
theorem XM_ok {a b : List Item} (ha : a.length ≤ 4096) (hb : b.length ≤ 4096) (hda : daysOk a) (hdb : daysOk b) : O XM 11 [.l (items a), .l (items b)] = some (matchV a b) := by
  have h1 : dayB a = true := List.all_eq_true.2 fun y hy => decide_eq_true (hda y hy)
  have h2 : dayB b = true := List.all_eq_true.2 fun y hy => decide_eq_true (hdb y hy)
  have hx : XM 11 [.l (items a), .l (items b)] = some (matchV a b) := by
    unfold XM
    rw [if_pos rfl]
    simp only [toItems_enc, Option.bind_some]
    rw [if_pos]
    simp only [ha, hb, h1, h2, strict_all, decide_true, Bool.and_true]
  exact den_ext rfl hx
section
attribute [local simp] triV
variable {X : Orc}
theorem o13 (l : List Tri) (h : l.length ≤ 100000) : O X 13 [.l (tris l), .l (tris l)] = some (.b true) := by
  refine orun (fc := code13) rfl rfl rfl ?_
  have hl := loopK_run (o := O X) (kin := [0, 1, 5]) (c := body13_1) (fun i => [(0, .l (tris l)), (1, .l (tris l)), (5, .i .i64 i)]) l.length (.e 0, []) (by simp) (fun i hi => by
    have hw := wrap_i64 (i + 1) (by omega)
    simp [body13_1, hi, hw]) (by simp [body13_1]) (by simp)
  simp only [zz] at hl
  simp [code13, exec_loopK, hl]
theorem o14 (l : List Int) (h : l.length ≤ 100000) : O X 14 [.l (ints l), .l (ints l)] = some (.b true) := by
  refine orun (fc := code14) rfl rfl rfl ?_
  have hl := loopK_run (o := O X) (kin := [0, 1, 5]) (c := body14_1) (fun i => [(0, .l (ints l)), (1, .l (ints l)), (5, .i .i64 i)]) l.length (.e 0, []) (by simp) (fun i hi => by
    have hw := wrap_i64 (i + 1) (by omega)
    simp [body14_1, hi, hw]) (by simp [body14_1]) (by simp)
  simp only [zz] at hl
  simp [code14, exec_loopK, hl]
end
theorem o3 (a b : List Item) (hda : daysOk a) (hdb : daysOk b) : O XM 3 [.l (items a), .l (items b)] = some (.b true) := by
  refine orun (fc := code3) rfl rfl rfl ?_
  have h1 := o9 (X := XM) a
  have h2 := o9 (X := XM) b
  have hlive := live
  cases ha : greatP a with
  | true => rw [ha] at h1; simp [code3, h1, hlive]
  | false =>
    rw [ha] at h1
    cases hb : greatP b with
    | true => rw [hb] at h2; simp [code3, h1, h2, hlive]
    | false =>
      rw [hb] at h2
      have la := greatP_len ha
      have lb := greatP_len hb
      have h3 := XM_ok (a := a) (b := b) (by omega) (by omega) hda hdb
      rw [matchV_eq] at h3
      have h4 := o12 (X := XM) a b (by omega) (by omega) hda hdb
      have n1 := outT_len (allR3 a b) a.length
      have h5 := o13 (X := XM) (outM a b) (by unfold outM; omega)
      have m1 : (freeP a.length (allR3 a b) true).length ≤ a.length := restP_len _ _
      have m2 : (freeP b.length (allR3 a b) false).length ≤ b.length := restP_len _ _
      have h6 := o14 (X := XM) (freeP a.length (allR3 a b) true) (by omega)
      have h7 := o14 (X := XM) (freeP b.length (allR3 a b) false) (by omega)
      unfold outM at h3 h5
      simp [code3, h1, h2, h3, h4, h5, h6, h7, hlive]
end Go.Proofs.Ytmhpmghhgppdnaa
