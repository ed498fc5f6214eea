/-
  Match finds what the reference finds: plain data.
-/
import Derived.Test.YtmhpmghhgppdnaaEq6
import Derived.Test.YtmhpmghhgppdnaaMut
import Derived.Test.YtmhpmghhgppdnaaExt
import Derived.Test.YtmhpmghhgppdnaaEq5
namespace Go.Proofs.Ytmhpmghhgppdnaa
open Go.VM Go.RowKit
/-- What pass and item ask of the other's k-th item. -/
def wantB (b : List Item) (tak : List Int) (x : Item) (pass : Int) (k : Nat) : Bool := match b[k]? with
  | some y => !tak.contains (k : Int) && fitsR x y pass
  | none => false
theorem find_idxs (b : List Item) (p : Item → Bool) (q : Int → Bool) : (idxs b p).find? q = ((List.range b.length).find? fun (k : Nat) => (match b[k]? with | some y => p y | none => false) && q (k : Int)).map fun (k : Nat) => (k : Int) := by
  unfold idxs
  rw [List.find?_map, List.find?_filter]
  congr 2
  funext k
  simp only [Function.comp, Bool.decide_and, Bool.decide_eq_true]
  cases b[k]? <;> rfl
theorem matchP_eq (b : List Item) (tak : List Int) (x : Item) {pass : Int} (hp : pass = 1 ∨ pass = 2 ∨ pass = 3) : matchP b tak x pass = ((List.range b.length).find? (wantB b tak x pass)).map fun (k : Nat) => (k : Int) := by
  have key : ∀ (p : Item → Bool) (f : Item → Bool), (∀ y, (p y && f y) = fitsR x y pass) → (idxs b p).find? (goodT b tak f) = ((List.range b.length).find? (wantB b tak x pass)).map fun (k : Nat) => (k : Int) := by
    intro p f h
    rw [find_idxs]
    congr 2
    funext k
    unfold wantB goodT
    rw [Int.toNat_natCast]
    cases hy : b[k]? with
    | none => simp
    | some y =>
      simp only
      rw [← h y]
      cases p y <;> cases f y <;> cases tak.contains (k : Int) <;> rfl
  unfold matchP takeP
  rcases hp with rfl | rfl | rfl
  · refine key _ _ fun y => ?_
    simp only [fitP, fitsR, if_true]
    rw [Bool.and_comm, decide_eq_decide.2 (eq_comm (a := y.amount)), decide_eq_decide.2 (eq_comm (a := y.ref))]
  · refine key _ _ fun y => ?_
    simp only [fitP, fitsR, if_true, show ¬ (2 : Int) = 1 by decide, if_false]
    rw [decide_eq_decide.2 (eq_comm (a := y.amount)), decide_eq_decide.2 (eq_comm (a := y.day))]
  · refine key _ _ fun y => ?_
    simp only [fitP, fitsR, show ¬ (3 : Int) = 1 by decide, show ¬ (3 : Int) = 2 by decide, if_false]
    rw [decide_eq_decide.2 (eq_comm (a := y.amount))]
/-- The sets are the pairs' own. -/
structure Same (st : St3) (l : List Tri) : Prop where
  out : st.out = l
  met : st.met = l.map (keyP true)
  tak : st.tak = l.map (keyP false)
theorem step_same (a b : List Item) {pass : Int} (hp : pass = 1 ∨ pass = 2 ∨ pass = 3) {st : St3} {l : List Tri} (h : Same st l) {i : Nat} (hi : i < a.length) : Same (step3 a b pass st i) (rowR a b pass i l b.length) := by
  unfold step3 rowR
  rw [List.getElem?_eq_getElem hi]
  simp only
  cases hc : (l.map (keyP true)).contains (i : Int) with
  | true =>
    rw [foldR_in a b pass i _ l hc, h.met, hc, if_pos rfl]
    exact h
  | false =>
    rw [foldR a b pass i _ l hc, h.met, hc, if_neg (by simp), matchP_eq b st.tak a[i] hp]
    have e : okR a b pass i l = wantB b st.tak a[i] pass := by
      funext k
      unfold okR wantB
      rw [List.getElem?_eq_getElem hi, h.tak, hc]
      cases b[k]? with
      | none => rfl
      | some y => simp only [Bool.not_false, Bool.true_and]
    rw [e]
    cases (List.range b.length).find? (wantB b st.tak a[i] pass) with
    | none => exact h
    | some k =>
      simp only [Option.map_some]
      exact ⟨by simp [h.out], by simp [keyP], by simp [h.tak, keyP]⟩
theorem pass_same (a b : List Item) {pass : Int} (hp : pass = 1 ∨ pass = 2 ∨ pass = 3) {st : St3} {l : List Tri} (h : Same st l) : Same (pass3 a b pass st) (passR a b pass l a.length) := by
  have key : ∀ n, n ≤ a.length → Same ((List.range n).foldl (step3 a b pass) st) (passR a b pass l n) := by
    intro n
    induction n with
    | zero => intro _; exact h
    | succ n ih =>
      intro hn
      rw [List.range_succ, List.foldl_append]
      exact step_same a b hp (ih (by omega)) (by omega)
  exact key _ (Nat.le_refl _)
theorem all_same (a b : List Item) : Same (all3 a b) (allR3 a b) :=
  pass_same a b (.inr (.inr rfl)) (pass_same a b (.inr (.inl rfl)) (pass_same a b (.inl rfl) ⟨rfl, rfl, rfl⟩))
/-- What a pair says. -/
def PairOK (a b : List Item) (x : Tri) : Prop := ∃ (i k : Nat) (hi : i < a.length) (hk : k < b.length), x.1 = i ∧ x.2.1 = k ∧ (x.2.2 = 1 ∨ x.2.2 = 2 ∨ x.2.2 = 3) ∧ fitsR a[i] b[k] x.2.2 = true
structure Good (a b : List Item) (l : List Tri) : Prop where
  k1 : (l.map (keyP true)).Nodup
  k2 : (l.map (keyP false)).Nodup
  ok : ∀ x ∈ l, PairOK a b x
theorem Good.nil (a b : List Item) : Good a b [] := ⟨by simp, by simp, by simp⟩
theorem Good.step {a b : List Item} {l : List Tri} (h : Good a b l) {pass : Int} (hp : pass = 1 ∨ pass = 2 ∨ pass = 3) (i k : Nat) : Good a b (stepR a b pass i l k) := by
  unfold stepR
  split
  · rename_i hok
    unfold okR at hok
    split at hok
    · rename_i x y hx hy
      simp only [Bool.and_eq_true, Bool.not_eq_true'] at hok
      obtain ⟨h1, h2, h3⟩ := hok
      obtain ⟨hi, rfl⟩ := List.getElem?_eq_some_iff.1 hx
      obtain ⟨hk, rfl⟩ := List.getElem?_eq_some_iff.1 hy
      have n1 : (i : Int) ∉ l.map (keyP true) := fun hc => by rw [← List.contains_iff_mem, h1] at hc; cases hc
      have n2 : (k : Int) ∉ l.map (keyP false) := fun hc => by rw [← List.contains_iff_mem, h2] at hc; cases hc
      refine ⟨?_, ?_, fun z hz => ?_⟩
      · rw [List.map_append]
        exact List.nodup_append.2 ⟨h.k1, by simp, fun u hu v hv => by
          simp only [List.map_cons, List.map_nil, List.mem_singleton, keyP, if_true] at hv
          rintro rfl; exact n1 (hv ▸ hu)⟩
      · rw [List.map_append]
        exact List.nodup_append.2 ⟨h.k2, by simp, fun u hu v hv => by
          simp only [List.map_cons, List.map_nil, List.mem_singleton, keyP, Bool.false_eq_true, if_false] at hv
          rintro rfl; exact n2 (hv ▸ hu)⟩
      · rcases List.mem_append.1 hz with hz | hz
        · exact h.ok z hz
        · rw [List.mem_singleton] at hz
          subst hz
          exact ⟨i, k, hi, hk, rfl, rfl, hp, h3⟩
    · cases hok
  · exact h
theorem Good.row {a b : List Item} {pass : Int} (hp : pass = 1 ∨ pass = 2 ∨ pass = 3) (i : Nat) : ∀ (ks : List Nat) {l : List Tri}, Good a b l → Good a b (ks.foldl (stepR a b pass i) l)
  | [], _, h => h
  | k :: ks, _, h => Good.row hp i ks (h.step hp i k)
theorem Good.pass {a b : List Item} {l : List Tri} (h : Good a b l) {pass : Int} (hp : pass = 1 ∨ pass = 2 ∨ pass = 3) : ∀ n, Good a b (passR a b pass l n)
  | 0 => h
  | n + 1 => Good.row hp n _ (Good.pass h hp n)
theorem good_all (a b : List Item) : Good a b (allR3 a b) :=
  ((((Good.nil a b).pass (.inl rfl) _).pass (.inr (.inl rfl)) _).pass (.inr (.inr rfl)) _)
/-! ### In order -/
theorem key_inj {l : List Tri} {c : Bool} (h : (l.map (keyP c)).Nodup) {x y : Tri} (hx : x ∈ l) (hy : y ∈ l) (he : keyP c x = keyP c y) : x = y := by
  induction l with
  | nil => cases hx
  | cons z r ih =>
    rw [List.map_cons, List.nodup_cons] at h
    rcases List.mem_cons.1 hx with rfl | hx'
    · rcases List.mem_cons.1 hy with rfl | hy'
      · rfl
      · exact absurd (List.mem_map.2 ⟨y, hy', he.symm⟩) h.1
    · rcases List.mem_cons.1 hy with rfl | hy'
      · exact absurd (List.mem_map.2 ⟨x, hx', he⟩) h.1
      · exact ih h.2 hx' hy'
theorem pickR_mem {l : List Tri} (h : (l.map (keyP true)).Nodup) (i : Nat) (x : Tri) : x ∈ pickR l i ↔ x ∈ l ∧ x.1 = i := by
  unfold pickR
  cases hq : (List.range l.length).findSome? (atF l i true) with
  | none =>
    have h0 := range_find_none.1 hq
    simp only [List.not_mem_nil, false_iff]
    rintro ⟨hx, hi⟩
    obtain ⟨j, hj, rfl⟩ := List.mem_iff_getElem.1 hx
    have := h0 j hj
    simp [atF, hj, keyP, hi] at this
  | some k =>
    obtain ⟨j, _, hj⟩ := List.exists_of_findSome?_eq_some hq
    obtain ⟨rfl, hk, hkey⟩ := atF_some hj
    simp only [List.getElem?_eq_getElem hk, Option.toList_some, List.mem_singleton]
    constructor
    · rintro rfl; exact ⟨List.getElem_mem hk, by simpa [keyP] using hkey⟩
    · rintro ⟨hx, hi⟩
      refine key_inj h hx (List.getElem_mem hk) ?_
      rw [hkey]; simpa [keyP] using hi
theorem outT_mem {l : List Tri} (h : (l.map (keyP true)).Nodup) (x : Tri) : ∀ n, x ∈ outT l n ↔ x ∈ l ∧ ∃ i, i < n ∧ x.1 = i
  | 0 => by simp [outT]
  | n + 1 => by
    simp only [outT, List.mem_append, outT_mem h x n, pickR_mem h n x]
    constructor
    · rintro (⟨h1, i, h2, h3⟩ | ⟨h1, h2⟩)
      · exact ⟨h1, i, by omega, h3⟩
      · exact ⟨h1, n, by omega, h2⟩
    · rintro ⟨h1, i, h2, h3⟩
      rcases Nat.lt_or_ge i n with h4 | h4
      · exact .inl ⟨h1, i, h4, h3⟩
      · obtain rfl : i = n := by omega
        exact .inr ⟨h1, h3⟩
theorem outT_pw {l : List Tri} (h : (l.map (keyP true)).Nodup) : ∀ n, (outT l n).Pairwise fun x y => x.1 < y.1
  | 0 => List.Pairwise.nil
  | n + 1 => by
    simp only [outT]
    refine List.pairwise_append.2 ⟨outT_pw h n, ?_, fun x hx y hy => ?_⟩
    · have := pickR_len l n
      cases hp : pickR l n with
      | nil => exact List.Pairwise.nil
      | cons z r =>
        rw [hp] at this
        have : r = [] := by simpa using this
        subst this
        exact List.pairwise_singleton _ _
    · obtain ⟨_, i, hi, he⟩ := (outT_mem h x n).1 hx
      obtain ⟨_, hy⟩ := (pickR_mem h n y).1 hy
      omega
theorem insT_sorted (x : Tri) : ∀ l : List Tri, (l.Pairwise fun x y => x.1 ≤ y.1) → (insT x l).Pairwise fun x y => x.1 ≤ y.1
  | [], _ => by simp [insT]
  | y :: r, h => by
    unfold insT
    have h' := List.pairwise_cons.1 h
    split
    · refine List.pairwise_cons.2 ⟨fun z hz => ?_, h⟩
      rcases List.mem_cons.1 hz with rfl | hz
      · assumption
      · have := h'.1 z hz; omega
    · refine List.pairwise_cons.2 ⟨fun z hz => ?_, insT_sorted x r h'.2⟩
      rcases List.mem_cons.1 ((insT_perm x r).mem_iff.1 hz) with rfl | hz
      · omega
      · exact h'.1 z hz
theorem isortT_sorted : ∀ l : List Tri, (isortT l).Pairwise fun x y => x.1 ≤ y.1
  | [] => by simp [isortT]
  | x :: r => insT_sorted x _ (isortT_sorted r)
theorem nodup_of_map {α β : Type} {f : α → β} : ∀ {l : List α}, (l.map f).Nodup → l.Nodup
  | [], _ => List.nodup_nil
  | x :: r, h => by
    rw [List.map_cons, List.nodup_cons] at h
    exact List.nodup_cons.2 ⟨fun hx => h.1 (List.mem_map.2 ⟨x, hx, rfl⟩), nodup_of_map h.2⟩
theorem isort_out {a b : List Item} {l : List Tri} (h : Good a b l) : isortT l = outT l a.length := by
  have hpw := outT_pw h.k1 a.length
  have hperm : (outT l a.length).Perm l := by
    refine (List.perm_ext_iff_of_nodup (hpw.imp fun {x y} hxy => by rintro rfl; omega) (nodup_of_map h.k1)).2 fun x => ?_
    rw [outT_mem h.k1]
    refine ⟨fun h => h.1, fun hx => ⟨hx, ?_⟩⟩
    obtain ⟨i, _, hi, _, e, _⟩ := h.ok x hx
    exact ⟨i, hi, e⟩
  refine List.Perm.eq_of_pairwise (le := fun x y : Tri => x.1 ≤ y.1) (fun x y hx hy h1 h2 => ?_) (isortT_sorted l) (hpw.imp fun h => by omega) ((isortT_perm l).trans hperm.symm)
  refine key_inj (c := true) h.k1 ((isortT_perm l).mem_iff.1 hx) (hperm.mem_iff.1 hy) ?_
  simp only [keyP, if_true]; omega
theorem strict_of_pw : ∀ {l : List Tri}, (l.Pairwise fun x y => x.1 < y.1) → strictT l = true
  | [], _ => rfl
  | [_], _ => rfl
  | x :: y :: r, h => by
    have h' := List.pairwise_cons.1 h
    simp only [strictT, Bool.and_eq_true, decide_eq_true_eq]
    exact ⟨h'.1 y (List.mem_cons_self ..), strict_of_pw h'.2⟩
/-- Match, as the reference says it. -/
def outM (a b : List Item) : List Tri := outT (allR3 a b) a.length
theorem matchV_eq (a b : List Item) : matchV a b = .t [.l (tris (outM a b)), .l (ints (freeP a.length (allR3 a b) true)), .l (ints (freeP b.length (allR3 a b) false))] := by
  have h := all_same a b
  unfold matchV freeP outM
  rw [h.out, h.met, h.tak, isort_out (good_all a b)]
theorem strict_all (a b : List Item) : strictT (isortT (all3 a b).out) = true := by
  rw [(all_same a b).out, isort_out (good_all a b)]
  exact strict_of_pw (outT_pw (good_all a b).k1 _)
theorem XM_ok {a b : List Item} (ha : a.length ≤ 4096) (hb : b.length ≤ 4096) (hda : daysOk a) (hdb : daysOk b) : O XM 11 [.l (items a), .l (items b)] = some (matchV a b) := by
  have h1 : dayB a = true := List.all_eq_true.2 fun y hy => decide_eq_true (hda y hy)
  have h2 : dayB b = true := List.all_eq_true.2 fun y hy => decide_eq_true (hdb y hy)
  have hx : XM 11 [.l (items a), .l (items b)] = some (matchV a b) := by
    unfold XM
    rw [if_pos rfl]
    simp only [toItems_enc, Option.bind_some]
    rw [if_pos]
    simp only [ha, hb, h1, h2, strict_all, decide_true, Bool.and_true]
  exact den_ext rfl hx
section
attribute [local simp] triV
variable {X : Orc}
theorem o13 (l : List Tri) (h : l.length ≤ 100000) : O X 13 [.l (tris l), .l (tris l)] = some (.b true) := by
  refine orun (fc := code13) rfl rfl rfl ?_
  have hl := loopK_run (o := O X) (kin := [0, 1, 5]) (c := body13_1) (fun i => [(0, .l (tris l)), (1, .l (tris l)), (5, .i .i64 i)]) l.length (.e 0, []) (by simp) (fun i hi => by
    have hw := wrap_i64 (i + 1) (by omega)
    simp [body13_1, hi, hw]) (by simp [body13_1]) (by simp)
  simp only [zz] at hl
  simp [code13, exec_loopK, hl]
theorem o14 (l : List Int) (h : l.length ≤ 100000) : O X 14 [.l (ints l), .l (ints l)] = some (.b true) := by
  refine orun (fc := code14) rfl rfl rfl ?_
  have hl := loopK_run (o := O X) (kin := [0, 1, 5]) (c := body14_1) (fun i => [(0, .l (ints l)), (1, .l (ints l)), (5, .i .i64 i)]) l.length (.e 0, []) (by simp) (fun i hi => by
    have hw := wrap_i64 (i + 1) (by omega)
    simp [body14_1, hi, hw]) (by simp [body14_1]) (by simp)
  simp only [zz] at hl
  simp [code14, exec_loopK, hl]
end
theorem o3 (a b : List Item) (hda : daysOk a) (hdb : daysOk b) : O XM 3 [.l (items a), .l (items b)] = some (.b true) := by
  refine orun (fc := code3) rfl rfl rfl ?_
  have h1 := o9 (X := XM) a
  have h2 := o9 (X := XM) b
  have hlive := live
  cases ha : greatP a with
  | true => rw [ha] at h1; simp [code3, h1, hlive]
  | false =>
    rw [ha] at h1
    cases hb : greatP b with
    | true => rw [hb] at h2; simp [code3, h1, h2, hlive]
    | false =>
      rw [hb] at h2
      have la := greatP_len ha
      have lb := greatP_len hb
      have h3 := XM_ok (a := a) (b := b) (by omega) (by omega) hda hdb
      rw [matchV_eq] at h3
      have h4 := o12 (X := XM) a b (by omega) (by omega) hda hdb
      have n1 := outT_len (allR3 a b) a.length
      have h5 := o13 (X := XM) (outM a b) (by unfold outM; omega)
      have m1 : (freeP a.length (allR3 a b) true).length ≤ a.length := restP_len _ _
      have m2 : (freeP b.length (allR3 a b) false).length ≤ b.length := restP_len _ _
      have h6 := o14 (X := XM) (freeP a.length (allR3 a b) true) (by omega)
      have h7 := o14 (X := XM) (freeP b.length (allR3 a b) false) (by omega)
      unfold outM at h3 h5
      simp [code3, h1, h2, h3, h4, h5, h6, h7, hlive]
end Go.Proofs.Ytmhpmghhgppdnaa
namespace Go.Proofs.Ytmhpmghhgppdnaa
open Go.VM Go.RowKit
/-! ### What was paired stays paired -/
theorem stepR_pre (a b : List Item) (pass : Int) (i : Nat) (l : List Tri) (k : Nat) : l <+: stepR a b pass i l k := by
  unfold stepR
  split
  · exact List.prefix_append _ _
  · exact List.prefix_refl _
theorem foldR_pre (a b : List Item) (pass : Int) (i : Nat) : ∀ (ks : List Nat) (l : List Tri), l <+: ks.foldl (stepR a b pass i) l
  | [], l => List.prefix_refl l
  | k :: ks, l => (stepR_pre a b pass i l k).trans (foldR_pre a b pass i ks _)
theorem passR_pre (a b : List Item) (pass : Int) (l : List Tri) : ∀ {n m : Nat}, n ≤ m → passR a b pass l n <+: passR a b pass l m := by
  intro n m h
  induction m with
  | zero => obtain rfl : n = 0 := by omega
            exact List.prefix_refl _
  | succ m ih =>
    rcases Nat.lt_or_ge n (m + 1) with h1 | h1
    · exact (ih (by omega)).trans (foldR_pre a b pass m _ _)
    · obtain rfl : n = m + 1 := by omega
      exact List.prefix_refl _
theorem keys_pre {l m : List Tri} (h : l <+: m) (c : Bool) {k : Int} (hk : k ∈ l.map (keyP c)) : k ∈ m.map (keyP c) := by
  obtain ⟨r, rfl⟩ := h
  rw [List.map_append]
  exact List.mem_append_left _ hk
/-- Who is left behind a pass fits nothing that is left. -/
theorem pass_left (a b : List Item) (pass : Int) (l m : List Tri) (hm : passR a b pass l a.length <+: m) {i k : Nat} (hi : i < a.length) (hk : k < b.length) (n1 : (i : Int) ∉ m.map (keyP true)) (n2 : (k : Int) ∉ m.map (keyP false)) : fitsR a[i] b[k] pass = false := by
  have hp : passR a b pass l (i + 1) <+: m := (passR_pre a b pass l (by omega)).trans hm
  have hp0 : passR a b pass l i <+: m := (passR_pre a b pass l (by omega)).trans hm
  have c0 : ((passR a b pass l i).map (keyP true)).contains (i : Int) = false := by
    rw [Bool.eq_false_iff]; intro hc
    exact n1 (keys_pre hp0 true (List.contains_iff_mem.1 hc))
  have d0 : ((passR a b pass l i).map (keyP false)).contains (k : Int) = false := by
    rw [Bool.eq_false_iff]; intro hc
    exact n2 (keys_pre hp0 false (List.contains_iff_mem.1 hc))
  have hf := foldR a b pass i (List.range b.length) (passR a b pass l i) c0
  cases hq : (List.range b.length).find? (okR a b pass i (passR a b pass l i)) with
  | some j =>
    rw [hq] at hf
    refine absurd (keys_pre hp true ?_) n1
    show (i : Int) ∈ (rowR a b pass i (passR a b pass l i) b.length).map (keyP true)
    unfold rowR
    rw [hf]
    simp [keyP]
  | none =>
    have := List.find?_eq_none.1 hq k (List.mem_range.2 hk)
    unfold okR at this
    rw [List.getElem?_eq_getElem hi, List.getElem?_eq_getElem hk] at this
    simp only [c0, d0, Bool.not_false, Bool.true_and] at this
    exact Bool.eq_false_iff.2 this
theorem left_fits (a b : List Item) {i k : Nat} (hi : i < a.length) (hk : k < b.length) (n1 : (i : Int) ∉ (allR3 a b).map (keyP true)) (n2 : (k : Int) ∉ (allR3 a b).map (keyP false)) : fitsR a[i] b[k] 1 = false ∧ fitsR a[i] b[k] 3 = false := by
  refine ⟨pass_left a b 1 [] (allR3 a b) ?_ hi hk n1 n2, pass_left a b 3 (allR2 a b) (allR3 a b) (List.prefix_refl _) hi hk n1 n2⟩
  exact (passR_pre a b 2 (allR1 a b) (Nat.zero_le _)).trans (passR_pre a b 3 (allR2 a b) (Nat.zero_le _))
/-! ### What is left, in numbers -/
theorem freeP_mem {n : Nat} {l : List Tri} {c : Bool} {k : Int} : k ∈ freeP n l c ↔ ∃ i : Nat, i < n ∧ k = i ∧ (i : Int) ∉ l.map (keyP c) := by
  unfold freeP restP
  simp only [List.mem_map, List.mem_filter, List.mem_range, Bool.not_eq_true', Bool.eq_false_iff, ne_eq, List.contains_iff_mem]
  constructor
  · rintro ⟨i, ⟨h1, h2⟩, rfl⟩; exact ⟨i, h1, rfl, h2⟩
  · rintro ⟨i, h1, rfl, h2⟩; exact ⟨i, ⟨h1, h2⟩, rfl⟩
theorem freeP_pw (n : Nat) (l : List Tri) (c : Bool) : (freeP n l c).Pairwise (· < ·) := by
  unfold freeP restP
  rw [List.pairwise_map]
  exact (List.Pairwise.filter _ List.pairwise_lt_range).imp fun h => by omega
theorem count_left : ∀ (n : Nat) (ks : List Int), ks.Nodup → (∀ k ∈ ks, ∃ i : Nat, i < n ∧ k = i) → ks.length + (restP n ks).length = n := by
  intro n ks hd hin
  have hperm : (ks ++ restP n ks).Perm ((List.range n).map fun (i : Nat) => (i : Int)) := by
    have hr : ((List.range n).map fun (i : Nat) => (i : Int)).Nodup := by
      refine (List.pairwise_map.2 ?_)
      exact List.pairwise_lt_range.imp fun h => by omega
    refine (List.perm_ext_iff_of_nodup ?_ hr).2 fun k => ?_
    · refine List.nodup_append.2 ⟨hd, ?_, fun u hu v hv => ?_⟩
      · unfold restP
        refine List.pairwise_map.2 ?_
        exact (List.Pairwise.filter _ List.pairwise_lt_range).imp fun h => by omega
      · unfold restP at hv
        simp only [List.mem_map, List.mem_filter, Bool.not_eq_true', Bool.eq_false_iff, ne_eq, List.contains_iff_mem] at hv
        obtain ⟨i, ⟨_, h2⟩, rfl⟩ := hv
        rintro rfl; exact h2 hu
    · unfold restP
      simp only [List.mem_append, List.mem_map, List.mem_filter, List.mem_range, Bool.not_eq_true', Bool.eq_false_iff, ne_eq, List.contains_iff_mem]
      constructor
      · rintro (h | ⟨i, ⟨h1, _⟩, rfl⟩)
        · obtain ⟨i, h1, rfl⟩ := hin k h
          exact ⟨i, h1, rfl⟩
        · exact ⟨i, h1, rfl⟩
      · rintro ⟨i, h1, rfl⟩
        by_cases h : (i : Int) ∈ ks
        · exact .inl h
        · exact .inr ⟨i, ⟨h1, h⟩, rfl⟩
  have := hperm.length_eq
  simpa using this
theorem good_key1 {a b : List Item} {l : List Tri} (h : Good a b l) : ∀ k ∈ l.map (keyP true), ∃ i : Nat, i < a.length ∧ k = i := by
  intro k hk
  obtain ⟨x, hx, rfl⟩ := List.mem_map.1 hk
  obtain ⟨i, _, hi, _, e, _⟩ := h.ok x hx
  exact ⟨i, hi, by simpa [keyP] using e⟩
theorem good_key2 {a b : List Item} {l : List Tri} (h : Good a b l) : ∀ k ∈ l.map (keyP false), ∃ i : Nat, i < b.length ∧ k = i := by
  intro k hk
  obtain ⟨x, hx, rfl⟩ := List.mem_map.1 hk
  obtain ⟨_, i, _, hi, _, e, _⟩ := h.ok x hx
  exact ⟨i, hi, by simpa [keyP] using e⟩
theorem outM_perm (a b : List Item) : (outM a b).Perm (allR3 a b) := by
  have := isort_out (good_all a b)
  unfold outM
  rw [← this]
  exact isortT_perm _
theorem count1 (a b : List Item) : (outM a b).length + (freeP a.length (allR3 a b) true).length = a.length := by
  have := count_left a.length _ (good_all a b).k1 (good_key1 (good_all a b))
  rw [(outM_perm a b).length_eq]
  simpa [freeP] using this
theorem count2 (a b : List Item) : (outM a b).length + (freeP b.length (allR3 a b) false).length = b.length := by
  have := count_left b.length _ (good_all a b).k2 (good_key2 (good_all a b))
  rw [(outM_perm a b).length_eq]
  simpa [freeP] using this
theorem good_out (a b : List Item) : Good a b (outM a b) := by
  have h := good_all a b
  have hp := outM_perm a b
  exact ⟨((hp.map _).nodup_iff).2 h.k1, ((hp.map _).nodup_iff).2 h.k2, fun x hx => h.ok x (hp.mem_iff.1 hx)⟩
/-- The pairs are valid. -/
theorem valid_good {a b : List Item} {l : List Tri} (h : Good a b l) : validP a b l = true := by
  unfold validP
  rw [Option.isNone_iff_eq_none, range_find_none]
  intro i hi
  rw [← bad_iff a b l hi]
  simp only [badW, List.getElem?_eq_getElem hi]
  obtain ⟨p, q, hp, hq, e1, e2, _, hf⟩ := h.ok l[i] (List.getElem_mem hi)
  have o1 : outR (l[i]).1 a.length = false := by rw [e1]; simp [outR]; omega
  have o2 : outR (l[i]).2.1 b.length = false := by rw [e2]; simp [outR]; omega
  have am : amtAt a (l[i]).1 = amtAt b (l[i]).2.1 := by
    simp only [fitsR, Bool.and_eq_true, decide_eq_true_eq] at hf
    rw [e1, e2]
    simp [amtAt, hp, hq, hf.1]
  have uniq : ∀ c : Bool, (l.map (keyP c)).Nodup → (keysP c l i).contains (keyP c l[i]) = false := by
    intro c hc
    rw [Bool.eq_false_iff]
    intro hm
    rw [List.contains_iff_mem, keysP_mem c l _ i (by omega)] at hm
    obtain ⟨j, hj, hji, hk⟩ := hm
    have := List.pairwise_iff_getElem.1 hc j i (by simpa using hj) (by simpa using hi) hji
    simp only [List.getElem_map] at this
    exact this hk
  have u1 := uniq true h.k1
  have u2 := uniq false h.k2
  simp only [keyP, if_true, Bool.false_eq_true, if_false] at u1 u2
  rw [o1, o2, u1, u2, am]
  simp
end Go.Proofs.Ytmhpmghhgppdnaa
namespace Go.Proofs.Ytmhpmghhgppdnaa
open Go.VM Go.RowKit
section
attribute [local simp] triV
variable {X : Orc}
theorem o20 (l : List Int) (k : Int) (h : l.length ≤ 100000) (hk : k ∉ l) : O X 20 [.l (ints l), .i .i64 k] = some (.b false) := by
  refine orun (fc := code20) rfl rfl rfl ?_
  have hl := loopK_run (o := O X) (kin := [0, 1, 5]) (c := body20_1) (fun i => [(0, .l (ints l)), (1, .i .i64 k), (5, .i .i64 i)]) l.length (.e 0, []) (by simp) (fun i hi => by
    have hw := wrap_i64 (i + 1) (by omega)
    have hn : ¬ l[i] = k := fun e => hk (e ▸ List.getElem_mem hi)
    simp [body20_1, hi, hw, hn]) (by simp [body20_1]) (by simp)
  simp only [zz] at hl
  simp [code20, exec_loopK, hl]
theorem o19 (l : List Int) (n : Nat) (h : l.length ≤ 100000) (hin : ∀ k ∈ l, 0 ≤ k ∧ k < (n : Int)) (hpw : l.Pairwise (· < ·)) : O X 19 [.l (ints l), .i .i64 n] = some (.b true) := by
  refine orun (fc := code19) rfl rfl rfl ?_
  have hl := loopK_run (o := O X) (kin := [0, 1, 5]) (c := body19_1) (fun i => [(0, .l (ints l)), (1, .i .i64 n), (5, .i .i64 i)]) l.length (.e 0, []) (by simp) (fun i hi => by
    have hw := wrap_i64 (i + 1) (by omega)
    have h1 : ¬ l[i] < 0 := by have := (hin _ (List.getElem_mem hi)).1; omega
    have h2 : ¬ (n : Int) ≤ l[i] := by have := (hin _ (List.getElem_mem hi)).2; omega
    cases i with
    | zero =>
      have w1 := wrap_i64 1 (by omega)
      simp [body19_1, hi, h1, h2, w1]
    | succ j =>
      have hj : j < l.length := by omega
      have hw1 := wrap_i64 j (by omega)
      have hi' : (j : Int) + 1 < (l.length : Int) := by omega
      have h3 : ¬ l[j + 1] ≤ l[j] := by have := List.pairwise_iff_getElem.1 hpw j (j + 1) hj hi (by omega); omega
      have h4 : (0 : Int) < (j : Int) + 1 := by omega
      simp only [Int.natCast_add, Int.cast_ofNat_Int] at hw
      simp [body19_1, hi, hi', hj, hw, hw1, h1, h2, h3, h4]) (by simp [body19_1]) (by simp)
  simp only [zz] at hl
  simp [code19, exec_loopK, hl]
theorem l6_1 (a b : List Item) (L : List Tri) (A B : List Int) (hL : L.length ≤ 100000) (hlA : A.length ≤ 100000) (hlB : B.length ≤ 100000) (hG : Good a b L) (hpw : L.Pairwise fun x y => x.1 < y.1) (hA : ∀ x ∈ L, x.1 ∉ A) (hB : ∀ x ∈ L, x.2.1 ∉ B) (hda : daysOk a) (hdb : daysOk b) :
    loopK (O X) [0, 1, 5, 6, 7, 8] body6_1 [(0, .l (items a)), (1, .l (items b)), (5, .l (tris L)), (6, .l (ints A)), (7, .l (ints B)), (8, .i .i64 0)] = some (.e 0, [(0, .l (items a)), (1, .l (items b)), (6, .l (ints A)), (7, .l (ints B))]) := by
  have := loopK_run (o := O X) (kin := [0, 1, 5, 6, 7, 8]) (c := body6_1) (fun i => [(0, .l (items a)), (1, .l (items b)), (5, .l (tris L)), (6, .l (ints A)), (7, .l (ints B)), (8, .i .i64 i)]) L.length (.e 0, [(0, .l (items a)), (1, .l (items b)), (6, .l (ints A)), (7, .l (ints B))]) (by simp) (fun i hi => by
    have hw := wrap_i64 (i + 1) (by omega)
    have hm := List.getElem_mem hi
    obtain ⟨p, q, hp, hq, e1, e2, hh, hf⟩ := hG.ok _ hm
    have hA1 := o20 (X := X) A _ hlA (hA _ hm)
    have hB1 := o20 (X := X) B _ hlB (hB _ hm)
    have h21 := o21 (X := X) a[p] b[q] (L[i]).2.2 (hda _ (List.getElem_mem hp)) (hdb _ (List.getElem_mem hq))
    have ham : a[p].amount = b[q].amount := by
      simp only [fitsR, Bool.and_eq_true, decide_eq_true_eq] at hf
      exact hf.1
    rw [hf] at h21
    simp only [Item.v, ham] at h21
    rw [e1] at hA1
    rw [e2] at hB1
    have hpn : ¬ (p : Int) < 0 := by omega
    have hpn' : ¬ (a.length : Int) ≤ (p : Int) := by omega
    have hqn : ¬ (q : Int) < 0 := by omega
    have hqn' : ¬ (b.length : Int) ≤ (q : Int) := by omega
    have t1 : ¬ (L[i]).2.2 < 1 := by omega
    have t2 : ¬ (3 : Int) < (L[i]).2.2 := by omega
    cases i with
    | zero =>
      have w1 := wrap_i64 1 (by omega)
      simp [body6_1, hi, w1, e1, e2, hp, hq, hpn, hpn', hqn, hqn', hA1, hB1, ham, t1, t2, h21]
    | succ j =>
      have hj : j < L.length := by omega
      have hw1 := wrap_i64 j (by omega)
      have hi' : (j : Int) + 1 < (L.length : Int) := by omega
      have h3 : ¬ (p : Int) ≤ (L[j]).1 := by
        have := List.pairwise_iff_getElem.1 hpw j (j + 1) hj hi (by omega)
        omega
      have h4 : (0 : Int) < (j : Int) + 1 := by omega
      simp only [Int.natCast_add, Int.cast_ofNat_Int] at hw
      simp [body6_1, hi, hi', hj, hw, hw1, h3, h4, e1, e2, hp, hq, hpn, hpn', hqn, hqn', hA1, hB1, ham, t1, t2, h21]) (by simp [body6_1]) (by simp)
  exact this
/-- Two lists of which no two items fit. -/
def Apart6 (a b : List Item) (A B : List Int) : Prop := ∀ u ∈ A, ∀ v ∈ B, ∃ (p q : Nat) (hp : p < a.length) (hq : q < b.length), u = p ∧ v = q ∧ fitsR a[p] b[q] 1 = false ∧ fitsR a[p] b[q] 3 = false
theorem l6_2 (a b : List Item) (A B : List Int) (hlB : B.length ≤ 100000) (h : Apart6 a b A B) (hda : daysOk a) (hdb : daysOk b) {i : Nat} (hi : i < A.length) :
    loopK (O X) [0, 1, 6, 7, 11, 12] body6_2 [(0, .l (items a)), (1, .l (items b)), (6, .l (ints A)), (7, .l (ints B)), (11, .i .i64 i), (12, .i .i64 0)] = some (.e 4, [(0, .l (items a)), (1, .l (items b)), (6, .l (ints A)), (7, .l (ints B)), (11, .i .i64 i)]) := by
  have := loopK_run (o := O X) (kin := [0, 1, 6, 7, 11, 12]) (c := body6_2) (fun k => [(0, .l (items a)), (1, .l (items b)), (6, .l (ints A)), (7, .l (ints B)), (11, .i .i64 i), (12, .i .i64 k)]) B.length (.e 4, [(0, .l (items a)), (1, .l (items b)), (6, .l (ints A)), (7, .l (ints B)), (11, .i .i64 i)]) (by simp) (fun k hk => by
    have hw := wrap_i64 (k + 1) (by omega)
    obtain ⟨p, q, hp, hq, e1, e2, f1, f3⟩ := h _ (List.getElem_mem hi) _ (List.getElem_mem hk)
    have h1 := o21 (X := X) a[p] b[q] 1 (hda _ (List.getElem_mem hp)) (hdb _ (List.getElem_mem hq))
    have h3 := o21 (X := X) a[p] b[q] 3 (hda _ (List.getElem_mem hp)) (hdb _ (List.getElem_mem hq))
    rw [f1] at h1
    rw [f3] at h3
    simp [body6_2, hi, hk, hw, e1, e2, hp, hq, h1, h3]) (by simp [body6_2]) (by simp)
  exact this
theorem l6_3 (a b : List Item) (A B : List Int) (hlA : A.length ≤ 100000) (hlB : B.length ≤ 100000) (h : Apart6 a b A B) (hda : daysOk a) (hdb : daysOk b) :
    loopK (O X) [0, 1, 6, 7, 11] body6_3 [(0, .l (items a)), (1, .l (items b)), (6, .l (ints A)), (7, .l (ints B)), (11, .i .i64 0)] = some (.e 2, []) := by
  have := loopK_run (o := O X) (kin := [0, 1, 6, 7, 11]) (c := body6_3) (fun i => [(0, .l (items a)), (1, .l (items b)), (6, .l (ints A)), (7, .l (ints B)), (11, .i .i64 i)]) A.length (.e 2, []) (by simp) (fun i hi => by
    have hw := wrap_i64 (i + 1) (by omega)
    have h1 := l6_2 (X := X) a b A B hlB h hda hdb hi
    simp [body6_3, hi, hw, exec_loopK, h1]) (by simp [body6_3]) (by simp)
  exact this
end
theorem o6 (a b : List Item) (hda : daysOk a) (hdb : daysOk b) : O XM 6 [.l (items a), .l (items b)] = some (.b true) := by
  refine orun (fc := code6) rfl rfl rfl ?_
  have h1 := o9 (X := XM) a
  have h2 := o9 (X := XM) b
  have hlive := live
  cases ha : greatP a with
  | true => rw [ha] at h1; simp [code6, h1, hlive]
  | false =>
    rw [ha] at h1
    cases hb : greatP b with
    | true => rw [hb] at h2; simp [code6, h1, h2, hlive]
    | false =>
      rw [hb] at h2
      have la := greatP_len ha
      have lb := greatP_len hb
      have h3 := XM_ok (a := a) (b := b) (by omega) (by omega) hda hdb
      rw [matchV_eq] at h3
      have hG := good_out a b
      have c1 := count1 a b
      have c2 := count2 a b
      have hpw : (outM a b).Pairwise fun x y => x.1 < y.1 := outT_pw (good_all a b).k1 _
      have hperm := outM_perm a b
      have hA : ∀ x ∈ outM a b, x.1 ∉ freeP a.length (allR3 a b) true := fun x hx hc => by
        obtain ⟨i, _, e, hn⟩ := freeP_mem.1 hc
        exact hn (List.mem_map.2 ⟨x, hperm.mem_iff.1 hx, by simpa [keyP] using e⟩)
      have hB : ∀ x ∈ outM a b, x.2.1 ∉ freeP b.length (allR3 a b) false := fun x hx hc => by
        obtain ⟨i, _, e, hn⟩ := freeP_mem.1 hc
        exact hn (List.mem_map.2 ⟨x, hperm.mem_iff.1 hx, by simpa [keyP] using e⟩)
      have hAp : Apart6 a b (freeP a.length (allR3 a b) true) (freeP b.length (allR3 a b) false) := fun u hu v hv => by
        obtain ⟨p, hp, e1, n1⟩ := freeP_mem.1 hu
        obtain ⟨q, hq, e2, n2⟩ := freeP_mem.1 hv
        exact ⟨p, q, hp, hq, e1, e2, left_fits a b hp hq n1 n2⟩
      have inA : ∀ k ∈ freeP a.length (allR3 a b) true, 0 ≤ k ∧ k < (a.length : Int) := fun k hk => by
        obtain ⟨i, hi, rfl, _⟩ := freeP_mem.1 hk
        omega
      have inB : ∀ k ∈ freeP b.length (allR3 a b) false, 0 ≤ k ∧ k < (b.length : Int) := fun k hk => by
        obtain ⟨i, hi, rfl, _⟩ := freeP_mem.1 hk
        omega
      have pA := freeP_pw a.length (allR3 a b) true
      have pB := freeP_pw b.length (allR3 a b) false
      have hv := o15 (X := XM) a b (outM a b) (by omega)
      rw [valid_good hG] at hv
      generalize freeP a.length (allR3 a b) true = A at *
      generalize freeP b.length (allR3 a b) false = B at *
      generalize outM a b = L at *
      have r1 := o19 (X := XM) A a.length (by omega) inA pA
      have r2 := o19 (X := XM) B b.length (by omega) inB pB
      have s1 := l6_1 (X := XM) a b L A B (by omega) (by omega) (by omega) hG hpw hA hB hda hdb
      have s2 := l6_3 (X := XM) a b A B (by omega) (by omega) hAp hda hdb
      have d1 : IntKind.i64.wrap ((L.length : Int) + (A.length : Int)) = (a.length : Int) := by
        rw [← Int.natCast_add, c1]; exact wrap_i64 a.length (by omega)
      have d2 : IntKind.i64.wrap ((L.length : Int) + (B.length : Int)) = (b.length : Int) := by
        rw [← Int.natCast_add, c2]; exact wrap_i64 b.length (by omega)
      simp [code6, h1, h2, h3, r1, r2, d1, d2, hv, exec_loopK, s1, s2, hlive]
end Go.Proofs.Ytmhpmghhgppdnaa
