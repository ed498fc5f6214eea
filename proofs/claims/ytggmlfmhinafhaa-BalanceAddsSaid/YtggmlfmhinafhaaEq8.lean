/-
  The law on what is added.
-/
import Derived.Test.YtggmlfmhinafhaaEq7
namespace Go.Proofs.Ytggmlfmhinafhaa
open Go.VM Go.RowKit
theorem of_app (a : Int) (j k : List Entry) : ofF a (j ++ k) = IntKind.i64.wrap (ofF a j + ofF a k) := by
  rw [iw, ofF_eq, ofF_eq, ofF_eq, S_append, wl, wr]
theorem at_app (a bk vl : Int) (j k : List Entry) : atF a bk vl (j ++ k) = IntKind.i64.wrap (atF a bk vl j + atF a bk vl k) := by
  rw [iw, atF_eq, atF_eq, atF_eq, S_append, wl, wr]
theorem of_tu (a : Int) (j : List Entry) (h : ∀ e ∈ j, e.ok) : ofF a j = IntKind.i64.wrap ((tuF a (-9223372036854775808) 9223372036854775807 j).2 - (tuF a (-9223372036854775808) 9223372036854775807 j).1) := by
  rw [iw, tuF_eq, ofF_eq, wls, wrs, ← S_sub]
  congr 1
  refine S_congr fun e he => ?_
  obtain ⟨_, hb, _⟩ := h e he
  unfold I64 at hb
  have ho : ¬ outE (-9223372036854775808) 9223372036854775807 e = true := by
    unfold outE
    rw [decide_eq_true_iff]
    omega
  rw [if_neg ho, if_neg ho]
  unfold mE cE dE
  rw [← S_sub]
  refine S_congr fun x _ => ?_
  by_cases h1 : x.account = a
  · rcases Int.lt_trichotomy x.amount 0 with h2 | h2 | h2
    · have h3 : ¬ 0 < x.amount := by omega
      simp [h1, h2, h3]
    · simp [h1, h2]
    · have h3 : ¬ x.amount < 0 := by omega
      simp [h1, h2, h3]
  · simp [h1]
/-- What changes on a day. -/
def chS (a v : Int) (n : Int) (e : Entry) : Int := if e.value = v then IntKind.i64.wrap (n + ofF a [e]) else n
theorem ch_eq (a v : Int) (l : List Entry) : l.foldl (chS a v) 0 = wrap64 (S (fun e => if e.value = v then mE a e else 0) l) := by
  refine fold_eq _ (fun n e => ?_) (fun n e h => ?_) l
  · unfold chS
    split
    · rw [iw, ww, ofF_eq, wr]; simp [S]
    · rw [Int.add_zero]
  · unfold chS
    split
    · rw [iw, ww]
    · exact h
theorem daF_get {a fr to : Int} {l : List Entry} {i : Nat} (hi : i < (daF a fr to l).length) : daOk fr to ∧ i < (to - fr + 1).toNat ∧ (daF a fr to l)[i] = wrap64 (S (fun e => if Ytggmlfmhinafhaa.kE fr e ≤ i then mE a e else 0) l) := by
  have h : daOk fr to := Classical.byContradiction fun h => by
    have : daF a fr to l = [] := by unfold daF; rw [if_neg h]
    rw [this] at hi
    exact absurd hi (Nat.not_lt_zero _)
  have he : daF a fr to l = daT (daA a fr to l) ((to - fr + 1).toNat - 1) := by unfold daF; rw [if_pos h]
  have hi2 : i < (to - fr + 1).toNat := by rw [he, daT_len, daA_len] at hi; exact hi
  refine ⟨h, hi2, ?_⟩
  have := da_get a fr to l h i hi2
  rw [← he, List.getD_eq_getElem?_getD, List.getElem?_eq_getElem hi] at this
  exact this
theorem da_diff {a fr to : Int} {l : List Entry} {i : Nat} (hi : i + 1 < (daF a fr to l).length) : IntKind.i64.wrap ((daF a fr to l)[i + 1] - (daF a fr to l)[i]'(by omega)) = l.foldl (chS a (fr + ((i + 1 : Nat) : Int))) 0 := by
  rw [iw, ch_eq, (daF_get hi).2.2, (daF_get (Nat.lt_of_succ_lt hi)).2.2, wls, wrs, ← S_sub]
  congr 1
  refine S_congr fun e _ => ?_
  unfold Ytggmlfmhinafhaa.kE
  by_cases h1 : e.value = fr + ((i + 1 : Nat) : Int)
  · rw [if_pos h1, if_pos (by omega), if_neg (by omega), Int.sub_zero]
  · rw [if_neg h1]
    by_cases h2 : (max fr e.value - fr).toNat ≤ i
    · rw [if_pos h2, if_pos (by omega), Int.sub_self]
    · rw [if_neg h2, if_neg (by omega), Int.sub_self]
theorem few_one {l : List Entry} (h : jok l = true) {e : Entry} (he : e ∈ l) : jok [e] = true := by
  have := jok_legs h e he
  unfold jok entB
  simp only [List.length_singleton, List.all_cons, List.all_nil, Bool.and_true, Bool.and_eq_true, decide_eq_true_eq, List.all_eq_true]
  exact ⟨by omega, this.1, this.2⟩
theorem few_app {j k : List Entry} (hj : fewB j = true) (hk : fewB k = true) (hoj : ∀ e ∈ j, e.ok) (hok : ∀ e ∈ k, e.ok) : jok (j ++ k) = true := by
  have h1 := few_jok hj hoj
  have h2 := few_jok hk hok
  have h3 := few_len hj
  have h4 := few_len hk
  unfold jok at *
  simp only [Bool.and_eq_true, decide_eq_true_eq, List.all_eq_true] at *
  refine ⟨by rw [List.length_append]; omega, fun e he => ?_⟩
  rcases List.mem_append.1 he with he | he
  · exact h1.2 e he
  · exact h2.2 e he
theorem slc_one (o : Orc) (l : List Entry) (m : Nat) (hm : m < l.length) : opQ o (.slc 10 true true) [.l (ents l), .i .i64 (m : Int), .i .i64 ((m : Int) + 1)] = some (.l (ents [l[m]])) := by
  have hb : bnds (ents l).length true true [.i .i64 (m : Int), .i .i64 ((m : Int) + 1)] = some (m, m + 1) := by
    have : (m : Int) + 1 ≤ ((ents l).length : Int) := by simp; omega
    simp only [bnds]
    rw [if_pos ⟨by omega, by omega, this⟩]
    simp
  have ha : (ents l).all (fun x => x.cells.length == 10) = true := encL_all fun _ => rfl
  simp only [opQ, ha, if_true, hb, Option.map_some]
  simp only [ents, encL]
  rw [← List.map_take, ← List.map_drop, List.take_succ_eq_append_getElem hm, List.drop_append_of_le_length (by rw [List.length_take]; omega), List.drop_eq_nil_of_le (by rw [List.length_take]; omega)]
  rfl
theorem l6a (l : List Entry) (hj : jok l = true) (q : Ask) (d : List Int) (i : Nat) (hq : IntKind.i64.wrap (q.from' + (i : Int)) = q.from' + (i : Int)) :
    loopK (O XM) [0, 5, 11, 12, 13, 14] body6_1 [(0, .l (ents l)), (5, .bx q.cells), (11, .ow 3 (ints d)), (12, .i .i64 i), (13, .i .i64 0), (14, .i .i64 0)] = some (.e 2, [(0, .l (ents l)), (5, .bx q.cells), (11, .ow 3 (ints d)), (12, .i .i64 i), (13, .i .i64 (l.foldl (chS q.account (q.from' + (i : Int))) 0))]) := by
  have hlen := jok_len hj
  generalize hv : q.from' + (i : Int) = v at hq ⊢
  have := loopK_run (o := O XM) (kin := [0, 5, 11, 12, 13, 14]) (c := body6_1) (fun m => [(0, .l (ents l)), (5, .bx q.cells), (11, .ow 3 (ints d)), (12, .i .i64 i), (13, .i .i64 ((l.take m).foldl (chS q.account v) 0)), (14, .i .i64 m)]) l.length (.e 2, [(0, .l (ents l)), (5, .bx q.cells), (11, .ow 3 (ints d)), (12, .i .i64 i), (13, .i .i64 (l.foldl (chS q.account v) 0))]) (by simp) (fun m hm => by
    have hw := wrap_i64 (m + 1) (by omega)
    have h12 := x12 (few_one hj (List.getElem_mem hm)) q.account
    have hs := slc_one (O XM) l m hm
    rw [ft_succ (chS q.account v) 0 l hm]
    generalize (l.take m).foldl (chS q.account v) 0 = n
    by_cases he : l[m].value = v
    · simp [body6_1, hm, hw, hv, hq, he, chS, hs, h12]
    · simp [body6_1, hm, hw, hv, hq, he, chS]) (by simp [body6_1]) (by simp)
  simpa using this
theorem l6 (l : List Entry) (hj : jok l = true) (q : Ask) :
    loopK (O XM) [0, 5, 11, 12] body6_2 [(0, .l (ents l)), (5, .bx q.cells), (11, .ow 3 (ints (daF q.account q.from' q.to' l))), (12, .i .i64 1)] = some (.e 0, []) := by
  have hlen := da_len q.account q.from' q.to' l
  have hget : ∀ i, i < (daF q.account q.from' q.to' l).length → daOk q.from' q.to' ∧ i < (q.to' - q.from' + 1).toNat := fun i hi => ⟨(daF_get hi).1, (daF_get hi).2.1⟩
  have hdiff : ∀ i, i + 1 < (daF q.account q.from' q.to' l).length → IntKind.i64.wrap ((daF q.account q.from' q.to' l).getD (i + 1) 0 - (daF q.account q.from' q.to' l).getD i 0) = l.foldl (chS q.account (q.from' + ((i + 1 : Nat) : Int))) 0 := fun i hi => by
    rw [← da_diff hi, List.getD_eq_getElem?_getD, List.getElem?_eq_getElem hi, List.getD_eq_getElem?_getD, List.getElem?_eq_getElem (Nat.lt_of_succ_lt hi)]; rfl
  generalize daF q.account q.from' q.to' l = d at hlen hget hdiff ⊢
  have := loopK_run (o := O XM) (kin := [0, 5, 11, 12]) (c := body6_2) (fun i => [(0, .l (ents l)), (5, .bx q.cells), (11, .ow 3 (ints d)), (12, .i .i64 ((i + 1 : Nat) : Int))]) (d.length - 1) (.e 0, []) (by simp) (fun i hi => by
    have hi1 : i + 1 < d.length := by omega
    have hd := hdiff i hi1
    obtain ⟨hok, hb⟩ := hget (i + 1) hi1
    unfold daOk at hok
    have hil : i < d.length := by omega
    generalize hp : i + 1 = p at hi1 hd hb ⊢
    rw [List.getD_eq_getElem?_getD, List.getElem?_eq_getElem hi1, List.getD_eq_getElem?_getD, List.getElem?_eq_getElem hil, Option.getD_some, Option.getD_some] at hd
    have hq : IntKind.i64.wrap (q.from' + (p : Int)) = q.from' + (p : Int) := wrap_i64 _ (by omega)
    have hw : IntKind.i64.wrap ((p : Int) + 1) = ((p + 1 : Nat) : Int) := by rw [wrap_i64 _ (by omega)]; omega
    have hw1 : IntKind.i64.wrap ((p : Int) - 1) = (i : Int) := by rw [wrap_i64 _ (by omega)]; omega
    have ha := l6a l hj q d p hq
    generalize l.foldl (chS q.account (q.from' + (p : Int))) 0 = n at ha hd
    generalize ((p + 1 : Nat) : Int) = p2 at hw ⊢
    simp [body6_2, exec_loopK, hi1, hil, ha, hw, hw1, hd]) (by
    have : ¬ (((d.length - 1 + 1 : Nat) : Int) < (d.length : Int)) := by omega
    generalize ((d.length - 1 + 1 : Nat) : Int) = z at this ⊢
    simp [body6_2, this]) (by simp)
  simpa using this
theorem o6 (j k : List Entry) (q : Ask) (hoj : ∀ e ∈ j, e.ok) (hok : ∀ e ∈ k, e.ok) : O XM 6 [.l (ents j), .l (ents k), q.v] = some (.b true) := by
  have h8 := o8 (X := XM) j
  have h8k := o8 (X := XM) k
  have hlive := live
  refine orun (fc := code6) rfl rfl rfl ?_
  by_cases h : fewB j = true
  · by_cases hk : fewB k = true
    · have hj := few_jok h hoj
      have hkk := few_jok hk hok
      have hjk := few_app h hk hoj hok
      have e1 := x12 hj q.account
      have e2 := x12 hkk q.account
      have e3 := x12 hjk q.account
      have f1 := x14 hj q.account q.from' q.to'
      have f2 := x14 hkk q.account q.from' q.to'
      have f3 := x14 hjk q.account q.from' q.to'
      have g := x10 hj q.account (-9223372036854775808) 9223372036854775807
      have e17 := x17 hj q.account q.from' q.to'
      have hl := l6 j hj q
      have hof := of_tu q.account j hoj
      rw [of_app] at e3
      rw [at_app] at f3
      have hb1 := few_len h
      have hb2 := few_len hk
      have hm1 : j.length * 112 ≤ 140737488355328 := by omega
      have hm2 : (j.length + k.length) * 112 ≤ 140737488355328 := by omega
      rw [show ents (j ++ k) = ents j ++ ents k from by simp [ents, encL]] at e3 f3
      generalize daF q.account q.from' q.to' j = d at e17 hl
      generalize tuF q.account (-9223372036854775808) 9223372036854775807 j = tt at g hof
      generalize ofF q.account j = n1 at e1 e3 hof
      generalize ofF q.account k = n2 at e2 e3
      generalize atF q.account q.from' q.to' j = m1 at f1 f3
      generalize atF q.account q.from' q.to' k = m2 at f2 f3
      rw [h] at h8
      rw [hk] at h8k
      simp [code6, exec_loopK, h8, h8k, e1, e2, e3, f1, f2, f3, g, e17, hl, hm1, hm2, hlive]
      exact hof
    · rw [Bool.not_eq_true] at hk
      rw [h] at h8
      rw [hk] at h8k
      simp [code6, h8, h8k, hlive]
  · rw [Bool.not_eq_true] at h
    rw [h] at h8
    simp [code6, h8, hlive]
end Go.Proofs.Ytggmlfmhinafhaa
