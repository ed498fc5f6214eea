/-
  The reference's Match: what its loops compute.
-/
import Derived.Test.YtmhpmghhgppdnaaEq3
import Derived.Test.YtmhpmghhgppdnaaMat2
namespace Go.Proofs.Ytmhpmghhgppdnaa
open Go.VM Go.RowKit
section
attribute [local simp] triV
variable {X : Orc}
def fitsR (x y : Item) (pass : Int) : Bool := decide (x.amount = y.amount) && (if pass = 1 then decide (x.ref = y.ref) else if pass = 2 then decide (x.day = y.day) else nearP x.day y.day)
theorem o39 (a b : Int) (ha : I64 a) (hb : I64 b) : O X 39 [.i .i64 a, .i .i64 b] = some (.b (nearP a b)) := by
  refine orun (fc := code39) rfl rfl rfl ?_
  by_cases h : b < a
  · have h1 : IntKind.u64.wrap (IntKind.u64.wrap a - IntKind.u64.wrap b) = max a b - min a b := by
      simp only [wrap_u64m]
      simp only [I64] at ha hb
      omega
    simp only [wrap_u64m] at h1
    simp [code39, wrap_u64m, h, h1, nearP]
  · have h1 : IntKind.u64.wrap (IntKind.u64.wrap b - IntKind.u64.wrap a) = max a b - min a b := by
      simp only [wrap_u64m]
      simp only [I64] at ha hb
      omega
    simp only [wrap_u64m] at h1
    simp [code39, wrap_u64m, h, h1, nearP]
theorem o21 (x y : Item) (pass : Int) (hx : I64 x.day) (hy : I64 y.day) : O X 21 [x.v, y.v, .i .i64 pass] = some (.b (fitsR x y pass)) := by
  refine orun (fc := code21) rfl rfl rfl ?_
  have h39 := o39 (X := X) x.day y.day hx hy
  by_cases h1 : x.amount = y.amount
  · by_cases h2 : pass = 1
    · simp [code21, fitsR, h1, h2]
    · by_cases h3 : pass = 2
      · subst h3; simp [code21, fitsR, h1]
      · simp [code21, fitsR, h1, h2, h3, h39]
  · simp [code21, fitsR, h1]
/-! ### Where a pair stands, and what is free -/
theorem atF_some {l : List Tri} {k : Int} {b : Bool} {i j : Nat} (h : atF l k b i = some j) : j = i ∧ ∃ h : i < l.length, keyP b l[i] = k := by
  unfold atF at h
  cases hx : l[i]? with
  | none => rw [hx] at h; cases h
  | some x =>
    rw [hx] at h
    simp only at h
    split at h
    · rename_i hk
      obtain ⟨hi, hx⟩ := List.getElem?_eq_some_iff.1 hx
      exact ⟨(Option.some.inj h).symm, hi, by rw [hx]; exact hk⟩
    · cases h
theorem atP_neg (l : List Tri) (k : Int) (b : Bool) : decide (atP l k b < 0) = !((l.map (keyP b)).contains k) := by
  unfold atP
  cases hq : (List.range l.length).findSome? (atF l k b) with
  | none =>
    have h0 := range_find_none.1 hq
    have : (l.map (keyP b)).contains k = false := by
      rw [Bool.eq_false_iff]
      intro hc
      rw [List.contains_iff_mem] at hc
      obtain ⟨x, hx, hk⟩ := List.mem_map.1 hc
      obtain ⟨i, hi, rfl⟩ := List.mem_iff_getElem.1 hx
      have := h0 i hi
      simp [atF, hi, hk] at this
    rw [this]; rfl
  | some j =>
    obtain ⟨i, hi, hj⟩ := List.exists_of_findSome?_eq_some hq
    obtain ⟨rfl, hl, hk⟩ := atF_some hj
    have : (l.map (keyP b)).contains k = true := List.contains_iff_mem.2 (List.mem_map.2 ⟨_, List.getElem_mem hl, hk⟩)
    rw [this]
    simp
def freeP (n : Nat) (l : List Tri) (b : Bool) : List Int := restP n (l.map (keyP b))
theorem l34 (n : Nat) (l : List Tri) (b : Bool) (hn : n ≤ 100000) (hl : l.length ≤ 1000000) : loopK (O X) [0, 1, 2, 7, 8] body34_1 [(0, .i .i64 n), (1, .l (tris l)), (2, .b b), (7, .ow 3 []), (8, .i .i64 0)] = some (.e 0, [(7, .ow 3 (ints (freeP n l b)))]) := by
  have := loopK_run (o := O X) (kin := [0, 1, 2, 7, 8]) (c := body34_1) (fun i => [(0, .i .i64 n), (1, .l (tris l)), (2, .b b), (7, .ow 3 (ints (freeP i l b))), (8, .i .i64 i)]) n (.e 0, [(7, .ow 3 (ints (freeP n l b)))]) (by simp) (fun i hi => by
    have hw := wrap_i64 (i + 1) (by omega)
    have h33 := o33 (X := X) l i b hl
    have hneg := atP_neg l i b
    have hs := restP_succ (i := i) (l.map (keyP b))
    have hlen := restP_len i (l.map (keyP b))
    have hb : ((restP i (l.map (keyP b))).length + 1) * 8 ≤ 140737488355328 := by omega
    unfold freeP
    cases hc : (l.map (keyP b)).contains (i : Int) with
    | true =>
      rw [hc] at hneg hs
      have hn' : ¬ atP l i b < 0 := by simpa using hneg
      simp [body34_1, hi, hw, h33, hn', hs]
    | false =>
      rw [hc] at hneg hs
      have hn' : atP l i b < 0 := by simpa using hneg
      simp [body34_1, hi, hw, h33, hn', hs, hb, encL_append, encL_cons, encL_nil]) (by simp [body34_1]) (by simp)
  have h0 : freeP 0 l b = [] := by simp [freeP, restP]
  simpa [h0] using this
theorem o34 (n : Nat) (l : List Tri) (b : Bool) (hn : n ≤ 100000) (hl : l.length ≤ 1000000) : O X 34 [.i .i64 n, .l (tris l), .b b] = some (.ow 3 (ints (freeP n l b))) := by
  refine orun (fc := code34) rfl rfl rfl ?_
  have h := l34 (X := X) n l b hn hl
  simp [code34, exec_loopK, h]
/-! ### The passes -/
def okR (a b : List Item) (pass : Int) (i : Nat) (l : List Tri) (k : Nat) : Bool := match a[i]?, b[k]? with
  | some x, some y => !((l.map (keyP true)).contains (i : Int)) && (!((l.map (keyP false)).contains (k : Int)) && fitsR x y pass)
  | _, _ => false
def stepR (a b : List Item) (pass : Int) (i : Nat) (l : List Tri) (k : Nat) : List Tri := if okR a b pass i l k = true then l ++ [((i : Int), (k : Int), pass)] else l
def rowR (a b : List Item) (pass : Int) (i : Nat) (l : List Tri) (n : Nat) : List Tri := (List.range n).foldl (stepR a b pass i) l
theorem rowR_succ (a b : List Item) (pass : Int) (i : Nat) (l : List Tri) (n : Nat) : rowR a b pass i l (n + 1) = stepR a b pass i (rowR a b pass i l n) n := by
  unfold rowR; rw [List.range_succ, List.foldl_append]; rfl
theorem foldR_in (a b : List Item) (pass : Int) (i : Nat) : ∀ (ks : List Nat) (l : List Tri), (l.map (keyP true)).contains (i : Int) = true → ks.foldl (stepR a b pass i) l = l
  | [], _, _ => rfl
  | k :: ks, l, h => by
    have h0 : stepR a b pass i l k = l := by
      unfold stepR okR
      cases a[i]? <;> cases b[k]? <;> simp only [h, Bool.not_true, Bool.false_and, Bool.false_eq_true, if_false]
    rw [List.foldl_cons, h0]
    exact foldR_in a b pass i ks l h
theorem foldR (a b : List Item) (pass : Int) (i : Nat) : ∀ (ks : List Nat) (l : List Tri), (l.map (keyP true)).contains (i : Int) = false → ks.foldl (stepR a b pass i) l = match ks.find? (okR a b pass i l) with
    | some k => l ++ [((i : Int), (k : Int), pass)]
    | none => l
  | [], _, _ => rfl
  | k :: ks, l, h => by
    rw [List.foldl_cons, List.find?_cons]
    cases hk : okR a b pass i l k with
    | false =>
      have h0 : stepR a b pass i l k = l := by simp [stepR, hk]
      rw [h0]
      exact foldR a b pass i ks l h
    | true =>
      have h0 : stepR a b pass i l k = l ++ [((i : Int), (k : Int), pass)] := by simp [stepR, hk]
      rw [h0]
      exact foldR_in a b pass i ks _ (by simp [keyP])
theorem rowR_len (a b : List Item) (pass : Int) (i : Nat) (l : List Tri) (n : Nat) : (rowR a b pass i l n).length ≤ l.length + 1 := by
  unfold rowR
  cases h : (l.map (keyP true)).contains (i : Int) with
  | true => rw [foldR_in a b pass i _ l h]; omega
  | false =>
    rw [foldR a b pass i _ l h]
    split <;> simp
def passR (a b : List Item) (pass : Int) (l : List Tri) : Nat → List Tri
  | 0 => l
  | i + 1 => rowR a b pass i (passR a b pass l i) b.length
theorem passR_len (a b : List Item) (pass : Int) (l : List Tri) : ∀ i, (passR a b pass l i).length ≤ l.length + i
  | 0 => by simp [passR]
  | i + 1 => by
    have h1 := rowR_len a b pass i (passR a b pass l i) b.length
    have h2 := passR_len a b pass l i
    simp only [passR]; omega
def allR1 (a b : List Item) : List Tri := passR a b 1 [] a.length
def allR2 (a b : List Item) : List Tri := passR a b 2 (allR1 a b) a.length
def allR3 (a b : List Item) : List Tri := passR a b 3 (allR2 a b) a.length
theorem allR1_len (a b : List Item) : (allR1 a b).length ≤ a.length := by
  have := passR_len a b 1 [] a.length
  simp only [List.length_nil] at this
  unfold allR1; omega
theorem allR2_len (a b : List Item) : (allR2 a b).length ≤ 2 * a.length := by
  have := passR_len a b 2 (allR1 a b) a.length
  have := allR1_len a b
  unfold allR2; omega
theorem allR3_len (a b : List Item) : (allR3 a b).length ≤ 3 * a.length := by
  have := passR_len a b 3 (allR2 a b) a.length
  have := allR2_len a b
  unfold allR3; omega
theorem l12_1 (a b : List Item) (pass : Int) (i : Nat) (hi : i < a.length) (l : List Tri) (hb : b.length ≤ 4096) (hl : l.length ≤ 100000) (hda : ∀ x ∈ a, I64 x.day) (hdb : ∀ x ∈ b, I64 x.day) :
    loopK (O X) [0, 1, 7, 8, 9, 10] body12_1 [(0, .l (items a)), (1, .l (items b)), (7, .ow 38 (tris l)), (8, .i .i64 pass), (9, .i .i64 i), (10, .i .i64 0)] = some (.e 4, [(0, .l (items a)), (1, .l (items b)), (7, .ow 38 (tris (rowR a b pass i l b.length))), (8, .i .i64 pass), (9, .i .i64 i)]) := by
  have := loopK_run (o := O X) (kin := [0, 1, 7, 8, 9, 10]) (c := body12_1) (fun k => [(0, .l (items a)), (1, .l (items b)), (7, .ow 38 (tris (rowR a b pass i l k))), (8, .i .i64 pass), (9, .i .i64 i), (10, .i .i64 k)]) b.length (.e 4, [(0, .l (items a)), (1, .l (items b)), (7, .ow 38 (tris (rowR a b pass i l b.length))), (8, .i .i64 pass), (9, .i .i64 i)]) (by simp) (fun k hk => by
    have hw := wrap_i64 (k + 1) (by omega)
    have hlen := rowR_len a b pass i l k
    have hs := rowR_succ a b pass i l k
    generalize rowR a b pass i l k = m at hlen hs ⊢
    have h33 := o33 (X := X) m i true (by omega)
    have h33' := o33 (X := X) m k false (by omega)
    have n1 := atP_neg m i true
    have n2 := atP_neg m k false
    have h21 := o21 (X := X) a[i] b[k] pass (hda _ (List.getElem_mem hi)) (hdb _ (List.getElem_mem hk))
    have hbd : (m.length + 1) * 24 ≤ 140737488355328 := by omega
    cases c1 : (m.map (keyP true)).contains (i : Int) with
    | true =>
      rw [c1] at n1
      have n1' : ¬ atP m i true < 0 := by simpa using n1
      have h0 : stepR a b pass i m k = m := by unfold stepR okR; rw [List.getElem?_eq_getElem hi, List.getElem?_eq_getElem hk]; simp only [c1, Bool.not_true, Bool.false_and]; rfl
      rw [hs, h0]
      simp [body12_1, hi, hk, hw, h33, n1']
    | false =>
      rw [c1] at n1
      have n1' : atP m i true < 0 := by simpa using n1
      cases c2 : (m.map (keyP false)).contains (k : Int) with
      | true =>
        rw [c2] at n2
        have n2' : ¬ atP m k false < 0 := by simpa using n2
        have h0 : stepR a b pass i m k = m := by unfold stepR okR; rw [List.getElem?_eq_getElem hi, List.getElem?_eq_getElem hk]; simp only [c1, c2, Bool.not_true, Bool.false_and, Bool.and_false]; rfl
        rw [hs, h0]
        simp [body12_1, hi, hk, hw, h33, n1', h33', n2']
      | false =>
        rw [c2] at n2
        have n2' : atP m k false < 0 := by simpa using n2
        cases c3 : fitsR a[i] b[k] pass with
        | false =>
          rw [c3] at h21
          have h0 : stepR a b pass i m k = m := by unfold stepR okR; rw [List.getElem?_eq_getElem hi, List.getElem?_eq_getElem hk]; simp only [c1, c2, c3, Bool.and_false]; rfl
          rw [hs, h0]
          simp [body12_1, hi, hk, hw, h33, n1', h33', n2', h21]
        | true =>
          rw [c3] at h21
          have h0 : stepR a b pass i m k = m ++ [((i : Int), (k : Int), pass)] := by unfold stepR okR; rw [List.getElem?_eq_getElem hi, List.getElem?_eq_getElem hk]; simp only [c1, c2, c3, Bool.not_false, Bool.and_true]; rfl
          rw [hs, h0]
          simp [body12_1, hi, hk, hw, h33, n1', h33', n2', h21, hbd, encL_append, encL_cons, encL_nil]) (by simp [body12_1]) (by simp)
  exact this
end
end Go.Proofs.Ytmhpmghhgppdnaa
namespace Go.Proofs.Ytmhpmghhgppdnaa
open Go.VM Go.RowKit
section
attribute [local simp] triV
variable {X : Orc}
theorem loopK_go {o : Orc} {kin : List Nat} {c : C} {env env' : Env} (hF : keepE kin env = env) (hF' : keepE kin env' = env') (h : kE kin (exec o c env) = some (.n, env')) : loopK o kin c env = loopK o kin c env' := by
  rcases kE_inv h with ⟨_, g, hg, hk⟩ | ⟨hn, _⟩
  · rw [loopK, loopC_eq, hF, hg, roundE_n, loopK, loopC_eq, loopC_eq, hk, hF']
  · exact absurd rfl hn
theorem l12_2 (a b : List Item) (pass : Int) (l : List Tri) (ha : a.length ≤ 4096) (hb : b.length ≤ 4096) (hl : l.length ≤ 50000) (hda : ∀ x ∈ a, I64 x.day) (hdb : ∀ x ∈ b, I64 x.day) :
    loopK (O X) [0, 1, 7, 8, 9] body12_2 [(0, .l (items a)), (1, .l (items b)), (7, .ow 38 (tris l)), (8, .i .i64 pass), (9, .i .i64 0)] = some (.e 2, [(0, .l (items a)), (1, .l (items b)), (7, .ow 38 (tris (passR a b pass l a.length))), (8, .i .i64 pass)]) := by
  have := loopK_run (o := O X) (kin := [0, 1, 7, 8, 9]) (c := body12_2) (fun i => [(0, .l (items a)), (1, .l (items b)), (7, .ow 38 (tris (passR a b pass l i))), (8, .i .i64 pass), (9, .i .i64 i)]) a.length (.e 2, [(0, .l (items a)), (1, .l (items b)), (7, .ow 38 (tris (passR a b pass l a.length))), (8, .i .i64 pass)]) (by simp) (fun i hi => by
    have hw := wrap_i64 (i + 1) (by omega)
    have hlen := passR_len a b pass l i
    have h1 := l12_1 (X := X) a b pass i hi (passR a b pass l i) hb (by omega) hda hdb
    simp [body12_2, hi, hw, exec_loopK, h1, passR]) (by simp [body12_2]) (by simp)
  exact this
theorem l12_3 (a b : List Item) (ha : a.length ≤ 4096) (hb : b.length ≤ 4096) (hda : ∀ x ∈ a, I64 x.day) (hdb : ∀ x ∈ b, I64 x.day) :
    loopK (O X) [0, 1, 7, 8] body12_3 [(0, .l (items a)), (1, .l (items b)), (7, .ow 38 (tris [])), (8, .i .i64 1)] = some (.e 0, [(0, .l (items a)), (1, .l (items b)), (7, .ow 38 (tris (allR3 a b)))]) := by
  have ha' : (a.length : Int) ≤ 4096 := by omega
  have hb' : (b.length : Int) ≤ 4096 := by omega
  have n1 := allR1_len a b
  have n2 := allR2_len a b
  have w2 := wrap_i64 2 (by omega)
  have w3 := wrap_i64 3 (by omega)
  have w4 := wrap_i64 4 (by omega)
  have h1 := l12_2 (X := X) a b 1 [] ha hb (by simp) hda hdb
  have h2 := l12_2 (X := X) a b 2 (allR1 a b) ha hb (by omega) hda hdb
  have h3 := l12_2 (X := X) a b 3 (allR2 a b) ha hb (by omega) hda hdb
  change _ = some (Ex.e 2, [(0, V.l (items a)), (1, V.l (items b)), (7, V.ow 38 (tris (allR1 a b))), (8, V.i IntKind.i64 1)]) at h1
  change _ = some (Ex.e 2, [(0, V.l (items a)), (1, V.l (items b)), (7, V.ow 38 (tris (allR2 a b))), (8, V.i IntKind.i64 2)]) at h2
  change _ = some (Ex.e 2, [(0, V.l (items a)), (1, V.l (items b)), (7, V.ow 38 (tris (allR3 a b))), (8, V.i IntKind.i64 3)]) at h3
  simp only [tris, encL_nil] at h1
  rw [loopK_go (env' := [(0, .l (items a)), (1, .l (items b)), (7, .ow 38 (tris (allR1 a b))), (8, .i .i64 2)]) (by simp) (by simp) (by simp [body12_3, ha', hb', exec_loopK, h1, w2])]
  rw [loopK_go (env' := [(0, .l (items a)), (1, .l (items b)), (7, .ow 38 (tris (allR2 a b))), (8, .i .i64 3)]) (by simp) (by simp) (by simp [body12_3, ha', hb', exec_loopK, h2, w3])]
  rw [loopK_go (env' := [(0, .l (items a)), (1, .l (items b)), (7, .ow 38 (tris (allR3 a b))), (8, .i .i64 4)]) (by simp) (by simp) (by simp [body12_3, ha', hb', exec_loopK, h3, w4])]
  exact loopK_end (by simp) (by simp [body12_3]) (by simp)
def pickR (l : List Tri) (i : Nat) : List Tri := match (List.range l.length).findSome? (atF l i true) with
  | some k => (l[k]?).toList
  | none => []
def outT (l : List Tri) : Nat → List Tri
  | 0 => []
  | i + 1 => outT l i ++ pickR l i
theorem pickR_len (l : List Tri) (i : Nat) : (pickR l i).length ≤ 1 := by
  unfold pickR
  split
  · rename_i k _
    cases l[k]? <;> simp
  · simp
theorem outT_len (l : List Tri) : ∀ i, (outT l i).length ≤ i
  | 0 => by simp [outT]
  | i + 1 => by
    have h1 := outT_len l i
    have h2 := pickR_len l i
    simp only [outT, List.length_append]; omega
theorem l12_4 (a b : List Item) (l : List Tri) (ha : a.length ≤ 4096) (hl : l.length ≤ 1000000) :
    loopK (O X) [0, 1, 7, 11, 12] body12_4 [(0, .l (items a)), (1, .l (items b)), (7, .ow 38 (tris l)), (11, .ow 38 []), (12, .i .i64 0)] = some (.e 6, [(0, .l (items a)), (1, .l (items b)), (7, .ow 38 (tris l)), (11, .ow 38 (tris (outT l a.length)))]) := by
  have := loopK_run (o := O X) (kin := [0, 1, 7, 11, 12]) (c := body12_4) (fun i => [(0, .l (items a)), (1, .l (items b)), (7, .ow 38 (tris l)), (11, .ow 38 (tris (outT l i))), (12, .i .i64 i)]) a.length (.e 6, [(0, .l (items a)), (1, .l (items b)), (7, .ow 38 (tris l)), (11, .ow 38 (tris (outT l a.length)))]) (by simp) (fun i hi => by
    have hw := wrap_i64 (i + 1) (by omega)
    have hlen := outT_len l i
    have h33 := o33 (X := X) l i true hl
    have hbd : ((outT l i).length + 1) * 24 ≤ 140737488355328 := by omega
    cases hq : (List.range l.length).findSome? (atF l i true) with
    | none =>
      have hp : pickR l i = [] := by simp [pickR, hq]
      have ht : atP l i true = -1 := by simp [atP, hq]
      rw [ht] at h33
      simp [body12_4, hi, hw, h33, outT, hp]
    | some k =>
      obtain ⟨j, _, hj⟩ := List.exists_of_findSome?_eq_some hq
      obtain ⟨rfl, hk, _⟩ := atF_some hj
      have hp : pickR l i = [l[k]] := by simp [pickR, hq, hk]
      have ht : atP l i true = k := by simp [atP, hq]
      rw [ht] at h33
      simp [body12_4, hi, hw, h33, outT, hp, hk, hbd, encL_append, encL_cons, encL_nil]) (by simp [body12_4]) (by simp)
  simpa [outT] using this
theorem o12 (a b : List Item) (ha : a.length ≤ 4096) (hb : b.length ≤ 4096) (hda : ∀ x ∈ a, I64 x.day) (hdb : ∀ x ∈ b, I64 x.day) : O X 12 [.l (items a), .l (items b)] = some (.t [.ow 38 (tris (outT (allR3 a b) a.length)), .ow 3 (ints (freeP a.length (allR3 a b) true)), .ow 3 (ints (freeP b.length (allR3 a b) false))]) := by
  refine orun (fc := code12) rfl rfl rfl ?_
  have n3 := allR3_len a b
  have h3 := l12_3 (X := X) a b ha hb hda hdb
  have h4 := l12_4 (X := X) a b (allR3 a b) ha (by omega)
  have f1 := o34 (X := X) a.length (allR3 a b) true (by omega) (by omega)
  have f2 := o34 (X := X) b.length (allR3 a b) false (by omega) (by omega)
  simp only [tris, encL_nil] at h3
  simp [code12, exec_loopK, h3, h4, f1, f2]
end
end Go.Proofs.Ytmhpmghhgppdnaa
