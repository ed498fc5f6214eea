/-
  The reference's Match, whole.
-/
import Derived.Test.YtmhpmghhgppdnaaEq6
namespace Go.Proofs.Ytmhpmghhgppdnaa
open Go.VM Go.RowKit
section
attribute [local simp] triV
variable {X : Orc}
theorem loopK_go {o : Orc} {kin : List Nat} {c : C} {env env' : Env} (hF : keepE kin env = env) (hF' : keepE kin env' = env') (h : kE kin (exec o c env) = some (.n, env')) : loopK o kin c env = loopK o kin c env' := by
  rcases kE_inv h with ⟨_, g, hg, hk⟩ | ⟨hn, _⟩
  · rw [loopK, loopC_eq, hF, hg, roundE_n, loopK, loopC_eq, loopC_eq, hk, hF']
  · exact absurd rfl hn
theorem l12_2 (a b : List Item) (pass : Int) (l : List Tri) (ha : a.length ≤ 4096) (hb : b.length ≤ 4096) (hl : l.length ≤ 50000) (hda : ∀ x ∈ a, I64 x.day) (hdb : ∀ x ∈ b, I64 x.day) :
    loopK (O X) [0, 1, 7, 8, 9] body12_2 [(0, .l (items a)), (1, .l (items b)), (7, .ow 38 (tris l)), (8, .i .i64 pass), (9, .i .i64 0)] = some (.e 2, [(0, .l (items a)), (1, .l (items b)), (7, .ow 38 (tris (passR a b pass l a.length))), (8, .i .i64 pass)]) := by
  have := loopK_run (o := O X) (kin := [0, 1, 7, 8, 9]) (c := body12_2) (fun i => [(0, .l (items a)), (1, .l (items b)), (7, .ow 38 (tris (passR a b pass l i))), (8, .i .i64 pass), (9, .i .i64 i)]) a.length (.e 2, [(0, .l (items a)), (1, .l (items b)), (7, .ow 38 (tris (passR a b pass l a.length))), (8, .i .i64 pass)]) (by simp) (fun i hi => by
    have hw := wrap_i64 (i + 1) (by omega)
    have hlen := passR_len a b pass l i
    have h1 := l12_1 (X := X) a b pass i hi (passR a b pass l i) hb (by omega) hda hdb
    simp [body12_2, hi, hw, exec_loopK, h1, passR]) (by simp [body12_2]) (by simp)
  exact this
theorem l12_3 (a b : List Item) (ha : a.length ≤ 4096) (hb : b.length ≤ 4096) (hda : ∀ x ∈ a, I64 x.day) (hdb : ∀ x ∈ b, I64 x.day) :
    loopK (O X) [0, 1, 7, 8] body12_3 [(0, .l (items a)), (1, .l (items b)), (7, .ow 38 (tris [])), (8, .i .i64 1)] = some (.e 0, [(0, .l (items a)), (1, .l (items b)), (7, .ow 38 (tris (allR3 a b)))]) := by
  have ha' : (a.length : Int) ≤ 4096 := by omega
  have hb' : (b.length : Int) ≤ 4096 := by omega
  have n1 := allR1_len a b
  have n2 := allR2_len a b
  have w2 := wrap_i64 2 (by omega)
  have w3 := wrap_i64 3 (by omega)
  have w4 := wrap_i64 4 (by omega)
  have h1 := l12_2 (X := X) a b 1 [] ha hb (by simp) hda hdb
  have h2 := l12_2 (X := X) a b 2 (allR1 a b) ha hb (by omega) hda hdb
  have h3 := l12_2 (X := X) a b 3 (allR2 a b) ha hb (by omega) hda hdb
  change _ = some (Ex.e 2, [(0, V.l (items a)), (1, V.l (items b)), (7, V.ow 38 (tris (allR1 a b))), (8, V.i IntKind.i64 1)]) at h1
  change _ = some (Ex.e 2, [(0, V.l (items a)), (1, V.l (items b)), (7, V.ow 38 (tris (allR2 a b))), (8, V.i IntKind.i64 2)]) at h2
  change _ = some (Ex.e 2, [(0, V.l (items a)), (1, V.l (items b)), (7, V.ow 38 (tris (allR3 a b))), (8, V.i IntKind.i64 3)]) at h3
  simp only [tris, encL_nil] at h1
  rw [loopK_go (env' := [(0, .l (items a)), (1, .l (items b)), (7, .ow 38 (tris (allR1 a b))), (8, .i .i64 2)]) (by simp) (by simp) (by simp [body12_3, ha', hb', exec_loopK, h1, w2])]
  rw [loopK_go (env' := [(0, .l (items a)), (1, .l (items b)), (7, .ow 38 (tris (allR2 a b))), (8, .i .i64 3)]) (by simp) (by simp) (by simp [body12_3, ha', hb', exec_loopK, h2, w3])]
  rw [loopK_go (env' := [(0, .l (items a)), (1, .l (items b)), (7, .ow 38 (tris (allR3 a b))), (8, .i .i64 4)]) (by simp) (by simp) (by simp [body12_3, ha', hb', exec_loopK, h3, w4])]
  exact loopK_end (by simp) (by simp [body12_3]) (by simp)
def pickR (l : List Tri) (i : Nat) : List Tri := match (List.range l.length).findSome? (atF l i true) with
  | some k => (l[k]?).toList
  | none => []
def outT (l : List Tri) : Nat → List Tri
  | 0 => []
  | i + 1 => outT l i ++ pickR l i
theorem pickR_len (l : List Tri) (i : Nat) : (pickR l i).length ≤ 1 := by
  unfold pickR
  split
  · rename_i k _
    cases l[k]? <;> simp
  · simp
theorem outT_len (l : List Tri) : ∀ i, (outT l i).length ≤ i
  | 0 => by simp [outT]
  | i + 1 => by
    have h1 := outT_len l i
    have h2 := pickR_len l i
    simp only [outT, List.length_append]; omega
theorem l12_4 (a b : List Item) (l : List Tri) (ha : a.length ≤ 4096) (hl : l.length ≤ 1000000) :
    loopK (O X) [0, 1, 7, 11, 12] body12_4 [(0, .l (items a)), (1, .l (items b)), (7, .ow 38 (tris l)), (11, .ow 38 []), (12, .i .i64 0)] = some (.e 6, [(0, .l (items a)), (1, .l (items b)), (7, .ow 38 (tris l)), (11, .ow 38 (tris (outT l a.length)))]) := by
  have := loopK_run (o := O X) (kin := [0, 1, 7, 11, 12]) (c := body12_4) (fun i => [(0, .l (items a)), (1, .l (items b)), (7, .ow 38 (tris l)), (11, .ow 38 (tris (outT l i))), (12, .i .i64 i)]) a.length (.e 6, [(0, .l (items a)), (1, .l (items b)), (7, .ow 38 (tris l)), (11, .ow 38 (tris (outT l a.length)))]) (by simp) (fun i hi => by
    have hw := wrap_i64 (i + 1) (by omega)
    have hlen := outT_len l i
    have h33 := o33 (X := X) l i true hl
    have hbd : ((outT l i).length + 1) * 24 ≤ 140737488355328 := by omega
    cases hq : (List.range l.length).findSome? (atF l i true) with
    | none =>
      have hp : pickR l i = [] := by simp [pickR, hq]
      have ht : atP l i true = -1 := by simp [atP, hq]
      rw [ht] at h33
      simp [body12_4, hi, hw, h33, outT, hp]
    | some k =>
      obtain ⟨j, _, hj⟩ := List.exists_of_findSome?_eq_some hq
      obtain ⟨rfl, hk, _⟩ := atF_some hj
      have hp : pickR l i = [l[k]] := by simp [pickR, hq, hk]
      have ht : atP l i true = k := by simp [atP, hq]
      rw [ht] at h33
      simp [body12_4, hi, hw, h33, outT, hp, hk, hbd, encL_append, encL_cons, encL_nil]) (by simp [body12_4]) (by simp)
  simpa [outT] using this
theorem o12 (a b : List Item) (ha : a.length ≤ 4096) (hb : b.length ≤ 4096) (hda : ∀ x ∈ a, I64 x.day) (hdb : ∀ x ∈ b, I64 x.day) : O X 12 [.l (items a), .l (items b)] = some (.t [.ow 38 (tris (outT (allR3 a b) a.length)), .ow 3 (ints (freeP a.length (allR3 a b) true)), .ow 3 (ints (freeP b.length (allR3 a b) false))]) := by
  refine orun (fc := code12) rfl rfl rfl ?_
  have n3 := allR3_len a b
  have h3 := l12_3 (X := X) a b ha hb hda hdb
  have h4 := l12_4 (X := X) a b (allR3 a b) ha (by omega)
  have f1 := o34 (X := X) a.length (allR3 a b) true (by omega) (by omega)
  have f2 := o34 (X := X) b.length (allR3 a b) false (by omega) (by omega)
  simp only [tris, encL_nil] at h3
  simp [code12, exec_loopK, h3, h4, f1, f2]
end
end Go.Proofs.Ytmhpmghhgppdnaa
