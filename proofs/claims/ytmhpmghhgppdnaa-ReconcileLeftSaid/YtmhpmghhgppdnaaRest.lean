/-
  What is not taken: a function that asks a map beside its frame.
-/
import Derived.Test.YtmhpmghhgppdnaaTab4
namespace Go.Proofs.Ytmhpmghhgppdnaa
open Go.VM Go.RowKit
/-- The numbers below n that are not in a set. -/
def restP (n : Nat) (l : List Int) : List Int := ((List.range n).filter fun (i : Nat) => !l.contains (i : Int)).map fun (i : Nat) => (i : Int)
/-- A map, or nil, is a set of numbers. -/
def isSetQ (s : Maps) (q : Option Nat) (l : List Int) : Prop := match q with
  | none => l = []
  | some g => isSet s g l
section
variable {cf : Maps → Nat → List V → Option (V × Maps)} {s : Maps} {q : Option Nat} {l : List Int}
theorem look_setQ (h : isSetQ s q l) (k : Int) : mapEff Try.prog cf s LOOK [.i .i64 52, .mr q, .i .i64 k] = some (.b (l.contains k), s) := by
  cases q with
  | none =>
    have h : l = [] := h
    subst h
    exact look_nilset k
  | some g => exact look_set h k
abbrev E27 (q : Option Nat) (n : Nat) (out : List Int) (i : Nat) : Env := [(1, .mr q), (5, .ow 3 (ints out)), (7, .i .i64 n), (8, .i .i64 i)]
theorem restP_succ {i : Nat} (l : List Int) : restP (i + 1) l = if l.contains (i : Int) then restP i l else restP i l ++ [(i : Int)] := by
  unfold restP
  rw [List.range_succ, List.filter_append, List.map_append]
  cases hc : l.contains (i : Int) with
  | true =>
    have hc' : (i : Int) ∈ l := by simpa using hc
    simp [hc']
  | false =>
    have hc' : (i : Int) ∉ l := by simpa using hc
    simp [hc']
theorem restP_len (n : Nat) (l : List Int) : (restP n l).length ≤ n := by
  unfold restP
  rw [List.length_map]
  exact Nat.le_trans (List.length_filter_le _ _) (by simp)
theorem rest_PFG (hmut : MutOK Try.prog) (cf : Maps → Nat → List V → Option (V × Maps)) (n : Nat) (hn : n ≤ 100000) (h : isSetQ s q l) : PFG Try.prog (mapsR Try.prog cf) 27 [.i .i64 n, .mr q] s (.l (ints (restP n l))) s := by
  show PFG Try.prog (mapsR Try.prog noneF) 27 _ s _ _
  refine bodyG_sound (ad := noAd) (sound0 hmut) soundR0 Try.func27 comp27 rfl rfl ?_
  unfold code27
  have e1 : exec O0 n27_1 (args0 0 [.i .i64 n, .mr q]) = some (.n, [(0, .i .i64 n), (1, .mr q), (4, .ow 3 [])]) := by simp [n27_1, args0]
  have e2 : exec O0 n27_2 [(0, .i .i64 n), (1, .mr q), (4, .ow 3 [])] = some (.n, [(0, .i .i64 n), (1, .mr q), (4, .ow 3 []), (5, .ow 3 [])]) := by simp [n27_2]
  have e3 : exec O0 n27_3 [(0, .i .i64 n), (1, .mr q), (4, .ow 3 []), (5, .ow 3 [])] = some (.n, [(0, .i .i64 n), (1, .mr q), (4, .ow 3 []), (5, .ow 3 []), (7, .i .i64 n), (8, .i .i64 0)]) := by simp [n27_3]
  refine WG.seqC e1 (WG.seqC e2 (WG.seq' (WG.seqC e3 (WG.blk' ?_))))
  refine WG.loop (fun m env s' => ∃ i, m = n - i ∧ i ≤ n ∧ s' = s ∧ keepE [1, 5, 7, 8] env = E27 q n (restP i l) i) ?_ (n := n) (env := _) (s := s) ⟨0, by omega, by omega, rfl, by simp [restP]⟩
  rintro m env s' ⟨i, rfl, hi, rfl, henv⟩
  rw [henv]
  have hlen := restP_len i l
  have hw := wrap_i64 (i + 1) (by omega)
  by_cases hin : i < n
  · have e4 : exec O0 n27_4 (E27 q n (restP i l) i) = some (.n, [(1, .mr q), (5, .ow 3 (ints (restP i l))), (7, .i .i64 n), (8, .i .i64 i), (9, .b true)]) := by simp [n27_4, hin]
    have e5 : exec O0 n27_5 [(1, .mr q), (5, .ow 3 (ints (restP i l))), (7, .i .i64 n), (8, .i .i64 i), (9, .b true)] = some (.n, [(1, .mr q), (5, .ow 3 (ints (restP i l))), (7, .i .i64 n), (8, .i .i64 i), (9, .b true)]) := by simp [n27_5]
    have e6 : exec O0 n27_6 [(1, .mr q), (5, .ow 3 (ints (restP i l))), (7, .i .i64 n), (8, .i .i64 i), (9, .b true)] = some (.n, [(1, .mr q), (5, .ow 3 (ints (restP i l))), (6, .i .i64 i), (7, .i .i64 n), (8, .i .i64 i), (9, .b true)]) := by simp [n27_6]
    have hlk := look_setQ (cf := noneF) h (i : Int)
    have e7 : ∃ env1, stepsR (mapsR Try.prog noneF) O0 n27_7 [(1, .mr q), (5, .ow 3 (ints (restP i l))), (6, .i .i64 i), (7, .i .i64 n), (8, .i .i64 i), (9, .b true)] s' = some (env1, s') ∧ dropE [11, 12, 13] env1 = [(1, .mr q), (5, .ow 3 (ints (restP i l))), (6, .i .i64 i), (7, .i .i64 n), (8, .i .i64 i), (9, .b true), (14, .b (!l.contains (i : Int)))] :=
      ⟨_, by simp [n27_7, stepsR, stepR, hlk]; rfl, by simp⟩
    obtain ⟨env7, h7, d7⟩ := e7
    have e8 : exec O0 n27_8 [(1, .mr q), (5, .ow 3 (ints (restP i l))), (6, .i .i64 i), (7, .i .i64 n), (8, .i .i64 i), (9, .b true), (14, .b (!l.contains (i : Int)))] = some (.n, [(1, .mr q), (5, .ow 3 (ints (restP (i + 1) l))), (6, .i .i64 i), (7, .i .i64 n), (8, .i .i64 i), (9, .b true), (14, .b (!l.contains (i : Int)))]) := by
      rw [restP_succ]
      have hb : ((restP i l).length + 1) * 8 ≤ 140737488355328 := by omega
      generalize restP i l = out at hb
      cases hc : l.contains (i : Int) with
      | true => simp [n27_8]
      | false => simp [n27_8, hb, encL_append, encL_cons]
    refine WG.seqC e4 (WG.seqC e5 (WG.seq' (WG.blk' (WG.seqC e6 (WG.seqL h7 ?_)))))
    rw [d7]
    refine WG.endC (e := .n) e8 ?_
    refine WG.endC (e := .n) (env1 := [(1, .mr q), (5, .ow 3 (ints (restP (i + 1) l))), (6, .i .i64 i), (7, .i .i64 n), (8, .i .i64 ((i + 1 : Nat) : Int)), (9, .b true), (14, .b (!l.contains (i : Int)))]) (by simp [n27_9, hw]) ?_
    exact ⟨n - (i + 1), by omega, i + 1, rfl, hin, rfl, by simp⟩
  · have hie : i = n := by omega
    subst hie
    have e4 : exec O0 n27_4 (E27 q i (restP i l) i) = some (.n, [(1, .mr q), (5, .ow 3 (ints (restP i l))), (7, .i .i64 i), (8, .i .i64 i), (9, .b false)]) := by simp [n27_4]
    have e5 : exec O0 n27_5 [(1, .mr q), (5, .ow 3 (ints (restP i l))), (7, .i .i64 i), (8, .i .i64 i), (9, .b false)] = some (.e 0, [(5, .ow 3 (ints (restP i l)))]) := by simp [n27_5]
    refine WG.seqC e4 (WG.seqX e5 (by simp) ?_)
    simp only [↓reduceIte]
    refine WG.endC (e := .r) (env1 := [(4, .ow 3 (ints (restP i l)))]) (by simp [n27_11]) ?_
    exact ⟨fun j h => (by cases h), ⟨.ow 3 (ints (restP i l)), by simp [retV, resVs, resV], by simp [frzt, frz]⟩, rfl⟩
end
end Go.Proofs.Ytmhpmghhgppdnaa
