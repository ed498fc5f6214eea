/-
  The law that each account stands behind the one above it, on the way to which it ends, answers yes.
-/
import Derived.Test.YtdaclkakglmfeaaCode8
import Derived.Test.YtdaclkakglmfeaaPar
namespace Go.Proofs.Ytdaclkakglmfeaa
open Go.VM
variable (l : List Gl)
theorem run8 {fc : FCode} (ht : tab8 8 = some fc) {args : List V} {y : V} (hl : args.length = fc.np) (ha : args.all V.arg = true) (h : retE fc.res (exec O8 fc.body (args0 0 args)) = some y) : O8 8 args = some y := VM.run ht hl ha h
/-- Whether the one above stands among the first k. -/
def bef (p : Int) (zs : List Int) (k : Nat) : Bool := decide (p = 0) || (zs.take k).contains p
theorem bef_succ {p : Int} {zs : List Int} {k : Nat} (hk : k < zs.length) : bef p zs (k + 1) = (bef p zs k || decide (zs[k] = p)) := by
  unfold bef
  rw [List.take_succ_eq_append_getElem hk]
  have e : (zs.take k ++ [zs[k]]).contains p = ((zs.take k).contains p || decide (zs[k] = p)) := by
    rw [Bool.eq_iff_iff]
    simp only [List.contains_iff_mem, List.mem_append, List.mem_singleton, Bool.or_eq_true, decide_eq_true_eq]
    exact or_congr Iff.rfl ⟨Eq.symm, Eq.symm⟩
  rw [e, Bool.or_assoc]
theorem l8a (zs : List Int) (g : Gl) (i : Nat) (hi : i < zs.length) (hz : zs.length ≤ 1000) (hn : ∀ k, ∀ hk : k < i, zs[k] ≠ zs[i]) : loopK O8 [0, 5, 6, 7, 9, 10] body8_1 [(0, .l (encG l)), (5, .ow 3 (ints zs)), (6, .i .i64 i), (7, .bx g.cells), (9, .b (decide (g.parent = 0))), (10, .i .i64 0)] =
    some (.e 2, [(0, .l (encG l)), (5, .ow 3 (ints zs)), (6, .i .i64 i), (7, .bx g.cells), (9, .b (bef g.parent zs i))]) := by
  have := loopK_run (o := O8) (kin := [0, 5, 6, 7, 9, 10]) (c := body8_1) (fun k => [(0, .l (encG l)), (5, .ow 3 (ints zs)), (6, .i .i64 i), (7, .bx g.cells), (9, .b (bef g.parent zs k)), (10, .i .i64 k)]) i (.e 2, [(0, .l (encG l)), (5, .ow 3 (ints zs)), (6, .i .i64 i), (7, .bx g.cells), (9, .b (bef g.parent zs i))]) (by simp) (fun k hk => by
    have hk' : k < zs.length := by omega
    have hw := wrap_i64 (k + 1) (by omega)
    have hne := hn k hk
    rw [bef_succ hk']
    cases bef g.parent zs k with
    | true => simp [body8_1, hi, hk, hk', hw, hne]
    | false =>
      by_cases he : zs[k] = g.parent
      · simp [body8_1, hi, hk, hk', hw, he, he ▸ hne]
      · simp [body8_1, hi, hk, hk', hw, he, hne]) (by simp [body8_1]) (by simp)
  simpa [bef] using this
set_option maxHeartbeats 4000000 in
theorem r8 (L Z P : List V) (i : Nat) (g : Gl) (h1 : O8 15 [.l L, .i .i64 g.id] = some (.ow 3 (P ++ [.i .i64 g.id]))) (h2 : O8 15 [.l L, .i .i64 g.parent] = some (.ow 3 P)) (h3 : O8 14 [.l (P ++ [.i .i64 g.id]), .l (P ++ [.i .i64 g.id])] = some (.b true)) (hP : (P.length + 1) * 8 ≤ 140737488355328) :
    exec O8 reg8 [(0, .l L), (5, .ow 3 Z), (6, .i .i64 i), (7, .bx g.cells), (9, .b true)] = some (.n, [(0, .l L), (5, .ow 3 Z), (6, .i .i64 i), (7, .bx g.cells), (9, .b true), (84, .b false)]) := by
  simp (config := { maxSteps := 3000000 }) [reg8, h1, h2, h3, hP]
theorem l8b (h : Good l) (zs : List Int) (hz : belN 1002 (pairs l) 0 = some zs) : loopK O8 [0, 5, 6] body8_2 [(0, .l (encG l)), (5, .ow 3 (ints zs)), (6, .i .i64 0)] = some (.e 0, []) := by
  have hl := h.len
  obtain ⟨hlen, hnd, hord⟩ := h.order hz
  have := loopK_run (o := O8) (kin := [0, 5, 6]) (c := body8_2) (fun i => [(0, .l (encG l)), (5, .ow 3 (ints zs)), (6, .i .i64 i)]) zs.length (.e 0, []) (by simp) (fun i hi => by
    have hw := wrap_i64 (i + 1) (by omega)
    obtain ⟨j, hj, he, hp⟩ := hord i hi
    have h12 : O8 12 [.l (encG l), .i .i64 zs[i]] = some (.t [l[j].v, .b true]) := by
      have := x8 (f := 12) (by decide) (e12 (X := XO) l zs[i] (by omega))
      rw [he, h.find hj] at this
      rw [he]; exact this
    have h8 := l8a l zs l[j] i hi (by omega) fun k hk e => by
      have := (List.pairwise_iff_getElem.1 hnd) k i (by omega) hi hk
      exact this e
    have hb : bef l[j].parent zs i = true := by
      unfold bef
      rcases hp with hp | hp
      · simp [hp]
      · simp [hp]
    rw [hb] at h8
    have h15a := x8 (f := 15) (by decide) (e15 (X := XO) l l[j].id (by omega))
    have h15b := x8 (f := 15) (by decide) (e15 (X := XO) l l[j].parent (by omega))
    rw [h.path hj, ← ints_snoc] at h15a
    have hpl : (path l l[j].parent).length ≤ 40 := by unfold path; rw [List.length_reverse]; exact pathN_len l 40 _
    have h14 := x8 (f := 14) (by decide) (e14 (X := XO) (path l l[j].parent ++ [l[j].id]) (by simp; omega))
    rw [← ints_snoc] at h14
    have hr := r8 (encG l) (ints zs) (ints (path l l[j].parent)) i l[j] h15a h15b h14 (by simp; omega)
    generalize l[j] = g at h12 h8 hr
    simp [body8_2, exec_loopK, hi, hw, h12, h8, hr]) (by simp [body8_2]) (by simp)
  exact this
theorem e8 (l : List Gl) (p : Plan) (hn : ∀ g ∈ l, g.name.length ≤ maxLen) (h : l.length ≤ maxLen) : O8 8 [.l (encG l), p.v] = some (.b true) := by
  refine run8 (fc := code8) rfl rfl rfl ?_
  have h11 := x8 (f := 11) (by decide) (e11 (X := XO) l p hn h)
  have h9 := x8 (f := 9) (by decide) live
  by_cases h0 : chkG l p = 0
  · have hg := good_of h0
    have hl := hg.len
    obtain ⟨zs, hz, hzl⟩ := ord_some (l := pairs l) (by simp [pairs]; omega)
    have h21 := x8 (f := 21) (by decide) (e21 l zs (by omega) hz (by omega))
    have hlen := (hg.order hz).1
    have hlp := l8b l hg zs hz
    have hZ : (ints zs).length = (encG l).length := by simp [hlen]
    rw [h0] at h11
    generalize ints zs = Z at h21 hlp hZ
    generalize encG l = L at h11 h21 hlp hZ ⊢
    simp [code8, exec_loopK, h11, h21, hlp, h9, hZ]
  · generalize chkG l p = c at h11 h0
    simp [code8, h11, h0, h9]
end Go.Proofs.Ytdaclkakglmfeaa
