/-
  Turnover, walked.
-/
import Derived.Test.YtggmlfmhinafhaaAt
namespace Go.Proofs.Ytggmlfmhinafhaa
open Go.RowKit Go.Shelf
attribute [local go_sem] Oper.semAt_some

def tuStep (fr to : Int) (s : Int × Int) (x : Ev × Int) : Int × Int := if x.1.i1 < fr ∨ to < x.1.i1 then s else if 0 < x.2 then (wrap64 (s.1 + x.2), s.2) else (s.1, wrap64 (s.2 - x.2))
def tuM (fr to : Int) (pre : List (Ev × Int)) : Int × Int := pre.foldl (tuStep fr to) (0, 0)
theorem tuM_snoc (fr to : Int) (pre : List (Ev × Int)) (x : Ev × Int) : tuM fr to (pre ++ [x]) = tuStep fr to (tuM fr to pre) x := by simp [tuM]

set_option maxRecDepth 100000 in
set_option maxHeartbeats 2000000 in
theorem turn_in (F : Fence) (n : Nat) (h10 : F.fn 10) (h25 : F.fn 25) (h36 : F.fn 36) (hro : F.round = none) (hn : 3 ≤ n) (a : Option Addr) (cap : Nat) (acc fr to : Int) (es : List Ev) (w : World) (hlen : es.length ≤ 4096) (hlegs : ∀ e ∈ es, e.legs.length ≤ 4096)
    (hE : EntsAt (fun b => b < w.heap.size) w a es) :
    CallsIn F n Try.prog 10 #[.slice a es.length cap, .int .i64 acc, .int .i64 fr, .int .i64 to] w fun e W' => e = .returned (.tuple #[.int .i64 (tuM fr to (mvs acc es)).1, .int .i64 (tuM fr to (mvs acc es)).2]) ∧ Below w.heap.size w W' := by
  have h1 : 1 ≤ n := by omega
  refine callsIn_of_wp_marks Try.func10 rfl h10 ?_ hro
  simp only [Try.ntmps10, List.size_toArray, List.length_cons, List.length_nil, Nat.reduceAdd, Nat.reduceSub, Array.replicate_succ, Array.replicate_zero, List.push_toArray, List.append_toArray, List.nil_append, List.cons_append]
  gi_wp2_with (gi_at_call 25; refine (movements_in F (n - 1) h25 hro _ _ _ _ _).mono ?_; rintro e w' ⟨rfl, rfl⟩)
  have b0 := Boxed.new w 3 (.int .i64 fr)
  have b1 := Boxed.new (w.alloc (.cells #[.int .i64 fr] 3)) 3 (.int .i64 to)
  have b2 := Boxed.new ((w.alloc (.cells #[.int .i64 fr] 3)).alloc (.cells #[.int .i64 to] 3)) 3 (.int .i64 0)
  have b3 := Boxed.new (((w.alloc (.cells #[.int .i64 fr] 3)).alloc (.cells #[.int .i64 to] 3)).alloc (.cells #[.int .i64 0] 3)) 3 (.int .i64 0)
  have b4 := Boxed.new ((((w.alloc (.cells #[.int .i64 fr] 3)).alloc (.cells #[.int .i64 to] 3)).alloc (.cells #[.int .i64 0] 3)).alloc (.cells #[.int .i64 0] 3)) 22 (.slice a es.length cap)
  have b5 := Boxed.new (((((w.alloc (.cells #[.int .i64 fr] 3)).alloc (.cells #[.int .i64 to] 3)).alloc (.cells #[.int .i64 0] 3)).alloc (.cells #[.int .i64 0] 3)).alloc (.cells #[.slice a es.length cap] 22)) 3 (.int .i64 acc)
  obtain ⟨W0, hW0⟩ : ∃ W0, ((((((w.alloc (.cells #[.int .i64 fr] 3)).alloc (.cells #[.int .i64 to] 3)).alloc (.cells #[.int .i64 0] 3)).alloc (.cells #[.int .i64 0] 3)).alloc (.cells #[.slice a es.length cap] 22)).alloc (.cells #[.int .i64 acc] 3)) = W0 := ⟨_, rfl⟩
  have hsz : W0.heap.size = w.heap.size + 6 := by rw [← hW0]; simp
  have hB0 : Below w.heap.size w W0 := by rw [← hW0]; exact ((((((Below.refl _ w).alloc (by simp) _).alloc (by simp) _).alloc (by simp; omega) _).alloc (by simp; omega) _).alloc (by simp; omega) _).alloc (by simp; omega) _
  have c0 := (((((b0).alloc (.cells #[.int .i64 to] 3)).alloc (.cells #[.int .i64 0] 3)).alloc (.cells #[.int .i64 0] 3)).alloc (.cells #[.slice a es.length cap] 22)).alloc (.cells #[.int .i64 acc] 3)
  have c1 := ((((b1).alloc (.cells #[.int .i64 0] 3)).alloc (.cells #[.int .i64 0] 3)).alloc (.cells #[.slice a es.length cap] 22)).alloc (.cells #[.int .i64 acc] 3)
  have c2 := (((b2).alloc (.cells #[.int .i64 0] 3)).alloc (.cells #[.slice a es.length cap] 22)).alloc (.cells #[.int .i64 acc] 3)
  have c3 := ((b3).alloc (.cells #[.slice a es.length cap] 22)).alloc (.cells #[.int .i64 acc] 3)
  have c4 := (b4).alloc (.cells #[.int .i64 acc] 3)
  rw [hW0] at b5 c0 c1 c2 c3 c4
  simp only [World.size_alloc, Nat.add_assoc, Nat.reduceAdd] at b1 b2 b3 b4 b5 c1 c2 c3 c4
  have hE0 : EntsAt (fun b => b < w.heap.size) W0 a es := hE.bel (fun _ hb => hb) hB0
  simp only [Nat.add_assoc, Nat.reduceAdd, hW0]
  clear hW0 hE
  obtain ⟨N, hN⟩ : ∃ N, w.heap.size = N := ⟨_, rfl⟩
  simp only [hN] at b0 b1 b2 b3 b4 b5 c0 c1 c2 c3 c4 hsz hB0 hE0 ⊢
  refine wpIn_rangeFunc_ownH hro h1 (gf := 36) (lb := #[.pointer (some ⟨N + 4, 0, none⟩), .pointer (some ⟨N + 5, 0, none⟩)]) rfl h36 (enters_of Try.func36 (by kernel_rfl) rfl)
    (moves_stops F (n - 1) h36 hro (by omega) (N + 4) (N + 5) (N + 6) (fun b => b = N + 2 ∨ b = N + 3) a cap acc es W0 hsz.symm hlen hlegs c4.cell (by omega) b5.cell (by omega) (hE0.mono (fun b hb => ⟨by omega, by omega⟩)))
    Kp.trans (fun W l o o' hl h hc _ => Kp.b (by omega) W l o o' hl h hc) (Below.refl _ _) (fun _ => rfl)
    (fun pre W => Boxed W N 3 (.int .i64 fr) ∧ Boxed W (N + 1) 3 (.int .i64 to) ∧ Boxed W (N + 2) 3 (.int .i64 (tuM fr to pre).1) ∧ Boxed W (N + 3) 3 (.int .i64 (tuM fr to pre).2) ∧ Below N w W)
    (fun _ _ _ => False)
    ((Own.from (boxed_own _ _ _) _).and ((Own.from (boxed_own _ _ _) _).and ((Own.from (boxed_own _ _ _) _).and ((Own.from (boxed_own _ _ _) _).and (ownFrom_below (by omega) (by omega))))))
    (fun _ _ _ _ _ hs _ _ => hs)
    ⟨c0, c1, c2, c3, hB0⟩
    (fun x a' W => ∃ Bx, W.cell? ⟨Bx, 1, none⟩ = some (.int .i64 x.1.i1) ∧ W.cell? ⟨Bx, 2, none⟩ = some (.int .i64 x.1.i2) ∧ a' = { tmps := #[.slice a es.length cap, .int .i64 acc, .int .i64 fr, .int .i64 to, undef, undef, .pointer (some ⟨N, 0, none⟩), .pointer (some ⟨N + 1, 0, none⟩), .int .i64 0, .int .i64 0, .pointer (some ⟨N + 2, 0, none⟩), .pointer (some ⟨N + 3, 0, none⟩), .pointer (some ⟨Bx, 0, none⟩), .int .i64 x.2, .slice a es.length cap, .int .i64 acc, .func (.func 36) #[] #[.pointer (some ⟨N + 4, 0, none⟩), .pointer (some ⟨N + 5, 0, none⟩)], x.1.agg, .int .i64 x.2, undef, undef, undef, undef, undef, undef, undef, undef, undef, undef, undef, undef, undef, undef, undef, undef, undef, undef, undef, undef, undef, undef], defers := [] })
    (fun x a' => OwnFrom.ex fun Bx => cells_own Bx _ _ _) ?assign ?body ?done ?stop
  case assign =>
    rintro l pre x W K ⟨i0, i1, i2, i3, i4⟩ hK
    gi_wp2
    have hv := ev_alloc W x.1
    exact hK _ _ ((KeepsOthers.alloc _ _).from _) ((Kp.refl ..).alloc _) ⟨i0.alloc _, i1.alloc _, i2.alloc _, i3.alloc _, i4.alloc (by have := i4.size; omega) _⟩ ⟨W.heap.size, hv.1, hv.2, rfl⟩
  case body =>
    rintro l pre x a' W hl hr ⟨i0, i1, i2, i3, i4⟩ ⟨Bx, hx1, hx2, rfl⟩ hpl
    have hc0 := i0.cell
    have hc1 := i1.cell
    have hc2 := i2.cell
    have hf2 := i2.frozen
    have hc3 := i3.cell
    have hf3 := i3.frozen
    have ho : x.1.i1 < fr ∨ to < x.1.i1 → tuM fr to (pre ++ [x]) = tuM fr to pre := fun h => by rw [tuM_snoc, tuStep, if_pos h]
    have hd : ¬ (x.1.i1 < fr ∨ to < x.1.i1) → 0 < x.2 → tuM fr to (pre ++ [x]) = (wrap64 ((tuM fr to pre).1 + x.2), (tuM fr to pre).2) := fun h h' => by rw [tuM_snoc, tuStep, if_neg h, if_pos h']
    have hc : ¬ (x.1.i1 < fr ∨ to < x.1.i1) → ¬ 0 < x.2 → tuM fr to (pre ++ [x]) = ((tuM fr to pre).1, wrap64 ((tuM fr to pre).2 - x.2)) := fun h h' => by rw [tuM_snoc, tuStep, if_neg h, if_neg h']
    gi_wp2
    · have hx := ho (by simp_all)
      exact ⟨KeepsFrom.refl _ _, Kp.refl .., by dsimp only; rw [hx]; exact ⟨i0, i1, i2, i3, i4⟩⟩
    · have hx := hd (by simp_all) (by assumption)
      exact ⟨(KeepsOthers.setCell _ _ _).from _, Kp.setB (D := N + 6) (B := fun b => b = N + 2 ∨ b = N + 3) (b := N + 2) (Kp.refl ..) (by omega) (.inl rfl) _, by dsimp only; rw [hx]; exact ⟨i0.other (by omega) _, i1.other (by omega) _, i2.set _, i3.other (by omega) _, i4.setCell (p := ⟨N + 2, 0, none⟩) (by show N ≤ N + 2; omega) _⟩⟩
    · have hx := hc (by simp_all) (by omega)
      exact ⟨(KeepsOthers.setCell _ _ _).from _, Kp.setB (D := N + 6) (B := fun b => b = N + 2 ∨ b = N + 3) (b := N + 3) (Kp.refl ..) (by omega) (.inr rfl) _, by dsimp only; rw [hx]; exact ⟨i0.other (by omega) _, i1.other (by omega) _, i2.other (by omega) _, i3.set _, i4.setCell (p := ⟨N + 3, 0, none⟩) (by show N ≤ N + 3; omega) _⟩⟩
    · have hx := ho (by omega)
      exact ⟨KeepsFrom.refl _ _, Kp.refl .., by dsimp only; rw [hx]; exact ⟨i0, i1, i2, i3, i4⟩⟩
  case done =>
    rintro D ys W hD rfl ⟨i0, i1, i2, i3, i4⟩ hK
    have hc2 := i2.cell
    have hc3 := i3.cell
    gi_wp2
    gi_region
    all_goals gi_wp2
    all_goals
      refine ⟨by simp, .inl ⟨_, _, rfl, run_takeDeferred (w := W.drew) hK, ?_⟩⟩
      exact ⟨_, results_tmp2 rfl _ _ _, rfl, by rw [hN]; exact (i4.drew).trans (belowK_b (w := w) (by omega) W.drew D _ _ (by omega) hK rfl rfl)⟩
  case stop =>
    rintro D c pre W _ _ h _
    exact h.elim
end Go.Proofs.Ytggmlfmhinafhaa
