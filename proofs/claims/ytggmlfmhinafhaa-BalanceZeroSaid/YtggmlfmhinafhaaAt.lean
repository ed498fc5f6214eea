/-
  At, walked.
-/
import Derived.Test.YtggmlfmhinafhaaOf
namespace Go.Proofs.Ytggmlfmhinafhaa
open Go.RowKit Go.Shelf
attribute [local go_sem] Oper.semAt_some

def atM (bk vl : Int) (pre : List (Ev × Int)) : Int := pre.foldl (fun s x => if x.1.i1 ≤ bk ∧ x.1.i2 ≤ vl then wrap64 (s - x.2) else s) 0
theorem atM_snoc (bk vl : Int) (pre : List (Ev × Int)) (x : Ev × Int) : atM bk vl (pre ++ [x]) = if x.1.i1 ≤ bk ∧ x.1.i2 ≤ vl then wrap64 (atM bk vl pre - x.2) else atM bk vl pre := by simp [atM]

theorem Kp.setB {D : Nat} {B : Nat → Prop} {W X : World} (h : Kp D B W X) {b : Nat} (hb : b < D) (hB : B b) (v : Value) : Kp D B W (X.setCell ⟨b, 0, none⟩ v) :=
  h.grown (grownBy_setCell' X b v) (fun r e => .inr (by cases e; rintro (⟨_, h⟩ | ⟨h, _⟩); exact h hB; omega))
theorem ev_alloc (W : World) (e : Ev) : (W.alloc (.cells #[.int .i64 e.i0, .int .i64 e.i1, .int .i64 e.i2, .int .i64 e.i3, .int .i64 e.i4, .int .i64 e.i5, .string e.s6, .string e.s7, .slice e.la e.legs.length e.lc, .int .u64 e.u9] 41)).cell? ⟨W.heap.size, 1, none⟩ = some (.int .i64 e.i1) ∧
    (W.alloc (.cells #[.int .i64 e.i0, .int .i64 e.i1, .int .i64 e.i2, .int .i64 e.i3, .int .i64 e.i4, .int .i64 e.i5, .string e.s6, .string e.s7, .slice e.la e.legs.length e.lc, .int .u64 e.u9] 41)).cell? ⟨W.heap.size, 2, none⟩ = some (.int .i64 e.i2) := by
  have hnew := World.alloc_heap_new W (.cells #[.int .i64 e.i0, .int .i64 e.i1, .int .i64 e.i2, .int .i64 e.i3, .int .i64 e.i4, .int .i64 e.i5, .string e.s6, .string e.s7, .slice e.la e.legs.length e.lc, .int .u64 e.u9] 41)
  refine ⟨?_, ?_⟩ <;> (unfold World.cell?; rw [hnew]; rfl)
theorem cells_own {B : Nat} (Bx : Nat) (u1 u2 : Value) (p : Prop) : OwnFrom B (fun (_ : Unit) W => W.cell? ⟨Bx, 1, none⟩ = some u1 ∧ W.cell? ⟨Bx, 2, none⟩ = some u2 ∧ p) :=
  Own.from (fun _ _ _ _ hs hg hr => ⟨cell_kept hs.1 hg hr, cell_kept hs.2.1 hg hr, hs.2.2⟩) _
theorem OwnFrom.ex {β γ : Type} {B : Nat} {I : γ → β → World → Prop} (h : ∀ c, OwnFrom B (I c)) : OwnFrom B (fun s W => ∃ c, I c s W) := fun s W W' row ⟨c, hc⟩ hg hr => ⟨c, h c s W W' row hc hg hr⟩

set_option maxRecDepth 100000 in
set_option maxHeartbeats 2000000 in
theorem at_in (F : Fence) (n : Nat) (h14 : F.fn 14) (h25 : F.fn 25) (h36 : F.fn 36) (hro : F.round = none) (hn : 3 ≤ n) (a : Option Addr) (cap : Nat) (acc bk vl : Int) (es : List Ev) (w : World) (hlen : es.length ≤ 4096) (hlegs : ∀ e ∈ es, e.legs.length ≤ 4096)
    (hE : EntsAt (fun b => b < w.heap.size) w a es) :
    CallsIn F n Try.prog 14 #[.slice a es.length cap, .int .i64 acc, .int .i64 bk, .int .i64 vl] w fun e W' => e = .returned (.int .i64 (atM bk vl (mvs acc es))) ∧ Below w.heap.size w W' := by
  have h1 : 1 ≤ n := by omega
  refine callsIn_of_wp_marks Try.func14 rfl h14 ?_ hro
  simp only [Try.ntmps14, List.size_toArray, List.length_cons, List.length_nil, Nat.reduceAdd, Nat.reduceSub, Array.replicate_succ, Array.replicate_zero, List.push_toArray, List.append_toArray, List.nil_append, List.cons_append]
  gi_wp2_with (gi_at_call 25; refine (movements_in F (n - 1) h25 hro _ _ _ _ _).mono ?_; rintro e w' ⟨rfl, rfl⟩)
  have b0 := Boxed.new w 3 (.int .i64 bk)
  have b1 := Boxed.new (w.alloc (.cells #[.int .i64 bk] 3)) 3 (.int .i64 vl)
  have b2 := Boxed.new ((w.alloc (.cells #[.int .i64 bk] 3)).alloc (.cells #[.int .i64 vl] 3)) 3 (.int .i64 0)
  have b3 := Boxed.new (((w.alloc (.cells #[.int .i64 bk] 3)).alloc (.cells #[.int .i64 vl] 3)).alloc (.cells #[.int .i64 0] 3)) 22 (.slice a es.length cap)
  have b4 := Boxed.new ((((w.alloc (.cells #[.int .i64 bk] 3)).alloc (.cells #[.int .i64 vl] 3)).alloc (.cells #[.int .i64 0] 3)).alloc (.cells #[.slice a es.length cap] 22)) 3 (.int .i64 acc)
  obtain ⟨W0, hW0⟩ : ∃ W0, (((((w.alloc (.cells #[.int .i64 bk] 3)).alloc (.cells #[.int .i64 vl] 3)).alloc (.cells #[.int .i64 0] 3)).alloc (.cells #[.slice a es.length cap] 22)).alloc (.cells #[.int .i64 acc] 3)) = W0 := ⟨_, rfl⟩
  have hsz : W0.heap.size = w.heap.size + 5 := by rw [← hW0]; simp
  have hB0 : Below w.heap.size w W0 := by rw [← hW0]; exact (((((Below.refl _ w).alloc (Nat.le_refl _) _).alloc (by simp) _).alloc (by simp; omega) _).alloc (by simp; omega) _).alloc (by simp; omega) _
  have c0 := (((b0.alloc (.cells #[.int .i64 vl] 3)).alloc (.cells #[.int .i64 0] 3)).alloc (.cells #[.slice a es.length cap] 22)).alloc (.cells #[.int .i64 acc] 3)
  have c1 := ((b1.alloc (.cells #[.int .i64 0] 3)).alloc (.cells #[.slice a es.length cap] 22)).alloc (.cells #[.int .i64 acc] 3)
  have c2 := (b2.alloc (.cells #[.slice a es.length cap] 22)).alloc (.cells #[.int .i64 acc] 3)
  have c3 := b3.alloc (.cells #[.int .i64 acc] 3)
  rw [hW0] at b4 c0 c1 c2 c3
  simp only [World.size_alloc, Nat.add_assoc, Nat.reduceAdd] at b1 b2 b3 b4 c1 c2 c3
  have hE0 : EntsAt (fun b => b < w.heap.size) W0 a es := hE.bel (fun _ hb => hb) hB0
  simp only [Nat.add_assoc, Nat.reduceAdd, hW0]
  clear hW0 hE
  obtain ⟨N, hN⟩ : ∃ N, w.heap.size = N := ⟨_, rfl⟩
  simp only [hN] at b0 b1 b2 b3 b4 c0 c1 c2 c3 hsz hB0 hE0 ⊢
  refine wpIn_rangeFunc_ownH hro h1 (gf := 36) (lb := #[.pointer (some ⟨N + 3, 0, none⟩), .pointer (some ⟨N + 4, 0, none⟩)]) rfl h36 (enters_of Try.func36 (by kernel_rfl) rfl)
    (moves_stops F (n - 1) h36 hro (by omega) (N + 3) (N + 4) (N + 5) (fun b => b = N + 2) a cap acc es W0 hsz.symm hlen hlegs c3.cell (by omega) b4.cell (by omega) (hE0.mono (fun b hb => ⟨by omega, by omega⟩)))
    Kp.trans (fun W l o o' hl h hc _ => Kp.b (by omega) W l o o' hl h hc) (Below.refl _ _) (fun _ => rfl)
    (fun pre W => Boxed W N 3 (.int .i64 bk) ∧ Boxed W (N + 1) 3 (.int .i64 vl) ∧ Boxed W (N + 2) 3 (.int .i64 (atM bk vl pre)) ∧ Below N w W)
    (fun _ _ _ => False)
    ((Own.from (boxed_own _ _ _) _).and ((Own.from (boxed_own _ _ _) _).and ((Own.from (boxed_own _ _ _) _).and (ownFrom_below (by omega) (by omega)))))
    (fun _ _ _ _ _ hs _ _ => hs)
    ⟨c0, c1, c2, hB0⟩
    (fun x a' W => ∃ Bx, W.cell? ⟨Bx, 1, none⟩ = some (.int .i64 x.1.i1) ∧ W.cell? ⟨Bx, 2, none⟩ = some (.int .i64 x.1.i2) ∧ a' = { tmps := #[.slice a es.length cap, .int .i64 acc, .int .i64 bk, .int .i64 vl, undef, undef, .pointer (some ⟨N, 0, none⟩), .pointer (some ⟨N + 1, 0, none⟩), .int .i64 0, .pointer (some ⟨N + 2, 0, none⟩), .pointer (some ⟨Bx, 0, none⟩), .int .i64 x.2, .slice a es.length cap, .int .i64 acc, .func (.func 36) #[] #[.pointer (some ⟨N + 3, 0, none⟩), .pointer (some ⟨N + 4, 0, none⟩)], x.1.agg, .int .i64 x.2, undef, undef, undef, undef, undef, undef, undef, undef, undef, undef, undef, undef, undef, undef], defers := [] })
    (fun x a' => OwnFrom.ex fun Bx => cells_own Bx _ _ _) ?assign ?body ?done ?stop
  case assign =>
    rintro l pre x W K ⟨i0, i1, i2, i3⟩ hK
    gi_wp2
    have hv := ev_alloc W x.1
    exact hK _ _ ((KeepsOthers.alloc _ _).from _) ((Kp.refl ..).alloc _) ⟨i0.alloc _, i1.alloc _, i2.alloc _, i3.alloc (by have := i3.size; omega) _⟩ ⟨W.heap.size, hv.1, hv.2, rfl⟩
  case body =>
    rintro l pre x a' W hl hr ⟨i0, i1, i2, i3⟩ ⟨Bx, hx1, hx2, rfl⟩ hpl
    have hc0 := i0.cell
    have hc1 := i1.cell
    have hc2 := i2.cell
    have hf2 := i2.frozen
    gi_wp2
    · have h1 : x.1.i1 ≤ bk := by assumption
      have h2 : x.1.i2 ≤ vl := by assumption
      exact ⟨(KeepsOthers.setCell _ _ _).from _, Kp.setB (D := N + 5) (B := fun b => b = N + 2) (b := N + 2) (Kp.refl ..) (by omega) rfl _, ⟨i0.other (by omega) _, i1.other (by omega) _, by rw [atM_snoc, if_pos ⟨h1, h2⟩]; exact i2.set _, i3.setCell (p := ⟨N + 2, 0, none⟩) (by show N ≤ N + 2; omega) _⟩⟩
    · exact ⟨KeepsFrom.refl _ _, Kp.refl .., ⟨i0, i1, by rw [atM_snoc, if_neg (by omega)]; exact i2, i3⟩⟩
    · exact ⟨KeepsFrom.refl _ _, Kp.refl .., ⟨i0, i1, by rw [atM_snoc, if_neg (by omega)]; exact i2, i3⟩⟩
  case done =>
    rintro D ys W hD rfl ⟨i0, i1, i2, i3⟩ hK
    have hc2 := i2.cell
    gi_wp2
    refine ⟨by simp, .inl ⟨_, _, rfl, run_takeDeferred hK, ?_⟩⟩
    exact ⟨_, results_tmp rfl _ _ _, rfl, by rw [hN]; exact i3.trans (belowK_b (w := w) (by omega) W D _ _ (by omega) hK rfl rfl)⟩
  case stop =>
    rintro D c pre W _ _ h _
    exact h.elim
end Go.Proofs.Ytggmlfmhinafhaa
