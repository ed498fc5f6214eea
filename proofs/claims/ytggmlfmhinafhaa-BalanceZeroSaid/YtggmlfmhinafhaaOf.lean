/-
  Of, walked.
-/
import Derived.Test.YtggmlfmhinafhaaIter
namespace Go.Proofs.Ytggmlfmhinafhaa
open Go.RowKit Go.Shelf
attribute [local go_sem] Oper.semAt_some

theorem LegsAt.mono {ok ok' : Nat → Prop} (hk : ∀ b, ok b → ok' b) {W : World} {la : Option Addr} {legs : List (Int × Int × ByteArray)} (hl : LegsAt ok W la legs) : LegsAt ok' W la legs := by
  rcases hl with hl | ⟨b, o, h1, h2, h3⟩
  · exact .inl hl
  · exact .inr ⟨b, o, h1, hk _ h2, h3⟩
theorem EntsAt.mono {ok ok' : Nat → Prop} (hk : ∀ b, ok b → ok' b) {W : World} {a : Option Addr} {es : List Ev} (hl : EntsAt ok W a es) : EntsAt ok' W a es := by
  rcases hl with hl | ⟨b, o, h1, h2, h3⟩
  · exact .inl hl
  · exact .inr ⟨b, o, h1, hk _ h2, fun k e he => ⟨(h3 k e he).1, (h3 k e he).2.mono hk⟩⟩
theorem LegAt.bel {n₀ : Nat} {W W' : World} (h : Below n₀ W W') {b o : Nat} (hb : b < n₀) {x : Int × Int × ByteArray} (hl : LegAt W b o x) : LegAt W' b o x := ⟨(h.cell hb).trans hl.1, (h.cell hb).trans hl.2.1, (h.cell hb).trans hl.2.2⟩
theorem EntsAt.bel {n₀ : Nat} {ok : Nat → Prop} (hk : ∀ b, ok b → b < n₀) {W W' : World} (h : Below n₀ W W') {a : Option Addr} {es : List Ev} (hl : EntsAt ok W a es) : EntsAt ok W' a es := by
  rcases hl with hl | ⟨b, o, h1, h2, h3⟩
  · exact .inl hl
  · refine .inr ⟨b, o, h1, h2, fun k e he => ⟨?_, ?_⟩⟩
    · obtain ⟨g0, g1, g2, g3, g4, g5, g6, g7, g8, g9⟩ := (h3 k e he).1
      exact ⟨(h.cell (hk _ h2)).trans g0, (h.cell (hk _ h2)).trans g1, (h.cell (hk _ h2)).trans g2, (h.cell (hk _ h2)).trans g3, (h.cell (hk _ h2)).trans g4, (h.cell (hk _ h2)).trans g5, (h.cell (hk _ h2)).trans g6, (h.cell (hk _ h2)).trans g7, (h.cell (hk _ h2)).trans g8, (h.cell (hk _ h2)).trans g9⟩
    · rcases (h3 k e he).2 with hl | ⟨b', o', h1', h2', h3'⟩
      · exact .inl hl
      · exact .inr ⟨b', o', h1', h2', fun m x hx => (h3' m x hx).bel h (hk _ h2')⟩

/-- The iterator's contract. -/
theorem moves_stops (F : Fence) (n : Nat) (h : F.fn 36) (hro : F.round = none) (hn : 1 ≤ n) (Bj Ba D : Nat) (B : Nat → Prop) (a : Option Addr) (cap : Nat) (acc : Int) (es : List Ev) (w : World) (hD : D = w.heap.size) (hlen : es.length ≤ 4096) (hlegs : ∀ e ∈ es, e.legs.length ≤ 4096)
    (hBj : w.cell? ⟨Bj, 0, none⟩ = some (.slice a es.length cap)) (hBjD : Bj < D) (hBa : w.cell? ⟨Ba, 0, none⟩ = some (.int .i64 acc)) (hBaD : Ba < D ∧ ¬ B Ba) (hE : EntsAt (fun b => b < D ∧ ¬ B b) w a es) :
    SeqStopsK F n Try.prog 36 #[.pointer (some ⟨Bj, 0, none⟩), .pointer (some ⟨Ba, 0, none⟩)] Ev.encs (Kp D B) (fun ys => ys = mvs acc es) (fun _ => True) (mvs acc es).length w := fun l J Jx W hW hJ _ hY h0 => by
  subst hD
  exact iter_in F n h hro hn l Bj Ba _ B a cap acc es J Jx W hW.size hJ hY ((hW.cell (p := ⟨Bj, 0, none⟩) hBjD).trans hBj) ((hW.cell (p := ⟨Ba, 0, none⟩) hBaD.1).trans hBa) hBaD hlen hlegs (hE.bel (fun b hb => hb.1) hW) h0

def ofM (pre : List (Ev × Int)) : Int := pre.foldl (fun s x => wrap64 (s - x.2)) 0
theorem ofM_snoc (pre : List (Ev × Int)) (x : Ev × Int) : ofM (pre ++ [x]) = wrap64 (ofM pre - x.2) := by simp [ofM]

set_option maxRecDepth 100000 in
set_option maxHeartbeats 2000000 in
theorem of_in (F : Fence) (n : Nat) (h12 : F.fn 12) (h25 : F.fn 25) (h36 : F.fn 36) (hro : F.round = none) (hn : 3 ≤ n) (a : Option Addr) (cap : Nat) (acc : Int) (es : List Ev) (w : World) (hlen : es.length ≤ 4096) (hlegs : ∀ e ∈ es, e.legs.length ≤ 4096)
    (hE : EntsAt (fun b => b < w.heap.size) w a es) :
    CallsIn F n Try.prog 12 #[.slice a es.length cap, .int .i64 acc] w fun e W' => e = .returned (.int .i64 (ofM (mvs acc es))) ∧ Below w.heap.size w W' := by
  have h1 : 1 ≤ n := by omega
  refine callsIn_of_wp_marks Try.func12 rfl h12 ?_ hro
  simp only [Try.ntmps12, List.size_toArray, List.length_cons, List.length_nil, Nat.reduceAdd, Nat.reduceSub, Array.replicate_succ, Array.replicate_zero, List.push_toArray, List.append_toArray, List.nil_append, List.cons_append]
  gi_wp2_with (gi_at_call 25; refine (movements_in F (n - 1) h25 hro _ _ _ _ _).mono ?_; rintro e w' ⟨rfl, rfl⟩)
  have b0 := Boxed.new w 3 (.int .i64 0)
  have b1 := Boxed.new (w.alloc (.cells #[.int .i64 0] 3)) 22 (.slice a es.length cap)
  have b2 := Boxed.new ((w.alloc (.cells #[.int .i64 0] 3)).alloc (.cells #[.slice a es.length cap] 22)) 3 (.int .i64 acc)
  simp only [World.size_alloc] at b1 b2
  have hB0 : Below w.heap.size w (((w.alloc (.cells #[.int .i64 0] 3)).alloc (.cells #[.slice a es.length cap] 22)).alloc (.cells #[.int .i64 acc] 3)) := (((Below.refl _ w).alloc (Nat.le_refl _) _).alloc (by simp) _).alloc (by simp; omega) _
  refine wpIn_rangeFunc_ownF hro h1 (gf := 36) (lb := #[.pointer (some ⟨w.heap.size + 1, 0, none⟩), .pointer (some ⟨w.heap.size + 1 + 1, 0, none⟩)]) rfl h36 (enters_of Try.func36 (by kernel_rfl) rfl)
    (moves_stops F (n - 1) h36 hro (by omega) (w.heap.size + 1) (w.heap.size + 1 + 1) (w.heap.size + 1 + 1 + 1) (fun b => b = w.heap.size) a cap acc es _ (by simp) hlen hlegs (b1.alloc _).cell (by omega) b2.cell (by omega) ((hE.bel (fun _ hb => hb) hB0).mono (fun b hb => ⟨by omega, by omega⟩)))
    Kp.trans (fun W l o o' hl h hc _ => Kp.b (by simp) W l o o' hl h hc) (Below.refl _ _) (fun _ => rfl)
    (fun pre W => (W.cell? ⟨w.heap.size, 0, none⟩ = some (.int .i64 (ofM pre)) ∧ W.frozen? ⟨w.heap.size, 0, none⟩ = false) ∧ Below w.heap.size w W)
    (fun _ _ _ => False)
    (OwnFrom.and (Own.from (fun s A B row hs hg hr => ⟨cell_kept hs.1 hg hr, (frozen_kept hs.1 hg hr).trans hs.2⟩) _) (ownFrom_below (Nat.le_refl _) (by simp; omega)))
    (fun _ _ _ _ _ hs _ _ => hs)
    ⟨⟨((b0.alloc _).alloc _).cell, ((b0.alloc _).alloc _).frozen⟩, hB0⟩
    (fun x => { tmps := #[.slice a es.length cap, .int .i64 acc, undef, undef, .int .i64 0, .pointer (some ⟨w.heap.size, 0, none⟩), undef, .int .i64 x.2, .slice a es.length cap, .int .i64 acc, .func (.func 36) #[] #[.pointer (some ⟨w.heap.size + 1, 0, none⟩), .pointer (some ⟨w.heap.size + 1 + 1, 0, none⟩)], x.1.agg, .int .i64 x.2, undef, undef, undef, undef], defers := [] }) ?assign ?body ?done ?stop
  case assign =>
    intro l x W K hK
    gi_wp2
    exact hK
  case body =>
    rintro l pre x W ⟨⟨hc, hf⟩, hB⟩ _
    gi_wp2
    exact ⟨KeepsOthers.setCell _ _ _, (Kp.refl _ _ W).grown (grownBy_setCell' W _ _) (fun r e => .inr (by cases e; rintro (⟨_, h⟩ | ⟨h, _⟩) <;> omega)), ⟨by rw [ofM_snoc]; exact World.cell?_setCell_same' _ _ _ (by rw [hc]; rfl), by rw [World.frozen?_setCell]; exact hf⟩, hB.setCell (p := ⟨w.heap.size, 0, none⟩) (Nat.le_refl _) _⟩
  case done =>
    rintro D ys W hD rfl ⟨⟨hc, _⟩, hB⟩ hK
    gi_wp2
    refine ⟨by simp, .inl ⟨_, _, rfl, run_takeDeferred hK, ?_⟩⟩
    exact ⟨_, results_tmp rfl _ _ _, rfl, hB.trans (belowK_b (w := w) (Nat.le_refl _) W D _ _ (by simp at hD; omega) hK rfl rfl)⟩
  case stop =>
    rintro D c pre W _ _ h _
    exact h.elim
end Go.Proofs.Ytggmlfmhinafhaa
