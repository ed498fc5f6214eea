/-
  Moves, walked.
-/
import Derived.Test.YtggmlfmhinafhaaTurn
import Derived.Maps.AppendAt
namespace Go.Proofs.Ytggmlfmhinafhaa
open Go.RowKit Go.Shelf
attribute [local go_sem] Oper.semAt_some

/-- A function of the library's that turns a slice of numbers of the call's own. -/
def MutI (f : FuncId) (ret : Bool) (zs ys : List Int) : Prop :=
  ∀ (w : World) (base : Nat) (u : Value), base ≤ w.heap.size → w.ownsRow base 3 1 u zs.length (zs.map (Value.int .i64)) →
    Calls Try.prog f #[u] w fun ex w' => ∃ r v' : Value, ex = .returned r ∧ w.grownBy w' u.ownBlock ∧ (v'.ownBlock = u.ownBlock ∨ v'.ownBlock = some w.heap.size) ∧ w'.ownsRow base 3 1 v' ys.length (ys.map (Value.int .i64)) ∧ (if ret = true then r = v' else v' = u ∧ r = .tuple #[])
theorem info3 : (Try.prog.info? 3).map (fun i => (i.zero, i.size, i.bytes)) = some (some (.int .i64 0), 1, 8) := by kernel_rfl
def moM (pre : List (Ev × Int)) : List Int := pre.map fun x => x.1.i2
theorem moM_snoc (pre : List (Ev × Int)) (x : Ev × Int) : (moM (pre ++ [x])).map (Value.int .i64) = (moM pre).map (Value.int .i64) ++ [.int .i64 x.1.i2] := by simp [moM]
theorem moM_len (pre : List (Ev × Int)) : (moM pre).length = pre.length := by simp [moM]
theorem ownsRow_low {W : World} {b b' : Nat} (hb : b' ≤ b) {e : TypeId} {size k : Nat} {v : Value} {xs : List Value} (h : W.ownsRow b e size v k xs) : W.ownsRow b' e size v k xs := by
  refine ⟨h.1, ?_⟩
  rcases h.2 with h | ⟨g, cap, cur, h1, h2, h3⟩
  · exact .inl h
  · exact .inr ⟨g, cap, cur, h1, by omega, h3⟩
theorem row_cells {W : World} {b : Nat} {e : TypeId} {size k : Nat} {v : Value} {xs : List Value} (h : W.ownsRow b e size v k xs) : ∀ (j : Nat) (o : Obj), v.ownBlock = some j → W.heap[j]? = some o → o.isCells = true := by
  intro j o hj ho
  rcases h.2 with ⟨rfl, _⟩ | ⟨g, cap, cur, rfl, _, hg, _⟩
  · simp [Value.ownBlock] at hj
  · obtain rfl : g = j := by simpa [Value.ownBlock] using hj
    rw [hg] at ho; cases ho; rfl
theorem row_ge {W : World} {b : Nat} {e : TypeId} {size k : Nat} {v : Value} {xs : List Value} (h : W.ownsRow b e size v k xs) : ∀ j, v.ownBlock = some j → b ≤ j := by
  intro j hj
  rcases h.2 with ⟨rfl, _⟩ | ⟨g, cap, cur, rfl, hb, _⟩
  · simp [Value.ownBlock] at hj
  · obtain rfl : g = j := by simpa [Value.ownBlock] using hj
    exact hb
theorem row_unprot {W : World} {b D : Nat} {B : Nat → Prop} (hb : D ≤ b) {size k : Nat} {v : Value} {xs : List Value} (h : W.ownsRow b 3 size v k xs) : ∀ j, v.ownBlock = some j → ¬ prot D B W j := by
  intro j hj
  rcases h.2 with ⟨rfl, _⟩ | ⟨g, cap, cur, rfl, hg, hc, _⟩
  · simp [Value.ownBlock] at hj
  · obtain rfl : g = j := by simpa [Value.ownBlock] using hj
    rintro (⟨h1, _⟩ | ⟨_, c, t, fr, h2, h3⟩)
    · omega
    · rw [hc] at h2; cases h2; rcases h3 with h3 | h3 <;> cases h3
theorem mvs_bound (acc : Int) : ∀ {es : List Ev}, (∀ e ∈ es, e.legs.length ≤ 400) → (mvs acc es).length ≤ es.length * 400
  | [], _ => by simp [mvs]
  | e :: es, h => by
    have h1 := h e (List.mem_cons_self ..)
    have h2 := mvs_bound acc (es := es) fun x hx => h x (List.mem_cons_of_mem _ hx)
    have h3 : (evp acc e e.legs).length ≤ e.legs.length := by unfold evp; rw [List.length_map]; exact List.length_filter_le _ _
    simp only [mvs, List.flatMap_cons, List.length_append, List.length_cons] at h2 ⊢
    omega

set_option maxRecDepth 100000 in
set_option maxHeartbeats 2000000 in
theorem moves_in (n : Nat) (hn : 3 ≤ n) (a : Option Addr) (cap : Nat) (acc : Int) (es : List Ev) (w : World) (hlen : es.length ≤ 400) (hlegs : ∀ e ∈ es, e.legs.length ≤ 400)
    (hE : EntsAt (fun b => b < w.heap.size) w a es) {ys zs : List Int} (hS : MutI 28 false (moM (mvs acc es)) ys) (hC : MutI 29 true ys zs) :
    CallsIn Fence.wide n Try.prog 19 #[.slice a es.length cap, .int .i64 acc] w fun e W' => ∃ v, e = .returned v ∧ W'.ownsRow w.heap.size 3 1 v zs.length (zs.map (Value.int .i64)) ∧ Below w.heap.size w W' := by
  have hro : Fence.wide.round = none := rfl
  have h1 : 1 ≤ n := by omega
  have h25 : Fence.wide.fn 25 := trivial
  have h28 : Fence.wide.fn 28 := trivial
  have h29 : Fence.wide.fn 29 := trivial
  have hmb := mvs_bound acc hlegs
  obtain ⟨ii, hi, hz0, hz1, hz2⟩ := info_parts info3
  refine callsIn_of_wp_marks Try.func19 rfl trivial ?_ hro
  simp only [Try.ntmps19, List.size_toArray, List.length_cons, List.length_nil, Nat.reduceAdd, Nat.reduceSub, Array.replicate_succ, Array.replicate_zero, List.push_toArray, List.append_toArray, List.nil_append, List.cons_append]
  gi_wp2_with (gi_at_call 25; refine (movements_in Fence.wide (n - 1) trivial hro _ _ _ _ _).mono ?_; rintro e w' ⟨rfl, rfl⟩)
  have b0 := Boxed.new w 33 (.slice none 0 0)
  have b1 := Boxed.new (w.alloc (.cells #[.slice none 0 0] 33)) 22 (.slice a es.length cap)
  have b2 := Boxed.new ((w.alloc (.cells #[.slice none 0 0] 33)).alloc (.cells #[.slice a es.length cap] 22)) 3 (.int .i64 acc)
  obtain ⟨W0, hW0⟩ : ∃ W0, (((w.alloc (.cells #[.slice none 0 0] 33)).alloc (.cells #[.slice a es.length cap] 22)).alloc (.cells #[.int .i64 acc] 3)) = W0 := ⟨_, rfl⟩
  have hsz : W0.heap.size = w.heap.size + 3 := by rw [← hW0]; simp
  have hB0 : Below w.heap.size w W0 := by rw [← hW0]; exact (((Below.refl _ w).alloc (by simp) _).alloc (by simp) _).alloc (by simp; omega) _
  have c0 := ((b0).alloc (.cells #[.slice a es.length cap] 22)).alloc (.cells #[.int .i64 acc] 3)
  have c1 := (b1).alloc (.cells #[.int .i64 acc] 3)
  rw [hW0] at b2 c0 c1
  simp only [World.size_alloc, Nat.add_assoc, Nat.reduceAdd] at b1 b2 c1
  have hE0 : EntsAt (fun b => b < w.heap.size) W0 a es := hE.bel (fun _ hb => hb) hB0
  simp only [Nat.add_assoc, Nat.reduceAdd, hW0]
  clear hW0 hE
  obtain ⟨N, hN⟩ : ∃ N, w.heap.size = N := ⟨_, rfl⟩
  simp only [hN] at b0 b1 b2 c0 c1 hsz hB0 hE0 ⊢
  refine wpIn_rangeFunc_ownH hro (by omega) (gf := 36) (lb := #[.pointer (some ⟨N + 1, 0, none⟩), .pointer (some ⟨N + 2, 0, none⟩)]) rfl trivial (enters_of Try.func36 (by kernel_rfl) rfl)
    (moves_stops Fence.wide (n - 1) trivial hro (by omega) (N + 1) (N + 2) (N + 3) (fun b => b = N) a cap acc es W0 hsz.symm (by omega) (fun e he => by have := hlegs e he; omega) c1.cell (by omega) b2.cell (by omega) (hE0.mono (fun b hb => ⟨by omega, by omega⟩)))
    Kp.trans (fun W l o o' hl h hc _ => Kp.b (by omega) W l o o' hl h hc) (Below.refl _ _) (fun _ => rfl)
    (fun pre W => (∃ v, Boxed W N 33 v ∧ W.ownsRow (N + 3) 3 1 v pre.length ((moM pre).map (Value.int .i64)) ∧ True) ∧ Below N w W ∧ N + 3 ≤ W.heap.size)
    (fun _ _ _ => False)
    ((Own.from (holdsRow_own (N + 3) N 33 3 1 (fun pre => pre.length) (fun pre => (moM pre).map (Value.int .i64)) (fun _ _ => True)) _).and ((ownFrom_below (by omega) (by omega)).and (fun s W W' row hs hg hr => Nat.le_trans hs hg.size)))
    (fun _ _ _ _ _ hs _ _ => hs)
    ⟨⟨_, c0, World.ownsRow_nil _ _ _ _, trivial⟩, hB0, by omega⟩
    (fun x a' W => ∃ Bx, W.cell? ⟨Bx, 1, none⟩ = some (.int .i64 x.1.i1) ∧ W.cell? ⟨Bx, 2, none⟩ = some (.int .i64 x.1.i2) ∧ a' = { tmps := #[.slice a es.length cap, .int .i64 acc, undef, undef, .slice none 0 0, .pointer (some ⟨N, 0, none⟩), .pointer (some ⟨Bx, 0, none⟩), .slice a es.length cap, .int .i64 acc, .func (.func 36) #[] #[.pointer (some ⟨N + 1, 0, none⟩), .pointer (some ⟨N + 2, 0, none⟩)], x.1.agg, .int .i64 x.2, undef, undef, undef, undef, undef, undef, undef, undef, undef], defers := [] })
    (fun x a' => OwnFrom.ex fun Bx => cells_own Bx _ _ _) ?assign ?body ?done ?stop
  case assign =>
    rintro l pre x W K ⟨⟨v, i0, i1, _⟩, i2, i3⟩ hK
    gi_wp2
    have hv := ev_alloc W x.1
    exact hK _ _ ((KeepsOthers.alloc _ _).from _) ((Kp.refl ..).alloc _) ⟨⟨v, i0.alloc _, i1.alloc _, trivial⟩, i2.alloc (by have := i2.size; omega) _, by simp; omega⟩ ⟨W.heap.size, hv.1, hv.2, rfl⟩
  case body =>
    rintro l pre x a' W hl hr ⟨⟨v, hv, hrow, _⟩, hB, hsW⟩ ⟨Bx, hx1, hx2, rfl⟩ hpl
    have hc := hv.cell
    gi_wp2_with (gi_at_builtin; refine wpListIn_append_own _ rfl _ _ 33 rfl (N + 3) 3 ii (.int .i64 0) 1 8 Try.underlying33 hi hz0 hz1 hz2 rfl (by decide) _ _ _ rfl (hrow.alloc _) ⟨W.heap.size, 0, none⟩ 1 1 [.int .i64 x.1.i2] rfl rfl (cell_one_new _ _ _) (by simp [Value.oneCell']) (by simp only [maxLen]; omega) (by omega) (by simp; omega) ?_; intro v' w1 hown' hgrow _; obtain ⟨g', cap', rfl⟩ := ownsRow_succ hown'; obtain ⟨hv1, hv2, hr2, hk2, hb2⟩ := hv.appended (n₀ := N) (by decide) (ownsRow_low (by omega) hrow) (by omega) (Nat.le_refl _) (ownsRow_low (by omega) hown') hgrow; have hc1 := hv1.cell; have hf1 := hv1.frozen)
    have hkp : Kp (N + 3) (fun b => b = N) W (w1.setCell ⟨N, 0, none⟩ (.slice (some ⟨g', 0, none⟩) (pre.length + 1) cap')) :=
      Kp.setB (B := fun b => b = N) ((((Kp.refl _ _ W).alloc _).grown hgrow (fun r e => .inr (row_unprot (Nat.le_refl _) hrow r e)))) (b := N) (by omega) rfl _
    have hro' := hown'.kept (grownBy_setCell' w1 N (.slice (some ⟨g', 0, none⟩) (pre.length + 1) cap')) (.inr (hv1.not_row (by decide) hown').symm)
    refine ⟨hk2.from _, hkp, ⟨_, hv2, by rw [moM_snoc, List.length_append]; exact hro', trivial⟩, hB.trans hb2, ?_⟩
    have := hkp.1
    omega
  case done =>
    rintro D ys' W hD rfl ⟨⟨v, hv, hrow, _⟩, hB, hsW⟩ hK
    have hc := hv.cell
    gi_wp2
    refine (callsIn_wide.2 (hS W (N + 3) v hsW (by rw [moM_len]; exact hrow))).mono ?_
    rintro e w' ⟨r, v', rfl, hg1, hv1, ho1, hvv⟩
    obtain ⟨rfl, rfl⟩ := hvv
    have hvk := hv.kept hg1 (hv.not_row (by decide) hrow)
    have hck := hvk.cell
    have hKk := (KeepsOthers.of_grownBy hg1 (row_cells hrow)).same D _ hK rfl
    have hBk := hB.grown hg1 (by omega) (fun k e => by have := row_ge hrow k e; omega)
    have hsk := hg1.size
    gi_wp2
    refine (callsIn_wide.2 (hC w' (N + 3) v' (by omega) ho1)).mono ?_
    rintro e w2 ⟨r, v2, rfl, hg2, hv2, ho2, rfl⟩
    have hKk2 := (KeepsOthers.of_grownBy hg2 (row_cells ho1)).same D _ hKk rfl
    have hBk2 := hBk.grown hg2 (by omega) (fun k e => by have := row_ge ho1 k e; omega)
    gi_wp2
    refine ⟨by simp, .inl ⟨_, _, rfl, run_takeDeferred hKk2, ?_⟩⟩
    exact ⟨_, results_tmp rfl _ _ _, r, rfl, ownsRow_putObj (ownsRow_low (by omega) ho2) _ hKk2 rfl, by rw [hN]; exact hBk2.trans (belowK_b (w := w) (by omega) w2 D _ _ (by omega) hKk2 rfl rfl)⟩
  case stop =>
    rintro D c pre W _ _ h _
    exact h.elim
end Go.Proofs.Ytggmlfmhinafhaa
