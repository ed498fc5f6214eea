/-
  Daily, walked.
-/
import Derived.Test.YtggmlfmhinafhaaMoves
import Derived.Test.YtggmlfmhinafhaaReg
namespace Go.Proofs.Ytggmlfmhinafhaa
open Go.RowKit Go.Shelf Go.VM
attribute [local go_sem] Oper.semAt_some

set_option maxHeartbeats 1000000 in
theorem valid_in (F : Fence) (n : Nat) (h : F.fn 27) (hro : F.round = none) (d : Int) (w : World) :
    CallsIn F n Try.prog 27 #[.int .i64 d] w fun e w' => e = .returned (.bool (decide (0 ≤ d) && decide (d ≤ 73048))) ∧ w' = w := by
  refine callsIn_of_wp Try.func27 rfl h ?_ hro
  simp only [Try.ntmps27, List.size_toArray, List.length_cons, List.length_nil, Nat.reduceAdd, Nat.reduceSub, Array.replicate_succ, Array.replicate_zero, List.push_toArray, List.append_toArray, List.nil_append, List.cons_append]
  gi_wp2
  all_goals go_ret
  all_goals simp only [and_true, Ending.returned.injEq]
  all_goals simp [*]
  all_goals omega
def daOk (fr to : Int) : Prop := 0 ≤ fr ∧ fr ≤ 73048 ∧ 0 ≤ to ∧ to ≤ 73048 ∧ fr ≤ to ∧ to - fr < 4000
instance (fr to : Int) : Decidable (daOk fr to) := by unfold daOk; infer_instance
set_option maxRecDepth 100000 in
set_option maxHeartbeats 2000000 in
theorem daily_no (n : Nat) (hn : 3 ≤ n) (sv : Value) (acc fr to : Int) (w : World) (hno : ¬ daOk fr to) :
    CallsIn Fence.wide n Try.prog 17 #[sv, .int .i64 acc, .int .i64 fr, .int .i64 to] w fun e W' => e = .returned (.slice none 0 0) ∧ Below w.heap.size w W' := by
  have hro : Fence.wide.round = none := rfl
  have h1 : 1 ≤ n := by omega
  have h27 : Fence.wide.fn 27 := trivial
  refine callsIn_of_wp Try.func17 rfl trivial ?_ hro
  simp only [Try.ntmps17, List.size_toArray, List.length_cons, List.length_nil, Nat.reduceAdd, Nat.reduceSub, Array.replicate_succ, Array.replicate_zero, List.push_toArray, List.append_toArray, List.nil_append, List.cons_append]
  gi_wp2_with (gi_at_call 27; refine (valid_in Fence.wide (n - 1) h27 hro _ _).mono ?_; rintro e w' ⟨rfl, rfl⟩)
  all_goals
    first
    | (exfalso; unfold daOk at hno; omega)
    | (go_ret; exact ⟨rfl, ((Below.refl _ w).alloc (Nat.le_refl _) _).alloc (by simp) _⟩)

def daIx (fr : Int) (x : Ev × Int) : Nat := (max fr x.1.i2 - fr).toNat
def daStep (fr to : Int) (l : List Int) (x : Ev × Int) : List Int := if x.1.i2 ≤ to then l.set (daIx fr x) (wrap64 (l.getD (daIx fr x) 0 - x.2)) else l
def daM (fr to : Int) (pre : List (Ev × Int)) : List Int := pre.foldl (daStep fr to) (List.replicate (to - fr + 1).toNat 0)
theorem daM_snoc (fr to : Int) (pre : List (Ev × Int)) (x : Ev × Int) : daM fr to (pre ++ [x]) = daStep fr to (daM fr to pre) x := by simp [daM]
theorem daM_len (fr to : Int) (pre : List (Ev × Int)) : (daM fr to pre).length = (to - fr + 1).toNat := by
  unfold daM
  generalize hl : List.replicate (to - fr + 1).toNat (0 : Int) = l
  have : l.length = (to - fr + 1).toNat := by rw [← hl]; simp
  rw [← this]; clear this hl
  induction pre generalizing l with
  | nil => rfl
  | cons x pre ih => rw [List.foldl_cons, ih]; unfold daStep; split <;> simp
theorem made_ints (k : Nat) : madeCells (Value.int .i64 0).cells (k * 1) = ((List.replicate k (0 : Int)).map (Value.int .i64)).toArray := by
  apply Array.ext
  · simp [size_madeCells]
  · intro i h1 h2
    simp [madeCells, Value.cells, Nat.mod_one]
/-- The row of numbers in block b. -/
def NumRow (W : World) (b : Nat) (l : List Int) : Prop := W.heap[b]? = some (.cells (l.map (Value.int .i64)).toArray 3 (0, 0))
theorem NumRow.cell {W : World} {b : Nat} {l : List Int} (h : NumRow W b l) {k : Nat} (hk : k < l.length) : W.cell? ⟨b, k, none⟩ = some (.int .i64 (l.getD k 0)) := by
  unfold World.cell?
  rw [h]
  simp [hk]
theorem NumRow.frozen {W : World} {b : Nat} {l : List Int} (h : NumRow W b l) (k : Nat) : W.frozen? ⟨b, k, none⟩ = false := by
  unfold World.frozen?
  rw [h]
  simp
theorem NumRow.kept {W W' : World} {row : Option Nat} {b : Nat} {l : List Int} (h : NumRow W b l) (hg : W.grownBy W' row) (hne : some b ≠ row) : NumRow W' b l := (hg.block b (Array.getElem?_eq_some_iff.1 h).1 hne).trans h
theorem NumRow.alloc {W : World} {b : Nat} {l : List Int} (h : NumRow W b l) (o : Obj) : NumRow (W.alloc o) b l := h.kept (World.grownBy_alloc W o none) (by simp)
theorem NumRow.set {W : World} {b : Nat} {l : List Int} (h : NumRow W b l) (k : Nat) (v : Int) : NumRow (W.setCell ⟨b, k, none⟩ (.int .i64 v)) b (l.set k v) := by
  obtain ⟨hlt, hk⟩ := Array.getElem?_eq_some_iff.1 h
  show (W.heap.modify b _)[b]? = _
  rw [Array.getElem?_eq_getElem (by rw [Array.size_modify]; exact hlt), Array.getElem_modify_self, hk]
  simp
theorem grownBy_setCellk (W : World) (b k : Nat) (v : Value) : W.grownBy (W.setCell ⟨b, k, none⟩ v) (some b) :=
  ⟨rfl, rfl, rfl, (KeepsWalks.setCell W _ v).size, fun j _ hk => Below.heap_setCell _ _ _ j (fun e => hk (by rw [e]))⟩
theorem numRow_own {β : Type} (b : Nat) (f : β → List Int) : Own (fun s W => NumRow W b (f s)) := fun s X Y row hs hg hrow =>
  hs.kept hg (fun e' => by obtain ⟨o, ho, hc⟩ := hrow b e'.symm; rw [show X.heap[b]? = _ from hs] at ho; cases ho; cases hc)

def daT (l : List Int) : Nat → List Int
  | 0 => l
  | k + 1 => (daT l k).set (k + 1) (wrap64 ((daT l k).getD (k + 1) 0 + (daT l k).getD k 0))
theorem daT_len (l : List Int) (k : Nat) : (daT l k).length = l.length := by
  induction k with
  | zero => rfl
  | succ k ih => simp [daT, ih]

set_option maxRecDepth 100000 in
set_option maxHeartbeats 2000000 in
theorem daily_in (n : Nat) (hn : 3 ≤ n) (a : Option Addr) (cap : Nat) (acc fr to : Int) (es : List Ev) (w : World) (hlen : es.length ≤ 4096) (hlegs : ∀ e ∈ es, e.legs.length ≤ 4096)
    (hE : EntsAt (fun b => b < w.heap.size) w a es) (hok : daOk fr to) :
    CallsIn Fence.wide n Try.prog 17 #[.slice a es.length cap, .int .i64 acc, .int .i64 fr, .int .i64 to] w fun e W' => ∃ v, e = .returned v ∧ W'.ownsRow w.heap.size 3 1 v (to - fr + 1).toNat ((daT (daM fr to (mvs acc es)) ((to - fr + 1).toNat - 1)).map (Value.int .i64)) ∧ Below w.heap.size w W' := by
  have hro : Fence.wide.round = none := rfl
  have h1 : 1 ≤ n := by omega
  have h25 : Fence.wide.fn 25 := trivial
  have h27 : Fence.wide.fn 27 := trivial
  obtain ⟨ii, hi, hz0, hz1, hz2⟩ := info_parts info3
  obtain ⟨d0, d1, d2, d3, d4, d5⟩ := hok
  have hm : ∀ w' : World, (Instr.makeSlice 33 (.int .i64 (to - fr + 1)) (.int .i64 (to - fr + 1))).run Try.prog w' = .ok (.slice (some ⟨w'.heap.size, 0, none⟩) (to - fr + 1).toNat (to - fr + 1).toNat) (w'.alloc (.cells ((List.replicate (to - fr + 1).toNat (0 : Int)).map (Value.int .i64)).toArray 3)) := fun w' => by
    have h := run_makeSlice (P := Try.prog) w' 33 3 ii (.int .i64 0) Try.underlying33 hi hz0 .i64 .i64 (to - fr + 1) (to - fr + 1) (by omega) (Int.le_refl _) (by rw [hz1]; omega) (by rw [hz2]; omega) (by omega)
    rw [hz1, made_ints] at h
    exact h
  refine callsIn_of_wp_marks Try.func17 rfl trivial ?_ hro
  simp only [Try.ntmps17, List.size_toArray, List.length_cons, List.length_nil, Nat.reduceAdd, Nat.reduceSub, Array.replicate_succ, Array.replicate_zero, List.push_toArray, List.append_toArray, List.nil_append, List.cons_append]
  gi_wp2_with (first | (gi_at_call 27; refine (valid_in Fence.wide (n - 1) h27 hro _ _).mono ?_; rintro e w' ⟨rfl, rfl⟩) | (gi_at_call 25; refine (movements_in Fence.wide (n - 1) h25 hro _ _ _ _ _).mono ?_; rintro e w' ⟨rfl, rfl⟩))
  have b0 := Boxed.new w 3 (.int .i64 fr)
  have b1 := Boxed.new (w.alloc (.cells #[.int .i64 fr] 3)) 3 (.int .i64 to)
  have b2 : NumRow (((w.alloc (.cells #[.int .i64 fr] 3)).alloc (.cells #[.int .i64 to] 3)).alloc (.cells (Array.replicate (to - fr + 1).toNat (Value.int .i64 0)) 3)) ((w.alloc (.cells #[.int .i64 fr] 3)).alloc (.cells #[.int .i64 to] 3)).heap.size (List.replicate (to - fr + 1).toNat (0 : Int)) := by
    unfold NumRow; rw [List.map_replicate, List.toArray_replicate]; exact World.alloc_heap_new _ _
  have b3 := Boxed.new (((w.alloc (.cells #[.int .i64 fr] 3)).alloc (.cells #[.int .i64 to] 3)).alloc (.cells (Array.replicate (to - fr + 1).toNat (Value.int .i64 0)) 3)) 33 (.slice (some ⟨w.heap.size + 1 + 1, 0, none⟩) (to - fr + 1).toNat (to - fr + 1).toNat)
  have b4 := Boxed.new ((((w.alloc (.cells #[.int .i64 fr] 3)).alloc (.cells #[.int .i64 to] 3)).alloc (.cells (Array.replicate (to - fr + 1).toNat (Value.int .i64 0)) 3)).alloc (.cells #[.slice (some ⟨w.heap.size + 1 + 1, 0, none⟩) (to - fr + 1).toNat (to - fr + 1).toNat] 33)) 22 (.slice a es.length cap)
  have b5 := Boxed.new (((((w.alloc (.cells #[.int .i64 fr] 3)).alloc (.cells #[.int .i64 to] 3)).alloc (.cells (Array.replicate (to - fr + 1).toNat (Value.int .i64 0)) 3)).alloc (.cells #[.slice (some ⟨w.heap.size + 1 + 1, 0, none⟩) (to - fr + 1).toNat (to - fr + 1).toNat] 33)).alloc (.cells #[.slice a es.length cap] 22)) 3 (.int .i64 acc)
  obtain ⟨W0, hW0⟩ : ∃ W0, ((((((w.alloc (.cells #[.int .i64 fr] 3)).alloc (.cells #[.int .i64 to] 3)).alloc (.cells (Array.replicate (to - fr + 1).toNat (Value.int .i64 0)) 3)).alloc (.cells #[.slice (some ⟨w.heap.size + 1 + 1, 0, none⟩) (to - fr + 1).toNat (to - fr + 1).toNat] 33)).alloc (.cells #[.slice a es.length cap] 22)).alloc (.cells #[.int .i64 acc] 3)) = W0 := ⟨_, rfl⟩
  have hsz : W0.heap.size = w.heap.size + 6 := by rw [← hW0]; simp
  have hB0 : Below w.heap.size w W0 := by rw [← hW0]; exact ((((((Below.refl _ w).alloc (by simp) _).alloc (by simp) _).alloc (by simp; omega) _).alloc (by simp; omega) _).alloc (by simp; omega) _).alloc (by simp; omega) _
  have c0 := (((((b0).alloc (.cells #[.int .i64 to] 3)).alloc (.cells (Array.replicate (to - fr + 1).toNat (Value.int .i64 0)) 3)).alloc (.cells #[.slice (some ⟨w.heap.size + 1 + 1, 0, none⟩) (to - fr + 1).toNat (to - fr + 1).toNat] 33)).alloc (.cells #[.slice a es.length cap] 22)).alloc (.cells #[.int .i64 acc] 3)
  have c1 := ((((b1).alloc (.cells (Array.replicate (to - fr + 1).toNat (Value.int .i64 0)) 3)).alloc (.cells #[.slice (some ⟨w.heap.size + 1 + 1, 0, none⟩) (to - fr + 1).toNat (to - fr + 1).toNat] 33)).alloc (.cells #[.slice a es.length cap] 22)).alloc (.cells #[.int .i64 acc] 3)
  have c2 := (((b2).alloc (.cells #[.slice (some ⟨w.heap.size + 1 + 1, 0, none⟩) (to - fr + 1).toNat (to - fr + 1).toNat] 33)).alloc (.cells #[.slice a es.length cap] 22)).alloc (.cells #[.int .i64 acc] 3)
  have c3 := ((b3).alloc (.cells #[.slice a es.length cap] 22)).alloc (.cells #[.int .i64 acc] 3)
  have c4 := (b4).alloc (.cells #[.int .i64 acc] 3)
  rw [hW0] at b5 c0 c1 c2 c3 c4
  simp only [World.size_alloc, Nat.add_assoc, Nat.reduceAdd] at b1 b2 b3 b4 b5 c1 c2 c3 c4
  have hE0 : EntsAt (fun b => b < w.heap.size) W0 a es := hE.bel (fun _ hb => hb) hB0
  simp only [Nat.add_assoc, Nat.reduceAdd, hW0]
  clear hW0 hE
  obtain ⟨N, hN⟩ : ∃ N, w.heap.size = N := ⟨_, rfl⟩
  simp only [hN] at b0 b1 b2 b3 b4 b5 c0 c1 c2 c3 c4 hsz hB0 hE0 ⊢
  refine wpIn_rangeFunc_ownH hro h1 (gf := 36) (lb := #[.pointer (some ⟨N + 4, 0, none⟩), .pointer (some ⟨N + 5, 0, none⟩)]) rfl trivial (enters_of Try.func36 (by kernel_rfl) rfl)
    (moves_stops Fence.wide (n - 1) trivial hro (by omega) (N + 4) (N + 5) (N + 6) (fun b => b = N + 2) a cap acc es W0 hsz.symm hlen hlegs c4.cell (by omega) b5.cell (by omega) (hE0.mono (fun b hb => ⟨by omega, by omega⟩)))
    Kp.trans (fun W l o o' hl h hc _ => Kp.b (by omega) W l o o' hl h hc) (Below.refl _ _) (fun _ => rfl)
    (fun pre W => Boxed W N 3 (.int .i64 fr) ∧ Boxed W (N + 1) 3 (.int .i64 to) ∧ NumRow W (N + 2) (daM fr to pre) ∧ Boxed W (N + 3) 33 (.slice (some ⟨N + 2, 0, none⟩) (to - fr + 1).toNat (to - fr + 1).toNat) ∧ Below N w W)
    (fun _ _ _ => False)
    ((Own.from (boxed_own _ _ _) _).and ((Own.from (boxed_own _ _ _) _).and ((Own.from (numRow_own _ _) _).and ((Own.from (boxed_own _ _ _) _).and (ownFrom_below (by omega) (by omega))))))
    (fun _ _ _ _ _ hs _ _ => hs)
    ⟨c0, c1, c2, c3, hB0⟩
    (fun x a' W => ∃ Bx, W.cell? ⟨Bx, 1, none⟩ = some (.int .i64 x.1.i1) ∧ W.cell? ⟨Bx, 2, none⟩ = some (.int .i64 x.1.i2) ∧ a' = { tmps := #[.slice a es.length cap, .int .i64 acc, .int .i64 fr, .int .i64 to, undef, undef, .pointer (some ⟨N, 0, none⟩), .pointer (some ⟨N + 1, 0, none⟩), .slice none 0 0, .pointer (some ⟨N + 3, 0, none⟩), .pointer (some ⟨Bx, 0, none⟩), .int .i64 x.2, undef, .int .i64 fr, .bool true, .bool false, .bool false, .int .i64 to, .bool true, .bool false, .bool false, .bool false, .int .i64 fr, .int .i64 to, .bool (decide (to < fr)), .bool (decide (to < fr)), .bool (decide (to < fr)), .int .i64 to, .int .i64 fr, .int .i64 (to - fr), .bool (decide (4000 ≤ to - fr)), .bool (decide (to < fr) || decide (4000 ≤ to - fr)), .int .i64 to, .int .i64 fr, .int .i64 (to - fr), .int .i64 (to - fr + 1), .slice (some ⟨N + 2, 0, none⟩) (to - fr + 1).toNat (to - fr + 1).toNat, .slice a es.length cap, .int .i64 acc, .func (.func 36) #[] #[.pointer (some ⟨N + 4, 0, none⟩), .pointer (some ⟨N + 5, 0, none⟩)], x.1.agg, .int .i64 x.2, undef, undef, undef, undef, undef, undef, undef, undef, undef, undef, undef, undef, undef, undef, undef, undef, undef, undef, undef, undef, undef, undef, undef, undef, undef, undef, undef, undef, undef, undef, undef, undef, undef, undef], defers := [] })
    (fun x a' => OwnFrom.ex fun Bx => cells_own Bx _ _ _) ?assign ?body ?done ?stop
  case assign =>
    rintro l pre x W K ⟨i0, i1, i2, i3, i4⟩ hK
    gi_wp2
    have hv := ev_alloc W x.1
    exact hK _ _ ((KeepsOthers.alloc _ _).from _) ((Kp.refl ..).alloc _) ⟨i0.alloc _, i1.alloc _, i2.alloc _, i3.alloc _, i4.alloc (by have := i4.size; omega) _⟩ ⟨W.heap.size, hv.1, hv.2, rfl⟩
  case body =>
    rintro l pre x a' W hl hr ⟨i0, i1, i2, i3, i4⟩ ⟨Bx, hx1, hx2, rfl⟩ hpl
    have hc0 := i0.cell
    have hc1 := i1.cell
    have hc3 := i3.cell
    have hln := daM_len fr to pre
    by_cases hxt : x.1.i2 ≤ to
    · have fin : ∀ (k : Nat) (ac : Act), daIx fr x = k → ownPostG W0.heap.size (Kp (N + 6) fun b => b = N + 2) (fun pre W => Boxed W N 3 (.int .i64 fr) ∧ Boxed W (N + 1) 3 (.int .i64 to) ∧ NumRow W (N + 2) (daM fr to pre) ∧ Boxed W (N + 3) 33 (.slice (some ⟨N + 2, 0, none⟩) (to - fr + 1).toNat (to - fr + 1).toNat) ∧ Below N w W) (fun _ _ _ => False) (pre ++ [x]) W .normal ac (W.setCell ⟨N + 2, k, none⟩ (.int .i64 (wrap64 ((daM fr to pre).getD k 0 - x.2)))) := fun k ac hk => by
        have hg := grownBy_setCellk W (N + 2) k (.int .i64 (wrap64 ((daM fr to pre).getD k 0 - x.2)))
        refine ⟨(KeepsOthers.setCell _ _ _).from _, (Kp.refl _ _ W).grown hg (fun r e => .inr (by cases e; rintro (⟨_, h⟩ | ⟨h, _⟩); exact h rfl; omega)), i0.kept hg (by simp), i1.kept hg (by simp), ?_, i3.kept hg (by simp), i4.setCell (p := ⟨N + 2, k, none⟩) (by show N ≤ N + 2; omega) _⟩
        rw [daM_snoc, daStep, if_pos hxt, hk]
        exact i2.set k _
      by_cases hfx : fr < x.1.i2
      · have hk : daIx fr x = (x.1.i2 - fr).toNat := by unfold daIx; rw [Int.max_eq_right (by omega)]
        have hcx := i2.cell (k := (x.1.i2 - fr).toNat) (by omega)
        have hfz := i2.frozen (x.1.i2 - fr).toNat
        gi_wp2
        exact fin _ _ hk
      · have hk : daIx fr x = 0 := by unfold daIx; rw [Int.max_eq_left (by omega)]; omega
        have hcx := i2.cell (k := 0) (by omega)
        have hfz := i2.frozen 0
        gi_wp2
        have h := fun ac => fin 0 ac hk
        rw [hsz, List.getD_eq_getElem?_getD] at h
        exact h _
    · gi_wp2
      exact ⟨KeepsFrom.refl _ _, Kp.refl .., i0, i1, by rw [daM_snoc, daStep, if_neg (by omega)]; exact i2, i3, i4⟩
  case done =>
    rintro D ys W hD rfl ⟨i0, i1, i2, i3, i4⟩ hK
    have hc3 := i3.cell
    have hln := daM_len fr to (mvs acc es)
    gi_wp2
    gi_loopw [12] (fun i wr => ∃ k : Nat, k + 1 ≤ (to - fr + 1).toNat ∧ i = .int .i64 ((k : Int) + 1) ∧ NumRow wr (N + 2) (daT (daM fr to (mvs acc es)) k) ∧ Boxed wr (N + 3) 33 (.slice (some ⟨N + 2, 0, none⟩) (to - fr + 1).toNat (to - fr + 1).toNat) ∧ Below N w wr ∧ wr.heap[D]? = some (.deferred (some [])))
      (fun i _ => (to - fr + 1).toNat - (intOf i).toNat)
    case atStart => exact ⟨0, by omega, rfl, i2, i3, i4, hK⟩
    case round =>
      obtain ⟨k, hk, rfl, j2, j3, j4, j5⟩ := hrel
      have hjc := j3.cell
      have hjl := daT_len (daM fr to (mvs acc es)) k
      by_cases hkk : k + 1 < (to - fr + 1).toNat
      · obtain ⟨y1, y0, q1, q0, hst⟩ : ∃ y1 y0, wr.cell? ⟨N + 2, k + 1, none⟩ = some (.int .i64 y1) ∧ wr.cell? ⟨N + 2, k, none⟩ = some (.int .i64 y0) ∧ daT (daM fr to (mvs acc es)) (k + 1) = (daT (daM fr to (mvs acc es)) k).set (k + 1) (wrap64 (y1 + y0)) := ⟨_, _, j2.cell (by omega), j2.cell (by omega), rfl⟩
        have qf := j2.frozen (k + 1)
        gi_wp2
        refine wpIn_wide.2 (reg17 (N := N + 2) (M := N + 3) (k := k) (K := (to - fr + 1).toNat) (y1 := y1) (y0 := y0) rfl rfl rfl hkk (by omega) hjc q1 q0 qf (by kernel_rfl) ?_)
        gi_wp2
        have hg := grownBy_setCellk wr (N + 2) (k + 1) (.int .i64 (wrap64 (y1 + y0)))
        refine ⟨⟨k + 1, hkk, by simp, ?_, ?_, (j4.setCell (p := ⟨N + 2, k + 1, none⟩) (by show N ≤ N + 2; omega) _).drew, ?_⟩, by simp [intOf]; omega⟩
        · rw [hst]; exact j2.set (k + 1) _
        · have h := j3.kept hg (by simp)
          exact h
        · exact (KeepsOthers.setCell _ _ _).same D _ j5 rfl
      · gi_wp2
        refine ⟨by simp, .inl ⟨_, _, rfl, run_takeDeferred j5, ?_⟩⟩
        have hkE : (to - fr + 1).toNat - 1 = k := by omega
        have hrow : (wr.putObj D (.deferred none)).ownsRow w.heap.size 3 1 (.slice (some ⟨N + 2, 0, none⟩) (to - fr + 1).toNat (to - fr + 1).toNat) (to - fr + 1).toNat ((daT (daM fr to (mvs acc es)) ((to - fr + 1).toNat - 1)).map (Value.int .i64)) := by
          rw [hkE]
          refine ⟨by simp [hjl, hln], .inr ⟨N + 2, _, _, rfl, by omega, (World.putObj_heap_other (by omega)).trans j2, Nat.le_refl _, by simp only [maxLen]; omega, by simp [hjl, hln], ?_⟩⟩
          rw [List.take_of_length_le (by simp [hjl, hln])]
        exact ⟨_, results_tmp rfl _ _ _, .slice (some ⟨N + 2, 0, none⟩) (to - fr + 1).toNat (to - fr + 1).toNat, rfl, hrow, by rw [hN]; exact j4.trans (belowK_b (w := w) (by omega) wr D _ _ (by omega) j5 rfl rfl)⟩
  case stop =>
    rintro D c pre W _ _ h _
    exact h.elim
end Go.Proofs.Ytggmlfmhinafhaa
