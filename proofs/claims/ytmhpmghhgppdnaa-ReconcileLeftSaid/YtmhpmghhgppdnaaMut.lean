/-
  slices.SortFunc of pairs by their first number.
-/
import Derived.Test.YtmhpmghhgppdnaaCode
import Derived.Test.YtmhpmghhgppdnaaLaid
import Derived.Test.YtmhpmghhgppdnaaVmP
namespace Go.Proofs.Ytmhpmghhgppdnaa
open Go.VM Go.Sort Go.Lib Go.Proofs Go.Shelf Go.RowKit
def encT (x : Tri) : List Value := [.int .i64 x.1, .int .i64 x.2.1, .int .i64 x.2.2]
set_option maxHeartbeats 1000000 in
theorem closure31 (x y : Tri) (W : World) : Calls Try.prog 31 #[.agg #[.int .i64 x.1, .int .i64 x.2.1, .int .i64 x.2.2], .agg #[.int .i64 y.1, .int .i64 y.2.1, .int .i64 y.2.2]] W fun e w' => e = .returned (.int .i64 (Lib.compareInt x.1 y.1)) ∧ ∃ q os', w' = grow (W.drewN q) os' := by
  have hcon := fun W' => AnyG.cmp_Compare_int Try.cmpI x.1 y.1 W'
  change ∀ W', Calls Try.prog 32 _ _ _ at hcon
  generalize Lib.compareInt x.1 y.1 = r at hcon ⊢
  go_enter Try.func31, Try.ntmps31
  go_wp2_with (go_at_call 32; refine (hcon _).mono ?_; rintro e w' ⟨rfl, rfl⟩)
  go_ret
  exact ⟨rfl, 0, _, by rw [alloc_eq_grow, alloc_eq_grow, grow_grow]; rfl⟩
theorem ltT (x y : Tri) : ltOf (fun x y : Tri => Lib.compareInt x.1 y.1) x y = decide (x.1 < y.1) := by
  unfold ltOf Lib.compareInt
  by_cases h1 : x.1 < y.1
  · simp [h1]
  · by_cases h2 : y.1 < x.1 <;> simp [h1, h2]
theorem swoT : SWO (ltOf fun x y : Tri => Lib.compareInt x.1 y.1) where
  irrefl x := by rw [ltT]; simp
  trans x y z h1 h2 := by rw [ltT] at *; simp at *; omega
  ntrans x y z h1 h2 := by rw [ltT] at *; simp at *; omega
theorem insT_perm (x : Tri) : ∀ l, (insT x l).Perm (x :: l)
  | [] => .refl _
  | y :: r => by
    unfold insT
    split
    · exact .refl _
    · exact ((insT_perm x r).cons y).trans (.swap x y r)
theorem isortT_perm : ∀ l, (isortT l).Perm l
  | [] => .refl _
  | x :: r => (insT_perm x _).trans ((isortT_perm r).cons x)
theorem strictT_pw : ∀ {l : List Tri}, strictT l = true → l.Pairwise fun x y => x.1 < y.1
  | [], _ => .nil
  | [x], _ => List.pairwise_singleton _ _
  | x :: y :: r, h => by
    simp only [strictT, Bool.and_eq_true, decide_eq_true_eq] at h
    have ih := strictT_pw h.2
    refine List.pairwise_cons.2 ⟨fun z hz => ?_, ih⟩
    rcases List.mem_cons.1 hz with rfl | hz
    · exact h.1
    · have := (List.pairwise_cons.1 ih).1 z hz
      omega
theorem fst_inj {l : List Tri} (h : l.Pairwise fun x y => x.1 < y.1) {x y : Tri} (hx : x ∈ l) (hy : y ∈ l) (he : x.1 = y.1) : x = y := by
  induction l with
  | nil => cases hx
  | cons z r ih =>
    have h' := List.pairwise_cons.1 h
    rcases List.mem_cons.1 hx with rfl | hx'
    · rcases List.mem_cons.1 hy with rfl | hy'
      · rfl
      · have := h'.1 y hy'; omega
    · rcases List.mem_cons.1 hy with rfl | hy'
      · have := h'.1 x hx'; omega
      · exact ih h'.2 hx' hy'
theorem sorted_uniqT {zs l : List Tri} (hs : strictT (isortT zs) = true) (hp : l.Perm zs) (hl : l.Pairwise fun x y => ltOf (fun x y : Tri => Lib.compareInt x.1 y.1) y x = false) : l = isortT zs := by
  have hpw := strictT_pw hs
  have hp2 := hp.trans (isortT_perm zs).symm
  refine List.Perm.eq_of_pairwise (le := fun x y : Tri => x.1 ≤ y.1) (fun a b ha hb h1 h2 => ?_) ?_ ?_ hp2
  · exact fst_inj hpw (hp2.mem_iff.1 ha) hb (by omega)
  · exact hl.imp fun h => by rw [ltT] at h; simp at h; omega
  · exact hpw.imp fun h => by omega
theorem toTris_eq : ∀ {es : List V} {zs : List Tri}, toTris es = some zs → es = zs.map triV
  | [], zs, h => by simp only [toTris, Option.some.injEq] at h; subst h; rfl
  | x :: r, zs, h => by
    unfold toTris at h
    split at h
    · rename_i he; cases he
    · rename_i a b c r' he
      cases he
      cases hr : toTris r with
      | none => rw [hr] at h; cases h
      | some ys =>
        rw [hr] at h
        simp only [Option.map_some, Option.some.injEq] at h
        subst h
        rw [toTris_eq hr]; rfl
    · cases h
theorem mutOK : MutOK Try.prog := by
  intro f mu hl
  have hc : f = 30 ∧ mu = ⟨38, false, false, sortTRun, 0⟩ := by
    simp only [Glob.muts, List.lookup] at hl
    split at hl
    · rename_i h; exact ⟨by simpa using h, (Option.some.inj hl).symm⟩
    · cases hl
  obtain ⟨rfl, rfl⟩ := hc
  refine ⟨by kernel_rfl, fun es xs es' h => ?_⟩
  have h : sortTRun es xs = some es' := h
  unfold sortTRun at h
  split at h
  · cases hz : toTris es with
    | none => rw [hz] at h; cases h
    | some zs =>
      rw [hz] at h
      simp only [Option.bind_some] at h
      split at h
      · rename_i hc
        simp only [Option.some.injEq] at h
        subst h
        have he := toTris_eq hz
        subst he
        refine PFM.p ?_
        have eg : ∀ args w, (callFunc 31 args).run Try.prog w = .ok (.enter 31 args) w := enters_of Try.func31 (by kernel_rfl) rfl
        refine sortK_PFM (e := 38) (k := 3) (g := 31) (enc := encT) (encV := triV) Try.sortP Try.isAgg38 Try.sizeOf38 (by kernel_rfl) (fun _ => rfl) (fun x v hv => ?_) (fun _ => rfl) (fun x c hc => ?_) (fun S w vs x hr => ?_) (fun S w x => ?_) swoT eg (fun _ _ _ _ _ _ _ _ x y => closure31 x y _) (fun l hp hl => sorted_uniqT hc.2 hp hl) hc.1
        · simp [encT] at hv; rcases hv with rfl | rfl | rfl <;> rfl
        · simp [triV, V.cells] at hc; rcases hc with rfl | rfl | rfl <;> rfl
        · match vs, hr with
          | [a, b, c], hr =>
            have h0 : Rep S w a (.i .i64 x.1) := hr.2 0 a _ rfl rfl
            have h1 : Rep S w b (.i .i64 x.2.1) := hr.2 1 b _ rfl rfl
            have h2 : Rep S w c (.i .i64 x.2.2) := hr.2 2 c _ rfl rfl
            cases h0; cases h1; cases h2; rfl
          | [], hr => exact absurd hr.1 (by simp [triV, V.cells])
          | [_], hr => exact absurd hr.1 (by simp [triV, V.cells])
          | [_, _], hr => exact absurd hr.1 (by simp [triV, V.cells])
          | _ :: _ :: _ :: _ :: _, hr => exact absurd hr.1 (by simp [triV, V.cells])
        · exact Reps.cons (.i _ _) (Reps.cons (.i _ _) (Reps.cons (.i _ _) Reps.nil))
      · cases h
  · cases h
end Go.Proofs.Ytmhpmghhgppdnaa
