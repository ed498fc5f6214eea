/-
  A step: a slice of the call's own, made at a size that the code reckons. No program is named here.
-/
import Derived.Test.YtmhbkofbbkogeaaGreatVmI
import Derived.Laws.MakeOwn
set_option linter.unusedSectionVars false
namespace Go.VM
open Go.RowKit
variable [Glob]
section
variable {P : Program} {nt : Nat} {keep : List Nat} {S : Nat → Prop} {base : Nat} {w0 : World} {env env' : Env} {a : Act} {w : World} {o : Orc}
omit [Glob] in
theorem made_flat {z : Array Value} (hz : 0 < z.size) : ∀ n : Nat, (madeCells z (n * z.size)).toList = (List.replicate n z.toList).flatten := by
  intro n
  have h1 : (List.replicate n z.toList).flatten.length = n * z.size := by simp
  apply List.ext_getElem?
  intro i
  by_cases hi : i < n * z.size
  · have hl : (madeCells z (n * z.size)).toList[i]? = some z[i % z.size]! := by
      rw [Array.getElem?_toList]
      simp [madeCells, hi]
    rw [hl]
    have hm : i % z.size < z.size := Nat.mod_lt _ hz
    have hr : (List.replicate n z.toList).flatten[i]? = z.toList[i % z.size]? := by
      clear hl h1
      induction n generalizing i with
      | zero => omega
      | succ n ih =>
        rw [List.replicate_succ, List.flatten_cons]
        by_cases hi2 : i < z.size
        · rw [List.getElem?_append_left (by simpa using hi2), Nat.mod_eq_of_lt hi2]
        · rw [List.getElem?_append_right (by simpa using hi2)]
          have h3 : i - z.toList.length = i - z.size := by simp
          rw [h3, ih (i := i - z.size) (by rw [Nat.succ_mul] at hi; omega) (Nat.mod_lt _ hz)]
          congr 1
          exact (Nat.mod_eq_sub_mod (by omega)).symm
    rw [hr, Array.getElem?_toList, Array.getElem?_eq_getElem hm, getElem!_pos z (i % z.size) hm]
  · rw [List.getElem?_eq_none (by rw [Array.length_toList, size_madeCells]; omega), List.getElem?_eq_none (by omega)]
theorem step_mks (hF : FI P nt keep S base w0 env a w) {d : Nat} (hk : d ∈ keep) (hd : d < nt) {t e : TypeId} {k b x : Nat} {z : V} {oper : Oper} (hop : oper.op = .makeSlice t (.tmp x) (.tmp x))
    (hkc : elemCells P t = some k) (hbc : elemBytes P t = some b) (hel : elemTy P t = some e) (hz : zeroV P e = some z) (hc : 0 < k ∧ 0 < b ∧ z.cells.length = k ∧ z.cells.all V.cell = true)
    (hst : stepS o env (.mks d e b z (.t x)) = some env') : ∃ u w1, (execOp a.eval oper).run P w = .ok (.value u) w1 ∧ FI P nt keep S base w0 env' (a.put (some d) u) w1 := by
  simp only [stepS] at hst
  cases hl : lookS env (.t x) with
  | none => rw [hl] at hst; cases hst
  | some v =>
    rw [hl] at hst
    simp only [Option.bind_some] at hst
    have hr := src_val hF (x := .tmp x) (s := .t x) rfl hl
    split at hst
    · rename_i j
      split at hst
      · rename_i hj
        cases hst
        obtain ⟨c1, c2, c3, c4⟩ := hc
        have hu : P.underlying t = some (.slice e) := by
          unfold elemTy at hel
          split at hel
          · rename_i e' hu; cases hel; exact hu
          · cases hel
        obtain ⟨it, hi, hzv⟩ : ∃ it, P.info? e = some it ∧ it.zero.bind ofConst = some z := by
          unfold zeroV at hz
          cases hi : P.info? e with
          | none => rw [hi] at hz; cases hz
          | some it => rw [hi] at hz; exact ⟨it, rfl, hz⟩
        obtain ⟨zv, hzz, hcz⟩ : ∃ zv, it.zero = some zv ∧ ofConst zv = some z := by
          cases hq : it.zero with
          | none => rw [hq] at hzv; cases hzv
          | some zv => rw [hq] at hzv; exact ⟨zv, rfl, hzv⟩
        have hsz : it.size = k := by
          have : (P.info? e).map (·.size) = some k := by simpa [elemCells, hu] using hkc
          rw [hi] at this; simpa using this
        have hbt : it.bytes = b := by
          have : (P.info? e).map (·.bytes) = some b := by simpa [elemBytes, hu] using hbc
          rw [hi] at this; simpa using this
        have hke : P.cellsOf e = k := by simp [Program.cellsOf, hi, hsz]
        obtain ⟨n, rfl⟩ : ∃ n : Nat, j = n := ⟨j.toNat, by omega⟩
        have hx : a.eval (.tmp x) = .int .i64 (n : Int) := by
          generalize a.eval (.tmp x) = y at hr
          cases hr; rfl
        have hnb : (n : Int) ≤ (n : Int) * (b : Int) := by
          have h1 : n * 1 ≤ n * b := Nat.mul_le_mul_left n c2
          have h2 : ((n * 1 : Nat) : Int) ≤ ((n * b : Nat) : Int) := Int.ofNat_le.2 h1
          simpa using h2
        have hmul : (b : Int) * (n : Int) = (n : Int) * (b : Int) := Int.mul_comm _ _
        have hrun := run_make (P := P) w t e it zv hu hi hzz .i64 .i64 (n : Int) (n : Int) (by omega) (Int.le_refl _) (by rw [hbt, hmul]; omega) (by omega)
        simp only [Int.toNat_natCast] at hrun
        rw [hsz] at hrun
        have hrepz : Reps (fun _ => True) w zv.cells.toList z.cells := (ofConst_rep hcz).cells
        have hzs : zv.cells.size = k := by
          have := hrepz.1
          rw [Array.length_toList] at this
          omega
        have hex : (execOp a.eval oper).run P w = .ok (.value (.slice (some ⟨w.heap.size, 0, none⟩) n n)) (w.alloc (.cells (madeCells zv.cells (n * k)) e)) := by
          simp only [execOp, hop, hx, Sem.run_bind, hrun, Result.andThen_ok, Sem.run_pure]
        have hbw : Below w.heap.size w (w.alloc (.cells (madeCells zv.cells (n * k)) e)) := (Below.refl _ _).alloc (Nat.le_refl _) _
        refine ⟨_, _, hex, hF.put_own hk hd hbw rfl (fun g hg => by simp only [blkOf, Option.some.injEq] at hg; omega) fun Im h1 h2 hE => ?_⟩
        have hall1 : ∀ y ∈ List.replicate (n : Int).toNat z, y.cells.length = P.cellsOf e := fun y hy => by
          rw [(List.mem_replicate.1 hy).2, c3, hke]
        have hall2 : ∀ y ∈ flatc (List.replicate (n : Int).toNat z), y.cell = true := fun y hy => by
          obtain ⟨q, hq, hy⟩ := List.mem_flatMap.1 hy
          rw [(List.mem_replicate.1 hq).2] at hy
          exact List.all_eq_true.1 c4 y hy
        refine ⟨Im, fun _ h => h, fun b h => ⟨.inl h, Nat.lt_of_lt_of_le (h2 b h).2 hbw.size⟩, ⟨(madeCells zv.cells (n * k)).toList, ?_, hall1, hall2, ?_⟩, fun g hg hI => ?_⟩
        · have hr2 := World.ownsRow_lit (base := base) (e := e) (size := P.cellsOf e) w (madeCells zv.cells (n * k)) n hF.bsz (by simp only [maxLen]; omega) (by rw [size_madeCells, hke])
          simpa using hr2
        · have hmf : (madeCells zv.cells (n * k)).toList = (List.replicate n zv.cells.toList).flatten := by
            have := made_flat (z := zv.cells) (by omega) n
            rwa [hzs] at this
          rw [hmf, Int.toNat_natCast]
          have hrep1 : Reps Im (w.alloc (.cells (madeCells zv.cells (n * k)) e)) zv.cells.toList z.cells := (ofConst_rep hcz).cells
          clear hmf hall1 hall2 hrun hex hbw hnb hmul hj hx hr hl
          generalize (w.alloc (.cells (madeCells zv.cells (n * k)) e)) = w2 at hrep1 ⊢
          induction n with
          | zero => exact Reps.nil
          | succ n ih =>
            rw [List.replicate_succ, List.replicate_succ, List.flatten_cons, flatc_cons]
            exact Reps.append hrep1 (ih)
        · simp only [blkOf, Option.some.injEq] at hg
          subst hg
          exact absurd (h2 _ hI).2 (Nat.lt_irrefl _)
      · cases hst
    · cases hst
end
end Go.VM
