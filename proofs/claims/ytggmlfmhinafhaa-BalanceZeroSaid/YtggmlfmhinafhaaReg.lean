/-
  The region of Daily that adds one number to the one before it, in whatever order it is carried out.
-/
import Derived.Test.YtggmlfmhinafhaaCode
import Derived.Test.YtggmlfmhinafhaaVmU
namespace Go.Proofs.Ytggmlfmhinafhaa
open Go.VM Go.RowKit
def regId (n : Nat) : Code → Option (List Oper)
  | .region i ops _ => if i = n then some ops.toList else none
  | .seq a b => (regId n a).or (regId n b)
  | .cond _ a b => (regId n a).or (regId n b)
  | .block _ a => regId n a
  | .loop a => regId n a
  | .rangeFunc _ _ a b => (regId n a).or (regId n b)
  | _ => none
noncomputable def ops17 : List Oper := ((Try.f17.body).bind (regId 12)).getD []
abbrev afs17 : List (List Nat) := [[], [], [0, 1], [2], [], [], [5], [4, 6], [7], [3, 8], [0, 1, 0, 1, 2, 3, 4, 5, 6, 7, 8, 9], [10, 9, 0, 1, 2, 3, 4, 5, 6, 7, 8, 9]]
abbrev opL17 : List Op := [.load 33 (.tmp 9), .move (.tmp 12), .indexAddr 33 (.tmp 64) (.tmp 65), .load 3 (.tmp 66), .load 33 (.tmp 9), .move (.tmp 12), .binOp .sub 3 (.tmp 69) (.const (.int .i64 1)) 3, .indexAddr 33 (.tmp 68) (.tmp 70), .load 3 (.tmp 71), .binOp .add 3 (.tmp 67) (.tmp 72) 3, .indexAddr 33 (.tmp 64) (.tmp 65), .store 3 (.tmp 74) (.tmp 73)]
theorem aft17 : ops17.map aft = afs17 := by kernel_rfl
theorem gd17 : ops17.map (·.guard) = List.replicate 12 none := by kernel_rfl
def ds17 (i : Nat) : Option Nat := if i < 11 then some (64 + i) else none
theorem dst17 : ops17.map (·.dst) = (List.range 12).map ds17 := by kernel_rfl
theorem op17 : ops17.map (·.op) = opL17 := by kernel_rfl
section
variable {P : Program} {w : World} {ρ : Operand → Value} {o : Oper}
theorem rn_mv {x : Operand} (ho : o.op = .move x) : (execOp ρ o).run P w = .ok (.value (ρ x)) w := by simp only [execOp, ho, Sem.run_pure]
theorem load1_run {t : TypeId} {d : TypeDesc} (hd : P.underlying t = some d) (ha : isAggB P t = false) {ad : Addr} {u : Value} (h : w.cell? ad = some u) : (Instr.loadAt t (.pointer (some ad))).run P w = .ok u w := by
  simp only [Instr.loadAt, Instr.sureAddr, Sem.run_bind, Sem.run_pure, Result.andThen_ok, loadVar, isAgg_run hd, ha, Bool.false_eq_true, if_false]
  rw [run_load]
  simp [h]
theorem rn_ld {t : TypeId} {dd : TypeDesc} (hd : P.underlying t = some dd) (ha : isAggB P t = false) {x : Operand} {ad : Addr} {u : Value} (ho : o.op = .load t x) (hx : ρ x = .pointer (some ad)) (hc : w.cell? ad = some u) : (execOp ρ o).run P w = .ok (.value u) w := by
  simp only [execOp, ho, hx, Sem.run_bind, load1_run hd ha hc, Result.andThen_ok, Sem.run_pure]
theorem rn_ix {t e : TypeId} (hu : P.underlying t = some (.slice e)) {d : TypeDesc} (he : P.underlying e = some d) {x y : Operand} {ad : Addr} {len c k : Nat} (ho : o.op = .indexAddr t x y) (hx : ρ x = .slice (some ad) len c) (hy : ρ y = .int .i64 k) (hk : k < len) :
    (execOp ρ o).run P w = .ok (.value (.pointer (some (ad.add (k * P.cellsOf e))))) w := by
  have h : (Instr.indexAt t (.slice (some ad) len c) (.int .i64 k)).run P w = .ok (.pointer (some (ad.add (k * P.cellsOf e)))) w := by
    simp [Instr.indexAt, asIntOf, run_underlying hu, hk, sizeOf_run he]
  simp only [execOp, ho, hx, hy, Sem.run_bind, h, Result.andThen_ok, Sem.run_pure]
theorem rn_sub1 {x : Operand} {k : Nat} (hk : k ≤ 4000) (ho : o.op = .binOp .sub 3 x (.const (.int .i64 1)) 3) (hx : ρ x = .int .i64 ((k + 1 : Nat) : Int)) (hc : ρ (.const (.int .i64 1)) = .int .i64 1) : (execOp ρ o).run Try.prog w = .ok (.value (.int .i64 (k : Int))) w := by
  simp [execOp, ho, hx, hc, go_sem]
  rw [IntKind.wrap_i64]; omega
theorem rn_add {x y : Operand} {m n : Int} (ho : o.op = .binOp .add 3 x y 3) (hx : ρ x = .int .i64 m) (hy : ρ y = .int .i64 n) : (execOp ρ o).run Try.prog w = .ok (.value (.int .i64 (wrap64 (m + n)))) w := by
  simp [execOp, ho, hx, hy, go_sem]
  rw [IntKind.wrap_i64]; unfold wrap64; rfl
theorem rn_st {x y : Operand} {ad : Addr} {m n : Int} (ho : o.op = .store 3 x y) (hx : ρ x = .pointer (some ad)) (hy : ρ y = .int .i64 n) (hc : w.cell? ad = some (.int .i64 m)) (hf : w.frozen? ad = false) : (execOp ρ o).run Try.prog w = .ok .skip (w.setCell ad (.int .i64 n)) := by
  simp [execOp, ho, hx, hy, go_sem, hc, hf]
end
def val17 (N k : Nat) (K : Nat) (y1 y0 : Int) : Nat → Value
  | 0 | 4 => .slice (some ⟨N, 0, none⟩) K K
  | 1 | 5 => .int .i64 ((k + 1 : Nat) : Int)
  | 2 | 10 => .pointer (some ⟨N, k + 1, none⟩)
  | 3 => .int .i64 y1
  | 6 => .int .i64 (k : Int)
  | 7 => .pointer (some ⟨N, k, none⟩)
  | 8 => .int .i64 y0
  | 9 => .int .i64 (wrap64 (y1 + y0))
  | _ => undef
theorem reg17 {a0 : Act} {w : World} {N M k K : Nat} {y1 y0 : Int} (hs : a0.tmps.size = 76) (t9 : tm a0 9 = some (.pointer (some ⟨M, 0, none⟩))) (t12 : tm a0 12 = some (.int .i64 ((k : Int) + 1))) (hk : k + 1 < K) (hK : K ≤ 4000)
    (hM : w.cell? ⟨M, 0, none⟩ = some (.slice (some ⟨N, 0, none⟩) K K)) (h1 : w.cell? ⟨N, k + 1, none⟩ = some (.int .i64 y1)) (h0 : w.cell? ⟨N, k, none⟩ = some (.int .i64 y0)) (hf : w.frozen? ⟨N, k + 1, none⟩ = false)
    {ops : Array Oper} (hops : ops.toList = ops17) {Q : Exit → Act → World → Prop}
    (hQ : Q .normal (((((((((((a0.put (some 64) (.slice (some ⟨N, 0, none⟩) K K)).put (some 65) (.int .i64 ((k : Int) + 1))).put (some 66) (.pointer (some ⟨N, k + 1, none⟩))).put (some 67) (.int .i64 y1)).put (some 68) (.slice (some ⟨N, 0, none⟩) K K)).put (some 69) (.int .i64 ((k : Int) + 1))).put (some 70) (.int .i64 (k : Int))).put (some 71) (.pointer (some ⟨N, k, none⟩))).put (some 72) (.int .i64 y0)).put (some 73) (.int .i64 (wrap64 (y1 + y0)))).put (some 74) (.pointer (some ⟨N, k + 1, none⟩))) (w.drew.setCell ⟨N, k + 1, none⟩ (.int .i64 (wrap64 (y1 + y0))))) : (Code.region 12 ops true).wp Try.prog Q a0 w := by
  have hl12 : ops17.length = 12 := by kernel_rfl
  have hsz : ops.size = 12 := by rw [← Array.length_toList, hops, hl12]
  have hinj : ∀ i j n, ds17 i = some n → ds17 j = some n → i = j := fun i j n h h' => by
    unfold ds17 at h h'
    split at h <;> split at h' <;> simp at h h'
    omega
  have hlt : ∀ i n, ds17 i = some n → n < a0.tmps.size := fun i n h => by
    unfold ds17 at h
    split at h <;> simp at h
    omega
  have hget : ∀ (i : Nat) op, ops17[i]? = some op → i < 12 ∧ op.op = opL17.getD i default ∧ op.dst = ds17 i ∧ op.guard = none ∧ aft op = afs17.getD i [] := fun i op hi => by
    have hi12 : i < 12 := by rw [← hl12]; exact (List.getElem?_eq_some_iff.1 hi).1
    have e1 := congrArg (fun l => l[i]?) op17
    have e2 := congrArg (fun l => l[i]?) dst17
    have e3 := congrArg (fun l => l[i]?) gd17
    have e4 := congrArg (fun l => l[i]?) aft17
    simp only [List.getElem?_map, hi, Option.map_some] at e1 e2 e3 e4
    refine ⟨hi12, ?_, ?_, ?_, ?_⟩
    · rw [List.getD_eq_getElem?_getD, ← e1]; rfl
    · rw [List.getElem?_range hi12] at e2; simpa using e2
    · rw [List.getElem?_replicate, if_pos hi12] at e3; exact Option.some.inj e3
    · rw [List.getD_eq_getElem?_getD, ← e4]; rfl
  refine regV (by kernel_rfl) (ds := ds17) (val := val17 N k K y1 y0) (fun l w' => (Ex1 l 11 → w' = w.drew.setCell ⟨N, k + 1, none⟩ (.int .i64 (wrap64 (y1 + y0)))) ∧ (¬ Ex1 l 11 → w' = w.drew)) hinj hlt (fun i op hi => ?_) (fun i op hi l hl hne haft hcl a w' hT hW => ?_) ?_ ?_ (fun l a' w' hall hT hW => ?_)
  · rw [hops] at hi
    exact ⟨(hget i op hi).2.2.1, (hget i op hi).2.2.2.1⟩
  · rw [hops] at hi hcl hl
    obtain ⟨hi12, ho, hd, hg, ha⟩ := hget i op hi
    rw [ha] at haft
    have hil : i < l.size := by omega
    have hn11 : ¬ Ex1 l 11 := fun h11 => by
      by_cases he : i = 11
      · subst he; exact hne h11
      · obtain ⟨o11, ho11⟩ : ∃ o11, ops17[11]? = some o11 := ⟨_, List.getElem?_eq_getElem (by omega)⟩
        have := hcl 11 o11 ho11 h11 i (by
          rw [(hget 11 o11 ho11).2.2.2.2]
          have hi11 : i < 11 := by omega
          revert hi11
          exact (by decide : ∀ i < 11, i ∈ afs17.getD 11 []) i)
        exact hne this
    obtain rfl := hW.2 hn11
    have ev : ∀ j, j < 11 → Ex1 l j → a.eval (.tmp (64 + j)) = val17 N k K y1 y0 j := fun j hj hx => eval_tmp (hT.2.2.1 j _ hx (by simp [ds17, hj]))
    have e9 : a.eval (.tmp 9) = .pointer (some ⟨M, 0, none⟩) := eval_tmp ((hT.2.2.2 9 (fun i _ h => by unfold ds17 at h; split at h <;> simp at h; omega)).trans t9)
    have e12 : a.eval (.tmp 12) = .int .i64 ((k + 1 : Nat) : Int) := eval_tmp ((hT.2.2.2 12 (fun i _ h => by unfold ds17 at h; split at h <;> simp at h; omega)).trans (t12.trans (by simp)))
    have pure1 : ∀ u, u = val17 N k K y1 y0 i → i ≠ 11 → (execOp a.eval op).run Try.prog w.drew = .ok (.value u) w.drew → Outc Try.prog ((execOp a.eval op).run Try.prog w.drew) fun u w1 => (ds17 i = none ∨ u = val17 N k K y1 y0 i) ∧ ((Ex1 (l.setIfInBounds i true) 11 → w1 = w.drew.setCell ⟨N, k + 1, none⟩ (.int .i64 (wrap64 (y1 + y0)))) ∧ (¬ Ex1 (l.setIfInBounds i true) 11 → w1 = w.drew)) := fun u hu hi11 hr => by
      rw [hr]
      exact ⟨.inr hu, fun hx => absurd hx fun hx => ((ex1_set hil 11).1 hx).elim (fun e => hi11 e.symm) hn11, fun _ => rfl⟩
    have c3 : Try.prog.cellsOf 3 = 1 := by kernel_rfl
    match i, hi12 with
    | 0, _ => exact pure1 _ rfl (by decide) (rn_ld Try.underlying33 (by kernel_rfl) ho e9 hM)
    | 1, _ => exact pure1 _ e12 (by decide) (rn_mv ho)
    | 2, _ => exact pure1 _ (by rw [c3]; simp [val17, Addr.add]) (by decide) (rn_ix Try.underlying33 Try.underlying3 ho (ev 0 (by decide) (haft 0 (by decide))) (ev 1 (by decide) (haft 1 (by decide))) hk)
    | 3, _ => exact pure1 _ rfl (by decide) (rn_ld Try.underlying3 (by kernel_rfl) ho (ev 2 (by decide) (haft 2 (by decide))) h1)
    | 4, _ => exact pure1 _ rfl (by decide) (rn_ld Try.underlying33 (by kernel_rfl) ho e9 hM)
    | 5, _ => exact pure1 _ e12 (by decide) (rn_mv ho)
    | 6, _ => exact pure1 (.int .i64 (k : Int)) rfl (by decide) (rn_sub1 (by omega) ho (ev 5 (by decide) (haft 5 (by decide))) rfl)
    | 7, _ => exact pure1 _ (by rw [c3]; simp [val17, Addr.add]; omega) (by decide) (rn_ix Try.underlying33 Try.underlying3 ho (ev 4 (by decide) (haft 4 (by decide))) (ev 6 (by decide) (haft 6 (by decide))) (by omega))
    | 8, _ => exact pure1 _ rfl (by decide) (rn_ld Try.underlying3 (by kernel_rfl) ho (ev 7 (by decide) (haft 7 (by decide))) h0)
    | 9, _ => exact pure1 (.int .i64 (wrap64 (y1 + y0))) rfl (by decide) (rn_add ho (ev 3 (by decide) (haft 3 (by decide))) (ev 8 (by decide) (haft 8 (by decide))))
    | 10, _ => exact pure1 _ (by rw [c3]; simp [val17, Addr.add]) (by decide) (rn_ix Try.underlying33 Try.underlying3 ho (ev 0 (by decide) (haft 0 (by decide))) (ev 1 (by decide) (haft 1 (by decide))) hk)
    | 11, _ =>
      have h9 := ev 9 (by decide) (haft 9 (by decide))
      have h10 := ev 10 (by decide) (haft 10 (by decide))
      have hr : (execOp a.eval op).run Try.prog w.drew = .ok .skip (w.drew.setCell ⟨N, k + 1, none⟩ (.int .i64 (wrap64 (y1 + y0)))) := by
        exact rn_st ho h10 h9 h1 hf
      rw [hr]
      exact ⟨.inl rfl, fun _ => rfl, fun h => absurd ((ex1_set hil 11).2 (.inl rfl)) h⟩
  · rw [hsz]
    have hgo : ∀ i, i < 12 → ∃ op, ops[i]? = some op ∧ aft op = afs17.getD i [] := fun i hi => by
      have hi' : i < ops17.length := by omega
      refine ⟨ops17[i], ?_, (hget i _ (List.getElem?_eq_getElem hi')).2.2.2.2⟩
      rw [← Array.getElem?_toList, hops]
      exact List.getElem?_eq_getElem hi'
    rw [List.all_eq_true]
    intro i hi
    obtain ⟨op, h1, h2⟩ := hgo i (List.mem_range.1 hi)
    rw [h1]
    simp only [h2]
    have hi := List.mem_range.1 hi
    revert hi
    exact (by decide : ∀ i < 12, (afs17.getD i []).all (fun j => decide (j < i)) = true) i
  · refine ⟨fun h => ?_, fun _ => rfl⟩
    unfold Ex1 at h
    simp only [Array.getD_eq_getD_getElem?, Array.getElem?_replicate] at h
    split at h <;> simp at h
  · obtain rfl := hW.1 (hall 11 (by omega))
    rw [hT.all (n := 12) (fun i hi => hall i (by omega)) (fun i hi => by unfold ds17; rw [if_neg (by omega)]) hinj hlt]
    exact hQ
end Go.Proofs.Ytggmlfmhinafhaa
