/-
  The region of Trial that adds an amount to a sum, in whatever order it is carried out.
-/
import Derived.Test.YtggmlfmhinafhaaReg
import Derived.Test.YtggmlfmhinafhaaSums
namespace Go.Proofs.Ytggmlfmhinafhaa
open Go.VM Go.RowKit
open Go.ChangeMaps (setBlock)
noncomputable def ops22 : List Oper := ((Try.f22.body).bind (regId 8)).getD []
abbrev afs22 : List (List Nat) := [[], [], [1], [], [3], [2, 4], [0, 5], [], [7], [6, 8], [0, 5, 0, 1, 2, 3, 4, 5, 7, 8], [10], [0, 11, 9, 10, 0, 1, 2, 3, 4, 5, 6, 7, 8, 9, 10, 11]]
abbrev opL22 : List Op := [.move (.tmp 3), .fieldAddr 44 (.tmp 7) 0, .load 3 (.tmp 26), .fieldAddr 44 (.tmp 7) 2, .load 9 (.tmp 28), .build 55 #[(0, .tmp 27), (1, .tmp 29)], .lookup 53 (.tmp 25) (.tmp 30) false, .fieldAddr 44 (.tmp 7) 1, .load 3 (.tmp 32), .binOp .add 3 (.tmp 31) (.tmp 33) 3, .mapEntry 53 (.tmp 25) (.tmp 30), .extract (.tmp 35) 1, .entryStore 53 (.tmp 25) (.tmp 36) (.tmp 34)]
theorem aft22 : ops22.map aft = afs22 := by kernel_rfl
theorem gd22 : ops22.map (·.guard) = List.replicate 13 none := by kernel_rfl
def ds22 (i : Nat) : Option Nat := if i < 12 then some (25 + i) else none
theorem dst22 : ops22.map (·.dst) = (List.range 13).map ds22 := by kernel_rfl
theorem op22 : ops22.map (·.op) = opL22 := by kernel_rfl
section
variable {w : World} {ρ : Operand → Value} {o : Oper}
theorem rn_fa44 {x : Operand} {b i : Nat} (hi : i < 3) (ho : o.op = .fieldAddr 44 x i) (hx : ρ x = .pointer (some ⟨b, 0, none⟩)) : (execOp ρ o).run Try.prog w = .ok (.value (.pointer (some ⟨b, i, none⟩))) w := by
  simp only [execOp, ho, hx]
  match i, hi with
  | 0, _ => simp [Instr.fieldAt, run_underlying Try.underlying44, go_sem, Addr.add]
  | 1, _ => simp [Instr.fieldAt, run_underlying Try.underlying44, go_sem, Addr.add]
  | 2, _ => simp [Instr.fieldAt, run_underlying Try.underlying44, go_sem, Addr.add]
theorem rn_build55 {x y : Operand} {k : Key} (ho : o.op = .build 55 #[(0, x), (1, y)]) (hx : ρ x = .int .i64 k.1) (hy : ρ y = .string k.2) : (execOp ρ o).run Try.prog w = .ok (.value (kvK k)) w := by
  simp only [execOp, ho]
  simp [hx, hy, go_sem, kvK]
theorem rn_look {x y : Operand} {b : Nat} {kv u : Value} (ho : o.op = .lookup 53 x y false) (hx : ρ x = .map (some b)) (hy : ρ y = kv) (h : (Instr.lookup 53 (.map (some b)) kv false).run Try.prog w = .ok u w) : (execOp ρ o).run Try.prog w = .ok (.value u) w := by
  simp only [execOp, ho, hx, hy, Sem.run_bind, h, Result.andThen_ok, Sem.run_pure]
theorem rn_entry {x y : Operand} {b : Nat} {kv u : Value} {w1 : World} (ho : o.op = .mapEntry 53 x y) (hx : ρ x = .map (some b)) (hy : ρ y = kv) (h : (Instr.mapEntry 53 (.map (some b)) kv).run Try.prog w = .ok u w1) : (execOp ρ o).run Try.prog w = .ok (.value u) w1 := by
  simp only [execOp, ho, hx, hy, Sem.run_bind, h, Result.andThen_ok, Sem.run_pure]
theorem rn_ext {x : Operand} {u v : Value} (ho : o.op = .extract x 1) (hx : ρ x = .tuple #[u, v]) : (execOp ρ o).run Try.prog w = .ok (.value v) w := by
  simp [execOp, ho, hx, go_sem, Instr.extract]
theorem rn_est {x y z : Operand} {b : Nat} {s u : Value} {w1 : World} (ho : o.op = .entryStore 53 x y z) (hx : ρ x = .map (some b)) (hy : ρ y = s) (hz : ρ z = u) (h : (Instr.entryStore 53 (.map (some b)) s u).run Try.prog w = .ok () w1) : (execOp ρ o).run Try.prog w = .ok .skip w1 := by
  simp only [execOp, ho, hx, hy, hz, Sem.run_bind, h, Result.andThen_ok, Sem.run_pure]
end
def val22 (b X : Nat) (k : Key) (am v0 : Int) (st : Nat) : Nat → Value
  | 0 => .map (some b)
  | 1 => .pointer (some ⟨X, 0, none⟩)
  | 2 => .int .i64 k.1
  | 3 => .pointer (some ⟨X, 2, none⟩)
  | 4 => .string k.2
  | 5 => kvK k
  | 6 => .int .i64 (v0)
  | 7 => .pointer (some ⟨X, 1, none⟩)
  | 8 => .int .i64 am
  | 9 => .int .i64 (wrap64 (v0 + am))
  | 10 => .tuple #[.int .i64 (v0), goInt st]
  | 11 => goInt st
  | _ => undef
theorem set_heap {w : World} {b : Nat} {o o' : Obj} (h : w.heap[b]? = some o) : (setBlock w b o').heap[b]? = some o' := setBlock_at h
theorem set_cell {w : World} {b : Nat} {es : Array MapEntry} {clock : Nat} (h : w.heap[b]? = some (.map es clock)) {p : Addr} {v : Value} (hp : w.cell? p = some v) (o' : Obj) : (setBlock w b o').cell? p = some v := by
  have hne : p.block ≠ b := fun e => by
    unfold World.cell? at hp
    rw [e, h] at hp
    cases hp
  rw [← hp]
  simp only [World.cell?, setBlock_other hne]
theorem set_grown {w : World} {b : Nat} {o : Obj} : w.grownBy (setBlock w b o) (some b) :=
  ⟨rfl, rfl, rfl, by rw [setBlock_size]; exact Nat.le_refl _, fun k _ hk => setBlock_other fun e => hk (by rw [e])⟩
theorem reg22 {a0 : Act} {w : World} {b X : Nat} {k : Key} {am : Int} {l : Sums} {es : Array MapEntry} {clock : Nat} (hs : a0.tmps.size = 60) (t3 : tm a0 3 = some (.map (some b))) (t7 : tm a0 7 = some (.pointer (some ⟨X, 0, none⟩)))
    (hb : w.heap[b]? = some (.map es clock)) (he : Ent es clock l) (hk : KeyOk k) (c0 : w.cell? ⟨X, 0, none⟩ = some (.int .i64 k.1)) (c1 : w.cell? ⟨X, 1, none⟩ = some (.int .i64 am)) (c2 : w.cell? ⟨X, 2, none⟩ = some (.string k.2))
    {ops : Array Oper} (hops : ops.toList = ops22) {Q : Exit → Act → World → Prop}
    (hQ : ∀ (st : Nat) (w2 : World) (es2 : Array MapEntry) (clock2 : Nat), w.drew.grownBy w2 (some b) → w2.heap[b]? = some (.map es2 clock2) → Ent es2 clock2 (setS l k (wrap64 (getS l k + am))) → Q .normal ((((((((((((a0.put (some 25) (.map (some b))).put (some 26) (.pointer (some ⟨X, 0, none⟩))).put (some 27) (.int .i64 k.1)).put (some 28) (.pointer (some ⟨X, 2, none⟩))).put (some 29) (.string k.2)).put (some 30) (kvK k)).put (some 31) (.int .i64 (getS l k))).put (some 32) (.pointer (some ⟨X, 1, none⟩))).put (some 33) (.int .i64 am)).put (some 34) (.int .i64 (wrap64 (getS l k + am)))).put (some 35) (.tuple #[.int .i64 (getS l k), goInt st])).put (some 36) (goInt st)) w2) :
    (Code.region 8 ops true).wp Try.prog Q a0 w := by
  have hl13 : ops22.length = 13 := by kernel_rfl
  have hsz : ops.size = 13 := by rw [← Array.length_toList, hops, hl13]
  obtain ⟨st, es1, clock1, hA, hB⟩ := sums_ops he hk b
  have hinj : ∀ i j n, ds22 i = some n → ds22 j = some n → i = j := fun i j n h h' => by
    unfold ds22 at h h'
    split at h <;> split at h' <;> simp at h h'
    omega
  have hlt : ∀ i n, ds22 i = some n → n < a0.tmps.size := fun i n h => by
    unfold ds22 at h
    split at h <;> simp at h
    omega
  have hget : ∀ (i : Nat) op, ops22[i]? = some op → i < 13 ∧ op.op = opL22.getD i default ∧ op.dst = ds22 i ∧ op.guard = none ∧ aft op = afs22.getD i [] := fun i op hi => by
    have hi13 : i < 13 := by rw [← hl13]; exact (List.getElem?_eq_some_iff.1 hi).1
    have e1 := congrArg (fun l => l[i]?) op22
    have e2 := congrArg (fun l => l[i]?) dst22
    have e3 := congrArg (fun l => l[i]?) gd22
    have e4 := congrArg (fun l => l[i]?) aft22
    simp only [List.getElem?_map, hi, Option.map_some] at e1 e2 e3 e4
    refine ⟨hi13, ?_, ?_, ?_, ?_⟩
    · rw [List.getD_eq_getElem?_getD, ← e1]; rfl
    · rw [List.getElem?_range hi13] at e2; simpa using e2
    · rw [List.getElem?_replicate, if_pos hi13] at e3; exact Option.some.inj e3
    · rw [List.getD_eq_getElem?_getD, ← e4]; rfl
  obtain ⟨w1, hw1⟩ : ∃ w1, w1 = setBlock w.drew b (.map es1 clock1) := ⟨_, rfl⟩
  have hb0 : w.drew.heap[b]? = some (.map es clock) := hb
  have hb1 : w1.heap[b]? = some (.map es1 clock1) := by rw [hw1]; exact set_heap hb0
  have cell : ∀ (wq : World), (wq = w.drew ∨ wq = w1) → ∀ {p : Addr} {v : Value}, w.cell? p = some v → wq.cell? p = some v := fun wq hq p v hp => by
    rcases hq with rfl | rfl
    · exact hp
    · rw [hw1]; exact set_cell hb0 hp _
  obtain ⟨es2, clock2, hst, hE2⟩ := (hB w1 hb1).2 (wrap64 (getS l k + am))
  refine regV (by kernel_rfl) (ds := ds22) (val := val22 b X k am (getS l k) st) (fun l w' => (Ex1 l 12 → w' = setBlock w1 b (.map es2 clock2)) ∧ (¬ Ex1 l 12 → Ex1 l 10 → w' = w1) ∧ (¬ Ex1 l 12 → ¬ Ex1 l 10 → w' = w.drew)) hinj hlt (fun i op hi => ?_) (fun i op hi L hl hne haft hcl a w' hT hW => ?_) ?_ ?_ (fun L a' w' hall hT hW => ?_)
  · rw [hops] at hi
    exact ⟨(hget i op hi).2.2.1, (hget i op hi).2.2.2.1⟩
  · rw [hops] at hi hcl hl
    obtain ⟨hi13, ho, hd, hg, ha⟩ := hget i op hi
    rw [ha] at haft
    have hil : i < L.size := by omega
    have hn12 : ¬ Ex1 L 12 := fun h12 => by
      by_cases he : i = 12
      · subst he; exact hne h12
      · obtain ⟨o12, ho12⟩ : ∃ o12, ops22[12]? = some o12 := ⟨_, List.getElem?_eq_getElem (by omega)⟩
        have := hcl 12 o12 ho12 h12 i (by
          rw [(hget 12 o12 ho12).2.2.2.2]
          have hi12 : i < 12 := by omega
          revert hi12
          exact (by decide : ∀ i < 12, i ∈ afs22.getD 12 []) i)
        exact hne this
    have hwq : w' = w.drew ∨ w' = w1 := by
      by_cases h10 : Ex1 L 10
      · exact .inr (hW.2.1 hn12 h10)
      · exact .inl (hW.2.2 hn12 h10)
    have ev : ∀ j, j < 12 → Ex1 L j → a.eval (.tmp (25 + j)) = val22 b X k am (getS l k) st j := fun j hj hx => eval_tmp (hT.2.2.1 j _ hx (by simp [ds22, hj]))
    have e3 : a.eval (.tmp 3) = .map (some b) := eval_tmp ((hT.2.2.2 3 (fun i _ h => by unfold ds22 at h; split at h <;> simp at h; omega)).trans t3)
    have e7 : a.eval (.tmp 7) = .pointer (some ⟨X, 0, none⟩) := eval_tmp ((hT.2.2.2 7 (fun i _ h => by unfold ds22 at h; split at h <;> simp at h; omega)).trans t7)
    have hx12 : i ≠ 12 → (Ex1 (L.setIfInBounds i true) 12 ↔ Ex1 L 12) := fun h => by rw [ex1_set hil]; exact ⟨fun h' => h'.resolve_left fun e => h e.symm, .inr⟩
    have hx10 : i ≠ 10 → (Ex1 (L.setIfInBounds i true) 10 ↔ Ex1 L 10) := fun h => by rw [ex1_set hil]; exact ⟨fun h' => h'.resolve_left fun e => h e.symm, .inr⟩
    have pure1 : ∀ u, u = val22 b X k am (getS l k) st i → i ≠ 12 → i ≠ 10 → (execOp a.eval op).run Try.prog w' = .ok (.value u) w' → Outc Try.prog ((execOp a.eval op).run Try.prog w') fun u w1' => (ds22 i = none ∨ u = val22 b X k am (getS l k) st i) ∧ ((Ex1 (L.setIfInBounds i true) 12 → w1' = setBlock w1 b (.map es2 clock2)) ∧ (¬ Ex1 (L.setIfInBounds i true) 12 → Ex1 (L.setIfInBounds i true) 10 → w1' = w1) ∧ (¬ Ex1 (L.setIfInBounds i true) 12 → ¬ Ex1 (L.setIfInBounds i true) 10 → w1' = w.drew)) := fun u hu h12 h10 hr => by
      rw [hr]
      refine ⟨.inr hu, ?_⟩
      rw [hx12 h12, hx10 h10]
      exact hW
    have hlook : (Instr.lookup 53 (.map (some b)) (kvK k) false).run Try.prog w' = .ok (.int .i64 (getS l k)) w' := by
      rcases hwq with rfl | rfl
      · exact (hA _ hb0).1
      · exact (hB _ hb1).1
    match i, hi13 with
    | 0, _ => exact pure1 _ e3 (by decide) (by decide) (rn_mv ho)
    | 1, _ => exact pure1 _ rfl (by decide) (by decide) (rn_fa44 (by decide) ho e7)
    | 2, _ => exact pure1 _ rfl (by decide) (by decide) (rn_ld Try.underlying3 (by kernel_rfl) ho (ev 1 (by decide) (haft 1 (by decide))) (cell _ hwq c0))
    | 3, _ => exact pure1 _ rfl (by decide) (by decide) (rn_fa44 (by decide) ho e7)
    | 4, _ => exact pure1 _ rfl (by decide) (by decide) (rn_ld Try.underlying9 (by kernel_rfl) ho (ev 3 (by decide) (haft 3 (by decide))) (cell _ hwq c2))
    | 5, _ => exact pure1 _ rfl (by decide) (by decide) (rn_build55 ho (ev 2 (by decide) (haft 2 (by decide))) (ev 4 (by decide) (haft 4 (by decide))))
    | 6, _ => exact pure1 _ rfl (by decide) (by decide) (rn_look ho (ev 0 (by decide) (haft 0 (by decide))) (ev 5 (by decide) (haft 5 (by decide))) hlook)
    | 7, _ => exact pure1 _ rfl (by decide) (by decide) (rn_fa44 (by decide) ho e7)
    | 8, _ => exact pure1 _ rfl (by decide) (by decide) (rn_ld Try.underlying3 (by kernel_rfl) ho (ev 7 (by decide) (haft 7 (by decide))) (cell _ hwq c1))
    | 9, _ => exact pure1 _ rfl (by decide) (by decide) (rn_add ho (ev 6 (by decide) (haft 6 (by decide))) (ev 8 (by decide) (haft 8 (by decide))))
    | 10, _ =>
      have hn10 : ¬ Ex1 L 10 := hne
      obtain rfl := hW.2.2 hn12 hn10
      have hr : (execOp a.eval op).run Try.prog w.drew = .ok (.value (.tuple #[.int .i64 (getS l k), goInt st])) w1 := by
        rw [hw1]
        exact rn_entry ho (ev 0 (by decide) (haft 0 (by decide))) (ev 5 (by decide) (haft 5 (by decide))) (hA _ hb0).2
      rw [hr]
      exact ⟨.inr rfl, fun h => absurd ((hx12 (by decide)).1 h) hn12, fun _ _ => rfl, fun _ h => absurd ((ex1_set hil 10).2 (.inl rfl)) h⟩
    | 11, _ => exact pure1 _ rfl (by decide) (by decide) (rn_ext ho (ev 10 (by decide) (haft 10 (by decide))))
    | 12, _ =>
      obtain rfl := hW.2.1 hn12 (haft 10 (by decide))
      have hr : (execOp a.eval op).run Try.prog w' = .ok .skip (setBlock w' b (.map es2 clock2)) := rn_est ho (ev 0 (by decide) (haft 0 (by decide))) (ev 11 (by decide) (haft 11 (by decide))) (ev 9 (by decide) (haft 9 (by decide))) hst
      rw [hr]
      exact ⟨.inl rfl, fun _ => rfl, fun h => absurd ((ex1_set hil 12).2 (.inl rfl)) h, fun h => absurd ((ex1_set hil 12).2 (.inl rfl)) h⟩
  · rw [hsz]
    have hgo : ∀ i, i < 13 → ∃ op, ops[i]? = some op ∧ aft op = afs22.getD i [] := fun i hi => by
      have hi' : i < ops22.length := by omega
      refine ⟨ops22[i], ?_, (hget i _ (List.getElem?_eq_getElem hi')).2.2.2.2⟩
      rw [← Array.getElem?_toList, hops]
      exact List.getElem?_eq_getElem hi'
    rw [List.all_eq_true]
    intro i hi
    obtain ⟨op, h1, h2⟩ := hgo i (List.mem_range.1 hi)
    rw [h1]
    simp only [h2]
    have hi := List.mem_range.1 hi
    revert hi
    exact (by decide : ∀ i < 13, (afs22.getD i []).all (fun j => decide (j < i)) = true) i
  · have hn : ∀ j, ¬ Ex1 (Array.replicate ops.size false) j := fun j h => by
      unfold Ex1 at h
      simp only [Array.getD_eq_getD_getElem?, Array.getElem?_replicate] at h
      split at h <;> simp at h
    exact ⟨fun h => absurd h (hn _), fun _ h => absurd h (hn _), fun _ _ => rfl⟩
  · obtain rfl := hW.1 (hall 12 (by omega))
    rw [hT.all (n := 13) (fun i hi => hall i (by omega)) (fun i hi => by unfold ds22; rw [if_neg (by omega)]) hinj hlt]
    refine hQ st _ es2 clock2 ?_ (set_heap hb1) hE2
    have g1 : w.drew.grownBy w1 (some b) := by rw [hw1]; exact set_grown
    have g2 : w1.grownBy (setBlock w1 b (.map es2 clock2)) (some b) := set_grown
    exact ⟨g2.os.trans g1.os, g2.tape.trans g1.tape, g2.output.trans g1.output, Nat.le_trans g1.size g2.size, fun j hj hne => (g2.block j (Nat.lt_of_lt_of_le hj g1.size) hne).trans (g1.block j hj hne)⟩
end Go.Proofs.Ytggmlfmhinafhaa
