/-
  The collector: a variable that holds a slice; what a call that adds a number does.
-/
import Derived.Test.YtdaclkakglmfeaaMut
import Derived.Test.YtdaclkakglmfeaaVmT
namespace Go.Proofs.Ytdaclkakglmfeaa
open Go.VM Go.RowKit
/-- The collector at block g holds a slice of numbers; its blocks. -/
def colR (g : Nat) : Rsc (List Int) where
  R s F w := ∃ (v : Value) (ty : TypeId), w.heap[g]? = some (.cells #[v] ty (0, 0)) ∧ w.ownsRow 0 3 1 v s.length (s.map fun k => Value.int .i64 k) ∧ blkOf v ≠ some g ∧ ∀ b, F b ↔ (b = g ∨ blkOf v = some b)
  loc := by
    rintro s F w w' ⟨v, ty, h1, ⟨h2, h3⟩, h4, h5⟩ h
    refine ⟨v, ty, (h g ((h5 g).2 (.inl rfl))).trans h1, ⟨h2, ?_⟩, h4, h5⟩
    rcases h3 with h3 | ⟨b, cap, cur, rfl, q1, q2, q3⟩
    · exact .inl h3
    · exact .inr ⟨b, cap, cur, rfl, q1, (h b ((h5 b).2 (.inr rfl))).trans q2, q3⟩
  lt := by
    rintro s F w b ⟨v, ty, h1, h2, h4, h5⟩ hb
    rcases (h5 b).1 hb with rfl | hv
    · exact (Array.getElem?_eq_some_iff.1 h1).1
    · exact (h2.lt b (by rw [ownsRow_blk h2]; exact hv)).2
theorem load1_run {P : Program} {w : World} {t : TypeId} {d : TypeDesc} (hd : P.underlying t = some d) (ha : isAggB P t = false) {ad : Addr} {u : Value} (h : w.cell? ad = some u) : (Instr.loadAt t (.pointer (some ad))).run P w = .ok u w := by
  simp only [Instr.loadAt, Instr.sureAddr, Sem.run_bind, Sem.run_pure, Result.andThen_ok, loadVar, isAgg_run hd, ha, Bool.false_eq_true, if_false]
  rw [run_load]
  simp [h]
noncomputable def ops36 : List Oper := match Try.f36.body with
  | some (.region _ ops false) => ops.toList
  | _ => []
noncomputable def op36 (i : Nat) : Oper := ops36.getD i default
theorem body36 : Try.f36.body = some (.region 0 ops36.toArray false) := by kernel_rfl
theorem list36 : ops36 = [op36 0, op36 1, op36 2, op36 3, op36 4, op36 5, op36 6, op36 7, op36 8, op36 9, op36 10] := by kernel_rfl
theorem g36 : ops36.map (·.guard) = List.replicate 11 none := by kernel_rfl
theorem d36 : ops36.map (·.dst) = [some 4, some 5, some 6, some 7, some 8, some 9, some 10, some 11, some 12, some 13, none] := by kernel_rfl
theorem p36_0 : (op36 0).op = .move (.tmp 0) := by kernel_rfl
theorem p36_1 : (op36 1).op = .move (.tmp 0) := by kernel_rfl
theorem p36_2 : (op36 2).op = .nilCheck (.tmp 5) := by kernel_rfl
theorem p36_3 : (op36 3).op = .fieldAddr 53 (.tmp 6) 0 := by kernel_rfl
theorem p36_4 : (op36 4).op = .load 34 (.tmp 7) := by kernel_rfl
theorem p36_8 : (op36 8).op = .nilCheck (.tmp 4) := by kernel_rfl
theorem p36_9 : (op36 9).op = .fieldAddr 53 (.tmp 12) 0 := by kernel_rfl
theorem p36_10 : (op36 10).op = .store 34 (.tmp 13) (.tmp 11) := by kernel_rfl
theorem st36 : toSts Try.prog [op36 5, op36 6, op36 7] = some [.mv 9 (.t 1), .bsl 10 3 1 [.t 9], .app 11 3 1 8 (.t 8) (.t 10)] := by kernel_rfl
theorem at36 (i : Nat) (h : i < 11) : ops36[i]? = some (op36 i) := by
  rw [list36]
  match i, h with
  | 0, _ => rfl
  | 1, _ => rfl
  | 2, _ => rfl
  | 3, _ => rfl
  | 4, _ => rfl
  | 5, _ => rfl
  | 6, _ => rfl
  | 7, _ => rfl
  | 8, _ => rfl
  | 9, _ => rfl
  | 10, _ => rfl
theorem gd36 (i : Nat) (h : i < 11) : (op36 i).guard = none := by
  have h1 := at36 i h
  have h2 := congrArg (fun l => l[i]?) g36
  simp only [List.getElem?_map, h1, Option.map_some, List.getElem?_replicate, if_pos h] at h2
  exact Option.some.inj h2
theorem cells34 : Try.prog.cellsOf 34 = 1 := by kernel_rfl
theorem fa53 (w : World) (ad : Addr) : (Instr.fieldAt 53 (.pointer (some ad)) 0).run Try.prog w = .ok (.pointer (some ad)) w := by
  have := fieldAt_run (P := Try.prog) (w := w) Try.underlying53 (i := 0) rfl (by show 0 < Try.prog.cellsOf 34; rw [cells34]; decide) ad
  have h0 : ad.add 0 = ad := by unfold Addr.add; simp
  rw [this]
  show Result.ok (Value.pointer (some (ad.add 0))) w = _
  rw [h0]
section
variable {Q : Exit → Act → World → Prop}
theorem next36 {i : Nat} (hi : i < 11) {rest : List Nat} {a : Act} {w : World} {u : Value} {d : Option Nat} (hd : (op36 i).dst = d) (hrun : (execOp a.eval (op36 i)).run Try.prog w = .ok (.value u) w) (h : wpOps Try.prog ops36.toArray Q rest (a.put d u) w) : wpOps Try.prog ops36.toArray Q (i :: rest) a w := by
  refine wpOps_value (at36 i hi) (gd36 i hi) hrun ?_
  rw [hd]; exact h
end
theorem dd36 (i : Nat) (h : i < 11) : (op36 i).dst = ([some 4, some 5, some 6, some 7, some 8, some 9, some 10, some 11, some 12, some 13, none] : List (Option Nat))[i]?.getD none := by
  have h1 := at36 i h
  have h2 := congrArg (fun l => l[i]?) d36
  simp only [List.getElem?_map, h1, Option.map_some] at h2
  rw [← h2]; rfl
theorem sound0 : SoundO Try.prog (fun _ _ => none) := ⟨mutOK, fun f xs y h => by cases h⟩
theorem isAgg34 : isAggB Try.prog 34 = false := by kernel_rfl
theorem cells3 : Try.prog.cellsOf 3 = 1 := by kernel_rfl
/-- The frame ahead of the append. -/
abbrev envA (g : Nat) (id : Int) (s : List Int) : Env := [(1, .i .i64 id), (4, .pt g), (8, .ow 3 (ints s))]
theorem envA_get {g : Nat} {id : Int} {s : List Int} {n : Nat} {x : V} (h : get n (envA g id s) = some x) : (n = 1 ∧ x = .i .i64 id) ∨ (n = 4 ∧ x = .pt g) ∨ (n = 8 ∧ x = .ow 3 (ints s)) := by
  simp only [VM.get] at h
  by_cases e1 : n = 1
  · rw [if_pos e1] at h; exact .inl ⟨e1, (Option.some.inj h).symm⟩
  · rw [if_neg e1] at h
    by_cases e2 : n = 4
    · rw [if_pos e2] at h; exact .inr (.inl ⟨e2, (Option.some.inj h).symm⟩)
    · rw [if_neg e2] at h
      by_cases e3 : n = 8
      · rw [if_pos e3] at h; exact .inr (.inr ⟨e3, (Option.some.inj h).symm⟩)
      · rw [if_neg e3] at h; cases h
theorem flatc_ints : ∀ s : List Int, flatc (ints s) = ints s
  | [] => rfl
  | x :: s => by
    show [V.i .i64 x] ++ flatc (ints s) = _
    rw [flatc_ints s]; rfl
theorem ints_reps {S : Nat → Prop} {w : World} : ∀ s : List Int, Reps S w (s.map fun k => Value.int .i64 k) (ints s)
  | [] => Reps.nil
  | x :: s => Reps.cons (.i .i64 x) (ints_reps s)
theorem reps_ints {S : Nat → Prop} {w : World} : ∀ {s : List Int} {vs : List Value}, Reps S w vs (ints s) → vs = s.map fun k => Value.int .i64 k
  | [], vs, h => List.eq_nil_of_length_eq_zero (by simpa using h.1)
  | x :: s, [], h => absurd h.1 (by simp)
  | x :: s, v :: vs, h => by
    have h1 := h.head
    have h2 := reps_ints (s := s) h.tail
    cases h1
    rw [h2]; rfl
theorem own_ints {S : Nat → Prop} {w : World} {v : Value} {s : List Int} (how : w.ownsRow 0 3 1 v s.length (s.map fun k => Value.int .i64 k)) : OwnS Try.prog S w 0 3 (ints s) v := by
  refine ⟨s.map fun k => Value.int .i64 k, ?_, fun x hx => ?_, fun x hx => ?_, ?_⟩
  · rw [cells3]; simpa using how
  · obtain ⟨k, _, rfl⟩ := List.mem_map.1 hx; rw [cells3]; rfl
  · rw [flatc_ints] at hx; obtain ⟨k, _, rfl⟩ := List.mem_map.1 hx; rfl
  · rw [flatc_ints]; exact ints_reps s
/-- The frame ahead of the append. -/
theorem fi36 {g : Nat} {id : Int} {s : List Int} {w : World} {v : Value} {S2 : Nat → Prop} {a : Act} (hsz : a.tmps.size = 14) (hd : a.defers = []) (h1 : tm a 1 = some (.int .i64 id)) (h4 : tm a 4 = some (.pointer (some ⟨g, 0, none⟩))) (h8 : tm a 8 = some v)
    (how : w.ownsRow 0 3 1 v s.length (s.map fun k => Value.int .i64 k)) (hS : ∀ b, S2 b → b < w.heap.size) (hn : ∀ b, blkOf v = some b → ¬ S2 b) : FI Try.prog 14 (List.range 14) S2 0 w (envA g id s) a w := by
  refine ⟨?_, hsz, hd, Below.refl _ _, fun _ _ => rfl, Nat.zero_le _, fun n x hx => ?_, S2, fun _ h => h, fun b h => ⟨.inl h, hS b h⟩, ⟨fun n x hx => ?_, fun n x m hx hm => ?_, fun n c n' c' b ho ho' => ?_, fun p hp => by cases hp⟩⟩
  · simp [Srt, envA]
  · rcases envA_get hx with ⟨rfl, _⟩ | ⟨rfl, _⟩ | ⟨rfl, _⟩ <;> simp
  · rcases envA_get hx with ⟨rfl, rfl⟩ | ⟨rfl, rfl⟩ | ⟨rfl, rfl⟩
    · exact ⟨_, h1, .i .i64 id⟩
    · exact ⟨_, h4, .pt g⟩
    · exact ⟨_, h8, own_ints how, hn⟩
  · rcases envA_get hx with ⟨rfl, rfl⟩ | ⟨rfl, rfl⟩ | ⟨rfl, rfl⟩ <;> cases hm
  · have key : ∀ n c, Owns (envA g id s) (fun n => a.tmps[n]?) n c b → n = 8 ∧ c = none := by
      intro n c h
      cases c with
      | none =>
        obtain ⟨x, u, hx, hxo, _⟩ := h
        rcases envA_get hx with ⟨rfl, rfl⟩ | ⟨rfl, rfl⟩ | ⟨rfl, rfl⟩
        · cases hxo
        · cases hxo
        · exact ⟨rfl, rfl⟩
      | some j =>
        obtain ⟨ys, _, _, _, hx, _⟩ := h
        rcases envA_get hx with ⟨_, h⟩ | ⟨_, h⟩ | ⟨_, h⟩ <;> cases h
    exact ⟨(key n c ho).1.trans (key n' c' ho').1.symm, (key n c ho).2.trans (key n' c' ho').2.symm⟩
theorem steps36 {g : Nat} {id : Int} {s : List Int} (hs : (s.length + 1) * 8 ≤ 140737488355328) : ∃ env1, stepsS (fun _ _ => none) [.mv 9 (.t 1), .bsl 10 3 1 [.t 9], .app 11 3 1 8 (.t 8) (.t 10)] (envA g id s) = some env1 ∧ get 4 env1 = some (.pt g) ∧ get 11 env1 = some (.ow 3 (ints (s ++ [id]))) := by
  have hsn := ints_snoc s id
  have hA : (ints s).length = s.length := by simp
  rw [← hsn]
  unfold envA
  generalize ints s = A at hA ⊢
  refine ⟨_, by simp [stepsS, hA, hs]; rfl, rfl, rfl⟩
theorem run_mv {ρ : Operand → Value} {w : World} {o : Oper} {x : Operand} (ho : o.op = .move x) : (execOp ρ o).run Try.prog w = .ok (.value (ρ x)) w := by simp only [execOp, ho, Sem.run_pure]
theorem run_nil {ρ : Operand → Value} {w : World} {o : Oper} {x : Operand} {ad : Addr} (ho : o.op = .nilCheck x) (hx : ρ x = .pointer (some ad)) : (execOp ρ o).run Try.prog w = .ok (.value (.pointer (some ad))) w := by simp only [execOp, ho, hx, Sem.run_pure]
theorem run_fa {ρ : Operand → Value} {w : World} {o : Oper} {x : Operand} {ad : Addr} (ho : o.op = .fieldAddr 53 x 0) (hx : ρ x = .pointer (some ad)) : (execOp ρ o).run Try.prog w = .ok (.value (.pointer (some ad))) w := by
  simp only [execOp, ho, hx, Sem.run_bind, fa53, Result.andThen_ok, Sem.run_pure]
theorem run_ld {ρ : Operand → Value} {w : World} {o : Oper} {x : Operand} {ad : Addr} {v : Value} (ho : o.op = .load 34 x) (hx : ρ x = .pointer (some ad)) (hc : w.cell? ad = some v) : (execOp ρ o).run Try.prog w = .ok (.value v) w := by
  simp only [execOp, ho, hx, Sem.run_bind, load1_run Try.underlying34 isAgg34 hc, Result.andThen_ok, Sem.run_pure]
theorem ev {a : Act} {n : Nat} {u : Value} (h : tm a n = some u) : a.eval (.tmp n) = u := eval_tmp h
theorem tmp_put {a : Act} {d : Nat} {u v : Value} {n : Nat} (hd : d < a.tmps.size) (h : (if n = d then some u else tm a n) = some v) : tm (a.put (some d) u) n = some v := by rw [tm_put hd]; exact h
theorem size_put (a : Act) (d : Nat) (u : Value) : (a.put (some d) u).tmps.size = a.tmps.size := by simp [Act.put]
/-- The frame behind the loads. -/
theorem pre36 {Q : Exit → Act → World → Prop} {g : Nat} {id : Int} {v : Value} {w : World} (hcell : w.cell? ⟨g, 0, none⟩ = some v) {rest : List Nat} {a : Act} (hsz : a.tmps.size = 14) (hd : a.defers = []) (h0 : tm a 0 = some (.pointer (some ⟨g, 0, none⟩))) (h1 : tm a 1 = some (.int .i64 id))
    (h : ∀ a' : Act, a'.tmps.size = 14 → a'.defers = [] → tm a' 1 = some (.int .i64 id) → tm a' 4 = some (.pointer (some ⟨g, 0, none⟩)) → tm a' 8 = some v → wpOps Try.prog ops36.toArray Q rest a' w) : wpOps Try.prog ops36.toArray Q (0 :: 1 :: 2 :: 3 :: 4 :: rest) a w := by
  refine next36 (i := 0) (by omega) (d := some 4) (dd36 0 (by omega)) (run_mv p36_0) ?_
  rw [ev h0]
  have s1 : (a.put (some 4) (.pointer (some ⟨g, 0, none⟩))).tmps.size = 14 := (size_put _ _ _).trans hsz
  refine next36 (i := 1) (by omega) (d := some 5) (dd36 1 (by omega)) (run_mv p36_1) ?_
  rw [ev (tmp_put (by omega) (by simpa using h0))]
  have s2 := (size_put (a.put (some 4) (.pointer (some ⟨g, 0, none⟩))) 5 (.pointer (some ⟨g, 0, none⟩))).trans s1
  refine next36 (i := 2) (by omega) (d := some 6) (dd36 2 (by omega)) (run_nil (ad := ⟨g, 0, none⟩) p36_2 (ev (tmp_put (by omega) (by simp)))) ?_
  have s3 := (size_put ((a.put (some 4) (.pointer (some ⟨g, 0, none⟩))).put (some 5) (.pointer (some ⟨g, 0, none⟩))) 6 (.pointer (some ⟨g, 0, none⟩))).trans s2
  refine next36 (i := 3) (by omega) (d := some 7) (dd36 3 (by omega)) (run_fa (ad := ⟨g, 0, none⟩) p36_3 (ev (tmp_put (by omega) (by simp)))) ?_
  have s4 := (size_put (((a.put (some 4) (.pointer (some ⟨g, 0, none⟩))).put (some 5) (.pointer (some ⟨g, 0, none⟩))).put (some 6) (.pointer (some ⟨g, 0, none⟩))) 7 (.pointer (some ⟨g, 0, none⟩))).trans s3
  refine next36 (i := 4) (by omega) (d := some 8) (dd36 4 (by omega)) (run_ld (ad := ⟨g, 0, none⟩) p36_4 (ev (tmp_put (by omega) (by simp))) hcell) ?_
  have s5 := (size_put ((((a.put (some 4) (.pointer (some ⟨g, 0, none⟩))).put (some 5) (.pointer (some ⟨g, 0, none⟩))).put (some 6) (.pointer (some ⟨g, 0, none⟩))).put (some 7) (.pointer (some ⟨g, 0, none⟩))) 8 v).trans s4
  refine h _ s5 hd ?_ ?_ ?_
  · rw [tm_put (by omega), if_neg (by decide), tm_put (by omega), if_neg (by decide), tm_put (by omega), if_neg (by decide), tm_put (by omega), if_neg (by decide), tm_put (by omega), if_neg (by decide)]; exact h1
  · rw [tm_put (by omega), if_neg (by decide), tm_put (by omega), if_neg (by decide), tm_put (by omega), if_neg (by decide), tm_put (by omega), if_neg (by decide), tm_put (by omega), if_pos rfl]
  · rw [tm_put (by omega), if_pos rfl]
/-- A number is added. -/
theorem add_PFE (g : Nat) (id : Int) (s : List Int) (hs : s.length < 1000000) : PFE Try.prog (colR g) 36 [.pt g, .i .i64 id] s (.t []) (s ++ [id]) := by
  intro S F w vs hS hSF hG hr hR
  obtain ⟨v, ty, hgh, how, hvg, hFi⟩ := hR
  match vs, hr with
  | [], hr => exact absurd hr.1 (by simp)
  | [_], hr => exact absurd hr.1 (by simp)
  | _ :: _ :: _ :: _, hr => exact absurd hr.1 (by simp)
  | [u0, u1], hr =>
  have h0 := hr.head
  have h1 := hr.tail.head
  cases h0
  cases h1
  refine calls_of_wp Try.func36 body36 ?_
  refine wp_region ?_
  have hrange : List.range ops36.toArray.size = [0, 1, 2, 3, 4, 5, 6, 7, 8, 9, 10] := by rw [list36]; rfl
  rw [hrange]
  have hcell : w.cell? ⟨g, 0, none⟩ = some v := by simp [World.cell?, hgh]
  have hnt : Try.f36.ntmps = 14 := by kernel_rfl
  rw [hnt]
  refine pre36 hcell rfl rfl rfl rfl fun a hsz hd h1 h4 h8 => ?_
  have hglt : g < w.heap.size := (Array.getElem?_eq_some_iff.1 hgh).1
  have hFI := fi36 (S2 := fun b => b < w.heap.size ∧ blkOf v ≠ some b) hsz hd h1 h4 h8 how (fun b h => h.1) (fun b h h' => h'.2 h)
  obtain ⟨env1, hst, hg4, hg11⟩ := steps36 (g := g) (id := id) (s := s) (by omega)
  have hdrop : ops36.drop 5 = [op36 5, op36 6, op36 7] ++ [op36 8, op36 9, op36 10] := by rw [list36]; rfl
  refine stepsS_pre sound0 (opsL := ops36) (rest := [8, 9, 10]) [op36 5, op36 6, op36 7] _ 5 (envA g id s) a w [op36 8, op36 9, op36 10] st36 hst hdrop (fun op hop d hd' => ?_) hFI fun a1 w1 hF1 => ?_
  · simp only [List.mem_cons, List.not_mem_nil, or_false] at hop
    have h5 := dd36 5 (by omega)
    have h6 := dd36 6 (by omega)
    have h7 := dd36 7 (by omega)
    simp at h5 h6 h7
    rcases hop with rfl | rfl | rfl
    · rw [h5] at hd'; cases hd'; simp
    · rw [h6] at hd'; cases hd'; simp
    · rw [h7] at hd'; cases hd'; simp
  · obtain ⟨Im, hI1, hI2, hE⟩ := hF1.ents
    obtain ⟨p4, hp4, he4⟩ := hE.ent 4 _ hg4
    obtain ⟨v', hv', ⟨vs', how', hk', hc', hr'⟩, hn'⟩ := hE.ent 11 _ hg11
    have he4 : Rep Im w1 p4 (.pt g) := he4
    cases he4
    rw [flatc_ints] at hr'
    have hvs := reps_ints hr'
    subst hvs
    have hkept : ∀ b, b < w.heap.size → blkOf v ≠ some b → w1.heap[b]? = w.heap[b]? := fun b h1 h2 => hF1.kept b ⟨h1, h2⟩
    have hh1 : w1.heap[g]? = some (.cells #[v] ty (0, 0)) := (hkept g hglt hvg).trans hgh
    have s8 := hF1.size
    refine next36 (i := 8) (by omega) (d := some 12) (dd36 8 (by omega)) (run_nil (ad := ⟨g, 0, none⟩) p36_8 (ev hp4)) ?_
    refine next36 (i := 9) (by omega) (d := some 13) (dd36 9 (by omega)) (run_fa (ad := ⟨g, 0, none⟩) p36_9 (ev (tmp_put (by omega) (by simp)))) ?_
    have s9 := (size_put a1 12 (.pointer (some ⟨g, 0, none⟩))).trans s8
    have e13 : ((a1.put (some 12) (.pointer (some ⟨g, 0, none⟩))).put (some 13) (.pointer (some ⟨g, 0, none⟩))).eval (.tmp 13) = .pointer (some ⟨g, 0, none⟩) := ev (tmp_put (by omega) (by simp))
    have e11 : ((a1.put (some 12) (.pointer (some ⟨g, 0, none⟩))).put (some 13) (.pointer (some ⟨g, 0, none⟩))).eval (.tmp 11) = v' := ev (tmp_put (by omega) (by rw [if_neg (by decide), tm_put (by omega), if_neg (by decide)]; exact hv'))
    have hd1 : ((a1.put (some 12) (.pointer (some ⟨g, 0, none⟩))).put (some 13) (.pointer (some ⟨g, 0, none⟩))).defers = [] := hF1.defers
    generalize (a1.put (some 12) (.pointer (some ⟨g, 0, none⟩))).put (some 13) (.pointer (some ⟨g, 0, none⟩)) = a2 at e13 e11 hd1 ⊢
    have hvc : v'.cells = #[v'] ∧ v'.oneCell' = true := by
      rcases how'.2 with ⟨rfl, _⟩ | ⟨b, cap, cur, rfl, _⟩ <;> exact ⟨rfl, rfl⟩
    have hstore := storeAt_run (P := Try.prog) (t := 34) (u := v') (ad := ⟨g, 0, none⟩) (g := g) (j := 0) rfl hh1 (by rw [hvc.1, cells34]; rfl) (by rw [cells34]; decide) (by rw [hvc.1]; simp) (fun x hx => by rw [hvc.1] at hx; simp at hx; subst hx; exact hvc.2)
    rw [hvc.1] at hstore
    simp at hstore
    have hrun : (execOp a2.eval (op36 10)).run Try.prog w1 = .ok .skip (w1.setRow g #[v']) := by
      simp only [execOp, p36_10, e13, e11, Sem.run_bind, hstore, Result.andThen_ok, Sem.run_pure]
    have hw : Region.wanted (op36 10) (yielded ops36.toArray a2.tmps) = true := by simp [Region.wanted, gd36 10 (by omega)]
    simp only [wpOps, List.getElem?_toArray, at36 10 (by omega)]
    rw [if_pos hw]
    left
    refine Outc.wp ?_
    rw [hrun]
    have hdn := dd36 10 (by omega)
    simp at hdn
    rw [hdn]
    refine ⟨hd1, .tuple #[], ?_, ?_⟩
    · have : Try.f36.results = #[] := by kernel_rfl
      simp [results]
    · have hh2 := setRow_heap w1 g _ #[v'] ty (0, 0) hh1
      have hoth : ∀ b, b ≠ g → (w1.setRow g #[v']).heap[b]? = w1.heap[b]? := fun b hb => setRow_other w1 g b _ hb
      have hv'g : blkOf v' ≠ some g := fun e => hn' g e (hI1 g ⟨hglt, hvg⟩)
      refine ⟨_, rfl, ⟨hF1.below.os, hF1.below.tape, hF1.below.output, by rw [setRow_size]; exact hF1.below.size, fun b hb hnf => ?_⟩, S, fun b => b = g ∨ blkOf v' = some b, fun _ h => h, fun b hb => ⟨.inl hb, ?_⟩, ⟨v', ty, hh2, ⟨?_, ?_⟩, hv'g, fun b => Iff.rfl⟩, fun b hb => ?_, fun b hb hSb => ?_, .t #[] [] rfl fun j u x h => by simp at h⟩
      · have hne : b ≠ g := fun e => hnf ((hFi b).2 (.inl e))
        have hne2 : blkOf v ≠ some b := fun e => hnf ((hFi b).2 (.inr e))
        rw [hoth b hne, hkept b hb hne2]
      · rw [setRow_size]; exact Nat.lt_of_lt_of_le (hS b hb) hF1.below.size
      · simp
      · rcases how'.2 with h3 | ⟨b, cap, cur, rfl, q1, q2, q3⟩
        · exact .inl ⟨h3.1, by simpa using h3.2⟩
        · refine .inr ⟨b, cap, cur, by simp, q1, (hoth b fun e => hv'g (by rw [e]; rfl)).trans q2, ?_⟩
          rw [cells3] at q3
          simpa using q3
      · rcases hb with rfl | hb
        · exact .inl ((hFi _).2 (.inl rfl))
        · by_cases hlt : b < w.heap.size
          · left
            refine (hFi b).2 (.inr ?_)
            exact Classical.byContradiction fun hne => hn' b hb (hI1 b ⟨hlt, hne⟩)
          · exact .inr (by omega)
      · rcases hb with rfl | hb
        · exact hSF _ ((hFi _).2 (.inl rfl)) hSb
        · have hlt := hS b hSb
          have hne : blkOf v ≠ some b := fun e => hSF b ((hFi b).2 (.inr e)) hSb
          exact hn' b hb (hI1 b ⟨hlt, hne⟩)
end Go.Proofs.Ytdaclkakglmfeaa
