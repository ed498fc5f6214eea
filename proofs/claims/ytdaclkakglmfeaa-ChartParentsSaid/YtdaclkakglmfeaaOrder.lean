/-
  The program's order of a chart: the collector's slice behind the walk.
-/
import Derived.Test.YtdaclkakglmfeaaWalk2
namespace Go.Proofs.Ytdaclkakglmfeaa
open Go.VM Go.RowKit
def regs : Code → List (List Oper)
  | .region _ ops _ => [ops.toList]
  | .seq a b => regs a ++ regs b
  | _ => []
noncomputable def regs21 : List (List Oper) := match Try.f21.body with
  | some c => regs c
  | none => []
noncomputable def op21 (r i : Nat) : Oper := (regs21.getD r []).getD i default
theorem body21 : Try.f21.body = some (.seq (.region 0 [op21 0 0].toArray false) (.seq (.region 1 [op21 1 0, op21 1 1, op21 1 2].toArray false) (.seq (.region 2 [op21 2 0, op21 2 1, op21 2 2, op21 2 3].toArray false) (.seq (.region 3 [op21 3 0, op21 3 1, op21 3 2, op21 3 3, op21 3 4].toArray false) .ret)))) := by kernel_rfl
theorem d21 : regs21.map (fun r => r.map (·.dst)) = [[some 2], [some 4, some 5, some 3], [some 6, some 7, some 8, some 9], [some 10, some 11, some 12, some 13, some 2]] := by kernel_rfl
theorem g21 : regs21.map (fun r => r.map (·.guard)) = [[none], [none, none, none], [none, none, none, none], [none, none, none, none, none]] := by kernel_rfl
theorem p21_00 : (op21 0 0).op = .assign (.const (.slice none 0 0)) := by kernel_rfl
theorem p21_10 : (op21 1 0).op = .build 53 #[] := by kernel_rfl
theorem p21_11 : (op21 1 1).op = .box 53 (.tmp 4) := by kernel_rfl
theorem p21_12 : (op21 1 2).op = .assign (.tmp 5) := by kernel_rfl
theorem p21_20 : (op21 2 0).op = .move (.tmp 0) := by kernel_rfl
theorem p21_21 : (op21 2 1).op = .move (.tmp 3) := by kernel_rfl
theorem p21_22 : (op21 2 2).op = .makeFunc (.func 36) #[.tmp 7] #[] := by kernel_rfl
theorem p21_23 : (match (op21 2 3).op with | .call { callee := .value (.func f), args, .. } => some (f, args) | _ => none) = some (35, #[.tmp 6, .const (.int .i64 0), .tmp 8]) := by kernel_rfl
theorem p21_30 : (op21 3 0).op = .move (.tmp 3) := by kernel_rfl
theorem p21_31 : (op21 3 1).op = .nilCheck (.tmp 10) := by kernel_rfl
theorem p21_32 : (op21 3 2).op = .fieldAddr 53 (.tmp 11) 0 := by kernel_rfl
theorem p21_33 : (op21 3 3).op = .load 34 (.tmp 12) := by kernel_rfl
theorem p21_34 : (op21 3 4).op = .assign (.tmp 13) := by kernel_rfl
theorem res21 : Try.f21.results = #[.tmp 2] := by kernel_rfl
theorem nt21 : Try.f21.ntmps = 14 := by kernel_rfl
theorem okf21 : okFn Try.prog 21 = true := by kernel_rfl
theorem dst21 {r i : Nat} {l : List Oper} {o : Oper} {d : Option Nat} (hr : regs21[r]? = some l) (hi : l[i]? = some o) (hd : ((([[some 2], [some 4, some 5, some 3], [some 6, some 7, some 8, some 9], [some 10, some 11, some 12, some 13, some 2]] : List (List (Option Nat)))[r]?).bind fun x => x[i]?) = some d) : o.dst = d := by
  rw [← d21] at hd
  simp only [List.getElem?_map, hr, Option.map_some, Option.bind_some, hi, Option.some.injEq] at hd
  exact hd
theorem grd21 {r i : Nat} {l : List Oper} {o : Oper} {d : Option (Nat × Bool)} (hr : regs21[r]? = some l) (hi : l[i]? = some o) (hd : ((([[none], [none, none, none], [none, none, none, none], [none, none, none, none, none]] : List (List (Option (Nat × Bool))))[r]?).bind fun x => x[i]?) = some d) : o.guard = d := by
  rw [← g21] at hd
  simp only [List.getElem?_map, hr, Option.map_some, Option.bind_some, hi, Option.some.injEq] at hd
  exact hd
theorem regs21_0 : regs21[0]? = some [op21 0 0] := by kernel_rfl
theorem regs21_1 : regs21[1]? = some [op21 1 0, op21 1 1, op21 1 2] := by kernel_rfl
theorem regs21_2 : regs21[2]? = some [op21 2 0, op21 2 1, op21 2 2, op21 2 3] := by kernel_rfl
theorem regs21_3 : regs21[3]? = some [op21 3 0, op21 3 1, op21 3 2, op21 3 3, op21 3 4] := by kernel_rfl
theorem run_as {ρ : Operand → Value} {w : World} {o : Oper} {x : Operand} (ho : o.op = .assign x) : (execOp ρ o).run Try.prog w = .ok (.value (ρ x)) w := by simp only [execOp, ho, Sem.run_pure]
theorem run_bld {ρ : Operand → Value} {w : World} {o : Oper} (ho : o.op = .build 53 #[]) : (execOp ρ o).run Try.prog w = .ok (.value (.agg #[.slice none 0 0])) w := by
  have h := run_build (P := Try.prog) w 53 #[] #[.slice none 0 0] (by kernel_rfl)
  simp [execOp, ho, h]
theorem run_box {ρ : Operand → Value} {w : World} {o : Oper} {t : TypeId} {x : Operand} (ho : o.op = .box t x) : (execOp ρ o).run Try.prog w = .ok (.value (.pointer (some ⟨w.heap.size, 0, none⟩))) (w.alloc (.cells (ρ x).cells t)) := by
  simp [execOp, ho, Instr.box, newVar, run_askRow]
theorem run_mkf {ρ : Operand → Value} {w : World} {o : Oper} (ho : o.op = .makeFunc (.func 36) #[.tmp 7] #[]) : (execOp ρ o).run Try.prog w = .ok (.value (.func (.func 36) #[ρ (.tmp 7)] #[])) w := by
  simp [execOp, ho, Instr.makeFunc]
theorem nextR {ops : List Oper} {Q : Exit → Act → World → Prop} {i : Nat} {rest : List Nat} {o : Oper} {a : Act} {w w1 : World} {u : Value} {d : Option Nat} (hat : ops[i]? = some o) (hg : o.guard = none) (hd : o.dst = d) (hrun : (execOp a.eval o).run Try.prog w = .ok (.value u) w1) (h : wpOps Try.prog ops.toArray Q rest (a.put d u) w1) : wpOps Try.prog ops.toArray Q (i :: rest) a w := by
  refine wpOps_value hat hg hrun ?_
  rw [hd]; exact h
theorem call21 : ∃ tys, (op21 2 3).op = .call { callee := .value (.func 35), args := #[.tmp 6, .const (.int .i64 0), .tmp 8], argTypes := tys } := by
  have h := p21_23
  split at h
  · rename_i f args tys hq
    simp only [Option.some.injEq, Prod.mk.injEq] at h
    obtain ⟨rfl, rfl⟩ := h
    exact ⟨tys, hq⟩
  · cases h
section
variable {Q : Exit → Act → World → Prop} {a : Act} {w : World} {u0 : Value} {g : Nat}
theorem run0 (hs : a.tmps.size = 14) (hd : a.defers = []) (h0 : tm a 0 = some u0) (h : ∀ a', a'.tmps.size = 14 → a'.defers = [] → tm a' 0 = some u0 → Q .normal a' w) : wpOps Try.prog [op21 0 0].toArray Q [0] a w := by
  refine nextR (o := op21 0 0) rfl (grd21 (r := 0) (i := 0) regs21_0 rfl rfl) (dst21 (r := 0) (i := 0) regs21_0 rfl rfl) (run_as p21_00) ?_
  exact h _ ((size_put _ _ _).trans hs) hd (by rw [tm_put (by omega), if_neg (by decide)]; exact h0)
theorem run1 (hs : a.tmps.size = 14) (hd : a.defers = []) (h0 : tm a 0 = some u0) (h : ∀ a', a'.tmps.size = 14 → a'.defers = [] → tm a' 0 = some u0 → tm a' 3 = some (.pointer (some ⟨w.heap.size, 0, none⟩)) → Q .normal a' (w.alloc (.cells #[.slice none 0 0] 53))) : wpOps Try.prog [op21 1 0, op21 1 1, op21 1 2].toArray Q [0, 1, 2] a w := by
  refine nextR (o := op21 1 0) rfl (grd21 (r := 1) (i := 0) regs21_1 rfl rfl) (dst21 (r := 1) (i := 0) regs21_1 rfl rfl) (run_bld p21_10) ?_
  have s1 := (size_put a 4 (.agg #[.slice none 0 0])).trans hs
  refine nextR (o := op21 1 1) rfl (grd21 (r := 1) (i := 1) regs21_1 rfl rfl) (dst21 (r := 1) (i := 1) regs21_1 rfl rfl) (run_box p21_11) ?_
  rw [ev (a := a.put (some 4) (.agg #[.slice none 0 0])) (n := 4) (by rw [tm_put (by omega), if_pos rfl])]
  have s2 := (size_put (a.put (some 4) (.agg #[.slice none 0 0])) 5 (.pointer (some ⟨w.heap.size, 0, none⟩))).trans s1
  refine nextR (o := op21 1 2) rfl (grd21 (r := 1) (i := 2) regs21_1 rfl rfl) (dst21 (r := 1) (i := 2) regs21_1 rfl rfl) (run_as p21_12) ?_
  rw [ev (a := (a.put (some 4) (.agg #[.slice none 0 0])).put (some 5) (.pointer (some ⟨w.heap.size, 0, none⟩))) (n := 5) (by rw [tm_put (by omega), if_pos rfl])]
  exact h _ ((size_put _ _ _).trans s2) hd (by rw [tm_put (by omega), if_neg (by decide), tm_put (by omega), if_neg (by decide), tm_put (by omega), if_neg (by decide)]; exact h0) (by rw [tm_put (by omega), if_pos rfl])
theorem run2 (hs : a.tmps.size = 14) (hd : a.defers = []) (h0 : tm a 0 = some u0) (h3 : tm a 3 = some (.pointer (some ⟨g, 0, none⟩)))
    (hc : Calls Try.prog 35 #[u0, .int .i64 0, .func (.func 36) #[.pointer (some ⟨g, 0, none⟩)] #[]] w fun e w' => ∃ v, e = .returned v ∧ ∀ a', a'.tmps.size = 14 → a'.defers = [] → tm a' 3 = some (.pointer (some ⟨g, 0, none⟩)) → Q .normal a' w') : wpOps Try.prog [op21 2 0, op21 2 1, op21 2 2, op21 2 3].toArray Q [0, 1, 2, 3] a w := by
  refine nextR (o := op21 2 0) rfl (grd21 (r := 2) (i := 0) regs21_2 rfl rfl) (dst21 (r := 2) (i := 0) regs21_2 rfl rfl) (run_mv p21_20) ?_
  rw [ev h0]
  have s1 := (size_put a 6 u0).trans hs
  have h31 : tm (a.put (some 6) u0) 3 = some (.pointer (some ⟨g, 0, none⟩)) := by rw [tm_put (by omega), if_neg (by decide)]; exact h3
  have h61 : tm (a.put (some 6) u0) 6 = some u0 := by rw [tm_put (by omega), if_pos rfl]
  have d1 : (a.put (some 6) u0).defers = [] := hd
  generalize a.put (some 6) u0 = a1 at s1 h31 h61 d1 ⊢
  refine nextR (o := op21 2 1) rfl (grd21 (r := 2) (i := 1) regs21_2 rfl rfl) (dst21 (r := 2) (i := 1) regs21_2 rfl rfl) (run_mv p21_21) ?_
  rw [ev h31]
  have s2 := (size_put a1 7 (.pointer (some ⟨g, 0, none⟩))).trans s1
  have h32 : tm (a1.put (some 7) (.pointer (some ⟨g, 0, none⟩))) 3 = some (.pointer (some ⟨g, 0, none⟩)) := by rw [tm_put (by omega), if_neg (by decide)]; exact h31
  have h62 : tm (a1.put (some 7) (.pointer (some ⟨g, 0, none⟩))) 6 = some u0 := by rw [tm_put (by omega), if_neg (by decide)]; exact h61
  have h72 : tm (a1.put (some 7) (.pointer (some ⟨g, 0, none⟩))) 7 = some (.pointer (some ⟨g, 0, none⟩)) := by rw [tm_put (by omega), if_pos rfl]
  have d2 : (a1.put (some 7) (.pointer (some ⟨g, 0, none⟩))).defers = [] := d1
  generalize a1.put (some 7) (.pointer (some ⟨g, 0, none⟩)) = a2 at s2 h32 h62 h72 d2 ⊢
  refine nextR (o := op21 2 2) rfl (grd21 (r := 2) (i := 2) regs21_2 rfl rfl) (dst21 (r := 2) (i := 2) regs21_2 rfl rfl) (run_mkf p21_22) ?_
  rw [ev h72]
  have s3 := (size_put a2 8 (.func (.func 36) #[.pointer (some ⟨g, 0, none⟩)] #[])).trans s2
  have h33 : tm (a2.put (some 8) (.func (.func 36) #[.pointer (some ⟨g, 0, none⟩)] #[])) 3 = some (.pointer (some ⟨g, 0, none⟩)) := by rw [tm_put (by omega), if_neg (by decide)]; exact h32
  have h63 : tm (a2.put (some 8) (.func (.func 36) #[.pointer (some ⟨g, 0, none⟩)] #[])) 6 = some u0 := by rw [tm_put (by omega), if_neg (by decide)]; exact h62
  have h83 : tm (a2.put (some 8) (.func (.func 36) #[.pointer (some ⟨g, 0, none⟩)] #[])) 8 = some (.func (.func 36) #[.pointer (some ⟨g, 0, none⟩)] #[]) := by rw [tm_put (by omega), if_pos rfl]
  have d3 : (a2.put (some 8) (.func (.func 36) #[.pointer (some ⟨g, 0, none⟩)] #[])).defers = [] := d2
  generalize a2.put (some 8) (.func (.func 36) #[.pointer (some ⟨g, 0, none⟩)] #[]) = a3 at s3 h33 h63 h83 d3 ⊢
  obtain ⟨tys, hop⟩ := call21
  have hent : (execOp a3.eval (op21 2 3)).run Try.prog w = .ok (.enter 35 #[u0, .int .i64 0, .func (.func 36) #[.pointer (some ⟨g, 0, none⟩)] #[]]) w := by
    rw [callm_enter (ρ := a3.eval) (fun _ => rfl) hop okf35 w]
    simp only [List.map_toArray, List.map_cons, List.map_nil, ev h63, ev h83]
    rfl
  have hgd : (op21 2 3).guard = none := grd21 (r := 2) (i := 3) regs21_2 rfl rfl
  have hdd : (op21 2 3).dst = some 9 := dst21 (r := 2) (i := 3) regs21_2 rfl rfl
  have hw : Region.wanted (op21 2 3) (yielded [op21 2 0, op21 2 1, op21 2 2, op21 2 3].toArray a3.tmps) = true := by simp [Region.wanted, hgd]
  simp only [wpOps, List.getElem?_toArray, List.getElem?_cons_succ, List.getElem?_cons_zero]
  rw [if_pos hw]
  left
  refine Outc.wp ?_
  rw [hent]
  refine hc.mono fun e w' ⟨v, he, hk⟩ => ⟨v, he, ?_⟩
  rw [hdd]
  exact hk _ ((size_put _ _ _).trans s3) d3 (by rw [tm_put (by omega), if_neg (by decide)]; exact h33)
theorem run3 {v : Value} (hs : a.tmps.size = 14) (hd : a.defers = []) (h3 : tm a 3 = some (.pointer (some ⟨g, 0, none⟩))) (hc : w.cell? ⟨g, 0, none⟩ = some v) (h : ∀ a', a'.tmps.size = 14 → a'.defers = [] → tm a' 2 = some v → Q .normal a' w) : wpOps Try.prog [op21 3 0, op21 3 1, op21 3 2, op21 3 3, op21 3 4].toArray Q [0, 1, 2, 3, 4] a w := by
  refine nextR (o := op21 3 0) rfl (grd21 (r := 3) (i := 0) regs21_3 rfl rfl) (dst21 (r := 3) (i := 0) regs21_3 rfl rfl) (run_mv p21_30) ?_
  rw [ev h3]
  have s1 := (size_put a 10 (.pointer (some ⟨g, 0, none⟩))).trans hs
  have q1 : tm (a.put (some 10) (.pointer (some ⟨g, 0, none⟩))) 10 = some (.pointer (some ⟨g, 0, none⟩)) := by rw [tm_put (by omega), if_pos rfl]
  have d1 : (a.put (some 10) (.pointer (some ⟨g, 0, none⟩))).defers = [] := hd
  generalize a.put (some 10) (.pointer (some ⟨g, 0, none⟩)) = a1 at s1 q1 d1 ⊢
  refine nextR (o := op21 3 1) rfl (grd21 (r := 3) (i := 1) regs21_3 rfl rfl) (dst21 (r := 3) (i := 1) regs21_3 rfl rfl) (run_nil (ad := ⟨g, 0, none⟩) p21_31 (ev q1)) ?_
  have s2 := (size_put a1 11 (.pointer (some ⟨g, 0, none⟩))).trans s1
  have q2 : tm (a1.put (some 11) (.pointer (some ⟨g, 0, none⟩))) 11 = some (.pointer (some ⟨g, 0, none⟩)) := by rw [tm_put (by omega), if_pos rfl]
  have d2 : (a1.put (some 11) (.pointer (some ⟨g, 0, none⟩))).defers = [] := d1
  generalize a1.put (some 11) (.pointer (some ⟨g, 0, none⟩)) = a2 at s2 q2 d2 ⊢
  refine nextR (o := op21 3 2) rfl (grd21 (r := 3) (i := 2) regs21_3 rfl rfl) (dst21 (r := 3) (i := 2) regs21_3 rfl rfl) (run_fa (ad := ⟨g, 0, none⟩) p21_32 (ev q2)) ?_
  have s3 := (size_put a2 12 (.pointer (some ⟨g, 0, none⟩))).trans s2
  have q3 : tm (a2.put (some 12) (.pointer (some ⟨g, 0, none⟩))) 12 = some (.pointer (some ⟨g, 0, none⟩)) := by rw [tm_put (by omega), if_pos rfl]
  have d3 : (a2.put (some 12) (.pointer (some ⟨g, 0, none⟩))).defers = [] := d2
  generalize a2.put (some 12) (.pointer (some ⟨g, 0, none⟩)) = a3 at s3 q3 d3 ⊢
  refine nextR (o := op21 3 3) rfl (grd21 (r := 3) (i := 3) regs21_3 rfl rfl) (dst21 (r := 3) (i := 3) regs21_3 rfl rfl) (run_ld (ad := ⟨g, 0, none⟩) p21_33 (ev q3) hc) ?_
  have s4 := (size_put a3 13 v).trans s3
  have q4 : tm (a3.put (some 13) v) 13 = some v := by rw [tm_put (by omega), if_pos rfl]
  have d4 : (a3.put (some 13) v).defers = [] := d3
  generalize a3.put (some 13) v = a4 at s4 q4 d4 ⊢
  refine nextR (o := op21 3 4) rfl (grd21 (r := 3) (i := 4) regs21_3 rfl rfl) (dst21 (r := 3) (i := 4) regs21_3 rfl rfl) (run_as p21_34) ?_
  rw [ev q4]
  exact h _ ((size_put _ _ _).trans s4) d4 (by rw [tm_put (by omega), if_pos rfl])
end
theorem order_PF (l : List Gl) (n : Nat) (zs : List Int) (hl : l.length ≤ 1000) (hz : belN n (pairs l) 0 = some zs) (hb : zs.length ≤ 1000000) : PF Try.prog 21 [.l (encG l)] (.ow 3 (ints zs)) := by
  intro S w vs hS hG hr
  match vs, hr with
  | [], hr => exact absurd hr.1 (by simp)
  | _ :: _ :: _, hr => exact absurd hr.1 (by simp)
  | [u0], hr =>
  refine calls_of_wp Try.func21 body21 ?_
  rw [nt21]
  have hw := walk_PFE l w.heap.size hl n 0 [] zs hz (by simpa using hb)
  generalize ha : ({ tmps := [u0].toArray ++ Array.replicate (14 - [u0].toArray.size) undef, defers := [] } : Act) = a
  have hs : a.tmps.size = 14 := by rw [← ha]; simp
  have hd : a.defers = [] := by rw [← ha]
  have h0 : tm a 0 = some u0 := by rw [← ha]; simp [tm]
  clear ha
  refine wp_seq (wp_region (run0 hs hd h0 fun a1 s1 d1 q1 => ?_))
  refine wp_seq (wp_region (run1 s1 d1 q1 fun a2 s2 d2 q2 q2' => ?_))
  have hsz1 : (w.alloc (.cells #[.slice none 0 0] 53)).heap.size = w.heap.size + 1 := by simp
  have hb1 : Below w.heap.size w (w.alloc (.cells #[.slice none 0 0] 53)) := (Below.refl _ _).alloc (Nat.le_refl _) _
  have hg1 : (w.alloc (.cells #[.slice none 0 0] 53)).heap[w.heap.size]? = some (.cells #[.slice none 0 0] 53 (0, 0)) := heap_alloc_new _ _
  generalize w.alloc (.cells #[.slice none 0 0] 53) = w1 at hsz1 hb1 hg1 ⊢
  have hR : (colR w.heap.size).R [] (fun b => b = w.heap.size) w1 := ⟨_, _, hg1, World.ownsRow_nil w1 0 3 1, by simp [blkOf], fun b => by simp [blkOf]⟩
  have hreps : Reps S w1 [u0, .int .i64 0, .func (.func 36) #[.pointer (some ⟨w.heap.size, 0, none⟩)] #[]] [.l (encG l), .i .i64 0, .f (.func 36) [.pt w.heap.size] []] :=
    Reps.cons (hr.head.bel hS hb1) (Reps.cons (.i _ _) (Reps.cons (.f _ _ _ _ _ rfl rfl (fun j u x hu hx => by
      match j with
      | 0 => simp at hu hx; subst hu; subst hx; exact .pt _
      | j + 1 => simp at hx) (fun j u x hu hx => by simp at hx)) Reps.nil))
  have hcall := hw S (fun b => b = w.heap.size) w1 _ (fun b h => by have := hS b h; omega) (fun b h h' => by have := hS b h'; omega) (fun p hp => by cases hp) hreps hR
  refine wp_seq (wp_region (run2 s2 d2 q2 q2' (hcall.mono fun e w2 ⟨v, he, hk, S', F', m1, m2, ⟨vv, ty, hgh, how, hvg, hFi⟩, m3, m4, hrep⟩ => ⟨v, he, fun a3 s3 d3 q3 => ?_⟩)))
  have hcell : w2.cell? ⟨w.heap.size, 0, none⟩ = some vv := by simp [World.cell?, hgh]
  refine wp_seq (wp_region (run3 s3 d3 q3 hcell fun a4 s4 d4 q4 => ?_))
  refine wp_ret ?_
  refine ⟨d4, vv, ?_, vv, rfl, ⟨hk.os.trans hb1.os, hk.tape.trans hb1.tape, hk.output.trans hb1.output, Nat.le_trans hb1.size hk.size, fun b hb' => ?_⟩, S, fun _ h => h, fun b h => ⟨.inl h, ?_⟩, ?_⟩
  · have h2 : a4.tmps[2]? = some vv := q4
    simp [results, h2]
  · rw [hk.block b (by omega) (by omega), hb1.block b hb']
  · have := hS b h; have := hk.size; omega
  · have hvb : ∀ b, blkOf vv = some b → w.heap.size ≤ b := fun b hb' => by
      rcases m3 b ((hFi b).2 (.inr hb')) with h | h
      · omega
      · omega
    obtain ⟨vs', o1, o2, o3, o4⟩ := own_ints (S := S) (by simpa using how)
    refine ⟨⟨vs', ⟨o1.1, ?_⟩, o2, o3, o4⟩, fun b hb' h => ?_⟩
    · rcases o1.2 with h | ⟨b, cap, cur, rfl, k1, k2⟩
      · exact .inl h
      · exact .inr ⟨b, cap, cur, rfl, hvb b rfl, k2⟩
    · have h1 := hvb b hb'; have := hS b h; omega
end Go.Proofs.Ytdaclkakglmfeaa
