/-
  The table's making: the stretches of its code.
-/
import Derived.Test.YtmhpmghhgppdnaaOpen
namespace Go.Proofs.Ytmhpmghhgppdnaa
open Go.VM Go.RowKit
def cL : Code → Code
  | .seq a _ => a
  | .block _ a => a
  | .loop a => a
  | c => c
def cR : Code → Code
  | .seq _ b => b
  | c => c
noncomputable def C28 : Code := Try.f28.body.getD .skip
noncomputable def kp : List Nat := keepOf Try.f28 C28
abbrev rt : List Nat := [2]
noncomputable def q0 : Code := cL C28
noncomputable def q2 : Code := cL (cL (cR (cR C28)))
noncomputable def lp : Code := cL (cL (cR (cL (cR (cR C28)))))
noncomputable def b0 : Code := cL lp
noncomputable def b1 : Code := cL (cR lp)
noncomputable def b2 : Code := cL (cL (cL (cR (cR lp))))
noncomputable def b5 : Code := cR (cR (cR lp))
noncomputable def q3 : Code := cR (cR (cR C28))
noncomputable def ops1 : List Oper := ((Try.f28.body).bind (regId 1)).getD []
theorem body28 : Try.f28.body = some (.seq q0 (.seq (.region 1 ops1.toArray false) (.seq (.seq q2 (.block 0 (.loop (.seq b0 (.seq b1 (.seq (.block 1 (.seq b2 (.seq (.region 5 (opsN 5).toArray true) (.region 6 (opsN 6).toArray true)))) b5)))))) q3))) := by kernel_rfl
theorem nt28 : Try.f28.ntmps = 53 := by kernel_rfl
theorem res28 : resTmps Try.f28 = rt := by kernel_rfl
theorem kp_in : kp.contains 3 = true := by kernel_rfl
theorem okf28 : okFn Try.prog 28 = true := by kernel_rfl
def k0 : C := (.s [.as 2 (.c .np)] [])
def k2 : C := (.s [.mv 12 (.t 0), .q 13 .len [(.t 12)], .mv 14 (.c (.i .i64 0))] [])
def e0 : C := (.q [(15, (.op (.bin .lss) [(.sl 14), (.sl 13)]))])
def e1 : C := (.cond (.sl 15) .skip (.exit 0 [3]))
def e2 : C := (.s [.mv 16 (.t 14), .ix 17 3 (.t 12) (.t 14), .q 18 (.ld 3 true) [(.t 17)], .alo 5 [(.s []), (.i .i64 0), (.i .i64 0)], .as 4 (.t 16), .sto 3 (.t 5) (.t 18)] [16, 17, 18])
def e5 : C := (.q [(14, (.op (.bin .add) [(.sl 14), (.k (.i .i64 1))]))])
def k3 : C := (.seq (.s [.mv 52 (.t 3), .as 2 (.t 52)] [52]) (.ret [2]))
theorem comp_q0 : comp Try.prog 53 kp rt q0 [] rt = some k0 := by kernel_rfl
theorem comp_q2 : comp Try.prog 53 kp rt q2 [] rt = some k2 := by kernel_rfl
theorem comp_b0 : comp Try.prog 53 kp rt b0 [] rt = some e0 := by kernel_rfl
theorem comp_b1 : comp Try.prog 53 kp rt b1 [(0, [3])] rt = some e1 := by kernel_rfl
theorem comp_b2 : comp Try.prog 53 kp rt b2 [] rt = some e2 := by kernel_rfl
theorem comp_b5 : comp Try.prog 53 kp rt b5 [] rt = some e5 := by kernel_rfl
theorem comp_q3 : comp Try.prog 53 kp rt q3 [] rt = some k3 := by kernel_rfl
theorem op1 : ops1.map (·.op) = [.move (.tmp 0), .makeMap 58 none, .makeMap 59 none, .makeMap 52 none, .build 61 #[(0, .tmp 6), (1, .tmp 7), (2, .tmp 8), (3, .tmp 9)], .box 61 (.tmp 10), .assign (.tmp 11)] := by kernel_rfl
theorem ds1 : ops1.map (·.dst) = [some 6, some 7, some 8, some 9, some 10, some 11, some 3] := by kernel_rfl
theorem gd1 : ops1.map (·.guard) = List.replicate 7 none := by kernel_rfl
theorem len1 : ops1.length = 7 := by kernel_rfl
theorem size_put (a : Act) (d : Nat) (u : Value) : (a.put (some d) u).tmps.size = a.tmps.size := by simp [Act.put]
section
variable {Q : Exit → Act → World → Prop} {a : Act} {w : World}
theorem next1 {i : Nat} (hi : i < 7) {rest : List Nat} {u : Value} {w1 : World} {d : Nat} (hd : ([6, 7, 8, 9, 10, 11, 3] : List Nat)[i]? = some d) (hrun : ∀ o, ops1[i]? = some o → (execOp a.eval o).run Try.prog w = .ok (.value u) w1) (h : wpOps Try.prog ops1.toArray Q rest (a.put (some d) u) w1) : wpOps Try.prog ops1.toArray Q (i :: rest) a w := by
  have hlt : i < ops1.length := by rw [len1]; exact hi
  have hat := List.getElem?_eq_getElem hlt
  have hdd : ops1[i].dst = some d := at_list ds1 hat (by
    have : ([some 6, some 7, some 8, some 9, some 10, some 11, some 3] : List (Option Nat)) = ([6, 7, 8, 9, 10, 11, 3] : List Nat).map some := rfl
    rw [this, List.getElem?_map, hd]; rfl)
  have hgg : ops1[i].guard = none := at_list gd1 hat (by rw [List.getElem?_replicate, if_pos hi])
  refine wpOps_value hat hgg (hrun _ hat) ?_
  rw [hdd]; exact h
theorem rn_mk {ρ : Operand → Value} {o : Oper} {t : TypeId} (ho : o.op = .makeMap t none) : (execOp ρ o).run Try.prog w = .ok (.value (.map (some w.heap.size))) (w.alloc (.map #[] 0)) := by
  simp [execOp, ho, Instr.makeMap, newObj, Sem.run]
theorem rn_box {ρ : Operand → Value} {o : Oper} {t : TypeId} {x : Operand} (ho : o.op = .box t x) : (execOp ρ o).run Try.prog w = .ok (.value (.pointer (some ⟨w.heap.size, 0, none⟩))) (w.alloc (.cells (ρ x).cells t)) := by
  simp [execOp, ho, Instr.box, newVar, run_askRow]
theorem rn_as {ρ : Operand → Value} {o : Oper} {x : Operand} (ho : o.op = .assign x) : (execOp ρ o).run Try.prog w = .ok (.value (ρ x)) w := by simp only [execOp, ho, Sem.run_pure]
/-- The world behind the table's laying. -/
def laidW (w : World) (v0 : Value) : World := (((w.alloc (.map #[] 0)).alloc (.map #[] 0)).alloc (.map #[] 0)).alloc (.cells #[v0, .map (some w.heap.size), .map (some (w.heap.size + 1)), .map (some (w.heap.size + 2))] 61)
theorem made_code {ad : Option Addr} {n c : Nat} (hs : a.tmps.size = 53) (hd : a.defers = []) (h0 : tm a 0 = some (.slice ad n c)) (hQ : ∀ a', a'.tmps.size = 53 → a'.defers = [] → (∀ k, (k < 3 ∨ k = 4 ∨ k = 5 ∨ 11 < k) → tm a' k = tm a k) → tm a' 3 = some (.pointer (some ⟨w.heap.size + 3, 0, none⟩)) → Q .normal a' (laidW w (.slice ad n c))) :
    (Code.region 1 ops1.toArray false).wp Try.prog Q a w := by
  refine wp_region ?_
  have hrange : List.range ops1.toArray.size = [0, 1, 2, 3, 4, 5, 6] := by rw [List.size_toArray, len1]; rfl
  rw [hrange]
  refine next1 (i := 0) (by omega) rfl (fun o ho => rn_mv (at_list op1 ho rfl)) ?_
  rw [eval_tmp h0]
  have s1 := (size_put a 6 (.slice ad n c)).trans hs
  have k1 : ∀ k, tm (a.put (some 6) (.slice ad n c)) k = if k = 6 then some (.slice ad n c) else tm a k := tm_putd (by omega)
  have d1 : (a.put (some 6) (.slice ad n c)).defers = [] := hd
  generalize a.put (some 6) (.slice ad n c) = a1 at s1 k1 d1 ⊢
  refine next1 (i := 1) (by omega) rfl (fun o ho => rn_mk (at_list op1 ho rfl)) ?_
  have s2 := (size_put a1 7 (.map (some w.heap.size))).trans s1
  have k2 : ∀ k, tm (a1.put (some 7) (.map (some w.heap.size))) k = if k = 7 then some (.map (some w.heap.size)) else tm a1 k := tm_putd (by omega)
  have d2 : (a1.put (some 7) (.map (some w.heap.size))).defers = [] := d1
  generalize a1.put (some 7) (.map (some w.heap.size)) = a2 at s2 k2 d2 ⊢
  refine next1 (i := 2) (by omega) rfl (fun o ho => rn_mk (at_list op1 ho rfl)) ?_
  have z1 : (w.alloc (.map #[] 0)).heap.size = w.heap.size + 1 := by simp
  rw [z1]
  have s3 := (size_put a2 8 (.map (some (w.heap.size + 1)))).trans s2
  have k3 : ∀ k, tm (a2.put (some 8) (.map (some (w.heap.size + 1)))) k = if k = 8 then some (.map (some (w.heap.size + 1))) else tm a2 k := tm_putd (by omega)
  have d3 : (a2.put (some 8) (.map (some (w.heap.size + 1)))).defers = [] := d2
  generalize a2.put (some 8) (.map (some (w.heap.size + 1))) = a3 at s3 k3 d3 ⊢
  refine next1 (i := 3) (by omega) rfl (fun o ho => rn_mk (at_list op1 ho rfl)) ?_
  have z2 : ((w.alloc (.map #[] 0)).alloc (.map #[] 0)).heap.size = w.heap.size + 2 := by simp
  rw [z2]
  have s4 := (size_put a3 9 (.map (some (w.heap.size + 2)))).trans s3
  have k4 : ∀ k, tm (a3.put (some 9) (.map (some (w.heap.size + 2)))) k = if k = 9 then some (.map (some (w.heap.size + 2))) else tm a3 k := tm_putd (by omega)
  have d4 : (a3.put (some 9) (.map (some (w.heap.size + 2)))).defers = [] := d3
  generalize a3.put (some 9) (.map (some (w.heap.size + 2))) = a4 at s4 k4 d4 ⊢
  have v6 : tm a4 6 = some (.slice ad n c) := by rw [k4, if_neg (by decide), k3, if_neg (by decide), k2, if_neg (by decide), k1, if_pos rfl]
  have v7 : tm a4 7 = some (.map (some w.heap.size)) := by rw [k4, if_neg (by decide), k3, if_neg (by decide), k2, if_pos rfl]
  have v8 : tm a4 8 = some (.map (some (w.heap.size + 1))) := by rw [k4, if_neg (by decide), k3, if_pos rfl]
  have v9 : tm a4 9 = some (.map (some (w.heap.size + 2))) := by rw [k4, if_pos rfl]
  refine next1 (i := 4) (by omega) rfl (u := .agg #[.slice ad n c, .map (some w.heap.size), .map (some (w.heap.size + 1)), .map (some (w.heap.size + 2))]) (w1 := ((w.alloc (.map #[] 0)).alloc (.map #[] 0)).alloc (.map #[] 0)) (fun o ho => ?_) ?_
  · have h := run_build (P := Try.prog) (((w.alloc (.map #[] 0)).alloc (.map #[] 0)).alloc (.map #[] 0)) 61 #[(0, .slice ad n c), (1, .map (some w.heap.size)), (2, .map (some (w.heap.size + 1))), (3, .map (some (w.heap.size + 2)))] #[.slice ad n c, .map (some w.heap.size), .map (some (w.heap.size + 1)), .map (some (w.heap.size + 2))] (by kernel_rfl)
    have e : o.op = .build 61 #[(0, .tmp 6), (1, .tmp 7), (2, .tmp 8), (3, .tmp 9)] := at_list op1 ho rfl
    simp [execOp, e, eval_tmp v6, eval_tmp v7, eval_tmp v8, eval_tmp v9, h]
  generalize hag : (Value.agg #[.slice ad n c, .map (some w.heap.size), .map (some (w.heap.size + 1)), .map (some (w.heap.size + 2))]) = ag
  have s5 := (size_put a4 10 ag).trans s4
  have k5 : ∀ k, tm (a4.put (some 10) ag) k = if k = 10 then some ag else tm a4 k := tm_putd (by omega)
  have d5 : (a4.put (some 10) ag).defers = [] := d4
  generalize a4.put (some 10) ag = a5 at s5 k5 d5 ⊢
  refine next1 (i := 5) (by omega) rfl (fun o ho => rn_box (at_list op1 ho rfl)) ?_
  have v10 : a5.eval (.tmp 10) = ag := eval_tmp (by rw [k5, if_pos rfl])
  have z3 : (((w.alloc (.map #[] 0)).alloc (.map #[] 0)).alloc (.map #[] 0)).heap.size = w.heap.size + 3 := by simp
  rw [v10, z3]
  have s6 := (size_put a5 11 (.pointer (some ⟨w.heap.size + 3, 0, none⟩))).trans s5
  have k6 : ∀ k, tm (a5.put (some 11) (.pointer (some ⟨w.heap.size + 3, 0, none⟩))) k = if k = 11 then some (.pointer (some ⟨w.heap.size + 3, 0, none⟩)) else tm a5 k := tm_putd (by omega)
  have d6 : (a5.put (some 11) (.pointer (some ⟨w.heap.size + 3, 0, none⟩))).defers = [] := d5
  generalize a5.put (some 11) (.pointer (some ⟨w.heap.size + 3, 0, none⟩)) = a6 at s6 k6 d6 ⊢
  refine next1 (i := 6) (by omega) rfl (fun o ho => rn_as (at_list op1 ho rfl)) ?_
  have v11 : a6.eval (.tmp 11) = .pointer (some ⟨w.heap.size + 3, 0, none⟩) := eval_tmp (by rw [k6, if_pos rfl])
  rw [v11]
  have k7 : ∀ k, tm (a6.put (some 3) (.pointer (some ⟨w.heap.size + 3, 0, none⟩))) k = if k = 3 then some (.pointer (some ⟨w.heap.size + 3, 0, none⟩)) else tm a6 k := tm_putd (by omega)
  have s7 := (size_put a6 3 (.pointer (some ⟨w.heap.size + 3, 0, none⟩))).trans s6
  simp only [wpOps]
  subst hag
  refine hQ _ s7 d6 (fun k hk => ?_) (by rw [k7, if_pos rfl])
  rw [k7, if_neg (by omega), k6, if_neg (by omega), k5, if_neg (by omega), k4, if_neg (by omega), k3, if_neg (by omega), k2, if_neg (by omega), k1, if_neg (by omega)]
theorem laid_heap (w : World) (v0 : Value) : (∀ b, b < w.heap.size → (laidW w v0).heap[b]? = w.heap[b]?) ∧ (laidW w v0).heap[w.heap.size]? = some (.map #[] 0) ∧ (laidW w v0).heap[w.heap.size + 1]? = some (.map #[] 0) ∧ (laidW w v0).heap[w.heap.size + 2]? = some (.map #[] 0) ∧
    (laidW w v0).heap[w.heap.size + 3]? = some (.cells #[v0, .map (some w.heap.size), .map (some (w.heap.size + 1)), .map (some (w.heap.size + 2))] 61 (0, 0)) ∧ (laidW w v0).heap.size = w.heap.size + 4 ∧ (laidW w v0).os = w.os ∧ (laidW w v0).tape = w.tape ∧ (laidW w v0).output = w.output := by
  have hp : ∀ (w : World) (o : Obj), (w.alloc o).heap = w.heap.push o := fun w o => rfl
  refine ⟨fun b hb => ?_, ?_, ?_, ?_, ?_, ?_, rfl, rfl, rfl⟩
  · simp only [laidW, hp, Array.getElem?_push]
    simp only [Array.size_push]
    repeat rw [if_neg (by omega)]
  · simp only [laidW, hp, Array.getElem?_push, Array.size_push]
    first | (simp; done) | (simp; omega)
  · simp only [laidW, hp, Array.getElem?_push, Array.size_push]
    first | (simp; done) | (simp; omega)
  · simp only [laidW, hp, Array.getElem?_push, Array.size_push]
    first | (simp; done) | (simp; omega)
  · simp only [laidW, hp, Array.getElem?_push, Array.size_push]
    first | (simp; done) | (simp; omega)
  · simp only [laidW, hp, Array.size_push]
end
end Go.Proofs.Ytmhpmghhgppdnaa
