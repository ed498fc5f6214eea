/-
  Expressions as trees of a number of nodes.
-/
import Derived.Test.YtdlpbedneamebaaGreatDoorTot5
namespace Go.Proofs.YtdlpbedneamebaaGreatDoor
open Go.VM
variable {X : Orc}
inductive Tr : Nat → List V → Prop
  | mk (op k : Int) (s : List UInt8) (zss : List (List V)) (ns : List Nat) (hl : zss.length = ns.length) (h : ∀ (i : Nat) (h1 : i < zss.length) (h2 : i < ns.length), Tr ns[i] zss[i]) : Tr (ns.sum + 1) [.i .i64 op, .i .i64 k, .s s, .l (zss.map V.a)]
theorem Tr.len {n : Nat} {ys : List V} (h : Tr n ys) : ys.length = 4 ∧ 1 ≤ n := by
  cases h; exact ⟨rfl, by omega⟩
theorem sum_len : ∀ (ns : List Nat), (∀ n ∈ ns, 1 ≤ n) → ns.length ≤ ns.sum
  | [], _ => Nat.le_refl _
  | n :: ns, h => by
    have h1 := h n (List.mem_cons_self ..)
    have h2 := sum_len ns fun m hm => h m (List.mem_cons_of_mem _ hm)
    simp only [List.length_cons, List.sum_cons]
    omega
theorem mem_sum : ∀ {ns : List Nat} {n : Nat}, n ∈ ns → n ≤ ns.sum
  | m :: ns, n, h => by
    rw [List.sum_cons]
    rcases List.mem_cons.1 h with rfl | h
    · omega
    · have := mem_sum h; omega
theorem Tr.cells {n : Nat} {ys : List V} (h : Tr n ys) : ∃ (op k : Int) (s : List UInt8) (zss : List (List V)), ys = [.i .i64 op, .i .i64 k, .s s, .l (zss.map V.a)] ∧ zss.length + 1 ≤ n ∧ ∀ zs ∈ zss, ∃ m, m < n ∧ Tr m zs := by
  cases h with
  | mk op k s zss ns hl h =>
    have h1 : ∀ n ∈ ns, 1 ≤ n := fun n hn => by
      obtain ⟨i, hi, rfl⟩ := List.getElem_of_mem hn
      exact (h i (by omega) hi).len.2
    have h2 := sum_len ns h1
    refine ⟨op, k, s, zss, rfl, by omega, fun zs hz => ?_⟩
    obtain ⟨i, hi, rfl⟩ := List.getElem_of_mem hz
    refine ⟨ns[i]'(by omega), ?_, h i hi (by omega)⟩
    have : ns[i]'(by omega) ≤ ns.sum := mem_sum (List.getElem_mem _)
    omega
theorem t93 : ∀ (n : Nat), n ≤ 100 → ∀ ys : List V, Tr n ys → ∃ z : Int, O X 245 [.a ys] = some (.i .i64 z) ∧ 0 ≤ z ∧ z ≤ n := by
  intro n
  induction n using Nat.strongRecOn with
  | _ n ih =>
    intro hn ys h
    obtain ⟨op, k, s, zss, rfl, hlen, hz⟩ := h.cells
    have hl : ∃ r, loopK (O X) [1, 3, 4] body245_1 [(1, .bx [.i .i64 op, .i .i64 k, .s s, .l (zss.map V.a)]), (3, .i .i64 0), (4, .i .i64 0)] = some r ∧ (∃ z : Int, r = (.e 0, [(3, .i .i64 z)]) ∧ 0 ≤ z ∧ z + 1 ≤ n) := by
      refine loopK_inv (fun i env => ∃ z : Int, env = [(1, .bx [.i .i64 op, .i .i64 k, .s s, .l (zss.map V.a)]), (3, .i .i64 z), (4, .i .i64 (i : Int))] ∧ 0 ≤ z ∧ z + 1 ≤ n) zss.length _ (fun i env hI => ?_) (fun i env hi hI => ?_) (fun env hI => ?_) zss.length 0 _ (by omega) ⟨0, by simp, by omega, by omega⟩
      · obtain ⟨z, rfl, _⟩ := hI; simp
      · obtain ⟨z, rfl, h0, h1⟩ := hI
        left
        have hw := wrap_i64 (i + 1) (by omega)
        obtain ⟨m, hm, hT⟩ := hz _ (List.getElem_mem hi)
        obtain ⟨q, hq, hq0, hq1⟩ := ih m hm (by omega) _ hT
        have hT4 := hT.len.1
        refine ⟨[(1, .bx [.i .i64 op, .i .i64 k, .s s, .l (zss.map V.a)]), (3, .i .i64 (max z q)), (4, .i .i64 ((i + 1 : Nat) : Int))], ?_, max z q, rfl, by omega, by omega⟩
        rw [show max z q = if z < q then q else z from by split <;> omega]
        simp [body245_1, hi, hw, hq, hT4]
      · obtain ⟨z, rfl, h0, h1⟩ := hI
        exact ⟨(.e 0, [(3, .i .i64 z)]), by simp [body245_1], by simp, z, rfl, h0, h1⟩
    obtain ⟨_, hl, z, rfl, h0, h1⟩ := hl
    have hw : IntKind.i64.wrap (z + 1) = z + 1 := wrap_i64 _ (by omega)
    exact ⟨z + 1, orun (fc := code245) rfl rfl rfl (by simp [code245, exec_loopK, hl, hw]), by omega, by omega⟩
theorem t94 : ∀ (n : Nat), n ≤ 100 → ∀ ys : List V, Tr n ys → ∃ t : Bool, O X 246 [.a ys] = some (.b t) := by
  intro n
  induction n using Nat.strongRecOn with
  | _ n ih =>
    intro hn ys h
    obtain ⟨op, k, s, zss, rfl, hlen, hz⟩ := h.cells
    have hl : ∃ r, loopK (O X) [1, 3] body246_1 [(1, .bx [.i .i64 op, .i .i64 k, .s s, .l (zss.map V.a)]), (3, .i .i64 (0 : Nat))] = some r ∧ (r = (.r, [(2, .b false)]) ∨ r = (.e 0, [])) := by
      refine loopK_tot (fun i => [(1, .bx [.i .i64 op, .i .i64 k, .s s, .l (zss.map V.a)]), (3, .i .i64 (i : Int))]) zss.length _ (by simp) (fun i hi => ?_) (by simp [body246_1])
      have hw := wrap_i64 (i + 1) (by omega)
      obtain ⟨m, hm, hT⟩ := hz _ (List.getElem_mem hi)
      obtain ⟨q, hq⟩ := ih m hm (by omega) _ hT
      have hT4 := hT.len.1
      cases q <;> simp [-Prod.exists, body246_1, hi, hw, hq, hT4]
    obtain ⟨r, hl, hr⟩ := hl
    simp only [Int.natCast_zero] at hl
    obtain ⟨a, ha, _⟩ := t99 (X := X) op
    obtain ⟨b, hb⟩ := t100 (X := X) op
    have : ∃ y, O X 246 [.a [.i .i64 op, .i .i64 k, .s s, .l (zss.map V.a)]] = some y ∧ B1 y := by
      refine orunE (fc := code246) rfl rfl rfl ?_
      rcases hr with rfl | rfl
      · simp [code246, exec_loopK, hl, ha, hb]
      · simp [code246, exec_loopK, hl, ha, hb]
    obtain ⟨y, h, t, rfl⟩ := this
    exact ⟨t, h⟩
end Go.Proofs.YtdlpbedneamebaaGreatDoor
namespace Go.Proofs.YtdlpbedneamebaaGreatDoor
open Go.VM
variable {X : Orc}
def Lst (l : List (List UInt8)) (v : V) : Prop := v = .l (strs l) ∨ v = .ow 9 (strs l)
theorem ssl_take (o : Orc) (l : List (List UInt8)) (k : Nat) (hk : k ≤ l.length) : opQ o (.slc 1 false true) [.l (strs l), .i .i64 (k : Int)] = some (.l (strs (l.take k))) := by
  have hb : bnds (strs l).length false true [.i .i64 (k : Int)] = some (0, k) := by
    have : (k : Int) ≤ ((strs l).length : Int) := by simp; omega
    simp only [bnds]
    rw [if_pos ⟨by omega, this⟩]
    simp
  have ha : (strs l).all (fun x => x.cells.length == 1) = true := encL_all fun _ => rfl
  simp only [opQ, ha, if_true, hb, Option.map_some, List.drop_zero]
  simp [encL]
theorem ssl_drop (o : Orc) (l : List (List UInt8)) (k : Nat) (hk : k ≤ l.length) : opQ o (.slc 1 true false) [.l (strs l), .i .i64 (k : Int)] = some (.l (strs (l.drop k))) := by
  have hb : bnds (strs l).length true false [.i .i64 (k : Int)] = some (k, l.length) := by
    have : (k : Int) ≤ ((strs l).length : Int) := by simp; omega
    simp only [bnds]
    rw [if_pos ⟨by omega, this⟩]
    simp
  have ha : (strs l).all (fun x => x.cells.length == 1) = true := encL_all fun _ => rfl
  simp only [opQ, ha, if_true, hb, Option.map_some]
  simp only [encL]
  rw [List.take_of_length_le (by simp), List.map_drop]
theorem t101 (l : List (List UInt8)) (s : List UInt8) (h : l.length ≤ 1000) : ∃ y l', O X 272 [.l (strs l), .s s] = some y ∧ Lst l' y ∧ l'.length ≤ l.length + 1 ∧ l' ≠ [] := by
  have hl : ∃ r, loopK (O X) [0, 1, 5] body272_1 [(0, .l (strs l)), (1, .s s), (5, .i .i64 (0 : Nat))] = some r ∧ (∃ k : Nat, k ≤ l.length ∧ r = (.e 0, [(0, .l (strs l)), (1, .s s), (5, .i .i64 (k : Int))])) := by
    refine loopK_tot (fun i => [(0, .l (strs l)), (1, .s s), (5, .i .i64 (i : Int))]) l.length _ (by simp) (fun i hi => ?_) ⟨(.e 0, [(0, .l (strs l)), (1, .s s), (5, .i .i64 (l.length : Int))]), by simp [body272_1], by simp, l.length, Nat.le_refl _, rfl⟩
    have hw := wrap_i64 (i + 1) (by omega)
    by_cases hb : Op.bytesLess l[i] s = true
    · exact ⟨_, by simp [body272_1, hi, hw, hb]; rfl, .inl ⟨rfl, by simp⟩⟩
    · exact ⟨(.e 0, [(0, .l (strs l)), (1, .s s), (5, .i .i64 (i : Int))]), by simp [body272_1, hi, hb], .inr ⟨by simp, i, by omega, rfl⟩⟩
  obtain ⟨_, hl, k, hk, rfl⟩ := hl
  simp only [Int.natCast_zero] at hl
  have ht := ssl_take (O X) l k hk
  have hd := ssl_drop (O X) l k hk
  have hm1 : (l.take k).length * 16 ≤ 140737488355328 := by rw [List.length_take]; omega
  have hm2 : ((l.take k).length + 1) * 16 ≤ 140737488355328 := by rw [List.length_take]; omega
  have hm3 : ((l.take k).length + 1 + (l.drop k).length) * 16 ≤ 140737488355328 := by rw [List.length_take, List.length_drop]; omega
  have hn : (l.take k ++ s :: l.drop k).length ≤ l.length + 1 := by simp; omega
  generalize l.take k = l1 at ht hm1 hm2 hm3 hn
  generalize l.drop k = l2 at hd hm3 hn
  by_cases hkl : k < l.length
  · by_cases he : l[k] = s
    · exact ⟨_, l, orun (fc := code272) rfl rfl rfl (y := .l (strs l)) (by simp [code272, exec_loopK, hl, hkl, he]), .inl rfl, by omega, fun e => by rw [e] at hkl; exact absurd hkl (Nat.not_lt_zero _)⟩
    · exact ⟨_, _, orun (fc := code272) rfl rfl rfl (y := .ow 9 (strs (l1 ++ s :: l2))) (by simp [code272, exec_loopK, hl, hkl, he, ht, hd, hm1, hm2, hm3]; simp [encL]), .inr rfl, hn, by simp⟩
  · exact ⟨_, _, orun (fc := code272) rfl rfl rfl (y := .ow 9 (strs (l1 ++ s :: l2))) (by simp [code272, exec_loopK, hl, hkl, ht, hd, hm1, hm2, hm3]; simp [encL]), .inr rfl, hn, by simp⟩
end Go.Proofs.YtdlpbedneamebaaGreatDoor
namespace Go.Proofs.YtdlpbedneamebaaGreatDoor
open Go.VM
variable {X : Orc}
abbrev xc (op k : Int) (s : List UInt8) (zss : List (List V)) : List V := [.i .i64 op, .i .i64 k, .s s, .l (zss.map V.a)]
theorem l247 (op k : Int) (s : List UInt8) (zss : List (List V)) (i : Nat) (l m : List (List UInt8)) (v w : V) (hv : Lst l v) (hw : Lst m w) (h1 : l.length + m.length ≤ 1000) :
    ∃ (l' : List (List UInt8)) (v' : V), Lst l' v' ∧ l'.length ≤ l.length + m.length ∧ loopK (O X) [1, 3, 4, 5, 6] body247_1 [(1, .bx (xc op k s zss)), (3, v), (4, .i .i64 (i : Int)), (5, w), (6, .i .i64 0)] = some (.e 2, [(1, .bx (xc op k s zss)), (3, v'), (4, .i .i64 (i : Int))]) := by
  have : ∃ r, loopK (O X) [1, 3, 4, 5, 6] body247_1 [(1, .bx (xc op k s zss)), (3, v), (4, .i .i64 (i : Int)), (5, w), (6, .i .i64 0)] = some r ∧ ∃ (l' : List (List UInt8)) (v' : V), Lst l' v' ∧ l'.length ≤ l.length + m.length ∧ r = (.e 2, [(1, .bx (xc op k s zss)), (3, v'), (4, .i .i64 (i : Int))]) := by
    refine loopK_inv (fun j env => ∃ (l' : List (List UInt8)) (v' : V), Lst l' v' ∧ l'.length ≤ l.length + j ∧ env = [(1, .bx (xc op k s zss)), (3, v'), (4, .i .i64 (i : Int)), (5, w), (6, .i .i64 (j : Int))]) m.length _ (fun j env hI => ?_) (fun j env hj hI => ?_) (fun env hI => ?_) m.length 0 _ (by omega) ⟨l, v, hv, by omega, by simp⟩
    · obtain ⟨l', v', hv', _, rfl⟩ := hI
      rcases hv' with rfl | rfl <;> rcases hw with rfl | rfl <;> simp
    · obtain ⟨l', v', hv', hl', rfl⟩ := hI
      left
      have hww := wrap_i64 (j + 1) (by omega)
      obtain ⟨y, l2, hy, hL, hl2, hne⟩ := t101 (X := X) l' m[j] (by omega)
      refine ⟨[(1, .bx (xc op k s zss)), (3, y), (4, .i .i64 (i : Int)), (5, w), (6, .i .i64 ((j + 1 : Nat) : Int))], ?_, l2, y, hL, by omega, rfl⟩
      rcases hv' with rfl | rfl <;> rcases hw with rfl | rfl <;> rcases hL with rfl | rfl <;> simp [body247_1, hj, hww, hy, hne]
    · obtain ⟨l', v', hv', hl', rfl⟩ := hI
      refine ⟨(.e 2, [(1, .bx (xc op k s zss)), (3, v'), (4, .i .i64 (i : Int))]), ?_, by simp, l', v', hv', hl', rfl⟩
      rcases hv' with rfl | rfl <;> rcases hw with rfl | rfl <;> simp [body247_1]
  obtain ⟨_, h, l', v', h2, h3, rfl⟩ := this
  exact ⟨l', v', h2, h3, h⟩
-- t95: next
end Go.Proofs.YtdlpbedneamebaaGreatDoor
namespace Go.Proofs.YtdlpbedneamebaaGreatDoor
open Go.VM
variable {X : Orc}
theorem Tr.parts {n : Nat} {ys : List V} (h : Tr n ys) : ∃ (op k : Int) (s : List UInt8) (zss : List (List V)) (ns : List Nat), ys = xc op k s zss ∧ zss.length = ns.length ∧ n = ns.sum + 1 ∧ ∀ (i : Nat) (h1 : i < zss.length) (h2 : i < ns.length), Tr ns[i] zss[i] := by
  cases h with
  | mk op k s zss ns hl h => exact ⟨op, k, s, zss, ns, rfl, hl, rfl, h⟩
theorem sum_take (ns : List Nat) (i : Nat) (h : i < ns.length) : (ns.take (i + 1)).sum = (ns.take i).sum + ns[i] := by
  rw [List.take_succ_eq_append_getElem h, List.sum_append]; simp
theorem sum_take_le (ns : List Nat) (i : Nat) : (ns.take i).sum ≤ ns.sum := by
  have := List.take_append_drop i ns
  conv => rhs; rw [← this, List.sum_append]
  omega
set_option maxHeartbeats 1000000 in
theorem t95 : ∀ (n : Nat), n ≤ 100 → ∀ ys : List V, Tr n ys → ∃ (l : List (List UInt8)) (v : V), Lst l v ∧ l.length ≤ n ∧ O X 247 [.a ys] = some v := by
  intro n
  induction n using Nat.strongRecOn with
  | _ n ih =>
    intro hn ys h
    obtain ⟨op, k, s, zss, ns, rfl, hlen, rfl, hz⟩ := h.parts
    have hns : ns.length ≤ ns.sum := sum_len ns fun n hn => by
      obtain ⟨i, hi, rfl⟩ := List.getElem_of_mem hn
      exact (hz i (by omega) hi).len.2
    have hlp : ∀ (l0 : List (List UInt8)) (v0 : V), Lst l0 v0 → l0.length ≤ 1 → ∃ r, loopK (O X) [1, 3, 4] body247_2 [(1, .bx (xc op k s zss)), (3, v0), (4, .i .i64 0)] = some r ∧ (∃ (l : List (List UInt8)) (v : V), Lst l v ∧ l.length ≤ ns.sum + 1 ∧ r = (.e 0, [(3, v)])) := by
      intro l0 v0 hv0 hl0
      refine loopK_inv (fun i env => ∃ (l : List (List UInt8)) (v : V), Lst l v ∧ l.length ≤ (ns.take i).sum + 1 ∧ env = [(1, .bx (xc op k s zss)), (3, v), (4, .i .i64 (i : Int))]) zss.length _ (fun i env hI => ?_) (fun i env hi hI => ?_) (fun env hI => ?_) zss.length 0 _ (by omega) ⟨l0, v0, hv0, by simpa using hl0, by simp⟩
      · obtain ⟨l, v, hv, _, rfl⟩ := hI
        rcases hv with rfl | rfl <;> simp
      · obtain ⟨l, v, hv, hl, rfl⟩ := hI
        left
        have hw := wrap_i64 (i + 1) (by omega)
        have hin : i < ns.length := by omega
        have hT := hz i hi hin
        have hle := sum_take_le ns (i + 1)
        rw [sum_take ns i hin] at hle
        obtain ⟨m, w, hwL, hm, h95⟩ := ih ns[i] (by omega) (by omega) _ hT
        obtain ⟨l', v', hv', hl', hlo⟩ := l247 (X := X) op k s zss i l m v w hv hwL (by omega)
        have hT4 := hT.len.1
        refine ⟨[(1, .bx (xc op k s zss)), (3, v'), (4, .i .i64 ((i + 1 : Nat) : Int))], ?_, l', v', hv', by rw [sum_take ns i hin]; omega, rfl⟩
        rcases hv with rfl | rfl <;> rcases hwL with rfl | rfl <;> rcases hv' with rfl | rfl <;> simp [body247_2, exec_loopK, hi, hw, h95, hT4, hlo]
      · obtain ⟨l, v, hv, hl, rfl⟩ := hI
        have hle := sum_take_le ns zss.length
        refine ⟨(.e 0, [(3, v)]), ?_, by simp, l, v, hv, by omega, rfl⟩
        rcases hv with rfl | rfl <;> simp [body247_2]
    by_cases h4 : op = 4
    · subst h4
      obtain ⟨_, hl, l, v, hv, hll, rfl⟩ := hlp [s] (.ow 9 (strs [s])) (.inr rfl) (by simp)
      refine ⟨l, v, hv, hll, orun (fc := code247) rfl rfl rfl ?_⟩
      rw [show strs [s] = [V.s s] from rfl] at hl
      rcases hv with rfl | rfl <;> simp [code247, exec_loopK, hl]
    · obtain ⟨_, hl, l, v, hv, hll, rfl⟩ := hlp [] (.ow 9 (strs [])) (.inr rfl) (by simp)
      refine ⟨l, v, hv, hll, orun (fc := code247) rfl rfl rfl ?_⟩
      rw [show strs [] = [] from rfl] at hl
      rcases hv with rfl | rfl <;> simp [code247, exec_loopK, h4, hl]
end Go.Proofs.YtdlpbedneamebaaGreatDoor
