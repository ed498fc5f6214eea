/-
  The law's loops: its rows.
-/
import Derived.Test.YtdlpbedneamebaaGreatDoorPlain
import Derived.Test.YtdlpbedneamebaaGreatDoorSpec9
import Derived.Test.YtdlpbedneamebaaGreatDoorVer3
namespace Go.Proofs.YtdlpbedneamebaaGreatDoor
open Go.VM
def allP (l : List Gl) (id : Int) : Bool := l.all fun g => decide (g.parent ≠ id)
theorem l3a (b : Books) (bk : Int) (R : List V) (i : Nat) (hi : i < b.chart.length) (h : b.chart.length ≤ 1000) : loopK OB [1, 2, 5, 6, 7, 8] body3_1 [(1, .i .i64 bk), (2, .bx b.cells), (5, .ow 41 R), (6, .i .i64 i), (7, .b true), (8, .i .i64 0)] = some (.e 2, [(1, .i .i64 bk), (2, .bx b.cells), (5, .ow 41 R), (6, .i .i64 i), (7, .b (leafB b.chart b.chart[i]))]) := by
  have := loopK_run (o := OB) (kin := [1, 2, 5, 6, 7, 8]) (c := body3_1) (fun k => [(1, .i .i64 bk), (2, .bx b.cells), (5, .ow 41 R), (6, .i .i64 i), (7, .b (allP (b.chart.take k) b.chart[i].id)), (8, .i .i64 (k : Int))]) b.chart.length (.e 2, [(1, .i .i64 bk), (2, .bx b.cells), (5, .ow 41 R), (6, .i .i64 i), (7, .b (leafB b.chart b.chart[i]))]) (by simp) (fun k hk => by
    have hw := wrap_i64 (k + 1) (by omega)
    have e : allP (b.chart.take (k + 1)) b.chart[i].id = (allP (b.chart.take k) b.chart[i].id && decide (b.chart[k].parent ≠ b.chart[i].id)) := by
      unfold allP
      rw [List.take_succ_eq_append_getElem hk, List.all_append]
      simp
    rw [e]
    cases allP (b.chart.take k) b.chart[i].id with
    | false => simp [body3_1, hk, hi, hw]
    | true => by_cases hp : b.chart[k].parent = b.chart[i].id <;> simp [body3_1, hk, hi, hw, hp]) (by simp [body3_1, allP, leafB]) (by simp)
  simpa [allP] using this
def rowsT (b : Books) (i : Nat) : List Row := ((b.chart.take i).filter (leafB b.chart)).map leafRow
set_option maxHeartbeats 4000000 in
theorem l3b (b : Books) (bk : Int) (h : b.chart.length ≤ 1000) : loopK OB [1, 2, 5, 6] body3_2 [(1, .i .i64 bk), (2, .bx b.cells), (5, .ow 41 []), (6, .i .i64 0)] = some (.e 0, [(1, .i .i64 bk), (2, .bx b.cells), (5, .ow 41 (encR (rowsT b b.chart.length)))]) := by
  have := loopK_run (o := OB) (kin := [1, 2, 5, 6]) (c := body3_2) (fun i => [(1, .i .i64 bk), (2, .bx b.cells), (5, .ow 41 (encR (rowsT b i))), (6, .i .i64 (i : Int))]) b.chart.length (.e 0, [(1, .i .i64 bk), (2, .bx b.cells), (5, .ow 41 (encR (rowsT b b.chart.length)))]) (by simp) (fun i hi => by
    have hw := wrap_i64 (i + 1) (by omega)
    have hl := l3a b bk (encR (rowsT b i)) i hi h
    have hlen : (encR (rowsT b i)).length ≤ i := by
      simp only [encL_length, rowsT, List.length_map]
      exact Nat.le_trans (List.length_filter_le ..) (by rw [List.length_take]; omega)
    have e : rowsT b (i + 1) = rowsT b i ++ (if leafB b.chart b.chart[i] = true then [leafRow b.chart[i]] else []) := by
      unfold rowsT
      rw [List.take_succ_eq_append_getElem hi, List.filter_append, List.map_append]
      by_cases hb : leafB b.chart b.chart[i] = true <;> simp [hb]
    rw [e]
    cases hb : leafB b.chart b.chart[i] with
    | false => rw [hb] at hl; simp [body3_2, exec_loopK, hi, hw, hl]
    | true =>
      rw [hb] at hl
      have e2 : encR (rowsT b i ++ [leafRow b.chart[i]]) = encR (rowsT b i) ++ [(leafRow b.chart[i]).v] := by simp [encL]
      simp only [if_true, e2]
      have hbb : ((encR (rowsT b i)).length + 1) * 48 ≤ 140737488355328 := by omega
      generalize encR (rowsT b i) = U at hl hlen hbb ⊢
      simp (config := { maxSteps := 2000000 }) [body3_2, exec_loopK, hi, hw, hl, hbb, leafRow, encL]) (by simp [body3_2]) (by simp)
  simpa [rowsT] using this
end Go.Proofs.YtdlpbedneamebaaGreatDoor
namespace Go.Proofs.YtdlpbedneamebaaGreatDoor
open Go.VM
theorem fold_tk {α β : Type} (f : β → α → β) (s : β) (l : List α) {k : Nat} (hk : k < l.length) : (l.take (k + 1)).foldl f s = f ((l.take k).foldl f s) l[k] := by
  rw [List.take_succ_eq_append_getElem hk, List.foldl_append]; rfl
section
variable (b : Books) (bk : Int) (l : List Row) (D : List V) (k s f : Int) (i : Nat) (x : Cell) (ids : List Int)
theorem l3c (R : V) (hR : R = .l (encR l) ∨ R = .ow 41 (encR l)) (hi : i < l.length) (h : Fine b) (hr : l[i].roots.length ≤ 1000) (hn : l[i].name.length ≤ maxLen) (hids : ids.length ≤ 1000) :
    loopK OB [1, 2, 5, 9, 11, 12, 13, 14, 15, 16, 17, 18] body3_3 [(1, .i .i64 bk), (2, .bx b.cells), (5, R), (9, .l D), (11, .i .i64 k), (12, .i .i64 s), (13, .i .i64 i), (14, .bx x.cells), (15, .l (ints ids)), (16, .i .i64 f), (17, .i .i64 0), (18, .i .i64 0)] =
      some (.e 8, [(1, .i .i64 bk), (2, .bx b.cells), (5, R), (9, .l D), (11, .i .i64 k), (12, .i .i64 s), (13, .i .i64 i), (14, .bx x.cells), (16, .i .i64 f), (17, .i .i64 (ids.foldl (sumId b l[i] x.currency) 0))]) := by
  have := loopK_run (o := OB) (kin := [1, 2, 5, 9, 11, 12, 13, 14, 15, 16, 17, 18]) (c := body3_3) (fun j => [(1, .i .i64 bk), (2, .bx b.cells), (5, R), (9, .l D), (11, .i .i64 k), (12, .i .i64 s), (13, .i .i64 i), (14, .bx x.cells), (15, .l (ints ids)), (16, .i .i64 f), (17, .i .i64 ((ids.take j).foldl (sumId b l[i] x.currency) 0)), (18, .i .i64 (j : Int))]) ids.length (.e 8, [(1, .i .i64 bk), (2, .bx b.cells), (5, R), (9, .l D), (11, .i .i64 k), (12, .i .i64 s), (13, .i .i64 i), (14, .bx x.cells), (16, .i .i64 f), (17, .i .i64 (ids.foldl (sumId b l[i] x.currency) 0))]) (by rcases hR with rfl | rfl <;> simp) (fun j hj => by
    have hw := wrap_i64 (j + 1) (by omega)
    have h9 := OB_old rfl (by decide) (by decide) (by decide) (e9 (X := ext0) b l[i] x.currency ids[j] h hr hn)
    rw [fold_tk _ _ _ hj]
    generalize (ids.take j).foldl (sumId b l[i] x.currency) 0 = z
    unfold sumId
    generalize amtId b l[i] x.currency ids[j] = n at h9 ⊢
    rcases hR with rfl | rfl <;> simp [body3_3, hi, hj, hw, h9, w]) (by rcases hR with rfl | rfl <;> simp [body3_3]) (by rcases hR with rfl | rfl <;> simp)
  simpa using this
end
end Go.Proofs.YtdlpbedneamebaaGreatDoor
namespace Go.Proofs.YtdlpbedneamebaaGreatDoor
open Go.VM
theorem cell_at (b : Books) (l : List Row) (bk : Int) {i k : Nat} (hi : i < l.length) (hk : k < b.currencies.length) : (cellsOfL b l bk)[i * b.currencies.length + k]? = some (cellOf b l[i] bk b.currencies[k]) := by
  have hlt : i * b.currencies.length + k < l.length * b.currencies.length := by
    have := Nat.mul_le_mul_right b.currencies.length (show i + 1 ≤ l.length from hi)
    rw [Nat.succ_mul] at this
    omega
  obtain ⟨h1, h2, h3⟩ := cells_at b l bk hlt
  have e1 : (i * b.currencies.length + k) / b.currencies.length = i := by
    rw [Nat.mul_comm, Nat.mul_add_div (by omega), Nat.div_eq_of_lt hk, Nat.add_zero]
  have e2 : (i * b.currencies.length + k) % b.currencies.length = k := by
    rw [Nat.mul_comm, Nat.mul_add_mod, Nat.mod_eq_of_lt hk]
  simpa only [e1, e2] using h3
theorem drill_len (b : Books) (r : Row) (c : List UInt8) (bk : Int) : (drill b r c bk).length ≤ b.journal.length := dS_len b r c bk b.journal
def sumC (b : Books) (bk : Int) (c : List UInt8) (s : Int) (r : Row) : Int := w (s + sumN b r c bk)
theorem findC_some {l : List Currency} {i : Nat} (hi : i < l.length) : (findC l l[i].code).isSome = true := by
  cases hq : findC l l[i].code with
  | some x => rfl
  | none =>
    have := range_find_none.1 hq i hi
    simp [cAt, hi] at this
set_option maxHeartbeats 16000000 in
theorem l3d (b : Books) (bk : Int) (l : List Row) (k : Nat) (R : V) (hR : R = .l (encR l) ∨ R = .ow 41 (encR l)) (h : Fine b) (hr : Rows l) (hc : ∀ r ∈ l, chk b [r] = 0) (hd : Dist b) (hl : l.length ≤ 1000) (hk : k < b.currencies.length) :
    loopK OB [1, 2, 5, 9, 11, 12, 13] body3_4 [(1, .i .i64 bk), (2, .bx b.cells), (5, R), (9, .l (encX (cellsOfL b l bk))), (11, .i .i64 k), (12, .i .i64 0), (13, .i .i64 0)] =
      some (.e 6, [(1, .i .i64 bk), (2, .bx b.cells), (5, R), (9, .l (encX (cellsOfL b l bk))), (11, .i .i64 k), (12, .i .i64 (l.foldl (sumC b bk b.currencies[k].code) 0))]) := by
  have hcl := h.curs
  have hlen := cellsOfL_len b bk l
  generalize hX : cellsOfL b l bk = xs at hlen
  have := loopK_run (o := OB) (kin := [1, 2, 5, 9, 11, 12, 13]) (c := body3_4) (fun i => [(1, .i .i64 bk), (2, .bx b.cells), (5, R), (9, .l (encX xs)), (11, .i .i64 k), (12, .i .i64 ((l.take i).foldl (sumC b bk b.currencies[k].code) 0)), (13, .i .i64 (i : Int))]) l.length (.e 6, [(1, .i .i64 bk), (2, .bx b.cells), (5, R), (9, .l (encX xs)), (11, .i .i64 k), (12, .i .i64 (l.foldl (sumC b bk b.currencies[k].code) 0))]) (by rcases hR with rfl | rfl <;> simp) (fun i hi => by
    have hw := wrap_i64 (i + 1) (by omega)
    have h3 := cell_at b l bk hi hk
    have hlt : i * b.currencies.length + k < xs.length := by
      have := Nat.mul_le_mul_right b.currencies.length (show i + 1 ≤ l.length from hi)
      rw [Nat.succ_mul] at this
      omega
    have hz : ∃ z : Int, IntKind.i64.wrap ((i : Int) * (b.currencies.length : Int)) = z ∧ IntKind.i64.wrap (z + (k : Int)) = ((i * b.currencies.length + k : Nat) : Int) := by
      have hb : i * b.currencies.length ≤ 1000 * 1000 := Nat.mul_le_mul (by omega) hcl
      have hc : ((i * b.currencies.length : Nat) : Int) = (i : Int) * (b.currencies.length : Int) := by simp
      refine ⟨_, wrap_i64 _ (by omega), ?_⟩
      rw [← hc, wrap_i64 _ (by omega)]
      simp
    obtain ⟨z, hz1, hz2⟩ := hz
    rw [hX] at h3
    generalize i * b.currencies.length + k = m at h3 hlt hz2
    rw [List.getElem?_eq_getElem hlt, Option.some.injEq] at h3
    have hm : l[i] ∈ l := List.getElem_mem hi
    have hc1 := hc _ hm
    have hrt := hr.roots _ hm
    have hnm := hr.name _ hm
    have h8 := b8 b l[i] xs[m].currency bk h hrt hnm
    have hfc := findC_some hk
    have hcur : xs[m].currency = (b.currencies[k]).code := by rw [h3]; rfl
    have ham : xs[m].amount = sumN b l[i] xs[m].currency bk := by rw [h3]; rfl
    have hdr : drillW b l[i] xs[m].currency bk = .t [.l (ints (drill b l[i] xs[m].currency bk)), .i .i64 0] := by
      rw [drillW, if_pos hc1, if_pos (by rw [hcur]; exact hfc)]
    rw [hdr] at h8
    have hds := drill_sum hd hc1 xs[m].currency bk
    have hdl := drill_len b l[i] xs[m].currency bk
    have hjl := h.jour
    rw [fold_tk _ _ _ hi]
    generalize (l.take i).foldl (sumC b bk b.currencies[k].code) 0 = s
    have hsum : sumC b bk b.currencies[k].code s l[i] = w (s + xs[m].amount) := by rw [sumC, ham, hcur]
    rw [hsum]
    have hin := l3c b bk l (encX xs) k s 0 i xs[m] (drill b l[i] xs[m].currency bk) R hR hi h hrt hnm (by omega)
    rw [hds.2, ← ham] at hin
    generalize drill b l[i] xs[m].currency bk = ids at h8 hin
    clear h3 hds hdr ham hfc
    have hcc : (xs[m].currency = b.currencies[k].code) = True := eq_true hcur
    clear hcur
    unfold w
    rcases hR with rfl | rfl <;> simp (config := { maxSteps := 4000000 }) [body3_4, exec_loopK, hi, hw, hk, hlt, hz1, hz2, h8, hin, hcc]) (by rcases hR with rfl | rfl <;> simp [body3_4]) (by rcases hR with rfl | rfl <;> simp)
  simpa using this
set_option maxHeartbeats 16000000 in
theorem l3e (b : Books) (bk : Int) (l : List Row) (R : V) (hR : R = .l (encR l) ∨ R = .ow 41 (encR l)) (h : Fine b) (hr : Rows l) (hc : ∀ r ∈ l, chk b [r] = 0) (hd : Dist b) (hl : l.length ≤ 1000) (h0 : ∀ c, l.foldl (sumC b bk c) 0 = 0) :
    loopK OB [1, 2, 5, 9, 11] body3_5 [(1, .i .i64 bk), (2, .bx b.cells), (5, R), (9, .l (encX (cellsOfL b l bk))), (11, .i .i64 0)] = some (.e 4, []) := by
  have hcl := h.curs
  have := loopK_run (o := OB) (kin := [1, 2, 5, 9, 11]) (c := body3_5) (fun k => [(1, .i .i64 bk), (2, .bx b.cells), (5, R), (9, .l (encX (cellsOfL b l bk))), (11, .i .i64 (k : Int))]) b.currencies.length (.e 4, []) (by rcases hR with rfl | rfl <;> simp) (fun k hk => by
    have hw := wrap_i64 (k + 1) (by omega)
    have hin := l3d b bk l k R hR h hr hc hd hl hk
    rw [h0] at hin
    generalize cellsOfL b l bk = xs at hin ⊢
    rcases hR with rfl | rfl <;> simp (config := { maxSteps := 4000000 }) [body3_5, exec_loopK, hk, hw, hin]) (by rcases hR with rfl | rfl <;> simp [body3_5]) (by rcases hR with rfl | rfl <;> simp)
  simpa using this
theorem foldC (b : Books) (bk : Int) (c : List UInt8) : ∀ (l : List Gl) (n : Int), w n = n → (l.map leafRow).foldl (sumC b bk c) n = w (n + sumR b c bk l)
  | [], n, hn => by simp [sumR, hn]
  | g :: l, n, hn => by
    rw [List.map_cons, List.foldl_cons, foldC b bk c l _ (by rw [sumC]; exact wrap_i64 _ (w_rng _)), sumR, sumC, sumN_eq b (leafRow g) c bk (.inl rfl)]
    have e1 : (leafRow g).sign = 1 := rfl
    rw [e1]
    generalize TJ (belongsB b (leafRow g)) 1 c bk b.journal = x
    generalize sumR b c bk l = y
    unfold w
    rw [w_congr]
    have p1 := (w_congr (a := n + IntKind.i64.wrap x) (b := IntKind.i64.wrap (n + IntKind.i64.wrap x))).1 (wrap_i64 _ (w_rng _)).symm
    have p2 := (w_congr (a := x) (b := IntKind.i64.wrap x)).1 (wrap_i64 _ (w_rng _)).symm
    omega
theorem leaf_sums {b : Books} (hs : SNB b) (c : List UInt8) (bk : Int) : ((leavesOf b.chart).map leafRow).foldl (sumC b bk c) 0 = 0 := by
  rw [foldC b bk c _ 0 (by simp [w, IntKind.wrap_i64]), Int.zero_add]
  have hg : Good b.chart := good_of hs.chart
  rw [sumR_eq hg hs.chart (fun e he x hx => by
    obtain ⟨i, hi, rfl⟩ := List.getElem_of_mem he
    exact (hs.ents i hi).2.2 x hx) (fun id hf => by
    obtain ⟨i, hi, he⟩ := Good.idx hf
    have := hg.pos i hi
    omega) c bk _ leaves_leaf (List.Pairwise.filter _ (List.pairwise_iff_getElem.2 fun i j hi hj hij => by
    have := hg.asc i j hi hj hij
    omega))]
  exact sum_leaves hs c bk
end Go.Proofs.YtdlpbedneamebaaGreatDoor
namespace Go.Proofs.YtdlpbedneamebaaGreatDoor
open Go.VM
theorem rowsT_all (b : Books) : rowsT b b.chart.length = (leavesOf b.chart).map leafRow := by
  unfold rowsT leavesOf
  rw [List.take_length]
theorem leaves_len (c : List Gl) : (leavesOf c).length ≤ c.length := List.length_filter_le ..
theorem fine_few {b : Books} (h : FEW b) : Fine b := by
  have h1 := h.accs
  have h2 := h.jour
  have h3 := h.chartL
  have h4 := h.curs
  exact ⟨by omega, by omega, by omega, by omega, fun e he => Nat.le_trans (h.legs e he) (by omega)⟩
theorem rows_leaves {b : Books} (hg : ∀ g ∈ b.chart, g.name.length ≤ maxLen) : Rows ((leavesOf b.chart).map leafRow) := by
  refine ⟨fun r hr => ?_, fun r hr => ?_⟩ <;> obtain ⟨g, hm, rfl⟩ := List.mem_map.1 hr
  · show 1 ≤ 1000
    omega
  · exact hg g (List.mem_filter.1 hm).1
set_option maxHeartbeats 8000000 in
theorem e3 (b : Books) (bk : Int) (hf : okBk b) (hg : ∀ g ∈ b.chart, g.name.length ≤ maxLen) : OB 3 [b.v, .i .i64 bk] = some (.b true) := by
  refine orunB (fc := code3) rfl rfl rfl ?_
  obtain ⟨t, h5, f5⟩ := t5s (X := ext0) b hf hg
  have h5 := OB_old rfl (by decide) (by decide) (by decide) h5
  have h6 := live6
  cases t with
  | false => simp [code3, h5, h6]
  | true =>
    obtain ⟨hF, hS⟩ := f5 rfl
    by_cases c60 : (60 : Int) < (b.journal.length : Int)
    · simp [code3, h5, h6, c60]
    have hfine := fine_few hF
    have hc40 := hF.chartL
    have hcur := hF.curs
    have hr := rows_leaves hg
    have hlb := l3b b bk (by omega)
    rw [rowsT_all] at hlb
    have hll := leaves_len b.chart
    have hlen0 : ((leavesOf b.chart).map leafRow).length ≤ 40 := by rw [List.length_map]; omega
    have hsum := fun c => leaf_sums hS c bk
    generalize (leavesOf b.chart).map leafRow = l at hr hlb hlen0 hsum
    have h7 := b6 b l bk hfine hr (by unfold maxLen; omega)
    have hlen := cellsOfL_len b bk l
    have hmul : l.length * b.currencies.length ≤ 40 * 8 := Nat.mul_le_mul hlen0 hcur
    have hw := wrap_i64 ((l.length : Int) * (b.currencies.length : Int)) (by
      have : ((l.length * b.currencies.length : Nat) : Int) = (l.length : Int) * (b.currencies.length : Int) := by simp
      omega)
    have hlen' : ((cellsOfL b l bk).length : Int) = (l.length : Int) * (b.currencies.length : Int) := by rw [hlen]; simp
    have other : ∀ e : Int, e ≠ 0 → OB 7 [b.v, .l (encR l), .i .i64 bk] = some (.t [.l [], .i .i64 e]) → retE code3.res (exec OB code3.body (args0 0 [b.v, .i .i64 bk])) = some (.b true) := by
      intro e he q7
      simp [code3, exec_loopK, h5, h6, c60, hlb, q7, he]
    unfold makeW at h7
    by_cases h0 : chk b l = 0
    · rw [if_pos h0] at h7
      have hl3 := fun R hR => l3e b bk l R hR hfine hr (fun r hm => chk_one h0 hm) (dist_of hS) (by omega) hsum
      cases hq : (List.range l.length).findSome? (rowBad b l bk) with
      | none =>
        rw [hq] at h7
        generalize cellsOfL b l bk = xs at h7 hl3 hlen'
        have ha := hl3 _ (.inl rfl)
        have hb := hl3 _ (.inr rfl)
        simp only at h7
        by_cases hx : xs = []
        · subst hx
          have h00 : (IntKind.i64.wrap 0) = 0 := wrap_i64 0 (by omega)
          have e0 : encX [] = [] := rfl
          rw [e0] at hb h7
          rw [← hlen'] at hw
          simp [code3, exec_loopK, h5, h6, c60, hlb, h7, h00, hb, ← hlen']
        · simp [code3, exec_loopK, h5, h6, c60, hlb, h7, hlen', hw, ha, hx]
      | some u =>
        rw [hq] at h7
        exact other 6 (by decide) h7
    · rw [if_neg h0] at h7
      exact other _ h0 h7
end Go.Proofs.YtdlpbedneamebaaGreatDoor
