/-
  The library's slices.Insert of one version into a list of the call's own: the four roads of its code.
-/
import Derived.Test.YtlmbgmobghmmmaaProg
import Derived.Test.YtlmbgmobghmmmaaVmR
import Derived.WalkKit
import Derived.Lib.Walk
import Derived.Lib.SliceRun
import Derived.Lib.AppendZerosOnto
import Derived.Lib.Overlaps
import Derived.Laws.Externs
import Derived.Shelf.Spec.SlicesInsert
import Derived.KernelRfl
namespace Go.Proofs.Ytlmbgmobghmmmaa
open Go.VM Go.RowKit Go.Lib
theorem info33 : ∃ i : TypeInfo, Try.prog.info? 33 = some i ∧ ∃ z, i.zero = some z ∧ i.size = 19 ∧ i.bytes = 240 ∧ z.cells.size = 19 := ⟨Try.t33, by kernel_rfl, Try.t33.zero.getD undef, by kernel_rfl, by kernel_rfl, by kernel_rfl, by kernel_rfl⟩
set_option maxHeartbeats 4000000 in
set_option maxRecDepth 100000 in
theorem ins_end (w : World) (base : Nat) (u : Value) (n : Nat) (xs news : List Value) (vb voff vc : Nat) (hown : w.ownsRow base 33 19 u n xs) (hl : news.length = 19) (hnews : ∀ (j : Nat) v, news[j]? = some v → w.cell? ⟨vb, voff + j, none⟩ = some v) (h1 : ∀ v ∈ news, v.oneCell' = true)
    (hbig : (n + 1) * 240 ≤ 140737488355328) (hbase : base ≤ w.heap.size) :
    Calls Try.prog 29 #[u, .int .i64 n, .slice (some ⟨vb, voff, none⟩) 1 vc] w fun e w' => ∃ v', e = .returned v' ∧ w'.ownsRow base 33 19 v' (n + 1) (xs ++ news) ∧ w.grownBy w' u.ownBlock ∧ (v'.ownBlock = u.ownBlock ∨ v'.ownBlock = some w.heap.size) := by
  obtain ⟨i, hi, z, hz, hs, hby, hzs⟩ := info33
  have t0 := Try.underlying0; have a0 := Try.isAgg0; have z0 := Try.sizeOf0; have v0 := Try.zeroValue0; have t3 := Try.underlying3; have a3 := Try.isAgg3; have z3 := Try.sizeOf3; have v3 := Try.zeroValue3; have t4 := Try.underlying4; have a4 := Try.isAgg4; have z4 := Try.sizeOf4; have v4 := Try.zeroValue4; have t22 := Try.underlying22; have a22 := Try.isAgg22; have z22 := Try.sizeOf22; have v22 := Try.zeroValue22
  have z33 := Try.sizeOf33; have a33 := Try.isAgg33
  have u0 := run_underlying Try.underlying0; have u3 := run_underlying Try.underlying3; have u4 := run_underlying Try.underlying4; have u22 := run_underlying Try.underlying22
  have hrun : ∀ ty, ∃ v' w', (Builtin.append_ #[22, 22] ty #[u, .slice (some ⟨vb, voff, none⟩) 1 vc]).run Try.prog w = .ok v' w' ∧ w'.ownsRow base 33 19 v' (n + 1) (xs ++ news) ∧ w.grownBy w' u.ownBlock ∧ (v' = .slice none 0 0 ↔ u = .slice none 0 0 ∧ 1 = 0) ∧ (v'.ownBlock = u.ownBlock ∨ v'.ownBlock = some w.heap.size) := fun ty =>
    run_append_own_at w base 22 ty 33 i z 19 240 Try.underlying22 hi hz hs hby hzs (by omega) u n xs hown ⟨vb, voff, none⟩ 1 vc news (by omega) (fun j v hj => by rw [Addr.add_lit]; exact hnews j v hj) h1 (by unfold maxLen; omega) hbig hbase
  obtain ⟨v', w', hr, h2, h3, _, h4⟩ := hrun 22
  rcases hown.2 with ⟨rfl, rfl⟩ | ⟨g, cap, cur, rfl, hbg, hg, hnc, hcm, hcs, htake⟩
  · go_enter Try.func29, Try.ntmps29
    go_wp2_with (at_builtin; refine Lib.wpList_append_run _ rfl _ _ _ _ rfl _ _ rfl rfl _ _ hr ?_)
    all_goals (go_ret; exact ⟨v', rfl, h2, h3, h4⟩)
  · have hcm' : cap ≤ 9223372036854775807 := by unfold maxLen at hcm; omega
    go_enter Try.func29, Try.ntmps29
    go_wp2_with (at_builtin; refine Lib.wpList_append_run _ rfl _ _ _ _ rfl _ _ rfl rfl _ _ hr ?_)
    all_goals (go_ret; exact ⟨v', rfl, h2, h3, h4⟩)
theorem putMid {α : Type} (cur xs news : List α) (a m l : Nat) (h1 : cur.take (a + l) = xs) (h2 : news.length = m) (h3 : xs.length = a + l) (h4 : a + m + l ≤ cur.length) :
    ((((cur.take (a + m) ++ xs.drop a ++ cur.drop (a + m + l)).take a ++ news ++ (cur.take (a + m) ++ xs.drop a ++ cur.drop (a + m + l)).drop (a + m))).take (a + l + m)) = xs.take a ++ news ++ xs.drop a := by
  have e1 : (cur.take (a + m) ++ xs.drop a ++ cur.drop (a + m + l)).take a = xs.take a := by
    rw [List.append_assoc, List.take_append_of_le_length (by simp; omega), List.take_take, ← h1, List.take_take]
    congr 1
    omega
  have e2 : (cur.take (a + m) ++ xs.drop a ++ cur.drop (a + m + l)).drop (a + m) = xs.drop a ++ cur.drop (a + m + l) := by
    rw [List.append_assoc]
    have : (cur.take (a + m)).length = a + m := by simp; omega
    rw [List.drop_append_of_le_length (by omega), List.drop_eq_nil_of_le (by omega), List.nil_append]
  rw [e1, e2, ← List.append_assoc]
  rw [List.take_append_of_le_length (by simp; omega), List.take_of_length_le (by simp; omega)]
set_option maxHeartbeats 4000000 in
set_option maxRecDepth 100000 in
theorem ins_shift (w : World) (base g n cap i : Nat) (cur : Array Value) (xs news : List Value) (vb vc : Nat) (curV : Array Value) (tV : TypeId) (hi : i < n) (hroom : n + 1 ≤ cap) (hcm : cap ≤ maxLen) (hbg : base ≤ g) (hg : w.heap[g]? = some (.cells cur 33 (0, 0))) (hcs : cur.size = cap * 19) (htake : cur.toList.take (n * 19) = xs) (hxl : xs.length = n * 19)
    (hl : news.length = 19) (hgV : w.heap[vb]? = some (.cells curV tV (0, 0))) (hnews : ∀ (j : Nat) v, news[j]? = some v → curV[j]? = some v) (hvb : vb ≠ g) (h1x : ∀ v ∈ xs, v.oneCell' = true) (h1 : ∀ v ∈ news, v.oneCell' = true) :
    Calls Try.prog 29 #[.slice (some ⟨g, 0, none⟩) n cap, .int .i64 i, .slice (some ⟨vb, 0, none⟩) 1 vc] w fun e w' => e = .returned (.slice (some ⟨g, 0, none⟩) (n + 1) cap) ∧
      w'.ownsRow base 33 19 (.slice (some ⟨g, 0, none⟩) (n + 1) cap) (n + 1) (xs.take (i * 19) ++ news ++ xs.drop (i * 19)) ∧ w.grownBy w' (some g) := by
  have t0 := Try.underlying0; have a0 := Try.isAgg0; have z0 := Try.sizeOf0; have v0 := Try.zeroValue0; have t3 := Try.underlying3; have a3 := Try.isAgg3; have z3 := Try.sizeOf3; have v3 := Try.zeroValue3; have t4 := Try.underlying4; have a4 := Try.isAgg4; have z4 := Try.sizeOf4; have v4 := Try.zeroValue4; have t22 := Try.underlying22; have a22 := Try.isAgg22; have z22 := Try.sizeOf22; have v22 := Try.zeroValue22
  have z33 := Try.sizeOf33; have a33 := Try.isAgg33
  have u0 := run_underlying Try.underlying0; have u3 := run_underlying Try.underlying3; have u4 := run_underlying Try.underlying4; have u22 := run_underlying Try.underlying22
  have hcm' : cap ≤ 9223372036854775807 := by unfold maxLen at hcm; omega
  have hsz : (Try.prog.info? 33).map (·.size) = some 19 := by kernel_rfl
  have hz2 : ¬ ((i : Int) = (n : Int)) := by omega
  have hshV : w.shape? vb = some (tV, curV.size) := by simp [World.shape?, hgV]
  have hshG : w.shape? g = some (33, cur.size) := by simp [World.shape?, hg]
  have hfa : ∀ j, w.frozen? ⟨vb, j, none⟩ = false := fun j => by simp [World.frozen?, hgV]
  have hc0 : cur.size ≠ 0 := by rw [hcs]; omega
  have hov : ∀ o lb cb, (callFunc 40 #[.slice (some ⟨vb, 0, none⟩) 1 vc, .slice (some ⟨g, o, none⟩) lb cb]).run Try.prog w = .ok (.value (.bool false)) w := fun o lb cb => by
    rw [run_callFunc_extern Try.func40 (by kernel_rfl) (by kernel_rfl) (by kernel_rfl) (e := Extern.SlicesOverlaps.overlaps #[22, 22] #[4]) (by kernel_rfl),
      Lib.run_overlaps_apart w 22 4 33 Try.underlying22 19 Try.sizeOf33 ⟨vb, 0, none⟩ ⟨g, o, none⟩ 1 vc lb cb hvb tV 33 curV.size cur.size hshV hshG hc0 (hfa 0) (hfa _)]
    rfl
  have mixed : Try.prog.follows .mixedOrders = true := by kernel_rfl
  have hw1 : IntKind.i64.wrap ((i : Int) + 1) = (i : Int) + 1 := by rw [IntKind.wrap_i64]; omega
  have hw2 : IntKind.i64.wrap ((n : Int) + 1) = (n : Int) + 1 := by rw [IntKind.wrap_i64]; omega
  have hb1 : (0 : Int) ≤ (i : Int) + 1 := by omega
  have hin : i ≤ n := by omega
  have htn : ((i : Int) + 1).toNat = i + 1 := by omega
  have htn2 : ((n : Int) + 1).toNat = n + 1 := by omega
  have hb2 : ¬ (cap = i + 1) := by omega
  have hb3 : (i : Int) ≤ (n : Int) + 1 := by omega
  have hb4 : ¬ (cap = i) := by omega
  obtain ⟨cur1, hcur1⟩ : ∃ c : Array Value, c = (cur.toList.take ((i + 1) * 19) ++ xs.drop (i * 19) ++ cur.toList.drop ((i + 1) * 19 + (xs.drop (i * 19)).length)).toArray := ⟨_, rfl⟩
  have hdl : (xs.drop (i * 19)).length = (n - i) * 19 := by rw [List.length_drop, hxl, Nat.sub_mul]
  have hcell : ∀ (W : World), W.heap = w.heap → ∀ j v, cur[j]? = some v → W.cell? ⟨g, j, none⟩ = some v := fun W hW j v hj => by simp [World.cell?, hW, hg, hj]
  have hxcell : ∀ j v, xs[j]? = some v → cur[j]? = some v := fun j v hj => by
    rw [← htake, List.getElem?_take] at hj
    split at hj
    · simpa using hj
    · cases hj
  have hcp1 : ∀ ty dc sc, (Builtin.copy_ #[22, 22] ty #[.slice (some ⟨g, (i + 1) * 19, none⟩) (n - i) dc, .slice (some ⟨g, i * 19, none⟩) (n + 1 - i) sc]).run Try.prog w.drew = .ok (goInt (Nat.min (n + 1 - i) (n - i))) (w.drew.setRow g cur1) := fun ty dc sc => by
    rw [hcur1]
    refine run_copy_rows w.drew 22 22 ty 33 g ((i + 1) * 19) (n - i) dc 19 ⟨g, i * 19, none⟩ (n + 1 - i) sc cur 33 (xs.drop (i * 19)) Try.underlying22 hsz hg (by rw [hdl, show Nat.min (n + 1 - i) (n - i) = n - i from by simp only [Nat.min_def]; split <;> omega]) (fun j v hj => ?_) (by rw [hdl, hcs]; omega) (fun v hv => h1x v (List.mem_of_mem_drop hv))
    rw [Addr.add_lit]
    exact hcell w.drew rfl _ v (hxcell _ v (by rwa [List.getElem?_drop] at hj))
  have hsz1 : cur1.size = cap * 19 := by rw [hcur1]; simp [hdl, hcs]; omega
  have hcp2 : ∀ (W : World), W.heap = (w.drew.setRow g cur1).heap → ∀ ty dc, (Builtin.copy_ #[22, 22] ty #[.slice (some ⟨g, i * 19, none⟩) (n + 1 - i) dc, .slice (some ⟨vb, 0, none⟩) 1 vc]).run Try.prog W = .ok (goInt (Nat.min 1 (n + 1 - i))) (W.setRow g (cur1.toList.take (i * 19) ++ news ++ cur1.toList.drop (i * 19 + news.length)).toArray) := fun W hW ty dc => by
    refine run_copy_rows W 22 22 ty 33 g (i * 19) (n + 1 - i) dc 19 ⟨vb, 0, none⟩ 1 vc cur1 33 news Try.underlying22 hsz (by rw [hW]; exact setRow_heap w.drew g cur cur1 33 _ hg) (by rw [hl, show Nat.min 1 (n + 1 - i) = 1 from by simp only [Nat.min_def]; split <;> omega]) (fun j v hj => ?_) (by rw [hl, hsz1]; omega) h1
    rw [Addr.add_lit]
    have : (w.drew.setRow g cur1).heap[vb]? = w.heap[vb]? := setRow_other w.drew g vb cur1 hvb
    simp [World.cell?, hW, this, hgV, hnews j v hj]
  obtain ⟨cur2, hcur2⟩ : ∃ c : Array Value, c = (cur1.toList.take (i * 19) ++ news ++ cur1.toList.drop (i * 19 + news.length)).toArray := ⟨_, rfl⟩
  rw [← hcur2] at hcp2
  have hmid := putMid cur.toList xs news (i * 19) 19 ((n - i) * 19) (by rw [← Nat.add_mul, show i + (n - i) = n from by omega]; exact htake) hl (by rw [hxl, ← Nat.add_mul, show i + (n - i) = n from by omega]) (by simp [hcs]; omega)
  have e1 : cur1.toList = cur.toList.take (i * 19 + 19) ++ xs.drop (i * 19) ++ cur.toList.drop (i * 19 + 19 + (n - i) * 19) := by
    rw [hcur1, hdl, Nat.add_mul, Nat.one_mul]
  have hfin : ∀ W : World, W.heap = ((w.drew.setRow g cur1).setRow g cur2).heap → W.os = w.os → W.tape = w.tape → W.output = w.output → W.ownsRow base 33 19 (.slice (some ⟨g, 0, none⟩) (n + 1) cap) (n + 1) (xs.take (i * 19) ++ news ++ xs.drop (i * 19)) ∧ w.grownBy W (some g) := by
    intro W hW ho ht hp
    refine ⟨⟨?_, .inr ⟨g, cap, cur2, rfl, hbg, by rw [hW]; exact setRow_heap _ g cur1 cur2 33 _ (setRow_heap w.drew g cur cur1 33 _ hg), hroom, hcm, ?_, ?_⟩⟩, ⟨ho, ht, hp, by rw [hW]; simp [World.setRow], fun k _ hk => ?_⟩⟩
    · simp only [List.length_append, List.length_take, hl, hdl, hxl]
      omega
    · rw [hcur2]
      simp only [List.size_toArray, List.length_append, List.length_take, List.length_drop, Array.length_toList, hl, hsz1]
      omega
    · rw [show (n + 1) * 19 = i * 19 + (n - i) * 19 + 19 from by omega, ← hmid, hcur2, hl, e1]
    · rw [hW, setRow_other _ g k _ (fun e => hk (by rw [e])), setRow_other _ g k _ (fun e => hk (by rw [e]))]
      rfl
  clear hcur1 hcur2 hmid e1 hsz1 hxcell hcell
  go_enter Try.func29, Try.ntmps29
  go_wp2_with (simp only [hov])
  go_region_law_o (refine step_copy_runI rfl _ _ 22 22 rfl _ _ (by simp [Act.eval, Act.put]) (by simp [Act.eval, Act.put]) (hcp1 _ _ _) ?_)
  go_wp2_with (at_builtin; refine wpList_copy_runI _ rfl _ _ 22 22 rfl _ _ rfl rfl (hcp2 _ rfl _ _) ?_)
  go_ret
  exact ⟨rfl, hfin _ rfl rfl rfl rfl⟩
set_option maxHeartbeats 4000000 in
set_option maxRecDepth 100000 in
theorem ins_grow (w : World) (base g n cap i : Nat) (cur : Array Value) (xs news : List Value) (vb vc : Nat) (curV : Array Value) (tV : TypeId) (hi : i < n) (hnc : n ≤ cap) (hroom : cap < n + 1) (hbig : (n + 1) * 240 ≤ 140737488355328) (hg : w.heap[g]? = some (.cells cur 33 (0, 0))) (hcs : cur.size = cap * 19) (htake : cur.toList.take (n * 19) = xs) (hxl : xs.length = n * 19)
    (hl : news.length = 19) (hgV : w.heap[vb]? = some (.cells curV tV (0, 0))) (hnews : ∀ (j : Nat) v, news[j]? = some v → curV[j]? = some v) (h1x : ∀ v ∈ xs, v.oneCell' = true) (h1 : ∀ v ∈ news, v.oneCell' = true) (hbase : base ≤ w.heap.size) :
    Calls Try.prog 29 #[.slice (some ⟨g, 0, none⟩) n cap, .int .i64 i, .slice (some ⟨vb, 0, none⟩) 1 vc] w fun e w' => ∃ G, e = .returned (.slice (some ⟨w.heap.size, 0, none⟩) (n + 1) G) ∧
      w'.ownsRow base 33 19 (.slice (some ⟨w.heap.size, 0, none⟩) (n + 1) G) (n + 1) (xs.take (i * 19) ++ news ++ xs.drop (i * 19)) ∧ w.grownBy w' (some g) := by
  have t0 := Try.underlying0; have a0 := Try.isAgg0; have z0 := Try.sizeOf0; have v0 := Try.zeroValue0; have t3 := Try.underlying3; have a3 := Try.isAgg3; have z3 := Try.sizeOf3; have v3 := Try.zeroValue3; have t4 := Try.underlying4; have a4 := Try.isAgg4; have z4 := Try.sizeOf4; have v4 := Try.zeroValue4; have t22 := Try.underlying22; have a22 := Try.isAgg22; have z22 := Try.sizeOf22; have v22 := Try.zeroValue22
  have z33 := Try.sizeOf33; have a33 := Try.isAgg33
  have u0 := run_underlying Try.underlying0; have u3 := run_underlying Try.underlying3; have u4 := run_underlying Try.underlying4; have u22 := run_underlying Try.underlying22
  obtain ⟨i0, hi0, z, hz, hs, hby, hzs⟩ := info33
  have hsz : (Try.prog.info? 33).map (·.size) = some 19 := by kernel_rfl
  have hz2 : ¬ ((i : Int) = (n : Int)) := by omega
  have hz3 : (cap : Int) < (n : Int) + 1 := by omega
  have mixed : Try.prog.follows .mixedOrders = true := by kernel_rfl
  have hw1 : IntKind.i64.wrap ((i : Int) + 1) = (i : Int) + 1 := by rw [IntKind.wrap_i64]; omega
  have hw2 : IntKind.i64.wrap ((n : Int) + 1) = (n : Int) + 1 := by rw [IntKind.wrap_i64]; omega
  have hb1 : (0 : Int) ≤ (i : Int) + 1 := by omega
  have hin : i ≤ n := by omega
  have htn : ((i : Int) + 1).toNat = i + 1 := by omega
  have hb3 : (i : Int) ≤ (n : Int) := by omega
  have hdl : (xs.drop (i * 19)).length = (n - i) * 19 := by rw [List.length_drop, hxl, Nat.sub_mul]
  have htl : (xs.take (i * 19)).length = i * 19 := by rw [List.length_take, hxl]; omega
  have hgl : g < w.heap.size := (Array.getElem?_eq_some_iff.1 hg).1
  have hvl : vb < w.heap.size := (Array.getElem?_eq_some_iff.1 hgV).1
  have hxcell : ∀ (j : Nat) v, xs[j]? = some v → cur[j]? = some v := fun j v hj => by
    rw [← htake, List.getElem?_take] at hj
    split at hj
    · simpa using hj
    · cases hj
  have hkk : (n : Int) + 1 - (i : Int) = ((n + 1 - i : Nat) : Int) := by omega
  have hik : i + (n + 1 - i) = n + 1 := by omega
  have hold : (Builtin.firstCells i0.size i (.slice (some ⟨g, 0, none⟩) i cap)).run Try.prog w.drew = .ok (xs.take (i * 19)).toArray w.drew := by
    rw [hs]
    exact run_firstCells_some w.drew 19 i ⟨g, 0, none⟩ i cap (xs.take (i * 19)) (by rw [htl]) (fun j v hj => by
      rw [Addr.add_lit]
      rw [List.getElem?_take] at hj
      split at hj
      · simp [World.cell?, hg, hxcell j v hj, show w.drew.heap = w.heap from rfl]
      · cases hj)
  have hrz : ∀ ty, (Builtin.append_ #[22, 3] ty #[.slice (some ⟨g, 0, none⟩) i cap, .int .i64 ((n : Int) + 1 - (i : Int))]).run Try.prog w =
      .ok (.slice (some ⟨w.heap.size, 0, none⟩) (n + 1) (grownCap w (n + 1) cap 33)) (w.drew.alloc (.cells ((xs.take (i * 19)).toArray ++ Builtin.zeroCells z.cells (n + 1 - i) ++ Builtin.zeroCells z.cells (grownCap w (n + 1) cap 33 - (n + 1))) 33)) := fun ty => by
    have h := Lib.run_append_grow_zeros w 22 3 ty 33 i0 z .i64 .i64 Try.underlying22 Try.underlying3 hi0 hz (some ⟨g, 0, none⟩) i cap (xs.take (i * 19)) hold (n + 1 - i) (by omega) (by omega) (by omega) (by omega) (by rw [hby]; omega) (by rw [hby, hik]; exact growslice_fits hroom hbig)
    rw [hik] at h
    rw [hkk]
    exact h
  obtain ⟨G, hG⟩ : ∃ G, G = grownCap w (n + 1) cap 33 := ⟨_, rfl⟩
  obtain ⟨ROW, hROW⟩ : ∃ ROW : Array Value, ROW = (xs.take (i * 19)).toArray ++ Builtin.zeroCells z.cells (n + 1 - i) ++ Builtin.zeroCells z.cells (G - (n + 1)) := ⟨_, rfl⟩
  rw [← hG] at hrz
  rw [← hROW] at hrz
  have hGn : n + 1 ≤ G := by rw [hG]; exact grownCap_ge w _ _ _
  have hGm : G ≤ maxLen := by rw [hG]; exact grownCap_le_maxLen w (n + 1) cap 33 (by unfold maxLen; omega)
  have hG63 : G ≤ 9223372036854775807 := by unfold maxLen at hGm; omega
  have hRl : ROW.size = G * 19 := by
    rw [hROW]
    simp only [Array.size_append, List.size_toArray, htl, size_zeroCells, hzs, ← Nat.add_mul]
    congr 1
    omega
  have hRt : ROW.toList.take (i * 19) = xs.take (i * 19) := by
    rw [hROW]
    simp only [Array.toList_append, List.append_assoc]
    rw [List.take_append_of_le_length (by rw [htl]; exact Nat.le_refl _)]
    rw [List.take_of_length_le (by rw [htl]; exact Nat.le_refl _)]
  obtain ⟨W1, hW1⟩ : ∃ W1, W1 = w.drew.alloc (.cells ROW 33) := ⟨_, rfl⟩
  rw [← hW1] at hrz
  have hN : W1.heap[w.heap.size]? = some (.cells ROW 33 (0, 0)) := by rw [hW1]; exact heap_alloc_new w.drew _
  have hO : ∀ k, k < w.heap.size → W1.heap[k]? = w.heap[k]? := fun k hk => by rw [hW1]; exact heap_alloc_old w.drew _ hk
  obtain ⟨R1, hR1⟩ : ∃ c : Array Value, c = (ROW.toList.take (i * 19) ++ news ++ ROW.toList.drop (i * 19 + news.length)).toArray := ⟨_, rfl⟩
  have hR1s : R1.size = G * 19 := by rw [hR1]; simp [hl, hRl]; omega
  have hcpA : ∀ (W : World), W.heap = W1.heap → ∀ ty dc, (Builtin.copy_ #[22, 22] ty #[.slice (some ⟨w.heap.size, i * 19, none⟩) (n + 1 - i) dc, .slice (some ⟨vb, 0, none⟩) 1 vc]).run Try.prog W = .ok (goInt (Nat.min 1 (n + 1 - i))) (W.setRow w.heap.size R1) := fun W hW ty dc => by
    rw [hR1]
    refine run_copy_rows W 22 22 ty 33 w.heap.size (i * 19) (n + 1 - i) dc 19 ⟨vb, 0, none⟩ 1 vc ROW 33 news Try.underlying22 hsz (by rw [hW]; exact hN) (by rw [hl, show Nat.min 1 (n + 1 - i) = 1 from by simp only [Nat.min_def]; split <;> omega]) (fun j v hj => ?_) (by rw [hl, hRl]; omega) h1
    rw [Addr.add_lit]
    simp [World.cell?, hW, hO vb hvl, hgV, hnews j v hj]
  have hcpB : ∀ (W : World), W.heap = (W1.setRow w.heap.size R1).heap → ∀ ty dc sc, (Builtin.copy_ #[22, 22] ty #[.slice (some ⟨w.heap.size, (i + 1) * 19, none⟩) (n - i) dc, .slice (some ⟨g, i * 19, none⟩) (n - i) sc]).run Try.prog W = .ok (goInt (Nat.min (n - i) (n - i))) (W.setRow w.heap.size (R1.toList.take ((i + 1) * 19) ++ xs.drop (i * 19) ++ R1.toList.drop ((i + 1) * 19 + (xs.drop (i * 19)).length)).toArray) := fun W hW ty dc sc => by
    refine run_copy_rows W 22 22 ty 33 w.heap.size ((i + 1) * 19) (n - i) dc 19 ⟨g, i * 19, none⟩ (n - i) sc R1 33 (xs.drop (i * 19)) Try.underlying22 hsz (by rw [hW]; exact setRow_heap W1 _ ROW R1 33 _ hN) (by rw [hdl]; simp) (fun j v hj => ?_) (by rw [hdl, hR1s]; omega) (fun v hv => h1x v (List.mem_of_mem_drop hv))
    rw [Addr.add_lit]
    have : (W1.setRow w.heap.size R1).heap[g]? = w.heap[g]? := (setRow_other W1 _ g R1 (by omega)).trans (hO g hgl)
    rw [List.getElem?_drop] at hj
    simp [World.cell?, hW, this, hg, hxcell _ v hj]
  have hGi : ¬ (G = i) := by omega
  have hGim : ¬ (G = i + 1) := by omega
  have hci : ¬ (cap = i) := by omega
  have hE1 : ((w.alloc (.cells ROW 33)).drew).heap = W1.heap := by rw [hW1]; rfl
  have hF1 : (((w.alloc (.cells ROW 33)).drew.setRow w.heap.size R1).drew).heap = (W1.setRow w.heap.size R1).heap := by rw [hW1]; rfl
  obtain ⟨R2, hR2⟩ : ∃ c : Array Value, c = (R1.toList.take ((i + 1) * 19) ++ xs.drop (i * 19) ++ R1.toList.drop ((i + 1) * 19 + (xs.drop (i * 19)).length)).toArray := ⟨_, rfl⟩
  rw [← hR2] at hcpB
  have hfin : ∀ W : World, W.heap = ((W1.setRow w.heap.size R1).setRow w.heap.size R2).heap → W.os = w.os → W.tape = w.tape → W.output = w.output → W.ownsRow base 33 19 (.slice (some ⟨w.heap.size, 0, none⟩) (n + 1) G) (n + 1) (xs.take (i * 19) ++ news ++ xs.drop (i * 19)) ∧ w.grownBy W (some g) := by
    intro W hW ho ht hp
    refine ⟨⟨?_, .inr ⟨w.heap.size, G, R2, rfl, hbase, by rw [hW]; exact setRow_heap _ _ R1 R2 33 _ (setRow_heap W1 _ ROW R1 33 _ hN), hGn, hGm, ?_, ?_⟩⟩, ⟨ho, ht, hp, by rw [hW, hW1]; simp [World.setRow], fun k hk _ => ?_⟩⟩
    · simp only [List.length_append, List.length_take, hl, hdl, hxl]
      omega
    · rw [hR2]
      simp only [List.size_toArray, List.length_append, List.length_take, List.length_drop, Array.length_toList, hdl, hR1s]
      omega
    · have h1 : (R1.toList.take ((i + 1) * 19)) = xs.take (i * 19) ++ news := by
        rw [hR1]
        simp only [hRt]
        rw [List.take_append_of_le_length (by simp [htl, hl]; omega), List.take_of_length_le (by simp [htl, hl]; omega)]
      rw [hR2]
      simp only [h1]
      rw [List.take_append_of_le_length (by simp [htl, hl, hdl]; omega), List.take_of_length_le (by simp [htl, hl, hdl]; omega)]
    · rw [hW, setRow_other _ _ k _ (by omega), setRow_other _ _ k _ (by omega), hO k hk]
  subst hW1
  clear hkk hik hold hROW hG hRl hR2 hR1 hRt hR1s hxcell hN hO
  go_enter Try.func29, Try.ntmps29
  go_wp2_with (first
    | (at_builtin; refine Lib.wpList_append_run _ rfl _ _ _ _ rfl _ _ rfl rfl _ _ (hrz _) ?_)
    | (at_builtin; refine wpList_copy_runI _ rfl _ _ 22 22 rfl _ _ rfl rfl (hcpA _ hE1 _ _) ?_)
    | (at_builtin; refine wpList_copy_runI _ rfl _ _ 22 22 rfl _ _ rfl rfl (hcpB _ rfl _ _ _) ?_))
  go_region_law_o (refine step_copy_runI rfl _ _ 22 22 rfl (.slice (some ⟨w.heap.size, (i + 1) * 19, none⟩) (n - i) (G - (i + 1))) (.slice (some ⟨g, i * 19, none⟩) (n - i) (cap - i)) (by simp [Act.eval, Act.put]) (by simp [Act.eval, Act.put]) (hcpB _ hF1 3 (G - (i + 1)) (cap - i)) ?_)
  go_wp2
  go_ret
  exact ⟨_, rfl, hfin _ rfl rfl rfl rfl⟩
end Go.Proofs.Ytlmbgmobghmmmaa
