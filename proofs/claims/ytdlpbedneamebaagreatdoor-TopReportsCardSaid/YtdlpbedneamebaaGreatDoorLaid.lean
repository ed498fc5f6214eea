/-
  The library functions that are taken by their contracts: what the contracts ask of this program.
-/
import Derived.Shelf.LaysM
import Derived.Shelf.Strconv.Itoa3
import Derived.Shelf.Strconv.AppendIntPublic10
import Derived.Shelf.Slices.Reverse
import Derived.Ground.NamesProg
import Derived.Test.YtdlpbedneamebaaGreatDoorProg
import Derived.Test.YtdlpbedneamebaaGreatDoorVmR
import Derived.WalkKit
import Derived.Lib.Walk
import Derived.Lib.SliceRun
import Derived.Lib.AppendZerosOnto
import Derived.Lib.Overlaps
import Derived.Maps.AppendAt
import Derived.Laws.Externs
import Derived.KernelRfl
namespace Go.Proofs
open Go.Shelf
def Tryz.laysM171_ren : Go.Shelf.Ren := ⟨fun | 171 => 203 | 243 => 225 | 246 => 243 | 283 => 265 | 284 => 266 | 285 => 267 | 286 => 268 | 129 => 124 | 317 => 284 | 318 => 285 | 319 => 286 | 320 => 287 | 337 => 300 | 338 => 301 | n => n, fun | 3 => 3 | 9 => 9 | 2 => 2 | 4 => 4 | 171 => 313 | 0 => 0 | 53 => 57 | 37 => 274 | 5 => 5 | 173 => 315 | 212 => 334 | 51 => 187 | 20 => 20 | 213 => 335 | 46 => 140 | 232 => 362 | 233 => 363 | n => n, fun | 17 => 0 | 18 => 2 | 19 => 3 | n => n⟩
theorem Tryz.laysM171 : Go.Proofs.LaysM.n171 Tryz.prog Tryz.laysM171_ren := {
  mixed := by kernel_rfl
  f129 := Tryz.func124.trans (congrArg some (by kernel_rfl))
  f171 := Tryz.func203.trans (congrArg some (by kernel_rfl))
  f243 := Tryz.func225.trans (congrArg some (by kernel_rfl))
  f246 := Tryz.func243.trans (congrArg some (by kernel_rfl))
  f283 := Tryz.func265.trans (congrArg some (by kernel_rfl))
  f284 := Tryz.func266.trans (congrArg some (by kernel_rfl))
  f285 := Tryz.func267.trans (congrArg some (by kernel_rfl))
  f286 := Tryz.func268.trans (congrArg some (by kernel_rfl))
  f317 := Tryz.func284.trans (congrArg some (by kernel_rfl))
  f318 := Tryz.func285.trans (congrArg some (by kernel_rfl))
  f319 := Tryz.func286.trans (congrArg some (by kernel_rfl))
  f320 := Tryz.func287.trans (congrArg some (by kernel_rfl))
  f337 := Tryz.func300.trans (congrArg some (by kernel_rfl))
  f338 := Tryz.func301.trans (congrArg some (by kernel_rfl))
  t0 := Tryz.underlying0
  a0 := Tryz.isAgg0
  z0 := Tryz.sizeOf0
  v0 := Tryz.zeroValue0
  t2 := Tryz.underlying2
  a2 := Tryz.isAgg2
  z2 := Tryz.sizeOf2
  v2 := Tryz.zeroValue2
  t3 := Tryz.underlying3
  a3 := Tryz.isAgg3
  z3 := Tryz.sizeOf3
  v3 := Tryz.zeroValue3
  t4 := Tryz.underlying4
  a4 := Tryz.isAgg4
  z4 := Tryz.sizeOf4
  v4 := Tryz.zeroValue4
  t5 := Tryz.underlying5
  a5 := Tryz.isAgg5
  z5 := Tryz.sizeOf5
  v5 := Tryz.zeroValue5
  t9 := Tryz.underlying9
  a9 := Tryz.isAgg9
  z9 := Tryz.sizeOf9
  v9 := Tryz.zeroValue9
  t20 := Tryz.underlying20
  a20 := Tryz.isAgg20
  z20 := Tryz.sizeOf20
  v20 := Tryz.zeroValue20
  t37 := Tryz.underlying274
  a37 := Tryz.isAgg274
  z37 := Tryz.sizeOf274
  v37 := Tryz.zeroValue274
  t46 := Tryz.underlying140
  a46 := Tryz.isAgg140
  z46 := Tryz.sizeOf140
  v46 := Tryz.zeroValue140
  t51 := Tryz.underlying187
  a51 := Tryz.isAgg187
  z51 := Tryz.sizeOf187
  v51 := Tryz.zeroValue187
  t53 := Tryz.underlying57
  a53 := Tryz.isAgg57
  z53 := Tryz.sizeOf57
  v53 := Tryz.zeroValue57
  t171 := Tryz.underlying313
  a171 := Tryz.isAgg313
  z171 := Tryz.sizeOf313
  v171 := Tryz.zeroValue313
  t173 := Tryz.underlying315
  a173 := Tryz.isAgg315
  z173 := Tryz.sizeOf315
  v173 := Tryz.zeroValue315
  t212 := Tryz.underlying334
  a212 := Tryz.isAgg334
  z212 := Tryz.sizeOf334
  v212 := Tryz.zeroValue334
  t213 := Tryz.underlying335
  a213 := Tryz.isAgg335
  z213 := Tryz.sizeOf335
  t232 := Tryz.underlying362
  a232 := Tryz.isAgg362
  z232 := Tryz.sizeOf362
  v232 := Tryz.zeroValue362
  t233 := Tryz.underlying363
  a233 := Tryz.isAgg363
  z233 := Tryz.sizeOf363
  v233 := Tryz.zeroValue363
  g17 := by kernel_rfl
  g18 := by kernel_rfl
  g19 := by kernel_rfl
  i0 := by kernel_rfl
  i2 := by kernel_rfl
  i3 := by kernel_rfl
  i4 := by kernel_rfl
  i5 := by kernel_rfl
  i9 := by kernel_rfl
  i20 := by kernel_rfl
  i37 := by kernel_rfl
  i46 := by kernel_rfl
  i51 := by kernel_rfl
  i53 := by kernel_rfl
  i171 := by kernel_rfl
  i173 := by kernel_rfl
  i212 := by kernel_rfl
  i232 := by kernel_rfl
  i233 := by kernel_rfl
  m17 := by kernel_rfl
  m18 := by kernel_rfl
  m19 := by kernel_rfl }
def Tryz.laysM176_ren : Go.Shelf.Ren := ⟨fun | 176 => 202 | 249 => 224 | 288 => 242 | 283 => 265 | 284 => 266 | 285 => 267 | 286 => 268 | 129 => 124 | 317 => 284 | 318 => 285 | 319 => 286 | 320 => 287 | 337 => 300 | 338 => 301 | n => n, fun | 37 => 274 | 2 => 2 | 3 => 3 | 53 => 57 | 4 => 4 | 9 => 9 | 171 => 313 | 0 => 0 | 173 => 315 | 212 => 334 | 51 => 187 | 5 => 5 | 20 => 20 | 213 => 335 | 46 => 140 | 232 => 362 | 233 => 363 | n => n, fun | 17 => 0 | 18 => 2 | 19 => 3 | n => n⟩
theorem Tryz.laysM176 : Go.Proofs.LaysM.n176 Tryz.prog Tryz.laysM176_ren := {
  mixed := by kernel_rfl
  f129 := Tryz.func124.trans (congrArg some (by kernel_rfl))
  f176 := Tryz.func202.trans (congrArg some (by kernel_rfl))
  f249 := Tryz.func224.trans (congrArg some (by kernel_rfl))
  f283 := Tryz.func265.trans (congrArg some (by kernel_rfl))
  f284 := Tryz.func266.trans (congrArg some (by kernel_rfl))
  f285 := Tryz.func267.trans (congrArg some (by kernel_rfl))
  f286 := Tryz.func268.trans (congrArg some (by kernel_rfl))
  f288 := Tryz.func242.trans (congrArg some (by kernel_rfl))
  f317 := Tryz.func284.trans (congrArg some (by kernel_rfl))
  f318 := Tryz.func285.trans (congrArg some (by kernel_rfl))
  f319 := Tryz.func286.trans (congrArg some (by kernel_rfl))
  f320 := Tryz.func287.trans (congrArg some (by kernel_rfl))
  f337 := Tryz.func300.trans (congrArg some (by kernel_rfl))
  f338 := Tryz.func301.trans (congrArg some (by kernel_rfl))
  t0 := Tryz.underlying0
  a0 := Tryz.isAgg0
  z0 := Tryz.sizeOf0
  v0 := Tryz.zeroValue0
  t2 := Tryz.underlying2
  a2 := Tryz.isAgg2
  z2 := Tryz.sizeOf2
  v2 := Tryz.zeroValue2
  t3 := Tryz.underlying3
  a3 := Tryz.isAgg3
  z3 := Tryz.sizeOf3
  v3 := Tryz.zeroValue3
  t4 := Tryz.underlying4
  a4 := Tryz.isAgg4
  z4 := Tryz.sizeOf4
  v4 := Tryz.zeroValue4
  t5 := Tryz.underlying5
  a5 := Tryz.isAgg5
  z5 := Tryz.sizeOf5
  v5 := Tryz.zeroValue5
  t9 := Tryz.underlying9
  a9 := Tryz.isAgg9
  z9 := Tryz.sizeOf9
  v9 := Tryz.zeroValue9
  t20 := Tryz.underlying20
  a20 := Tryz.isAgg20
  z20 := Tryz.sizeOf20
  v20 := Tryz.zeroValue20
  t37 := Tryz.underlying274
  a37 := Tryz.isAgg274
  z37 := Tryz.sizeOf274
  v37 := Tryz.zeroValue274
  t46 := Tryz.underlying140
  a46 := Tryz.isAgg140
  z46 := Tryz.sizeOf140
  v46 := Tryz.zeroValue140
  t51 := Tryz.underlying187
  a51 := Tryz.isAgg187
  z51 := Tryz.sizeOf187
  v51 := Tryz.zeroValue187
  t53 := Tryz.underlying57
  a53 := Tryz.isAgg57
  z53 := Tryz.sizeOf57
  v53 := Tryz.zeroValue57
  t171 := Tryz.underlying313
  a171 := Tryz.isAgg313
  z171 := Tryz.sizeOf313
  v171 := Tryz.zeroValue313
  t173 := Tryz.underlying315
  a173 := Tryz.isAgg315
  z173 := Tryz.sizeOf315
  v173 := Tryz.zeroValue315
  t212 := Tryz.underlying334
  a212 := Tryz.isAgg334
  z212 := Tryz.sizeOf334
  v212 := Tryz.zeroValue334
  t213 := Tryz.underlying335
  a213 := Tryz.isAgg335
  z213 := Tryz.sizeOf335
  t232 := Tryz.underlying362
  a232 := Tryz.isAgg362
  z232 := Tryz.sizeOf362
  v232 := Tryz.zeroValue362
  t233 := Tryz.underlying363
  a233 := Tryz.isAgg363
  z233 := Tryz.sizeOf363
  v233 := Tryz.zeroValue363
  g17 := by kernel_rfl
  g18 := by kernel_rfl
  g19 := by kernel_rfl
  i0 := by kernel_rfl
  i2 := by kernel_rfl
  i3 := by kernel_rfl
  i4 := by kernel_rfl
  i5 := by kernel_rfl
  i9 := by kernel_rfl
  i20 := by kernel_rfl
  i37 := by kernel_rfl
  i46 := by kernel_rfl
  i51 := by kernel_rfl
  i53 := by kernel_rfl
  i171 := by kernel_rfl
  i173 := by kernel_rfl
  i212 := by kernel_rfl
  i232 := by kernel_rfl
  i233 := by kernel_rfl
  m17 := by kernel_rfl
  m18 := by kernel_rfl
  m19 := by kernel_rfl }
def Tryz.lays112_ren : Go.Shelf.Ren := ⟨fun | 112 => 184 | n => n, fun | 28 => 39 | 3 => 3 | 4 => 4 | 0 => 0 | n => n, fun | n => n⟩
theorem Tryz.lays112 : Go.Proofs.Lays.n112 Tryz.prog Tryz.lays112_ren := {
  mixed := by kernel_rfl
  f112 := Tryz.func184.trans (congrArg some (by kernel_rfl))
  t0 := Tryz.underlying0
  a0 := Tryz.isAgg0
  z0 := Tryz.sizeOf0
  v0 := Tryz.zeroValue0
  t3 := Tryz.underlying3
  a3 := Tryz.isAgg3
  z3 := Tryz.sizeOf3
  v3 := Tryz.zeroValue3
  t4 := Tryz.underlying4
  a4 := Tryz.isAgg4
  z4 := Tryz.sizeOf4
  v4 := Tryz.zeroValue4
  t28 := Tryz.underlying39
  a28 := Tryz.isAgg39
  z28 := Tryz.sizeOf39
  v28 := Tryz.zeroValue39 }
end Go.Proofs
namespace Go.Proofs.YtdlpbedneamebaaGreatDoor
open Go.VM Go.RowKit Go.Lib
set_option linter.unusedSectionVars false
variable [Glob]
theorem reps_one {S : Nat → Prop} {w : World} {vs : List Value} {es : List V} (h : Reps S w vs (flatc es)) (hc : ∀ x ∈ flatc es, x.cell = true) : ∀ v ∈ vs, v.oneCell' = true := by
  intro v hv
  obtain ⟨j, hj⟩ := List.getElem?_of_mem hv
  have hl : j < (flatc es).length := by rw [← h.1]; exact (List.getElem?_eq_some_iff.1 hj).1
  exact (h.2 j v _ hj (List.getElem?_eq_getElem hl)).oneCell (hc _ (List.getElem_mem hl))
theorem info122 : ∃ i : TypeInfo, Tryz.prog.info? 122 = some i ∧ ∃ z, i.zero = some z ∧ i.size = 2 ∧ i.bytes = 24 ∧ z.cells.size = 2 := ⟨Tryz.t122, by kernel_rfl, Tryz.t122.zero.getD undef, by kernel_rfl, by kernel_rfl, by kernel_rfl, by kernel_rfl⟩
set_option maxHeartbeats 4000000 in
set_option maxRecDepth 100000 in
theorem ins97_end (w : World) (base : Nat) (u : Value) (n : Nat) (xs news : List Value) (vb voff vc : Nat) (hown : w.ownsRow base 122 2 u n xs) (hl : news.length = 2) (hnews : ∀ (j : Nat) v, news[j]? = some v → w.cell? ⟨vb, voff + j, none⟩ = some v) (h1 : ∀ v ∈ news, v.oneCell' = true)
    (hbig : (n + 1) * 24 ≤ 140737488355328) (hbase : base ≤ w.heap.size) :
    Calls Tryz.prog 97 #[u, .int .i64 n, .slice (some ⟨vb, voff, none⟩) 1 vc] w fun e w' => ∃ v', e = .returned v' ∧ w'.ownsRow base 122 2 v' (n + 1) (xs ++ news) ∧ w.grownBy w' u.ownBlock ∧ (v'.ownBlock = u.ownBlock ∨ v'.ownBlock = some w.heap.size) := by
  obtain ⟨i, hi, z, hz, hs, hby, hzs⟩ := info122
  have t0 := Tryz.underlying0; have a0 := Tryz.isAgg0; have z0 := Tryz.sizeOf0; have v0 := Tryz.zeroValue0; have t3 := Tryz.underlying3; have a3 := Tryz.isAgg3; have z3 := Tryz.sizeOf3; have v3 := Tryz.zeroValue3; have t4 := Tryz.underlying4; have a4 := Tryz.isAgg4; have z4 := Tryz.sizeOf4; have v4 := Tryz.zeroValue4; have t119 := Tryz.underlying119; have a119 := Tryz.isAgg119; have z119 := Tryz.sizeOf119; have v119 := Tryz.zeroValue119
  have z122 := Tryz.sizeOf122; have a122 := Tryz.isAgg122
  have u0 := run_underlying Tryz.underlying0; have u3 := run_underlying Tryz.underlying3; have u4 := run_underlying Tryz.underlying4; have u119 := run_underlying Tryz.underlying119
  have hrun : ∀ ty, ∃ v' w', (Builtin.append_ #[119, 119] ty #[u, .slice (some ⟨vb, voff, none⟩) 1 vc]).run Tryz.prog w = .ok v' w' ∧ w'.ownsRow base 122 2 v' (n + 1) (xs ++ news) ∧ w.grownBy w' u.ownBlock ∧ (v' = .slice none 0 0 ↔ u = .slice none 0 0 ∧ 1 = 0) ∧ (v'.ownBlock = u.ownBlock ∨ v'.ownBlock = some w.heap.size) := fun ty =>
    run_append_own_at w base 119 ty 122 i z 2 24 Tryz.underlying119 hi hz hs hby hzs (by omega) u n xs hown ⟨vb, voff, none⟩ 1 vc news (by omega) (fun j v hj => by rw [Addr.add_lit]; exact hnews j v hj) h1 (by unfold maxLen; omega) hbig hbase
  obtain ⟨v', w', hr, h2, h3, _, h4⟩ := hrun 119
  rcases hown.2 with ⟨rfl, rfl⟩ | ⟨g, cap, cur, rfl, hbg, hg, hnc, hcm, hcs, htake⟩
  · go_enter Tryz.func97, Tryz.ntmps97
    go_wp2_with (at_builtin; refine Lib.wpList_append_run _ rfl _ _ _ _ rfl _ _ rfl rfl _ _ hr ?_)
    all_goals (go_ret; exact ⟨v', rfl, h2, h3, h4⟩)
  · have hcm' : cap ≤ 9223372036854775807 := by unfold maxLen at hcm; omega
    go_enter Tryz.func97, Tryz.ntmps97
    go_wp2_with (at_builtin; refine Lib.wpList_append_run _ rfl _ _ _ _ rfl _ _ rfl rfl _ _ hr ?_)
    all_goals (go_ret; exact ⟨v', rfl, h2, h3, h4⟩)
theorem cells122 : Tryz.prog.cellsOf 122 = 2 := by kernel_rfl
theorem ins97_PFM (es xs es' : List V) (h : endRun 122 es xs = some es') : PFM Tryz.prog 97 122 true false es xs es' := by
  unfold endRun at h
  split at h
  · rename_i i e' p
    split at h
    · rename_i hc
      obtain ⟨rfl, rfl, hlen⟩ := hc
      simp only [Option.some.injEq] at h
      subst h
      intro S w base u vs us hS hG hB hown hk hcl hr hng hus _
      obtain ⟨ui, uv, rfl⟩ : ∃ ui uv, us = [ui, uv] := by
        match us, hus with
        | [a, b], _ => exact ⟨a, b, rfl⟩
        | [], h => exact absurd h.1 (by simp)
        | [_], h => exact absurd h.1 (by simp)
        | _ :: _ :: _ :: _, h => exact absurd h.1 (by simp)
      have hui : ui = .int .i64 es.length := by
        have h1 : Rep S w ui (.i .i64 es.length) := hus.head
        cases h1; rfl
      subst hui
      obtain ⟨⟨vs', hvo, hvk, hvc, hvr⟩, _, hne⟩ : Arg1 Tryz.prog S w base u uv (.ow 122 [p]) := hus.tail.head
      rw [cells122] at hown hk hvo hvk
      rcases hvo.2 with ⟨_, h0⟩ | ⟨g2, cap2, cur2, rfl, hbg2, hg2, hnc2, hcm2, hcs2, htk2⟩
      · cases h0
      have hl : vs'.length = 2 := hvo.1
      have h1 := reps_one hvr hvc
      have hnews : ∀ (j : Nat) v, vs'[j]? = some v → cur2[j]? = some v := fun j v hj => by
        rw [← htk2, List.getElem?_take] at hj
        split at hj
        · simpa using hj
        · cases hj
      refine (ins97_end w base u es.length vs vs' g2 0 cap2 hown hl (fun j v hj => by simp [World.cell?, hg2, hnews j v hj]) h1 (by omega) hB).mono fun ex w' ⟨v', he, ho, hg, hb⟩ => ?_
      refine ⟨_, v', vs ++ vs', he, hg, hb, ?_, fun x hx => ?_, fun x hx => ?_, ?_, rfl⟩
      · rw [List.length_append, cells122]; exact ho
      · rw [cells122]
        rcases List.mem_append.1 hx with hx | hx
        · exact hk x hx
        · exact hvk x hx
      · rw [flatc_append] at hx
        rcases List.mem_append.1 hx with hx | hx
        · exact hcl x hx
        · exact hvc x hx
      · rw [flatc_append]; exact hr.append hvr
    · cases h
  · cases h
theorem info61 : ∃ i : TypeInfo, Tryz.prog.info? 61 = some i ∧ ∃ z, i.zero = some z ∧ i.size = 3 ∧ i.bytes = 32 ∧ z.cells.size = 3 := ⟨Tryz.t61, by kernel_rfl, Tryz.t61.zero.getD undef, by kernel_rfl, by kernel_rfl, by kernel_rfl, by kernel_rfl⟩
set_option maxHeartbeats 4000000 in
set_option maxRecDepth 100000 in
theorem ins150_end (w : World) (base : Nat) (u : Value) (n : Nat) (xs news : List Value) (vb voff vc : Nat) (hown : w.ownsRow base 61 3 u n xs) (hl : news.length = 3) (hnews : ∀ (j : Nat) v, news[j]? = some v → w.cell? ⟨vb, voff + j, none⟩ = some v) (h1 : ∀ v ∈ news, v.oneCell' = true)
    (hbig : (n + 1) * 32 ≤ 140737488355328) (hbase : base ≤ w.heap.size) :
    Calls Tryz.prog 150 #[u, .int .i64 n, .slice (some ⟨vb, voff, none⟩) 1 vc] w fun e w' => ∃ v', e = .returned v' ∧ w'.ownsRow base 61 3 v' (n + 1) (xs ++ news) ∧ w.grownBy w' u.ownBlock ∧ (v'.ownBlock = u.ownBlock ∨ v'.ownBlock = some w.heap.size) := by
  obtain ⟨i, hi, z, hz, hs, hby, hzs⟩ := info61
  have t0 := Tryz.underlying0; have a0 := Tryz.isAgg0; have z0 := Tryz.sizeOf0; have v0 := Tryz.zeroValue0; have t3 := Tryz.underlying3; have a3 := Tryz.isAgg3; have z3 := Tryz.sizeOf3; have v3 := Tryz.zeroValue3; have t4 := Tryz.underlying4; have a4 := Tryz.isAgg4; have z4 := Tryz.sizeOf4; have v4 := Tryz.zeroValue4; have t56 := Tryz.underlying56; have a56 := Tryz.isAgg56; have z56 := Tryz.sizeOf56; have v56 := Tryz.zeroValue56
  have z61 := Tryz.sizeOf61; have a61 := Tryz.isAgg61
  have u0 := run_underlying Tryz.underlying0; have u3 := run_underlying Tryz.underlying3; have u4 := run_underlying Tryz.underlying4; have u56 := run_underlying Tryz.underlying56
  have hrun : ∀ ty, ∃ v' w', (Builtin.append_ #[56, 56] ty #[u, .slice (some ⟨vb, voff, none⟩) 1 vc]).run Tryz.prog w = .ok v' w' ∧ w'.ownsRow base 61 3 v' (n + 1) (xs ++ news) ∧ w.grownBy w' u.ownBlock ∧ (v' = .slice none 0 0 ↔ u = .slice none 0 0 ∧ 1 = 0) ∧ (v'.ownBlock = u.ownBlock ∨ v'.ownBlock = some w.heap.size) := fun ty =>
    run_append_own_at w base 56 ty 61 i z 3 32 Tryz.underlying56 hi hz hs hby hzs (by omega) u n xs hown ⟨vb, voff, none⟩ 1 vc news (by omega) (fun j v hj => by rw [Addr.add_lit]; exact hnews j v hj) h1 (by unfold maxLen; omega) hbig hbase
  obtain ⟨v', w', hr, h2, h3, _, h4⟩ := hrun 56
  rcases hown.2 with ⟨rfl, rfl⟩ | ⟨g, cap, cur, rfl, hbg, hg, hnc, hcm, hcs, htake⟩
  · go_enter Tryz.func150, Tryz.ntmps150
    go_wp2_with (at_builtin; refine Lib.wpList_append_run _ rfl _ _ _ _ rfl _ _ rfl rfl _ _ hr ?_)
    all_goals (go_ret; exact ⟨v', rfl, h2, h3, h4⟩)
  · have hcm' : cap ≤ 9223372036854775807 := by unfold maxLen at hcm; omega
    go_enter Tryz.func150, Tryz.ntmps150
    go_wp2_with (at_builtin; refine Lib.wpList_append_run _ rfl _ _ _ _ rfl _ _ rfl rfl _ _ hr ?_)
    all_goals (go_ret; exact ⟨v', rfl, h2, h3, h4⟩)
theorem cells61 : Tryz.prog.cellsOf 61 = 3 := by kernel_rfl
theorem ins150_PFM (es xs es' : List V) (h : endRun 61 es xs = some es') : PFM Tryz.prog 150 61 true false es xs es' := by
  unfold endRun at h
  split at h
  · rename_i i e' p
    split at h
    · rename_i hc
      obtain ⟨rfl, rfl, hlen⟩ := hc
      simp only [Option.some.injEq] at h
      subst h
      intro S w base u vs us hS hG hB hown hk hcl hr hng hus _
      obtain ⟨ui, uv, rfl⟩ : ∃ ui uv, us = [ui, uv] := by
        match us, hus with
        | [a, b], _ => exact ⟨a, b, rfl⟩
        | [], h => exact absurd h.1 (by simp)
        | [_], h => exact absurd h.1 (by simp)
        | _ :: _ :: _ :: _, h => exact absurd h.1 (by simp)
      have hui : ui = .int .i64 es.length := by
        have h1 : Rep S w ui (.i .i64 es.length) := hus.head
        cases h1; rfl
      subst hui
      obtain ⟨⟨vs', hvo, hvk, hvc, hvr⟩, _, hne⟩ : Arg1 Tryz.prog S w base u uv (.ow 61 [p]) := hus.tail.head
      rw [cells61] at hown hk hvo hvk
      rcases hvo.2 with ⟨_, h0⟩ | ⟨g2, cap2, cur2, rfl, hbg2, hg2, hnc2, hcm2, hcs2, htk2⟩
      · cases h0
      have hl : vs'.length = 3 := hvo.1
      have h1 := reps_one hvr hvc
      have hnews : ∀ (j : Nat) v, vs'[j]? = some v → cur2[j]? = some v := fun j v hj => by
        rw [← htk2, List.getElem?_take] at hj
        split at hj
        · simpa using hj
        · cases hj
      refine (ins150_end w base u es.length vs vs' g2 0 cap2 hown hl (fun j v hj => by simp [World.cell?, hg2, hnews j v hj]) h1 (by omega) hB).mono fun ex w' ⟨v', he, ho, hg, hb⟩ => ?_
      refine ⟨_, v', vs ++ vs', he, hg, hb, ?_, fun x hx => ?_, fun x hx => ?_, ?_, rfl⟩
      · rw [List.length_append, cells61]; exact ho
      · rw [cells61]
        rcases List.mem_append.1 hx with hx | hx
        · exact hk x hx
        · exact hvk x hx
      · rw [flatc_append] at hx
        rcases List.mem_append.1 hx with hx | hx
        · exact hcl x hx
        · exact hvc x hx
      · rw [flatc_append]; exact hr.append hvr
    · cases h
  · cases h
end Go.Proofs.YtdlpbedneamebaaGreatDoor
