/-
  The law's loops: the amounts of all roots are nothing; a row's amount is the sum of its parts'.
-/
import Derived.Test.YtmhbkofbbkogeaaGreatLaw
namespace Go.Proofs.YtmhbkofbbkogeaaGreat
open Go.VM
theorem makeW_ok {b : Books} {l : List Row} {bk : Int} (hc : chk b l = 0) (hb : ∀ i, i < l.length → rowBad b l bk i = none) : makeW b l bk = .t [.l (encX (cellsOfL b l bk)), .i .i64 0] := by
  unfold makeW
  rw [if_pos hc, range_find_none.2 hb]
theorem makeW_bad {b : Books} {l : List Row} {bk : Int} (h : ¬ (chk b l = 0 ∧ ∀ i, i < l.length → rowBad b l bk i = none)) : ∃ e : Int, e ≠ 0 ∧ makeW b l bk = .t [.l [], .i .i64 e] ∧ (chk b l = 0 → e = 6) := by
  unfold makeW
  by_cases hc : chk b l = 0
  · rw [if_pos hc]
    cases hq : (List.range l.length).findSome? (rowBad b l bk) with
    | none => exact absurd ⟨hc, range_find_none.1 hq⟩ h
    | some u => exact ⟨6, by decide, rfl, fun _ => rfl⟩
  · rw [if_neg hc]
    exact ⟨chk b l, hc, rfl, fun h => absurd h hc⟩
theorem cells_one (b : Books) (r : Row) (bk : Int) : cellsOfL b [r] bk = rowCells b bk r := by simp [cellsOfL]
theorem cells_get {b : Books} {r : Row} {bk : Int} {i : Nat} (hi : i < b.currencies.length) : (rowCells b bk r)[i]? = some (cellOf b r bk b.currencies[i]) := by simp [rowCells, hi]
section
variable (b : Books) (r : Row) (bk : Int) (hf : Fine b) (hs : SND b) (hr : r.roots.length ≤ 1000) (hn : r.name.length ≤ maxLen) (hc : chk b [r] = 0)
include hf hs hr hn hc
set_option maxHeartbeats 4000000 in
theorem l3c (i : Nat) (hi : i < b.currencies.length) (B : List V) (hB : b.cells = B) (hB22 : B.length = 22) : ∃ q, loopK OB [2, 3, 4, 12, 14, 15, 16] body3_3 [(2, .i .i64 bk), (3, .r B), (4, .r r.cells), (12, .l (encX (rowCells b bk r))), (14, .i .i64 i), (15, .i .i64 0), (16, .i .i64 0)] = some q ∧
    (q = (.r, [(6, .b true)]) ∨ q = (.e 6, [(2, .i .i64 bk), (3, .r B), (4, .r r.cells), (12, .l (encX (rowCells b bk r))), (14, .i .i64 i), (15, .i .i64 (sumN b r b.currencies[i].code bk))])) := by
  have hcl := hf.curs
  obtain ⟨_, hsg, _⟩ := chk_one_iff.1 hc
  have hlen : (rowCells b bk r).length = b.currencies.length := rowCells_len b bk r
  have hX : (encX (rowCells b bk r)).length = b.currencies.length := by simp [hlen]
  rw [body3_3_eq]
  generalize encX (rowCells b bk r) = D at hX
  have := loopK_inv (o := OB) (kin := [2, 3, 4, 12, 14, 15, 16]) (c := body3_3') (fun k env => env = [(2, .i .i64 bk), (3, .r B), (4, .r r.cells), (12, .l D), (14, .i .i64 i), (15, .i .i64 (w (TJ (belongsB b (headRow r k)) r.sign b.currencies[i].code bk b.journal))), (16, .i .i64 k)]) r.roots.length
    (fun q => q = (.r, [(6, .b true)]) ∨ q = (.e 6, [(2, .i .i64 bk), (3, .r B), (4, .r r.cells), (12, .l D), (14, .i .i64 i), (15, .i .i64 (sumN b r b.currencies[i].code bk))]))
    (fun k env h => by subst h; simp) (fun k env hk h => by
      subst h
      have hw := wrap_i64 (k + 1) (by omega)
      have hpc := part_ok hc hk
      have h6 := b6 b [partRow r r.roots[k]] bk hf (Rows.one (by simp [partRow]) hn) (by show 1 ≤ maxLen; unfold maxLen; omega)
      rw [enc_one, show b.v = .a b.cells from rfl, hB] at h6
      have hst := sumT_take hs hc b.currencies[i].code bk hk
      have hl := live
      by_cases hbad : chk b [partRow r r.roots[k]] = 0 ∧ ∀ j, j < [partRow r r.roots[k]].length → rowBad b [partRow r r.roots[k]] bk j = none
      · rw [makeW_ok hbad.1 hbad.2, cells_one] at h6
        have hrun := reg27_run bk B hB22 r D i (w (TJ (belongsB b (headRow r k)) r.sign b.currencies[i].code bk b.journal)) k hk (by omega) _ _ h6
        have hlen2 := rowCells_len b bk (partRow r r.roots[k])
        have hX2 : (encX (rowCells b bk (partRow r r.roots[k]))).length = b.currencies.length := by simp [hlen2]
        have hg : (encX (rowCells b bk (partRow r r.roots[k])))[i]? = some (cellOf b (partRow r r.roots[k]) bk b.currencies[i]).v := by
          rw [show encX (rowCells b bk (partRow r r.roots[k])) = (rowCells b bk (partRow r r.roots[k])).map Cell.v from rfl, List.getElem?_map, cells_get hi]; rfl
        left
        refine ⟨_, ?_, rfl⟩
        rw [hst]
        have hpa : (cellOf b (partRow r r.roots[k]) bk b.currencies[i]).amount = sumN b (partRow r r.roots[k]) b.currencies[i].code bk := rfl
        rw [← hpa]
        generalize cellOf b (partRow r r.roots[k]) bk b.currencies[i] = ce at hg
        generalize encX (rowCells b bk (partRow r r.roots[k])) = Y at hrun hX2 hg
        generalize w (TJ (belongsB b (headRow r k)) r.sign b.currencies[i].code bk b.journal) = sm at hrun ⊢
        have hki : (k : Int) < (r.roots.length : Int) := by omega
        simp (config := { maxSteps := 1000000 }) [body3_3', hki, hrun, hX, hX2, hg, hw]
      · obtain ⟨e, _, hmk, he⟩ := makeW_bad hbad
        rw [hmk, he hpc] at h6
        have hrun := reg27_run bk B hB22 r D i (w (TJ (belongsB b (headRow r k)) r.sign b.currencies[i].code bk b.journal)) k hk (by omega) _ _ h6
        right
        refine ⟨(.r, [(6, .b true)]), ?_, by simp, .inl rfl⟩
        generalize w (TJ (belongsB b (headRow r k)) r.sign b.currencies[i].code bk b.journal) = sm at hrun ⊢
        have hki : (k : Int) < (r.roots.length : Int) := by omega
        simp (config := { maxSteps := 1000000 }) [body3_3', hki, hrun, hl]) (fun env h => by
      subst h
      rw [sum_whole hsg]
      exact ⟨(.e 6, [(2, .i .i64 bk), (3, .r B), (4, .r r.cells), (12, .l D), (14, .i .i64 i), (15, .i .i64 (sumN b r b.currencies[i].code bk))]), by simp [body3_3'], by simp, .inr rfl⟩) r.roots.length 0 [(2, .i .i64 bk), (3, .r B), (4, .r r.cells), (12, .l D), (14, .i .i64 i), (15, .i .i64 0), (16, .i .i64 ((0 : Nat) : Int))] (by omega) (by rw [sum_zero])
  simpa using this
set_option maxHeartbeats 4000000 in
theorem l3d (B : List V) (hB : b.cells = B) (hB22 : B.length = 22) : ∃ q, loopK OB [2, 3, 4, 12, 14] body3_4 [(2, .i .i64 bk), (3, .r B), (4, .r r.cells), (12, .l (encX (rowCells b bk r))), (14, .i .i64 0)] = some q ∧ (q = (.r, [(6, .b true)]) ∨ q = (.e 4, [])) := by
  have hcl := hf.curs
  have hlen : (rowCells b bk r).length = b.currencies.length := rowCells_len b bk r
  have hX : (encX (rowCells b bk r)).length = b.currencies.length := by simp [hlen]
  have h3c := fun i hi => l3c b r bk hf hs hr hn hc i hi B hB hB22
  have hgx : ∀ i (hi : i < b.currencies.length), (encX (rowCells b bk r))[i]? = some (cellOf b r bk b.currencies[i]).v := fun i hi => by
    rw [show encX (rowCells b bk r) = (rowCells b bk r).map Cell.v from rfl, List.getElem?_map, cells_get hi]; rfl
  generalize encX (rowCells b bk r) = D at hX h3c hgx
  have := loopK_tot (o := OB) (kin := [2, 3, 4, 12, 14]) (c := body3_4) (fun i => [(2, .i .i64 bk), (3, .r B), (4, .r r.cells), (12, .l D), (14, .i .i64 (i : Int))]) b.currencies.length (fun q => q = (.r, [(6, .b true)]) ∨ q = (.e 4, [])) (by simp) (fun i hi => by
    have hw := wrap_i64 (i + 1) (by omega)
    have hki : (i : Int) < (b.currencies.length : Int) := by omega
    have hg := hgx i hi
    have hpa : (cellOf b r bk b.currencies[i]).amount = sumN b r b.currencies[i].code bk := rfl
    obtain ⟨q, hq, h | h⟩ := h3c i hi
    · subst h
      simp (config := { maxSteps := 1000000 }) [-Prod.exists, body3_4, exec_loopK, hX, hki, hq]
    · subst h
      rw [← hpa] at hq
      generalize cellOf b r bk b.currencies[i] = ce at hg hq
      simp (config := { maxSteps := 1000000 }) [-Prod.exists, body3_4, exec_loopK, hX, hki, hq, hg, hw]) (by simp [body3_4, hX])
  simpa using this
end
theorem l3b (b : Books) (bk : Int) (hf : Fine b) (hs : SND b) (B R : List V) : loopK OB [2, 3, 4, 9, 11] body3_2 [(2, .i .i64 bk), (3, .r B), (4, .r R), (9, .l (encX (rowCells b bk (allRow b.chart)))), (11, .i .i64 0)] = some (.e 2, [(2, .i .i64 bk), (3, .r B), (4, .r R)]) := by
  have hcl := hf.curs
  have hlen : (rowCells b bk (allRow b.chart)).length = b.currencies.length := rowCells_len b bk _
  have hX : (encX (rowCells b bk (allRow b.chart))).length = b.currencies.length := by simp [hlen]
  have hgx : ∀ i (hi : i < b.currencies.length), (encX (rowCells b bk (allRow b.chart)))[i]? = some (cellOf b (allRow b.chart) bk b.currencies[i]).v := fun i hi => by
    rw [show encX (rowCells b bk (allRow b.chart)) = (rowCells b bk (allRow b.chart)).map Cell.v from rfl, List.getElem?_map, cells_get hi]; rfl
  generalize encX (rowCells b bk (allRow b.chart)) = D at hX hgx
  have := loopK_run (o := OB) (kin := [2, 3, 4, 9, 11]) (c := body3_2) (fun i => [(2, .i .i64 bk), (3, .r B), (4, .r R), (9, .l D), (11, .i .i64 (i : Int))]) b.currencies.length (.e 2, [(2, .i .i64 bk), (3, .r B), (4, .r R)]) (by simp) (fun i hi => by
    have hw := wrap_i64 (i + 1) (by omega)
    have hki : (i : Int) < (b.currencies.length : Int) := by omega
    have hg := hgx i hi
    have hpa : (cellOf b (allRow b.chart) bk b.currencies[i]).amount = 0 := sum_all hs _ _
    generalize cellOf b (allRow b.chart) bk b.currencies[i] = ce at hg hpa
    simp [body3_2, hX, hki, hg, hpa, hw]) (by simp [body3_2, hX]) (by simp)
  simpa using this
end Go.Proofs.YtmhbkofbbkogeaaGreat
namespace Go.Proofs.YtmhbkofbbkogeaaGreat
open Go.VM Go.RowKit
theorem all_rows {b : Books} (hf : Fine b) : Rows [allRow b.chart] := Rows.one (Nat.le_trans (rootsOf_len _) hf.chart) (by show 3 ≤ maxLen; unfold maxLen; omega)
theorem all_chk {b : Books} (hs : SND b) : chk b [allRow b.chart] = 0 := chk_one_iff.2 ⟨(by decide : nameOk [97, 108, 108] = true), .inl rfl, (good_of hs.chart).rootE_all⟩
theorem all_make {b : Books} (hs : SND b) (bk : Int) : makeW b [allRow b.chart] bk = .t [.l (encX (rowCells b bk (allRow b.chart))), .i .i64 0] := by
  rw [makeW_ok (all_chk hs) fun i hi => ?_, cells_one]
  have : i = 0 := by simp at hi; omega
  subst this
  simp only [rowBad, List.getElem?_cons_zero]
  rw [range_find_none]
  intro k hk
  simp only [cellBad, List.getElem?_eq_getElem hk, sum_all hs]
  rfl
set_option maxHeartbeats 8000000 in
theorem kR_run (b : Books) (r : Row) (bk : Int) (hf : Fine b) (hs : SND b) (hr : r.roots.length ≤ 1000) (hn : r.name.length ≤ maxLen) : exec OB kR [(2, .i .i64 bk), (3, .r b.cells), (4, .r r.cells), (7, .r (allC (rootsOf b.chart)))] = some (.r, [(6, .b true)]) := by
  have h1 := b6 b [allRow b.chart] bk hf (all_rows hf) (by show 1 ≤ maxLen; unfold maxLen; omega)
  rw [all_make hs, enc_one] at h1
  have h2 := b6 b [r] bk hf (Rows.one hr hn) (by show 1 ≤ maxLen; unfold maxLen; omega)
  rw [enc_one] at h2
  have hb := l3b b bk hf hs b.cells r.cells
  have hd := fun hc => l3d b r bk hf hs hr hn hc b.cells rfl rfl
  have hlive := live
  have hv : b.v = .a b.cells := rfl
  rw [hv] at h1 h2
  have hB : b.cells.length = 22 := rfl
  generalize b.cells = B at h1 h2 hb hd hB ⊢
  have hA : (allRow b.chart).v = .a (allC (rootsOf b.chart)) := rfl
  rw [hA] at h1
  have hAl : (allC (rootsOf b.chart)).length = 3 := rfl
  have hAc : (∀ y ∈ allC (rootsOf b.chart), y.cell = true) = True := by simp
  generalize allC (rootsOf b.chart) = A at h1 hAl hAc ⊢
  generalize encX (rowCells b bk (allRow b.chart)) = D1 at h1 hb
  by_cases hbad : chk b [r] = 0 ∧ ∀ j, j < [r].length → rowBad b [r] bk j = none
  · rw [makeW_ok hbad.1 hbad.2, cells_one] at h2
    obtain ⟨q, hq, hq2⟩ := hd hbad.1
    generalize encX (rowCells b bk r) = D2 at h2 hq
    cases D1 <;> cases D2 <;> rcases hq2 with rfl | rfl <;> simp (config := { maxSteps := 2000000 }) [kR, exec_loopK, hB, hAl, hAc, h1, hb, h2, hq, hlive]
  · obtain ⟨e, he, hmk, _⟩ := makeW_bad hbad
    rw [hmk] at h2
    cases D1 <;> simp (config := { maxSteps := 2000000 }) [kR, exec_loopK, hB, hAl, hAc, h1, hb, h2, he, hlive]
/-- What the sizes of products ask for. -/
def okBk (b : Books) : Prop := ∀ p ∈ b.products, (∀ f ∈ p.fees, f.okX) ∧ ∀ f ∈ p.rules, f.okX
abbrev E3 (b : Books) (r : Row) (bk : Int) (g i : Nat) : Env := [(2, .i .i64 bk), (3, .r b.cells), (4, .r r.cells), (7, .pt g), (8, .i .i64 i)]
theorem b4 (b : Books) (hf : okBk b) (hg : ∀ g ∈ b.chart, g.name.length ≤ maxLen) (hgl : b.chart.length ≤ maxLen) : ∃ t : Bool, OB 4 [b.v] = some (.b t) ∧ (t = true → SND b) := by
  obtain ⟨t, h, h'⟩ := t4 (X := X0) b hf hg hgl
  exact ⟨t, OB_old rfl (by decide) (by decide) h, h'⟩
theorem b5 (l : List Row) : ∃ t, OB 5 [.l (encR l)] = some (.b t) ∧ (t = false → Rows l ∧ l.length ≤ 100) := by
  obtain ⟨t, h, h'⟩ := e5 (X := X0) l
  exact ⟨t, OB_old rfl (by decide) (by decide) h, h'⟩
set_option maxHeartbeats 8000000 in
theorem pf3 (b : Books) (r : Row) (bk : Int) (hf : okBk b) (hg : ∀ g ∈ b.chart, g.name.length ≤ maxLen) (hgl : b.chart.length ≤ maxLen) : PF Tryz.prog 3 [b.v, r.v, .i .i64 bk] (.b true) := by
  intro S w vs hS hG hr
  refine calls_of_wp Tryz.func3 body3 ?_
  rw [nt3]
  have hlen : vs.length = 3 := hr.1
  have hF := FI.start (P := Tryz.prog) (nt := 144) (keep := kp) hS hG hr rfl (by simp) (fun n hn => by
    have h : [0, 1, 2].all kp.contains = true := by kernel_rfl
    have hn' : n < 3 := by simpa using hn
    have hm : n ∈ [0, 1, 2] := by simp; omega
    simpa using List.all_eq_true.1 h n hm) (by simp [hlen])
  have hFE : FG boxR Tryz.prog 144 kp S (fun _ => False) w true (args0 0 [b.v, r.v, .i .i64 bk]) none _ w := ⟨S, fun _ => False, w.heap.size, w, hF, fun b hb => hb, fun b hb => hb.elim, Nat.le_refl _, ⟨rfl, rfl, rfl, Nat.le_refl _, fun _ _ _ => rfl⟩, fun _ h => h, fun b h => .inl h, fun b h => .inl h, fun h => by cases h⟩
  have hD := DoesG.seq (leaf_does (S0 := S) (F0 := fun _ => False) (w00 := w) comp_A0) (DoesG.seq (leaf_does comp_A1) (DoesG.seq made_does (DoesG.seq (DoesG.seq (leaf_does comp_A4) (DoesG.blk 0 (DoesG.loop [2, 3, 4, 7, 8] (DoesG.seq (leaf_does comp_B5) (DoesG.seq (DoesG.blk 1 (DoesG.seq (leaf_does comp_B7) (cond_does (c := .tmp 41) (cx := .sl 41) rfl grow_does skip_does))) (leaf_does comp_B6)))))) (read_does (leaf_does comp_AR)))))
  refine hD _ none (fun e env _ => (∀ j, e ≠ .e j) ∧ retV [.tmp 6] env = some (.b true)) ?_ _ w hFE _ fun ex env' s1 a' w' hK hFE' => ?_
  · -- the evaluator's side
    refine ⟨.n, [(0, b.v), (1, r.v), (2, .i .i64 bk), (3, .bx b.cells), (4, .bx r.cells), (6, .b false)], by simp [k0, args0], ?_⟩
    obtain ⟨t4, h4, f4⟩ := b4 b hf hg hgl
    obtain ⟨t5, h5, f5⟩ := b5 [r]
    rw [enc_one] at h5
    have stop : (t4 = false ∨ t5 = true) → ∃ e env1, exec OB k1 [(0, b.v), (1, r.v), (2, .i .i64 bk), (3, .bx b.cells), (4, .bx r.cells), (6, .b false)] = some (e, env1) ∧ e = .r ∧ env1 = [(6, .b true)] := by
      intro h
      refine ⟨.r, [(6, .b true)], ?_, rfl, rfl⟩
      rcases h with rfl | rfl
      · simp [k1, h4]
      · cases t4 <;> simp [k1, h4, h5]
    by_cases hst : t4 = false ∨ t5 = true
    · obtain ⟨e, env1, he, rfl, rfl⟩ := stop hst
      exact ⟨.r, _, he, fun j h => (by cases h), by simp [retV, resVs, resV]⟩
    · have e4 : t4 = true := by cases t4 with | true => rfl | false => exact absurd (.inl rfl) hst
      have e5 : t5 = false := by cases t5 with | false => rfl | true => exact absurd (.inr rfl) hst
      subst e4
      subst e5
      have hs := f4 rfl
      obtain ⟨hrw, _⟩ := f5 rfl
      have hfine := hs.fine
      have hrr := hrw.roots r (List.mem_singleton.2 rfl)
      have hrn := hrw.name r (List.mem_singleton.2 rfl)
      refine ⟨.n, [(0, b.v), (1, r.v), (2, .i .i64 bk), (3, .bx b.cells), (4, .bx r.cells), (6, .b false), (26, .b false)], by simp [k1, h4, h5], ?_⟩
      have hfz : frzAll [(0, b.v), (1, r.v), (2, .i .i64 bk), (3, .bx b.cells), (4, .bx r.cells), (6, .b false), (26, .b false)] = [(0, b.v), (1, r.v), (2, .i .i64 bk), (3, .r b.cells), (4, .r r.cells), (6, .b false), (26, .b false)] := by simp [frzAll]
      refine ⟨rfl, by rw [hfz]; simp [bare], fun n x hx => ?_, fun g => ?_⟩
      · rw [hfz] at hx
        have := get_mem hx
        simp only [List.mem_cons, Prod.mk.injEq, List.not_mem_nil, or_false] at this
        omega
      rw [hfz]
      refine ⟨.n, [(0, b.v), (1, r.v), (2, .i .i64 bk), (3, .r b.cells), (4, .r r.cells), (6, .b false), (7, .pt g), (8, .i .i64 0), (26, .b false)], by simp [k4], ?_⟩
      refine ⟨fun n env s => ∃ i, n = b.chart.length - i ∧ i ≤ b.chart.length ∧ s = some (g, rootsOf (b.chart.take i)) ∧ VM.keepE [2, 3, 4, 7, 8] env = E3 b r bk g i, b.chart.length, ⟨0, by omega, by omega, by simp [rootsOf], by simp⟩, ?_⟩
      rintro n env s ⟨i, rfl, hi, rfl, henv⟩
      rw [henv]
      have hcl := hfine.chart
      by_cases hil : i < b.chart.length
      · have hw := wrap_i64 (i + 1) (by omega)
        refine ⟨.n, E3 b r bk g i ++ [(32, .b true)], by simp [pE5, hil], ?_⟩
        refine ⟨.n, E3 b r bk g i ++ [(32, .b true), (41, .b (decide (b.chart[i].parent = 0)))], by simp [pE7, hil], ?_⟩
        refine ⟨decide (b.chart[i].parent = 0), by simp [evalX], ?_⟩
        have hts := rootsOf_take b.chart hil
        have hlen : (rootsOf (b.chart.take i)).length ≤ i := by
          have := rootsOf_len (b.chart.take i)
          rw [List.length_take] at this; omega
        have hfz2 : ∀ t : Bool, frzAll (E3 b r bk g i ++ [(32, .b true), (41, .b t)]) = E3 b r bk g i ++ [(32, .b true), (41, .b t)] := fun t => by simp [frzAll]
        by_cases h0 : b.chart[i].parent = 0
        · rw [if_pos h0] at hts
          rw [decide_eq_true h0, if_pos rfl]
          refine ⟨g, _, b, i, hil, rfl, by rw [hfz2]; simp [bare], by rw [hfz2]; simp, by rw [hfz2]; simp, by rw [hfz2]; simp, fun n x hx => ?_, by omega, ?_⟩
          · rw [hfz2] at hx
            have := get_mem hx
            simp only [E3, List.cons_append, List.nil_append, List.mem_cons, Prod.mk.injEq, List.not_mem_nil, or_false] at this
            omega
          rw [hfz2]
          refine ⟨.n, [(2, .i .i64 bk), (3, .r b.cells), (4, .r r.cells), (7, .pt g), (8, .i .i64 ((i + 1 : Nat) : Int)), (32, .b true), (41, .b true)], by simp [pE6, hw], b.chart.length - (i + 1), by omega, i + 1, rfl, by omega, by rw [hts], by simp⟩
        · rw [if_neg h0, List.append_nil] at hts
          rw [decide_eq_false h0, if_neg (by decide)]
          refine ⟨.n, [(2, .i .i64 bk), (3, .r b.cells), (4, .r r.cells), (7, .pt g), (8, .i .i64 ((i + 1 : Nat) : Int)), (32, .b true), (41, .b false)], by simp [pE6, hw], b.chart.length - (i + 1), by omega, i + 1, rfl, by omega, by rw [hts], by simp⟩
      · have hie : i = b.chart.length := by omega
        subst hie
        refine ⟨.e 0, [(2, .i .i64 bk), (3, .r b.cells), (4, .r r.cells), (7, .pt g)], by simp [pE5], ?_⟩
        have hfz3 : frzAll [(2, .i .i64 bk), (3, .r b.cells), (4, .r r.cells), (7, .pt g)] = [(2, .i .i64 bk), (3, .r b.cells), (4, .r r.cells), (7, .pt g)] := by simp [frzAll]
        refine ⟨g, _, rfl, by rw [hfz3]; simp [bare], by rw [hfz3]; simp, fun n x hx => ?_, ?_⟩
        · rw [hfz3] at hx
          have := get_mem hx
          simp only [List.mem_cons, Prod.mk.injEq, List.not_mem_nil, or_false] at this
          rcases this with ⟨_, rfl⟩ | ⟨_, rfl⟩ | ⟨_, rfl⟩ | ⟨_, rfl⟩ <;> rfl
        rw [hfz3, List.take_length]
        have := kR_run b r bk hfine hs hrr hrn
        exact ⟨.r, [(6, .b true)], by simpa using this, fun j h => (by cases h), by simp [retV, resVs, resV]⟩
  · obtain ⟨hx, hret⟩ := hK
    obtain ⟨S', F', base, wi, hF', hR', hFb, hb, hKp, k1, k2, k3, k4⟩ := hFE'
    have fin : a'.defers = [] ∧ ∃ v, (results Tryz.f3 a'.tmps).run Tryz.prog w' = .ok v w' ∧ ∃ v', Ending.returned v = .returned v' ∧ Below w.heap.size w w' ∧
        ∃ S'' : Nat → Prop, (∀ b, S b → S'' b) ∧ (∀ b, S'' b → (S b ∨ w.heap.size ≤ b) ∧ b < w'.heap.size) ∧ Res Tryz.prog S'' w' w.heap.size v' (.b true) := by
      obtain ⟨Im, hI1, hI2, hE⟩ := hF'.ents
      obtain ⟨v, hrun, hrs⟩ := res_of (fn := Tryz.f3) (rvs := [.tmp 6]) hE hF'.srt rfl (by kernel_rfl) hret
      refine ⟨hF'.defers, v, hrun, v, rfl, ⟨hF'.below.os.trans hKp.os, hF'.below.tape.trans hKp.tape, hF'.below.output.trans hKp.output, Nat.le_trans hb hF'.bsz, fun b hb' => ?_⟩, Im, fun b h => hI1 b (k1 b h), fun b h => ⟨?_, (hI2 b h).2⟩, hrs.low hb⟩
      · rw [hF'.below.block b (by omega), hKp.block b hb' id]
      · rcases (hI2 b h).1 with h | h
        · exact k2 b h
        · exact .inr (Nat.le_trans hb h)
    cases ex with
    | n => exact fin
    | r => exact fin
    | e id => exact absurd rfl (hx id)
end Go.Proofs.YtmhbkofbbkogeaaGreat
