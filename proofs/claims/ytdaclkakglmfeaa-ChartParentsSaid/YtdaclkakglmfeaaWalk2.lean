/-
  The walk over a chart, to any depth: it adds the accounts to the collector in their order.
-/
import Derived.Test.YtdaclkakglmfeaaWalk
namespace Go.Proofs.Ytdaclkakglmfeaa
open Go.VM Go.RowKit
section
variable (l : List Gl) (p : Int) (g : Nat)
theorem eff2 (x : Gl) (i : Nat) (t : Bool) (s s' : List Int) (hw : PFE Try.prog (colR g) 35 [.l (encG l), .i .i64 x.id, .f (.func 36) [.pt g] []] s (.t []) s') (K : Ex → Env → List Int → Prop) (hK : K .n (EY l p g x i ++ [(39, .b t)]) s') : WE (colR g) Try.prog O0 (.eff g35_2) (EY l p g x i ++ [(39, .b t)]) s K := by
  refine ⟨[(0, .l (encG l)), (1, .i .i64 p), (2, .f (.func 36) [.pt g] []), (6, .i .i64 i), (7, .r x.cells), (9, .b false), (10, .l (encG l)), (11, .i .i64 l.length), (12, .i .i64 i), (13, .b true), (32, .b false), (39, .b t), (40, .l (encG l)), (41, .r [.i .i64 x.id]), (42, .i .i64 x.id), (43, .f (.func 36) [.pt g] [])], ?_, ?_, [.l (encG l), .i .i64 x.id, .f (.func 36) [.pt g] []], 35, [.l (encG l), .i .i64 x.id, .f (.func 36) [.pt g] []], .t [], s', ?_, rfl, okf35, rfl, hw, ?_⟩
  · simp [g35_2]
  · simp [frzAll, bare]
  · simp [frzAll, g35_2]
  · have : dropE g35_2.ks (putO g35_2.d (.t []) (frzAll [(0, .l (encG l)), (1, .i .i64 p), (2, .f (.func 36) [.pt g] []), (6, .i .i64 i), (7, .r x.cells), (9, .b false), (10, .l (encG l)), (11, .i .i64 l.length), (12, .i .i64 i), (13, .b true), (32, .b false), (39, .b t), (40, .l (encG l)), (41, .r [.i .i64 x.id]), (42, .i .i64 x.id), (43, .f (.func 36) [.pt g] [])])) = EY l p g x i ++ [(39, .b t)] := by simp [frzAll, g35_2]
    rw [this]; exact hK
theorem y7b (x : Gl) {i : Nat} (t : Bool) (h : i ≤ 1000) : ∃ env, exec O0 w35_7 (EY l p g x i ++ [(39, .b t)]) = some (.n, env) ∧ keepE kW env = EW l p g (i + 1) := by
  have hw := wrap_i64 (i + 1) (by omega)
  refine ⟨[(0, .l (encG l)), (1, .i .i64 p), (2, .f (.func 36) [.pt g] []), (6, .i .i64 i), (7, .r x.cells), (9, .b false), (10, .l (encG l)), (11, .i .i64 l.length), (12, .i .i64 ((i + 1 : Nat) : Int)), (13, .b true), (32, .b false), (39, .b t)], ?_, ?_⟩
  · simp [w35_7, hw]
  · simp
theorem WE.seq' {ρ : Rsc (List Int)} {a b : NE} {env : Env} {s : List Int} {K : Ex → Env → List Int → Prop} (h : WE ρ Try.prog O0 a env s fun e env1 s1 => match e with
    | .n => WE ρ Try.prog O0 b env1 s1 K
    | .e j => K (.e j) env1 s1
    | .r => K .r env1 s1) : WE ρ Try.prog O0 (.seq a b) env s K := h
theorem round35 (hl : l.length ≤ 1000) {n : Nat} (hrec : ∀ (id : Int) (s q : List Int), belN n (pairs l) id = some q → s.length + q.length ≤ 1000000 → PFE Try.prog (colR g) 35 [.l (encG l), .i .i64 id, .f (.func 36) [.pt g] []] s (.t []) (s ++ q))
    {i : Nat} (hi : i < l.length) (s r : List Int) {m : Nat} (him : i + (m + 1) = l.length) (hz : belR (belN n (pairs l)) (pairs l) p (List.range' i (m + 1)) = some r) (hb : s.length + r.length ≤ 1000000) (K : Ex → Env → List Int → Prop)
    (hK : ∀ env q r', keepE kW env = EW l p g (i + 1) → r = q ++ r' → belR (belN n (pairs l)) (pairs l) p (List.range' (i + 1) m) = some r' → K .n env (s ++ q)) : WE (colR g) Try.prog O0 bodyW (EW l p g i) s K := by
  have hat : (pairs l)[i]? = some (l[i].id, l[i].parent) := by simp [pairs, hi]
  simp only [List.range'_succ, belR, hat, firstP_eq] at hz
  refine ⟨.n, _, y2 l p g hi, .n, _, y3 l p g i, ?_⟩
  show WE (colR g) Try.prog O0 (.seq (.blk 1 _) (.c w35_7)) _ s K
  by_cases hc : l[i].parent = p ∧ firstG l i = true
  · rw [if_pos hc] at hz
    refine ⟨.n, _, y4 l p g hi, .n, _, y5b l p g hi hl hc.1 hc.2, ?_⟩
    have hb1 : s.length < 1000000 := by
      by_cases h0 : l[i].id = 0
      · rw [if_pos h0] at hz
        simp only [Option.bind_some, Option.map_eq_some_iff] at hz
        obtain ⟨r', _, rfl⟩ := hz
        simp only [List.length_append, List.length_singleton] at hb
        omega
      · rw [if_neg h0] at hz
        simp only [Option.bind_eq_some_iff, Option.map_eq_some_iff] at hz
        obtain ⟨_, ⟨q, hq, rfl⟩, r', hr', rfl⟩ := hz
        simp only [List.length_append, List.length_cons] at hb
        omega
    refine WE.seq' (eff1 l p g l[i] i s hb1 _ ?_)
    refine ⟨.n, _, y6 l p g l[i] i, ?_⟩
    by_cases h0 : l[i].id = 0
    · rw [if_pos h0] at hz
      simp only [Option.bind_some, Option.map_eq_some_iff] at hz
      obtain ⟨r', hr', rfl⟩ := hz
      refine ⟨false, by simp [h0], ?_⟩
      rw [if_neg (by decide)]
      obtain ⟨env7, h7, k7⟩ := y7b l p g l[i] (i := i) (!decide (l[i].id = 0)) (by omega)
      exact ⟨.n, _, rfl, .n, env7, h7, hK _ [l[i].id] r' k7 rfl hr'⟩
    · rw [if_neg h0] at hz
      simp only [Option.bind_eq_some_iff, Option.map_eq_some_iff] at hz
      obtain ⟨_, ⟨q, hq, rfl⟩, r', hr', rfl⟩ := hz
      refine ⟨true, by simp [h0], ?_⟩
      rw [if_pos rfl]
      have hw := hrec l[i].id (s ++ [l[i].id]) q hq (by simp only [List.length_append, List.length_cons, List.length_nil] at hb ⊢; omega)
      obtain ⟨env7, h7, k7⟩ := y7b l p g l[i] (i := i) (!decide (l[i].id = 0)) (by omega)
      refine eff2 l p g l[i] i _ _ _ hw _ ⟨.n, env7, h7, ?_⟩
      have := hK env7 (l[i].id :: q) r' k7 rfl hr'
      simpa using this
  · rw [if_neg hc] at hz
    refine ⟨.n, _, y4 l p g hi, .e 1, _, y5a l p g hi hl hc, ?_⟩
    have := hK (EW l p g (i + 1)) [] r (by simp) rfl hz
    rw [List.append_nil] at this
    exact ⟨.n, _, y7 l p g (by omega), this⟩
theorem walk_PFE (hl : l.length ≤ 1000) : ∀ (n : Nat) (p : Int) (s q : List Int), belN n (pairs l) p = some q → s.length + q.length ≤ 1000000 → PFE Try.prog (colR g) 35 [.l (encG l), .i .i64 p, .f (.func 36) [.pt g] []] s (.t []) (s ++ q)
  | 0, p, s, q, hz, _ => by cases hz
  | n + 1, p, s, q, hz, hb => by
    have hrec := walk_PFE hl n
    have hr : belR (belN n (pairs l)) (pairs l) p (List.range' 0 l.length) = some q := by
      rw [belN] at hz
      rw [← List.range_eq_range']
      simpa [pairs] using hz
    refine bodyE_sound (o := O0) sound0' Try.func35 comp35 rfl rfl rfl rfl (by intro e; cases e) (fun ys e x hx => by cases e; cases hx) ?_
    refine ⟨.n, _, y1 l p g, ?_⟩
    show WE (colR g) Try.prog O0 (.blk 0 (.loop kW bodyW)) _ _ _
    refine WE.loop (fun n' env s' => ∃ (i : Nat) (q1 q2 : List Int), n' + i = l.length ∧ s' = s ++ q1 ∧ q = q1 ++ q2 ∧ belR (belN n (pairs l)) (pairs l) p (List.range' i n') = some q2 ∧ keepE kW env = EW l p g i) (fun n' env s' hI => ?_) (n := l.length) ⟨0, [], q, rfl, by simp, rfl, hr, by simp⟩
    obtain ⟨i, q1, q2, hn, rfl, rfl, hz2, hk⟩ := hI
    rw [hk]
    cases n' with
    | zero =>
      have hi : i = l.length := by omega
      subst hi
      simp only [List.range'_zero, belR, Option.some.injEq] at hz2
      subst hz2
      refine ⟨.n, _, y2e l p g, .e 0, _, y3e l p g l.length, ?_⟩
      exact ⟨fun j e => (by cases e), rfl, by simp⟩
    | succ m =>
      have hi : i < l.length := by omega
      refine round35 l p g hl (fun id s q h1 h2 => hrec id s q h1 h2) hi (s ++ q1) q2 (m := m) (by omega) hz2 (by simp only [List.length_append] at hb ⊢; omega) _ fun env1 r r' k1 hq hr' => ?_
      subst hq
      exact ⟨m, by omega, i + 1, q1 ++ r, r', by omega, by simp, by simp, hr', k1⟩
end
end Go.Proofs.Ytdaclkakglmfeaa
