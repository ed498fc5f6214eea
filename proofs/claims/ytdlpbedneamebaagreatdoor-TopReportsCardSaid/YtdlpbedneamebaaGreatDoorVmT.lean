/-
  A function of the program that writes into a slice of the call's own which is one of its arguments: its contract, out of its code. No program is named here.
-/
import Derived.Test.YtdlpbedneamebaaGreatDoorVmO
set_option linter.unusedSectionVars false
namespace Go.VM
open Go.RowKit
variable [Glob]

section
variable {P : Program} {nt : Nat} {keep : List Nat} {S : Nat → Prop} {base : Nat} {w0 : World} {o : Orc} {w : World}

theorem insAt_length {α : Type} : ∀ (n : Nat) (x : α) (l : List α), (insAt n x l).length = l.length + 1
  | 0, _, _ => rfl
  | n + 1, x, [] => rfl
  | n + 1, x, y :: l => by simp only [insAt, List.length_cons, insAt_length n x l]
theorem insAt_at {α β : Type} {R : α → β → Prop} : ∀ (n : Nat) (u : α) (x : β) (us : List α) (xs : List β), us.length = xs.length → (∀ (j : Nat) v y, us[j]? = some v → xs[j]? = some y → R v y) →
    ∀ (k : Nat) y, (insAt n x xs)[k]? = some y → ∃ v, (insAt n u us)[k]? = some v ∧ ((k = min n us.length ∧ y = x ∧ v = u) ∨ (k ≠ min n us.length ∧ R v y))
  | 0, u, x, us, xs, hl, h, k, y, hy => by
    cases k with
    | zero =>
      simp only [insAt, List.getElem?_cons_zero, Option.some.injEq] at hy
      exact ⟨u, rfl, .inl ⟨by simp, hy.symm, rfl⟩⟩
    | succ k =>
      simp only [insAt, List.getElem?_cons_succ] at hy ⊢
      have hk : k < us.length := by rw [hl]; exact (List.getElem?_eq_some_iff.1 hy).1
      exact ⟨us[k], List.getElem?_eq_getElem hk, .inr ⟨by omega, h k _ _ (List.getElem?_eq_getElem hk) hy⟩⟩
  | n + 1, u, x, [], [], hl, h, k, y, hy => by
    cases k with
    | zero =>
      simp only [insAt, List.getElem?_cons_zero, Option.some.injEq] at hy
      exact ⟨u, rfl, .inl ⟨by simp, hy.symm, rfl⟩⟩
    | succ k => simp [insAt] at hy
  | n + 1, u, x, v :: us, z :: xs, hl, h, k, y, hy => by
    have hl' : us.length = xs.length := by simpa using hl
    have hm : min (n + 1) (us.length + 1) = min n us.length + 1 := by omega
    cases k with
    | zero =>
      simp only [insAt, List.getElem?_cons_zero, Option.some.injEq] at hy
      subst hy
      exact ⟨v, rfl, .inr ⟨by rw [List.length_cons, hm]; omega, h 0 v z rfl rfl⟩⟩
    | succ k =>
      simp only [insAt, List.getElem?_cons_succ] at hy
      obtain ⟨v', h1, h2⟩ := insAt_at n u x us xs hl' (fun j v y hv hy => h (j + 1) v y (by simpa using hv) (by simpa using hy)) k y hy
      refine ⟨v', by simpa [insAt] using h1, ?_⟩
      rw [List.length_cons, hm]
      rcases h2 with ⟨e1, e2, e3⟩ | ⟨e1, e2⟩
      · exact .inl ⟨by omega, e2, e3⟩
      · exact .inr ⟨by omega, e2⟩
def V.argR : V → Bool
  | .t _ => false
  | .ow _ _ => false
  | .bx _ => false
  | .mp _ _ => false
  | _ => true
theorem Args.reps {u : Value} {us : List Value} {xs : List V} (h : Args P S w base u us xs) (hx : xs.all V.argR = true) : Reps S w us xs := by
  refine ⟨h.1, fun j v x hv hx' => ?_⟩
  have h1 := h.2 j v x hv hx'
  have h2 := List.all_eq_true.1 hx x (List.mem_of_getElem? hx')
  cases x <;> first | exact h1 | (simp [V.argR] at h2; done)
theorem FI.start_own {pos e : Nat} {es : List V} {u : Value} {us : List Value} {xs : List V} (hsz : base ≤ w.heap.size) (hG : GOK S w) (hS : ∀ b, S b → b < w.heap.size) (hu : OwnS P S w base e es u) (hng : ∀ g, blkOf u = some g → ¬ S g) (hr : Reps S w us xs) (harg : xs.all V.argR = true)
    (hnt : xs.length + 1 ≤ nt) (hkeep : ∀ n, n < xs.length + 1 → n ∈ keep) :
    FI P nt keep (fun b => b < w.heap.size ∧ blkOf u ≠ some b) base w (args0 0 (insAt pos (.ow e es) xs)) { tmps := (insAt pos u us).toArray ++ Array.replicate (nt - (insAt pos u us).toArray.size) undef, defers := [] } w := by
  have hlen : (insAt pos u us).length = xs.length + 1 := by rw [insAt_length, hr.1]
  have hSS : ∀ b, S b → (b < w.heap.size ∧ blkOf u ≠ some b) := fun b hb => ⟨hS b hb, fun e => hng b e hb⟩
  have hr' : Reps (fun b => b < w.heap.size ∧ blkOf u ≠ some b) w us xs := hr.mono hSS
  have hu' : OwnS P (fun b => b < w.heap.size ∧ blkOf u ≠ some b) w base e es u := by
    obtain ⟨vs, h1, h2, h3, h4⟩ := hu
    exact ⟨vs, h1, h2, h3, h4.mono hSS⟩
  have hg : ∀ n x, get n (args0 0 (insAt pos (.ow e es) xs)) = some x → ∃ v, (insAt pos u us)[n]? = some v ∧ n < xs.length + 1 ∧ ((n = min pos us.length ∧ x = .ow e es ∧ v = u) ∨ (n ≠ min pos us.length ∧ Rep (fun b => b < w.heap.size ∧ blkOf u ≠ some b) w v x ∧ x.names = none ∧ x.isOwn = false ∧ x.smp = true)) := by
    intro n x hx
    rw [get_args0] at hx
    simp only [Nat.not_lt_zero, if_false, Nat.sub_zero] at hx
    have hn : n < xs.length + 1 := by
      have := (List.getElem?_eq_some_iff.1 hx).1
      rw [insAt_length] at this; exact this
    obtain ⟨v, hv, h⟩ := insAt_at (R := fun v x => Rep (fun b => b < w.heap.size ∧ blkOf u ≠ some b) w v x ∧ x.names = none ∧ x.isOwn = false ∧ x.smp = true) pos u (.ow e es) us xs hr.1 (fun j v y hv hy => by
      have hrep := hr'.2 j v y hv hy
      have hax := List.all_eq_true.1 harg y (List.mem_of_getElem? hy)
      exact ⟨hrep, (flat_smp hrep).1, (flat_smp hrep).2.1, smp_of hrep fun ys e => by subst e; simp [V.argR] at hax⟩) n x hx
    exact ⟨v, hv, hn, h⟩
  refine ⟨(srt_args0 _ 0).1, ?_, rfl, Below.refl _ _, fun _ _ => rfl, hsz, fun n x hx => ?_, _, fun _ h => h, fun b h => ⟨.inl h, h.1⟩, ?_⟩
  · simp only [Array.size_append, List.size_toArray, Array.size_replicate]
    omega
  · obtain ⟨v, _, h, _⟩ := hg n x hx
    exact ⟨hkeep n h, by omega⟩
  · have tmv : ∀ {n : Nat} {v : Value}, (insAt pos u us)[n]? = some v → ((insAt pos u us).toArray ++ Array.replicate (nt - (insAt pos u us).toArray.size) undef)[n]? = some v := by
      intro n v hv
      have hlt := (List.getElem?_eq_some_iff.1 hv).1
      rw [Array.getElem?_append_left (by simpa using hlt)]; simpa using hv
    have own1 : ∀ n c g, Owns (args0 0 (insAt pos (.ow e es) xs)) (fun n => ((insAt pos u us).toArray ++ Array.replicate (nt - (insAt pos u us).toArray.size) undef)[n]?) n c g → n = min pos us.length ∧ c = none := by
      intro n c g h
      cases c with
      | none =>
        obtain ⟨x, v, hx, ho, _⟩ := h
        obtain ⟨_, _, _, h | h⟩ := hg n x hx
        · exact ⟨h.1, rfl⟩
        · rw [h.2.2.2.1] at ho; cases ho
      | some j =>
        obtain ⟨ys, _, _, _, hx, _⟩ := h
        obtain ⟨_, _, _, h | h⟩ := hg n _ hx
        · cases h.2.1
        · have := h.2.2.2.2; simp [V.smp] at this
    refine ⟨fun n x hx => ?_, fun n x m hx hm => ?_, fun n c n' c' g h h' => ?_, hG.move hSS fun _ _ => rfl⟩
    · obtain ⟨v, hv, _, h⟩ := hg n x hx
      refine ⟨v, tmv hv, ?_⟩
      rcases h with ⟨_, rfl, rfl⟩ | ⟨_, hrep, _, ho, hsm⟩
      · exact ⟨hu', fun g hg hS => hS.2 hg⟩
      · rw [Ent.res1 hsm]
        cases x <;> first | exact hrep | (simp [V.isOwn] at ho; done) | (simp [V.smp] at hsm; done)
    · obtain ⟨v, _, _, h⟩ := hg n x hx
      rcases h with ⟨_, rfl, _⟩ | ⟨_, _, hnm, _⟩
      · cases hm
      · rw [hnm] at hm; cases hm
    · obtain ⟨e1, e2⟩ := own1 n c g h
      obtain ⟨e3, e4⟩ := own1 n' c' g h'
      exact ⟨e1.trans e3.symm, e2.trans e4.symm⟩
theorem ret_one {fn : Func} {rs : List RV} (hres : resOf P fn.results.toList = some rs) {env : Env} {a' : Act} {w' : World} (hF' : FI P nt keep S base w0 env a' w') {y : V} (hy : ∀ ys, y ≠ .t ys) (hv : retV rs env = some y) :
    a'.defers = [] ∧ ∃ v, (results fn a'.tmps).run P w' = .ok v w' ∧ ∃ Im : Nat → Prop, (∀ b, S b → Im b) ∧ (∀ b, Im b → (S b ∨ base ≤ b) ∧ b < w'.heap.size) ∧ Res1 P Im w' base v y := by
  obtain ⟨Im, hI1, hI2, hE⟩ := hF'.ents
  unfold retV at hv
  simp only [Option.map_eq_some_iff] at hv
  obtain ⟨ys, hys, hy'⟩ := hv
  obtain ⟨us, hrun, hl, hh, hap, _⟩ := resVs_sound hE hF'.srt hres hys
  refine ⟨hF'.defers, (if h : us.toArray.size = 1 then us.toArray[0] else .tuple us.toArray), ?_, Im, hI1, hI2, ?_⟩
  · unfold results
    rw [Array.mapM_eq_mapM_toList]
    simp only [map_eq_pure_bind, Sem.run_bind]
    erw [hrun]
    simp only [Result.andThen_ok, Sem.run_pure]
  · match ys, us, hl, hh, hy' with
    | [y1], [u1], _, hh, hy' =>
      simp only at hy'
      subst hy'
      simpa using hh 0 u1 y1 rfl rfl
    | [], [], _, hh, hy' => exact absurd hy'.symm (hy _)
    | y1 :: y2 :: yr, u1 :: u2 :: ur, hl, hh, hy' => exact absurd hy'.symm (hy _)
theorem reps_flat {S S' : Nat → Prop} {w w' : World} {vs : List Value} {xs : List V} (h : Reps S w vs xs) (hf : ∀ x ∈ xs, x.flat = true) : Reps S' w' vs xs :=
  ⟨h.1, fun j u x hu hx => (h.2 j u x hu hx).of_flat (hf x (List.mem_of_getElem? hx))⟩
theorem mut_body (ho : SoundO P o) {f : FuncId} {fn : Func} (hf : P.funcs[f]? = some fn) {fc : FCode} (hc : compile P fn = some fc) {pos e : Nat} {es xs es' : List V} (h1 : xs.length + 1 = fc.np) (h2 : xs.all V.argR = true) (hfl : ∀ x ∈ flatc es', x.flat = true)
    (hv : retE fc.res (exec o fc.body (args0 0 (insAt pos (.ow e es) xs))) = some (.ow e es')) : PFMp P f pos e true false es xs es' := by
  unfold compile at hc
  simp only [Option.bind_eq_some_iff] at hc
  obtain ⟨c, hbody, b, hcomp, rs, hres, hc⟩ := hc
  split at hc
  · rename_i hcond
    cases hc
    intro S w base u vs us hS hG hsz how hk hcl hr hng hargs _
    refine calls_of_wp hf hbody ?_
    have hb : blkOf u = u.ownBlock := (ownsRow_blk how).symm
    have hlen : us.length = xs.length := hargs.1
    have hF := FI.start_own (P := P) (nt := fn.ntmps) (keep := keepOf fn c) (pos := pos) hsz hG hS ⟨vs, how, hk, hcl, hr⟩ (fun g hg => hng g (by rw [← hb]; exact hg)) (hargs.reps h2) h2 (by rw [h1]; exact hcond.1) (fun n hn => mem_union (List.mem_range.2 (by rw [h1] at hn; exact hn)))
    cases hx : exec o b (args0 0 (insAt pos (.ow e es) xs)) with
    | none => simp only [hx] at hv; cases hv
    | some p =>
      obtain ⟨ex, env'⟩ := p
      simp only [hx] at hv
      refine exec_sound ho hcond.2 c [] (resTmps fn) b hcomp _ ex env' hx _ w hF _ fun a' w' hF' => ?_
      have fin : retV rs env' = some (.ow e es') → a'.defers = [] ∧ ∃ v, (results fn a'.tmps).run P w' = .ok v w' ∧ ∃ (r v' : Value) (vs' : List Value), Ending.returned v = .returned r ∧ w.grownBy w' u.ownBlock ∧ (∀ g, v'.ownBlock = some g → u.ownBlock = some g ∨ w.heap.size ≤ g) ∧ w'.ownsRow base e (P.cellsOf e) v' es'.length vs' ∧ (∀ x ∈ es', x.cells.length = P.cellsOf e) ∧
          (∀ x ∈ flatc es', x.cell = true) ∧ Reps S w vs' (flatc es') ∧ (if true = true then r = v' else v' = u ∧ r = .tuple #[]) := by
        intro hv'
        obtain ⟨hd, v, hrun, Im, hI1, hI2, ⟨⟨vs', how', hk', hc', hr'⟩, hn'⟩⟩ := ret_one (P := P) hres hF' (y := .ow e es') (fun ys e => by cases e) hv'
        refine ⟨hd, v, hrun, v, v, vs', rfl, ⟨hF'.below.os, hF'.below.tape, hF'.below.output, hF'.below.size, fun k hk hne => hF'.kept k ⟨hk, fun e => hne (by rw [← hb, e])⟩⟩, fun g hg => ?_, how', hk', hc', reps_flat hr' hfl, by simp⟩
        rw [ownsRow_blk how'] at hg
        rw [← hb]
        by_cases hgu : blkOf u = some g
        · exact .inl hgu
        · refine .inr ?_
          rcases Nat.lt_or_ge g w.heap.size with hlt | hge
          · exact absurd (hI1 g ⟨hlt, hgu⟩) (hn' g hg)
          · exact hge
      cases ex with
      | n => exact fin hv
      | r => exact fin hv
      | e id => cases hv
  · cases hc
end
end Go.VM
