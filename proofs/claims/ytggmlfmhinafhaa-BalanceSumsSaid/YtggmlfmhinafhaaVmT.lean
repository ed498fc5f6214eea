/-
  Code with ranges over maps, and functions of such code: contracts. No program is named here.
-/
import Derived.Test.YtggmlfmhinafhaaVmS
set_option linter.unusedSectionVars false
namespace Go.VM
open Go.RowKit
open Go.ChangeMaps (setBlock)
variable [Glob]

section
variable {P : Program} {nt : Nat} {keep ret : List Nat} {S : Nat → Prop} {base : Nat} {w0 : World} {env env' : Env} {a : Act} {w : World} {o : Orc}

theorem dstOk_at {ops : List Oper} (h : dstOk nt ops = true) {op : Oper} (hop : op ∈ ops) {d : Nat} (hd : op.dst = some d) : d < nt := by
  have := List.all_eq_true.1 h op hop
  rw [hd] at this; simpa using this
theorem setBlock_other {w : World} {r b : Nat} {o' : Obj} (h : b ≠ r) : (setBlock w r o').heap[b]? = w.heap[b]? := by
  show (w.heap.setIfInBounds r o')[b]? = _
  rw [Array.getElem?_setIfInBounds]; simp [Ne.symm h]
theorem setBlock_size {w : World} {r : Nat} {o' : Obj} : (setBlock w r o').heap.size = w.heap.size := by
  show (w.heap.setIfInBounds r o').size = _
  simp
theorem setBlock_at {w : World} {r : Nat} {o o' : Obj} (h : w.heap[r]? = some o) : (setBlock w r o').heap[r]? = some o' := by
  show (w.heap.setIfInBounds r o')[r]? = _
  have := (Array.getElem?_eq_some_iff.1 h).1
  rw [Array.getElem?_setIfInBounds]; simp [this]
theorem iter_cell {w : World} {r : Nat} {m : Option Nat} {s c : Nat} {seen : Array Nat} (h : w.heap[r]? = some (.mapIter m s seen c)) {p : Addr} (hp : p.block = r) : w.cell? p = none := by
  simp [World.cell?, hp, h]
/-- The iterator's slot. -/
theorem pt_val (hF : FI P nt keep S base w0 env a w) {it r : Nat} (h : get it env = some (.pt r)) : tm a it = some (.pointer (some ⟨r, 0, none⟩)) := by
  obtain ⟨Im, _, _, hE⟩ := hF.ents
  obtain ⟨u, hu, he⟩ := hE.ent it _ h
  have he : Rep Im w u (.pt r) := he
  cases he
  exact hu

theorem get_dropE_mem {ks : List Nat} (hs : Srt env) {d : Nat} (hd : d ∈ ks) : get d (dropE ks env) = none := by
  unfold dropE
  rw [get_filter hs]
  cases get d env with
  | none => rfl
  | some x =>
    have : ks.contains d = true := by simpa using hd
    simp only [Option.bind_some, this]
    rfl
theorem cell_own {x : V} (hc : x.cell = true) : x.isOwn = false := by cases x <;> first | rfl | (simp [V.cell] at hc; done)
theorem rep_smp {x : V} (hu : x.uniq = true) (hc : x.cell = true) : ∀ Im : Nat → Prop, Res1 P Im w base x.toVal x := by
  have h := fun Im : Nat → Prop => rep_toVal (w := w) (Im := Im) hu hc
  cases x <;> first | exact h | (simp [V.cell] at hc; done) | (simp [V.uniq] at hu; done)
/-- The entries that are left, as data. -/
def LeftIs (es : Array MapEntry) (seen : Array Nat) (L : List (V × V)) : Prop := (leftOf es seen).toList.map (fun e => (e.key, e.val)) = L.map fun p => (p.1.toVal, p.2.toVal)
/-- What a stretch of code does at any frame. -/
def Does (P : Program) (nt : Nat) (keep : List Nat) (base : Nat) (F : Env → (Ex → Env → Prop) → Prop) (c : Code) : Prop :=
  ∀ (S : Nat → Prop) (w0 : World) (env : Env) (K : Ex → Env → Prop), F env K → ∀ (a : Act) (w : World), FI P nt keep S base w0 env a w → ∀ Q : Exit → Act → World → Prop, (∀ ex env' a' w', K ex env' → FI P nt keep S base w0 env' a' w' → Q ex.exit a' w') → c.wp P Q a w

theorem rng_loop (ho : SoundO P o) {rg : RG} {F : Env → (Ex → Env → Prop) → Prop} {body : Code} (hbody : Does P nt keep base F body) {i2 i3 : Nat} {ops2 ops3 : Array Oper} {rest : List Oper}
    (h2 : nextR ops2.toList = some (rg.it, rg.nx, rg.tf)) (h3 : entryR ops3.toList = some (rg.it, rg.kd, rest)) (hes : toSts P rest = some rg.es) (hek : rg.ek = looseD keep ops3.toList) (hd2 : dstOk nt ops2.toList = true) (hd3 : dstOk nt ops3.toList = true)
    (hne : rg.nx ≠ rg.tf ∧ rg.it ≠ rg.nx ∧ rg.it ≠ rg.tf ∧ rg.cid ≠ rg.bid) {S2 : Nat → Prop} {r bm since clock : Nat} {es : Array MapEntry} (hS : ∀ b, S b → S2 b) (hS2 : ∀ b, S2 b → S b ∨ base ≤ b) (hr2 : S2 r) (hb2 : S2 bm) (hrb : r ≠ bm) (hSr : ∀ b, S b → b ≠ r) (hrB : base ≤ r)
    (hold : ∀ x ∈ es.toList, x.born < since) (hnd : (es.toList.map (·.born)).Nodup) {K : Ex → Env → Prop} {Q : Exit → Act → World → Prop} (hQ : ∀ ex env' a' w', K ex env' → FI P nt keep S base w0 env' a' w' → Q ex.exit a' w') :
    ∀ (n : Nat) (L : List (V × V)) (seen : Array Nat) (c0 : Nat) (env : Env) (a : Act) (wi w : World), L.length = n → FI P nt keep S2 base wi env a w → w.heap[r]? = some (.mapIter (some bm) since seen c0) → since ≤ c0 → since ≤ clock → w.heap[bm]? = some (.map es clock) → LeftIs es seen L → (∀ p ∈ L, p.1.uniq = true ∧ p.1.cell = true ∧ p.2.uniq = true ∧ p.2.cell = true) →
      Below base w0 wi → (∀ b, S b → wi.heap[b]? = w0.heap[b]?) → roundG o F rg r K n L env →
      Code.rounds P (.seq (.region i2 ops2 false) (.seq (.cond (.tmp rg.tf) .skip (.exit rg.bid)) (.block rg.cid (.seq (.region i3 ops3 false) body)))) (Exit.inBlock rg.bid Q) (n + 1) a w := by
  obtain ⟨x1, x2, e2, q1, q2, q3, q4, q5, q6⟩ := nextR_inv h2
  obtain ⟨y1, e3, q7, q8, q9⟩ := entryR_inv h3
  have hx1 : rg.nx < nt := dstOk_at hd2 (op := x1) (by rw [e2]; simp) q2
  have hx2 : rg.tf < nt := dstOk_at hd2 (op := x2) (by rw [e2]; simp) q4
  have hy1 : rg.kd < nt := dstOk_at hd3 (op := y1) (by rw [e3]; simp) q8
  have e2' : ops2 = #[x1, x2] := by apply Array.toList_inj.1; simpa using e2
  have e3' : ops3 = (y1 :: rest).toArray := by apply Array.toList_inj.1; simpa using e3
  obtain ⟨hn1, hn2, hn3, hn4⟩ := hne
  intro n
  induction n with
  | zero =>
    intro L seen c0 env a wi w hL hF hr hsc hscl hb hleft _ hbel hkept hG
    obtain ⟨hit, hK⟩ := hG
    have hL0 : L = [] := List.eq_nil_of_length_eq_zero hL
    have hu := pt_val hF hit
    have h0 : (leftOf es seen).size = 0 := by
      unfold LeftIs at hleft
      rw [hL0] at hleft
      have := congrArg List.length hleft
      simpa using this
    rw [rounds_succ]
    refine wp_seq (wp_region ?_)
    have hrun : (execOp a.eval x1).run P w = .ok (.value (.tuple #[.bool false])) w := by
      rcases run_next_at (P := P) w x1.type r bm since c0 seen es clock hr hb hold hsc with ⟨_, h⟩ | ⟨e, he, _⟩
      · simp only [execOp, q1, eval_tmp hu, Sem.run_bind, h, Result.andThen_ok, Sem.run_pure]
      · exfalso
        have hz : (leftOf es seen).toList = [] := by rw [Array.toList_eq_nil_iff]; exact Array.eq_empty_of_size_eq_zero h0
        rw [hz] at he; cases he
    have hsz : rg.nx < a.tmps.size := by rw [hF.size]; exact hx1
    have hF0 : FI P nt keep S base w0 (dropE [rg.it, rg.nx, rg.tf] env) a w := (hF.leave hS hS2 hbel hkept).dropE _ fun n h _ => h
    have hnog : ∀ d, d ∈ [rg.it, rg.nx, rg.tf] → get d (dropE [rg.it, rg.nx, rg.tf] env) = none := fun d hd => get_dropE_mem hF.srt hd
    have hF1 := hF0.put_dead (hnog rg.nx (by simp)) hx1 (.tuple #[.bool false])
    have hF2 := hF1.put_dead (hnog rg.tf (by simp)) hx2 (.bool false)
    subst e2'
    refine wpOps_value (opsL := [x1, x2]) (n := 0) rfl q5 hrun ?_
    rw [q2]
    refine wpOps_value (opsL := [x1, x2]) (n := 1) rfl q6 (u := .bool false) (w1 := w) ?_ ?_
    · have : tm (a.put (some rg.nx) (.tuple #[.bool false])) rg.nx = some (.tuple #[.bool false]) := (tm_put hsz _).trans (if_pos rfl)
      simp [execOp, q3, eval_tmp this, Instr.extract]
    rw [q4]
    show (Code.seq _ _).wp P _ _ _
    have hc : ((a.put (some rg.nx) (.tuple #[.bool false])).put (some rg.tf) (.bool false)).eval (.tmp rg.tf) = .bool false := eval_tmp ((tm_put (by rw [hF1.size]; exact hx2) _).trans (if_pos rfl))
    refine wp_seq (wp_cond hc ?_)
    refine wp_exit ?_
    show Exit.inBlock rg.bid Q (.exit rg.bid) _ _
    simp only [Exit.inBlock, if_true]
    exact hQ .n _ _ _ hK hF2
  | succ n ih =>
    intro L seen c0 env a wi w hL hF hr hsc hscl hb hleft hLc hbel hkept hG
    obtain ⟨hit, hG⟩ := hG
    have hu := pt_val hF hit
    have hlen : (leftOf es seen).toList.length = L.length := by
      have := congrArg List.length hleft
      simpa using this
    rw [rounds_succ]
    refine wp_seq (wp_region ?_)
    obtain ⟨e, he, w1, hw1, hrun⟩ : ∃ e ∈ (leftOf es seen).toList, ∃ w1 : World, (w1 = w ∨ w1 = w.drew) ∧ (Instr.next (.pointer (some ⟨r, 0, none⟩)) false x1.type).run P w = .ok (.tuple #[.bool true, e.key, e.val]) (setBlock w1 r (.mapIter (some bm) since (seen.push e.born) clock)) := by
      rcases run_next_at (P := P) w x1.type r bm since c0 seen es clock hr hb hold hsc with ⟨h0, _⟩ | h
      · exfalso
        have : (leftOf es seen).toList.length = 0 := by simpa using h0
        omega
      · exact h
    generalize hw2 : setBlock w1 r (.mapIter (some bm) since (seen.push e.born) clock) = w2 at hrun
    have hwh : w1.heap = w.heap := by rcases hw1 with rfl | rfl <;> rfl
    have hr1 : w1.heap[r]? = some (.mapIter (some bm) since seen c0) := by rw [hwh]; exact hr
    have hr2' : w2.heap[r]? = some (.mapIter (some bm) since (seen.push e.born) clock) := by rw [← hw2]; exact setBlock_at hr1
    have hoth : ∀ b, b ≠ r → w2.heap[b]? = w.heap[b]? := fun b hb => by rw [← hw2, setBlock_other hb, hwh]
    have hsz2 : w2.heap.size = w.heap.size := by rw [← hw2, setBlock_size, hwh]
    have hb2' : w2.heap[bm]? = some (.map es clock) := (hoth bm (Ne.symm hrb)).trans hb
    have hbel2 : Below base w0 w2 := by
      refine (hbel.trans hF.below).trans ⟨?_, ?_, ?_, by rw [hsz2]; exact Nat.le_refl _, fun k hk => hoth k (by omega)⟩
      all_goals (rw [← hw2]; rcases hw1 with rfl | rfl <;> rfl)
    have hkept2 : ∀ b, S b → w2.heap[b]? = w0.heap[b]? := fun b hb => (hoth b (hSr b hb)).trans ((hF.kept b (hS b hb)).trans (hkept b hb))
    obtain ⟨i, hi⟩ := List.getElem?_of_mem he
    have hiL : i < L.length := by rw [← hlen]; exact (List.getElem?_eq_some_iff.1 hi).1
    obtain ⟨k, v, hkv⟩ : ∃ k v, L[i]? = some (k, v) := ⟨_, _, List.getElem?_eq_getElem hiL⟩
    have hke : e.key = k.toVal ∧ e.val = v.toVal := by
      have := congrArg (fun l => l[i]?) hleft
      simp only [List.getElem?_map, hi, hkv, Option.map_some, Option.some.injEq, Prod.mk.injEq] at this
      exact this
    obtain ⟨hk1, hk2, hv1, hv2⟩ := hLc _ (List.mem_of_getElem? hkv)
    obtain ⟨env3, hst3, hbd⟩ := hG i k v hkv
    -- the frame behind the step
    have hT : FI P nt keep S2 base w2 env a w2 := hF.turn hr2 hsz2 hoth fun p hp => by rw [iter_cell hr2' hp, iter_cell hr hp]
    have hF0 := (hT.keepE rg.kin).dropE [rg.nx, rg.tf] (keep' := keep) fun n h _ => h
    have hnog : ∀ d, d ∈ [rg.nx, rg.tf] → get d (dropE [rg.nx, rg.tf] (keepE rg.kin env)) = none := fun d hd => get_dropE_mem (hF.keepE rg.kin).srt hd
    have hF1 := hF0.put_dead (hnog rg.nx (by simp)) hx1 (.tuple #[.bool true, e.key, e.val])
    have hF2 := hF1.put_dead (hnog rg.tf (by simp)) hx2 (.bool true)
    have hsz : rg.nx < a.tmps.size := by rw [hF.size]; exact hx1
    subst e2'
    refine wpOps_value (opsL := [x1, x2]) (n := 0) rfl q5 (u := .tuple #[.bool true, e.key, e.val]) (w1 := w2) ?_ ?_
    · simp only [execOp, q1, eval_tmp hu, Sem.run_bind, hrun, Result.andThen_ok, Sem.run_pure]
    rw [q2]
    refine wpOps_value (opsL := [x1, x2]) (n := 1) rfl q6 (u := .bool true) (w1 := w2) ?_ ?_
    · have : tm (a.put (some rg.nx) (.tuple #[.bool true, e.key, e.val])) rg.nx = some (.tuple #[.bool true, e.key, e.val]) := (tm_put hsz _).trans (if_pos rfl)
      simp [execOp, q3, eval_tmp this, Instr.extract]
    rw [q4]
    show (Code.seq _ _).wp P _ _ _
    have hc : ((a.put (some rg.nx) (.tuple #[.bool true, e.key, e.val])).put (some rg.tf) (.bool true)).eval (.tmp rg.tf) = .bool true := eval_tmp ((tm_put (by rw [hF1.size]; exact hx2) _).trans (if_pos rfl))
    refine wp_seq (wp_cond hc ?_)
    refine wp_skip ?_
    show (Code.block _ _).wp P _ _ _
    refine wp_block (wp_seq (wp_region ?_))
    have hu3 : tm ((a.put (some rg.nx) (.tuple #[.bool true, e.key, e.val])).put (some rg.tf) (.bool true)) rg.it = some (.pointer (some ⟨r, 0, none⟩)) := by
      rw [tm_put (by rw [hF1.size]; exact hx2), if_neg hn3, tm_put hsz, if_neg hn2]; exact hu
    generalize ((a.put (some rg.nx) (.tuple #[.bool true, e.key, e.val])).put (some rg.tf) (.bool true)) = a2 at hF2 hu3
    subst e3'
    have hrange : List.range (y1 :: rest).toArray.size = 0 :: (List.range' 1 rest.length ++ []) := by
      rw [List.size_toArray, List.length_cons, List.range_eq_range', List.range'_succ, List.append_nil]
    rw [hrange]
    refine wpOps_value (opsL := y1 :: rest) (n := 0) rfl q9 (u := .tuple #[e.key, e.val]) (w1 := w2) ?_ ?_
    · simp only [execOp, q7, eval_tmp hu3, Sem.run_bind, run_entry_at w2 r bm since seen es clock e hr2' hb2' (mem_left he).1 hnd, Result.andThen_ok, Sem.run_pure]
    rw [q8]
    have hFk := hF2.keys_mono (keep' := keep ++ ((y1 :: rest).flatMap fun o => o.dst.toList)) fun n hn => List.mem_append_left _ hn
    obtain ⟨Im, hI1, hI2, hE⟩ := hFk.ents
    have hF3 := hFk.put_res (d := some rg.kd) (fun d hd => by
        simp only [Option.some.injEq] at hd
        subst hd
        exact ⟨List.mem_append_right _ (by simp [q8]), hy1⟩) (Below.refl _ _) hI1 hI2 hE (fun _ h => h) (fun b h => ⟨.inl h, (hI2 b h).2⟩) (v := .tuple #[e.key, e.val]) (y := .t [k, v])
      ⟨[e.key, e.val], rfl, rfl, fun j u y hj hy => by
        rcases j with _ | _ | j
        · simp at hj hy; subst hj hy; rw [hke.1]; exact rep_smp hk1 hk2 _
        · simp at hj hy; subst hj hy; rw [hke.2]; exact rep_smp hv1 hv2 _
        · simp at hj, fun i j u u' y y' g _ hi _ hyi _ hyo _ => by
        rcases i with _ | _ | i
        · simp at hyi; subst hyi; rw [cell_own hk2] at hyo; cases hyo
        · simp at hyi; subst hyi; rw [cell_own hv2] at hyo; cases hyo
        · simp at hyi⟩
    refine stepsS_pre ho (opsL := y1 :: rest) (rest := []) rest rg.es 1 _ _ w2 [] hes hst3 (by simp) (fun op hop d hd => ⟨List.mem_append_right _ (List.mem_flatMap.2 ⟨op, List.mem_cons_of_mem _ hop, by simp [hd]⟩), dstOk_at hd3 (List.mem_cons_of_mem _ hop) hd⟩) hF3 fun a3 w3 hF4 => ?_
    have hF5 : FI P nt keep S2 base w2 (dropE rg.ek env3) a3 w3 := hF4.dropE _ fun n hn hd => by
      by_cases hk : n ∈ keep
      · exact hk
      · rcases List.mem_append.1 hn with h | h
        · exact h
        · refine absurd ?_ hd
          rw [hek]
          exact List.mem_filter.2 ⟨h, by simp [hk]⟩
    show body.wp P _ _ _
    refine hbody S2 w2 _ _ hbd a3 w3 hF5 _ fun ex env4 a4 w4 hK4 hF6 => ?_
    have next : roundG o F rg r K n (L.eraseIdx i) env4 → Code.rounds P (.seq (.region i2 [x1, x2].toArray false) (.seq (.cond (.tmp rg.tf) .skip (.exit rg.bid)) (.block rg.cid (.seq (.region i3 (y1 :: rest).toArray false) body)))) (Exit.inBlock rg.bid Q) (n + 1) a4 w4 := fun h => by
      refine ih (L.eraseIdx i) (seen.push e.born) clock env4 a4 w2 w4 (by rw [List.length_eraseIdx, if_pos hiL]; omega) hF6 ((hF6.kept r hr2).trans hr2') hscl hscl ((hF6.kept bm hb2).trans hb2') ?_ (fun p hp => hLc p (List.mem_of_mem_eraseIdx hp)) hbel2 hkept2 h
      unfold LeftIs at hleft ⊢
      rw [left_next hnd hi]
      rw [List.eraseIdx_eq_take_drop_succ, List.eraseIdx_eq_take_drop_succ, List.map_append, List.map_append, List.map_take, List.map_drop, hleft, List.map_take, List.map_drop]
    have out : ∀ ex', K ex' env4 → Q ex'.exit a4 w4 := fun ex' h => hQ ex' env4 a4 w4 h (hF6.leave hS hS2 hbel2 hkept2)
    cases ex with
    | n => exact next hK4
    | r => exact out .r hK4
    | e j =>
      simp only at hK4
      show Exit.inBlock rg.cid _ (.exit j) a4 w4
      simp only [Exit.inBlock]
      by_cases hj : j = rg.cid
      · rw [if_pos hj] at hK4 ⊢; exact next hK4
      · rw [if_neg hj] at hK4 ⊢
        show Exit.inBlock rg.bid Q (.exit j) a4 w4
        simp only [Exit.inBlock]
        by_cases hj2 : j = rg.bid
        · rw [if_pos hj2] at hK4 ⊢; exact out .n hK4
        · rw [if_neg hj2] at hK4 ⊢; exact out (.e j) hK4

/-- Two worlds' difference by one block more. -/
theorem alloc_other {w : World} {o' : Obj} {b : Nat} (h : b < w.heap.size) : (w.alloc o').heap[b]? = w.heap[b]? := heap_alloc_old w o' h

theorem rng_sound (ho : SoundO P o) {rg : RG} {F : Env → (Ex → Env → Prop) → Prop} {body : Code} (hbody : Does P nt keep base F body) {i1 i2 i3 t bid cid : Nat} {kin : List Nat} {ops1 ops2 ops3 : Array Oper} (hne : cid ≠ bid)
    (hrg : rgOf P nt keep kin ops1.toList ops2.toList ops3.toList t bid cid = some rg) {K : Ex → Env → Prop} (hW : ∃ env1, stepsS o rg.pre env = some env1 ∧ ∃ m ks vs, mapOf env1 rg.m = some (m, ks, vs) ∧ ks.all V.cell = true ∧ vs.all V.cell = true ∧
      ∀ b, roundG o F rg b K ks.length (ks.zip vs) (put' rg.it (.pt b) (dropE rg.pk (consume m env1))))
    (hF : FI P nt keep S base w0 env a w) {Q : Exit → Act → World → Prop} (hQ : ∀ ex env' a' w', K ex env' → FI P nt keep S base w0 env' a' w' → Q ex.exit a' w') :
    (Code.seq (.region i1 ops1 false) (.block bid (.loop (.seq (.region i2 ops2 false) (.seq (.cond (.tmp t) .skip (.exit bid)) (.block cid (.seq (.region i3 ops3 false) body))))))).wp P Q a w := by
  unfold rgOf at hrg
  simp only [Option.bind_eq_some_iff] at hrg
  obtain ⟨⟨pre, ty, m0, it⟩, h1, ⟨it', nx, tf⟩, h2, ⟨it'', kd, rest⟩, h3, ss, hss, es', hes, hrg⟩ := hrg
  split at hrg
  · rename_i hc
    simp only [Option.some.injEq] at hrg
    subst hrg
    obtain ⟨hmt, rfl, rfl, rfl, hnt, hki, hin, hit, hd1, hd2, hd3⟩ := hc
    simp only at *
    obtain ⟨x, e1, q1, q2, q3⟩ := headR_inv h1
    obtain ⟨env1, hst, m, ks, vs, hmap, hkc, hvc, hG⟩ := hW
    have e1' : ops1 = (pre ++ [x]).toArray := by apply Array.toList_inj.1; simpa using e1
    subst e1'
    have hitn : it'' < nt := dstOk_at hd1 (op := x) (by simp) q2
    refine wp_seq (wp_region ?_)
    have hrange : List.range (pre ++ [x]).toArray.size = List.range' 0 pre.length ++ [pre.length] := by
      rw [List.size_toArray, List.length_append, List.length_singleton, List.range_eq_range', List.range'_concat]; simp
    rw [hrange]
    have hFk := hF.keys_mono (keep' := keep ++ ((pre ++ [x]).flatMap fun o => o.dst.toList)) fun n hn => List.mem_append_left _ hn
    refine stepsS_pre ho (opsL := pre ++ [x]) (rest := [pre.length]) pre ss 0 env a w [x] hss hst (by simp) (fun op hop d hd => ⟨List.mem_append_right _ (List.mem_flatMap.2 ⟨op, List.mem_append_left _ hop, by simp [hd]⟩), dstOk_at hd1 (List.mem_append_left _ hop) hd⟩) hFk fun a1 w1 hF1 => ?_
    obtain ⟨Im, hI1, hI2, hE⟩ := hF1.ents
    obtain ⟨bm, es, clock, hT0, hTm, hbB, hbm, hk1, hk2, hk3, hk4, hnIm, hnd, hborn⟩ := mapOf_val hE hmap
    have hbml : bm < w1.heap.size := (Array.getElem?_eq_some_iff.1 hbm).1
    unfold mapTy at hmt
    split at hmt
    · rename_i k0 el hu
      have hrun : (execOp a1.eval x).run P w1 = .ok (.value (.pointer (some ⟨w1.heap.size, 0, none⟩))) (w1.alloc (.mapIter (some bm) clock #[] clock)) := by
        simp only [execOp, q1, eval_tmp hT0, Sem.run_bind, run_range_map w1 ty k0 el bm es clock hu hbm, Result.andThen_ok, Sem.run_pure]
      refine wpOps_value (opsL := pre ++ [x]) (n := pre.length) (by simp) q3 hrun ?_
      rw [q2]
      have hb1 : Below w1.heap.size w1 (w1.alloc (.mapIter (some bm) clock #[] clock)) := (Below.refl _ _).alloc (Nat.le_refl _) _
      obtain ⟨hF2, hno⟩ := hF1.consume (mapOf_get hmap).1 rfl hTm (g := bm) rfl
      have hnoR : ∀ n c, ¬ Owns (consume m env1) (tm a1) n c w1.heap.size := fun n c hown => by
        obtain ⟨Im', _, _, hE'⟩ := hF2.ents
        exact absurd (Owns.lt hE' hown).1 (Nat.lt_irrefl _)
      have hF3 := (hF2.grow hb1)
      have hSlt : ∀ b, S b → b < w1.heap.size := fun b hb => (hI2 b (hI1 b hb)).2
      have hsz : (w1.alloc (.mapIter (some bm) clock #[] clock)).heap.size = w1.heap.size + 1 := by simp
      generalize hw2 : w1.alloc (.mapIter (some bm) clock #[] clock) = w2 at hF3 hb1 hsz
      have hr2 : w2.heap[w1.heap.size]? = some (.mapIter (some bm) clock #[] clock) := by rw [← hw2]; exact heap_alloc_new _ _
      have hbm2 : w2.heap[bm]? = some (.map es clock) := by rw [← hw2, heap_alloc_old _ _ hbml]; exact hbm
      have hF4 : FI P nt (keep ++ ((pre ++ [x]).flatMap fun o => o.dst.toList)) (fun b => S b ∨ b = w1.heap.size ∨ b = bm) base w2 (consume m env1) a1 w2 := hF3.enter (fun b h => .inl h) fun b hb => by
        rcases hb with hb | rfl | rfl
        · exact .inl hb
        · exact .inr ⟨hF1.bsz, by omega, hnoR⟩
        · exact .inr ⟨hbB, by omega, hno⟩
      have hF5 : FI P nt keep (fun b => S b ∨ b = w1.heap.size ∨ b = bm) base w2 (dropE (looseD keep (pre ++ [x])) (consume m env1)) a1 w2 := hF4.dropE _ fun n hn hd => by
        by_cases hk : n ∈ keep
        · exact hk
        · rcases List.mem_append.1 hn with h | h
          · exact h
          · exact absurd (List.mem_filter.2 ⟨h, by simp [hk]⟩) hd
      have hF6 := hF5.put_rep (d := it'') (by simpa using hki) hitn (Below.refl _ _) (x := .pt w1.heap.size) (u := .pointer (some ⟨w1.heap.size, 0, none⟩)) rfl rfl fun Im _ h2 _ => ⟨Im, fun _ h => h, fun b h => ⟨.inl h, (h2 b h).2⟩, .pt _⟩
      show (Code.block _ _).wp P _ _ _
      refine wp_block (wp_loop_rounds (ks.length + 1) ?_)
      have hkv : ks.length = vs.length := by
        have e1 := congrArg List.length hk1
        have e2 := congrArg List.length hk2
        simp only [List.length_map] at e1 e2
        omega
      refine rng_loop (rg := ⟨ss, looseD keep (pre ++ [x]), m0, it'', nx, tf, kd, kin, es', looseD keep ops3.toList, bid, cid⟩) ho hbody h2 h3 hes rfl hd2 hd3 ⟨hnt, hin, hit, hne⟩ (S2 := fun b => S b ∨ b = w1.heap.size ∨ b = bm) (r := w1.heap.size) (bm := bm) (since := clock) (clock := clock) (es := es) (fun b h => .inl h) (fun b hb => ?_) (.inr (.inl rfl)) (.inr (.inr rfl)) (by omega) (fun b hb => by have := hSlt b hb; omega) hF1.bsz
        hborn hnd (K := K) (Q := Q) hQ ks.length (ks.zip vs) #[] clock _ _ w2 w2 (by rw [List.length_zip]; omega) hF6 hr2 (Nat.le_refl _) (Nat.le_refl _) hbm2 ?_ (fun p hp => ?_) ?_ ?_ (hG w1.heap.size)
      · rcases hb with hb | rfl | rfl
        · exact .inl hb
        · exact .inr hF1.bsz
        · exact .inr hbB
      · unfold LeftIs
        have : leftOf es #[] = es := by unfold leftOf; exact Array.filter_eq_self.2 (by simp)
        rw [this]
        have hl : es.toList.length = ks.length := by
          have e1 := congrArg List.length hk1
          simpa using e1
        apply List.ext_getElem?
        intro i
        have a1 := congrArg (fun l => l[i]?) hk1
        have a2 := congrArg (fun l => l[i]?) hk2
        simp only [List.getElem?_map] at a1 a2 ⊢
        rw [List.zip_eq_zipWith, List.getElem?_zipWith]
        cases he : es.toList[i]? with
        | none =>
          rw [he] at a1
          cases hq : ks[i]? with
          | none => rfl
          | some q => rw [hq] at a1; cases a1
        | some e =>
          rw [he] at a1 a2
          cases hq : ks[i]? with
          | none => rw [hq] at a1; cases a1
          | some q =>
            cases hq2 : vs[i]? with
            | none => rw [hq2] at a2; cases a2
            | some q2 =>
              rw [hq] at a1; rw [hq2] at a2
              simp only [Option.map_some, Option.some.injEq] at a1 a2 ⊢
              rw [a1, a2]
      · have hp1 : p.1 ∈ ks := (List.of_mem_zip hp).1
        have hp2 : p.2 ∈ vs := (List.of_mem_zip hp).2
        exact ⟨hk3 _ hp1, List.all_eq_true.1 hkc _ hp1, hk4 _ hp2, List.all_eq_true.1 hvc _ hp2⟩
      · exact hF3.below
      · exact hF3.kept
    · cases hmt
  · cases hrg

/-- Code with ranges does what is said of it. -/
theorem WP_sound (ho : SoundO P o) (hm : P.follows .mixedOrders = true) : ∀ (s : Sh) (c : Code) (es : List (Nat × List Nat)) (out : List Nat) (cc : N), compN P nt keep ret s c es out = some cc → Does P nt keep base (WP o cc) c
  | .c, c, es, out, cc, hc => by
    simp only [compN, Option.map_eq_some_iff] at hc
    obtain ⟨x, hx, rfl⟩ := hc
    intro S w0 env K hW a w hF Q hQ
    obtain ⟨ex, env1, he, hK⟩ := hW
    exact exec_sound ho hm c es out x hx env ex env1 he a w hF Q fun a' w' h => hQ ex env1 a' w' hK h
  | .seq s t, .seq x y, es, out, cc, hc => by
    simp only [compN, Option.bind_eq_some_iff, Option.some.injEq] at hc
    obtain ⟨n1, h1, n2, h2, rfl⟩ := hc
    intro S w0 env K hW a w hF Q hQ
    refine wp_seq (WP_sound ho hm s x _ _ n1 h1 S w0 env _ hW a w hF _ fun ex env1 a1 w1 hK hF1 => ?_)
    cases ex with
    | n => exact WP_sound ho hm t y _ _ n2 h2 S w0 env1 _ hK a1 w1 hF1 Q hQ
    | e j => exact hQ (.e j) env1 a1 w1 hK hF1
    | r => exact hQ .r env1 a1 w1 hK hF1
  | .cond s t, .cond c x y, es, out, cc, hc => by
    simp only [compN, Option.bind_eq_some_iff, Option.some.injEq] at hc
    obtain ⟨cx, hcx, n1, h1, n2, h2, rfl⟩ := hc
    intro S w0 env K hW a w hF Q hQ
    obtain ⟨t', hv, hW⟩ := hW
    refine wp_cond (cond_val hF hcx hv) ?_
    cases t' with
    | true => exact WP_sound ho hm s x _ _ n1 h1 S w0 env K hW a w hF Q hQ
    | false => exact WP_sound ho hm t y _ _ n2 h2 S w0 env K hW a w hF Q hQ
  | .blk s, .block id x, es, out, cc, hc => by
    simp only [compN, Option.bind_eq_some_iff, Option.some.injEq] at hc
    obtain ⟨n1, h1, rfl⟩ := hc
    intro S w0 env K hW a w hF Q hQ
    refine wp_block (WP_sound ho hm s x _ _ n1 h1 S w0 env _ hW a w hF _ fun ex env1 a1 w1 hK hF1 => ?_)
    cases ex with
    | n => exact hQ .n env1 a1 w1 hK hF1
    | e j =>
      show Exit.inBlock id Q (.exit j) a1 w1
      simp only [Exit.inBlock]
      simp only at hK
      by_cases hj : j = id
      · rw [if_pos hj] at hK ⊢; exact hQ .n env1 a1 w1 hK hF1
      · rw [if_neg hj] at hK ⊢; exact hQ (.e j) env1 a1 w1 hK hF1
    | r => exact hQ .r env1 a1 w1 hK hF1
  | .loop s, .loop x, es, out, cc, hc => by
    simp only [compN, Option.bind_eq_some_iff, Option.some.injEq] at hc
    obtain ⟨n1, h1, rfl⟩ := hc
    intro S w0 env K hW a w hF Q hQ
    obtain ⟨n, hW⟩ := hW
    refine wp_loop_rounds n ?_
    induction n generalizing env a w with
    | zero => exact hW.elim
    | succ n ih =>
      refine WP_sound ho hm s x _ _ n1 h1 S w0 _ _ hW a w (hF.keepE _) _ fun ex env1 a1 w1 hK hF1 => ?_
      cases ex with
      | n => exact ih env1 a1 w1 hF1 hK
      | e j => exact hQ (.e j) env1 a1 w1 hK hF1
      | r => exact hQ .r env1 a1 w1 hK hF1
  | .rng s, c, es, out, cc, hc => by
    unfold compN at hc
    split at hc <;> first | (rename_i hh; cases hh; done) | skip
    · cases ‹Sh.rng _ = Sh.rng _›
      simp only at hc
      split at hc
      · rename_i hb
        obtain ⟨rfl, hne⟩ := hb
        simp only [Option.bind_eq_some_iff, Option.some.injEq] at hc
        obtain ⟨rg, hrg, b, hb, rfl⟩ := hc
        intro S w0 env K hW a w hF Q hQ
        exact rng_sound ho (WP_sound ho hm s _ _ _ b hb) hne hrg hW hF hQ
      · cases hc
    · cases hc
end
end Go.VM
