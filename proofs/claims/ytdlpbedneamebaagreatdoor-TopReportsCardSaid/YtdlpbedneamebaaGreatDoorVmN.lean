/-
  All functions at once: what is known of calls, to any depth. No program is named here.
-/
import Derived.Test.YtdlpbedneamebaaGreatDoorVmK
import Derived.Test.YtdlpbedneamebaaGreatDoorVmM
import Derived.Test.YtdlpbedneamebaaGreatDoorVmL
set_option linter.unusedSectionVars false
namespace Go.VM
open Go.RowKit
variable [Glob]

def Pts {α : Type} (F : Orc → Option α) : Prop := ∀ o v, F o = some v → ∃ L : List (Nat × List V × V), (∀ p ∈ L, o p.1 p.2.1 = some p.2.2) ∧ ∀ o' : Orc, (∀ p ∈ L, o' p.1 p.2.1 = some p.2.2) → F o' = some v
theorem Pts.const {α : Type} (x : Option α) : Pts fun _ => x := fun _ _ h => ⟨[], by simp, fun _ _ => h⟩
theorem Pts.ask (f : Nat) (xs : List V) : Pts fun o => o f xs := fun _ y h => ⟨[(f, xs, y)], by simpa using h, fun o' h' => h' (f, xs, y) (by simp)⟩
theorem Pts.bind {α β : Type} {F : Orc → Option α} {G : α → Orc → Option β} (hF : Pts F) (hG : ∀ a, Pts (G a)) : Pts fun o => (F o).bind fun a => G a o := by
  intro o v h
  simp only [Option.bind_eq_some_iff] at h
  obtain ⟨a, ha, hg⟩ := h
  obtain ⟨L1, h1, h2⟩ := hF o a ha
  obtain ⟨L2, h3, h4⟩ := hG a o v hg
  refine ⟨L1 ++ L2, fun p hp => ?_, fun o' h' => ?_⟩
  · rcases List.mem_append.1 hp with hp | hp
    · exact h1 p hp
    · exact h3 p hp
  · simp only [h2 o' fun p hp => h' p (List.mem_append_left _ hp), Option.bind_some]
    exact h4 o' fun p hp => h' p (List.mem_append_right _ hp)
theorem Pts.congr {α : Type} {F G : Orc → Option α} (hF : Pts F) (h : ∀ o, G o = F o) : Pts G := by
  have : G = F := funext h
  rw [this]; exact hF
theorem Pts.mono {α : Type} {F : Orc → Option α} (hF : Pts F) {o o' : Orc} (h : ∀ f xs y, o f xs = some y → o' f xs = some y) {v : α} (hv : F o = some v) : F o' = some v := by
  obtain ⟨L, h1, h2⟩ := hF o v hv
  exact h2 o' fun p hp => h _ _ _ (h1 p hp)

theorem pts_callV (vs : List V) : Pts fun o => callV o vs := by
  unfold callV
  split
  · exact Pts.ask _ _
  · exact Pts.const _
theorem opQ_still (o : Orc) (p : XOp) (vs : List V) (h1 : ∀ fl f, p ≠ .call fl f) (h2 : ∀ fl, p ≠ .callv fl) : opQ o p vs = opQ o0 p vs := by
  cases p <;> first
    | exact absurd rfl (h1 _ _)
    | exact absurd rfl (h2 _)
    | (match vs with
      | [] => rfl
      | [x] => cases x <;> rfl
      | [x, y] => cases x <;> cases y <;> rfl
      | x :: y :: _ :: _ => cases x <;> first | rfl | (cases y <;> rfl))
theorem pts_opQ (p : XOp) (vs : List V) : Pts fun o => opQ o p vs := by
  by_cases h1 : ∃ fl f, p = .call fl f
  · obtain ⟨fl, f, rfl⟩ := h1
    exact Pts.congr (Pts.bind (Pts.ask f vs) fun r => Pts.const (if fl = true → r.uniq = true then some (frzt r) else none)) fun o => opQ_call o fl f vs
  · by_cases h2 : ∃ fl, p = .callv fl
    · obtain ⟨fl, rfl⟩ := h2
      exact Pts.congr (Pts.bind (pts_callV vs) fun r => Pts.const (if fl = true → r.uniq = true then some (frzt r) else none)) fun o => opQ_callv o fl vs
    · exact Pts.congr (Pts.const (opQ o0 p vs)) fun o => opQ_still o p vs (fun fl f e => h1 ⟨fl, f, e⟩) (fun fl e => h2 ⟨fl, e⟩)
mutual
theorem pts_evalX (env : Env) : ∀ x : X, Pts fun o => evalX o env x
  | .sl n => by simp only [evalX]; exact Pts.const _
  | .k v => by simp only [evalX]; exact Pts.const _
  | .ite c a b => by
    simp only [evalX]
    refine Pts.bind (pts_evalX env c) fun v => ?_
    cases v with
    | b t =>
      cases t with
      | true => exact pts_evalX env a
      | false => exact pts_evalX env b
    | _ => exact Pts.const _
  | .op p xs => by
    simp only [evalX]
    exact Pts.bind (pts_evalXs env xs) fun vs => pts_opQ p vs
theorem pts_evalXs (env : Env) : ∀ xs : List X, Pts fun o => evalXs o env xs
  | [] => by simp only [evalXs]; exact Pts.const _
  | x :: xs => by
    simp only [evalXs]
    exact Pts.bind (pts_evalX env x) fun v => Pts.bind (pts_evalXs env xs) fun vs => Pts.const _
end
theorem pts_putsQ (env : Env) : ∀ (rs : List (Nat × X)) (acc : Env), Pts fun o => putsQ o env rs acc
  | [], acc => by simp only [putsQ]; exact Pts.const _
  | p :: r, acc => by
    simp only [putsQ]
    refine Pts.bind (pts_evalX env p.2) fun v => ?_
    split
    · exact pts_putsQ env r _
    · exact Pts.const _
theorem pts_stepS (env : Env) (s : St) : Pts fun o => stepS o env s := by
  cases s with
  | q d p xs =>
    simp only [stepS]
    exact Pts.bind (Pts.const _) fun vs => Pts.bind (pts_opQ p vs) fun r => Pts.const _
  | call d f xs =>
    simp only [stepS]
    exact Pts.bind (Pts.const _) fun vs => Pts.bind (Pts.ask f vs) fun r => Pts.const _
  | callv d xs =>
    simp only [stepS]
    exact Pts.bind (Pts.const _) fun vs => Pts.bind (pts_callV vs) fun r => Pts.const _
  | slc d k lo hi xs =>
    simp only [stepS]
    exact Pts.bind (Pts.const _) fun vs => Pts.bind (pts_opQ _ vs) fun r => Pts.const _
  | mv d s => cases s <;> exact Pts.const _
  | as d s => cases s <;> exact Pts.const _
  | ix d k s i => exact Pts.const _
  | fa d off n s => cases s <;> exact Pts.const _
  | sto sz s v => cases s <;> exact Pts.const _
  | app d e k b s y => exact Pts.const _
  | ext d i n => exact Pts.const _
  | bld d z ps xs => exact Pts.const _
  | bsl d e k xs => exact Pts.const _
  | box d s => exact Pts.const _
  | alo d z => exact Pts.const _
  | mkf d fn n xs => exact Pts.const _
  | mks d e b z n => exact Pts.const _
  | s2b d e s => exact Pts.const _
  | mkm d => exact Pts.const _
  | cpy d e k s y => cases s <;> exact Pts.const _
  | mget d kt z s k => cases s <;> exact Pts.const _
  | mset kt s k v => cases s <;> exact Pts.const _
  | callm d f mu s xs =>
    cases s with
    | t n => exact Pts.const _
    | c v =>
      cases v with
      | l es => cases es <;> exact Pts.const _
      | _ => exact Pts.const _
theorem pts_stepsS : ∀ (ss : List St) (env : Env), Pts fun o => stepsS o ss env
  | [], env => by simp only [stepsS]; exact Pts.const _
  | s :: r, env => by
    simp only [stepsS]
    exact Pts.bind (pts_stepS env s) fun env' => pts_stepsS r env'
theorem pts_stepG (env : Env) (s : GSt) : Pts fun o => stepG o env s := by
  cases s with
  | s st => simp only [stepG]; exact pts_stepS env st
  | gd c t d st =>
    simp only [stepG]
    refine Pts.bind (Pts.const _) fun v => ?_
    cases v with
    | b u =>
      by_cases h : u = t
      · simp only [h, if_true]; exact pts_stepS env st
      · simp only [h, if_false]; exact Pts.const _
    | _ => exact Pts.const _
  | pick d c a b =>
    simp only [stepG]
    exact Pts.const _
theorem pts_stepsG : ∀ (ss : List GSt) (env : Env), Pts fun o => stepsG o ss env
  | [], env => by simp only [stepsG]; exact Pts.const _
  | s :: r, env => by
    simp only [stepsG]
    exact Pts.bind (pts_stepG env s) fun env' => pts_stepsG r env'
theorem pts_foot (env : Env) (s : St) : Pts fun o => foot o env s := by
  have hc : ∀ (d : Option Nat) (xs : List Src) (F : Orc → List V → Option V), (∀ vs, Pts fun o => F o vs) → Pts fun o => (if noOwn env xs then some (srcsN env xs, d.toList) else footC ((lookSs env xs).bind (F o)) (srcsN env xs, d.toList) ([], d.toList ++ srcsN env xs)) := by
    intro d xs F hF
    by_cases hn : noOwn env xs = true
    · exact Pts.congr (Pts.const (some (srcsN env xs, d.toList))) fun o => by rw [hn]; rfl
    · have hn' : noOwn env xs = false := by simpa using hn
      have hB : Pts fun o => (lookSs env xs).bind fun vs => F o vs := Pts.bind (Pts.const _) hF
      intro o v h
      have h : footC ((lookSs env xs).bind (F o)) (srcsN env xs, d.toList) ([], d.toList ++ srcsN env xs) = some v := by simpa only [hn', Bool.false_eq_true, if_false] using h
      cases hr : (lookSs env xs).bind (F o) with
      | none => rw [hr] at h; cases h
      | some r =>
        obtain ⟨L, h1, h2⟩ := hB o r hr
        refine ⟨L, h1, fun o' h' => ?_⟩
        have := h2 o' h'
        simp only [hn', Bool.false_eq_true, if_false]
        rw [show (lookSs env xs).bind (F o') = some r from this]
        rw [hr] at h
        exact h
  cases s with
  | call d f xs => simp only [foot]; exact hc d xs (fun o => o f) fun vs => Pts.ask f vs
  | callv d xs => simp only [foot]; exact hc d xs callV fun vs => pts_callV vs
  | mv d s => cases s <;> exact Pts.const _
  | as d s => cases s <;> exact Pts.const _
  | sto sz s v => cases s <;> exact Pts.const _
  | app d e k b s y => cases s <;> exact Pts.const _
  | q d p xs => exact Pts.const _
  | ix d k s i => exact Pts.const _
  | fa d off n s => exact Pts.const _
  | ext d i n => exact Pts.const _
  | bld d z ps xs => exact Pts.const _
  | bsl d e k xs => exact Pts.const _
  | box d s => exact Pts.const _
  | alo d z => exact Pts.const _
  | mkf d fn n xs => exact Pts.const _
  | slc d k lo hi xs => exact Pts.const _
  | mks d e b z n => exact Pts.const _
  | s2b d e s => exact Pts.const _
  | mkm d => exact Pts.const _
  | cpy d e k s y => cases s <;> exact Pts.const _
  | mget d kt z s k => cases s <;> exact Pts.const _
  | mset kt s k v => cases s <;> exact Pts.const _
  | callm d f mu s xs => cases s <;> cases d <;> exact Pts.const _
theorem pts_runF : ∀ (ss : List St) (env : Env), Pts fun o => runF o ss env
  | [], env => by simp only [runF]; exact Pts.const _
  | s :: r, env => by
    simp only [runF]
    refine Pts.bind (pts_stepS env s) fun e => Pts.bind (pts_foot env s) fun f => ?_
    split
    · exact Pts.bind (pts_runF r e) fun p => Pts.const _
    · exact Pts.const _
theorem pts_drawS (ss : List St) (af : List (List Nat)) (env : Env) : Pts fun o => drawS o ss af env := by
  unfold drawS
  exact Pts.bind (pts_runF ss env) fun p => Pts.const _
theorem pts_footG (env : Env) (st : GSt) : Pts fun o => footG o env st := by
  cases st with
  | s st => exact pts_foot env st
  | gd c t d st =>
    simp only [footG]
    refine Pts.bind (Pts.const _) fun v => ?_
    cases v <;> first | exact Pts.const _ | skip
    simp only
    split
    · simp only [Option.map_eq_bind]
      exact Pts.bind (pts_foot env st) fun f => Pts.const _
    · exact Pts.const _
  | pick d c a b => exact Pts.const _
theorem pts_runFG : ∀ (ss : List GSt) (env : Env), Pts fun o => runFG o ss env
  | [], env => by simp only [runFG]; exact Pts.const _
  | s :: r, env => by
    simp only [runFG]
    refine Pts.bind (pts_stepG env s) fun e => Pts.bind (pts_footG env s) fun f => ?_
    split
    · exact Pts.bind (pts_runFG r e) fun p => Pts.const _
    · exact Pts.const _
theorem pts_drawG (ss : List GSt) (af : List (List Nat)) (env : Env) : Pts fun o => drawG o ss af env := by
  unfold drawG
  exact Pts.bind (pts_runFG ss env) fun p => Pts.const _
theorem pts_rounds {f : Orc → Env → Option (Ex × Env)} (hf : ∀ env, Pts fun o => f o env) : ∀ (n : Nat) (env : Env), Pts fun o => rounds (f o) n env
  | 0, env => by simp only [rounds]; exact Pts.const _
  | n + 1, env => by
    simp only [rounds]
    refine Pts.bind (hf env) fun p => ?_
    obtain ⟨e, env'⟩ := p
    cases e with
    | n => exact pts_rounds hf n env'
    | e id => exact Pts.const _
    | r => exact Pts.const _
theorem pts_looped {f : Orc → Env → Option (Ex × Env)} (hf : ∀ env, Pts fun o => f o env) (env : Env) : Pts fun o => looped (f o) env := by
  intro o v h
  have h' : looped (f o) env = some v := h
  unfold looped at h'
  split at h'
  · obtain ⟨L, h1, h2⟩ := pts_rounds hf _ env o v h'
    exact ⟨L, h1, fun o' ho' => looped_of (h2 o' ho')⟩
  · cases h'
theorem pts_exec : ∀ (c : C) (env : Env), Pts fun o => exec o c env
  | .skip, env => by simp only [exec]; exact Pts.const _
  | .seq a b, env => by
    simp only [exec]
    refine Pts.bind (pts_exec a env) fun p => ?_
    obtain ⟨e, env'⟩ := p
    cases e with
    | n => exact pts_exec b env'
    | e id => exact Pts.const _
    | r => exact Pts.const _
  | .q rs, env => by
    simp only [exec]
    exact Pts.bind (pts_putsQ env rs env) fun e => Pts.const _
  | .s ss ks, env => by
    simp only [exec]
    exact Pts.bind (pts_stepsS ss env) fun e => Pts.const _
  | .d ss af ks, env => by
    simp only [exec]
    exact Pts.bind (pts_drawS ss af env) fun e => Pts.const _
  | .g ss ks, env => by
    simp only [exec]
    exact Pts.bind (pts_stepsG ss env) fun e => Pts.const _
  | .dg ss af ks, env => by
    simp only [exec]
    exact Pts.bind (pts_drawG ss af env) fun e => Pts.const _
  | .cond x a b, env => by
    simp only [exec]
    refine Pts.bind (pts_evalX env x) fun v => ?_
    cases v with
    | b t =>
      cases t with
      | true => exact pts_exec a env
      | false => exact pts_exec b env
    | _ => exact Pts.const _
  | .blk id c, env => by
    simp only [exec]
    exact Pts.bind (pts_exec c env) fun p => Pts.const _
  | .loop kin c, env => by
    simp only [exec]
    exact pts_looped (f := fun o e => exec o c (keepE kin e)) (fun e => pts_exec c _) env
  | .exit id ks, env => by simp only [exec]; exact Pts.const _
  | .ret ks, env => by simp only [exec]; exact Pts.const _
theorem pts_bodyV (fc : FCode) (xs : List V) : Pts fun o => bodyV o fc xs := by
  unfold bodyV
  split
  · exact Pts.bind (pts_exec fc.body _) fun p => Pts.const _
  · exact Pts.const _

noncomputable def upTo (tab : Nat → Option FCode) (ext : Orc) : Nat → Orc
  | 0 => fun f xs => match tab f with
    | some _ => none
    | none => ext f xs
  | n + 1 => fun f xs => match tab f with
    | some fc => bodyV (upTo tab ext n) fc xs
    | none => ext f xs
open Classical in
noncomputable def den (tab : Nat → Option FCode) (ext : Orc) : Orc := fun f xs => if h : ∃ y, ∃ n, upTo tab ext n f xs = some y then some (Classical.choose h) else none

section
variable {tab : Nat → Option FCode} {ext : Orc}
theorem upTo_mono : ∀ (n : Nat) f xs y, upTo tab ext n f xs = some y → upTo tab ext (n + 1) f xs = some y
  | 0, f, xs, y, h => by
    simp only [upTo] at h ⊢
    cases ht : tab f with
    | none => rw [ht] at h; exact h
    | some fc => rw [ht] at h; cases h
  | n + 1, f, xs, y, h => by
    unfold upTo at h ⊢
    cases ht : tab f with
    | none => rw [ht] at h; exact h
    | some fc =>
      rw [ht] at h
      exact (pts_bodyV fc xs).mono (fun g zs z hz => upTo_mono n g zs z hz) h
theorem upTo_le {n m : Nat} (hm : n ≤ m) {f : Nat} {xs : List V} {y : V} (h : upTo tab ext n f xs = some y) : upTo tab ext m f xs = some y := by
  induction hm with
  | refl => exact h
  | step _ ih => exact upTo_mono _ _ _ _ ih
theorem den_of {n f : Nat} {xs : List V} {y : V} (h : upTo tab ext n f xs = some y) : den tab ext f xs = some y := by
  have hx : ∃ y, ∃ n, upTo tab ext n f xs = some y := ⟨y, n, h⟩
  unfold den
  rw [dif_pos hx]
  obtain ⟨m, hm⟩ := Classical.choose_spec hx
  have h1 := upTo_le (Nat.le_max_left n m) h
  have h2 := upTo_le (Nat.le_max_right n m) hm
  rw [h1] at h2
  exact h2.symm
theorem den_iff {f : Nat} {xs : List V} {y : V} : den tab ext f xs = some y ↔ ∃ n, upTo tab ext n f xs = some y := by
  refine ⟨fun h => ?_, fun ⟨n, h⟩ => den_of h⟩
  unfold den at h
  split at h
  · rename_i hx
    cases h
    exact Classical.choose_spec hx
  · cases h
theorem den_code {f : Nat} {fc : FCode} (ht : tab f = some fc) {xs : List V} {y : V} (h : bodyV (den tab ext) fc xs = some y) : den tab ext f xs = some y := by
  obtain ⟨L, h1, h2⟩ := pts_bodyV fc xs _ y h
  have : ∀ L : List (Nat × List V × V), (∀ p ∈ L, den tab ext p.1 p.2.1 = some p.2.2) → ∃ n, ∀ p ∈ L, upTo tab ext n p.1 p.2.1 = some p.2.2 := by
    intro L
    induction L with
    | nil => intro _; exact ⟨0, by simp⟩
    | cons p L ih =>
      intro hp
      obtain ⟨n, hn⟩ := ih fun q hq => hp q (List.mem_cons_of_mem _ hq)
      obtain ⟨m, hm⟩ := den_iff.1 (hp p (List.mem_cons_self ..))
      refine ⟨max n m, fun q hq => ?_⟩
      rcases List.mem_cons.1 hq with rfl | hq
      · exact upTo_le (Nat.le_max_right _ _) hm
      · exact upTo_le (Nat.le_max_left _ _) (hn q hq)
  obtain ⟨n, hn⟩ := this L h1
  refine den_of (n := n + 1) ?_
  simp only [upTo, ht]
  exact h2 _ hn
theorem den_ext {f : Nat} (ht : tab f = none) {xs : List V} {y : V} (h : ext f xs = some y) : den tab ext f xs = some y := den_of (n := 0) (by simp only [upTo, ht]; exact h)
theorem den_sound {P : Program} (hc : ∀ f fc, tab f = some fc → ∃ fn, P.funcs[f]? = some fn ∧ compile P fn = some fc ∧ okFn P f = true) (he : ∀ f xs y, ext f xs = some y → okFn P f = true ∧ PF P f xs y) (hM : MutOK P) : SoundO P (den tab ext) := by
  have key : ∀ n, SoundO P (upTo tab ext n) := by
    intro n
    induction n with
    | zero =>
      refine ⟨hM, ?_⟩
      intro f xs y h
      simp only [upTo] at h
      cases ht : tab f with
      | none => rw [ht] at h; exact he f xs y h
      | some fc => rw [ht] at h; cases h
    | succ n ih =>
      refine ⟨hM, ?_⟩
      intro f xs y h
      simp only [upTo] at h
      cases ht : tab f with
      | none => rw [ht] at h; exact he f xs y h
      | some fc =>
        rw [ht] at h
        obtain ⟨fn, h1, h2, h3⟩ := hc f fc ht
        exact ⟨h3, body_sound ih h1 h2 h⟩
  refine ⟨hM, ?_⟩
  intro f xs y h
  obtain ⟨n, hn⟩ := den_iff.1 h
  exact (key n).2 f xs y hn
end
end Go.VM
/-
  Loops that search, and steps, run by equations. No program is named here.
-/
namespace Go.VM

theorem keepE_keepE (kin : List Nat) (env : Env) : keepE kin (keepE kin env) = keepE kin env := by
  simp [keepE, List.filter_filter]
noncomputable def loopK (o : Orc) (kin : List Nat) (c : C) (env : Env) : Option (Ex × Env) := loopC o kin c env
theorem exec_loopK (o : Orc) (env : Env) (kin : List Nat) (c : C) : exec o (.loop kin c) env = loopK o kin c (keepE kin env) := by
  rw [exec_loop, loopK, loopC_eq, loopC_eq, keepE_keepE]

@[simp] theorem opQ_ixn (o : Orc) (k : Nat) (es : List V) (kk : IntKind) (i : Nat) : opQ o (.ix k) [.l es, .i kk (i : Int)] = (es[i]?).bind fun e => if e.cells.length = k then some (.r e.cells) else none := by
  rw [opQ_ix, if_pos (Int.natCast_nonneg i), Int.toNat_natCast]
@[simp] theorem opQ_idxn (o : Orc) (s : List UInt8) (kk : IntKind) (i : Nat) : opQ o .idx [.s s, .i kk (i : Int)] = (s[i]?).map fun c => .i .u8 c.toNat := by
  rw [opQ_idx, if_pos (Int.natCast_nonneg i), Int.toNat_natCast]
@[simp] theorem nat_neg (i : Nat) : ((i : Int) < 0) = False := by simp only [eq_iff_iff, iff_false]; omega
section
variable (x : Bool) (k : IntKind) (n m : Nat) (i : Int) (s : List UInt8) (es fs : List V) (fn : Fn)
@[simp] theorem cell_b : V.cell (.b x) = true := rfl
@[simp] theorem cell_i : V.cell (.i k i) = true := rfl
@[simp] theorem cell_s : V.cell (.s s) = true := rfl
@[simp] theorem cell_l : V.cell (.l es) = true := rfl
@[simp] theorem cell_r : V.cell (.r es) = true := rfl
@[simp] theorem cell_f : V.cell (.f fn es fs) = true := rfl
@[simp] theorem cell_nf : V.cell .nf = true := rfl
@[simp] theorem cell_np : V.cell .np = true := rfl
@[simp] theorem cell_a : V.cell (.a es) = false := rfl
@[simp] theorem cell_t : V.cell (.t es) = false := rfl
@[simp] theorem cell_ow : V.cell (.ow n es) = false := rfl
@[simp] theorem cell_bx : V.cell (.bx es) = false := rfl
@[simp] theorem cell_al : V.cell (.al n) = false := rfl
end
attribute [simp] stepG stepsG
attribute [simp] drawS runF drawG runFG footG foot footC namers recB disj indep indep1 slotN srcN srcsN noOwn flatO lookM lookMs ownsNot
attribute [simp] XOp.loads V.flats V.flat stepsS stepS lookSs lookS freeze freeze1 rowOf owner hand putO V.names V.isOwn newE mapOf
end Go.VM
/-
  What an argument of a plain type holds; orders of texts; small numbers. No program is named here.
-/
namespace Go.VM

theorem fit_string {P : Program} {n : Nat} {t : TypeId} {ys : List V} (hu : P.underlying t = some .string) (h : Fit P (n + 1) t ys) : ∃ s, ys = [.s s] ∧ s.length ≤ maxLen := by
  unfold Fit at h; rw [hu] at h; exact h
theorem fit_bool {P : Program} {n : Nat} {t : TypeId} {ys : List V} (hu : P.underlying t = some .bool) (h : Fit P (n + 1) t ys) : ∃ b, ys = [.b b] := by
  unfold Fit at h; rw [hu] at h; exact h
theorem fit_int {P : Program} {n : Nat} {t : TypeId} {ys : List V} {k : IntKind} (hu : P.underlying t = some (.int k)) (h : Fit P (n + 1) t ys) : ∃ m, ys = [.i k m] ∧ (Lit.int k m).wf = true := by
  unfold Fit at h; rw [hu] at h; exact h
abbrev I64 (m : Int) : Prop := -9223372036854775808 ≤ m ∧ m ≤ 9223372036854775807
theorem fit_i64 {P : Program} {n : Nat} {t : TypeId} {ys : List V} (hu : P.underlying t = some (.int .i64)) (h : Fit P (n + 1) t ys) : ∃ m, ys = [.i .i64 m] ∧ I64 m := by
  obtain ⟨m, rfl, hm⟩ := fit_int hu h
  refine ⟨m, rfl, ?_⟩
  simp only [Lit.wf, Bool.and_eq_true, decide_eq_true_eq] at hm
  exact hm
theorem fit_slice {P : Program} {n : Nat} {t e : TypeId} {ys : List V} (hu : P.underlying t = some (.slice e)) (h : Fit P (n + 1) t ys) : ∃ es : List V, ys = [.l es] ∧ es.length ≤ maxLen ∧ ∀ y ∈ es, ∃ ys, Fit P n e ys ∧ y = (if isAggB P e then .a ys else ys.headD .ud) := by
  unfold Fit at h; rw [hu] at h; exact h
theorem pack_one {P : Program} {t : TypeId} (h : isAggB P t = false) (y : V) : packT P t [y] = y := by
  unfold packT; rw [h]; rfl
theorem pack_agg {P : Program} {t : TypeId} (h : isAggB P t = true) (ys : List V) : packT P t ys = .a ys := by
  unfold packT; rw [h]; rfl


def encL {α : Type} (f : α → V) (l : List α) : List V := l.map f
section
variable {α : Type} {f : α → V} {l : List α}
@[simp] theorem encL_nil : encL f [] = [] := rfl
theorem encL_cons (x : α) : encL f (x :: l) = f x :: encL f l := rfl
@[simp] theorem encL_length : (encL f l).length = l.length := by simp [encL]
@[simp] theorem encL_get (i : Nat) : (encL f l)[i]? = l[i]?.map f := by simp [encL]
@[simp] theorem encL_at (i : Nat) (h : i < (encL f l).length) : (encL f l)[i] = f (l[i]'(by simpa using h)) := by simp [encL]
theorem encL_all {p : V → Bool} (h : ∀ x, p (f x) = true) : (encL f l).all p = true := by simp [encL, h]
theorem encL_len {k : Nat} (h : ∀ x, (f x).cells.length = k) : (∀ x ∈ encL f l, x.cells.length = k) = True := by
  simp only [eq_iff_iff, iff_true]
  intro y hy
  obtain ⟨x, _, rfl⟩ := List.mem_map.1 hy; exact h x
theorem encL_flats (h : ∀ x, (f x).flat = true) : V.flats (encL f l) = true := (V.flats_iff _).2 fun y hy => by
  obtain ⟨x, _, rfl⟩ := List.mem_map.1 hy; exact h x
@[simp] theorem encL_flats_s (l : List (List UInt8)) : V.flats (encL V.s l) = true := encL_flats fun _ => by simp
@[simp] theorem encL_all_i (k : IntKind) (l : List Int) : (encL (V.i k) l).all (fun x => x.cells.length == 1) = true := encL_all fun _ => rfl
@[simp] theorem encL_all_s (l : List (List UInt8)) : (encL V.s l).all (fun x => x.cells.length == 1) = true := encL_all fun _ => rfl
@[simp] theorem encL_len_i (k : IntKind) (l : List Int) : (∀ x ∈ encL (V.i k) l, x.cells.length = 1) = True := encL_len fun _ => rfl
@[simp] theorem encL_len_s (l : List (List UInt8)) : (∀ x ∈ encL V.s l, x.cells.length = 1) = True := encL_len fun _ => rfl
@[simp] theorem encL_isEmpty : (encL f l).isEmpty = l.isEmpty := by simp [encL]
end
theorem fit_one {P : Program} {α : Type} {f : α → V} {q : α → Prop} {e : TypeId} (h : isAggB P e = false) {ys : List V} (hx : ∃ x, ys = [f x] ∧ q x) : ∃ x, (if isAggB P e then V.a ys else ys.headD .ud) = f x ∧ q x := by
  obtain ⟨x, rfl, hq⟩ := hx
  exact ⟨x, by rw [h]; rfl, hq⟩
theorem fit_agg {P : Program} {α : Type} {c : α → List V} {q : α → Prop} {e : TypeId} (h : isAggB P e = true) {ys : List V} (hx : ∃ x, ys = c x ∧ q x) : ∃ x, (if isAggB P e then V.a ys else ys.headD .ud) = V.a (c x) ∧ q x := by
  obtain ⟨x, rfl, hq⟩ := hx
  exact ⟨x, by rw [h]; rfl, hq⟩
theorem fit_list {P : Program} {n : Nat} {t e : TypeId} {α : Type} {f : α → V} {q : α → Prop} (hu : P.underlying t = some (.slice e)) (he : ∀ ys, Fit P n e ys → ∃ x, (if isAggB P e then V.a ys else ys.headD .ud) = f x ∧ q x) {ys : List V} (h : Fit P (n + 1) t ys) :
    ∃ l : List α, ys = [.l (encL f l)] ∧ l.length ≤ maxLen ∧ ∀ x ∈ l, q x := by
  obtain ⟨es, rfl, hl, hes⟩ := fit_slice hu h
  have key : ∀ es : List V, (∀ y ∈ es, ∃ ys, Fit P n e ys ∧ y = (if isAggB P e then .a ys else ys.headD .ud)) → ∃ l : List α, es = encL f l ∧ ∀ x ∈ l, q x := by
    intro es
    induction es with
    | nil => intro _; exact ⟨[], rfl, by simp⟩
    | cons y es ih =>
      intro hes
      obtain ⟨ys, hf, rfl⟩ := hes y (List.mem_cons_self ..)
      obtain ⟨x, hx, hq⟩ := he ys hf
      obtain ⟨l, rfl, hl⟩ := ih fun z hz => hes z (List.mem_cons_of_mem _ hz)
      refine ⟨x :: l, by rw [hx]; rfl, fun z hz => ?_⟩
      rcases List.mem_cons.1 hz with rfl | hz
      · exact hq
      · exact hl z hz
  obtain ⟨l, rfl, hq⟩ := key es hes
  exact ⟨l, rfl, by simpa using hl, hq⟩
end Go.VM
/-
  The evaluator with a bound on rounds and calls, which the kernel can run. No program is named here.
-/
namespace Go.VM
variable [Glob]

def execN (o : Orc) (k : Nat) : C → Env → Option (Ex × Env)
  | .skip, env => some (.n, env)
  | .seq a b, env => (execN o k a env).bind fun p => match p.1 with
    | .n => execN o k b p.2
    | e => some (e, p.2)
  | .q rs, env => (putsQ o env rs env).bind fun e => some (.n, e)
  | .s ss ks, env => (stepsS o ss env).bind fun e => some (.n, dropE ks e)
  | .d ss af ks, env => (drawS o ss af env).bind fun e => some (.n, dropE ks e)
  | .g ss ks, env => (stepsG o ss env).bind fun e => some (.n, dropE ks e)
  | .dg ss af ks, env => (drawG o ss af env).bind fun e => some (.n, dropE ks e)
  | .cond x a b, env => (evalX o env x).bind fun v => match v with
    | .b t => if t then execN o k a env else execN o k b env
    | _ => none
  | .blk id c, env => (execN o k c env).bind fun p => match p.1 with
    | .e j => if j = id then some (.n, p.2) else some (.e j, p.2)
    | e => some (e, p.2)
  | .loop kin c, env => rounds (fun e => execN o k c (keepE kin e)) k env
  | .exit id ks, env => some (.e id, keepE ks env)
  | .ret ks, env => some (.r, keepE ks env)
theorem rounds_le {f g : Env → Option (Ex × Env)} (h : ∀ e r, f e = some r → g e = some r) : ∀ (n : Nat) (env : Env) r, rounds f n env = some r → rounds g n env = some r
  | 0, _, _, hr => by simp [rounds] at hr
  | n + 1, env, r, hr => by
    simp only [rounds, Option.bind_eq_some_iff] at hr ⊢
    obtain ⟨⟨e, env'⟩, h1, h2⟩ := hr
    refine ⟨(e, env'), h _ _ h1, ?_⟩
    cases e with
    | n => exact rounds_le h n env' r h2
    | e id => exact h2
    | r => exact h2
theorem execN_exec (o : Orc) (k : Nat) : ∀ (c : C) (env : Env) r, execN o k c env = some r → exec o c env = some r
  | .skip, env, r, h => h
  | .seq a b, env, r, h => by
    simp only [execN, Option.bind_eq_some_iff] at h
    obtain ⟨⟨e, env'⟩, h1, h2⟩ := h
    simp only [exec, execN_exec o k a env _ h1, Option.bind_some]
    cases e with
    | n => exact execN_exec o k b env' r h2
    | e id => exact h2
    | r => exact h2
  | .q rs, env, r, h => h
  | .s ss ks, env, r, h => h
  | .d ss af ks, env, r, h => h
  | .g ss ks, env, r, h => h
  | .dg ss af ks, env, r, h => h
  | .cond x a b, env, r, h => by
    simp only [execN, Option.bind_eq_some_iff] at h
    obtain ⟨v, h1, h2⟩ := h
    simp only [exec, h1, Option.bind_some]
    cases v <;> first | (cases h2; done) | skip
    rename_i t
    cases t with
    | true => exact execN_exec o k a env r h2
    | false => exact execN_exec o k b env r h2
  | .blk id c, env, r, h => by
    simp only [execN, Option.bind_eq_some_iff] at h
    obtain ⟨⟨e, env'⟩, h1, h2⟩ := h
    simp only [exec, execN_exec o k c env _ h1, Option.bind_some]
    exact h2
  | .loop kin c, env, r, h => by
    simp only [execN] at h
    simp only [exec]
    exact looped_of (rounds_le (fun e r hr => execN_exec o k c _ r hr) k env r h)
  | .exit id ks, env, r, h => h
  | .ret ks, env, r, h => h
def bodyN (o : Orc) (k : Nat) (fc : FCode) (args : List V) : Option V :=
  if args.length = fc.np ∧ args.all V.arg = true then (execN o k fc.body (args0 0 args)).bind fun p => match p.1 with
    | .e _ => none
    | _ => retV fc.res p.2
  else none
theorem bodyN_bodyV {o : Orc} {k : Nat} {fc : FCode} {args : List V} {y : V} (h : bodyN o k fc args = some y) : bodyV o fc args = some y := by
  unfold bodyN at h
  unfold bodyV
  split at h
  · rename_i hc
    rw [if_pos hc]
    simp only [Option.bind_eq_some_iff] at h ⊢
    obtain ⟨p, h1, h2⟩ := h
    exact ⟨p, execN_exec o k _ _ _ h1, h2⟩
  · cases h
def runN (tab : Nat → Option FCode) (ext : Orc) (k : Nat) : Nat → Orc
  | 0 => fun _ _ => none
  | n + 1 => fun f xs => match tab f with
    | some fc => bodyN (runN tab ext k n) k fc xs
    | none => ext f xs
theorem runN_den {tab : Nat → Option FCode} {ext : Orc} {k : Nat} : ∀ (n f : Nat) (xs : List V) (y : V), runN tab ext k n f xs = some y → den tab ext f xs = some y
  | 0, f, xs, y, h => by simp [runN] at h
  | n + 1, f, xs, y, h => by
    simp only [runN] at h
    cases ht : tab f with
    | none => rw [ht] at h; exact den_ext ht h
    | some fc =>
      rw [ht] at h
      exact den_code ht ((pts_bodyV fc xs).mono (fun g zs z hz => runN_den n g zs z hz) (bodyN_bodyV h))
def tabOf : List (Nat × FCode) → Nat → Option FCode
  | [], _ => none
  | p :: r, f => if f = p.1 then some p.2 else tabOf r f
theorem tabOf_mem {f : Nat} {fc : FCode} : ∀ {l : List (Nat × FCode)}, tabOf l f = some fc → (f, fc) ∈ l
  | [], h => by simp [tabOf] at h
  | p :: r, h => by
    simp only [tabOf] at h
    split at h
    · rename_i e
      cases h; subst e
      exact List.mem_cons_self ..
    · exact List.mem_cons_of_mem _ (tabOf_mem h)
end Go.VM
/-
  Loops, one equation a round. No program is named here.
-/
namespace Go.VM

def kE (kin : List Nat) (r : Option (Ex × Env)) : Option (Ex × Env) := r.map fun p => match p.1 with
  | .n => (.n, keepE kin p.2)
  | e => (e, p.2)
section
variable {o : Orc} {kin : List Nat} {c : C} {env : Env}
@[simp] theorem kE_none : kE kin none = none := rfl
@[simp] theorem kE_n : kE kin (some (.n, env)) = some (.n, keepE kin env) := rfl
@[simp] theorem kE_e (id : Nat) : kE kin (some (.e id, env)) = some (.e id, env) := rfl
@[simp] theorem kE_r : kE kin (some (.r, env)) = some (.r, env) := rfl
@[simp] theorem kE_ite (p : Prop) [Decidable p] (x y : Option (Ex × Env)) : kE kin (if p then x else y) = if p then kE kin x else kE kin y := by split <;> rfl
theorem kE_inv {r : Option (Ex × Env)} {e : Ex} {g : Env} (h : kE kin r = some (e, g)) : (e = .n ∧ ∃ g', r = some (.n, g') ∧ keepE kin g' = g) ∨ (e ≠ .n ∧ r = some (e, g)) := by
  cases r with
  | none => cases h
  | some p =>
    obtain ⟨e', g'⟩ := p
    cases e' with
    | n => simp only [kE_n, Option.some.injEq, Prod.mk.injEq] at h; exact .inl ⟨h.1.symm, g', rfl, h.2⟩
    | e id => simp only [kE_e, Option.some.injEq, Prod.mk.injEq] at h; obtain ⟨rfl, rfl⟩ := h; exact .inr ⟨by simp, rfl⟩
    | r => simp only [kE_r, Option.some.injEq, Prod.mk.injEq] at h; obtain ⟨rfl, rfl⟩ := h; exact .inr ⟨by simp, rfl⟩

def optE {α β : Type} (E : α → β) (N : β) : Option α → β
  | some a => E a
  | none => N
@[simp] theorem optE_some {α β : Type} (E : α → β) (N : β) (a : α) : optE E N (some a) = E a := rfl
@[simp] theorem optE_none {α β : Type} (E : α → β) (N : β) : optE E N none = N := rfl
@[simp] theorem optE_ite {α β : Type} (E : α → β) (N : β) (p : Prop) [Decidable p] (x y : Option α) : optE E N (if p then x else y) = if p then optE E N x else optE E N y := by split <;> rfl
@[simp] theorem some_ite (p : Prop) [Decidable p] (x y : Ex × Env) : some (if p then x else y) = if p then some x else some y := by split <;> rfl
theorem loopK_code {α : Type} (F : Nat → Env) (n : Nat) (cd : Nat → Option α) (E : α → Ex × Env) (X : Ex × Env) (hF : ∀ i, keepE kin (F i) = F i) (hE : ∀ a, (E a).1 ≠ .n)
    (h1 : ∀ i, i < n → kE kin (exec o c (F i)) = some (optE E (.n, F (i + 1)) (cd i))) (hX : exec o c (F n) = some X) (hX' : X.1 ≠ .n) :
    loopK o kin c (F 0) = some (optE E X ((List.range n).findSome? cd)) := by
  have key : ∀ (m i : Nat), i + m = n → loopK o kin c (F i) = some (optE E X ((List.range' i m).findSome? cd)) := by
    intro m
    induction m with
    | zero =>
      intro i hi
      have : i = n := by omega
      subst this
      rw [loopK, loopC_eq, hF, hX]
      obtain ⟨e, env⟩ := X
      cases e with
      | n => exact absurd rfl hX'
      | e id => rfl
      | r => rfl
    | succ m ih =>
      intro i hi
      have h := h1 i (by omega)
      rw [loopK, loopC_eq, hF, List.range'_succ, List.findSome?_cons]
      cases hc : cd i with
      | none =>
        rw [hc] at h
        rcases kE_inv h with ⟨_, g, hg, hk⟩ | ⟨hn, _⟩
        · rw [hg, roundE_n]
          simp only
          have := ih (i + 1) (by omega)
          rw [loopK] at this
          rw [← this, loopC_eq, loopC_eq, hk, hF]
        · exact absurd rfl hn
      | some a =>
        rw [hc] at h
        simp only [optE] at h
        have hEa := hE a
        generalize hEe : E a = r at h hEa
        obtain ⟨e, g⟩ := r
        rcases kE_inv h with ⟨he, _⟩ | ⟨_, hr⟩
        · exact absurd he hEa
        · rw [hr]
          cases e with
          | n => exact absurd rfl hEa
          | e id => simp [optE, hEe]
          | r => simp [optE, hEe]
  have := key n 0 (by omega)
  rw [this, List.range_eq_range']
theorem loopK_run (F : Nat → Env) (n : Nat) (X : Ex × Env) (hF : ∀ i, keepE kin (F i) = F i) (h1 : ∀ i, i < n → kE kin (exec o c (F i)) = some (.n, F (i + 1))) (hX : exec o c (F n) = some X) (hX' : X.1 ≠ .n) : loopK o kin c (F 0) = some X := by
  have := loopK_code (o := o) (c := c) F n (fun _ => (none : Option Unit)) (fun _ => X) X hF (fun _ => hX') (fun i hi => by simpa using h1 i hi) hX hX'
  rw [this]
  have : (List.range n).findSome? (fun _ => (none : Option Unit)) = none := by simp
  rw [this]; rfl
end
theorem range_find_none {n : Nat} {α : Type} {cd : Nat → Option α} : (List.range n).findSome? cd = none ↔ ∀ i, i < n → cd i = none := by simp [List.findSome?_eq_none_iff]

@[simp] theorem opQ_idx0 (o : Orc) (s : List UInt8) (kk : IntKind) : opQ o .idx [.s s, .i kk 0] = (s[0]?).map fun c => .i .u8 c.toNat := opQ_idxn o s kk 0
@[simp] theorem opQ_ix0 (o : Orc) (k : Nat) (es : List V) (kk : IntKind) : opQ o (.ix k) [.l es, .i kk 0] = (es[0]?).bind fun e => if e.cells.length = k then some (.r e.cells) else none := opQ_ixn o k es kk 0
@[simp] theorem opQ_idxs (o : Orc) (s : List UInt8) (kk : IntKind) (i : Nat) : opQ o .idx [.s s, .i kk ((i : Int) + 1)] = (s[i + 1]?).map fun c => .i .u8 c.toNat := opQ_idxn o s kk (i + 1)
@[simp] theorem opQ_mx2 (o : Orc) (k : IntKind) (a b : Int) : opQ o .mx [.i k a, .i k b] = some (.i k (if b > a then b else a)) := by simp [opQ, maxV, maxGo]
/-! ### Names -/
end Go.VM
