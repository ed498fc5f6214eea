/-
  A region that draws its order, beside whatever is told of the world operation by operation. No program is named here.
-/
import Derived.Test.YtggmlfmhinafhaaVmJ
import Derived.Test.YtggmlfmhinafhaaVmU
set_option linter.unusedSectionVars false
namespace Go.VM
open Go.RowKit
variable [Glob]

section
variable {o : Orc} {env env' : Env}

/-- The frame owns nothing. -/
def NoO (env : Env) : Prop := ∀ n x, get n env = some x → x.isOwn = false
def noOB (env : Env) : Bool := env.all fun p => !p.2.isOwn
theorem noO_of {env : Env} (h : noOB env = true) : NoO env := by
  intro n x hx
  have := List.all_eq_true.1 h _ (get_mem hx)
  simpa using this
/-- A run in which nothing of the frame's own is made. -/
def runNo (o : Orc) : List GSt → Env → Option (Env × List (List Nat × List Nat))
  | [], env => some (env, [])
  | s :: r, env => (stepG o env s).bind fun e => (footG o env s).bind fun f => if (recB env e f && noOB e) = true then (runNo o r e).bind fun p => some (p.1, f :: p.2) else none
def drawN (o : Orc) (ss : List GSt) (af : List (List Nat)) (env : Env) : Option Env := if noOB env = true then (runNo o ss env).bind fun p => if indep 0 af p.2 then some p.1 else none else none
def NW (f : List Nat × List Nat) (e : Env) : Prop := ∀ n ∈ f.2, ∀ x, get n e = some x → x.isOwn = false
def RunsN (o : Orc) : List Item → Env → Env → Prop
  | [], env, e => env = e
  | x :: r, env, e => ∃ e1, (Rec o x.2.1 env e1 x.2.2 ∧ NW x.2.2 e1) ∧ RunsN o r e1 e
theorem bubbleN {x : Item} {e : Env} : ∀ {l r : List Item} {env : Env}, Srt env → RunsN o (l ++ x :: r) env e → (∀ y ∈ l, Apart y.2.2 x.2.2) → ∃ e1, (Rec o x.2.1 env e1 x.2.2 ∧ NW x.2.2 e1) ∧ RunsN o (l ++ r) e1 e
  | [], r, env, _, h, _ => h
  | y :: l, r, env, hs, h, ha => by
    obtain ⟨e1, ⟨h1, n1⟩, h2⟩ := h
    obtain ⟨e2, ⟨h3, n3⟩, h4⟩ := bubbleN h1.srt h2 fun z hz => ha z (List.mem_cons_of_mem _ hz)
    have hap := ha y (List.mem_cons_self ..)
    obtain ⟨e3, h5, h6⟩ := swap hs h1 h3 hap
    refine ⟨e3, ⟨h5, fun n hn z hz => n3 n hn z ?_⟩, e2, ⟨h6, fun n hn z hz => n1 n hn z ?_⟩, h4⟩
    · rw [h6.same n fun hc => (hap.1 n hc).2 hn]; exact hz
    · rw [← h3.same n fun hc => (hap.1 n hn).2 hc]; exact hz
theorem runsNo_of : ∀ {ss : List GSt} {env e : Env} {fs : List (List Nat × List Nat)} (i : Nat), Srt env → runNo o ss env = some (e, fs) → RunsN o (items i ss fs) env e ∧ fs.length = ss.length
  | [], env, e, fs, i, _, h => by
    simp only [runNo, Option.some.injEq, Prod.mk.injEq] at h
    obtain ⟨rfl, rfl⟩ := h
    exact ⟨rfl, rfl⟩
  | s :: ss, env, e, fs, i, hs, h => by
    simp only [runNo, Option.bind_eq_some_iff] at h
    obtain ⟨e1, h1, f, h2, h3⟩ := h
    split at h3
    · rename_i hr
      simp only [Bool.and_eq_true] at hr
      simp only [Option.bind_eq_some_iff, Option.some.injEq, Prod.mk.injEq] at h3
      obtain ⟨⟨e', fs'⟩, h4, rfl, rfl⟩ := h3
      have hrec := rec_of hs h1 h2 hr.1
      obtain ⟨h5, h6⟩ := runsNo_of (i + 1) hrec.srt h4
      exact ⟨⟨e1, ⟨hrec, fun n _ z hz => noO_of hr.2 n z hz⟩, h5⟩, by simp [h6]⟩
    · cases h3

variable {P : Program}
theorem walkN {opsL : List Oper} {ss : List GSt} {Q : Exit → Act → World → Prop} (Inv : Array Bool → Env → Act → World → Prop) (hsrt : ∀ l env a w, Inv l env a w → Srt env) (hlen : ss.length = opsL.length)
    (hwt : ∀ (i : Nat) op s, opsL[i]? = some op → ss[i]? = some s → ∀ l : Array Bool, l.size = opsL.length → ¬ Ex1 l i → (∀ j ∈ aft op, Ex1 l j) → (∀ (k : Nat) op', opsL[k]? = some op' → Ex1 l k → ∀ j ∈ aft op', Ex1 l j) → ∀ env e f a w, Inv l env a w → NoO env → Rec o s env e f → NW f e →
      (Region.wanted op (yielded opsL.toArray a.tmps) = true ∧ Outc P ((execOp a.eval op).run P w) fun u w1 => Inv (l.setIfInBounds i true) e (a.put op.dst u) w1) ∨ (Region.wanted op (yielded opsL.toArray a.tmps) = false ∧ Inv (l.setIfInBounds i true) e (a.put op.dst undef) w))
    (hacy : ∀ (i : Nat) op, opsL.toArray[i]? = some op → ∀ j ∈ aft op, j < i) :
    ∀ (fuel : Nat) (listed : Array Bool) (rem : List Item) (env : Env) (a : Act) (w : World), listed.size = opsL.length → left1 listed ≤ fuel → (∀ x ∈ rem, ¬ Ex1 listed x.1 ∧ ss[x.1]? = some x.2.1) → (∀ i, i < opsL.length → Ex1 listed i ∨ ∃ x ∈ rem, x.1 = i) →
      rem.Pairwise (Sep (opsL.map aft)) → RunsN o rem env env' → (∀ (k : Nat) op', opsL[k]? = some op' → Ex1 listed k → ∀ j ∈ aft op', Ex1 listed j) → NoO env → Inv listed env a w →
      (∀ l a' w', (∀ i, i < opsL.length → Ex1 l i) → Inv l env' a' w' → Q .normal a' w') → wpAny P .any opsL.toArray Q fuel listed a w := by
  have fin : ∀ (listed : Array Bool) (rem : List Item) (env : Env) (a : Act) (w : World), (∀ i, i < opsL.length → Ex1 listed i) → (∀ x ∈ rem, ¬ Ex1 listed x.1 ∧ ss[x.1]? = some x.2.1) → RunsN o rem env env' → Inv listed env a w →
      (∀ l a' w', (∀ i, i < opsL.length → Ex1 l i) → Inv l env' a' w' → Q .normal a' w') → Q .normal a w := by
    intro listed rem env a w hall hrem hrun hF hQ
    cases rem with
    | nil =>
      simp only [RunsN] at hrun
      subst hrun
      exact hQ listed a w hall hF
    | cons x r =>
      obtain ⟨h1, h2⟩ := hrem x (List.mem_cons_self ..)
      have := (List.getElem?_eq_some_iff.1 h2).1
      exact absurd (hall x.1 (by omega)) h1
  intro fuel
  induction fuel with
  | zero =>
    intro listed rem env a w hs hleft hrem hcov hpw hrun hcl hno hF hQ
    have hall : ∀ i, i < opsL.length → Ex1 listed i := fun i hi => all_of_left (by omega) i (by omega)
    refine ⟨?_, fin listed rem env a w hall hrem hrun hF hQ⟩
    cases hr : Region.ready .any opsL.toArray listed with
    | nil => rfl
    | cons i r =>
      obtain ⟨op, hop, hne, _⟩ := mem_ready (by simpa using hs) (show i ∈ Region.ready .any opsL.toArray listed by rw [hr]; exact List.mem_cons_self ..)
      exact absurd (hall i (by have := (Array.getElem?_eq_some_iff.1 hop).1; simpa using this)) hne
  | succ fuel ih =>
    intro listed rem env a w hs hleft hrem hcov hpw hrun hcl hno hF hQ
    refine ⟨fun hr => fin listed rem env a w (fun i hi => not_ready (by simpa using hs) hacy hr i (by simpa using hi)) hrem hrun hF hQ, fun i hi => ?_⟩
    obtain ⟨op, hop, hne, haft⟩ := mem_ready (by simpa using hs) hi
    have hop' : opsL[i]? = some op := by simpa using hop
    have hil : i < opsL.length := (List.getElem?_eq_some_iff.1 hop').1
    have his : i < listed.size := by omega
    obtain ⟨x, hx, hxi⟩ := (hcov i hil).resolve_left hne
    obtain ⟨l, r, rfl⟩ := List.append_of_mem hx
    obtain ⟨hpl, hpxr, hpc⟩ := List.pairwise_append.1 hpw
    have hap : ∀ y ∈ l, Apart y.2.2 x.2.2 := by
      intro y hy
      have hsep := hpc y hy x (List.mem_cons_self ..)
      have haf : (opsL.map aft)[x.1]? = some (aft op) := by rw [hxi, List.getElem?_map, hop']; rfl
      rcases hsep.2 _ haf with h | h
      · exact absurd (haft _ h) (hrem y (List.mem_append_left _ hy)).1
      · exact h
    obtain ⟨e1, ⟨hrec, hnw⟩, hrun'⟩ := bubbleN (hsrt _ _ _ _ hF) hrun hap
    have hsi : ss[i]? = some x.2.1 := by
      have h2 := (hrem x hx).2
      rwa [hxi] at h2
    have hout0 := hwt i op x.2.1 hop' hsi listed hs hne haft hcl env e1 _ a w hF hno hrec hnw
    have hno1 : NoO e1 := fun n z hz => by
      by_cases hn : n ∈ x.2.2.2
      · exact hnw n hn z hz
      · rw [hrec.same n hn] at hz; exact hno n z hz
    have hxl : ∀ y, y ∈ l ++ r → y.1 ≠ i := by
      intro y hy
      rcases List.mem_append.1 hy with hy | hy
      · have := (hpc y hy x (List.mem_cons_self ..)).1; omega
      · have := ((List.pairwise_cons.1 hpxr).1 y hy).1; omega
    have next : ∀ u w1, Inv (listed.setIfInBounds i true) e1 (a.put op.dst u) w1 → wpAny P .any opsL.toArray Q fuel (listed.setIfInBounds i true) (a.put op.dst u) w1 := by
      intro u w1 h
      refine ih _ (l ++ r) e1 _ w1 (by simpa using hs) ?_ (fun y hy => ?_) (fun j hj => ?_) ?_ hrun' (fun k op' hk hek j hj => ?_) hno1 h hQ
      · have := left1_set his hne; omega
      · have hy' : y ∈ l ++ x :: r := by
          rcases List.mem_append.1 hy with h | h
          · exact List.mem_append_left _ h
          · exact List.mem_append_right _ (List.mem_cons_of_mem _ h)
        obtain ⟨h1, h2⟩ := hrem y hy'
        refine ⟨fun h => ?_, h2⟩
        rcases (ex1_set his _).1 h with h | h
        · exact hxl y hy h
        · exact h1 h
      · rcases hcov j hj with h | ⟨y, hy, hyj⟩
        · exact .inl ((ex1_set his j).2 (.inr h))
        · by_cases hji : j = i
          · exact .inl ((ex1_set his j).2 (.inl hji))
          · right
            refine ⟨y, ?_, hyj⟩
            rcases List.mem_append.1 hy with h | h
            · exact List.mem_append_left _ h
            · rcases List.mem_cons.1 h with rfl | h
              · exact absurd (hyj.symm.trans hxi) hji
              · exact List.mem_append_right _ h
      · refine List.pairwise_append.2 ⟨hpl, (List.pairwise_cons.1 hpxr).2, fun y hy z hz => hpc y hy z (List.mem_cons_of_mem _ hz)⟩
      · refine (ex1_set his j).2 (.inr ?_)
        rcases (ex1_set his k).1 hek with rfl | h
        · rw [hop'] at hk; cases hk; exact haft j hj
        · exact hcl k op' hk h j hj
    unfold wpOp
    rw [hop]
    simp only
    rcases hout0 with ⟨hw, hout⟩ | ⟨hw, hF1⟩
    · rw [if_pos hw]
      left
      refine Outc.wp ?_
      revert hout
      generalize (execOp a.eval op).run P w = res
      intro hout
      unfold Outc at hout ⊢
      split at hout
      · exact next _ _ hout
      · exact next _ _ hout
      · exact hout.mono fun e w1 ⟨u, he, h⟩ => ⟨u, he, next _ _ h⟩
      · exact hout.elim
    · rw [if_neg (by simp [hw])]
      exact next _ _ hF1

/-- A region that draws its order. -/
theorem regN (hm : P.follows .mixedOrders = true) {id : Nat} {ops : Array Oper} {ss : List GSt} (Inv : Array Bool → Env → Act → World → Prop) (hsrt : ∀ l env a w, Inv l env a w → Srt env) (hlen : ss.length = ops.toList.length) (hst : drawN o ss (ops.toList.map aft) env = some env')
    (hwt : ∀ (i : Nat) op s, ops.toList[i]? = some op → ss[i]? = some s → ∀ l : Array Bool, l.size = ops.toList.length → ¬ Ex1 l i → (∀ j ∈ aft op, Ex1 l j) → (∀ (k : Nat) op', ops.toList[k]? = some op' → Ex1 l k → ∀ j ∈ aft op', Ex1 l j) → ∀ env e f a w, Inv l env a w → NoO env → Rec o s env e f → NW f e →
      (Region.wanted op (yielded ops.toList.toArray a.tmps) = true ∧ Outc P ((execOp a.eval op).run P w) fun u w1 => Inv (l.setIfInBounds i true) e (a.put op.dst u) w1) ∨ (Region.wanted op (yielded ops.toList.toArray a.tmps) = false ∧ Inv (l.setIfInBounds i true) e (a.put op.dst undef) w))
    (hacy : ((List.range ops.size).all fun i => match ops[i]? with | some o => (aft o).all fun j => decide (j < i) | none => false) = true) {a : Act} {w : World}
    (hF : Inv (Array.replicate ops.size false) env a { w with drawn := w.drawn + 1 }) {Q : Exit → Act → World → Prop} (hQ : ∀ l a' w', (∀ i, i < ops.size → Ex1 l i) → Inv l env' a' w' → Q .normal a' w') :
    (Code.region id ops true).wp P Q a w := by
  refine wp_region_any hm ?_
  unfold drawN at hst
  split at hst
  · rename_i hno
    simp only [Option.bind_eq_some_iff] at hst
    obtain ⟨⟨e, fs⟩, h1, h2⟩ := hst
    split at h2
    · rename_i hind
      simp only [Option.some.injEq] at h2
      subst h2
      obtain ⟨hruns, hfl⟩ := runsNo_of 0 (hsrt _ _ _ _ hF) h1
      have hn1 : ∀ k, ¬ Ex1 (Array.replicate ops.size false) k := fun k hk => by
        unfold Ex1 at hk
        simp only [Array.getD_eq_getD_getElem?, Array.getElem?_replicate] at hk
        split at hk <;> simp at hk
      have hleft : left1 (Array.replicate ops.size false) ≤ ops.size := by
        unfold left1
        exact Nat.le_trans (List.countP_le_length ..) (by simp)
      have := walkN (Q := Q) (opsL := ops.toList) Inv hsrt hlen hwt (fun i op hop j hj => by
          have hop' : ops[i]? = some op := by simpa using hop
          have := List.all_eq_true.1 hacy i (List.mem_range.2 (Array.getElem?_eq_some_iff.1 hop').1)
          rw [hop'] at this
          simpa using List.all_eq_true.1 this j hj) ops.size (Array.replicate ops.size false) (items 0 ss fs) env a { w with drawn := w.drawn + 1 } (by simp) hleft
        (fun x hx => ⟨hn1 _, by simpa using (mem_items hx).2⟩) (fun i hi => .inr (items_all hfl i (Nat.zero_le _) (by omega)))
        (indep_spec (AF := ops.toList.map aft) (by simp) hind) hruns (fun k _ _ hk => absurd hk (hn1 k)) (noO_of hno) hF (fun l a' w' hl h => hQ l a' w' (fun i hi => hl i (by simpa using hi)) h)
      simpa using this
    · cases h2
  · cases hst
end
end Go.VM
/-
  Operations and calls that turn memory beside the frame, while the frame keeps what it owns: what they are said to do, one operation. No program is named here.
-/
namespace Go.VM
open Go.RowKit
variable [Glob]

/-- Memory in the blocks F, told by a state; it may lead to what reads from S on. What the operations on it answer, and how they turn it. -/
structure Rs (σ : Type) where
  R : σ → (Nat → Prop) → (Nat → Prop) → World → Prop
  eff : σ → Nat → List V → Option (V × σ)
  loc : ∀ s S S' F w w', R s S F w → (∀ b, S b → S' b) → (∀ b, S b ∨ F b → w'.heap[b]? = w.heap[b]?) → R s S' F w'
  lt : ∀ s S F w b, R s S F w → F b → b < w.heap.size
/-- A look into a map, a store into a map, as if they were functions. -/
abbrev LOOK : Nat := 1000000
abbrev UPD : Nat := 1000001
/-- A pointer is asked whether it is nil. -/
abbrev NILC : Nat := 1000002
/-- A call of f at data xs returns y and turns the state s into s', in the blocks F alone. -/
def PFG {σ : Type} (P : Program) (ρ : Rs σ) (f : FuncId) (xs : List V) (s : σ) (y : V) (s' : σ) : Prop :=
  ∀ (S F : Nat → Prop) (w : World) (vs : List Value), (∀ b, S b → b < w.heap.size) → (∀ b, F b → ¬ S b) → GOK S w → Reps S w vs xs → ρ.R s S F w →
    Calls P f vs.toArray w fun e w' => ∃ v, e = .returned v ∧ Keeps w.heap.size F w w' ∧
      ∃ S' : Nat → Prop, (∀ b, S b → S' b) ∧ (∀ b, S' b → (S b ∨ w.heap.size ≤ b) ∧ b < w'.heap.size) ∧ ρ.R s' S' F w' ∧ Rep S' w' v y
/-- The same of a call that may lay such memory; what it answers is one of many. -/
def PFN {σ : Type} (P : Program) (ρ : Rs σ) (f : FuncId) (xs : List V) (s : σ) (T : V → σ → Prop) : Prop :=
  ∀ (S F : Nat → Prop) (w : World) (vs : List Value), (∀ b, S b → b < w.heap.size) → (∀ b, F b → ¬ S b) → GOK S w → Reps S w vs xs → ρ.R s S F w →
    Calls P f vs.toArray w fun e w' => ∃ v y s', e = .returned v ∧ T y s' ∧ Keeps w.heap.size F w w' ∧
      ∃ S' F' : Nat → Prop, (∀ b, S b → S' b) ∧ (∀ b, S' b → (S b ∨ w.heap.size ≤ b) ∧ b < w'.heap.size) ∧ ρ.R s' S' F' w' ∧ (∀ b, F' b → F b ∨ w.heap.size ≤ b) ∧ (∀ b, F' b → ¬ S' b) ∧ Rep S' w' v y
/-- What an operation on such memory is said to do. -/
def EffOK {σ : Type} (P : Program) (ρ : Rs σ) (s : σ) (f : Nat) (zs : List V) (y : V) (s' : σ) : Prop :=
  if f = LOOK then s' = s ∧ y.smp = true ∧ y.isOwn = false ∧ ∃ (t : Nat) (m k : V), zs = [.i .i64 (t : Int), m, k] ∧ ∀ (S F : Nat → Prop) (w : World) (um uk : Value), ρ.R s S F w → Rep S w um m → Rep S w uk k → ∃ u, (Instr.lookup t um uk false).run P w = .ok u w ∧ Rep S w u y
  else if f = UPD then ∃ (t : Nat) (m k x : V), zs = [.i .i64 (t : Int), m, k, x] ∧ y = .t [] ∧ ∀ (S F : Nat → Prop) (w : World) (um uk ux : Value), (∀ b, F b → ¬ S b) → ρ.R s S F w → Rep S w um m → Rep S w uk k → Rep S w ux x →
    ∃ w', (Instr.mapUpdate t um uk ux).run P w = .ok () w' ∧ Keeps w.heap.size F w w' ∧ w'.heap.size = w.heap.size ∧ ρ.R s' S F w'
  else if f = NILC then s' = s ∧ ∃ cs, zs = [.r cs] ∧ y = .r cs
  else okFn P f = true ∧ okY y = true ∧ PFG P ρ f zs s y s'
def SoundR {σ : Type} (P : Program) (ρ : Rs σ) : Prop := ∀ s f zs y s', ρ.eff s f zs = some (y, s') → EffOK P ρ s f zs y s'

inductive RSt where
  | g (st : GSt)
  | ef (d : Option Nat) (f : Nat) (xs : List Src)
  | gef (c : Nat) (t : Bool) (d : Option Nat) (f : Nat) (xs : List Src)
/-- An operation on such memory: a look, a nil check, a store, a call of one of the functions fs. -/
def toRe (fs : List Nat) (o : Oper) : Option (Option Nat × Nat × List Src) :=
  match o.op, o.dst with
  | .lookup t x k false, some d => (src x).bind fun x => (src k).bind fun k => some (some d, LOOK, [.c (.i .i64 (t : Int)), x, k])
  | .nilCheck x, some d => (src x).bind fun x => some (some d, NILC, [x])
  | .mapUpdate t x k v, none => (src x).bind fun x => (src k).bind fun k => (src v).bind fun v => some (none, UPD, [.c (.i .i64 (t : Int)), x, k, v])
  | .call { callee := .value (.func f), args, .. }, d => if (fs.contains f && decide (f < 1000000)) = true then (srcs args.toList).map fun xs => (d, f, xs) else none
  | _, _ => none
def toR (P : Program) (fs : List Nat) (ops : List Oper) (o : Oper) : Option RSt := match o.guard with
  | some g => match toRe fs { o with guard := none } with
    | some e => (guardT ops g).map fun p => .gef p.1 p.2 e.1 e.2.1 e.2.2
    | none => (toG P ops o).map .g
  | none => match toRe fs o with
    | some e => some (.ef e.1 e.2.1 e.2.2)
    | none => (toG P ops o).map .g
def toRs (P : Program) (fs : List Nat) (ops : List Oper) : List Oper → Option (List RSt)
  | [] => some []
  | o :: r => (toR P fs ops o).bind fun s => (toRs P fs ops r).bind fun ss => some (s :: ss)
section
variable {σ : Type} (ρ : Rs σ) (o : Orc)
def stepR (env : Env) (s : σ) : RSt → Option (Env × σ)
  | .g st => (stepG o env st).map fun e => (e, s)
  | .ef d f xs => if noOwn env xs = true then (lookSs env xs).bind fun zs => (ρ.eff s f zs).map fun p => (putO d p.1 env, p.2) else none
  | .gef c t d f xs => (look env c).bind fun v => match v with
    | .b u => if u = t then (if noOwn env xs = true then (lookSs env xs).bind fun zs => (ρ.eff s f zs).map fun p => (putO d p.1 env, p.2) else none) else some (putO d .ud env, s)
    | _ => none
def stepsR : List RSt → Env → σ → Option (Env × σ)
  | [], env, s => some (env, s)
  | x :: r, env, s => (stepR ρ o env s x).bind fun p => stepsR r p.1 p.2
end

section
variable {σ : Type} {ρ : Rs σ} {P : Program} {nt : Nat} {keep : List Nat} {S : Nat → Prop} {base : Nat} {wi : World} {env env' : Env} {a : Act} {w : World} {o : Orc} {s s' : σ} {S0 F0 : Nat → Prop} {w00 : World} {gr : Bool} {fs : List Nat}

/-- A frame beside such memory; how far the world has gone since the call began. -/
def FG (ρ : Rs σ) (P : Program) (nt : Nat) (keep : List Nat) (S0 F0 : Nat → Prop) (w00 : World) (gr : Bool) (env : Env) (s : σ) (a : Act) (w : World) : Prop :=
  ∃ (S F : Nat → Prop) (base : Nat) (wi : World), FI P nt keep S base wi env a w ∧ ρ.R s S F w ∧ (∀ b, F b → b < base ∧ ¬ S b) ∧ w00.heap.size ≤ base ∧ Keeps w00.heap.size F0 w00 wi ∧ (∀ b, S0 b → S b) ∧ (∀ b, S b → S0 b ∨ w00.heap.size ≤ b) ∧ (∀ b, F b → F0 b ∨ w00.heap.size ≤ b) ∧ (gr = false → F = F0)
theorem FG.srt (h : FG ρ P nt keep S0 F0 w00 gr env s a w) : Srt env := by
  obtain ⟨_, _, _, _, hF, _⟩ := h
  exact hF.srt
theorem FG.frame {F : Nat → Prop} {w1 : World} {a1 : Act} {env1 : Env} {keep' : List Nat} (hF : FI P nt keep S base wi env a w) (hR : ρ.R s S F w) (hFb : ∀ b, F b → b < base ∧ ¬ S b) (hb : w00.heap.size ≤ base) (hK : Keeps w00.heap.size F0 w00 wi) (h1 : ∀ b, S0 b → S b) (h2 : ∀ b, S b → S0 b ∨ w00.heap.size ≤ b) (h3 : ∀ b, F b → F0 b ∨ w00.heap.size ≤ b) (h4 : gr = false → F = F0)
    (hF1 : FI P nt keep' S base wi env1 a1 w1) : FG ρ P nt keep' S0 F0 w00 gr env1 s a1 w1 :=
  ⟨S, F, base, wi, hF1, ρ.loc s S S F w w1 hR (fun _ h => h) (fun b hb => by
    rcases hb with hb | hb
    · exact (hF1.kept b hb).trans (hF.kept b hb).symm
    · exact (hF1.below.block b (hFb b hb).1).trans (hF.below.block b (hFb b hb).1).symm), hFb, hb, hK, h1, h2, h3, h4⟩
theorem FG.map {env1 : Env} {a1 : Act} {keep' : List Nat} (h : FG ρ P nt keep S0 F0 w00 gr env s a w) (hm : ∀ S base wi, FI P nt keep S base wi env a w → FI P nt keep' S base wi env1 a1 w) : FG ρ P nt keep' S0 F0 w00 gr env1 s a1 w := by
  obtain ⟨S, F, base, wi, h1, h2⟩ := h
  exact ⟨S, F, base, wi, hm _ _ _ h1, h2⟩
theorem FG.keepE (h : FG ρ P nt keep S0 F0 w00 gr env s a w) (ks : List Nat) : FG ρ P nt keep S0 F0 w00 gr (keepE ks env) s a w := h.map fun _ _ _ h => h.keepE ks

/-- Behind a call that turns the blocks F: the frame, what it owns with it, begins anew. -/
theorem FI.past (hF : FI P nt keep S base wi env a w) {Im : Nat → Prop} (hI1 : ∀ b, S b → Im b) (hI2 : ∀ b, Im b → (S b ∨ base ≤ b) ∧ b < w.heap.size) (hE : Ents P Im w base env (tm a)) {F : Nat → Prop} (hFb : ∀ b, F b → b < base ∧ ¬ S b) {w' : World} (hk : Keeps w.heap.size F w w')
    {S' : Nat → Prop} (m1 : ∀ b, Im b → S' b) (m2 : ∀ b, S' b → (Im b ∨ w.heap.size ≤ b) ∧ b < w'.heap.size) : FI P nt keep S' base w' env a w' := by
  have hFIm : ∀ b, F b → ¬ Im b := fun b hb hi => by
    rcases (hI2 b hi).1 with h | h
    · exact (hFb b hb).2 h
    · have := (hFb b hb).1; omega
  have hI : ∀ p : Addr, Im p.block → w'.cell? p = w.cell? p := fun p hp => World.cell?_of_block (hk.block _ (hI2 _ hp).2 fun hf => hFIm _ hf hp)
  have hO : ∀ m c g, Owns env (tm a) m c g → w'.heap[g]? = w.heap[g]? := fun m c g ho => by
    have h1 := Owns.lt hE ho
    exact hk.block g h1.1 fun hf => by have := (hFb g hf).1; omega
  have hE2 := (hE.turn hI hO).move (w' := w') (Im' := S') m1 (fun n c g ho hg => by
    have h1 := Owns.lt hE ho
    rcases (m2 g hg).1 with h | h
    · exact h1.2.2 h
    · omega) (fun _ _ => rfl) (fun b hb => Nat.lt_of_lt_of_le (hI2 b hb).2 hk.size)
  exact ⟨hF.srt, hF.size, hF.defers, Below.refl _ _, fun _ _ => rfl, Nat.le_trans hF.bsz hk.size, hF.keys, S', fun _ h => h, fun b h => ⟨.inl h, (m2 b h).2⟩, hE2⟩
theorem FG.past {F Im S' : Nat → Prop} {w1 : World} {a1 : Act} {env1 : Env} (hF : FI P nt keep S base wi env a w) (hI2 : ∀ b, Im b → (S b ∨ base ≤ b) ∧ b < w.heap.size) (hI1 : ∀ b, S b → Im b) (hFb : ∀ b, F b → b < base ∧ ¬ S b) (hb : w00.heap.size ≤ base) (hK : Keeps w00.heap.size F0 w00 wi) (h1 : ∀ b, S0 b → S b) (h2 : ∀ b, S b → S0 b ∨ w00.heap.size ≤ b) (h3 : ∀ b, F b → F0 b ∨ w00.heap.size ≤ b) (h4 : gr = false → F = F0)
    (hk : Keeps w.heap.size F w w1) (m1 : ∀ b, Im b → S' b) (m2 : ∀ b, S' b → (Im b ∨ w.heap.size ≤ b) ∧ b < w1.heap.size) (hR : ρ.R s' S' F w1) (hF1 : FI P nt keep S' base w1 env1 a1 w1) : FG ρ P nt keep S0 F0 w00 gr env1 s' a1 w1 := by
  have hsz := hF.bsz
  refine ⟨S', F, base, w1, hF1, hR, fun b hb' => ⟨(hFb b hb').1, fun hs => ?_⟩, hb, ⟨?_, ?_, ?_, ?_, fun b hb' hnf => ?_⟩, fun b h => m1 b (hI1 b (h1 b h)), fun b h => ?_, h3, h4⟩
  · have := (hFb b hb').1
    rcases (m2 b hs).1 with h | h
    · rcases (hI2 b h).1 with h | h
      · exact (hFb b hb').2 h
      · omega
    · omega
  · exact hk.os.trans (hF.below.os.trans hK.os)
  · exact hk.tape.trans (hF.below.tape.trans hK.tape)
  · exact hk.output.trans (hF.below.output.trans hK.output)
  · exact Nat.le_trans hb (Nat.le_trans hsz hk.size)
  · have hFn : ¬ F b := fun hf => by
      rcases h3 b hf with h | h
      · exact hnf h
      · omega
    rw [hk.block b (by omega) hFn, hF.below.block b (by omega), hK.block b hb' hnf]
  · rcases (m2 b h).1 with h | h
    · rcases (hI2 b h).1 with h | h
      · exact h2 b h
      · exact .inr (Nat.le_trans hb h)
    · exact .inr (Nat.le_trans hb (Nat.le_trans hsz h))

theorem toRe_inv {op : Oper} {d : Option Nat} {f : Nat} {xs : List Src} (hs : toRe fs op = some (d, f, xs)) : op.dst = d ∧
    ((∃ t x k d' sx sk, op.op = .lookup t x k false ∧ d = some d' ∧ f = LOOK ∧ src x = some sx ∧ src k = some sk ∧ xs = [.c (.i .i64 (t : Int)), sx, sk]) ∨
     (∃ x d' sx, op.op = .nilCheck x ∧ d = some d' ∧ f = NILC ∧ src x = some sx ∧ xs = [sx]) ∨
     (∃ t x k v sx sk sv, op.op = .mapUpdate t x k v ∧ d = none ∧ f = UPD ∧ src x = some sx ∧ src k = some sk ∧ src v = some sv ∧ xs = [.c (.i .i64 (t : Int)), sx, sk, sv]) ∨
     (∃ (args : Array Operand) (tys : Array TypeId), op.op = .call { callee := .value (.func f), args := args, argTypes := tys } ∧ f < 1000000 ∧ srcs args.toList = some xs)) := by
  unfold toRe at hs
  split at hs
  · rename_i t x k d' hop hd
    simp only [Option.bind_eq_some_iff, Option.some.injEq, Prod.mk.injEq] at hs
    obtain ⟨sx, h1, sk, h2, rfl, rfl, rfl⟩ := hs
    exact ⟨hd, .inl ⟨t, x, k, d', sx, sk, hop, rfl, rfl, h1, h2, rfl⟩⟩
  · rename_i x d' hop hd
    simp only [Option.bind_eq_some_iff, Option.some.injEq, Prod.mk.injEq] at hs
    obtain ⟨sx, h1, rfl, rfl, rfl⟩ := hs
    exact ⟨hd, .inr (.inl ⟨x, d', sx, hop, rfl, rfl, h1, rfl⟩)⟩
  · rename_i t x k v hop hd
    simp only [Option.bind_eq_some_iff, Option.some.injEq, Prod.mk.injEq] at hs
    obtain ⟨sx, h1, sk, h2, sv, h3, rfl, rfl, rfl⟩ := hs
    exact ⟨hd, .inr (.inr (.inl ⟨t, x, k, v, sx, sk, sv, hop, rfl, rfl, h1, h2, h3, rfl⟩))⟩
  · rename_i f' args tys hop
    split at hs
    · rename_i hc
      simp only [Bool.and_eq_true, decide_eq_true_eq] at hc
      simp only [Option.map_eq_some_iff, Prod.mk.injEq] at hs
      obtain ⟨ys, h1, rfl, rfl, rfl⟩ := hs
      exact ⟨rfl, .inr (.inr (.inr ⟨args, tys, hop, hc.2, h1⟩))⟩
    · cases hs
  · cases hs
theorem toR_ef {opsL : List Oper} {op : Oper} {d : Option Nat} {f : Nat} {xs : List Src} (hs : toR P fs opsL op = some (.ef d f xs)) : op.guard = none ∧ toRe fs op = some (d, f, xs) := by
  unfold toR at hs
  split at hs
  · split at hs <;> simp at hs
  · rename_i hg
    refine ⟨hg, ?_⟩
    split at hs
    · rename_i e he
      simp only [Option.some.injEq, RSt.ef.injEq] at hs
      obtain ⟨rfl, rfl, rfl⟩ := hs
      exact he
    · simp at hs
theorem toR_gef {opsL : List Oper} {op : Oper} {c : Nat} {t : Bool} {d : Option Nat} {f : Nat} {xs : List Src} (hs : toR P fs opsL op = some (.gef c t d f xs)) : ∃ g, op.guard = some g ∧ guardT opsL g = some (c, t) ∧ toRe fs { op with guard := none } = some (d, f, xs) := by
  unfold toR at hs
  split at hs
  · rename_i g hg
    refine ⟨g, hg, ?_⟩
    split at hs
    · rename_i e he
      simp only [Option.map_eq_some_iff, RSt.gef.injEq] at hs
      obtain ⟨p, hp, rfl, rfl, rfl, rfl, rfl⟩ := hs
      exact ⟨hp, he⟩
    · simp at hs
  · split at hs <;> simp at hs
theorem toR_g {opsL : List Oper} {op : Oper} {st : GSt} (hs : toR P fs opsL op = some (.g st)) : toG P opsL op = some st := by
  unfold toR at hs
  split at hs
  · split at hs
    · simp at hs
    · simpa using hs
  · split at hs
    · simp at hs
    · simpa using hs
theorem noOwn_loose {env : Env} : ∀ {xs : List Src}, noOwn env xs = true → ∀ s ∈ xs, Loose env s
  | [], _, s, h => by cases h
  | x :: r, h, s, hs => by
    simp only [noOwn, Bool.and_eq_true, Option.isNone_iff_eq_none] at h
    rcases List.mem_cons.1 hs with rfl | hs
    · intro m y ho _
      rw [h.1] at ho; cases ho
    · exact noOwn_loose h.2 s hs
theorem noO_loose {env : Env} (h : NoO env) (s : Src) : Loose env s := fun m x _ hx => h m x hx
theorem lookSs_cons {env : Env} {x : Src} {xs : List Src} {zs : List V} (h : lookSs env (x :: xs) = some zs) : ∃ z zs', lookS env x = some z ∧ lookSs env xs = some zs' ∧ zs = z :: zs' := by
  simp only [lookSs, Option.bind_eq_some_iff, Option.some.injEq] at h
  obtain ⟨z, h1, zs', h2, rfl⟩ := h
  exact ⟨z, zs', h1, h2, rfl⟩
theorem lookSs_nil {env : Env} {zs : List V} (h : lookSs env [] = some zs) : zs = [] := by
  simp only [lookSs, Option.some.injEq] at h; exact h.symm

/-- One operation on such memory. -/
theorem ef_sound (hρ : SoundR P ρ) {op : Oper} {d : Option Nat} {f : Nat} {xs : List Src} (hs : toRe fs op = some (d, f, xs)) (hkd : ∀ d, op.dst = some d → d ∈ keep ∧ d < nt) (hFG : FG ρ P nt keep S0 F0 w00 gr env s a w) (hno : ∀ s ∈ xs, Loose env s)
    {zs : List V} {y : V} (hl : lookSs env xs = some zs) (he : ρ.eff s f zs = some (y, s')) : Outc P ((execOp a.eval op).run P w) fun u w1 => FG ρ P nt keep S0 F0 w00 gr (putO d y env) s' (a.put op.dst u) w1 := by
  obtain ⟨S, F, base, wi, hF, hR, hFb, hb, hKp, k1, k2, k3, k4⟩ := hFG
  obtain ⟨hdst, hcase⟩ := toRe_inv hs
  have hok := hρ s f zs y s' he
  rcases hcase with ⟨t, x, k, d', sx, sk, hop, rfl, rfl, h1, h2, rfl⟩ | ⟨x, d', sx, hop, rfl, rfl, h1, rfl⟩ | ⟨t, x, k, v, sx, sk, sv, hop, rfl, rfl, h1, h2, h3, rfl⟩ | ⟨args, tys, hop, hlt, hargs⟩
  · -- a look
    unfold EffOK at hok
    rw [if_pos rfl] at hok
    obtain ⟨rfl, hsm, how, t', m, kk, rfl, hrun⟩ := hok
    obtain ⟨z0, zs0, e0, hl1, hz⟩ := lookSs_cons hl
    obtain ⟨z1, zs1, e1, hl2, rfl⟩ := lookSs_cons hl1
    obtain ⟨z2, zs2, e2, hl3, rfl⟩ := lookSs_cons hl2
    obtain rfl := lookSs_nil hl3
    simp only [lookS, frz, Option.some.injEq] at e0
    subst e0
    simp only [List.cons.injEq, V.i.injEq, Int.natCast_inj, true_and, and_true] at hz
    obtain ⟨rfl, rfl, rfl⟩ := hz
    have hrep : ∀ Im : Nat → Prop, (∀ b, S b → Im b) → Ents P Im w base env (tm a) → ∃ u, (Instr.lookup t' (a.eval x) (a.eval k) false).run P w = .ok u w ∧ Rep Im w u y := fun Im hI1 hE =>
      hrun Im F w _ _ (ρ.loc _ S Im F w w hR hI1 fun _ _ => rfl) (src_loose hE h1 (hno sx (by simp)) e1) (src_loose hE h2 (hno sk (by simp)) e2)
    obtain ⟨Im0, hI1, hI2, hE⟩ := hF.ents
    obtain ⟨u, hru, _⟩ := hrep Im0 hI1 hE
    have hex : (execOp a.eval op).run P w = .ok (.value u) w := by simp only [execOp, hop, Sem.run_bind, hru, Result.andThen_ok, Sem.run_pure]
    obtain ⟨hk, hd⟩ := hkd d' hdst
    refine outc_value hex ?_
    rw [hdst]
    refine FG.frame hF hR hFb hb hKp k1 k2 k3 k4 ?_
    refine hF.put_rep hk hd (Below.refl _ _) hsm how fun Im g1 g2 gE => ⟨Im, fun _ h => h, fun b h => ⟨.inl h, (g2 b h).2⟩, ?_⟩
    obtain ⟨u', hru', hr'⟩ := hrep Im g1 gE
    rw [hru] at hru'
    cases hru'
    exact hr'
  · -- a nil check
    unfold EffOK at hok
    rw [if_neg (by decide), if_neg (by decide), if_pos rfl] at hok
    obtain ⟨rfl, cs, rfl, rfl⟩ := hok
    obtain ⟨z1, zs1, e1, hl2, hz⟩ := lookSs_cons hl
    obtain rfl := lookSs_nil hl2
    simp only [List.cons.injEq, and_true] at hz
    subst hz
    have hrep : ∀ Im : Nat → Prop, Ents P Im w base env (tm a) → Rep Im w (a.eval x) (.r cs) := fun Im hE => src_loose hE h1 (hno sx (by simp)) e1
    obtain ⟨Im0, hI1, hI2, hE⟩ := hF.ents
    obtain ⟨ad, _, hx, _⟩ := (hrep Im0 hE).ptr
    have hex : (execOp a.eval op).run P w = .ok (.value (a.eval x)) w := by simp only [execOp, hop, hx, Sem.run_pure]
    obtain ⟨hk, hd⟩ := hkd d' hdst
    refine outc_value hex ?_
    rw [hdst]
    refine FG.frame hF hR hFb hb hKp k1 k2 k3 k4 ?_
    exact hF.put_rep hk hd (Below.refl _ _) rfl rfl fun Im g1 g2 gE => ⟨Im, fun _ h => h, fun b h => ⟨.inl h, (g2 b h).2⟩, hrep Im gE⟩
  · -- a store
    unfold EffOK at hok
    rw [if_neg (by decide), if_pos rfl] at hok
    obtain ⟨t', m, kk, xx, rfl, rfl, hrun⟩ := hok
    obtain ⟨z0, zs0, e0, hl1, hz⟩ := lookSs_cons hl
    obtain ⟨z1, zs1, e1, hl2, rfl⟩ := lookSs_cons hl1
    obtain ⟨z2, zs2, e2, hl3, rfl⟩ := lookSs_cons hl2
    obtain ⟨z3, zs3, e3, hl4, rfl⟩ := lookSs_cons hl3
    obtain rfl := lookSs_nil hl4
    simp only [lookS, frz, Option.some.injEq] at e0
    subst e0
    simp only [List.cons.injEq, V.i.injEq, Int.natCast_inj, true_and, and_true] at hz
    obtain ⟨rfl, rfl, rfl, rfl⟩ := hz
    obtain ⟨Im, hI1, hI2, hE⟩ := hF.ents
    have hFIm : ∀ b, F b → ¬ Im b := fun b hb hi => by
      rcases (hI2 b hi).1 with h | h
      · exact (hFb b hb).2 h
      · have := (hFb b hb).1; omega
    obtain ⟨w1, hru, hk, hsz, hR1⟩ := hrun Im F w _ _ _ hFIm (ρ.loc _ S Im F w w hR hI1 fun _ _ => rfl) (src_loose hE h1 (hno sx (by simp)) e1) (src_loose hE h2 (hno sk (by simp)) e2) (src_loose hE h3 (hno sv (by simp)) e3)
    have hex : (execOp a.eval op).run P w = .ok .skip w1 := by simp only [execOp, hop, Sem.run_bind, hru, Result.andThen_ok, Sem.run_pure]
    have m2 : ∀ b, Im b → (Im b ∨ w.heap.size ≤ b) ∧ b < w1.heap.size := fun b h => ⟨.inl h, by rw [hsz]; exact (hI2 b h).2⟩
    rw [hex, hdst]
    exact FG.past hF hI2 hI1 hFb hb hKp k1 k2 k3 k4 hk (fun _ h => h) m2 hR1 (hF.past hI1 hI2 hE hFb hk (fun _ h => h) m2)
  · -- a call
    unfold EffOK at hok
    rw [if_neg (by unfold LOOK; omega), if_neg (by unfold UPD; omega), if_neg (by unfold NILC; omega)] at hok
    obtain ⟨hfn, hoy, hpf⟩ := hok
    obtain ⟨Im, hI1, hI2, hE⟩ := hF.ents
    have hFIm : ∀ b, F b → ¬ Im b := fun b hb hi => by
      rcases (hI2 b hi).1 with h | h
      · exact (hFb b hb).2 h
      · have := (hFb b hb).1; omega
    have hreps := srcs_loose hE hargs hno hl
    have hent : (execOp a.eval op).run P w = .ok (.enter f (args.toList.map a.eval).toArray) w := by
      rw [callm_enter (ρ := a.eval) (fun _ => rfl) hop hfn w]
      congr 2
      apply Array.toList_inj.1; simp
    rw [hent, hdst]
    refine (hpf Im F w _ (fun b h => (hI2 b h).2) hFIm hE.glob hreps (ρ.loc _ S Im F w w hR hI1 fun _ _ => rfl)).mono fun e w2 ⟨v, he, hk2, S', m1, m2, hR2, hrep⟩ => ⟨v, he, ?_⟩
    have hnew := hF.past hI1 hI2 hE hFb hk2 m1 m2
    obtain ⟨Im', n1, n2, hE'⟩ := hnew.ents
    have hput := hnew.put_res (d := d) (fun d' hd' => hkd d' (hdst.trans hd')) (Below.refl _ _) n1 n2 hE' (fun _ h => h) (fun b h => ⟨.inl h, (n2 b h).2⟩) (v := v) (y := y) ((hrep.mono n1).res (okY_t hoy))
    exact FG.past hF hI2 hI1 hFb hb hKp k1 k2 k3 k4 hk2 m1 m2 hR2 hput

/-- One operation of a region that keeps its order. -/
theorem stepR_sound (ho : SoundO P o) (hρ : SoundR P ρ) {opsL : List Oper} {op : Oper} {st : RSt} {e : Env} (hs : toR P fs opsL op = some st) (hkd : ∀ d, op.dst = some d → d ∈ keep ∧ d < nt) (hFG : FG ρ P nt keep S0 F0 w00 gr env s a w) (h1 : stepR ρ o env s st = some (e, s')) :
    (Region.wanted op (yielded opsL.toArray a.tmps) = true ∧ Outc P ((execOp a.eval op).run P w) fun u w1 => FG ρ P nt keep S0 F0 w00 gr e s' (a.put op.dst u) w1) ∨ (Region.wanted op (yielded opsL.toArray a.tmps) = false ∧ FG ρ P nt keep S0 F0 w00 gr e s' (a.put op.dst undef) w) := by
  cases st with
  | g st =>
    simp only [stepR, Option.map_eq_some_iff, Prod.mk.injEq] at h1
    obtain ⟨e', h1, rfl, rfl⟩ := h1
    obtain ⟨S, F, base, wi, hF, hR, hFb, hb, hKp, k1, k2, k3, k4⟩ := hFG
    rcases stepG_sound ho (toR_g hs) hkd hF h1 with ⟨hw, h⟩ | ⟨hw, h⟩
    · left
      refine ⟨hw, ?_⟩
      revert h
      generalize (execOp a.eval op).run P w = res
      intro h
      unfold Outc at h ⊢
      split at h
      · exact FG.frame hF hR hFb hb hKp k1 k2 k3 k4 h
      · exact FG.frame hF hR hFb hb hKp k1 k2 k3 k4 h
      · exact h.mono fun e w1 ⟨u, he, h⟩ => ⟨u, he, FG.frame hF hR hFb hb hKp k1 k2 k3 k4 h⟩
      · exact h.elim
    · exact .inr ⟨hw, FG.frame hF hR hFb hb hKp k1 k2 k3 k4 h⟩
  | ef d f xs =>
    simp only [stepR] at h1
    split at h1
    · rename_i hno
      simp only [Option.bind_eq_some_iff, Option.map_eq_some_iff, Prod.mk.injEq] at h1
      obtain ⟨zs, hl, ⟨y, s1⟩, he, rfl, rfl⟩ := h1
      left
      exact ⟨by simp [Region.wanted, (toR_ef hs).1], ef_sound hρ (toR_ef hs).2 hkd hFG (noOwn_loose hno) hl he⟩
    · cases h1
  | gef c t d f xs =>
    obtain ⟨g, hgd, hgt, hre⟩ := toR_gef hs
    unfold guardT at hgt
    simp only [Option.map_eq_some_iff, Option.bind_eq_some_iff, Prod.mk.injEq] at hgt
    obtain ⟨dg, ⟨og, hog, hdg⟩, rfl, rfl⟩ := hgt
    simp only [stepR, Option.bind_eq_some_iff] at h1
    obtain ⟨v, hv, h1⟩ := h1
    cases v <;> first | (cases h1; done) | skip
    rename_i u
    simp only at h1
    have hu : a.tmps[dg]? = some (.bool u) := by
      obtain ⟨S, F, base, wi, hF, _⟩ := hFG
      exact look_bool hF hv
    have hy : yielded opsL.toArray a.tmps g.1 = some u := by
      simp [yielded, hog, hdg, hu]
    by_cases hut : u = g.2
    · rw [if_pos hut] at h1
      split at h1
      · rename_i hno
        simp only [Option.bind_eq_some_iff, Option.map_eq_some_iff, Prod.mk.injEq] at h1
        obtain ⟨zs, hl, ⟨y, s1⟩, he, rfl, rfl⟩ := h1
        left
        refine ⟨?_, ef_sound (op := { op with guard := none }) hρ hre hkd hFG (noOwn_loose hno) hl he⟩
        unfold Region.wanted
        rw [hgd]
        simp [hy, hut]
      · cases h1
    · rw [if_neg hut] at h1
      simp only [Option.some.injEq, Prod.mk.injEq] at h1
      obtain ⟨rfl, rfl⟩ := h1
      right
      refine ⟨?_, ?_⟩
      · unfold Region.wanted
        rw [hgd]
        simp [hy, hut]
      · have hd' : d = op.dst := (toRe_inv hre).1.symm
        rw [hd']
        exact hFG.map fun S base wi h => h.putO_ud hkd
/-- The operations of a region that keeps its order. -/
theorem stepsR_sound (ho : SoundO P o) (hρ : SoundR P ρ) {opsL : List Oper} {Q : Exit → Act → World → Prop} {rest : List Nat} : ∀ (r : List Oper) (ss : List RSt) (n : Nat) (env : Env) (s : σ) (a : Act) (w : World) (tl : List Oper), toRs P fs opsL r = some ss → stepsR ρ o ss env s = some (env', s') → opsL.drop n = r ++ tl → (∀ op ∈ r, ∀ d, op.dst = some d → d ∈ keep ∧ d < nt) →
    FG ρ P nt keep S0 F0 w00 gr env s a w → (∀ a' w', FG ρ P nt keep S0 F0 w00 gr env' s' a' w' → wpOps P opsL.toArray Q rest a' w') → wpOps P opsL.toArray Q (List.range' n r.length ++ rest) a w
  | [], ss, n, env, s, a, w, tl, hss, hst, _, _, hF, hQ => by
    simp only [toRs, Option.some.injEq] at hss
    subst hss
    simp only [stepsR, Option.some.injEq, Prod.mk.injEq] at hst
    obtain ⟨rfl, rfl⟩ := hst
    exact hQ a w hF
  | op :: r, ss, n, env, s, a, w, tl, hss, hst, hdrop, hk, hF, hQ => by
    simp only [toRs, Option.bind_eq_some_iff, Option.some.injEq] at hss
    obtain ⟨st, hs, ss', hss', rfl⟩ := hss
    simp only [stepsR, Option.bind_eq_some_iff] at hst
    obtain ⟨⟨env1, s1⟩, h1, h2⟩ := hst
    obtain ⟨hat, hdrop'⟩ := drop_cons hdrop
    have next : ∀ u w1, FG ρ P nt keep S0 F0 w00 gr env1 s1 (a.put op.dst u) w1 → wpOps P opsL.toArray Q (List.range' (n + 1) r.length ++ rest) (a.put op.dst u) w1 := fun u w1 h =>
      stepsR_sound ho hρ r ss' (n + 1) env1 s1 _ w1 tl hss' h2 hdrop' (fun op' h' => hk op' (List.mem_cons_of_mem _ h')) h hQ
    simp only [List.length_cons, List.range'_succ, List.cons_append, wpOps, List.getElem?_toArray, hat]
    rcases stepR_sound ho hρ hs (hk op (List.mem_cons_self ..)) hF h1 with ⟨hw, hout⟩ | ⟨hw, hF1⟩
    · rw [if_pos hw]
      left
      refine Outc.wp ?_
      revert hout
      generalize (execOp a.eval op).run P w = res
      intro hout
      unfold Outc at hout ⊢
      split at hout
      · exact next _ _ hout
      · exact next _ _ hout
      · exact hout.mono fun e w1 ⟨u, he, h⟩ => ⟨u, he, next _ _ h⟩
      · exact hout.elim
    · rw [if_neg (by simp [hw])]
      exact next _ _ hF1
end
end Go.VM
