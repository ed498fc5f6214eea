/-
  Calls that turn memory which is not the frame's own: what holds of code with such calls. No program is named here.
-/
import Derived.Test.YtggmlfmhinafhaaVmS
import Derived.Test.YtggmlfmhinafhaaVmQ
import Derived.Test.YtggmlfmhinafhaaVmJ
set_option linter.unusedSectionVars false
namespace Go.VM
open Go.RowKit
variable [Glob]

/-- Memory that calls turn: what lies in the blocks F of a world, told by a state; other blocks have no say. -/
structure Rsc (σ : Type) where
  R : σ → (Nat → Prop) → World → Prop
  loc : ∀ s F w w', R s F w → (∀ b, F b → w'.heap[b]? = w.heap[b]?) → R s F w'
  lt : ∀ s F w b, R s F w → F b → b < w.heap.size
/-- Of the blocks below the first n, those outside F are as they were. -/
structure Keeps (n : Nat) (F : Nat → Prop) (w w' : World) : Prop where
  os : w'.os = w.os
  tape : w'.tape = w.tape
  output : w'.output = w.output
  size : w.heap.size ≤ w'.heap.size
  block : ∀ b, b < n → ¬ F b → w'.heap[b]? = w.heap[b]?
/-- A call of f at data xs returns y and turns the state s into s'. -/
def PFE {σ : Type} (P : Program) (ρ : Rsc σ) (f : FuncId) (xs : List V) (s : σ) (y : V) (s' : σ) : Prop :=
  ∀ (S F : Nat → Prop) (w : World) (vs : List Value), (∀ b, S b → b < w.heap.size) → (∀ b, F b → ¬ S b) → GOK S w → Reps S w vs xs → ρ.R s F w →
    Calls P f vs.toArray w fun e w' => ∃ v, e = .returned v ∧ Keeps w.heap.size F w w' ∧
      ∃ S' F' : Nat → Prop, (∀ b, S b → S' b) ∧ (∀ b, S' b → (S b ∨ w.heap.size ≤ b) ∧ b < w'.heap.size) ∧ ρ.R s' F' w' ∧ (∀ b, F' b → F b ∨ w.heap.size ≤ b) ∧ (∀ b, F' b → ¬ S' b) ∧ Rep S' w' v y

/-! ### Code with such calls -/
inductive ShE where
  | c
  | seq (a b : ShE)
  | cond (a b : ShE)
  | blk (a : ShE)
  | loop (a : ShE)
  | eff
/-- The steps ahead of a call, its answer's slot, the function or none (the first operand is the function), its operands, the loose slots. -/
structure EG where
  pre : List St
  d : Option Nat
  f : Option Nat
  xs : List Src
  ks : List Nat
inductive NE where
  | c (x : C)
  | seq (a b : NE)
  | cond (x : X) (a b : NE)
  | blk (id : Nat) (a : NE)
  | loop (kin : List Nat) (a : NE)
  | eff (g : EG)
/-- All that the frame owns is read from now on. -/
def frzAll (env : Env) : Env := freeze env (env.map fun p => .t p.1)
/-- The frame owns nothing. -/
def bare (env : Env) : Bool := env.all fun p => !p.2.isOwn && (match p.2 with | .t _ => false | _ => true)
/-- Data that a call may answer: no tuple within a tuple. -/
def okY : V → Bool
  | .t ys => ys.all fun x => match x with
    | .t _ => false
    | _ => true
  | _ => true
theorem okY_t {y : V} (h : okY y = true) : ∀ ys, y = .t ys → ∀ x ∈ ys, ∀ zs, x ≠ .t zs := by
  rintro ys rfl x hx zs rfl
  have := List.all_eq_true.1 h _ hx
  cases this
def callee (f : Option Nat) (vs : List V) : Option (Nat × List V) := match f with
  | some f => some (f, vs)
  | none => match vs with
    | .f (.func f) fs cs :: args => some (f, fs ++ args ++ cs)
    | _ => none
section
variable {σ : Type} (ρ : Rsc σ) (P : Program) (o : Orc)
def roundE' (F : Env → σ → (Ex → Env → σ → Prop) → Prop) (kin : List Nat) (K : Ex → Env → σ → Prop) : Nat → Env → σ → Prop
  | 0, _, _ => False
  | n + 1, env, s => F (keepE kin env) s fun e env1 s1 => match e with
    | .n => roundE' F kin K n env1 s1
    | .e j => K (.e j) env1 s1
    | .r => K .r env1 s1
/-- Code from a frame and a state on ends so that K holds. -/
def WE : NE → Env → σ → (Ex → Env → σ → Prop) → Prop
  | .c x, env, s, K => ∃ e env1, exec o x env = some (e, env1) ∧ K e env1 s
  | .seq a b, env, s, K => WE a env s fun e env1 s1 => match e with
    | .n => WE b env1 s1 K
    | .e j => K (.e j) env1 s1
    | .r => K .r env1 s1
  | .cond x a b, env, s, K => ∃ t, evalX o env x = some (.b t) ∧ if t = true then WE a env s K else WE b env s K
  | .blk id a, env, s, K => WE a env s fun e env1 s1 => match e with
    | .e j => if j = id then K .n env1 s1 else K (.e j) env1 s1
    | .n => K .n env1 s1
    | .r => K .r env1 s1
  | .loop kin a, env, s, K => ∃ n, roundE' (WE a) kin K n env s
  | .eff g, env, s, K => ∃ env1, stepsS o g.pre env = some env1 ∧ bare (frzAll env1) = true ∧ ∃ vs f zs y s1, lookSs (frzAll env1) g.xs = some vs ∧ callee g.f vs = some (f, zs) ∧ okFn P f = true ∧ okY y = true ∧ PFE P ρ f zs s y s1 ∧
      K .n (dropE g.ks (putO g.d y (frzAll env1))) s1
/-- The call at a region's end. -/
def callR (ops : List Oper) : Option (List Oper × Oper × Option Nat × List Operand) := match ops.reverse with
  | x :: r => if x.guard.isSome then none else match x.op with
    | .call { callee := .value (.func f), args, .. } => some (r.reverse, x, some f, args.toList)
    | .call { callee := .value (.tmp t), args, .. } => some (r.reverse, x, none, .tmp t :: args.toList)
    | _ => none
  | [] => none
def egOf (nt : Nat) (keep : List Nat) (ops : List Oper) : Option EG := (callR ops).bind fun h => (toSts P h.1).bind fun ss => (srcs h.2.2.2).bind fun xs =>
  if dstOk nt ops = true then some ⟨ss, h.2.1.dst, h.2.2.1, xs, looseD keep ops⟩ else none
def compE (nt : Nat) (keep ret : List Nat) : ShE → Code → List (Nat × List Nat) → List Nat → Option NE
  | .c, c, es, out => (comp P nt keep ret c es out).map .c
  | .seq s t, .seq a b, es, out => (compE nt keep ret s a es (live ret b es out)).bind fun x => (compE nt keep ret t b es out).bind fun y => some (.seq x y)
  | .cond s t, .cond c a b, es, out => (condX c).bind fun x => (compE nt keep ret s a es out).bind fun a => (compE nt keep ret t b es out).bind fun b => some (.cond x a b)
  | .blk s, .block id a, es, out => (compE nt keep ret s a ((id, out) :: es) out).bind fun a => some (.blk id a)
  | .loop s, .loop a, es, out => let l := sort1 ((live ret (.loop a) es out).filter fun t => keep.contains t)
    (compE nt keep ret s a es l).bind fun c => some (.loop l c)
  | .eff, .region _ ops false, _, _ => (egOf P nt keep ops.toList).map .eff
  | _, _, _, _ => none
structure ECode where
  np : Nat
  res : List RV
  body : NE
def compileE (sh : ShE) (f : Func) : Option ECode := f.body.bind fun c =>
  let ret := resTmps f
  (compE P f.ntmps (keepOf f c) ret sh c [] ret).bind fun b => (resOf P f.results.toList).bind fun rs => if f.params.size + f.nfree ≤ f.ntmps ∧ (P.follows .mixedOrders = true) then some ⟨f.params.size + f.nfree, rs, b⟩ else none
end

/-! ### It is so -/
section
variable {σ : Type} {ρ : Rsc σ} {P : Program} {nt : Nat} {keep ret : List Nat} {env env' : Env} {a : Act} {w : World} {o : Orc} {s s' : σ} {S0 F0 : Nat → Prop} {w00 : World}

theorem callR_inv {ops pre : List Oper} {x : Oper} {f : Option Nat} {xs : List Operand} (h : callR ops = some (pre, x, f, xs)) : ops = pre ++ [x] ∧ x.guard = none ∧ ∃ (args : Array Operand) (tys : Array TypeId),
    (∃ g, f = some g ∧ x.op = .call { callee := .value (.func g), args := args, argTypes := tys } ∧ xs = args.toList) ∨ (∃ t, f = none ∧ x.op = .call { callee := .value (.tmp t), args := args, argTypes := tys } ∧ xs = .tmp t :: args.toList) := by
  unfold callR at h
  split at h
  · rename_i x' r hr
    have hops : ops = r.reverse ++ [x'] := by
      have := congrArg List.reverse hr
      simpa using this
    split at h
    · cases h
    · rename_i hg
      have hg' : x'.guard = none := by simpa using hg
      split at h
      · rename_i g args tys hop
        simp only [Option.some.injEq, Prod.mk.injEq] at h
        obtain ⟨rfl, rfl, rfl, rfl⟩ := h
        exact ⟨hops, hg', args, tys, .inl ⟨g, rfl, hop, rfl⟩⟩
      · rename_i t args tys hop
        simp only [Option.some.injEq, Prod.mk.injEq] at h
        obtain ⟨rfl, rfl, rfl, rfl⟩ := h
        exact ⟨hops, hg', args, tys, .inr ⟨t, rfl, hop, rfl⟩⟩
      · cases h
  · cases h

/-- A frame beside memory that calls turn; how far the world has gone since the call began. -/
def FE (ρ : Rsc σ) (P : Program) (nt : Nat) (keep : List Nat) (S0 F0 : Nat → Prop) (w00 : World) (env : Env) (s : σ) (a : Act) (w : World) : Prop :=
  ∃ (S F : Nat → Prop) (base : Nat) (wi : World), FI P nt keep S base wi env a w ∧ ρ.R s F w ∧ (∀ b, F b → b < base ∧ ¬ S b) ∧ w00.heap.size ≤ base ∧ Keeps w00.heap.size F0 w00 wi ∧ (∀ b, S0 b → S b) ∧ (∀ b, S b → S0 b ∨ w00.heap.size ≤ b) ∧ (∀ b, F b → F0 b ∨ w00.heap.size ≤ b)
theorem bare_own (h : bare env = true) {n : Nat} {x : V} (hx : get n env = some x) : x.isOwn = false ∧ ∀ ys, x ≠ .t ys := by
  have := List.all_eq_true.1 h _ (get_mem hx)
  simp only [Bool.and_eq_true, Bool.not_eq_true'] at this
  refine ⟨this.1, fun ys e => ?_⟩
  subst e
  cases this.2
theorem bare_owner (h : bare env = true) (s : Src) (_hc : ∀ n x m, get n env = some x → x.names = some m → ∃ y, get m env = some y ∧ y.names = none) : Loose env s := by
  intro m x _ hx
  exact (bare_own h hx).1
/-- A frame that owns nothing begins anew behind a call. -/
theorem FI.anew {S : Nat → Prop} {base : Nat} {wi : World} (hF : FI P nt keep S base wi env a w) (hb : bare env = true) {Im : Nat → Prop} (hE : Ents P Im w base env (tm a)) {S' : Nat → Prop} (hS : ∀ b, Im b → S' b) {w' : World} (hlt : ∀ b, S' b → b < w'.heap.size)
    (hk : ∀ b, Im b → w'.heap[b]? = w.heap[b]?) : FI P nt keep S' w'.heap.size w' env a w' := by
  have hcell : ∀ p : Addr, Im p.block → w'.cell? p = w.cell? p := fun p hp => World.cell?_of_block (hk _ hp)
  refine ⟨hF.srt, hF.size, hF.defers, Below.refl _ _, fun _ _ => rfl, Nat.le_refl _, hF.keys, S', fun _ h => h, fun b h => ⟨.inl h, hlt b h⟩, fun n x hx => ?_, hE.closed, fun n c n' c' g h => ?_, hE.glob.move hS hcell⟩
  · obtain ⟨u, hu, he⟩ := hE.ent n x hx
    obtain ⟨hno, hnt⟩ := bare_own hb hx
    refine ⟨u, hu, ?_⟩
    cases x <;> first
      | (simp [V.isOwn] at hno; done)
      | exact absurd rfl (hnt _)
      | exact he
      | exact Rep.move he hS hcell
  · exfalso
    cases c with
    | none =>
      obtain ⟨x, _, hx, ho, _⟩ := h
      rw [(bare_own hb hx).1] at ho; cases ho
    | some j =>
      obtain ⟨ys, _, _, _, hx, _⟩ := h
      exact absurd rfl ((bare_own hb hx).2 ys)
theorem Rep.res {S : Nat → Prop} {v : Value} {y : V} (h : Rep S w v y) (hy : ∀ ys, y = .t ys → ∀ x ∈ ys, ∀ zs, x ≠ .t zs) {base : Nat} : Res P S w base v y := by
  cases h with
  | t us ys hl h =>
    refine ⟨us.toList, by simp, by simpa using hl, fun j u x hu hx => ?_, fun i j u u' x x' g _ _ _ hx _ ho => ?_⟩
    · have hr := h j u x (by simpa using hu) hx
      have hnt := hy _ rfl x (List.mem_of_getElem? hx)
      cases hr <;> first | (rename_i ys' _ _; exact absurd rfl (hnt ys')) | (constructor <;> assumption) | exact absurd rfl (hnt _)
    · exfalso
      obtain ⟨u0, hu0⟩ : ∃ u0, us[i]? = some u0 := by
        have hi : i < us.size := by rw [hl]; exact (List.getElem?_eq_some_iff.1 hx).1
        exact ⟨us[i], Array.getElem?_eq_getElem hi⟩
      have hr := h i u0 x hu0 hx
      cases hr <;> cases ho
  | _ => constructor <;> assumption
end
end Go.VM
/-
  Code with calls that turn memory which is not the frame's own does what is said of it; contracts. No program is named here.
-/
namespace Go.VM
open Go.RowKit
variable [Glob]

section
variable {σ : Type} {ρ : Rsc σ} {P : Program} {nt : Nat} {keep ret : List Nat} {env env' : Env} {a : Act} {w : World} {o : Orc} {s s' : σ} {S0 F0 : Nat → Prop} {w00 : World}

/-- What a stretch of code does at any frame beside the memory. -/
def DoesE (ρ : Rsc σ) (P : Program) (nt : Nat) (keep : List Nat) (S0 F0 : Nat → Prop) (w00 : World) (W : Env → σ → (Ex → Env → σ → Prop) → Prop) (c : Code) : Prop :=
  ∀ (env : Env) (s : σ) (K : Ex → Env → σ → Prop), W env s K → ∀ (a : Act) (w : World), FE ρ P nt keep S0 F0 w00 env s a w → ∀ Q : Exit → Act → World → Prop, (∀ ex env' s' a' w', K ex env' s' → FE ρ P nt keep S0 F0 w00 env' s' a' w' → Q ex.exit a' w') → c.wp P Q a w

theorem FE.frame {S F : Nat → Prop} {base : Nat} {wi w1 : World} {a1 : Act} {env1 : Env} (hF : FI P nt keep S base wi env a w) (hR : ρ.R s F w) (hFb : ∀ b, F b → b < base ∧ ¬ S b) (hb : w00.heap.size ≤ base) (hK : Keeps w00.heap.size F0 w00 wi) (h1 : ∀ b, S0 b → S b) (h2 : ∀ b, S b → S0 b ∨ w00.heap.size ≤ b) (h3 : ∀ b, F b → F0 b ∨ w00.heap.size ≤ b)
    (hF1 : FI P nt keep S base wi env1 a1 w1) : FE ρ P nt keep S0 F0 w00 env1 s a1 w1 :=
  ⟨S, F, base, wi, hF1, ρ.loc s F w w1 hR fun b hb => (hF1.below.block b (hFb b hb).1).trans (hF.below.block b (hFb b hb).1).symm, hFb, hb, hK, h1, h2, h3⟩
theorem FE.keepE (h : FE ρ P nt keep S0 F0 w00 env s a w) (ks : List Nat) : FE ρ P nt keep S0 F0 w00 (keepE ks env) s a w := by
  obtain ⟨S, F, base, wi, h1, h2⟩ := h
  exact ⟨S, F, base, wi, h1.keepE ks, h2⟩

/-- The call, entered. -/
theorem eff_enter {ops pre : List Oper} {x : Oper} {f : Option Nat} {xs : List Operand} (h : callR ops = some (pre, x, f, xs)) {Im : Nat → Prop} {vs : List V} (hr : Reps Im w (xs.map a.eval) vs) {g : Nat} {zs : List V} (hc : callee f vs = some (g, zs)) (hok : okFn P g = true) :
    ∃ us, Reps Im w us zs ∧ (execOp a.eval x).run P w = .ok (.enter g us.toArray) w := by
  obtain ⟨_, _, args, tys, ⟨g', rfl, hop, rfl⟩ | ⟨t, rfl, hop, rfl⟩⟩ := callR_inv h
  · simp only [callee, Option.some.injEq, Prod.mk.injEq] at hc
    obtain ⟨rfl, rfl⟩ := hc
    refine ⟨_, hr, ?_⟩
    rw [callm_enter (ρ := a.eval) (fun _ => rfl) hop hok w]
    congr 2
    apply Array.toList_inj.1; simp
  · match vs, hr, hc with
    | [], _, hc => simp [callee] at hc
    | v :: vs, hr, hc =>
      have h1 := hr.head
      have h2 := hr.tail
      cases v <;> simp only [callee, reduceCtorEq] at hc
      rename_i fn xs ys
      cases fn <;> simp only [reduceCtorEq] at hc
      rename_i f
      simp only [Option.some.injEq, Prod.mk.injEq] at hc
      obtain ⟨rfl, rfl⟩ := hc
      generalize hxv : a.eval (.tmp t) = xv at h1
      cases h1 with
      | f _ fs cs _ _ hx' hy' hf hc =>
        have r1 : Reps Im w fs.toList xs := ⟨by simpa using hx', fun j u x hu hx => hf j u x (by simpa using hu) hx⟩
        have r2 : Reps Im w cs.toList ys := ⟨by simpa using hy', fun j u x hu hx => hc j u x (by simpa using hu) hx⟩
        refine ⟨fs.toList ++ args.toList.map a.eval ++ cs.toList, (r1.append h2).append r2, ?_⟩
        simp [execOp, hop, resolve, hxv, Deferred.ofValue, invoke, callFunc_run hok]

theorem eff_sound (ho : SoundO P o) {ops : Array Oper} {i : Nat} {g : EG} (hg : egOf P nt keep ops.toList = some g) : DoesE ρ P nt keep S0 F0 w00 (WE ρ P o (.eff g)) (.region i ops false) := by
  intro env s K hW a w hFE Q hQ
  unfold egOf at hg
  simp only [Option.bind_eq_some_iff] at hg
  obtain ⟨⟨pre, x, f, xs⟩, h1, ss, hss, sx, hsx, hg⟩ := hg
  split at hg
  · rename_i hd
    simp only [Option.some.injEq] at hg
    subst hg
    simp only at hss hsx
    obtain ⟨env1, hst, hbare, vs, f', zs, y, s1, hl, hcal, hok, hoy, hpf, hK⟩ := hW
    obtain ⟨S, F, base, wi, hF, hR, hFb, hb, hKp, k1, k2, k3⟩ := hFE
    obtain ⟨e1, q3, _⟩ := callR_inv h1
    have e1' : ops = (pre ++ [x]).toArray := by apply Array.toList_inj.1; simpa using e1
    subst e1'
    refine wp_region ?_
    have hrange : List.range (pre ++ [x]).toArray.size = List.range' 0 pre.length ++ [pre.length] := by
      rw [List.size_toArray, List.length_append, List.length_singleton, List.range_eq_range', List.range'_concat]; simp
    rw [hrange]
    have hFk := hF.keys_mono (keep' := keep ++ ((pre ++ [x]).flatMap fun o => o.dst.toList)) fun n hn => List.mem_append_left _ hn
    refine stepsS_pre ho (opsL := pre ++ [x]) (rest := [pre.length]) pre ss 0 env a w [x] hss hst (by simp) (fun op hop d hd' => ⟨List.mem_append_right _ (List.mem_flatMap.2 ⟨op, List.mem_append_left _ hop, by simp [hd']⟩), dstOk_at hd (List.mem_append_left _ hop) hd'⟩) hFk fun a1 w1 hF1 => ?_
    have hFz : FI P nt _ S base wi (frzAll env1) a1 w1 := hF1.freeze (env1.map fun p => .t p.1)
    obtain ⟨Im, hI1, hI2, hE⟩ := hFz.ents
    have hFIm : ∀ b, F b → ¬ Im b := fun b hb hi => by
      rcases (hI2 b hi).1 with h | h
      · exact (hFb b hb).2 h
      · have := (hFb b hb).1; omega
    have hreps : Reps Im w1 (xs.map a1.eval) vs := srcs_loose hE hsx (fun s _ => bare_owner hbare s hE.closed) hl
    have hR1 : ρ.R s F w1 := ρ.loc s F w w1 hR fun b hb => (hFz.below.block b (hFb b hb).1).trans (hF.below.block b (hFb b hb).1).symm
    obtain ⟨us, hus, hent⟩ := eff_enter h1 hreps hcal hok
    show wpOps P (pre ++ [x]).toArray Q [pre.length] a1 w1
    simp only [wpOps, List.getElem?_toArray, List.getElem?_append_right (Nat.le_refl _), Nat.sub_self, List.getElem?_cons_zero]
    have hw : Region.wanted x (yielded (pre ++ [x]).toArray a1.tmps) = true := by simp [Region.wanted, q3]
    rw [if_pos hw]
    left
    refine Outc.wp ?_
    rw [hent]
    refine (hpf Im F w1 us (fun b h => (hI2 b h).2) hFIm hE.glob hus hR1).mono fun e w2 ⟨v, he, hk2, S', F', m1, m2, hR2, m3, m4, hrep⟩ => ⟨v, he, ?_⟩
    have hnew : FI P nt _ S' w2.heap.size w2 (frzAll env1) a1 w2 := hFz.anew hbare hE m1 (fun b h => (m2 b h).2) fun b hb => hk2.block b (hI2 b hb).2 fun hf => hFIm b hf hb
    obtain ⟨Im', n1, n2, hE'⟩ := hnew.ents
    have hput := hnew.put_res (d := x.dst) (fun d' hd' => ⟨List.mem_append_right _ (List.mem_flatMap.2 ⟨x, by simp, by simp [hd']⟩), dstOk_at hd (op := x) (by simp) hd'⟩) (Below.refl _ _) n1 n2 hE' (fun _ h => h) (fun b h => ⟨.inl h, (n2 b h).2⟩) (v := v) (y := y)
      ((hrep.mono n1).res (okY_t hoy))
    have hfin := hput.dropE (looseD keep (pre ++ [x])) (keep' := keep) fun n hn hd => by
      by_cases hk : n ∈ keep
      · exact hk
      · rcases List.mem_append.1 hn with h | h
        · exact h
        · exact absurd (List.mem_filter.2 ⟨h, by simp [hk]⟩) hd
    have hsz1 : w00.heap.size ≤ w1.heap.size := Nat.le_trans hb hF1.bsz
    refine hQ .n _ s1 _ w2 hK ⟨S', F', w2.heap.size, w2, hfin, hR2, fun b hb => ⟨ρ.lt _ _ _ b hR2 hb, m4 b hb⟩, Nat.le_trans hsz1 hk2.size, ⟨?_, ?_, ?_, Nat.le_trans hsz1 hk2.size, fun b hb' hnf => ?_⟩, fun b h => m1 b (hI1 b (k1 b h)), fun b h => ?_, fun b h => ?_⟩
    · exact hk2.os.trans (hF1.below.os.trans hKp.os)
    · exact hk2.tape.trans (hF1.below.tape.trans hKp.tape)
    · exact hk2.output.trans (hF1.below.output.trans hKp.output)
    · have hFn : ¬ F b := fun hf => by
        rcases k3 b hf with h | h
        · exact hnf h
        · omega
      rw [hk2.block b (by omega) hFn, hF1.below.block b (by omega), hKp.block b hb' hnf]
    · rcases (m2 b h).1 with h | h
      · rcases (hI2 b h).1 with h | h
        · exact k2 b h
        · exact .inr (Nat.le_trans hb h)
      · exact .inr (Nat.le_trans hsz1 h)
    · rcases m3 b h with h | h
      · exact k3 b h
      · exact .inr (Nat.le_trans hsz1 h)
  · cases hg

theorem WE_sound (ho : SoundO P o) (hm : P.follows .mixedOrders = true) : ∀ (sh : ShE) (c : Code) (es : List (Nat × List Nat)) (out : List Nat) (cc : NE), compE P nt keep ret sh c es out = some cc → DoesE ρ P nt keep S0 F0 w00 (WE ρ P o cc) c
  | .c, c, es, out, cc, hc => by
    simp only [compE, Option.map_eq_some_iff] at hc
    obtain ⟨x, hx, rfl⟩ := hc
    intro env s K hW a w hFE Q hQ
    obtain ⟨ex, env1, he, hK⟩ := hW
    obtain ⟨S, F, base, wi, hF, hR, hFb, hb, hKp, k1, k2, k3⟩ := hFE
    exact exec_sound ho hm c es out x hx env ex env1 he a w hF Q fun a' w' h => hQ ex env1 s a' w' hK (FE.frame hF hR hFb hb hKp k1 k2 k3 h)
  | .seq s1 t1, .seq x y, es, out, cc, hc => by
    simp only [compE, Option.bind_eq_some_iff, Option.some.injEq] at hc
    obtain ⟨n1, h1, n2, h2, rfl⟩ := hc
    intro env s K hW a w hF Q hQ
    refine wp_seq (WE_sound ho hm s1 x _ _ n1 h1 env s _ hW a w hF _ fun ex env1 s' a1 w1 hK hF1 => ?_)
    cases ex with
    | n => exact WE_sound ho hm t1 y _ _ n2 h2 env1 s' _ hK a1 w1 hF1 Q hQ
    | e j => exact hQ (.e j) env1 s' a1 w1 hK hF1
    | r => exact hQ .r env1 s' a1 w1 hK hF1
  | .cond s1 t1, .cond c x y, es, out, cc, hc => by
    simp only [compE, Option.bind_eq_some_iff, Option.some.injEq] at hc
    obtain ⟨cx, hcx, n1, h1, n2, h2, rfl⟩ := hc
    intro env s K hW a w hF Q hQ
    obtain ⟨t', hv, hW⟩ := hW
    obtain ⟨_, _, _, _, hFI, _⟩ := id hF
    refine wp_cond (cond_val hFI hcx hv) ?_
    cases t' with
    | true => exact WE_sound ho hm s1 x _ _ n1 h1 env s K hW a w hF Q hQ
    | false => exact WE_sound ho hm t1 y _ _ n2 h2 env s K hW a w hF Q hQ
  | .blk s1, .block id x, es, out, cc, hc => by
    simp only [compE, Option.bind_eq_some_iff, Option.some.injEq] at hc
    obtain ⟨n1, h1, rfl⟩ := hc
    intro env s K hW a w hF Q hQ
    refine wp_block (WE_sound ho hm s1 x _ _ n1 h1 env s _ hW a w hF _ fun ex env1 s' a1 w1 hK hF1 => ?_)
    cases ex with
    | n => exact hQ .n env1 s' a1 w1 hK hF1
    | e j =>
      show Exit.inBlock id Q (.exit j) a1 w1
      simp only [Exit.inBlock]
      simp only at hK
      by_cases hj : j = id
      · rw [if_pos hj] at hK ⊢; exact hQ .n env1 s' a1 w1 hK hF1
      · rw [if_neg hj] at hK ⊢; exact hQ (.e j) env1 s' a1 w1 hK hF1
    | r => exact hQ .r env1 s' a1 w1 hK hF1
  | .loop s1, .loop x, es, out, cc, hc => by
    simp only [compE, Option.bind_eq_some_iff, Option.some.injEq] at hc
    obtain ⟨n1, h1, rfl⟩ := hc
    intro env s K hW a w hF Q hQ
    obtain ⟨n, hW⟩ := hW
    refine wp_loop_rounds n ?_
    induction n generalizing env s a w with
    | zero => exact hW.elim
    | succ n ih =>
      refine WE_sound ho hm s1 x _ _ n1 h1 _ s _ hW a w (hF.keepE _) _ fun ex env1 s' a1 w1 hK hF1 => ?_
      cases ex with
      | n => exact ih env1 s' a1 w1 hF1 hK
      | e j => exact hQ (.e j) env1 s' a1 w1 hK hF1
      | r => exact hQ .r env1 s' a1 w1 hK hF1
  | .eff, c, es, out, cc, hc => by
    unfold compE at hc
    split at hc <;> first | (rename_i hh; cases hh; done) | skip
    · simp only [Option.map_eq_some_iff] at hc
      obtain ⟨g, hg, rfl⟩ := hc
      exact eff_sound ho hg
    · cases hc

/-- What a function hands back that owns nothing. -/
theorem Res.rep {S : Nat → Prop} {base : Nat} {v : Value} {y : V} (h : Res P S w base v y) (hy : y.isOwn = false) (hn : y.names = none) (hu : y ≠ .ud) (ht : ∀ ys, y = .t ys → ∀ x ∈ ys, x.isOwn = false ∧ x.names = none ∧ x ≠ .ud) : Rep S w v y := by
  have one : ∀ (v : Value) (x : V), Res1 P S w base v x → x.isOwn = false → x.names = none → x ≠ .ud → Rep S w v x := by
    intro v x h h1 h2 h3
    cases x <;> first
      | exact h
      | (simp [V.isOwn] at h1; done)
      | (simp [V.names] at h2; done)
      | exact h.elim
  cases y <;> first
    | exact one _ _ h hy hn hu
    | skip
  rename_i ys
  obtain ⟨us, rfl, hl, hh, _⟩ := h
  refine .t _ _ (by simpa using hl) fun j u x hj hx => ?_
  obtain ⟨q1, q2, q3⟩ := ht ys rfl x (List.mem_of_getElem? hx)
  exact one u x (hh j u x (by simpa using hj) hx) q1 q2 q3
theorem bodyE_sound (ho : SoundO P o) {f : FuncId} {fn : Func} (hf : P.funcs[f]? = some fn) {sh : ShE} {nc : ECode} (hc : compileE P sh fn = some nc) {xs : List V} {y : V} {s s' : σ} (h1 : xs.length = nc.np) (h2 : xs.all V.arg = true)
    (hy1 : y.isOwn = false) (hy2 : y.names = none) (hy3 : y ≠ .ud) (hy4 : ∀ ys, y = .t ys → ∀ x ∈ ys, x.isOwn = false ∧ x.names = none ∧ x ≠ .ud)
    (hW : WE ρ P o nc.body (args0 0 xs) s fun e env s1 => (∀ j, e ≠ .e j) ∧ retV nc.res env = some y ∧ s1 = s') : PFE P ρ f xs s y s' := by
  unfold compileE at hc
  simp only [Option.bind_eq_some_iff] at hc
  obtain ⟨c, hbody, b, hcomp, rs, hres, hc⟩ := hc
  split at hc
  · rename_i hcond
    cases hc
    intro S F w vs hS hSF hG hr hR
    refine calls_of_wp hf hbody ?_
    have hlen : vs.length = fn.params.size + fn.nfree := hr.1.trans h1
    have hF := FI.start (P := P) (nt := fn.ntmps) (keep := keepOf fn c) hS hG hr h2 (by rw [h1]; exact hcond.1) (fun n hn => mem_union (List.mem_range.2 (by rw [h1] at hn; exact hn))) (by simp [hlen]; exact hcond.1)
    have hFE : FE ρ P fn.ntmps (keepOf fn c) S F w (args0 0 xs) s _ w := ⟨S, F, w.heap.size, w, hF, hR, fun b hb => ⟨ρ.lt _ _ _ b hR hb, hSF b hb⟩, Nat.le_refl _, ⟨rfl, rfl, rfl, Nat.le_refl _, fun _ _ _ => rfl⟩, fun _ h => h, fun b h => .inl h, fun b h => .inl h⟩
    refine WE_sound (S0 := S) (F0 := F) (w00 := w) ho hcond.2 sh c [] (resTmps fn) b hcomp _ s _ hW _ w hFE _ fun ex env' s1 a' w' hK hFE' => ?_
    obtain ⟨hx, hret, rfl⟩ := hK
    obtain ⟨S', F', base, wi, hF', hR', hFb, hb, hKp, k1, k2, k3⟩ := hFE'
    have fin : a'.defers = [] ∧ ∃ v, (results fn a'.tmps).run P w' = .ok v w' ∧ ∃ v', Ending.returned v = .returned v' ∧ Keeps w.heap.size F w w' ∧
        ∃ S'' F'' : Nat → Prop, (∀ b, S b → S'' b) ∧ (∀ b, S'' b → (S b ∨ w.heap.size ≤ b) ∧ b < w'.heap.size) ∧ ρ.R s1 F'' w' ∧ (∀ b, F'' b → F b ∨ w.heap.size ≤ b) ∧ (∀ b, F'' b → ¬ S'' b) ∧ Rep S'' w' v' y := by
      obtain ⟨Im, hI1, hI2, hE⟩ := hF'.ents
      have hret0 := hret
      unfold retV at hret
      simp only [Option.map_eq_some_iff] at hret
      obtain ⟨ys, hys, hy'⟩ := hret
      obtain ⟨us, hrun, hl, hh, hap, _⟩ := resVs_sound hE hF'.srt hres hys
      refine ⟨hF'.defers, (if h : us.toArray.size = 1 then us.toArray[0] else .tuple us.toArray), ?_, _, rfl, ⟨hF'.below.os.trans hKp.os, hF'.below.tape.trans hKp.tape, hF'.below.output.trans hKp.output, Nat.le_trans hb hF'.bsz, fun b hb' hnf => ?_⟩, Im, F', fun b h => hI1 b (k1 b h), fun b h => ⟨?_, (hI2 b h).2⟩, hR', k3, fun b hb' hi => ?_, ?_⟩
      · unfold results
        rw [Array.mapM_eq_mapM_toList]
        simp only [map_eq_pure_bind, Sem.run_bind]
        erw [hrun]
        simp only [Result.andThen_ok, Sem.run_pure]
      · rw [hF'.below.block b (by omega), hKp.block b hb' hnf]
      · rcases (hI2 b h).1 with h | h
        · exact k2 b h
        · exact .inr (Nat.le_trans hb h)
      · rcases (hI2 b hi).1 with h | h
        · exact (hFb b hb').2 h
        · have := (hFb b hb').1; omega
      · refine Res.rep (P := P) (base := base) ?_ hy1 hy2 hy3 hy4
        match ys, us, hl, hh, hy' with
        | [y1], [u1], _, hh, hy' =>
          simp only at hy'
          subst hy'
          have := hh 0 u1 y1 rfl rfl
          simp only [List.size_toArray, List.length_cons, List.length_nil, Nat.zero_add, dite_true]
          rw [Res.eq1]
          · exact this
          · intro zs e; subst e; exact this
        | [], [], _, hh, hy' =>
          simp only at hy'
          subst hy'
          exact ⟨[], rfl, rfl, by simp, fun i j u u' y y' g _ h => by simp at h⟩
        | y1 :: y2 :: yr, u1 :: u2 :: ur, hl, hh, hy' =>
          simp only at hy'
          subst hy'
          have h1 : ¬ (u1 :: u2 :: ur).toArray.size = 1 := by simp
          rw [dif_neg h1]
          exact ⟨_, rfl, hl, hh, hap⟩
    cases ex with
    | n => exact fin
    | r => exact fin
    | e id => exact absurd rfl (hx id)
  · cases hc
theorem roundE'_mono {F : Env → σ → (Ex → Env → σ → Prop) → Prop} (hF : ∀ env s (K K' : Ex → Env → σ → Prop), (∀ e env1 s1, K e env1 s1 → K' e env1 s1) → F env s K → F env s K') {kin : List Nat} {K K' : Ex → Env → σ → Prop} (h : ∀ e env1 s1, K e env1 s1 → K' e env1 s1) : ∀ (n : Nat) (env : Env) (s : σ), roundE' F kin K n env s → roundE' F kin K' n env s
  | 0, _, _, hn => hn
  | n + 1, env, s, hn => hF _ _ _ _ (fun e env1 s1 he => by
      cases e with
      | n => exact roundE'_mono hF h n env1 s1 he
      | e j => exact h _ _ _ he
      | r => exact h _ _ _ he) hn
theorem WE_mono : ∀ (c : NE) (env : Env) (s : σ) (K K' : Ex → Env → σ → Prop), (∀ e env1 s1, K e env1 s1 → K' e env1 s1) → WE ρ P o c env s K → WE ρ P o c env s K'
  | .c x, env, s, K, K', h, hW => by
    obtain ⟨e, env1, h1, h2⟩ := hW
    exact ⟨e, env1, h1, h _ _ _ h2⟩
  | .seq a b, env, s, K, K', h, hW => WE_mono a env s _ _ (fun e env1 s1 he => by
      cases e with
      | n => exact WE_mono b env1 s1 _ _ h he
      | e j => exact h _ _ _ he
      | r => exact h _ _ _ he) hW
  | .cond x a b, env, s, K, K', h, hW => by
    obtain ⟨t, h1, h2⟩ := hW
    refine ⟨t, h1, ?_⟩
    cases t with
    | true => exact WE_mono a env s _ _ h h2
    | false => exact WE_mono b env s _ _ h h2
  | .blk id a, env, s, K, K', h, hW => WE_mono a env s _ _ (fun e env1 s1 he => by
      cases e with
      | n => exact h _ _ _ he
      | r => exact h _ _ _ he
      | e j =>
        simp only at he ⊢
        by_cases h1 : j = id
        · rw [if_pos h1] at he ⊢; exact h _ _ _ he
        · rw [if_neg h1] at he ⊢; exact h _ _ _ he) hW
  | .loop kin a, env, s, K, K', h, hW => by
    obtain ⟨n, hn⟩ := hW
    exact ⟨n, roundE'_mono (fun env s K K' => WE_mono a env s K K') h n env s hn⟩
  | .eff g, env, s, K, K', h, hW => by
    obtain ⟨env1, h1, h2, vs, f, zs, y, s1, h3, h4, h5, h6, h7, h8⟩ := hW
    exact ⟨env1, h1, h2, vs, f, zs, y, s1, h3, h4, h5, h6, h7, h _ _ _ h8⟩
/-- A loop, by what holds ahead of each round. -/
theorem WE.loop {kin : List Nat} {a : NE} {K : Ex → Env → σ → Prop} (I : Nat → Env → σ → Prop)
    (h : ∀ n env s, I n env s → WE ρ P o a (VM.keepE kin env) s fun e env1 s1 => match e with
      | .n => ∃ k, k < n ∧ I k env1 s1
      | .e j => K (.e j) env1 s1
      | .r => K .r env1 s1) {n : Nat} {env : Env} {s : σ} (hI : I n env s) : WE ρ P o (.loop kin a) env s K := by
  have hF := fun env s K K' => WE_mono (ρ := ρ) (P := P) (o := o) a env s K K'
  have mono : ∀ (m : Nat) (env : Env) (s : σ), roundE' (WE ρ P o a) kin K m env s → roundE' (WE ρ P o a) kin K (m + 1) env s := by
    intro m
    induction m with
    | zero => intro env s h; exact h.elim
    | succ m ih =>
      intro env s h
      refine hF _ _ _ _ (fun e env1 s1 he => ?_) h
      cases e with
      | n => exact ih env1 s1 he
      | e j => exact he
      | r => exact he
  have mono' : ∀ (m k : Nat) (env : Env) (s : σ), m ≤ k → roundE' (WE ρ P o a) kin K m env s → roundE' (WE ρ P o a) kin K k env s := by
    intro m k env s hk
    induction hk with
    | refl => exact id
    | step _ ih => exact fun h => mono _ _ _ (ih h)
  refine ⟨n + 1, ?_⟩
  induction n using Nat.strongRecOn generalizing env s with
  | _ n ih =>
    refine hF _ _ _ _ (fun e env1 s1 he => ?_) (h n env s hI)
    cases e with
    | n =>
      obtain ⟨k, hk, hI'⟩ := he
      exact mono' (k + 1) n env1 s1 (by omega) (ih k hk hI')
    | e j => exact he
    | r => exact he
end
end Go.VM
/-
  A region that draws its order, beside whatever is told of the world operation by operation. No program is named here.
-/
namespace Go.VM
open Go.RowKit
variable [Glob]

section
variable {o : Orc} {env env' : Env}

/-- The frame owns nothing. -/
def NoO (env : Env) : Prop := ∀ n x, get n env = some x → x.isOwn = false
def noOB (env : Env) : Bool := env.all fun p => !p.2.isOwn
theorem noO_of {env : Env} (h : noOB env = true) : NoO env := by
  intro n x hx
  have := List.all_eq_true.1 h _ (get_mem hx)
  simpa using this
/-- A run in which nothing of the frame's own is made. -/
def runNo (o : Orc) : List GSt → Env → Option (Env × List (List Nat × List Nat))
  | [], env => some (env, [])
  | s :: r, env => (stepG o env s).bind fun e => (footG o env s).bind fun f => if (recB env e f && noOB e) = true then (runNo o r e).bind fun p => some (p.1, f :: p.2) else none
def drawN (o : Orc) (ss : List GSt) (af : List (List Nat)) (env : Env) : Option Env := if noOB env = true then (runNo o ss env).bind fun p => if indep 0 af p.2 then some p.1 else none else none
def NW (f : List Nat × List Nat) (e : Env) : Prop := ∀ n ∈ f.2, ∀ x, get n e = some x → x.isOwn = false
def RunsN (o : Orc) : List Item → Env → Env → Prop
  | [], env, e => env = e
  | x :: r, env, e => ∃ e1, (Rec o x.2.1 env e1 x.2.2 ∧ NW x.2.2 e1) ∧ RunsN o r e1 e
theorem bubbleN {x : Item} {e : Env} : ∀ {l r : List Item} {env : Env}, Srt env → RunsN o (l ++ x :: r) env e → (∀ y ∈ l, Apart y.2.2 x.2.2) → ∃ e1, (Rec o x.2.1 env e1 x.2.2 ∧ NW x.2.2 e1) ∧ RunsN o (l ++ r) e1 e
  | [], r, env, _, h, _ => h
  | y :: l, r, env, hs, h, ha => by
    obtain ⟨e1, ⟨h1, n1⟩, h2⟩ := h
    obtain ⟨e2, ⟨h3, n3⟩, h4⟩ := bubbleN h1.srt h2 fun z hz => ha z (List.mem_cons_of_mem _ hz)
    have hap := ha y (List.mem_cons_self ..)
    obtain ⟨e3, h5, h6⟩ := swap hs h1 h3 hap
    refine ⟨e3, ⟨h5, fun n hn z hz => n3 n hn z ?_⟩, e2, ⟨h6, fun n hn z hz => n1 n hn z ?_⟩, h4⟩
    · rw [h6.same n fun hc => (hap.1 n hc).2 hn]; exact hz
    · rw [← h3.same n fun hc => (hap.1 n hn).2 hc]; exact hz
theorem runsNo_of : ∀ {ss : List GSt} {env e : Env} {fs : List (List Nat × List Nat)} (i : Nat), Srt env → runNo o ss env = some (e, fs) → RunsN o (items i ss fs) env e ∧ fs.length = ss.length
  | [], env, e, fs, i, _, h => by
    simp only [runNo, Option.some.injEq, Prod.mk.injEq] at h
    obtain ⟨rfl, rfl⟩ := h
    exact ⟨rfl, rfl⟩
  | s :: ss, env, e, fs, i, hs, h => by
    simp only [runNo, Option.bind_eq_some_iff] at h
    obtain ⟨e1, h1, f, h2, h3⟩ := h
    split at h3
    · rename_i hr
      simp only [Bool.and_eq_true] at hr
      simp only [Option.bind_eq_some_iff, Option.some.injEq, Prod.mk.injEq] at h3
      obtain ⟨⟨e', fs'⟩, h4, rfl, rfl⟩ := h3
      have hrec := rec_of hs h1 h2 hr.1
      obtain ⟨h5, h6⟩ := runsNo_of (i + 1) hrec.srt h4
      exact ⟨⟨e1, ⟨hrec, fun n _ z hz => noO_of hr.2 n z hz⟩, h5⟩, by simp [h6]⟩
    · cases h3

variable {P : Program}
theorem walkN {opsL : List Oper} {ss : List GSt} {Q : Exit → Act → World → Prop} (Inv : Array Bool → Env → Act → World → Prop) (hsrt : ∀ l env a w, Inv l env a w → Srt env) (hlen : ss.length = opsL.length)
    (hwt : ∀ (i : Nat) op s, opsL[i]? = some op → ss[i]? = some s → ∀ l : Array Bool, l.size = opsL.length → ¬ Ex1 l i → (∀ j ∈ aft op, Ex1 l j) → (∀ (k : Nat) op', opsL[k]? = some op' → Ex1 l k → ∀ j ∈ aft op', Ex1 l j) → ∀ env e f a w, Inv l env a w → NoO env → Rec o s env e f → NW f e →
      (Region.wanted op (yielded opsL.toArray a.tmps) = true ∧ Outc P ((execOp a.eval op).run P w) fun u w1 => Inv (l.setIfInBounds i true) e (a.put op.dst u) w1) ∨ (Region.wanted op (yielded opsL.toArray a.tmps) = false ∧ Inv (l.setIfInBounds i true) e (a.put op.dst undef) w))
    (hacy : ∀ (i : Nat) op, opsL.toArray[i]? = some op → ∀ j ∈ aft op, j < i) :
    ∀ (fuel : Nat) (listed : Array Bool) (rem : List Item) (env : Env) (a : Act) (w : World), listed.size = opsL.length → left1 listed ≤ fuel → (∀ x ∈ rem, ¬ Ex1 listed x.1 ∧ ss[x.1]? = some x.2.1) → (∀ i, i < opsL.length → Ex1 listed i ∨ ∃ x ∈ rem, x.1 = i) →
      rem.Pairwise (Sep (opsL.map aft)) → RunsN o rem env env' → (∀ (k : Nat) op', opsL[k]? = some op' → Ex1 listed k → ∀ j ∈ aft op', Ex1 listed j) → NoO env → Inv listed env a w →
      (∀ l a' w', (∀ i, i < opsL.length → Ex1 l i) → Inv l env' a' w' → Q .normal a' w') → wpAny P .any opsL.toArray Q fuel listed a w := by
  have fin : ∀ (listed : Array Bool) (rem : List Item) (env : Env) (a : Act) (w : World), (∀ i, i < opsL.length → Ex1 listed i) → (∀ x ∈ rem, ¬ Ex1 listed x.1 ∧ ss[x.1]? = some x.2.1) → RunsN o rem env env' → Inv listed env a w →
      (∀ l a' w', (∀ i, i < opsL.length → Ex1 l i) → Inv l env' a' w' → Q .normal a' w') → Q .normal a w := by
    intro listed rem env a w hall hrem hrun hF hQ
    cases rem with
    | nil =>
      simp only [RunsN] at hrun
      subst hrun
      exact hQ listed a w hall hF
    | cons x r =>
      obtain ⟨h1, h2⟩ := hrem x (List.mem_cons_self ..)
      have := (List.getElem?_eq_some_iff.1 h2).1
      exact absurd (hall x.1 (by omega)) h1
  intro fuel
  induction fuel with
  | zero =>
    intro listed rem env a w hs hleft hrem hcov hpw hrun hcl hno hF hQ
    have hall : ∀ i, i < opsL.length → Ex1 listed i := fun i hi => all_of_left (by omega) i (by omega)
    refine ⟨?_, fin listed rem env a w hall hrem hrun hF hQ⟩
    cases hr : Region.ready .any opsL.toArray listed with
    | nil => rfl
    | cons i r =>
      obtain ⟨op, hop, hne, _⟩ := mem_ready (by simpa using hs) (show i ∈ Region.ready .any opsL.toArray listed by rw [hr]; exact List.mem_cons_self ..)
      exact absurd (hall i (by have := (Array.getElem?_eq_some_iff.1 hop).1; simpa using this)) hne
  | succ fuel ih =>
    intro listed rem env a w hs hleft hrem hcov hpw hrun hcl hno hF hQ
    refine ⟨fun hr => fin listed rem env a w (fun i hi => not_ready (by simpa using hs) hacy hr i (by simpa using hi)) hrem hrun hF hQ, fun i hi => ?_⟩
    obtain ⟨op, hop, hne, haft⟩ := mem_ready (by simpa using hs) hi
    have hop' : opsL[i]? = some op := by simpa using hop
    have hil : i < opsL.length := (List.getElem?_eq_some_iff.1 hop').1
    have his : i < listed.size := by omega
    obtain ⟨x, hx, hxi⟩ := (hcov i hil).resolve_left hne
    obtain ⟨l, r, rfl⟩ := List.append_of_mem hx
    obtain ⟨hpl, hpxr, hpc⟩ := List.pairwise_append.1 hpw
    have hap : ∀ y ∈ l, Apart y.2.2 x.2.2 := by
      intro y hy
      have hsep := hpc y hy x (List.mem_cons_self ..)
      have haf : (opsL.map aft)[x.1]? = some (aft op) := by rw [hxi, List.getElem?_map, hop']; rfl
      rcases hsep.2 _ haf with h | h
      · exact absurd (haft _ h) (hrem y (List.mem_append_left _ hy)).1
      · exact h
    obtain ⟨e1, ⟨hrec, hnw⟩, hrun'⟩ := bubbleN (hsrt _ _ _ _ hF) hrun hap
    have hsi : ss[i]? = some x.2.1 := by
      have h2 := (hrem x hx).2
      rwa [hxi] at h2
    have hout0 := hwt i op x.2.1 hop' hsi listed hs hne haft hcl env e1 _ a w hF hno hrec hnw
    have hno1 : NoO e1 := fun n z hz => by
      by_cases hn : n ∈ x.2.2.2
      · exact hnw n hn z hz
      · rw [hrec.same n hn] at hz; exact hno n z hz
    have hxl : ∀ y, y ∈ l ++ r → y.1 ≠ i := by
      intro y hy
      rcases List.mem_append.1 hy with hy | hy
      · have := (hpc y hy x (List.mem_cons_self ..)).1; omega
      · have := ((List.pairwise_cons.1 hpxr).1 y hy).1; omega
    have next : ∀ u w1, Inv (listed.setIfInBounds i true) e1 (a.put op.dst u) w1 → wpAny P .any opsL.toArray Q fuel (listed.setIfInBounds i true) (a.put op.dst u) w1 := by
      intro u w1 h
      refine ih _ (l ++ r) e1 _ w1 (by simpa using hs) ?_ (fun y hy => ?_) (fun j hj => ?_) ?_ hrun' (fun k op' hk hek j hj => ?_) hno1 h hQ
      · have := left1_set his hne; omega
      · have hy' : y ∈ l ++ x :: r := by
          rcases List.mem_append.1 hy with h | h
          · exact List.mem_append_left _ h
          · exact List.mem_append_right _ (List.mem_cons_of_mem _ h)
        obtain ⟨h1, h2⟩ := hrem y hy'
        refine ⟨fun h => ?_, h2⟩
        rcases (ex1_set his _).1 h with h | h
        · exact hxl y hy h
        · exact h1 h
      · rcases hcov j hj with h | ⟨y, hy, hyj⟩
        · exact .inl ((ex1_set his j).2 (.inr h))
        · by_cases hji : j = i
          · exact .inl ((ex1_set his j).2 (.inl hji))
          · right
            refine ⟨y, ?_, hyj⟩
            rcases List.mem_append.1 hy with h | h
            · exact List.mem_append_left _ h
            · rcases List.mem_cons.1 h with rfl | h
              · exact absurd (hyj.symm.trans hxi) hji
              · exact List.mem_append_right _ h
      · refine List.pairwise_append.2 ⟨hpl, (List.pairwise_cons.1 hpxr).2, fun y hy z hz => hpc y hy z (List.mem_cons_of_mem _ hz)⟩
      · refine (ex1_set his j).2 (.inr ?_)
        rcases (ex1_set his k).1 hek with rfl | h
        · rw [hop'] at hk; cases hk; exact haft j hj
        · exact hcl k op' hk h j hj
    unfold wpOp
    rw [hop]
    simp only
    rcases hout0 with ⟨hw, hout⟩ | ⟨hw, hF1⟩
    · rw [if_pos hw]
      left
      refine Outc.wp ?_
      revert hout
      generalize (execOp a.eval op).run P w = res
      intro hout
      unfold Outc at hout ⊢
      split at hout
      · exact next _ _ hout
      · exact next _ _ hout
      · exact hout.mono fun e w1 ⟨u, he, h⟩ => ⟨u, he, next _ _ h⟩
      · exact hout.elim
    · rw [if_neg (by simp [hw])]
      exact next _ _ hF1

/-- A region that draws its order. -/
theorem regN (hm : P.follows .mixedOrders = true) {id : Nat} {ops : Array Oper} {ss : List GSt} (Inv : Array Bool → Env → Act → World → Prop) (hsrt : ∀ l env a w, Inv l env a w → Srt env) (hlen : ss.length = ops.toList.length) (hst : drawN o ss (ops.toList.map aft) env = some env')
    (hwt : ∀ (i : Nat) op s, ops.toList[i]? = some op → ss[i]? = some s → ∀ l : Array Bool, l.size = ops.toList.length → ¬ Ex1 l i → (∀ j ∈ aft op, Ex1 l j) → (∀ (k : Nat) op', ops.toList[k]? = some op' → Ex1 l k → ∀ j ∈ aft op', Ex1 l j) → ∀ env e f a w, Inv l env a w → NoO env → Rec o s env e f → NW f e →
      (Region.wanted op (yielded ops.toList.toArray a.tmps) = true ∧ Outc P ((execOp a.eval op).run P w) fun u w1 => Inv (l.setIfInBounds i true) e (a.put op.dst u) w1) ∨ (Region.wanted op (yielded ops.toList.toArray a.tmps) = false ∧ Inv (l.setIfInBounds i true) e (a.put op.dst undef) w))
    (hacy : ((List.range ops.size).all fun i => match ops[i]? with | some o => (aft o).all fun j => decide (j < i) | none => false) = true) {a : Act} {w : World}
    (hF : Inv (Array.replicate ops.size false) env a { w with drawn := w.drawn + 1 }) {Q : Exit → Act → World → Prop} (hQ : ∀ l a' w', (∀ i, i < ops.size → Ex1 l i) → Inv l env' a' w' → Q .normal a' w') :
    (Code.region id ops true).wp P Q a w := by
  refine wp_region_any hm ?_
  unfold drawN at hst
  split at hst
  · rename_i hno
    simp only [Option.bind_eq_some_iff] at hst
    obtain ⟨⟨e, fs⟩, h1, h2⟩ := hst
    split at h2
    · rename_i hind
      simp only [Option.some.injEq] at h2
      subst h2
      obtain ⟨hruns, hfl⟩ := runsNo_of 0 (hsrt _ _ _ _ hF) h1
      have hn1 : ∀ k, ¬ Ex1 (Array.replicate ops.size false) k := fun k hk => by
        unfold Ex1 at hk
        simp only [Array.getD_eq_getD_getElem?, Array.getElem?_replicate] at hk
        split at hk <;> simp at hk
      have hleft : left1 (Array.replicate ops.size false) ≤ ops.size := by
        unfold left1
        exact Nat.le_trans (List.countP_le_length ..) (by simp)
      have := walkN (Q := Q) (opsL := ops.toList) Inv hsrt hlen hwt (fun i op hop j hj => by
          have hop' : ops[i]? = some op := by simpa using hop
          have := List.all_eq_true.1 hacy i (List.mem_range.2 (Array.getElem?_eq_some_iff.1 hop').1)
          rw [hop'] at this
          simpa using List.all_eq_true.1 this j hj) ops.size (Array.replicate ops.size false) (items 0 ss fs) env a { w with drawn := w.drawn + 1 } (by simp) hleft
        (fun x hx => ⟨hn1 _, by simpa using (mem_items hx).2⟩) (fun i hi => .inr (items_all hfl i (Nat.zero_le _) (by omega)))
        (indep_spec (AF := ops.toList.map aft) (by simp) hind) hruns (fun k _ _ hk => absurd hk (hn1 k)) (noO_of hno) hF (fun l a' w' hl h => hQ l a' w' (fun i hi => hl i (by simpa using hi)) h)
      simpa using this
    · cases h2
  · cases hst
end
end Go.VM
/-
  Operations and calls that turn memory beside the frame, while the frame keeps what it owns: what they are said to do, one operation. No program is named here.
-/
namespace Go.VM
open Go.RowKit
variable [Glob]

/-- Memory in the blocks F, told by a state; it may lead to what reads from S on. What the operations on it answer, and how they turn it. -/
structure Rs (σ : Type) where
  R : σ → (Nat → Prop) → (Nat → Prop) → World → Prop
  eff : σ → Nat → List V → Option (V × σ)
  loc : ∀ s S S' F w w', R s S F w → (∀ b, S b → S' b) → (∀ b, S b ∨ F b → w'.heap[b]? = w.heap[b]?) → R s S' F w'
  lt : ∀ s S F w b, R s S F w → F b → b < w.heap.size
/-- A look into a map, a store into a map, as if they were functions. -/
abbrev LOOK : Nat := 1000000
abbrev UPD : Nat := 1000001
/-- A pointer is asked whether it is nil. -/
abbrev NILC : Nat := 1000002
/-- A call of f at data xs returns y and turns the state s into s', in the blocks F alone. -/
def PFG {σ : Type} (P : Program) (ρ : Rs σ) (f : FuncId) (xs : List V) (s : σ) (y : V) (s' : σ) : Prop :=
  ∀ (S F : Nat → Prop) (w : World) (vs : List Value), (∀ b, S b → b < w.heap.size) → (∀ b, F b → ¬ S b) → GOK S w → Reps S w vs xs → ρ.R s S F w →
    Calls P f vs.toArray w fun e w' => ∃ v, e = .returned v ∧ Keeps w.heap.size F w w' ∧
      ∃ S' : Nat → Prop, (∀ b, S b → S' b) ∧ (∀ b, S' b → (S b ∨ w.heap.size ≤ b) ∧ b < w'.heap.size) ∧ ρ.R s' S' F w' ∧ Rep S' w' v y
/-- The same of a call that may lay such memory; what it answers is one of many. -/
def PFN {σ : Type} (P : Program) (ρ : Rs σ) (f : FuncId) (xs : List V) (s : σ) (T : V → σ → Prop) : Prop :=
  ∀ (S F : Nat → Prop) (w : World) (vs : List Value), (∀ b, S b → b < w.heap.size) → (∀ b, F b → ¬ S b) → GOK S w → Reps S w vs xs → ρ.R s S F w →
    Calls P f vs.toArray w fun e w' => ∃ v y s', e = .returned v ∧ T y s' ∧ Keeps w.heap.size F w w' ∧
      ∃ S' F' : Nat → Prop, (∀ b, S b → S' b) ∧ (∀ b, S' b → (S b ∨ w.heap.size ≤ b) ∧ b < w'.heap.size) ∧ ρ.R s' S' F' w' ∧ (∀ b, F' b → F b ∨ w.heap.size ≤ b) ∧ (∀ b, F' b → ¬ S' b) ∧ Rep S' w' v y
/-- What an operation on such memory is said to do. -/
def EffOK {σ : Type} (P : Program) (ρ : Rs σ) (s : σ) (f : Nat) (zs : List V) (y : V) (s' : σ) : Prop :=
  if f = LOOK then s' = s ∧ y.smp = true ∧ y.isOwn = false ∧ ∃ (t : Nat) (m k : V), zs = [.i .i64 (t : Int), m, k] ∧ ∀ (S F : Nat → Prop) (w : World) (um uk : Value), ρ.R s S F w → Rep S w um m → Rep S w uk k → ∃ u, (Instr.lookup t um uk false).run P w = .ok u w ∧ Rep S w u y
  else if f = UPD then ∃ (t : Nat) (m k x : V), zs = [.i .i64 (t : Int), m, k, x] ∧ y = .t [] ∧ ∀ (S F : Nat → Prop) (w : World) (um uk ux : Value), (∀ b, F b → ¬ S b) → ρ.R s S F w → Rep S w um m → Rep S w uk k → Rep S w ux x →
    ∃ w', (Instr.mapUpdate t um uk ux).run P w = .ok () w' ∧ Keeps w.heap.size F w w' ∧ w'.heap.size = w.heap.size ∧ ρ.R s' S F w'
  else if f = NILC then s' = s ∧ ∃ cs, zs = [.r cs] ∧ y = .r cs
  else okFn P f = true ∧ okY y = true ∧ PFG P ρ f zs s y s'
def SoundR {σ : Type} (P : Program) (ρ : Rs σ) : Prop := ∀ s f zs y s', ρ.eff s f zs = some (y, s') → EffOK P ρ s f zs y s'

inductive RSt where
  | g (st : GSt)
  | ef (d : Option Nat) (f : Nat) (xs : List Src)
  | gef (c : Nat) (t : Bool) (d : Option Nat) (f : Nat) (xs : List Src)
/-- An operation on such memory: a look, a nil check, a store, a call of one of the functions fs. -/
def toRe (fs : List Nat) (o : Oper) : Option (Option Nat × Nat × List Src) :=
  match o.op, o.dst with
  | .lookup t x k false, some d => (src x).bind fun x => (src k).bind fun k => some (some d, LOOK, [.c (.i .i64 (t : Int)), x, k])
  | .nilCheck x, some d => (src x).bind fun x => some (some d, NILC, [x])
  | .mapUpdate t x k v, none => (src x).bind fun x => (src k).bind fun k => (src v).bind fun v => some (none, UPD, [.c (.i .i64 (t : Int)), x, k, v])
  | .call { callee := .value (.func f), args, .. }, d => if (fs.contains f && decide (f < 1000000)) = true then (srcs args.toList).map fun xs => (d, f, xs) else none
  | _, _ => none
def toR (P : Program) (fs : List Nat) (ops : List Oper) (o : Oper) : Option RSt := match o.guard with
  | some g => match toRe fs { o with guard := none } with
    | some e => (guardT ops g).map fun p => .gef p.1 p.2 e.1 e.2.1 e.2.2
    | none => (toG P ops o).map .g
  | none => match toRe fs o with
    | some e => some (.ef e.1 e.2.1 e.2.2)
    | none => (toG P ops o).map .g
def toRs (P : Program) (fs : List Nat) (ops : List Oper) : List Oper → Option (List RSt)
  | [] => some []
  | o :: r => (toR P fs ops o).bind fun s => (toRs P fs ops r).bind fun ss => some (s :: ss)
section
variable {σ : Type} (ρ : Rs σ) (o : Orc)
def stepR (env : Env) (s : σ) : RSt → Option (Env × σ)
  | .g st => (stepG o env st).map fun e => (e, s)
  | .ef d f xs => if noOwn env xs = true then (lookSs env xs).bind fun zs => (ρ.eff s f zs).map fun p => (putO d p.1 env, p.2) else none
  | .gef c t d f xs => (look env c).bind fun v => match v with
    | .b u => if u = t then (if noOwn env xs = true then (lookSs env xs).bind fun zs => (ρ.eff s f zs).map fun p => (putO d p.1 env, p.2) else none) else some (putO d .ud env, s)
    | _ => none
def stepsR : List RSt → Env → σ → Option (Env × σ)
  | [], env, s => some (env, s)
  | x :: r, env, s => (stepR ρ o env s x).bind fun p => stepsR r p.1 p.2
end

section
variable {σ : Type} {ρ : Rs σ} {P : Program} {nt : Nat} {keep : List Nat} {S : Nat → Prop} {base : Nat} {wi : World} {env env' : Env} {a : Act} {w : World} {o : Orc} {s s' : σ} {S0 F0 : Nat → Prop} {w00 : World} {gr : Bool} {fs : List Nat}

/-- A frame beside such memory; how far the world has gone since the call began. -/
def FG (ρ : Rs σ) (P : Program) (nt : Nat) (keep : List Nat) (S0 F0 : Nat → Prop) (w00 : World) (gr : Bool) (env : Env) (s : σ) (a : Act) (w : World) : Prop :=
  ∃ (S F : Nat → Prop) (base : Nat) (wi : World), FI P nt keep S base wi env a w ∧ ρ.R s S F w ∧ (∀ b, F b → b < base ∧ ¬ S b) ∧ w00.heap.size ≤ base ∧ Keeps w00.heap.size F0 w00 wi ∧ (∀ b, S0 b → S b) ∧ (∀ b, S b → S0 b ∨ w00.heap.size ≤ b) ∧ (∀ b, F b → F0 b ∨ w00.heap.size ≤ b) ∧ (gr = false → F = F0)
theorem FG.srt (h : FG ρ P nt keep S0 F0 w00 gr env s a w) : Srt env := by
  obtain ⟨_, _, _, _, hF, _⟩ := h
  exact hF.srt
theorem FG.frame {F : Nat → Prop} {w1 : World} {a1 : Act} {env1 : Env} {keep' : List Nat} (hF : FI P nt keep S base wi env a w) (hR : ρ.R s S F w) (hFb : ∀ b, F b → b < base ∧ ¬ S b) (hb : w00.heap.size ≤ base) (hK : Keeps w00.heap.size F0 w00 wi) (h1 : ∀ b, S0 b → S b) (h2 : ∀ b, S b → S0 b ∨ w00.heap.size ≤ b) (h3 : ∀ b, F b → F0 b ∨ w00.heap.size ≤ b) (h4 : gr = false → F = F0)
    (hF1 : FI P nt keep' S base wi env1 a1 w1) : FG ρ P nt keep' S0 F0 w00 gr env1 s a1 w1 :=
  ⟨S, F, base, wi, hF1, ρ.loc s S S F w w1 hR (fun _ h => h) (fun b hb => by
    rcases hb with hb | hb
    · exact (hF1.kept b hb).trans (hF.kept b hb).symm
    · exact (hF1.below.block b (hFb b hb).1).trans (hF.below.block b (hFb b hb).1).symm), hFb, hb, hK, h1, h2, h3, h4⟩
theorem FG.map {env1 : Env} {a1 : Act} {keep' : List Nat} (h : FG ρ P nt keep S0 F0 w00 gr env s a w) (hm : ∀ S base wi, FI P nt keep S base wi env a w → FI P nt keep' S base wi env1 a1 w) : FG ρ P nt keep' S0 F0 w00 gr env1 s a1 w := by
  obtain ⟨S, F, base, wi, h1, h2⟩ := h
  exact ⟨S, F, base, wi, hm _ _ _ h1, h2⟩
theorem FG.keepE (h : FG ρ P nt keep S0 F0 w00 gr env s a w) (ks : List Nat) : FG ρ P nt keep S0 F0 w00 gr (keepE ks env) s a w := h.map fun _ _ _ h => h.keepE ks

/-- Behind a call that turns the blocks F: the frame, what it owns with it, begins anew. -/
theorem FI.past (hF : FI P nt keep S base wi env a w) {Im : Nat → Prop} (hI1 : ∀ b, S b → Im b) (hI2 : ∀ b, Im b → (S b ∨ base ≤ b) ∧ b < w.heap.size) (hE : Ents P Im w base env (tm a)) {F : Nat → Prop} (hFb : ∀ b, F b → b < base ∧ ¬ S b) {w' : World} (hk : Keeps w.heap.size F w w')
    {S' : Nat → Prop} (m1 : ∀ b, Im b → S' b) (m2 : ∀ b, S' b → (Im b ∨ w.heap.size ≤ b) ∧ b < w'.heap.size) : FI P nt keep S' base w' env a w' := by
  have hFIm : ∀ b, F b → ¬ Im b := fun b hb hi => by
    rcases (hI2 b hi).1 with h | h
    · exact (hFb b hb).2 h
    · have := (hFb b hb).1; omega
  have hI : ∀ p : Addr, Im p.block → w'.cell? p = w.cell? p := fun p hp => World.cell?_of_block (hk.block _ (hI2 _ hp).2 fun hf => hFIm _ hf hp)
  have hO : ∀ m c g, Owns env (tm a) m c g → w'.heap[g]? = w.heap[g]? := fun m c g ho => by
    have h1 := Owns.lt hE ho
    exact hk.block g h1.1 fun hf => by have := (hFb g hf).1; omega
  have hE2 := (hE.turn hI hO).move (w' := w') (Im' := S') m1 (fun n c g ho hg => by
    have h1 := Owns.lt hE ho
    rcases (m2 g hg).1 with h | h
    · exact h1.2.2 h
    · omega) (fun _ _ => rfl) (fun b hb => Nat.lt_of_lt_of_le (hI2 b hb).2 hk.size)
  exact ⟨hF.srt, hF.size, hF.defers, Below.refl _ _, fun _ _ => rfl, Nat.le_trans hF.bsz hk.size, hF.keys, S', fun _ h => h, fun b h => ⟨.inl h, (m2 b h).2⟩, hE2⟩
theorem FG.past {F Im S' : Nat → Prop} {w1 : World} {a1 : Act} {env1 : Env} (hF : FI P nt keep S base wi env a w) (hI2 : ∀ b, Im b → (S b ∨ base ≤ b) ∧ b < w.heap.size) (hI1 : ∀ b, S b → Im b) (hFb : ∀ b, F b → b < base ∧ ¬ S b) (hb : w00.heap.size ≤ base) (hK : Keeps w00.heap.size F0 w00 wi) (h1 : ∀ b, S0 b → S b) (h2 : ∀ b, S b → S0 b ∨ w00.heap.size ≤ b) (h3 : ∀ b, F b → F0 b ∨ w00.heap.size ≤ b) (h4 : gr = false → F = F0)
    (hk : Keeps w.heap.size F w w1) (m1 : ∀ b, Im b → S' b) (m2 : ∀ b, S' b → (Im b ∨ w.heap.size ≤ b) ∧ b < w1.heap.size) (hR : ρ.R s' S' F w1) (hF1 : FI P nt keep S' base w1 env1 a1 w1) : FG ρ P nt keep S0 F0 w00 gr env1 s' a1 w1 := by
  have hsz := hF.bsz
  refine ⟨S', F, base, w1, hF1, hR, fun b hb' => ⟨(hFb b hb').1, fun hs => ?_⟩, hb, ⟨?_, ?_, ?_, ?_, fun b hb' hnf => ?_⟩, fun b h => m1 b (hI1 b (h1 b h)), fun b h => ?_, h3, h4⟩
  · have := (hFb b hb').1
    rcases (m2 b hs).1 with h | h
    · rcases (hI2 b h).1 with h | h
      · exact (hFb b hb').2 h
      · omega
    · omega
  · exact hk.os.trans (hF.below.os.trans hK.os)
  · exact hk.tape.trans (hF.below.tape.trans hK.tape)
  · exact hk.output.trans (hF.below.output.trans hK.output)
  · exact Nat.le_trans hb (Nat.le_trans hsz hk.size)
  · have hFn : ¬ F b := fun hf => by
      rcases h3 b hf with h | h
      · exact hnf h
      · omega
    rw [hk.block b (by omega) hFn, hF.below.block b (by omega), hK.block b hb' hnf]
  · rcases (m2 b h).1 with h | h
    · rcases (hI2 b h).1 with h | h
      · exact h2 b h
      · exact .inr (Nat.le_trans hb h)
    · exact .inr (Nat.le_trans hb (Nat.le_trans hsz h))

theorem toRe_inv {op : Oper} {d : Option Nat} {f : Nat} {xs : List Src} (hs : toRe fs op = some (d, f, xs)) : op.dst = d ∧
    ((∃ t x k d' sx sk, op.op = .lookup t x k false ∧ d = some d' ∧ f = LOOK ∧ src x = some sx ∧ src k = some sk ∧ xs = [.c (.i .i64 (t : Int)), sx, sk]) ∨
     (∃ x d' sx, op.op = .nilCheck x ∧ d = some d' ∧ f = NILC ∧ src x = some sx ∧ xs = [sx]) ∨
     (∃ t x k v sx sk sv, op.op = .mapUpdate t x k v ∧ d = none ∧ f = UPD ∧ src x = some sx ∧ src k = some sk ∧ src v = some sv ∧ xs = [.c (.i .i64 (t : Int)), sx, sk, sv]) ∨
     (∃ (args : Array Operand) (tys : Array TypeId), op.op = .call { callee := .value (.func f), args := args, argTypes := tys } ∧ f < 1000000 ∧ srcs args.toList = some xs)) := by
  unfold toRe at hs
  split at hs
  · rename_i t x k d' hop hd
    simp only [Option.bind_eq_some_iff, Option.some.injEq, Prod.mk.injEq] at hs
    obtain ⟨sx, h1, sk, h2, rfl, rfl, rfl⟩ := hs
    exact ⟨hd, .inl ⟨t, x, k, d', sx, sk, hop, rfl, rfl, h1, h2, rfl⟩⟩
  · rename_i x d' hop hd
    simp only [Option.bind_eq_some_iff, Option.some.injEq, Prod.mk.injEq] at hs
    obtain ⟨sx, h1, rfl, rfl, rfl⟩ := hs
    exact ⟨hd, .inr (.inl ⟨x, d', sx, hop, rfl, rfl, h1, rfl⟩)⟩
  · rename_i t x k v hop hd
    simp only [Option.bind_eq_some_iff, Option.some.injEq, Prod.mk.injEq] at hs
    obtain ⟨sx, h1, sk, h2, sv, h3, rfl, rfl, rfl⟩ := hs
    exact ⟨hd, .inr (.inr (.inl ⟨t, x, k, v, sx, sk, sv, hop, rfl, rfl, h1, h2, h3, rfl⟩))⟩
  · rename_i f' args tys hop
    split at hs
    · rename_i hc
      simp only [Bool.and_eq_true, decide_eq_true_eq] at hc
      simp only [Option.map_eq_some_iff, Prod.mk.injEq] at hs
      obtain ⟨ys, h1, rfl, rfl, rfl⟩ := hs
      exact ⟨rfl, .inr (.inr (.inr ⟨args, tys, hop, hc.2, h1⟩))⟩
    · cases hs
  · cases hs
theorem toR_ef {opsL : List Oper} {op : Oper} {d : Option Nat} {f : Nat} {xs : List Src} (hs : toR P fs opsL op = some (.ef d f xs)) : op.guard = none ∧ toRe fs op = some (d, f, xs) := by
  unfold toR at hs
  split at hs
  · split at hs <;> simp at hs
  · rename_i hg
    refine ⟨hg, ?_⟩
    split at hs
    · rename_i e he
      simp only [Option.some.injEq, RSt.ef.injEq] at hs
      obtain ⟨rfl, rfl, rfl⟩ := hs
      exact he
    · simp at hs
theorem toR_gef {opsL : List Oper} {op : Oper} {c : Nat} {t : Bool} {d : Option Nat} {f : Nat} {xs : List Src} (hs : toR P fs opsL op = some (.gef c t d f xs)) : ∃ g, op.guard = some g ∧ guardT opsL g = some (c, t) ∧ toRe fs { op with guard := none } = some (d, f, xs) := by
  unfold toR at hs
  split at hs
  · rename_i g hg
    refine ⟨g, hg, ?_⟩
    split at hs
    · rename_i e he
      simp only [Option.map_eq_some_iff, RSt.gef.injEq] at hs
      obtain ⟨p, hp, rfl, rfl, rfl, rfl, rfl⟩ := hs
      exact ⟨hp, he⟩
    · simp at hs
  · split at hs <;> simp at hs
theorem toR_g {opsL : List Oper} {op : Oper} {st : GSt} (hs : toR P fs opsL op = some (.g st)) : toG P opsL op = some st := by
  unfold toR at hs
  split at hs
  · split at hs
    · simp at hs
    · simpa using hs
  · split at hs
    · simp at hs
    · simpa using hs
theorem noOwn_loose {env : Env} : ∀ {xs : List Src}, noOwn env xs = true → ∀ s ∈ xs, Loose env s
  | [], _, s, h => by cases h
  | x :: r, h, s, hs => by
    simp only [noOwn, Bool.and_eq_true, Option.isNone_iff_eq_none] at h
    rcases List.mem_cons.1 hs with rfl | hs
    · intro m y ho _
      rw [h.1] at ho; cases ho
    · exact noOwn_loose h.2 s hs
theorem noO_loose {env : Env} (h : NoO env) (s : Src) : Loose env s := fun m x _ hx => h m x hx
theorem lookSs_cons {env : Env} {x : Src} {xs : List Src} {zs : List V} (h : lookSs env (x :: xs) = some zs) : ∃ z zs', lookS env x = some z ∧ lookSs env xs = some zs' ∧ zs = z :: zs' := by
  simp only [lookSs, Option.bind_eq_some_iff, Option.some.injEq] at h
  obtain ⟨z, h1, zs', h2, rfl⟩ := h
  exact ⟨z, zs', h1, h2, rfl⟩
theorem lookSs_nil {env : Env} {zs : List V} (h : lookSs env [] = some zs) : zs = [] := by
  simp only [lookSs, Option.some.injEq] at h; exact h.symm

/-- One operation on such memory. -/
theorem ef_sound (hρ : SoundR P ρ) {op : Oper} {d : Option Nat} {f : Nat} {xs : List Src} (hs : toRe fs op = some (d, f, xs)) (hkd : ∀ d, op.dst = some d → d ∈ keep ∧ d < nt) (hFG : FG ρ P nt keep S0 F0 w00 gr env s a w) (hno : ∀ s ∈ xs, Loose env s)
    {zs : List V} {y : V} (hl : lookSs env xs = some zs) (he : ρ.eff s f zs = some (y, s')) : Outc P ((execOp a.eval op).run P w) fun u w1 => FG ρ P nt keep S0 F0 w00 gr (putO d y env) s' (a.put op.dst u) w1 := by
  obtain ⟨S, F, base, wi, hF, hR, hFb, hb, hKp, k1, k2, k3, k4⟩ := hFG
  obtain ⟨hdst, hcase⟩ := toRe_inv hs
  have hok := hρ s f zs y s' he
  rcases hcase with ⟨t, x, k, d', sx, sk, hop, rfl, rfl, h1, h2, rfl⟩ | ⟨x, d', sx, hop, rfl, rfl, h1, rfl⟩ | ⟨t, x, k, v, sx, sk, sv, hop, rfl, rfl, h1, h2, h3, rfl⟩ | ⟨args, tys, hop, hlt, hargs⟩
  · -- a look
    unfold EffOK at hok
    rw [if_pos rfl] at hok
    obtain ⟨rfl, hsm, how, t', m, kk, rfl, hrun⟩ := hok
    obtain ⟨z0, zs0, e0, hl1, hz⟩ := lookSs_cons hl
    obtain ⟨z1, zs1, e1, hl2, rfl⟩ := lookSs_cons hl1
    obtain ⟨z2, zs2, e2, hl3, rfl⟩ := lookSs_cons hl2
    obtain rfl := lookSs_nil hl3
    simp only [lookS, frz, Option.some.injEq] at e0
    subst e0
    simp only [List.cons.injEq, V.i.injEq, Int.natCast_inj, true_and, and_true] at hz
    obtain ⟨rfl, rfl, rfl⟩ := hz
    have hrep : ∀ Im : Nat → Prop, (∀ b, S b → Im b) → Ents P Im w base env (tm a) → ∃ u, (Instr.lookup t' (a.eval x) (a.eval k) false).run P w = .ok u w ∧ Rep Im w u y := fun Im hI1 hE =>
      hrun Im F w _ _ (ρ.loc _ S Im F w w hR hI1 fun _ _ => rfl) (src_loose hE h1 (hno sx (by simp)) e1) (src_loose hE h2 (hno sk (by simp)) e2)
    obtain ⟨Im0, hI1, hI2, hE⟩ := hF.ents
    obtain ⟨u, hru, _⟩ := hrep Im0 hI1 hE
    have hex : (execOp a.eval op).run P w = .ok (.value u) w := by simp only [execOp, hop, Sem.run_bind, hru, Result.andThen_ok, Sem.run_pure]
    obtain ⟨hk, hd⟩ := hkd d' hdst
    refine outc_value hex ?_
    rw [hdst]
    refine FG.frame hF hR hFb hb hKp k1 k2 k3 k4 ?_
    refine hF.put_rep hk hd (Below.refl _ _) hsm how fun Im g1 g2 gE => ⟨Im, fun _ h => h, fun b h => ⟨.inl h, (g2 b h).2⟩, ?_⟩
    obtain ⟨u', hru', hr'⟩ := hrep Im g1 gE
    rw [hru] at hru'
    cases hru'
    exact hr'
  · -- a nil check
    unfold EffOK at hok
    rw [if_neg (by decide), if_neg (by decide), if_pos rfl] at hok
    obtain ⟨rfl, cs, rfl, rfl⟩ := hok
    obtain ⟨z1, zs1, e1, hl2, hz⟩ := lookSs_cons hl
    obtain rfl := lookSs_nil hl2
    simp only [List.cons.injEq, and_true] at hz
    subst hz
    have hrep : ∀ Im : Nat → Prop, Ents P Im w base env (tm a) → Rep Im w (a.eval x) (.r cs) := fun Im hE => src_loose hE h1 (hno sx (by simp)) e1
    obtain ⟨Im0, hI1, hI2, hE⟩ := hF.ents
    obtain ⟨ad, _, hx, _⟩ := (hrep Im0 hE).ptr
    have hex : (execOp a.eval op).run P w = .ok (.value (a.eval x)) w := by simp only [execOp, hop, hx, Sem.run_pure]
    obtain ⟨hk, hd⟩ := hkd d' hdst
    refine outc_value hex ?_
    rw [hdst]
    refine FG.frame hF hR hFb hb hKp k1 k2 k3 k4 ?_
    exact hF.put_rep hk hd (Below.refl _ _) rfl rfl fun Im g1 g2 gE => ⟨Im, fun _ h => h, fun b h => ⟨.inl h, (g2 b h).2⟩, hrep Im gE⟩
  · -- a store
    unfold EffOK at hok
    rw [if_neg (by decide), if_pos rfl] at hok
    obtain ⟨t', m, kk, xx, rfl, rfl, hrun⟩ := hok
    obtain ⟨z0, zs0, e0, hl1, hz⟩ := lookSs_cons hl
    obtain ⟨z1, zs1, e1, hl2, rfl⟩ := lookSs_cons hl1
    obtain ⟨z2, zs2, e2, hl3, rfl⟩ := lookSs_cons hl2
    obtain ⟨z3, zs3, e3, hl4, rfl⟩ := lookSs_cons hl3
    obtain rfl := lookSs_nil hl4
    simp only [lookS, frz, Option.some.injEq] at e0
    subst e0
    simp only [List.cons.injEq, V.i.injEq, Int.natCast_inj, true_and, and_true] at hz
    obtain ⟨rfl, rfl, rfl, rfl⟩ := hz
    obtain ⟨Im, hI1, hI2, hE⟩ := hF.ents
    have hFIm : ∀ b, F b → ¬ Im b := fun b hb hi => by
      rcases (hI2 b hi).1 with h | h
      · exact (hFb b hb).2 h
      · have := (hFb b hb).1; omega
    obtain ⟨w1, hru, hk, hsz, hR1⟩ := hrun Im F w _ _ _ hFIm (ρ.loc _ S Im F w w hR hI1 fun _ _ => rfl) (src_loose hE h1 (hno sx (by simp)) e1) (src_loose hE h2 (hno sk (by simp)) e2) (src_loose hE h3 (hno sv (by simp)) e3)
    have hex : (execOp a.eval op).run P w = .ok .skip w1 := by simp only [execOp, hop, Sem.run_bind, hru, Result.andThen_ok, Sem.run_pure]
    have m2 : ∀ b, Im b → (Im b ∨ w.heap.size ≤ b) ∧ b < w1.heap.size := fun b h => ⟨.inl h, by rw [hsz]; exact (hI2 b h).2⟩
    rw [hex, hdst]
    exact FG.past hF hI2 hI1 hFb hb hKp k1 k2 k3 k4 hk (fun _ h => h) m2 hR1 (hF.past hI1 hI2 hE hFb hk (fun _ h => h) m2)
  · -- a call
    unfold EffOK at hok
    rw [if_neg (by unfold LOOK; omega), if_neg (by unfold UPD; omega), if_neg (by unfold NILC; omega)] at hok
    obtain ⟨hfn, hoy, hpf⟩ := hok
    obtain ⟨Im, hI1, hI2, hE⟩ := hF.ents
    have hFIm : ∀ b, F b → ¬ Im b := fun b hb hi => by
      rcases (hI2 b hi).1 with h | h
      · exact (hFb b hb).2 h
      · have := (hFb b hb).1; omega
    have hreps := srcs_loose hE hargs hno hl
    have hent : (execOp a.eval op).run P w = .ok (.enter f (args.toList.map a.eval).toArray) w := by
      rw [callm_enter (ρ := a.eval) (fun _ => rfl) hop hfn w]
      congr 2
      apply Array.toList_inj.1; simp
    rw [hent, hdst]
    refine (hpf Im F w _ (fun b h => (hI2 b h).2) hFIm hE.glob hreps (ρ.loc _ S Im F w w hR hI1 fun _ _ => rfl)).mono fun e w2 ⟨v, he, hk2, S', m1, m2, hR2, hrep⟩ => ⟨v, he, ?_⟩
    have hnew := hF.past hI1 hI2 hE hFb hk2 m1 m2
    obtain ⟨Im', n1, n2, hE'⟩ := hnew.ents
    have hput := hnew.put_res (d := d) (fun d' hd' => hkd d' (hdst.trans hd')) (Below.refl _ _) n1 n2 hE' (fun _ h => h) (fun b h => ⟨.inl h, (n2 b h).2⟩) (v := v) (y := y) ((hrep.mono n1).res (okY_t hoy))
    exact FG.past hF hI2 hI1 hFb hb hKp k1 k2 k3 k4 hk2 m1 m2 hR2 hput

/-- One operation of a region that keeps its order. -/
theorem stepR_sound (ho : SoundO P o) (hρ : SoundR P ρ) {opsL : List Oper} {op : Oper} {st : RSt} {e : Env} (hs : toR P fs opsL op = some st) (hkd : ∀ d, op.dst = some d → d ∈ keep ∧ d < nt) (hFG : FG ρ P nt keep S0 F0 w00 gr env s a w) (h1 : stepR ρ o env s st = some (e, s')) :
    (Region.wanted op (yielded opsL.toArray a.tmps) = true ∧ Outc P ((execOp a.eval op).run P w) fun u w1 => FG ρ P nt keep S0 F0 w00 gr e s' (a.put op.dst u) w1) ∨ (Region.wanted op (yielded opsL.toArray a.tmps) = false ∧ FG ρ P nt keep S0 F0 w00 gr e s' (a.put op.dst undef) w) := by
  cases st with
  | g st =>
    simp only [stepR, Option.map_eq_some_iff, Prod.mk.injEq] at h1
    obtain ⟨e', h1, rfl, rfl⟩ := h1
    obtain ⟨S, F, base, wi, hF, hR, hFb, hb, hKp, k1, k2, k3, k4⟩ := hFG
    rcases stepG_sound ho (toR_g hs) hkd hF h1 with ⟨hw, h⟩ | ⟨hw, h⟩
    · left
      refine ⟨hw, ?_⟩
      revert h
      generalize (execOp a.eval op).run P w = res
      intro h
      unfold Outc at h ⊢
      split at h
      · exact FG.frame hF hR hFb hb hKp k1 k2 k3 k4 h
      · exact FG.frame hF hR hFb hb hKp k1 k2 k3 k4 h
      · exact h.mono fun e w1 ⟨u, he, h⟩ => ⟨u, he, FG.frame hF hR hFb hb hKp k1 k2 k3 k4 h⟩
      · exact h.elim
    · exact .inr ⟨hw, FG.frame hF hR hFb hb hKp k1 k2 k3 k4 h⟩
  | ef d f xs =>
    simp only [stepR] at h1
    split at h1
    · rename_i hno
      simp only [Option.bind_eq_some_iff, Option.map_eq_some_iff, Prod.mk.injEq] at h1
      obtain ⟨zs, hl, ⟨y, s1⟩, he, rfl, rfl⟩ := h1
      left
      exact ⟨by simp [Region.wanted, (toR_ef hs).1], ef_sound hρ (toR_ef hs).2 hkd hFG (noOwn_loose hno) hl he⟩
    · cases h1
  | gef c t d f xs =>
    obtain ⟨g, hgd, hgt, hre⟩ := toR_gef hs
    unfold guardT at hgt
    simp only [Option.map_eq_some_iff, Option.bind_eq_some_iff, Prod.mk.injEq] at hgt
    obtain ⟨dg, ⟨og, hog, hdg⟩, rfl, rfl⟩ := hgt
    simp only [stepR, Option.bind_eq_some_iff] at h1
    obtain ⟨v, hv, h1⟩ := h1
    cases v <;> first | (cases h1; done) | skip
    rename_i u
    simp only at h1
    have hu : a.tmps[dg]? = some (.bool u) := by
      obtain ⟨S, F, base, wi, hF, _⟩ := hFG
      exact look_bool hF hv
    have hy : yielded opsL.toArray a.tmps g.1 = some u := by
      simp [yielded, hog, hdg, hu]
    by_cases hut : u = g.2
    · rw [if_pos hut] at h1
      split at h1
      · rename_i hno
        simp only [Option.bind_eq_some_iff, Option.map_eq_some_iff, Prod.mk.injEq] at h1
        obtain ⟨zs, hl, ⟨y, s1⟩, he, rfl, rfl⟩ := h1
        left
        refine ⟨?_, ef_sound (op := { op with guard := none }) hρ hre hkd hFG (noOwn_loose hno) hl he⟩
        unfold Region.wanted
        rw [hgd]
        simp [hy, hut]
      · cases h1
    · rw [if_neg hut] at h1
      simp only [Option.some.injEq, Prod.mk.injEq] at h1
      obtain ⟨rfl, rfl⟩ := h1
      right
      refine ⟨?_, ?_⟩
      · unfold Region.wanted
        rw [hgd]
        simp [hy, hut]
      · have hd' : d = op.dst := (toRe_inv hre).1.symm
        rw [hd']
        exact hFG.map fun S base wi h => h.putO_ud hkd
/-- The operations of a region that keeps its order. -/
theorem stepsR_sound (ho : SoundO P o) (hρ : SoundR P ρ) {opsL : List Oper} {Q : Exit → Act → World → Prop} {rest : List Nat} : ∀ (r : List Oper) (ss : List RSt) (n : Nat) (env : Env) (s : σ) (a : Act) (w : World) (tl : List Oper), toRs P fs opsL r = some ss → stepsR ρ o ss env s = some (env', s') → opsL.drop n = r ++ tl → (∀ op ∈ r, ∀ d, op.dst = some d → d ∈ keep ∧ d < nt) →
    FG ρ P nt keep S0 F0 w00 gr env s a w → (∀ a' w', FG ρ P nt keep S0 F0 w00 gr env' s' a' w' → wpOps P opsL.toArray Q rest a' w') → wpOps P opsL.toArray Q (List.range' n r.length ++ rest) a w
  | [], ss, n, env, s, a, w, tl, hss, hst, _, _, hF, hQ => by
    simp only [toRs, Option.some.injEq] at hss
    subst hss
    simp only [stepsR, Option.some.injEq, Prod.mk.injEq] at hst
    obtain ⟨rfl, rfl⟩ := hst
    exact hQ a w hF
  | op :: r, ss, n, env, s, a, w, tl, hss, hst, hdrop, hk, hF, hQ => by
    simp only [toRs, Option.bind_eq_some_iff, Option.some.injEq] at hss
    obtain ⟨st, hs, ss', hss', rfl⟩ := hss
    simp only [stepsR, Option.bind_eq_some_iff] at hst
    obtain ⟨⟨env1, s1⟩, h1, h2⟩ := hst
    obtain ⟨hat, hdrop'⟩ := drop_cons hdrop
    have next : ∀ u w1, FG ρ P nt keep S0 F0 w00 gr env1 s1 (a.put op.dst u) w1 → wpOps P opsL.toArray Q (List.range' (n + 1) r.length ++ rest) (a.put op.dst u) w1 := fun u w1 h =>
      stepsR_sound ho hρ r ss' (n + 1) env1 s1 _ w1 tl hss' h2 hdrop' (fun op' h' => hk op' (List.mem_cons_of_mem _ h')) h hQ
    simp only [List.length_cons, List.range'_succ, List.cons_append, wpOps, List.getElem?_toArray, hat]
    rcases stepR_sound ho hρ hs (hk op (List.mem_cons_self ..)) hF h1 with ⟨hw, hout⟩ | ⟨hw, hF1⟩
    · rw [if_pos hw]
      left
      refine Outc.wp ?_
      revert hout
      generalize (execOp a.eval op).run P w = res
      intro hout
      unfold Outc at hout ⊢
      split at hout
      · exact next _ _ hout
      · exact next _ _ hout
      · exact hout.mono fun e w1 ⟨u, he, h⟩ => ⟨u, he, next _ _ h⟩
      · exact hout.elim
    · rw [if_neg (by simp [hw])]
      exact next _ _ hF1
end
end Go.VM
/-
  Code with operations and calls that turn memory beside the frame: it does what is said of it; contracts. No program is named here.
-/
namespace Go.VM
open Go.RowKit
variable [Glob]

/-! ### Regions that draw their order -/
def RSt.gst : RSt → GSt
  | .g st => st
  | .ef d f xs => .s (.call d f xs)
  | .gef .. => .pick 0 0 (.c .np) (.c .np)
/-- Steps that ask no function. -/
def St.calm : St → Bool
  | .call .. | .callv .. | .callm .. => false
  | .q _ p _ => match p with
    | .call .. | .callv .. => false
    | _ => true
  | _ => true
def GSt.calm : GSt → Bool
  | .s st => st.calm
  | .gd _ _ _ st => st.calm
  | .pick .. => true
theorem opQ_calm {o o' : Orc} {p : XOp} (h1 : ∀ fl f, p ≠ .call fl f) (h2 : ∀ fl, p ≠ .callv fl) (vs : List V) : opQ o p vs = opQ o' p vs := by
  cases p <;> first
    | exact absurd rfl (h1 _ _)
    | exact absurd rfl (h2 _)
    | (match vs with
       | [] => rfl
       | [x] => first | rfl | (cases x <;> rfl)
       | [x, y] => first | rfl | (cases x <;> first | rfl | (cases y <;> rfl))
       | x :: y :: z :: r => first | rfl | (cases x <;> first | rfl | (cases y <;> rfl)))
theorem stepS_calm {o o' : Orc} {env : Env} {st : St} (h : st.calm = true) : stepS o env st = stepS o' env st := by
  cases st with
  | q d p xs =>
    have h1 : ∀ fl f, p ≠ .call fl f := fun fl f e => by subst e; cases h
    have h2 : ∀ fl, p ≠ .callv fl := fun fl e => by subst e; cases h
    simp only [stepS, opQ_calm (o := o) (o' := o') h1 h2]
  | slc d k lo hi xs =>
    have : opQ o (.slc k lo hi) = opQ o' (.slc k lo hi) := by
      funext vs
      exact opQ_calm (fun _ _ e => by cases e) (fun _ e => by cases e) vs
    simp only [stepS, this]
  | call d f xs => cases h
  | callv d xs => cases h
  | callm d f mu s xs => cases h
  | mv d s => cases s <;> rfl
  | as d s => cases s <;> rfl
  | fa d off n s => cases s <;> rfl
  | sto sz s v => cases s <;> rfl
  | app d e k b s y => cases s with
    | t n => rfl
    | c v => cases v with
      | ow e es => cases es <;> rfl
      | _ => rfl
  | mget d kt z s k => cases s <;> rfl
  | mset kt s k v => cases s <;> rfl
  | _ => rfl
theorem stepG_calm {o o' : Orc} {env : Env} {st : GSt} (h : st.calm = true) : stepG o env st = stepG o' env st := by
  cases st with
  | s st => exact stepS_calm h
  | gd c t d st => simp only [stepG, stepS_calm (o := o) (o' := o') (env := env) (st := st) h]
  | pick d c a b => simp only [stepG]
/-- Item i comes ahead of item c, over others. -/
def ancB (af : List (List Nat)) : Nat → Nat → Nat → Bool
  | 0, _, _ => false
  | n + 1, c, i => match af[c]? with
    | some l => l.any fun j => j == i || ancB af n j i
    | none => false
theorem ancB_listed {opsL : List Oper} {l : Array Bool} (hcl : ∀ (k : Nat) op', opsL[k]? = some op' → Ex1 l k → ∀ j ∈ aft op', Ex1 l j) : ∀ {n c i : Nat}, ancB (opsL.map aft) n c i = true → Ex1 l c → Ex1 l i
  | n + 1, c, i, h, hc => by
    simp only [ancB, List.getElem?_map] at h
    cases ho : opsL[c]? with
    | none => rw [ho] at h; cases h
    | some op =>
      rw [ho] at h
      simp only [Option.map_some, List.any_eq_true, Bool.or_eq_true, beq_iff_eq] at h
      obtain ⟨j, hj, h⟩ := h
      have hjl := hcl c op ho hc j hj
      rcases h with rfl | h
      · exact hjl
      · exact ancB_listed hcl h hjl
/-- What an item of such a region is asked: o' answers as the memory does; c is the one that turns it. -/
def okItem {σ : Type} (ρ : Rs σ) (s s1 : σ) (o' : Orc) (af : List (List Nat)) (c i : Nat) : RSt → Prop
  | .g st => st.calm = true ∧ (i ≠ c ∨ s1 = s)
  | .ef _ f _ => if i = c then ∀ zs y, o' f zs = some y → ρ.eff s f zs = some (y, s1) else (s1 = s ∨ ancB af af.length c i = true) ∧ ∀ zs y, o' f zs = some y → ρ.eff s f zs = some (y, s)
  | .gef .. => False
theorem freeze_noO {env : Env} (h : NoO env) : ∀ xs : List Src, freeze env xs = env
  | [] => rfl
  | x :: xs => by
    rw [freeze_cons]
    cases owner env x with
    | none => exact freeze_noO h xs
    | some n =>
      have : freeze1 n env = env := by
        unfold freeze1
        cases hq : get n env with
        | none => rfl
        | some y =>
          show (if y.isOwn = true then put n (frz y) env else env) = env
          rw [h n y hq]; rfl
      simp only [this]
      exact freeze_noO h xs

section
variable {σ : Type} {ρ : Rs σ} {P : Program} {nt : Nat} {keep ret : List Nat} {S : Nat → Prop} {base : Nat} {wi : World} {env env' : Env} {a : Act} {w : World} {o : Orc} {s s' : σ} {S0 F0 : Nat → Prop} {w00 : World} {gr : Bool} {fs : List Nat}

theorem toRs_at {opsL : List Oper} : ∀ {r : List Oper} {ss : List RSt}, toRs P fs opsL r = some ss → ss.length = r.length ∧ ∀ (i : Nat) op, r[i]? = some op → ∃ s, ss[i]? = some s ∧ toR P fs opsL op = some s
  | [], ss, h => by simp only [toRs, Option.some.injEq] at h; subst h; simp
  | op :: r, ss, h => by
    simp only [toRs, Option.bind_eq_some_iff, Option.some.injEq] at h
    obtain ⟨s, hs, ss', hss', rfl⟩ := h
    obtain ⟨h1, h2⟩ := toRs_at hss'
    refine ⟨by simp [h1], fun i op' hi => ?_⟩
    cases i with
    | zero => simp at hi; subst hi; exact ⟨s, rfl, hs⟩
    | succ i => simpa using h2 i op' (by simpa using hi)
theorem drw_sound (ho : SoundO P o) (hρ : SoundR P ρ) (hm : P.follows .mixedOrders = true) {id : Nat} {ops : Array Oper} {ss : List RSt} {c : Nat} (hss : toRs P fs ops.toList ops.toList = some ss) {o' : Orc} (hst : drawN o' (ss.map RSt.gst) (ops.toList.map aft) env = some env')
    (hit : ∀ i st, ss[i]? = some st → okItem ρ s s' o' (ops.toList.map aft) c i st) (hc : c < ops.size ∨ s' = s) (hd : dstOk nt ops.toList = true)
    (hacy : ((List.range ops.size).all fun i => match ops[i]? with | some o => (aft o).all fun j => decide (j < i) | none => false) = true)
    (hF : FG ρ P nt keep S0 F0 w00 gr env s a w) {Q : Exit → Act → World → Prop} (hQ : ∀ a' w', FG ρ P nt keep S0 F0 w00 gr (dropE (looseD keep ops.toList) env') s' a' w' → Q .normal a' w') :
    (Code.region id ops true).wp P Q a w := by
  classical
  let Inv : Array Bool → Env → Act → World → Prop := fun l e a w => FG ρ P nt (keep ++ (ops.toList.flatMap fun o => o.dst.toList)) S0 F0 w00 gr e (if Ex1 l c then s' else s) a w
  have hkd : ∀ {i : Nat} {op : Oper}, ops.toList[i]? = some op → ∀ d, op.dst = some d → d ∈ keep ++ (ops.toList.flatMap fun o => o.dst.toList) ∧ d < nt := fun hop d hd' =>
    ⟨List.mem_append_right _ (List.mem_flatMap.2 ⟨_, List.mem_of_getElem? hop, by simp [hd']⟩), dstOk_at hd (List.mem_of_getElem? hop) hd'⟩
  have hn1 : ¬ Ex1 (Array.replicate ops.size false) c := fun hk => by
    unfold Ex1 at hk
    simp only [Array.getD_eq_getD_getElem?, Array.getElem?_replicate] at hk
    split at hk <;> simp at hk
  refine regN (o := o') (ss := ss.map RSt.gst) hm Inv (fun l e a w h => h.srt) (by simpa using (toRs_at hss).1) hst (fun i op g hop hg l hl hne haft hcl env e f a w hI hno hrec _ => ?_) hacy ?_ (fun l a' w' hall hI => hQ a' w' ?_)
  · obtain ⟨st, hst', hsop⟩ := (toRs_at hss).2 i op hop
    rw [List.getElem?_map, hst'] at hg
    simp only [Option.map_some, Option.some.injEq] at hg
    subst hg
    have hok := hit i st hst'
    have his : i < l.size := by rw [hl]; exact (List.getElem?_eq_some_iff.1 hop).1
    have hstep := hrec.step
    cases st with
    | g st =>
      obtain ⟨hcalm, hne'⟩ := hok
      rw [RSt.gst, stepG_calm (o' := o) hcalm] at hstep
      have hI' : FG ρ P nt (keep ++ (ops.toList.flatMap fun o => o.dst.toList)) S0 F0 w00 gr env (if Ex1 (l.setIfInBounds i true) c then s' else s) a w := by
        have : (if Ex1 (l.setIfInBounds i true) c then s' else s) = (if Ex1 l c then s' else s) := by
          rcases hne' with h | h
          · have : Ex1 (l.setIfInBounds i true) c ↔ Ex1 l c := by
              rw [ex1_set his]
              exact ⟨fun h' => h'.resolve_left fun e => h e.symm, .inr⟩
            by_cases hx : Ex1 l c
            · rw [if_pos hx, if_pos (this.2 hx)]
            · rw [if_neg hx, if_neg fun h => hx (this.1 h)]
          · rw [h]; simp
        rw [this]; exact hI
      have h1 : stepR ρ o env (if Ex1 (l.setIfInBounds i true) c then s' else s) (.g st) = some (e, (if Ex1 (l.setIfInBounds i true) c then s' else s)) := by simp only [stepR, hstep, Option.map_some]
      exact stepR_sound ho hρ hsop (hkd hop) hI' h1
    | gef c t d f' xs => exact hok.elim
    | ef d f' xs =>
      simp only [RSt.gst, stepG, stepS, Option.bind_eq_some_iff, Option.some.injEq] at hstep
      obtain ⟨zs, hlz, y, hy, he⟩ := hstep
      have he' : e = putO d y env := by
        rw [← he]
        split
        · rfl
        · rw [freeze_noO hno]
      subst he'
      left
      refine ⟨by simp [Region.wanted, (toR_ef hsop).1], ?_⟩
      simp only [okItem] at hok
      by_cases hic : i = c
      · rw [if_pos hic] at hok
        have hs0 : FG ρ P nt (keep ++ (ops.toList.flatMap fun o => o.dst.toList)) S0 F0 w00 gr env s a w := by
          have := hI
          simp only [Inv] at this
          rwa [if_neg (hic ▸ hne)] at this
        have := ef_sound hρ (toR_ef hsop).2 (hkd hop) hs0 (fun x _ => noO_loose hno x) hlz (hok zs y hy)
        have hx : Ex1 (l.setIfInBounds i true) c := (ex1_set his c).2 (.inl hic.symm)
        simp only [Inv, if_pos hx]
        exact this
      · rw [if_neg hic] at hok
        obtain ⟨hk1, hk2⟩ := hok
        have hx : Ex1 (l.setIfInBounds i true) c ↔ Ex1 l c := by
          rw [ex1_set his]
          exact ⟨fun h' => h'.resolve_left fun e => hic e.symm, .inr⟩
        have hst0 : (if Ex1 l c then s' else s) = s := by
          rcases hk1 with h | h1
          · rw [h]; simp
          · rw [if_neg]
            intro hxc
            exact hne (ancB_listed hcl h1 hxc)
        have hst1 : (if Ex1 (l.setIfInBounds i true) c then s' else s) = s := by
          rw [← hst0]
          by_cases h : Ex1 l c
          · rw [if_pos h, if_pos (hx.2 h)]
          · rw [if_neg h, if_neg fun h' => h (hx.1 h')]
        have hs0 : FG ρ P nt (keep ++ (ops.toList.flatMap fun o => o.dst.toList)) S0 F0 w00 gr env s a w := by
          have := hI
          simp only [Inv] at this
          rwa [hst0] at this
        have := ef_sound hρ (toR_ef hsop).2 (hkd hop) hs0 (fun x _ => noO_loose hno x) hlz (hk2 zs y hy)
        simp only [Inv, hst1]
        exact this
  · simp only [Inv, if_neg hn1]
    obtain ⟨S, F, base, wi, hF, hR, hFb, hb, hKp, k1, k2, k3, k4⟩ := hF
    have hb0 : Below w.heap.size w { w with drawn := w.drawn + 1 } := ⟨rfl, rfl, rfl, Nat.le_refl _, fun _ _ => rfl⟩
    exact FG.frame hF hR hFb hb hKp k1 k2 k3 k4 ((hF.keys_mono (keep' := keep ++ (ops.toList.flatMap fun o => o.dst.toList)) fun n hn => List.mem_append_left _ hn).grow hb0)
  · have hs : (if Ex1 l c then s' else s) = s' := by
      rcases hc with h | h
      · rw [if_pos (hall c h)]
      · rw [h]; simp
    simp only [Inv, hs] at hI
    refine hI.map fun S base wi h => h.dropE _ fun n hn hd => ?_
    by_cases hk : n ∈ keep
    · exact hk
    · rcases List.mem_append.1 hn with h | h
      · exact h
      · exact absurd (List.mem_filter.2 ⟨h, by simp [hk]⟩) hd
theorem lin_sound (ho : SoundO P o) (hρ : SoundR P ρ) {id : Nat} {ops : Array Oper} {ss : List RSt} (hss : toRs P fs ops.toList ops.toList = some ss) (hst : stepsR ρ o ss env s = some (env', s')) (hd : dstOk nt ops.toList = true)
    (hF : FG ρ P nt keep S0 F0 w00 gr env s a w) {Q : Exit → Act → World → Prop} (hQ : ∀ a' w', FG ρ P nt keep S0 F0 w00 gr (dropE (looseD keep ops.toList) env') s' a' w' → Q .normal a' w') :
    (Code.region id ops false).wp P Q a w := by
  refine wp_region ?_
  have hrange : List.range ops.size = List.range' 0 ops.toList.length ++ [] := by rw [List.range_eq_range']; simp
  rw [hrange]
  have hF' : FG ρ P nt (keep ++ (ops.toList.flatMap fun o => o.dst.toList)) S0 F0 w00 gr env s a w := hF.map fun S base wi h => h.keys_mono fun n hn => List.mem_append_left _ hn
  have := stepsR_sound (keep := keep ++ (ops.toList.flatMap fun o => o.dst.toList)) (opsL := ops.toList) (Q := Q) (rest := []) ho hρ ops.toList ss 0 env s a w [] hss hst (by simp)
    (fun op hop d hd' => ⟨List.mem_append_right _ (List.mem_flatMap.2 ⟨op, hop, by simp [hd']⟩), dstOk_at hd hop hd'⟩) hF' (fun a' w' h => hQ a' w' (h.map fun S base wi h => h.dropE _ fun n hn hd => by
      by_cases hk : n ∈ keep
      · exact hk
      · rcases List.mem_append.1 hn with h | h
        · exact h
        · exact absurd (List.mem_filter.2 ⟨h, by simp [hk]⟩) hd))
  simpa using this

/-! ### A call that lays such memory; a map of the frame's own that becomes such memory -/
theorem FG.start {F : Nat → Prop} {keep' : List Nat} {env1 : Env} {a1 : Act} {w1 : World} {S' F' : Nat → Prop} (hF1 : FI P nt keep' S' w1.heap.size w1 env1 a1 w1) (hR : ρ.R s S' F' w1) (hF' : ∀ b, F' b → ¬ S' b) (hsz : w00.heap.size ≤ w1.heap.size) (hK : Keeps w00.heap.size F0 w00 w1) (h1 : ∀ b, S0 b → S' b) (h2 : ∀ b, S' b → S0 b ∨ w00.heap.size ≤ b) (h3 : ∀ b, F' b → F0 b ∨ w00.heap.size ≤ b) :
    FG ρ P nt keep' S0 F0 w00 true env1 s a1 w1 := by
  refine ⟨S', F', w1.heap.size, w1, hF1, hR, fun b hb => ⟨ρ.lt _ _ _ _ b hR hb, hF' b hb⟩, hsz, hK, h1, h2, h3, fun h => by cases h⟩

/-- All but a slot is read from now on. -/
def frzBut (m : Nat) (env : Env) : Env := freeze env ((env.filter fun p => p.1 != m && p.2.names != some m).map fun p => .t p.1)
def bareBut (m : Nat) (env : Env) : Bool := env.all fun p => p.1 == m || (!p.2.isOwn && (match p.2 with | .t _ => false | _ => true))
/-- What a map of the frame's own becomes. -/
def AdOK {σ : Type} (ρ : Rs σ) (ad : σ → Nat → List V → List V → Option σ) : Prop := ∀ s S F w g ks vs (es : Array MapEntry) (clock : Nat), ρ.R s S F w → ¬ F g → w.heap[g]? = some (.map es clock) → es.toList.map (·.key) = ks.map V.toVal → es.toList.map (·.val) = vs.map V.toVal →
  (∀ x ∈ ks, x.uniq = true) → (∀ x ∈ vs, x.uniq = true) → (∀ x ∈ vs, x.cell = true) → (es.toList.map (·.born)).Nodup → (∀ x ∈ es.toList, x.born < clock) → ∃ s', ad s g ks vs = some s' ∧ ρ.R s' S (fun b => F b ∨ b = g) w
theorem thaw_sound {ad : σ → Nat → List V → List V → Option σ} (had : AdOK ρ ad) {m : Nat} {ks vs : List V} (hF : FG ρ P nt keep S0 F0 w00 true env s a w) (hm : get m (frzBut m env) = some (.mp ks vs)) (hb : bareBut m (frzBut m env) = true) (hcl : ∀ x ∈ vs, x.cell = true) :
    ∃ g s', ad s g ks vs = some s' ∧ FG ρ P nt keep S0 F0 w00 true (put m (.mr (some g)) (frzBut m env)) s' a w := by
  obtain ⟨S, F, base, wi, hF0, hR, hFb, hbs, hKp, k1, k2, k3, k4⟩ := hF
  have hFz : FI P nt keep S base wi (frzBut m env) a w := hF0.freeze _
  generalize frzBut m env = env1 at hm hb hFz ⊢
  obtain ⟨Im, hI1, hI2, hE⟩ := hFz.ents
  obtain ⟨u, hu, ⟨⟨g, es, clock, rfl, q1, q2, q3, q4, q5, q6, q7, q8⟩, hno⟩⟩ := hE.ent m _ hm
  have hFIm : ∀ b, F b → ¬ Im b := fun b hb hi => by
    rcases (hI2 b hi).1 with h | h
    · exact (hFb b hb).2 h
    · have := (hFb b hb).1; omega
  have hgF : ¬ F g := fun h => by have := (hFb g h).1; omega
  have hgI : ¬ Im g := hno g rfl
  have hbare : ∀ n x, n ≠ m → get n env1 = some x → x.isOwn = false ∧ ∀ ys, x ≠ .t ys := fun n x hn hx => by
    have := List.all_eq_true.1 hb _ (get_mem hx)
    simp only [Bool.or_eq_true, beq_iff_eq, Bool.and_eq_true, Bool.not_eq_true'] at this
    rcases this with h | h
    · exact absurd h hn
    · refine ⟨h.1, fun ys e => ?_⟩
      subst e
      cases h.2
  have hsz := hFz.bsz
  have hent : Ents P Im w w.heap.size (put m (.mr (some g)) env1) (tm a) := by
    refine ⟨fun n x hx => ?_, fun n x k hx hk => ?_, fun n c n' c' b h => ?_, hE.glob⟩
    · rw [get_put] at hx
      by_cases hn : n = m
      · rw [if_pos hn] at hx
        cases hx
        subst hn
        exact ⟨_, hu, (.mr _ : Rep Im w _ _)⟩
      · rw [if_neg hn] at hx
        obtain ⟨h1, h2⟩ := hbare n x hn hx
        obtain ⟨v, hv, he⟩ := hE.ent n x hx
        refine ⟨v, hv, ?_⟩
        cases x with
        | t ys => exact absurd rfl (h2 _)
        | ow e es => cases h1
        | bx cs => cases h1
        | mp ks vs => cases h1
        | pe k i off sz =>
          obtain ⟨ad, l, c, kk, h3, h4, h5⟩ := he
          refine ⟨ad, l, c, kk, h3, h4, fun y es hy hfz => ?_⟩
          rw [get_put] at hy
          split at hy
          · cases hy; simp [frz] at hfz
          · exact h5 y es hy hfz
        | _ => exact he
    · rw [get_put] at hx
      by_cases hn : n = m
      · rw [if_pos hn] at hx; cases hx; cases hk
      · rw [if_neg hn] at hx
        obtain ⟨y, hy, hyn⟩ := hE.closed n x k hx hk
        rw [get_put]
        split
        · exact ⟨_, rfl, rfl⟩
        · exact ⟨y, hy, hyn⟩
    · exfalso
      have hnb : ∀ n x, get n (put m (.mr (some g)) env1) = some x → x.isOwn = false ∧ ∀ ys, x ≠ .t ys := fun n x hx => by
        rw [get_put] at hx
        by_cases hn : n = m
        · rw [if_pos hn] at hx; cases hx; exact ⟨rfl, fun _ e => by cases e⟩
        · rw [if_neg hn] at hx; exact hbare n x hn hx
      cases c with
      | none =>
        obtain ⟨x, _, hx, ho, _⟩ := h
        rw [(hnb n x hx).1] at ho; cases ho
      | some j =>
        obtain ⟨ys, _, _, _, hx, _⟩ := h
        exact absurd rfl ((hnb n _ hx).2 ys)
  have hFI : FI P nt keep Im w.heap.size w (put m (.mr (some g)) env1) a w := ⟨hFz.srt.put m _, hFz.size, hFz.defers, Below.refl _ _, fun _ _ => rfl, Nat.le_refl _, fun n x hx => by
    rw [get_put] at hx
    by_cases hn : n = m
    · rw [hn]; exact hFz.keys m _ hm
    · rw [if_neg hn] at hx; exact hFz.keys n x hx, Im, fun _ h => h, fun b h => ⟨.inl h, (hI2 b h).2⟩, hent⟩
  have hRI : ρ.R s Im F w := ρ.loc _ S Im F w w ((ρ.loc _ S S F w w hR (fun _ h => h) fun _ _ => rfl)) hI1 fun _ _ => rfl
  obtain ⟨s', hs', hR'⟩ := had s Im F w g ks vs es clock hRI hgF q2 q3 q4 q5 q6 hcl q7 q8
  refine ⟨g, s', hs', FG.start (F := F) hFI hR' (fun b hb hi => ?_) (Nat.le_trans hbs hsz) ⟨hFz.below.os.trans hKp.os, hFz.below.tape.trans hKp.tape, hFz.below.output.trans hKp.output, Nat.le_trans hbs hsz, fun b hb' hnf => ?_⟩ (fun b h => hI1 b (k1 b h)) (fun b h => ?_) fun b h => ?_⟩
  · rcases hb with h | rfl
    · exact hFIm b h hi
    · exact hgI hi
  · rw [hFz.below.block b (by omega), hKp.block b hb' hnf]
  · rcases (hI2 b h).1 with h | h
    · exact k2 b h
    · exact .inr (Nat.le_trans hbs h)
  · rcases h with h | rfl
    · exact k3 b h
    · exact .inr (Nat.le_trans hbs q1)

/-- A call that lays such memory, steps ahead of it and behind it. -/
theorem anew_sound (ho : SoundO P o) {id : Nat} {pre post : List Oper} {x : Oper} {ss1 ss2 : List St} (h1 : toSts P pre = some ss1) (h2 : toSts P post = some ss2) {f : Nat} {args : Array Operand} {tys : Array TypeId} (hg : x.guard = none) (hop : x.op = .call { callee := .value (.func f), args := args, argTypes := tys }) {xs : List Src} (hxs : srcs args.toList = some xs)
    (hd : dstOk nt (pre ++ x :: post) = true) {env1 : Env} (hst : stepsS o ss1 env = some env1) (hbare : bare (frzAll env1) = true) {zs : List V} (hl : lookSs (frzAll env1) xs = some zs) (hok : okFn P f = true) {T : V → σ → Prop} (hpf : PFN P ρ f zs s T)
    (hF : FG ρ P nt keep S0 F0 w00 true env s a w) {Q : Exit → Act → World → Prop} (hQ : ∀ y s1, T y s1 → okY y = true ∧ ∃ env2, stepsS o ss2 (putO x.dst y (frzAll env1)) = some env2 ∧ ∀ a' w', FG ρ P nt keep S0 F0 w00 true (dropE (looseD keep (pre ++ x :: post)) env2) s1 a' w' → Q .normal a' w') :
    (Code.region id (pre ++ x :: post).toArray false).wp P Q a w := by
  obtain ⟨S, F, base, wi, hF, hR, hFb, hb, hKp, k1, k2, k3, _⟩ := hF
  refine wp_region ?_
  have hrange : List.range (pre ++ x :: post).toArray.size = List.range' 0 pre.length ++ (pre.length :: (List.range' (pre.length + 1) post.length ++ [])) := by
    rw [List.size_toArray, List.length_append, List.length_cons, List.range_eq_range', List.append_nil, ← List.range'_succ]
    have h0 : pre.length = 0 + pre.length := (Nat.zero_add _).symm
    conv => rhs; arg 2; rw [h0]
    rw [List.range'_append_1]
  rw [hrange]
  have hmem : ∀ op, op ∈ pre ++ x :: post → ∀ d, op.dst = some d → d ∈ keep ++ ((pre ++ x :: post).flatMap fun o => o.dst.toList) ∧ d < nt := fun op hop' d hd' =>
    ⟨List.mem_append_right _ (List.mem_flatMap.2 ⟨op, hop', by simp [hd']⟩), dstOk_at hd hop' hd'⟩
  have hFk := hF.keys_mono (keep' := keep ++ ((pre ++ x :: post).flatMap fun o => o.dst.toList)) fun n hn => List.mem_append_left _ hn
  refine stepsS_pre ho (opsL := pre ++ x :: post) pre ss1 0 env a w (x :: post) h1 hst (by simp) (fun op hop' d hd' => hmem op (List.mem_append_left _ hop') d hd') hFk fun a1 w1 hF1 => ?_
  have hFz : FI P nt _ S base wi (frzAll env1) a1 w1 := hF1.freeze (env1.map fun p => .t p.1)
  obtain ⟨Im, hI1, hI2, hE⟩ := hFz.ents
  have hFIm : ∀ b, F b → ¬ Im b := fun b hb hi => by
    rcases (hI2 b hi).1 with h | h
    · exact (hFb b hb).2 h
    · have := (hFb b hb).1; omega
  have hreps : Reps Im w1 (args.toList.map a1.eval) zs := srcs_loose hE hxs (fun s _ => bare_owner hbare s hE.closed) hl
  have hR1 : ρ.R s Im F w1 := ρ.loc s S Im F w w1 hR hI1 fun b hb => by
    rcases hb with hb | hb
    · exact (hFz.kept b hb).trans (hF.kept b hb).symm
    · exact (hFz.below.block b (hFb b hb).1).trans (hF.below.block b (hFb b hb).1).symm
  have hent : (execOp a1.eval x).run P w1 = .ok (.enter f (args.toList.map a1.eval).toArray) w1 := by
    rw [callm_enter (ρ := a1.eval) (fun _ => rfl) hop hok w1]
    congr 2
    apply Array.toList_inj.1; simp
  simp only [wpOps, List.getElem?_toArray, List.getElem?_append_right (Nat.le_refl _), Nat.sub_self, List.getElem?_cons_zero]
  have hw : Region.wanted x (yielded (pre ++ x :: post).toArray a1.tmps) = true := by simp [Region.wanted, hg]
  rw [if_pos hw]
  left
  refine Outc.wp ?_
  rw [hent]
  refine (hpf Im F w1 _ (fun b h => (hI2 b h).2) hFIm hE.glob hreps hR1).mono fun e w2 ⟨v, y, s1, he, hT, hk2, S', F', m1, m2, hR2, m3, m4, hrep⟩ => ⟨v, he, ?_⟩
  obtain ⟨hoy, env2, hst2, hK⟩ := hQ y s1 hT
  have hnew : FI P nt _ S' w2.heap.size w2 (frzAll env1) a1 w2 := hFz.anew hbare hE m1 (fun b h => (m2 b h).2) fun b hb => hk2.block b (hI2 b hb).2 fun hf => hFIm b hf hb
  obtain ⟨Im', n1, n2, hE'⟩ := hnew.ents
  have hput := hnew.put_res (d := x.dst) (fun d' hd' => hmem x (by simp) d' hd') (Below.refl _ _) n1 n2 hE' (fun _ h => h) (fun b h => ⟨.inl h, (n2 b h).2⟩) (v := v) (y := y) ((hrep.mono n1).res (okY_t hoy))
  have hsz1 : w00.heap.size ≤ w1.heap.size := Nat.le_trans hb hFz.bsz
  have hdrop2 : (pre ++ x :: post).drop (pre.length + 1) = post ++ [] := by
    rw [List.append_nil, List.drop_append, List.drop_eq_nil_of_le (by omega)]; simp
  refine stepsS_pre ho (opsL := pre ++ x :: post) post ss2 (pre.length + 1) _ _ w2 [] h2 hst2 hdrop2 (fun op hop' d hd' => hmem op (List.mem_append_right _ (List.mem_cons_of_mem _ hop')) d hd') hput fun a3 w3 hF3 => ?_
  simp only [wpOps]
  refine hK a3 w3 ?_
  have hfin := hF3.dropE (looseD keep (pre ++ x :: post)) (keep' := keep) fun n hn hd => by
    by_cases hk : n ∈ keep
    · exact hk
    · rcases List.mem_append.1 hn with h | h
      · exact h
      · exact absurd (List.mem_filter.2 ⟨h, by simp [hk]⟩) hd
  have hKeep : Keeps w00.heap.size F0 w00 w2 := ⟨hk2.os.trans (hFz.below.os.trans hKp.os), hk2.tape.trans (hFz.below.tape.trans hKp.tape), hk2.output.trans (hFz.below.output.trans hKp.output), Nat.le_trans hsz1 hk2.size, fun b hb' hnf => by
    have hFn : ¬ F b := fun hf => by
      rcases k3 b hf with h | h
      · exact hnf h
      · omega
    rw [hk2.block b (by omega) hFn, hFz.below.block b (by omega), hKp.block b hb' hnf]⟩
  refine FG.frame hnew hR2 (fun b hb => ⟨ρ.lt _ _ _ _ b hR2 hb, m4 b hb⟩) (Nat.le_trans hsz1 hk2.size) hKeep (fun b h => m1 b (hI1 b (k1 b h))) (fun b h => ?_) (fun b h => ?_) (fun h => by cases h) hfin
  · rcases (m2 b h).1 with h | h
    · rcases (hI2 b h).1 with h | h
      · exact k2 b h
      · exact .inr (Nat.le_trans hb h)
    · exact .inr (Nat.le_trans hsz1 h)
  · rcases m3 b h with h | h
    · exact k3 b h
    · exact .inr (Nat.le_trans hsz1 h)
end
end Go.VM
