/-
  Calls that turn memory which is not the frame's own: what holds of code with such calls. No program is named here.
-/
import Derived.Test.YtggmlfmhinafhaaVmS
import Derived.Test.YtggmlfmhinafhaaVmQ
import Derived.Test.YtggmlfmhinafhaaVmT
set_option linter.unusedSectionVars false
namespace Go.VM
open Go.RowKit
variable [Glob]

/-- Memory that calls turn: what lies in the blocks F of a world, told by a state; other blocks have no say. -/
structure Rsc (σ : Type) where
  R : σ → (Nat → Prop) → World → Prop
  loc : ∀ s F w w', R s F w → (∀ b, F b → w'.heap[b]? = w.heap[b]?) → R s F w'
  lt : ∀ s F w b, R s F w → F b → b < w.heap.size
/-- Of the blocks below the first n, those outside F are as they were. -/
structure Keeps (n : Nat) (F : Nat → Prop) (w w' : World) : Prop where
  os : w'.os = w.os
  tape : w'.tape = w.tape
  output : w'.output = w.output
  size : w.heap.size ≤ w'.heap.size
  block : ∀ b, b < n → ¬ F b → w'.heap[b]? = w.heap[b]?
/-- A call of f at data xs returns y and turns the state s into s'. -/
def PFE {σ : Type} (P : Program) (ρ : Rsc σ) (f : FuncId) (xs : List V) (s : σ) (y : V) (s' : σ) : Prop :=
  ∀ (S F : Nat → Prop) (w : World) (vs : List Value), (∀ b, S b → b < w.heap.size) → (∀ b, F b → ¬ S b) → GOK S w → Reps S w vs xs → ρ.R s F w →
    Calls P f vs.toArray w fun e w' => ∃ v, e = .returned v ∧ Keeps w.heap.size F w w' ∧
      ∃ S' F' : Nat → Prop, (∀ b, S b → S' b) ∧ (∀ b, S' b → (S b ∨ w.heap.size ≤ b) ∧ b < w'.heap.size) ∧ ρ.R s' F' w' ∧ (∀ b, F' b → F b ∨ w.heap.size ≤ b) ∧ (∀ b, F' b → ¬ S' b) ∧ Rep S' w' v y

/-! ### Code with such calls -/
inductive ShE where
  | c
  | seq (a b : ShE)
  | cond (a b : ShE)
  | blk (a : ShE)
  | loop (a : ShE)
  | eff
/-- The steps ahead of a call, its answer's slot, the function or none (the first operand is the function), its operands, the loose slots. -/
structure EG where
  pre : List St
  d : Option Nat
  f : Option Nat
  xs : List Src
  ks : List Nat
inductive NE where
  | c (x : C)
  | seq (a b : NE)
  | cond (x : X) (a b : NE)
  | blk (id : Nat) (a : NE)
  | loop (kin : List Nat) (a : NE)
  | eff (g : EG)
/-- All that the frame owns is read from now on. -/
def frzAll (env : Env) : Env := freeze env (env.map fun p => .t p.1)
/-- The frame owns nothing. -/
def bare (env : Env) : Bool := env.all fun p => !p.2.isOwn && (match p.2 with | .t _ => false | _ => true)
/-- Data that a call may answer: no tuple within a tuple. -/
def okY : V → Bool
  | .t ys => ys.all fun x => match x with
    | .t _ => false
    | _ => true
  | _ => true
theorem okY_t {y : V} (h : okY y = true) : ∀ ys, y = .t ys → ∀ x ∈ ys, ∀ zs, x ≠ .t zs := by
  rintro ys rfl x hx zs rfl
  have := List.all_eq_true.1 h _ hx
  cases this
def callee (f : Option Nat) (vs : List V) : Option (Nat × List V) := match f with
  | some f => some (f, vs)
  | none => match vs with
    | .f (.func f) fs cs :: args => some (f, fs ++ args ++ cs)
    | _ => none
section
variable {σ : Type} (ρ : Rsc σ) (P : Program) (o : Orc)
def roundE' (F : Env → σ → (Ex → Env → σ → Prop) → Prop) (kin : List Nat) (K : Ex → Env → σ → Prop) : Nat → Env → σ → Prop
  | 0, _, _ => False
  | n + 1, env, s => F (keepE kin env) s fun e env1 s1 => match e with
    | .n => roundE' F kin K n env1 s1
    | .e j => K (.e j) env1 s1
    | .r => K .r env1 s1
/-- Code from a frame and a state on ends so that K holds. -/
def WE : NE → Env → σ → (Ex → Env → σ → Prop) → Prop
  | .c x, env, s, K => ∃ e env1, exec o x env = some (e, env1) ∧ K e env1 s
  | .seq a b, env, s, K => WE a env s fun e env1 s1 => match e with
    | .n => WE b env1 s1 K
    | .e j => K (.e j) env1 s1
    | .r => K .r env1 s1
  | .cond x a b, env, s, K => ∃ t, evalX o env x = some (.b t) ∧ if t = true then WE a env s K else WE b env s K
  | .blk id a, env, s, K => WE a env s fun e env1 s1 => match e with
    | .e j => if j = id then K .n env1 s1 else K (.e j) env1 s1
    | .n => K .n env1 s1
    | .r => K .r env1 s1
  | .loop kin a, env, s, K => ∃ n, roundE' (WE a) kin K n env s
  | .eff g, env, s, K => ∃ env1, stepsS o g.pre env = some env1 ∧ bare (frzAll env1) = true ∧ ∃ vs f zs y s1, lookSs (frzAll env1) g.xs = some vs ∧ callee g.f vs = some (f, zs) ∧ okFn P f = true ∧ okY y = true ∧ PFE P ρ f zs s y s1 ∧
      K .n (dropE g.ks (putO g.d y (frzAll env1))) s1
/-- The call at a region's end. -/
def callR (ops : List Oper) : Option (List Oper × Oper × Option Nat × List Operand) := match ops.reverse with
  | x :: r => if x.guard.isSome then none else match x.op with
    | .call { callee := .value (.func f), args, .. } => some (r.reverse, x, some f, args.toList)
    | .call { callee := .value (.tmp t), args, .. } => some (r.reverse, x, none, .tmp t :: args.toList)
    | _ => none
  | [] => none
def egOf (nt : Nat) (keep : List Nat) (ops : List Oper) : Option EG := (callR ops).bind fun h => (toSts P h.1).bind fun ss => (srcs h.2.2.2).bind fun xs =>
  if dstOk nt ops = true then some ⟨ss, h.2.1.dst, h.2.2.1, xs, looseD keep ops⟩ else none
def compE (nt : Nat) (keep ret : List Nat) : ShE → Code → List (Nat × List Nat) → List Nat → Option NE
  | .c, c, es, out => (comp P nt keep ret c es out).map .c
  | .seq s t, .seq a b, es, out => (compE nt keep ret s a es (live ret b es out)).bind fun x => (compE nt keep ret t b es out).bind fun y => some (.seq x y)
  | .cond s t, .cond c a b, es, out => (condX c).bind fun x => (compE nt keep ret s a es out).bind fun a => (compE nt keep ret t b es out).bind fun b => some (.cond x a b)
  | .blk s, .block id a, es, out => (compE nt keep ret s a ((id, out) :: es) out).bind fun a => some (.blk id a)
  | .loop s, .loop a, es, out => let l := sort1 ((live ret (.loop a) es out).filter fun t => keep.contains t)
    (compE nt keep ret s a es l).bind fun c => some (.loop l c)
  | .eff, .region _ ops false, _, _ => (egOf P nt keep ops.toList).map .eff
  | _, _, _, _ => none
structure ECode where
  np : Nat
  res : List RV
  body : NE
def compileE (sh : ShE) (f : Func) : Option ECode := f.body.bind fun c =>
  let ret := resTmps f
  (compE P f.ntmps (keepOf f c) ret sh c [] ret).bind fun b => (resOf P f.results.toList).bind fun rs => if f.params.size + f.nfree ≤ f.ntmps ∧ (P.follows .mixedOrders = true) then some ⟨f.params.size + f.nfree, rs, b⟩ else none
end

/-! ### It is so -/
section
variable {σ : Type} {ρ : Rsc σ} {P : Program} {nt : Nat} {keep ret : List Nat} {env env' : Env} {a : Act} {w : World} {o : Orc} {s s' : σ} {S0 F0 : Nat → Prop} {w00 : World}

theorem callR_inv {ops pre : List Oper} {x : Oper} {f : Option Nat} {xs : List Operand} (h : callR ops = some (pre, x, f, xs)) : ops = pre ++ [x] ∧ x.guard = none ∧ ∃ (args : Array Operand) (tys : Array TypeId),
    (∃ g, f = some g ∧ x.op = .call { callee := .value (.func g), args := args, argTypes := tys } ∧ xs = args.toList) ∨ (∃ t, f = none ∧ x.op = .call { callee := .value (.tmp t), args := args, argTypes := tys } ∧ xs = .tmp t :: args.toList) := by
  unfold callR at h
  split at h
  · rename_i x' r hr
    have hops : ops = r.reverse ++ [x'] := by
      have := congrArg List.reverse hr
      simpa using this
    split at h
    · cases h
    · rename_i hg
      have hg' : x'.guard = none := by simpa using hg
      split at h
      · rename_i g args tys hop
        simp only [Option.some.injEq, Prod.mk.injEq] at h
        obtain ⟨rfl, rfl, rfl, rfl⟩ := h
        exact ⟨hops, hg', args, tys, .inl ⟨g, rfl, hop, rfl⟩⟩
      · rename_i t args tys hop
        simp only [Option.some.injEq, Prod.mk.injEq] at h
        obtain ⟨rfl, rfl, rfl, rfl⟩ := h
        exact ⟨hops, hg', args, tys, .inr ⟨t, rfl, hop, rfl⟩⟩
      · cases h
  · cases h

/-- A frame beside memory that calls turn; how far the world has gone since the call began. -/
def FE (ρ : Rsc σ) (P : Program) (nt : Nat) (keep : List Nat) (S0 F0 : Nat → Prop) (w00 : World) (env : Env) (s : σ) (a : Act) (w : World) : Prop :=
  ∃ (S F : Nat → Prop) (base : Nat) (wi : World), FI P nt keep S base wi env a w ∧ ρ.R s F w ∧ (∀ b, F b → b < base ∧ ¬ S b) ∧ w00.heap.size ≤ base ∧ Keeps w00.heap.size F0 w00 wi ∧ (∀ b, S0 b → S b) ∧ (∀ b, S b → S0 b ∨ w00.heap.size ≤ b) ∧ (∀ b, F b → F0 b ∨ w00.heap.size ≤ b)
theorem bare_own (h : bare env = true) {n : Nat} {x : V} (hx : get n env = some x) : x.isOwn = false ∧ ∀ ys, x ≠ .t ys := by
  have := List.all_eq_true.1 h _ (get_mem hx)
  simp only [Bool.and_eq_true, Bool.not_eq_true'] at this
  refine ⟨this.1, fun ys e => ?_⟩
  subst e
  cases this.2
theorem bare_owner (h : bare env = true) (s : Src) (_hc : ∀ n x m, get n env = some x → x.names = some m → ∃ y, get m env = some y ∧ y.names = none) : Loose env s := by
  intro m x _ hx
  exact (bare_own h hx).1
/-- A frame that owns nothing begins anew behind a call. -/
theorem FI.anew {S : Nat → Prop} {base : Nat} {wi : World} (hF : FI P nt keep S base wi env a w) (hb : bare env = true) {Im : Nat → Prop} (hE : Ents P Im w base env (tm a)) {S' : Nat → Prop} (hS : ∀ b, Im b → S' b) {w' : World} (hlt : ∀ b, S' b → b < w'.heap.size)
    (hk : ∀ b, Im b → w'.heap[b]? = w.heap[b]?) : FI P nt keep S' w'.heap.size w' env a w' := by
  have hcell : ∀ p : Addr, Im p.block → w'.cell? p = w.cell? p := fun p hp => World.cell?_of_block (hk _ hp)
  refine ⟨hF.srt, hF.size, hF.defers, Below.refl _ _, fun _ _ => rfl, Nat.le_refl _, hF.keys, S', fun _ h => h, fun b h => ⟨.inl h, hlt b h⟩, fun n x hx => ?_, hE.closed, fun n c n' c' g h => ?_, hE.glob.move hS hcell⟩
  · obtain ⟨u, hu, he⟩ := hE.ent n x hx
    obtain ⟨hno, hnt⟩ := bare_own hb hx
    refine ⟨u, hu, ?_⟩
    cases x <;> first
      | (simp [V.isOwn] at hno; done)
      | exact absurd rfl (hnt _)
      | exact he
      | exact Rep.move he hS hcell
  · exfalso
    cases c with
    | none =>
      obtain ⟨x, _, hx, ho, _⟩ := h
      rw [(bare_own hb hx).1] at ho; cases ho
    | some j =>
      obtain ⟨ys, _, _, _, hx, _⟩ := h
      exact absurd rfl ((bare_own hb hx).2 ys)
theorem Rep.res {S : Nat → Prop} {v : Value} {y : V} (h : Rep S w v y) (hy : ∀ ys, y = .t ys → ∀ x ∈ ys, ∀ zs, x ≠ .t zs) {base : Nat} : Res P S w base v y := by
  cases h with
  | t us ys hl h =>
    refine ⟨us.toList, by simp, by simpa using hl, fun j u x hu hx => ?_, fun i j u u' x x' g _ _ _ hx _ ho => ?_⟩
    · have hr := h j u x (by simpa using hu) hx
      have hnt := hy _ rfl x (List.mem_of_getElem? hx)
      cases hr <;> first | (rename_i ys' _ _; exact absurd rfl (hnt ys')) | (constructor <;> assumption) | exact absurd rfl (hnt _)
    · exfalso
      obtain ⟨u0, hu0⟩ : ∃ u0, us[i]? = some u0 := by
        have hi : i < us.size := by rw [hl]; exact (List.getElem?_eq_some_iff.1 hx).1
        exact ⟨us[i], Array.getElem?_eq_getElem hi⟩
      have hr := h i u0 x hu0 hx
      cases hr <;> cases ho
  | _ => constructor <;> assumption
end
end Go.VM
/-
  Code with calls that turn memory which is not the frame's own does what is said of it; contracts. No program is named here.
-/
namespace Go.VM
open Go.RowKit
variable [Glob]

section
variable {σ : Type} {ρ : Rsc σ} {P : Program} {nt : Nat} {keep ret : List Nat} {env env' : Env} {a : Act} {w : World} {o : Orc} {s s' : σ} {S0 F0 : Nat → Prop} {w00 : World}

/-- What a stretch of code does at any frame beside the memory. -/
def DoesE (ρ : Rsc σ) (P : Program) (nt : Nat) (keep : List Nat) (S0 F0 : Nat → Prop) (w00 : World) (W : Env → σ → (Ex → Env → σ → Prop) → Prop) (c : Code) : Prop :=
  ∀ (env : Env) (s : σ) (K : Ex → Env → σ → Prop), W env s K → ∀ (a : Act) (w : World), FE ρ P nt keep S0 F0 w00 env s a w → ∀ Q : Exit → Act → World → Prop, (∀ ex env' s' a' w', K ex env' s' → FE ρ P nt keep S0 F0 w00 env' s' a' w' → Q ex.exit a' w') → c.wp P Q a w

theorem FE.frame {S F : Nat → Prop} {base : Nat} {wi w1 : World} {a1 : Act} {env1 : Env} (hF : FI P nt keep S base wi env a w) (hR : ρ.R s F w) (hFb : ∀ b, F b → b < base ∧ ¬ S b) (hb : w00.heap.size ≤ base) (hK : Keeps w00.heap.size F0 w00 wi) (h1 : ∀ b, S0 b → S b) (h2 : ∀ b, S b → S0 b ∨ w00.heap.size ≤ b) (h3 : ∀ b, F b → F0 b ∨ w00.heap.size ≤ b)
    (hF1 : FI P nt keep S base wi env1 a1 w1) : FE ρ P nt keep S0 F0 w00 env1 s a1 w1 :=
  ⟨S, F, base, wi, hF1, ρ.loc s F w w1 hR fun b hb => (hF1.below.block b (hFb b hb).1).trans (hF.below.block b (hFb b hb).1).symm, hFb, hb, hK, h1, h2, h3⟩
theorem FE.keepE (h : FE ρ P nt keep S0 F0 w00 env s a w) (ks : List Nat) : FE ρ P nt keep S0 F0 w00 (keepE ks env) s a w := by
  obtain ⟨S, F, base, wi, h1, h2⟩ := h
  exact ⟨S, F, base, wi, h1.keepE ks, h2⟩

/-- The call, entered. -/
theorem eff_enter {ops pre : List Oper} {x : Oper} {f : Option Nat} {xs : List Operand} (h : callR ops = some (pre, x, f, xs)) {Im : Nat → Prop} {vs : List V} (hr : Reps Im w (xs.map a.eval) vs) {g : Nat} {zs : List V} (hc : callee f vs = some (g, zs)) (hok : okFn P g = true) :
    ∃ us, Reps Im w us zs ∧ (execOp a.eval x).run P w = .ok (.enter g us.toArray) w := by
  obtain ⟨_, _, args, tys, ⟨g', rfl, hop, rfl⟩ | ⟨t, rfl, hop, rfl⟩⟩ := callR_inv h
  · simp only [callee, Option.some.injEq, Prod.mk.injEq] at hc
    obtain ⟨rfl, rfl⟩ := hc
    refine ⟨_, hr, ?_⟩
    rw [callm_enter (ρ := a.eval) (fun _ => rfl) hop hok w]
    congr 2
    apply Array.toList_inj.1; simp
  · match vs, hr, hc with
    | [], _, hc => simp [callee] at hc
    | v :: vs, hr, hc =>
      have h1 := hr.head
      have h2 := hr.tail
      cases v <;> simp only [callee, reduceCtorEq] at hc
      rename_i fn xs ys
      cases fn <;> simp only [reduceCtorEq] at hc
      rename_i f
      simp only [Option.some.injEq, Prod.mk.injEq] at hc
      obtain ⟨rfl, rfl⟩ := hc
      generalize hxv : a.eval (.tmp t) = xv at h1
      cases h1 with
      | f _ fs cs _ _ hx' hy' hf hc =>
        have r1 : Reps Im w fs.toList xs := ⟨by simpa using hx', fun j u x hu hx => hf j u x (by simpa using hu) hx⟩
        have r2 : Reps Im w cs.toList ys := ⟨by simpa using hy', fun j u x hu hx => hc j u x (by simpa using hu) hx⟩
        refine ⟨fs.toList ++ args.toList.map a.eval ++ cs.toList, (r1.append h2).append r2, ?_⟩
        simp [execOp, hop, resolve, hxv, Deferred.ofValue, invoke, callFunc_run hok]

theorem eff_sound (ho : SoundO P o) {ops : Array Oper} {i : Nat} {g : EG} (hg : egOf P nt keep ops.toList = some g) : DoesE ρ P nt keep S0 F0 w00 (WE ρ P o (.eff g)) (.region i ops false) := by
  intro env s K hW a w hFE Q hQ
  unfold egOf at hg
  simp only [Option.bind_eq_some_iff] at hg
  obtain ⟨⟨pre, x, f, xs⟩, h1, ss, hss, sx, hsx, hg⟩ := hg
  split at hg
  · rename_i hd
    simp only [Option.some.injEq] at hg
    subst hg
    simp only at hss hsx
    obtain ⟨env1, hst, hbare, vs, f', zs, y, s1, hl, hcal, hok, hoy, hpf, hK⟩ := hW
    obtain ⟨S, F, base, wi, hF, hR, hFb, hb, hKp, k1, k2, k3⟩ := hFE
    obtain ⟨e1, q3, _⟩ := callR_inv h1
    have e1' : ops = (pre ++ [x]).toArray := by apply Array.toList_inj.1; simpa using e1
    subst e1'
    refine wp_region ?_
    have hrange : List.range (pre ++ [x]).toArray.size = List.range' 0 pre.length ++ [pre.length] := by
      rw [List.size_toArray, List.length_append, List.length_singleton, List.range_eq_range', List.range'_concat]; simp
    rw [hrange]
    have hFk := hF.keys_mono (keep' := keep ++ ((pre ++ [x]).flatMap fun o => o.dst.toList)) fun n hn => List.mem_append_left _ hn
    refine stepsS_pre ho (opsL := pre ++ [x]) (rest := [pre.length]) pre ss 0 env a w [x] hss hst (by simp) (fun op hop d hd' => ⟨List.mem_append_right _ (List.mem_flatMap.2 ⟨op, List.mem_append_left _ hop, by simp [hd']⟩), dstOk_at hd (List.mem_append_left _ hop) hd'⟩) hFk fun a1 w1 hF1 => ?_
    have hFz : FI P nt _ S base wi (frzAll env1) a1 w1 := hF1.freeze (env1.map fun p => .t p.1)
    obtain ⟨Im, hI1, hI2, hE⟩ := hFz.ents
    have hFIm : ∀ b, F b → ¬ Im b := fun b hb hi => by
      rcases (hI2 b hi).1 with h | h
      · exact (hFb b hb).2 h
      · have := (hFb b hb).1; omega
    have hreps : Reps Im w1 (xs.map a1.eval) vs := srcs_loose hE hsx (fun s _ => bare_owner hbare s hE.closed) hl
    have hR1 : ρ.R s F w1 := ρ.loc s F w w1 hR fun b hb => (hFz.below.block b (hFb b hb).1).trans (hF.below.block b (hFb b hb).1).symm
    obtain ⟨us, hus, hent⟩ := eff_enter h1 hreps hcal hok
    show wpOps P (pre ++ [x]).toArray Q [pre.length] a1 w1
    simp only [wpOps, List.getElem?_toArray, List.getElem?_append_right (Nat.le_refl _), Nat.sub_self, List.getElem?_cons_zero]
    have hw : Region.wanted x (yielded (pre ++ [x]).toArray a1.tmps) = true := by simp [Region.wanted, q3]
    rw [if_pos hw]
    left
    refine Outc.wp ?_
    rw [hent]
    refine (hpf Im F w1 us (fun b h => (hI2 b h).2) hFIm hE.glob hus hR1).mono fun e w2 ⟨v, he, hk2, S', F', m1, m2, hR2, m3, m4, hrep⟩ => ⟨v, he, ?_⟩
    have hnew : FI P nt _ S' w2.heap.size w2 (frzAll env1) a1 w2 := hFz.anew hbare hE m1 (fun b h => (m2 b h).2) fun b hb => hk2.block b (hI2 b hb).2 fun hf => hFIm b hf hb
    obtain ⟨Im', n1, n2, hE'⟩ := hnew.ents
    have hput := hnew.put_res (d := x.dst) (fun d' hd' => ⟨List.mem_append_right _ (List.mem_flatMap.2 ⟨x, by simp, by simp [hd']⟩), dstOk_at hd (op := x) (by simp) hd'⟩) (Below.refl _ _) n1 n2 hE' (fun _ h => h) (fun b h => ⟨.inl h, (n2 b h).2⟩) (v := v) (y := y)
      ((hrep.mono n1).res (okY_t hoy))
    have hfin := hput.dropE (looseD keep (pre ++ [x])) (keep' := keep) fun n hn hd => by
      by_cases hk : n ∈ keep
      · exact hk
      · rcases List.mem_append.1 hn with h | h
        · exact h
        · exact absurd (List.mem_filter.2 ⟨h, by simp [hk]⟩) hd
    have hsz1 : w00.heap.size ≤ w1.heap.size := Nat.le_trans hb hF1.bsz
    refine hQ .n _ s1 _ w2 hK ⟨S', F', w2.heap.size, w2, hfin, hR2, fun b hb => ⟨ρ.lt _ _ _ b hR2 hb, m4 b hb⟩, Nat.le_trans hsz1 hk2.size, ⟨?_, ?_, ?_, Nat.le_trans hsz1 hk2.size, fun b hb' hnf => ?_⟩, fun b h => m1 b (hI1 b (k1 b h)), fun b h => ?_, fun b h => ?_⟩
    · exact hk2.os.trans (hF1.below.os.trans hKp.os)
    · exact hk2.tape.trans (hF1.below.tape.trans hKp.tape)
    · exact hk2.output.trans (hF1.below.output.trans hKp.output)
    · have hFn : ¬ F b := fun hf => by
        rcases k3 b hf with h | h
        · exact hnf h
        · omega
      rw [hk2.block b (by omega) hFn, hF1.below.block b (by omega), hKp.block b hb' hnf]
    · rcases (m2 b h).1 with h | h
      · rcases (hI2 b h).1 with h | h
        · exact k2 b h
        · exact .inr (Nat.le_trans hb h)
      · exact .inr (Nat.le_trans hsz1 h)
    · rcases m3 b h with h | h
      · exact k3 b h
      · exact .inr (Nat.le_trans hsz1 h)
  · cases hg

theorem WE_sound (ho : SoundO P o) (hm : P.follows .mixedOrders = true) : ∀ (sh : ShE) (c : Code) (es : List (Nat × List Nat)) (out : List Nat) (cc : NE), compE P nt keep ret sh c es out = some cc → DoesE ρ P nt keep S0 F0 w00 (WE ρ P o cc) c
  | .c, c, es, out, cc, hc => by
    simp only [compE, Option.map_eq_some_iff] at hc
    obtain ⟨x, hx, rfl⟩ := hc
    intro env s K hW a w hFE Q hQ
    obtain ⟨ex, env1, he, hK⟩ := hW
    obtain ⟨S, F, base, wi, hF, hR, hFb, hb, hKp, k1, k2, k3⟩ := hFE
    exact exec_sound ho hm c es out x hx env ex env1 he a w hF Q fun a' w' h => hQ ex env1 s a' w' hK (FE.frame hF hR hFb hb hKp k1 k2 k3 h)
  | .seq s1 t1, .seq x y, es, out, cc, hc => by
    simp only [compE, Option.bind_eq_some_iff, Option.some.injEq] at hc
    obtain ⟨n1, h1, n2, h2, rfl⟩ := hc
    intro env s K hW a w hF Q hQ
    refine wp_seq (WE_sound ho hm s1 x _ _ n1 h1 env s _ hW a w hF _ fun ex env1 s' a1 w1 hK hF1 => ?_)
    cases ex with
    | n => exact WE_sound ho hm t1 y _ _ n2 h2 env1 s' _ hK a1 w1 hF1 Q hQ
    | e j => exact hQ (.e j) env1 s' a1 w1 hK hF1
    | r => exact hQ .r env1 s' a1 w1 hK hF1
  | .cond s1 t1, .cond c x y, es, out, cc, hc => by
    simp only [compE, Option.bind_eq_some_iff, Option.some.injEq] at hc
    obtain ⟨cx, hcx, n1, h1, n2, h2, rfl⟩ := hc
    intro env s K hW a w hF Q hQ
    obtain ⟨t', hv, hW⟩ := hW
    obtain ⟨_, _, _, _, hFI, _⟩ := id hF
    refine wp_cond (cond_val hFI hcx hv) ?_
    cases t' with
    | true => exact WE_sound ho hm s1 x _ _ n1 h1 env s K hW a w hF Q hQ
    | false => exact WE_sound ho hm t1 y _ _ n2 h2 env s K hW a w hF Q hQ
  | .blk s1, .block id x, es, out, cc, hc => by
    simp only [compE, Option.bind_eq_some_iff, Option.some.injEq] at hc
    obtain ⟨n1, h1, rfl⟩ := hc
    intro env s K hW a w hF Q hQ
    refine wp_block (WE_sound ho hm s1 x _ _ n1 h1 env s _ hW a w hF _ fun ex env1 s' a1 w1 hK hF1 => ?_)
    cases ex with
    | n => exact hQ .n env1 s' a1 w1 hK hF1
    | e j =>
      show Exit.inBlock id Q (.exit j) a1 w1
      simp only [Exit.inBlock]
      simp only at hK
      by_cases hj : j = id
      · rw [if_pos hj] at hK ⊢; exact hQ .n env1 s' a1 w1 hK hF1
      · rw [if_neg hj] at hK ⊢; exact hQ (.e j) env1 s' a1 w1 hK hF1
    | r => exact hQ .r env1 s' a1 w1 hK hF1
  | .loop s1, .loop x, es, out, cc, hc => by
    simp only [compE, Option.bind_eq_some_iff, Option.some.injEq] at hc
    obtain ⟨n1, h1, rfl⟩ := hc
    intro env s K hW a w hF Q hQ
    obtain ⟨n, hW⟩ := hW
    refine wp_loop_rounds n ?_
    induction n generalizing env s a w with
    | zero => exact hW.elim
    | succ n ih =>
      refine WE_sound ho hm s1 x _ _ n1 h1 _ s _ hW a w (hF.keepE _) _ fun ex env1 s' a1 w1 hK hF1 => ?_
      cases ex with
      | n => exact ih env1 s' a1 w1 hF1 hK
      | e j => exact hQ (.e j) env1 s' a1 w1 hK hF1
      | r => exact hQ .r env1 s' a1 w1 hK hF1
  | .eff, c, es, out, cc, hc => by
    unfold compE at hc
    split at hc <;> first | (rename_i hh; cases hh; done) | skip
    · simp only [Option.map_eq_some_iff] at hc
      obtain ⟨g, hg, rfl⟩ := hc
      exact eff_sound ho hg
    · cases hc

/-- What a function hands back that owns nothing. -/
theorem Res.rep {S : Nat → Prop} {base : Nat} {v : Value} {y : V} (h : Res P S w base v y) (hy : y.isOwn = false) (hn : y.names = none) (hu : y ≠ .ud) (ht : ∀ ys, y = .t ys → ∀ x ∈ ys, x.isOwn = false ∧ x.names = none ∧ x ≠ .ud) : Rep S w v y := by
  have one : ∀ (v : Value) (x : V), Res1 P S w base v x → x.isOwn = false → x.names = none → x ≠ .ud → Rep S w v x := by
    intro v x h h1 h2 h3
    cases x <;> first
      | exact h
      | (simp [V.isOwn] at h1; done)
      | (simp [V.names] at h2; done)
      | exact h.elim
  cases y <;> first
    | exact one _ _ h hy hn hu
    | skip
  rename_i ys
  obtain ⟨us, rfl, hl, hh, _⟩ := h
  refine .t _ _ (by simpa using hl) fun j u x hj hx => ?_
  obtain ⟨q1, q2, q3⟩ := ht ys rfl x (List.mem_of_getElem? hx)
  exact one u x (hh j u x (by simpa using hj) hx) q1 q2 q3
theorem bodyE_sound (ho : SoundO P o) {f : FuncId} {fn : Func} (hf : P.funcs[f]? = some fn) {sh : ShE} {nc : ECode} (hc : compileE P sh fn = some nc) {xs : List V} {y : V} {s s' : σ} (h1 : xs.length = nc.np) (h2 : xs.all V.arg = true)
    (hy1 : y.isOwn = false) (hy2 : y.names = none) (hy3 : y ≠ .ud) (hy4 : ∀ ys, y = .t ys → ∀ x ∈ ys, x.isOwn = false ∧ x.names = none ∧ x ≠ .ud)
    (hW : WE ρ P o nc.body (args0 0 xs) s fun e env s1 => (∀ j, e ≠ .e j) ∧ retV nc.res env = some y ∧ s1 = s') : PFE P ρ f xs s y s' := by
  unfold compileE at hc
  simp only [Option.bind_eq_some_iff] at hc
  obtain ⟨c, hbody, b, hcomp, rs, hres, hc⟩ := hc
  split at hc
  · rename_i hcond
    cases hc
    intro S F w vs hS hSF hG hr hR
    refine calls_of_wp hf hbody ?_
    have hlen : vs.length = fn.params.size + fn.nfree := hr.1.trans h1
    have hF := FI.start (P := P) (nt := fn.ntmps) (keep := keepOf fn c) hS hG hr h2 (by rw [h1]; exact hcond.1) (fun n hn => mem_union (List.mem_range.2 (by rw [h1] at hn; exact hn))) (by simp [hlen]; exact hcond.1)
    have hFE : FE ρ P fn.ntmps (keepOf fn c) S F w (args0 0 xs) s _ w := ⟨S, F, w.heap.size, w, hF, hR, fun b hb => ⟨ρ.lt _ _ _ b hR hb, hSF b hb⟩, Nat.le_refl _, ⟨rfl, rfl, rfl, Nat.le_refl _, fun _ _ _ => rfl⟩, fun _ h => h, fun b h => .inl h, fun b h => .inl h⟩
    refine WE_sound (S0 := S) (F0 := F) (w00 := w) ho hcond.2 sh c [] (resTmps fn) b hcomp _ s _ hW _ w hFE _ fun ex env' s1 a' w' hK hFE' => ?_
    obtain ⟨hx, hret, rfl⟩ := hK
    obtain ⟨S', F', base, wi, hF', hR', hFb, hb, hKp, k1, k2, k3⟩ := hFE'
    have fin : a'.defers = [] ∧ ∃ v, (results fn a'.tmps).run P w' = .ok v w' ∧ ∃ v', Ending.returned v = .returned v' ∧ Keeps w.heap.size F w w' ∧
        ∃ S'' F'' : Nat → Prop, (∀ b, S b → S'' b) ∧ (∀ b, S'' b → (S b ∨ w.heap.size ≤ b) ∧ b < w'.heap.size) ∧ ρ.R s1 F'' w' ∧ (∀ b, F'' b → F b ∨ w.heap.size ≤ b) ∧ (∀ b, F'' b → ¬ S'' b) ∧ Rep S'' w' v' y := by
      obtain ⟨Im, hI1, hI2, hE⟩ := hF'.ents
      have hret0 := hret
      unfold retV at hret
      simp only [Option.map_eq_some_iff] at hret
      obtain ⟨ys, hys, hy'⟩ := hret
      obtain ⟨us, hrun, hl, hh, hap, _⟩ := resVs_sound hE hF'.srt hres hys
      refine ⟨hF'.defers, (if h : us.toArray.size = 1 then us.toArray[0] else .tuple us.toArray), ?_, _, rfl, ⟨hF'.below.os.trans hKp.os, hF'.below.tape.trans hKp.tape, hF'.below.output.trans hKp.output, Nat.le_trans hb hF'.bsz, fun b hb' hnf => ?_⟩, Im, F', fun b h => hI1 b (k1 b h), fun b h => ⟨?_, (hI2 b h).2⟩, hR', k3, fun b hb' hi => ?_, ?_⟩
      · unfold results
        rw [Array.mapM_eq_mapM_toList]
        simp only [map_eq_pure_bind, Sem.run_bind]
        erw [hrun]
        simp only [Result.andThen_ok, Sem.run_pure]
      · rw [hF'.below.block b (by omega), hKp.block b hb' hnf]
      · rcases (hI2 b h).1 with h | h
        · exact k2 b h
        · exact .inr (Nat.le_trans hb h)
      · rcases (hI2 b hi).1 with h | h
        · exact (hFb b hb').2 h
        · have := (hFb b hb').1; omega
      · refine Res.rep (P := P) (base := base) ?_ hy1 hy2 hy3 hy4
        match ys, us, hl, hh, hy' with
        | [y1], [u1], _, hh, hy' =>
          simp only at hy'
          subst hy'
          have := hh 0 u1 y1 rfl rfl
          simp only [List.size_toArray, List.length_cons, List.length_nil, Nat.zero_add, dite_true]
          rw [Res.eq1]
          · exact this
          · intro zs e; subst e; exact this
        | [], [], _, hh, hy' =>
          simp only at hy'
          subst hy'
          exact ⟨[], rfl, rfl, by simp, fun i j u u' y y' g _ h => by simp at h⟩
        | y1 :: y2 :: yr, u1 :: u2 :: ur, hl, hh, hy' =>
          simp only at hy'
          subst hy'
          have h1 : ¬ (u1 :: u2 :: ur).toArray.size = 1 := by simp
          rw [dif_neg h1]
          exact ⟨_, rfl, hl, hh, hap⟩
    cases ex with
    | n => exact fin
    | r => exact fin
    | e id => exact absurd rfl (hx id)
  · cases hc
theorem roundE'_mono {F : Env → σ → (Ex → Env → σ → Prop) → Prop} (hF : ∀ env s (K K' : Ex → Env → σ → Prop), (∀ e env1 s1, K e env1 s1 → K' e env1 s1) → F env s K → F env s K') {kin : List Nat} {K K' : Ex → Env → σ → Prop} (h : ∀ e env1 s1, K e env1 s1 → K' e env1 s1) : ∀ (n : Nat) (env : Env) (s : σ), roundE' F kin K n env s → roundE' F kin K' n env s
  | 0, _, _, hn => hn
  | n + 1, env, s, hn => hF _ _ _ _ (fun e env1 s1 he => by
      cases e with
      | n => exact roundE'_mono hF h n env1 s1 he
      | e j => exact h _ _ _ he
      | r => exact h _ _ _ he) hn
theorem WE_mono : ∀ (c : NE) (env : Env) (s : σ) (K K' : Ex → Env → σ → Prop), (∀ e env1 s1, K e env1 s1 → K' e env1 s1) → WE ρ P o c env s K → WE ρ P o c env s K'
  | .c x, env, s, K, K', h, hW => by
    obtain ⟨e, env1, h1, h2⟩ := hW
    exact ⟨e, env1, h1, h _ _ _ h2⟩
  | .seq a b, env, s, K, K', h, hW => WE_mono a env s _ _ (fun e env1 s1 he => by
      cases e with
      | n => exact WE_mono b env1 s1 _ _ h he
      | e j => exact h _ _ _ he
      | r => exact h _ _ _ he) hW
  | .cond x a b, env, s, K, K', h, hW => by
    obtain ⟨t, h1, h2⟩ := hW
    refine ⟨t, h1, ?_⟩
    cases t with
    | true => exact WE_mono a env s _ _ h h2
    | false => exact WE_mono b env s _ _ h h2
  | .blk id a, env, s, K, K', h, hW => WE_mono a env s _ _ (fun e env1 s1 he => by
      cases e with
      | n => exact h _ _ _ he
      | r => exact h _ _ _ he
      | e j =>
        simp only at he ⊢
        by_cases h1 : j = id
        · rw [if_pos h1] at he ⊢; exact h _ _ _ he
        · rw [if_neg h1] at he ⊢; exact h _ _ _ he) hW
  | .loop kin a, env, s, K, K', h, hW => by
    obtain ⟨n, hn⟩ := hW
    exact ⟨n, roundE'_mono (fun env s K K' => WE_mono a env s K K') h n env s hn⟩
  | .eff g, env, s, K, K', h, hW => by
    obtain ⟨env1, h1, h2, vs, f, zs, y, s1, h3, h4, h5, h6, h7, h8⟩ := hW
    exact ⟨env1, h1, h2, vs, f, zs, y, s1, h3, h4, h5, h6, h7, h _ _ _ h8⟩
/-- A loop, by what holds ahead of each round. -/
theorem WE.loop {kin : List Nat} {a : NE} {K : Ex → Env → σ → Prop} (I : Nat → Env → σ → Prop)
    (h : ∀ n env s, I n env s → WE ρ P o a (VM.keepE kin env) s fun e env1 s1 => match e with
      | .n => ∃ k, k < n ∧ I k env1 s1
      | .e j => K (.e j) env1 s1
      | .r => K .r env1 s1) {n : Nat} {env : Env} {s : σ} (hI : I n env s) : WE ρ P o (.loop kin a) env s K := by
  have hF := fun env s K K' => WE_mono (ρ := ρ) (P := P) (o := o) a env s K K'
  have mono : ∀ (m : Nat) (env : Env) (s : σ), roundE' (WE ρ P o a) kin K m env s → roundE' (WE ρ P o a) kin K (m + 1) env s := by
    intro m
    induction m with
    | zero => intro env s h; exact h.elim
    | succ m ih =>
      intro env s h
      refine hF _ _ _ _ (fun e env1 s1 he => ?_) h
      cases e with
      | n => exact ih env1 s1 he
      | e j => exact he
      | r => exact he
  have mono' : ∀ (m k : Nat) (env : Env) (s : σ), m ≤ k → roundE' (WE ρ P o a) kin K m env s → roundE' (WE ρ P o a) kin K k env s := by
    intro m k env s hk
    induction hk with
    | refl => exact id
    | step _ ih => exact fun h => mono _ _ _ (ih h)
  refine ⟨n + 1, ?_⟩
  induction n using Nat.strongRecOn generalizing env s with
  | _ n ih =>
    refine hF _ _ _ _ (fun e env1 s1 he => ?_) (h n env s hI)
    cases e with
    | n =>
      obtain ⟨k, hk, hI'⟩ := he
      exact mono' (k + 1) n env1 s1 (by omega) (ih k hk hI')
    | e j => exact he
    | r => exact he
end
end Go.VM
