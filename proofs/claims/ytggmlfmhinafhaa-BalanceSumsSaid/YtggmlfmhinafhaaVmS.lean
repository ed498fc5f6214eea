/-
  Code with ranges over maps of the call's own: what holds of it whatever order the entries come in. No program is named here.
-/
import Derived.Test.YtggmlfmhinafhaaVmK
import Derived.Test.YtggmlfmhinafhaaVmO
import Derived.Maps.RangeRun
set_option linter.unusedSectionVars false
namespace Go.VM
open Go.RowKit

/-- The shape of code with ranges. -/
inductive Sh where
  | c
  | seq (a b : Sh)
  | cond (a b : Sh)
  | blk (a : Sh)
  | loop (a : Sh)
  | rng (a : Sh)
/-- A range: the steps ahead, the slots of the map, the iterator, the step, its test and the entry, what is live, the steps behind the entry, the blocks. -/
structure RG where
  pre : List St
  pk : List Nat
  m : Nat
  it : Nat
  nx : Nat
  tf : Nat
  kd : Nat
  kin : List Nat
  es : List St
  ek : List Nat
  bid : Nat
  cid : Nat
inductive N where
  | c (x : C)
  | seq (a b : N)
  | cond (x : X) (a b : N)
  | blk (id : Nat) (a : N)
  | loop (kin : List Nat) (a : N)
  | rng (r : RG) (a : N)

/-- A slot's map is taken away. -/
def consume (m : Nat) (env : Env) : Env := purge m (del m env)
def roundW (F : Env → (Ex → Env → Prop) → Prop) (kin : List Nat) (K : Ex → Env → Prop) : Nat → Env → Prop
  | 0, _ => False
  | n + 1, env => F (keepE kin env) fun e env1 => match e with
    | .n => roundW F kin K n env1
    | .e j => K (.e j) env1
    | .r => K .r env1
def roundG [Glob] (o : Orc) (F : Env → (Ex → Env → Prop) → Prop) (r : RG) (b : Nat) (K : Ex → Env → Prop) : Nat → List (V × V) → Env → Prop
  | 0, _, env => get r.it env = some (.pt b) ∧ K .n (dropE [r.it, r.nx, r.tf] env)
  | n + 1, L, env => get r.it env = some (.pt b) ∧ ∀ i k v, L[i]? = some (k, v) → ∃ env3, stepsS o r.es (put' r.kd (.t [k, v]) (dropE [r.nx, r.tf] (keepE r.kin env))) = some env3 ∧ F (dropE r.ek env3) fun e env4 => match e with
    | .n => roundG o F r b K n (L.eraseIdx i) env4
    | .e j => if j = r.cid then roundG o F r b K n (L.eraseIdx i) env4 else if j = r.bid then K .n env4 else K (.e j) env4
    | .r => K .r env4
/-- Whatever order the entries come in: the code ends so that K holds. -/
def WP [Glob] (o : Orc) : N → Env → (Ex → Env → Prop) → Prop
  | .c x, env, K => ∃ e env1, exec o x env = some (e, env1) ∧ K e env1
  | .seq a b, env, K => WP o a env fun e env1 => match e with
    | .n => WP o b env1 K
    | .e j => K (.e j) env1
    | .r => K .r env1
  | .cond x a b, env, K => ∃ t, evalX o env x = some (.b t) ∧ if t = true then WP o a env K else WP o b env K
  | .blk id a, env, K => WP o a env fun e env1 => match e with
    | .e j => if j = id then K .n env1 else K (.e j) env1
    | .n => K .n env1
    | .r => K .r env1
  | .loop kin a, env, K => ∃ n, roundW (WP o a) kin K n env
  | .rng r a, env, K => ∃ env1, stepsS o r.pre env = some env1 ∧ ∃ m ks vs, mapOf env1 r.m = some (m, ks, vs) ∧ ks.all V.cell = true ∧ vs.all V.cell = true ∧
    ∀ b, roundG o (WP o a) r b K ks.length (ks.zip vs) (put' r.it (.pt b) (dropE r.pk (consume m env1)))

/-! ### Out of the text -/
def headR (ops : List Oper) : Option (List Oper × TypeId × Nat × Nat) := match ops.reverse with
  | o :: r => match o.op, o.dst with
    | .range ty (.tmp m), some it => if o.guard = none then some (r.reverse, ty, m, it) else none
    | _, _ => none
  | [] => none
theorem headR_inv {ops pre : List Oper} {ty : TypeId} {m it : Nat} (h : headR ops = some (pre, ty, m, it)) : ∃ o, ops = pre ++ [o] ∧ o.op = .range ty (.tmp m) ∧ o.dst = some it ∧ o.guard = none := by
  unfold headR at h
  split at h
  · rename_i o r hr
    split at h
    · rename_i ty' m' it' h1 h2
      split at h
      · rename_i h3
        simp only [Option.some.injEq, Prod.mk.injEq] at h
        obtain ⟨rfl, rfl, rfl, rfl⟩ := h
        refine ⟨o, ?_, h1, h2, h3⟩
        have := congrArg List.reverse hr
        simpa using this
      · cases h
    · cases h
  · cases h
def nextR (ops : List Oper) : Option (Nat × Nat × Nat) := match ops with
  | [a, b] => match a.op, a.dst, b.op, b.dst with
    | .next (.tmp it) false, some nx, .extract (.tmp nx') 0, some tf => if nx' = nx ∧ a.guard = none ∧ b.guard = none then some (it, nx, tf) else none
    | _, _, _, _ => none
  | _ => none
theorem nextR_inv {ops : List Oper} {it nx tf : Nat} (h : nextR ops = some (it, nx, tf)) : ∃ a b, ops = [a, b] ∧ a.op = .next (.tmp it) false ∧ a.dst = some nx ∧ b.op = .extract (.tmp nx) 0 ∧ b.dst = some tf ∧ a.guard = none ∧ b.guard = none := by
  unfold nextR at h
  split at h
  · rename_i a b
    split at h
    · rename_i it' nx' nx'' tf' h1 h2 h3 h4
      split at h
      · rename_i h5
        simp only [Option.some.injEq, Prod.mk.injEq] at h
        obtain ⟨rfl, rfl, rfl⟩ := h
        obtain ⟨rfl, h6, h7⟩ := h5
        exact ⟨a, b, rfl, h1, h2, h3, h4, h6, h7⟩
      · cases h
    · cases h
  · cases h
def entryR (ops : List Oper) : Option (Nat × Nat × List Oper) := match ops with
  | e :: rest => match e.op, e.dst with
    | .entry (.tmp it), some kd => if e.guard = none then some (it, kd, rest) else none
    | _, _ => none
  | _ => none
theorem entryR_inv {ops rest : List Oper} {it kd : Nat} (h : entryR ops = some (it, kd, rest)) : ∃ e, ops = e :: rest ∧ e.op = .entry (.tmp it) ∧ e.dst = some kd ∧ e.guard = none := by
  unfold entryR at h
  split at h
  · rename_i e r
    split at h
    · rename_i it' kd' h1 h2
      split at h
      · rename_i h3
        simp only [Option.some.injEq, Prod.mk.injEq] at h
        obtain ⟨rfl, rfl, rfl⟩ := h
        exact ⟨e, rfl, h1, h2, h3⟩
      · cases h
    · cases h
  · cases h
/-- Every slot that operations write is one of the frame's. -/
def dstOk (nt : Nat) (ops : List Oper) : Bool := ops.all fun o => match o.dst with
  | some d => decide (d < nt)
  | none => true
/-- The slots of a region that do not outlive it. -/
def looseD (keep : List Nat) (ops : List Oper) : List Nat := (ops.flatMap fun o => o.dst.toList).filter fun t => !keep.contains t
section
variable (P : Program)
/-- What a range's three regions say. -/
def rgOf [Glob] (nt : Nat) (keep kin : List Nat) (o1 o2 o3 : List Oper) (t bid cid : Nat) : Option RG :=
  (headR o1).bind fun h => (nextR o2).bind fun n => (entryR o3).bind fun e => (toSts P h.1).bind fun ss => (toSts P e.2.2).bind fun es =>
    if (mapTy P h.2.1).isSome = true ∧ h.2.2.2 = n.1 ∧ e.1 = n.1 ∧ n.2.2 = t ∧ n.2.1 ≠ t ∧ keep.contains n.1 = true ∧ n.1 ≠ n.2.1 ∧ n.1 ≠ t ∧ dstOk nt o1 = true ∧ dstOk nt o2 = true ∧ dstOk nt o3 = true then
      some ⟨ss, looseD keep o1, h.2.2.1, n.1, n.2.1, t, e.2.1, kin, es, looseD keep o3, bid, cid⟩
    else none
def compN [Glob] (nt : Nat) (keep ret : List Nat) : Sh → Code → List (Nat × List Nat) → List Nat → Option N
  | .c, c, es, out => (comp P nt keep ret c es out).map .c
  | .seq s t, .seq a b, es, out => (compN nt keep ret s a es (live ret b es out)).bind fun x => (compN nt keep ret t b es out).bind fun y => some (.seq x y)
  | .cond s t, .cond c a b, es, out => (condX c).bind fun x => (compN nt keep ret s a es out).bind fun a => (compN nt keep ret t b es out).bind fun b => some (.cond x a b)
  | .blk s, .block id a, es, out => (compN nt keep ret s a ((id, out) :: es) out).bind fun a => some (.blk id a)
  | .loop s, .loop a, es, out => let l := sort1 ((live ret (.loop a) es out).filter fun t => keep.contains t)
    (compN nt keep ret s a es l).bind fun c => some (.loop l c)
  | .rng s, .seq (.region _ ops1 false) (.block bid (.loop (.seq (.region _ ops2 false) (.seq (.cond (.tmp t) .skip (.exit bid')) (.block cid (.seq (.region _ ops3 false) body)))))), es, out =>
    let l := sort1 ((live ret (.loop (.seq (.region 0 ops2 false) (.seq (.cond (.tmp t) .skip (.exit bid')) (.block cid (.seq (.region 0 ops3 false) body))))) ((bid, out) :: es) out).filter fun t => keep.contains t)
    if bid' = bid ∧ cid ≠ bid then (rgOf P nt keep l ops1.toList ops2.toList ops3.toList t bid cid).bind fun r => (compN nt keep ret s body ((cid, l) :: (bid, out) :: es) l).bind fun b => some (.rng r b) else none
  | _, _, _, _ => none
structure NCode where
  np : Nat
  res : List RV
  body : N
def compileN [Glob] (sh : Sh) (f : Func) : Option NCode := f.body.bind fun c =>
  let ret := resTmps f
  (compN P f.ntmps (keepOf f c) ret sh c [] ret).bind fun b => (resOf P f.results.toList).bind fun rs => if f.params.size + f.nfree ≤ f.ntmps ∧ (P.follows .mixedOrders = true) then some ⟨f.params.size + f.nfree, rs, b⟩ else none
end
end Go.VM
/-
  Ranges over maps of the call's own, whatever order the entries come in, do what is said of them. No program is named here.
-/
namespace Go.VM
open Go.RowKit
open Go.ChangeMaps (setBlock)
variable [Glob]

section
variable {P : Program} {nt : Nat} {keep ret : List Nat} {S : Nat → Prop} {base : Nat} {w0 : World} {env env' : Env} {a : Act} {w : World} {o : Orc}

theorem Res1.turn {Im : Nat → Prop} {w' : World} {v : Value} {x : V} (h : Res1 P Im w base v x) (hI : ∀ p : Addr, Im p.block → w'.cell? p = w.cell? p) (hN : x.isOwn = true → ∀ g, blkOf v = some g → w'.heap[g]? = w.heap[g]?) : Res1 P Im w' base v x := by
  cases x with
  | ow e es =>
    obtain ⟨⟨vs, ⟨hl, hv⟩, hk, h1, hr⟩, hn⟩ := h
    refine ⟨⟨vs, ⟨hl, ?_⟩, hk, h1, hr.move (fun _ h => h) hI⟩, hn⟩
    rcases hv with h | ⟨g, cap, cur, rfl, h2, hh, h3⟩
    · exact .inl h
    · exact .inr ⟨g, cap, cur, rfl, h2, (hN rfl g rfl).trans hh, h3⟩
  | bx cs =>
    obtain ⟨⟨g, vs, ty, rfl, h2, hh, h3, hr⟩, hn⟩ := h
    exact ⟨⟨g, vs, ty, rfl, h2, (hN rfl g rfl).trans hh, h3, hr.move (fun _ h => h) hI⟩, hn⟩
  | mp ks vs =>
    obtain ⟨⟨g, es, c, rfl, h2, hh, h3⟩, hn⟩ := h
    exact ⟨⟨g, es, c, rfl, h2, (hN rfl g rfl).trans hh, h3⟩, hn⟩
  | al n => exact h
  | pe a b c d => exact h
  | pb a b c => exact h
  | t ys => exact h
  | ud => exact h
  | _ => exact Rep.keep h hI
theorem Ents.turn {Im : Nat → Prop} {T : Tm} {w' : World} (h : Ents P Im w base env T) (hI : ∀ p : Addr, Im p.block → w'.cell? p = w.cell? p) (hO : ∀ m c g, Owns env T m c g → w'.heap[g]? = w.heap[g]?) : Ents P Im w' base env T := by
  refine ⟨fun n x hx => ?_, h.closed, h.apart, h.glob.move (fun _ h => h) hI⟩
  obtain ⟨u, hu, he⟩ := h.ent n x hx
  refine ⟨u, hu, ?_⟩
  by_cases hsm : x.smp = true
  · rw [Ent.res1 hsm] at he ⊢
    exact he.turn hI fun ho g hg => hO n none g ⟨x, u, hx, ho, hu, hg⟩
  cases x with
  | t ys =>
    obtain ⟨us, rfl, hl, hh⟩ := he
    refine ⟨us, rfl, hl, fun j v y hj hy => ?_⟩
    rcases hh j v y hj hy with h1 | h1
    · exact .inl h1
    · exact .inr (h1.turn hI fun ho g hg => hO n (some j) g ⟨ys, us, y, v, hx, hu, hy, ho, hj, hg⟩)
  | al k => exact he
  | pe k i off sz => exact he
  | pb k off sz => exact he
  | ud => exact he
  | _ => exact absurd rfl hsm
/-- A block that no cell lies in turns; the frame begins anew. -/
theorem FI.turn (hF : FI P nt keep S base w0 env a w) {r : Nat} (hr : S r) {w' : World} (hsz : w'.heap.size = w.heap.size) (hoth : ∀ b, b ≠ r → w'.heap[b]? = w.heap[b]?) (hc : ∀ p : Addr, p.block = r → w'.cell? p = w.cell? p) : FI P nt keep S base w' env a w' := by
  obtain ⟨Im, hI1, hI2, hE⟩ := hF.ents
  refine ⟨hF.srt, hF.size, hF.defers, Below.refl _ _, fun _ _ => rfl, by rw [hsz]; exact hF.bsz, hF.keys, Im, hI1, fun b hb => by rw [hsz]; exact hI2 b hb, ?_⟩
  refine hE.turn (fun p hp => ?_) fun n c g ho => hoth g fun e => (Owns.lt hE ho).2.2 (e ▸ hI1 r hr)
  by_cases h : p.block = r
  · exact hc p h
  · exact World.cell?_of_block (hoth _ h)
/-- Out of a stretch that kept more. -/
theorem FI.leave {S2 : Nat → Prop} {wi : World} (hF : FI P nt keep S2 base wi env a w) (hS : ∀ b, S b → S2 b) (hS2 : ∀ b, S2 b → S b ∨ base ≤ b) (hb : Below base w0 wi) (hk : ∀ b, S b → wi.heap[b]? = w0.heap[b]?) : FI P nt keep S base w0 env a w := by
  obtain ⟨Im, hI1, hI2, hE⟩ := hF.ents
  refine ⟨hF.srt, hF.size, hF.defers, hb.trans hF.below, fun b h => (hF.kept b (hS b h)).trans (hk b h), hF.bsz, hF.keys, Im, fun b h => hI1 b (hS b h), fun b h => ⟨?_, (hI2 b h).2⟩, hE⟩
  rcases (hI2 b h).1 with h | h
  · exact hS2 b h
  · exact .inr h
/-- Into a stretch that keeps more: blocks that nobody owns. -/
theorem FI.enter (hF : FI P nt keep S base w0 env a w) {S2 : Nat → Prop} (hS : ∀ b, S b → S2 b) (h : ∀ b, S2 b → S b ∨ (base ≤ b ∧ b < w.heap.size ∧ ∀ n c, ¬ Owns env (tm a) n c b)) : FI P nt keep S2 base w env a w := by
  obtain ⟨Im, hI1, hI2, hE⟩ := hF.ents
  refine ⟨hF.srt, hF.size, hF.defers, Below.refl _ _, fun _ _ => rfl, hF.bsz, hF.keys, fun b => Im b ∨ S2 b, fun b h => .inr h, fun b hb => ?_, hE.move (fun _ h => .inl h) (fun n c g ho hg => ?_) (fun _ _ => rfl) fun b h => (hI2 b h).2⟩
  · rcases hb with hb | hb
    · refine ⟨?_, (hI2 b hb).2⟩
      rcases (hI2 b hb).1 with h | h
      · exact .inl (hS b h)
      · exact .inr h
    · refine ⟨.inl hb, ?_⟩
      rcases h b hb with h | h
      · exact (hI2 b (hI1 b h)).2
      · exact h.2.1
  · have hlt := Owns.lt hE ho
    rcases hg with hg | hg
    · exact hlt.2.2 hg
    · rcases h g hg with h | h
      · exact hlt.2.2 (hI1 g h)
      · exact h.2.2 n c ho
/-- A slot's map is taken away. -/
theorem FI.consume (hF : FI P nt keep S base w0 env a w) {m : Nat} {x : V} (hx : get m env = some x) (hxo : x.isOwn = true) {u : Value} (hu : tm a m = some u) {g : Nat} (hg : blkOf u = some g) :
    FI P nt keep S base w0 (consume m env) a w ∧ ∀ n c, ¬ Owns (consume m env) (tm a) n c g := by
  obtain ⟨Im, hI1, hI2, hE⟩ := hF.ents
  have hs1 : Srt (del m env) := hF.srt.filter _
  have hsub : ∀ q y, get q (VM.consume m env) = some y → get q env = some y ∧ q ≠ m ∧ y.names ≠ some m := by
    intro q y hq
    unfold VM.consume at hq
    rw [get_purge hs1, get_del hF.srt] at hq
    by_cases hqm : q = m
    · rw [if_pos hqm] at hq; cases hq
    · rw [if_neg hqm] at hq
      cases hq' : get q env with
      | none => rw [hq'] at hq; cases hq
      | some x' =>
        rw [hq'] at hq
        simp only [Option.bind_some] at hq
        split at hq
        · cases hq
        · cases hq; exact ⟨rfl, hqm, ‹_›⟩
  have hsup : ∀ q y, q ≠ m → get q env = some y → y.names ≠ some m → get q (VM.consume m env) = some y := by
    intro q y hqm hq h1
    unfold VM.consume
    rw [get_purge hs1, get_del hF.srt, if_neg hqm, hq]
    simp only [Option.bind_some]
    rw [if_neg h1]
  refine ⟨⟨hs1.filter _, hF.size, hF.defers, hF.below, hF.kept, hF.bsz, fun n y h => hF.keys n y (hsub n y h).1, Im, hI1, hI2, hE.sub (fun n y h => (hsub n y h).1) fun n y j hy hj => ?_⟩, fun n c ho => ?_⟩
  · obtain ⟨h1, h2, h3⟩ := hsub n y hy
    obtain ⟨z, hz, hzn⟩ := hE.closed n y j h1 hj
    exact ⟨z, hsup j z (fun e => h3 (by rw [← e]; exact hj)) hz (by rw [hzn]; simp), hzn⟩
  · have hown : Owns env (tm a) m none g := ⟨x, u, hx, hxo, hu, hg⟩
    have : Owns env (tm a) n c g ∧ n ≠ m := by
      cases c with
      | none => obtain ⟨z, v, hz, h⟩ := ho; exact ⟨⟨z, v, (hsub _ _ hz).1, h⟩, (hsub _ _ hz).2.1⟩
      | some j => obtain ⟨zs, us, z, v, hz, h⟩ := ho; exact ⟨⟨zs, us, z, v, (hsub _ _ hz).1, h⟩, (hsub _ _ hz).2.1⟩
    exact this.2 (hE.apart _ _ _ _ _ this.1 hown).1

/-! ### Operations, one at a time -/
theorem wpOps_value {opsL : List Oper} {Q : Exit → Act → World → Prop} {n : Nat} {rest : List Nat} {op : Oper} (hat : opsL[n]? = some op) (hg : op.guard = none) {u : Value} {w1 : World} (hrun : (execOp a.eval op).run P w = .ok (.value u) w1)
    (h : wpOps P opsL.toArray Q rest (a.put op.dst u) w1) : wpOps P opsL.toArray Q (n :: rest) a w := by
  simp only [wpOps, List.getElem?_toArray, hat]
  have hw : Region.wanted op (yielded opsL.toArray a.tmps) = true := by simp [Region.wanted, hg]
  rw [if_pos hw]
  left
  refine Outc.wp ?_
  rw [hrun]
  exact h
/-- Steps, and more behind them. -/
theorem stepsS_pre (ho : SoundO P o) {opsL : List Oper} {Q : Exit → Act → World → Prop} {env' : Env} {rest : List Nat} : ∀ (r : List Oper) (ss : List St) (n : Nat) (env : Env) (a : Act) (w : World) (tl : List Oper), toSts P r = some ss → stepsS o ss env = some env' → opsL.drop n = r ++ tl → (∀ op ∈ r, ∀ d, op.dst = some d → d ∈ keep ∧ d < nt) →
    FI P nt keep S base w0 env a w → (∀ a' w', FI P nt keep S base w0 env' a' w' → wpOps P opsL.toArray Q rest a' w') → wpOps P opsL.toArray Q (List.range' n r.length ++ rest) a w
  | [], ss, n, env, a, w, tl, hss, hst, _, _, hF, hQ => by
    simp only [toSts, Option.some.injEq] at hss
    subst hss
    simp only [stepsS, Option.some.injEq] at hst
    subst hst
    exact hQ a w hF
  | op :: r, ss, n, env, a, w, tl, hss, hst, hdrop, hk, hF, hQ => by
    simp only [toSts, Option.bind_eq_some_iff, Option.some.injEq] at hss
    obtain ⟨s, hs, ss', hss', rfl⟩ := hss
    simp only [stepsS, Option.bind_eq_some_iff] at hst
    obtain ⟨env1, h1, h2⟩ := hst
    obtain ⟨hat, hdrop'⟩ := drop_cons hdrop
    obtain ⟨hg, hout⟩ := step_sound ho hF hs h1 (hk op (List.mem_cons_self ..))
    simp only [List.length_cons, List.range'_succ, List.cons_append, wpOps, List.getElem?_toArray, hat]
    have hw : Region.wanted op (yielded opsL.toArray a.tmps) = true := by simp [Region.wanted, hg]
    rw [if_pos hw]
    left
    refine Outc.wp ?_
    revert hout
    generalize (execOp a.eval op).run P w = res
    intro hout
    have next : ∀ u w1, FI P nt keep S base w0 env1 (a.put op.dst u) w1 → wpOps P opsL.toArray Q (List.range' (n + 1) r.length ++ rest) (a.put op.dst u) w1 := fun u w1 h =>
      stepsS_pre ho r ss' (n + 1) env1 _ w1 tl hss' h2 hdrop' (fun op' h' => hk op' (List.mem_cons_of_mem _ h')) h hQ
    unfold Outc at hout ⊢
    split at hout
    · exact next _ _ hout
    · exact next _ _ hout
    · exact hout.mono fun e w1 ⟨u, he, h⟩ => ⟨u, he, next _ _ h⟩
    · exact hout.elim

/-! ### What is left -/
theorem filter_erase {l : List MapEntry} (hn : (l.map (·.born)).Nodup) {i : Nat} {e : MapEntry} (he : l[i]? = some e) : l.filter (fun x => x.born != e.born) = l.eraseIdx i := by
  induction l generalizing i with
  | nil => simp at he
  | cons y l ih =>
    have hn' := List.nodup_cons.1 hn
    cases i with
    | zero =>
      simp only [List.getElem?_cons_zero, Option.some.injEq] at he
      subst he
      rw [List.eraseIdx_cons_zero, List.filter_cons, if_neg (by simp)]
      refine List.filter_eq_self.2 fun x hx => ?_
      simp only [bne_iff_ne, ne_eq]
      intro h
      exact hn'.1 (by show y.born ∈ _; rw [← h]; exact List.mem_map.2 ⟨x, hx, rfl⟩)
    | succ i =>
      simp only [List.getElem?_cons_succ] at he
      rw [List.eraseIdx_cons_succ, List.filter_cons, if_pos, ih hn'.2 he]
      simp only [bne_iff_ne, ne_eq]
      intro h
      exact hn'.1 (by show y.born ∈ _; rw [show y.born = e.born from h]; exact List.mem_map.2 ⟨e, List.mem_of_getElem? he, rfl⟩)
theorem left_toList (es : Array MapEntry) (seen : Array Nat) : (leftOf es seen).toList = es.toList.filter fun e => !seen.contains e.born := by
  unfold leftOf; rw [Array.toList_filter]
theorem left_next {es : Array MapEntry} {seen : Array Nat} (hn : (es.toList.map (·.born)).Nodup) {i : Nat} {e : MapEntry} (he : (leftOf es seen).toList[i]? = some e) : (leftOf es (seen.push e.born)).toList = (leftOf es seen).toList.eraseIdx i := by
  have hn' : ((leftOf es seen).toList.map (·.born)).Nodup := by
    rw [left_toList]
    exact List.Nodup.sublist (List.Sublist.map _ (List.filter_sublist ..)) hn
  rw [← filter_erase hn' he, left_toList, left_toList, List.filter_filter]
  refine List.filter_congr fun x _ => ?_
  rw [contains_push]
  cases seen.contains x.born <;> simp [bne]
end
end Go.VM
