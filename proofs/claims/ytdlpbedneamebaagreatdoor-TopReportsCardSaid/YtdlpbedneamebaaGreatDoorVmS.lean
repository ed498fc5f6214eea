/-
  Code with ranges over maps of the call's own: what holds of it whatever order the entries come in. No program is named here.
-/
import Derived.Test.YtdlpbedneamebaaGreatDoorVmK
import Derived.Test.YtdlpbedneamebaaGreatDoorVmO
import Derived.Maps.RangeRun
set_option linter.unusedSectionVars false
namespace Go.VM
open Go.RowKit

inductive Sh where
  | c
  | seq (a b : Sh)
  | cond (a b : Sh)
  | blk (a : Sh)
  | loop (a : Sh)
  | rng (a : Sh)
structure RG where
  pre : List St
  pk : List Nat
  m : Nat
  it : Nat
  nx : Nat
  tf : Nat
  kd : Nat
  kin : List Nat
  es : List St
  ek : List Nat
  bid : Nat
  cid : Nat
inductive N where
  | c (x : C)
  | seq (a b : N)
  | cond (x : X) (a b : N)
  | blk (id : Nat) (a : N)
  | loop (kin : List Nat) (a : N)
  | rng (r : RG) (a : N)

def consume (m : Nat) (env : Env) : Env := purge m (del m env)
def roundW (F : Env → (Ex → Env → Prop) → Prop) (kin : List Nat) (K : Ex → Env → Prop) : Nat → Env → Prop
  | 0, _ => False
  | n + 1, env => F (keepE kin env) fun e env1 => match e with
    | .n => roundW F kin K n env1
    | .e j => K (.e j) env1
    | .r => K .r env1
def roundG [Glob] (o : Orc) (F : Env → (Ex → Env → Prop) → Prop) (r : RG) (b : Nat) (K : Ex → Env → Prop) : Nat → List (V × V) → Env → Prop
  | 0, _, env => get r.it env = some (.pt b) ∧ K .n (dropE [r.it, r.nx, r.tf] env)
  | n + 1, L, env => get r.it env = some (.pt b) ∧ ∀ i k v, L[i]? = some (k, v) → ∃ env3, stepsS o r.es (put' r.kd (.t [k, v]) (dropE [r.nx, r.tf] (keepE r.kin env))) = some env3 ∧ F (dropE r.ek env3) fun e env4 => match e with
    | .n => roundG o F r b K n (L.eraseIdx i) env4
    | .e j => if j = r.cid then roundG o F r b K n (L.eraseIdx i) env4 else if j = r.bid then K .n env4 else K (.e j) env4
    | .r => K .r env4
def WP [Glob] (o : Orc) : N → Env → (Ex → Env → Prop) → Prop
  | .c x, env, K => ∃ e env1, exec o x env = some (e, env1) ∧ K e env1
  | .seq a b, env, K => WP o a env fun e env1 => match e with
    | .n => WP o b env1 K
    | .e j => K (.e j) env1
    | .r => K .r env1
  | .cond x a b, env, K => ∃ t, evalX o env x = some (.b t) ∧ if t = true then WP o a env K else WP o b env K
  | .blk id a, env, K => WP o a env fun e env1 => match e with
    | .e j => if j = id then K .n env1 else K (.e j) env1
    | .n => K .n env1
    | .r => K .r env1
  | .loop kin a, env, K => ∃ n, roundW (WP o a) kin K n env
  | .rng r a, env, K => ∃ env1, stepsS o r.pre env = some env1 ∧ ∃ m ks vs, mapOf env1 r.m = some (m, ks, vs) ∧ ks.all V.cell = true ∧ vs.all V.cell = true ∧
    ∀ b, roundG o (WP o a) r b K ks.length (ks.zip vs) (put' r.it (.pt b) (dropE r.pk (consume m env1)))

/-! ### Out of the text -/
def headR (ops : List Oper) : Option (List Oper × TypeId × Nat × Nat) := match ops.reverse with
  | o :: r => match o.op, o.dst with
    | .range ty (.tmp m), some it => if o.guard = none then some (r.reverse, ty, m, it) else none
    | _, _ => none
  | [] => none
theorem headR_inv {ops pre : List Oper} {ty : TypeId} {m it : Nat} (h : headR ops = some (pre, ty, m, it)) : ∃ o, ops = pre ++ [o] ∧ o.op = .range ty (.tmp m) ∧ o.dst = some it ∧ o.guard = none := by
  unfold headR at h
  split at h
  · rename_i o r hr
    split at h
    · rename_i ty' m' it' h1 h2
      split at h
      · rename_i h3
        simp only [Option.some.injEq, Prod.mk.injEq] at h
        obtain ⟨rfl, rfl, rfl, rfl⟩ := h
        refine ⟨o, ?_, h1, h2, h3⟩
        have := congrArg List.reverse hr
        simpa using this
      · cases h
    · cases h
  · cases h
def nextR (ops : List Oper) : Option (Nat × Nat × Nat) := match ops with
  | [a, b] => match a.op, a.dst, b.op, b.dst with
    | .next (.tmp it) false, some nx, .extract (.tmp nx') 0, some tf => if nx' = nx ∧ a.guard = none ∧ b.guard = none then some (it, nx, tf) else none
    | _, _, _, _ => none
  | _ => none
theorem nextR_inv {ops : List Oper} {it nx tf : Nat} (h : nextR ops = some (it, nx, tf)) : ∃ a b, ops = [a, b] ∧ a.op = .next (.tmp it) false ∧ a.dst = some nx ∧ b.op = .extract (.tmp nx) 0 ∧ b.dst = some tf ∧ a.guard = none ∧ b.guard = none := by
  unfold nextR at h
  split at h
  · rename_i a b
    split at h
    · rename_i it' nx' nx'' tf' h1 h2 h3 h4
      split at h
      · rename_i h5
        simp only [Option.some.injEq, Prod.mk.injEq] at h
        obtain ⟨rfl, rfl, rfl⟩ := h
        obtain ⟨rfl, h6, h7⟩ := h5
        exact ⟨a, b, rfl, h1, h2, h3, h4, h6, h7⟩
      · cases h
    · cases h
  · cases h
def entryR (ops : List Oper) : Option (Nat × Nat × List Oper) := match ops with
  | e :: rest => match e.op, e.dst with
    | .entry (.tmp it), some kd => if e.guard = none then some (it, kd, rest) else none
    | _, _ => none
  | _ => none
theorem entryR_inv {ops rest : List Oper} {it kd : Nat} (h : entryR ops = some (it, kd, rest)) : ∃ e, ops = e :: rest ∧ e.op = .entry (.tmp it) ∧ e.dst = some kd ∧ e.guard = none := by
  unfold entryR at h
  split at h
  · rename_i e r
    split at h
    · rename_i it' kd' h1 h2
      split at h
      · rename_i h3
        simp only [Option.some.injEq, Prod.mk.injEq] at h
        obtain ⟨rfl, rfl, rfl⟩ := h
        exact ⟨e, rfl, h1, h2, h3⟩
      · cases h
    · cases h
  · cases h
def dstOk (nt : Nat) (ops : List Oper) : Bool := ops.all fun o => match o.dst with
  | some d => decide (d < nt)
  | none => true
def looseD (keep : List Nat) (ops : List Oper) : List Nat := (ops.flatMap fun o => o.dst.toList).filter fun t => !keep.contains t
section
variable (P : Program)
def rgOf [Glob] (nt : Nat) (keep kin : List Nat) (o1 o2 o3 : List Oper) (t bid cid : Nat) : Option RG :=
  (headR o1).bind fun h => (nextR o2).bind fun n => (entryR o3).bind fun e => (toSts P h.1).bind fun ss => (toSts P e.2.2).bind fun es =>
    if (mapTy P h.2.1).isSome = true ∧ h.2.2.2 = n.1 ∧ e.1 = n.1 ∧ n.2.2 = t ∧ n.2.1 ≠ t ∧ keep.contains n.1 = true ∧ n.1 ≠ n.2.1 ∧ n.1 ≠ t ∧ dstOk nt o1 = true ∧ dstOk nt o2 = true ∧ dstOk nt o3 = true then
      some ⟨ss, looseD keep o1, h.2.2.1, n.1, n.2.1, t, e.2.1, kin, es, looseD keep o3, bid, cid⟩
    else none
def compN [Glob] (nt : Nat) (keep ret : List Nat) : Sh → Code → List (Nat × List Nat) → List Nat → Option N
  | .c, c, es, out => (comp P nt keep ret c es out).map .c
  | .seq s t, .seq a b, es, out => (compN nt keep ret s a es (live ret b es out)).bind fun x => (compN nt keep ret t b es out).bind fun y => some (.seq x y)
  | .cond s t, .cond c a b, es, out => (condX c).bind fun x => (compN nt keep ret s a es out).bind fun a => (compN nt keep ret t b es out).bind fun b => some (.cond x a b)
  | .blk s, .block id a, es, out => (compN nt keep ret s a ((id, out) :: es) out).bind fun a => some (.blk id a)
  | .loop s, .loop a, es, out => let l := sort1 ((live ret (.loop a) es out).filter fun t => keep.contains t)
    (compN nt keep ret s a es l).bind fun c => some (.loop l c)
  | .rng s, .seq (.region _ ops1 false) (.block bid (.loop (.seq (.region _ ops2 false) (.seq (.cond (.tmp t) .skip (.exit bid')) (.block cid (.seq (.region _ ops3 false) body)))))), es, out =>
    let l := sort1 ((live ret (.loop (.seq (.region 0 ops2 false) (.seq (.cond (.tmp t) .skip (.exit bid')) (.block cid (.seq (.region 0 ops3 false) body))))) ((bid, out) :: es) out).filter fun t => keep.contains t)
    if bid' = bid ∧ cid ≠ bid then (rgOf P nt keep l ops1.toList ops2.toList ops3.toList t bid cid).bind fun r => (compN nt keep ret s body ((cid, l) :: (bid, out) :: es) l).bind fun b => some (.rng r b) else none
  | _, _, _, _ => none
structure NCode where
  np : Nat
  res : List RV
  body : N
def compileN [Glob] (sh : Sh) (f : Func) : Option NCode := f.body.bind fun c =>
  let ret := resTmps f
  (compN P f.ntmps (keepOf f c) ret sh c [] ret).bind fun b => (resOf P f.results.toList).bind fun rs => if f.params.size + f.nfree ≤ f.ntmps ∧ (P.follows .mixedOrders = true) then some ⟨f.params.size + f.nfree, rs, b⟩ else none
end
end Go.VM
/-
  Ranges over maps of the call's own, whatever order the entries come in, do what is said of them. No program is named here.
-/
namespace Go.VM
open Go.RowKit
open Go.ChangeMaps (setBlock)
variable [Glob]

section
variable {P : Program} {nt : Nat} {keep ret : List Nat} {S : Nat → Prop} {base : Nat} {w0 : World} {env env' : Env} {a : Act} {w : World} {o : Orc}

theorem Res1.turn {Im : Nat → Prop} {w' : World} {v : Value} {x : V} (h : Res1 P Im w base v x) (hI : ∀ p : Addr, Im p.block → w'.cell? p = w.cell? p) (hN : x.isOwn = true → ∀ g, blkOf v = some g → w'.heap[g]? = w.heap[g]?) : Res1 P Im w' base v x := by
  cases x with
  | ow e es =>
    obtain ⟨⟨vs, ⟨hl, hv⟩, hk, h1, hr⟩, hn⟩ := h
    refine ⟨⟨vs, ⟨hl, ?_⟩, hk, h1, hr.move (fun _ h => h) hI⟩, hn⟩
    rcases hv with h | ⟨g, cap, cur, rfl, h2, hh, h3⟩
    · exact .inl h
    · exact .inr ⟨g, cap, cur, rfl, h2, (hN rfl g rfl).trans hh, h3⟩
  | bx cs =>
    obtain ⟨⟨g, vs, ty, rfl, h2, hh, h3, hr⟩, hn⟩ := h
    exact ⟨⟨g, vs, ty, rfl, h2, (hN rfl g rfl).trans hh, h3, hr.move (fun _ h => h) hI⟩, hn⟩
  | mp ks vs =>
    obtain ⟨⟨g, es, c, rfl, h2, hh, h3⟩, hn⟩ := h
    exact ⟨⟨g, es, c, rfl, h2, (hN rfl g rfl).trans hh, h3⟩, hn⟩
  | al n => exact h
  | pe a b c d => exact h
  | pb a b c => exact h
  | t ys => exact h
  | ud => exact h
  | _ => exact Rep.keep h hI
theorem Ents.turn {Im : Nat → Prop} {T : Tm} {w' : World} (h : Ents P Im w base env T) (hI : ∀ p : Addr, Im p.block → w'.cell? p = w.cell? p) (hO : ∀ m c g, Owns env T m c g → w'.heap[g]? = w.heap[g]?) : Ents P Im w' base env T := by
  refine ⟨fun n x hx => ?_, h.closed, h.apart, h.glob.move (fun _ h => h) hI⟩
  obtain ⟨u, hu, he⟩ := h.ent n x hx
  refine ⟨u, hu, ?_⟩
  by_cases hsm : x.smp = true
  · rw [Ent.res1 hsm] at he ⊢
    exact he.turn hI fun ho g hg => hO n none g ⟨x, u, hx, ho, hu, hg⟩
  cases x with
  | t ys =>
    obtain ⟨us, rfl, hl, hh⟩ := he
    refine ⟨us, rfl, hl, fun j v y hj hy => ?_⟩
    rcases hh j v y hj hy with h1 | h1
    · exact .inl h1
    · exact .inr (h1.turn hI fun ho g hg => hO n (some j) g ⟨ys, us, y, v, hx, hu, hy, ho, hj, hg⟩)
  | al k => exact he
  | pe k i off sz => exact he
  | pb k off sz => exact he
  | ud => exact he
  | _ => exact absurd rfl hsm
theorem FI.turn (hF : FI P nt keep S base w0 env a w) {r : Nat} (hr : S r) {w' : World} (hsz : w'.heap.size = w.heap.size) (hoth : ∀ b, b ≠ r → w'.heap[b]? = w.heap[b]?) (hc : ∀ p : Addr, p.block = r → w'.cell? p = w.cell? p) : FI P nt keep S base w' env a w' := by
  obtain ⟨Im, hI1, hI2, hE⟩ := hF.ents
  refine ⟨hF.srt, hF.size, hF.defers, Below.refl _ _, fun _ _ => rfl, by rw [hsz]; exact hF.bsz, hF.keys, Im, hI1, fun b hb => by rw [hsz]; exact hI2 b hb, ?_⟩
  refine hE.turn (fun p hp => ?_) fun n c g ho => hoth g fun e => (Owns.lt hE ho).2.2 (e ▸ hI1 r hr)
  by_cases h : p.block = r
  · exact hc p h
  · exact World.cell?_of_block (hoth _ h)
theorem FI.leave {S2 : Nat → Prop} {wi : World} (hF : FI P nt keep S2 base wi env a w) (hS : ∀ b, S b → S2 b) (hS2 : ∀ b, S2 b → S b ∨ base ≤ b) (hb : Below base w0 wi) (hk : ∀ b, S b → wi.heap[b]? = w0.heap[b]?) : FI P nt keep S base w0 env a w := by
  obtain ⟨Im, hI1, hI2, hE⟩ := hF.ents
  refine ⟨hF.srt, hF.size, hF.defers, hb.trans hF.below, fun b h => (hF.kept b (hS b h)).trans (hk b h), hF.bsz, hF.keys, Im, fun b h => hI1 b (hS b h), fun b h => ⟨?_, (hI2 b h).2⟩, hE⟩
  rcases (hI2 b h).1 with h | h
  · exact hS2 b h
  · exact .inr h
theorem FI.enter (hF : FI P nt keep S base w0 env a w) {S2 : Nat → Prop} (hS : ∀ b, S b → S2 b) (h : ∀ b, S2 b → S b ∨ (base ≤ b ∧ b < w.heap.size ∧ ∀ n c, ¬ Owns env (tm a) n c b)) : FI P nt keep S2 base w env a w := by
  obtain ⟨Im, hI1, hI2, hE⟩ := hF.ents
  refine ⟨hF.srt, hF.size, hF.defers, Below.refl _ _, fun _ _ => rfl, hF.bsz, hF.keys, fun b => Im b ∨ S2 b, fun b h => .inr h, fun b hb => ?_, hE.move (fun _ h => .inl h) (fun n c g ho hg => ?_) (fun _ _ => rfl) fun b h => (hI2 b h).2⟩
  · rcases hb with hb | hb
    · refine ⟨?_, (hI2 b hb).2⟩
      rcases (hI2 b hb).1 with h | h
      · exact .inl (hS b h)
      · exact .inr h
    · refine ⟨.inl hb, ?_⟩
      rcases h b hb with h | h
      · exact (hI2 b (hI1 b h)).2
      · exact h.2.1
  · have hlt := Owns.lt hE ho
    rcases hg with hg | hg
    · exact hlt.2.2 hg
    · rcases h g hg with h | h
      · exact hlt.2.2 (hI1 g h)
      · exact h.2.2 n c ho
theorem FI.consume (hF : FI P nt keep S base w0 env a w) {m : Nat} {x : V} (hx : get m env = some x) (hxo : x.isOwn = true) {u : Value} (hu : tm a m = some u) {g : Nat} (hg : blkOf u = some g) :
    FI P nt keep S base w0 (consume m env) a w ∧ ∀ n c, ¬ Owns (consume m env) (tm a) n c g := by
  obtain ⟨Im, hI1, hI2, hE⟩ := hF.ents
  have hs1 : Srt (del m env) := hF.srt.filter _
  have hsub : ∀ q y, get q (VM.consume m env) = some y → get q env = some y ∧ q ≠ m ∧ y.names ≠ some m := by
    intro q y hq
    unfold VM.consume at hq
    rw [get_purge hs1, get_del hF.srt] at hq
    by_cases hqm : q = m
    · rw [if_pos hqm] at hq; cases hq
    · rw [if_neg hqm] at hq
      cases hq' : get q env with
      | none => rw [hq'] at hq; cases hq
      | some x' =>
        rw [hq'] at hq
        simp only [Option.bind_some] at hq
        split at hq
        · cases hq
        · cases hq; exact ⟨rfl, hqm, ‹_›⟩
  have hsup : ∀ q y, q ≠ m → get q env = some y → y.names ≠ some m → get q (VM.consume m env) = some y := by
    intro q y hqm hq h1
    unfold VM.consume
    rw [get_purge hs1, get_del hF.srt, if_neg hqm, hq]
    simp only [Option.bind_some]
    rw [if_neg h1]
  refine ⟨⟨hs1.filter _, hF.size, hF.defers, hF.below, hF.kept, hF.bsz, fun n y h => hF.keys n y (hsub n y h).1, Im, hI1, hI2, hE.sub (fun n y h => (hsub n y h).1) fun n y j hy hj => ?_⟩, fun n c ho => ?_⟩
  · obtain ⟨h1, h2, h3⟩ := hsub n y hy
    obtain ⟨z, hz, hzn⟩ := hE.closed n y j h1 hj
    exact ⟨z, hsup j z (fun e => h3 (by rw [← e]; exact hj)) hz (by rw [hzn]; simp), hzn⟩
  · have hown : Owns env (tm a) m none g := ⟨x, u, hx, hxo, hu, hg⟩
    have : Owns env (tm a) n c g ∧ n ≠ m := by
      cases c with
      | none => obtain ⟨z, v, hz, h⟩ := ho; exact ⟨⟨z, v, (hsub _ _ hz).1, h⟩, (hsub _ _ hz).2.1⟩
      | some j => obtain ⟨zs, us, z, v, hz, h⟩ := ho; exact ⟨⟨zs, us, z, v, (hsub _ _ hz).1, h⟩, (hsub _ _ hz).2.1⟩
    exact this.2 (hE.apart _ _ _ _ _ this.1 hown).1

/-! ### Operations, one at a time -/
theorem wpOps_value {opsL : List Oper} {Q : Exit → Act → World → Prop} {n : Nat} {rest : List Nat} {op : Oper} (hat : opsL[n]? = some op) (hg : op.guard = none) {u : Value} {w1 : World} (hrun : (execOp a.eval op).run P w = .ok (.value u) w1)
    (h : wpOps P opsL.toArray Q rest (a.put op.dst u) w1) : wpOps P opsL.toArray Q (n :: rest) a w := by
  simp only [wpOps, List.getElem?_toArray, hat]
  have hw : Region.wanted op (yielded opsL.toArray a.tmps) = true := by simp [Region.wanted, hg]
  rw [if_pos hw]
  left
  refine Outc.wp ?_
  rw [hrun]
  exact h
theorem stepsS_pre (ho : SoundO P o) {opsL : List Oper} {Q : Exit → Act → World → Prop} {env' : Env} {rest : List Nat} : ∀ (r : List Oper) (ss : List St) (n : Nat) (env : Env) (a : Act) (w : World) (tl : List Oper), toSts P r = some ss → stepsS o ss env = some env' → opsL.drop n = r ++ tl → (∀ op ∈ r, ∀ d, op.dst = some d → d ∈ keep ∧ d < nt) →
    FI P nt keep S base w0 env a w → (∀ a' w', FI P nt keep S base w0 env' a' w' → wpOps P opsL.toArray Q rest a' w') → wpOps P opsL.toArray Q (List.range' n r.length ++ rest) a w
  | [], ss, n, env, a, w, tl, hss, hst, _, _, hF, hQ => by
    simp only [toSts, Option.some.injEq] at hss
    subst hss
    simp only [stepsS, Option.some.injEq] at hst
    subst hst
    exact hQ a w hF
  | op :: r, ss, n, env, a, w, tl, hss, hst, hdrop, hk, hF, hQ => by
    simp only [toSts, Option.bind_eq_some_iff, Option.some.injEq] at hss
    obtain ⟨s, hs, ss', hss', rfl⟩ := hss
    simp only [stepsS, Option.bind_eq_some_iff] at hst
    obtain ⟨env1, h1, h2⟩ := hst
    obtain ⟨hat, hdrop'⟩ := drop_cons hdrop
    obtain ⟨hg, hout⟩ := step_sound ho hF hs h1 (hk op (List.mem_cons_self ..))
    simp only [List.length_cons, List.range'_succ, List.cons_append, wpOps, List.getElem?_toArray, hat]
    have hw : Region.wanted op (yielded opsL.toArray a.tmps) = true := by simp [Region.wanted, hg]
    rw [if_pos hw]
    left
    refine Outc.wp ?_
    revert hout
    generalize (execOp a.eval op).run P w = res
    intro hout
    have next : ∀ u w1, FI P nt keep S base w0 env1 (a.put op.dst u) w1 → wpOps P opsL.toArray Q (List.range' (n + 1) r.length ++ rest) (a.put op.dst u) w1 := fun u w1 h =>
      stepsS_pre ho r ss' (n + 1) env1 _ w1 tl hss' h2 hdrop' (fun op' h' => hk op' (List.mem_cons_of_mem _ h')) h hQ
    unfold Outc at hout ⊢
    split at hout
    · exact next _ _ hout
    · exact next _ _ hout
    · exact hout.mono fun e w1 ⟨u, he, h⟩ => ⟨u, he, next _ _ h⟩
    · exact hout.elim

/-! ### What is left -/
theorem filter_erase {l : List MapEntry} (hn : (l.map (·.born)).Nodup) {i : Nat} {e : MapEntry} (he : l[i]? = some e) : l.filter (fun x => x.born != e.born) = l.eraseIdx i := by
  induction l generalizing i with
  | nil => simp at he
  | cons y l ih =>
    have hn' := List.nodup_cons.1 hn
    cases i with
    | zero =>
      simp only [List.getElem?_cons_zero, Option.some.injEq] at he
      subst he
      rw [List.eraseIdx_cons_zero, List.filter_cons, if_neg (by simp)]
      refine List.filter_eq_self.2 fun x hx => ?_
      simp only [bne_iff_ne, ne_eq]
      intro h
      exact hn'.1 (by show y.born ∈ _; rw [← h]; exact List.mem_map.2 ⟨x, hx, rfl⟩)
    | succ i =>
      simp only [List.getElem?_cons_succ] at he
      rw [List.eraseIdx_cons_succ, List.filter_cons, if_pos, ih hn'.2 he]
      simp only [bne_iff_ne, ne_eq]
      intro h
      exact hn'.1 (by show y.born ∈ _; rw [show y.born = e.born from h]; exact List.mem_map.2 ⟨e, List.mem_of_getElem? he, rfl⟩)
theorem left_toList (es : Array MapEntry) (seen : Array Nat) : (leftOf es seen).toList = es.toList.filter fun e => !seen.contains e.born := by
  unfold leftOf; rw [Array.toList_filter]
theorem left_next {es : Array MapEntry} {seen : Array Nat} (hn : (es.toList.map (·.born)).Nodup) {i : Nat} {e : MapEntry} (he : (leftOf es seen).toList[i]? = some e) : (leftOf es (seen.push e.born)).toList = (leftOf es seen).toList.eraseIdx i := by
  have hn' : ((leftOf es seen).toList.map (·.born)).Nodup := by
    rw [left_toList]
    exact List.Nodup.sublist (List.Sublist.map _ (List.filter_sublist ..)) hn
  rw [← filter_erase hn' he, left_toList, left_toList, List.filter_filter]
  refine List.filter_congr fun x _ => ?_
  rw [contains_push]
  cases seen.contains x.born <;> simp [bne]
end
end Go.VM
/-
  Code with ranges over maps, and functions of such code: contracts. No program is named here.
-/
namespace Go.VM
open Go.RowKit
open Go.ChangeMaps (setBlock)
variable [Glob]

section
variable {P : Program} {nt : Nat} {keep ret : List Nat} {S : Nat → Prop} {base : Nat} {w0 : World} {env env' : Env} {a : Act} {w : World} {o : Orc}

theorem dstOk_at {ops : List Oper} (h : dstOk nt ops = true) {op : Oper} (hop : op ∈ ops) {d : Nat} (hd : op.dst = some d) : d < nt := by
  have := List.all_eq_true.1 h op hop
  rw [hd] at this; simpa using this
theorem setBlock_other {w : World} {r b : Nat} {o' : Obj} (h : b ≠ r) : (setBlock w r o').heap[b]? = w.heap[b]? := by
  show (w.heap.setIfInBounds r o')[b]? = _
  rw [Array.getElem?_setIfInBounds]; simp [Ne.symm h]
theorem setBlock_size {w : World} {r : Nat} {o' : Obj} : (setBlock w r o').heap.size = w.heap.size := by
  show (w.heap.setIfInBounds r o').size = _
  simp
theorem setBlock_at {w : World} {r : Nat} {o o' : Obj} (h : w.heap[r]? = some o) : (setBlock w r o').heap[r]? = some o' := by
  show (w.heap.setIfInBounds r o')[r]? = _
  have := (Array.getElem?_eq_some_iff.1 h).1
  rw [Array.getElem?_setIfInBounds]; simp [this]
theorem iter_cell {w : World} {r : Nat} {m : Option Nat} {s c : Nat} {seen : Array Nat} (h : w.heap[r]? = some (.mapIter m s seen c)) {p : Addr} (hp : p.block = r) : w.cell? p = none := by
  simp [World.cell?, hp, h]
theorem pt_val (hF : FI P nt keep S base w0 env a w) {it r : Nat} (h : get it env = some (.pt r)) : tm a it = some (.pointer (some ⟨r, 0, none⟩)) := by
  obtain ⟨Im, _, _, hE⟩ := hF.ents
  obtain ⟨u, hu, he⟩ := hE.ent it _ h
  have he : Rep Im w u (.pt r) := he
  cases he
  exact hu

theorem get_dropE_mem {ks : List Nat} (hs : Srt env) {d : Nat} (hd : d ∈ ks) : get d (dropE ks env) = none := by
  unfold dropE
  rw [get_filter hs]
  cases get d env with
  | none => rfl
  | some x =>
    have : ks.contains d = true := by simpa using hd
    simp only [Option.bind_some, this]
    rfl
theorem cell_own {x : V} (hc : x.cell = true) : x.isOwn = false := by cases x <;> first | rfl | (simp [V.cell] at hc; done)
theorem rep_smp {x : V} (hu : x.uniq = true) (hc : x.cell = true) : ∀ Im : Nat → Prop, Res1 P Im w base x.toVal x := by
  have h := fun Im : Nat → Prop => rep_toVal (w := w) (Im := Im) hu hc
  cases x <;> first | exact h | (simp [V.cell] at hc; done) | (simp [V.uniq] at hu; done)
def LeftIs (es : Array MapEntry) (seen : Array Nat) (L : List (V × V)) : Prop := (leftOf es seen).toList.map (fun e => (e.key, e.val)) = L.map fun p => (p.1.toVal, p.2.toVal)
def Does (P : Program) (nt : Nat) (keep : List Nat) (base : Nat) (F : Env → (Ex → Env → Prop) → Prop) (c : Code) : Prop :=
  ∀ (S : Nat → Prop) (w0 : World) (env : Env) (K : Ex → Env → Prop), F env K → ∀ (a : Act) (w : World), FI P nt keep S base w0 env a w → ∀ Q : Exit → Act → World → Prop, (∀ ex env' a' w', K ex env' → FI P nt keep S base w0 env' a' w' → Q ex.exit a' w') → c.wp P Q a w

theorem rng_loop (ho : SoundO P o) {rg : RG} {F : Env → (Ex → Env → Prop) → Prop} {body : Code} (hbody : Does P nt keep base F body) {i2 i3 : Nat} {ops2 ops3 : Array Oper} {rest : List Oper}
    (h2 : nextR ops2.toList = some (rg.it, rg.nx, rg.tf)) (h3 : entryR ops3.toList = some (rg.it, rg.kd, rest)) (hes : toSts P rest = some rg.es) (hek : rg.ek = looseD keep ops3.toList) (hd2 : dstOk nt ops2.toList = true) (hd3 : dstOk nt ops3.toList = true)
    (hne : rg.nx ≠ rg.tf ∧ rg.it ≠ rg.nx ∧ rg.it ≠ rg.tf ∧ rg.cid ≠ rg.bid) {S2 : Nat → Prop} {r bm since clock : Nat} {es : Array MapEntry} (hS : ∀ b, S b → S2 b) (hS2 : ∀ b, S2 b → S b ∨ base ≤ b) (hr2 : S2 r) (hb2 : S2 bm) (hrb : r ≠ bm) (hSr : ∀ b, S b → b ≠ r) (hrB : base ≤ r)
    (hold : ∀ x ∈ es.toList, x.born < since) (hnd : (es.toList.map (·.born)).Nodup) {K : Ex → Env → Prop} {Q : Exit → Act → World → Prop} (hQ : ∀ ex env' a' w', K ex env' → FI P nt keep S base w0 env' a' w' → Q ex.exit a' w') :
    ∀ (n : Nat) (L : List (V × V)) (seen : Array Nat) (c0 : Nat) (env : Env) (a : Act) (wi w : World), L.length = n → FI P nt keep S2 base wi env a w → w.heap[r]? = some (.mapIter (some bm) since seen c0) → since ≤ c0 → since ≤ clock → w.heap[bm]? = some (.map es clock) → LeftIs es seen L → (∀ p ∈ L, p.1.uniq = true ∧ p.1.cell = true ∧ p.2.uniq = true ∧ p.2.cell = true) →
      Below base w0 wi → (∀ b, S b → wi.heap[b]? = w0.heap[b]?) → roundG o F rg r K n L env →
      Code.rounds P (.seq (.region i2 ops2 false) (.seq (.cond (.tmp rg.tf) .skip (.exit rg.bid)) (.block rg.cid (.seq (.region i3 ops3 false) body)))) (Exit.inBlock rg.bid Q) (n + 1) a w := by
  obtain ⟨x1, x2, e2, q1, q2, q3, q4, q5, q6⟩ := nextR_inv h2
  obtain ⟨y1, e3, q7, q8, q9⟩ := entryR_inv h3
  have hx1 : rg.nx < nt := dstOk_at hd2 (op := x1) (by rw [e2]; simp) q2
  have hx2 : rg.tf < nt := dstOk_at hd2 (op := x2) (by rw [e2]; simp) q4
  have hy1 : rg.kd < nt := dstOk_at hd3 (op := y1) (by rw [e3]; simp) q8
  have e2' : ops2 = #[x1, x2] := by apply Array.toList_inj.1; simpa using e2
  have e3' : ops3 = (y1 :: rest).toArray := by apply Array.toList_inj.1; simpa using e3
  obtain ⟨hn1, hn2, hn3, hn4⟩ := hne
  intro n
  induction n with
  | zero =>
    intro L seen c0 env a wi w hL hF hr hsc hscl hb hleft _ hbel hkept hG
    obtain ⟨hit, hK⟩ := hG
    have hL0 : L = [] := List.eq_nil_of_length_eq_zero hL
    have hu := pt_val hF hit
    have h0 : (leftOf es seen).size = 0 := by
      unfold LeftIs at hleft
      rw [hL0] at hleft
      have := congrArg List.length hleft
      simpa using this
    rw [rounds_succ]
    refine wp_seq (wp_region ?_)
    have hrun : (execOp a.eval x1).run P w = .ok (.value (.tuple #[.bool false])) w := by
      rcases run_next_at (P := P) w x1.type r bm since c0 seen es clock hr hb hold hsc with ⟨_, h⟩ | ⟨e, he, _⟩
      · simp only [execOp, q1, eval_tmp hu, Sem.run_bind, h, Result.andThen_ok, Sem.run_pure]
      · exfalso
        have hz : (leftOf es seen).toList = [] := by rw [Array.toList_eq_nil_iff]; exact Array.eq_empty_of_size_eq_zero h0
        rw [hz] at he; cases he
    have hsz : rg.nx < a.tmps.size := by rw [hF.size]; exact hx1
    have hF0 : FI P nt keep S base w0 (dropE [rg.it, rg.nx, rg.tf] env) a w := (hF.leave hS hS2 hbel hkept).dropE _ fun n h _ => h
    have hnog : ∀ d, d ∈ [rg.it, rg.nx, rg.tf] → get d (dropE [rg.it, rg.nx, rg.tf] env) = none := fun d hd => get_dropE_mem hF.srt hd
    have hF1 := hF0.put_dead (hnog rg.nx (by simp)) hx1 (.tuple #[.bool false])
    have hF2 := hF1.put_dead (hnog rg.tf (by simp)) hx2 (.bool false)
    subst e2'
    refine wpOps_value (opsL := [x1, x2]) (n := 0) rfl q5 hrun ?_
    rw [q2]
    refine wpOps_value (opsL := [x1, x2]) (n := 1) rfl q6 (u := .bool false) (w1 := w) ?_ ?_
    · have : tm (a.put (some rg.nx) (.tuple #[.bool false])) rg.nx = some (.tuple #[.bool false]) := (tm_put hsz _).trans (if_pos rfl)
      simp [execOp, q3, eval_tmp this, Instr.extract]
    rw [q4]
    show (Code.seq _ _).wp P _ _ _
    have hc : ((a.put (some rg.nx) (.tuple #[.bool false])).put (some rg.tf) (.bool false)).eval (.tmp rg.tf) = .bool false := eval_tmp ((tm_put (by rw [hF1.size]; exact hx2) _).trans (if_pos rfl))
    refine wp_seq (wp_cond hc ?_)
    refine wp_exit ?_
    show Exit.inBlock rg.bid Q (.exit rg.bid) _ _
    simp only [Exit.inBlock, if_true]
    exact hQ .n _ _ _ hK hF2
  | succ n ih =>
    intro L seen c0 env a wi w hL hF hr hsc hscl hb hleft hLc hbel hkept hG
    obtain ⟨hit, hG⟩ := hG
    have hu := pt_val hF hit
    have hlen : (leftOf es seen).toList.length = L.length := by
      have := congrArg List.length hleft
      simpa using this
    rw [rounds_succ]
    refine wp_seq (wp_region ?_)
    obtain ⟨e, he, w1, hw1, hrun⟩ : ∃ e ∈ (leftOf es seen).toList, ∃ w1 : World, (w1 = w ∨ w1 = w.drew) ∧ (Instr.next (.pointer (some ⟨r, 0, none⟩)) false x1.type).run P w = .ok (.tuple #[.bool true, e.key, e.val]) (setBlock w1 r (.mapIter (some bm) since (seen.push e.born) clock)) := by
      rcases run_next_at (P := P) w x1.type r bm since c0 seen es clock hr hb hold hsc with ⟨h0, _⟩ | h
      · exfalso
        have : (leftOf es seen).toList.length = 0 := by simpa using h0
        omega
      · exact h
    generalize hw2 : setBlock w1 r (.mapIter (some bm) since (seen.push e.born) clock) = w2 at hrun
    have hwh : w1.heap = w.heap := by rcases hw1 with rfl | rfl <;> rfl
    have hr1 : w1.heap[r]? = some (.mapIter (some bm) since seen c0) := by rw [hwh]; exact hr
    have hr2' : w2.heap[r]? = some (.mapIter (some bm) since (seen.push e.born) clock) := by rw [← hw2]; exact setBlock_at hr1
    have hoth : ∀ b, b ≠ r → w2.heap[b]? = w.heap[b]? := fun b hb => by rw [← hw2, setBlock_other hb, hwh]
    have hsz2 : w2.heap.size = w.heap.size := by rw [← hw2, setBlock_size, hwh]
    have hb2' : w2.heap[bm]? = some (.map es clock) := (hoth bm (Ne.symm hrb)).trans hb
    have hbel2 : Below base w0 w2 := by
      refine (hbel.trans hF.below).trans ⟨?_, ?_, ?_, by rw [hsz2]; exact Nat.le_refl _, fun k hk => hoth k (by omega)⟩
      all_goals (rw [← hw2]; rcases hw1 with rfl | rfl <;> rfl)
    have hkept2 : ∀ b, S b → w2.heap[b]? = w0.heap[b]? := fun b hb => (hoth b (hSr b hb)).trans ((hF.kept b (hS b hb)).trans (hkept b hb))
    obtain ⟨i, hi⟩ := List.getElem?_of_mem he
    have hiL : i < L.length := by rw [← hlen]; exact (List.getElem?_eq_some_iff.1 hi).1
    obtain ⟨k, v, hkv⟩ : ∃ k v, L[i]? = some (k, v) := ⟨_, _, List.getElem?_eq_getElem hiL⟩
    have hke : e.key = k.toVal ∧ e.val = v.toVal := by
      have := congrArg (fun l => l[i]?) hleft
      simp only [List.getElem?_map, hi, hkv, Option.map_some, Option.some.injEq, Prod.mk.injEq] at this
      exact this
    obtain ⟨hk1, hk2, hv1, hv2⟩ := hLc _ (List.mem_of_getElem? hkv)
    obtain ⟨env3, hst3, hbd⟩ := hG i k v hkv
    -- the frame behind the step
    have hT : FI P nt keep S2 base w2 env a w2 := hF.turn hr2 hsz2 hoth fun p hp => by rw [iter_cell hr2' hp, iter_cell hr hp]
    have hF0 := (hT.keepE rg.kin).dropE [rg.nx, rg.tf] (keep' := keep) fun n h _ => h
    have hnog : ∀ d, d ∈ [rg.nx, rg.tf] → get d (dropE [rg.nx, rg.tf] (keepE rg.kin env)) = none := fun d hd => get_dropE_mem (hF.keepE rg.kin).srt hd
    have hF1 := hF0.put_dead (hnog rg.nx (by simp)) hx1 (.tuple #[.bool true, e.key, e.val])
    have hF2 := hF1.put_dead (hnog rg.tf (by simp)) hx2 (.bool true)
    have hsz : rg.nx < a.tmps.size := by rw [hF.size]; exact hx1
    subst e2'
    refine wpOps_value (opsL := [x1, x2]) (n := 0) rfl q5 (u := .tuple #[.bool true, e.key, e.val]) (w1 := w2) ?_ ?_
    · simp only [execOp, q1, eval_tmp hu, Sem.run_bind, hrun, Result.andThen_ok, Sem.run_pure]
    rw [q2]
    refine wpOps_value (opsL := [x1, x2]) (n := 1) rfl q6 (u := .bool true) (w1 := w2) ?_ ?_
    · have : tm (a.put (some rg.nx) (.tuple #[.bool true, e.key, e.val])) rg.nx = some (.tuple #[.bool true, e.key, e.val]) := (tm_put hsz _).trans (if_pos rfl)
      simp [execOp, q3, eval_tmp this, Instr.extract]
    rw [q4]
    show (Code.seq _ _).wp P _ _ _
    have hc : ((a.put (some rg.nx) (.tuple #[.bool true, e.key, e.val])).put (some rg.tf) (.bool true)).eval (.tmp rg.tf) = .bool true := eval_tmp ((tm_put (by rw [hF1.size]; exact hx2) _).trans (if_pos rfl))
    refine wp_seq (wp_cond hc ?_)
    refine wp_skip ?_
    show (Code.block _ _).wp P _ _ _
    refine wp_block (wp_seq (wp_region ?_))
    have hu3 : tm ((a.put (some rg.nx) (.tuple #[.bool true, e.key, e.val])).put (some rg.tf) (.bool true)) rg.it = some (.pointer (some ⟨r, 0, none⟩)) := by
      rw [tm_put (by rw [hF1.size]; exact hx2), if_neg hn3, tm_put hsz, if_neg hn2]; exact hu
    generalize ((a.put (some rg.nx) (.tuple #[.bool true, e.key, e.val])).put (some rg.tf) (.bool true)) = a2 at hF2 hu3
    subst e3'
    have hrange : List.range (y1 :: rest).toArray.size = 0 :: (List.range' 1 rest.length ++ []) := by
      rw [List.size_toArray, List.length_cons, List.range_eq_range', List.range'_succ, List.append_nil]
    rw [hrange]
    refine wpOps_value (opsL := y1 :: rest) (n := 0) rfl q9 (u := .tuple #[e.key, e.val]) (w1 := w2) ?_ ?_
    · simp only [execOp, q7, eval_tmp hu3, Sem.run_bind, run_entry_at w2 r bm since seen es clock e hr2' hb2' (mem_left he).1 hnd, Result.andThen_ok, Sem.run_pure]
    rw [q8]
    have hFk := hF2.keys_mono (keep' := keep ++ ((y1 :: rest).flatMap fun o => o.dst.toList)) fun n hn => List.mem_append_left _ hn
    obtain ⟨Im, hI1, hI2, hE⟩ := hFk.ents
    have hF3 := hFk.put_res (d := some rg.kd) (fun d hd => by
        simp only [Option.some.injEq] at hd
        subst hd
        exact ⟨List.mem_append_right _ (by simp [q8]), hy1⟩) (Below.refl _ _) hI1 hI2 hE (fun _ h => h) (fun b h => ⟨.inl h, (hI2 b h).2⟩) (v := .tuple #[e.key, e.val]) (y := .t [k, v])
      ⟨[e.key, e.val], rfl, rfl, fun j u y hj hy => by
        rcases j with _ | _ | j
        · simp at hj hy; subst hj hy; rw [hke.1]; exact rep_smp hk1 hk2 _
        · simp at hj hy; subst hj hy; rw [hke.2]; exact rep_smp hv1 hv2 _
        · simp at hj, fun i j u u' y y' g _ hi _ hyi _ hyo _ => by
        rcases i with _ | _ | i
        · simp at hyi; subst hyi; rw [cell_own hk2] at hyo; cases hyo
        · simp at hyi; subst hyi; rw [cell_own hv2] at hyo; cases hyo
        · simp at hyi⟩
    refine stepsS_pre ho (opsL := y1 :: rest) (rest := []) rest rg.es 1 _ _ w2 [] hes hst3 (by simp) (fun op hop d hd => ⟨List.mem_append_right _ (List.mem_flatMap.2 ⟨op, List.mem_cons_of_mem _ hop, by simp [hd]⟩), dstOk_at hd3 (List.mem_cons_of_mem _ hop) hd⟩) hF3 fun a3 w3 hF4 => ?_
    have hF5 : FI P nt keep S2 base w2 (dropE rg.ek env3) a3 w3 := hF4.dropE _ fun n hn hd => by
      by_cases hk : n ∈ keep
      · exact hk
      · rcases List.mem_append.1 hn with h | h
        · exact h
        · refine absurd ?_ hd
          rw [hek]
          exact List.mem_filter.2 ⟨h, by simp [hk]⟩
    show body.wp P _ _ _
    refine hbody S2 w2 _ _ hbd a3 w3 hF5 _ fun ex env4 a4 w4 hK4 hF6 => ?_
    have next : roundG o F rg r K n (L.eraseIdx i) env4 → Code.rounds P (.seq (.region i2 [x1, x2].toArray false) (.seq (.cond (.tmp rg.tf) .skip (.exit rg.bid)) (.block rg.cid (.seq (.region i3 (y1 :: rest).toArray false) body)))) (Exit.inBlock rg.bid Q) (n + 1) a4 w4 := fun h => by
      refine ih (L.eraseIdx i) (seen.push e.born) clock env4 a4 w2 w4 (by rw [List.length_eraseIdx, if_pos hiL]; omega) hF6 ((hF6.kept r hr2).trans hr2') hscl hscl ((hF6.kept bm hb2).trans hb2') ?_ (fun p hp => hLc p (List.mem_of_mem_eraseIdx hp)) hbel2 hkept2 h
      unfold LeftIs at hleft ⊢
      rw [left_next hnd hi]
      rw [List.eraseIdx_eq_take_drop_succ, List.eraseIdx_eq_take_drop_succ, List.map_append, List.map_append, List.map_take, List.map_drop, hleft, List.map_take, List.map_drop]
    have out : ∀ ex', K ex' env4 → Q ex'.exit a4 w4 := fun ex' h => hQ ex' env4 a4 w4 h (hF6.leave hS hS2 hbel2 hkept2)
    cases ex with
    | n => exact next hK4
    | r => exact out .r hK4
    | e j =>
      simp only at hK4
      show Exit.inBlock rg.cid _ (.exit j) a4 w4
      simp only [Exit.inBlock]
      by_cases hj : j = rg.cid
      · rw [if_pos hj] at hK4 ⊢; exact next hK4
      · rw [if_neg hj] at hK4 ⊢
        show Exit.inBlock rg.bid Q (.exit j) a4 w4
        simp only [Exit.inBlock]
        by_cases hj2 : j = rg.bid
        · rw [if_pos hj2] at hK4 ⊢; exact out .n hK4
        · rw [if_neg hj2] at hK4 ⊢; exact out (.e j) hK4


theorem rng_sound (ho : SoundO P o) {rg : RG} {F : Env → (Ex → Env → Prop) → Prop} {body : Code} (hbody : Does P nt keep base F body) {i1 i2 i3 t bid cid : Nat} {kin : List Nat} {ops1 ops2 ops3 : Array Oper} (hne : cid ≠ bid)
    (hrg : rgOf P nt keep kin ops1.toList ops2.toList ops3.toList t bid cid = some rg) {K : Ex → Env → Prop} (hW : ∃ env1, stepsS o rg.pre env = some env1 ∧ ∃ m ks vs, mapOf env1 rg.m = some (m, ks, vs) ∧ ks.all V.cell = true ∧ vs.all V.cell = true ∧
      ∀ b, roundG o F rg b K ks.length (ks.zip vs) (put' rg.it (.pt b) (dropE rg.pk (consume m env1))))
    (hF : FI P nt keep S base w0 env a w) {Q : Exit → Act → World → Prop} (hQ : ∀ ex env' a' w', K ex env' → FI P nt keep S base w0 env' a' w' → Q ex.exit a' w') :
    (Code.seq (.region i1 ops1 false) (.block bid (.loop (.seq (.region i2 ops2 false) (.seq (.cond (.tmp t) .skip (.exit bid)) (.block cid (.seq (.region i3 ops3 false) body))))))).wp P Q a w := by
  unfold rgOf at hrg
  simp only [Option.bind_eq_some_iff] at hrg
  obtain ⟨⟨pre, ty, m0, it⟩, h1, ⟨it', nx, tf⟩, h2, ⟨it'', kd, rest⟩, h3, ss, hss, es', hes, hrg⟩ := hrg
  split at hrg
  · rename_i hc
    simp only [Option.some.injEq] at hrg
    subst hrg
    obtain ⟨hmt, rfl, rfl, rfl, hnt, hki, hin, hit, hd1, hd2, hd3⟩ := hc
    simp only at *
    obtain ⟨x, e1, q1, q2, q3⟩ := headR_inv h1
    obtain ⟨env1, hst, m, ks, vs, hmap, hkc, hvc, hG⟩ := hW
    have e1' : ops1 = (pre ++ [x]).toArray := by apply Array.toList_inj.1; simpa using e1
    subst e1'
    have hitn : it'' < nt := dstOk_at hd1 (op := x) (by simp) q2
    refine wp_seq (wp_region ?_)
    have hrange : List.range (pre ++ [x]).toArray.size = List.range' 0 pre.length ++ [pre.length] := by
      rw [List.size_toArray, List.length_append, List.length_singleton, List.range_eq_range', List.range'_concat]; simp
    rw [hrange]
    have hFk := hF.keys_mono (keep' := keep ++ ((pre ++ [x]).flatMap fun o => o.dst.toList)) fun n hn => List.mem_append_left _ hn
    refine stepsS_pre ho (opsL := pre ++ [x]) (rest := [pre.length]) pre ss 0 env a w [x] hss hst (by simp) (fun op hop d hd => ⟨List.mem_append_right _ (List.mem_flatMap.2 ⟨op, List.mem_append_left _ hop, by simp [hd]⟩), dstOk_at hd1 (List.mem_append_left _ hop) hd⟩) hFk fun a1 w1 hF1 => ?_
    obtain ⟨Im, hI1, hI2, hE⟩ := hF1.ents
    obtain ⟨bm, es, clock, hT0, hTm, hbB, hbm, hk1, hk2, hk3, hk4, hnIm, hnd, hborn⟩ := mapOf_val hE hmap
    have hbml : bm < w1.heap.size := (Array.getElem?_eq_some_iff.1 hbm).1
    unfold mapTy at hmt
    split at hmt
    · rename_i k0 el hu
      have hrun : (execOp a1.eval x).run P w1 = .ok (.value (.pointer (some ⟨w1.heap.size, 0, none⟩))) (w1.alloc (.mapIter (some bm) clock #[] clock)) := by
        simp only [execOp, q1, eval_tmp hT0, Sem.run_bind, run_range_map w1 ty k0 el bm es clock hu hbm, Result.andThen_ok, Sem.run_pure]
      refine wpOps_value (opsL := pre ++ [x]) (n := pre.length) (by simp) q3 hrun ?_
      rw [q2]
      have hb1 : Below w1.heap.size w1 (w1.alloc (.mapIter (some bm) clock #[] clock)) := (Below.refl _ _).alloc (Nat.le_refl _) _
      obtain ⟨hF2, hno⟩ := hF1.consume (mapOf_get hmap).1 rfl hTm (g := bm) rfl
      have hnoR : ∀ n c, ¬ Owns (consume m env1) (tm a1) n c w1.heap.size := fun n c hown => by
        obtain ⟨Im', _, _, hE'⟩ := hF2.ents
        exact absurd (Owns.lt hE' hown).1 (Nat.lt_irrefl _)
      have hF3 := (hF2.grow hb1)
      have hSlt : ∀ b, S b → b < w1.heap.size := fun b hb => (hI2 b (hI1 b hb)).2
      have hsz : (w1.alloc (.mapIter (some bm) clock #[] clock)).heap.size = w1.heap.size + 1 := by simp
      generalize hw2 : w1.alloc (.mapIter (some bm) clock #[] clock) = w2 at hF3 hb1 hsz
      have hr2 : w2.heap[w1.heap.size]? = some (.mapIter (some bm) clock #[] clock) := by rw [← hw2]; exact heap_alloc_new _ _
      have hbm2 : w2.heap[bm]? = some (.map es clock) := by rw [← hw2, heap_alloc_old _ _ hbml]; exact hbm
      have hF4 : FI P nt (keep ++ ((pre ++ [x]).flatMap fun o => o.dst.toList)) (fun b => S b ∨ b = w1.heap.size ∨ b = bm) base w2 (consume m env1) a1 w2 := hF3.enter (fun b h => .inl h) fun b hb => by
        rcases hb with hb | rfl | rfl
        · exact .inl hb
        · exact .inr ⟨hF1.bsz, by omega, hnoR⟩
        · exact .inr ⟨hbB, by omega, hno⟩
      have hF5 : FI P nt keep (fun b => S b ∨ b = w1.heap.size ∨ b = bm) base w2 (dropE (looseD keep (pre ++ [x])) (consume m env1)) a1 w2 := hF4.dropE _ fun n hn hd => by
        by_cases hk : n ∈ keep
        · exact hk
        · rcases List.mem_append.1 hn with h | h
          · exact h
          · exact absurd (List.mem_filter.2 ⟨h, by simp [hk]⟩) hd
      have hF6 := hF5.put_rep (d := it'') (by simpa using hki) hitn (Below.refl _ _) (x := .pt w1.heap.size) (u := .pointer (some ⟨w1.heap.size, 0, none⟩)) rfl rfl fun Im _ h2 _ => ⟨Im, fun _ h => h, fun b h => ⟨.inl h, (h2 b h).2⟩, .pt _⟩
      show (Code.block _ _).wp P _ _ _
      refine wp_block (wp_loop_rounds (ks.length + 1) ?_)
      have hkv : ks.length = vs.length := by
        have e1 := congrArg List.length hk1
        have e2 := congrArg List.length hk2
        simp only [List.length_map] at e1 e2
        omega
      refine rng_loop (rg := ⟨ss, looseD keep (pre ++ [x]), m0, it'', nx, tf, kd, kin, es', looseD keep ops3.toList, bid, cid⟩) ho hbody h2 h3 hes rfl hd2 hd3 ⟨hnt, hin, hit, hne⟩ (S2 := fun b => S b ∨ b = w1.heap.size ∨ b = bm) (r := w1.heap.size) (bm := bm) (since := clock) (clock := clock) (es := es) (fun b h => .inl h) (fun b hb => ?_) (.inr (.inl rfl)) (.inr (.inr rfl)) (by omega) (fun b hb => by have := hSlt b hb; omega) hF1.bsz
        hborn hnd (K := K) (Q := Q) hQ ks.length (ks.zip vs) #[] clock _ _ w2 w2 (by rw [List.length_zip]; omega) hF6 hr2 (Nat.le_refl _) (Nat.le_refl _) hbm2 ?_ (fun p hp => ?_) ?_ ?_ (hG w1.heap.size)
      · rcases hb with hb | rfl | rfl
        · exact .inl hb
        · exact .inr hF1.bsz
        · exact .inr hbB
      · unfold LeftIs
        have : leftOf es #[] = es := by unfold leftOf; exact Array.filter_eq_self.2 (by simp)
        rw [this]
        have hl : es.toList.length = ks.length := by
          have e1 := congrArg List.length hk1
          simpa using e1
        apply List.ext_getElem?
        intro i
        have a1 := congrArg (fun l => l[i]?) hk1
        have a2 := congrArg (fun l => l[i]?) hk2
        simp only [List.getElem?_map] at a1 a2 ⊢
        rw [List.zip_eq_zipWith, List.getElem?_zipWith]
        cases he : es.toList[i]? with
        | none =>
          rw [he] at a1
          cases hq : ks[i]? with
          | none => rfl
          | some q => rw [hq] at a1; cases a1
        | some e =>
          rw [he] at a1 a2
          cases hq : ks[i]? with
          | none => rw [hq] at a1; cases a1
          | some q =>
            cases hq2 : vs[i]? with
            | none => rw [hq2] at a2; cases a2
            | some q2 =>
              rw [hq] at a1; rw [hq2] at a2
              simp only [Option.map_some, Option.some.injEq] at a1 a2 ⊢
              rw [a1, a2]
      · have hp1 : p.1 ∈ ks := (List.of_mem_zip hp).1
        have hp2 : p.2 ∈ vs := (List.of_mem_zip hp).2
        exact ⟨hk3 _ hp1, List.all_eq_true.1 hkc _ hp1, hk4 _ hp2, List.all_eq_true.1 hvc _ hp2⟩
      · exact hF3.below
      · exact hF3.kept
    · cases hmt
  · cases hrg

theorem WP_sound (ho : SoundO P o) (hm : P.follows .mixedOrders = true) : ∀ (s : Sh) (c : Code) (es : List (Nat × List Nat)) (out : List Nat) (cc : N), compN P nt keep ret s c es out = some cc → Does P nt keep base (WP o cc) c
  | .c, c, es, out, cc, hc => by
    simp only [compN, Option.map_eq_some_iff] at hc
    obtain ⟨x, hx, rfl⟩ := hc
    intro S w0 env K hW a w hF Q hQ
    obtain ⟨ex, env1, he, hK⟩ := hW
    exact exec_sound ho hm c es out x hx env ex env1 he a w hF Q fun a' w' h => hQ ex env1 a' w' hK h
  | .seq s t, .seq x y, es, out, cc, hc => by
    simp only [compN, Option.bind_eq_some_iff, Option.some.injEq] at hc
    obtain ⟨n1, h1, n2, h2, rfl⟩ := hc
    intro S w0 env K hW a w hF Q hQ
    refine wp_seq (WP_sound ho hm s x _ _ n1 h1 S w0 env _ hW a w hF _ fun ex env1 a1 w1 hK hF1 => ?_)
    cases ex with
    | n => exact WP_sound ho hm t y _ _ n2 h2 S w0 env1 _ hK a1 w1 hF1 Q hQ
    | e j => exact hQ (.e j) env1 a1 w1 hK hF1
    | r => exact hQ .r env1 a1 w1 hK hF1
  | .cond s t, .cond c x y, es, out, cc, hc => by
    simp only [compN, Option.bind_eq_some_iff, Option.some.injEq] at hc
    obtain ⟨cx, hcx, n1, h1, n2, h2, rfl⟩ := hc
    intro S w0 env K hW a w hF Q hQ
    obtain ⟨t', hv, hW⟩ := hW
    refine wp_cond (cond_val hF hcx hv) ?_
    cases t' with
    | true => exact WP_sound ho hm s x _ _ n1 h1 S w0 env K hW a w hF Q hQ
    | false => exact WP_sound ho hm t y _ _ n2 h2 S w0 env K hW a w hF Q hQ
  | .blk s, .block id x, es, out, cc, hc => by
    simp only [compN, Option.bind_eq_some_iff, Option.some.injEq] at hc
    obtain ⟨n1, h1, rfl⟩ := hc
    intro S w0 env K hW a w hF Q hQ
    refine wp_block (WP_sound ho hm s x _ _ n1 h1 S w0 env _ hW a w hF _ fun ex env1 a1 w1 hK hF1 => ?_)
    cases ex with
    | n => exact hQ .n env1 a1 w1 hK hF1
    | e j =>
      show Exit.inBlock id Q (.exit j) a1 w1
      simp only [Exit.inBlock]
      simp only at hK
      by_cases hj : j = id
      · rw [if_pos hj] at hK ⊢; exact hQ .n env1 a1 w1 hK hF1
      · rw [if_neg hj] at hK ⊢; exact hQ (.e j) env1 a1 w1 hK hF1
    | r => exact hQ .r env1 a1 w1 hK hF1
  | .loop s, .loop x, es, out, cc, hc => by
    simp only [compN, Option.bind_eq_some_iff, Option.some.injEq] at hc
    obtain ⟨n1, h1, rfl⟩ := hc
    intro S w0 env K hW a w hF Q hQ
    obtain ⟨n, hW⟩ := hW
    refine wp_loop_rounds n ?_
    induction n generalizing env a w with
    | zero => exact hW.elim
    | succ n ih =>
      refine WP_sound ho hm s x _ _ n1 h1 S w0 _ _ hW a w (hF.keepE _) _ fun ex env1 a1 w1 hK hF1 => ?_
      cases ex with
      | n => exact ih env1 a1 w1 hF1 hK
      | e j => exact hQ (.e j) env1 a1 w1 hK hF1
      | r => exact hQ .r env1 a1 w1 hK hF1
  | .rng s, c, es, out, cc, hc => by
    unfold compN at hc
    split at hc <;> first | (rename_i hh; cases hh; done) | skip
    · cases ‹Sh.rng _ = Sh.rng _›
      simp only at hc
      split at hc
      · rename_i hb
        obtain ⟨rfl, hne⟩ := hb
        simp only [Option.bind_eq_some_iff, Option.some.injEq] at hc
        obtain ⟨rg, hrg, b, hb, rfl⟩ := hc
        intro S w0 env K hW a w hF Q hQ
        exact rng_sound ho (WP_sound ho hm s _ _ _ b hb) hne hrg hW hF hQ
      · cases hc
    · cases hc
end
end Go.VM
/-
  Functions whose code ranges over maps: contracts; ways to show what is said of such code. No program is named here.
-/
namespace Go.VM
open Go.RowKit
variable [Glob]

section
variable {P : Program} {o : Orc}

theorem bodyN_sound (ho : SoundO P o) {f : FuncId} {fn : Func} (hf : P.funcs[f]? = some fn) {sh : Sh} {nc : NCode} (hc : compileN P sh fn = some nc) {xs : List V} {y : V} (h1 : xs.length = nc.np) (h2 : xs.all V.arg = true)
    (hW : WP o nc.body (args0 0 xs) fun e env => (∀ j, e ≠ .e j) ∧ retV nc.res env = some y) : PF P f xs y := by
  unfold compileN at hc
  simp only [Option.bind_eq_some_iff] at hc
  obtain ⟨c, hbody, b, hcomp, rs, hres, hc⟩ := hc
  split at hc
  · rename_i hcond
    cases hc
    intro S w vs hS hG hr
    refine calls_of_wp hf hbody ?_
    have hlen : vs.length = fn.params.size + fn.nfree := hr.1.trans h1
    have hF := FI.start (P := P) (nt := fn.ntmps) (keep := keepOf fn c) hS hG hr h2 (by rw [h1]; exact hcond.1) (fun n hn => mem_union (List.mem_range.2 (by rw [h1] at hn; exact hn))) (by simp [hlen]; exact hcond.1)
    refine WP_sound ho hcond.2 sh c [] (resTmps fn) b hcomp S w _ _ hW _ w hF _ fun ex env' a' w' hK hF' => ?_
    have fin := fun hv => ret_sound (P := P) hres hF' (y := y) hv
    cases ex with
    | n => exact fin hK.2
    | r => exact fin hK.2
    | e id => exact absurd rfl (hK.1 id)
  · cases hc

theorem WP.code {x : C} {env env1 : Env} {e : Ex} {K : Ex → Env → Prop} (h : exec o x env = some (e, env1)) (hK : K e env1) : WP o (.c x) env K := ⟨e, env1, h, hK⟩
theorem roundW_mono {F : Env → (Ex → Env → Prop) → Prop} (hF : ∀ env (K K' : Ex → Env → Prop), (∀ e env1, K e env1 → K' e env1) → F env K → F env K') {kin : List Nat} {K K' : Ex → Env → Prop} (h : ∀ e env1, K e env1 → K' e env1) : ∀ (n : Nat) (env : Env), roundW F kin K n env → roundW F kin K' n env
  | 0, _, hn => hn
  | n + 1, env, hn => hF _ _ _ (fun e env1 he => by
      cases e with
      | n => exact roundW_mono hF h n env1 he
      | e j => exact h _ _ he
      | r => exact h _ _ he) hn
theorem WP.loop {kin : List Nat} {a : N} {K : Ex → Env → Prop} (hF : ∀ env (K K' : Ex → Env → Prop), (∀ e env1, K e env1 → K' e env1) → WP o a env K → WP o a env K') (I : Nat → Env → Prop)
    (h : ∀ n env, I n env → WP o a (keepE kin env) fun e env1 => match e with
      | .n => ∃ k, k < n ∧ I k env1
      | .e j => K (.e j) env1
      | .r => K .r env1) {n : Nat} {env : Env} (hI : I n env) : WP o (.loop kin a) env K := by
  have mono : ∀ (m : Nat) (env : Env), roundW (WP o a) kin K m env → roundW (WP o a) kin K (m + 1) env := by
    intro m
    induction m with
    | zero => intro env h; exact h.elim
    | succ m ih =>
      intro env h
      refine hF _ _ _ (fun e env1 he => ?_) h
      cases e with
      | n => exact ih env1 he
      | e j => exact he
      | r => exact he
  have mono' : ∀ (m k : Nat) (env : Env), m ≤ k → roundW (WP o a) kin K m env → roundW (WP o a) kin K k env := by
    intro m k env hk
    induction hk with
    | refl => exact id
    | step _ ih => exact fun h => mono _ _ (ih h)
  refine ⟨n + 1, ?_⟩
  induction n using Nat.strongRecOn generalizing env with
  | _ n ih =>
    refine hF _ _ _ (fun e env1 he => ?_) (h n env hI)
    cases e with
    | n =>
      obtain ⟨k, hk, hI'⟩ := he
      exact mono' (k + 1) n env1 (by omega) (ih k hk hI')
    | e j => exact he
    | r => exact he
theorem roundG_mono {F : Env → (Ex → Env → Prop) → Prop} (hF : ∀ env (K K' : Ex → Env → Prop), (∀ e env1, K e env1 → K' e env1) → F env K → F env K') {r : RG} {b : Nat} {K K' : Ex → Env → Prop} (h : ∀ e env1, K e env1 → K' e env1) : ∀ (n : Nat) (L : List (V × V)) (env : Env), roundG o F r b K n L env → roundG o F r b K' n L env
  | 0, _, _, hn => ⟨hn.1, h _ _ hn.2⟩
  | n + 1, L, env, hn => ⟨hn.1, fun i k v hi => by
      obtain ⟨env3, h1, h2⟩ := hn.2 i k v hi
      refine ⟨env3, h1, hF _ _ _ (fun e env4 he => ?_) h2⟩
      cases e with
      | n => exact roundG_mono hF h n _ _ he
      | r => exact h _ _ he
      | e j =>
        simp only at he ⊢
        by_cases h1 : j = r.cid
        · rw [if_pos h1] at he ⊢; exact roundG_mono hF h n _ _ he
        · rw [if_neg h1] at he ⊢
          by_cases h2 : j = r.bid
          · rw [if_pos h2] at he ⊢; exact h _ _ he
          · rw [if_neg h2] at he ⊢; exact h _ _ he⟩
theorem WP_mono : ∀ (c : N) (env : Env) (K K' : Ex → Env → Prop), (∀ e env1, K e env1 → K' e env1) → WP o c env K → WP o c env K'
  | .c x, env, K, K', h, hW => by
    obtain ⟨e, env1, h1, h2⟩ := hW
    exact ⟨e, env1, h1, h _ _ h2⟩
  | .seq a b, env, K, K', h, hW => WP_mono a env _ _ (fun e env1 he => by
      cases e with
      | n => exact WP_mono b env1 _ _ h he
      | e j => exact h _ _ he
      | r => exact h _ _ he) hW
  | .cond x a b, env, K, K', h, hW => by
    obtain ⟨t, h1, h2⟩ := hW
    refine ⟨t, h1, ?_⟩
    cases t with
    | true => exact WP_mono a env _ _ h h2
    | false => exact WP_mono b env _ _ h h2
  | .blk id a, env, K, K', h, hW => WP_mono a env _ _ (fun e env1 he => by
      cases e with
      | n => exact h _ _ he
      | r => exact h _ _ he
      | e j =>
        simp only at he ⊢
        by_cases h1 : j = id
        · rw [if_pos h1] at he ⊢; exact h _ _ he
        · rw [if_neg h1] at he ⊢; exact h _ _ he) hW
  | .loop kin a, env, K, K', h, hW => by
    obtain ⟨n, hn⟩ := hW
    exact ⟨n, roundW_mono (fun env K K' => WP_mono a env K K') h n env hn⟩
  | .rng r a, env, K, K', h, hW => by
    obtain ⟨env1, h1, m, ks, vs, h2, h3, h4, h5⟩ := hW
    exact ⟨env1, h1, m, ks, vs, h2, h3, h4, fun b => roundG_mono (fun env K K' => WP_mono a env K K') h _ _ _ (h5 b)⟩
theorem WP.loop' {kin : List Nat} {a : N} {K : Ex → Env → Prop} (I : Nat → Env → Prop)
    (h : ∀ n env, I n env → WP o a (keepE kin env) fun e env1 => match e with
      | .n => ∃ k, k < n ∧ I k env1
      | .e j => K (.e j) env1
      | .r => K .r env1) {n : Nat} {env : Env} (hI : I n env) : WP o (.loop kin a) env K := WP.loop (fun env K K' => WP_mono a env K K') I h hI
end
end Go.VM
