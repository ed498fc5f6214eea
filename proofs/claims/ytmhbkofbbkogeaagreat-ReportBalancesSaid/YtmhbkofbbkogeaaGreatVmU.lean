/-
  Memory beside a frame that a call makes for itself, in small: what a stretch of code does at such a frame; regions that draw their order, walked by hand. (The full texts Vm26 to Vm32 and Vm34 hold the same under the same names: import the one or the others.) No program is named here.
-/
import Derived.Test.YtmhbkofbbkogeaaGreatVmJ
import Derived.Test.YtmhbkofbbkogeaaGreatVmN
import Derived.Test.YtmhbkofbbkogeaaGreatVmO
set_option linter.unusedSectionVars false
namespace Go.VM
open Go.RowKit
variable [Glob]
/-- Of the blocks below the first n, those outside F are as they were. -/
structure Keeps (n : Nat) (F : Nat → Prop) (w w' : World) : Prop where
  os : w'.os = w.os
  tape : w'.tape = w.tape
  output : w'.output = w.output
  size : w.heap.size ≤ w'.heap.size
  block : ∀ b, b < n → ¬ F b → w'.heap[b]? = w.heap[b]?
/-- All that the frame owns is read from now on. -/
def frzAll (env : Env) : Env := freeze env (env.map fun p => .t p.1)
/-- The frame owns nothing. -/
def bare (env : Env) : Bool := env.all fun p => !p.2.isOwn && (match p.2 with | .t _ => false | _ => true)
section
variable {P : Program} {nt : Nat} {keep : List Nat} {env : Env} {a : Act} {w : World}
theorem bare_own (h : bare env = true) {n : Nat} {x : V} (hx : get n env = some x) : x.isOwn = false ∧ ∀ ys, x ≠ .t ys := by
  have := List.all_eq_true.1 h _ (get_mem hx)
  simp only [Bool.and_eq_true, Bool.not_eq_true'] at this
  refine ⟨this.1, fun ys e => ?_⟩
  subst e
  cases this.2
/-- A frame that owns nothing begins anew behind a call. -/
theorem FI.anew {S : Nat → Prop} {base : Nat} {wi : World} (hF : FI P nt keep S base wi env a w) (hb : bare env = true) {Im : Nat → Prop} (hE : Ents P Im w base env (tm a)) {S' : Nat → Prop} (hS : ∀ b, Im b → S' b) {w' : World} (hlt : ∀ b, S' b → b < w'.heap.size)
    (hk : ∀ b, Im b → w'.heap[b]? = w.heap[b]?) : FI P nt keep S' w'.heap.size w' env a w' := by
  have hcell : ∀ p : Addr, Im p.block → w'.cell? p = w.cell? p := fun p hp => World.cell?_of_block (hk _ hp)
  refine ⟨hF.srt, hF.size, hF.defers, Below.refl _ _, fun _ _ => rfl, Nat.le_refl _, hF.keys, S', fun _ h => h, fun b h => ⟨.inl h, hlt b h⟩, fun n x hx => ?_, hE.closed, fun n c n' c' g h => ?_, hE.glob.move hS hcell⟩
  · obtain ⟨u, hu, he⟩ := hE.ent n x hx
    obtain ⟨hno, hnt⟩ := bare_own hb hx
    refine ⟨u, hu, ?_⟩
    cases x <;> first
      | (simp [V.isOwn] at hno; done)
      | exact absurd rfl (hnt _)
      | exact he
      | exact Rep.move he hS hcell
  · exfalso
    cases c with
    | none =>
      obtain ⟨x, _, hx, ho, _⟩ := h
      rw [(bare_own hb hx).1] at ho; cases ho
    | some j =>
      obtain ⟨ys, _, _, _, hx, _⟩ := h
      exact absurd rfl ((bare_own hb hx).2 ys)
end
/-- Memory in the blocks F, told by a state; it may lead to what reads from S on. What the operations on it answer, and how they turn it. -/
structure Rs (σ : Type) where
  R : σ → (Nat → Prop) → (Nat → Prop) → World → Prop
  eff : σ → Nat → List V → Option (V × σ)
  loc : ∀ s S S' F w w', R s S F w → (∀ b, S b → S' b) → (∀ b, S b ∨ F b → w'.heap[b]? = w.heap[b]?) → R s S' F w'
  lt : ∀ s S F w b, R s S F w → F b → b < w.heap.size
section
variable {σ : Type} {ρ : Rs σ} {P : Program} {nt : Nat} {keep : List Nat} {S : Nat → Prop} {base : Nat} {wi : World} {env env' : Env} {a : Act} {w : World} {o : Orc} {s s' : σ} {S0 F0 : Nat → Prop} {w00 : World} {gr : Bool}
/-- A frame beside such memory; how far the world has gone since the call began. -/
def FG (ρ : Rs σ) (P : Program) (nt : Nat) (keep : List Nat) (S0 F0 : Nat → Prop) (w00 : World) (gr : Bool) (env : Env) (s : σ) (a : Act) (w : World) : Prop :=
  ∃ (S F : Nat → Prop) (base : Nat) (wi : World), FI P nt keep S base wi env a w ∧ ρ.R s S F w ∧ (∀ b, F b → b < base ∧ ¬ S b) ∧ w00.heap.size ≤ base ∧ Keeps w00.heap.size F0 w00 wi ∧ (∀ b, S0 b → S b) ∧ (∀ b, S b → S0 b ∨ w00.heap.size ≤ b) ∧ (∀ b, F b → F0 b ∨ w00.heap.size ≤ b) ∧ (gr = false → F = F0)
theorem FG.srt (h : FG ρ P nt keep S0 F0 w00 gr env s a w) : Srt env := by
  obtain ⟨_, _, _, _, hF, _⟩ := h
  exact hF.srt
theorem FG.frame {F : Nat → Prop} {w1 : World} {a1 : Act} {env1 : Env} {keep' : List Nat} (hF : FI P nt keep S base wi env a w) (hR : ρ.R s S F w) (hFb : ∀ b, F b → b < base ∧ ¬ S b) (hb : w00.heap.size ≤ base) (hK : Keeps w00.heap.size F0 w00 wi) (h1 : ∀ b, S0 b → S b) (h2 : ∀ b, S b → S0 b ∨ w00.heap.size ≤ b) (h3 : ∀ b, F b → F0 b ∨ w00.heap.size ≤ b) (h4 : gr = false → F = F0)
    (hF1 : FI P nt keep' S base wi env1 a1 w1) : FG ρ P nt keep' S0 F0 w00 gr env1 s a1 w1 :=
  ⟨S, F, base, wi, hF1, ρ.loc s S S F w w1 hR (fun _ h => h) (fun b hb => by
    rcases hb with hb | hb
    · exact (hF1.kept b hb).trans (hF.kept b hb).symm
    · exact (hF1.below.block b (hFb b hb).1).trans (hF.below.block b (hFb b hb).1).symm), hFb, hb, hK, h1, h2, h3, h4⟩
theorem FG.map {env1 : Env} {a1 : Act} {keep' : List Nat} (h : FG ρ P nt keep S0 F0 w00 gr env s a w) (hm : ∀ S base wi, FI P nt keep S base wi env a w → FI P nt keep' S base wi env1 a1 w) : FG ρ P nt keep' S0 F0 w00 gr env1 s a1 w := by
  obtain ⟨S, F, base, wi, h1, h2⟩ := h
  exact ⟨S, F, base, wi, hm _ _ _ h1, h2⟩
theorem FG.keepE (h : FG ρ P nt keep S0 F0 w00 gr env s a w) (ks : List Nat) : FG ρ P nt keep S0 F0 w00 gr (keepE ks env) s a w := h.map fun _ _ _ h => h.keepE ks
theorem FG.start {keep' : List Nat} {env1 : Env} {a1 : Act} {w1 : World} {S' F' : Nat → Prop} (hF1 : FI P nt keep' S' w1.heap.size w1 env1 a1 w1) (hR : ρ.R s S' F' w1) (hF' : ∀ b, F' b → ¬ S' b) (hsz : w00.heap.size ≤ w1.heap.size) (hK : Keeps w00.heap.size F0 w00 w1) (h1 : ∀ b, S0 b → S' b) (h2 : ∀ b, S' b → S0 b ∨ w00.heap.size ≤ b) (h3 : ∀ b, F' b → F0 b ∨ w00.heap.size ≤ b) :
    FG ρ P nt keep' S0 F0 w00 true env1 s a1 w1 := by
  refine ⟨S', F', w1.heap.size, w1, hF1, hR, fun b hb => ⟨ρ.lt _ _ _ _ b hR hb, hF' b hb⟩, hsz, hK, h1, h2, h3, fun h => by cases h⟩
end
section
variable {σ : Type} {ρ : Rs σ} {P : Program} {nt : Nat} {keep : List Nat} {env env' : Env} {a : Act} {w : World} {o : Orc} {s s' : σ} {S0 F0 : Nat → Prop} {w00 : World} {gr : Bool}
/-- What a stretch of code does at any frame beside the memory. -/
def DoesG (ρ : Rs σ) (P : Program) (nt : Nat) (keep : List Nat) (S0 F0 : Nat → Prop) (w00 : World) (gr : Bool) (W : Env → σ → (Ex → Env → σ → Prop) → Prop) (c : Code) : Prop :=
  ∀ (env : Env) (s : σ) (K : Ex → Env → σ → Prop), W env s K → ∀ (a : Act) (w : World), FG ρ P nt keep S0 F0 w00 gr env s a w → ∀ Q : Exit → Act → World → Prop, (∀ ex env' s' a' w', K ex env' s' → FG ρ P nt keep S0 F0 w00 gr env' s' a' w' → Q ex.exit a' w') → c.wp P Q a w
/-- What a frame hands back. -/
theorem res_of {rs : List ResultVar} {rvs : List RV} {Im : Nat → Prop} {base : Nat} {y : V} {fn : Func} (hE : Ents P Im w base env (tm a)) (hs : Srt env) (hfn : fn.results.toList = rs) (hres : resOf P rs = some rvs) (hret : retV rvs env = some y) : ∃ v, (results fn a.tmps).run P w = .ok v w ∧ Res P Im w base v y := by
  subst hfn
  unfold retV at hret
  simp only [Option.map_eq_some_iff] at hret
  obtain ⟨ys, hys, hy'⟩ := hret
  obtain ⟨us, hrun, hl, hh, hap, _⟩ := resVs_sound hE hs hres hys
  refine ⟨(if h : us.toArray.size = 1 then us.toArray[0] else .tuple us.toArray), ?_, ?_⟩
  · unfold results
    rw [Array.mapM_eq_mapM_toList]
    simp only [map_eq_pure_bind, Sem.run_bind]
    erw [hrun]
    simp only [Result.andThen_ok, Sem.run_pure]
  · match ys, us, hl, hh, hy' with
    | [y1], [u1], _, hh, hy' =>
      simp only at hy'
      subst hy'
      have := hh 0 u1 y1 rfl rfl
      simp only [List.size_toArray, List.length_cons, List.length_nil, Nat.zero_add, dite_true]
      rw [Res.eq1]
      · exact this
      · intro zs e; subst e; exact this
    | [], [], _, hh, hy' =>
      simp only at hy'
      subst hy'
      exact ⟨[], rfl, rfl, by simp, fun i j u u' y y' g _ h => by simp at h⟩
    | y1 :: y2 :: yr, u1 :: u2 :: ur, hl, hh, hy' =>
      simp only at hy'
      subst hy'
      have h1 : ¬ (u1 :: u2 :: ur).toArray.size = 1 := by simp
      rw [dif_neg h1]
      exact ⟨_, rfl, hl, hh, hap⟩
theorem Res1.low {S : Nat → Prop} {base base' : Nat} {v : Value} {y : V} (h : Res1 P S w base v y) (hb : base' ≤ base) : Res1 P S w base' v y := by
  cases y with
  | ow e es =>
    obtain ⟨⟨vs, ⟨hl, hv⟩, h3⟩, hn⟩ := h
    refine ⟨⟨vs, ⟨hl, ?_⟩, h3⟩, hn⟩
    rcases hv with h | ⟨g, cap, cur, rfl, h2, hh⟩
    · exact .inl h
    · exact .inr ⟨g, cap, cur, rfl, Nat.le_trans hb h2, hh⟩
  | bx cs =>
    obtain ⟨⟨g, vs, ty, rfl, h2, hh⟩, hn⟩ := h
    exact ⟨⟨g, vs, ty, rfl, Nat.le_trans hb h2, hh⟩, hn⟩
  | mp ks vs =>
    obtain ⟨⟨g, es, c, rfl, h2, hh⟩, hn⟩ := h
    exact ⟨⟨g, es, c, rfl, Nat.le_trans hb h2, hh⟩, hn⟩
  | _ => exact h
theorem Res.low {S : Nat → Prop} {base base' : Nat} {v : Value} {y : V} (h : Res P S w base v y) (hb : base' ≤ base) : Res P S w base' v y := by
  cases y with
  | t ys =>
    obtain ⟨us, e, hl, hh, hap⟩ := h
    exact ⟨us, e, hl, fun j u y hu hy => (hh j u y hu hy).low hb, hap⟩
  | ow e es => exact Res1.low (P := P) (y := .ow e es) h hb
  | bx cs => exact Res1.low (P := P) (y := .bx cs) h hb
  | mp ks vs => exact Res1.low (P := P) (y := .mp ks vs) h hb
  | _ => exact h
end
section
variable {P : Program}
/-- A region that draws its order, by what holds of the world and the frame once some operations have been carried out. -/
theorem walkI {opsL : List Oper} {Q : Exit → Act → World → Prop} (Inv : Array Bool → Act → World → Prop)
    (hwt : ∀ (i : Nat) op, opsL[i]? = some op → ∀ l : Array Bool, l.size = opsL.length → ¬ Ex1 l i → (∀ j ∈ aft op, Ex1 l j) → (∀ (k : Nat) op', opsL[k]? = some op' → Ex1 l k → ∀ j ∈ aft op', Ex1 l j) → ∀ a w, Inv l a w →
      Region.wanted op (yielded opsL.toArray a.tmps) = true ∧ Outc P ((execOp a.eval op).run P w) fun u w1 => Inv (l.setIfInBounds i true) (a.put op.dst u) w1)
    (hacy : ∀ (i : Nat) op, opsL.toArray[i]? = some op → ∀ j ∈ aft op, j < i) :
    ∀ (fuel : Nat) (listed : Array Bool) (a : Act) (w : World), listed.size = opsL.length → left1 listed ≤ fuel → (∀ (k : Nat) op', opsL[k]? = some op' → Ex1 listed k → ∀ j ∈ aft op', Ex1 listed j) → Inv listed a w →
      (∀ l a' w', (∀ i, i < opsL.length → Ex1 l i) → Inv l a' w' → Q .normal a' w') → wpAny P .any opsL.toArray Q fuel listed a w := by
  intro fuel
  induction fuel with
  | zero =>
    intro listed a w hs hleft hcl hF hQ
    have hall : ∀ i, i < opsL.length → Ex1 listed i := fun i hi => all_of_left (by omega) i (by omega)
    refine ⟨?_, hQ listed a w hall hF⟩
    cases hr : Region.ready .any opsL.toArray listed with
    | nil => rfl
    | cons i r =>
      obtain ⟨op, hop, hne, _⟩ := mem_ready (by simpa using hs) (show i ∈ Region.ready .any opsL.toArray listed by rw [hr]; exact List.mem_cons_self ..)
      exact absurd (hall i (by have := (Array.getElem?_eq_some_iff.1 hop).1; simpa using this)) hne
  | succ fuel ih =>
    intro listed a w hs hleft hcl hF hQ
    refine ⟨fun hr => hQ listed a w (fun i hi => not_ready (by simpa using hs) hacy hr i (by simpa using hi)) hF, fun i hi => ?_⟩
    obtain ⟨op, hop, hne, haft⟩ := mem_ready (by simpa using hs) hi
    have hop' : opsL[i]? = some op := by simpa using hop
    have hil : i < opsL.length := (List.getElem?_eq_some_iff.1 hop').1
    have his : i < listed.size := by omega
    obtain ⟨hw, hout⟩ := hwt i op hop' listed hs hne haft hcl a w hF
    have next : ∀ u w1, Inv (listed.setIfInBounds i true) (a.put op.dst u) w1 → wpAny P .any opsL.toArray Q fuel (listed.setIfInBounds i true) (a.put op.dst u) w1 := by
      intro u w1 h
      refine ih _ _ w1 (by simpa using hs) ?_ (fun k op' hk hek j hj => ?_) h hQ
      · have := left1_set his hne; omega
      · refine (ex1_set his j).2 (.inr ?_)
        rcases (ex1_set his k).1 hek with rfl | h
        · rw [hop'] at hk; cases hk; exact haft j hj
        · exact hcl k op' hk h j hj
    unfold wpOp
    rw [hop]
    simp only
    rw [if_pos hw]
    left
    refine Outc.wp ?_
    revert hout
    generalize (execOp a.eval op).run P w = res
    intro hout
    unfold Outc at hout ⊢
    split at hout
    · exact next _ _ hout
    · exact next _ _ hout
    · exact hout.mono fun e w1 ⟨u, he, h⟩ => ⟨u, he, next _ _ h⟩
    · exact hout.elim
theorem regI (hm : P.follows .mixedOrders = true) {id : Nat} {ops : Array Oper} (Inv : Array Bool → Act → World → Prop)
    (hwt : ∀ (i : Nat) op, ops.toList[i]? = some op → ∀ l : Array Bool, l.size = ops.toList.length → ¬ Ex1 l i → (∀ j ∈ aft op, Ex1 l j) → (∀ (k : Nat) op', ops.toList[k]? = some op' → Ex1 l k → ∀ j ∈ aft op', Ex1 l j) → ∀ a w, Inv l a w →
      Region.wanted op (yielded ops.toList.toArray a.tmps) = true ∧ Outc P ((execOp a.eval op).run P w) fun u w1 => Inv (l.setIfInBounds i true) (a.put op.dst u) w1)
    (hacy : ((List.range ops.size).all fun i => match ops[i]? with | some o => (aft o).all fun j => decide (j < i) | none => false) = true) {a : Act} {w : World}
    (hF : Inv (Array.replicate ops.size false) a { w with drawn := w.drawn + 1 }) {Q : Exit → Act → World → Prop} (hQ : ∀ l a' w', (∀ i, i < ops.size → Ex1 l i) → Inv l a' w' → Q .normal a' w') :
    (Code.region id ops true).wp P Q a w := by
  refine wp_region_any hm ?_
  have hn1 : ∀ k, ¬ Ex1 (Array.replicate ops.size false) k := fun k hk => by
    unfold Ex1 at hk
    simp only [Array.getD_eq_getD_getElem?, Array.getElem?_replicate] at hk
    split at hk <;> simp at hk
  have hleft : left1 (Array.replicate ops.size false) ≤ ops.size := by
    unfold left1
    exact Nat.le_trans (List.countP_le_length ..) (by simp)
  have := walkI (Q := Q) (opsL := ops.toList) Inv hwt (fun i op hop j hj => by
      have hop' : ops[i]? = some op := by simpa using hop
      have := List.all_eq_true.1 hacy i (List.mem_range.2 (Array.getElem?_eq_some_iff.1 hop').1)
      rw [hop'] at this
      simpa using List.all_eq_true.1 this j hj) ops.size (Array.replicate ops.size false) a { w with drawn := w.drawn + 1 } (by simp) hleft
    (fun k _ _ hk => absurd hk (hn1 k)) hF (fun l a' w' hl h => hQ l a' w' (fun i hi => hl i (by simpa using hi)) h)
  simpa using this
end
section
variable {P : Program} {nt : Nat} {keep : List Nat} {S : Nat → Prop} {base : Nat} {wi : World} {env : Env} {a a' : Act} {w : World}
/-- Slots that the frame does not tell of have no say. -/
theorem FI.agree (hF : FI P nt keep S base wi env a w) (hs : a'.tmps.size = nt) (hd : a'.defers = []) (hT : ∀ n x, get n env = some x → tm a' n = tm a n) : FI P nt keep S base wi env a' w := by
  obtain ⟨Im, hI1, hI2, hE⟩ := hF.ents
  have hO : ∀ n c g, Owns env (tm a') n c g → Owns env (tm a) n c g := fun n c g ho => by
    cases c with
    | none =>
      obtain ⟨x, u, hx, h1, h2, h3⟩ := ho
      exact ⟨x, u, hx, h1, (hT n x hx).symm.trans h2, h3⟩
    | some j =>
      obtain ⟨ys, us, y, u, hx, h1, h2⟩ := ho
      exact ⟨ys, us, y, u, hx, (hT n _ hx).symm.trans h1, h2⟩
  refine ⟨hF.srt, hs, hd, hF.below, hF.kept, hF.bsz, hF.keys, Im, hI1, hI2, ⟨fun n x hx => ?_, hE.closed, fun n c n' c' g h h' => hE.apart n c n' c' g (hO _ _ _ h) (hO _ _ _ h'), hE.glob⟩⟩
  obtain ⟨u, hu, he⟩ := hE.ent n x hx
  have hnm : ∀ m, x.names = some m → tm a' m = tm a m := fun m hm => by
    obtain ⟨y, hy, _⟩ := hE.closed n x m hx hm
    exact hT m y hy
  refine ⟨u, (hT n x hx).trans hu, ?_⟩
  cases x with
  | al m => exact (hnm m rfl).trans he
  | pe m i off sz =>
    obtain ⟨ad, l, c, k, h1, h2⟩ := he
    exact ⟨ad, l, c, k, (hnm m rfl).trans h1, h2⟩
  | pb m off sz =>
    obtain ⟨ad, h1, h2⟩ := he
    exact ⟨ad, (hnm m rfl).trans h1, h2⟩
  | _ => exact he
variable {σ : Type} {ρ : Rs σ} {S0 F0 : Nat → Prop} {w00 : World} {gr : Bool} {W1 W2 : Env → σ → (Ex → Env → σ → Prop) → Prop} {c1 c2 : Code}
theorem DoesG.seq (h1 : DoesG ρ P nt keep S0 F0 w00 gr W1 c1) (h2 : DoesG ρ P nt keep S0 F0 w00 gr W2 c2) : DoesG ρ P nt keep S0 F0 w00 gr (fun env s K => W1 env s fun e env1 s1 => match e with
    | .n => W2 env1 s1 K
    | .e j => K (.e j) env1 s1
    | .r => K .r env1 s1) (.seq c1 c2) := by
  intro env s K hW a w hF Q hQ
  refine wp_seq (h1 env s _ hW a w hF _ fun ex env1 s' a1 w1 hK hF1 => ?_)
  cases ex with
  | n => exact h2 env1 s' _ hK a1 w1 hF1 Q hQ
  | e j => exact hQ (.e j) env1 s' a1 w1 hK hF1
  | r => exact hQ .r env1 s' a1 w1 hK hF1
theorem DoesG.blk (id : Nat) (h1 : DoesG ρ P nt keep S0 F0 w00 gr W1 c1) : DoesG ρ P nt keep S0 F0 w00 gr (fun env s K => W1 env s fun e env1 s1 => match e with
    | .e j => if j = id then K .n env1 s1 else K (.e j) env1 s1
    | .n => K .n env1 s1
    | .r => K .r env1 s1) (.block id c1) := by
  intro env s K hW a w hF Q hQ
  refine wp_block (h1 env s _ hW a w hF _ fun ex env1 s' a1 w1 hK hF1 => ?_)
  cases ex with
  | n => exact hQ .n env1 s' a1 w1 hK hF1
  | e j =>
    show Exit.inBlock id Q (.exit j) a1 w1
    simp only [Exit.inBlock]
    simp only at hK
    by_cases hj : j = id
    · rw [if_pos hj] at hK ⊢; exact hQ .n env1 s' a1 w1 hK hF1
    · rw [if_neg hj] at hK ⊢; exact hQ (.e j) env1 s' a1 w1 hK hF1
  | r => exact hQ .r env1 s' a1 w1 hK hF1
/-- A loop of just so many rounds, by what holds ahead of each. -/
theorem DoesG.loop (kin : List Nat) (h1 : DoesG ρ P nt keep S0 F0 w00 gr W1 c1) : DoesG ρ P nt keep S0 F0 w00 gr (fun env s K => ∃ (I : Nat → Env → σ → Prop) (n : Nat), I n env s ∧ ∀ n env s, I n env s → W1 (VM.keepE kin env) s fun e env1 s1 => match e with
    | .n => ∃ k, n = k + 1 ∧ I k env1 s1
    | .e j => K (.e j) env1 s1
    | .r => K .r env1 s1) (.loop c1) := by
  rintro env s K ⟨I, n, hI, hI2⟩ a w hF Q hQ
  refine wp_loop_rounds (n + 1) ?_
  induction n generalizing env s a w with
  | zero =>
    refine h1 _ s _ (hI2 0 env s hI) a w (hF.keepE _) _ fun ex env1 s' a1 w1 hK hF1 => ?_
    cases ex with
    | n => obtain ⟨k, hk, _⟩ := hK; omega
    | e j => exact hQ (.e j) env1 s' a1 w1 hK hF1
    | r => exact hQ .r env1 s' a1 w1 hK hF1
  | succ n ih =>
    refine h1 _ s _ (hI2 (n + 1) env s hI) a w (hF.keepE _) _ fun ex env1 s' a1 w1 hK hF1 => ?_
    cases ex with
    | n =>
      obtain ⟨k, hk, hI'⟩ := hK
      obtain rfl : n = k := by omega
      exact ih env1 s' hI' a1 w1 hF1
    | e j => exact hQ (.e j) env1 s' a1 w1 hK hF1
    | r => exact hQ .r env1 s' a1 w1 hK hF1
end
section
variable {P : Program}
/-- What the slots hold once some of a region's operations have been carried out. -/
def TmOk (ds : Nat → Option Nat) (val : Nat → Value) (a0 : Act) (l : Array Bool) (a : Act) : Prop :=
  a.tmps.size = a0.tmps.size ∧ a.defers = a0.defers ∧ (∀ i n, Ex1 l i → ds i = some n → tm a n = some (val i)) ∧ ∀ n, (∀ i, Ex1 l i → ds i ≠ some n) → tm a n = tm a0 n
theorem Outc.imp {r : Result Next} {K K' : Value → World → Prop} (h : Outc P r K) (hK : ∀ u w, K u w → K' u w) : Outc P r K' := by
  unfold Outc at *
  split at h
  · exact hK _ _ h
  · exact hK _ _ h
  · exact h.mono fun e w' ⟨v, he, hv⟩ => ⟨v, he, hK _ _ hv⟩
  · exact h.elim
theorem regV (hm : P.follows .mixedOrders = true) {id : Nat} {ops : Array Oper} {ds : Nat → Option Nat} {val : Nat → Value} {a0 : Act} (Wd : Array Bool → World → Prop)
    (hinj : ∀ i j n, ds i = some n → ds j = some n → i = j) (hlt : ∀ i n, ds i = some n → n < a0.tmps.size)
    (hds : ∀ (i : Nat) op, ops.toList[i]? = some op → op.dst = ds i ∧ op.guard = none)
    (hop : ∀ (i : Nat) op, ops.toList[i]? = some op → ∀ l : Array Bool, l.size = ops.toList.length → ¬ Ex1 l i → (∀ j ∈ aft op, Ex1 l j) → (∀ (k : Nat) op', ops.toList[k]? = some op' → Ex1 l k → ∀ j ∈ aft op', Ex1 l j) → ∀ a w, TmOk ds val a0 l a → Wd l w →
      Outc P ((execOp a.eval op).run P w) fun u w1 => (ds i = none ∨ u = val i) ∧ Wd (l.setIfInBounds i true) w1)
    (hacy : ((List.range ops.size).all fun i => match ops[i]? with | some o => (aft o).all fun j => decide (j < i) | none => false) = true) {w : World}
    (hF : Wd (Array.replicate ops.size false) { w with drawn := w.drawn + 1 }) {Q : Exit → Act → World → Prop} (hQ : ∀ l a' w', (∀ i, i < ops.size → Ex1 l i) → TmOk ds val a0 l a' → Wd l w' → Q .normal a' w') :
    (Code.region id ops true).wp P Q a0 w := by
  refine regI hm (fun l a w => TmOk ds val a0 l a ∧ Wd l w) (fun i op hi l hl hne haft hcl a w ⟨hT, hW⟩ => ?_) hacy ⟨⟨rfl, rfl, fun i n h => ?_, fun n _ => rfl⟩, hF⟩ (fun l a' w' hl h => hQ l a' w' hl h.1 h.2)
  · obtain ⟨hd, hg⟩ := hds i op hi
    refine ⟨by simp [Region.wanted, hg], (hop i op hi l hl hne haft hcl a w hT hW).imp fun u w1 ⟨hu, hw⟩ => ⟨?_, hw⟩⟩
    have hil : i < l.size := by rw [hl]; exact (List.getElem?_eq_some_iff.1 hi).1
    rw [hd]
    cases hdi : ds i with
    | none =>
      refine ⟨hT.1, hT.2.1, fun k n hk hn => ?_, fun n hn => ?_⟩
      · rcases (ex1_set hil k).1 hk with rfl | hk
        · rw [hdi] at hn; cases hn
        · exact hT.2.2.1 k n hk hn
      · exact hT.2.2.2 n fun k hk => hn k ((ex1_set hil k).2 (.inr hk))
    | some d =>
      have hda : d < a.tmps.size := by rw [hT.1]; exact hlt i d hdi
      have hu : u = val i := by
        rcases hu with h | h
        · rw [hdi] at h; cases h
        · exact h
      subst hu
      refine ⟨by simpa [Act.put] using hT.1, hT.2.1, fun k n hk hn => ?_, fun n hn => ?_⟩
      · rw [tm_put hda]
        rcases (ex1_set hil k).1 hk with rfl | hk
        · rw [hdi] at hn; cases hn; simp
        · rw [if_neg fun e => by subst e; exact hne (hinj i k n hdi hn ▸ hk)]
          exact hT.2.2.1 k n hk hn
      · rw [tm_put hda, if_neg fun e => hn i ((ex1_set hil i).2 (.inl rfl)) (by rw [hdi, e])]
        exact hT.2.2.2 n fun k hk => hn k ((ex1_set hil k).2 (.inr hk))
  · unfold Ex1 at h
    simp only [Array.getD_eq_getD_getElem?, Array.getElem?_replicate] at h
    split at h <;> simp at h
end
end Go.VM
