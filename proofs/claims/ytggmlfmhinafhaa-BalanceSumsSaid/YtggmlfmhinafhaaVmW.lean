/-
  Code with operations and calls that turn memory beside the frame: it does what is said of it; contracts. No program is named here.
-/
import Derived.Test.YtggmlfmhinafhaaVmV
set_option linter.unusedSectionVars false
namespace Go.VM
open Go.RowKit
variable [Glob]

/-! ### Regions that draw their order -/
def RSt.gst : RSt → GSt
  | .g st => st
  | .ef d f xs => .s (.call d f xs)
  | .gef .. => .pick 0 0 (.c .np) (.c .np)
/-- Steps that ask no function. -/
def St.calm : St → Bool
  | .call .. | .callv .. | .callm .. => false
  | .q _ p _ => match p with
    | .call .. | .callv .. => false
    | _ => true
  | _ => true
def GSt.calm : GSt → Bool
  | .s st => st.calm
  | .gd _ _ _ st => st.calm
  | .pick .. => true
theorem opQ_calm {o o' : Orc} {p : XOp} (h1 : ∀ fl f, p ≠ .call fl f) (h2 : ∀ fl, p ≠ .callv fl) (vs : List V) : opQ o p vs = opQ o' p vs := by
  cases p <;> first
    | exact absurd rfl (h1 _ _)
    | exact absurd rfl (h2 _)
    | (match vs with
       | [] => rfl
       | [x] => first | rfl | (cases x <;> rfl)
       | [x, y] => first | rfl | (cases x <;> first | rfl | (cases y <;> rfl))
       | x :: y :: z :: r => first | rfl | (cases x <;> first | rfl | (cases y <;> rfl)))
theorem stepS_calm {o o' : Orc} {env : Env} {st : St} (h : st.calm = true) : stepS o env st = stepS o' env st := by
  cases st with
  | q d p xs =>
    have h1 : ∀ fl f, p ≠ .call fl f := fun fl f e => by subst e; cases h
    have h2 : ∀ fl, p ≠ .callv fl := fun fl e => by subst e; cases h
    simp only [stepS, opQ_calm (o := o) (o' := o') h1 h2]
  | slc d k lo hi xs =>
    have : opQ o (.slc k lo hi) = opQ o' (.slc k lo hi) := by
      funext vs
      exact opQ_calm (fun _ _ e => by cases e) (fun _ e => by cases e) vs
    simp only [stepS, this]
  | call d f xs => cases h
  | callv d xs => cases h
  | callm d f mu s xs => cases h
  | mv d s => cases s <;> rfl
  | as d s => cases s <;> rfl
  | fa d off n s => cases s <;> rfl
  | sto sz s v => cases s <;> rfl
  | app d e k b s y => cases s with
    | t n => rfl
    | c v => cases v with
      | ow e es => cases es <;> rfl
      | _ => rfl
  | mget d kt z s k => cases s <;> rfl
  | mset kt s k v => cases s <;> rfl
  | _ => rfl
theorem stepG_calm {o o' : Orc} {env : Env} {st : GSt} (h : st.calm = true) : stepG o env st = stepG o' env st := by
  cases st with
  | s st => exact stepS_calm h
  | gd c t d st => simp only [stepG, stepS_calm (o := o) (o' := o') (env := env) (st := st) h]
  | pick d c a b => simp only [stepG]
/-- Item i comes ahead of item c, over others. -/
def ancB (af : List (List Nat)) : Nat → Nat → Nat → Bool
  | 0, _, _ => false
  | n + 1, c, i => match af[c]? with
    | some l => l.any fun j => j == i || ancB af n j i
    | none => false
theorem ancB_listed {opsL : List Oper} {l : Array Bool} (hcl : ∀ (k : Nat) op', opsL[k]? = some op' → Ex1 l k → ∀ j ∈ aft op', Ex1 l j) : ∀ {n c i : Nat}, ancB (opsL.map aft) n c i = true → Ex1 l c → Ex1 l i
  | n + 1, c, i, h, hc => by
    simp only [ancB, List.getElem?_map] at h
    cases ho : opsL[c]? with
    | none => rw [ho] at h; cases h
    | some op =>
      rw [ho] at h
      simp only [Option.map_some, List.any_eq_true, Bool.or_eq_true, beq_iff_eq] at h
      obtain ⟨j, hj, h⟩ := h
      have hjl := hcl c op ho hc j hj
      rcases h with rfl | h
      · exact hjl
      · exact ancB_listed hcl h hjl
/-- What an item of such a region is asked: o' answers as the memory does; c is the one that turns it. -/
def okItem {σ : Type} (ρ : Rs σ) (s s1 : σ) (o' : Orc) (af : List (List Nat)) (c i : Nat) : RSt → Prop
  | .g st => st.calm = true ∧ (i ≠ c ∨ s1 = s)
  | .ef _ f _ => if i = c then ∀ zs y, o' f zs = some y → ρ.eff s f zs = some (y, s1) else (s1 = s ∨ ancB af af.length c i = true) ∧ ∀ zs y, o' f zs = some y → ρ.eff s f zs = some (y, s)
  | .gef .. => False
theorem freeze_noO {env : Env} (h : NoO env) : ∀ xs : List Src, freeze env xs = env
  | [] => rfl
  | x :: xs => by
    rw [freeze_cons]
    cases owner env x with
    | none => exact freeze_noO h xs
    | some n =>
      have : freeze1 n env = env := by
        unfold freeze1
        cases hq : get n env with
        | none => rfl
        | some y =>
          show (if y.isOwn = true then put n (frz y) env else env) = env
          rw [h n y hq]; rfl
      simp only [this]
      exact freeze_noO h xs

section
variable {σ : Type} {ρ : Rs σ} {P : Program} {nt : Nat} {keep ret : List Nat} {S : Nat → Prop} {base : Nat} {wi : World} {env env' : Env} {a : Act} {w : World} {o : Orc} {s s' : σ} {S0 F0 : Nat → Prop} {w00 : World} {gr : Bool} {fs : List Nat}

theorem toRs_at {opsL : List Oper} : ∀ {r : List Oper} {ss : List RSt}, toRs P fs opsL r = some ss → ss.length = r.length ∧ ∀ (i : Nat) op, r[i]? = some op → ∃ s, ss[i]? = some s ∧ toR P fs opsL op = some s
  | [], ss, h => by simp only [toRs, Option.some.injEq] at h; subst h; simp
  | op :: r, ss, h => by
    simp only [toRs, Option.bind_eq_some_iff, Option.some.injEq] at h
    obtain ⟨s, hs, ss', hss', rfl⟩ := h
    obtain ⟨h1, h2⟩ := toRs_at hss'
    refine ⟨by simp [h1], fun i op' hi => ?_⟩
    cases i with
    | zero => simp at hi; subst hi; exact ⟨s, rfl, hs⟩
    | succ i => simpa using h2 i op' (by simpa using hi)
theorem drw_sound (ho : SoundO P o) (hρ : SoundR P ρ) (hm : P.follows .mixedOrders = true) {id : Nat} {ops : Array Oper} {ss : List RSt} {c : Nat} (hss : toRs P fs ops.toList ops.toList = some ss) {o' : Orc} (hst : drawN o' (ss.map RSt.gst) (ops.toList.map aft) env = some env')
    (hit : ∀ i st, ss[i]? = some st → okItem ρ s s' o' (ops.toList.map aft) c i st) (hc : c < ops.size ∨ s' = s) (hd : dstOk nt ops.toList = true)
    (hacy : ((List.range ops.size).all fun i => match ops[i]? with | some o => (aft o).all fun j => decide (j < i) | none => false) = true)
    (hF : FG ρ P nt keep S0 F0 w00 gr env s a w) {Q : Exit → Act → World → Prop} (hQ : ∀ a' w', FG ρ P nt keep S0 F0 w00 gr (dropE (looseD keep ops.toList) env') s' a' w' → Q .normal a' w') :
    (Code.region id ops true).wp P Q a w := by
  classical
  let Inv : Array Bool → Env → Act → World → Prop := fun l e a w => FG ρ P nt (keep ++ (ops.toList.flatMap fun o => o.dst.toList)) S0 F0 w00 gr e (if Ex1 l c then s' else s) a w
  have hkd : ∀ {i : Nat} {op : Oper}, ops.toList[i]? = some op → ∀ d, op.dst = some d → d ∈ keep ++ (ops.toList.flatMap fun o => o.dst.toList) ∧ d < nt := fun hop d hd' =>
    ⟨List.mem_append_right _ (List.mem_flatMap.2 ⟨_, List.mem_of_getElem? hop, by simp [hd']⟩), dstOk_at hd (List.mem_of_getElem? hop) hd'⟩
  have hn1 : ¬ Ex1 (Array.replicate ops.size false) c := fun hk => by
    unfold Ex1 at hk
    simp only [Array.getD_eq_getD_getElem?, Array.getElem?_replicate] at hk
    split at hk <;> simp at hk
  refine regN (o := o') (ss := ss.map RSt.gst) hm Inv (fun l e a w h => h.srt) (by simpa using (toRs_at hss).1) hst (fun i op g hop hg l hl hne haft hcl env e f a w hI hno hrec _ => ?_) hacy ?_ (fun l a' w' hall hI => hQ a' w' ?_)
  · obtain ⟨st, hst', hsop⟩ := (toRs_at hss).2 i op hop
    rw [List.getElem?_map, hst'] at hg
    simp only [Option.map_some, Option.some.injEq] at hg
    subst hg
    have hok := hit i st hst'
    have his : i < l.size := by rw [hl]; exact (List.getElem?_eq_some_iff.1 hop).1
    have hstep := hrec.step
    cases st with
    | g st =>
      obtain ⟨hcalm, hne'⟩ := hok
      rw [RSt.gst, stepG_calm (o' := o) hcalm] at hstep
      have hI' : FG ρ P nt (keep ++ (ops.toList.flatMap fun o => o.dst.toList)) S0 F0 w00 gr env (if Ex1 (l.setIfInBounds i true) c then s' else s) a w := by
        have : (if Ex1 (l.setIfInBounds i true) c then s' else s) = (if Ex1 l c then s' else s) := by
          rcases hne' with h | h
          · have : Ex1 (l.setIfInBounds i true) c ↔ Ex1 l c := by
              rw [ex1_set his]
              exact ⟨fun h' => h'.resolve_left fun e => h e.symm, .inr⟩
            by_cases hx : Ex1 l c
            · rw [if_pos hx, if_pos (this.2 hx)]
            · rw [if_neg hx, if_neg fun h => hx (this.1 h)]
          · rw [h]; simp
        rw [this]; exact hI
      have h1 : stepR ρ o env (if Ex1 (l.setIfInBounds i true) c then s' else s) (.g st) = some (e, (if Ex1 (l.setIfInBounds i true) c then s' else s)) := by simp only [stepR, hstep, Option.map_some]
      exact stepR_sound ho hρ hsop (hkd hop) hI' h1
    | gef c t d f' xs => exact hok.elim
    | ef d f' xs =>
      simp only [RSt.gst, stepG, stepS, Option.bind_eq_some_iff, Option.some.injEq] at hstep
      obtain ⟨zs, hlz, y, hy, he⟩ := hstep
      have he' : e = putO d y env := by
        rw [← he]
        split
        · rfl
        · rw [freeze_noO hno]
      subst he'
      left
      refine ⟨by simp [Region.wanted, (toR_ef hsop).1], ?_⟩
      simp only [okItem] at hok
      by_cases hic : i = c
      · rw [if_pos hic] at hok
        have hs0 : FG ρ P nt (keep ++ (ops.toList.flatMap fun o => o.dst.toList)) S0 F0 w00 gr env s a w := by
          have := hI
          simp only [Inv] at this
          rwa [if_neg (hic ▸ hne)] at this
        have := ef_sound hρ (toR_ef hsop).2 (hkd hop) hs0 (fun x _ => noO_loose hno x) hlz (hok zs y hy)
        have hx : Ex1 (l.setIfInBounds i true) c := (ex1_set his c).2 (.inl hic.symm)
        simp only [Inv, if_pos hx]
        exact this
      · rw [if_neg hic] at hok
        obtain ⟨hk1, hk2⟩ := hok
        have hx : Ex1 (l.setIfInBounds i true) c ↔ Ex1 l c := by
          rw [ex1_set his]
          exact ⟨fun h' => h'.resolve_left fun e => hic e.symm, .inr⟩
        have hst0 : (if Ex1 l c then s' else s) = s := by
          rcases hk1 with h | h1
          · rw [h]; simp
          · rw [if_neg]
            intro hxc
            exact hne (ancB_listed hcl h1 hxc)
        have hst1 : (if Ex1 (l.setIfInBounds i true) c then s' else s) = s := by
          rw [← hst0]
          by_cases h : Ex1 l c
          · rw [if_pos h, if_pos (hx.2 h)]
          · rw [if_neg h, if_neg fun h' => h (hx.1 h')]
        have hs0 : FG ρ P nt (keep ++ (ops.toList.flatMap fun o => o.dst.toList)) S0 F0 w00 gr env s a w := by
          have := hI
          simp only [Inv] at this
          rwa [hst0] at this
        have := ef_sound hρ (toR_ef hsop).2 (hkd hop) hs0 (fun x _ => noO_loose hno x) hlz (hk2 zs y hy)
        simp only [Inv, hst1]
        exact this
  · simp only [Inv, if_neg hn1]
    obtain ⟨S, F, base, wi, hF, hR, hFb, hb, hKp, k1, k2, k3, k4⟩ := hF
    have hb0 : Below w.heap.size w { w with drawn := w.drawn + 1 } := ⟨rfl, rfl, rfl, Nat.le_refl _, fun _ _ => rfl⟩
    exact FG.frame hF hR hFb hb hKp k1 k2 k3 k4 ((hF.keys_mono (keep' := keep ++ (ops.toList.flatMap fun o => o.dst.toList)) fun n hn => List.mem_append_left _ hn).grow hb0)
  · have hs : (if Ex1 l c then s' else s) = s' := by
      rcases hc with h | h
      · rw [if_pos (hall c h)]
      · rw [h]; simp
    simp only [Inv, hs] at hI
    refine hI.map fun S base wi h => h.dropE _ fun n hn hd => ?_
    by_cases hk : n ∈ keep
    · exact hk
    · rcases List.mem_append.1 hn with h | h
      · exact h
      · exact absurd (List.mem_filter.2 ⟨h, by simp [hk]⟩) hd
theorem lin_sound (ho : SoundO P o) (hρ : SoundR P ρ) {id : Nat} {ops : Array Oper} {ss : List RSt} (hss : toRs P fs ops.toList ops.toList = some ss) (hst : stepsR ρ o ss env s = some (env', s')) (hd : dstOk nt ops.toList = true)
    (hF : FG ρ P nt keep S0 F0 w00 gr env s a w) {Q : Exit → Act → World → Prop} (hQ : ∀ a' w', FG ρ P nt keep S0 F0 w00 gr (dropE (looseD keep ops.toList) env') s' a' w' → Q .normal a' w') :
    (Code.region id ops false).wp P Q a w := by
  refine wp_region ?_
  have hrange : List.range ops.size = List.range' 0 ops.toList.length ++ [] := by rw [List.range_eq_range']; simp
  rw [hrange]
  have hF' : FG ρ P nt (keep ++ (ops.toList.flatMap fun o => o.dst.toList)) S0 F0 w00 gr env s a w := hF.map fun S base wi h => h.keys_mono fun n hn => List.mem_append_left _ hn
  have := stepsR_sound (keep := keep ++ (ops.toList.flatMap fun o => o.dst.toList)) (opsL := ops.toList) (Q := Q) (rest := []) ho hρ ops.toList ss 0 env s a w [] hss hst (by simp)
    (fun op hop d hd' => ⟨List.mem_append_right _ (List.mem_flatMap.2 ⟨op, hop, by simp [hd']⟩), dstOk_at hd hop hd'⟩) hF' (fun a' w' h => hQ a' w' (h.map fun S base wi h => h.dropE _ fun n hn hd => by
      by_cases hk : n ∈ keep
      · exact hk
      · rcases List.mem_append.1 hn with h | h
        · exact h
        · exact absurd (List.mem_filter.2 ⟨h, by simp [hk]⟩) hd))
  simpa using this

/-! ### A call that lays such memory; a map of the frame's own that becomes such memory -/
theorem FG.start {F : Nat → Prop} {keep' : List Nat} {env1 : Env} {a1 : Act} {w1 : World} {S' F' : Nat → Prop} (hF1 : FI P nt keep' S' w1.heap.size w1 env1 a1 w1) (hR : ρ.R s S' F' w1) (hF' : ∀ b, F' b → ¬ S' b) (hsz : w00.heap.size ≤ w1.heap.size) (hK : Keeps w00.heap.size F0 w00 w1) (h1 : ∀ b, S0 b → S' b) (h2 : ∀ b, S' b → S0 b ∨ w00.heap.size ≤ b) (h3 : ∀ b, F' b → F0 b ∨ w00.heap.size ≤ b) :
    FG ρ P nt keep' S0 F0 w00 true env1 s a1 w1 := by
  refine ⟨S', F', w1.heap.size, w1, hF1, hR, fun b hb => ⟨ρ.lt _ _ _ _ b hR hb, hF' b hb⟩, hsz, hK, h1, h2, h3, fun h => by cases h⟩

/-- All but a slot is read from now on. -/
def frzBut (m : Nat) (env : Env) : Env := freeze env ((env.filter fun p => p.1 != m && p.2.names != some m).map fun p => .t p.1)
def bareBut (m : Nat) (env : Env) : Bool := env.all fun p => p.1 == m || (!p.2.isOwn && (match p.2 with | .t _ => false | _ => true))
/-- What a map of the frame's own becomes. -/
def AdOK {σ : Type} (ρ : Rs σ) (ad : σ → Nat → List V → List V → Option σ) : Prop := ∀ s S F w g ks vs (es : Array MapEntry) (clock : Nat), ρ.R s S F w → ¬ F g → w.heap[g]? = some (.map es clock) → es.toList.map (·.key) = ks.map V.toVal → es.toList.map (·.val) = vs.map V.toVal →
  (∀ x ∈ ks, x.uniq = true) → (∀ x ∈ vs, x.uniq = true) → (∀ x ∈ vs, x.cell = true) → (es.toList.map (·.born)).Nodup → (∀ x ∈ es.toList, x.born < clock) → ∃ s', ad s g ks vs = some s' ∧ ρ.R s' S (fun b => F b ∨ b = g) w
theorem thaw_sound {ad : σ → Nat → List V → List V → Option σ} (had : AdOK ρ ad) {m : Nat} {ks vs : List V} (hF : FG ρ P nt keep S0 F0 w00 true env s a w) (hm : get m (frzBut m env) = some (.mp ks vs)) (hb : bareBut m (frzBut m env) = true) (hcl : ∀ x ∈ vs, x.cell = true) :
    ∃ g s', ad s g ks vs = some s' ∧ FG ρ P nt keep S0 F0 w00 true (put m (.mr (some g)) (frzBut m env)) s' a w := by
  obtain ⟨S, F, base, wi, hF0, hR, hFb, hbs, hKp, k1, k2, k3, k4⟩ := hF
  have hFz : FI P nt keep S base wi (frzBut m env) a w := hF0.freeze _
  generalize frzBut m env = env1 at hm hb hFz ⊢
  obtain ⟨Im, hI1, hI2, hE⟩ := hFz.ents
  obtain ⟨u, hu, ⟨⟨g, es, clock, rfl, q1, q2, q3, q4, q5, q6, q7, q8⟩, hno⟩⟩ := hE.ent m _ hm
  have hFIm : ∀ b, F b → ¬ Im b := fun b hb hi => by
    rcases (hI2 b hi).1 with h | h
    · exact (hFb b hb).2 h
    · have := (hFb b hb).1; omega
  have hgF : ¬ F g := fun h => by have := (hFb g h).1; omega
  have hgI : ¬ Im g := hno g rfl
  have hbare : ∀ n x, n ≠ m → get n env1 = some x → x.isOwn = false ∧ ∀ ys, x ≠ .t ys := fun n x hn hx => by
    have := List.all_eq_true.1 hb _ (get_mem hx)
    simp only [Bool.or_eq_true, beq_iff_eq, Bool.and_eq_true, Bool.not_eq_true'] at this
    rcases this with h | h
    · exact absurd h hn
    · refine ⟨h.1, fun ys e => ?_⟩
      subst e
      cases h.2
  have hsz := hFz.bsz
  have hent : Ents P Im w w.heap.size (put m (.mr (some g)) env1) (tm a) := by
    refine ⟨fun n x hx => ?_, fun n x k hx hk => ?_, fun n c n' c' b h => ?_, hE.glob⟩
    · rw [get_put] at hx
      by_cases hn : n = m
      · rw [if_pos hn] at hx
        cases hx
        subst hn
        exact ⟨_, hu, (.mr _ : Rep Im w _ _)⟩
      · rw [if_neg hn] at hx
        obtain ⟨h1, h2⟩ := hbare n x hn hx
        obtain ⟨v, hv, he⟩ := hE.ent n x hx
        refine ⟨v, hv, ?_⟩
        cases x with
        | t ys => exact absurd rfl (h2 _)
        | ow e es => cases h1
        | bx cs => cases h1
        | mp ks vs => cases h1
        | pe k i off sz =>
          obtain ⟨ad, l, c, kk, h3, h4, h5⟩ := he
          refine ⟨ad, l, c, kk, h3, h4, fun y es hy hfz => ?_⟩
          rw [get_put] at hy
          split at hy
          · cases hy; simp [frz] at hfz
          · exact h5 y es hy hfz
        | _ => exact he
    · rw [get_put] at hx
      by_cases hn : n = m
      · rw [if_pos hn] at hx; cases hx; cases hk
      · rw [if_neg hn] at hx
        obtain ⟨y, hy, hyn⟩ := hE.closed n x k hx hk
        rw [get_put]
        split
        · exact ⟨_, rfl, rfl⟩
        · exact ⟨y, hy, hyn⟩
    · exfalso
      have hnb : ∀ n x, get n (put m (.mr (some g)) env1) = some x → x.isOwn = false ∧ ∀ ys, x ≠ .t ys := fun n x hx => by
        rw [get_put] at hx
        by_cases hn : n = m
        · rw [if_pos hn] at hx; cases hx; exact ⟨rfl, fun _ e => by cases e⟩
        · rw [if_neg hn] at hx; exact hbare n x hn hx
      cases c with
      | none =>
        obtain ⟨x, _, hx, ho, _⟩ := h
        rw [(hnb n x hx).1] at ho; cases ho
      | some j =>
        obtain ⟨ys, _, _, _, hx, _⟩ := h
        exact absurd rfl ((hnb n _ hx).2 ys)
  have hFI : FI P nt keep Im w.heap.size w (put m (.mr (some g)) env1) a w := ⟨hFz.srt.put m _, hFz.size, hFz.defers, Below.refl _ _, fun _ _ => rfl, Nat.le_refl _, fun n x hx => by
    rw [get_put] at hx
    by_cases hn : n = m
    · rw [hn]; exact hFz.keys m _ hm
    · rw [if_neg hn] at hx; exact hFz.keys n x hx, Im, fun _ h => h, fun b h => ⟨.inl h, (hI2 b h).2⟩, hent⟩
  have hRI : ρ.R s Im F w := ρ.loc _ S Im F w w ((ρ.loc _ S S F w w hR (fun _ h => h) fun _ _ => rfl)) hI1 fun _ _ => rfl
  obtain ⟨s', hs', hR'⟩ := had s Im F w g ks vs es clock hRI hgF q2 q3 q4 q5 q6 hcl q7 q8
  refine ⟨g, s', hs', FG.start (F := F) hFI hR' (fun b hb hi => ?_) (Nat.le_trans hbs hsz) ⟨hFz.below.os.trans hKp.os, hFz.below.tape.trans hKp.tape, hFz.below.output.trans hKp.output, Nat.le_trans hbs hsz, fun b hb' hnf => ?_⟩ (fun b h => hI1 b (k1 b h)) (fun b h => ?_) fun b h => ?_⟩
  · rcases hb with h | rfl
    · exact hFIm b h hi
    · exact hgI hi
  · rw [hFz.below.block b (by omega), hKp.block b hb' hnf]
  · rcases (hI2 b h).1 with h | h
    · exact k2 b h
    · exact .inr (Nat.le_trans hbs h)
  · rcases h with h | rfl
    · exact k3 b h
    · exact .inr (Nat.le_trans hbs q1)

/-- A call that lays such memory, steps ahead of it and behind it. -/
theorem anew_sound (ho : SoundO P o) {id : Nat} {pre post : List Oper} {x : Oper} {ss1 ss2 : List St} (h1 : toSts P pre = some ss1) (h2 : toSts P post = some ss2) {f : Nat} {args : Array Operand} {tys : Array TypeId} (hg : x.guard = none) (hop : x.op = .call { callee := .value (.func f), args := args, argTypes := tys }) {xs : List Src} (hxs : srcs args.toList = some xs)
    (hd : dstOk nt (pre ++ x :: post) = true) {env1 : Env} (hst : stepsS o ss1 env = some env1) (hbare : bare (frzAll env1) = true) {zs : List V} (hl : lookSs (frzAll env1) xs = some zs) (hok : okFn P f = true) {T : V → σ → Prop} (hpf : PFN P ρ f zs s T)
    (hF : FG ρ P nt keep S0 F0 w00 true env s a w) {Q : Exit → Act → World → Prop} (hQ : ∀ y s1, T y s1 → okY y = true ∧ ∃ env2, stepsS o ss2 (putO x.dst y (frzAll env1)) = some env2 ∧ ∀ a' w', FG ρ P nt keep S0 F0 w00 true (dropE (looseD keep (pre ++ x :: post)) env2) s1 a' w' → Q .normal a' w') :
    (Code.region id (pre ++ x :: post).toArray false).wp P Q a w := by
  obtain ⟨S, F, base, wi, hF, hR, hFb, hb, hKp, k1, k2, k3, _⟩ := hF
  refine wp_region ?_
  have hrange : List.range (pre ++ x :: post).toArray.size = List.range' 0 pre.length ++ (pre.length :: (List.range' (pre.length + 1) post.length ++ [])) := by
    rw [List.size_toArray, List.length_append, List.length_cons, List.range_eq_range', List.append_nil, ← List.range'_succ]
    have h0 : pre.length = 0 + pre.length := (Nat.zero_add _).symm
    conv => rhs; arg 2; rw [h0]
    rw [List.range'_append_1]
  rw [hrange]
  have hmem : ∀ op, op ∈ pre ++ x :: post → ∀ d, op.dst = some d → d ∈ keep ++ ((pre ++ x :: post).flatMap fun o => o.dst.toList) ∧ d < nt := fun op hop' d hd' =>
    ⟨List.mem_append_right _ (List.mem_flatMap.2 ⟨op, hop', by simp [hd']⟩), dstOk_at hd hop' hd'⟩
  have hFk := hF.keys_mono (keep' := keep ++ ((pre ++ x :: post).flatMap fun o => o.dst.toList)) fun n hn => List.mem_append_left _ hn
  refine stepsS_pre ho (opsL := pre ++ x :: post) pre ss1 0 env a w (x :: post) h1 hst (by simp) (fun op hop' d hd' => hmem op (List.mem_append_left _ hop') d hd') hFk fun a1 w1 hF1 => ?_
  have hFz : FI P nt _ S base wi (frzAll env1) a1 w1 := hF1.freeze (env1.map fun p => .t p.1)
  obtain ⟨Im, hI1, hI2, hE⟩ := hFz.ents
  have hFIm : ∀ b, F b → ¬ Im b := fun b hb hi => by
    rcases (hI2 b hi).1 with h | h
    · exact (hFb b hb).2 h
    · have := (hFb b hb).1; omega
  have hreps : Reps Im w1 (args.toList.map a1.eval) zs := srcs_loose hE hxs (fun s _ => bare_owner hbare s hE.closed) hl
  have hR1 : ρ.R s Im F w1 := ρ.loc s S Im F w w1 hR hI1 fun b hb => by
    rcases hb with hb | hb
    · exact (hFz.kept b hb).trans (hF.kept b hb).symm
    · exact (hFz.below.block b (hFb b hb).1).trans (hF.below.block b (hFb b hb).1).symm
  have hent : (execOp a1.eval x).run P w1 = .ok (.enter f (args.toList.map a1.eval).toArray) w1 := by
    rw [callm_enter (ρ := a1.eval) (fun _ => rfl) hop hok w1]
    congr 2
    apply Array.toList_inj.1; simp
  simp only [wpOps, List.getElem?_toArray, List.getElem?_append_right (Nat.le_refl _), Nat.sub_self, List.getElem?_cons_zero]
  have hw : Region.wanted x (yielded (pre ++ x :: post).toArray a1.tmps) = true := by simp [Region.wanted, hg]
  rw [if_pos hw]
  left
  refine Outc.wp ?_
  rw [hent]
  refine (hpf Im F w1 _ (fun b h => (hI2 b h).2) hFIm hE.glob hreps hR1).mono fun e w2 ⟨v, y, s1, he, hT, hk2, S', F', m1, m2, hR2, m3, m4, hrep⟩ => ⟨v, he, ?_⟩
  obtain ⟨hoy, env2, hst2, hK⟩ := hQ y s1 hT
  have hnew : FI P nt _ S' w2.heap.size w2 (frzAll env1) a1 w2 := hFz.anew hbare hE m1 (fun b h => (m2 b h).2) fun b hb => hk2.block b (hI2 b hb).2 fun hf => hFIm b hf hb
  obtain ⟨Im', n1, n2, hE'⟩ := hnew.ents
  have hput := hnew.put_res (d := x.dst) (fun d' hd' => hmem x (by simp) d' hd') (Below.refl _ _) n1 n2 hE' (fun _ h => h) (fun b h => ⟨.inl h, (n2 b h).2⟩) (v := v) (y := y) ((hrep.mono n1).res (okY_t hoy))
  have hsz1 : w00.heap.size ≤ w1.heap.size := Nat.le_trans hb hFz.bsz
  have hdrop2 : (pre ++ x :: post).drop (pre.length + 1) = post ++ [] := by
    rw [List.append_nil, List.drop_append, List.drop_eq_nil_of_le (by omega)]; simp
  refine stepsS_pre ho (opsL := pre ++ x :: post) post ss2 (pre.length + 1) _ _ w2 [] h2 hst2 hdrop2 (fun op hop' d hd' => hmem op (List.mem_append_right _ (List.mem_cons_of_mem _ hop')) d hd') hput fun a3 w3 hF3 => ?_
  simp only [wpOps]
  refine hK a3 w3 ?_
  have hfin := hF3.dropE (looseD keep (pre ++ x :: post)) (keep' := keep) fun n hn hd => by
    by_cases hk : n ∈ keep
    · exact hk
    · rcases List.mem_append.1 hn with h | h
      · exact h
      · exact absurd (List.mem_filter.2 ⟨h, by simp [hk]⟩) hd
  have hKeep : Keeps w00.heap.size F0 w00 w2 := ⟨hk2.os.trans (hFz.below.os.trans hKp.os), hk2.tape.trans (hFz.below.tape.trans hKp.tape), hk2.output.trans (hFz.below.output.trans hKp.output), Nat.le_trans hsz1 hk2.size, fun b hb' hnf => by
    have hFn : ¬ F b := fun hf => by
      rcases k3 b hf with h | h
      · exact hnf h
      · omega
    rw [hk2.block b (by omega) hFn, hFz.below.block b (by omega), hKp.block b hb' hnf]⟩
  refine FG.frame hnew hR2 (fun b hb => ⟨ρ.lt _ _ _ _ b hR2 hb, m4 b hb⟩) (Nat.le_trans hsz1 hk2.size) hKeep (fun b h => m1 b (hI1 b (k1 b h))) (fun b h => ?_) (fun b h => ?_) (fun h => by cases h) hfin
  · rcases (m2 b h).1 with h | h
    · rcases (hI2 b h).1 with h | h
      · exact k2 b h
      · exact .inr (Nat.le_trans hb h)
    · exact .inr (Nat.le_trans hsz1 h)
  · rcases m3 b h with h | h
    · exact k3 b h
    · exact .inr (Nat.le_trans hsz1 h)
end
end Go.VM
/-
  Code with operations and calls that turn memory beside the frame: the code, what is said of it, contracts. No program is named here.
-/
namespace Go.VM
open Go.RowKit
variable [Glob]

/-- Which regions of a code ask or turn the memory beside the frame. -/
inductive ShG where
  | c
  | seq (a b : ShG)
  | cond (a b : ShG)
  | blk (a : ShG)
  | loop (a : ShG)
  | lin (fs : List Nat)
  | drw (c : Nat) (fs : List Nat)
  | anew (k : Nat)
  | thaw (m : Nat) (a : ShG)
inductive NG where
  | c (x : C)
  | seq (a b : NG)
  | cond (x : X) (a b : NG)
  | blk (id : Nat) (a : NG)
  | loop (kin : List Nat) (a : NG)
  | lin (ss : List RSt) (ks : List Nat)
  | drw (ss : List RSt) (af : List (List Nat)) (c : Nat) (ks : List Nat)
  | anew (pre : List St) (d : Option Nat) (f : Nat) (xs : List Src) (post : List St) (ks : List Nat)
  | thaw (m : Nat) (a : NG)
section
variable {σ : Type} (ρ : Rs σ) (ad : σ → Nat → List V → List V → Option σ) (P : Program) (o : Orc)
def roundG' (F : Env → σ → (Ex → Env → σ → Prop) → Prop) (kin : List Nat) (K : Ex → Env → σ → Prop) : Nat → Env → σ → Prop
  | 0, _, _ => False
  | n + 1, env, s => F (keepE kin env) s fun e env1 s1 => match e with
    | .n => roundG' F kin K n env1 s1
    | .e j => K (.e j) env1 s1
    | .r => K .r env1 s1
/-- Code from a frame and a state on ends so that K holds. -/
def WG : NG → Env → σ → (Ex → Env → σ → Prop) → Prop
  | .c x, env, s, K => ∃ e env1, exec o x env = some (e, env1) ∧ K e env1 s
  | .seq a b, env, s, K => WG a env s fun e env1 s1 => match e with
    | .n => WG b env1 s1 K
    | .e j => K (.e j) env1 s1
    | .r => K .r env1 s1
  | .cond x a b, env, s, K => ∃ t, evalX o env x = some (.b t) ∧ if t = true then WG a env s K else WG b env s K
  | .blk id a, env, s, K => WG a env s fun e env1 s1 => match e with
    | .e j => if j = id then K .n env1 s1 else K (.e j) env1 s1
    | .n => K .n env1 s1
    | .r => K .r env1 s1
  | .loop kin a, env, s, K => ∃ n, roundG' (WG a) kin K n env s
  | .lin ss ks, env, s, K => ∃ env1 s1, stepsR ρ o ss env s = some (env1, s1) ∧ K .n (dropE ks env1) s1
  | .drw ss af c ks, env, s, K => ∃ (o' : Orc) (env1 : Env) (s1 : σ), drawN o' (ss.map RSt.gst) af (frzAll env) = some env1 ∧ (∀ i st, ss[i]? = some st → okItem ρ s s1 o' af c i st) ∧ (c < ss.length ∨ s1 = s) ∧ K .n (dropE ks env1) s1
  | .anew pre d f xs post ks, env, s, K => ∃ env1, stepsS o pre env = some env1 ∧ bare (frzAll env1) = true ∧ ∃ zs, lookSs (frzAll env1) xs = some zs ∧ okFn P f = true ∧ ∃ T : V → σ → Prop, PFN P ρ f zs s T ∧
      ∀ y s1, T y s1 → okY y = true ∧ ∃ env2, stepsS o post (putO d y (frzAll env1)) = some env2 ∧ K .n (dropE ks env2) s1
  | .thaw m a, env, s, K => ∃ ks vs, get m (frzBut m env) = some (.mp ks vs) ∧ bareBut m (frzBut m env) = true ∧ (∀ x ∈ vs, x.cell = true) ∧ ∀ g s', ad s g ks vs = some s' → WG a (put m (.mr (some g)) (frzBut m env)) s' K
def anewOf (nt : Nat) (keep : List Nat) (k : Nat) (ops : List Oper) : Option NG := match ops.drop k with
  | x :: r => if x.guard.isSome then none else match x.op with
    | .call { callee := .value (.func f), args, .. } => (toSts P (ops.take k)).bind fun s1 => (toSts P r).bind fun s2 => (srcs args.toList).bind fun xs => if dstOk nt ops = true then some (.anew s1 x.dst f xs s2 (looseD keep ops)) else none
    | _ => none
  | [] => none
def compG (gr : Bool) (nt : Nat) (keep ret : List Nat) : ShG → Code → List (Nat × List Nat) → List Nat → Option NG
  | .c, c, es, out => (comp P nt keep ret c es out).map .c
  | .seq s t, .seq a b, es, out => (compG gr nt keep ret s a es (live ret b es out)).bind fun x => (compG gr nt keep ret t b es out).bind fun y => some (.seq x y)
  | .cond s t, .cond c a b, es, out => (condX c).bind fun x => (compG gr nt keep ret s a es out).bind fun a => (compG gr nt keep ret t b es out).bind fun b => some (.cond x a b)
  | .blk s, .block id a, es, out => (compG gr nt keep ret s a ((id, out) :: es) out).bind fun a => some (.blk id a)
  | .loop s, .loop a, es, out => let l := sort1 ((live ret (.loop a) es out).filter fun t => keep.contains t)
    (compG gr nt keep ret s a es l).bind fun c => some (.loop l c)
  | .lin fs, .region _ ops false, _, _ => (toRs P fs ops.toList ops.toList).bind fun ss => if dstOk nt ops.toList = true then some (.lin ss (looseD keep ops.toList)) else none
  | .drw c fs, .region _ ops true, _, _ => (toRs P fs ops.toList ops.toList).bind fun ss => if (dstOk nt ops.toList && (List.range ops.size).all fun i => match ops[i]? with | some o => (aft o).all fun j => decide (j < i) | none => false) = true then some (.drw ss (ops.toList.map aft) c (looseD keep ops.toList)) else none
  | .anew k, .region _ ops false, _, _ => if gr then anewOf P nt keep k ops.toList else none
  | .thaw m s, c, es, out => if gr then (compG gr nt keep ret s c es out).map (.thaw m) else none
  | _, _, _, _ => none
structure GCode where
  np : Nat
  res : List RV
  body : NG
def compileG (gr : Bool) (sh : ShG) (f : Func) : Option GCode := f.body.bind fun c =>
  let ret := resTmps f
  (compG P gr f.ntmps (keepOf f c) ret sh c [] ret).bind fun b => (resOf P f.results.toList).bind fun rs => if f.params.size + f.nfree ≤ f.ntmps ∧ (P.follows .mixedOrders = true) then some ⟨f.params.size + f.nfree, rs, b⟩ else none
end

section
variable {σ : Type} {ρ : Rs σ} {ad : σ → Nat → List V → List V → Option σ} {P : Program} {nt : Nat} {keep ret : List Nat} {env env' : Env} {a : Act} {w : World} {o : Orc} {s s' : σ} {S0 F0 : Nat → Prop} {w00 : World} {gr : Bool}

/-- What a stretch of code does at any frame beside the memory. -/
def DoesG (ρ : Rs σ) (P : Program) (nt : Nat) (keep : List Nat) (S0 F0 : Nat → Prop) (w00 : World) (gr : Bool) (W : Env → σ → (Ex → Env → σ → Prop) → Prop) (c : Code) : Prop :=
  ∀ (env : Env) (s : σ) (K : Ex → Env → σ → Prop), W env s K → ∀ (a : Act) (w : World), FG ρ P nt keep S0 F0 w00 gr env s a w → ∀ Q : Exit → Act → World → Prop, (∀ ex env' s' a' w', K ex env' s' → FG ρ P nt keep S0 F0 w00 gr env' s' a' w' → Q ex.exit a' w') → c.wp P Q a w

theorem WG_sound (ho : SoundO P o) (hρ : SoundR P ρ) (had : gr = true → AdOK ρ ad) (hm : P.follows .mixedOrders = true) : ∀ (sh : ShG) (c : Code) (es : List (Nat × List Nat)) (out : List Nat) (cc : NG), compG P gr nt keep ret sh c es out = some cc → DoesG ρ P nt keep S0 F0 w00 gr (WG ρ ad P o cc) c
  | .c, c, es, out, cc, hc => by
    simp only [compG, Option.map_eq_some_iff] at hc
    obtain ⟨x, hx, rfl⟩ := hc
    intro env s K hW a w hFE Q hQ
    obtain ⟨ex, env1, he, hK⟩ := hW
    obtain ⟨S, F, base, wi, hF, hR, hFb, hb, hKp, k1, k2, k3, k4⟩ := hFE
    exact exec_sound ho hm c es out x hx env ex env1 he a w hF Q fun a' w' h => hQ ex env1 s a' w' hK (FG.frame hF hR hFb hb hKp k1 k2 k3 k4 h)
  | .seq s1 t1, .seq x y, es, out, cc, hc => by
    simp only [compG, Option.bind_eq_some_iff, Option.some.injEq] at hc
    obtain ⟨n1, h1, n2, h2, rfl⟩ := hc
    intro env s K hW a w hF Q hQ
    refine wp_seq (WG_sound ho hρ had hm s1 x _ _ n1 h1 env s _ hW a w hF _ fun ex env1 s' a1 w1 hK hF1 => ?_)
    cases ex with
    | n => exact WG_sound ho hρ had hm t1 y _ _ n2 h2 env1 s' _ hK a1 w1 hF1 Q hQ
    | e j => exact hQ (.e j) env1 s' a1 w1 hK hF1
    | r => exact hQ .r env1 s' a1 w1 hK hF1
  | .cond s1 t1, .cond c x y, es, out, cc, hc => by
    simp only [compG, Option.bind_eq_some_iff, Option.some.injEq] at hc
    obtain ⟨cx, hcx, n1, h1, n2, h2, rfl⟩ := hc
    intro env s K hW a w hF Q hQ
    obtain ⟨t', hv, hW⟩ := hW
    obtain ⟨_, _, _, _, hFI, _⟩ := id hF
    refine wp_cond (cond_val hFI hcx hv) ?_
    cases t' with
    | true => exact WG_sound ho hρ had hm s1 x _ _ n1 h1 env s K hW a w hF Q hQ
    | false => exact WG_sound ho hρ had hm t1 y _ _ n2 h2 env s K hW a w hF Q hQ
  | .blk s1, .block id x, es, out, cc, hc => by
    simp only [compG, Option.bind_eq_some_iff, Option.some.injEq] at hc
    obtain ⟨n1, h1, rfl⟩ := hc
    intro env s K hW a w hF Q hQ
    refine wp_block (WG_sound ho hρ had hm s1 x _ _ n1 h1 env s _ hW a w hF _ fun ex env1 s' a1 w1 hK hF1 => ?_)
    cases ex with
    | n => exact hQ .n env1 s' a1 w1 hK hF1
    | e j =>
      show Exit.inBlock id Q (.exit j) a1 w1
      simp only [Exit.inBlock]
      simp only at hK
      by_cases hj : j = id
      · rw [if_pos hj] at hK ⊢; exact hQ .n env1 s' a1 w1 hK hF1
      · rw [if_neg hj] at hK ⊢; exact hQ (.e j) env1 s' a1 w1 hK hF1
    | r => exact hQ .r env1 s' a1 w1 hK hF1
  | .loop s1, .loop x, es, out, cc, hc => by
    simp only [compG, Option.bind_eq_some_iff, Option.some.injEq] at hc
    obtain ⟨n1, h1, rfl⟩ := hc
    intro env s K hW a w hF Q hQ
    obtain ⟨n, hW⟩ := hW
    refine wp_loop_rounds n ?_
    induction n generalizing env s a w with
    | zero => exact hW.elim
    | succ n ih =>
      refine WG_sound ho hρ had hm s1 x _ _ n1 h1 _ s _ hW a w (hF.keepE _) _ fun ex env1 s' a1 w1 hK hF1 => ?_
      cases ex with
      | n => exact ih env1 s' a1 w1 hF1 hK
      | e j => exact hQ (.e j) env1 s' a1 w1 hK hF1
      | r => exact hQ .r env1 s' a1 w1 hK hF1
  | .lin fs, c, es, out, cc, hc => by
    unfold compG at hc
    split at hc <;> first | (rename_i hh; cases hh; done) | skip
    · rename_i hh
      cases hh
      simp only [Option.bind_eq_some_iff] at hc
      obtain ⟨ss, hss, hc⟩ := hc
      split at hc
      · rename_i hd
        cases hc
        intro env s K hW a w hF Q hQ
        obtain ⟨env1, s1, hst, hK⟩ := hW
        exact lin_sound ho hρ hss hst hd hF fun a' w' h => hQ .n _ s1 a' w' hK h
      · cases hc
    · cases hc
  | .drw k fs, c, es, out, cc, hc => by
    unfold compG at hc
    split at hc <;> first | (rename_i hh; cases hh; done) | skip
    · rename_i hh
      cases hh
      simp only [Option.bind_eq_some_iff] at hc
      obtain ⟨ss, hss, hc⟩ := hc
      split at hc
      · rename_i hd
        simp only [Bool.and_eq_true] at hd
        cases hc
        intro env s K hW a w hF Q hQ
        obtain ⟨o', env1, s1, hst, hit, hcs, hK⟩ := hW
        have hlen := (toRs_at hss).1
        refine drw_sound ho hρ hm hss hst hit (hcs.imp (fun h => by rw [hlen] at h; simpa using h) id) hd.1 hd.2 (hF.map fun S base wi h => h.freeze _) fun a' w' h => hQ .n _ s1 a' w' hK h
      · cases hc
    · cases hc
  | .anew k, c, es, out, cc, hc => by
    unfold compG at hc
    split at hc <;> first | (rename_i hh; cases hh; done) | skip
    · rename_i hh
      cases hh
      split at hc
      · rename_i hgr
        obtain rfl : gr = true := hgr
        rename_i ops
        unfold anewOf at hc
        split at hc
        · rename_i x r hdr
          split at hc
          · cases hc
          · rename_i hg
            split at hc
            · rename_i f args tys hop
              simp only [Option.bind_eq_some_iff] at hc
              obtain ⟨s1, h1, s2, h2, xs, hxs, hc⟩ := hc
              split at hc
              · rename_i hd
                cases hc
                have hops : ops.toList = ops.toList.take k ++ x :: r := by rw [← hdr, List.take_append_drop]
                have hops' : ops = (ops.toList.take k ++ x :: r).toArray := by apply Array.toList_inj.1; simpa using hops
                intro env s K hW a w hF Q hQ
                obtain ⟨env1, hst, hbare, zs, hl, hok, T, hpf, hT⟩ := hW
                rw [hops']
                rw [hops] at hd
                refine anew_sound ho h1 h2 (by simpa using hg) hop hxs hd hst hbare hl hok hpf hF fun y s1' hTy => ?_
                obtain ⟨hoy, env2, hst2, hK⟩ := hT y s1' hTy
                refine ⟨hoy, env2, hst2, fun a' w' h => hQ .n _ s1' a' w' hK ?_⟩
                rw [hops]; exact h
              · cases hc
            · cases hc
        · cases hc
      · cases hc
    · cases hc
  | .thaw m s1, c, es, out, cc, hc => by
    simp only [compG] at hc
    split at hc
    · rename_i hgr
      have hgr : gr = true := hgr
      simp only [Option.map_eq_some_iff] at hc
      obtain ⟨n1, h1, rfl⟩ := hc
      intro env s K hW a w hF Q hQ
      obtain ⟨ks, vs, hg, hb, hcl, hW⟩ := hW
      have hF0 : FG ρ P nt keep S0 F0 w00 true env s a w := hgr ▸ hF
      obtain ⟨g, s', hs', hF1⟩ := thaw_sound (had hgr) hF0 hg hb hcl
      exact WG_sound ho hρ had hm s1 c es out n1 h1 _ _ K (hW g s' hs') a w (hgr.symm ▸ hF1) Q hQ
    · cases hc

theorem roundG'_mono {F : Env → σ → (Ex → Env → σ → Prop) → Prop} (hF : ∀ env s (K K' : Ex → Env → σ → Prop), (∀ e env1 s1, K e env1 s1 → K' e env1 s1) → F env s K → F env s K') {kin : List Nat} {K K' : Ex → Env → σ → Prop} (h : ∀ e env1 s1, K e env1 s1 → K' e env1 s1) : ∀ (n : Nat) (env : Env) (s : σ), roundG' F kin K n env s → roundG' F kin K' n env s
  | 0, _, _, hn => hn
  | n + 1, env, s, hn => hF _ _ _ _ (fun e env1 s1 he => by
      cases e with
      | n => exact roundG'_mono hF h n env1 s1 he
      | e j => exact h _ _ _ he
      | r => exact h _ _ _ he) hn
theorem WG_mono : ∀ (c : NG) (env : Env) (s : σ) (K K' : Ex → Env → σ → Prop), (∀ e env1 s1, K e env1 s1 → K' e env1 s1) → WG ρ ad P o c env s K → WG ρ ad P o c env s K'
  | .c x, env, s, K, K', h, hW => by
    obtain ⟨e, env1, h1, h2⟩ := hW
    exact ⟨e, env1, h1, h _ _ _ h2⟩
  | .seq a b, env, s, K, K', h, hW => WG_mono a env s _ _ (fun e env1 s1 he => by
      cases e with
      | n => exact WG_mono b env1 s1 _ _ h he
      | e j => exact h _ _ _ he
      | r => exact h _ _ _ he) hW
  | .cond x a b, env, s, K, K', h, hW => by
    obtain ⟨t, h1, h2⟩ := hW
    refine ⟨t, h1, ?_⟩
    cases t with
    | true => exact WG_mono a env s _ _ h h2
    | false => exact WG_mono b env s _ _ h h2
  | .blk id a, env, s, K, K', h, hW => WG_mono a env s _ _ (fun e env1 s1 he => by
      cases e with
      | n => exact h _ _ _ he
      | r => exact h _ _ _ he
      | e j =>
        simp only at he ⊢
        by_cases h1 : j = id
        · rw [if_pos h1] at he ⊢; exact h _ _ _ he
        · rw [if_neg h1] at he ⊢; exact h _ _ _ he) hW
  | .loop kin a, env, s, K, K', h, hW => by
    obtain ⟨n, hn⟩ := hW
    exact ⟨n, roundG'_mono (fun env s K K' => WG_mono a env s K K') h n env s hn⟩
  | .lin ss ks, env, s, K, K', h, hW => by
    obtain ⟨env1, s1, h1, h2⟩ := hW
    exact ⟨env1, s1, h1, h _ _ _ h2⟩
  | .drw ss af c ks, env, s, K, K', h, hW => by
    obtain ⟨o', env1, s1, h1, h2, h3, h4⟩ := hW
    exact ⟨o', env1, s1, h1, h2, h3, h _ _ _ h4⟩
  | .anew pre d f xs post ks, env, s, K, K', h, hW => by
    obtain ⟨env1, h1, h2, zs, h3, h4, T, h5, h6⟩ := hW
    refine ⟨env1, h1, h2, zs, h3, h4, T, h5, fun y s1 hT => ?_⟩
    obtain ⟨h7, env2, h8, h9⟩ := h6 y s1 hT
    exact ⟨h7, env2, h8, h _ _ _ h9⟩
  | .thaw m a, env, s, K, K', h, hW => by
    obtain ⟨ks, vs, h1, h2, h3, h4⟩ := hW
    exact ⟨ks, vs, h1, h2, h3, fun g s' hs' => WG_mono a _ _ _ _ h (h4 g s' hs')⟩
/-- A loop, by what holds ahead of each round. -/
theorem WG.loop {kin : List Nat} {a : NG} {K : Ex → Env → σ → Prop} (I : Nat → Env → σ → Prop)
    (h : ∀ n env s, I n env s → WG ρ ad P o a (VM.keepE kin env) s fun e env1 s1 => match e with
      | .n => ∃ k, k < n ∧ I k env1 s1
      | .e j => K (.e j) env1 s1
      | .r => K .r env1 s1) {n : Nat} {env : Env} {s : σ} (hI : I n env s) : WG ρ ad P o (.loop kin a) env s K := by
  have hF := fun env s K K' => WG_mono (ρ := ρ) (ad := ad) (P := P) (o := o) a env s K K'
  have mono : ∀ (m : Nat) (env : Env) (s : σ), roundG' (WG ρ ad P o a) kin K m env s → roundG' (WG ρ ad P o a) kin K (m + 1) env s := by
    intro m
    induction m with
    | zero => intro env s h; exact h.elim
    | succ m ih =>
      intro env s h
      refine hF _ _ _ _ (fun e env1 s1 he => ?_) h
      cases e with
      | n => exact ih env1 s1 he
      | e j => exact he
      | r => exact he
  have mono' : ∀ (m k : Nat) (env : Env) (s : σ), m ≤ k → roundG' (WG ρ ad P o a) kin K m env s → roundG' (WG ρ ad P o a) kin K k env s := by
    intro m k env s hk
    induction hk with
    | refl => exact id
    | step _ ih => exact fun h => mono _ _ _ (ih h)
  refine ⟨n + 1, ?_⟩
  induction n using Nat.strongRecOn generalizing env s with
  | _ n ih =>
    refine hF _ _ _ _ (fun e env1 s1 he => ?_) (h n env s hI)
    cases e with
    | n =>
      obtain ⟨k, hk, hI'⟩ := he
      exact mono' (k + 1) n env1 s1 (by omega) (ih k hk hI')
    | e j => exact he
    | r => exact he

/-! ### Contracts -/
/-- What a frame hands back. -/
theorem res_of {rs : List ResultVar} {rvs : List RV} {Im : Nat → Prop} {base : Nat} {y : V} {fn : Func} (hE : Ents P Im w base env (tm a)) (hs : Srt env) (hfn : fn.results.toList = rs) (hres : resOf P rs = some rvs) (hret : retV rvs env = some y) : ∃ v, (results fn a.tmps).run P w = .ok v w ∧ Res P Im w base v y := by
  subst hfn
  unfold retV at hret
  simp only [Option.map_eq_some_iff] at hret
  obtain ⟨ys, hys, hy'⟩ := hret
  obtain ⟨us, hrun, hl, hh, hap, _⟩ := resVs_sound hE hs hres hys
  refine ⟨(if h : us.toArray.size = 1 then us.toArray[0] else .tuple us.toArray), ?_, ?_⟩
  · unfold results
    rw [Array.mapM_eq_mapM_toList]
    simp only [map_eq_pure_bind, Sem.run_bind]
    erw [hrun]
    simp only [Result.andThen_ok, Sem.run_pure]
  · match ys, us, hl, hh, hy' with
    | [y1], [u1], _, hh, hy' =>
      simp only at hy'
      subst hy'
      have := hh 0 u1 y1 rfl rfl
      simp only [List.size_toArray, List.length_cons, List.length_nil, Nat.zero_add, dite_true]
      rw [Res.eq1]
      · exact this
      · intro zs e; subst e; exact this
    | [], [], _, hh, hy' =>
      simp only at hy'
      subst hy'
      exact ⟨[], rfl, rfl, by simp, fun i j u u' y y' g _ h => by simp at h⟩
    | y1 :: y2 :: yr, u1 :: u2 :: ur, hl, hh, hy' =>
      simp only at hy'
      subst hy'
      have h1 : ¬ (u1 :: u2 :: ur).toArray.size = 1 := by simp
      rw [dif_neg h1]
      exact ⟨_, rfl, hl, hh, hap⟩
/-- A function that turns the memory beside it; what it hands back is read from then on. -/
theorem bodyG_sound (ho : SoundO P o) (hρ : SoundR P ρ) {f : FuncId} {fn : Func} (hf : P.funcs[f]? = some fn) {sh : ShG} {nc : GCode} (hc : compileG P false sh fn = some nc) {xs : List V} {y : V} {s s' : σ} (h1 : xs.length = nc.np) (h2 : xs.all V.arg = true)
    (hW : WG ρ ad P o nc.body (args0 0 xs) s fun e env s1 => (∀ j, e ≠ .e j) ∧ (∃ y0, retV nc.res env = some y0 ∧ y = frzt y0) ∧ s1 = s') : PFG P ρ f xs s y s' := by
  unfold compileG at hc
  simp only [Option.bind_eq_some_iff] at hc
  obtain ⟨c, hbody, b, hcomp, rs, hres, hc⟩ := hc
  split at hc
  · rename_i hcond
    cases hc
    intro S F w vs hS hSF hG hr hR
    refine calls_of_wp hf hbody ?_
    have hlen : vs.length = fn.params.size + fn.nfree := hr.1.trans h1
    have hF := FI.start (P := P) (nt := fn.ntmps) (keep := keepOf fn c) hS hG hr h2 (by rw [h1]; exact hcond.1) (fun n hn => mem_union (List.mem_range.2 (by rw [h1] at hn; exact hn))) (by simp [hlen]; exact hcond.1)
    have hFE : FG ρ P fn.ntmps (keepOf fn c) S F w false (args0 0 xs) s _ w := ⟨S, F, w.heap.size, w, hF, hR, fun b hb => ⟨ρ.lt _ _ _ _ b hR hb, hSF b hb⟩, Nat.le_refl _, ⟨rfl, rfl, rfl, Nat.le_refl _, fun _ _ _ => rfl⟩, fun _ h => h, fun b h => .inl h, fun b h => .inl h, fun _ => rfl⟩
    refine WG_sound (S0 := S) (F0 := F) (w00 := w) (gr := false) ho hρ (fun h => by cases h) hcond.2 sh c [] (resTmps fn) b hcomp _ s _ hW _ w hFE _ fun ex env' s1 a' w' hK hFE' => ?_
    obtain ⟨hx, ⟨y0, hret, rfl⟩, rfl⟩ := hK
    obtain ⟨S', F', base, wi, hF', hR', hFb, hb, hKp, k1, k2, k3, k4⟩ := hFE'
    obtain rfl := k4 rfl
    have fin : a'.defers = [] ∧ ∃ v, (results fn a'.tmps).run P w' = .ok v w' ∧ ∃ v', Ending.returned v = .returned v' ∧ Keeps w.heap.size F' w w' ∧
        ∃ S'' : Nat → Prop, (∀ b, S b → S'' b) ∧ (∀ b, S'' b → (S b ∨ w.heap.size ≤ b) ∧ b < w'.heap.size) ∧ ρ.R s1 S'' F' w' ∧ Rep S'' w' v' (frzt y0) := by
      obtain ⟨Im, hI1, hI2, hE⟩ := hF'.ents
      obtain ⟨v, hrun, hrs⟩ := res_of (fn := fn) hE hF'.srt rfl hres hret
      refine ⟨hF'.defers, v, hrun, v, rfl, ⟨hF'.below.os.trans hKp.os, hF'.below.tape.trans hKp.tape, hF'.below.output.trans hKp.output, Nat.le_trans hb hF'.bsz, fun b hb' hnf => ?_⟩, fun b => Im b ∨ (base ≤ b ∧ b < w'.heap.size), fun b h => .inl (hI1 b (k1 b h)), fun b h => ?_, ?_, hrs.frzt (fun b h => .inl h) fun b h1 h2 => .inr ⟨h1, h2⟩⟩
      · rw [hF'.below.block b (by omega), hKp.block b hb' hnf]
      · rcases h with h | ⟨h, h'⟩
        · refine ⟨?_, (hI2 b h).2⟩
          rcases (hI2 b h).1 with h | h
          · exact k2 b h
          · exact .inr (Nat.le_trans hb h)
        · exact ⟨.inr (Nat.le_trans hb h), h'⟩
      · exact ρ.loc _ S' _ F' w' w' hR' (fun b h => .inl (hI1 b h)) fun _ _ => rfl
    cases ex with
    | n => exact fin
    | r => exact fin
    | e id => exact absurd rfl (hx id)
  · cases hc
theorem Res1.low {S : Nat → Prop} {base base' : Nat} {v : Value} {y : V} (h : Res1 P S w base v y) (hb : base' ≤ base) : Res1 P S w base' v y := by
  cases y with
  | ow e es =>
    obtain ⟨⟨vs, ⟨hl, hv⟩, h3⟩, hn⟩ := h
    refine ⟨⟨vs, ⟨hl, ?_⟩, h3⟩, hn⟩
    rcases hv with h | ⟨g, cap, cur, rfl, h2, hh⟩
    · exact .inl h
    · exact .inr ⟨g, cap, cur, rfl, Nat.le_trans hb h2, hh⟩
  | bx cs =>
    obtain ⟨⟨g, vs, ty, rfl, h2, hh⟩, hn⟩ := h
    exact ⟨⟨g, vs, ty, rfl, Nat.le_trans hb h2, hh⟩, hn⟩
  | mp ks vs =>
    obtain ⟨⟨g, es, c, rfl, h2, hh⟩, hn⟩ := h
    exact ⟨⟨g, es, c, rfl, Nat.le_trans hb h2, hh⟩, hn⟩
  | _ => exact h
theorem Res.low {S : Nat → Prop} {base base' : Nat} {v : Value} {y : V} (h : Res P S w base v y) (hb : base' ≤ base) : Res P S w base' v y := by
  cases y with
  | t ys =>
    obtain ⟨us, e, hl, hh, hap⟩ := h
    exact ⟨us, e, hl, fun j u y hu hy => (hh j u y hu hy).low hb, hap⟩
  | ow e es => exact Res1.low (P := P) (y := .ow e es) h hb
  | bx cs => exact Res1.low (P := P) (y := .bx cs) h hb
  | mp ks vs => exact Res1.low (P := P) (y := .mp ks vs) h hb
  | _ => exact h
/-- A function that lays such memory for itself. -/
theorem bodyN_sound (ho : SoundO P o) (hρ : SoundR P ρ) (had : AdOK ρ ad) {f : FuncId} {fn : Func} (hf : P.funcs[f]? = some fn) {sh : ShG} {nc : GCode} (hc : compileG P true sh fn = some nc) {xs : List V} {y : V} {s : σ} (h0 : ∀ S w, ρ.R s S (fun _ => False) w) (h1 : xs.length = nc.np) (h2 : xs.all V.arg = true)
    (hW : WG ρ ad P o nc.body (args0 0 xs) s fun e env _ => (∀ j, e ≠ .e j) ∧ retV nc.res env = some y) : PF P f xs y := by
  unfold compileG at hc
  simp only [Option.bind_eq_some_iff] at hc
  obtain ⟨c, hbody, b, hcomp, rs, hres, hc⟩ := hc
  split at hc
  · rename_i hcond
    cases hc
    intro S w vs hS hG hr
    refine calls_of_wp hf hbody ?_
    have hlen : vs.length = fn.params.size + fn.nfree := hr.1.trans h1
    have hF := FI.start (P := P) (nt := fn.ntmps) (keep := keepOf fn c) hS hG hr h2 (by rw [h1]; exact hcond.1) (fun n hn => mem_union (List.mem_range.2 (by rw [h1] at hn; exact hn))) (by simp [hlen]; exact hcond.1)
    have hFE : FG ρ P fn.ntmps (keepOf fn c) S (fun _ => False) w true (args0 0 xs) s _ w := ⟨S, fun _ => False, w.heap.size, w, hF, h0 S w, fun b hb => hb.elim, Nat.le_refl _, ⟨rfl, rfl, rfl, Nat.le_refl _, fun _ _ _ => rfl⟩, fun _ h => h, fun b h => .inl h, fun b h => .inl h, fun _ => rfl⟩
    refine WG_sound (S0 := S) (F0 := fun _ => False) (w00 := w) (gr := true) ho hρ (fun _ => had) hcond.2 sh c [] (resTmps fn) b hcomp _ s _ hW _ w hFE _ fun ex env' s1 a' w' hK hFE' => ?_
    obtain ⟨hx, hret⟩ := hK
    obtain ⟨S', F', base, wi, hF', hR', hFb, hb, hKp, k1, k2, k3, k4⟩ := hFE'
    have fin : a'.defers = [] ∧ ∃ v, (results fn a'.tmps).run P w' = .ok v w' ∧ ∃ v', Ending.returned v = .returned v' ∧ Below w.heap.size w w' ∧
        ∃ S'' : Nat → Prop, (∀ b, S b → S'' b) ∧ (∀ b, S'' b → (S b ∨ w.heap.size ≤ b) ∧ b < w'.heap.size) ∧ Res P S'' w' w.heap.size v' y := by
      obtain ⟨Im, hI1, hI2, hE⟩ := hF'.ents
      obtain ⟨v, hrun, hrs⟩ := res_of (fn := fn) hE hF'.srt rfl hres hret
      refine ⟨hF'.defers, v, hrun, v, rfl, ⟨hF'.below.os.trans hKp.os, hF'.below.tape.trans hKp.tape, hF'.below.output.trans hKp.output, Nat.le_trans hb hF'.bsz, fun b hb' => ?_⟩, Im, fun b h => hI1 b (k1 b h), fun b h => ⟨?_, (hI2 b h).2⟩, hrs.low hb⟩
      · rw [hF'.below.block b (by omega), hKp.block b hb' id]
      · rcases (hI2 b h).1 with h | h
        · exact k2 b h
        · exact .inr (Nat.le_trans hb h)
    cases ex with
    | n => exact fin
    | r => exact fin
    | e id => exact absurd rfl (hx id)
  · cases hc
end
end Go.VM
