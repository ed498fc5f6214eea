/-
  The law's list of roots: the memory beside its frame, and the stretches of its code.
-/
import Derived.Test.YtmhbkofbbkogeaaGreatAll
import Derived.Test.YtmhbkofbbkogeaaGreatSpec9
import Derived.Deep.WholeRow
namespace Go.Proofs.YtmhbkofbbkogeaaGreat
open Go.VM Go.RowKit
abbrev allV (v : Value) : Obj := .cells #[.string ⟨#[97, 108, 108]⟩, .int .i64 1, v] 36 (0, 0)
structure BoxW (g : Nat) (L : List Int) (v : Value) (F : Nat → Prop) (w : World) : Prop where
  here : w.heap[g]? = some (allV v)
  row : RowOf w v L
  vg : blkOf v ≠ some g
  dom : ∀ b, F b ↔ b = g ∨ blkOf v = some b
/-- The variable whose field grows. -/
def boxR : Rs (Option (Nat × List Int)) where
  R s _ F w := match s with
    | none => ∀ b, ¬ F b
    | some o => ∃ v, BoxW o.1 o.2 v F w
  eff := fun _ _ _ => none
  loc := by
    intro s S S' F w w' h hS hw
    cases s with
    | none => exact h
    | some o =>
      obtain ⟨v, h⟩ := h
      exact ⟨v, (hw _ (.inr ((h.dom _).2 (.inl rfl)))).trans h.here, h.row.loc fun b hb => hw b (.inr ((h.dom b).2 (.inr hb))), h.vg, h.dom⟩
  lt := by
    intro s S F w b h hb
    cases s with
    | none => exact absurd hb (h b)
    | some o =>
      obtain ⟨v, h⟩ := h
      rcases (h.dom b).1 hb with rfl | hb
      · exact (Array.getElem?_eq_some_iff.1 h.here).1
      · exact h.row.lt hb
/-! ### The code, in pieces -/
def cL : Code → Code
  | .seq a _ => a
  | .block _ a => a
  | .loop a => a
  | c => c
def cR : Code → Code
  | .seq _ b => b
  | c => c
noncomputable def C3 : Code := Tryz.f3.body.getD .skip
noncomputable def kp : List Nat := keepOf Tryz.f3 C3
abbrev rt : List Nat := [6]
noncomputable def A0 : Code := cL C3
noncomputable def A1 : Code := cL (cR C3)
noncomputable def A4 : Code := cL (cL (cR (cR (cR C3))))
noncomputable def LP : Code := cL (cL (cR (cL (cR (cR (cR C3))))))
noncomputable def B5 : Code := cL LP
noncomputable def B7 : Code := cL (cL (cL (cR LP)))
noncomputable def B6 : Code := cR (cR LP)
noncomputable def AR : Code := cR (cR (cR (cR C3)))
theorem body3 : Tryz.f3.body = some (.seq A0 (.seq A1 (.seq (.region 3 ops3.toArray false) (.seq (.seq A4 (.block 0 (.loop (.seq B5 (.seq (.block 1 (.seq B7 (.cond (.tmp 41) (.region 8 ops8.toArray true) .skip))) B6))))) AR)))) := by kernel_rfl
theorem nt3 : Tryz.f3.ntmps = 144 := by kernel_rfl
theorem res3 : resTmps Tryz.f3 = rt := by kernel_rfl
theorem kp_in : kp.contains 7 = true := by kernel_rfl
def k0 : C := (.s [.box 3 (.t 0), .box 4 (.t 1), .as 6 (.c (.b false))] [])
def k1 : C := (.seq (.q [(26, (.ite (.op (.un .not) [(.op (.call false 4) [(.op (.ld 22 true) [(.sl 3)])])]) (.k (.b true)) (.op (.call false 5) [(.op (.bsl 3) [(.op (.ld 3 true) [(.sl 4)])])])))])
 (.cond (.sl 26) (.seq (.q [(6, (.k (.b true)))])
 (.ret [6])) .skip))
def k4 : C := (.q [(8, (.k (.i .i64 0)))])
def pE5 : C := (.seq (.q [(32, (.op (.bin .lss) [(.sl 8), (.op .len [(.op (.ld 1 false) [(.op (.fa 2 1) [(.sl 3)])])])]))])
 (.cond (.sl 32) .skip (.exit 0 [2, 3, 4, 7])))
def pE7 : C := (.q [(41, (.op (.bin .eql) [(.op (.ld 1 false) [(.op (.fa 1 1) [(.op (.ix 4) [(.op (.ld 1 false) [(.op (.fa 2 1) [(.sl 3)])]), (.sl 8)])])]), (.k (.i .i64 0))]))])
def pE6 : C := (.q [(8, (.op (.bin .add) [(.sl 8), (.k (.i .i64 1))]))])
def kR : C := (.seq (.s [.q 54 (.ld 22 true) [(.t 3)], .q 55 (.ld 3 true) [(.t 7)], .bsl 56 36 3 [(.t 55)], .mv 57 (.t 2), .call (some 58) 6 [(.t 54), (.t 56), (.t 57)], .mv 53 (.t 58), .ext 59 0 53, .ext 60 1 53, .as 9 (.t 59), .as 10 (.t 60)] [54, 55, 56, 57, 58, 53, 59, 60])
 (.seq (.seq (.q [(62, (.op (.bin .neq) [(.sl 10), (.k (.i .i64 0))]))])
 (.cond (.sl 62) (.seq (.q [(6, (.k (.b false)))])
 (.ret [6])) .skip))
 (.seq (.seq (.q [(11, (.k (.i .i64 0)))])
 (.blk 2 (.loop [2, 3, 4, 9, 11] body3_2)))
 (.seq (.s [.q 76 (.ld 22 true) [(.t 3)], .q 77 (.ld 3 true) [(.t 4)], .bsl 78 36 3 [(.t 77)], .mv 79 (.t 2), .call (some 80) 6 [(.t 76), (.t 78), (.t 79)], .mv 75 (.t 80), .ext 81 0 75, .ext 82 1 75, .as 12 (.t 81), .as 13 (.t 82)] [76, 77, 78, 79, 80, 75, 81, 82])
 (.seq (.seq (.q [(84, (.op (.bin .neq) [(.sl 13), (.k (.i .i64 0))]))])
 (.cond (.sl 84) (.seq (.q [(6, (.op (.call false 7) []))])
 (.ret [6])) .skip))
 (.seq (.seq (.q [(14, (.k (.i .i64 0)))])
 (.blk 4 (.loop [2, 3, 4, 12, 14] body3_4)))
 (.seq (.q [(6, (.op (.call false 7) []))])
 (.ret [6]))))))))
theorem comp_A0 : comp Tryz.prog 144 kp rt A0 [] rt = some k0 := by kernel_rfl
theorem comp_A1 : comp Tryz.prog 144 kp rt A1 [] rt = some k1 := by kernel_rfl
theorem comp_A4 : comp Tryz.prog 144 kp rt A4 [] rt = some k4 := by kernel_rfl
theorem comp_B5 : comp Tryz.prog 144 kp rt B5 [(0, [2, 3, 4, 7])] rt = some pE5 := by kernel_rfl
theorem comp_B7 : comp Tryz.prog 144 kp rt B7 [] rt = some pE7 := by kernel_rfl
theorem comp_B6 : comp Tryz.prog 144 kp rt B6 [] rt = some pE6 := by kernel_rfl
theorem comp_AR : comp Tryz.prog 144 kp rt AR [] rt = some kR := by kernel_rfl
section
variable {S0 F0 : Nat → Prop} {w00 : World}
theorem leaf_does {c : Code} {cc : C} {es : List (Nat × List Nat)} {out : List Nat} (h : comp Tryz.prog 144 kp rt c es out = some cc) : DoesG boxR Tryz.prog 144 kp S0 F0 w00 true (fun env s K => ∃ e env1, exec OB cc env = some (e, env1) ∧ K e env1 s) c := by
  rintro env s K ⟨ex, env1, he, hK⟩ a w hFE Q hQ
  obtain ⟨S, F, base, wi, hF, hR, hFb, hb, hKp, k1, k2, k3, k4⟩ := hFE
  exact exec_sound soundB (by kernel_rfl) c es out cc h env ex env1 he a w hF Q fun a' w' h => hQ ex env1 s a' w' hK (FG.frame hF hR hFb hb hKp k1 k2 k3 k4 h)
theorem cond_does {c : Operand} {cx : X} {x y : Code} {W1 W2 : Env → Option (Nat × List Int) → (Ex → Env → Option (Nat × List Int) → Prop) → Prop} (hcx : condX c = some cx) (h1 : DoesG boxR Tryz.prog 144 kp S0 F0 w00 true W1 x) (h2 : DoesG boxR Tryz.prog 144 kp S0 F0 w00 true W2 y) :
    DoesG boxR Tryz.prog 144 kp S0 F0 w00 true (fun env s K => ∃ t, evalX OB env cx = some (.b t) ∧ if t = true then W1 env s K else W2 env s K) (.cond c x y) := by
  rintro env s K ⟨t, hv, hW⟩ a w hF Q hQ
  obtain ⟨_, _, _, _, hFI, _⟩ := id hF
  refine wp_cond (cond_val hFI hcx hv) ?_
  cases t with
  | true => exact h1 env s K hW a w hF Q hQ
  | false => exact h2 env s K hW a w hF Q hQ
theorem skip_does : DoesG boxR Tryz.prog 144 kp S0 F0 w00 true (fun env s K => K .n env s) .skip := by
  intro env s K hW a w hF Q hQ
  refine leaf_does (cc := .skip) (es := []) (out := rt) (by kernel_rfl) env s K ⟨.n, env, by simp, hW⟩ a w hF Q hQ
/-! ### The variable is made -/
theorem at_list {α β : Type} {f : α → β} {l : List α} {m : List β} (h : l.map f = m) {i : Nat} {x : α} {y : β} (hx : l[i]? = some x) (hy : m[i]? = some y) : f x = y := by
  rw [← h, List.getElem?_map, hx] at hy
  exact Option.some.inj hy
theorem size_put (a : Act) (d : Nat) (u : Value) : (a.put (some d) u).tmps.size = a.tmps.size := by simp [Act.put]
theorem tm_putd {a : Act} {k : Nat} {u : Value} (hk : k < a.tmps.size) (n : Nat) : tm (a.put (some k) u) n = if n = k then some u else tm a n := tm_put hk n
theorem zero36 (w : World) : (zeroValue 36).run Tryz.prog w = .ok (.agg #[.string ⟨#[]⟩, .int .i64 0, .slice none 0 0]) w := by
  have h3 : (Tryz.prog.info? 36).bind (·.zero) = some (.agg #[.string ⟨#[]⟩, .int .i64 0, .slice none 0 0]) := by kernel_rfl
  cases hi : Tryz.prog.info? 36 with
  | none => rw [hi] at h3; cases h3
  | some it =>
    rw [hi] at h3
    simp only [Option.bind_some] at h3
    simp [zeroValue, typeInfo, hi, h3]
theorem made3 {a : Act} {w : World} {Q : Exit → Act → World → Prop} (hs : a.tmps.size = 144) (hd : a.defers = []) (hQ : ∀ a', a'.tmps.size = 144 → a'.defers = [] → (∀ k, k ≠ 7 → k ≠ 27 → tm a' k = tm a k) → tm a' 7 = some (.pointer (some ⟨w.heap.size, 0, none⟩)) → Q .normal a' (w.alloc (allV (.slice none 0 0)))) :
    (Code.region 3 ops3.toArray false).wp Tryz.prog Q a w := by
  refine wp_region ?_
  have hrange : List.range ops3.toArray.size = [0, 1, 2] := by rw [List.size_toArray, len3]; rfl
  rw [hrange]
  obtain ⟨o0, h0⟩ : ∃ o, ops3[0]? = some o := ⟨_, List.getElem?_eq_getElem (by rw [len3]; decide)⟩
  obtain ⟨o1, h1⟩ : ∃ o, ops3[1]? = some o := ⟨_, List.getElem?_eq_getElem (by rw [len3]; decide)⟩
  obtain ⟨o2, h2⟩ : ∃ o, ops3[2]? = some o := ⟨_, List.getElem?_eq_getElem (by rw [len3]; decide)⟩
  have e0 : o0.op = _ := at_list op3 h0 rfl
  have e1 : o1.op = _ := at_list op3 h1 rfl
  have e2 : o2.op = _ := at_list op3 h2 rfl
  have d0 : o0.dst = some 27 := at_list ds3 h0 rfl
  have d1 : o1.dst = some 7 := at_list ds3 h1 rfl
  have d2 : o2.dst = none := at_list ds3 h2 rfl
  have g0 : o0.guard = none := at_list gd3 h0 rfl
  have g1 : o1.guard = none := at_list gd3 h1 rfl
  have g2 : o2.guard = none := at_list gd3 h2 rfl
  refine wpOps_value h0 g0 (u := .agg #[.string ⟨#[97, 108, 108]⟩, .int .i64 1, .slice none 0 0]) (w1 := w) ?_ ?_
  · have h := run_build (P := Tryz.prog) w 36 #[(0, .string ⟨#[97, 108, 108]⟩), (1, .int .i64 1)] #[.string ⟨#[97, 108, 108]⟩, .int .i64 1, .slice none 0 0] (by kernel_rfl)
    have c0 : a.eval (.const (.string ⟨#[97, 108, 108]⟩)) = .string ⟨#[97, 108, 108]⟩ := rfl
    have c1 : a.eval (.const (.int .i64 1)) = .int .i64 1 := rfl
    simp [execOp, e0, c0, c1, h]
  rw [d0]
  generalize hag : (Value.agg #[.string ⟨#[97, 108, 108]⟩, .int .i64 1, .slice none 0 0]) = ag
  have s1 := (size_put a 27 ag).trans hs
  have k1 : ∀ k, tm (a.put (some 27) ag) k = if k = 27 then some ag else tm a k := tm_putd (by omega)
  have f1 : (a.put (some 27) ag).defers = [] := hd
  generalize a.put (some 27) ag = a1 at s1 k1 f1 ⊢
  refine wpOps_value h1 g1 (u := .pointer (some ⟨w.heap.size, 0, none⟩)) (w1 := w.alloc (.cells #[.string ⟨#[]⟩, .int .i64 0, .slice none 0 0] 36 (0, 0))) ?_ ?_
  · simp [execOp, e1, Instr.alloc, newVar, run_askRow, Value.cells]
  rw [d1]
  have s2 := (size_put a1 7 (.pointer (some ⟨w.heap.size, 0, none⟩))).trans s1
  have k2 : ∀ k, tm (a1.put (some 7) (.pointer (some ⟨w.heap.size, 0, none⟩))) k = if k = 7 then some (.pointer (some ⟨w.heap.size, 0, none⟩)) else tm a1 k := tm_putd (by omega)
  have f2 : (a1.put (some 7) (.pointer (some ⟨w.heap.size, 0, none⟩))).defers = [] := f1
  generalize a1.put (some 7) (.pointer (some ⟨w.heap.size, 0, none⟩)) = a2 at s2 k2 f2 ⊢
  have v7 : a2.eval (.tmp 7) = .pointer (some ⟨w.heap.size, 0, none⟩) := eval_tmp (by rw [k2, if_pos rfl])
  have v27 : a2.eval (.tmp 27) = ag := eval_tmp (by rw [k2, if_neg (by decide), k1, if_pos rfl])
  have c36 : Tryz.prog.cellsOf 36 = 3 := by kernel_rfl
  have hcl : ag.cells = #[.string ⟨#[97, 108, 108]⟩, .int .i64 1, .slice none 0 0] := by rw [← hag]; rfl
  have hst : (Instr.storeAt 36 (.pointer (some ⟨w.heap.size, 0, none⟩)) ag).run Tryz.prog (w.alloc (.cells #[.string ⟨#[]⟩, .int .i64 0, .slice none 0 0] 36 (0, 0))) = .ok () (w.alloc (allV (.slice none 0 0))) := by
    have := storeAt_run (P := Tryz.prog) (w := w.alloc (.cells #[.string ⟨#[]⟩, .int .i64 0, .slice none 0 0] 36 (0, 0))) (t := 36) (u := ag) (ad := ⟨w.heap.size, 0, none⟩) (g := w.heap.size) (j := 0) rfl (heap_alloc_new w _) (by rw [hcl, c36]; rfl) (by rw [c36]; decide) (by rw [hcl]; exact Nat.le_refl 3) (by rw [hcl]; simp [Value.oneCell'])
    rw [hcl] at this
    rw [this, World.setRow_alloc_new]
    simp
  refine wpOps_at (K := fun _ w1 => w1 = w.alloc (allV (.slice none 0 0))) h2 (by simp [Region.wanted, g2]) ?_ fun u w1 hw1 => ?_
  · have : (execOp a2.eval o2).run Tryz.prog (w.alloc (.cells #[.string ⟨#[]⟩, .int .i64 0, .slice none 0 0] 36 (0, 0))) = .ok .skip (w.alloc (allV (.slice none 0 0))) := by
      simp [execOp, e2, v7, v27, hst]
    rw [this]; rfl
  · subst hw1
    rw [d2]
    simp only [wpOps]
    refine hQ _ (by simpa [Act.put] using s2) f2 (fun k h7 h27 => ?_) ?_
    · show tm a2 k = tm a k
      rw [k2, if_neg h7, k1, if_neg h27]
    · show tm a2 7 = _
      rw [k2, if_pos rfl]
/-- A frame that owns nothing, one slot more: a pointer told exactly. -/
theorem ents_pt {Im : Nat → Prop} {base : Nat} {env : Env} {a a' : Act} {w w2 : World} {g : Nat} (hE : Ents Tryz.prog Im w base env (tm a)) (hb : bare env = true) (_h7 : ∀ n x, get n env = some x → n ≠ 7) (hT : ∀ n x, get n env = some x → tm a' n = tm a n) (ht7 : tm a' 7 = some (.pointer (some ⟨g, 0, none⟩))) (hI : ∀ b, Im b → w2.heap[b]? = w.heap[b]?) :
    Ents Tryz.prog Im w2 w2.heap.size (put 7 (.pt g) env) (tm a') := by
  refine ⟨fun n x hx => ?_, fun n x k hx hk => ?_, fun n cc n' c' b h => ?_, hE.glob.move (fun _ h => h) fun p hp => World.cell?_of_block (hI _ hp)⟩
  · rw [get_put] at hx
    by_cases hn : n = 7
    · rw [if_pos hn] at hx
      cases hx
      subst hn
      exact ⟨_, ht7, (.pt _ : Rep Im w2 _ _)⟩
    · rw [if_neg hn] at hx
      obtain ⟨hno, hnt⟩ := bare_own hb hx
      obtain ⟨u, hu, he⟩ := hE.ent n x hx
      refine ⟨u, (hT n x hx).trans hu, ?_⟩
      have hnm : ∀ m, x.names = some m → tm a' m = tm a m := fun m hm => by
        obtain ⟨y, hy, _⟩ := hE.closed n x m hx hm
        exact hT m y hy
      cases x with
      | ow e es => cases hno
      | bx cs => cases hno
      | mp ks vs => cases hno
      | t ys => exact absurd rfl (hnt _)
      | al m => exact (hnm m rfl).trans he
      | pe m i off sz =>
        obtain ⟨ad, l, c, k, h1, h2, h5⟩ := he
        refine ⟨ad, l, c, k, (hnm m rfl).trans h1, h2, fun y es hy hfz => ?_⟩
        rw [get_put] at hy
        split at hy
        · cases hy; simp [frz] at hfz
        · exact h5 y es hy hfz
      | pb m off sz =>
        obtain ⟨ad, h1, h2⟩ := he
        exact ⟨ad, (hnm m rfl).trans h1, h2⟩
      | ud => exact he
      | _ => exact Rep.keep he fun p hp => World.cell?_of_block (hI _ hp)
  · rw [get_put] at hx
    by_cases hn : n = 7
    · rw [if_pos hn] at hx; cases hx; cases hk
    · rw [if_neg hn] at hx
      obtain ⟨y, hy, hyn⟩ := hE.closed n x k hx hk
      rw [get_put]
      split
      · exact ⟨_, rfl, rfl⟩
      · exact ⟨y, hy, hyn⟩
  · exfalso
    have hnb : ∀ n x, get n (put 7 (.pt g) env) = some x → x.isOwn = false ∧ ∀ ys, x ≠ .t ys := fun n x hx => by
      rw [get_put] at hx
      by_cases hn : n = 7
      · rw [if_pos hn] at hx; cases hx; exact ⟨rfl, fun _ e => by cases e⟩
      · rw [if_neg hn] at hx; exact bare_own hb hx
    cases cc with
    | none =>
      obtain ⟨x, _, hx, ho, _⟩ := h
      rw [(hnb n x hx).1] at ho; cases ho
    | some j =>
      obtain ⟨ys, _, _, _, hx, _⟩ := h
      exact absurd rfl ((hnb n _ hx).2 ys)
theorem made_does : DoesG boxR Tryz.prog 144 kp S0 F0 w00 true (fun env s K => s = none ∧ bare (frzAll env) = true ∧ (∀ n x, get n (frzAll env) = some x → n ≠ 7 ∧ n ≠ 27) ∧ ∀ g, K .n (put 7 (.pt g) (frzAll env)) (some (g, []))) (.region 3 ops3.toArray false) := by
  rintro env s K ⟨rfl, hbare, hlow, hK⟩ a w hFG Q hQ
  obtain ⟨S, F, base, wi, hF, hR, hFb, hbs, hKp, k1, k2, k3, _⟩ := hFG
  have hFz : FI Tryz.prog 144 kp S base wi (frzAll env) a w := hF.freeze _
  obtain ⟨Im, hI1, hI2, hE⟩ := hFz.ents
  refine made3 hF.size hF.defers fun a' hs hd hkeep h7 => ?_
  have q1 : ∀ b, b < w.heap.size → (w.alloc (allV (.slice none 0 0))).heap[b]? = w.heap[b]? := fun b hb => heap_alloc_old w _ hb
  have q5 := heap_alloc_new w (allV (.slice none 0 0))
  have q6 : (w.alloc (allV (.slice none 0 0))).heap.size = w.heap.size + 1 := by simp
  have q7 : (w.alloc (allV (.slice none 0 0))).os = w.os ∧ (w.alloc (allV (.slice none 0 0))).tape = w.tape ∧ (w.alloc (allV (.slice none 0 0))).output = w.output := ⟨rfl, rfl, rfl⟩
  generalize w.alloc (allV (.slice none 0 0)) = w2 at q1 q5 q6 q7 ⊢
  have hsz := hF.bsz
  have hIk : ∀ b, Im b → w2.heap[b]? = w.heap[b]? := fun b hb => q1 b (hI2 b hb).2
  have hE3 := ents_pt (g := w.heap.size) hE hbare (fun n x hx => (hlow n x hx).1) (fun n x hx => hkeep n (hlow n x hx).1 (hlow n x hx).2) h7 hIk
  have hFI : FI Tryz.prog 144 kp Im w2.heap.size w2 (put 7 (.pt w.heap.size) (frzAll env)) a' w2 := ⟨hFz.srt.put 7 _, hs, hd, Below.refl _ _, fun _ _ => rfl, Nat.le_refl _, fun n x hx => by
    rw [get_put] at hx
    by_cases hn : n = 7
    · rw [hn]; exact ⟨by simpa using kp_in, by omega⟩
    · rw [if_neg hn] at hx; exact hFz.keys n x hx, Im, fun _ h => h, fun b h => ⟨.inl h, by rw [q6]; have := (hI2 b h).2; omega⟩, hE3⟩
  refine hQ .n _ (some (w.heap.size, [])) a' w2 (hK _) ?_
  refine FG.start (F' := fun b => b = w.heap.size) hFI ⟨.slice none 0 0, q5, World.ownsRow_nil w2 0 3 1, by simp [blkOf], fun b => by simp [blkOf]⟩ (fun b hb hi => ?_) (by rw [q6]; omega) ⟨q7.1.trans (hF.below.os.trans hKp.os), q7.2.1.trans (hF.below.tape.trans hKp.tape), q7.2.2.trans (hF.below.output.trans hKp.output), by rw [q6]; omega, fun b hb' hnf => ?_⟩ (fun b h => hI1 b (k1 b h)) (fun b h => ?_) fun b h => ?_
  · have := (hI2 b hi).2
    omega
  · rw [q1 b (by omega), hF.below.block b (by omega), hKp.block b hb' hnf]
  · rcases (hI2 b h).1 with h | h
    · exact k2 b h
    · exact .inr (Nat.le_trans hbs h)
  · right; omega
end
end Go.Proofs.YtmhbkofbbkogeaaGreat
namespace Go.Proofs.YtmhbkofbbkogeaaGreat
open Go.VM Go.RowKit
section
variable {S0 F0 : Nat → Prop} {w00 : World}
theorem past_box {env : Env} {a a' : Act} {w w2 : World} {S F : Nat → Prop} {base : Nat} {wi : World} (hF : FI Tryz.prog 144 kp S base wi env a w) (hbare : bare env = true) (hFb : ∀ b, F b → b < base ∧ ¬ S b) (hbs : w00.heap.size ≤ base) (hKp : Keeps w00.heap.size F0 w00 wi) (k1 : ∀ b, S0 b → S b) (k2 : ∀ b, S b → S0 b ∨ w00.heap.size ≤ b) (k3 : ∀ b, F b → F0 b ∨ w00.heap.size ≤ b)
    (hs : a'.tmps.size = 144) (hd : a'.defers = []) {d : Nat} (hT : ∀ n, n < d → tm a' n = tm a n) (hlow : ∀ n x, get n env = some x → n < d) (ho : w2.os = w.os) (ht : w2.tape = w.tape) (hou : w2.output = w.output) (hsz : w.heap.size ≤ w2.heap.size) (hblk : ∀ b, b < w.heap.size → ¬ F b → w2.heap[b]? = w.heap[b]?)
    {s : Option (Nat × List Int)} {F' : Nat → Prop} (hF'1 : ∀ b, F' b → F b ∨ w.heap.size ≤ b) (hR : ∀ Im : Nat → Prop, boxR.R s Im F' w2) : FG boxR Tryz.prog 144 kp S0 F0 w00 true env s a' w2 := by
  have hF2 := hF.agree hs hd fun n x hx => hT n (hlow n x hx)
  obtain ⟨Im, hI1, hI2, hE⟩ := hF2.ents
  have hbz := hF.bsz
  have hFIm : ∀ b, F b → ¬ Im b := fun b hb hi => by
    rcases (hI2 b hi).1 with h | h
    · exact (hFb b hb).2 h
    · have := (hFb b hb).1; omega
  have hIk : ∀ b, Im b → w2.heap[b]? = w.heap[b]? := fun b hb => hblk b (hI2 b hb).2 fun hf => hFIm b hf hb
  have hnew := hF2.anew hbare hE (S' := Im) (fun _ h => h) (w' := w2) (fun b h => Nat.lt_of_lt_of_le (hI2 b h).2 hsz) hIk
  refine FG.start (F' := F') hnew (hR Im) (fun b hb hi => ?_) (by omega) ⟨ho.trans (hF.below.os.trans hKp.os), ht.trans (hF.below.tape.trans hKp.tape), hou.trans (hF.below.output.trans hKp.output), by omega, fun b hb' hnf => ?_⟩ (fun b h => hI1 b (k1 b h)) (fun b h => ?_) fun b h => ?_
  · rcases hF'1 b hb with h | h
    · exact hFIm b h hi
    · have := (hI2 b hi).2; omega
  · have hFn : ¬ F b := fun hf => by
      rcases k3 b hf with h | h
      · exact hnf h
      · omega
    rw [hblk b (by omega) hFn, hF.below.block b (by omega), hKp.block b hb' hnf]
  · rcases (hI2 b h).1 with h | h
    · exact k2 b h
    · exact .inr (Nat.le_trans hbs h)
  · rcases hF'1 b h with h | h
    · exact k3 b h
    · right; omega
theorem add0 (p : Addr) : p.add 0 = p := by unfold Addr.add; split <;> simp_all
/-- The list grows by the Id of an account. -/
theorem grow_does : DoesG boxR Tryz.prog 144 kp S0 F0 w00 true (fun env s K => ∃ (g : Nat) (L : List Int) (b : Books) (k : Nat) (hk : k < b.chart.length), s = some (g, L) ∧ bare (frzAll env) = true ∧ get 7 (frzAll env) = some (.pt g) ∧ get 3 (frzAll env) = some (.r b.cells) ∧ get 8 (frzAll env) = some (.i .i64 k) ∧ (∀ n x, get n (frzAll env) = some x → n < 42) ∧ (L.length + 1) * 8 ≤ 140737488355328 ∧ K .n (frzAll env) (some (g, L ++ [b.chart[k].id]))) (.region 8 ops8.toArray true) := by
  rintro env s K ⟨g, L, b, k, hk, rfl, hbare, h7, h3, h8, hlow, hroom, hK⟩ a w hFG Q hQ
  obtain ⟨S, F, base, wi, hF, ⟨v, hW⟩, hFb, hbs, hKp, k1, k2, k3, _⟩ := hFG
  have hFz : FI Tryz.prog 144 kp S base wi (frzAll env) a w := hF.freeze _
  generalize frzAll env = env1 at hbare h7 h3 h8 hlow hK hFz
  obtain ⟨Im, hI1, hI2, hE⟩ := hFz.ents
  obtain ⟨u7, hu7, he7⟩ := hE.ent 7 _ h7
  obtain ⟨u3, hu3, he3⟩ := hE.ent 3 _ h3
  obtain ⟨u8, hu8, he8⟩ := hE.ent 8 _ h8
  have he7 : Rep Im w u7 (.pt g) := he7
  have he3 : Rep Im w u3 (.r b.cells) := he3
  have he8 : Rep Im w u8 (.i .i64 k) := he8
  cases he7
  cases he8
  obtain ⟨ad, vs, rfl, hs3, _, hr, hc⟩ := he3.ptr
  have hFIm : ∀ b, F b → ¬ Im b := fun b hb hi => by
    rcases (hI2 b hi).1 with h | h
    · exact (hFb b hb).2 h
    · have := (hFb b hb).1; omega
  have outF : ∀ b, Im b → b < w.heap.size ∧ b ≠ g ∧ blkOf v ≠ some b := fun b hb => ⟨(hI2 b hb).2, fun e => hFIm b ((hW.dom b).2 (.inl e)) hb, fun e => hFIm b ((hW.dom b).2 (.inr e)) hb⟩
  obtain ⟨uc, huc, hrc⟩ := hr.getD (j := 2) (x := .l (encL Gl.v b.chart)) rfl
  have hcc := hc 2 uc huc
  obtain ⟨ca, cc, kk, cvs, rfl, hkk, _, _, _, hdd⟩ := hrc.slice
  have hne : ¬ encL Gl.v b.chart = [] := fun e => by
    have := congrArg List.length e
    simp at this
    rw [this] at hk; simp at hk
  obtain ⟨cad, rfl, hcS, _⟩ := hdd.resolve_left hne
  have he : (encL Gl.v b.chart)[k]? = some b.chart[k].v := by simp [hk]
  have hel := elem_rep (off := 0) (n := 1) (r := [.i .i64 b.chart[k].id]) hrc (k := 4) (fun e he => by obtain ⟨x, _, rfl⟩ := List.mem_map.1 he; rfl) he rfl
  obtain ⟨pa, pvs, hpe, _, _, hpr, hpc⟩ := hel.ptr
  simp only [Value.pointer.injEq, Option.some.injEq] at hpe
  obtain ⟨u0, hu0, hr0⟩ := hpr.getD (j := 0) (x := .i .i64 b.chart[k].id) rfl
  have hci := hpc 0 u0 hu0
  cases hr0
  have hci' : w.cell? ((cad.add (k * 4)).add 0) = some (.int .i64 b.chart[k].id) := by
    rw [← hpe] at hci
    simpa using hci
  have hp : Pre8 g ad cad b.chart.length cc k b.chart[k].id (.string ⟨#[97, 108, 108]⟩) v L a w := ⟨by rw [hFz.size]; decide, hu7, hu3, hu8, hW.here, by simpa using hcc, hci', hk, hW.row, hW.vg, outF _ hs3, outF _ hcS, hroom⟩
  refine reg8 hp (by simp) fun v' a' w' hpost => ?_
  refine hQ .n _ _ a' w' hK (past_box hFz hbare hFb hbs hKp k1 k2 k3 (hpost.size.trans hFz.size) (hpost.defers.trans hFz.defers) hpost.low hlow hpost.os hpost.tape hpost.output hpost.grow (fun b hb hnf => hpost.block b hb (fun e => hnf ((hW.dom b).2 (.inl e))) fun e => hnf ((hW.dom b).2 (.inr e))) (F' := fun b => b = g ∨ blkOf v' = some b) (fun b hb => ?_) fun Im => ⟨v', hpost.cg, hpost.row, hpost.vg, fun b => Iff.rfl⟩)
  rcases hb with hb | hb
  · exact .inl ((hW.dom b).2 (.inl hb))
  · exact (hpost.loc b hb).imp (fun h => (hW.dom b).2 (.inr h)) fun h => h
theorem rowRep {S : Nat → Prop} {w : World} {u : Value} {r : List Int} (h : RowOf w u r) (hS : ∀ b, blkOf u = some b → S b) : Rep S w u (.l (ints r)) := by
  have hfl : ∀ r : List Int, flatc (ints r) = ints r := fun r => by
    induction r with
    | nil => rfl
    | cons x r ih => simp only [ints, encL_cons] at ih ⊢; rw [flatc_cons, ih]; rfl
  have hrep : ∀ r : List Int, Reps S w (r.map fun k => Value.int .i64 k) (ints r) := fun r => by
    induction r with
    | nil => exact Reps.nil
    | cons x r ih => exact Reps.cons (.i _ _) ih
  have hlen : (ints r).length = r.length := by simp
  rcases h.2 with ⟨rfl, h0⟩ | ⟨g, cap, cur, rfl, _, hh, hn, _, hsz, ht⟩
  · have : r = [] := List.eq_nil_of_length_eq_zero h0
    subst this
    exact .l0 _ _
  · have := Rep.mk_slice (S := S) (w := w) (a := some ⟨g, 0, none⟩) (c := cap) (k := 1) (es := ints r) (vs := r.map fun k => Value.int .i64 k) (fun e he => by obtain ⟨k, _, rfl⟩ := List.mem_map.1 he; rfl) (fun x hx => by rw [hfl] at hx; obtain ⟨k, _, rfl⟩ := List.mem_map.1 hx; rfl) (by rw [hfl]; exact hrep r) (by rw [hlen]; exact hn) (.inr ⟨_, rfl, hS g rfl, fun j u hj => ?_⟩)
    · rw [hlen] at this; exact this
    · rw [← ht, List.getElem?_take] at hj
      split at hj
      · simp only [World.cell?, add_block, hh]
        unfold Addr.add
        split
        · rename_i hj0; subst hj0; simpa using hj
        · simpa using hj
      · cases hj
abbrev allC (L : List Int) : List V := [.s [97, 108, 108], .i .i64 1, .l (ints L)]
/-- From now on the variable is only read. -/
theorem read_does {c : Code} {W : Env → Option (Nat × List Int) → (Ex → Env → Option (Nat × List Int) → Prop) → Prop} (h1 : DoesG boxR Tryz.prog 144 kp S0 (fun _ => False) w00 true W c) : DoesG boxR Tryz.prog 144 kp S0 (fun _ => False) w00 true (fun env s K => ∃ g L, s = some (g, L) ∧ bare (frzAll env) = true ∧ get 7 (frzAll env) = some (.pt g) ∧ (∀ n x, get n (frzAll env) = some x → x.names = none) ∧ W (put 7 (.r (allC L)) (frzAll env)) none K) c := by
  rintro env s K ⟨g, L, rfl, hbare, h7, hnn, hW⟩ a w hFG Q hQ
  obtain ⟨S, F, base, wi, hF, ⟨v, hB⟩, hFb, hbs, hKp, k1, k2, k3, _⟩ := hFG
  have hFz : FI Tryz.prog 144 kp S base wi (frzAll env) a w := hF.freeze _
  generalize frzAll env = env1 at hbare h7 hnn hW hFz
  refine h1 _ none K hW a w ?_ Q hQ
  obtain ⟨Im, hI1, hI2, hE⟩ := hFz.ents
  obtain ⟨u7, hu7, he7⟩ := hE.ent 7 _ h7
  have he7 : Rep Im w u7 (.pt g) := he7
  cases he7
  have hbz := hFz.bsz
  have hgF : F g := (hB.dom g).2 (.inl rfl)
  have hlt : ∀ b, F b → b < w.heap.size := fun b hb => by have := (hFb b hb).1; omega
  have hE2 : Ents Tryz.prog (fun b => Im b ∨ F b) w w.heap.size (put 7 (.r (allC L)) env1) (tm a) := by
    refine ⟨fun n x hx => ?_, fun n x k hx hk => ?_, fun n cc n' c' b h => ?_, hE.glob.move (fun _ h => .inl h) fun _ _ => rfl⟩
    · rw [get_put] at hx
      by_cases hn : n = 7
      · rw [if_pos hn] at hx
        cases hx
        subst hn
        refine ⟨_, hu7, (?_ : Rep (fun b => Im b ∨ F b) w _ _)⟩
        refine .r ⟨g, 0, none⟩ _ [.string ⟨#[97, 108, 108]⟩, .int .i64 1, v] (.inr hgF) (fun x hx => ?_) rfl (fun j u hj => ?_) (fun j u x hu hx => ?_)
        · simp only [List.mem_cons, List.not_mem_nil, or_false] at hx
          rcases hx with rfl | rfl | rfl <;> rfl
        · match j, hj with
          | 0, hj => simp at hj; subst hj; simp [World.cell?, Addr.add, hB.here]
          | 1, hj => simp at hj; subst hj; simp [World.cell?, Addr.add, hB.here]
          | 2, hj => simp at hj; subst hj; simp [World.cell?, Addr.add, hB.here]
          | j + 3, hj => simp at hj
        · match j, hu, hx with
          | 0, hu, hx => simp at hu hx; subst hu; subst hx; exact .s _
          | 1, hu, hx => simp at hu hx; subst hu; subst hx; exact .i _ _
          | 2, hu, hx => simp at hu hx; subst hu; subst hx; exact rowRep hB.row fun b hb => .inr ((hB.dom b).2 (.inr hb))
          | j + 3, hu, hx => simp at hu
      · rw [if_neg hn] at hx
        obtain ⟨hno, hnt⟩ := bare_own hbare hx
        have hnone := hnn n x hx
        obtain ⟨u, hu, he⟩ := hE.ent n x hx
        refine ⟨u, hu, ?_⟩
        cases x with
        | ow e es => cases hno
        | bx cs => cases hno
        | mp ks vs => cases hno
        | t ys => exact absurd rfl (hnt _)
        | al m => cases hnone
        | pe m i off sz => cases hnone
        | pb m off sz => cases hnone
        | ud => exact he
        | _ => exact Rep.mono he fun b h => .inl h
    · rw [get_put] at hx
      by_cases hn : n = 7
      · rw [if_pos hn] at hx; cases hx; cases hk
      · rw [if_neg hn] at hx
        rw [hnn n x hx] at hk; cases hk
    · exfalso
      have hnb : ∀ n x, get n (put 7 (.r (allC L)) env1) = some x → x.isOwn = false ∧ ∀ ys, x ≠ .t ys := fun n x hx => by
        rw [get_put] at hx
        by_cases hn : n = 7
        · rw [if_pos hn] at hx; cases hx; exact ⟨rfl, fun _ e => by cases e⟩
        · rw [if_neg hn] at hx; exact bare_own hbare hx
      cases cc with
      | none =>
        obtain ⟨x, _, hx, ho, _⟩ := h
        rw [(hnb n x hx).1] at ho; cases ho
      | some j =>
        obtain ⟨ys, _, _, _, hx, _⟩ := h
        exact absurd rfl ((hnb n _ hx).2 ys)
  have hFI : FI Tryz.prog 144 kp (fun b => Im b ∨ F b) w.heap.size w (put 7 (.r (allC L)) env1) a w := ⟨hFz.srt.put 7 _, hFz.size, hFz.defers, Below.refl _ _, fun _ _ => rfl, Nat.le_refl _, fun n x hx => by
    rw [get_put] at hx
    by_cases hn : n = 7
    · rw [hn]; exact hFz.keys 7 _ h7
    · rw [if_neg hn] at hx; exact hFz.keys n x hx, _, fun _ h => h, fun b h => ⟨.inl h, h.elim (fun h => (hI2 b h).2) (hlt b)⟩, hE2⟩
  refine FG.start (F' := fun _ => False) hFI (fun b hb => hb) (fun b hb => hb.elim) (by omega) ⟨hF.below.os.trans hKp.os, hF.below.tape.trans hKp.tape, hF.below.output.trans hKp.output, by omega, fun b hb' hnf => ?_⟩ (fun b h => .inl (hI1 b (k1 b h))) (fun b h => ?_) fun b h => h.elim
  · rw [hF.below.block b (by omega), hKp.block b hb' hnf]
  · rcases h with h | h
    · rcases (hI2 b h).1 with h | h
      · exact k2 b h
      · exact .inr (Nat.le_trans hbs h)
    · exact .inr ((k3 b h).resolve_left id)
end
end Go.Proofs.YtmhbkofbbkogeaaGreat
