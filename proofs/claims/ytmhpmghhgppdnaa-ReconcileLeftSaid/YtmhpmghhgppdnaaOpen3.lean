/-
  The table's making: its contract.
-/
import Derived.Test.YtmhpmghhgppdnaaOpen2
import Derived.Test.YtmhpmghhgppdnaaMat3
namespace Go.Proofs.Ytmhpmghhgppdnaa
open Go.VM Go.RowKit
section
variable {its : List Item} {S0 F0 : Nat → Prop} {w00 : World}
/-- The laying, as a stretch. -/
theorem made_does : DoesG (opR its) Try.prog 53 kp S0 F0 w00 true (fun env s K => s = none ∧ bare (frzAll env) = true ∧ get 0 (frzAll env) = some (.l (items its)) ∧ (∀ n x, get n (frzAll env) = some x → n < 3) ∧ ∀ o : OS, o.ks1 = [] → o.vs1 = [] → o.ks2 = [] → o.vs2 = [] → K .n (put 3 (.pt o.gt) (frzAll env)) (some o)) (.region 1 ops1.toArray false) := by
  rintro env s K ⟨rfl, hbare, h0, hlow, hK⟩ a w hFG Q hQ
  obtain ⟨S, F, base, wi, hF, hR, hFb, hbs, hKp, k1, k2, k3, _⟩ := hFG
  have hFz : FI Try.prog 53 kp S base wi (frzAll env) a w := hF.freeze _
  obtain ⟨Im, hI1, hI2, hE⟩ := hFz.ents
  obtain ⟨u0, hu0, he0⟩ := hE.ent 0 _ h0
  have he0 : Rep Im w u0 (.l (items its)) := he0
  obtain ⟨ad, c, kk, vs, rfl, _⟩ := he0.slice
  obtain ⟨q1, q2, q3, q4, q5, q6, q7, q8, q9⟩ := laid_heap w (.slice ad (items its).length c)
  refine made_code hF.size hF.defers hu0 fun a' hs hd hkeep h3 => ?_
  generalize laidW w (.slice ad (items its).length c) = w2 at q1 q2 q3 q4 q5 q6 q7 q8 q9 ⊢
  have hsz := hF.bsz
  have hIk : ∀ b, Im b → w2.heap[b]? = w.heap[b]? := fun b hb => q1 b (hI2 b hb).2
  -- the frame, one slot more
  have hE3 : Ents Try.prog Im w2 w2.heap.size (put 3 (.pt (w.heap.size + 3)) (frzAll env)) (tm a') := by
    refine ⟨fun n x hx => ?_, fun n x k hx hk => ?_, fun n cc n' c' b h => ?_, hE.glob.move (fun _ h => h) fun p hp => World.cell?_of_block (hIk _ hp)⟩
    · rw [get_put] at hx
      by_cases hn : n = 3
      · rw [if_pos hn] at hx
        cases hx
        subst hn
        exact ⟨_, h3, (.pt _ : Rep Im w2 _ _)⟩
      · rw [if_neg hn] at hx
        obtain ⟨hno, hnt⟩ := bare_own hbare hx
        obtain ⟨u, hu, he⟩ := hE.ent n x hx
        have hn3 := hlow n x hx
        have hT : ∀ m, m < 3 → tm a' m = tm a m := fun m hm => hkeep m (.inl hm)
        refine ⟨u, (hT n hn3).trans hu, ?_⟩
        have hnm : ∀ m, x.names = some m → tm a' m = tm a m := fun m hm => by
          obtain ⟨y, hy, _⟩ := hE.closed n x m hx hm
          exact hT m (hlow m y hy)
        cases x with
        | ow e es => cases hno
        | bx cs => cases hno
        | mp ks vs => cases hno
        | t ys => exact absurd rfl (hnt _)
        | al m => exact (hnm m rfl).trans he
        | pe m i off sz =>
          obtain ⟨ad, l, c, k, h1, h2, h5⟩ := he
          refine ⟨ad, l, c, k, (hnm m rfl).trans h1, h2, fun y es hy hfz => ?_⟩
          rw [get_put] at hy
          split at hy
          · cases hy; simp [frz] at hfz
          · exact h5 y es hy hfz
        | pb m off sz =>
          obtain ⟨ad, h1, h2⟩ := he
          exact ⟨ad, (hnm m rfl).trans h1, h2⟩
        | ud => exact he
        | _ => exact Rep.keep he fun p hp => World.cell?_of_block (hIk _ hp)
    · rw [get_put] at hx
      by_cases hn : n = 3
      · rw [if_pos hn] at hx; cases hx; cases hk
      · rw [if_neg hn] at hx
        obtain ⟨y, hy, hyn⟩ := hE.closed n x k hx hk
        rw [get_put]
        split
        · exact ⟨_, rfl, rfl⟩
        · exact ⟨y, hy, hyn⟩
    · exfalso
      have hnb : ∀ n x, get n (put 3 (.pt (w.heap.size + 3)) (frzAll env)) = some x → x.isOwn = false ∧ ∀ ys, x ≠ .t ys := fun n x hx => by
        rw [get_put] at hx
        by_cases hn : n = 3
        · rw [if_pos hn] at hx; cases hx; exact ⟨rfl, fun _ e => by cases e⟩
        · rw [if_neg hn] at hx; exact bare_own hbare hx
      cases cc with
      | none =>
        obtain ⟨x, _, hx, ho, _⟩ := h
        rw [(hnb n x hx).1] at ho; cases ho
      | some j =>
        obtain ⟨ys, _, _, _, hx, _⟩ := h
        exact absurd rfl ((hnb n _ hx).2 ys)
  have hFI : FI Try.prog 53 kp Im w2.heap.size w2 (put 3 (.pt (w.heap.size + 3)) (frzAll env)) a' w2 := ⟨hFz.srt.put 3 _, hs, hd, Below.refl _ _, fun _ _ => rfl, Nat.le_refl _, fun n x hx => by
    rw [get_put] at hx
    by_cases hn : n = 3
    · rw [hn]; exact ⟨by simpa using kp_in, by omega⟩
    · rw [if_neg hn] at hx; exact hFz.keys n x hx, Im, fun _ h => h, fun b h => ⟨.inl h, by rw [q6]; have := (hI2 b h).2; omega⟩, hE3⟩
  have hnil : ∀ g, w2.heap[g]? = some (.map #[] 0) → Grp w2 g [] [] (fun _ => False) #[] 0 := fun g hg => ⟨hg, rfl, by simp, rfl, fun j u x hu => by simp at hu, fun j u b hu => by simp at hu, fun i j u u' b _ hu => by simp at hu, by simp, by simp⟩
  refine hQ .n _ (some ⟨w.heap.size + 3, w.heap.size, w.heap.size + 1, w.heap.size + 2, [], [], [], []⟩) a' w2 (hK ⟨w.heap.size + 3, w.heap.size, w.heap.size + 1, w.heap.size + 2, [], [], [], []⟩ rfl rfl rfl rfl) ?_
  refine FG.start (F := F) (F' := fun b => b = w.heap.size + 3 ∨ b = w.heap.size ∨ b = w.heap.size + 1 ∨ b = w.heap.size + 2) hFI ⟨_, 61, fun _ => False, fun _ => False, #[], #[], 0, 0, 0, ?_, q5, hnil _ q2, hnil _ q3, q4, ⟨by simp, by simp, by simp, by simp, by simp, by simp⟩, fun b hb => by simp at hb, fun b hb => hb.elim, fun b => by simp⟩ (fun b hb hi => ?_) (by rw [q6]; omega) ⟨q7.trans (hF.below.os.trans hKp.os), q8.trans (hF.below.tape.trans hKp.tape), q9.trans (hF.below.output.trans hKp.output), by rw [q6]; omega, fun b hb' hnf => ?_⟩ (fun b h => hI1 b (k1 b h)) (fun b h => ?_) fun b h => ?_
  · exact he0.keep fun p hp => World.cell?_of_block (hIk _ hp)
  · have := (hI2 b hi).2
    omega
  · rw [q1 b (by omega), hF.below.block b (by omega), hKp.block b hb' hnf]
  · rcases (hI2 b h).1 with h | h
    · exact k2 b h
    · exact .inr (Nat.le_trans hbs h)
  · right; omega
/-- Behind a growth, the frame that owns nothing begins anew. -/
theorem past_grow {env : Env} {a a' : Act} {w w2 : World} {S F : Nat → Prop} {base : Nat} {wi : World} (hF : FI Try.prog 53 kp S base wi env a w) (hbare : bare env = true) (hFb : ∀ b, F b → b < base ∧ ¬ S b) (hbs : w00.heap.size ≤ base) (hKp : Keeps w00.heap.size F0 w00 wi) (k1 : ∀ b, S0 b → S b) (k2 : ∀ b, S b → S0 b ∨ w00.heap.size ≤ b) (k3 : ∀ b, F b → F0 b ∨ w00.heap.size ≤ b)
    (hs : a'.tmps.size = 53) (hd : a'.defers = []) {d : Nat} (hT : ∀ n, n < d → tm a' n = tm a n) (hlow : ∀ n x, get n env = some x → n < d) (ho : w2.os = w.os) (ht : w2.tape = w.tape) (hou : w2.output = w.output) (hsz : w.heap.size ≤ w2.heap.size) (hblk : ∀ b, b < w.heap.size → ¬ F b → w2.heap[b]? = w.heap[b]?)
    {s : Option OS} {F' : Nat → Prop} (hF'1 : ∀ b, F' b → F b ∨ w.heap.size ≤ b) (hR : ∀ Im : Nat → Prop, (∀ b, S b → Im b) → (∀ b, Im b → w2.heap[b]? = w.heap[b]?) → (opR its).R s Im F' w2) : FG (opR its) Try.prog 53 kp S0 F0 w00 true env s a' w2 := by
  have hF2 := hF.agree hs hd fun n x hx => hT n (hlow n x hx)
  obtain ⟨Im, hI1, hI2, hE⟩ := hF2.ents
  have hbz := hF.bsz
  have hFIm : ∀ b, F b → ¬ Im b := fun b hb hi => by
    rcases (hI2 b hi).1 with h | h
    · exact (hFb b hb).2 h
    · have := (hFb b hb).1; omega
  have hIk : ∀ b, Im b → w2.heap[b]? = w.heap[b]? := fun b hb => hblk b (hI2 b hb).2 fun hf => hFIm b hf hb
  have hnew := hF2.anew hbare hE (S' := Im) (fun _ h => h) (w' := w2) (fun b h => Nat.lt_of_lt_of_le (hI2 b h).2 hsz) hIk
  refine FG.start (F := F) (F' := F') hnew (hR Im hI1 hIk) (fun b hb hi => ?_) (by omega) ⟨ho.trans (hF.below.os.trans hKp.os), ht.trans (hF.below.tape.trans hKp.tape), hou.trans (hF.below.output.trans hKp.output), by omega, fun b hb' hnf => ?_⟩ (fun b h => hI1 b (k1 b h)) (fun b h => ?_) fun b h => ?_
  · rcases hF'1 b hb with h | h
    · exact hFIm b h hi
    · have := (hI2 b hi).2; omega
  · have hFn : ¬ F b := fun hf => by
      rcases k3 b hf with h | h
      · exact hnf h
      · omega
    rw [hblk b (by omega) hFn, hF.below.block b (by omega), hKp.block b hb' hnf]
  · rcases (hI2 b h).1 with h | h
    · exact k2 b h
    · exact .inr (Nat.le_trans hbs h)
  · rcases hF'1 b h with h | h
    · exact k3 b h
    · right; omega
/-- What a region of growth asks of its frame. -/
structure Fr (o : OS) (d : Nat) (i : Int) (x : Item) (env : Env) : Prop where
  bare : bare env = true
  t3 : get 3 env = some (.pt o.gt)
  t4 : get 4 env = some (.i .i64 i)
  t5 : get 5 env = some (.r x.cells)
  low : ∀ n y, get n env = some y → n < d
theorem fr_vals {o : OS} {d : Nat} {i : Int} {x : Item} {env : Env} (h : Fr o d i x env) {S : Nat → Prop} {base : Nat} {wi : World} {a : Act} {w : World} (hF : FI Try.prog 53 kp S base wi env a w) {F : Nat → Prop} (hFb : ∀ b, F b → b < base ∧ ¬ S b) :
    tm a 3 = some (.pointer (some ⟨o.gt, 0, none⟩)) ∧ tm a 4 = some (.int .i64 i) ∧ ∃ ad, tm a 5 = some (.pointer (some ad)) ∧ ad.block < w.heap.size ∧ ¬ F ad.block ∧ w.cell? (ad.add 0) = some (V.s x.ref).toVal ∧ w.cell? (ad.add 2) = some (V.i .i64 x.amount).toVal := by
  obtain ⟨Im, hI1, hI2, hE⟩ := hF.ents
  obtain ⟨u3, hu3, he3⟩ := hE.ent 3 _ h.t3
  obtain ⟨u4, hu4, he4⟩ := hE.ent 4 _ h.t4
  obtain ⟨u5, hu5, he5⟩ := hE.ent 5 _ h.t5
  have he3 : Rep Im w u3 (.pt o.gt) := he3
  have he4 : Rep Im w u4 (.i .i64 i) := he4
  have he5 : Rep Im w u5 (.r x.cells) := he5
  cases he3
  cases he4
  obtain ⟨ad, vs, rfl, hs, _, hr, hc⟩ := he5.ptr
  refine ⟨hu3, hu4, ad, hu5, (hI2 _ hs).2, fun hf => ?_, ?_, ?_⟩
  · rcases (hI2 _ hs).1 with h | h
    · exact (hFb _ hf).2 h
    · have := (hFb _ hf).1; omega
  · obtain ⟨u, hu, hru⟩ := hr.getD (j := 0) (x := .s x.ref) rfl
    rw [hc 0 u hu, hru.val rfl]
  · obtain ⟨u, hu, hru⟩ := hr.getD (j := 2) (x := .i .i64 x.amount) rfl
    rw [hc 2 u hu, hru.val rfl]
theorem grow5_does : DoesG (opR its) Try.prog 53 kp S0 F0 w00 true (fun env s K => ∃ (o : OS) (i : Int) (x : Item), s = some o ∧ Fr o 19 i x (frzAll env) ∧ o.ks1.all (keyB 1) = true ∧ (∀ r, (mfind (.s x.ref) o.ks1 o.vs1).getD (.l []) = .l (ints r) → (r.length + 1) * 8 ≤ 140737488355328) ∧
    ∀ r, (mfind (.s x.ref) o.ks1 o.vs1).getD (.l []) = .l (ints r) → K .n (frzAll env) (some { o with ks1 := mkeys (.s x.ref) o.ks1, vs1 := mvals (.s x.ref) (.l (ints (r ++ [i]))) o.ks1 o.vs1 })) (.region 5 (opsN 5).toArray true) := by
  rintro env s K ⟨o, i, x, rfl, hfr, hks, hlen, hK⟩ a w hFG Q hQ
  obtain ⟨S, F, base, wi, hF, hR, hFb, hbs, hKp, k1, k2, k3, _⟩ := hFG
  have hFz : FI Try.prog 53 kp S base wi (frzAll env) a w := hF.freeze _
  obtain ⟨v0, ty, B1, B2, es1, es2, c1, c2, c3, hW⟩ := hR
  obtain ⟨t3, t4, ad, t5, had, hadF, cr, ca⟩ := fr_vals hfr hFz hFb
  obtain ⟨n1, n2, n3, n4, n5, n6⟩ := hW.ne
  have hgtl := (Array.getElem?_eq_some_iff.1 hW.here).1
  have hdF : ∀ b, ¬ F b → b ≠ o.gt ∧ b ≠ o.g1 ∧ b ≠ o.g2 ∧ b ≠ o.g3 ∧ ¬ B1 b ∧ ¬ B2 b := fun b hb => by
    refine ⟨fun e => hb ((hW.dom b).2 (.inl e)), fun e => hb ((hW.dom b).2 (.inr (.inl e))), fun e => hb ((hW.dom b).2 (.inr (.inr (.inl e)))), fun e => hb ((hW.dom b).2 (.inr (.inr (.inr (.inl e))))), fun e => hb ((hW.dom b).2 (.inr (.inr (.inr (.inr (.inl e)))))), fun e => hb ((hW.dom b).2 (.inr (.inr (.inr (.inr (.inr e))))))⟩
  refine grow_code stat5 (kt := 1) (k := .s x.ref) rfl hW.one hks hFz.size hFz.defers t3 t4 t5 (by simp [World.cell?, Addr.add, hW.here]) cr hgtl had (fun b hb => ?_) hlen fun a' w2 v' r es' clock' h1 h2 h3 hmf hG2 g1 g2 g3 g4 g5 g6 => ?_
  · obtain ⟨m1, m2, m3, m4, m5⟩ := hW.off b (.inl hb)
    exact ⟨m1, m2, fun e => (hdF ad.block hadF).2.2.2.2.1 (e ▸ hb), heap_lt m5⟩
  · refine hQ .n _ _ a' w2 (hK r hmf) (past_grow hFz hfr.bare hFb hbs hKp k1 k2 k3 h1 h2 h3 hfr.low g1 g2 g3 g4 (fun b hb hnf => g5 b hb (hdF b hnf).2.1 (hdF b hnf).2.2.2.2.1) (F' := fun b => F b ∨ blkOf v' = some b) (fun b hb => ?_) fun Im hSI hIk => ?_)
    · rcases hb with hb | hb
      · exact .inl hb
      · exact (g6 b hb).1.imp (fun h => (hW.dom b).2 (.inr (.inr (.inr (.inr (.inl h)))))) fun h => h
    · have keepB : ∀ b, b < w.heap.size → b ≠ o.g1 → ¬ B1 b → w2.heap[b]? = w.heap[b]? := g5
      refine ⟨v0, ty, fun b => B1 b ∨ blkOf v' = some b, B2, es', es2, clock', c2, c3, hW.its.move hSI fun p hp => World.cell?_of_block (hIk _ (hSI _ hp)), (keepB _ hgtl n1 fun hb => (hW.off _ (.inl hb)).1 rfl).trans hW.here, hG2, hW.two.loc (keepB _ (Array.getElem?_eq_some_iff.1 hW.two.here).1 (Ne.symm n4) fun hb => (hW.off _ (.inl hb)).2.2.1 rfl) (fun b hb => keepB b (heap_lt (hW.off b (.inr hb)).2.2.2.2) (hW.off b (.inr hb)).2.1 fun hb1 => hW.apart b hb1 hb),
        (keepB _ (Array.getElem?_eq_some_iff.1 hW.three).1 (Ne.symm n5) fun hb => (hW.off _ (.inl hb)).2.2.2.1 rfl).trans hW.three, hW.ne, fun b hb => ?_, fun b hb hb2 => ?_, fun b => ?_⟩
      · have live : ∀ b, b < w2.heap.size → (w2.heap[b]?).isSome = true := fun b hb => by rw [Array.getElem?_eq_getElem hb]; rfl
        rcases hb with (hb | hb) | hb
        · obtain ⟨m1, m2, m3, m4, m5⟩ := hW.off b (.inl hb)
          exact ⟨m1, m2, m3, m4, live b (Nat.lt_of_lt_of_le (heap_lt m5) g4)⟩
        · obtain ⟨hc, hl⟩ := g6 b hb
          rcases hc with hc | hc
          · obtain ⟨m1, m2, m3, m4, m5⟩ := hW.off b (.inl hc)
            exact ⟨m1, m2, m3, m4, live b hl⟩
          · have e1 := (Array.getElem?_eq_some_iff.1 hW.one.here).1
            have e2 := (Array.getElem?_eq_some_iff.1 hW.two.here).1
            have e3 := (Array.getElem?_eq_some_iff.1 hW.three).1
            have q : b ≠ o.gt ∧ b ≠ o.g1 ∧ b ≠ o.g2 ∧ b ≠ o.g3 := by omega
            exact ⟨q.1, q.2.1, q.2.2.1, q.2.2.2, live b hl⟩
        · obtain ⟨m1, m2, m3, m4, m5⟩ := hW.off b (.inr hb)
          exact ⟨m1, m2, m3, m4, live b (Nat.lt_of_lt_of_le (heap_lt m5) g4)⟩
      · rcases hb with hb | hb
        · exact hW.apart b hb hb2
        · rcases (g6 b hb).1 with hc | hc
          · exact hW.apart b hc hb2
          · have := heap_lt (hW.off b (.inr hb2)).2.2.2.2; omega
      · rw [hW.dom b]
        constructor
        · rintro ((h | h | h | h | h | h) | h)
          · exact .inl h
          · exact .inr (.inl h)
          · exact .inr (.inr (.inl h))
          · exact .inr (.inr (.inr (.inl h)))
          · exact .inr (.inr (.inr (.inr (.inl (.inl h)))))
          · exact .inr (.inr (.inr (.inr (.inr h))))
          · exact .inr (.inr (.inr (.inr (.inl (.inr h)))))
        · rintro (h | h | h | h | (h | h) | h)
          · exact .inl (.inl h)
          · exact .inl (.inr (.inl h))
          · exact .inl (.inr (.inr (.inl h)))
          · exact .inl (.inr (.inr (.inr (.inl h))))
          · exact .inl (.inr (.inr (.inr (.inr (.inl h)))))
          · exact .inr h
          · exact .inl (.inr (.inr (.inr (.inr (.inr h)))))
theorem grow6_does : DoesG (opR its) Try.prog 53 kp S0 F0 w00 true (fun env s K => ∃ (o : OS) (i : Int) (x : Item), s = some o ∧ Fr o 35 i x (frzAll env) ∧ o.ks2.all (keyB 2) = true ∧ (∀ r, (mfind (.i .i64 x.amount) o.ks2 o.vs2).getD (.l []) = .l (ints r) → (r.length + 1) * 8 ≤ 140737488355328) ∧
    ∀ r, (mfind (.i .i64 x.amount) o.ks2 o.vs2).getD (.l []) = .l (ints r) → K .n (frzAll env) (some { o with ks2 := mkeys (.i .i64 x.amount) o.ks2, vs2 := mvals (.i .i64 x.amount) (.l (ints (r ++ [i]))) o.ks2 o.vs2 })) (.region 6 (opsN 6).toArray true) := by
  rintro env s K ⟨o, i, x, rfl, hfr, hks, hlen, hK⟩ a w hFG Q hQ
  obtain ⟨S, F, base, wi, hF, hR, hFb, hbs, hKp, k1, k2, k3, _⟩ := hFG
  have hFz : FI Try.prog 53 kp S base wi (frzAll env) a w := hF.freeze _
  obtain ⟨v0, ty, B1, B2, es1, es2, c1, c2, c3, hW⟩ := hR
  obtain ⟨t3, t4, ad, t5, had, hadF, cr, ca⟩ := fr_vals hfr hFz hFb
  obtain ⟨n1, n2, n3, n4, n5, n6⟩ := hW.ne
  have hgtl := (Array.getElem?_eq_some_iff.1 hW.here).1
  have hdF : ∀ b, ¬ F b → b ≠ o.gt ∧ b ≠ o.g1 ∧ b ≠ o.g2 ∧ b ≠ o.g3 ∧ ¬ B1 b ∧ ¬ B2 b := fun b hb => by
    refine ⟨fun e => hb ((hW.dom b).2 (.inl e)), fun e => hb ((hW.dom b).2 (.inr (.inl e))), fun e => hb ((hW.dom b).2 (.inr (.inr (.inl e)))), fun e => hb ((hW.dom b).2 (.inr (.inr (.inr (.inl e))))), fun e => hb ((hW.dom b).2 (.inr (.inr (.inr (.inr (.inl e)))))), fun e => hb ((hW.dom b).2 (.inr (.inr (.inr (.inr (.inr e))))))⟩
  refine grow_code stat6 (kt := 2) (k := .i .i64 x.amount) rfl hW.two hks hFz.size hFz.defers t3 t4 t5 (by simp [World.cell?, Addr.add, hW.here]) ca hgtl had (fun b hb => ?_) hlen fun a' w2 v' r es' clock' h1 h2 h3 hmf hG2 g1 g2 g3 g4 g5 g6 => ?_
  · obtain ⟨m1, m2, m3, m4, m5⟩ := hW.off b (.inr hb)
    exact ⟨m1, m3, fun e => (hdF ad.block hadF).2.2.2.2.2 (e ▸ hb), heap_lt m5⟩
  · refine hQ .n _ _ a' w2 (hK r hmf) (past_grow hFz hfr.bare hFb hbs hKp k1 k2 k3 h1 h2 h3 hfr.low g1 g2 g3 g4 (fun b hb hnf => g5 b hb (hdF b hnf).2.2.1 (hdF b hnf).2.2.2.2.2) (F' := fun b => F b ∨ blkOf v' = some b) (fun b hb => ?_) fun Im hSI hIk => ?_)
    · rcases hb with hb | hb
      · exact .inl hb
      · exact (g6 b hb).1.imp (fun h => (hW.dom b).2 (.inr (.inr (.inr (.inr (.inr h)))))) fun h => h
    · have keepB : ∀ b, b < w.heap.size → b ≠ o.g2 → ¬ B2 b → w2.heap[b]? = w.heap[b]? := g5
      refine ⟨v0, ty, B1, fun b => B2 b ∨ blkOf v' = some b, es1, es', c1, clock', c3, hW.its.move hSI fun p hp => World.cell?_of_block (hIk _ (hSI _ hp)), (keepB _ hgtl n2 fun hb => (hW.off _ (.inr hb)).1 rfl).trans hW.here, hW.one.loc (keepB _ (Array.getElem?_eq_some_iff.1 hW.one.here).1 n4 fun hb => (hW.off _ (.inr hb)).2.1 rfl) (fun b hb => keepB b (heap_lt (hW.off b (.inl hb)).2.2.2.2) (hW.off b (.inl hb)).2.2.1 fun hb2 => hW.apart b hb hb2), hG2,
        (keepB _ (Array.getElem?_eq_some_iff.1 hW.three).1 (Ne.symm n6) fun hb => (hW.off _ (.inr hb)).2.2.2.1 rfl).trans hW.three, hW.ne, fun b hb => ?_, fun b hb hb2 => ?_, fun b => ?_⟩
      · have live : ∀ b, b < w2.heap.size → (w2.heap[b]?).isSome = true := fun b hb => by rw [Array.getElem?_eq_getElem hb]; rfl
        rcases hb with hb | (hb | hb)
        · obtain ⟨m1, m2, m3, m4, m5⟩ := hW.off b (.inl hb)
          exact ⟨m1, m2, m3, m4, live b (Nat.lt_of_lt_of_le (heap_lt m5) g4)⟩
        · obtain ⟨m1, m2, m3, m4, m5⟩ := hW.off b (.inr hb)
          exact ⟨m1, m2, m3, m4, live b (Nat.lt_of_lt_of_le (heap_lt m5) g4)⟩
        · obtain ⟨hc, hl⟩ := g6 b hb
          rcases hc with hc | hc
          · obtain ⟨m1, m2, m3, m4, m5⟩ := hW.off b (.inr hc)
            exact ⟨m1, m2, m3, m4, live b hl⟩
          · have e1 := (Array.getElem?_eq_some_iff.1 hW.one.here).1
            have e2 := (Array.getElem?_eq_some_iff.1 hW.two.here).1
            have e3 := (Array.getElem?_eq_some_iff.1 hW.three).1
            have q : b ≠ o.gt ∧ b ≠ o.g1 ∧ b ≠ o.g2 ∧ b ≠ o.g3 := by omega
            exact ⟨q.1, q.2.1, q.2.2.1, q.2.2.2, live b hl⟩
      · rcases hb2 with hb2 | hb2
        · exact hW.apart b hb hb2
        · rcases (g6 b hb2).1 with hc | hc
          · exact hW.apart b hb hc
          · have := heap_lt (hW.off b (.inl hb)).2.2.2.2; omega
      · rw [hW.dom b]
        constructor
        · rintro ((h | h | h | h | h | h) | h)
          · exact .inl h
          · exact .inr (.inl h)
          · exact .inr (.inr (.inl h))
          · exact .inr (.inr (.inr (.inl h)))
          · exact .inr (.inr (.inr (.inr (.inl h))))
          · exact .inr (.inr (.inr (.inr (.inr (.inl h)))))
          · exact .inr (.inr (.inr (.inr (.inr (.inr h)))))
        · rintro (h | h | h | h | h | (h | h))
          · exact .inl (.inl h)
          · exact .inl (.inr (.inl h))
          · exact .inl (.inr (.inr (.inl h)))
          · exact .inl (.inr (.inr (.inr (.inl h))))
          · exact .inl (.inr (.inr (.inr (.inr (.inl h)))))
          · exact .inl (.inr (.inr (.inr (.inr (.inr h)))))
          · exact .inr h
end
end Go.Proofs.Ytmhpmghhgppdnaa
