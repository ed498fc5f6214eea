/-
  What a reading of an argument says of plain data, its size with it. No program is named here.
-/
import Derived.Test.YtmhodpnjhkokoaaVmL
import Derived.SizedLaws
set_option linter.unusedSectionVars false
namespace Go.VM
open Go.RowKit Go.ChangeShapes Go.WideShapes
variable [Glob]

/-- The cells of a value of a plain type, no slice of which takes more than B bytes. -/
def FitB (P : Program) (B : Nat) : Nat → TypeId → List V → Prop
  | 0, _, _ => False
  | n + 1, t, xs => match P.underlying t with
    | some .bool => ∃ b, xs = [.b b]
    | some (.int k) => ∃ m, xs = [.i k m] ∧ (Lit.int k m).wf = true
    | some .string => ∃ s, xs = [.s s] ∧ s.length ≤ maxLen
    | some (.slice e) => ∃ es : List V, xs = [.l es] ∧ (es.length ≤ maxLen ∧ es.length * P.bytesOf e ≤ B) ∧ ∀ y ∈ es, ∃ ys, FitB P B n e ys ∧ y = (if isAggB P e then .a ys else ys.headD .ud)
    | some (.struct fs) => fs.toList.foldr (fun f K xs => ∃ a b, xs = a ++ b ∧ FitB P B n f.type a ∧ K b) (fun xs => xs = []) xs
    | _ => False
theorem FitB.fit {P : Program} {B : Nat} : ∀ (n : Nat) (t : TypeId) (xs : List V), FitB P B n t xs → Fit P n t xs
  | 0, _, _, h => h
  | n + 1, t, xs, h => by
    unfold FitB at h
    unfold Fit
    split at h
    · rename_i hu; rw [hu]; exact h
    · rename_i hu; rw [hu]; exact h
    · rename_i hu; rw [hu]; exact h
    · rename_i hu
      rw [hu]
      obtain ⟨es, h1, h2, h3⟩ := h
      exact ⟨es, h1, h2.1, fun y hy => let ⟨ys, g1, g2⟩ := h3 y hy; ⟨ys, FitB.fit n _ ys g1, g2⟩⟩
    · rename_i fs hu
      rw [hu]
      have key : ∀ (l : List Field) (xs : List V), l.foldr (fun f K xs => ∃ a b, xs = a ++ b ∧ FitB P B n f.type a ∧ K b) (fun xs => xs = []) xs → l.foldr (fun f K xs => ∃ a b, xs = a ++ b ∧ Fit P n f.type a ∧ K b) (fun xs => xs = []) xs := by
        intro l
        induction l with
        | nil => intro xs h; exact h
        | cons f l ih =>
          intro xs h
          obtain ⟨a, b, h1, h2, h3⟩ := h
          exact ⟨a, b, h1, FitB.fit n _ a h2, ih b h3⟩
      exact key _ _ h
    · exact h.elim
def FitAllB (P : Program) (B : Nat) : List TypeId → List V → Prop
  | [], xs => xs = []
  | t :: ts, xs => ∃ ys r, xs = packT P t ys :: r ∧ FitB P B 12 t ys ∧ FitAllB P B ts r
section
variable {H : Type} {enc : TypeId × Value → H} {P : Program} {w : World} {spare : Nat → Bool} {held : Bool}
theorem mem_weightsAll {e : TypeId} : ∀ {ds : List (DataW H)} {i : Nat} {d : DataW H}, ds[i]? = some d → ∀ {k : Nat}, k ∈ d.weights P e → k ∈ DataW.weightsAll P e ds
  | d0 :: ds, 0, d, hd, k, hk => by
    simp only [List.getElem?_cons_zero, Option.some.injEq] at hd
    subst hd
    simp only [DataW.weightsAll, List.mem_append]
    exact .inl hk
  | d0 :: ds, i + 1, d, hd, k, hk => by
    simp only [List.getElem?_cons_succ] at hd
    simp only [DataW.weightsAll, List.mem_append]
    exact .inr (mem_weightsAll hd hk)
  | [], _, _, hd, _, _ => by simp at hd
theorem weights_left : ∀ {ts us : List TypeId} {ds gs : List (DataW H)}, ds.length = ts.length → ∀ k ∈ DataW.weightsEach P ts ds, k ∈ DataW.weightsEach P (ts ++ us) (ds ++ gs)
  | [], us, ds, gs, _, k, hk => by cases ds <;> simp [DataW.weightsEach] at hk
  | t :: ts, us, [], gs, hl, k, hk => by simp at hl
  | t :: ts, us, d :: ds, gs, hl, k, hk => by
    simp only [DataW.weightsEach, List.mem_append, List.cons_append] at hk ⊢
    rcases hk with h | h
    · exact .inl h
    · exact .inr (weights_left (by simpa using hl) k h)
theorem trod_fitB {B : Nat} : ∀ (n fuel : Nat) (t : TypeId) (cs : List Value) (x : DataW H × List MemPlace), plainT P n t = true → DataW.trod enc P w 0 spare held fuel t cs = some x → (∀ k ∈ x.1.weights P t, k ≤ B) →
    ∃ xs, Reps (All w) w cs xs ∧ (∀ y ∈ xs, y.cell = true) ∧ FitB P B n t xs ∧ cs.length = P.cellsOf t
  | 0, _, _, _, _, h, _, _ => by simp [plainT] at h
  | n + 1, fuel, t, cs, x, hp, h, hwt => by
    unfold plainT at hp
    split at hp
    · rename_i hu
      obtain ⟨b, rfl, _⟩ := DataW.trod_bool hu h
      exact ⟨[.b b], Reps.cons (.b b) Reps.nil, by simp [V.cell], by unfold FitB; rw [hu]; exact ⟨b, rfl⟩, by simp at hp; simp [hp]⟩
    · rename_i k hu
      obtain ⟨m, rfl, _, hw⟩ := DataW.trod_int hu h
      exact ⟨[.i k m], Reps.cons (.i k m) Reps.nil, by simp [V.cell], by unfold FitB; rw [hu]; exact ⟨m, rfl, hw⟩, by simp at hp; simp [hp]⟩
    · rename_i hu
      obtain ⟨s, rfl, _, hs⟩ := DataW.trod_string hu h
      exact ⟨[.s s.data.toList], Reps.cons (.s s) Reps.nil, by simp [V.cell], by unfold FitB; rw [hu]; exact ⟨_, rfl, by simpa using hs⟩, by simp at hp; simp [hp]⟩
    · rename_i e hu
      simp only [Bool.and_eq_true, beq_iff_eq] at hp
      obtain ⟨⟨⟨hc1, hpos⟩, hpe⟩, hagg⟩ := hp
      rcases DataW.trod_slice hu h with ⟨rfl, _⟩ | ⟨a, len, cap, elems, rest, m, rfl, rfl, rfl, _, hlc, hcm, hel, hele, _⟩
      · exact ⟨[.l []], Reps.cons (.l0 none 0) Reps.nil, by simp [V.cell], by unfold FitB; rw [hu]; exact ⟨[], rfl, ⟨Nat.zero_le _, by simp⟩, by simp⟩, by simp [hc1]⟩
      · have hrow := row_build (w := w) (a := a) (k := P.cellsOf e) (G := fun y ys => FitB P B n e ys ∧ y = (if isAggB P e then .a ys else ys.headD .ud)) len fun i hi => by
          have hi' := hele i hi
          rw [List.getElem?_eq_getElem (by omega : i < elems.length)] at hi'
          simp only [Option.bind_eq_some_iff] at hi'
          obtain ⟨ci, hci, hti⟩ := hi'
          have hwi : ∀ k ∈ (elems[i]'(by omega)).1.weights P e, k ≤ B := fun k hk => hwt k (by
            simp only [DataW.weights, hu]
            refine List.mem_cons_of_mem _ (List.mem_append_left _ (mem_weightsAll (i := i) (d := (elems[i]'(by omega)).1) ?_ hk))
            rw [List.getElem?_map, List.getElem?_eq_getElem (by omega : i < elems.length)]; rfl)
          obtain ⟨ys, hr, hcell, hf, hl⟩ := trod_fitB n m e ci _ hpe hti hwi
          cases ha : isAggB P e with
          | true => exact ⟨ci, ys, .a ys, hci, hr, hcell, rfl, hf, by simp⟩
          | false =>
            rw [ha] at hagg
            simp only [Bool.false_eq_true, false_or, Bool.or_eq_true, beq_iff_eq] at hagg
            match ys, hr, hcell, hf with
            | [], hr, _, _ => have := hr.1; rw [hl, hagg] at this; simp at this
            | [y], hr, hcell, hf =>
              refine ⟨ci, [y], y, hci, hr, hcell, ?_, hf, by simp⟩
              have := hcell y (List.mem_cons_self ..)
              cases y <;> first | rfl | (simp [V.cell] at this; done)
            | _ :: _ :: _, hr, _, _ => have := hr.1; rw [hl, hagg] at this; simp at this
        obtain ⟨vs, es, g1, g2, g3, g4, g5, g6⟩ := hrow
        have hbig : es.length * P.bytesOf e ≤ B := by
          have h0 := hwt ((elems.length + rest.length) * P.bytesOf e) (by simp [DataW.weights, hu])
          have h1 : es.length * P.bytesOf e ≤ (elems.length + rest.length) * P.bytesOf e := Nat.mul_le_mul_right _ (by omega)
          omega
        refine ⟨[.l es], ?_, by simp [V.cell], ?_, by simp [hc1]⟩
        · refine Reps.cons ?_ Reps.nil
          rw [← g1]
          by_cases hne : es = []
          · subst hne; exact .l0 _ _
          · refine Rep.mk_slice (fun e he => (g4 e he).1) g3 g2 (by rw [g1]; exact hlc) (.inr ⟨a, rfl, ?_, g6⟩)
            -- the row's block is there
            have hvs : vs ≠ [] ∨ vs = [] := (Classical.em (vs = [])).symm
            rcases hvs with hvs | hvs
            · obtain ⟨u, us, rfl⟩ := List.exists_cons_of_ne_nil hvs
              have := g6 0 u rfl
              have hb := World.block_lt_of_cell? w _ this
              rw [add_block] at hb
              exact hb
            · have hl : 0 < es.length := List.length_pos_iff.2 hne
              have : 0 < len * P.cellsOf e := Nat.mul_pos (by omega) (by simpa using hpos)
              rw [← g5, hvs] at this
              simp at this
        · unfold FitB
          rw [hu]
          exact ⟨es, rfl, ⟨by rw [g1]; omega, hbig⟩, fun y hy => ⟨y.cells, (g4 y hy).2⟩⟩
    · rename_i fs hu
      simp only [Bool.and_eq_true, beq_iff_eq] at hp
      obtain ⟨hcon, hall⟩ := hp
      obtain ⟨xs, m, rfl, rfl, hlen, hxl, hf⟩ := DataW.trod_struct hu h
      have key : ∀ (l : List Field) (off tot : Nat), contig P off l = some tot → (∀ f ∈ l, plainT P n f.type = true ∧ ∃ x, DataW.trod enc P w 0 spare held m f.type ((cs.drop f.offset).take (P.cellsOf f.type)) = some x ∧ ∀ k ∈ x.1.weights P f.type, k ≤ B) → tot ≤ cs.length →
          off ≤ tot ∧ ∃ ys, Reps (All w) w ((cs.drop off).take (tot - off)) ys ∧ (∀ y ∈ ys, y.cell = true) ∧ l.foldr (fun f K xs => ∃ a b, xs = a ++ b ∧ FitB P B n f.type a ∧ K b) (fun xs => xs = []) ys := by
        intro l
        induction l with
        | nil =>
          intro off tot hc _ _
          simp only [contig, Option.some.injEq] at hc
          subst hc
          exact ⟨Nat.le_refl _, [], by simpa using Reps.nil, by simp, rfl⟩
        | cons f l ih =>
          intro off tot hc hl ht
          simp only [contig] at hc
          split at hc
          · rename_i ho
            obtain ⟨h1, ys, h2, h3, h4⟩ := ih _ tot hc (fun g hg => hl g (List.mem_cons_of_mem _ hg)) ht
            obtain ⟨hpl, x, hx, hxw⟩ := hl f (List.mem_cons_self ..)
            obtain ⟨zs, g1, g2, g3, g4⟩ := trod_fitB n m f.type _ x hpl hx hxw
            rw [ho] at g1
            refine ⟨by omega, zs ++ ys, ?_, fun y hy => ?_, zs, ys, rfl, g3, h4⟩
            · have : (cs.drop off).take (tot - off) = (cs.drop off).take (P.cellsOf f.type) ++ (cs.drop (off + P.cellsOf f.type)).take (tot - (off + P.cellsOf f.type)) := by
                rw [show tot - off = P.cellsOf f.type + (tot - (off + P.cellsOf f.type)) from by omega, List.take_add, List.drop_drop]
              rw [this]
              exact g1.append h2
            · rcases List.mem_append.1 hy with hy | hy
              · exact g2 y hy
              · exact h3 y hy
          · cases hc
      obtain ⟨_, ys, h2, h3, h4⟩ := key fs.toList 0 (P.cellsOf t) hcon (fun f hfm => by
        refine ⟨List.all_eq_true.1 hall f hfm, ?_⟩
        obtain ⟨i, hi, rfl⟩ := List.getElem_of_mem hfm
        have hi' : i < fs.size := by simpa using hi
        have := hf i fs[i] (Array.getElem?_eq_getElem hi')
        rw [List.getElem?_eq_getElem (by omega : i < xs.length)] at this
        refine ⟨xs[i], by simpa using this, fun k hk => hwt k ?_⟩
        simp only [DataW.weights, hu]
        refine DataW.weights_mem_each (j := i) (t := fs.toList[i].type) (d := xs[i].1) ?_ ?_ k hk
        · rw [List.getElem?_map, List.getElem?_eq_getElem hi]; rfl
        · rw [List.getElem?_map, List.getElem?_eq_getElem (by omega : i < xs.length)]; rfl) (by omega)
      refine ⟨ys, ?_, h3, ?_, hlen⟩
      · have := h2
        simp only [List.drop_zero, Nat.sub_zero] at this
        rwa [List.take_of_length_le (by omega)] at this
      · unfold FitB
        rw [hu]
        exact h4
    · cases hp
end
section
variable {H : Type} {enc : TypeId × Value → H} {P : Program}
theorem trod_repB {B : Nat} {w : World} {r : Reach} {b : Nat} {t : TypeId} {v : Value} {d : DataW H} {ps : List MemPlace} {sp : Nat → Bool} {held : Bool} (hp : plainT P 12 t = true) (hval : Value.okWide P w r b t v) (h : DataW.Trod enc P w 0 sp held t v d ps) (hwt : ∀ k ∈ d.weights P t, k ≤ B) :
    ∃ ys, FitB P B 12 t ys ∧ Rep (All w) w v (packT P t ys) := by
  obtain ⟨fuel, h⟩ := h
  obtain ⟨ys, hr, hc, hf, hl⟩ := trod_fitB 12 fuel t _ _ hp h hwt
  refine ⟨ys, hf, ?_⟩
  unfold packT
  cases ha : isAggB P t with
  | true =>
    have : ∃ cs, v = .agg cs := by
      unfold Value.okWide at hval
      unfold isAggB at ha
      split at hval
      · obtain ⟨cs, h, _⟩ := hval; exact ⟨cs, h⟩
      · obtain ⟨cs, h, _⟩ := hval; exact ⟨cs, h⟩
      · split at ha <;> simp_all
    obtain ⟨cs, rfl⟩ := this
    have := Rep.mk_agg hc (show Reps (All w) w cs.toList ys from hr)
    simpa using this
  | false =>
    rw [okWide_one hval ha] at hr
    match ys, hr with
    | [], hr => exact absurd hr.1 (by simp)
    | [y], hr => simpa using hr.head
    | _ :: _ :: _, hr => exact absurd hr.1 (by simp)

theorem trodAll_repsB {B : Nat} {w : World} {r : Reach} {b : Nat} {sp : Nat → Bool} {held : Bool} : ∀ {ts : List TypeId} {vs : List Value} {ds : List (DataW H)} {ps : List MemPlace}, (∀ t ∈ ts, plainT P 12 t = true) → (∀ (j : Nat) t v, ts[j]? = some t → vs[j]? = some v → Value.okWide P w r b t v) →
    DataW.TrodAll enc P w 0 sp held ts vs ds ps → (∀ k ∈ DataW.weightsEach P ts ds, k ≤ B) → ∃ xs, FitAllB P B ts xs ∧ Reps (All w) w vs xs
  | [], vs, ds, ps, _, _, h, _ => by
    obtain ⟨rfl, _, _⟩ := trodAll_nil h
    exact ⟨[], rfl, Reps.nil⟩
  | t :: ts, vs, ds, ps, hp, hv, h, hwt => by
    obtain ⟨v, vs', d, ds', a, c, rfl, rfl, rfl, h1, h2⟩ := trodAll_cons h
    obtain ⟨ys, hf, hr⟩ := trod_repB (hp t (List.mem_cons_self ..)) (hv 0 t v rfl rfl) h1 (fun k hk => hwt k (by simp only [DataW.weightsEach, List.mem_append]; exact .inl hk))
    obtain ⟨xs, hfs, hrs⟩ := trodAll_repsB (fun t ht => hp t (List.mem_cons_of_mem _ ht)) (fun j t v ht hv' => hv (j + 1) t v (by simpa using ht) (by simpa using hv')) h2 (fun k hk => hwt k (by simp only [DataW.weightsEach, List.mem_append]; exact .inr hk))
    exact ⟨_, ⟨ys, xs, rfl, hf, hfs⟩, Reps.cons hr hrs⟩

/-- The contract of a law whose code answers true whatever its arguments hold, told how many bytes they take at most. -/
theorem calls_trueB {f : FuncId} {fn : Func} {s : ChangeSpec} {fresh handsOn again : Bool} (hl : laidOutB P = true) (hp : ∀ t ∈ fn.params.toList, P.readableRec t = true ∧ t < P.types.size) (hplain : ∀ t ∈ fn.params.toList, plainT P 12 t = true)
    {tb : TypeId} (hres : fn.resultTypes = #[tb]) (htb : P.underlying tb = some .bool) (hvars : s.vars = []) (hfn : ∀ ds : List (DataW H), ds.length = fn.params.toList.length → s.fn H ds = { results := [.lit (.bool true)], args := ds })
    (hPF : ∀ xs, FitAllB P reachBytes fn.params.toList xs → PF P f xs (.b true)) {r : Reach} {W : World} {base : Nat} {args : Array Value} {ds gs : List (DataW H)} {before : List MemPlace}
    (hval : ∀ (j : Nat) t v, fn.params[j]? = some t → args[j]? = some v → Value.okWide P W r base t v) (hW : DataW.Whole enc P fn.params.toList s.vars false W args.toList ds gs before) (hwt : (DataW.weightsEach P (fn.params.toList ++ s.plain.varTypes P) (ds ++ gs)).all (· ≤ reachBytes) = true) (hG : GOK (All W) W) :
    Calls P f args W fun e W' => ∃ v, e = .returned v ∧ s.post enc P fn false fresh handsOn again W args v W' := by
  obtain ⟨p, q, hA, hrest⟩ := hW
  have hlen : ∀ {ts : List TypeId} {vs : List Value} {ds : List (DataW H)} {ps : List MemPlace}, DataW.TrodAll enc P W 0 (fun _ => true) true ts vs ds ps → ds.length = ts.length := by
    intro ts
    induction ts with
    | nil => intro vs ds ps h; obtain ⟨_, rfl, _⟩ := trodAll_nil h; rfl
    | cons t ts ih => intro vs ds ps h; obtain ⟨v, vs', d, ds', a, c, rfl, rfl, rfl, _, h2⟩ := trodAll_cons h; simp [ih h2]
  obtain ⟨xs, hfit, hreps⟩ := trodAll_repsB (B := reachBytes) hplain (fun j t v ht hv => hval j t v (by simpa using ht) (by simpa using hv)) hA (fun k hk => by
    have := List.all_eq_true.1 hwt k (weights_left (hlen hA) k hk)
    simpa using this)
  have := hPF xs hfit (All W) W args.toList (fun _ h => h) hG hreps
  simp only [Array.toArray_toList] at this
  refine this.mono fun e W' ⟨v, he, hb, S', _, _, hr⟩ => ⟨v, he, ?_⟩
  have hv : v = .bool true := (Res.val hr (by rfl)).val (by rfl)
  subst hv
  exact post_true ⟨p, q, hA, hrest⟩ hb hl hp hres htb hvars (hfn ds (hlen hA))
end
end Go.VM
