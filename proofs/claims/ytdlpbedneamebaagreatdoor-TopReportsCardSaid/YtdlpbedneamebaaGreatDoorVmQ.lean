/-
  Readings of arguments whose types may name themselves. No program is named here.
-/
import Derived.Test.YtdlpbedneamebaaGreatDoorVmL
set_option linter.unusedSectionVars false
namespace Go.VM
open Go.RowKit Go.ChangeShapes Go.WideShapes
variable [Glob]
def plain1 (P : Program) (L : List TypeId) (t : TypeId) : Bool := match P.underlying t with
  | some .bool | some (.int _) | some .string => P.cellsOf t == 1
  | some (.slice e) => P.cellsOf t == 1 && decide (0 < P.cellsOf e) && L.contains e && (isAggB P e || P.cellsOf e == 1)
  | some (.struct fs) => (contig P 0 fs.toList == some (P.cellsOf t)) && fs.toList.all fun f => L.contains f.type
  | _ => false
def plainL (P : Program) (L : List TypeId) : Bool := L.all (plain1 P L)
def subT (P : Program) (t : TypeId) : List TypeId := match P.underlying t with
  | some (.slice e) => [e]
  | some (.struct fs) => fs.toList.map (·.type)
  | _ => []
def closeT (P : Program) : Nat → List TypeId → List TypeId
  | 0, L => L
  | n + 1, L => closeT P n ((L ++ L.flatMap (subT P)).eraseDups)
def plainR (P : Program) (t : TypeId) : Bool := let L := closeT P 10 [t]; plainL P L && L.contains t
theorem plainR_inv {P : Program} {t : TypeId} (h : plainR P t = true) : plainL P (closeT P 10 [t]) = true ∧ (closeT P 10 [t]).contains t = true := by
  simpa only [plainR, Bool.and_eq_true] using h
section
variable {H : Type} {enc : TypeId × Value → H} {P : Program} {w : World} {spare : Nat → Bool} {held : Bool}
theorem trod_fitR {L : List TypeId} (hL : plainL P L = true) : ∀ (fuel : Nat) (t : TypeId) (cs : List Value) (x : DataW H × List MemPlace), L.contains t = true → DataW.trod enc P w 0 spare held fuel t cs = some x →
    ∃ xs, Reps (All w) w cs xs ∧ (∀ y ∈ xs, y.cell = true) ∧ (∀ n, Fit P n t xs) ∧ cs.length = P.cellsOf t := by
  intro fuel
  induction fuel using Nat.strongRecOn with
  | _ fuel trod_fit =>
    intro t cs x hp h
    have hp := List.all_eq_true.1 hL t (by simpa using hp)
    unfold plain1 at hp
    split at hp
    · rename_i hu
      obtain ⟨b, rfl, _⟩ := DataW.trod_bool hu h
      exact ⟨[.b b], Reps.cons (.b b) Reps.nil, by simp [V.cell], fun n => by cases n with | zero => trivial | succ n => unfold Fit; rw [hu]; exact ⟨b, rfl⟩, by simp at hp; simp [hp]⟩
    · rename_i k hu
      obtain ⟨m, rfl, _, hw⟩ := DataW.trod_int hu h
      exact ⟨[.i k m], Reps.cons (.i k m) Reps.nil, by simp [V.cell], fun n => by cases n with | zero => trivial | succ n => unfold Fit; rw [hu]; exact ⟨m, rfl, hw⟩, by simp at hp; simp [hp]⟩
    · rename_i hu
      obtain ⟨s, rfl, _, hs⟩ := DataW.trod_string hu h
      exact ⟨[.s s.data.toList], Reps.cons (.s s) Reps.nil, by simp [V.cell], fun n => by cases n with | zero => trivial | succ n => unfold Fit; rw [hu]; exact ⟨_, rfl, by simpa using hs⟩, by simp at hp; simp [hp]⟩
    · rename_i e hu
      simp only [Bool.and_eq_true, beq_iff_eq] at hp
      obtain ⟨⟨⟨hc1, hpos⟩, hpe⟩, hagg⟩ := hp
      rcases DataW.trod_slice hu h with ⟨rfl, _⟩ | ⟨a, len, cap, elems, rest, m, hfm, rfl, _, _, hlc, hcm, hel, hele, _⟩
      · exact ⟨[.l []], Reps.cons (.l0 none 0) Reps.nil, by simp [V.cell], fun n => by cases n with | zero => trivial | succ n => unfold Fit; rw [hu]; exact ⟨[], rfl, Nat.zero_le _, by simp⟩, by simp [hc1]⟩
      · have hrow := row_build (w := w) (a := a) (k := P.cellsOf e) (G := fun y ys => (∀ n, Fit P n e ys) ∧ y = (if isAggB P e then .a ys else ys.headD .ud)) len fun i hi => by
          have hi' := hele i hi
          rw [List.getElem?_eq_getElem (by omega : i < elems.length)] at hi'
          simp only [Option.bind_eq_some_iff] at hi'
          obtain ⟨ci, hci, hti⟩ := hi'
          obtain ⟨ys, hr, hcell, hf, hl⟩ := trod_fit m (by omega) e ci _ hpe hti
          cases ha : isAggB P e with
          | true => exact ⟨ci, ys, .a ys, hci, hr, hcell, rfl, hf, by simp⟩
          | false =>
            rw [ha] at hagg
            simp only [Bool.false_eq_true, false_or, Bool.or_eq_true, beq_iff_eq] at hagg
            match ys, hr, hcell, hf with
            | [], hr, _, _ => have := hr.1; rw [hl, hagg] at this; simp at this
            | [y], hr, hcell, hf =>
              refine ⟨ci, [y], y, hci, hr, hcell, ?_, hf, by simp⟩
              have := hcell y (List.mem_cons_self ..)
              cases y <;> first | rfl | (simp [V.cell] at this; done)
            | _ :: _ :: _, hr, _, _ => have := hr.1; rw [hl, hagg] at this; simp at this
        obtain ⟨vs, es, g1, g2, g3, g4, g5, g6⟩ := hrow
        refine ⟨[.l es], ?_, by simp [V.cell], ?_, by simp [hc1]⟩
        · refine Reps.cons ?_ Reps.nil
          rw [← g1]
          by_cases hne : es = []
          · subst hne; exact .l0 _ _
          · refine Rep.mk_slice (fun e he => (g4 e he).1) g3 g2 (by rw [g1]; exact hlc) (.inr ⟨a, rfl, ?_, g6⟩)
            -- the row's block is there
            have hvs : vs ≠ [] ∨ vs = [] := (Classical.em (vs = [])).symm
            rcases hvs with hvs | hvs
            · obtain ⟨u, us, rfl⟩ := List.exists_cons_of_ne_nil hvs
              have := g6 0 u rfl
              have hb := World.block_lt_of_cell? w _ this
              rw [add_block] at hb
              exact hb
            · have hl : 0 < es.length := List.length_pos_iff.2 hne
              have : 0 < len * P.cellsOf e := Nat.mul_pos (by omega) (by simpa using hpos)
              rw [← g5, hvs] at this
              simp at this
        · intro n
          cases n with
          | zero => trivial
          | succ n =>
            unfold Fit
            rw [hu]
            exact ⟨es, rfl, by rw [g1]; omega, fun y hy => ⟨y.cells, (g4 y hy).2.1 n, (g4 y hy).2.2⟩⟩
    · rename_i fs hu
      simp only [Bool.and_eq_true, beq_iff_eq] at hp
      obtain ⟨hcon, hall⟩ := hp
      obtain ⟨xs, m, hfm, rfl, hlen, hxl, hf⟩ := DataW.trod_struct hu h
      have key : ∀ (l : List Field) (off tot : Nat), contig P off l = some tot → (∀ f ∈ l, L.contains f.type = true ∧ ∃ x, DataW.trod enc P w 0 spare held m f.type ((cs.drop f.offset).take (P.cellsOf f.type)) = some x) → tot ≤ cs.length →
          off ≤ tot ∧ ∃ ys, Reps (All w) w ((cs.drop off).take (tot - off)) ys ∧ (∀ y ∈ ys, y.cell = true) ∧ ∀ n, l.foldr (fun f K xs => ∃ a b, xs = a ++ b ∧ Fit P n f.type a ∧ K b) (fun xs => xs = []) ys := by
        intro l
        induction l with
        | nil =>
          intro off tot hc _ _
          simp only [contig, Option.some.injEq] at hc
          subst hc
          exact ⟨Nat.le_refl _, [], by simpa using Reps.nil, by simp, fun _ => rfl⟩
        | cons f l ih =>
          intro off tot hc hl ht
          simp only [contig] at hc
          split at hc
          · rename_i ho
            obtain ⟨h1, ys, h2, h3, h4⟩ := ih _ tot hc (fun g hg => hl g (List.mem_cons_of_mem _ hg)) ht
            obtain ⟨hpl, x, hx⟩ := hl f (List.mem_cons_self ..)
            obtain ⟨zs, g1, g2, g3, g4⟩ := trod_fit m (by omega) f.type _ x hpl hx
            rw [ho] at g1
            refine ⟨by omega, zs ++ ys, ?_, fun y hy => ?_, fun n => ⟨zs, ys, rfl, g3 n, h4 n⟩⟩
            · have : (cs.drop off).take (tot - off) = (cs.drop off).take (P.cellsOf f.type) ++ (cs.drop (off + P.cellsOf f.type)).take (tot - (off + P.cellsOf f.type)) := by
                rw [show tot - off = P.cellsOf f.type + (tot - (off + P.cellsOf f.type)) from by omega, List.take_add, List.drop_drop]
              rw [this]
              exact g1.append h2
            · rcases List.mem_append.1 hy with hy | hy
              · exact g2 y hy
              · exact h3 y hy
          · cases hc
      obtain ⟨_, ys, h2, h3, h4⟩ := key fs.toList 0 (P.cellsOf t) hcon (fun f hfm => by
        refine ⟨List.all_eq_true.1 hall f hfm, ?_⟩
        obtain ⟨i, hi, rfl⟩ := List.getElem_of_mem hfm
        have hi' : i < fs.size := by simpa using hi
        have := hf i fs[i] (Array.getElem?_eq_getElem hi')
        rw [List.getElem?_eq_getElem (by omega : i < xs.length)] at this
        exact ⟨_, by simpa using this⟩) (by omega)
      refine ⟨ys, ?_, h3, ?_, hlen⟩
      · have := h2
        simp only [List.drop_zero, Nat.sub_zero] at this
        rwa [List.take_of_length_le (by omega)] at this
      · intro n
        cases n with
        | zero => trivial
        | succ n =>
          unfold Fit
          rw [hu]
          exact h4 n
    · cases hp
end
section
variable {H : Type} {enc : TypeId × Value → H} {P : Program}
def FitAllN (P : Program) (N : Nat) : List TypeId → List V → Prop
  | [], xs => xs = []
  | t :: ts, xs => ∃ ys r, xs = packT P t ys :: r ∧ Fit P N t ys ∧ FitAllN P N ts r
theorem trod_repR (N : Nat) {w : World} {r : Reach} {b : Nat} {t : TypeId} {v : Value} {d : DataW H} {ps : List MemPlace} {sp : Nat → Bool} {held : Bool} (hp : plainR P t = true) (hval : Value.okWide P w r b t v) (h : DataW.Trod enc P w 0 sp held t v d ps) :
    ∃ ys, Fit P N t ys ∧ Rep (All w) w v (packT P t ys) := by
  obtain ⟨fuel, h⟩ := h
  obtain ⟨ys, hr, hc, hf, hl⟩ := trod_fitR (plainR_inv hp).1 fuel t _ _ (plainR_inv hp).2 h
  have hf := hf N
  refine ⟨ys, hf, ?_⟩
  unfold packT
  cases ha : isAggB P t with
  | true =>
    have : ∃ cs, v = .agg cs := by
      unfold Value.okWide at hval
      unfold isAggB at ha
      split at hval
      · obtain ⟨cs, h, _⟩ := hval; exact ⟨cs, h⟩
      · obtain ⟨cs, h, _⟩ := hval; exact ⟨cs, h⟩
      · split at ha <;> simp_all
    obtain ⟨cs, rfl⟩ := this
    have := Rep.mk_agg hc (show Reps (All w) w cs.toList ys from hr)
    simpa using this
  | false =>
    rw [okWide_one hval ha] at hr
    match ys, hr with
    | [], hr => exact absurd hr.1 (by simp)
    | [y], hr => simpa using hr.head
    | _ :: _ :: _, hr => exact absurd hr.1 (by simp)

theorem trodAll_repsR (N : Nat) {w : World} {r : Reach} {b : Nat} {sp : Nat → Bool} {held : Bool} : ∀ {ts : List TypeId} {vs : List Value} {ds : List (DataW H)} {ps : List MemPlace}, (∀ t ∈ ts, plainR P t = true) → (∀ (j : Nat) t v, ts[j]? = some t → vs[j]? = some v → Value.okWide P w r b t v) →
    DataW.TrodAll enc P w 0 sp held ts vs ds ps → ∃ xs, FitAllN P N ts xs ∧ Reps (All w) w vs xs
  | [], vs, ds, ps, _, _, h => by
    obtain ⟨rfl, _, _⟩ := trodAll_nil h
    exact ⟨[], rfl, Reps.nil⟩
  | t :: ts, vs, ds, ps, hp, hv, h => by
    obtain ⟨v, vs', d, ds', a, c, rfl, rfl, rfl, h1, h2⟩ := trodAll_cons h
    obtain ⟨ys, hf, hr⟩ := trod_repR N (hp t (List.mem_cons_self ..)) (hv 0 t v rfl rfl) h1
    obtain ⟨xs, hfs, hrs⟩ := trodAll_repsR N (fun t ht => hp t (List.mem_cons_of_mem _ ht)) (fun j t v ht hv' => hv (j + 1) t v (by simpa using ht) (by simpa using hv')) h2
    exact ⟨_, ⟨ys, xs, rfl, hf, hfs⟩, Reps.cons hr hrs⟩

theorem calls_trueRN (N : Nat) {f : FuncId} {fn : Func} {s : ChangeSpec} {fresh handsOn again : Bool} (hl : laidOutB P = true) (hp : ∀ t ∈ fn.params.toList, P.readableRec t = true ∧ t < P.types.size) (hplain : ∀ t ∈ fn.params.toList, plainR P t = true)
    {tb : TypeId} (hres : fn.resultTypes = #[tb]) (htb : P.underlying tb = some .bool) (hvars : s.vars = []) (hfn : ∀ ds : List (DataW H), ds.length = fn.params.toList.length → s.fn H ds = { results := [.lit (.bool true)], args := ds })
    (hPF : ∀ xs, FitAllN P N fn.params.toList xs → PF P f xs (.b true)) {r : Reach} {W : World} {base : Nat} {args : Array Value} {ds gs : List (DataW H)} {before : List MemPlace}
    (hval : ∀ (j : Nat) t v, fn.params[j]? = some t → args[j]? = some v → Value.okWide P W r base t v) (hW : DataW.Whole enc P fn.params.toList s.vars false W args.toList ds gs before) (hG : GOK (All W) W) :
    Calls P f args W fun e W' => ∃ v, e = .returned v ∧ s.post enc P fn false fresh handsOn again W args v W' := by
  obtain ⟨p, q, hA, hrest⟩ := hW
  obtain ⟨xs, hfit, hreps⟩ := trodAll_repsR N hplain (fun j t v ht hv => hval j t v (by simpa using ht) (by simpa using hv)) hA
  have hlen : ∀ {ts : List TypeId} {vs : List Value} {ds : List (DataW H)} {ps : List MemPlace}, DataW.TrodAll enc P W 0 (fun _ => true) true ts vs ds ps → ds.length = ts.length := by
    intro ts
    induction ts with
    | nil => intro vs ds ps h; obtain ⟨_, rfl, _⟩ := trodAll_nil h; rfl
    | cons t ts ih => intro vs ds ps h; obtain ⟨v, vs', d, ds', a, c, rfl, rfl, rfl, _, h2⟩ := trodAll_cons h; simp [ih h2]
  have := hPF xs hfit (All W) W args.toList (fun _ h => h) hG hreps
  simp only [Array.toArray_toList] at this
  refine this.mono fun e W' ⟨v, he, hb, S', _, _, hr⟩ => ⟨v, he, ?_⟩
  have hv : v = .bool true := (Res.val hr (by rfl)).val (by rfl)
  subst hv
  exact post_true ⟨p, q, hA, hrest⟩ hb hl hp hres htb hvars (hfn ds (hlen hA))
end
end Go.VM
