/-
  What a reading of an argument says of plain data. No program is named here.
-/
import Derived.Test.YtmhbkofbbkogeaaGreatVmK
import Derived.ProofKit
import Derived.Carry
import Derived.WideKeyArgs
set_option linter.unusedSectionVars false
namespace Go.VM
open Go.RowKit
variable [Glob]

/-- The cells of a value of a plain type. -/
def Fit (P : Program) : Nat → TypeId → List V → Prop
  | 0, _, _ => True
  | n + 1, t, xs => match P.underlying t with
    | some .bool => ∃ b, xs = [.b b]
    | some (.int k) => ∃ m, xs = [.i k m] ∧ (Lit.int k m).wf = true
    | some .string => ∃ s, xs = [.s s] ∧ s.length ≤ maxLen
    | some (.slice e) => ∃ es : List V, xs = [.l es] ∧ es.length ≤ maxLen ∧ ∀ y ∈ es, ∃ ys, Fit P n e ys ∧ y = (if isAggB P e then .a ys else ys.headD .ud)
    | some (.struct fs) => fs.toList.foldr (fun f K xs => ∃ a b, xs = a ++ b ∧ Fit P n f.type a ∧ K b) (fun xs => xs = []) xs
    | _ => False

def contig (P : Program) : Nat → List Field → Option Nat
  | off, [] => some off
  | off, f :: r => if f.offset = off then contig P (off + P.cellsOf f.type) r else none
def plainT (P : Program) : Nat → TypeId → Bool
  | 0, _ => false
  | n + 1, t => match P.underlying t with
    | some .bool | some (.int _) | some .string => P.cellsOf t == 1
    | some (.slice e) => P.cellsOf t == 1 && decide (0 < P.cellsOf e) && plainT P n e && (isAggB P e || P.cellsOf e == 1)
    | some (.struct fs) => (contig P 0 fs.toList == some (P.cellsOf t)) && fs.toList.all fun f => plainT P n f.type
    | _ => false

theorem mapM_get {α β : Type} {f : α → Option β} : ∀ {l : List α} {r : List β}, l.mapM f = some r → r.length = l.length ∧ ∀ (i : Nat) x, l[i]? = some x → f x = r[i]?
  | [], r, h => by simp at h; subst h; simp
  | x :: l, r, h => by
    rw [List.mapM_cons] at h
    simp only [bind, Option.bind_eq_some_iff, pure, Option.some.injEq] at h
    obtain ⟨y, hy, ys, hys, rfl⟩ := h
    obtain ⟨h1, h2⟩ := mapM_get hys
    refine ⟨by simp [h1], fun i z hz => ?_⟩
    cases i with
    | zero => simp at hz; subst hz; simpa using hy
    | succ i => simpa using h2 i z (by simpa using hz)

section
variable {H : Type} {enc : TypeId × Value → H} {P : Program} {w : World} {spare : Nat → Bool} {held : Bool}

theorem cells_get {a : Addr} {n : Nat} {cs : List Value} (h : w.cells? 0 a n = some cs) : cs.length = n ∧ ∀ (j : Nat) u, cs[j]? = some u → w.cell? (a.add j) = some u := by
  unfold World.cells? at h
  split at h
  · obtain ⟨h1, h2⟩ := mapM_get h
    refine ⟨by simpa using h1, fun j u hj => ?_⟩
    have hlt : j < n := by have := (List.getElem?_eq_some_iff.1 hj).1; rw [h1] at this; simpa using this
    exact (h2 j j (by simp [hlt])).trans hj
  · cases h

theorem reps_take {S : Nat → Prop} {cs : List Value} {xs : List V} {off n : Nat} (h : Reps S w ((cs.drop off).take n) xs) (hl : off + n ≤ cs.length) : xs.length = n := by
  rw [← h.1]; simp; omega

/-- The elements of a row, one behind the other. -/
theorem row_build {a : Addr} {k : Nat} {G : V → List V → Prop} : ∀ (len : Nat), (∀ i, i < len → ∃ (cs : List Value) (ys : List V) (y : V), w.cells? 0 (a.add (i * k)) k = some cs ∧ Reps (All w) w cs ys ∧ (∀ x ∈ ys, x.cell = true) ∧ y.cells = ys ∧ G y ys) →
    ∃ (vs : List Value) (es : List V), es.length = len ∧ Reps (All w) w vs (flatc es) ∧ (∀ x ∈ flatc es, x.cell = true) ∧ (∀ e ∈ es, e.cells.length = k ∧ G e e.cells) ∧ vs.length = len * k ∧ ∀ (j : Nat) u, vs[j]? = some u → w.cell? (a.add j) = some u
  | 0, _ => ⟨[], [], rfl, Reps.nil, by simp [flatc], by simp, by simp, by simp⟩
  | len + 1, h => by
    obtain ⟨vs, es, h1, h2, h3, h4, h5, h6⟩ := row_build len fun i hi => h i (by omega)
    obtain ⟨cs, ys, y, g1, g2, g3, g4, g5⟩ := h len (by omega)
    obtain ⟨g6, g7⟩ := cells_get g1
    subst g4
    refine ⟨vs ++ cs, es ++ [y], by simp [h1], ?_, fun x hx => ?_, fun e he => ?_, by rw [List.length_append, h5, g6, Nat.succ_mul], fun j u hj => ?_⟩
    · rw [flatc_append]
      exact h2.append (by simpa [flatc] using g2)
    · rw [flatc_append] at hx
      rcases List.mem_append.1 hx with hx | hx
      · exact h3 x hx
      · exact g3 x (by simpa [flatc] using hx)
    · rcases List.mem_append.1 he with he | he
      · exact h4 e he
      · simp only [List.mem_singleton] at he
        subst he
        exact ⟨by rw [← g2.1, g6], g5⟩
    · rw [List.getElem?_append] at hj
      split at hj
      · exact h6 j u hj
      · have := g7 _ u hj
        rw [add_add] at this
        rwa [show len * k + (j - vs.length) = j from by rw [← h5]; omega] at this

theorem trod_fit : ∀ (n fuel : Nat) (t : TypeId) (cs : List Value) (x : DataW H × List MemPlace), plainT P n t = true → DataW.trod enc P w 0 spare held fuel t cs = some x →
    ∃ xs, Reps (All w) w cs xs ∧ (∀ y ∈ xs, y.cell = true) ∧ Fit P n t xs ∧ cs.length = P.cellsOf t
  | 0, _, _, _, _, h, _ => by simp [plainT] at h
  | n + 1, fuel, t, cs, x, hp, h => by
    unfold plainT at hp
    split at hp
    · rename_i hu
      obtain ⟨b, rfl, _⟩ := DataW.trod_bool hu h
      exact ⟨[.b b], Reps.cons (.b b) Reps.nil, by simp [V.cell], by unfold Fit; rw [hu]; exact ⟨b, rfl⟩, by simp at hp; simp [hp]⟩
    · rename_i k hu
      obtain ⟨m, rfl, _, hw⟩ := DataW.trod_int hu h
      exact ⟨[.i k m], Reps.cons (.i k m) Reps.nil, by simp [V.cell], by unfold Fit; rw [hu]; exact ⟨m, rfl, hw⟩, by simp at hp; simp [hp]⟩
    · rename_i hu
      obtain ⟨s, rfl, _, hs⟩ := DataW.trod_string hu h
      exact ⟨[.s s.data.toList], Reps.cons (.s s) Reps.nil, by simp [V.cell], by unfold Fit; rw [hu]; exact ⟨_, rfl, by simpa using hs⟩, by simp at hp; simp [hp]⟩
    · rename_i e hu
      simp only [Bool.and_eq_true, beq_iff_eq] at hp
      obtain ⟨⟨⟨hc1, hpos⟩, hpe⟩, hagg⟩ := hp
      rcases DataW.trod_slice hu h with ⟨rfl, _⟩ | ⟨a, len, cap, elems, rest, m, rfl, rfl, _, _, hlc, hcm, hel, hele, _⟩
      · exact ⟨[.l []], Reps.cons (.l0 none 0) Reps.nil, by simp [V.cell], by unfold Fit; rw [hu]; exact ⟨[], rfl, Nat.zero_le _, by simp⟩, by simp [hc1]⟩
      · have hrow := row_build (w := w) (a := a) (k := P.cellsOf e) (G := fun y ys => Fit P n e ys ∧ y = (if isAggB P e then .a ys else ys.headD .ud)) len fun i hi => by
          have hi' := hele i hi
          rw [List.getElem?_eq_getElem (by omega : i < elems.length)] at hi'
          simp only [Option.bind_eq_some_iff] at hi'
          obtain ⟨ci, hci, hti⟩ := hi'
          obtain ⟨ys, hr, hcell, hf, hl⟩ := trod_fit n m e ci _ hpe hti
          cases ha : isAggB P e with
          | true => exact ⟨ci, ys, .a ys, hci, hr, hcell, rfl, hf, by simp⟩
          | false =>
            rw [ha] at hagg
            simp only [Bool.false_eq_true, false_or, Bool.or_eq_true, beq_iff_eq] at hagg
            match ys, hr, hcell, hf with
            | [], hr, _, _ => have := hr.1; rw [hl, hagg] at this; simp at this
            | [y], hr, hcell, hf =>
              refine ⟨ci, [y], y, hci, hr, hcell, ?_, hf, by simp⟩
              have := hcell y (List.mem_cons_self ..)
              cases y <;> first | rfl | (simp [V.cell] at this; done)
            | _ :: _ :: _, hr, _, _ => have := hr.1; rw [hl, hagg] at this; simp at this
        obtain ⟨vs, es, g1, g2, g3, g4, g5, g6⟩ := hrow
        refine ⟨[.l es], ?_, by simp [V.cell], ?_, by simp [hc1]⟩
        · refine Reps.cons ?_ Reps.nil
          rw [← g1]
          by_cases hne : es = []
          · subst hne; exact .l0 _ _
          · refine Rep.mk_slice (fun e he => (g4 e he).1) g3 g2 (by rw [g1]; exact hlc) (.inr ⟨a, rfl, ?_, g6⟩)
            -- the row's block is there
            have hvs : vs ≠ [] ∨ vs = [] := (Classical.em (vs = [])).symm
            rcases hvs with hvs | hvs
            · obtain ⟨u, us, rfl⟩ := List.exists_cons_of_ne_nil hvs
              have := g6 0 u rfl
              have hb := World.block_lt_of_cell? w _ this
              rw [add_block] at hb
              exact hb
            · have hl : 0 < es.length := List.length_pos_iff.2 hne
              have : 0 < len * P.cellsOf e := Nat.mul_pos (by omega) (by simpa using hpos)
              rw [← g5, hvs] at this
              simp at this
        · unfold Fit
          rw [hu]
          exact ⟨es, rfl, by rw [g1]; omega, fun y hy => ⟨y.cells, (g4 y hy).2⟩⟩
    · rename_i fs hu
      simp only [Bool.and_eq_true, beq_iff_eq] at hp
      obtain ⟨hcon, hall⟩ := hp
      obtain ⟨xs, m, rfl, rfl, hlen, hxl, hf⟩ := DataW.trod_struct hu h
      have key : ∀ (l : List Field) (off tot : Nat), contig P off l = some tot → (∀ f ∈ l, plainT P n f.type = true ∧ ∃ x, DataW.trod enc P w 0 spare held m f.type ((cs.drop f.offset).take (P.cellsOf f.type)) = some x) → tot ≤ cs.length →
          off ≤ tot ∧ ∃ ys, Reps (All w) w ((cs.drop off).take (tot - off)) ys ∧ (∀ y ∈ ys, y.cell = true) ∧ l.foldr (fun f K xs => ∃ a b, xs = a ++ b ∧ Fit P n f.type a ∧ K b) (fun xs => xs = []) ys := by
        intro l
        induction l with
        | nil =>
          intro off tot hc _ _
          simp only [contig, Option.some.injEq] at hc
          subst hc
          exact ⟨Nat.le_refl _, [], by simpa using Reps.nil, by simp, rfl⟩
        | cons f l ih =>
          intro off tot hc hl ht
          simp only [contig] at hc
          split at hc
          · rename_i ho
            obtain ⟨h1, ys, h2, h3, h4⟩ := ih _ tot hc (fun g hg => hl g (List.mem_cons_of_mem _ hg)) ht
            obtain ⟨hpl, x, hx⟩ := hl f (List.mem_cons_self ..)
            obtain ⟨zs, g1, g2, g3, g4⟩ := trod_fit n m f.type _ x hpl hx
            rw [ho] at g1
            refine ⟨by omega, zs ++ ys, ?_, fun y hy => ?_, zs, ys, rfl, g3, h4⟩
            · have : (cs.drop off).take (tot - off) = (cs.drop off).take (P.cellsOf f.type) ++ (cs.drop (off + P.cellsOf f.type)).take (tot - (off + P.cellsOf f.type)) := by
                rw [show tot - off = P.cellsOf f.type + (tot - (off + P.cellsOf f.type)) from by omega, List.take_add, List.drop_drop]
              rw [this]
              exact g1.append h2
            · rcases List.mem_append.1 hy with hy | hy
              · exact g2 y hy
              · exact h3 y hy
          · cases hc
      obtain ⟨_, ys, h2, h3, h4⟩ := key fs.toList 0 (P.cellsOf t) hcon (fun f hfm => by
        refine ⟨List.all_eq_true.1 hall f hfm, ?_⟩
        obtain ⟨i, hi, rfl⟩ := List.getElem_of_mem hfm
        have hi' : i < fs.size := by simpa using hi
        have := hf i fs[i] (Array.getElem?_eq_getElem hi')
        rw [List.getElem?_eq_getElem (by omega : i < xs.length)] at this
        exact ⟨_, by simpa using this⟩) (by omega)
      refine ⟨ys, ?_, h3, ?_, hlen⟩
      · have := h2
        simp only [List.drop_zero, Nat.sub_zero] at this
        rwa [List.take_of_length_le (by omega)] at this
      · unfold Fit
        rw [hu]
        exact h4
    · cases hp
end
end Go.VM
/-
  A law that returns true: from plain data to the statement's own terms. No program is named here.
-/
namespace Go.VM
open Go.RowKit Go.ChangeShapes Go.WideShapes
variable [Glob]

section
variable {H : Type} {enc : TypeId × Value → H} {P : Program}

/-- What a value of a plain type reads as. -/
def packT (P : Program) (t : TypeId) (ys : List V) : V := if isAggB P t then .a ys else ys.headD .ud
def FitAll (P : Program) : List TypeId → List V → Prop
  | [], xs => xs = []
  | t :: ts, xs => ∃ ys r, xs = packT P t ys :: r ∧ Fit P 12 t ys ∧ FitAll P ts r

theorem okWide_one {w : World} {r : Reach} {b : Nat} {t : TypeId} {v : Value} (h : Value.okWide P w r b t v) (hn : isAggB P t = false) : v.cells = #[v] := by
  have hc : Cell.okWide P w r b t v := by
    unfold Value.okWide at h
    unfold isAggB at hn
    split at h <;> simp_all
  cases v with
  | agg cs =>
    exfalso
    unfold Cell.okWide at hc
    split at hc <;> simp_all [Cell.ok]
  | _ => rfl

theorem trod_rep {w : World} {r : Reach} {b : Nat} {t : TypeId} {v : Value} {d : DataW H} {ps : List MemPlace} {sp : Nat → Bool} {held : Bool} (hp : plainT P 12 t = true) (hval : Value.okWide P w r b t v) (h : DataW.Trod enc P w 0 sp held t v d ps) :
    ∃ ys, Fit P 12 t ys ∧ Rep (All w) w v (packT P t ys) := by
  obtain ⟨fuel, h⟩ := h
  obtain ⟨ys, hr, hc, hf, hl⟩ := trod_fit 12 fuel t _ _ hp h
  refine ⟨ys, hf, ?_⟩
  unfold packT
  cases ha : isAggB P t with
  | true =>
    have : ∃ cs, v = .agg cs := by
      unfold Value.okWide at hval
      unfold isAggB at ha
      split at hval
      · obtain ⟨cs, h, _⟩ := hval; exact ⟨cs, h⟩
      · obtain ⟨cs, h, _⟩ := hval; exact ⟨cs, h⟩
      · split at ha <;> simp_all
    obtain ⟨cs, rfl⟩ := this
    have := Rep.mk_agg hc (show Reps (All w) w cs.toList ys from hr)
    simpa using this
  | false =>
    rw [okWide_one hval ha] at hr
    match ys, hr with
    | [], hr => exact absurd hr.1 (by simp)
    | [y], hr => simpa using hr.head
    | _ :: _ :: _, hr => exact absurd hr.1 (by simp)

theorem trodAll_reps {w : World} {r : Reach} {b : Nat} {sp : Nat → Bool} {held : Bool} : ∀ {ts : List TypeId} {vs : List Value} {ds : List (DataW H)} {ps : List MemPlace}, (∀ t ∈ ts, plainT P 12 t = true) → (∀ (j : Nat) t v, ts[j]? = some t → vs[j]? = some v → Value.okWide P w r b t v) →
    DataW.TrodAll enc P w 0 sp held ts vs ds ps → ∃ xs, FitAll P ts xs ∧ Reps (All w) w vs xs
  | [], vs, ds, ps, _, _, h => by
    obtain ⟨rfl, _, _⟩ := trodAll_nil h
    exact ⟨[], rfl, Reps.nil⟩
  | t :: ts, vs, ds, ps, hp, hv, h => by
    obtain ⟨v, vs', d, ds', a, c, rfl, rfl, rfl, h1, h2⟩ := trodAll_cons h
    obtain ⟨ys, hf, hr⟩ := trod_rep (hp t (List.mem_cons_self ..)) (hv 0 t v rfl rfl) h1
    obtain ⟨xs, hfs, hrs⟩ := trodAll_reps (fun t ht => hp t (List.mem_cons_of_mem _ ht)) (fun j t v ht hv' => hv (j + 1) t v (by simpa using ht) (by simpa using hv')) h2
    exact ⟨_, ⟨ys, xs, rfl, hf, hfs⟩, Reps.cons hr hrs⟩

theorem trodAll_stays {W W' : World} {sp : Nat → Bool} (hl : laidOutB P = true) (hb : Below W.heap.size W W') (hsp : ∀ b, b < W.heap.size → sp b = true) : ∀ {ts : List TypeId} {vs : List Value} {ds : List (DataW H)} {ps : List MemPlace}, (∀ t ∈ ts, P.readableRec t = true ∧ t < P.types.size) → (∀ p ∈ ps, p.block < W.heap.size) →
    DataW.TrodAll enc P W 0 (fun _ => true) true ts vs ds ps → DataW.TrodAll enc P W' 0 sp true ts vs ds ps
  | [], vs, ds, ps, _, _, h => by
    obtain ⟨rfl, rfl, rfl⟩ := trodAll_nil h
    exact rfl
  | t :: ts, vs, ds, ps, hp, hlt, h => by
    obtain ⟨v, vs', d, ds', a, c, rfl, rfl, rfl, h1, h2⟩ := trodAll_cons h
    obtain ⟨hr, hrow⟩ := hp t (List.mem_cons_self ..)
    refine ⟨a, c, WideElems.Trod_stays hl hr hrow h1 (fun x hx => hb.same (hlt x (List.mem_append_left _ hx))) (fun x hx => hsp _ (hlt x (List.mem_append_left _ hx))), ?_, rfl⟩
    exact trodAll_stays hl hb hsp (fun t ht => hp t (List.mem_cons_of_mem _ ht)) (fun p hp => hlt p (List.mem_append_right _ hp)) h2

/-- The answer true, and the arguments as they were. -/
theorem post_true {f : Func} {s : ChangeSpec} {fresh handsOn again : Bool} {W W' : World} {args : Array Value} {ds gs : List (DataW H)} {before : List MemPlace} (hW : DataW.Whole enc P f.params.toList s.vars false W args.toList ds gs before) (hb : Below W.heap.size W W') (hl : laidOutB P = true)
    (hp : ∀ t ∈ f.params.toList, P.readableRec t = true ∧ t < P.types.size) {tb : TypeId} (hres : f.resultTypes = #[tb]) (htb : P.underlying tb = some .bool) (hvars : s.vars = []) (hfn : s.fn H ds = { results := [.lit (.bool true)], args := ds }) :
    s.post enc P f false fresh handsOn again W args (.bool true) W' := by
  have hWl := hW.lt
  obtain ⟨p, q, hA, hV, rfl, hfz, hnd⟩ := hW
  rw [hvars] at hV
  obtain ⟨rfl, rfl⟩ := trodVars_none hV
  have hplt : ∀ x ∈ p, x.block < W.heap.size := fun x hx => hWl x (by simpa using hx)
  have hres0 : ∀ (b : Nat) (sp : Nat → Bool) (hd : Bool), DataW.TrodAll enc P W' b sp hd f.resultTypes.toList ((Value.bool true).resultList f.resultTypes.size) [.lit (.bool true)] [] := fun b sp hd => by
    rw [hres]
    exact trodAll_mk1 (shut_bool htb true)
  have hW0 : DataW.Whole enc P f.params.toList s.vars false W args.toList ds [] (p ++ []) := ⟨p, [], hA, by rw [hvars]; exact hV, rfl, hfz, hnd⟩
  have hfn' : s.fn H (ds ++ []) = { results := [.lit (.bool true)], args := ds } := by rw [List.append_nil]; exact hfn
  refine ⟨ds, [], p ++ [], [], p, [], hW0, ?_, ?_, ?_, ?_, fun _ => ⟨?_, ?_⟩⟩
  · rw [hfn']; exact hres0 _ _ _
  · rw [hfn']; exact trodAll_stays hl hb (fun b hb' => by simpa using hb') hp hplt hA
  · rw [hfn', hvars]; exact rfl
  · refine ⟨hb.os, hb.output, fun i hi => ?_⟩
    rw [hb.block i hi]
    cases W.heap[i]? with
    | none => trivial
    | some o => cases o <;> simp
  · intro j t r h1 h2
    rw [hres] at h1 h2
    cases j with
    | zero =>
      simp at h1
      subst h1
      simp [Value.resultList] at h2
      subst h2
      exact okWide_bool_mk htb true
    | succ j => simp at h1
  · refine ⟨[.lit (.bool true)] ++ ds, [], ([] ++ p) ++ [], ⟨[] ++ p, [], trodAll_append (trodAll_stays hl hb (fun _ _ => rfl) hp hplt hA) (hres0 _ _ _), by rw [hvars]; exact rfl, rfl, ?_, by simp⟩, ?_⟩
    · intro b off hx
      have hx' : MemPlace.cell b off ∈ p := by simpa using hx
      have := hfz b off (by simpa using hx')
      rw [← this]
      have hlt := hplt _ hx'
      exact World.frozen?_of_block (hb.block b hlt)
    · intro x hx _
      simpa using hx
/-- The contract of a law whose code answers true whatever its arguments hold. -/
theorem calls_true {f : FuncId} {fn : Func} {s : ChangeSpec} {fresh handsOn again : Bool} (hl : laidOutB P = true) (hp : ∀ t ∈ fn.params.toList, P.readableRec t = true ∧ t < P.types.size) (hplain : ∀ t ∈ fn.params.toList, plainT P 12 t = true)
    {tb : TypeId} (hres : fn.resultTypes = #[tb]) (htb : P.underlying tb = some .bool) (hvars : s.vars = []) (hfn : ∀ ds : List (DataW H), ds.length = fn.params.toList.length → s.fn H ds = { results := [.lit (.bool true)], args := ds })
    (hPF : ∀ xs, FitAll P fn.params.toList xs → PF P f xs (.b true)) {r : Reach} {W : World} {base : Nat} {args : Array Value} {ds gs : List (DataW H)} {before : List MemPlace}
    (hval : ∀ (j : Nat) t v, fn.params[j]? = some t → args[j]? = some v → Value.okWide P W r base t v) (hW : DataW.Whole enc P fn.params.toList s.vars false W args.toList ds gs before) (hG : GOK (All W) W) :
    Calls P f args W fun e W' => ∃ v, e = .returned v ∧ s.post enc P fn false fresh handsOn again W args v W' := by
  obtain ⟨p, q, hA, hrest⟩ := hW
  obtain ⟨xs, hfit, hreps⟩ := trodAll_reps hplain (fun j t v ht hv => hval j t v (by simpa using ht) (by simpa using hv)) hA
  have hlen : ∀ {ts : List TypeId} {vs : List Value} {ds : List (DataW H)} {ps : List MemPlace}, DataW.TrodAll enc P W 0 (fun _ => true) true ts vs ds ps → ds.length = ts.length := by
    intro ts
    induction ts with
    | nil => intro vs ds ps h; obtain ⟨_, rfl, _⟩ := trodAll_nil h; rfl
    | cons t ts ih => intro vs ds ps h; obtain ⟨v, vs', d, ds', a, c, rfl, rfl, rfl, _, h2⟩ := trodAll_cons h; simp [ih h2]
  have := hPF xs hfit (All W) W args.toList (fun _ h => h) hG hreps
  simp only [Array.toArray_toList] at this
  refine this.mono fun e W' ⟨v, he, hb, S', _, _, hr⟩ => ⟨v, he, ?_⟩
  have hv : v = .bool true := (Res.val hr (by rfl)).val (by rfl)
  subst hv
  exact post_true ⟨p, q, hA, hrest⟩ hb hl hp hres htb hvars (hfn ds (hlen hA))
end
end Go.VM
