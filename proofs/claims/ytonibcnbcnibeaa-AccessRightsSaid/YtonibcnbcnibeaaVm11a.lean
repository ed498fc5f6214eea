/-
  What a reading of an argument says of plain data. No program is named here.
-/
import Derived.Test.YtonibcnbcnibeaaVm10d
import Derived.ProofKit
namespace Go.VM
open Go.RowKit

/-- The cells of a value of a plain type. -/
def Fit (P : Program) : Nat → TypeId → List V → Prop
  | 0, _, _ => False
  | n + 1, t, xs => match P.underlying t with
    | some .bool => ∃ b, xs = [.b b]
    | some (.int k) => ∃ m, xs = [.i k m] ∧ (Lit.int k m).wf = true
    | some .string => ∃ s, xs = [.s s] ∧ s.length ≤ maxLen
    | some (.slice e) => ∃ es : List V, xs = [.l es] ∧ es.length ≤ maxLen ∧ ∀ y ∈ es, ∃ ys, Fit P n e ys ∧ y = (if isAggB P e then .a ys else ys.headD .ud)
    | some (.struct fs) => fs.toList.foldr (fun f K xs => ∃ a b, xs = a ++ b ∧ Fit P n f.type a ∧ K b) (fun xs => xs = []) xs
    | _ => False

def contig (P : Program) : Nat → List Field → Option Nat
  | off, [] => some off
  | off, f :: r => if f.offset = off then contig P (off + P.cellsOf f.type) r else none
def plainT (P : Program) : Nat → TypeId → Bool
  | 0, _ => false
  | n + 1, t => match P.underlying t with
    | some .bool | some (.int _) | some .string => P.cellsOf t == 1
    | some (.slice e) => P.cellsOf t == 1 && decide (0 < P.cellsOf e) && plainT P n e && (isAggB P e || P.cellsOf e == 1)
    | some (.struct fs) => (contig P 0 fs.toList == some (P.cellsOf t)) && fs.toList.all fun f => plainT P n f.type
    | _ => false

theorem mapM_get {α β : Type} {f : α → Option β} : ∀ {l : List α} {r : List β}, l.mapM f = some r → r.length = l.length ∧ ∀ (i : Nat) x, l[i]? = some x → f x = r[i]?
  | [], r, h => by simp at h; subst h; simp
  | x :: l, r, h => by
    rw [List.mapM_cons] at h
    simp only [bind, Option.bind_eq_some_iff, pure, Option.some.injEq] at h
    obtain ⟨y, hy, ys, hys, rfl⟩ := h
    obtain ⟨h1, h2⟩ := mapM_get hys
    refine ⟨by simp [h1], fun i z hz => ?_⟩
    cases i with
    | zero => simp at hz; subst hz; simpa using hy
    | succ i => simpa using h2 i z (by simpa using hz)

section
variable {H : Type} {enc : TypeId × Value → H} {P : Program} {w : World} {spare : Nat → Bool} {held : Bool}

theorem cells_get {a : Addr} {n : Nat} {cs : List Value} (h : w.cells? 0 a n = some cs) : cs.length = n ∧ ∀ (j : Nat) u, cs[j]? = some u → w.cell? (a.add j) = some u := by
  unfold World.cells? at h
  split at h
  · obtain ⟨h1, h2⟩ := mapM_get h
    refine ⟨by simpa using h1, fun j u hj => ?_⟩
    have hlt : j < n := by have := (List.getElem?_eq_some_iff.1 hj).1; rw [h1] at this; simpa using this
    exact (h2 j j (by simp [hlt])).trans hj
  · cases h

theorem reps_take {S : Nat → Prop} {cs : List Value} {xs : List V} {off n : Nat} (h : Reps S w ((cs.drop off).take n) xs) (hl : off + n ≤ cs.length) : xs.length = n := by
  rw [← h.1]; simp; omega

/-- The elements of a row, one behind the other. -/
theorem row_build {a : Addr} {k : Nat} {G : V → List V → Prop} : ∀ (len : Nat), (∀ i, i < len → ∃ (cs : List Value) (ys : List V) (y : V), w.cells? 0 (a.add (i * k)) k = some cs ∧ Reps (All w) w cs ys ∧ (∀ x ∈ ys, x.cell = true) ∧ y.cells = ys ∧ G y ys) →
    ∃ (vs : List Value) (es : List V), es.length = len ∧ Reps (All w) w vs (flatc es) ∧ (∀ x ∈ flatc es, x.cell = true) ∧ (∀ e ∈ es, e.cells.length = k ∧ G e e.cells) ∧ vs.length = len * k ∧ ∀ (j : Nat) u, vs[j]? = some u → w.cell? (a.add j) = some u
  | 0, _ => ⟨[], [], rfl, Reps.nil, by simp [flatc], by simp, by simp, by simp⟩
  | len + 1, h => by
    obtain ⟨vs, es, h1, h2, h3, h4, h5, h6⟩ := row_build len fun i hi => h i (by omega)
    obtain ⟨cs, ys, y, g1, g2, g3, g4, g5⟩ := h len (by omega)
    obtain ⟨g6, g7⟩ := cells_get g1
    subst g4
    refine ⟨vs ++ cs, es ++ [y], by simp [h1], ?_, fun x hx => ?_, fun e he => ?_, by rw [List.length_append, h5, g6, Nat.succ_mul], fun j u hj => ?_⟩
    · rw [flatc_append]
      exact h2.append (by simpa [flatc] using g2)
    · rw [flatc_append] at hx
      rcases List.mem_append.1 hx with hx | hx
      · exact h3 x hx
      · exact g3 x (by simpa [flatc] using hx)
    · rcases List.mem_append.1 he with he | he
      · exact h4 e he
      · simp only [List.mem_singleton] at he
        subst he
        exact ⟨by rw [← g2.1, g6], g5⟩
    · rw [List.getElem?_append] at hj
      split at hj
      · exact h6 j u hj
      · have := g7 _ u hj
        rw [add_add] at this
        rwa [show len * k + (j - vs.length) = j from by rw [← h5]; omega] at this

theorem trod_fit : ∀ (n fuel : Nat) (t : TypeId) (cs : List Value) (x : DataW H × List MemPlace), plainT P n t = true → DataW.trod enc P w 0 spare held fuel t cs = some x →
    ∃ xs, Reps (All w) w cs xs ∧ (∀ y ∈ xs, y.cell = true) ∧ Fit P n t xs ∧ cs.length = P.cellsOf t
  | 0, _, _, _, _, h, _ => by simp [plainT] at h
  | n + 1, fuel, t, cs, x, hp, h => by
    unfold plainT at hp
    split at hp
    · rename_i hu
      obtain ⟨b, rfl, _⟩ := DataW.trod_bool hu h
      exact ⟨[.b b], Reps.cons (.b b) Reps.nil, by simp [V.cell], by unfold Fit; rw [hu]; exact ⟨b, rfl⟩, by simp at hp; simp [hp]⟩
    · rename_i k hu
      obtain ⟨m, rfl, _, hw⟩ := DataW.trod_int hu h
      exact ⟨[.i k m], Reps.cons (.i k m) Reps.nil, by simp [V.cell], by unfold Fit; rw [hu]; exact ⟨m, rfl, hw⟩, by simp at hp; simp [hp]⟩
    · rename_i hu
      obtain ⟨s, rfl, _, hs⟩ := DataW.trod_string hu h
      exact ⟨[.s s.data.toList], Reps.cons (.s s) Reps.nil, by simp [V.cell], by unfold Fit; rw [hu]; exact ⟨_, rfl, by simpa using hs⟩, by simp at hp; simp [hp]⟩
    · rename_i e hu
      simp only [Bool.and_eq_true, beq_iff_eq] at hp
      obtain ⟨⟨⟨hc1, hpos⟩, hpe⟩, hagg⟩ := hp
      rcases DataW.trod_slice hu h with ⟨rfl, _⟩ | ⟨a, len, cap, elems, rest, m, rfl, rfl, _, _, hlc, hcm, hel, hele, _⟩
      · exact ⟨[.l []], Reps.cons (.l0 none 0) Reps.nil, by simp [V.cell], by unfold Fit; rw [hu]; exact ⟨[], rfl, Nat.zero_le _, by simp⟩, by simp [hc1]⟩
      · have hrow := row_build (w := w) (a := a) (k := P.cellsOf e) (G := fun y ys => Fit P n e ys ∧ y = (if isAggB P e then .a ys else ys.headD .ud)) len fun i hi => by
          have hi' := hele i hi
          rw [List.getElem?_eq_getElem (by omega : i < elems.length)] at hi'
          simp only [Option.bind_eq_some_iff] at hi'
          obtain ⟨ci, hci, hti⟩ := hi'
          obtain ⟨ys, hr, hcell, hf, hl⟩ := trod_fit n m e ci _ hpe hti
          cases ha : isAggB P e with
          | true => exact ⟨ci, ys, .a ys, hci, hr, hcell, rfl, hf, by simp⟩
          | false =>
            rw [ha] at hagg
            simp only [Bool.false_eq_true, false_or, Bool.or_eq_true, beq_iff_eq] at hagg
            match ys, hr, hcell, hf with
            | [], hr, _, _ => have := hr.1; rw [hl, hagg] at this; simp at this
            | [y], hr, hcell, hf =>
              refine ⟨ci, [y], y, hci, hr, hcell, ?_, hf, by simp⟩
              have := hcell y (List.mem_cons_self ..)
              cases y <;> first | rfl | (simp [V.cell] at this; done)
            | _ :: _ :: _, hr, _, _ => have := hr.1; rw [hl, hagg] at this; simp at this
        obtain ⟨vs, es, g1, g2, g3, g4, g5, g6⟩ := hrow
        refine ⟨[.l es], ?_, by simp [V.cell], ?_, by simp [hc1]⟩
        · refine Reps.cons ?_ Reps.nil
          rw [← g1]
          by_cases hne : es = []
          · subst hne; exact .l0 _ _
          · refine Rep.mk_slice (fun e he => (g4 e he).1) g3 g2 (by rw [g1]; exact hlc) (.inr ⟨a, rfl, ?_, g6⟩)
            -- the row's block is there
            have hvs : vs ≠ [] ∨ vs = [] := (Classical.em (vs = [])).symm
            rcases hvs with hvs | hvs
            · obtain ⟨u, us, rfl⟩ := List.exists_cons_of_ne_nil hvs
              have := g6 0 u rfl
              have hb := World.block_lt_of_cell? w _ this
              rw [add_block] at hb
              exact hb
            · have hl : 0 < es.length := List.length_pos_iff.2 hne
              have : 0 < len * P.cellsOf e := Nat.mul_pos (by omega) (by simpa using hpos)
              rw [← g5, hvs] at this
              simp at this
        · unfold Fit
          rw [hu]
          exact ⟨es, rfl, by rw [g1]; omega, fun y hy => ⟨y.cells, (g4 y hy).2⟩⟩
    · rename_i fs hu
      simp only [Bool.and_eq_true, beq_iff_eq] at hp
      obtain ⟨hcon, hall⟩ := hp
      obtain ⟨xs, m, rfl, rfl, hlen, hxl, hf⟩ := DataW.trod_struct hu h
      have key : ∀ (l : List Field) (off tot : Nat), contig P off l = some tot → (∀ f ∈ l, plainT P n f.type = true ∧ ∃ x, DataW.trod enc P w 0 spare held m f.type ((cs.drop f.offset).take (P.cellsOf f.type)) = some x) → tot ≤ cs.length →
          off ≤ tot ∧ ∃ ys, Reps (All w) w ((cs.drop off).take (tot - off)) ys ∧ (∀ y ∈ ys, y.cell = true) ∧ l.foldr (fun f K xs => ∃ a b, xs = a ++ b ∧ Fit P n f.type a ∧ K b) (fun xs => xs = []) ys := by
        intro l
        induction l with
        | nil =>
          intro off tot hc _ _
          simp only [contig, Option.some.injEq] at hc
          subst hc
          exact ⟨Nat.le_refl _, [], by simpa using Reps.nil, by simp, rfl⟩
        | cons f l ih =>
          intro off tot hc hl ht
          simp only [contig] at hc
          split at hc
          · rename_i ho
            obtain ⟨h1, ys, h2, h3, h4⟩ := ih _ tot hc (fun g hg => hl g (List.mem_cons_of_mem _ hg)) ht
            obtain ⟨hpl, x, hx⟩ := hl f (List.mem_cons_self ..)
            obtain ⟨zs, g1, g2, g3, g4⟩ := trod_fit n m f.type _ x hpl hx
            rw [ho] at g1
            refine ⟨by omega, zs ++ ys, ?_, fun y hy => ?_, zs, ys, rfl, g3, h4⟩
            · have : (cs.drop off).take (tot - off) = (cs.drop off).take (P.cellsOf f.type) ++ (cs.drop (off + P.cellsOf f.type)).take (tot - (off + P.cellsOf f.type)) := by
                rw [show tot - off = P.cellsOf f.type + (tot - (off + P.cellsOf f.type)) from by omega, List.take_add, List.drop_drop]
              rw [this]
              exact g1.append h2
            · rcases List.mem_append.1 hy with hy | hy
              · exact g2 y hy
              · exact h3 y hy
          · cases hc
      obtain ⟨_, ys, h2, h3, h4⟩ := key fs.toList 0 (P.cellsOf t) hcon (fun f hfm => by
        refine ⟨List.all_eq_true.1 hall f hfm, ?_⟩
        obtain ⟨i, hi, rfl⟩ := List.getElem_of_mem hfm
        have hi' : i < fs.size := by simpa using hi
        have := hf i fs[i] (Array.getElem?_eq_getElem hi')
        rw [List.getElem?_eq_getElem (by omega : i < xs.length)] at this
        exact ⟨_, by simpa using this⟩) (by omega)
      refine ⟨ys, ?_, h3, ?_, hlen⟩
      · have := h2
        simp only [List.drop_zero, Nat.sub_zero] at this
        rwa [List.take_of_length_le (by omega)] at this
      · unfold Fit
        rw [hu]
        exact h4
    · cases hp
end
end Go.VM
