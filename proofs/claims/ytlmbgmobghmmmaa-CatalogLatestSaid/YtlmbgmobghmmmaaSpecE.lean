/-
  The law of the stage: the version that holds on a day is the last one that began up to this day.
-/
import Derived.Test.YtlmbgmobghmmmaaSpecB
import Derived.Test.YtlmbgmobghmmmaaSpecC
namespace Go.Proofs.Ytlmbgmobghmmmaa
open Go.VM
/-- Does one of the first i versions hold, and equal the one found? -/
def someB (l : List Product) (n : List UInt8) (d : Int) (p : Product) : Bool := l.any fun q => candB n d q && sameP q p
theorem l7 (l : List Product) (n : List UInt8) (s : Span) (r : Option Product) (p : Product) (hr : atQ l n s.to' = r) (hp : p = r.getD zeroP) (hl : ∀ q ∈ l, Lite q) (hlp : Lite p) (h : l.length ≤ 1000) :
    loopK O [0, 1, 5, 7, 8, 9, 10] body7_1 [(0, .l (encL Product.v l)), (1, .s n), (5, .bx s.cells), (7, .bx p.cells), (8, .b r.isSome), (9, .b false), (10, .i .i64 0)] = some (.e 0, [(0, .l (encL Product.v l)), (1, .s n), (5, .bx s.cells), (7, .bx p.cells), (8, .b r.isSome), (9, .b (someB l n s.to' p))]) := by
  have hs := atQ_spec l n s.to'
  rw [hr] at hs
  have := loopK_run (o := O) (kin := [0, 1, 5, 7, 8, 9, 10]) (c := body7_1) (fun i => [(0, .l (encL Product.v l)), (1, .s n), (5, .bx s.cells), (7, .bx p.cells), (8, .b r.isSome), (9, .b (someB (l.take i) n s.to' p)), (10, .i .i64 i)]) l.length (.e 0, [(0, .l (encL Product.v l)), (1, .s n), (5, .bx s.cells), (7, .bx p.cells), (8, .b r.isSome), (9, .b (someB l n s.to' p))]) (by simp) (fun i hi => by
    have hw := wrap_i64 (i + 1) (by omega)
    have hx : someB (l.take (i + 1)) n s.to' p = (someB (l.take i) n s.to' p || (candB n s.to' l[i] && sameP l[i] p)) := by
      unfold someB
      rw [List.take_succ_eq_append_getElem hi, List.any_append]; simp
    rw [hx]
    have h20 := e20 l[i] p (hl _ (List.getElem_mem hi)) hlp
    generalize someB (l.take i) n s.to' p = sb
    by_cases h1 : l[i].name = n
    · by_cases h2 : l[i].from' ≤ s.to'
      · have hc : candB n s.to' l[i] = true := by simp [candB, h1, h2]
        have h2' : ¬ s.to' < l[i].from' := by omega
        cases r with
        | none =>
          have := hs _ (List.getElem_mem hi)
          rw [hc] at this; cases this
        | some q =>
          have hmx := hs.2.2 _ (List.getElem_mem hi) hc
          simp only [Option.getD_some] at hp
          subst hp
          have h3 : ¬ p.from' < l[i].from' := by omega
          rw [hc]
          simp only [Product.v, h1] at h20
          cases hsp : sameP l[i] p <;> rw [hsp] at h20 <;> cases sb <;> simp [body7_1, hi, hw, h1, h2', h3, h20]
      · have hc : candB n s.to' l[i] = false := by simp [candB, h1]; omega
        have h2' : s.to' < l[i].from' := by omega
        rw [hc]
        cases sb <;> simp [body7_1, hi, hw, h1, h2']
    · have hc : candB n s.to' l[i] = false := by simp [candB, h1]
      rw [hc]
      cases sb <;> simp [body7_1, hi, hw, h1]) (by simp [body7_1]) (by simp)
  exact this
theorem e7 (l : List Product) (hl : l.length ≤ maxLen) (n : List UInt8) (s : Span) (hso : s.ok) : O 7 [.l (encL Product.v l), .s n, s.v] = some (.b true) := by
  refine orun (fc := code7) rfl rfl rfl ?_
  have h9 := e9 l hl
  cases hb : lightB l <;> rw [hb] at h9
  · simp [code7, h9, live]
  by_cases hn : 100 < n.length
  · have hn' : (100 : Int) < n.length := by omega
    simp [code7, h9, hn', live]
  have hn' : ¬ (100 : Int) < n.length := by omega
  by_cases hft : s.to' < s.from'
  · simp [code7, h9, hn', hft, live]
  by_cases hmin : s.from' = -9223372036854775808
  · have hft' : ¬ s.to' < -9223372036854775808 := by omega
    simp [code7, h9, hn', hft', hmin, live]
  have h100 := lightB_len hb
  have hlt : ∀ q ∈ l, Lite q := fun q hq => lite_of hb hq
  obtain ⟨hof, hot⟩ := hso
  have hw1 : IntKind.i64.wrap (s.from' - 1) = s.from' - 1 := by
    unfold I64 at hof
    rw [IntKind.wrap_i64]; omega
  have h16 := e16 l n s.to' (by omega)
  have h16b := e16 l n (s.from' - 1) (by omega)
  rw [atP_Q] at h16 h16b
  have h24 := e24 l n s.from' s.to' (by omega)
  have hsq := atQ_spec l n s.to'
  generalize hr : atQ l n s.to' = r at h16 hsq
  have hlp : Lite (r.getD zeroP) := by
    cases r with
    | none => exact lite_zero
    | some q => exact hlt q hsq.1
  have hl7 := l7 l n s r (r.getD zeroP) hr rfl hlt hlp (by omega)
  have hsome : someB l n s.to' (r.getD zeroP) = r.isSome := by
    cases r with
    | none =>
      unfold someB
      simp only [Option.isSome_none]
      rw [List.any_eq_false]
      intro q hq
      rw [hsq q hq]; simp
    | some q =>
      unfold someB
      simp only [Option.isSome_some]
      rw [List.any_eq_true]
      exact ⟨q, hsq.1, by rw [hsq.2.1]; simp [sameP_refl]⟩
  rw [hsome] at hl7
  have h20 := e20 _ _ hlp hlp
  rw [sameP_refl] at h20
  by_cases hd : dayF (verS l n) s.from' s.to' = []
  · -- no version begins between
    have hq : atQ l n (s.from' - 1) = r := by
      rw [← hr]
      refine atQ_congr fun q hq => ?_
      unfold candB
      by_cases h1 : q.name = n
      · by_cases h2 : q.from' ≤ s.to'
        · have : ¬ s.from' ≤ q.from' := fun h3 => by
            have := day_mem.2 ⟨q, hq, h1, rfl, h3, h2⟩
            rw [hd] at this; cases this
          have h4 : q.from' ≤ s.from' - 1 := by omega
          simp [h1, h2, h4]
        · have h4 : ¬ q.from' ≤ s.from' - 1 := by omega
          simp [h1, h2, h4]
      · simp [h1]
    rw [hq] at h16b
    rw [hd, uni_nil.2 rfl] at h24
    have hn0 : ints [] = [] := rfl
    rw [hn0] at h24
    generalize encL Product.v l = L at h9 h16 h16b hl7 h24 ⊢
    cases r with
    | none =>
      simp only [pairV, Option.getD_none, Option.isSome_none] at h16 h16b hl7 h20
      have hz := zeroP_cells
      generalize hzz : zeroP = z at h16 h16b hl7 h20 hz
      simp [code7, h9, hn', hft, hmin, h16, h16b, hw1, h24, exec_loopK, hl7, h20, live]
    | some q =>
      simp only [pairV, Option.getD_some, Option.isSome_some] at h16 h16b hl7 h20
      have hq1 : q.name = n := by have := hsq.2.1; simp [candB] at this; exact this.1
      have hq2 : ¬ s.to' < q.from' := by have := hsq.2.1; simp [candB] at this; omega
      subst hq1
      simp [code7, h9, hn', hft, hmin, h16, h16b, hw1, h24, exec_loopK, hl7, h20, hq2, live]
  · obtain ⟨x, hx⟩ := List.exists_mem_of_ne_nil _ hd
    obtain ⟨q0, hq0, hn0, hf0, ha0, hb0⟩ := day_mem.1 hx
    have hc0 : candB n s.to' q0 = true := by simp [candB, hn0]; omega
    have hun : ¬ ((uni (dayF (verS l n) s.from' s.to') []).length : Int) = 0 := fun h => hd (uni_nil.1 (List.eq_nil_of_length_eq_zero (by omega)))
    generalize uni (dayF (verS l n) s.from' s.to') [] = U at h24 hun
    have hUl : (ints U).length = U.length := by simp [ints]
    rw [← hUl] at hun
    generalize ints U = UV at h24 hun
    have hune : ¬ UV = [] := fun e => hun (by rw [e]; rfl)
    cases r with
    | none =>
      have := hsq q0 hq0
      rw [hc0] at this; cases this
    | some q =>
      have hmx := hsq.2.2 q0 hq0 hc0
      simp only [pairV, Option.getD_some, Option.isSome_some] at h16 hl7 h20
      have hq1 : q.name = n := by have := hsq.2.1; simp [candB] at this; exact this.1
      have hq2 : ¬ s.to' < q.from' := by have := hsq.2.1; simp [candB] at this; omega
      have hq3 : s.from' ≤ q.from' := by omega
      obtain ⟨q', hq'⟩ : ∃ q' : V, ∃ b : Bool, pairV (atQ l n (s.from' - 1)) = .t [q', .b b] ∧ ∃ z : Product, q' = z.v := by
        cases atQ l n (s.from' - 1) with
        | none => exact ⟨_, _, rfl, _, rfl⟩
        | some z => exact ⟨_, _, rfl, _, rfl⟩
      obtain ⟨b, hpv, z, rfl⟩ := hq'
      rw [hpv] at h16b
      generalize encL Product.v l = L at h9 h16 h16b hl7 h24 ⊢
      clear hn0
      subst hq1
      simp [code7, h9, hn', hft, hmin, h16, h16b, hw1, h24, hune, exec_loopK, hl7, hq2, hq3, live]
end Go.Proofs.Ytlmbgmobghmmmaa
