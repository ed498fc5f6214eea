/-
  The version that holds, as a fold over the list: plain laws, with no program in sight.
-/
import Derived.Test.YtlmbgmobghmmmaaSpec4
import Derived.Test.YtlmbgmobghmmmaaSpec5
namespace Go.Proofs.Ytlmbgmobghmmmaa
open Go.VM
def candB (n : List UInt8) (d : Int) (q : Product) : Bool := decide (q.name = n) && decide (q.from' ≤ d)
def stepQ (n : List UInt8) (d : Int) (b : Option Product) (q : Product) : Option Product := if candB n d q = true then (match b with
  | none => some q
  | some r => if r.from' < q.from' then some q else some r) else b
def atQ (l : List Product) (n : List UInt8) (d : Int) : Option Product := l.foldl (stepQ n d) none
theorem atI_Q (l : List Product) (n : List UInt8) (d : Int) : ∀ i, i ≤ l.length → atQ (l.take i) n d = (atI l n d i).bind fun k => l[k]?
  | 0, _ => by simp [atQ, atI]
  | i + 1, h => by
    have hi : i < l.length := h
    have ih := atI_Q l n d i (by omega)
    have hs := atI_spec l n d i (by omega)
    unfold atQ at ih ⊢
    rw [List.take_succ_eq_append_getElem hi, List.foldl_append, ih, atI_succ l n d hi]
    simp only [List.foldl_cons, List.foldl_nil]
    unfold stepQ candB
    by_cases h1 : l[i].name = n
    · by_cases h2 : l[i].from' ≤ d
      · cases hb : atI l n d i with
        | none => simp [h1, h2, laterB, hi]
        | some k =>
          rw [hb] at hs
          obtain ⟨hk, _⟩ := hs
          by_cases h3 : l[k].from' < l[i].from' <;> simp [h1, h2, h3, laterB, hi, hk]
      · simp [h1, h2]
    · simp [h1]
def pairV : Option Product → V
  | some q => .t [q.v, .b true]
  | none => .t [zeroP.v, .b false]
theorem atP_Q (l : List Product) (n : List UInt8) (d : Int) : atP l n d = pairV (atQ l n d) := by
  have h := atI_Q l n d l.length (Nat.le_refl _)
  rw [List.take_length] at h
  have hs := atI_spec l n d l.length (Nat.le_refl _)
  unfold atP
  rw [h]
  cases hb : atI l n d l.length with
  | none => rfl
  | some k =>
    rw [hb] at hs
    obtain ⟨hk, _⟩ := hs
    simp [hk, pairV]
theorem atQ_spec (l : List Product) (n : List UInt8) (d : Int) : match atQ l n d with
    | none => ∀ q ∈ l, candB n d q = false
    | some r => r ∈ l ∧ candB n d r = true ∧ ∀ q ∈ l, candB n d q = true → q.from' ≤ r.from' := by
  have h := atI_Q l n d l.length (Nat.le_refl _)
  rw [List.take_length] at h
  have hs := atI_spec l n d l.length (Nat.le_refl _)
  rw [h]
  cases hb : atI l n d l.length with
  | none =>
    rw [hb] at hs
    intro q hq
    obtain ⟨j, hj, rfl⟩ := List.getElem_of_mem hq
    have := hs j hj hj
    unfold candB
    cases hx : decide (l[j].name = n) && decide (l[j].from' ≤ d) with
    | false => rfl
    | true => simp only [Bool.and_eq_true, decide_eq_true_eq] at hx; exact absurd hx this
  | some k =>
    rw [hb] at hs
    obtain ⟨hk, _, h1, h2, h3⟩ := hs
    simp only [Option.bind_some, List.getElem?_eq_getElem hk]
    refine ⟨List.getElem_mem hk, by simp [candB, h1, h2], fun q hq hc => ?_⟩
    obtain ⟨j, hj, rfl⟩ := List.getElem_of_mem hq
    unfold candB at hc
    simp only [Bool.and_eq_true, decide_eq_true_eq] at hc
    exact h3 j hj hj hc.1 hc.2
theorem atQ_congr {l : List Product} {n : List UInt8} {d d' : Int} (h : ∀ q ∈ l, candB n d q = candB n d' q) : atQ l n d = atQ l n d' := by
  unfold atQ
  have : ∀ (m : List Product) (b : Option Product), (∀ q ∈ m, candB n d q = candB n d' q) → m.foldl (stepQ n d) b = m.foldl (stepQ n d') b := by
    intro m
    induction m with
    | nil => intro b _; rfl
    | cons x m ih =>
      intro b hm
      rw [List.foldl_cons, List.foldl_cons]
      have : stepQ n d b x = stepQ n d' b x := by unfold stepQ; rw [hm x (List.mem_cons_self ..)]
      rw [this]
      exact ih _ fun q hq => hm q (List.mem_cons_of_mem _ hq)
  exact this l none h
theorem atQ_skip {A B : List Product} {p : Product} {n : List UInt8} {d : Int} (h : candB n d p = false) : atQ (A ++ p :: B) n d = atQ (A ++ B) n d := by
  unfold atQ
  rw [List.foldl_append, List.foldl_append, List.foldl_cons]
  congr 1
  unfold stepQ
  rw [h]; rfl
theorem day_mem {l : List Product} {n : List UInt8} {a b x : Int} : x ∈ dayF (verS l n) a b ↔ ∃ q ∈ l, q.name = n ∧ q.from' = x ∧ a ≤ x ∧ x ≤ b := by
  unfold dayF verS inB
  simp only [List.mem_filter, List.mem_map, Bool.and_eq_true, decide_eq_true_eq]
  constructor
  · rintro ⟨⟨q, ⟨hq, hn⟩, rfl⟩, h1, h2⟩
    exact ⟨q, hq, hn, rfl, h1, h2⟩
  · rintro ⟨q, hq, hn, rfl, h1, h2⟩
    exact ⟨⟨q, ⟨hq, hn⟩, rfl⟩, h1, h2⟩
theorem uni_nil {d : List Int} : uni d [] = [] ↔ d = [] := by
  constructor
  · intro h
    cases d with
    | nil => rfl
    | cons x d =>
      have : x ∈ uni (x :: d) [] := mem_uni.2 (.inl (List.mem_cons_self ..))
      rw [h] at this; cases this
  · rintro rfl
    have := uni_len [] []
    exact List.eq_nil_of_length_eq_zero (by simpa using this)
end Go.Proofs.Ytlmbgmobghmmmaa
