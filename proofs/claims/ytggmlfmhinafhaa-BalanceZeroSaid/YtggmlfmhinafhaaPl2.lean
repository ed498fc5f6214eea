/-
  Balances day by day are as the reference says.
-/
import Derived.Test.YtggmlfmhinafhaaPl1
import Derived.Test.YtggmlfmhinafhaaEq2
namespace Go.Proofs.Ytggmlfmhinafhaa
open Go.VM Go.RowKit
theorem getD_set (l : List Int) (k i : Nat) (v : Int) (hi : i < l.length) : (l.set k v).getD i 0 = if k = i then v else l.getD i 0 := by
  simp only [List.getD_eq_getElem?_getD, List.getElem?_set]
  by_cases h : k = i
  · subst h; simp [hi]
  · simp [h]
theorem ext_getD {l k : List Int} (hl : l.length = k.length) (h : ∀ i, i < l.length → l.getD i 0 = k.getD i 0) : l = k := by
  refine List.ext_getElem hl fun i h1 h2 => ?_
  have := h i h1
  simpa [List.getD_eq_getElem?_getD, List.getElem?_eq_getElem h1, List.getElem?_eq_getElem h2] using this
theorem daS_len (fr to : Int) (xs : List (Entry × Int)) (out : List Int) : (xs.foldl (daS fr to) out).length = out.length := by
  induction xs generalizing out with
  | nil => rfl
  | cons x xs ih =>
    rw [List.foldl_cons, ih, daS]
    split
    · rw [List.length_set]
    · rfl
/-- The day at which a movement counts. -/
def kE (fr : Int) (e : Entry) : Nat := (max fr e.value - fr).toNat
theorem daS_get (fr to : Int) (i : Nat) : ∀ (xs : List (Entry × Int)) (out : List Int), i < out.length → wrap64 (out.getD i 0) = out.getD i 0 → (xs.foldl (daS fr to) out).getD i 0 = wrap64 (out.getD i 0 + S (fun x => if x.1.value ≤ to ∧ kE fr x.1 = i then - x.2 else 0) xs)
  | [], out, _, hw => by rw [List.foldl_nil, S, Int.add_zero, hw]
  | x :: xs, out, hi, hw => by
    have hd : (daS fr to out x).getD i 0 = wrap64 (out.getD i 0 + if x.1.value ≤ to ∧ kE fr x.1 = i then - x.2 else 0) := by
      unfold daS kE
      by_cases hv : x.1.value ≤ to
      · rw [if_pos hv, getD_set _ _ _ _ hi]
        by_cases hk : (max fr x.1.value - fr).toNat = i
        · rw [if_pos hk, if_pos ⟨hv, hk⟩, hk]; rfl
        · rw [if_neg hk, if_neg (fun h => hk h.2), Int.add_zero, hw]
      · rw [if_neg hv, if_neg (fun h => hv h.1), Int.add_zero, hw]
    have hl : (daS fr to out x).length = out.length := daS_len fr to [x] out
    rw [List.foldl_cons, daS_get fr to i xs _ (by rw [hl]; exact hi) (by rw [hd, ww]), hd, wl, S, Int.add_assoc]
theorem daT_get (L : List Int) (F G : Nat → Int) (hF : ∀ j, j < L.length → L.getD j 0 = wrap64 (F j)) (h0 : G 0 = F 0) (hs : ∀ i, G (i + 1) = G i + F (i + 1)) : ∀ k, k < L.length → ∀ i, i < L.length → (daT L k).getD i 0 = if i ≤ k then wrap64 (G i) else L.getD i 0
  | 0, hk, i, hi => by
    unfold daT
    by_cases h : i ≤ 0
    · obtain rfl : i = 0 := by omega
      rw [if_pos h, hF _ hi, h0]
    · rw [if_neg h]
  | k + 1, hk, i, hi => by
    unfold daT
    have ih := daT_get L F G hF h0 hs k (by omega)
    rw [getD_set _ _ _ _ (by rw [daT_len]; exact hi), ih (k + 1) hk, ih k (by omega), ih i hi, if_neg (show ¬ k + 1 ≤ k by omega), if_pos (Nat.le_refl k)]
    by_cases h : k + 1 = i
    · subst h
      rw [if_pos rfl, if_pos (Nat.le_refl _), hF _ hk, wl, wr, hs]
      congr 1; omega
    · rw [if_neg h]
      by_cases h2 : i ≤ k
      · rw [if_pos h2, if_pos (by omega)]
      · rw [if_neg h2, if_neg (by omega)]
theorem daA_len (a fr to : Int) (l : List Entry) : (daA a fr to l).length = (to - fr + 1).toNat := by
  unfold daA; rw [daS_len, List.length_replicate]
theorem daOk_iff (fr to : Int) : daOk fr to ↔ rdaOk fr to = true := by
  unfold daOk rdaOk
  rw [decide_eq_true_iff]
  constructor <;> intro h <;> omega
theorem da_get (a fr to : Int) (l : List Entry) (h : daOk fr to) (i : Nat) (hi : i < (to - fr + 1).toNat) : (daT (daA a fr to l) ((to - fr + 1).toNat - 1)).getD i 0 = wrap64 (S (fun e => if kE fr e ≤ i then mE a e else 0) l) := by
  have hr : ∀ j, j < (to - fr + 1).toNat → (List.replicate (to - fr + 1).toNat (0 : Int)).getD j 0 = 0 := fun j hj => by
    rw [List.getD_eq_getElem?_getD, List.getElem?_replicate, if_pos hj]; rfl
  have := daT_get (daA a fr to l) (fun j => S (fun x => if x.1.value ≤ to ∧ kE fr x.1 = j then - x.2 else 0) (mv a l)) (fun j => S (fun x => if x.1.value ≤ to ∧ kE fr x.1 ≤ j then - x.2 else 0) (mv a l)) (fun j hj => by
      rw [daA_len] at hj
      unfold daA
      rw [daS_get fr to j _ _ (by rw [List.length_replicate]; exact hj) (by rw [hr j hj]; exact w0), hr j hj, Int.zero_add]) (S_congr fun x _ => by
      by_cases h : x.1.value ≤ to ∧ kE fr x.1 = 0
      · rw [if_pos h, if_pos ⟨h.1, by omega⟩]
      · rw [if_neg h, if_neg (fun g => h ⟨g.1, by omega⟩)]) (fun j => by
      rw [← S_add]
      refine S_congr fun x _ => ?_
      by_cases h1 : x.1.value ≤ to
      · by_cases h2 : kE fr x.1 ≤ j
        · rw [if_pos ⟨h1, by omega⟩, if_pos ⟨h1, h2⟩, if_neg (fun g => by omega), Int.add_zero]
        · by_cases h3 : kE fr x.1 = j + 1
          · rw [if_pos ⟨h1, by omega⟩, if_neg (fun g => h2 g.2), if_pos ⟨h1, h3⟩, Int.zero_add]
          · rw [if_neg (fun g => by omega), if_neg (fun g => h2 g.2), if_neg (fun g => h3 g.2)]; rfl
      · rw [if_neg (fun g => h1 g.1), if_neg (fun g => h1 g.1), if_neg (fun g => h1 g.1)]; rfl) ((to - fr + 1).toNat - 1) (by rw [daA_len]; omega) i (by rw [daA_len]; exact hi)
  rw [this, if_pos (by omega), S_mv]
  congr 1
  refine S_congr fun e _ => ?_
  dsimp only
  by_cases hk : kE fr e ≤ i
  · have hv : e.value ≤ to := by unfold kE at hk; unfold daOk at h; omega
    rw [if_pos hk]
    exact S_congr fun x _ => by rw [if_pos (show e.value ≤ to ∧ kE fr e ≤ i from ⟨hv, hk⟩)]
  · rw [if_neg hk]
    refine Eq.trans (S_congr (g := fun _ => 0) fun x _ => ?_) (S_zero e.legs)
    rw [if_neg (show ¬ (e.value ≤ to ∧ kE fr e ≤ i) from fun g => hk g.2)]; exact ite_self _
theorem rdaI_get (n : Int) (k0 : Nat) (out : List Int) (i : Nat) (hi : i < out.length) : ∀ m, (rdaI n k0 out m).getD i 0 = if k0 ≤ i ∧ i < k0 + m then wrap64 (out.getD i 0 + n) else out.getD i 0
  | 0 => by
    rw [if_neg (by omega)]; rfl
  | m + 1 => by
    have hl : i < (rdaI n k0 out m).length := by rw [rdaI_len]; exact hi
    rw [rdaI_succ, addAt, getD_set _ _ _ _ hl, rdaI_get n k0 out i hi m, iw]
    by_cases h : k0 + m = i
    · subst h
      rw [if_pos rfl, rdaI_get n k0 out _ hi m, if_neg (by omega), if_pos ⟨by omega, by omega⟩]
    · rw [if_neg h]
      by_cases h2 : k0 ≤ i ∧ i < k0 + m
      · rw [if_pos h2, if_pos ⟨h2.1, by omega⟩]
      · rw [if_neg h2, if_neg (fun g => h2 ⟨g.1, by omega⟩)]
theorem rdaS_get (a fr to : Int) (i : Nat) (hi : i < (to - fr + 1).toNat) : ∀ (l : List Entry) (out : List Int), i < out.length → wrap64 (out.getD i 0) = out.getD i 0 → (l.foldl (rdaS a fr to) out).getD i 0 = wrap64 (out.getD i 0 + S (fun e => if kE fr e ≤ i then mE a e else 0) l)
  | [], out, _, hw => by rw [List.foldl_nil, S, Int.add_zero, hw]
  | e :: l, out, hio, hw => by
    have hd : (rdaS a fr to out e).getD i 0 = wrap64 (out.getD i 0 + if kE fr e ≤ i then mE a e else 0) := by
      unfold rdaS
      rw [rdaI_get _ _ _ _ hio]
      unfold kE
      by_cases hk : (max fr e.value - fr).toNat ≤ i
      · rw [if_pos hk]
        by_cases hn : movF a e = 0
        · have := movF_eq a e
          rw [if_pos hn, if_neg (by omega), ← wr, ← this, hn, Int.add_zero, hw]
        · rw [if_neg hn, if_pos ⟨hk, by omega⟩, movF_eq, wr]
      · rw [if_neg hk, if_neg (fun g => hk g.1), Int.add_zero, hw]
    have hl : (rdaS a fr to out e).length = out.length := rdaS_len a fr to [e] out
    rw [List.foldl_cons, rdaS_get a fr to i hi l _ (by rw [hl]; exact hio) (by rw [hd, ww]), hd, wl, S, Int.add_assoc]
theorem rda_get (a fr to : Int) (l : List Entry) (i : Nat) (hi : i < (to - fr + 1).toNat) : (rdaA a fr to l).getD i 0 = wrap64 (S (fun e => if kE fr e ≤ i then mE a e else 0) l) := by
  have hr : (List.replicate (to - fr + 1).toNat (0 : Int)).getD i 0 = 0 := by
    rw [List.getD_eq_getElem?_getD, List.getElem?_replicate, if_pos hi]; rfl
  unfold rdaA
  rw [rdaS_get a fr to i hi _ _ (by rw [List.length_replicate]; exact hi) (by rw [hr]; exact w0), hr, Int.zero_add]
theorem da_ref (a fr to : Int) (l : List Entry) : daF a fr to l = if rdaOk fr to = true then rdaA a fr to l else [] := by
  unfold daF
  by_cases h : daOk fr to
  · rw [if_pos h, if_pos ((daOk_iff fr to).1 h)]
    refine ext_getD ?_ fun i hi => ?_
    · rw [daT_len, daA_len, rdaA, rdaS_len, List.length_replicate]
    · rw [daT_len, daA_len] at hi
      rw [da_get a fr to l h i hi, rda_get a fr to l i hi]
  · rw [if_neg h, if_neg (fun g => h ((daOk_iff fr to).2 g))]
theorem da_len (a fr to : Int) (l : List Entry) : (daF a fr to l).length ≤ 4000 := by
  unfold daF
  split
  · rename_i h
    rw [daT_len, daA_len]
    unfold daOk at h
    omega
  · exact Nat.zero_le _
end Go.Proofs.Ytggmlfmhinafhaa
