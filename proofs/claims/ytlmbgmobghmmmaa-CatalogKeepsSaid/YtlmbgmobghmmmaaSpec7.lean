/-
  What the functions that the laws reach compute: the names of the products by the document's code.
-/
import Derived.Test.YtlmbgmobghmmmaaSpec2
namespace Go.Proofs.Ytlmbgmobghmmmaa
open Go.VM
abbrev nms (l : List Product) : List (List UInt8) := l.map (·.name)
theorem l19a (l : List Product) (u : List (List UInt8)) (k : Nat) (hk : k ≤ u.length) (h : l.length ≤ 1000) (hu : u.length ≤ 1000) : loopK O [0, 3, 4, 5] body19_1 [(0, .l (encL Product.v l)), (3, .ow 9 (strs (u.take k))), (4, .i .i64 (-1)), (5, .i .i64 0)] = some (.e 2, [(0, .l (encL Product.v l)), (3, .ow 9 (strs (u.take k))), (4, .i .i64 (atV (best (nms l) (lastOf u k) l.length)))]) := by
  have := loopK_run (o := O) (kin := [0, 3, 4, 5]) (c := body19_1) (fun i => [(0, .l (encL Product.v l)), (3, .ow 9 (strs (u.take k))), (4, .i .i64 (atV (best (nms l) (lastOf u k) i))), (5, .i .i64 i)]) l.length (.e 2, [(0, .l (encL Product.v l)), (3, .ow 9 (strs (u.take k))), (4, .i .i64 (atV (best (nms l) (lastOf u k) l.length)))]) (by simp) (fun i hi => by
    have hw := wrap_i64 (i + 1) (by omega)
    have hni : i < (nms l).length := by simpa using hi
    have hs := best_spec (nms l) (lastOf u k) i (by omega)
    have hb1 := best_succ (nms l) (lastOf u k) hni
    have hgi : (nms l)[i] = l[i].name := by simp
    rw [hgi] at hb1
    rw [hb1]
    have hlt : (u.take k).length = k := by simp; omega
    generalize hv : u.take k = v at hlt ⊢
    by_cases hk0 : k = 0
    · have hlo : lastOf u k = none := by simp [lastOf, hk0]
      rw [hlo] at hs ⊢
      have hv0 : v = [] := List.eq_nil_of_length_eq_zero (by omega)
      subst hv0
      cases hb : best (nms l) none i with
      | none => simp [body19_1, hi, hw, aboveB, lessB, atV]
      | some j =>
        rw [hb] at hs
        obtain ⟨hj, _⟩ := hs
        have hj' : j < l.length := by simpa using hj
        have hgj : (nms l)[j]? = some l[j].name := by simp [hj']
        cases hc : decide (l[i].name < l[j].name) <;> simp [body19_1, hi, hj', hw, aboveB, lessB, atV, bl_eq, hc]
    · have hk1 : k - 1 < v.length := by omega
      have hlo : lastOf u k = some v[k - 1] := by
        unfold lastOf
        rw [if_neg hk0]
        subst hv
        rw [List.getElem_take, List.getElem?_eq_getElem]
      rw [hlo] at hs ⊢
      obtain ⟨m, rfl⟩ : ∃ m, k = m + 1 := ⟨k - 1, by omega⟩
      have hwm := wrap_i64 (m : Int) (by omega)
      have hm : m < v.length := by omega
      simp only [Nat.add_sub_cancel] at hs hlo ⊢
      have hne : ¬ (m : Int) + 1 = 0 := by omega
      obtain ⟨ga, gb⟩ : (decide (l[i].name < v[m]) || decide (l[i].name = v[m])) = !decide (v[m] < l[i].name) ∧ True := ⟨by
        rcases tri_s l[i].name v[m] with ⟨h1, h2, h3⟩ | ⟨h1, h2, h3⟩ | ⟨h1, h2, h3⟩
        · rw [decide_eq_true h1, decide_eq_false h2]; rfl
        · rw [decide_eq_true h1, decide_eq_false h3]; simp
        · rw [decide_eq_false h2, decide_eq_false h3, decide_eq_true h1]; rfl, trivial⟩
      cases hb : best (nms l) (some v[m]) i with
      | none =>
        cases ha : decide (v[m] < l[i].name) <;> simp only [ha] at ga <;> simp [body19_1, hi, hw, hwm, hlt, aboveB, lessB, atV, bl_eq, ga, ha, hne]
      | some j =>
        rw [hb] at hs
        obtain ⟨hj, _⟩ := hs
        have hj' : j < l.length := by simpa using hj
        have hgj : (nms l)[j]? = some l[j].name := by simp [hj']
        cases ha : decide (v[m] < l[i].name) <;> simp only [ha] at ga
        · simp [body19_1, hi, hj', hw, hwm, hlt, aboveB, lessB, atV, bl_eq, ga, ha, hne]
        · cases hc : decide (l[i].name < l[j].name) <;> simp [body19_1, hi, hj', hw, hwm, hlt, aboveB, lessB, atV, bl_eq, ga, ha, hc, hne]) (by simp [body19_1]) (by simp)
  exact this
theorem l19b (l : List Product) (u : List (List UInt8)) (ha : u.Pairwise LinO.lt) (hm : ∀ x, x ∈ u ↔ x ∈ nms l) (hul : u.length ≤ l.length) (h : l.length ≤ 999) :
    loopK O [0, 3] body19_2 [(0, .l (encL Product.v l)), (3, .ow 9 [])] = some (.r, [(2, .ow 9 (strs u))]) := by
  have := loopK_run (o := O) (kin := [0, 3]) (c := body19_2) (fun k => [(0, .l (encL Product.v l)), (3, .ow 9 (strs (u.take k)))]) u.length (.r, [(2, .ow 9 (strs u))]) (by simp) (fun k hk => by
    obtain ⟨j, hj, hb, hje⟩ := best_next ha hm hk
    have hj' : j < l.length := by simpa using hj
    have hje' : l[j].name = u[k] := by rw [← hje]; simp
    have hl := l19a l u k (by omega) (by omega) (by omega)
    have hnl : (nms l).length = l.length := by simp
    rw [hnl] at hb
    rw [hb] at hl
    have hlt : (u.take k).length = k := by simp; omega
    have hkl : k ≤ l.length := by omega
    have hb1 : (k + 1) * 16 ≤ 140737488355328 := by omega
    have ht : u.take (k + 1) = u.take k ++ [u[k]] := List.take_succ_eq_append_getElem hk
    generalize hv : u.take k = v at *
    generalize hx : u[k] = x at *
    simp only [atV] at hl
    simp [body19_2, hlt, hkl, exec_loopK, hl, hj', hje', hb1, ht, encL_append, encL_cons]) (by
      have hl := l19a l u u.length (Nat.le_refl _) (by omega) (by omega)
      have he := best_end ha hm
      have hnl : (nms l).length = l.length := by simp
      rw [hnl] at he
      rw [he] at hl
      have hkl : u.length ≤ l.length := by omega
      rw [List.take_length] at hl
      simp only [atV] at hl
      simp [body19_2, hkl, exec_loopK, hl]) (by simp)
  exact this
theorem addN_mem {ks : List (List UInt8)} {n x : List UInt8} : x ∈ addN ks n ↔ x ∈ ks ∨ x = n := by
  unfold addN
  split
  · constructor
    · exact .inl
    · rintro (h | rfl)
      · exact h
      · assumption
  · simp
theorem foldl_mem {x : List UInt8} : ∀ (ns ks : List (List UInt8)), x ∈ ns.foldl addN ks ↔ x ∈ ks ∨ x ∈ ns
  | [], ks => by simp
  | n :: ns, ks => by
    rw [List.foldl_cons, foldl_mem ns, addN_mem, List.mem_cons]
    constructor
    · rintro ((h | h) | h)
      · exact .inl h
      · exact .inr (.inl h)
      · exact .inr (.inr h)
    · rintro (h | h | h)
      · exact .inl (.inl h)
      · exact .inl (.inr h)
      · exact .inr h
theorem addN_nodup {ks : List (List UInt8)} {n : List UInt8} (h : ks.Nodup) : (addN ks n).Nodup := by
  unfold addN
  split
  · exact h
  · rename_i hn
    refine List.nodup_append.2 ⟨h, by simp, fun a ha b hb => ?_⟩
    simp only [List.mem_singleton] at hb
    subst hb
    exact fun e => hn (e ▸ ha)
theorem foldl_nodup : ∀ (ns ks : List (List UInt8)), ks.Nodup → (ns.foldl addN ks).Nodup
  | [], _, h => h
  | n :: ns, ks, h => by rw [List.foldl_cons]; exact foldl_nodup ns _ (addN_nodup h)
/-- The names, ascending. -/
abbrev sortedN (l : List Product) : List (List UInt8) := isortS (keysN (nms l))
theorem sortedN_mem (l : List Product) (x : List UInt8) : x ∈ sortedN l ↔ x ∈ nms l := by
  rw [(isortS_perm _).mem_iff]
  unfold keysN
  rw [foldl_mem]; simp
theorem sortedN_asc (l : List Product) : (sortedN l).Pairwise LinO.lt := by
  have h1 : (sortedN l).Pairwise (· ≤ ·) := isortS_sorted _
  have h2 : (sortedN l).Nodup := (isortS_perm _).nodup_iff.2 (foldl_nodup _ [] List.nodup_nil)
  refine (List.pairwise_and_iff.2 ⟨h1, h2⟩).imp fun {a b} h => ?_
  rcases tri_s a b with ⟨h3, _, _⟩ | ⟨h3, _, _⟩ | ⟨h3, _, _⟩
  · exact h3
  · exact absurd h3 h.2
  · exact absurd h3 h.1
theorem sortedN_len (l : List Product) : (sortedN l).length ≤ l.length := by
  rw [(isortS_perm _).length_eq]
  have : ∀ (ns ks : List (List UInt8)), (ns.foldl addN ks).length ≤ ks.length + ns.length := by
    intro ns
    induction ns with
    | nil => intro ks; simp
    | cons n ns ih =>
      intro ks
      rw [List.foldl_cons]
      have h1 := ih (addN ks n)
      have h2 := addN_len ks n
      simp only [List.length_cons]
      omega
  have := this (nms l) []
  simpa [keysN] using this
theorem e19 (l : List Product) (h : l.length ≤ 999) : O 19 [.l (encL Product.v l)] = some (.ow 9 (strs (sortedN l))) := by
  refine orun (fc := code19) rfl rfl rfl ?_
  have hl := l19b l (sortedN l) (sortedN_asc l) (sortedN_mem l) (sortedN_len l) h
  generalize sortedN l = u at hl ⊢
  simp [code19, exec_loopK, hl]
end Go.Proofs.Ytlmbgmobghmmmaa
