/-
  In a chart that is accepted each account hangs below one root: a plain law, with no program in sight.
-/
import Derived.Test.YtdaclkakglmfeaaSpec4
import Derived.Test.YtdaclkakglmfeaaSpec5
namespace Go.Proofs.Ytdaclkakglmfeaa
open Go.VM
/-- Ids ascend, and each parent stands ahead. -/
structure Good (l : List Gl) : Prop where
  len : l.length ≤ 40
  asc : ∀ i j (hi : i < l.length) (hj : j < l.length), i < j → l[i].id < l[j].id
  par : ∀ i (hi : i < l.length), l[i].parent = 0 ∨ ∃ j, ∃ hj : j < i, (l[j]'(by omega)).id = l[i].parent
  pos : ∀ i (hi : i < l.length), 1 ≤ l[i].id
theorem chk_elem {l : List Gl} {p : Plan} (h : chkG l p = 0) : l.length ≤ 40 ∧ 1 ≤ l.length ∧ ∀ i, i < l.length → elemE l i = 0 := by
  unfold chkG at h
  split at h
  · cases h
  · rename_i hl
    refine ⟨by omega, by omega, fun i hi => ?_⟩
    cases hq : (List.range l.length).findSome? (elemAt l) with
    | none =>
      have := range_find_none.1 hq i hi
      unfold elemAt at this
      split at this
      · assumption
      · cases this
    | some e =>
      rw [hq] at h
      simp only at h
      obtain ⟨k, hk, hp⟩ := List.exists_of_findSome?_eq_some hq
      unfold elemAt at hp
      split at hp
      · cases hp
      · simp only [Option.some.injEq] at hp
        rename_i hne
        exact absurd (hp.trans h) hne
theorem findG_some {l : List Gl} {id : Int} {g : Gl} (h : findG l id = some g) : ∃ i, ∃ hi : i < l.length, l[i] = g ∧ g.id = id := by
  unfold findG at h
  obtain ⟨k, hk, hp⟩ := List.exists_of_findSome?_eq_some h
  have hk' : k < l.length := List.mem_range.1 hk
  simp only [gAt, List.getElem?_eq_getElem hk'] at hp
  split at hp
  · rename_i he
    simp only [Option.some.injEq] at hp
    exact ⟨k, hk', hp, hp ▸ he⟩
  · cases hp
theorem good_of {l : List Gl} {p : Plan} (h : chkG l p = 0) : Good l := by
  obtain ⟨h1, h2, h3⟩ := chk_elem h
  have info : ∀ i (hi : i < l.length), 1 ≤ l[i].id ∧ lowB l l[i] i = false ∧ (l[i].parent = 0 ∨ ∃ a, findG (l.take i) l[i].parent = some a) := by
    intro i hi
    have := h3 i hi
    unfold elemE at this
    rw [List.getElem?_eq_getElem hi] at this
    simp only [elemG] at this
    split at this
    · cases this
    · rename_i hc
      split at this
      · cases this
      · rename_i hlow
        refine ⟨by omega, by simpa using hlow, ?_⟩
        split at this
        · cases this
        · split at this
          · exact .inl ‹_›
          · split at this
            · cases this
            · rename_i a ha
              exact .inr ⟨a, ha⟩
  have step : ∀ k (hk : k + 1 < l.length), l[k].id < l[k + 1].id := by
    intro k hk
    have := (info (k + 1) hk).2.1
    have hk' : k < l.length := by omega
    have hlow : lowB l l[k + 1] (k + 1) = decide (l[k + 1].id ≤ l[k].id) := by show (match l[k]? with | some b => decide (l[k + 1].id ≤ b.id) | none => false) = _; rw [List.getElem?_eq_getElem hk']
    rw [hlow] at this
    simp only [decide_eq_false_iff_not] at this
    omega
  refine ⟨h1, fun i j hi hj hij => ?_, fun i hi => ?_, fun i hi => (info i hi).1⟩
  · induction j with
    | zero => omega
    | succ j ih =>
      by_cases e : i = j
      · subst e; exact step i hj
      · have := ih (by omega) (by omega)
        have := step j hj
        omega
  · rcases (info i hi).2.2 with h | ⟨a, ha⟩
    · exact .inl h
    · right
      obtain ⟨j, hj, he, hid⟩ := findG_some ha
      rw [List.length_take] at hj
      refine ⟨j, by omega, ?_⟩
      rw [List.getElem_take] at he
      rw [he]; exact hid
variable {l : List Gl}
theorem Good.inj (h : Good l) {i j : Nat} (hi : i < l.length) (hj : j < l.length) (e : l[i].id = l[j].id) : i = j := by
  rcases Nat.lt_trichotomy i j with h1 | h1 | h1
  · have := h.asc i j hi hj h1; omega
  · exact h1
  · have := h.asc j i hj hi h1; omega
theorem Good.find (h : Good l) {i : Nat} (hi : i < l.length) : findG l l[i].id = some l[i] := by
  cases hq : findG l l[i].id with
  | none =>
    have := range_find_none.1 hq i hi
    simp [gAt, hi] at this
  | some g =>
    obtain ⟨j, hj, he, hid⟩ := findG_some hq
    have := h.inj hj hi (by rw [he]; exact hid)
    subst this
    rw [he]
theorem Good.root (h : Good l) : ∀ (i n : Nat) (hi : i < l.length), i < n → ∃ k0, ∃ hk0 : k0 < l.length, l[k0].parent = 0 ∧ l[k0].id ∈ pathN l n (some l[i]) ∧ ∀ k (hk : k < l.length), l[k].parent = 0 → l[k].id ∈ pathN l n (some l[i]) → k = k0 := by
  intro i
  induction i using Nat.strongRecOn with
  | _ i ih =>
    intro n hi hn
    obtain ⟨n, rfl⟩ : ∃ m, n = m + 1 := ⟨n - 1, by omega⟩
    rw [pathN]
    rcases h.par i hi with h0 | ⟨j, hj, hp⟩
    · rw [if_pos h0]
      refine ⟨i, hi, h0, by simp, fun k hk _ hm => ?_⟩
      rw [List.mem_singleton] at hm
      exact h.inj hk hi hm
    · have hjl : j < l.length := by omega
      have hpos := h.pos j hjl
      have hne : ¬ l[i].parent = 0 := by omega
      rw [if_neg hne, ← hp, h.find hjl]
      obtain ⟨k0, hk0, e1, e2, e3⟩ := ih j hj n hjl (by omega)
      refine ⟨k0, hk0, e1, List.mem_cons_of_mem _ e2, fun k hk h0 hm => ?_⟩
      rcases List.mem_cons.1 hm with hm | hm
      · have := h.inj hk hi hm
        subst this
        exact absurd h0 hne
      · exact e3 k hk h0 hm
theorem under_iff (id root : Int) : under l id root = true ↔ root ∈ path l id := by
  unfold under
  cases hq : posI (path l id) root with
  | none =>
    simp only [Option.isSome_none, Bool.false_eq_true, false_iff]
    intro hm
    obtain ⟨i, hi, he⟩ := List.getElem_of_mem hm
    have := range_find_none.1 hq i hi
    simp [iAt, hi, he] at this
  | some i =>
    simp only [Option.isSome_some, true_iff]
    obtain ⟨k, hk, hp⟩ := List.exists_of_findSome?_eq_some hq
    have hk' : k < (path l id).length := List.mem_range.1 hk
    simp only [iAt, List.getElem?_eq_getElem hk'] at hp
    split at hp
    · rename_i he; rw [he]; exact List.getElem_mem hk'
    · cases hp
/-- One root stands above each account. -/
theorem Good.one (h : Good l) {i : Nat} (hi : i < l.length) : ∃ k0, ∃ hk0 : k0 < l.length, l[k0].parent = 0 ∧ under l l[i].id l[k0].id = true ∧ ∀ k (hk : k < l.length), l[k].parent = 0 → under l l[i].id l[k].id = true → k = k0 := by
  have hl := h.len
  obtain ⟨k0, hk0, e1, e2, e3⟩ := h.root i 40 hi (by omega)
  have hp : ∀ x, x ∈ path l l[i].id ↔ x ∈ pathN l 40 (some l[i]) := fun x => by
    unfold path; rw [List.mem_reverse, h.find hi]
  refine ⟨k0, hk0, e1, (under_iff _ _).2 ((hp _).2 e2), fun k hk h0 hu => e3 k hk h0 ((hp _).1 ((under_iff _ _).1 hu))⟩
/-! ### Counting -/
def cntK (l : List Gl) (id : Int) (g : Gl) : Nat := if g.parent = 0 then (leaves l g.id).count id else 0
def cntN (l : List Gl) (id : Int) (k : Nat) : Nat := ((l.take k).map (cntK l id)).sum
def leafK (l : List Gl) (id : Int) (k : Nat) : Bool := (l.take k).all fun g => !decide (g.parent = id)
theorem count_nodup {x : Int} : ∀ {m : List Int}, m.Nodup → x ∈ m → m.count x = 1
  | y :: m, hn, hx => by
    rw [List.nodup_cons] at hn
    rw [List.count_cons]
    by_cases e : y = x
    · subst e
      simp [List.count_eq_zero.2 hn.1]
    · have hx' : x ∈ m := by
        rcases List.mem_cons.1 hx with h | h
        · exact absurd h.symm e
        · exact h
      simp [count_nodup hn.2 hx', e]
theorem asc_count {m : List Int} (h : m.Pairwise (· < ·)) (x : Int) : m.count x = if x ∈ m then 1 else 0 := by
  split
  · rename_i hx
    exact count_nodup (h.imp fun h => by omega) hx
  · rename_i hx
    exact List.count_eq_zero.2 hx
theorem cntK_eq (h : Good l) {i k : Nat} (hi : i < l.length) (hk : k < l.length) : cntK l l[i].id l[k] = if l[k].parent = 0 ∧ parentB l l[i].id = false ∧ under l l[i].id l[k].id = true then 1 else 0 := by
  unfold cntK
  by_cases h0 : l[k].parent = 0
  · rw [if_pos h0, asc_count (leaves_asc l l[k].id).1]
    have hiff : l[i].id ∈ leaves l l[k].id ↔ (parentB l l[i].id = false ∧ under l l[i].id l[k].id = true) := by
      rw [(leaves_asc l l[k].id).2]
      unfold lvs leafB
      rw [List.mem_map]
      constructor
      · rintro ⟨g, hg, e⟩
        rw [List.mem_filter] at hg
        obtain ⟨hgm, hgp⟩ := hg
        rw [e] at hgp
        simpa using hgp
      · rintro ⟨e1, e2⟩
        exact ⟨l[i], List.mem_filter.2 ⟨List.getElem_mem hi, by simp [e1, e2]⟩, rfl⟩
    by_cases hc : parentB l l[i].id = false ∧ under l l[i].id l[k].id = true
    · rw [if_pos (hiff.2 hc), if_pos ⟨h0, hc⟩]
    · rw [if_neg (fun e => hc (hiff.1 e)), if_neg fun e => hc e.2]
  · rw [if_neg h0, if_neg fun e => h0 e.1]
theorem cntN_succ {id : Int} {k : Nat} (hk : k < l.length) : cntN l id (k + 1) = cntN l id k + cntK l id l[k] := by
  unfold cntN
  rw [List.take_succ_eq_append_getElem hk, List.map_append, List.sum_append]
  simp
theorem parentB_iff (id : Int) : parentB l id = true ↔ ∃ g ∈ l, g.parent = id := by
  unfold parentB
  cases hq : posP l id with
  | none =>
    simp only [Option.isSome_none, Bool.false_eq_true, false_iff]
    rintro ⟨g, hg, e⟩
    obtain ⟨i, hi, rfl⟩ := List.getElem_of_mem hg
    have := range_find_none.1 hq i hi
    simp [pAt, hi, e] at this
  | some i =>
    simp only [Option.isSome_some, true_iff]
    obtain ⟨k, hk, hp⟩ := List.exists_of_findSome?_eq_some hq
    have hk' : k < l.length := List.mem_range.1 hk
    simp only [pAt, List.getElem?_eq_getElem hk'] at hp
    split at hp
    · exact ⟨_, List.getElem_mem hk', ‹_›⟩
    · cases hp
theorem leafK_eq (id : Int) : leafK l id l.length = !parentB l id := by
  unfold leafK
  rw [List.take_length]
  cases hp : parentB l id with
  | true =>
    obtain ⟨g, hg, e⟩ := (parentB_iff id).1 hp
    simp only [Bool.not_true, List.all_eq_false]
    exact ⟨g, hg, by simp [e]⟩
  | false =>
    simp only [Bool.not_false, List.all_eq_true]
    intro g hg
    have : ¬ g.parent = id := fun e => by rw [(parentB_iff id).2 ⟨g, hg, e⟩] at hp; cases hp
    simp [this]
/-- An account without children is counted once, the others never. -/
theorem cnt_eq (h : Good l) {i : Nat} (hi : i < l.length) : cntN l l[i].id l.length = if parentB l l[i].id = true then 0 else 1 := by
  obtain ⟨k0, hk0, e1, e2, e3⟩ := h.one hi
  have key : ∀ k, k ≤ l.length → cntN l l[i].id k = if parentB l l[i].id = false ∧ k0 < k then 1 else 0 := by
    intro k
    induction k with
    | zero => intro _; simp [cntN]
    | succ k ih =>
      intro hk
      have hk' : k < l.length := by omega
      rw [cntN_succ hk', ih (by omega), cntK_eq h hi hk']
      cases hp : parentB l l[i].id with
      | true => simp
      | false =>
        by_cases e : k = k0
        · subst e; simp [e1, e2]
        · have hno : ¬ (l[k].parent = 0 ∧ under l l[i].id l[k].id = true) := fun hc => e (e3 k hk' hc.1 hc.2)
          by_cases hlt : k0 < k
          · have : k0 < k + 1 := by omega
            simp [hlt, this]
            intro a
            cases hu : under l l[i].id l[k].id with
            | false => rfl
            | true => exact absurd ⟨a, hu⟩ hno
          · have : ¬ k0 < k + 1 := by omega
            simp [hlt, this]
            intro a
            cases hu : under l l[i].id l[k].id with
            | false => rfl
            | true => exact absurd ⟨a, hu⟩ hno
  rw [key _ (Nat.le_refl _)]
  cases parentB l l[i].id <;> simp [hk0]
end Go.Proofs.Ytdaclkakglmfeaa
