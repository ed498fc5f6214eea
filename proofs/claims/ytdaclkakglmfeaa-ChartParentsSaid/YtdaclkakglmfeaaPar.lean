/-
  In a chart that is accepted the order names each account, and each behind the one above it: a plain law, with no program in sight.
-/
import Derived.Test.YtdaclkakglmfeaaPart
import Derived.Test.YtdaclkakglmfeaaTree
import Derived.Test.YtdaclkakglmfeaaMut
namespace Go.Proofs.Ytdaclkakglmfeaa
open Go.VM
section
variable {l : List (Int × Int)}
/-- x hangs below p, by accounts that have a number. -/
inductive Desc (l : List (Int × Int)) : Int → Int → Prop
  | base {p x : Int} {i : Nat} : l[i]? = some (x, p) → firstP l i = true → Desc l p x
  | step {p y x : Int} {i : Nat} : l[i]? = some (y, p) → firstP l i = true → y ≠ 0 → Desc l y x → Desc l p x
theorem Desc.snoc {p y x : Int} {i : Nat} (h : Desc l p y) (hy : y ≠ 0) (h1 : l[i]? = some (x, y)) (h2 : firstP l i = true) : Desc l p x := by
  induction h with
  | base a b => exact .step a b hy (.base h1 h2)
  | step a b c _ ih => exact .step a b c (ih hy h1)
/-- What a row of the order brings in. -/
theorem row_mem {rec : Int → Option (List Int)} {p : Int} {i : Nat} {g : Int × Int} (hg : l[i]? = some g) (hp : g.2 = p) (hf : firstP l i = true) : ∀ {idx : List Nat} {zs : List Int}, i ∈ idx → belR rec l p idx = some zs → g.1 ∈ zs ∧ (g.1 ≠ 0 → ∃ q, rec g.1 = some q ∧ ∀ x ∈ q, x ∈ zs)
  | j :: r, zs, hi, h => by
    simp only [belR] at h
    by_cases e : i = j
    · subst e
      rw [hg] at h
      simp only at h
      rw [if_pos ⟨hp, hf⟩] at h
      by_cases h0 : g.1 = 0
      · rw [if_pos h0] at h
        simp only [Option.bind_some, Option.map_eq_some_iff] at h
        obtain ⟨zr, _, rfl⟩ := h
        exact ⟨by simp, fun hn => absurd h0 hn⟩
      · rw [if_neg h0] at h
        simp only [Option.bind_eq_some_iff, Option.map_eq_some_iff] at h
        obtain ⟨_, ⟨q, hq, rfl⟩, zr, _, rfl⟩ := h
        exact ⟨by simp, fun _ => ⟨q, hq, fun x hx => by simp [hx]⟩⟩
    · have hi' : i ∈ r := by
        rcases List.mem_cons.1 hi with h | h
        · exact absurd h e
        · exact h
      split at h
      · split at h
        · simp only [Option.bind_eq_some_iff, Option.map_eq_some_iff] at h
          obtain ⟨z, _, zr, hr, rfl⟩ := h
          obtain ⟨h1, h2⟩ := row_mem hg hp hf hi' hr
          refine ⟨List.mem_append_right _ h1, fun hn => ?_⟩
          obtain ⟨q, hq, hs⟩ := h2 hn
          exact ⟨q, hq, fun x hx => List.mem_append_right _ (hs x hx)⟩
        · exact row_mem hg hp hf hi' h
      · cases h
theorem desc_mem {p x : Int} (h : Desc l p x) : ∀ {n : Nat} {zs : List Int}, belN n l p = some zs → x ∈ zs := by
  induction h with
  | @base p x i a b =>
    intro n zs hz
    cases n with
    | zero => cases hz
    | succ n =>
      have hi : i < l.length := (List.getElem?_eq_some_iff.1 a).1
      exact (row_mem (g := (x, p)) a rfl b (List.mem_range.2 hi) hz).1
  | @step p y x i a b c _ ih =>
    intro n zs hz
    cases n with
    | zero => cases hz
    | succ n =>
      have hi : i < l.length := (List.getElem?_eq_some_iff.1 a).1
      obtain ⟨q, hq, hs⟩ := (row_mem (g := (y, p)) a rfl b (List.mem_range.2 hi) hz).2 c
      exact hs x (ih hq)
theorem take_mem_append {z zr : List Int} {k : Nat} {q : Int} (h : q ∈ zr.take (k - z.length)) : q ∈ (z ++ zr).take k := by
  rw [List.take_append]
  exact List.mem_append_right _ h
/-- Each stands behind the one above it. -/
theorem bel_before : ∀ (n : Nat) (p : Int) (zs : List Int), belN n l p = some zs → ∀ k x, zs[k]? = some x → ∃ q, l.lookup x = some q ∧ (q = p ∨ q ∈ zs.take k)
  | 0, _, _, h => by cases h
  | n + 1, p, zs, h => by
    have key : ∀ (idx : List Nat) (zs : List Int), belR (belN n l) l p idx = some zs → ∀ k x, zs[k]? = some x → ∃ q, l.lookup x = some q ∧ (q = p ∨ q ∈ zs.take k) := by
      intro idx
      induction idx with
      | nil => intro zs h k x hx; simp only [belR, Option.some.injEq] at h; subst h; simp at hx
      | cons i r ih =>
        intro zs h k x hx
        simp only [belR] at h
        split at h
        · rename_i g hg
          split at h
          · rename_i hcnd
            have hlk := first_lookup hg hcnd.2
            rw [hcnd.1] at hlk
            have block : ∀ {b zr : List Int}, (∀ k x, b[k]? = some x → ∃ q, l.lookup x = some q ∧ (q = p ∨ q ∈ b.take k)) → belR (belN n l) l p r = some zr → zs = b ++ zr → ∃ q, l.lookup x = some q ∧ (q = p ∨ q ∈ zs.take k) := by
              intro b zr hb hr he
              subst he
              by_cases hk : k < b.length
              · rw [List.getElem?_append_left hk] at hx
                obtain ⟨q, h1, h2⟩ := hb k x hx
                refine ⟨q, h1, h2.imp id fun h => ?_⟩
                rw [List.take_append]
                exact List.mem_append_left _ h
              · rw [List.getElem?_append_right (by omega)] at hx
                obtain ⟨q, h1, h2⟩ := ih zr hr _ x hx
                exact ⟨q, h1, h2.imp id take_mem_append⟩
            by_cases h0 : g.1 = 0
            · rw [if_pos h0] at h
              simp only [Option.bind_some, Option.map_eq_some_iff] at h
              obtain ⟨zr, hr, rfl⟩ := h
              refine block (b := [g.1]) (fun k x hx => ?_) hr rfl
              cases k with
              | zero => simp at hx; subst hx; exact ⟨p, hlk, .inl rfl⟩
              | succ k => simp at hx
            · rw [if_neg h0] at h
              simp only [Option.bind_eq_some_iff, Option.map_eq_some_iff] at h
              obtain ⟨_, ⟨q, hq, rfl⟩, zr, hr, rfl⟩ := h
              refine block (b := g.1 :: q) (fun k x hx => ?_) hr rfl
              cases k with
              | zero => simp at hx; subst hx; exact ⟨p, hlk, .inl rfl⟩
              | succ k =>
                simp only [List.getElem?_cons_succ] at hx
                obtain ⟨q', h1, h2⟩ := bel_before n g.1 q hq k x hx
                refine ⟨q', h1, .inr ?_⟩
                rw [List.take_succ_cons]
                rcases h2 with rfl | h2
                · exact List.mem_cons_self ..
                · exact List.mem_cons_of_mem _ h2
          · exact ih zs h k x hx
        · cases h
    exact key _ zs h
end
variable {l : List Gl}
theorem Good.first (h : Good l) {i : Nat} (hi : i < l.length) : firstP (pairs l) i = true := by
  rw [firstP_eq]
  unfold firstG
  rw [List.getElem?_eq_getElem hi]
  simp only [Option.isNone_iff_eq_none]
  rw [findG_none]
  intro g hg e
  obtain ⟨j, hj, rfl⟩ := List.getElem_of_mem hg
  rw [List.length_take] at hj
  rw [List.getElem_take] at e
  have := h.inj (by omega) hi e
  omega
theorem pairs_at {i : Nat} (hi : i < l.length) : (pairs l)[i]? = some (l[i].id, l[i].parent) := by
  unfold pairs
  rw [List.getElem?_map, List.getElem?_eq_getElem hi]; rfl
theorem Good.desc (h : Good l) : ∀ (i : Nat) (hi : i < l.length), Desc (pairs l) 0 l[i].id := by
  intro i
  induction i using Nat.strongRecOn with
  | _ i ih =>
    intro hi
    have hat := pairs_at hi
    rcases h.par i hi with h0 | ⟨j, hj, hp⟩
    · rw [h0] at hat
      exact .base hat (h.first hi)
    · have hjl : j < l.length := by omega
      have hpos := h.pos j hjl
      rw [← hp] at hat
      exact (ih j hj hjl).snoc (by omega) hat (h.first hi)
theorem Good.lookup (h : Good l) {i : Nat} (hi : i < l.length) : (pairs l).lookup l[i].id = some l[i].parent := by
  have := first_lookup (pairs_at hi) (h.first hi)
  exact this
/-- The order of an accepted chart. -/
theorem Good.order (h : Good l) {zs : List Int} (hz : belN 1002 (pairs l) 0 = some zs) : zs.length = l.length ∧ zs.Nodup ∧ ∀ k (hk : k < zs.length), ∃ i, ∃ hi : i < l.length, zs[k] = l[i].id ∧ (l[i].parent = 0 ∨ l[i].parent ∈ zs.take k) := by
  have hn := bel_nodup 1002 [] 0 zs .nil hz
  have hle := bel_len .nil hz
  have hpl : (pairs l).length = l.length := by simp [pairs]
  have hge : (l.map (·.id)).length ≤ zs.length := by
    refine nodup_len ?_ fun x hx => ?_
    · rw [List.nodup_iff_pairwise_ne, List.pairwise_map, List.pairwise_iff_getElem]
      intro i j hi hj hij e
      have := h.inj hi hj e
      omega
    · obtain ⟨g, hg, rfl⟩ := List.mem_map.1 hx
      obtain ⟨i, hi, rfl⟩ := List.getElem_of_mem hg
      exact desc_mem (h.desc i hi) hz
  rw [List.length_map] at hge
  refine ⟨by omega, hn, fun k hk => ?_⟩
  obtain ⟨q, h1, h2⟩ := bel_before 1002 0 zs hz k zs[k] (List.getElem?_eq_getElem hk)
  have hm := lookup_mem' h1
  obtain ⟨g, hg, e⟩ := List.mem_map.1 hm
  unfold pairs at hg
  obtain ⟨g', hg', rfl⟩ := List.mem_map.1 hg
  obtain ⟨i, hi, rfl⟩ := List.getElem_of_mem hg'
  simp only at e
  refine ⟨i, hi, e.symm, ?_⟩
  have hl := h.lookup hi
  rw [e, h1] at hl
  cases hl
  exact h2
theorem Good.pathN_eq (h : Good l) : ∀ (i n m : Nat) (hi : i < l.length), i < n → i < m → pathN l n (some l[i]) = pathN l m (some l[i]) := by
  intro i
  induction i using Nat.strongRecOn with
  | _ i ih =>
    intro n m hi hn hm
    obtain ⟨n, rfl⟩ : ∃ k, n = k + 1 := ⟨n - 1, by omega⟩
    obtain ⟨m, rfl⟩ : ∃ k, m = k + 1 := ⟨m - 1, by omega⟩
    rw [pathN, pathN]
    rcases h.par i hi with h0 | ⟨j, hj, hp⟩
    · rw [if_pos h0, if_pos h0]
    · have hjl : j < l.length := by omega
      have hpos := h.pos j hjl
      have hne : ¬ l[i].parent = 0 := by omega
      rw [if_neg hne, if_neg hne, ← hp, h.find hjl, ih j hj n m hjl (by omega) (by omega)]
/-- The way to an account is the way to the one above it, and itself. -/
theorem Good.path (h : Good l) {i : Nat} (hi : i < l.length) : path l l[i].id = path l l[i].parent ++ [l[i].id] := by
  have hl := h.len
  unfold Ytdaclkakglmfeaa.path
  rw [h.find hi]
  show (pathN l (39 + 1) (some l[i])).reverse = _
  rw [pathN, List.reverse_cons]
  congr 1
  rcases h.par i hi with h0 | ⟨j, hj, hp⟩
  · rw [if_pos h0, h0]
    have : findG l 0 = none := findG_none.2 fun g hg e => by
      obtain ⟨k, hk, rfl⟩ := List.getElem_of_mem hg
      have := h.pos k hk
      omega
    rw [this]; rfl
  · have hjl : j < l.length := by omega
    have hpos := h.pos j hjl
    have hne : ¬ l[i].parent = 0 := by omega
    rw [if_neg hne, ← hp, h.find hjl, h.pathN_eq j 39 40 hjl (by omega) (by omega)]
end Go.Proofs.Ytdaclkakglmfeaa
