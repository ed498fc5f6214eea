/-
  The order of accounts ends, and names no account twice: a plain law, with no program in sight.
-/
import Derived.Test.YtdaclkakglmfeaaOrd
namespace Go.Proofs.Ytdaclkakglmfeaa
section
variable (l : List (Int × Int))
/-- The accounts above an account, itself first. -/
inductive Pth : List Int → Int → Prop
  | nil : Pth [] 0
  | cons {p q : Int} {t : List Int} : p ≠ 0 → l.lookup p = some q → Pth t q → Pth (p :: t) p
end
variable {l : List (Int × Int)}
theorem Pth.uniq : ∀ {t t' : List Int} {p : Int}, Pth l t p → Pth l t' p → t = t'
  | _, _, _, .nil, .nil => rfl
  | _, _, _, .nil, .cons h _ _ => absurd rfl h
  | _, _, _, .cons h _ _, .nil => absurd rfl h
  | _, _, _, .cons _ h1 h2, .cons _ h3 h4 => by
    rw [h1] at h3
    cases h3
    rw [h2.uniq h4]
theorem Pth.suffix : ∀ {a b : List Int} {p : Int}, Pth l (a ++ b) p → ∃ q, Pth l b q
  | [], b, p, h => ⟨p, h⟩
  | x :: a, b, p, h => by
    cases h with
    | cons _ _ h2 => exact h2.suffix
theorem Pth.nodup : ∀ {t : List Int} {p : Int}, Pth l t p → t.Nodup
  | _, _, .nil => List.nodup_nil
  | _, _, .cons (t := t) (p := p) h1 h2 h3 => by
    rw [List.nodup_cons]
    refine ⟨fun hm => ?_, h3.nodup⟩
    obtain ⟨a, b, rfl⟩ := List.append_of_mem hm
    obtain ⟨q, hq⟩ := h3.suffix
    have hqp : q = p := by cases hq; rfl
    subst hqp
    have := (Pth.cons h1 h2 h3).uniq hq
    have := congrArg List.length this
    simp only [List.length_cons, List.length_append] at this
    omega
theorem lookup_mem' {x q : Int} : ∀ {l : List (Int × Int)}, l.lookup x = some q → x ∈ l.map Prod.fst
  | [], h => by cases h
  | p :: l, h => by
    rw [List.lookup] at h
    split at h
    · rename_i he
      have : x = p.1 := by simpa using he
      simp [this]
    · rw [List.map_cons]; exact List.mem_cons_of_mem _ (lookup_mem' h)
theorem Pth.sub : ∀ {t : List Int} {p : Int}, Pth l t p → ∀ x ∈ t, x ∈ l.map Prod.fst
  | _, _, .nil, x, hx => by cases hx
  | _, _, .cons _ h2 h3, x, hx => by
    rcases List.mem_cons.1 hx with rfl | hx
    · exact lookup_mem' h2
    · exact h3.sub x hx
theorem nodup_len : ∀ {a b : List Int}, a.Nodup → (∀ x ∈ a, x ∈ b) → a.length ≤ b.length
  | [], b, _, _ => Nat.zero_le _
  | x :: a, b, hn, hs => by
    rw [List.nodup_cons] at hn
    have hx := hs x (List.mem_cons_self ..)
    have h1 := nodup_len (b := b.erase x) hn.2 fun y hy => by
      have hne : y ≠ x := fun e => hn.1 (e ▸ hy)
      exact (List.mem_erase_of_ne hne).2 (hs y (List.mem_cons_of_mem _ hy))
    rw [List.length_erase_of_mem hx] at h1
    have := List.length_pos_of_mem hx
    simp only [List.length_cons]
    omega
theorem first_lookup : ∀ {l : List (Int × Int)} {i : Nat} {g : Int × Int}, l[i]? = some g → firstP l i = true → l.lookup g.1 = some g.2
  | [], i, g, h, _ => by simp at h
  | p :: l, 0, g, h, _ => by
    simp only [List.getElem?_cons_zero, Option.some.injEq] at h
    subst h
    rw [List.lookup]; simp
  | p :: l, i + 1, g, h, hf => by
    simp only [List.getElem?_cons_succ] at h
    unfold firstP at hf
    simp only [List.getElem?_cons_succ, h, List.take_succ_cons, List.all_cons, Bool.and_eq_true, bne_iff_ne, ne_eq] at hf
    have hne : (g.1 == p.1) = false := by simpa using fun e => hf.1 e.symm
    rw [List.lookup, hne]
    refine first_lookup h ?_
    unfold firstP
    rw [h]; exact hf.2
theorem first_ne {i j : Nat} {g h : Int × Int} (hi : l[i]? = some g) (hj : l[j]? = some h) (hij : i < j) (hf : firstP l j = true) : g.1 ≠ h.1 := by
  unfold firstP at hf
  rw [hj] at hf
  have := List.all_eq_true.1 hf g (by
    refine List.mem_of_getElem? (i := i) ?_
    rw [List.getElem?_take, if_pos hij]; exact hi)
  simpa using this
/-- It ends. -/
theorem bel_some : ∀ (n : Nat) (c : List Int) (p : Int), Pth l c p → l.length + 1 ≤ n + c.length → ∃ zs, belN n l p = some zs
  | 0, c, p, hc, hn => by
    have := nodup_len hc.nodup hc.sub
    rw [List.length_map] at this
    omega
  | n + 1, c, p, hc, hn => by
    have key : ∀ idx : List Nat, (∀ i ∈ idx, i < l.length) → ∃ zs, belR (belN n l) l p idx = some zs := by
      intro idx
      induction idx with
      | nil => intro _; exact ⟨[], rfl⟩
      | cons i r ih =>
        intro hi
        obtain ⟨zr, hr⟩ := ih fun j hj => hi j (List.mem_cons_of_mem _ hj)
        have hil := hi i (List.mem_cons_self ..)
        have hg : l[i]? = some l[i] := List.getElem?_eq_getElem hil
        simp only [belR, hg]
        by_cases hcnd : l[i].2 = p ∧ firstP l i = true
        · rw [if_pos hcnd]
          by_cases h0 : l[i].1 = 0
          · rw [if_pos h0, hr]; exact ⟨_, rfl⟩
          · rw [if_neg h0]
            have hlk := first_lookup hg hcnd.2
            rw [hcnd.1] at hlk
            obtain ⟨q, hq⟩ := bel_some n (l[i].1 :: c) l[i].1 (.cons h0 hlk hc) (by simp only [List.length_cons]; omega)
            rw [hq, hr]; exact ⟨_, rfl⟩
        · rw [if_neg hcnd]; exact ⟨zr, hr⟩
    exact key (List.range l.length) fun i hi => List.mem_range.1 hi
/-- What stands in it hangs below. -/
theorem bel_mem : ∀ (n : Nat) (c : List Int) (p : Int) (zs : List Int), Pth l c p → belN n l p = some zs → ∀ x ∈ zs, ∃ d q, l.lookup x = some q ∧ Pth l (d ++ c) q
  | 0, _, _, _, _, h => by cases h
  | n + 1, c, p, zs, hc, h => by
    have key : ∀ (idx : List Nat) (zs : List Int), belR (belN n l) l p idx = some zs → ∀ x ∈ zs, ∃ d q, l.lookup x = some q ∧ Pth l (d ++ c) q := by
      intro idx
      induction idx with
      | nil => intro zs h x hx; simp only [belR, Option.some.injEq] at h; subst h; cases hx
      | cons i r ih =>
        intro zs h x hx
        simp only [belR] at h
        split at h
        · rename_i g hg
          split at h
          · rename_i hcnd
            have hlk := first_lookup hg hcnd.2
            rw [hcnd.1] at hlk
            by_cases h0 : g.1 = 0
            · rw [if_pos h0] at h
              simp only [Option.bind_some, Option.map_eq_some_iff] at h
              obtain ⟨zr, hr, rfl⟩ := h
              rcases List.mem_append.1 hx with hx | hx
              · rw [List.mem_singleton] at hx; subst hx; exact ⟨[], p, hlk, hc⟩
              · exact ih zr hr x hx
            · rw [if_neg h0] at h
              simp only [Option.bind_eq_some_iff, Option.map_eq_some_iff] at h
              obtain ⟨_, ⟨q, hq, rfl⟩, zr, hr, rfl⟩ := h
              rcases List.mem_append.1 hx with hx | hx
              · rcases List.mem_cons.1 hx with rfl | hx
                · exact ⟨[], p, hlk, hc⟩
                · obtain ⟨d, q', h1, h2⟩ := bel_mem n (g.1 :: c) g.1 q (.cons h0 hlk hc) hq x hx
                  exact ⟨d ++ [g.1], q', h1, by simpa using h2⟩
              · exact ih zr hr x hx
          · exact ih zs h x hx
        · cases h
    exact key _ zs h
theorem Pth.longer {c d : List Int} {p x : Int} (h1 : Pth l c p) (h2 : Pth l (d ++ x :: c) p) : False := by
  have := congrArg List.length (h1.uniq h2)
  simp only [List.length_append, List.length_cons] at this
  omega
/-- No account stands in it twice. -/
theorem bel_nodup : ∀ (n : Nat) (c : List Int) (p : Int) (zs : List Int), Pth l c p → belN n l p = some zs → zs.Nodup
  | 0, _, _, _, _, h => by cases h
  | n + 1, c, p, zs, hc, h => by
    have key : ∀ (idx : List Nat) (zs : List Int), idx.Pairwise (· < ·) → belR (belN n l) l p idx = some zs → zs.Nodup ∧ ∀ x ∈ zs, ∃ i g, i ∈ idx ∧ l[i]? = some g ∧ g.2 = p ∧ firstP l i = true ∧ (x = g.1 ∨ (g.1 ≠ 0 ∧ ∃ d q, l.lookup x = some q ∧ Pth l (d ++ g.1 :: c) q)) := by
      intro idx
      induction idx with
      | nil => intro zs _ h; simp only [belR, Option.some.injEq] at h; subst h; exact ⟨List.nodup_nil, fun x hx => by cases hx⟩
      | cons i r ih =>
        intro zs hp h
        rw [List.pairwise_cons] at hp
        have up : ∀ {zr : List Int} {x : Int}, (∀ x ∈ zr, ∃ j g, j ∈ r ∧ l[j]? = some g ∧ g.2 = p ∧ firstP l j = true ∧ (x = g.1 ∨ (g.1 ≠ 0 ∧ ∃ d q, l.lookup x = some q ∧ Pth l (d ++ g.1 :: c) q))) → x ∈ zr → ∃ j g, j ∈ i :: r ∧ l[j]? = some g ∧ g.2 = p ∧ firstP l j = true ∧ (x = g.1 ∨ (g.1 ≠ 0 ∧ ∃ d q, l.lookup x = some q ∧ Pth l (d ++ g.1 :: c) q)) := fun h hx => by
          obtain ⟨j, g, hj, h⟩ := h _ hx
          exact ⟨j, g, List.mem_cons_of_mem _ hj, h⟩
        simp only [belR] at h
        split at h
        · rename_i g hg
          split at h
          · rename_i hcnd
            have hlk := first_lookup hg hcnd.2
            rw [hcnd.1] at hlk
            -- what stands in the first block
            have block : ∀ {b zr : List Int}, (∀ x ∈ b, x = g.1 ∨ (g.1 ≠ 0 ∧ ∃ d q, l.lookup x = some q ∧ Pth l (d ++ g.1 :: c) q)) → b.Nodup → belR (belN n l) l p r = some zr → (b ++ zr).Nodup ∧ ∀ x ∈ b ++ zr, ∃ j g, j ∈ i :: r ∧ l[j]? = some g ∧ g.2 = p ∧ firstP l j = true ∧ (x = g.1 ∨ (g.1 ≠ 0 ∧ ∃ d q, l.lookup x = some q ∧ Pth l (d ++ g.1 :: c) q)) := by
              intro b zr hb hbn hr
              obtain ⟨h1, h2⟩ := ih zr hp.2 hr
              refine ⟨List.nodup_append.2 ⟨hbn, h1, fun x hx y hy e => ?_⟩, fun x hx => ?_⟩
              · subst e
                obtain ⟨j, g', hj, hg', hgp, hf, hx'⟩ := h2 x hy
                have hne := first_ne hg hg' (hp.1 j hj) hf
                have hlk' := first_lookup hg' hf
                rw [hgp] at hlk'
                rcases hb x hx with rfl | ⟨n1, d, q, e1, e2⟩
                · rcases hx' with e | ⟨n2, d', q', e3, e4⟩
                  · exact hne e
                  · rw [hlk] at e3
                    cases e3
                    exact hc.longer e4
                · rcases hx' with rfl | ⟨n2, d', q', e3, e4⟩
                  · rw [hlk'] at e1
                    cases e1
                    exact hc.longer e2
                  · rw [e1] at e3
                    cases e3
                    have := e2.uniq e4
                    have h5 : (d ++ [g.1]) ++ c = (d' ++ [g'.1]) ++ c := by simpa using this
                    have h6 := List.append_cancel_right h5
                    have h7 := List.append_inj_right' h6 rfl
                    exact hne (by simpa using h7)
              · rcases List.mem_append.1 hx with hx | hx
                · exact ⟨i, g, List.mem_cons_self .., hg, hcnd.1, hcnd.2, hb x hx⟩
                · exact up h2 hx
            by_cases h0 : g.1 = 0
            · rw [if_pos h0] at h
              simp only [Option.bind_some, Option.map_eq_some_iff] at h
              obtain ⟨zr, hr, rfl⟩ := h
              exact block (b := [g.1]) (fun x hx => .inl (List.mem_singleton.1 hx)) (by simp) hr
            · rw [if_neg h0] at h
              simp only [Option.bind_eq_some_iff, Option.map_eq_some_iff] at h
              obtain ⟨_, ⟨q, hq, rfl⟩, zr, hr, rfl⟩ := h
              have hpc : Pth l (g.1 :: c) g.1 := .cons h0 hlk hc
              have hm := bel_mem n _ _ q hpc hq
              refine block (b := g.1 :: q) (fun x hx => ?_) (List.nodup_cons.2 ⟨fun hx => ?_, bel_nodup n _ _ q hpc hq⟩) hr
              · rcases List.mem_cons.1 hx with rfl | hx
                · exact .inl rfl
                · exact .inr ⟨h0, hm x hx⟩
              · obtain ⟨d, q', e1, e2⟩ := hm _ hx
                rw [hlk] at e1
                cases e1
                exact hc.longer e2
          · obtain ⟨h1, h2⟩ := ih zs hp.2 h
            exact ⟨h1, fun x hx => up h2 hx⟩
        · cases h
    exact (key _ zs (by rw [List.range_eq_range']; exact List.pairwise_lt_range') h).1
theorem bel_len {n : Nat} {c : List Int} {p : Int} {zs : List Int} (hc : Pth l c p) (h : belN n l p = some zs) : zs.length ≤ l.length := by
  have := nodup_len (b := l.map Prod.fst) (bel_nodup n c p zs hc h) fun x hx => by
    obtain ⟨d, q, h1, _⟩ := bel_mem n c p zs hc h x hx
    exact lookup_mem' h1
  simpa using this
/-- The order of a chart. -/
theorem ord_some (h : l.length ≤ 1000) : ∃ zs, belN 1002 l 0 = some zs ∧ zs.length ≤ 1000 := by
  obtain ⟨zs, hz⟩ := bel_some (l := l) 1002 [] 0 .nil (by simp; omega)
  exact ⟨zs, hz, by have := bel_len .nil hz; omega⟩
end Go.Proofs.Ytdaclkakglmfeaa
