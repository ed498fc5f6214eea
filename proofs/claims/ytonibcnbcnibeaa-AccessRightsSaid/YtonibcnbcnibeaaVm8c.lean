/-
  The frame's invariant, and what a slot reads as. No program is named here.
-/
import Derived.Test.YtonibcnbcnibeaaVm8b
namespace Go.VM
open Go.RowKit

/-- The frame of a call is as the evaluator's slots say. -/
structure FI (P : Program) (nt : Nat) (keep : List Nat) (S : Nat → Prop) (base : Nat) (w0 : World) (env : Env) (a : Act) (w : World) : Prop where
  srt : Srt env
  size : a.tmps.size = nt
  defers : a.defers = []
  below : Below base w0 w
  bsz : base ≤ w.heap.size
  keys : ∀ n x, get n env = some x → n ∈ keep ∧ n < nt
  ents : ∃ Im : Nat → Prop, (∀ b, S b → Im b) ∧ (∀ b, Im b → (S b ∨ base ≤ b) ∧ b < w.heap.size) ∧ Ents P Im w base env (fun n => a.tmps[n]?)

section
variable {P : Program} {Im : Nat → Prop} {w w' : World} {base : Nat} {env : Env} {T T' : Tm}

theorem rd_some {x v : V} (h : rd x = some v) : x.smp = true ∧ v = frz x := by
  cases x <;> simp_all [rd, V.smp]
theorem look_slot (h : Ents P Im w base env T) (hIm : ∀ b, Im b → b < w.heap.size) {n : Nat} {x v : V} (hx : get n env = some x) (hv : rd x = some v) : ∃ u, T n = some u ∧ Rep (All w) w u v := by
  obtain ⟨hs, rfl⟩ := rd_some hv
  obtain ⟨u, hu, he⟩ := h.ent n x hx
  rw [Ent.res1 hs] at he
  exact ⟨u, hu, he.frz hIm fun b _ hb => hb⟩
theorem sub_rep {S : Nat → Prop} {ad : Addr} {vs : List Value} {cs r : List V} {off n : Nat} (hS : S ad.block) (hc : ∀ x ∈ cs, x.cell = true) (hr : Reps S w vs cs) (hu : ∀ (j : Nat) u, vs[j]? = some u → w.cell? (ad.add j) = some u) (hs : sub cs off n = some r) :
    Rep S w (.pointer (some (ad.add off))) (.r r) := by
  have hrs := hr.sub hs
  obtain ⟨_, rfl⟩ := sub_some hs
  refine .r _ _ _ (by rw [add_block]; exact hS) (fun x hx => hc x (List.mem_of_mem_drop (List.mem_of_mem_take hx))) hrs.1 (fun j u hj => ?_) hrs.2
  rw [List.getElem?_take] at hj
  split at hj
  · rw [List.getElem?_drop] at hj
    rw [add_add]; exact hu _ u hj
  · cases hj
theorem elem_rep {S : Nat → Prop} {ad : Addr} {l c k i off n : Nat} {es : List V} {e : V} {r : List V} (h : Rep S w (.slice (some ad) l c) (.l es)) (hk : ∀ e ∈ es, e.cells.length = k) (he : es[i]? = some e) (hs : sub e.cells off n = some r) :
    Rep S w (.pointer (some (ad.add (i * k + off)))) (.r r) := by
  obtain ⟨a, c', k', vs, hv, _, hcell, hr, hc, hd⟩ := h.slice
  rcases hd with rfl | ⟨ad', rfl, hS, hu⟩
  · simp at he
  · simp only [Value.slice.injEq, Option.some.injEq] at hv
    obtain ⟨rfl, rfl, rfl⟩ := hv
    rw [← flatc_at hk he] at hs
    have h1 : Rep S w (.pointer (some ((ad.add (i * k)).add off))) (.r r) := sub_rep (vs := (vs.drop (i * k)).take k) (by rw [add_block]; exact hS) (fun x hx => hcell x (List.mem_of_mem_drop (List.mem_of_mem_take hx))) ((hr.drop _).take _) (fun j u hj => by
      rw [List.getElem?_take] at hj
      split at hj
      · rw [List.getElem?_drop] at hj
        rw [add_add]; exact hu _ u hj
      · cases hj) hs
    rwa [add_add] at h1

theorem look_sound (h : Ents P Im w base env T) (hIm : ∀ b, Im b → b < w.heap.size) {n : Nat} {v : V} (hv : look env n = some v) : ∃ u, T n = some u ∧ Rep (All w) w u v := by
  unfold look at hv
  cases hx : get n env with
  | none => rw [hx] at hv; cases hv
  | some x =>
    rw [hx] at hv
    by_cases hs : x.names = none
    · refine look_slot h hIm hx ?_
      cases x <;> first | exact hv | (simp [V.names] at hs; done)
    · obtain ⟨u, hu, he⟩ := h.ent n x hx
      refine ⟨u, hu, ?_⟩
      cases x with
      | al m =>
        simp only at hv
        cases hm : get m env with
        | none => rw [hm] at hv; cases hv
        | some y =>
          rw [hm] at hv
          obtain ⟨u', hu', hr⟩ := look_slot h hIm hm hv
          have : T m = some u := he
          rw [this] at hu'; cases hu'
          exact hr
      | pe m i off sz =>
        simp only at hv
        cases hm : get m env with
        | none => rw [hm] at hv; cases hv
        | some y =>
          rw [hm] at hv
          simp only [Option.bind_some] at hv
          cases hy : rd y with
          | none => rw [hy] at hv; cases hv
          | some z =>
            rw [hy] at hv
            cases z with
            | l es =>
              simp only at hv
              cases hei : es[i]? with
              | none => rw [hei] at hv; cases hv
              | some e =>
                rw [hei] at hv
                simp only [Option.bind_some] at hv
                cases hsb : sub e.cells off sz with
                | none => rw [hsb] at hv; cases hv
                | some r =>
                  rw [hsb] at hv
                  simp only [Option.map_some, Option.some.injEq] at hv
                  subst hv
                  obtain ⟨ad, l, c, k, h1, rfl, h3⟩ := he
                  obtain ⟨u', hu', hr⟩ := look_slot h hIm hm hy
                  rw [h1] at hu'; cases hu'
                  exact elem_rep hr (h3 y es hm (rd_some hy).2.symm) hei hsb
            | _ => cases hv
      | pb m off sz =>
        simp only at hv
        cases hm : get m env with
        | none => rw [hm] at hv; cases hv
        | some y =>
          rw [hm] at hv
          simp only [Option.bind_some] at hv
          cases hy : rd y with
          | none => rw [hy] at hv; cases hv
          | some z =>
            rw [hy] at hv
            cases z with
            | r cs =>
              simp only at hv
              cases hsb : sub cs off sz with
              | none => rw [hsb] at hv; cases hv
              | some r =>
                rw [hsb] at hv
                simp only [Option.map_some, Option.some.injEq] at hv
                subst hv
                obtain ⟨ad, h1, rfl⟩ := he
                obtain ⟨u', hu', hr⟩ := look_slot h hIm hm hy
                rw [h1] at hu'; cases hu'
                obtain ⟨ad', vs, hv', hS, hc, hr, hcell⟩ := hr.ptr
                simp only [Value.pointer.injEq, Option.some.injEq] at hv'
                subst hv'
                exact sub_rep hS hc hr hcell hsb
            | _ => cases hv
      | _ => simp [V.names] at hs
end
end Go.VM
