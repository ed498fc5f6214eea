/-
  What the library's functions that write do, in the evaluator's terms; one oracle for the rest.
-/
import Derived.Test.YtlmbgmobghmmmaaTypes
import Derived.Test.YtlmbgmobghmmmaaLaid
import Derived.Test.YtlmbgmobghmmmaaIns
namespace Go.Proofs.Ytlmbgmobghmmmaa
open Go.VM Go.RowKit
theorem cells33 : Try.prog.cellsOf 33 = 19 := by kernel_rfl
theorem reps_one {S : Nat → Prop} {w : World} {vs : List Value} {es : List V} (h : Reps S w vs (flatc es)) (hc : ∀ x ∈ flatc es, x.cell = true) : ∀ v ∈ vs, v.oneCell' = true := by
  intro v hv
  obtain ⟨j, hj⟩ := List.getElem?_of_mem hv
  have hl : j < (flatc es).length := by rw [← h.1]; exact (List.getElem?_eq_some_iff.1 hj).1
  exact (h.2 j v _ hj (List.getElem?_eq_getElem hl)).oneCell (hc _ (List.getElem_mem hl))
theorem ins_PFM (es xs es' : List V) (h : insRun 33 es xs = some es') : PFM Try.prog 29 33 true false es xs es' := by
  unfold insRun at h
  split at h
  · rename_i i e' p
    split at h
    · rename_i hc
      obtain ⟨rfl, hi0, hile, hlen⟩ := hc
      simp only [Option.some.injEq] at h
      subst h
      intro S w base u vs us hS hG hB hown hk hcl hr hng hus _
      obtain ⟨m, rfl⟩ : ∃ m : Nat, i = m := ⟨i.toNat, by omega⟩
      simp only [Int.toNat_natCast] at hile ⊢
      obtain ⟨ui, uv, rfl⟩ : ∃ ui uv, us = [ui, uv] := by
        match us, hus with
        | [a, b], _ => exact ⟨a, b, rfl⟩
        | [], h => exact absurd h.1 (by simp)
        | [_], h => exact absurd h.1 (by simp)
        | _ :: _ :: _ :: _, h => exact absurd h.1 (by simp)
      have hui : ui = .int .i64 m := by
        have h1 : Rep S w ui (.i .i64 m) := hus.head
        cases h1; rfl
      subst hui
      obtain ⟨⟨vs', hvo, hvk, hvc, hvr⟩, _, hne⟩ : Arg1 Try.prog S w base u uv (.ow 33 [p]) := hus.tail.head
      rw [cells33] at hown hk hvo hvk
      rcases hvo.2 with ⟨_, h0⟩ | ⟨g2, cap2, cur2, rfl, hbg2, hg2, hnc2, hcm2, hcs2, htk2⟩
      · cases h0
      have hl : vs'.length = 19 := hvo.1
      have h1 := reps_one hvr hvc
      have h1x := reps_one hr hcl
      have hxl : vs.length = es.length * 19 := hown.1
      have hnews : ∀ (j : Nat) v, vs'[j]? = some v → cur2[j]? = some v := fun j v hj => by
        rw [← htk2, List.getElem?_take] at hj
        split at hj
        · simpa using hj
        · cases hj
      have hfl : flatc (es.take m ++ p :: es.drop m) = (flatc es).take (m * 19) ++ flatc [p] ++ (flatc es).drop (m * 19) := by
        rw [show es.take m ++ p :: es.drop m = es.take m ++ [p] ++ es.drop m from by simp, flatc_append, flatc_append, flatc_take m hk, flatc_drop m hk]
      have hkk : ∀ x ∈ es.take m ++ p :: es.drop m, x.cells.length = Try.prog.cellsOf 33 := fun x hx => by
        rw [cells33]
        rcases List.mem_append.1 hx with hx | hx
        · exact hk x (List.mem_of_mem_take hx)
        · rcases List.mem_cons.1 hx with rfl | hx
          · exact hvk _ (List.mem_cons_self ..)
          · exact hk x (List.mem_of_mem_drop hx)
      have hcc : ∀ x ∈ flatc (es.take m ++ p :: es.drop m), x.cell = true := fun x hx => by
        rw [hfl] at hx
        rcases List.mem_append.1 hx with hx | hx
        · rcases List.mem_append.1 hx with hx | hx
          · exact hcl x (List.mem_of_mem_take hx)
          · exact hvc x hx
        · exact hcl x (List.mem_of_mem_drop hx)
      have hrr : Reps S w (vs.take (m * 19) ++ vs' ++ vs.drop (m * 19)) (flatc (es.take m ++ p :: es.drop m)) := by
        rw [hfl]; exact ((hr.take _).append hvr).append (hr.drop _)
      have hln : (es.take m ++ p :: es.drop m).length = es.length + 1 := by simp; omega
      by_cases hend : m = es.length
      · subst hend
        refine (ins_end w base u es.length vs vs' g2 0 cap2 hown hl (fun j v hj => by simp [World.cell?, hg2, hnews j v hj]) h1 (by omega) hB).mono fun ex w' ⟨v', he, ho, hg, hb⟩ => ?_
        refine ⟨_, v', vs.take (es.length * 19) ++ vs' ++ vs.drop (es.length * 19), he, hg, hb, ?_, hkk, hcc, hrr, rfl⟩
        rw [hln, cells33, ← hxl, List.take_length, List.drop_length, List.append_nil]; exact ho
      · rcases hown.2 with ⟨_, h0⟩ | ⟨g, cap, cur, rfl, hbg, hg, hnc, hcm, hcs, htk⟩
        · omega
        · by_cases hroom : es.length + 1 ≤ cap
          · refine (ins_shift w base g es.length cap m cur vs vs' g2 cap2 cur2 33 (by omega) hroom hcm hbg hg hcs htk hxl hl hg2 hnews (fun e => hne g2 rfl (by rw [e]; rfl)) h1x h1).mono fun ex w' ⟨he, ho, hgr⟩ => ?_
            refine ⟨_, .slice (some ⟨g, 0, none⟩) (es.length + 1) cap, _, he, hgr, .inl rfl, ?_, hkk, hcc, hrr, rfl⟩
            rw [hln, cells33]; exact ho
          · refine (ins_grow w base g es.length cap m cur vs vs' g2 cap2 cur2 33 (by omega) hnc (by omega) (by omega) hg hcs htk hxl hl hg2 hnews h1x h1 hB).mono fun ex w' ⟨G, he, ho, hgr⟩ => ?_
            refine ⟨_, _, _, he, hgr, .inr rfl, ?_, hkk, hcc, hrr, rfl⟩
            rw [hln, cells33]; exact ho
    · cases h
  · cases h
theorem mutOK : MutOK Try.prog := by
  intro f mu hl
  have hc : (f = 29 ∧ mu = ⟨33, true, false, insRun 33⟩) ∨ (f = 31 ∧ mu = ⟨9, false, false, sortSRun⟩) ∨ (f = 35 ∧ mu = ⟨3, false, false, sortRun⟩) ∨ (f = 36 ∧ mu = ⟨3, true, false, compRun⟩) := by
    simp only [Glob.muts, List.lookup] at hl
    split at hl
    · rename_i h; exact .inl ⟨by simpa using h, (Option.some.inj hl).symm⟩
    · split at hl
      · rename_i h; exact .inr (.inl ⟨by simpa using h, (Option.some.inj hl).symm⟩)
      · split at hl
        · rename_i h; exact .inr (.inr (.inl ⟨by simpa using h, (Option.some.inj hl).symm⟩))
        · split at hl
          · rename_i h; exact .inr (.inr (.inr ⟨by simpa using h, (Option.some.inj hl).symm⟩))
          · cases hl
  rcases hc with ⟨rfl, rfl⟩ | ⟨rfl, rfl⟩ | ⟨rfl, rfl⟩ | ⟨rfl, rfl⟩
  · exact ⟨by kernel_rfl, fun es xs es' h => ins_PFM es xs es' h⟩
  · exact ⟨by kernel_rfl, fun es xs es' h => sortS_PFM (e := 9) Try.lays190 (by kernel_rfl) es xs es' h⟩
  · exact ⟨by kernel_rfl, fun es xs es' h => sort_PFM (e := 3) Try.lays189 (by kernel_rfl) es xs es' h⟩
  · exact ⟨by kernel_rfl, fun es xs es' h => comp_PFM (e := 3) Try.lays20 (by kernel_rfl) es xs es' h⟩
end Go.Proofs.Ytlmbgmobghmmmaa
