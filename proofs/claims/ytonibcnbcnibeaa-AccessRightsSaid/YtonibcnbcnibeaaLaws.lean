/-
  The laws, over what the functions compute.
-/
import Derived.Test.YtonibcnbcnibeaaSpec3
namespace Go.Proofs.Ytonibcnbcnibeaa
open Go.VM
theorem not_great {us : List User} (h : great us = false) : us.length ≤ 40 ∧ short us := by
  simp only [great, Bool.or_eq_false_iff, decide_eq_false_iff_not, Option.isSome_eq_false_iff, Option.isNone_iff_eq_none, List.find?_eq_none, List.mem_range] at h
  refine ⟨by omega, fun i hi => ?_⟩
  have := h.2 i hi
  simp [long, hi] at this
  exact this
theorem e3 (us : List User) (name : List UInt8) (hl : us.length ≤ 9223372036854775807) : O 3 [.l (users us), .s name] = some (.b true) := by
  refine O_code (fc := code3) rfl ?_
  rw [bodyV_eq _ _ _ rfl (by rfl)]
  cases hg : great us with
  | true => simp [code3, e7 us hl, hg]
  | false =>
    obtain ⟨h1, h2⟩ := not_great hg
    simp [code3, e7 us hl, hg, e8 us name h1, e9 us name h1, gotV, e10 us h1 h2, e11 us h1 h2, e12]

theorem sound : SoundO Try.prog O := by
  refine den_sound (fun f fc h => ?_) (fun f xs y h => ?_)
  · unfold tab at h
    split at h <;> first
      | (cases h; done)
      | (cases h; exact ⟨_, Try.func3, comp3, okf3⟩) | (cases h; exact ⟨_, Try.func4, comp4, okf4⟩) | (cases h; exact ⟨_, Try.func5, comp5, okf5⟩) | (cases h; exact ⟨_, Try.func6, comp6, okf6⟩)
      | (cases h; exact ⟨_, Try.func7, comp7, okf7⟩) | (cases h; exact ⟨_, Try.func8, comp8, okf8⟩) | (cases h; exact ⟨_, Try.func9, comp9, okf9⟩) | (cases h; exact ⟨_, Try.func10, comp10, okf10⟩)
      | (cases h; exact ⟨_, Try.func11, comp11, okf11⟩) | (cases h; exact ⟨_, Try.func12, comp12, okf12⟩) | (cases h; exact ⟨_, Try.func13, comp13, okf13⟩) | (cases h; exact ⟨_, Try.func14, comp14, okf14⟩)
      | (cases h; exact ⟨_, Try.func15, comp15, okf15⟩) | (cases h; exact ⟨_, Try.func16, comp16, okf16⟩) | (cases h; exact ⟨_, Try.func17, comp17, okf17⟩) | (cases h; exact ⟨_, Try.func18, comp18, okf18⟩)
      | (cases h; exact ⟨_, Try.func19, comp19, okf19⟩) | (cases h; exact ⟨_, Try.func20, comp20, okf20⟩) | (cases h; exact ⟨_, Try.func21, comp21, okf21⟩) | (cases h; exact ⟨_, Try.func22, comp22, okf22⟩)
      | (cases h; exact ⟨_, Try.func23, comp23, okf23⟩) | (cases h; exact ⟨_, Try.func24, comp24, okf24⟩) | (cases h; exact ⟨_, Try.func25, comp25, okf25⟩) | (cases h; exact ⟨_, Try.func26, comp26, okf26⟩)
      | (cases h; exact ⟨_, Try.func27, comp27, okf27⟩) | (cases h; exact ⟨_, Try.func28, comp28, okf28⟩) | (cases h; exact ⟨_, Try.func29, comp29, okf29⟩) | (cases h; exact ⟨_, Try.func30, comp30, okf30⟩)
      | (cases h; exact ⟨_, Try.func31, comp31, okf31⟩) | (cases h; exact ⟨_, Try.func32, comp32, okf32⟩) | (cases h; exact ⟨_, Try.func33, comp33, okf33⟩)
  · unfold ext at h
    split at h
    · rename_i es
      split at h
      · rename_i hc
        cases h
        refine ⟨by kernel_rfl, clone_PF (t := 22) (tb := 4) (e := 25) (k := 3) (b := 32) (p1 := #[⟨0, .data⟩]) (p2 := #[]) (p3 := #[]) (p4 := #[⟨0, .data⟩, ⟨1, .data⟩]) (p5 := #[⟨2, .data⟩, ⟨2, .chain⟩, ⟨0, .phase⟩, ⟨1, .phase⟩, ⟨2, .phase⟩]) Try.func34 (by kernel_rfl) (by kernel_rfl) (by kernel_rfl) (by kernel_rfl) (by kernel_rfl) (by kernel_rfl) (zc := [.s [], .i .i64 0, .i .i64 0]) (by kernel_rfl) (by decide) (fun x hx => by simpa using List.all_eq_true.1 hc.1 x hx) hc.2⟩
      · cases h
    · cases h

theorem fit_string {P : Program} {n : Nat} {t : TypeId} {ys : List V} (hu : P.underlying t = some .string) (h : Fit P (n + 1) t ys) : ∃ s, ys = [.s s] ∧ s.length ≤ maxLen := by
  unfold Fit at h; rw [hu] at h; exact h
theorem fit_int {P : Program} {n : Nat} {t : TypeId} {ys : List V} {k : IntKind} (hu : P.underlying t = some (.int k)) (h : Fit P (n + 1) t ys) : ∃ m, ys = [.i k m] ∧ (Lit.int k m).wf = true := by
  unfold Fit at h; rw [hu] at h; exact h
theorem fit_slice {P : Program} {n : Nat} {t e : TypeId} {ys : List V} (hu : P.underlying t = some (.slice e)) (h : Fit P (n + 1) t ys) : ∃ es : List V, ys = [.l es] ∧ es.length ≤ maxLen ∧ ∀ y ∈ es, ∃ ys, Fit P n e ys ∧ y = (if isAggB P e then .a ys else ys.headD .ud) := by
  unfold Fit at h; rw [hu] at h; exact h
theorem map_of {α : Type} {f : α → V} : ∀ {es : List V}, (∀ y ∈ es, ∃ u, y = f u) → ∃ us : List α, es = us.map f
  | [], _ => ⟨[], rfl⟩
  | y :: es, h => by
    obtain ⟨u, rfl⟩ := h y (List.mem_cons_self ..)
    obtain ⟨us, rfl⟩ := map_of fun z hz => h z (List.mem_cons_of_mem _ hz)
    exact ⟨u :: us, rfl⟩
theorem fit_user {n : Nat} {ys : List V} (h : Fit Try.prog (n + 2) 25 ys) : ∃ u : User, ys = [.s u.name, .i .i64 u.rights, .i .i64 u.limit] := by
  unfold Fit at h
  rw [Try.underlying25] at h
  simp only [List.foldr_cons, List.foldr_nil] at h
  obtain ⟨a, b, rfl, h1, c, d, rfl, h2, e, f, rfl, h3, rfl⟩ := h
  obtain ⟨s, rfl, _⟩ := fit_string Try.underlying9 h1
  obtain ⟨m, rfl, _⟩ := fit_int Try.underlying3 h2
  obtain ⟨k, rfl, _⟩ := fit_int Try.underlying3 h3
  exact ⟨⟨s, m, k⟩, rfl⟩
theorem fit_users {n : Nat} {ys : List V} (h : Fit Try.prog (n + 3) 22 ys) : ∃ us : List User, ys = [.l (users us)] ∧ us.length ≤ maxLen := by
  obtain ⟨es, rfl, hl, he⟩ := fit_slice Try.underlying22 h
  obtain ⟨us, rfl⟩ := map_of (f := User.v) (es := es) fun y hy => by
    obtain ⟨zs, hz, rfl⟩ := he y hy
    obtain ⟨u, rfl⟩ := fit_user hz
    exact ⟨u, by rw [if_pos (by kernel_rfl)]; rfl⟩
  exact ⟨us, rfl, by simpa using hl⟩
theorem pf3 (xs : List V) (h : FitAll Try.prog [22, 9] xs) : PF Try.prog 3 xs (.b true) := by
  obtain ⟨ys, r, rfl, h1, zs, q, rfl, h2, rfl⟩ := h
  obtain ⟨us, rfl, hl⟩ := fit_users h1
  obtain ⟨s, rfl, _⟩ := fit_string Try.underlying9 h2
  have e1 : packT Try.prog 22 [.l (users us)] = .l (users us) := by
    have : isAggB Try.prog 22 = false := by kernel_rfl
    unfold packT; rw [this]; rfl
  have e2 : packT Try.prog 9 [.s s] = .s s := by
    have : isAggB Try.prog 9 = false := by kernel_rfl
    unfold packT; rw [this]; rfl
  rw [e1, e2]
  exact (sound 3 _ _ (e3 us s (by simpa [maxLen] using hl))).2
end Go.Proofs.Ytonibcnbcnibeaa
