/-
  The laws on catalogs answer true for every input, and their arguments read as they did.
-/
import Derived.Test.YtlmbgmobghmmmaaRows
import Derived.Test.YtlmbgmobghmmmaaChecked
import Derived.Test.YtlmbgmobghmmmaaSpec3
import Derived.ProofKit
namespace Go.Proofs.Ytlmbgmobghmmmaa
open Go.ChangeShapes Go.WideShapes Go.ChangeAt Go.RowKit Go.VM

theorem sound : SoundO Try.prog O := by
  refine den_sound (fun f fc h => ?_) (fun f xs y h => ?_) mutOK
  · unfold tab2 at h
    split at h
    · cases h
    · exact codes_ok _ (tabOf_mem h)
  · unfold ext at h
    split at h
    · exact namesF_PF xs y h
    · exact cloneF_PF mutOK (t := 22) (tb := 4) (p1 := cp1) (p2 := #[]) (p3 := #[]) (p4 := cp4) (p5 := cp5) (zc := [.s [], .s [], .s [], .i .i64 0, .i .i64 0, .i .i64 0, .i .i64 0, .l [], .b false, .i .i64 0, .i .i64 0, .b false, .l [], .b false, .i .i64 0, .i .i64 0, .b false, .l [], .l []]) Try.func30 (by kernel_rfl) (by kernel_rfl) (by kernel_rfl) (by kernel_rfl) (by kernel_rfl) (by kernel_rfl) (by kernel_rfl) (by kernel_rfl) (by decide) xs y h
    · exact uniL_PF rfl xs y h
    · cases h
theorem light_len {l : List Product} (h : lightB l = true) : l.length ≤ 100 := by
  unfold lightB at h
  simp only [Bool.and_eq_true, Bool.not_eq_true', decide_eq_false_iff_not] at h
  omega
theorem e3 (l : List Product) (hl : l.length ≤ maxLen) : O 3 [.l (encL Product.v l)] = some (.b true) := by
  refine orun (fc := code3) rfl rfl rfl ?_
  have h9 := e9 l hl
  cases hb : lightB l <;> rw [hb] at h9
  · simp [code3, h9, live]
  · have h100 := light_len hb
    simp [code3, h9, live, e10 l (by omega), e11 l (by omega)]
set_option maxRecDepth 100000 in
theorem arg22 {ys : List V} (h : Fit Try.prog 12 22 ys) : ∃ l : List Product, ys = [.l (encL Product.v l)] ∧ l.length ≤ maxLen ∧ ∀ y ∈ l, y.ok := fitS22 (n := 6) h
set_option maxRecDepth 100000 in
theorem pf3 (xs : List V) (h : FitAll Try.prog [22] xs) : PF Try.prog 3 xs (.b true) := by
  obtain ⟨y1, r1, rfl, h1, rfl⟩ := h
  obtain ⟨l, rfl, hl, _⟩ := arg22 h1
  rw [pack22]
  exact (sound.2 3 _ _ (e3 l hl)).2
theorem own : ownKnob Try.prog.godebug = none := by kernel_rfl
theorem laidOut : laidOutB Try.prog = true := by kernel_rfl
set_option maxRecDepth 100000 in
theorem catalogChecks_lifted (os : Os) (started : os.Started) (H : Type) (enc : TypeId × Value → H) :
    ReturnsInHanded {} Try.checked os 3 .any (Rows.catalogChecksSpec.pre6 enc Try.prog Try.f3 Rows.catalogChecksRow.domain false) (Rows.catalogChecksSpec.post enc Try.prog Try.f3 false true false false) := by
  refine returnsInHanded_of_change (C := Try.checked) own started (by kernel_rfl) Try.func3
    (ChangeSpec.witness6 (enc := enc) (C := Try.checked) false ⟨#[], #[.slice none 0 0], []⟩ 8 (by kernel_rfl) (by kernel_rfl) (by kernel_rfl) (by kernel_rfl)) ?_
  intro W base args ds gs before hval hW _ _
  refine calls_trueR (P := Try.prog) laidOut ?_ ?_ (tb := 4) rfl Try.underlying4 rfl ?_ ?_ hval hW (fun _ h => by cases h)
  · rw [Try.params3]; simp only [List.mem_cons, List.not_mem_nil, or_false, forall_eq]
    exact ⟨by kernel_rfl, by decide +kernel⟩
  · rw [Try.params3]; simp only [List.mem_cons, List.not_mem_nil, or_false, forall_eq]
    kernel_rfl
  · rw [Try.params3]
    intro ds hd
    match ds, hd with
    | [d1], _ => rfl
  · rw [Try.params3]; exact pf3
theorem catalogChecks_holds : Rows.CatalogChecksSaid :=
  OpenClaim.holds_of_wide 3 Try.f3 rfl rfl rfl rfl rfl rfl rfl ⟨rfl, rfl, rfl, rfl, rfl⟩ rfl rfl rfl rfl rfl (by kernel_rfl) Try.func3 (by kernel_rfl)
    (of_decide_eq_true (by kernel_rfl)) (by unfold Func.isWrapper; first | (rw [if_pos (by decide +kernel)]; kernel_rfl) | (rw [if_neg (by decide +kernel)]; exact ⟨rfl, rfl⟩))
    (fun os started H enc _ => catalogChecks_lifted os started H enc)
#print axioms catalogChecks_holds
end Go.Proofs.Ytlmbgmobghmmmaa
