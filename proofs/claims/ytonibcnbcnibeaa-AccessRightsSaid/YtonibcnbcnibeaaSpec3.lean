/-
  What the functions that the laws reach compute: equal lists, the chapter's examples.
-/
import Derived.Test.YtonibcnbcnibeaaSpec2
namespace Go.Proofs.Ytonibcnbcnibeaa
open Go.VM
theorem l10 (us : List User) (h : us.length ≤ 16) (hs : short us) : loopK O [0, 13, 14, 15] body10_1 [(0, .l (users us)), (13, .l (users us)), (14, .i .i64 us.length), (15, .i .i64 0)] =
    some (match (List.range us.length).find? (fun i => decide (cd us i ≠ 0)) with | some i => (.r, [(2, .i .i64 (cd us i))]) | none => (.e 0, [])) := by
  have := loopK_search (o := O) (kin := [0, 13, 14, 15]) (c := body10_1) (fun i => [(0, .l (users us)), (13, .l (users us)), (14, .i .i64 us.length), (15, .i .i64 i)]) us.length (fun i => decide (cd us i ≠ 0)) (fun i => (.r, [(2, .i .i64 (cd us i))])) (.e 0, []) (by simp) (fun i hi hst => ?_) (fun i hi hst => ?_) ?_ (by simp)
  · exact this
  · obtain ⟨g, h1, h2⟩ := b10 us h hs i hi
    simp at hst
    simpa [hst] using h1
  · obtain ⟨g, h1, h2⟩ := b10 us h hs i hi
    simp at hst
    exact ⟨g, by simpa [hst] using h1, by simpa using h2⟩
  · simp [body10_1]
theorem e10 (us : List User) (hl : us.length ≤ 40) (hs : short us) : O 10 [.l (users us)] = some (.i .i64 (chk us)) := by
  refine O_code (fc := code10) rfl ?_
  rw [bodyV_eq _ _ _ rfl (by rfl)]
  by_cases h : us.length < 1 ∨ 16 < us.length
  · have h' : (us.length : Int) < 1 ∨ (16 : Int) < (us.length : Int) := by omega
    have hc : chk us = 5 := by unfold chk; rw [if_pos h]
    simp [code10, hc, h']
  · have h' : ¬ ((us.length : Int) < 1 ∨ (16 : Int) < (us.length : Int)) := by omega
    have hc : chk us = match (List.range us.length).find? (fun i => decide (cd us i ≠ 0)) with
      | some i => cd us i
      | none => 0 := by unfold chk; rw [if_neg h]; rfl
    have hl := l10 us (by omega) hs
    rw [hc]
    cases hq : (List.range us.length).find? (fun i => decide (cd us i ≠ 0)) <;> rw [hq] at hl <;> simp [code10, exec_loopK, hl, h']
deriving instance DecidableEq for User
theorem l21 (us : List User) (h : us.length ≤ 40) : loopK O [0, 1, 5] body21_1 [(0, .l (users us)), (1, .l (users us)), (5, .i .i64 0)] = some (.e 0, []) := by
  have := loopK_search (o := O) (kin := [0, 1, 5]) (c := body21_1) (fun i => [(0, .l (users us)), (1, .l (users us)), (5, .i .i64 i)]) us.length (fun _ => false) (fun _ => (.e 0, [])) (.e 0, []) (by simp) (fun i hi hst => by simp at hst) (fun i hi hst => ?_) ?_ (by simp)
  · have hf : (List.range us.length).find? (fun _ => false) = none := by simp
    rw [hf] at this
    exact this
  · have hw := wrap_i64 (i + 1) (by omega)
    simp [body21_1, hi, hw]
  · simp [body21_1]
/-- A list is equal to itself. -/
theorem e21 (us : List User) (h : us.length ≤ 40) : O 21 [.l (users us), .l (users us)] = some (.b true) := by
  refine O_code (fc := code21) rfl ?_
  rw [bodyV_eq _ _ _ rfl (by rfl)]
  simp [code21, exec_loopK, l21 us h]
def two : List User := [⟨[97, 110, 110], 3, 100⟩, ⟨[98, 111, 98], 0, 0⟩]
def twoG : List User := [⟨[97, 110, 110], 7, 100⟩, ⟨[98, 111, 98], 0, 0⟩]
def twoW : List User := [⟨[97, 110, 110], 2, 100⟩, ⟨[98, 111, 98], 0, 0⟩]
theorem short_two : short two := fun i h => by
  match i, h with
  | 0, _ => simp [two]
  | 1, _ => simp [two]
@[simp] theorem users_flats (us : List User) : V.flats (users us) = true := (V.flats_iff _).2 fun x hx => by
  obtain ⟨u, _, rfl⟩ := List.mem_map.1 hx
  simp
theorem e12 : O 12 [] = some (.b true) := by
  refine O_code (fc := code12) rfl ?_
  rw [bodyV_eq _ _ _ rfl (by rfl)]
  have h1 : O 17 [.l (users two), .s [97, 110, 110], .i .i64 4] = some (.t [.ow 25 (users twoG), .i .i64 0]) := (e17 two [97, 110, 110] 4 (by decide)).trans (by kernel_rfl)
  have h2 : O 19 [.l (users twoG), .s [97, 110, 110], .i .i64 5] = some (.t [.ow 25 (users twoW), .i .i64 0]) := (e19 twoG [97, 110, 110] 5 (by decide)).trans (by kernel_rfl)
  have h3 : O 17 [.l (users two), .s [99, 97, 108], .i .i64 1] = some (.t [.ow 25 [], .i .i64 11]) := (e17 two [99, 97, 108] 1 (by decide)).trans (by kernel_rfl)
  have h4 : O 8 [.l (users twoW), .s [97, 110, 110]] = some (.t [.a [.s [97, 110, 110], .i .i64 2, .i .i64 100], .b true]) := (e8 twoW [97, 110, 110] (by decide)).trans (by kernel_rfl)
  have h5 : O 10 [.l (users two)] = some (.i .i64 0) := (e10 two (by decide) short_two).trans (by kernel_rfl)
  have h6 : O 10 [.l []] = some (.i .i64 5) := (e10 [] (by decide) (fun i h => by simp at h)).trans (by kernel_rfl)
  have h7 : O 14 [.l (users twoG), .s [97, 110, 110], .i .i64 7] = some (.b true) := (e14 twoG [97, 110, 110] 7 (by decide)).trans (by kernel_rfl)
  have h8 : O 14 [.l (users two), .s [97, 110, 110], .i .i64 3] = some (.b true) := (e14 two [97, 110, 110] 3 (by decide)).trans (by kernel_rfl)
  have h9 : O 14 [.l (users two), .s [97, 110, 110], .i .i64 5] = some (.b false) := (e14 two [97, 110, 110] 5 (by decide)).trans (by kernel_rfl)
  have h10 : O 14 [.l (users two), .s [98, 111, 98], .i .i64 1] = some (.b false) := (e14 two [98, 111, 98] 1 (by decide)).trans (by kernel_rfl)
  have h11 : O 13 [.l (users two), .s [97, 110, 110], .i .i64 1, .i .i64 100] = some (.b true) := (e13 two [97, 110, 110] 1 100 (by decide)).trans (by kernel_rfl)
  have h12 : O 13 [.l (users two), .s [97, 110, 110], .i .i64 1, .i .i64 101] = some (.b false) := (e13 two [97, 110, 110] 1 101 (by decide)).trans (by kernel_rfl)
  have h13 : O 13 [.l (users two), .s [97, 110, 110], .i .i64 1, .i .i64 (-1)] = some (.b false) := (e13 two [97, 110, 110] 1 (-1) (by decide)).trans (by kernel_rfl)
  have hu : users two = [V.a [.s [97, 110, 110], .i .i64 3, .i .i64 100], V.a [.s [98, 111, 98], .i .i64 0, .i .i64 0]] := rfl
  rw [hu] at h1 h3 h5 h8 h9 h10 h11 h12 h13
  simp [code12, h1, h2, h3, h4, h5, h6, h7, h8, h9, h10, h11, h12, h13]
end Go.Proofs.Ytonibcnbcnibeaa
