/-
  The functions that write into a slice of the call's own do what is said of them: slices.Insert behind the others, slices.Reverse, and, at the example's two legs, the program's collect and slices.DeleteFunc.
-/
import Derived.Test.YtdlpbedneamebaaGreatDoorCode
import Derived.Test.YtdlpbedneamebaaGreatDoorLaid
import Derived.Test.YtdlpbedneamebaaGreatDoorVmT
namespace Go.Proofs.YtdlpbedneamebaaGreatDoor
open Go.VM
@[reducible] def glob1 : Glob := ⟨[(0, pow10)], [(150, ⟨61, true, false, endRun 61, 0⟩)]⟩
-- 101: corebank/entry.collect
def body101_1 : C :=
 (.seq (.q [(12, (.op (.bin .lss) [(.sl 11), (.sl 10)]))])
 (.seq (.cond (.sl 12) .skip (.exit 0 [0]))
 (.seq (.blk 1 (.seq (.s [.ix 13 3 (.t 9) (.t 11), .q 14 (.ld 3 true) [(.t 13)], .alo 6 [(.i .i64 0), (.i .i64 0), (.s [])], .sto 3 (.t 6) (.t 14)] [13, 14])
 (.seq (.q [(7, (.op (.ext 0) [(.op (.call false 148) [(.sl 0), (.op (.ld 3 true) [(.sl 6)]), (.k (.f (.func 149) [] []))])])), (8, (.op (.ext 1) [(.op (.call false 148) [(.sl 0), (.op (.ld 3 true) [(.sl 6)]), (.k (.f (.func 149) [] []))])]))])
 (.seq (.q [(21, (.sl 8))])
 (.cond (.sl 21) (.d [.mv 22 (.t 0), .mv 23 (.t 7), .ix 24 3 (.t 22) (.t 23), .fa 25 1 1 (.t 24), .q 26 (.ld 1 false) [(.t 25)], .fa 27 1 1 (.t 6), .q 28 (.ld 1 false) [(.t 27)], .q 29 (.bin .add) [(.t 26), (.t 28)], .ix 30 3 (.t 22) (.t 23), .fa 31 1 1 (.t 30), .sto 1 (.t 31) (.t 29)] [[], [], [0, 1], [0, 1, 2], [0, 1, 2, 3], [], [5], [0, 1, 2, 3, 4, 5, 6], [0, 1, 2, 3, 4, 5, 6, 7], [0, 1, 2, 3, 4, 5, 6, 7, 8], [0, 1, 2, 3, 4, 5, 6, 7, 8, 9]] [22, 23, 24, 25, 26, 27, 28, 29, 30, 31]) (.s [.mv 32 (.t 0), .mv 33 (.t 7), .q 34 (.ld 3 true) [(.t 6)], .bsl 35 61 3 [(.t 34)], .callm (some 36) 150 (mutOf 150) (.t 32) [(.t 33), (.t 35)], .as 0 (.t 36)] [32, 33, 34, 35, 36]))))))
 (.q [(11, (.op (.bin .add) [(.sl 11), (.k (.i .i64 1))]))]))))
def code101 : FCode := ⟨2, [.tmp 4],
 (.seq (.s [.as 4 (.c (.ow 61 []))] [])
 (.seq (.seq (.s [.mv 9 (.t 1), .q 10 .len [(.t 9)], .mv 11 (.c (.i .i64 0))] [])
 (.blk 0 (.loop [0, 9, 10, 11] body101_1)))
 (.seq (.s [.mv 38 (.t 0), .as 4 (.t 38)] [38])
 (.ret [4]))))⟩
theorem comp101 : @compile Tryz.prog glob1 Tryz.f101 = some code101 := by kernel_rfl
-- 102: slices.DeleteFunc[[]corebank/api.Leg,corebank/api.Leg]
def body102_1 : C :=
 (.seq (.seq (.q [(19, (.op (.bin .lss) [(.sl 6), (.op .len [(.sl 0)])]))])
 (.cond (.sl 19) .skip (.exit 0 [0, 5])))
 (.seq (.blk 1 (.seq (.s [.mv 22 (.t 0), .mv 23 (.t 6), .ix 24 3 (.t 22) (.t 23), .q 25 (.ld 3 true) [(.t 24)], .alo 7 [(.i .i64 0), (.i .i64 0), (.s [])], .sto 3 (.t 7) (.t 25)] [22, 23, 24, 25])
 (.seq (.q [(29, (.op (.un .not) [(.op (.callv false) [(.sl 1), (.op (.ld 3 true) [(.sl 7)])])]))])
 (.cond (.sl 29) (.seq (.s [.mv 30 (.t 0), .mv 31 (.t 5), .q 32 (.ld 3 true) [(.t 7)], .ix 33 3 (.t 30) (.t 31), .sto 3 (.t 33) (.t 32)] [30, 31, 32, 33])
 (.q [(5, (.op (.bin .add) [(.sl 5), (.k (.i .i64 1))]))])) .skip))))
 (.q [(6, (.op (.bin .add) [(.sl 6), (.k (.i .i64 1))]))])))
def code102 : FCode := ⟨2, [.tmp 4],
 (.seq (.s [.as 4 (.c (.ow 61 []))] [])
 (.seq (.q [(5, (.op (.call false 151) [(.sl 0), (.sl 1)]))])
 (.seq (.seq (.q [(12, (.op (.bin .eql) [(.sl 5), (.k (.i .i64 (-1)))]))])
 (.cond (.sl 12) (.seq (.s [.mv 13 (.t 0), .as 4 (.t 13)] [13])
 (.ret [4])) .skip))
 (.seq (.seq (.q [(6, (.op (.bin .add) [(.sl 5), (.k (.i .i64 1))]))])
 (.blk 0 (.loop [0, 1, 5, 6] body102_1)))
 (.seq (.q [(0, (.op .mv []))])
 (.seq (.s [.mv 39 (.t 0), .mv 40 (.t 5), .slc 41 3 false true [(.t 39), (.t 40)], .as 4 (.t 41)] [39, 40, 41])
 (.ret [4])))))))⟩
theorem comp102 : @compile Tryz.prog glob1 Tryz.f102 = some code102 := by kernel_rfl
noncomputable def tabM : Nat → Option FCode := @tabP glob1 Tryz.prog []
noncomputable abbrev OM : Orc := den tabM fun _ _ => none
theorem mutOK1 : @MutOK glob1 Tryz.prog := by
  letI : Glob := glob1
  intro f mu hl
  have hc : f = 150 ∧ mu = ⟨61, true, false, endRun 61, 0⟩ := by
    simp only [Glob.muts, List.lookup] at hl
    split at hl
    · rename_i h; exact ⟨by simpa using h, (Option.some.inj hl).symm⟩
    · cases hl
  obtain ⟨rfl, rfl⟩ := hc
  exact ⟨by kernel_rfl, fun es xs es' h => (ins150_PFM es xs es' h).p⟩
theorem soundM : @SoundO glob1 Tryz.prog OM := by
  letI : Glob := glob1
  exact den_sound (fun f fc hf => tabP_ok (l := []) (fun p hp => by cases hp) hf) (fun f xs y h => by cases h) mutOK1
theorem run_own {tab : Nat → Option FCode} {ext : Orc} (n k : Nat) {c : C} {env : Env} {rs : List RV} {y : V} (h : retE rs (execN (Go.VM.runN tab ext k n) k c env) = some y) : retE rs (exec (den tab ext) c env) = some y := by
  unfold retE at h ⊢
  simp only [Option.bind_eq_some_iff] at h ⊢
  obtain ⟨p, h1, h2⟩ := h
  exact ⟨p, (pts_exec c env).mono (fun f xs y hy => runN_den n f xs y hy) (execN_exec _ k c env p h1), h2⟩
def two : List V := [.a [.i .i64 101, .i .i64 100000, .s [69, 85, 82]], .a [.i .i64 1000, .i .i64 (-100000), .s [69, 85, 82]]]
theorem isTwo_eq {ls : List V} (h : isTwo ls = true) : ls = two := by
  unfold isTwo at h
  split at h
  · simp only [decide_eq_true_eq] at h
    obtain ⟨rfl, rfl, rfl, rfl, rfl, rfl⟩ := h
    rfl
  · cases h
theorem two_flat : ∀ x ∈ flatc two, x.flat = true := by decide
theorem run101 : retE code101.res (exec OM code101.body (args0 0 (insAt 0 (.ow 61 []) [.l two]))) = some (.ow 61 two) := run_own 6 10 (by kernel_rfl)
theorem run102 : retE code102.res (exec OM code102.body (args0 0 (insAt 0 (.ow 61 two) [.f (.func 103) [] []]))) = some (.ow 61 two) := run_own 6 10 (by kernel_rfl)
theorem col_PFM (es xs es' : List V) (h : colRun es xs = some es') : PFMp Tryz.prog 101 0 61 true false es xs es' := by
  unfold colRun at h
  split at h
  · rename_i ls
    split at h
    · rename_i hls
      cases h
      rw [isTwo_eq hls]
      exact @mut_body glob1 Tryz.prog OM soundM 101 _ Tryz.func101 _ comp101 0 61 [] [.l two] two rfl rfl two_flat run101
    · cases h
  · cases h
theorem keep_PFM (es xs es' : List V) (h : keepRun 103 es xs = some es') : PFMp Tryz.prog 102 0 61 true false es xs es' := by
  unfold keepRun at h
  split at h
  · rename_i g
    split at h
    · rename_i hls
      cases h
      obtain ⟨rfl, hls⟩ := hls
      rw [isTwo_eq hls]
      exact @mut_body glob1 Tryz.prog OM soundM 102 _ Tryz.func102 _ comp102 0 61 two [.f (.func 103) [] []] two rfl rfl two_flat run102
    · cases h
  · cases h
theorem mutOK : MutOK Tryz.prog := by
  intro f mu hl
  have hc : (f = 97 ∧ mu = ⟨122, true, false, endRun 122, 0⟩) ∨ (f = 101 ∧ mu = ⟨61, true, false, colRun, 0⟩) ∨ (f = 102 ∧ mu = ⟨61, true, false, keepRun 103, 0⟩) ∨ (f = 150 ∧ mu = ⟨61, true, false, endRun 61, 0⟩) ∨ (f = 184 ∧ mu = ⟨3, false, false, revRun, 0⟩) := by
    simp only [Glob.muts, List.lookup] at hl
    split at hl
    · rename_i h; exact .inl ⟨by simpa using h, (Option.some.inj hl).symm⟩
    · split at hl
      · rename_i h; exact .inr (.inl ⟨by simpa using h, (Option.some.inj hl).symm⟩)
      · split at hl
        · rename_i h; exact .inr (.inr (.inl ⟨by simpa using h, (Option.some.inj hl).symm⟩))
        · split at hl
          · rename_i h; exact .inr (.inr (.inr (.inl ⟨by simpa using h, (Option.some.inj hl).symm⟩)))
          · split at hl
            · rename_i h; exact .inr (.inr (.inr (.inr ⟨by simpa using h, (Option.some.inj hl).symm⟩)))
            · cases hl
  rcases hc with ⟨rfl, rfl⟩ | ⟨rfl, rfl⟩ | ⟨rfl, rfl⟩ | ⟨rfl, rfl⟩ | ⟨rfl, rfl⟩
  · exact ⟨by kernel_rfl, fun es xs es' h => (ins97_PFM es xs es' h).p⟩
  · exact ⟨by kernel_rfl, fun es xs es' h => col_PFM es xs es' h⟩
  · exact ⟨by kernel_rfl, fun es xs es' h => keep_PFM es xs es' h⟩
  · exact ⟨by kernel_rfl, fun es xs es' h => (ins150_PFM es xs es' h).p⟩
  · exact ⟨by kernel_rfl, fun es xs es' h => (rev_PFM (e := 3) Tryz.lays112 (by kernel_rfl) es xs es' h).p⟩
end Go.Proofs.YtdlpbedneamebaaGreatDoor
