/-
  The walk over a chart: it adds the accounts to the collector in their order.
-/
import Derived.Test.YtdaclkakglmfeaaAdd
import Derived.Test.YtdaclkakglmfeaaSpec2
namespace Go.Proofs.Ytdaclkakglmfeaa
open Go.VM Go.RowKit
noncomputable abbrev O0 : Orc := O fun _ _ => none
theorem sound0' : SoundO Try.prog O0 := den_sound (fun f fc h => codes_ok _ (tabOf_mem h)) (fun f xs y h => by cases h) mutOK
-- 35: corebank/chart.walk
def w35_1 : C := (.s [.mv 10 (.t 0), .q 11 .len [(.t 10)], .mv 12 (.c (.i .i64 0))] [])
def w35_2 : C := (.q [(13, (.op (.bin .lss) [(.sl 12), (.sl 11)]))])
def w35_3 : C := (.cond (.sl 13) .skip (.exit 0 []))
def w35_4 : C := (.s [.mv 14 (.t 12), .ix 15 4 (.t 10) (.t 12), .q 16 (.ld 4 true) [(.t 15)], .alo 7 [(.i .i64 0), (.i .i64 0), (.i .i64 0), (.s [])], .as 6 (.t 14), .sto 4 (.t 7) (.t 16)] [14, 15, 16])
def w35_5 : C := (.seq (.d [.mv 18 (.t 0), .mv 19 (.t 6), .slc 20 4 false true [(.t 18), (.t 19)], .fa 21 0 1 (.t 7), .q 22 (.ld 1 false) [(.t 21)], .call (some 23) 12 [(.t 20), (.t 22)], .mv 17 (.t 23), .ext 24 0 17, .ext 25 1 17, .alo 8 [(.i .i64 0), (.i .i64 0), (.i .i64 0), (.s [])], .sto 4 (.t 8) (.t 24), .as 9 (.t 25)] [[], [], [0, 1], [], [3], [2, 4], [5], [6], [6], [], [9, 7, 5, 0, 1, 2, 3, 4, 5, 6, 7, 9], [8, 10, 0, 1, 2, 3, 4, 5, 6, 7, 8, 9, 10]] [18, 19, 20, 21, 22, 23, 17, 24, 25, 8])
 (.seq (.q [(32, (.ite (.op (.bin .neq) [(.op (.ld 1 false) [(.op (.fa 1 1) [(.sl 7)])]), (.sl 1)]) (.k (.b true)) (.sl 9)))])
 (.cond (.sl 32) (.exit 1 [0, 1, 2, 10, 11, 12]) .skip)))
def g35_1 : EG := ⟨[.mv 33 (.t 2), .fa 34 0 1 (.t 7), .q 35 (.ld 1 false) [(.t 34)]], some 36, none, [.t 33, .t 35], [33, 34, 35, 36]⟩
def w35_6 : C := (.q [(39, (.op (.bin .neq) [(.op (.ld 1 false) [(.op (.fa 0 1) [(.sl 7)])]), (.k (.i .i64 0))]))])
def g35_2 : EG := ⟨[.mv 40 (.t 0), .fa 41 0 1 (.t 7), .q 42 (.ld 1 false) [(.t 41)], .mv 43 (.t 2)], some 44, some 35, [.t 40, .t 42, .t 43], [40, 41, 42, 43, 44]⟩
def w35_7 : C := (.q [(12, (.op (.bin .add) [(.sl 12), (.k (.i .i64 1))]))])
abbrev bodyW : NE := .seq (.c w35_2) (.seq (.c w35_3) (.seq (.blk 1 (.seq (.c w35_4) (.seq (.c w35_5) (.seq (.eff g35_1) (.seq (.c w35_6) (.cond (.sl 39) (.eff g35_2) (.c .skip))))))) (.c w35_7)))
abbrev kW : List Nat := [0, 1, 2, 10, 11, 12]
def code35 : ECode := ⟨3, [], .seq (.c w35_1) (.blk 0 (.loop kW bodyW))⟩
theorem comp35 : compileE Try.prog (.seq .c (.blk (.loop (.seq .c (.seq .c (.seq (.blk (.seq .c (.seq .c (.seq .eff (.seq .c (.cond .eff .c)))))) .c)))))) Try.f35 = some code35 := by kernel_rfl
theorem okf35 : okFn Try.prog 35 = true := by kernel_rfl
theorem okf36 : okFn Try.prog 36 = true := by kernel_rfl
section
variable (l : List Gl) (p : Int) (g : Nat)
abbrev EW (i : Nat) : Env := [(0, .l (encG l)), (1, .i .i64 p), (2, .f (.func 36) [.pt g] []), (10, .l (encG l)), (11, .i .i64 l.length), (12, .i .i64 i)]
abbrev EX (x : Gl) (i : Nat) : Env := [(0, .l (encG l)), (1, .i .i64 p), (2, .f (.func 36) [.pt g] []), (6, .i .i64 i), (7, .bx x.cells), (10, .l (encG l)), (11, .i .i64 l.length), (12, .i .i64 i), (13, .b true)]
theorem y1 : exec O0 w35_1 [(0, .l (encG l)), (1, .i .i64 p), (2, .f (.func 36) [.pt g] [])] = some (.n, EW l p g 0) := by simp [w35_1]
theorem y2 {i : Nat} (h : i < l.length) : exec O0 w35_2 (EW l p g i) = some (.n, EW l p g i ++ [(13, .b true)]) := by simp [w35_2, h]
theorem y2e : exec O0 w35_2 (EW l p g l.length) = some (.n, EW l p g l.length ++ [(13, .b false)]) := by simp [w35_2]
theorem y3 (i : Nat) : exec O0 w35_3 (EW l p g i ++ [(13, .b true)]) = some (.n, EW l p g i ++ [(13, .b true)]) := by simp [w35_3]
theorem y3e (i : Nat) : exec O0 w35_3 (EW l p g i ++ [(13, .b false)]) = some (.e 0, []) := by simp [w35_3]
theorem y4 {i : Nat} (h : i < l.length) : exec O0 w35_4 (EW l p g i ++ [(13, .b true)]) = some (.n, EX l p g l[i] i) := by simp [w35_4, h]
theorem y7 {i : Nat} (h : i ≤ 1000) : exec O0 w35_7 (EW l p g i) = some (.n, EW l p g (i + 1)) := by
  have hw := wrap_i64 (i + 1) (by omega)
  simp [w35_7, hw]
set_option maxHeartbeats 4000000 in
theorem y5a {i : Nat} (h : i < l.length) (hl : l.length ≤ 1000) (hc : ¬ (l[i].parent = p ∧ firstG l i = true)) : exec O0 w35_5 (EX l p g l[i] i) = some (.e 1, EW l p g i) := by
  have hs := slc_G (X := fun _ _ => none) l i (by omega)
  have h1 := e12 (X := fun _ _ => none) (l.take i) l[i].id (by rw [List.length_take]; omega)
  have hF : firstG l i = (findG (l.take i) l[i].id).isNone := by unfold firstG; rw [List.getElem?_eq_getElem h]
  rw [hF] at hc
  generalize l.take i = m at hs h1 hc
  generalize l[i] = x at h1 hc
  cases hg : findG m x.id <;> rw [hg] at h1 hc
  · simp [gV, g0] at h1
    have hc' : ¬ x.parent = p := fun e => hc ⟨e, rfl⟩
    simp (config := { maxSteps := 1000000 }) [w35_5, hs, h1, hc']
  · simp [gV] at h1
    by_cases hp : x.parent = p <;> simp (config := { maxSteps := 1000000 }) [w35_5, hs, h1, hp]
set_option maxHeartbeats 4000000 in
theorem y5b {i : Nat} (h : i < l.length) (hl : l.length ≤ 1000) (c1 : l[i].parent = p) (c2 : firstG l i = true) : exec O0 w35_5 (EX l p g l[i] i) = some (.n, [(0, .l (encG l)), (1, .i .i64 p), (2, .f (.func 36) [.pt g] []), (6, .i .i64 i), (7, .bx l[i].cells), (9, .b false), (10, .l (encG l)), (11, .i .i64 l.length), (12, .i .i64 i), (13, .b true), (32, .b false)]) := by
  have hs := slc_G (X := fun _ _ => none) l i (by omega)
  have h1 := e12 (X := fun _ _ => none) (l.take i) l[i].id (by rw [List.length_take]; omega)
  have hF : firstG l i = (findG (l.take i) l[i].id).isNone := by unfold firstG; rw [List.getElem?_eq_getElem h]
  rw [hF, Option.isNone_iff_eq_none] at c2
  rw [c2] at h1
  generalize l.take i = m at hs h1
  generalize l[i] = x at h1 c1
  simp [gV, g0] at h1
  simp (config := { maxSteps := 1000000 }) [w35_5, hs, h1, c1]
/-- Behind the first call. -/
abbrev EY (x : Gl) (i : Nat) : Env := [(0, .l (encG l)), (1, .i .i64 p), (2, .f (.func 36) [.pt g] []), (6, .i .i64 i), (7, .r x.cells), (9, .b false), (10, .l (encG l)), (11, .i .i64 l.length), (12, .i .i64 i), (13, .b true), (32, .b false)]
theorem y6 (x : Gl) (i : Nat) : exec O0 w35_6 (EY l p g x i) = some (.n, EY l p g x i ++ [(39, .b (!decide (x.id = 0)))]) := by simp [w35_6]
theorem eff1 (x : Gl) (i : Nat) (s : List Int) (hs : s.length < 1000000) (K : Ex → Env → List Int → Prop) (hK : K .n (EY l p g x i) (s ++ [x.id])) : WE (colR g) Try.prog O0 (.eff g35_1) [(0, .l (encG l)), (1, .i .i64 p), (2, .f (.func 36) [.pt g] []), (6, .i .i64 i), (7, .bx x.cells), (9, .b false), (10, .l (encG l)), (11, .i .i64 l.length), (12, .i .i64 i), (13, .b true), (32, .b false)] s K := by
  refine ⟨[(0, .l (encG l)), (1, .i .i64 p), (2, .f (.func 36) [.pt g] []), (6, .i .i64 i), (7, .bx x.cells), (9, .b false), (10, .l (encG l)), (11, .i .i64 l.length), (12, .i .i64 i), (13, .b true), (32, .b false), (33, .f (.func 36) [.pt g] []), (34, .pb 7 0 1), (35, .i .i64 x.id)], ?_, ?_, [.f (.func 36) [.pt g] [], .i .i64 x.id], 36, [.pt g, .i .i64 x.id], .t [], s ++ [x.id], ?_, rfl, okf36, rfl, add_PFE g x.id s hs, ?_⟩
  · simp [g35_1]
  · simp [frzAll, bare]
  · simp [frzAll, g35_1]
  · have : dropE g35_1.ks (putO g35_1.d (.t []) (frzAll [(0, .l (encG l)), (1, .i .i64 p), (2, .f (.func 36) [.pt g] []), (6, .i .i64 i), (7, .bx x.cells), (9, .b false), (10, .l (encG l)), (11, .i .i64 l.length), (12, .i .i64 i), (13, .b true), (32, .b false), (33, .f (.func 36) [.pt g] []), (34, .pb 7 0 1), (35, .i .i64 x.id)])) = EY l p g x i := by simp [frzAll, g35_1]
    rw [this]; exact hK
end
end Go.Proofs.Ytdaclkakglmfeaa
