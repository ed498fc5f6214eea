/-
  Valid, with its two sets.
-/
import Derived.Test.YtmhpmghhgppdnaaEq3
import Derived.Test.YtmhpmghhgppdnaaMat
namespace Go.Proofs.Ytmhpmghhgppdnaa
open Go.VM Go.RowKit
def dgS : List GSt := GSt.s (.fa 19 0 1 (.t 10)) :: GSt.s (.q 20 (.ld 1 false) [(.t 19)]) :: GSt.s (.q 21 (.bin .lss) [(.t 20), (.c (.i .i64 0))]) :: GSt.s (.mv 22 (.t 21)) :: GSt.gd 22 false (some 23) (.fa 23 0 1 (.t 10)) :: GSt.gd 22 false (some 24) (.q 24 (.ld 1 false) [(.t 23)]) :: GSt.gd 22 false (some 25) (.mv 25 (.t 0)) :: GSt.gd 22 false (some 26) (.q 26 .len [(.t 25)]) :: GSt.gd 22 false (some 27) (.q 27 (.bin .geq) [(.t 24), (.t 26)]) :: GSt.pick 28 22 (.c (.b true)) (.t 27) :: GSt.s (.mv 29 (.t 28)) :: GSt.gd 29 false (some 30) (.fa 30 1 1 (.t 10)) :: GSt.gd 29 false (some 31) (.q 31 (.ld 1 false) [(.t 30)]) :: GSt.gd 29 false (some 32) (.q 32 (.bin .lss) [(.t 31), (.c (.i .i64 0))]) :: GSt.pick 33 29 (.c (.b true)) (.t 32) :: GSt.s (.mv 34 (.t 33)) :: GSt.gd 34 false (some 35) (.fa 35 1 1 (.t 10)) :: GSt.gd 34 false (some 36) (.q 36 (.ld 1 false) [(.t 35)]) :: GSt.gd 34 false (some 37) (.mv 37 (.t 1)) :: GSt.gd 34 false (some 38) (.q 38 .len [(.t 37)]) :: GSt.gd 34 false (some 39) (.q 39 (.bin .geq) [(.t 36), (.t 38)]) :: GSt.pick 40 34 (.c (.b true)) (.t 39) :: GSt.s (.mv 41 (.t 40)) :: GSt.gd 41 false (some 42) (.mv 42 (.t 7)) :: GSt.gd 41 false (some 43) (.fa 43 0 1 (.t 10)) :: GSt.gd 41 false (some 44) (.q 44 (.ld 1 false) [(.t 43)]) :: GSt.gd 41 false (some 45) (.mget 45 2 (.b false) (.t 42) (.t 44)) :: GSt.pick 46 41 (.c (.b true)) (.t 45) :: GSt.s (.mv 47 (.t 46)) :: GSt.gd 47 false (some 48) (.mv 48 (.t 8)) :: GSt.gd 47 false (some 49) (.fa 49 1 1 (.t 10)) :: GSt.gd 47 false (some 50) (.q 50 (.ld 1 false) [(.t 49)]) :: GSt.gd 47 false (some 51) (.mget 51 2 (.b false) (.t 48) (.t 50)) :: GSt.pick 52 47 (.c (.b true)) (.t 51) :: GSt.s (.mv 53 (.t 52)) :: GSt.gd 53 false (some 54) (.mv 54 (.t 0)) :: GSt.gd 53 false (some 55) (.fa 55 0 1 (.t 10)) :: GSt.gd 53 false (some 56) (.q 56 (.ld 1 false) [(.t 55)]) :: GSt.gd 53 false (some 57) (.ix 57 3 (.t 54) (.t 56)) :: GSt.gd 53 false (some 58) (.fa 58 2 1 (.t 57)) :: GSt.gd 53 false (some 59) (.q 59 (.ld 1 false) [(.t 58)]) :: GSt.gd 53 false (some 60) (.mv 60 (.t 1)) :: GSt.gd 53 false (some 61) (.fa 61 1 1 (.t 10)) :: GSt.gd 53 false (some 62) (.q 62 (.ld 1 false) [(.t 61)]) :: GSt.gd 53 false (some 63) (.ix 63 3 (.t 60) (.t 62)) :: GSt.gd 53 false (some 64) (.fa 64 2 1 (.t 63)) :: GSt.gd 53 false (some 65) (.q 65 (.ld 1 false) [(.t 64)]) :: GSt.gd 53 false (some 66) (.q 66 (.bin .neq) [(.t 59), (.t 65)]) :: GSt.pick 67 53 (.c (.b true)) (.t 66) :: []
def dgA : List (List Nat) := [[], [0], [1], [2], [3], [4, 3], [3], [6, 3], [5, 7, 3], [3, 8], [9, 3], [10], [11, 10], [12, 10], [10, 13], [14, 10], [15], [16, 15], [15], [18, 15], [17, 19, 15], [15, 20], [21, 15], [22], [22], [24, 22], [23, 25, 22], [22, 26], [27, 22], [28], [28], [30, 28], [29, 31, 28], [28, 32], [33, 28], [34], [34], [36, 34], [35, 37, 34], [38, 34], [39, 34], [34], [34], [42, 34], [41, 43, 34], [44, 34], [45, 34], [40, 46, 34], [34, 47]]
def dS : List St := [.mv 68 (.t 7), .fa 69 0 1 (.t 10), .q 70 (.ld 1 false) [(.t 69)], .mv 71 (.t 8), .fa 72 1 1 (.t 10), .q 73 (.ld 1 false) [(.t 72)], .mset 2 (.t 68) (.t 70) (.c (.b true)), .mset 2 (.t 71) (.t 73) (.c (.b true))]
def dA : List (List Nat) := [[], [], [1], [], [], [4], [0, 2, 0, 1, 2], [3, 5, 6, 0, 1, 2, 3, 4, 5, 6]]
def body15_n : C :=
 (.seq (.q [(16, (.op (.bin .lss) [(.sl 15), (.sl 14)]))])
 (.seq (.cond (.sl 16) .skip (.exit 0 []))
 (.seq (.blk 1 (.seq (.s [.ix 17 3 (.t 13) (.t 15), .q 18 (.ld 3 true) [(.t 17)], .alo 10 [(.i .i64 0), (.i .i64 0), (.i .i64 0)], .sto 3 (.t 10) (.t 18)] [17, 18])
 (.seq (.seq (.dg dgS dgA [19, 20, 21, 22, 23, 24, 25, 26, 27, 28, 29, 30, 31, 32, 33, 34, 35, 36, 37, 38, 39, 40, 41, 42, 43, 44, 45, 46, 47, 48, 49, 50, 51, 52, 53, 54, 55, 56, 57, 58, 59, 60, 61, 62, 63, 64, 65, 66])
 (.cond (.sl 67) (.seq (.q [(6, (.k (.b false)))])
 (.ret [6])) .skip))
 (.d dS dA [68, 69, 70, 71, 72, 73]))))
 (.q [(15, (.op (.bin .add) [(.sl 15), (.k (.i .i64 1))]))]))))
theorem body15_eq : body15_1 = body15_n := rfl
theorem runFG_step {o : Orc} {s : GSt} {r : List GSt} {env e E : Env} {f : List Nat × List Nat} {F : List (List Nat × List Nat)} (h1 : VM.stepG o env s = some e) (h2 : footG o env s = some f) (h3 : recB env e f = true) (h4 : runFG o r e = some (E, F)) : runFG o (s :: r) env = some (E, f :: F) := by
  simp only [runFG, h1, h2, h3, h4, Option.bind_some, if_true]
theorem drawG_of {o : Orc} {ss : List GSt} {af : List (List Nat)} {env E : Env} {F : List (List Nat × List Nat)} (h : runFG o ss env = some (E, F)) (hi : indep 0 af F = true) : drawG o ss af env = some E := by
  simp only [drawG, h, hi, Option.bind_some, if_true]
abbrev EG (a b : List Item) (l : List Tri) (A B : List Int) (i : Nat) (x1 x2 x3 : Int) : Env := [(0, .l (items a)), (1, .l (items b)), (7, .mp (ints A) (trues A)), (8, .mp (ints B) (trues B)), (10, .bx [.i .i64 x1, .i .i64 x2, .i .i64 x3]), (13, .l (tris l)), (14, .i .i64 l.length), (15, .i .i64 i), (16, .b true)]
abbrev EGb (a b : List Item) (l : List Tri) (A B : List Int) (i : Nat) (x1 x2 x3 : Int) (c : Bool) : Env := EG a b l A B i x1 x2 x3 ++ [(67, .b c)]
def D15 (X : Orc) (env env' : Env) : Prop := ∃ env1, drawG (O X) dgS dgA env = some env1 ∧ dropE [19, 20, 21, 22, 23, 24, 25, 26, 27, 28, 29, 30, 31, 32, 33, 34, 35, 36, 37, 38, 39, 40, 41, 42, 43, 44, 45, 46, 47, 48, 49, 50, 51, 52, 53, 54, 55, 56, 57, 58, 59, 60, 61, 62, 63, 64, 65, 66] env1 = env'
/-- A run, with what each step touched. -/
def RunK (o : Orc) (ss : List GSt) (env : Env) (acc : List (List Nat × List Nat)) (P : Env → List (List Nat × List Nat) → Prop) : Prop := ∃ E F, runFG o ss env = some (E, F) ∧ P E (acc ++ F)
theorem RunK.step {o : Orc} {s : GSt} {r : List GSt} {env e : Env} {f : List Nat × List Nat} {acc : List (List Nat × List Nat)} {P : Env → List (List Nat × List Nat) → Prop} (h1 : VM.stepG o env s = some e) (h2 : footG o env s = some f) (h3 : recB env e f = true) (h4 : RunK o r e (acc ++ [f]) P) : RunK o (s :: r) env acc P := by
  obtain ⟨E, F, h, hP⟩ := h4
  refine ⟨E, f :: F, runFG_step h1 h2 h3 h, ?_⟩
  rwa [List.append_assoc, List.singleton_append] at hP
theorem RunK.done {o : Orc} {env : Env} {acc : List (List Nat × List Nat)} {P : Env → List (List Nat × List Nat) → Prop} (h : P env acc) : RunK o [] env acc P := ⟨env, [], rfl, by rwa [List.append_nil]⟩
theorem D15_of {X : Orc} {env env' : Env} (h : RunK (O X) dgS env [] fun E F => indep 0 dgA F = true ∧ dropE [19, 20, 21, 22, 23, 24, 25, 26, 27, 28, 29, 30, 31, 32, 33, 34, 35, 36, 37, 38, 39, 40, 41, 42, 43, 44, 45, 46, 47, 48, 49, 50, 51, 52, 53, 54, 55, 56, 57, 58, 59, 60, 61, 62, 63, 64, 65, 66] E = env') : D15 X env env' := by
  obtain ⟨E, F, h, hi, hd⟩ := h
  exact ⟨E, drawG_of h hi, hd⟩
end Go.Proofs.Ytmhpmghhgppdnaa
namespace Go.Proofs.Ytmhpmghhgppdnaa
open Go.VM Go.RowKit
set_option maxRecDepth 100000 in
set_option maxHeartbeats 4000000 in
theorem way1 {X : Orc} (a b : List Item) (l : List Tri) (A B : List Int) (i : Nat) (x1 x2 x3 : Int) (h : x1 < 0) : D15 X (EG a b l A B i x1 x2 x3) (EGb a b l A B i x1 x2 x3 true) := by
  refine D15_of ?_
  unfold dgS
  iterate 49 (refine RunK.step (by simp [h]; rfl) (by simp; rfl) (by kernel_rfl) ?_)
  exact RunK.done ⟨by kernel_rfl, by simp⟩
set_option maxRecDepth 100000 in
set_option maxHeartbeats 4000000 in
theorem way2 {X : Orc} (a b : List Item) (l : List Tri) (A B : List Int) (i : Nat) (x1 x2 x3 : Int) (h0 : ¬ x1 < 0) (h : (a.length : Int) ≤ x1) : D15 X (EG a b l A B i x1 x2 x3) (EGb a b l A B i x1 x2 x3 true) := by
  refine D15_of ?_
  unfold dgS
  iterate 49 (refine RunK.step (by simp [h0, h]; rfl) (by simp; rfl) (by kernel_rfl) ?_)
  exact RunK.done ⟨by kernel_rfl, by simp⟩
set_option maxRecDepth 100000 in
set_option maxHeartbeats 4000000 in
theorem way3 {X : Orc} (a b : List Item) (l : List Tri) (A B : List Int) (i : Nat) (p : Nat) (hp : p < a.length) (x2 x3 : Int) (h : x2 < 0) : D15 X (EG a b l A B i (p : Int) x2 x3) (EGb a b l A B i (p : Int) x2 x3 true) := by
  have hp1 : ¬ (p : Int) < 0 := by omega
  have hp2 : ¬ (a.length : Int) ≤ (p : Int) := by omega
  refine D15_of ?_
  unfold dgS
  iterate 49 (refine RunK.step (by simp [hp1, hp2, h]; rfl) (by simp; rfl) (by kernel_rfl) ?_)
  exact RunK.done ⟨by kernel_rfl, by simp⟩
set_option maxRecDepth 100000 in
set_option maxHeartbeats 4000000 in
theorem way4 {X : Orc} (a b : List Item) (l : List Tri) (A B : List Int) (i : Nat) (p : Nat) (hp : p < a.length) (x2 x3 : Int) (h0 : ¬ x2 < 0) (h : (b.length : Int) ≤ x2) : D15 X (EG a b l A B i (p : Int) x2 x3) (EGb a b l A B i (p : Int) x2 x3 true) := by
  have hp1 : ¬ (p : Int) < 0 := by omega
  have hp2 : ¬ (a.length : Int) ≤ (p : Int) := by omega
  refine D15_of ?_
  unfold dgS
  iterate 49 (refine RunK.step (by simp [hp1, hp2, h0, h]; rfl) (by simp; rfl) (by kernel_rfl) ?_)
  exact RunK.done ⟨by kernel_rfl, by simp⟩
end Go.Proofs.Ytmhpmghhgppdnaa
namespace Go.Proofs.Ytmhpmghhgppdnaa
open Go.VM Go.RowKit
set_option maxRecDepth 100000 in
set_option maxHeartbeats 4000000 in
theorem way5 {X : Orc} (a b : List Item) (l : List Tri) (A B : List Int) (i : Nat) (p : Nat) (hp : p < a.length) (q : Nat) (hq : q < b.length) (x3 : Int) (h : A.contains (p : Int) = true) : D15 X (EG a b l A B i (p : Int) (q : Int) x3) (EGb a b l A B i (p : Int) (q : Int) x3 true) := by
  have hp1 : ¬ (p : Int) < 0 := by omega
  have hp2 : ¬ (a.length : Int) ≤ (p : Int) := by omega
  have hq1 : ¬ (q : Int) < 0 := by omega
  have hq2 : ¬ (b.length : Int) ≤ (q : Int) := by omega
  have m1 := mfind_set (p : Int) A
  have k1 : ∀ x ∈ ints A, keyB 2 x = true := List.all_eq_true.1 (ints_keys A)
  rw [h] at m1
  refine D15_of ?_
  unfold dgS
  iterate 49 (refine RunK.step (by simp [hp1, hp2, hq1, hq2, m1, kb2]; first | rfl | exact ⟨k1, rfl⟩) (by simp; rfl) (by kernel_rfl) ?_)
  exact RunK.done ⟨by kernel_rfl, by simp⟩
set_option maxRecDepth 100000 in
set_option maxHeartbeats 4000000 in
theorem way6 {X : Orc} (a b : List Item) (l : List Tri) (A B : List Int) (i : Nat) (p : Nat) (hp : p < a.length) (q : Nat) (hq : q < b.length) (x3 : Int) (h0 : A.contains (p : Int) = false) (h : B.contains (q : Int) = true) : D15 X (EG a b l A B i (p : Int) (q : Int) x3) (EGb a b l A B i (p : Int) (q : Int) x3 true) := by
  have hp1 : ¬ (p : Int) < 0 := by omega
  have hp2 : ¬ (a.length : Int) ≤ (p : Int) := by omega
  have hq1 : ¬ (q : Int) < 0 := by omega
  have hq2 : ¬ (b.length : Int) ≤ (q : Int) := by omega
  have m1 := mfind_set (p : Int) A
  have k1 : ∀ x ∈ ints A, keyB 2 x = true := List.all_eq_true.1 (ints_keys A)
  have m2 := mfind_set (q : Int) B
  have k2 : ∀ x ∈ ints B, keyB 2 x = true := List.all_eq_true.1 (ints_keys B)
  rw [h0] at m1
  rw [h] at m2
  refine D15_of ?_
  unfold dgS
  iterate 49 (refine RunK.step (by simp [hp1, hp2, hq1, hq2, m1, m2, kb2]; first | rfl | exact ⟨k1, rfl⟩ | exact ⟨k2, rfl⟩) (by simp; rfl) (by kernel_rfl) ?_)
  exact RunK.done ⟨by kernel_rfl, by simp⟩
set_option maxRecDepth 100000 in
set_option maxHeartbeats 4000000 in
theorem way7 {X : Orc} (a b : List Item) (l : List Tri) (A B : List Int) (i : Nat) (p : Nat) (hp : p < a.length) (q : Nat) (hq : q < b.length) (x3 : Int) (h0 : A.contains (p : Int) = false) (h1 : B.contains (q : Int) = false) (h : ¬ a[p].amount = b[q].amount) : D15 X (EG a b l A B i (p : Int) (q : Int) x3) (EGb a b l A B i (p : Int) (q : Int) x3 true) := by
  have hp1 : ¬ (p : Int) < 0 := by omega
  have hp2 : ¬ (a.length : Int) ≤ (p : Int) := by omega
  have hq1 : ¬ (q : Int) < 0 := by omega
  have hq2 : ¬ (b.length : Int) ≤ (q : Int) := by omega
  have m1 := mfind_set (p : Int) A
  have k1 : ∀ x ∈ ints A, keyB 2 x = true := List.all_eq_true.1 (ints_keys A)
  have m2 := mfind_set (q : Int) B
  have k2 : ∀ x ∈ ints B, keyB 2 x = true := List.all_eq_true.1 (ints_keys B)
  rw [h0] at m1
  rw [h1] at m2
  refine D15_of ?_
  unfold dgS
  iterate 49 (refine RunK.step (by simp [hp1, hp2, hq1, hq2, hp, hq, m1, m2, kb2, h]; first | rfl | exact ⟨k1, rfl⟩ | exact ⟨k2, rfl⟩) (by simp; rfl) (by kernel_rfl) ?_)
  exact RunK.done ⟨by kernel_rfl, by simp⟩
set_option maxRecDepth 100000 in
set_option maxHeartbeats 4000000 in
theorem way8 {X : Orc} (a b : List Item) (l : List Tri) (A B : List Int) (i : Nat) (p : Nat) (hp : p < a.length) (q : Nat) (hq : q < b.length) (x3 : Int) (h0 : A.contains (p : Int) = false) (h1 : B.contains (q : Int) = false) (h : a[p].amount = b[q].amount) : D15 X (EG a b l A B i (p : Int) (q : Int) x3) (EGb a b l A B i (p : Int) (q : Int) x3 false) := by
  have hp1 : ¬ (p : Int) < 0 := by omega
  have hp2 : ¬ (a.length : Int) ≤ (p : Int) := by omega
  have hq1 : ¬ (q : Int) < 0 := by omega
  have hq2 : ¬ (b.length : Int) ≤ (q : Int) := by omega
  have m1 := mfind_set (p : Int) A
  have k1 : ∀ x ∈ ints A, keyB 2 x = true := List.all_eq_true.1 (ints_keys A)
  have m2 := mfind_set (q : Int) B
  have k2 : ∀ x ∈ ints B, keyB 2 x = true := List.all_eq_true.1 (ints_keys B)
  rw [h0] at m1
  rw [h1] at m2
  refine D15_of ?_
  unfold dgS
  iterate 49 (refine RunK.step (by simp [hp1, hp2, hq1, hq2, hp, hq, m1, m2, kb2, h]; first | rfl | exact ⟨k1, rfl⟩ | exact ⟨k2, rfl⟩) (by simp; rfl) (by kernel_rfl) ?_)
  exact RunK.done ⟨by kernel_rfl, by simp⟩
end Go.Proofs.Ytmhpmghhgppdnaa
