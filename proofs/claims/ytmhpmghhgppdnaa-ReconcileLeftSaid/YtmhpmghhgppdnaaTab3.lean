/-
  The table of what is left: the match of an item in each of the three passes, as the code reckons it.
-/
import Derived.Test.YtmhpmghhgppdnaaTab2
namespace Go.Proofs.Ytmhpmghhgppdnaa
open Go.VM Go.RowKit
/-- The indexes of the items of which p holds. -/
def idxs (its : List Item) (p : Item → Bool) : List Int := ((List.range its.length).filter fun i => match its[i]? with
  | some y => p y
  | none => false).map fun (i : Nat) => (i : Int)
theorem idxs_in {its : List Item} {p : Item → Bool} : ∀ k ∈ idxs its p, 0 ≤ k ∧ k < its.length := by
  intro k hk
  obtain ⟨i, hi, rfl⟩ := List.mem_map.1 hk
  have := List.mem_range.1 (List.mem_filter.1 hi).1
  omega
theorem idxs_len {its : List Item} {p : Item → Bool} : (idxs its p).length ≤ its.length := by
  unfold idxs
  rw [List.length_map]
  exact Nat.le_trans (List.length_filter_le _ _) (by simp)
def byRef (its : List Item) (r : List UInt8) : List Int := idxs its fun y => decide (y.ref = r)
def byAmt (its : List Item) (a : Int) : List Int := idxs its fun y => decide (y.amount = a)
/-- The maps at g1, g2, g3: the items' indexes by reference, and by amount; what is taken. -/
structure TabOK (its : List Item) (g1 g2 g3 : Nat) (tak : List Int) (s : Maps) : Prop where
  one : ∃ ks vs, getM g1 s = some (ks, vs) ∧ ks.all (keyB 1) = true ∧ ∀ r, (mfind (.s r) ks vs).getD (.l []) = .l (ints (byRef its r))
  two : ∃ ks vs, getM g2 s = some (ks, vs) ∧ ks.all (keyB 2) = true ∧ ∀ a, (mfind (.i .i64 a) ks vs).getD (.l []) = .l (ints (byAmt its a))
  set : isSet s g3 tak
  ne : g1 ≠ g3 ∧ g2 ≠ g3
section
variable {cf : Maps → Nat → List V → Option (V × Maps)} {its : List Item} {g1 g2 g3 : Nat} {tak : List Int} {s : Maps}
theorem look_ref (h : TabOK its g1 g2 g3 tak s) (r : List UInt8) : mapEff Try.prog cf s LOOK [.i .i64 58, .mr (some g1), .s r] = some (.l (ints (byRef its r)), s) := by
  obtain ⟨ks, vs, h1, h2, h3⟩ := h.one
  unfold mapEff
  rw [if_pos rfl]
  simp only [tn58, mt58, Option.bind_some, z26, h1, h2, h3]
  simp [keyB, V.cell]
theorem look_amt (h : TabOK its g1 g2 g3 tak s) (a : Int) : mapEff Try.prog cf s LOOK [.i .i64 59, .mr (some g2), .i .i64 a] = some (.l (ints (byAmt its a)), s) := by
  obtain ⟨ks, vs, h1, h2, h3⟩ := h.two
  unfold mapEff
  rw [if_pos rfl]
  simp only [tn59, mt59, Option.bind_some, z26, h1, h2, h3]
  simp [keyB, V.cell]
end
open Classical in
/-- An oracle for one region: what the memory answers, and one call. -/
noncomputable def oneO (s : Maps) (f0 : Nat) (zs0 : List V) (y0 : V) : Orc := fun f zs => if f = f0 then (if zs = zs0 then some y0 else none) else (mapEff Try.prog (fun _ _ _ => none) s f zs).map (·.1)
abbrev tab3 (its : List Item) (g1 g2 g3 : Nat) : V := tabV its (.mr (some g1)) (.mr (some g2)) g3
section
variable (its : List Item) (g1 g2 g3 : Nat) (x : Item) (pass : Int) {s : Maps} {tak : List Int}
theorem nl : (NILC = 41) = False := eq_false (by decide)
theorem ll : (LOOK = 41) = False := eq_false (by decide)
/-- The frame ahead of the passes. -/
abbrev E29 : Env := [(0, tab3 its g1 g2 g3), (1, x.v), (2, .i .i64 pass), (4, .bx x.cells), (6, .i .i64 0), (7, .b false), (8, .i .i64 pass), (9, .b true)]
abbrev E29b : Env := [(0, tab3 its g1 g2 g3), (1, x.v), (2, .i .i64 pass), (4, .bx x.cells), (6, .i .i64 0), (7, .b false), (8, .i .i64 pass), (9, .b false), (23, .b true)]
abbrev E29c : Env := [(0, tab3 its g1 g2 g3), (1, x.v), (2, .i .i64 pass), (4, .bx x.cells), (6, .i .i64 0), (7, .b false), (8, .i .i64 pass), (9, .b false), (23, .b false)]
set_option maxHeartbeats 4000000 in
theorem d29_4 (h : TabOK its g1 g2 g3 tak s) (k : Int) (b : Bool) : ∃ env1, drawN (oneO s 41 [tab3 its g1 g2 g3, .l (ints (byRef its x.ref)), .f (.func 42) [] [.r x.cells]] (.t [.i .i64 k, .b b])) (n29_4.map RSt.gst) n29_4a (frzAll (E29 its g1 g2 g3 x pass)) = some env1 ∧
    dropE [11, 12, 13, 14, 15, 16, 17, 18, 19, 20, 21, 22] env1 = [(0, tab3 its g1 g2 g3), (1, x.v), (2, .i .i64 pass), (4, .r x.cells), (6, .i .i64 k), (7, .b b), (8, .i .i64 pass), (9, .b true)] := by
  have h1 := look_ref (cf := fun _ _ _ => none) h x.ref
  have h2 := fun cs => nil_check (cf := fun _ _ _ => none) (s := s) cs
  exact ⟨_, by simp (config := { maxSteps := 1000000 }) [drawN, noOB, runNo, n29_4, n29_4a, RSt.gst, frzAll, oneO, h1, h2, nl, ll]; rfl, by simp⟩
set_option maxHeartbeats 4000000 in
theorem d29_7 (h : TabOK its g1 g2 g3 tak s) (k : Int) (b : Bool) : ∃ env1, drawN (oneO s 41 [tab3 its g1 g2 g3, .l (ints (byAmt its x.amount)), .f (.func 43) [] [.r x.cells]] (.t [.i .i64 k, .b b])) (n29_7.map RSt.gst) n29_7a (frzAll (E29b its g1 g2 g3 x pass)) = some env1 ∧
    dropE [25, 26, 27, 28, 29, 30, 31, 32, 33, 34, 35, 36] env1 = [(0, tab3 its g1 g2 g3), (1, x.v), (2, .i .i64 pass), (4, .r x.cells), (6, .i .i64 k), (7, .b b), (8, .i .i64 pass), (9, .b false), (23, .b true)] := by
  have h1 := look_amt (cf := fun _ _ _ => none) h x.amount
  have h2 := fun cs => nil_check (cf := fun _ _ _ => none) (s := s) cs
  exact ⟨_, by simp (config := { maxSteps := 1000000 }) [drawN, noOB, runNo, n29_7, n29_7a, RSt.gst, frzAll, oneO, h1, h2, nl, ll]; rfl, by simp⟩
set_option maxHeartbeats 4000000 in
theorem d29_10 (h : TabOK its g1 g2 g3 tak s) (k : Int) (b : Bool) : ∃ env1, drawN (oneO s 41 [tab3 its g1 g2 g3, .l (ints (byAmt its x.amount)), .f (.func 44) [] [.r x.cells]] (.t [.i .i64 k, .b b])) (n29_10.map RSt.gst) n29_10a (frzAll (E29c its g1 g2 g3 x pass)) = some env1 ∧
    dropE [37, 38, 39, 40, 41, 42, 43, 44, 45, 46, 47, 48] env1 = [(0, tab3 its g1 g2 g3), (1, x.v), (2, .i .i64 pass), (4, .r x.cells), (6, .i .i64 k), (7, .b b), (8, .i .i64 pass), (9, .b false), (23, .b false)] := by
  have h1 := look_amt (cf := fun _ _ _ => none) h x.amount
  have h2 := fun cs => nil_check (cf := fun _ _ _ => none) (s := s) cs
  exact ⟨_, by simp (config := { maxSteps := 1000000 }) [drawN, noOB, runNo, n29_10, n29_10a, RSt.gst, frzAll, oneO, h1, h2, nl, ll]; rfl, by simp⟩
end
end Go.Proofs.Ytmhpmghhgppdnaa
