/-
  The comparison that Trial hands to slices.SortFunc.
-/
import Derived.Test.YtggmlfmhinafhaaLaid
import Derived.Test.YtggmlfmhinafhaaVmR
import Derived.Deep.RegionHeld3
import Derived.WalkKit
namespace Go.Proofs.Ytggmlfmhinafhaa
open Go.Sort Go.Lib Go.Proofs Go.Shelf Go.RowKit

theorem nan_str (s : ByteArray) (w : World) : Calls Try.prog 41 #[.string s] w fun e w' => e = .returned (.bool false) ∧ w' = w := by
  go_enter Try.func41, Try.ntmps41
  go_wp2
  go_ret
  exact ⟨by simp, rfl⟩
def cmpB (a b : List UInt8) : Int := if Op.bytesLess a b then -1 else if a = b then 0 else 1
theorem cmp_str (a b : ByteArray) (w : World) : Calls Try.prog 34 #[.string a, .string b] w fun e w' => e = .returned (.int .i64 (cmpB a.data.toList b.data.toList)) ∧ w' = w := by
  rw [← ByteArray.toList_eq a, ← ByteArray.toList_eq b]
  have hgt : ∀ w' : World, (binOp BinOp.gtr 9 (.string a) (.string b)).run Try.prog w' = .ok (.bool (!(Op.bytesLess a.toList b.toList || decide (a.toList = b.toList)))) w' := fun w' => by
    have hd : (a.data == b.data) = decide (a.data = b.data) := Bool.eq_iff_iff.2 (by simp)
    simp [binOp, Op.stringOp, ByteArray.toList_eq, hd]
  by_cases hl : Op.bytesLess a.toList b.toList = true
  · have hc : cmpB a.toList b.toList = -1 := by unfold cmpB; rw [if_pos hl]
    rw [hc]
    go_enter Try.func34, Try.ntmps34
    go_wp2_with (go_at_call 41; refine (nan_str _ _).mono ?_; rintro e w' ⟨rfl, rfl⟩)
    go_ret
    exact ⟨rfl, rfl⟩
  · have hl' : Op.bytesLess a.toList b.toList = false := by simpa using hl
    by_cases he : a.toList = b.toList
    · have hc : cmpB a.toList b.toList = 0 := by unfold cmpB; rw [if_neg hl, if_pos he]
      rw [hc]
      rw [hl', decide_eq_true he] at hgt
      simp only [Bool.or_true, Bool.not_true] at hgt
      clear he hl
      go_enter Try.func34, Try.ntmps34
      go_wp2_with (go_at_call 41; refine (nan_str _ _).mono ?_; rintro e w' ⟨rfl, rfl⟩)
      go_ret
      exact ⟨rfl, rfl⟩
    · have hc : cmpB a.toList b.toList = 1 := by unfold cmpB; rw [if_neg hl, if_neg he]
      rw [hc]
      rw [hl', decide_eq_false he] at hgt
      simp only [Bool.or_false, Bool.not_false] at hgt
      clear he hl
      go_enter Try.func34, Try.ntmps34
      go_wp2_with (go_at_call 41; refine (nan_str _ _).mono ?_; rintro e w' ⟨rfl, rfl⟩)
      go_ret
      exact ⟨rfl, rfl⟩
theorem or_two (b cap : Nat) (x y : Int) (w : World) (h0 : w.cell? ⟨b, 0, none⟩ = some (.int .i64 x)) (h1 : w.cell? ⟨b, 1, none⟩ = some (.int .i64 y)) :
    Calls Try.prog 32 #[.slice (some ⟨b, 0, none⟩) 2 cap] w fun e w' => e = .returned (.int .i64 (if x = 0 then y else x)) ∧ w' = w := by
  go_enter Try.func32, Try.ntmps32
  go_wp2
  go_loopw [8] (fun i wr => ∃ k : Nat, k ≤ 2 ∧ i = .int .i64 k ∧ wr = w ∧ (1 ≤ k → x = 0) ∧ (2 ≤ k → y = 0)) (fun i _ => 2 - (intOf i).toNat)
  case atStart => exact ⟨0, by omega, rfl, rfl, by omega, by omega⟩
  case round =>
    obtain ⟨k, hk, rfl, rfl, hx, hy⟩ := hrel
    match k, hk with
    | 0, _ =>
      by_cases hz : x = 0
      · subst hz
        go_wp2
        exact ⟨⟨1, by omega, rfl, trivial, fun _ => trivial, by omega⟩, by simp [intOf]⟩
      · go_wp2
        go_ret
        exact ⟨rfl, rfl⟩
    | 1, _ =>
      have hx0 := hx (by omega)
      subst hx0
      by_cases hz : y = 0
      · subst hz
        go_wp2
        exact ⟨⟨2, by omega, rfl, trivial, fun _ => trivial, fun _ => trivial⟩, by simp [intOf]⟩
      · go_wp2
        go_ret
        exact ⟨rfl, rfl⟩
    | 2, _ =>
      have hx0 := hx (by omega)
      have hy0 := hy (by omega)
      subst hx0 hy0
      go_wp2
      go_ret
      exact ⟨rfl, rfl⟩
theorem new_two0 (w : World) (u v : Value) (t : TypeId) : (w.alloc (.cells #[u, v] t)).cell? ⟨w.heap.size, 0, none⟩ = some u := by unfold World.cell?; rw [heap_alloc_new]; rfl
theorem new_two1 (w : World) (u v : Value) (t : TypeId) : (w.alloc (.cells #[u, v] t)).cell? ⟨w.heap.size, 1, none⟩ = some v := by unfold World.cell?; rw [heap_alloc_new]; rfl
abbrev LegB := Int × Int × ByteArray
def cmpL (x y : LegB) : Int := if Lib.compareInt x.1 y.1 = 0 then cmpB x.2.2.data.toList y.2.2.data.toList else Lib.compareInt x.1 y.1
set_option maxHeartbeats 2000000 in
theorem closure31 (x y : LegB) (W : World) : Calls Try.prog 31 #[.agg #[.int .i64 x.1, .int .i64 x.2.1, .string x.2.2], .agg #[.int .i64 y.1, .int .i64 y.2.1, .string y.2.2]] W fun e w' => e = .returned (.int .i64 (cmpL x y)) ∧ ∃ q os', w' = grow (W.drewN q) os' := by
  have hcon := fun W' => AnyG.cmp_Compare_int Try.cmpI x.1 y.1 W'
  change ∀ W', Calls Try.prog 33 _ _ _ at hcon
  have hcs := fun W' => cmp_str x.2.2 y.2.2 W'
  unfold cmpL
  generalize Lib.compareInt x.1 y.1 = r at hcon ⊢
  generalize cmpB x.2.2.data.toList y.2.2.data.toList = q at hcs ⊢
  obtain ⟨z, hz⟩ : ∃ z, (if r = 0 then q else r) = z := ⟨_, rfl⟩
  have hor : ∀ (b cap : Nat) (W' : World), W'.cell? ⟨b, 0, none⟩ = some (.int .i64 r) → W'.cell? ⟨b, 1, none⟩ = some (.int .i64 q) → Calls Try.prog 32 #[.slice (some ⟨b, 0, none⟩) 2 cap] W' fun e w' => e = .returned (.int .i64 z) ∧ w' = W' := fun b cap W' h0 h1 => hz ▸ or_two b cap r q W' h0 h1
  rw [hz]
  clear hz
  obtain ⟨xa, xm, xc⟩ := x
  obtain ⟨ya, ym, yc⟩ := y
  dsimp only at *
  go_enter Try.func31, Try.ntmps31
  go_wp2
  have hn1 := heap_alloc_new W (.cells #[.int .i64 xa, .int .i64 xm, .string xc] 44)
  have hn2 := heap_alloc_new (W.alloc (.cells #[.int .i64 xa, .int .i64 xm, .string xc] 44)) (.cells #[.int .i64 ya, .int .i64 ym, .string yc] 44)
  have hn3 := (Below.heap_alloc (W.alloc (.cells #[.int .i64 xa, .int .i64 xm, .string xc] 44)) (.cells #[.int .i64 ya, .int .i64 ym, .string yc] 44) W.heap.size (by simp)).trans hn1
  rw [World.size_alloc] at hn2
  have hgw : ∃ os', ((W.alloc (.cells #[.int .i64 xa, .int .i64 xm, .string xc] 44)).alloc (.cells #[.int .i64 ya, .int .i64 ym, .string yc] 44)) = grow W os' := ⟨_, by rw [alloc_eq_grow, alloc_eq_grow, grow_grow]⟩
  generalize ((W.alloc (.cells #[.int .i64 xa, .int .i64 xm, .string xc] 44)).alloc (.cells #[.int .i64 ya, .int .i64 ym, .string yc] 44)) = W2 at hn2 hn3 hgw ⊢
  have c0 : W2.cell? ⟨W.heap.size, 0, none⟩ = some (.int .i64 xa) := by unfold World.cell?; rw [hn3]; rfl
  have c1 : W2.cell? ⟨W.heap.size, 2, none⟩ = some (.string xc) := by unfold World.cell?; rw [hn3]; rfl
  have c2 : W2.cell? ⟨W.heap.size + 1, 0, none⟩ = some (.int .i64 ya) := by unfold World.cell?; rw [hn2]; rfl
  have c3 : W2.cell? ⟨W.heap.size + 1, 2, none⟩ = some (.string yc) := by unfold World.cell?; rw [hn2]; rfl
  have l1 := (Array.getElem?_eq_some_iff.1 hn3).1
  have l2 := (Array.getElem?_eq_some_iff.1 hn2).1
  have n0 := World.new_ne _ _ c0
  have n1 := World.new_ne _ _ c1
  have n2 := World.new_ne _ _ c2
  have n3 := World.new_ne _ _ c3
  clear hn1 hn2 hn3
  go_region_held3 (fun w' => w'.cell? ⟨W.heap.size, 0, none⟩ = some (.int .i64 xa) ∧ w'.cell? ⟨W.heap.size, 2, none⟩ = some (.string xc) ∧ w'.cell? ⟨W.heap.size + 1, 0, none⟩ = some (.int .i64 ya) ∧ w'.cell? ⟨W.heap.size + 1, 2, none⟩ = some (.string yc)) (go_keep) (first | (go_at_call 33; refine (hcon _).mono ?_; rintro e w' ⟨rfl, rfl⟩) | (go_at_call 34; refine (hcs _).mono ?_; rintro e w' ⟨rfl, rfl⟩) | (go_at_call 32; refine (hor W2.heap.size 2 (W2.alloc (.cells #[.int .i64 r, .int .i64 q] 3)).drew (new_two0 W2 _ _ 3) (new_two1 W2 _ _ 3)).mono ?_; rintro e w' ⟨rfl, rfl⟩))
  go_wp2
  go_ret
  obtain ⟨os', rfl⟩ := hgw
  refine ⟨rfl, 1, os'.push (.cells #[.int .i64 r, .int .i64 q] 3), ?_⟩
  rw [alloc_eq_grow, grow_grow]
  rfl
end Go.Proofs.Ytggmlfmhinafhaa
