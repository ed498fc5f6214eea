/-
  The laws on charts answer yes: Check, paths, leaves and the order, signs.
-/
import Derived.Test.YtdaclkakglmfeaaLaws
namespace Go.Proofs.Ytdaclkakglmfeaa
open Go.VM
theorem e3 (l : List Gl) (p : Plan) (hn : ∀ g ∈ l, g.name.length ≤ maxLen) (h : l.length ≤ maxLen) : O XO 3 [.l (encG l), p.v] = some (.b true) := by
  refine orun (fc := code3) rfl rfl rfl ?_
  by_cases h1 : 100 < l.length
  · have h1' : (100 : Int) < (l.length : Int) := by omega
    simp [code3, h1', live]
  · have h1' : ¬ (100 : Int) < (l.length : Int) := by omega
    have h10 := e10 (X := XO) l p hn h
    have h11 := e11 (X := XO) l p hn h
    generalize chkG l p = c at h10 h11
    simp [code3, h1', h10, h11, live]
theorem e4 (l : List Gl) (id root : Int) : O XO 4 [.l (encG l), .i .i64 id, .i .i64 root] = some (.b true) := by
  refine orun (fc := code4) rfl rfl rfl ?_
  by_cases h1 : 100 < l.length
  · have h1' : (100 : Int) < (l.length : Int) := by omega
    simp [code4, h1', live]
  · have h1' : ¬ (100 : Int) < (l.length : Int) := by omega
    have hl : l.length ≤ 1000 := by omega
    have h12 := e12 (X := XO) l id hl
    have h13 := e13 (X := XO) l id hl
    have h15 := e15 (X := XO) l id hl
    have h16 := e16 (X := XO) l id hl
    have h14 := e14 (X := XO) (path l id) (by have := path_len l id; omega)
    have h17 := e17 (X := XO) l id root hl
    have h18 := e18 (X := XO) l id root hl
    generalize under l id root = t at h17 h18
    generalize ints (path l id) = P at h14 h15 h16
    cases hg : findG l id with
    | none => rw [hg] at h12 h13; simp [gV, g0] at h12 h13; simp [code4, h1', h12, h13, h14, h15, h16, h17, h18, live, eqCells]
    | some g => rw [hg] at h12 h13; simp [gV] at h12 h13; simp [code4, h1', h12, h13, h14, h15, h16, h17, h18, live, eqCells]
theorem leaves_len (l : List Gl) (root : Int) : (leaves l root).length ≤ l.length := by
  rw [← lf_eq]
  have := lf_len l root l []
  simpa using this
theorem e5 (l : List Gl) (root : Int) : O XO 5 [.l (encG l), .i .i64 root] = some (.b true) := by
  refine orun (fc := code5) rfl rfl rfl ?_
  by_cases h1 : 100 < l.length
  · have h1' : (100 : Int) < (l.length : Int) := by omega
    simp [code5, h1', live]
  · have h1' : ¬ (100 : Int) < (l.length : Int) := by omega
    have hl : l.length ≤ 1000 := by omega
    obtain ⟨zs, hz, hzl⟩ := ord_some (l := pairs l) (by simp [pairs]; omega)
    have h19 := e19 (X := XO) l root hl
    have h20 := e20 (X := XO) l root hl
    have h21 := e21 l zs hl hz (by omega)
    have h22 := e22 (X := XO) l zs hl hz (by omega)
    have ha := e14 (X := XO) (leaves l root) (by have := leaves_len l root; omega)
    have hb := e14 (X := XO) zs (by omega)
    generalize ints (leaves l root) = A at h19 h20 ha
    generalize ints zs = B at h21 h22 hb
    simp [code5, h1', h19, h20, h21, h22, ha, hb, live]
theorem e6 (k : Int) : O XO 6 [.i .i64 k] = some (.b true) := by
  refine orun (fc := code6) rfl rfl rfl ?_
  have h23 := e23 (X := XO) k
  have h24 := e24 (X := XO) k
  generalize signN k = n at h23 h24
  simp [code6, h23, h24, live]
end Go.Proofs.Ytdaclkakglmfeaa
