/-
  The laws on charts answer yes: Check, paths, leaves and the order, signs.
-/
import Derived.Test.YtdaclkakglmfeaaOrder
import Derived.Test.YtdaclkakglmfeaaTree
import Derived.Test.YtdaclkakglmfeaaSpec4
import Derived.Test.YtdaclkakglmfeaaSpec6
namespace Go.Proofs.Ytdaclkakglmfeaa
open Go.VM
/-- The order's answer, where it is told. -/
def orderF : List V → Option V
  | [.l gs] => if gs.length ≤ 1000 then (glsP gs).bind fun l => (belN 1002 l 0).bind fun zs => if zs.length ≤ 1000000 then some (.ow 3 (ints zs)) else none else none
  | _ => none
def XO : Orc := fun f xs => if f = 21 then orderF xs else none
theorem sound : SoundO Try.prog (O XO) := by
  refine den_sound (fun f fc h => codes_ok _ (tabOf_mem h)) (fun f xs y h => ?_) mutOK
  unfold XO at h
  split at h
  · rename_i he
    subst he
    unfold orderF at h
    split at h
    · rename_i gs
      split at h
      · rename_i hl
        simp only [Option.bind_eq_some_iff] at h
        obtain ⟨ps, hps, zs, hzs, h⟩ := h
        obtain ⟨l, rfl, rfl⟩ := glsP_inv hps
        split at h
        · rename_i hb
          simp only [Option.some.injEq] at h
          subst h
          exact ⟨okf21, order_PF l 1002 zs (by simpa using hl) hzs hb⟩
        · cases h
      · cases h
    · cases h
  · cases h
theorem e21 (l : List Gl) (zs : List Int) (hl : l.length ≤ 1000) (hz : belN 1002 (pairs l) 0 = some zs) (hb : zs.length ≤ 1000000) : O XO 21 [.l (encG l)] = some (.ow 3 (ints zs)) := by
  refine den_ext rfl ?_
  have h1 : (encG l).length ≤ 1000 := by simpa using hl
  show orderF [.l (encG l)] = _
  simp only [orderF, if_pos h1, glsP_enc, hz, Option.bind_some, if_pos hb]
theorem e22 {X : Orc} (l : List Gl) (zs : List Int) (hl : l.length ≤ 1000) (hz : belN 1002 (pairs l) 0 = some zs) (hb : zs.length ≤ 1000000) : O X 22 [.l (encG l)] = some (.ow 3 (ints zs)) := by
  refine orun (fc := code22) rfl rfl rfl ?_
  have h37 : mutOf 37 = ⟨3, true, false, belRun 1002, 2⟩ := rfl
  have hr : belRun 1002 [] [.l (encG l), .i .i64 0] = some (ints zs) := by
    have h1 : (encG l).length ≤ 1000 := by simpa using hl
    simp only [belRun, if_pos h1, toInts, glsP_enc, hz, Option.bind_some, List.length_nil, Nat.zero_add, if_pos hb, List.nil_append]
  generalize ints zs = Z at hr ⊢
  generalize encG l = L at hr ⊢
  simp [code22, h37, hr]
theorem live : O XO 9 [] = some (.b true) := runN_den (k := 100) 12 9 [] _ (by kernel_rfl)
end Go.Proofs.Ytdaclkakglmfeaa
