/-
  Match, as the functions that call it see it.
-/
import Derived.Test.YtmhpmghhgppdnaaMat3
import Derived.Test.YtmhpmghhgppdnaaOpen4
namespace Go.Proofs.Ytmhpmghhgppdnaa
open Go.VM Go.RowKit
def toItems : List V → Option (List Item)
  | [] => some []
  | .a [.s r, .i .i64 d, .i .i64 a] :: l => (toItems l).map (⟨r, d, a⟩ :: ·)
  | _ => none
@[simp] theorem toItems_enc (l : List Item) : toItems (items l) = some l := by
  induction l with
  | nil => rfl
  | cons x l ih => simp only [items, encL_cons, toItems] at ih ⊢; rw [ih]; rfl
theorem toItems_eq : ∀ {es : List V} {zs : List Item}, toItems es = some zs → es = items zs
  | [], zs, h => by simp only [toItems, Option.some.injEq] at h; subst h; rfl
  | x :: r, zs, h => by
    unfold toItems at h
    split at h
    · rename_i he; cases he
    · rename_i a b c r' he
      cases he
      cases hr : toItems r with
      | none => rw [hr] at h; cases h
      | some ys =>
        rw [hr] at h
        simp only [Option.map_some, Option.some.injEq] at h
        subst h
        rw [toItems_eq hr]; rfl
    · cases h
def dayB (l : List Item) : Bool := l.all fun y => decide (I64 y.day)
def XM : Orc := fun f xs => if f = 11 then (match xs with
  | [.l a, .l b] => (toItems a).bind fun ours => (toItems b).bind fun theirs =>
    if (decide (ours.length ≤ 4096) && decide (theirs.length ≤ 4096) && dayB ours && dayB theirs && strictT (isortT (all3 ours theirs).out)) = true then some (matchV ours theirs) else none
  | _ => none) else none
theorem XM_inv {f : Nat} {xs : List V} {y : V} (h : XM f xs = some y) : f = 11 ∧ ∃ ours theirs : List Item, xs = [.l (items ours), .l (items theirs)] ∧ y = matchV ours theirs ∧ ours.length ≤ 4096 ∧ theirs.length ≤ 4096 ∧ daysOk ours ∧ daysOk theirs ∧ strictT (isortT (all3 ours theirs).out) = true := by
  unfold XM at h
  split at h
  · rename_i hf
    refine ⟨hf, ?_⟩
    split at h
    · rename_i a b
      cases ha : toItems a with
      | none => rw [ha] at h; cases h
      | some ours =>
        cases hb : toItems b with
        | none => rw [ha, hb] at h; cases h
        | some theirs =>
          rw [ha, hb] at h
          simp only [Option.bind_some] at h
          split at h
          · rename_i hc
            simp only [Bool.and_eq_true, decide_eq_true_eq, dayB, List.all_eq_true] at hc
            obtain ⟨⟨⟨⟨h1, h2⟩, h3⟩, h4⟩, h5⟩ := hc
            rw [toItems_eq ha, toItems_eq hb]
            exact ⟨ours, theirs, rfl, (Option.some.inj h).symm, h1, h2, h3, h4, h5⟩
          · cases h
    · cases h
  · cases h
theorem soundX (hmut : MutOK Try.prog) : SoundO Try.prog (O XM) := den_sound (fun f fc h => codes_ok _ (tabOf_mem h)) (fun f xs y h => by
  obtain ⟨rfl, ours, theirs, rfl, rfl, h1, h2, h3, h4, h5⟩ := XM_inv h
  exact ⟨by kernel_rfl, match_PF hmut ours theirs h1 h2 h3 h4 (open_OK hmut theirs h2) h5⟩) hmut
theorem live : O XM 10 [] = some (.b true) := runN_den (k := 60) 12 10 [] _ (by kernel_rfl)
end Go.Proofs.Ytmhpmghhgppdnaa
