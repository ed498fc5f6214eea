/-
  The quiet operations of the model do what the evaluator says: numbers, strings, structs, addresses. No program is named here.
-/
import Derived.Test.YtonibcnbcnibeaaVm4
import Derived.Laws.StructEq
import Derived.WalkSpells
namespace Go.VM
open Go.RowKit

section
variable {P : Program} {S : Nat → Prop} {w : World}

theorem bin_run (op : BinOp) (t : TypeId) (x y : Operand) (a b : Value) (v1 v2 v : V) (h1 : Rep S w a v1) (h2 : Rep S w b v2) (hv : binV op v1 v2 = some v) :
    ∃ u, Rep S w u v ∧ ∀ w' : World, (do eqGuard op t x y a b; binOp op t a b : Sem Value).run P w' = .ok u w' := by
  cases v1 with
  | i k m =>
    cases v2 with
    | i k' m' =>
      cases h1; cases h2
      by_cases hk : k = k'
      · subst hk
        cases op <;> simp only [binV, intV, if_true] at hv
        case add => cases hv; exact ⟨_, .i _ _, fun w' => by simp [eqGuard, binOp, Op.intArith]⟩
        case sub => cases hv; exact ⟨_, .i _ _, fun w' => by simp [eqGuard, binOp, Op.intArith]⟩
        case mul => cases hv; exact ⟨_, .i _ _, fun w' => by simp [eqGuard, binOp, Op.intArith]⟩
        case quo => split at hv <;> cases hv; rename_i h0; exact ⟨_, .i _ _, fun w' => by simp [eqGuard, binOp, Op.intDiv, h0]⟩
        case rem => split at hv <;> cases hv; rename_i h0; exact ⟨_, .i _ _, fun w' => by simp [eqGuard, binOp, Op.intDiv, h0]⟩
        case and => cases hv; exact ⟨_, .i _ _, fun w' => by simp [eqGuard, binOp, Op.intBits, bitsV]⟩
        case or => cases hv; exact ⟨_, .i _ _, fun w' => by simp [eqGuard, binOp, Op.intBits, bitsV]⟩
        case xor => cases hv; exact ⟨_, .i _ _, fun w' => by simp [eqGuard, binOp, Op.intBits, bitsV]⟩
        case andNot => cases hv; exact ⟨_, .i _ _, fun w' => by simp [eqGuard, binOp, Op.intBits, bitsV]⟩
        case shl => split at hv <;> cases hv; rename_i h0; exact ⟨_, .i _ _, fun w' => by simp [eqGuard, binOp, Op.shift, h0]⟩
        case shr => split at hv <;> cases hv; rename_i h0; exact ⟨_, .i _ _, fun w' => by simp [eqGuard, binOp, Op.shift, h0]⟩
        case eql => cases hv; exact ⟨_, .b _, fun w' => by simp [eqGuard, binOp, Op.intCmp]; rfl⟩
        case neq => cases hv; exact ⟨_, .b _, fun w' => by simp [eqGuard, binOp, Op.intCmp, bne]; rfl⟩
        case lss => cases hv; exact ⟨_, .b _, fun w' => by simp [eqGuard, binOp, Op.intCmp]⟩
        case leq => cases hv; exact ⟨_, .b _, fun w' => by simp [eqGuard, binOp, Op.intCmp]⟩
        case gtr => cases hv; exact ⟨_, .b _, fun w' => by simp [eqGuard, binOp, Op.intCmp]⟩
        case geq => cases hv; exact ⟨_, .b _, fun w' => by simp [eqGuard, binOp, Op.intCmp]⟩
      · cases op <;> simp only [binV, hk, if_false] at hv <;> try cases hv
        case shl => split at hv <;> cases hv; rename_i h0; exact ⟨_, .i _ _, fun w' => by simp [eqGuard, binOp, Op.shift, h0]⟩
        case shr => split at hv <;> cases hv; rename_i h0; exact ⟨_, .i _ _, fun w' => by simp [eqGuard, binOp, Op.shift, h0]⟩
    | _ => simp [binV] at hv
  | s m =>
    cases v2 with
    | s m' =>
      cases h1; cases h2
      rename_i p q
      have ep : p.toList = p.data.toList := ByteArray.toList_eq p
      have eq : q.toList = q.data.toList := ByteArray.toList_eq q
      have hd : (p.data == q.data) = decide (p.data = q.data) := Bool.eq_iff_iff.2 (by simp)
      cases op <;> simp only [binV, strV] at hv <;> try cases hv
      case add =>
        split at hv <;> cases hv; rename_i h0
        refine ⟨.string (p ++ q), by simpa using Rep.s (S := S) (w := w) (p ++ q), fun w' => ?_⟩
        have : ¬ (9223372036854775807 < ((p.size + q.size : Nat) : Int)) := by
          have : p.size + q.size ≤ 9223372036854775807 := by simpa using h0
          omega
        simp [eqGuard, binOp, Op.stringOp, IntKind.max, IntKind.signed, IntKind.bits]
        omega
      all_goals exact ⟨_, .b _, fun w' => by simp [eqGuard, binOp, Op.stringOp, ep, eq, hd]⟩
    | _ => simp [binV] at hv
  | _ => simp [binV] at hv

theorem binb_run (op : BinOp) (t : TypeId) (hu : P.underlying t = some .bool) (x y : Operand) (a b : Value) (v1 v2 v : V) (h1 : Rep S w a v1) (h2 : Rep S w b v2) (hv : binbV op v1 v2 = some v) :
    ∃ u, Rep S w u v ∧ ∀ w' : World, (do eqGuard op t x y a b; binOp op t a b : Sem Value).run P w' = .ok u w' := by
  cases v1 with
  | b m =>
    cases v2 with
    | b m' =>
      have hb : ∀ (d : Nat) (w' : World), (Op.equalIn (d + 1) t (.bool m) (.bool m')).run P w' = .ok (m == m') w' := fun d w' => run_equalIn_bool w' d t m m' hu
      cases h1; cases h2
      cases op <;> simp only [binbV] at hv <;> try cases hv
      all_goals exact ⟨_, .b _, fun w' => by simp [eqGuard, binOp, Op.equal, Op.maxDepth, hb]⟩
    | _ => simp [binbV] at hv
  | _ => simp [binbV] at hv
end
end Go.VM
