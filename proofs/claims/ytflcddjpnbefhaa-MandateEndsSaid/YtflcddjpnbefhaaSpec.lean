/-
  What the functions that the laws reach compute.
-/
import Derived.Test.YtflcddjpnbefhaaTypes
import Derived.Test.YtflcddjpnbefhaaVmO
namespace Go.Proofs.Ytflcddjpnbefhaa
open Go.VM
def ext : Orc := fun f xs => match f with
  | 28 => cloneF 28 7 64 xs
  | _ => none
noncomputable def O : Orc := den tab ext
theorem orun {f : Nat} {fc : FCode} (ht : tab f = some fc) {args : List V} {y : V} (hl : args.length = fc.np) (ha : args.all V.arg = true) (h : retE fc.res (exec O fc.body (args0 0 args)) = some y) : O f args = some y := VM.run ht hl ha h
abbrev enc (l : List Mandate) : List V := encL Mandate.v l
@[simp] theorem e28 (l : List Mandate) (h : l.length ≤ 100) : O 28 [.l (enc l)] = some (.ow 28 (enc l)) := den_ext rfl (cloneF_enc (by simp) (by omega))
theorem live : O 12 [] = some (.b true) := runN_den (k := 40) 12 12 [] _ (by kernel_rfl)
def validD (d : Int) : Bool := decide (0 ≤ d) && decide (d ≤ 73048)
def money (a : Int) : Bool := decide (-1000000000000 ≤ a) && decide (a ≤ 1000000000000)
@[simp] theorem e33 (d : Int) : O 33 [.i .i64 d] = some (.b (validD d)) := by
  refine orun (fc := code33) rfl rfl rfl ?_; simp [code33, validD]
@[simp] theorem e36 (d : Int) : O 36 [.i .i64 d] = some (.b (validD d)) := by
  refine orun (fc := code36) rfl rfl rfl ?_; simp [code36, validD]
@[simp] theorem e34 (d : Int) : O 34 [.i .i64 d] = some (.b (money d)) := by
  refine orun (fc := code34) rfl rfl rfl ?_; simp [code34, money]
@[simp] theorem e35 (d : Int) : O 35 [.i .i64 d] = some (.b (money d)) := by
  refine orun (fc := code35) rfl rfl rfl ?_; simp [code35, money]
def later (d s : Int) : Bool := decide (d = 0) || (validD d && decide (s ≤ d))
@[simp] theorem e37 (d s : Int) : O 37 [.i .i64 d, .i .i64 s] = some (.b (later d s)) := by
  refine orun (fc := code37) rfl rfl rfl ?_; simp [code37, later]
@[simp] theorem e32 (d : Int) (m : Mandate) : O 32 [.i .i64 d, .r m.cells] = some (.b (later d m.signed)) := by
  refine orun (fc := code32) rfl rfl rfl ?_; simp [code32, later]
def good (m : Mandate) : Bool := (((((decide (1 ≤ m.id) && decide (1000 ≤ m.account)) && decide (0 ≤ m.limit)) && money m.limit) && validD m.signed) && later m.used m.signed) && later m.revoked m.signed
@[simp] theorem e26 (m : Mandate) : O 26 [m.v] = some (.b (good m)) := by
  refine orun (fc := code26) rfl rfl rfl ?_; simp [code26, good]
@[simp] theorem e24 (m : Mandate) : O 24 [m.v] = some (.b (good m)) := by
  refine orun (fc := code24) rfl rfl rfl ?_; simp [code24, good]

theorem l27 (s : List UInt8) (h : s.length ≤ 16) : loopK O [0, 3] body27_1 [(0, .s s), (3, .i .i64 0)] = some (optE (fun _ => (.r, [(2, .b false)])) (.e 0, []) ((List.range s.length).findSome? (badAt s))) := by
  have := loopK_code (o := O) (kin := [0, 3]) (c := body27_1) (fun i => [(0, .s s), (3, .i .i64 i)]) s.length (badAt s) (fun _ => (.r, [(2, .b false)])) (.e 0, []) (by simp) (by simp) (fun i hi => by
    have hw := wrap_i64 (i + 1) (by omega)
    simp [body27_1, hi, hw, badAt, badByte]) (by simp [body27_1]) (by simp)
  exact this
@[simp] theorem e27 (s : List UInt8) : O 27 [.s s] = some (.b (nameB s)) := by
  refine orun (fc := code27) rfl rfl rfl ?_
  by_cases h1 : 1 ≤ s.length ∧ s.length ≤ 16
  · have h2 : ¬ ((s.length : Int) < 1) := by omega
    have h3 : ¬ ((16 : Int) < (s.length : Int)) := by omega
    have h0 : 0 < s.length := by omega
    have hl := l27 s h1.2
    by_cases h4 : (97 : Int) ≤ (s[0].toNat : Int) ∧ (s[0].toNat : Int) ≤ 122
    · have h5 : ¬ ((s[0].toNat : Int) < 97) := by omega
      have h6 : ¬ ((122 : Int) < (s[0].toNat : Int)) := by omega
      cases hq : (List.range s.length).findSome? (badAt s) <;> rw [hq] at hl <;> simp [code27, exec_loopK, hl, nameB, h1, h2, h3, h0, h4, h5, h6, hq]
    · have h5 : (s[0].toNat : Int) < 97 ∨ (122 : Int) < (s[0].toNat : Int) := by omega
      simp [code27, nameB, h1, h2, h3, h0, h5]
      omega
  · have h2 : (s.length : Int) < 1 ∨ (16 : Int) < (s.length : Int) := by omega
    have h3 : ¬ (1 ≤ s.length) ∨ ¬ (s.length ≤ 16) := by omega
    simp [code27, nameB, h2]
    omega
end Go.Proofs.Ytflcddjpnbefhaa
