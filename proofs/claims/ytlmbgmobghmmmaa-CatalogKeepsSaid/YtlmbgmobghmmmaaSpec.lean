/-
  What the functions that the laws reach compute: comparisons, the order of versions, the version that holds.
-/
import Derived.Test.YtlmbgmobghmmmaaJoin
namespace Go.Proofs.Ytlmbgmobghmmmaa
open Go.VM
def ext : Orc := fun f xs => match f with
  | 18 => namesF xs
  | 30 => cloneF 33 19 240 xs
  | 45 => uniL xs
  | _ => none
def tab2 (f : Nat) : Option FCode := if f = 45 then none else tab f
noncomputable def O : Orc := den tab2 ext
theorem orun {f : Nat} {fc : FCode} (ht : tab2 f = some fc) {args : List V} {y : V} (hl : args.length = fc.np) (ha : args.all V.arg = true) (h : retE fc.res (exec O fc.body (args0 0 args)) = some y) : O f args = some y := VM.run ht hl ha h
theorem live : O 12 [] = some (.b true) := runN_den (k := 60) 12 12 [] _ (by kernel_rfl)
theorem e18 (l : List Product) (h : l.length ≤ 1000) : O 18 [.l (encL Product.v l)] = some (.ow 9 (strs (isortS (keysN (l.map (·.name)))))) := den_ext rfl (namesF_prod l h)
theorem e30 (l : List Product) (h : l.length ≤ 1000) : O 30 [.l (encL Product.v l)] = some (.ow 33 (encL Product.v l)) := den_ext rfl (cloneF_enc (Product.all_len l) (by omega))
theorem e45' (a b : List Int) (h : a.length + b.length ≤ 1000) : O 45 [.l (ints a), .l (ints b)] = some (.l (ints (uni a b))) := den_ext rfl (by show uniL [.l (ints a), .l (ints b)] = _; simp [uniL, h])
/-! ### Comparisons -/
@[simp] theorem e46 (x : List UInt8) : O 46 [.s x] = some (.b false) := by
  refine orun (fc := code46) rfl rfl rfl ?_; simp [code46]
@[simp] theorem e47 (x : Int) : O 47 [.i .i64 x] = some (.b false) := by
  refine orun (fc := code47) rfl rfl rfl ?_; simp [code47]
def cmpS (x y : List UInt8) : Int := if x < y then -1 else if y < x then 1 else 0
def cmpI (x y : Int) : Int := if x < y then -1 else if y < x then 1 else 0
theorem tri_s (x y : List UInt8) : (x < y ∧ ¬ y < x ∧ ¬ x = y) ∨ (x = y ∧ ¬ x < y ∧ ¬ y < x) ∨ (y < x ∧ ¬ x < y ∧ ¬ x = y) := by
  rcases (strO.tri x y : x < y ∨ x = y ∨ y < x) with h | h | h
  · exact .inl ⟨h, fun h2 => List.lt_irrefl x (List.lt_trans h h2), fun e => by rw [e] at h; exact List.lt_irrefl y h⟩
  · subst h; exact .inr (.inl ⟨rfl, List.lt_irrefl _, List.lt_irrefl _⟩)
  · exact .inr (.inr ⟨h, fun h2 => List.lt_irrefl x (List.lt_trans h2 h), fun e => by rw [e] at h; exact List.lt_irrefl y h⟩)
@[simp] theorem e38 (x y : List UInt8) : O 38 [.s x, .s y] = some (.i .i64 (cmpS x y)) := by
  refine orun (fc := code38) rfl rfl rfl ?_
  unfold cmpS
  rcases tri_s x y with ⟨h1, h2, h3⟩ | ⟨h1, h2, h3⟩ | ⟨h1, h2, h3⟩
  · simp only [if_pos h1]
    have hd : decide (x < y) = true := decide_eq_true h1
    simp [code38, bl_eq, hd]
  · subst h1
    simp only [if_neg h2]
    have hd : decide (x < x) = false := decide_eq_false h2
    simp [code38, bl_eq, hd]
  · simp only [if_neg h2, if_pos h1]
    have hd : decide (x < y) = false := decide_eq_false h2
    have hd2 : decide (x = y) = false := decide_eq_false h3
    simp [code38, bl_eq, hd, hd2]
@[simp] theorem e39 (x y : Int) : O 39 [.i .i64 x, .i .i64 y] = some (.i .i64 (cmpI x y)) := by
  refine orun (fc := code39) rfl rfl rfl ?_
  unfold cmpI
  by_cases h : x < y
  · simp [code39, h]
  · by_cases h2 : y < x <;> simp [code39, h, h2]
/-- Does a version come before another one? -/
def befB (a b : Product) : Bool := decide (a.name < b.name) || (decide (a.name = b.name) && decide (a.from' < b.from'))
def cmpP (a b : Product) : Int := if cmpS a.name b.name ≠ 0 then cmpS a.name b.name else cmpI a.from' b.from'
theorem cmpP_lt (a b : Product) : decide (cmpP a b < 0) = befB a b := by
  unfold cmpP befB cmpS
  rcases tri_s a.name b.name with ⟨h1, h2, h3⟩ | ⟨h1, h2, h3⟩ | ⟨h1, h2, h3⟩
  · simp only [if_pos h1, decide_eq_true h1]; rfl
  · simp only [if_neg h2, if_neg h3, decide_eq_true h1, decide_eq_false h2]
    unfold cmpI
    by_cases c1 : a.from' < b.from'
    · simp [c1]
    · by_cases c2 : b.from' < a.from' <;> simp [c1, c2]
  · simp only [if_pos h1, if_neg h2, decide_eq_false h2, decide_eq_false h3]; rfl
theorem cmpP_zero (a b : Product) : decide (cmpP a b = 0) = (decide (a.name = b.name) && decide (a.from' = b.from')) := by
  unfold cmpP cmpS
  rcases tri_s a.name b.name with ⟨h1, h2, h3⟩ | ⟨h1, h2, h3⟩ | ⟨h1, h2, h3⟩
  · simp only [if_pos h1, decide_eq_false h3]; rfl
  · simp only [if_neg h2, if_neg h3, decide_eq_true h1]
    unfold cmpI
    by_cases c1 : a.from' < b.from'
    · have : ¬ a.from' = b.from' := by omega
      simp [c1, this]
    · by_cases c2 : b.from' < a.from'
      · have : ¬ a.from' = b.from' := by omega
        simp [c1, c2, this]
      · have : a.from' = b.from' := by omega
        simp [this]
  · simp only [if_pos h1, if_neg h2, decide_eq_false h3]; rfl
@[simp] theorem e26 (a b : Product) : O 26 [a.v, b.v] = some (.i .i64 (cmpP a b)) := by
  refine orun (fc := code26) rfl rfl rfl ?_
  unfold cmpP
  by_cases h : cmpS a.name b.name = 0 <;> simp [code26, h]
@[simp] theorem e27 (a b : Product) : O 27 [a.v, b.v] = some (.b (befB a b)) := by
  refine orun (fc := code27) rfl rfl rfl ?_
  unfold befB
  rcases tri_s a.name b.name with ⟨h1, h2, h3⟩ | ⟨h1, h2, h3⟩ | ⟨h1, h2, h3⟩
  · have hd := decide_eq_true h1
    simp [code27, bl_eq, hd]
  · have hd := decide_eq_false h2
    have hd2 := decide_eq_true h1
    simp [code27, bl_eq, hd, hd2]
  · have hd := decide_eq_false h2
    have hd2 := decide_eq_false h3
    simp [code27, bl_eq, hd, hd2]
end Go.Proofs.Ytlmbgmobghmmmaa
