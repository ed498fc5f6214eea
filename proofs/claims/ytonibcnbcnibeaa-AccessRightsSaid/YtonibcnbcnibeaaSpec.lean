/-
  What the functions that the laws reach compute.
-/
import Derived.Test.YtonibcnbcnibeaaCode
import Derived.Test.YtonibcnbcnibeaaVm12
namespace Go.Proofs.Ytonibcnbcnibeaa
open Go.VM
def tab : Nat → Option FCode
  | 3 => some code3 | 4 => some code4 | 5 => some code5 | 6 => some code6 | 7 => some code7 | 8 => some code8 | 9 => some code9 | 10 => some code10 | 11 => some code11 | 12 => some code12 | 13 => some code13 | 14 => some code14 | 15 => some code15
  | 16 => some code16 | 17 => some code17 | 18 => some code18 | 19 => some code19 | 20 => some code20 | 21 => some code21 | 22 => some code22 | 23 => some code23 | 24 => some code24 | 25 => some code25 | 26 => some code26 | 27 => some code27 | 28 => some code28
  | 29 => some code29 | 30 => some code30 | 31 => some code31 | 32 => some code32 | 33 => some code33
  | _ => none
def ext : Orc := fun f xs => match f, xs with
  | 34, [.l es] => if es.all (fun x => x.cells.length == 3) = true ∧ es.length * 32 ≤ 140737488355328 then some (.ow 25 es) else none
  | _, _ => none
noncomputable def O : Orc := den tab ext
theorem O_code {f : Nat} {fc : FCode} (ht : tab f = some fc) {xs : List V} {y : V} (h : bodyV O fc xs = some y) : O f xs = some y := den_code ht h
structure User where
  name : List UInt8
  rights : Int
  limit : Int
@[simp] def User.v (u : User) : V := .a [.s u.name, .i .i64 u.rights, .i .i64 u.limit]
def users (us : List User) : List V := us.map User.v
@[simp] theorem users_nil : users [] = [] := rfl
@[simp] theorem users_length (us : List User) : (users us).length = us.length := by simp [users]
@[simp] theorem users_get (us : List User) (i : Nat) : (users us)[i]? = us[i]?.map User.v := by simp [users]
@[simp] theorem users_at (us : List User) (i : Nat) (h : i < (users us).length) : (users us)[i] = .a [.s (us[i]'(by simpa using h)).name, .i .i64 (us[i]'(by simpa using h)).rights, .i .i64 (us[i]'(by simpa using h)).limit] := by simp [users, User.v]
/-- User i has this name. -/
def named (us : List User) (name : List UInt8) (i : Nat) : Bool := decide (us[i]?.map User.name = some name)
def pos (us : List User) (name : List UInt8) : Option Nat := (List.range us.length).find? (named us name)
def posV : Option Nat → V
  | some i => .i .i64 i
  | none => .i .i64 (-1)

@[simp] theorem e33 (n : List UInt8) (a b : Int) (name : List UInt8) : O 33 [.a [.s n, .i .i64 a, .i .i64 b], .r [.s name]] = some (.b (decide (n = name))) := by
  refine O_code (fc := code33) rfl ?_
  rw [bodyV_eq _ _ _ rfl (by rfl)]
  simp [code33]
theorem l32 (us : List User) (name : List UInt8) (h : us.length ≤ 40) : loopK O [0, 1, 7, 8] body32_1 [(0, .l (users us)), (1, .f (.func 33) [] [.r [.s name]]), (7, .i .i64 us.length), (8, .i .i64 0)] =
    some (match pos us name with | some i => (.r, [(4, .i .i64 i)]) | none => (.e 0, [])) := by
  refine loopK_search (fun i => [(0, .l (users us)), (1, .f (.func 33) [] [.r [.s name]]), (7, .i .i64 us.length), (8, .i .i64 i)]) us.length (named us name) (fun i => (.r, [(4, .i .i64 i)])) (.e 0, []) (by simp) (fun i hi hs => ?_) (fun i hi hs => ?_) ?_ (by simp)
  · simp [named, hi] at hs
    simp [body32_1, hi, hs]
  · have hw := wrap_i64 (i + 1) (by omega)
    simp [named, hi] at hs
    simp [body32_1, hi, hw, hs]
  · simp [body32_1]
theorem e32 (us : List User) (name : List UInt8) (h : us.length ≤ 40) : O 32 [.l (users us), .f (.func 33) [] [.r [.s name]]] = some (posV (pos us name)) := by
  refine O_code (fc := code32) rfl ?_
  rw [bodyV_eq _ _ _ rfl (by rfl)]
  simp [code32, exec_loopK, l32 us name h]
  cases pos us name <;> simp [posV]

theorem pos_some {us : List User} {name : List UInt8} {i : Nat} (h : pos us name = some i) : i < us.length ∧ us[i]?.map User.name = some name := by
  unfold pos at h
  have h1 := List.mem_of_find?_eq_some h
  have h2 := List.find?_some h
  exact ⟨by simpa using h1, by simpa [named] using h2⟩
@[simp] theorem e32' (us : List User) (name : List UInt8) (h : us.length ≤ 40) : O 32 [.l (users us), .f (.func 33) [] [.r [.s name]]] = some (posV (pos us name)) := e32 us name h
theorem posV_flat (p : Option Nat) : (posV p).flat = true := by cases p <;> simp [posV]
theorem e22 (us : List User) (name : List UInt8) (h : us.length ≤ 40) : O 22 [.l (users us), .s name] = some (posV (pos us name)) := by
  refine O_code (fc := code22) rfl ?_
  rw [bodyV_eq _ _ _ rfl (by rfl)]
  cases hp : pos us name <;> simp [code22, h, hp, posV]
theorem l23 (us : List User) (name : List UInt8) (h : us.length ≤ 40) : loopK O [0, 1, 5] body23_1 [(0, .l (users us)), (1, .s name), (5, .i .i64 0)] =
    some (match pos us name with | some i => (.r, [(4, .i .i64 i)]) | none => (.e 0, [])) := by
  refine loopK_search (fun i => [(0, .l (users us)), (1, .s name), (5, .i .i64 i)]) us.length (named us name) (fun i => (.r, [(4, .i .i64 i)])) (.e 0, []) (by simp) (fun i hi hs => ?_) (fun i hi hs => ?_) ?_ (by simp)
  · simp [named, hi] at hs
    simp [body23_1, hi, hs]
  · have hw := wrap_i64 (i + 1) (by omega)
    simp [named, hi] at hs
    simp [body23_1, hi, hw, hs]
  · simp [body23_1]
theorem e23 (us : List User) (name : List UInt8) (h : us.length ≤ 40) : O 23 [.l (users us), .s name] = some (posV (pos us name)) := by
  refine O_code (fc := code23) rfl ?_
  rw [bodyV_eq _ _ _ rfl (by rfl)]
  simp [code23, exec_loopK, l23 us name h]
  cases pos us name <;> simp [posV]
def got (us : List User) (name : List UInt8) : User × Bool := match (pos us name).bind (us[·]?) with
  | some u => (u, true)
  | none => (⟨[], 0, 0⟩, false)
def gotV (us : List User) (name : List UInt8) : V := .t [.a [.s (got us name).1.name, .i .i64 (got us name).1.rights, .i .i64 (got us name).1.limit], .b (got us name).2]
theorem e8 (us : List User) (name : List UInt8) (h : us.length ≤ 40) : O 8 [.l (users us), .s name] = some (gotV us name) := by
  refine O_code (fc := code8) rfl ?_
  rw [bodyV_eq _ _ _ rfl (by rfl)]
  cases hp : pos us name with
  | none => simp [code8, e22 us name h, hp, posV, gotV, got]
  | some i =>
    have hi := (pos_some hp).1
    simp [code8, e22 us name h, hp, posV, gotV, got, hi]
theorem e9 (us : List User) (name : List UInt8) (h : us.length ≤ 40) : O 9 [.l (users us), .s name] = some (gotV us name) := by
  refine O_code (fc := code9) rfl ?_
  rw [bodyV_eq _ _ _ rfl (by rfl)]
  cases hp : pos us name with
  | none => simp [code9, e23 us name h, hp, posV, gotV, got]
  | some i =>
    have hi := (pos_some hp).1
    simp [code9, e23 us name h, hp, posV, gotV, got, hi]
def known (r : Int) : Bool := decide (1 ≤ r) && decide (r ≤ 127)
@[simp] theorem e26 (r : Int) : O 26 [.i .i64 r] = some (.b (known r)) := by
  refine O_code (fc := code26) rfl ?_
  rw [bodyV_eq _ _ _ rfl (by rfl)]
  simp [code26, known]
@[simp] theorem e27 (r : Int) : O 27 [.i .i64 r] = some (.b (known r)) := by
  refine O_code (fc := code27) rfl ?_
  rw [bodyV_eq _ _ _ rfl (by rfl)]
  simp [code27, known]
def has (us : List User) (name : List UInt8) (r : Int) : Bool := (got us name).2 && known r && decide (bitsV .and .i64 (got us name).1.rights r = r)
theorem e14 (us : List User) (name : List UInt8) (r : Int) (h : us.length ≤ 40) : O 14 [.l (users us), .s name, .i .i64 r] = some (.b (has us name r)) := by
  refine O_code (fc := code14) rfl ?_
  rw [bodyV_eq _ _ _ rfl (by rfl)]
  cases h1 : (got us name).2 <;> cases h2 : known r <;> simp [code14, e8 us name h, gotV, has, h1, h2]
theorem e15 (us : List User) (name : List UInt8) (r : Int) (h : us.length ≤ 40) : O 15 [.l (users us), .s name, .i .i64 r] = some (.b (has us name r)) := by
  refine O_code (fc := code15) rfl ?_
  rw [bodyV_eq _ _ _ rfl (by rfl)]
  cases h1 : (got us name).2 <;> cases h2 : known r <;> simp [code15, e9 us name h, gotV, has, h1, h2]
def alone (us : List User) (name : List UInt8) (r a : Int) : Bool := has us name r && decide (0 ≤ a) && decide (a ≤ (got us name).1.limit)
theorem e13 (us : List User) (name : List UInt8) (r a : Int) (h : us.length ≤ 40) : O 13 [.l (users us), .s name, .i .i64 r, .i .i64 a] = some (.b (alone us name r a)) := by
  refine O_code (fc := code13) rfl ?_
  rw [bodyV_eq _ _ _ rfl (by rfl)]
  cases h1 : has us name r <;> cases h2 : decide (0 ≤ a) <;> simp [code13, e8 us name h, e14 us name r h, gotV, alone, h1, h2]
theorem e16 (us : List User) (name : List UInt8) (r a : Int) (h : us.length ≤ 40) : O 16 [.l (users us), .s name, .i .i64 r, .i .i64 a] = some (.b (alone us name r a)) := by
  refine O_code (fc := code16) rfl ?_
  rw [bodyV_eq _ _ _ rfl (by rfl)]
  cases h1 : has us name r <;> cases h2 : decide (0 ≤ a) <;> simp [code16, e9 us name h, e15 us name r h, gotV, alone, h1, h2]
@[simp] theorem e29 (a r : Int) : O 29 [.i .i64 a, .r [.i .i64 r]] = some (.i .i64 (bitsV .or .i64 a r)) := by
  refine O_code (fc := code29) rfl ?_
  rw [bodyV_eq _ _ _ rfl (by rfl)]
  simp [code29]
@[simp] theorem e31 (a r : Int) : O 31 [.i .i64 a, .r [.i .i64 r]] = some (.i .i64 (bitsV .andNot .i64 a r)) := by
  refine O_code (fc := code31) rfl ?_
  rw [bodyV_eq _ _ _ rfl (by rfl)]
  simp [code31]
/-- User i has these rights instead. -/
def setR (us : List User) (i : Nat) (x : Int) : List User := us.set i { us[i]?.getD ⟨[], 0, 0⟩ with rights := x }
theorem setR_v (us : List User) (i : Nat) (x : Int) (h : i < us.length) : (users us).set i (.a [.s us[i].name, .i .i64 x, .i .i64 us[i].limit]) = users (setR us i x) := by
  simp [users, setR, h, List.map_set]
def chg (us : List User) (name : List UInt8) (r : Int) (op : Int → Int) : List User × Int := match pos us name with
  | none => ([], 11)
  | some i => if known r then (setR us i (op (us[i]?.map User.rights |>.getD 0)), 0) else ([], 1)
def chgV (p : List User × Int) : V := .t [.ow 25 (users p.1), .i .i64 p.2]
theorem e34 (us : List User) (h : us.length ≤ 40) : O 34 [.l (users us)] = some (.ow 25 (users us)) := by
  refine den_ext rfl ?_
  have : (users us).all (fun x => x.cells.length == 3) = true := by simp [users, V.cells]
  simp only [ext, this, users_length, true_and]
  rw [if_pos (by omega)]
theorem e28 (us : List User) (name : List UInt8) (r : Int) (g : Nat) (op : Int → Int) (h : us.length ≤ 40) (hg : ∀ a, O g [.i .i64 a, .r [.i .i64 r]] = some (.i .i64 (op a))) :
    O 28 [.l (users us), .s name, .i .i64 r, .f (.func g) [] [.r [.i .i64 r]]] = some (chgV (chg us name r op)) := by
  refine O_code (fc := code28) rfl ?_
  rw [bodyV_eq _ _ _ rfl (by rfl)]
  cases hp : pos us name with
  | none => simp [code28, e22 us name h, hp, posV, chg, chgV]
  | some i =>
    have hi := (pos_some hp).1
    cases hk : known r with
    | false => simp [code28, e22 us name h, hp, posV, chg, chgV, hk]
    | true => simp [code28, e22 us name h, hp, posV, chg, chgV, hk, hi, e34 us h, hg, setR_v]
theorem e17 (us : List User) (name : List UInt8) (r : Int) (h : us.length ≤ 40) : O 17 [.l (users us), .s name, .i .i64 r] = some (chgV (chg us name r fun a => bitsV .or .i64 a r)) := by
  refine O_code (fc := code17) rfl ?_
  rw [bodyV_eq _ _ _ rfl (by rfl)]
  have := e28 us name r 29 _ h (fun a => e29 a r)
  simp [code17, this, chgV]
theorem e19 (us : List User) (name : List UInt8) (r : Int) (h : us.length ≤ 40) : O 19 [.l (users us), .s name, .i .i64 r] = some (chgV (chg us name r fun a => bitsV .andNot .i64 a r)) := by
  refine O_code (fc := code19) rfl ?_
  rw [bodyV_eq _ _ _ rfl (by rfl)]
  have := e28 us name r 31 _ h (fun a => e31 a r)
  simp [code19, this, chgV]
theorem e30 (us : List User) (i : Nat) (x : Int) (h : us.length ≤ 40) (hi : i < us.length) : O 30 [.l (users us), .i .i64 i, .i .i64 x] = some (.ow 25 (users (setR us i x))) := by
  refine O_code (fc := code30) rfl ?_
  rw [bodyV_eq _ _ _ rfl (by rfl)]
  have hb : us.length * 32 ≤ 140737488355328 := by omega
  have ha : ∀ x ∈ users us, x.cells.length = 3 := by simp [users, V.cells]
  simp [code30, hi, hb, setR_v]
  intro x hx hne
  exact absurd (ha x hx) hne
theorem e18 (us : List User) (name : List UInt8) (r : Int) (h : us.length ≤ 40) : O 18 [.l (users us), .s name, .i .i64 r] = some (chgV (chg us name r fun a => bitsV .or .i64 a r)) := by
  refine O_code (fc := code18) rfl ?_
  rw [bodyV_eq _ _ _ rfl (by rfl)]
  cases hp : pos us name with
  | none => simp [code18, e23 us name h, hp, posV, chg, chgV]
  | some i =>
    have hi := (pos_some hp).1
    cases hk : known r with
    | false => simp [code18, e23 us name h, hp, posV, chg, chgV, hk]
    | true => simp [code18, e23 us name h, hp, posV, chg, chgV, hk, hi, e30 us i _ h hi]
theorem e20 (us : List User) (name : List UInt8) (r : Int) (h : us.length ≤ 40) : O 20 [.l (users us), .s name, .i .i64 r] = some (chgV (chg us name r fun a => bitsV .andNot .i64 a r)) := by
  refine O_code (fc := code20) rfl ?_
  rw [bodyV_eq _ _ _ rfl (by rfl)]
  cases hp : pos us name with
  | none => simp [code20, e23 us name h, hp, posV, chg, chgV]
  | some i =>
    have hi := (pos_some hp).1
    cases hk : known r with
    | false => simp [code20, e23 us name h, hp, posV, chg, chgV, hk]
    | true => simp [code20, e23 us name h, hp, posV, chg, chgV, hk, hi, e30 us i _ h hi]
end Go.Proofs.Ytonibcnbcnibeaa
