/-
  What the functions that the laws reach compute: keys, days, mandates, reasons, windows.
-/
import Derived.Test.YtoahbbpjhdegoaaDoorTypes
import Derived.Test.YtoahbbpjhdegoaaDoorVmO
namespace Go.Proofs.YtoahbbpjhdegoaaDoor
open Go.VM
def ext : Orc := fun f xs => match f with
  | 39 => cloneF 32 9 80 xs
  | _ => none
noncomputable def O : Orc := den tab ext
theorem orun {f : Nat} {fc : FCode} (ht : tab f = some fc) {args : List V} {y : V} (hl : args.length = fc.np) (ha : args.all V.arg = true) (h : retE fc.res (exec O fc.body (args0 0 args)) = some y) : O f args = some y := VM.run ht hl ha h
abbrev enc (l : List Debit) : List V := encL Debit.v l
abbrev encM (l : List Mandate) : List V := encL Mandate.v l
@[simp] theorem e39 (l : List Debit) (h : l.length ≤ 1000) : O 39 [.l (enc l)] = some (.ow 32 (enc l)) := den_ext rfl (cloneF_enc (by simp) (by omega))
theorem live : O 10 [] = some (.b true) := runN_den (k := 60) 12 10 [] _ (by kernel_rfl)
def validD (d : Int) : Bool := decide (0 ≤ d) && decide (d ≤ 73048)
@[simp] theorem e28 (d : Int) : O 28 [.i .i64 d] = some (.b (validD d)) := by
  refine orun (fc := code28) rfl rfl rfl ?_; simp [code28, validD]
@[simp] theorem e40 (d : Int) : O 40 [.i .i64 d] = some (.b (validD d)) := by
  refine orun (fc := code40) rfl rfl rfl ?_; simp [code40, validD]
def amount (a : Int) : Bool := decide (1 ≤ a) && decide (a ≤ 1000000000000)
@[simp] theorem e27 (d : Int) : O 27 [.i .i64 d] = some (.b (amount d)) := by
  refine orun (fc := code27) rfl rfl rfl ?_; simp [code27, amount]
def money (a : Int) : Bool := decide (-1000000000000 ≤ a) && decide (a ≤ 1000000000000)
@[simp] theorem e44 (d : Int) : O 44 [.i .i64 d] = some (.b (money d)) := by
  refine orun (fc := code44) rfl rfl rfl ?_; simp [code44, money]
theorem e9 (l : List Debit) : O 9 [.l (enc l)] = some (.b (decide (l.length ≤ 80))) := by
  refine orun (fc := code9) rfl rfl rfl ?_
  have : ((l.length : Int) ≤ 80) ↔ l.length ≤ 80 := by omega
  simp [code9, this]

/-! ### Keys -/
def badKey (s : List UInt8) (i : Nat) : Option Unit := match s[i]? with
  | some c => if (c.toNat : Int) < 33 ∨ 126 < (c.toNat : Int) then some () else none
  | none => none
def noBad (s : List UInt8) : Bool := ((List.range s.length).findSome? (badKey s)).isNone
def keyOk (s : List UInt8) : Bool := noBad s && (decide (1 ≤ s.length) && decide (s.length ≤ 48))
theorem l29 (s : List UInt8) (h : s.length ≤ maxLen) : loopK O [0, 5, 6] body29_1 [(0, .s s), (5, .i .i64 s.length), (6, .i .i64 0)] = some (optE (fun _ => (.r, [(2, .b false)])) (.e 0, [(0, .s s)]) ((List.range s.length).findSome? (badKey s))) := by
  have := loopK_code (o := O) (kin := [0, 5, 6]) (c := body29_1) (fun i => [(0, .s s), (5, .i .i64 s.length), (6, .i .i64 i)]) s.length (badKey s) (fun _ => (.r, [(2, .b false)])) (.e 0, [(0, .s s)]) (by simp) (by simp) (fun i hi => by
    have hw := wrap_i64 (i + 1) (by simp only [maxLen] at h; omega)
    by_cases h1 : (s[i].toNat : Int) < 33
    · simp [body29_1, hi, badKey, h1]
    · by_cases h2 : 126 < (s[i].toNat : Int) <;> simp [body29_1, hi, hw, badKey, h1, h2]) (by simp [body29_1]) (by simp)
  exact this
@[simp] theorem e29 (s : List UInt8) (h : s.length ≤ maxLen) : O 29 [.s s] = some (.b (keyOk s)) := by
  refine orun (fc := code29) rfl rfl rfl ?_
  have hl := l29 s h
  have h1 : (1 : Int) ≤ (s.length : Int) ↔ 1 ≤ s.length := by omega
  have h2 : (s.length : Int) ≤ 48 ↔ s.length ≤ 48 := by omega
  cases hq : (List.range s.length).findSome? (badKey s) <;> rw [hq] at hl <;> simp [code29, exec_loopK, hl, keyOk, noBad, hq, h1, h2]
theorem l45 (s : List UInt8) (h : s.length ≤ 48) : loopK O [0, 3] body45_1 [(0, .s s), (3, .i .i64 0)] = some (optE (fun _ => (.r, [(2, .b false)])) (.e 0, []) ((List.range s.length).findSome? (badKey s))) := by
  have := loopK_code (o := O) (kin := [0, 3]) (c := body45_1) (fun i => [(0, .s s), (3, .i .i64 i)]) s.length (badKey s) (fun _ => (.r, [(2, .b false)])) (.e 0, []) (by simp) (by simp) (fun i hi => by
    have hw := wrap_i64 (i + 1) (by omega)
    by_cases h1 : (s[i].toNat : Int) < 33
    · simp [body45_1, hi, badKey, h1]
    · by_cases h2 : 126 < (s[i].toNat : Int) <;> simp [body45_1, hi, hw, badKey, h1, h2]) (by simp [body45_1]) (by simp)
  exact this
@[simp] theorem e45 (s : List UInt8) : O 45 [.s s] = some (.b (keyOk s)) := by
  refine orun (fc := code45) rfl rfl rfl ?_
  by_cases h0 : s = []
  · subst h0; simp [code45, keyOk]
  · have hp : 0 < s.length := List.length_pos_iff.2 h0
    have h3 : 1 ≤ s.length := hp
    by_cases h2 : s.length ≤ 48
    · have hl := l45 s h2
      have h2' : ¬ (48 : Int) < (s.length : Int) := by omega
      cases hq : (List.range s.length).findSome? (badKey s) <;> rw [hq] at hl <;> simp [code45, exec_loopK, hl, keyOk, noBad, hq, h0, h2, h2', h3]
    · have h2' : (48 : Int) < (s.length : Int) := by omega
      simp [code45, keyOk, h0, h2, h2']

/-! ### Reasons, windows -/
def reason (e : Int) : Int := if e = 0 then 0 else if e = 18 ∨ e = 20 then 1 else if e = 16 ∨ e = 19 then 2 else 3
@[simp] theorem e18 (e : Int) : O 18 [.i .i64 e] = some (.i .i64 (reason e)) := by
  refine orun (fc := code18) rfl rfl rfl ?_
  unfold reason
  by_cases h1 : e = 0
  · simp [code18, h1]
  · by_cases h2 : e = 18
    · simp [code18, h2]
    · by_cases h3 : e = 20
      · simp [code18, h3]
      · by_cases h4 : e = 16
        · simp [code18, h4]
        · by_cases h5 : e = 19 <;> simp [code18, h1, h2, h3, h4, h5]
@[simp] theorem e19 (e : Int) : O 19 [.i .i64 e] = some (.i .i64 (reason e)) := by
  refine orun (fc := code19) rfl rfl rfl ?_
  unfold reason
  by_cases h1 : e = 0
  · simp [code19, h1]
  · by_cases h2 : e = 18
    · simp [code19, h2]
    · by_cases h3 : e = 20
      · simp [code19, h3]
      · by_cases h4 : e = 16
        · simp [code19, h4]
        · by_cases h5 : e = 19 <;> simp [code19, h1, h2, h3, h4, h5]
def window (r : Int) : Int := if r = 1 ∨ r = 2 then 5 else if r = 3 then 395 else if r = 4 then 56 else 0
@[simp] theorem e20 (r : Int) : O 20 [.i .i64 r] = some (.i .i64 (window r)) := by
  refine orun (fc := code20) rfl rfl rfl ?_
  unfold window
  by_cases h0 : r < 0
  · have : r ≠ 1 ∧ r ≠ 2 ∧ r ≠ 3 ∧ r ≠ 4 := by omega
    simp [code20, h0, this]
  · by_cases h5 : 5 ≤ r
    · have : r ≠ 1 ∧ r ≠ 2 ∧ r ≠ 3 ∧ r ≠ 4 := by omega
      simp [code20, h0, h5, this]
    · obtain rfl | rfl | rfl | rfl | rfl : r = 0 ∨ r = 1 ∨ r = 2 ∨ r = 3 ∨ r = 4 := by omega
      all_goals simp [code20, sub]
@[simp] theorem e21 (r : Int) : O 21 [.i .i64 r] = some (.i .i64 (window r)) := by
  refine orun (fc := code21) rfl rfl rfl ?_
  unfold window
  by_cases h1 : r = 1
  · simp [code21, h1]
  · by_cases h2 : r = 2
    · simp [code21, h2]
    · by_cases h3 : r = 3
      · simp [code21, h3]
      · by_cases h4 : r = 4 <;> simp [code21, h1, h2, h3, h4]

/-! ### Mandates -/
def mplaceAt (l : List Mandate) (id : Int) (i : Nat) : Option Nat := match l[i]? with
  | some m => if m.id = id then some i else none
  | none => none
/-- The first mandate with this Id. -/
def mpos (l : List Mandate) (id : Int) : Option Nat := (List.range l.length).findSome? (mplaceAt l id)
theorem mpos_some {l : List Mandate} {id : Int} {i : Nat} (h : mpos l id = some i) : ∃ hi : i < l.length, l[i].id = id := by
  unfold mpos at h
  obtain ⟨k, hk, hp⟩ := List.exists_of_findSome?_eq_some h
  have hk' : k < l.length := List.mem_range.1 hk
  simp [mplaceAt, hk'] at hp
  obtain ⟨h1, rfl⟩ := hp
  exact ⟨hk', h1⟩
theorem l49 (l : List Mandate) (id : Int) (h : l.length ≤ 1000) : loopK O [0, 1, 5] body49_1 [(0, .l (encM l)), (1, .i .i64 id), (5, .i .i64 0)] = some (optE (fun (i : Nat) => (.r, [(4, .i .i64 i)])) (.e 0, []) (mpos l id)) := by
  have := loopK_code (o := O) (kin := [0, 1, 5]) (c := body49_1) (fun i => [(0, .l (encM l)), (1, .i .i64 id), (5, .i .i64 i)]) l.length (mplaceAt l id) (fun (i : Nat) => (.r, [(4, .i .i64 i)])) (.e 0, []) (by simp) (by simp) (fun i hi => by
    have hw := wrap_i64 (i + 1) (by omega)
    simp [body49_1, hi, hw, mplaceAt]) (by simp [body49_1]) (by simp)
  exact this
def mposV : Option Nat → V
  | some i => .i .i64 i
  | none => .i .i64 (-1)
theorem e49 (l : List Mandate) (id : Int) (h : l.length ≤ 1000) : O 49 [.l (encM l), .i .i64 id] = some (mposV (mpos l id)) := by
  refine orun (fc := code49) rfl rfl rfl ?_
  have hl := l49 l id h
  cases hp : mpos l id <;> rw [hp] at hl <;> simp [code49, exec_loopK, hl, mposV]
@[simp] theorem e53 (m : Mandate) (id : Int) : O 53 [m.v, .r [.i .i64 id]] = some (.b (decide (m.id = id))) := by
  refine orun (fc := code53) rfl rfl rfl ?_; simp [code53]
theorem l52 (l : List Mandate) (id : Int) (h : l.length ≤ 1000) : loopK O [1, 8, 9, 10] body52_1 [(1, .f (.func 53) [] [.r [.i .i64 id]]), (8, .l (encM l)), (9, .i .i64 l.length), (10, .i .i64 0)] = some (optE (fun (i : Nat) => (.r, [(4, .i .i64 i), (5, .b true)])) (.e 0, []) (mpos l id)) := by
  have := loopK_code (o := O) (kin := [1, 8, 9, 10]) (c := body52_1) (fun i => [(1, .f (.func 53) [] [.r [.i .i64 id]]), (8, .l (encM l)), (9, .i .i64 l.length), (10, .i .i64 i)]) l.length (mplaceAt l id) (fun (i : Nat) => (.r, [(4, .i .i64 i), (5, .b true)])) (.e 0, []) (by simp) (by simp) (fun i hi => by
    have hw := wrap_i64 (i + 1) (by omega)
    simp [body52_1, hi, hw, mplaceAt]) (by simp [body52_1]) (by simp)
  exact this
def mfindV : Option Nat → V
  | some i => .t [.i .i64 i, .b true]
  | none => .t [.i .i64 0, .b false]
theorem e52 (l : List Mandate) (id : Int) (h : l.length ≤ 1000) : O 52 [.l (encM l), .f (.func 53) [] [.r [.i .i64 id]]] = some (mfindV (mpos l id)) := by
  refine orun (fc := code52) rfl rfl rfl ?_
  have hl := l52 l id h
  cases hp : mpos l id <;> rw [hp] at hl <;> simp [code52, exec_loopK, hl, mfindV]
theorem e47 (l : List Mandate) (id : Int) (h : l.length ≤ 1000) : O 47 [.l (encM l), .i .i64 id] = some (mfindV (mpos l id)) := by
  refine orun (fc := code47) rfl rfl rfl ?_
  have h52 := e52 l id h
  cases hp : mpos l id <;> rw [hp] at h52 <;> simp [mfindV] at h52 <;> simp [code47, h52, mfindV]
def moreB (a b : Int) : Bool := decide (b < a) && decide ((1096 : Int) < IntKind.u64.wrap (IntKind.u64.wrap a - IntKind.u64.wrap b))
@[simp] theorem e54 (a b : Int) : O 54 [.i .i64 a, .i .i64 b, .i .i64 1096] = some (.b (moreB a b)) := by
  refine orun (fc := code54) rfl rfl rfl ?_
  simp [code54, moreB, IntWalk.u64_in 1096 (by omega)]
def expired (m : Mandate) (d : Int) : Bool := moreB d (if m.used = 0 then m.signed else m.used)
@[simp] theorem e48 (m : Mandate) (d : Int) : O 48 [m.v, .i .i64 d] = some (.b (expired m d)) := by
  refine orun (fc := code48) rfl rfl rfl ?_
  by_cases h : m.used = 0 <;> simp [code48, expired, h]
@[simp] theorem e50 (m : Mandate) (d : Int) : O 50 [m.v, .i .i64 d] = some (.b (expired m d)) := by
  refine orun (fc := code50) rfl rfl rfl ?_
  by_cases h : m.used = 0 <;> simp [code50, expired, moreB, h]
def allowM (m : Mandate) (a d : Int) : Int := if (m.revoked ≠ 0 ∧ m.revoked ≤ d) ∨ d < m.signed then 17 else if expired m d = true then 23 else if m.limit ≠ 0 ∧ m.limit < a then 18 else 0
def allow (l : List Mandate) (id a d : Int) : Int := match (mpos l id).bind (l[·]?) with
  | some m => allowM m a d
  | none => 11
theorem e38 (l : List Mandate) (id a d : Int) (h : l.length ≤ 1000) : O 38 [.l (encM l), .i .i64 id, .i .i64 a, .i .i64 d] = some (.i .i64 (allow l id a d)) := by
  refine orun (fc := code38) rfl rfl rfl ?_
  have h47 := e47 l id h
  cases hp : mpos l id with
  | none => rw [hp] at h47; simp [mfindV] at h47; simp [code38, h47, allow, hp]
  | some i =>
    obtain ⟨hi, _⟩ := mpos_some hp
    rw [hp] at h47; simp [mfindV] at h47
    simp [code38, h47, allow, hp, hi, allowM]
theorem e41 (l : List Mandate) (id a d : Int) (h : l.length ≤ 1000) : O 41 [.l (encM l), .i .i64 id, .i .i64 a, .i .i64 d] = some (.i .i64 (allow l id a d)) := by
  refine orun (fc := code41) rfl rfl rfl ?_
  have h49 := e49 l id h
  cases hp : mpos l id with
  | none => rw [hp] at h49; simp [mposV] at h49; simp [code41, h49, allow, hp]
  | some i =>
    obtain ⟨hi, _⟩ := mpos_some hp
    rw [hp] at h49; simp [mposV] at h49
    simp [code41, h49, allow, hp, hi, allowM]
end Go.Proofs.YtoahbbpjhdegoaaDoor
