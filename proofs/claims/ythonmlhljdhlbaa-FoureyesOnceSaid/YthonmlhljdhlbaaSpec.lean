/-
  What the functions that the laws reach compute: names, days, users.
-/
import Derived.Test.YthonmlhljdhlbaaTypes
import Derived.Test.YthonmlhljdhlbaaVmO
namespace Go.Proofs.Ythonmlhljdhlbaa
open Go.VM
def ext : Orc := fun f xs => match f with
  | 49 => cloneF 3 1 8 xs
  | 50 => cloneF 35 35 368 xs
  | _ => none
noncomputable def O : Orc := den tab ext
theorem orun {f : Nat} {fc : FCode} (ht : tab f = some fc) {args : List V} {y : V} (hl : args.length = fc.np) (ha : args.all V.arg = true) (h : retE fc.res (exec O fc.body (args0 0 args)) = some y) : O f args = some y := VM.run ht hl ha h
abbrev enc (l : List Request) : List V := encL Request.v l
abbrev encU (l : List User) : List V := encL User.v l
abbrev encI (l : List Int) : List V := encL (V.i .i64) l
@[simp] theorem Command.take (c : Command) : c.cells.take 29 = c.cells := List.take_of_length_le (by simp)
@[simp] theorem Command.drop (c : Command) : c.cells.drop 29 = [] := List.drop_of_length_le (by simp)
@[simp] theorem e49 (l : List Int) (h : l.length ≤ 100) : O 49 [.l (encI l)] = some (.ow 3 (encI l)) := den_ext rfl (cloneF_enc (by simp) (by omega))
@[simp] theorem e50 (l : List Request) (h : l.length ≤ 100) : O 50 [.l (enc l)] = some (.ow 35 (enc l)) := den_ext rfl (cloneF_enc (by simp) (by omega))
theorem live : O 12 [] = some (.b true) := runN_den (k := 40) 12 12 [] _ (by kernel_rfl)
def validD (d : Int) : Bool := decide (0 ≤ d) && decide (d ≤ 73048)
@[simp] theorem e32 (d : Int) : O 32 [.i .i64 d] = some (.b (validD d)) := by
  refine orun (fc := code32) rfl rfl rfl ?_; simp [code32, validD]
@[simp] theorem e46 (d : Int) : O 46 [.i .i64 d] = some (.b (validD d)) := by
  refine orun (fc := code46) rfl rfl rfl ?_; simp [code46, validD]
def decided (s : Int) : Bool := decide (s = 2) || decide (s = 3)
@[simp] theorem e33 (s : Int) : O 33 [.i .i64 s] = some (.b (decided s)) := by
  refine orun (fc := code33) rfl rfl rfl ?_; simp [code33, decided]
@[simp] theorem e48 (s : Int) : O 48 [.i .i64 s] = some (.b (decided s)) := by
  refine orun (fc := code48) rfl rfl rfl ?_; simp [code48, decided]
def known (r : Int) : Bool := decide (1 ≤ r) && decide (r ≤ 127)
@[simp] theorem e45 (r : Int) : O 45 [.i .i64 r] = some (.b (known r)) := by
  refine orun (fc := code45) rfl rfl rfl ?_; simp [code45, known]
@[simp] theorem e54 (r : Int) : O 54 [.i .i64 r] = some (.b (known r)) := by
  refine orun (fc := code54) rfl rfl rfl ?_; simp [code54, known]

theorem l25 (s : List UInt8) (h : s.length ≤ 16) : loopK O [0, 3] body25_1 [(0, .s s), (3, .i .i64 0)] = some (optE (fun _ => (.r, [(2, .b false)])) (.e 0, []) ((List.range s.length).findSome? (badAt s))) := by
  have := loopK_code (o := O) (kin := [0, 3]) (c := body25_1) (fun i => [(0, .s s), (3, .i .i64 i)]) s.length (badAt s) (fun _ => (.r, [(2, .b false)])) (.e 0, []) (by simp) (by simp) (fun i hi => by
    have hw := wrap_i64 (i + 1) (by omega)
    simp [body25_1, hi, hw, badAt, badByte]) (by simp [body25_1]) (by simp)
  exact this
@[simp] theorem e25 (s : List UInt8) : O 25 [.s s] = some (.b (nameB s)) := by
  refine orun (fc := code25) rfl rfl rfl ?_
  by_cases h1 : 1 ≤ s.length ∧ s.length ≤ 16
  · have h2 : ¬ ((s.length : Int) < 1) := by omega
    have h3 : ¬ ((16 : Int) < (s.length : Int)) := by omega
    have h0 : 0 < s.length := by omega
    have hl := l25 s h1.2
    by_cases h4 : (97 : Int) ≤ (s[0].toNat : Int) ∧ (s[0].toNat : Int) ≤ 122
    · have h5 : ¬ ((s[0].toNat : Int) < 97) := by omega
      have h6 : ¬ ((122 : Int) < (s[0].toNat : Int)) := by omega
      cases hq : (List.range s.length).findSome? (badAt s) <;> rw [hq] at hl <;> simp [code25, exec_loopK, hl, nameB, h1, h2, h3, h0, h4, h5, h6, hq]
    · have h5 : (s[0].toNat : Int) < 97 ∨ (122 : Int) < (s[0].toNat : Int) := by omega
      simp [code25, nameB, h1, h2, h3, h0, h5]
      omega
  · have h2 : (s.length : Int) < 1 ∨ (16 : Int) < (s.length : Int) := by omega
    have h3 : ¬ (1 ≤ s.length) ∨ ¬ (s.length ≤ 16) := by omega
    simp [code25, nameB, h2]
    omega
abbrev bytesV (s : List UInt8) : List V := s.map fun c => .i .u8 c.toNat
theorem l47 (s : List UInt8) (h : s.length ≤ 16) : loopK O [23, 24, 25] body47_1 [(23, .l (bytesV s)), (24, .i .i64 s.length), (25, .i .i64 0)] = some (optE (fun _ => (.r, [(2, .b false)])) (.e 0, []) ((List.range s.length).findSome? (badAt s))) := by
  have := loopK_code (o := O) (kin := [23, 24, 25]) (c := body47_1) (fun i => [(23, .l (bytesV s)), (24, .i .i64 s.length), (25, .i .i64 i)]) s.length (badAt s) (fun _ => (.r, [(2, .b false)])) (.e 0, []) (by simp) (by simp) (fun i hi => by
    have hw := wrap_i64 (i + 1) (by omega)
    simp [body47_1, hi, hw, badAt, badByte]) (by simp [body47_1]) (by simp)
  exact this
@[simp] theorem e47 (s : List UInt8) : O 47 [.s s] = some (.b (nameB s)) := by
  refine orun (fc := code47) rfl rfl rfl ?_
  by_cases h1 : 1 ≤ s.length ∧ s.length ≤ 16
  · have h3 : ¬ ((16 : Int) < (s.length : Int)) := by omega
    have h0 : 0 < s.length := by omega
    have hne : s ≠ [] := by intro e; subst e; simp at h0
    have hl := l47 s h1.2
    by_cases h4 : (97 : Int) ≤ (s[0].toNat : Int) ∧ (s[0].toNat : Int) ≤ 122
    · have h5 : ¬ ((s[0].toNat : Int) < 97) := by omega
      have h6 : ¬ ((122 : Int) < (s[0].toNat : Int)) := by omega
      cases hq : (List.range s.length).findSome? (badAt s) <;> rw [hq] at hl <;> simp [code47, exec_loopK, hl, nameB, h1, h3, h0, hne, h4, h5, h6, hq]
    · have h5 : (s[0].toNat : Int) < 97 ∨ (122 : Int) < (s[0].toNat : Int) := by omega
      simp [code47, nameB, h1, h3, h0, hne, h5]
      omega
  · by_cases hne : s = []
    · subst hne; simp [code47, nameB]
    · have h2 : (16 : Int) < (s.length : Int) := by
        have : 0 < s.length := List.length_pos_iff.2 hne
        omega
      simp [code47, nameB, h2, hne]
      omega

/-! ### Users -/
def uAt (us : List User) (name : List UInt8) (i : Nat) : Option Nat := match us[i]? with
  | some u => if u.name = name then some i else none
  | none => none
def upos (us : List User) (name : List UInt8) : Option Nat := (List.range us.length).findSome? (uAt us name)
theorem upos_some {us : List User} {name : List UInt8} {i : Nat} (h : upos us name = some i) : ∃ hi : i < us.length, us[i].name = name := by
  unfold upos at h
  obtain ⟨k, hk, hp⟩ := List.exists_of_findSome?_eq_some h
  have hk' : k < us.length := List.mem_range.1 hk
  simp [uAt, hk'] at hp
  obtain ⟨h1, rfl⟩ := hp
  exact ⟨hk', h1⟩
def posV : Option Nat → V
  | some i => .i .i64 i
  | none => .i .i64 (-1)
theorem l44 (us : List User) (name : List UInt8) (h : us.length ≤ 40) : loopK O [0, 1, 5] body44_1 [(0, .l (encU us)), (1, .s name), (5, .i .i64 0)] = some (optE (fun (i : Nat) => (.r, [(4, .i .i64 i)])) (.e 0, []) (upos us name)) := by
  have := loopK_code (o := O) (kin := [0, 1, 5]) (c := body44_1) (fun i => [(0, .l (encU us)), (1, .s name), (5, .i .i64 i)]) us.length (uAt us name) (fun (i : Nat) => (.r, [(4, .i .i64 i)])) (.e 0, []) (by simp) (by simp) (fun i hi => by
    have hw := wrap_i64 (i + 1) (by omega)
    simp [body44_1, hi, hw, uAt]) (by simp [body44_1]) (by simp)
  exact this
theorem e44 (us : List User) (name : List UInt8) (h : us.length ≤ 40) : O 44 [.l (encU us), .s name] = some (posV (upos us name)) := by
  refine orun (fc := code44) rfl rfl rfl ?_
  have hl := l44 us name h
  cases hp : upos us name <;> rw [hp] at hl <;> simp [code44, exec_loopK, hl, posV]
@[simp] theorem e56 (u : User) (name : List UInt8) : O 56 [u.v, .r [.s name]] = some (.b (decide (u.name = name))) := by
  refine orun (fc := code56) rfl rfl rfl ?_; simp [code56]
theorem l55 (us : List User) (name : List UInt8) (h : us.length ≤ 40) : loopK O [0, 1, 7, 8] body55_1 [(0, .l (encU us)), (1, .f (.func 56) [] [.r [.s name]]), (7, .i .i64 us.length), (8, .i .i64 0)] = some (optE (fun (i : Nat) => (.r, [(4, .i .i64 i)])) (.e 0, []) (upos us name)) := by
  have := loopK_code (o := O) (kin := [0, 1, 7, 8]) (c := body55_1) (fun i => [(0, .l (encU us)), (1, .f (.func 56) [] [.r [.s name]]), (7, .i .i64 us.length), (8, .i .i64 i)]) us.length (uAt us name) (fun (i : Nat) => (.r, [(4, .i .i64 i)])) (.e 0, []) (by simp) (by simp) (fun i hi => by
    have hw := wrap_i64 (i + 1) (by omega)
    simp [body55_1, hi, hw, uAt]) (by simp [body55_1]) (by simp)
  exact this
theorem e55 (us : List User) (name : List UInt8) (h : us.length ≤ 40) : O 55 [.l (encU us), .f (.func 56) [] [.r [.s name]]] = some (posV (upos us name)) := by
  refine orun (fc := code55) rfl rfl rfl ?_
  have hl := l55 us name h
  cases hp : upos us name <;> rw [hp] at hl <;> simp [code55, exec_loopK, hl, posV]
theorem e53 (us : List User) (name : List UInt8) (h : us.length ≤ 40) : O 53 [.l (encU us), .s name] = some (posV (upos us name)) := by
  refine orun (fc := code53) rfl rfl rfl ?_
  have h55 := e55 us name h
  cases hp : upos us name <;> rw [hp] at h55 <;> simp [posV] at h55 <;> simp [code53, h55, posV]
def got (us : List User) (name : List UInt8) : User × Bool := match (upos us name).bind (us[·]?) with
  | some u => (u, true)
  | none => (⟨[], 0, 0⟩, false)
def gotV (p : User × Bool) : V := .t [p.1.v, .b p.2]
theorem e22 (us : List User) (name : List UInt8) (h : us.length ≤ 40) : O 22 [.l (encU us), .s name] = some (gotV (got us name)) := by
  refine orun (fc := code22) rfl rfl rfl ?_
  have h44 := e44 us name h
  cases hp : upos us name with
  | none => rw [hp] at h44; simp [posV] at h44; simp [code22, h44, gotV, got, hp]
  | some i =>
    obtain ⟨hi, _⟩ := upos_some hp
    rw [hp] at h44; simp [posV] at h44; simp [code22, h44, gotV, got, hp, hi]
theorem e38 (us : List User) (name : List UInt8) (h : us.length ≤ 40) : O 38 [.l (encU us), .s name] = some (gotV (got us name)) := by
  refine orun (fc := code38) rfl rfl rfl ?_
  have h53 := e53 us name h
  cases hp : upos us name with
  | none => rw [hp] at h53; simp [posV] at h53; simp [code38, h53, gotV, got, hp]
  | some i =>
    obtain ⟨hi, _⟩ := upos_some hp
    rw [hp] at h53; simp [posV] at h53; simp [code38, h53, gotV, got, hp, hi]
def has (us : List User) (name : List UInt8) (r : Int) : Bool := (got us name).2 && known r && decide (bitsV .and .i64 (got us name).1.rights r = r)
theorem e23 (us : List User) (name : List UInt8) (r : Int) (h : us.length ≤ 40) : O 23 [.l (encU us), .s name, .i .i64 r] = some (.b (has us name r)) := by
  refine orun (fc := code23) rfl rfl rfl ?_
  have h22 := e22 us name h
  unfold gotV at h22
  cases h1 : (got us name).2 <;> cases h2 : known r <;> rw [h1] at h22 <;> simp [code23, h22, has, h1, h2]
theorem e39 (us : List User) (name : List UInt8) (r : Int) (h : us.length ≤ 40) : O 39 [.l (encU us), .s name, .i .i64 r] = some (.b (has us name r)) := by
  refine orun (fc := code39) rfl rfl rfl ?_
  have h38 := e38 us name h
  unfold gotV at h38
  cases h1 : (got us name).2 <;> cases h2 : known r <;> rw [h1] at h38 <;> simp [code39, h38, has, h1, h2]
def ulong (us : List User) (i : Nat) : Option Unit := match us[i]? with
  | some u => if (200 : Int) < (u.name.length : Int) then some () else none
  | none => none
def ugreat (us : List User) : Bool := decide (40 < us.length) || ((List.range us.length).findSome? (ulong us)).isSome
theorem l16 (us : List User) (h : us.length ≤ 40) : loopK O [0, 3] body16_1 [(0, .l (encU us)), (3, .i .i64 0)] = some (optE (fun _ => (.r, [(2, .b true)])) (.e 0, []) ((List.range us.length).findSome? (ulong us))) := by
  have := loopK_code (o := O) (kin := [0, 3]) (c := body16_1) (fun i => [(0, .l (encU us)), (3, .i .i64 i)]) us.length (ulong us) (fun _ => (.r, [(2, .b true)])) (.e 0, []) (by simp) (by simp) (fun i hi => by
    have hw := wrap_i64 (i + 1) (by omega)
    simp [body16_1, hi, hw, ulong]) (by simp [body16_1]) (by simp)
  exact this
@[simp] theorem e16 (us : List User) : O 16 [.l (encU us)] = some (.b (ugreat us)) := by
  refine orun (fc := code16) rfl rfl rfl ?_
  by_cases h : 40 < us.length
  · have h2 : (40 : Int) < (us.length : Int) := by omega
    simp [code16, ugreat, h, h2]
  · have h2 : ¬ ((40 : Int) < (us.length : Int)) := by omega
    have hl := l16 us (by omega)
    cases hq : (List.range us.length).findSome? (ulong us) <;> rw [hq] at hl <;> simp [code16, exec_loopK, ugreat, h, h2, hl, hq]
theorem ugreat_len {us : List User} (h : ugreat us = false) : us.length ≤ 40 := by
  simp only [ugreat, Bool.or_eq_false_iff, decide_eq_false_iff_not] at h
  omega
end Go.Proofs.Ythonmlhljdhlbaa
