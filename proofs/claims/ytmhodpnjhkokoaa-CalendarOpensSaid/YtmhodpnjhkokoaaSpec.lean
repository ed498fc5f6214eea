/-
  What the functions that the laws reach compute: days, open days, searches.
-/
import Derived.Test.YtmhodpnjhkokoaaUnion
namespace Go.Proofs.Ytmhodpnjhkokoaa
open Go.VM
def ext : Orc := fun f xs => match f with
  | 48 => uniL xs
  | 50 => uniL xs
  | 53 => cloneL 3 1 8 xs
  | _ => none
def tab2 (f : Nat) : Option FCode := if f = 48 ∨ f = 50 then none else tab f
noncomputable def O : Orc := den tab2 ext
theorem orun {f : Nat} {fc : FCode} (ht : tab2 f = some fc) {args : List V} {y : V} (hl : args.length = fc.np) (ha : args.all V.arg = true) (h : retE fc.res (exec O fc.body (args0 0 args)) = some y) : O f args = some y := VM.run ht hl ha h
theorem live : O 11 [] = some (.b true) := runN_den (k := 60) 12 11 [] _ (by kernel_rfl)
@[simp] theorem e48' (a b : List Int) (h : a.length + b.length ≤ 1000) : O 48 [.l (encL (V.i .i64) a), .l (encL (V.i .i64) b)] = some (.l (encL (V.i .i64) (uni a b))) := den_ext rfl (by show uniL [.l (ints a), .l (ints b)] = _; simp [uniL, h])
@[simp] theorem e50' (a b : List Int) (h : a.length + b.length ≤ 1000) : O 50 [.l (encL (V.i .i64) a), .l (encL (V.i .i64) b)] = some (.l (encL (V.i .i64) (uni a b))) := den_ext rfl (by show uniL [.l (ints a), .l (ints b)] = _; simp [uniL, h])
theorem ints_all (l : List Int) : (encL (V.i .i64) l).all (fun x => x.cells.length == 1) = true := encL_all fun _ => rfl
theorem e53 (l : List Int) (_h : l.length ≤ maxLen) (hb : l.length * 8 ≤ 140737488355328) : O 53 [.l (encL (V.i .i64) l)] = some (.l (encL (V.i .i64) l)) := den_ext rfl (cloneL_enc (ints_all l) hb)
def validD (d : Int) : Bool := decide (0 ≤ d) && decide (d ≤ 73048)
@[simp] theorem e27 (d : Int) : O 27 [.i .i64 d] = some (.b (validD d)) := by
  refine orun (fc := code27) rfl rfl rfl ?_; simp [code27, validD]
@[simp] theorem e41 (d : Int) : O 41 [.i .i64 d] = some (.b (validD d)) := by
  refine orun (fc := code41) rfl rfl rfl ?_; simp [code41, validD]
theorem valid_iff {d : Int} : validD d = true ↔ 0 ≤ d ∧ d ≤ 73048 := by simp [validD]
def wd (d : Int) : Int := if validD d = true then Int.tmod (d + 5) 7 else -1
@[simp] theorem e43 (d : Int) : O 43 [.i .i64 d] = some (.i .i64 (wd d)) := by
  refine orun (fc := code43) rfl rfl rfl ?_
  unfold wd
  cases hv : validD d with
  | false => simp [code43, hv]
  | true =>
    have := valid_iff.1 hv
    have hw := wrap_i64 (d + 5) (by omega)
    simp [code43, hv, hw]
@[simp] theorem e45 (d : Int) : O 45 [.i .i64 d] = some (.i .i64 (wd d)) := by
  refine orun (fc := code45) rfl rfl rfl ?_
  unfold wd
  cases hv : validD d with
  | false => simp [code45, hv]
  | true =>
    have := valid_iff.1 hv
    have hw := wrap_i64 (d + 5) (by omega)
    simp [code45, hv, hw]
/-! ### Lists of numbers -/
def atB (l : List Int) (x : Int) (i : Nat) : Option Nat := match l[i]? with
  | some y => if x = y then some i else none
  | none => none
def posI (l : List Int) (x : Int) : Option Nat := (List.range l.length).findSome? (atB l x)
theorem posI_iff (l : List Int) (x : Int) : (posI l x).isSome = decide (x ∈ l) := by
  rw [Bool.eq_iff_iff, decide_eq_true_iff, Option.isSome_iff_exists]
  constructor
  · rintro ⟨_, h⟩
    obtain ⟨i, hi, h⟩ := List.exists_of_findSome?_eq_some h
    have hi' : i < l.length := List.mem_range.1 hi
    simp only [atB, List.getElem?_eq_getElem hi'] at h
    split at h
    · rename_i he
      rw [he]; exact List.getElem_mem hi'
    · cases h
  · intro h
    obtain ⟨i, hi, he⟩ := List.getElem_of_mem h
    cases hq : posI l x with
    | some u => exact ⟨u, rfl⟩
    | none =>
      have := range_find_none.1 hq i hi
      simp [atB, hi, he] at this
def posV : Option Nat → V
  | some i => .i .i64 i
  | none => .i .i64 (-1)
theorem l56 (l : List Int) (x : Int) (h : l.length ≤ 1000) : loopK O [0, 1, 7, 8] body56_1 [(0, .l (encL (V.i .i64) l)), (1, .i .i64 x), (7, .i .i64 l.length), (8, .i .i64 0)] = some (optE (fun (i : Nat) => (.r, [(4, .i .i64 i)])) (.e 0, []) (posI l x)) := by
  have := loopK_code (o := O) (kin := [0, 1, 7, 8]) (c := body56_1) (fun i => [(0, .l (encL (V.i .i64) l)), (1, .i .i64 x), (7, .i .i64 l.length), (8, .i .i64 i)]) l.length (atB l x) (fun (i : Nat) => (.r, [(4, .i .i64 i)])) (.e 0, []) (by simp) (by simp) (fun i hi => by
    have hw := wrap_i64 (i + 1) (by omega)
    by_cases c : x = l[i] <;> simp [body56_1, hi, hw, atB, c]) (by simp [body56_1]) (by simp)
  exact this
theorem e56 (l : List Int) (x : Int) (h : l.length ≤ 1000) : O 56 [.l (encL (V.i .i64) l), .i .i64 x] = some (posV (posI l x)) := by
  refine orun (fc := code56) rfl rfl rfl ?_
  have hl := l56 l x h
  cases hp : posI l x <;> rw [hp] at hl <;> simp [code56, exec_loopK, hl, posV]
@[simp] theorem e42 (l : List Int) (x : Int) (h : l.length ≤ 1000) : O 42 [.l (encL (V.i .i64) l), .i .i64 x] = some (.b (decide (x ∈ l))) := by
  refine orun (fc := code42) rfl rfl rfl ?_
  have h56 := e56 l x h
  rw [← posI_iff]
  cases hp : posI l x <;> rw [hp] at h56 <;> simp [posV] at h56 <;> simp [code42, h56]
theorem l44 (l : List Int) (x : Int) (h : l.length ≤ 1000) : loopK O [0, 1, 5] body44_1 [(0, .l (encL (V.i .i64) l)), (1, .i .i64 x), (5, .i .i64 0)] = some (optE (fun (_ : Nat) => (.r, [(4, .b true)])) (.e 0, []) (posI l x)) := by
  have := loopK_code (o := O) (kin := [0, 1, 5]) (c := body44_1) (fun i => [(0, .l (encL (V.i .i64) l)), (1, .i .i64 x), (5, .i .i64 i)]) l.length (atB l x) (fun (_ : Nat) => (.r, [(4, .b true)])) (.e 0, []) (by simp) (by simp) (fun i hi => by
    have hw := wrap_i64 (i + 1) (by omega)
    by_cases c : x = l[i]
    · simp [body44_1, hi, atB, c]
    · have c' : ¬ l[i] = x := fun e => c e.symm
      simp [body44_1, hi, hw, atB, c, c']) (by simp [body44_1]) (by simp)
  exact this
@[simp] theorem e44 (l : List Int) (x : Int) (h : l.length ≤ 1000) : O 44 [.l (encL (V.i .i64) l), .i .i64 x] = some (.b (decide (x ∈ l))) := by
  refine orun (fc := code44) rfl rfl rfl ?_
  have hl := l44 l x h
  rw [← posI_iff]
  cases hp : posI l x <;> rw [hp] at hl <;> simp [code44, exec_loopK, hl]
/-! ### Open days -/
/-- Small enough to be looked through. -/
def Small (c : Calendar) : Prop := c.weekend.length ≤ 1000 ∧ c.holidays.length ≤ 1000
def openB (c : Calendar) (d : Int) : Bool := validD d && (!decide (wd d ∈ c.weekend) && !decide (d ∈ c.holidays))
theorem e19 (c : Calendar) (d : Int) (h : Small c) : O 19 [c.v, .i .i64 d] = some (.b (openB c d)) := by
  refine orun (fc := code19) rfl rfl rfl ?_
  have h1 := e42 c.weekend (wd d) h.1
  have h2 := e42 c.holidays d h.2
  cases hv : validD d with
  | false => simp [code19, hv, openB]
  | true =>
    by_cases m1 : wd d ∈ c.weekend
    · simp [code19, hv, openB, h1, m1]
    · simp [code19, hv, openB, h1, h2, m1]
theorem e20 (c : Calendar) (d : Int) (h : Small c) : O 20 [c.v, .i .i64 d] = some (.b (openB c d)) := by
  refine orun (fc := code20) rfl rfl rfl ?_
  have h1 := e44 c.weekend (wd d) h.1
  have h2 := e44 c.holidays d h.2
  cases hv : validD d with
  | false => simp [code20, hv, openB]
  | true =>
    by_cases m1 : wd d ∈ c.weekend
    · simp [code20, hv, openB, h1, m1]
    · simp [code20, hv, openB, h1, h2, m1]
theorem e39 (c : Calendar) (d : Int) (h : Small c) : O 39 [.i .i64 d, .r c.cells] = some (.b (openB c d)) := by
  refine orun (fc := code39) rfl rfl rfl ?_
  have h1 := e19 c d h
  simp [code39, h1]
theorem e40 (c : Calendar) (d : Int) (h : Small c) : O 40 [.i .i64 d, .r c.cells] = some (.b (openB c d)) := by
  refine orun (fc := code40) rfl rfl rfl ?_
  have h1 := e19 c d h
  simp [code40, h1]
/-! ### Searches -/
/-- The first open day from a day on, and the last up to a day. -/
def upAt (c : Calendar) (d : Int) (i : Nat) : Option Int := if openB c (d + i) = true then some (d + i) else none
def dnAt (c : Calendar) (d : Int) (i : Nat) : Option Int := if openB c (d - i) = true then some (d - i) else none
def upD (c : Calendar) (d : Int) : Option Int := (List.range (73049 - d).toNat).findSome? (upAt c d)
def dnD (c : Calendar) (d : Int) : Option Int := (List.range (d + 1).toNat).findSome? (dnAt c d)
def dayV (v : Bool) : Option Int → V
  | some d => if v = true then .t [.i .i64 d, .i .i64 0] else .t [.i .i64 0, .i .i64 1]
  | none => if v = true then .t [.i .i64 0, .i .i64 11] else .t [.i .i64 0, .i .i64 1]
theorem l38u (c : Calendar) (d : Int) (h : Small c) (hv : validD d = true) : loopK O [0, 1, 2] body38_1 [(0, .i .i64 d), (1, .i .i64 1), (2, .f (.func 39) [] [.r c.cells])] = some (optE (fun x => (.r, [(6, .i .i64 x), (7, .i .i64 0)])) (.e 0, []) (upD c d)) := by
  have hd := valid_iff.1 hv
  obtain ⟨N, hN⟩ : ∃ N : Nat, (73049 - d).toNat = N := ⟨_, rfl⟩
  have := loopK_code (o := O) (kin := [0, 1, 2]) (c := body38_1) (fun i => [(0, .i .i64 (d + i)), (1, .i .i64 1), (2, .f (.func 39) [] [.r c.cells])]) N (upAt c d) (fun x => (.r, [(6, .i .i64 x), (7, .i .i64 0)])) (.e 0, []) (by simp) (by simp) (fun i hi => by
    have hw := wrap_i64 (d + (i + 1)) (by omega)
    have hvi : validD (d + i) = true := valid_iff.2 (by omega)
    have h39 := e39 c (d + i) h
    have ha : d + (i : Int) + 1 = d + ((i : Int) + 1) := by omega
    cases ho : openB c (d + i) <;> rw [ho] at h39 <;> simp [body38_1, hvi, h39, hw, upAt, ho, ha]) (by
      have hvi : validD (d + (N : Int)) = false := by
        cases hq : validD (d + (N : Int)) with
        | false => rfl
        | true => have := valid_iff.1 hq; omega
      simp [body38_1, hvi]) (by simp)
  have h0 : d + ((0 : Nat) : Int) = d := by simp
  rw [h0] at this
  unfold upD
  rw [hN]
  exact this
theorem l38d (c : Calendar) (d : Int) (h : Small c) (hv : validD d = true) : loopK O [0, 1, 2] body38_1 [(0, .i .i64 d), (1, .i .i64 (-1)), (2, .f (.func 40) [] [.r c.cells])] = some (optE (fun x => (.r, [(6, .i .i64 x), (7, .i .i64 0)])) (.e 0, []) (dnD c d)) := by
  have hd := valid_iff.1 hv
  obtain ⟨N, hN⟩ : ∃ N : Nat, (d + 1).toNat = N := ⟨_, rfl⟩
  have := loopK_code (o := O) (kin := [0, 1, 2]) (c := body38_1) (fun i => [(0, .i .i64 (d - i)), (1, .i .i64 (-1)), (2, .f (.func 40) [] [.r c.cells])]) N (dnAt c d) (fun x => (.r, [(6, .i .i64 x), (7, .i .i64 0)])) (.e 0, []) (by simp) (by simp) (fun i hi => by
    have hw := wrap_i64 (d - (i + 1)) (by omega)
    have hvi : validD (d - i) = true := valid_iff.2 (by omega)
    have h40 := e40 c (d - i) h
    have ha : d - (i : Int) + -1 = d - ((i : Int) + 1) := by omega
    cases ho : openB c (d - i) <;> rw [ho] at h40 <;> simp [body38_1, hvi, h40, hw, dnAt, ho, ha]) (by
      have hvi : validD (d - (N : Int)) = false := by
        cases hq : validD (d - (N : Int)) with
        | false => rfl
        | true => have := valid_iff.1 hq; omega
      simp [body38_1, hvi]) (by simp)
  have h0 : d - ((0 : Nat) : Int) = d := by simp
  rw [h0] at this
  unfold dnD
  rw [hN]
  exact this
theorem e15 (c : Calendar) (d : Int) (h : Small c) : O 15 [c.v, .i .i64 d] = some (dayV (validD d) (upD c d)) := by
  have h38 : O 38 [.i .i64 d, .i .i64 1, .f (.func 39) [] [.r c.cells]] = some (dayV (validD d) (upD c d)) := by
    refine orun (fc := code38) rfl rfl rfl ?_
    cases hv : validD d with
    | false => cases upD c d <;> simp [code38, hv, dayV]
    | true =>
      have hl := l38u c d h hv
      cases hp : upD c d <;> rw [hp] at hl <;> simp [code38, exec_loopK, hl, hv, dayV]
  refine orun (fc := code15) rfl rfl rfl ?_
  cases hv : validD d <;> cases hp : upD c d <;> rw [hv, hp] at h38 <;> simp [dayV] at h38 <;> simp [code15, h38, dayV]
theorem e17 (c : Calendar) (d : Int) (h : Small c) : O 17 [c.v, .i .i64 d] = some (dayV (validD d) (dnD c d)) := by
  have h38 : O 38 [.i .i64 d, .i .i64 (-1), .f (.func 40) [] [.r c.cells]] = some (dayV (validD d) (dnD c d)) := by
    refine orun (fc := code38) rfl rfl rfl ?_
    cases hv : validD d with
    | false => cases dnD c d <;> simp [code38, hv, dayV]
    | true =>
      have hl := l38d c d h hv
      cases hp : dnD c d <;> rw [hp] at hl <;> simp [code38, exec_loopK, hl, hv, dayV]
  refine orun (fc := code17) rfl rfl rfl ?_
  cases hv : validD d <;> cases hp : dnD c d <;> rw [hv, hp] at h38 <;> simp [dayV] at h38 <;> simp [code17, h38, dayV]
theorem l16 (c : Calendar) (d : Int) (h : Small c) (hv : validD d = true) : loopK O [2, 6] body16_1 [(2, .bx c.cells), (6, .i .i64 d)] = some (optE (fun x => (.r, [(4, .i .i64 x), (5, .i .i64 0)])) (.e 0, []) (upD c d)) := by
  have hd := valid_iff.1 hv
  obtain ⟨N, hN⟩ : ∃ N : Nat, (73049 - d).toNat = N := ⟨_, rfl⟩
  have := loopK_code (o := O) (kin := [2, 6]) (c := body16_1) (fun i => [(2, .bx c.cells), (6, .i .i64 (d + i))]) N (upAt c d) (fun x => (.r, [(4, .i .i64 x), (5, .i .i64 0)])) (.e 0, []) (by simp) (by simp) (fun i hi => by
    have hw := wrap_i64 (d + (i + 1)) (by omega)
    have hle : d + (i : Int) ≤ 73048 := by omega
    have h20 := e20 c (d + i) h
    have ha : d + (i : Int) + 1 = d + ((i : Int) + 1) := by omega
    cases ho : openB c (d + i) <;> rw [ho] at h20 <;> simp [body16_1, hle, h20, hw, upAt, ho, ha]) (by
      have hle : ¬ d + (N : Int) ≤ 73048 := by omega
      simp [body16_1, hle]) (by simp)
  have h0 : d + ((0 : Nat) : Int) = d := by simp
  rw [h0] at this
  unfold upD
  rw [hN]
  exact this
theorem e16 (c : Calendar) (d : Int) (h : Small c) : O 16 [c.v, .i .i64 d] = some (dayV (validD d) (upD c d)) := by
  refine orun (fc := code16) rfl rfl rfl ?_
  cases hv : validD d with
  | false => cases upD c d <;> simp [code16, hv, dayV]
  | true =>
    have hl := l16 c d h hv
    cases hp : upD c d <;> rw [hp] at hl <;> simp [code16, exec_loopK, hl, hv, dayV]
theorem l18 (c : Calendar) (d : Int) (h : Small c) (hv : validD d = true) : loopK O [2, 6] body18_1 [(2, .bx c.cells), (6, .i .i64 d)] = some (optE (fun x => (.r, [(4, .i .i64 x), (5, .i .i64 0)])) (.e 0, []) (dnD c d)) := by
  have hd := valid_iff.1 hv
  obtain ⟨N, hN⟩ : ∃ N : Nat, (d + 1).toNat = N := ⟨_, rfl⟩
  have := loopK_code (o := O) (kin := [2, 6]) (c := body18_1) (fun i => [(2, .bx c.cells), (6, .i .i64 (d - i))]) N (dnAt c d) (fun x => (.r, [(4, .i .i64 x), (5, .i .i64 0)])) (.e 0, []) (by simp) (by simp) (fun i hi => by
    have hw := wrap_i64 (d - (i + 1)) (by omega)
    have hle : (i : Int) ≤ d := by omega
    have h20 := e20 c (d - i) h
    have ha : d - (i : Int) - 1 = d - ((i : Int) + 1) := by omega
    cases ho : openB c (d - i) <;> rw [ho] at h20 <;> simp [body18_1, hle, h20, hw, dnAt, ho, ha]) (by
      have hle : ¬ (N : Int) ≤ d := by omega
      simp [body18_1, hle]) (by simp)
  have h0 : d - ((0 : Nat) : Int) = d := by simp
  rw [h0] at this
  unfold dnD
  rw [hN]
  exact this
theorem e18 (c : Calendar) (d : Int) (h : Small c) : O 18 [c.v, .i .i64 d] = some (dayV (validD d) (dnD c d)) := by
  refine orun (fc := code18) rfl rfl rfl ?_
  cases hv : validD d with
  | false => cases dnD c d <;> simp [code18, hv, dayV]
  | true =>
    have hl := l18 c d h hv
    cases hp : dnD c d <;> rw [hp] at hl <;> simp [code18, exec_loopK, hl, hv, dayV]
end Go.Proofs.Ytmhodpnjhkokoaa
