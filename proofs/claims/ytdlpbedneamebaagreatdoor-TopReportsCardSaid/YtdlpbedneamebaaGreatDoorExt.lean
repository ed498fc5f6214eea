/-
  The functions that are not run by their codes: Of, slices.Clone, Pack, Itoa; the oracle of all functions below the laws.
-/
import Derived.Test.YtdlpbedneamebaaGreatDoorArgs
import Derived.Test.YtdlpbedneamebaaGreatDoorSpec
import Derived.Test.YtdlpbedneamebaaGreatDoorVmO
import Derived.Test.YtdlpbedneamebaaGreatDoorPost
import Derived.KernelRfl
namespace Go.Proofs.YtdlpbedneamebaaGreatDoor
open Go.VM Go.RowKit
/-! ### Numerals that the kernel can run -/
def digF : Nat → Nat → List UInt8
  | 0, _ => []
  | n + 1, u => if u < 10 then [UInt8.ofNat (48 + u)] else digF n (u / 10) ++ [UInt8.ofNat (48 + u % 10)]
theorem digF_eq : ∀ (n u : Nat), 0 < n → u < 10 ^ n → digF n u = Lib.decDigits u
  | 0, _, h, _ => absurd h (Nat.lt_irrefl 0)
  | n + 1, u, _, h => by
    rw [Lib.decDigits, digF]
    by_cases hu : u < 10
    · rw [if_pos hu, dif_pos hu]
    · rw [if_neg hu, dif_neg hu]
      have h2 : u / 10 < 10 ^ n := by
        rw [Nat.pow_succ] at h
        exact Nat.div_lt_of_lt_mul (by omega)
      have hn : 0 < n := by
        rcases Nat.eq_zero_or_pos n with rfl | hn
        · simp at h; omega
        · exact hn
      rw [digF_eq n (u / 10) hn h2]
def itoaK (n : Int) : List UInt8 := if n < 0 then 45 :: digF 20 n.natAbs else digF 20 n.toNat
theorem itoaK_eq (n : Int) (h0 : -9223372036854775808 ≤ n) (h1 : n ≤ 9223372036854775807) : itoaK n = Lib.itoa n := by
  unfold itoaK Lib.itoa
  rw [digF_eq 20 n.natAbs (by decide) (by omega), digF_eq 20 n.toNat (by decide) (by omega)]
def packsK (l : List (List UInt8)) : List UInt8 := l.flatMap fun s => itoaK s.length ++ 58 :: s
theorem packsK_eq : ∀ (l : List (List UInt8)), (∀ s ∈ l, s.length ≤ 1000000) → packsK l = packs l
  | [], _ => rfl
  | s :: l, h => by
    have h1 := h s (List.mem_cons_self ..)
    have ih := packsK_eq l fun x hx => h x (List.mem_cons_of_mem _ hx)
    simp only [packsK, packs, List.flatMap_cons, packed] at ih ⊢
    rw [ih, itoaK_eq _ (by omega) (by omega)]
/-! ### Data read back -/
def legsOf : List V → Option (List Leg)
  | [] => some []
  | .a [.i .i64 a, .i .i64 n, .s c] :: r => (legsOf r).map (⟨a, n, c⟩ :: ·)
  | _ => none
theorem legsOf_eq : ∀ {ls : List V} {l : List Leg}, legsOf ls = some l → ls = encL Leg.v l
  | [], l, h => by cases h; rfl
  | x :: r, l, h => by
    unfold legsOf at h
    split at h
    · rename_i he; cases he
    · rename_i a n c r' he
      cases he
      simp only [Option.map_eq_some_iff] at h
      obtain ⟨t, h1, rfl⟩ := h
      rw [legsOf_eq h1]; rfl
    · cases h
def entsOf : List V → Option (List Entry)
  | [] => some []
  | .a [.i .i64 a0, .i .i64 a1, .i .i64 a2, .i .i64 a3, .i .i64 a4, .i .i64 a5, .s k, .s t, .l ls, .i .u64 ch] :: r => (legsOf ls).bind fun l => (entsOf r).map (⟨a0, a1, a2, a3, a4, a5, k, t, l, ch⟩ :: ·)
  | _ => none
theorem entsOf_eq : ∀ {es : List V} {l : List Entry}, entsOf es = some l → es = encL Entry.v l
  | [], l, h => by cases h; rfl
  | x :: r, l, h => by
    unfold entsOf at h
    split at h
    · rename_i he; cases he
    · rename_i he
      cases he
      simp only [Option.bind_eq_some_iff, Option.map_eq_some_iff] at h
      obtain ⟨ls, h1, t, h2, rfl⟩ := h
      rw [entsOf_eq h2, legsOf_eq h1]; rfl
    · cases h
/-! ### The oracle -/
def ofX (xs : List V) : Option V := match xs with
  | [.l es, .i .i64 a] => (entsOf es).bind fun l => if jok l = true then some (.i .i64 (ofF a l)) else none
  | _ => none
def itoaX (xs : List V) : Option V := match xs with
  | [.i .i64 n] => if -9223372036854775808 ≤ n ∧ n ≤ 9223372036854775807 then some (.s (itoaK n)) else none
  | _ => none
def packX (xs : List V) : Option V := match xs with
  | [.l ts] => (textsOf ts).bind fun l => if l.length ≤ 1000 ∧ l.all (fun s => decide (s.length ≤ 1000000)) = true then some (.s (packsK l)) else none
  | _ => none
def ext0 : Orc := fun f xs => if f = 12 then ofX xs else if f = 111 then cloneF 61 3 32 xs else if f = 165 then packX xs else if f = 203 then itoaX xs else none
theorem ext0_PF {f : Nat} {xs : List V} {y : V} (h : ext0 f xs = some y) : okFn Tryz.prog f = true ∧ PF Tryz.prog f xs y := by
  unfold ext0 at h
  split at h
  · rename_i hf; subst hf
    refine ⟨by kernel_rfl, ?_⟩
    unfold ofX at h
    split at h
    · simp only [Option.bind_eq_some_iff] at h
      obtain ⟨l, hl, h⟩ := h
      split at h
      · rename_i hj
        cases h
        rw [entsOf_eq hl]
        exact of_PF hj
      · cases h
    · cases h
  · split at h
    · rename_i hf; subst hf
      exact cloneF_PF mutOK (t := 56) (tb := 4) (p1 := cp1) (p2 := #[]) (p3 := #[]) (p4 := cp4) (p5 := cp5) (zc := [.i .i64 0, .i .i64 0, .s []]) Tryz.func111 (by kernel_rfl) (by kernel_rfl) (by kernel_rfl) (by kernel_rfl) (by kernel_rfl) (by kernel_rfl) (by kernel_rfl) (by kernel_rfl) (by decide) xs y h
    · split at h
      · rename_i hf; subst hf
        refine ⟨by kernel_rfl, ?_⟩
        unfold packX at h
        split at h
        · rename_i ts
          simp only [Option.bind_eq_some_iff] at h
          obtain ⟨l, hl, h⟩ := h
          split at h
          · rename_i hc
            cases h
            refine pack_PF ?_
            unfold packF
            simp only [hl, Option.bind_some]
            rw [if_pos hc, packsK_eq l fun s hs => by have := List.all_eq_true.1 hc.2 s hs; simpa using this]
          · cases h
        · cases h
      · split at h
        · rename_i hf; subst hf
          refine ⟨by kernel_rfl, ?_⟩
          unfold itoaX at h
          split at h
          · split at h
            · rename_i hc
              cases h
              rw [itoaK_eq _ hc.1 hc.2]
              exact itoa_PF hc.1 hc.2
            · cases h
          · cases h
        · cases h
noncomputable abbrev O0 : Orc := O ext0
set_option maxRecDepth 100000 in
theorem sound0' : SoundO Tryz.prog O0 := den_sound (fun f fc h => by
  unfold tab at h
  split at h
  · cases h
  · exact tabP_ok codes_ok h) (fun f xs y h => ext0_PF h) mutOK
end Go.Proofs.YtdlpbedneamebaaGreatDoor
namespace Go.Proofs.YtdlpbedneamebaaGreatDoor
open Go.VM
def exInt : Interest := ⟨[⟨0, 36000⟩], false, 1, 6, false⟩
def bkA : Books := ⟨[⟨[69, 85, 82], 2⟩], [⟨[104, 111, 109, 101], [], []⟩],
  [⟨101, 0, 1, [99, 97, 115, 104]⟩, ⟨102, 0, 1, [99, 108, 101, 97, 114, 105, 110, 103]⟩, ⟨103, 0, 1, [108, 111, 97, 110, 115]⟩, ⟨201, 0, 2, [100, 101, 112, 111, 115, 105, 116, 115]⟩, ⟨202, 0, 2, [111, 116, 104, 101, 114]⟩, ⟨301, 0, 4, [105, 110, 99, 111, 109, 101]⟩, ⟨401, 0, 5, [101, 120, 112, 101, 110, 115, 101]⟩],
  ⟨101, 201, 401, 301, 301, 202, 102, 103, 301, 301, 202, 401, 401, 301⟩,
  [⟨[103, 105, 114, 111], [69, 85, 82], [104, 111, 109, 101], 9000, 1, 500, 0, exInt, exInt, [], []⟩],
  [⟨1000, 9678, 0, 0, [97, 110, 110, 97], [103, 105, 114, 111], [67, 66, 48, 48, 48, 48, 49, 48, 48, 48, 51, 51]⟩, ⟨1001, 9678, 0, 0, [98, 101, 110], [103, 105, 114, 111], [67, 66, 48, 48, 48, 48, 49, 48, 48, 49, 51, 48]⟩], [], [], []⟩
def exLegs : List Leg := [⟨101, 100000, [69, 85, 82]⟩, ⟨1000, -100000, [69, 85, 82]⟩]
def enA : Entry := ⟨0, 9678, 9678, 1, 0, 0, [107], [], exLegs, 0⟩
def enB : Entry := ⟨1, 9678, 9678, 1, 0, 0, [107], [], exLegs, 10051695697490119444⟩
theorem a22 : O0 22 [] = some bkA.v := runN_den (k := 60) 12 22 [] _ (by kernel_rfl)
theorem a24 : O0 24 [enA.v] = some (.i .i64 0) := runN_den (k := 60) 12 24 _ _ (by kernel_rfl)
theorem a25 : O0 25 [.l (encL Entry.v bkA.journal), .s enA.key] = some (.t [.a z10, .b false]) := runN_den (k := 60) 12 25 _ _ (by kernel_rfl)
theorem a26 : O0 26 [bkA.v, enA.v] = some (.i .i64 0) := runN_den (k := 60) 12 26 _ _ (by kernel_rfl)
theorem a27 : O0 27 [bkA.v, enA.v] = some (.i .i64 0) := runN_den (k := 60) 12 27 _ _ (by kernel_rfl)
theorem a28 : O0 28 [.l (encL Entry.v bkA.journal), enA.v] = some (.t [.ow 59 [enB.v], .i .i64 0]) := runN_den (k := 100) 12 28 _ _ (by kernel_rfl)
theorem a12 : O0 12 [.l [enB.v], .i .i64 1000] = some (.i .i64 100000) := runN_den (k := 60) 12 12 _ _ (by kernel_rfl)
theorem a13 : O0 13 [.a (cellsJ bkA [enB.v]), .i .i64 1000, .i .i64 9678] = some (.b true) := runN_den (k := 60) 12 13 _ _ (by kernel_rfl)
theorem postA : PF Tryz.prog 11 [bkA.v, enA.v] (.t [.a (cellsJ bkA [enB.v]), .i .i64 0]) := post_PF sound0' bkA enA [enB.v] a24 a25 a26 a27 a28 rfl (by decide)
end Go.Proofs.YtdlpbedneamebaaGreatDoor
