/-
  The laws: the version that holds, all versions, all names; the days on which versions begin.
-/
import Derived.Test.YtlmbgmobghmmmaaSpec5
import Derived.Test.YtlmbgmobghmmmaaSpec6
import Derived.Test.YtlmbgmobghmmmaaSpec7
namespace Go.Proofs.Ytlmbgmobghmmmaa
open Go.VM
theorem lightB_len {l : List Product} (h : lightB l = true) : l.length ≤ 100 := by
  unfold lightB at h
  simp only [Bool.and_eq_true, Bool.not_eq_true', decide_eq_false_iff_not] at h
  omega
theorem atP_some (l : List Product) (n : List UInt8) (d : Int) (hl : ∀ p ∈ l, Lite p) : ∃ (p : Product) (b : Bool), atP l n d = .t [p.v, .b b] ∧ Lite p := by
  unfold atP
  have hs := atI_spec l n d l.length (Nat.le_refl _)
  cases hb : atI l n d l.length with
  | none => exact ⟨zeroP, false, rfl, lite_zero⟩
  | some k =>
    rw [hb] at hs
    obtain ⟨hk, _⟩ := hs
    exact ⟨l[k], true, by simp only [List.getElem?_eq_getElem hk, Option.getD_some], hl _ (List.getElem_mem hk)⟩
theorem verS_lite {l : List Product} (n : List UInt8) (hl : ∀ p ∈ l, Lite p) : ∀ p ∈ verS l n, Lite p := fun p hp => hl p (List.mem_filter.1 hp).1
theorem verS_le (l : List Product) (n : List UInt8) : (verS l n).length ≤ l.length := List.length_filter_le _ _
theorem l5 (u : List (List UInt8)) (h : u.length ≤ 1000) : loopK O [11, 12, 13] body5_1 [(11, .ow 9 (strs u)), (12, .ow 9 (strs u)), (13, .i .i64 0)] = some (.e 0, []) := by
  have := loopK_run (o := O) (kin := [11, 12, 13]) (c := body5_1) (fun i => [(11, .ow 9 (encL V.s u)), (12, .ow 9 (encL V.s u)), (13, .i .i64 i)]) u.length (.e 0, []) (by simp) (fun i hi => by
    have hw := wrap_i64 (i + 1) (by omega)
    simp [body5_1, hi, hw]) (by simp [body5_1]) (by simp)
  exact this
theorem e5 (l : List Product) (hl : l.length ≤ maxLen) (n : List UInt8) (d : Int) : O 5 [.l (encL Product.v l), .s n, .i .i64 d] = some (.b true) := by
  refine orun (fc := code5) rfl rfl rfl ?_
  have h9 := e9 l hl
  cases hb : lightB l <;> rw [hb] at h9
  · simp [code5, h9, live]
  · by_cases hn : 100 < n.length
    · have hn' : (100 : Int) < n.length := by omega
      simp [code5, h9, hn', live]
    · have hn' : ¬ (100 : Int) < n.length := by omega
      have h100 := lightB_len hb
      have hlt : ∀ p ∈ l, Lite p := fun p hp => lite_of hb hp
      obtain ⟨p, b, hp, hlp⟩ := atP_some l n d hlt
      have h16 := e16 l n d (by omega)
      have h17 := e17 l n d (by omega)
      rw [hp] at h16 h17
      have h18 := e18 l (by omega)
      have h19 := e19 l (by omega)
      have h21 := e21 l n (by omega)
      have h22 := e22 l n (by omega)
      have hvl := verS_le l n
      have h15 := e15 (verS l n) (by omega) (verS_lite n hlt)
      have h20 := e20 p p hlp hlp
      rw [sameP_refl] at h20
      have hul := sortedN_len l
      have hl5 := l5 (sortedN l) (by omega)
      have e1 : isortS (keysN (l.map (·.name))) = sortedN l := rfl
      rw [e1] at h18
      generalize sortedN l = u at h18 h19 hl5
      generalize verS l n = v at h21 h22 h15
      generalize encL Product.v v = VV at h21 h22 h15
      generalize encL Product.v l = L at h9 h16 h17 h18 h19 h21 h22 ⊢
      have hsl := len_strs u
      generalize strs u = U at h18 h19 hl5 hsl
      cases b <;> simp [code5, h9, hn', h16, h17, h18, h19, h20, h21, h22, h15, exec_loopK, hl5, live]
theorem e6 (l : List Product) (hl : l.length ≤ maxLen) (n : List UInt8) (s : Span) : O 6 [.l (encL Product.v l), .s n, s.v] = some (.b true) := by
  refine orun (fc := code6) rfl rfl rfl ?_
  have h9 := e9 l hl
  cases hb : lightB l <;> rw [hb] at h9
  · simp [code6, h9, live]
  · by_cases hn : 100 < n.length
    · have hn' : (100 : Int) < n.length := by omega
      simp [code6, h9, hn', live]
    · have hn' : ¬ (100 : Int) < n.length := by omega
      have h100 := lightB_len hb
      have h24 := e24 l n s.from' s.to' (by omega)
      have h25 := e25 l n s.from' s.to' (by omega)
      have hvl := verS_le l n
      have hdl := dayF_len (verS l n) s.from' s.to' (verS l n).length
      rw [List.take_length] at hdl
      have hul := uni_len (dayF (verS l n) s.from' s.to') []
      have h23 := e23 (uni (dayF (verS l n) s.from' s.to') []) (by simp at hul; omega)
      generalize ints (uni (dayF (verS l n) s.from' s.to') []) = U at h24 h25 h23
      generalize encL Product.v l = L at h9 h24 h25 ⊢
      simp [code6, h9, hn', h24, h25, h23, live]
end Go.Proofs.Ytlmbgmobghmmmaa
