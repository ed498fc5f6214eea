/-
  The law that an addition leaves everything else as it was.
-/
import Derived.Test.YtlmbgmobghmmmaaSpecD
namespace Go.Proofs.Ytlmbgmobghmmmaa
open Go.VM
theorem mid_self {l : List Product} {p : Product} {lb : Nat} : p ∈ l.take lb ++ p :: l.drop lb := List.mem_append_right _ (List.mem_cons_self ..)
/-- The added version holds on its first day. -/
theorem at_added {l : List Product} {p : Product} (hd : dupS l p = none) (lb : Nat) : atQ (l.take lb ++ p :: l.drop lb) p.name p.from' = some p := by
  have hs := atQ_spec (l.take lb ++ p :: l.drop lb) p.name p.from'
  have hc : candB p.name p.from' p = true := by simp [candB]
  cases hr : atQ (l.take lb ++ p :: l.drop lb) p.name p.from' with
  | none =>
    rw [hr] at hs
    have := hs p mid_self
    rw [hc] at this; cases this
  | some r =>
    rw [hr] at hs
    obtain ⟨h1, h2, h3⟩ := hs
    have hge := h3 p mid_self hc
    simp only [candB, Bool.and_eq_true, decide_eq_true_eq] at h2
    rcases mid_mem h1 with h | h
    · rw [h]
    · exact absurd ⟨h2.1, by omega⟩ (dup_none hd h)
theorem at_kept {l : List Product} {p : Product} {lb : Nat} {n : List UInt8} {d : Int} (h : ¬ (n = p.name ∧ p.from' ≤ d)) : atQ (l.take lb ++ p :: l.drop lb) n d = atQ l n d := by
  have hc : candB n d p = false := by
    unfold candB
    cases hx : decide (p.name = n) && decide (p.from' ≤ d) with
    | false => rfl
    | true => simp only [Bool.and_eq_true, decide_eq_true_eq] at hx; exact absurd ⟨hx.1.symm, hx.2⟩ h
  rw [atQ_skip hc, List.take_append_drop]
theorem pair_some (r : Option Product) (l : List Product) (n : List UInt8) (d : Int) (hr : atQ l n d = r) (hl : ∀ q ∈ l, Lite q) : ∃ (z : Product) (b : Bool), pairV r = .t [z.v, .b b] ∧ Lite z := by
  have hs := atQ_spec l n d
  rw [hr] at hs
  cases r with
  | none => exact ⟨zeroP, false, rfl, lite_zero⟩
  | some q => exact ⟨q, true, rfl, hl _ hs.1⟩
/-- What a call returned in a tuple, nobody writing it any more. -/
theorem frzT {P : Program} {f : FuncId} {xs ys : List V} (h : PF P f xs (.t ys)) : PF P f xs (.t (ys.map frz)) := by
  intro S w vs hS hG hr
  refine (h S w vs hS hG hr).mono fun r w' ⟨v, he, hb, S', hS1, hS2, hres⟩ => ⟨v, he, hb, fun b => (S b ∨ w.heap.size ≤ b) ∧ b < w'.heap.size, fun b hb' => hS2 b (hS1 b hb'), fun b hb' => hb', ?_⟩
  obtain ⟨us, rfl, hl, hh, _⟩ := hres
  refine ⟨us, rfl, by simpa using hl, fun j u x hu hx => ?_, fun i j u u' x x' g _ _ _ hx _ ho => ?_⟩
  · rw [List.getElem?_map] at hx
    cases hy : ys[j]? with
    | none => rw [hy] at hx; cases hx
    | some y =>
      rw [hy] at hx
      simp only [Option.map_some, Option.some.injEq] at hx
      subst hx
      have h1 := hh j u y hu hy
      have h2 := Res1.frz (P := P) (y := y) h1 (S' := fun b => (S b ∨ w.heap.size ≤ b) ∧ b < w'.heap.size) (fun b hb' => hS2 b hb') (fun b h1 h2 => ⟨.inr h1, h2⟩)
      cases y <;> first | exact h2 | exact h1.elim
  · rw [List.getElem?_map] at hx
    cases hy : ys[i]? with
    | none => rw [hy] at hx; cases hx
    | some y =>
      rw [hy] at hx
      simp only [Option.map_some, Option.some.injEq] at hx
      subst hx
      exfalso
      cases y <;> cases ho
/-- Add's answer as one that nobody writes: the last law looks into it in regions that draw their order. -/
noncomputable def extB : Orc := fun f xs => if f = 13 then (O 13 xs).bind fun y => match y with
  | .t ys => some (.t (ys.map frz))
  | _ => none
  else O f xs
def tabB (f : Nat) : Option FCode := if f = 8 then some code8 else none
noncomputable def OB : Orc := den tabB extB
theorem OB_old {f : Nat} {xs : List V} {y : V} (h8 : f ≠ 8) (h13 : f ≠ 13) (h : O f xs = some y) : OB f xs = some y := den_ext (by rw [tabB, if_neg h8]) (by rw [extB, if_neg h13]; exact h)
theorem OB_13 {xs ys : List V} (h : O 13 xs = some (.t ys)) : OB 13 xs = some (.t (ys.map frz)) := den_ext rfl (by rw [extB, if_pos rfl, h]; rfl)
set_option maxHeartbeats 16000000 in
theorem l8 (l : List Product) (p : Product) (s : Span) (M : List V) (hl : ∀ q ∈ l, Lite q) (h : l.length ≤ 1000)
    (hM : ∀ q ∈ l, ¬ (q.name = p.name ∧ p.from' ≤ s.to') → O 16 [.l M, .s q.name, .i .i64 s.to'] = some (pairV (atQ l q.name s.to'))) :
    loopK OB [0, 4, 5, 7, 13] body8_1 [(0, .l (encL Product.v l)), (4, .bx p.cells), (5, .bx s.cells), (7, .l M), (13, .i .i64 0)] = some (.e 0, []) := by
  have := loopK_run (o := OB) (kin := [0, 4, 5, 7, 13]) (c := body8_1) (fun i => [(0, .l (encL Product.v l)), (4, .bx p.cells), (5, .bx s.cells), (7, .l M), (13, .i .i64 i)]) l.length (.e 0, []) (by simp) (fun i hi => by
    have hw := wrap_i64 (i + 1) (by omega)
    by_cases hc : l[i].name = p.name ∧ p.from' ≤ s.to'
    · obtain ⟨h1, h2⟩ := hc
      simp [body8_1, hi, hw, h1, h2]
    · have hA := e16 l l[i].name s.to' h
      rw [atP_Q] at hA
      have hB := hM _ (List.getElem_mem hi) hc
      obtain ⟨z, b, hz, hlz⟩ := pair_some _ l l[i].name s.to' rfl hl
      rw [hz] at hA hB
      have h20 := e20 z z hlz hlz
      rw [sameP_refl] at h20
      replace hA := OB_old (by decide) (by decide) hA
      replace hB := OB_old (by decide) (by decide) hB
      replace h20 := OB_old (by decide) (by decide) h20
      have hL : (encL Product.v l)[i]? = some l[i].v := by simp [hi]
      have hLl : i < (encL Product.v l).length := (List.getElem?_eq_some_iff.1 hL).1
      have hLe : (encL Product.v l)[i] = l[i].v := (List.getElem?_eq_some_iff.1 hL).2
      generalize l[i] = q at hA hB hc hLe hL
      generalize encL Product.v l = L at hA hLl hLe hL ⊢
      by_cases h1 : q.name = p.name
      · have h2 : ¬ p.from' ≤ s.to' := fun h2 => hc ⟨h1, h2⟩
        rw [h1] at hA hB
        cases b <;> simp (config := { maxSteps := 1000000 }) [body8_1, hLl, hLe, hw, h1, h2, hA, hB, h20]
      · cases b <;> simp (config := { maxSteps := 1000000 }) [body8_1, hLl, hLe, hw, h1, hA, hB, h20]) (by simp [body8_1]) (by simp)
  exact this
theorem e8 (l : List Product) (hl : l.length ≤ maxLen) (p : Product) (s : Span) : OB 8 [.l (encL Product.v l), p.v, s.v] = some (.b true) := by
  refine VM.run (fc := code8) rfl rfl rfl ?_
  show retE code8.res (exec OB code8.body _) = _
  have h9 := OB_old (by decide) (by decide) (e9 l hl)
  have h9p := e9 [p] (by show 1 ≤ maxLen; unfold maxLen; omega)
  rw [one_enc] at h9p
  replace h9p := OB_old (by decide) (by decide) h9p
  have live := OB_old (by decide) (by decide) live
  cases hb : lightB l <;> rw [hb] at h9
  · simp [code8, h9, live]
  cases hbp : lightB [p] <;> rw [hbp] at h9p
  · simp [code8, h9, h9p, live]
  have h100 := lightB_len hb
  have h11 := OB_old (by decide) (by decide) (e11 l (by omega))
  by_cases hc0 : chk l = 0
  · rw [hc0] at h11
    have h13 := e13 l p (by omega)
    have h14 := OB_old (by decide) (by decide) (e14 l p (by omega))
    have hlt : ∀ q ∈ l, Lite q := fun q hq => lite_of hb hq
    have hlp : Lite p := lite_of hbp (List.mem_singleton.2 rfl)
    rcases addR_cases l p with ⟨e, he, hr⟩ | ⟨hc, hd, ho, h64, hr⟩
    · rw [hr] at h13 h14
      simp only [resA] at h13 h14
      replace h13 := OB_13 h13
      simp only [List.map_cons, List.map_nil, frz] at h13
      have hn : encL Product.v [] = [] := rfl
      rw [hn] at h13 h14
      generalize encL Product.v l = L at h9 h11 h13 h14 ⊢
      simp [code8, h9, h9p, h11, h13, h14, he, live]
    · rw [hr] at h13
      simp only [resA] at h13
      replace h13 := OB_13 h13
      simp only [List.map_cons, List.map_nil, frz] at h13
      have hml := mid_len l p (lbP l p) (lbP_le l p)
      have hat := at_added hd (lbP l p)
      have h16 := e16 (l.take (lbP l p) ++ p :: l.drop (lbP l p)) p.name p.from' (by omega)
      rw [atP_Q, hat] at h16
      simp only [pairV] at h16
      replace h16 := OB_old (by decide) (by decide) h16
      have h20 := e20 p p hlp hlp
      rw [sameP_refl] at h20
      replace h20 := OB_old (by decide) (by decide) h20
      have hl8 := l8 l p s (encL Product.v (l.take (lbP l p) ++ p :: l.drop (lbP l p))) hlt (by omega) (fun q hq hx => by
        have := e16 (l.take (lbP l p) ++ p :: l.drop (lbP l p)) q.name s.to' (by omega)
        rw [atP_Q, at_kept hx] at this
        exact this)
      generalize encL Product.v (l.take (lbP l p) ++ p :: l.drop (lbP l p)) = M at h13 h16 hl8
      generalize encL Product.v l = L at h9 h11 h13 hl8 ⊢
      simp [code8, h9, h9p, h11, h13, h16, h20, exec_loopK, hl8, live]
  · simp [code8, h9, h9p, h11, hc0, live]
end Go.Proofs.Ytlmbgmobghmmmaa
