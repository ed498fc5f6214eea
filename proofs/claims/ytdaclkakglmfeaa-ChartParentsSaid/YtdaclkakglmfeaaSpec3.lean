/-
  What the functions that the laws reach compute: Check, the fields of a plan, signs, lists that are the same.
-/
import Derived.Test.YtdaclkakglmfeaaSpec2
namespace Go.Proofs.Ytdaclkakglmfeaa
open Go.VM
variable {X : Orc}
abbrev U := Int × Int
abbrev uV (u : U) : V := .a [.i .i64 u.1, .i .i64 u.2]
abbrev encU (l : List U) : List V := encL uV l
def usesL (p : Plan) : List U := [(p.cash, 1), (p.deposits, 2), (p.interestPaid, 5), (p.interestEarned, 4), (p.feeEarned, 4), (p.tax, 2), (p.clearing, 1), (p.loans, 1), (p.loanInterest, 4), (p.penalty, 4), (p.provision, 2), (p.provisionCost, 5), (p.loss, 5), (p.recovery, 4)]
theorem e26 (p : Plan) : O X 26 [p.v] = some (.ow 45 (encU (usesL p))) := by
  refine orun (fc := code26) rfl rfl rfl ?_
  kernel_rfl
def useE (l : List Gl) (u : U) : Int := match findG l u.1 with
  | none => 11
  | some g => if parentB l u.1 = true then 11 else if g.kind = u.2 then 0 else 3
theorem e29 (l : List Gl) (id k : Int) (h : l.length ≤ 1000) : O X 29 [.l (encG l), .i .i64 id, .i .i64 k] = some (.i .i64 (useE l (id, k))) := by
  refine orun (fc := code29) rfl rfl rfl ?_
  have h13 := e13 (X := X) l id h
  have h34 := e34 (X := X) l id h
  unfold useE
  cases hg : findG l id with
  | none => rw [hg] at h13; simp [gV, g0] at h13; simp [code29, h13]
  | some g =>
    rw [hg] at h13; simp [gV] at h13
    cases hp : parentB l id <;> rw [hp] at h34
    · by_cases hk : g.kind = k <;> simp [code29, h13, h34, hk]
    · simp [code29, h13, h34]
def elemAt (l : List Gl) (i : Nat) : Option Int := if elemE l i = 0 then none else some (elemE l i)
def useAt (l : List Gl) (us : List U) (i : Nat) : Option Int := match us[i]? with
  | some u => if useE l u = 0 then none else some (useE l u)
  | none => none
def chkG (l : List Gl) (p : Plan) : Int := if l.length < 1 ∨ 40 < l.length then 5 else match (List.range l.length).findSome? (elemAt l) with
  | some e => e
  | none => ((List.range 14).findSome? (useAt l (usesL p))).getD 0
theorem l10a (l : List Gl) (p : Plan) (h : FineG l) : loopK (O X) [0, 3, 20, 21] body10_1 [(0, .l (encG l)), (3, .bx p.cells), (20, .i .i64 l.length), (21, .i .i64 0)] = some (optE (fun (e : Int) => (.r, [(4, .i .i64 e)])) (.e 0, [(0, .l (encG l)), (3, .bx p.cells)]) ((List.range l.length).findSome? (elemAt l))) := by
  have hlen := h.len
  have := loopK_code (o := O X) (kin := [0, 3, 20, 21]) (c := body10_1) (fun i => [(0, .l (encG l)), (3, .bx p.cells), (20, .i .i64 l.length), (21, .i .i64 i)]) l.length (elemAt l) (fun (e : Int) => (.r, [(4, .i .i64 e)])) (.e 0, [(0, .l (encG l)), (3, .bx p.cells)]) (by simp) (by simp) (fun i hi => by
    have hw := wrap_i64 (i + 1) (by omega)
    have h25 := e25 (X := X) l i hi h
    unfold elemAt
    generalize elemE l i = e at h25
    by_cases h0 : e = 0
    · subst h0; simp [body10_1, hi, hw, h25]
    · simp [body10_1, hi, h25, h0]) (by simp [body10_1]) (by simp)
  exact this
theorem l10b (l : List Gl) (us : List U) (h : l.length ≤ 1000) (hu : us.length ≤ 1000) : loopK (O X) [0, 32, 33, 34] body10_2 [(0, .l (encG l)), (32, .ow 45 (encU us)), (33, .i .i64 us.length), (34, .i .i64 0)] = some (optE (fun (e : Int) => (.r, [(4, .i .i64 e)])) (.e 2, []) ((List.range us.length).findSome? (useAt l us))) := by
  have hal : (∀ x ∈ encU us, x.cells.length = 2) = True := encL_len fun _ => rfl
  have := loopK_code (o := O X) (kin := [0, 32, 33, 34]) (c := body10_2) (fun i => [(0, .l (encG l)), (32, .ow 45 (encU us)), (33, .i .i64 us.length), (34, .i .i64 i)]) us.length (useAt l us) (fun (e : Int) => (.r, [(4, .i .i64 e)])) (.e 2, []) (by simp) (by simp) (fun i hi => by
    have hw := wrap_i64 (i + 1) (by omega)
    have h12 := e12 (X := X) l us[i].1 h
    have h27 := e27 (X := X) l us[i].1 h
    have hU : useAt l us i = if useE l us[i] = 0 then none else some (useE l us[i]) := by unfold useAt; rw [List.getElem?_eq_getElem hi]
    rw [hU]
    unfold useE
    cases hg : findG l us[i].1 with
    | none => rw [hg] at h12; simp [gV, g0] at h12; simp (config := { maxSteps := 1000000 }) [body10_2, hi, h12]
    | some g =>
      rw [hg] at h12; simp [gV] at h12
      cases hp : parentB l us[i].1 <;> rw [hp] at h27
      · by_cases hk : g.kind = us[i].2 <;> simp (config := { maxSteps := 1000000 }) [body10_2, hi, hw, h12, h27, hk]
      · simp (config := { maxSteps := 1000000 }) [body10_2, hi, h12, h27]) (by simp [body10_2]) (by simp)
  exact this
theorem e10 (l : List Gl) (p : Plan) (hn : ∀ g ∈ l, g.name.length ≤ maxLen) (_h : l.length ≤ maxLen) : O X 10 [.l (encG l), p.v] = some (.i .i64 (chkG l p)) := by
  refine orun (fc := code10) rfl rfl rfl ?_
  unfold chkG
  by_cases h1 : l.length < 1
  · have h1' : (l.length : Int) < 1 := by omega
    simp [code10, h1', h1]
  · have h1' : ¬ (l.length : Int) < 1 := by omega
    by_cases h2 : 40 < l.length
    · have h2' : (40 : Int) < (l.length : Int) := by omega
      simp [code10, h1', h2', h2]
    · have h2' : ¬ (40 : Int) < (l.length : Int) := by omega
      rw [if_neg (by omega)]
      have ha := l10a (X := X) l p ⟨by omega, hn⟩
      have h26 := e26 (X := X) p
      have hb := l10b (X := X) l (usesL p) (by omega) (by show 14 ≤ 1000; omega)
      have hul : (usesL p).length = 14 := rfl
      rw [hul] at hb
      have hel : (encU (usesL p)).length = 14 := rfl
      generalize usesL p = us at h26 hb hul hel ⊢
      have hel' : (encU us).length = us.length := by simp
      generalize encU us = E at h26 hb hel
      cases hq : (List.range l.length).findSome? (elemAt l) <;> rw [hq] at ha <;> simp at ha
      · cases hq2 : (List.range 14).findSome? (useAt l us) <;> rw [hq2] at hb <;> simp at hb <;> simp [code10, exec_loopK, h1', h2', ha, h26, hel, hb]
      · simp [code10, exec_loopK, h1', h2', ha]
/-! ### The same lists, signs -/
theorem l14 (l : List Int) (h : l.length ≤ 1000000) : loopK (O X) [0, 1, 5] body14_1 [(0, .l (ints l)), (1, .l (ints l)), (5, .i .i64 0)] = some (.e 0, []) := by
  have := loopK_run (o := O X) (kin := [0, 1, 5]) (c := body14_1) (fun i => [(0, .l (ints l)), (1, .l (ints l)), (5, .i .i64 i)]) l.length (.e 0, []) (by simp) (fun i hi => by
    have hw := wrap_i64 (i + 1) (by omega)
    simp [body14_1, hi, hw]) (by simp [body14_1]) (by simp)
  exact this
theorem e14 (l : List Int) (h : l.length ≤ 1000000) : O X 14 [.l (ints l), .l (ints l)] = some (.b true) := by
  refine orun (fc := code14) rfl rfl rfl ?_
  have hl := l14 (X := X) l h
  simp [code14, exec_loopK, hl]
def signN (k : Int) : Int := if k = 1 ∨ k = 5 then 1 else if k = 2 ∨ k = 3 ∨ k = 4 then -1 else 0
theorem e23 (k : Int) : O X 23 [.i .i64 k] = some (.i .i64 (signN k)) := by
  refine orun (fc := code23) rfl rfl rfl ?_
  unfold signN
  by_cases h1 : k = 1
  · subst h1; simp [code23]
  by_cases h5 : k = 5
  · subst h5; simp [code23]
  by_cases h2 : k = 2
  · subst h2; simp [code23]
  by_cases h3 : k = 3
  · subst h3; simp [code23]
  by_cases h4 : k = 4
  · subst h4; simp [code23]
  simp [code23, h1, h2, h3, h4, h5]
theorem e24 (k : Int) : O X 24 [.i .i64 k] = some (.i .i64 (signN k)) := by
  refine orun (fc := code24) rfl rfl rfl ?_
  unfold signN
  by_cases h1 : k = 1
  · subst h1; simp [code24]
  by_cases h5 : k = 5
  · subst h5; simp [code24]
  by_cases h2 : k = 2
  · subst h2; simp [code24]
  by_cases h3 : k = 3
  · subst h3; simp [code24]
  by_cases h4 : k = 4
  · subst h4; simp [code24]
  simp [code24, h1, h2, h3, h4, h5]
end Go.Proofs.Ytdaclkakglmfeaa
