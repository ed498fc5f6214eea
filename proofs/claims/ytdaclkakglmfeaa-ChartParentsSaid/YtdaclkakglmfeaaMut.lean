/-
  The functions that write into a slice of the call's own do what is said of them: three of the library, and the one of the program that appends the accounts in their order.
-/
import Derived.Test.YtdaclkakglmfeaaSpec
import Derived.Test.YtdaclkakglmfeaaLaid
namespace Go.Proofs.Ytdaclkakglmfeaa
open Go.VM
/-! ### The order in data -/
def pairs (l : List Gl) : List (Int × Int) := l.map fun g => (g.id, g.parent)
theorem glsP_enc : ∀ l : List Gl, glsP (encG l) = some (pairs l)
  | [] => rfl
  | g :: l => by
    have := glsP_enc l
    simp only [encG, encL, List.map_cons, glsP, glP, Option.bind_some, pairs] at this ⊢
    rw [this]; rfl
theorem glP_inv {x : V} {p : Int × Int} (h : glP x = some p) : ∃ g : Gl, x = g.v ∧ p = (g.id, g.parent) := by
  unfold glP at h
  split at h
  · rename_i id pp k s
    simp only [Option.some.injEq] at h
    exact ⟨⟨id, pp, k, s⟩, rfl, h.symm⟩
  · cases h
theorem glsP_inv : ∀ {gs : List V} {ps : List (Int × Int)}, glsP gs = some ps → ∃ l : List Gl, gs = encG l ∧ ps = pairs l
  | [], ps, h => by simp only [glsP, Option.some.injEq] at h; exact ⟨[], rfl, h.symm⟩
  | x :: r, ps, h => by
    simp only [glsP, Option.bind_eq_some_iff, Option.map_eq_some_iff] at h
    obtain ⟨p, hp, q, hq, rfl⟩ := h
    obtain ⟨g, rfl, rfl⟩ := glP_inv hp
    obtain ⟨l, rfl, rfl⟩ := glsP_inv hq
    exact ⟨g :: l, rfl, rfl⟩
def firstG (l : List Gl) (i : Nat) : Bool := match l[i]? with
  | some g => (findG (l.take i) g.id).isNone
  | none => false
theorem findG_none {l : List Gl} {id : Int} : findG l id = none ↔ ∀ g ∈ l, g.id ≠ id := by
  unfold findG
  rw [range_find_none]
  constructor
  · intro h g hg e
    obtain ⟨i, hi, rfl⟩ := List.getElem_of_mem hg
    have := h i hi
    simp [gAt, hi, e] at this
  · intro h i hi
    have := h _ (List.getElem_mem hi)
    simp [gAt, hi, this]
theorem firstP_eq (l : List Gl) (i : Nat) : firstP (pairs l) i = firstG l i := by
  unfold firstP firstG pairs
  rw [List.getElem?_map]
  cases hq : l[i]? with
  | none => rfl
  | some g =>
    simp only [Option.map_some]
    rw [Bool.eq_iff_iff, Option.isNone_iff_eq_none, findG_none, List.all_eq_true]
    constructor
    · intro h x hx e
      have := h (x.id, x.parent) (by rw [← List.map_take]; exact List.mem_map.2 ⟨x, hx, rfl⟩)
      simp [e] at this
    · intro h p hp
      rw [← List.map_take] at hp
      obtain ⟨x, hx, rfl⟩ := List.mem_map.1 hp
      simpa using h x hx
set_option maxHeartbeats 4000000 in
theorem e44g {tb : Nat → Option FCode} {X : Orc} (h13 : tb 13 = some code13) (h44 : tb 44 = some code44) (l : List Gl) (i : Nat) (hi : i < l.length) (h : l.length ≤ 1000) : den tb X 44 [.l (encG l), .i .i64 i] = some (.b (firstG l i)) := by
  refine VM.run h44 rfl rfl ?_
  have hb : bnds (encG l).length false true [.i .i64 (i : Int)] = some (0, i) := by
    have : (i : Int) ≤ ((encG l).length : Int) := by simp; omega
    simp only [bnds]
    rw [if_pos ⟨by omega, this⟩]
    simp
  have hs : opQ (den tb X) (.slc 4 false true) [.l (encG l), .i .i64 i] = some (.l (encG (l.take i))) := by
    have ha : (encG l).all (fun x => x.cells.length == 4) = true := encL_all fun _ => rfl
    simp only [opQ, ha, if_true, hb, Option.map_some, List.drop_zero]
    simp [encL]
  have h1 := e13g (X := X) h13 (l.take i) l[i].id (by rw [List.length_take]; omega)
  have hF : firstG l i = (findG (l.take i) l[i].id).isNone := by unfold firstG; rw [List.getElem?_eq_getElem hi]
  rw [hF]
  generalize l.take i = m at hs h1 ⊢
  cases hg : findG m l[i].id <;> rw [hg] at h1
  · simp [gV, g0] at h1
    simp (config := { maxSteps := 1000000 }) [code44, hi, hs, h1]
  · simp [gV] at h1
    simp (config := { maxSteps := 1000000 }) [code44, hi, hs, h1]
/-! ### The code that appends, where what it calls of itself is told to a depth -/
def belMut (n : Nat) : Mut := ⟨3, true, false, belRun n, 2⟩
def body37_1 (n : Nat) : C :=
 (.seq (.seq (.q [(11, (.op (.bin .lss) [(.sl 7), (.op .len [(.sl 0)])]))])
 (.cond (.sl 11) .skip (.exit 0 [2])))
 (.seq (.blk 1 (.seq (.q [(25, (.ite (.op (.bin .eql) [(.op (.ld 1 false) [(.op (.fa 1 1) [(.op (.ix 4) [(.sl 0), (.sl 7)])])]), (.sl 1)]) (.op (.call false 44) [(.sl 0), (.sl 7)]) (.k (.b false))))])
 (.cond (.sl 25) (.seq (.s [.mv 26 (.t 2), .mv 27 (.t 0), .mv 28 (.t 7), .ix 29 4 (.t 27) (.t 28), .fa 30 0 1 (.t 29), .q 31 (.ld 1 false) [(.t 30)], .bsl 32 3 1 [(.t 31)], .app 33 3 1 8 (.t 26) (.t 32), .as 2 (.t 33)] [26, 27, 28, 29, 30, 31, 32, 33])
 (.seq (.q [(39, (.op (.bin .neq) [(.op (.ld 1 false) [(.op (.fa 0 1) [(.op (.ix 4) [(.sl 0), (.sl 7)])])]), (.k (.i .i64 0))]))])
 (.cond (.sl 39) (.s [.mv 40 (.t 0), .mv 41 (.t 0), .mv 42 (.t 7), .ix 43 4 (.t 41) (.t 42), .fa 44 0 1 (.t 43), .q 45 (.ld 1 false) [(.t 44)], .mv 46 (.t 2), .callm (some 47) 37 (belMut n) (.t 46) [(.t 40), (.t 45)], .as 2 (.t 47)] [40, 41, 42, 43, 44, 45, 46, 47]) .skip))) .skip)))
 (.q [(7, (.op (.bin .add) [(.sl 7), (.k (.i .i64 1))]))])))
def code37 (n : Nat) : FCode := ⟨3, [.tmp 6],
 (.seq (.s [.as 6 (.c (.ow 3 []))] [])
 (.seq (.seq (.q [(7, (.k (.i .i64 0)))])
 (.blk 0 (.loop [0, 1, 2, 7] (body37_1 n))))
 (.seq (.s [.mv 48 (.t 2), .as 6 (.t 48)] [48])
 (.ret [6]))))⟩
theorem comp37 (n : Nat) : @compile Try.prog (globN n) Try.f37 = some (code37 n) := by kernel_rfl
theorem comp13n (n : Nat) : @compile Try.prog (globN n) Try.f13 = some code13 := by kernel_rfl
theorem comp44n (n : Nat) : @compile Try.prog (globN n) Try.f44 = some code44 := by kernel_rfl
theorem okf37 : okFn Try.prog 37 = true := by kernel_rfl
def tabM (f : Nat) : Option FCode := if f = 13 then some code13 else if f = 44 then some code44 else none
noncomputable abbrev OM : Orc := den tabM fun _ _ => none
@[simp] theorem belMut_ty (n : Nat) : (belMut n).ty = 3 := rfl
@[simp] theorem belMut_nl (n : Nat) : (belMut n).nl = false := rfl
@[simp] theorem belMut_ret (n : Nat) : (belMut n).ret = true := rfl
theorem belRun_eq {n : Nat} {ks : List Int} {l : List Gl} {p : Int} {zs : List Int} (hl : l.length ≤ 1000) (h : belN n (pairs l) p = some zs) (hs : ks.length + zs.length ≤ 1000000) : (belMut n).run (ints ks) [.l (encG l), .i .i64 p] = some (ints (ks ++ zs)) := by
  have h1 : (encG l).length ≤ 1000 := by simpa using hl
  show belRun n (ints ks) [.l (encG l), .i .i64 p] = _
  simp only [belRun, if_pos h1, toInts_ints, glsP_enc, h, Option.bind_some, if_pos hs]
set_option maxHeartbeats 4000000 in
theorem l37 (n : Nat) (l : List Gl) (p : Int) (hl : l.length ≤ 1000) : ∀ (m i : Nat) (acc zs : List Int), i + m = l.length → belR (belN n (pairs l)) (pairs l) p (List.range' i m) = some zs → acc.length + zs.length ≤ 1000000 →
    loopK OM [0, 1, 2, 7] (body37_1 n) [(0, .l (encG l)), (1, .i .i64 p), (2, .ow 3 (ints acc)), (7, .i .i64 i)] = some (.e 0, [(2, .ow 3 (ints (acc ++ zs)))])
  | 0, i, acc, zs, hi, hz, hb => by
    have hi' : i = l.length := by omega
    subst hi'
    simp only [List.range'_zero, belR, Option.some.injEq] at hz
    subst hz
    refine loopK_end (by simp) ?_ (by simp)
    simp [body37_1]
  | m + 1, i, acc, zs, hi, hz, hb => by
    have hil : i < l.length := by omega
    have hw := wrap_i64 (i + 1) (by omega)
    have h44 := e44g (X := fun _ _ => none) (tb := tabM) rfl rfl l i hil hl
    have hat : (pairs l)[i]? = some (l[i].id, l[i].parent) := by simp [pairs, hil]
    simp only [List.range'_succ, belR, hat, firstP_eq] at hz
    by_cases c1 : l[i].parent = p
    · cases c2 : firstG l i with
      | false =>
        rw [c2] at h44 hz
        simp only [Bool.false_eq_true, and_false, if_false] at hz
        have ih := l37 n l p hl m (i + 1) acc zs (by omega) hz hb
        rw [← ih]
        refine loopK_go (by simp) (by simp) ?_
        simp [body37_1, hil, hw, c1, h44]
      | true =>
        rw [c2] at h44 hz
        rw [if_pos ⟨c1, rfl⟩] at hz
        have hsn := ints_snoc acc l[i].id
        have hap : (acc.length + 1) * 8 ≤ 140737488355328 := by omega
        by_cases c3 : l[i].id = 0
        · rw [if_pos c3] at hz
          simp only [Option.bind_some, Option.map_eq_some_iff] at hz
          obtain ⟨r, hr, rfl⟩ := hz
          simp only [List.length_append, List.length_singleton] at hb
          have ih := l37 n l p hl m (i + 1) (acc ++ [l[i].id]) r (by omega) hr (by simp; omega)
          rw [List.append_assoc] at ih
          rw [← ih]
          refine loopK_go (by simp) (by simp) ?_
          rw [← hsn]
          simp only [c3] at hsn h44 ⊢
          simp [body37_1, hil, hw, c1, c3, h44, hap]
        · rw [if_neg c3] at hz
          simp only [Option.bind_eq_some_iff, Option.map_eq_some_iff] at hz
          obtain ⟨_, ⟨q, hq, rfl⟩, r, hr, rfl⟩ := hz
          simp only [List.length_append, List.length_cons] at hb
          have ih := l37 n l p hl m (i + 1) (acc ++ l[i].id :: q) r (by omega) hr (by simp; omega)
          rw [List.append_assoc] at ih
          rw [← ih]
          refine loopK_go (by simp) (by simp) ?_
          have hrun := belRun_eq (ks := acc ++ [l[i].id]) hl hq (by simp; omega)
          have hsn2 : acc ++ [l[i].id] ++ q = acc ++ l[i].id :: q := by simp
          rw [hsn2, ← hsn] at hrun
          have hA : (ints acc).length = acc.length := by simp
          generalize ints (acc ++ l[i].id :: q) = T at hrun ⊢
          generalize ints acc = A at hrun hA ⊢
          simp [body37_1, hil, hw, c1, c3, h44, hap, hrun, hA]
    · rw [if_neg fun h => c1 h.1] at hz
      have ih := l37 n l p hl m (i + 1) acc zs (by omega) hz hb
      rw [← ih]
      refine loopK_go (by simp) (by simp) ?_
      simp [body37_1, hil, hw, c1]
theorem e37 (n : Nat) (l : List Gl) (p : Int) (ks zs : List Int) (hl : l.length ≤ 1000) (hz : belN (n + 1) (pairs l) p = some zs) (hb : ks.length + zs.length ≤ 1000000) :
    retE (code37 n).res (exec OM (code37 n).body (args0 0 (insAt 2 (.ow 3 (ints ks)) [.l (encG l), .i .i64 p]))) = some (.ow 3 (ints (ks ++ zs))) := by
  have hr : belR (belN n (pairs l)) (pairs l) p (List.range' 0 l.length) = some zs := by
    rw [belN] at hz
    rw [← List.range_eq_range']
    simpa [pairs] using hz
  have hl37 := l37 n l p hl l.length 0 ks zs (by omega) hr (by simpa using hb)
  simp only [Int.natCast_zero] at hl37
  show retE (code37 n).res (exec OM (code37 n).body (args0 0 [.l (encG l), .i .i64 p, .ow 3 (ints ks)])) = _
  generalize ints (ks ++ zs) = Z at hl37 ⊢
  generalize ints ks = A at hl37 ⊢
  generalize encG l = L at hl37 ⊢
  simp [code37, exec_loopK, hl37]
/-! ### It is so -/
theorem mutOK_old (n : Nat) {f : Nat} {mu : Mut} (hl : (mutsN n).lookup f = some mu) (hf : f ≠ 37) : okFn Try.prog f = true ∧ ∀ es xs es', mu.run es xs = some es' → @PFMp (globN n) Try.prog f mu.pos mu.ty mu.ret mu.nl es xs es' := by
  letI : Glob := globN n
  simp only [mutsN, List.lookup] at hl
  split at hl
  · rename_i h
    obtain rfl : f = 30 := by simpa using h
    cases hl
    exact ⟨by kernel_rfl, fun es xs es' h => (rev_PFM (e := 3) Try.lays112 (by kernel_rfl) es xs es' h).p⟩
  split at hl
  · rename_i h
    obtain rfl : f = 32 := by simpa using h
    cases hl
    exact ⟨by kernel_rfl, fun es xs es' h => (sort_PFM (e := 3) Try.lays189 (by kernel_rfl) es xs es' h).p⟩
  split at hl
  · rename_i h
    obtain rfl : f = 33 := by simpa using h
    cases hl
    exact ⟨by kernel_rfl, fun es xs es' h => (comp_PFM (e := 3) Try.laysNm220 (by kernel_rfl) es xs es' h).p⟩
  split at hl
  · rename_i h
    exact absurd (by simpa using h) hf
  · cases hl
theorem belRun_inv {n : Nat} {es xs es' : List V} (h : belRun n es xs = some es') : ∃ (ks : List Int) (l : List Gl) (p : Int) (zs : List Int), es = ints ks ∧ xs = [.l (encG l), .i .i64 p] ∧ l.length ≤ 1000 ∧ belN n (pairs l) p = some zs ∧ ks.length + zs.length ≤ 1000000 ∧ es' = ints (ks ++ zs) := by
  unfold belRun at h
  split at h
  · rename_i gs p
    split at h
    · rename_i hl
      simp only [Option.bind_eq_some_iff] at h
      obtain ⟨ks, hks, ps, hps, zs, hzs, h⟩ := h
      obtain ⟨l, rfl, rfl⟩ := glsP_inv hps
      split at h
      · rename_i hb
        simp only [Option.some.injEq] at h
        exact ⟨ks, l, p, zs, toInts_eq hks, rfl, by simpa using hl, hzs, hb, h.symm⟩
      · cases h
    · cases h
  · cases h
theorem soundM {n : Nat} (h : @MutOK (globN n) Try.prog) : @SoundO (globN n) Try.prog OM := by
  letI : Glob := globN n
  refine den_sound (fun f fc hf => ?_) (fun f xs y h => by cases h) h
  unfold tabM at hf
  split at hf
  · rename_i he; subst he; cases hf; exact ⟨_, Try.func13, comp13n n, by kernel_rfl⟩
  split at hf
  · rename_i he; subst he; cases hf; exact ⟨_, Try.func44, comp44n n, by kernel_rfl⟩
  · cases hf
theorem mutOKn : ∀ n : Nat, @MutOK (globN n) Try.prog
  | 0, f, mu, hl => by
    by_cases hf : f = 37
    · subst hf
      obtain rfl : mu = ⟨3, true, false, belRun 0, 2⟩ := (Option.some.inj hl).symm
      refine ⟨okf37, fun es xs es' h => ?_⟩
      obtain ⟨ks, l, p, zs, _, _, _, hz, _⟩ := belRun_inv h
      cases hz
    · exact mutOK_old 0 hl hf
  | n + 1, f, mu, hl => by
    by_cases hf : f = 37
    · subst hf
      obtain rfl : mu = ⟨3, true, false, belRun (n + 1), 2⟩ := (Option.some.inj hl).symm
      refine ⟨okf37, fun es xs es' h => ?_⟩
      obtain ⟨ks, l, p, zs, rfl, rfl, hl1, hz, hb, rfl⟩ := belRun_inv h
      have hfl : ∀ x ∈ flatc (ints (ks ++ zs)), x.flat = true := by
        intro x hx
        obtain ⟨y, hy, hxy⟩ := List.mem_flatMap.1 hx
        obtain ⟨k, _, rfl⟩ := List.mem_map.1 hy
        simp only [V.cells, List.mem_singleton] at hxy
        subst hxy; rfl
      exact @mut_body (globN n) Try.prog OM (soundM (mutOKn n)) 37 _ Try.func37 _ (comp37 n) 2 3 (ints ks) [.l (encG l), .i .i64 p] (ints (ks ++ zs)) rfl rfl hfl (e37 n l p ks zs hl1 hz hb)
    · exact mutOK_old (n + 1) hl hf
theorem mutOK : MutOK Try.prog := mutOKn 1002
end Go.Proofs.Ytdaclkakglmfeaa
