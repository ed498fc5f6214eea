/-
  The table of what is left: taking an item, the matches of an item, what is not taken.
-/
import Derived.Test.YtmhpmghhgppdnaaMaps
namespace Go.Proofs.Ytmhpmghhgppdnaa
open Go.VM Go.RowKit
noncomputable def O (X : Orc) : Orc := den tab X
theorem orun {X : Orc} {f : Nat} {fc : FCode} (ht : tab f = some fc) {args : List V} {y : V} (hl : args.length = fc.np) (ha : args.all V.arg = true) (h : retE fc.res (exec (O X) fc.body (args0 0 args)) = some y) : O X f args = some y := VM.run ht hl ha h
noncomputable abbrev O0 : Orc := O fun _ _ => none
abbrev ints (l : List Int) : List V := encL (V.i .i64) l
abbrev items (l : List Item) : List V := encL Item.v l
/-- A set of numbers as a map holds it. -/
abbrev trues (l : List Int) : List V := l.map fun _ => .b true
theorem mt52 : mapTy Try.prog 52 = some (2, 4) := by kernel_rfl
theorem mt58 : mapTy Try.prog 58 = some (1, 26) := by kernel_rfl
theorem mt59 : mapTy Try.prog 59 = some (2, 26) := by kernel_rfl
theorem z4 : zeroV Try.prog 4 = some (.b false) := by kernel_rfl
theorem z26 : zeroV Try.prog 26 = some (.l []) := by kernel_rfl
theorem mfind_set (k : Int) : ∀ l : List Int, mfind (.i .i64 k) (ints l) (trues l) = if l.contains k then some (.b true) else none
  | [] => rfl
  | x :: l => by
    have ih := mfind_set k l
    simp only [ints, encL_cons, List.map_cons, mfind, keyEq, decide_eq_true_eq, List.contains_cons] at ih ⊢
    by_cases h : k = x
    · simp [h]
    · have h' : (k == x) = false := by simpa using h
      rw [if_neg h, ih, h', Bool.false_or]
theorem ints_keys (l : List Int) : (ints l).all (keyB 2) = true := List.all_eq_true.2 fun x hx => by
  obtain ⟨k, _, rfl⟩ := List.mem_map.1 hx; rfl
theorem trues_uniq (l : List Int) : (trues l).all V.uniq = true := List.all_eq_true.2 fun x hx => by
  obtain ⟨k, _, rfl⟩ := List.mem_map.1 hx; rfl
theorem mkeys_set (k : Int) : ∀ l : List Int, mkeys (.i .i64 k) (ints l) = ints (if l.contains k then l else l ++ [k])
  | [] => rfl
  | x :: l => by
    have ih := mkeys_set k l
    simp only [ints] at ih ⊢
    by_cases h : k = x
    · subst h; simp [encL_cons, mkeys, keyEq]
    · have h' : (k == x) = false := by simpa using h
      have hm : mkeys (.i .i64 k) (encL (V.i .i64) (x :: l)) = .i .i64 x :: mkeys (.i .i64 k) (encL (V.i .i64) l) := by simp [encL_cons, mkeys, keyEq, h]
      rw [hm, ih, List.contains_cons, h', Bool.false_or]
      cases l.contains k <;> simp [encL_cons]
theorem mvals_set (k : Int) : ∀ l : List Int, mvals (.i .i64 k) (.b true) (ints l) (trues l) = trues (if l.contains k then l else l ++ [k])
  | [] => rfl
  | x :: l => by
    have ih := mvals_set k l
    simp only [ints, trues] at ih ⊢
    by_cases h : k = x
    · subst h; simp [encL_cons, mvals, keyEq]
    · have h' : (k == x) = false := by simpa using h
      have hm : mvals (.i .i64 k) (.b true) (encL (V.i .i64) (x :: l)) ((x :: l).map fun _ => .b true) = .b true :: mvals (.i .i64 k) (.b true) (encL (V.i .i64) l) (l.map fun _ => .b true) := by simp [encL_cons, mvals, keyEq, h]
      rw [hm, ih, List.contains_cons, h', Bool.false_or]
      cases l.contains k <;> simp
theorem tn52 : Int.toNat 52 = 52 := rfl
theorem tn58 : Int.toNat 58 = 58 := rfl
theorem tn59 : Int.toNat 59 = 59 := rfl
/-- The map in block g is a set of numbers. -/
def isSet (s : Maps) (g : Nat) (l : List Int) : Prop := getM g s = some (ints l, trues l)
variable {cf : Maps → Nat → List V → Option (V × Maps)} {s : Maps} {g : Nat}
theorem look_set {l : List Int} (h : isSet s g l) (k : Int) : mapEff Try.prog cf s LOOK [.i .i64 52, .mr (some g), .i .i64 k] = some (.b (l.contains k), s) := by
  have hm := mfind_set k l
  have hk := ints_keys l
  unfold isSet at h
  unfold mapEff
  rw [if_pos rfl]
  simp only [tn52, mt52, Option.bind_some, z4, h]
  rw [hm, hk]
  by_cases hc : l.contains k
  · have hc' : k ∈ l := by simpa using hc
    simp [keyB, V.cell, hc']
  · have hc' : k ∉ l := by simpa using hc
    simp [keyB, V.cell, hc']
theorem look_nilset (k : Int) : mapEff Try.prog cf s LOOK [.i .i64 52, .mr none, .i .i64 k] = some (.b false, s) := by
  unfold mapEff
  rw [if_pos rfl]
  simp [mt52, z4, keyB, V.cell]
theorem upd_set {l : List Int} (h : isSet s g l) (k : Int) (hk : k ∉ l) : mapEff Try.prog cf s UPD [.i .i64 52, .mr (some g), .i .i64 k, .b true] = some (.t [], putM g (ints (l ++ [k])) (trues (l ++ [k])) s) := by
  have h1 := ints_keys l
  have h2 := trues_uniq l
  have h3 := mkeys_set k l
  have h4 := mvals_set k l
  have hc : l.contains k = false := by simpa using hk
  rw [hc] at h3 h4
  unfold isSet at h
  unfold mapEff
  rw [if_neg (by decide), if_pos rfl]
  simp only [tn52, mt52, Option.bind_some, h]
  rw [h1, h2, h3, h4]
  simp [keyB, V.uniq, V.cell]
theorem isSet_put {l l' : List Int} (h : isSet s g l) : isSet (putM g (ints l') (trues l') s) g l' := by
  unfold isSet at *
  induction s with
  | nil => cases h
  | cons p s ih =>
    simp only [getM] at h
    simp only [putM]
    split
    · rename_i hp; simp [getM]
    · rename_i hp
      rw [if_neg hp] at h
      simp only [getM, if_neg hp]
      exact ih h
theorem nil_check (cs : List V) : mapEff Try.prog cf s NILC [.r cs] = some (.r cs, s) := by
  unfold mapEff
  rw [if_neg (by decide), if_neg (by decide), if_pos rfl]
@[simp] theorem mapsR_eff {f : Nat} {zs : List V} : (mapsR Try.prog cf).eff s f zs = mapEff Try.prog cf s f zs := rfl

/-! ### Taking -/
abbrev tabV (its : List Item) (m1 m2 : V) (g : Nat) : V := .r [.l (items its), m1, m2, .mr (some g)]
section
variable (its : List Item) (m1 m2 : V) (hm : m1.cell = true ∧ m2.cell = true) (l : List Int) (fn : Nat) (x : Item) (fit : Item → Bool) (tak : List Int)
abbrev E41 (i : Nat) : Env := [(0, tabV its m1 m2 g), (2, .f (.func fn) [] [.r x.cells]), (10, .l (ints l)), (11, .i .i64 l.length), (12, .i .i64 i)]
/-- Is the item with this index left, and does it fit? -/
def goodT (its : List Item) (tak : List Int) (fit : Item → Bool) (k : Int) : Bool := !tak.contains k && (match its[k.toNat]? with
  | some y => fit y
  | none => false)
def takeP (its : List Item) (tak l : List Int) (fit : Item → Bool) : Option Int := l.find? (goodT its tak fit)
theorem t41_6 {k : Int} (h0 : 0 ≤ k) (hk : k < its.length) (hs : isSet s g tak) (hfit : ∀ y ∈ its, O0 fn [y.v, .r x.cells] = some (.b (fit y))) (i : Nat) :
    ∃ env1, stepsR (mapsR Try.prog cf) O0 n41_6 [(0, tabV its m1 m2 g), (2, .f (.func fn) [] [.r x.cells]), (9, .i .i64 k), (10, .l (ints l)), (11, .i .i64 l.length), (12, .i .i64 i), (13, .b true)] s = some (env1, s) ∧
      dropE [16, 17, 18, 19, 20, 21, 22, 23, 24, 25, 26, 27, 28, 29, 30, 31, 32] env1 = [(0, tabV its m1 m2 g), (2, .f (.func fn) [] [.r x.cells]), (9, .i .i64 k), (10, .l (ints l)), (11, .i .i64 l.length), (12, .i .i64 i), (13, .b true), (33, .b (goodT its tak fit k))] := by
  have h1 := look_set (cf := cf) hs k
  obtain ⟨n, rfl⟩ := Int.eq_ofNat_of_zero_le h0
  have hn : n < its.length := by omega
  have hx := hfit its[n] (List.getElem_mem hn)
  simp only [Item.v] at hx
  by_cases hc : tak.contains (n : Int)
  · have hg : goodT its tak fit (n : Int) = false := by simp only [goodT, hc, Bool.not_true, Bool.false_and]
    rw [hg]
    rw [hc] at h1
    exact ⟨_, by simp [n41_6, stepsR, stepR, nil_check, h1]; rfl, by simp⟩
  · have hcf : tak.contains (n : Int) = false := by simpa using hc
    have hg : goodT its tak fit (n : Int) = fit its[n] := by simp only [goodT, hcf, Bool.not_false, Bool.true_and, Int.toNat_natCast, List.getElem?_eq_getElem hn]
    rw [hg]
    rw [hcf] at h1
    exact ⟨_, by simp [n41_6, stepsR, stepR, nil_check, h1, hn, hx, callV]; rfl, by simp⟩
theorem t41_7 {k : Int} (hs : isSet s g tak) (hk : k ∉ tak) (i : Nat) :
    ∃ env1, stepsR (mapsR Try.prog cf) O0 n41_7 [(0, tabV its m1 m2 g), (2, .f (.func fn) [] [.r x.cells]), (9, .i .i64 k), (10, .l (ints l)), (11, .i .i64 l.length), (12, .i .i64 i), (13, .b true), (33, .b true)] s = some (env1, putM g (ints (tak ++ [k])) (trues (tak ++ [k])) s) ∧
      dropE [34, 35, 36, 37, 38] env1 = [(0, tabV its m1 m2 g), (2, .f (.func fn) [] [.r x.cells]), (9, .i .i64 k), (10, .l (ints l)), (11, .i .i64 l.length), (12, .i .i64 i), (13, .b true), (33, .b true)] := by
  have h1 := upd_set (cf := cf) hs k hk
  exact ⟨_, by simp [n41_7, stepsR, stepR, nil_check, h1]; rfl, by simp⟩
def takeY (r : Option Int) : V := match r with
  | some k => .t [.i .i64 k, .b true]
  | none => .t [.i .i64 0, .b false]
def takeS (s : Maps) (g : Nat) (tak : List Int) (r : Option Int) : Maps := match r with
  | some k => putM g (ints (tak ++ [k])) (trues (tak ++ [k])) s
  | none => s
theorem find_split {α : Type} {p : α → Bool} : ∀ {l : List α} {i : Nat} {x : α}, (l.take i).all (fun y => !p y) = true → l[i]? = some x → p x = true → l.find? p = some x
  | [], i, x, _, h, _ => by simp at h
  | y :: l, 0, x, _, h, hp => by simp at h; subst h; simp [List.find?, hp]
  | y :: l, i + 1, x, h, hx, hp => by
    simp only [List.take_succ_cons, List.all_cons, Bool.and_eq_true, Bool.not_eq_true'] at h
    rw [List.find?_cons, h.1]
    exact find_split h.2 (by simpa using hx) hp
theorem find_none {α : Type} {p : α → Bool} {l : List α} (h : l.all (fun y => !p y) = true) : l.find? p = none := by
  rw [List.find?_eq_none]
  intro x hx
  have := List.all_eq_true.1 h x hx
  simpa using this
variable {ad : Maps → Nat → List V → List V → Option Maps}
theorem take_WG (hl : l.length ≤ 1000000) (hin : ∀ k ∈ l, 0 ≤ k ∧ k < its.length) (hs : isSet s g tak) (hfit : ∀ y ∈ its, O0 fn [y.v, .r x.cells] = some (.b (fit y))) :
    WG (mapsR Try.prog cf) ad Try.prog O0 code41.body (args0 0 [tabV its m1 m2 g, .l (ints l), .f (.func fn) [] [.r x.cells]]) s fun e env s1 => (∀ j, e ≠ .e j) ∧ (∃ y0, retV code41.res env = some y0 ∧ takeY (takeP its tak l fit) = frzt y0) ∧ s1 = takeS s g tak (takeP its tak l fit) := by
  have e1 : exec O0 n41_1 (args0 0 [tabV its m1 m2 g, .l (ints l), .f (.func fn) [] [.r x.cells]]) = some (.n, [(0, tabV its m1 m2 g), (1, .l (ints l)), (2, .f (.func fn) [] [.r x.cells]), (6, .i .i64 0), (7, .b false)]) := by simp [n41_1, args0]
  have e2 : exec O0 n41_2 [(0, tabV its m1 m2 g), (1, .l (ints l)), (2, .f (.func fn) [] [.r x.cells]), (6, .i .i64 0), (7, .b false)] = some (.n, [(0, tabV its m1 m2 g), (1, .l (ints l)), (2, .f (.func fn) [] [.r x.cells]), (6, .i .i64 0), (7, .b false), (10, .l (ints l)), (11, .i .i64 l.length), (12, .i .i64 0)]) := by simp [n41_2]
  unfold code41
  refine WG.seqC e1 (WG.seq' (WG.seqC e2 (WG.blk' ?_)))
  refine WG.loop (fun n env s' => ∃ i, n = l.length - i ∧ i ≤ l.length ∧ s' = s ∧ keepE [0, 2, 10, 11, 12] env = E41 (g := g) its m1 m2 l fn x i ∧ (l.take i).all (fun k => !goodT its tak fit k) = true) ?_ (n := l.length) (env := _) (s := s) ⟨0, by omega, by omega, rfl, by simp, by simp⟩
  rintro n env s' ⟨i, rfl, hi, rfl, henv, hno⟩
  rw [henv]
  have hw := wrap_i64 (i + 1) (by omega)
  by_cases hil : i < l.length
  · have e3 : exec O0 n41_3 (E41 (g := g) its m1 m2 l fn x i) = some (.n, E41 (g := g) its m1 m2 l fn x i ++ [(13, .b true)]) := by simp [n41_3, hil]
    have e4 : exec O0 n41_4 (E41 (g := g) its m1 m2 l fn x i ++ [(13, .b true)]) = some (.n, E41 (g := g) its m1 m2 l fn x i ++ [(13, .b true)]) := by simp [n41_4]
    have e5 : exec O0 n41_5 (E41 (g := g) its m1 m2 l fn x i ++ [(13, .b true)]) = some (.n, [(0, tabV its m1 m2 g), (2, .f (.func fn) [] [.r x.cells]), (9, .i .i64 l[i]), (10, .l (ints l)), (11, .i .i64 l.length), (12, .i .i64 i), (13, .b true)]) := by simp [n41_5, hil]
    obtain ⟨hk0, hk1⟩ := hin l[i] (List.getElem_mem hil)
    obtain ⟨env6, h6, d6⟩ := t41_6 (cf := cf) (g := g) its m1 m2 l fn x fit tak hk0 hk1 hs hfit i
    refine WG.seqC e3 (WG.seqC e4 (WG.seq' (WG.blk' (WG.seqC e5 (WG.seqL h6 ?_)))))
    rw [d6]
    cases hgood : goodT its tak fit l[i] with
    | true =>
      refine WG.condT (by simp) ?_
      have hnt : l[i] ∉ tak := by
        unfold goodT at hgood
        simp only [Bool.and_eq_true, Bool.not_eq_true'] at hgood
        simpa using hgood.1
      obtain ⟨env7, h7, d7⟩ := t41_7 (cf := cf) (g := g) its m1 m2 l fn x tak hs hnt i
      refine WG.seqL h7 ?_
      rw [d7]
      have hf : takeP its tak l fit = some l[i] := find_split hno (List.getElem?_eq_getElem hil) hgood
      refine WG.endC (e := .r) (env1 := [(6, .i .i64 l[i]), (7, .b true)]) (by simp [n41_8]) ?_
      show (∀ j, Ex.r ≠ .e j) ∧ _ ∧ _
      refine ⟨fun j h => (by cases h), ⟨.t [.i .i64 l[i], .b true], by simp [retV, resVs, resV], ?_⟩, ?_⟩
      · rw [hf]; simp [takeY, frzt]
      · rw [hf]; rfl
    | false =>
      refine WG.condF (by simp) ?_
      refine WG.endC (e := .n) (show exec O0 n41_9 _ = _ from exec_skip _ _) ?_
      show WG _ _ _ _ (.c n41_10) _ _ _
      refine WG.endC (e := .n) (env1 := [(0, tabV its m1 m2 g), (2, .f (.func fn) [] [.r x.cells]), (9, .i .i64 l[i]), (10, .l (ints l)), (11, .i .i64 l.length), (12, .i .i64 ((i + 1 : Nat) : Int)), (13, .b true), (33, .b false)]) (by simp [n41_10, hw]) ?_
      show ∃ k, k < l.length - i ∧ _
      refine ⟨l.length - (i + 1), by omega, i + 1, rfl, hil, rfl, by simp, ?_⟩
      rw [List.take_succ_eq_append_getElem hil, List.all_append, hno]
      simp [hgood]
  · have hie : i = l.length := by omega
    subst hie
    have e3 : exec O0 n41_3 (E41 (g := g) its m1 m2 l fn x l.length) = some (.n, E41 (g := g) its m1 m2 l fn x l.length ++ [(13, .b false)]) := by simp [n41_3]
    have e4 : exec O0 n41_4 (E41 (g := g) its m1 m2 l fn x l.length ++ [(13, .b false)]) = some (.e 0, []) := by simp [n41_4]
    refine WG.seqC e3 (WG.seqX e4 (by simp) ?_)
    simp only [↓reduceIte]
    have hf : takeP its tak l fit = none := find_none (by rw [List.take_length] at hno; exact hno)
    refine WG.endC (e := .r) (env1 := [(6, .i .i64 0), (7, .b false)]) (by simp [n41_12]) ?_
    refine ⟨fun j h => (by cases h), ⟨.t [.i .i64 0, .b false], by simp [retV, resVs, resV], ?_⟩, ?_⟩
    · rw [hf]; simp [takeY, frzt]
    · rw [hf]; rfl
end
end Go.Proofs.Ytmhpmghhgppdnaa
