/-
  Matching items: what Match computes, and its contract.
-/
import Derived.Test.YtmhpmghhgppdnaaRest
namespace Go.Proofs.Ytmhpmghhgppdnaa
open Go.VM Go.RowKit
/-- Who is matched, what is taken, the pairs. -/
structure St3 where
  met : List Int
  tak : List Int
  out : List Tri
def step3 (ours theirs : List Item) (pass : Int) (st : St3) (i : Nat) : St3 := match ours[i]? with
  | none => st
  | some x => if st.met.contains (i : Int) then st else match matchP theirs st.tak x pass with
    | some k => ⟨st.met ++ [(i : Int)], st.tak ++ [k], st.out ++ [((i : Int), k, pass)]⟩
    | none => st
def pass3 (ours theirs : List Item) (pass : Int) (st : St3) : St3 := (List.range ours.length).foldl (step3 ours theirs pass) st
def all3 (ours theirs : List Item) : St3 := pass3 ours theirs 3 (pass3 ours theirs 2 (pass3 ours theirs 1 ⟨[], [], []⟩))
/-- All days are numbers of the machine. -/
def daysOk (l : List Item) : Prop := ∀ y ∈ l, I64 y.day
theorem encL_inj {α : Type} {f : α → V} (hf : ∀ x y, f x = f y → x = y) {l l' : List α} (h : encL f l = encL f l') : l = l' := (List.map_inj_right hf).1 h
theorem item_inj (x y : Item) (h : x.v = y.v) : x = y := by
  obtain ⟨a, b, c⟩ := x
  obtain ⟨a', b', c'⟩ := y
  simp only [Item.v, V.a.injEq, List.cons.injEq, V.s.injEq, V.i.injEq, true_and, and_true] at h
  obtain ⟨rfl, rfl, rfl⟩ := h
  rfl
theorem int_inj (x y : Int) (h : V.i .i64 x = V.i .i64 y) : x = y := by cases h; rfl

/-! ### The calls that Match makes of the table -/
structure A29 where
  its : List Item
  g1 : Nat
  g2 : Nat
  g3 : Nat
  x : Item
  pass : Int
  tak : List Int
structure A29.ok (a : A29) (s : Maps) (zs : List V) : Prop where
  zs : zs = [tab3 a.its a.g1 a.g2 a.g3, a.x.v, .i .i64 a.pass]
  tab : TabOK a.its a.g1 a.g2 a.g3 a.tak s
  len : a.its.length ≤ 100000
  day : I64 a.x.day
  days : daysOk a.its
structure A27 where
  n : Nat
  q : Option Nat
  l : List Int
structure A27.ok (a : A27) (s : Maps) (zs : List V) : Prop where
  zs : zs = [.i .i64 a.n, .mr a.q]
  set : isSetQ s a.q a.l
  len : a.n ≤ 100000
open Classical in
noncomputable def cfM : Maps → Nat → List V → Option (V × Maps) := fun s f zs =>
  if f = 29 then (if h : ∃ a : A29, a.ok s zs then some (takeY (matchP (Classical.choose h).its (Classical.choose h).tak (Classical.choose h).x (Classical.choose h).pass), takeS s (Classical.choose h).g3 (Classical.choose h).tak (matchP (Classical.choose h).its (Classical.choose h).tak (Classical.choose h).x (Classical.choose h).pass)) else none)
  else if f = 27 then (if h : ∃ a : A27, a.ok s zs then some (.l (ints (restP (Classical.choose h).n (Classical.choose h).l)), s) else none)
  else none
section
variable {s : Maps} {zs : List V}
theorem A29.eq {a b : A29} (ha : a.ok s zs) (hb : b.ok s zs) : a = b := by
  obtain ⟨its, g1, g2, g3, x, pass, tak⟩ := a
  obtain ⟨its', g1', g2', g3', x', pass', tak'⟩ := b
  have h := ha.zs.symm.trans hb.zs
  simp only [tab3, tabV, List.cons.injEq, V.r.injEq, V.l.injEq, V.mr.injEq, Option.some.injEq, V.i.injEq, true_and, and_true] at h
  obtain ⟨⟨h1, rfl, rfl, rfl⟩, h2, rfl⟩ := h
  obtain rfl := encL_inj item_inj h1
  obtain rfl := item_inj _ _ h2
  have h3 := ha.tab.set
  have h4 := hb.tab.set
  unfold isSet at h3 h4
  simp only at h3 h4
  rw [h3] at h4
  simp only [Option.some.injEq, Prod.mk.injEq] at h4
  obtain rfl := encL_inj int_inj h4.1
  rfl
theorem A27.eq {a b : A27} (ha : a.ok s zs) (hb : b.ok s zs) : a = b := by
  obtain ⟨n, q, l⟩ := a
  obtain ⟨n', q', l'⟩ := b
  have h := ha.zs.symm.trans hb.zs
  simp only [List.cons.injEq, V.mr.injEq, V.i.injEq, Int.natCast_inj, true_and, and_true] at h
  obtain ⟨rfl, rfl⟩ := h
  have h3 := ha.set
  have h4 := hb.set
  cases q with
  | none =>
    have h3 : l = [] := h3
    have h4 : l' = [] := h4
    rw [h3, h4]
  | some g =>
    have h3 : isSet s g l := h3
    have h4 : isSet s g l' := h4
    unfold isSet at h3 h4
    rw [h3] at h4
    simp only [Option.some.injEq, Prod.mk.injEq] at h4
    obtain rfl := encL_inj int_inj h4.1
    rfl
theorem cfM_29 (a : A29) (ha : a.ok s zs) : cfM s 29 zs = some (takeY (matchP a.its a.tak a.x a.pass), takeS s a.g3 a.tak (matchP a.its a.tak a.x a.pass)) := by
  have h : ∃ a : A29, a.ok s zs := ⟨a, ha⟩
  have he := A29.eq (Classical.choose_spec h) ha
  unfold cfM
  rw [if_pos rfl, dif_pos h, he]
theorem cfM_27 (a : A27) (ha : a.ok s zs) : cfM s 27 zs = some (.l (ints (restP a.n a.l)), s) := by
  have h : ∃ a : A27, a.ok s zs := ⟨a, ha⟩
  have he := A27.eq (Classical.choose_spec h) ha
  unfold cfM
  rw [if_neg (by decide), if_pos rfl, dif_pos h, he]
theorem cfM_state {y : V} {s' : Maps} (h : cfM s 27 zs = some (y, s')) : s' = s := by
  unfold cfM at h
  rw [if_neg (by decide), if_pos rfl] at h
  split at h
  · cases h; rfl
  · cases h
theorem cfM_sound (hmut : MutOK Try.prog) : SoundR Try.prog (mapsR Try.prog cfM) := by
  refine mapsR_sound fun s f zs y s' he _ _ _ => ?_
  by_cases h1 : f = 29
  · subst h1
    have h : ∃ a : A29, a.ok s zs := by
      unfold cfM at he
      rw [if_pos rfl] at he
      split at he
      · assumption
      · cases he
    obtain ⟨a, ha⟩ := h
    rw [cfM_29 a ha] at he
    cases he
    rw [ha.zs]
    exact ⟨okf29, takeY_ok _, match_PFG hmut ha.tab ha.len ha.day ha.days cfM⟩
  · by_cases h2 : f = 27
    · subst h2
      have h : ∃ a : A27, a.ok s zs := by
        unfold cfM at he
        rw [if_neg (by decide), if_pos rfl] at he
        split at he
        · assumption
        · cases he
      obtain ⟨a, ha⟩ := h
      rw [cfM_27 a ha] at he
      cases he
      rw [ha.zs]
      exact ⟨okf27, rfl, rest_PFG hmut cfM a.n ha.len ha.set⟩
    · unfold cfM at he
      rw [if_neg h1, if_neg h2] at he
      cases he
end
theorem eff_cf {f : Nat} (hf : f < 1000000) {cf : Maps → Nat → List V → Option (V × Maps)} {s : Maps} {zs : List V} : mapEff Try.prog cf s f zs = cf s f zs := by
  unfold mapEff
  rw [if_neg (by simp only [LOOK]; omega), if_neg (by simp only [UPD]; omega), if_neg (by simp only [NILC]; omega)]

/-! ### The inner round -/
section
variable (ours theirs : List Item) (g1 g2 g3 : Nat) (pass : Int) (st : St3)
abbrev EM (i : Nat) : Env := [(0, .l (items ours)), (1, .l (items theirs)), (7, tab3 theirs g1 g2 g3), (8, .mp (ints st.met) (trues st.met)), (9, .ow 38 (encL triV st.out)), (10, .i .i64 pass), (36, .l (items ours)), (37, .i .i64 ours.length), (38, .i .i64 i)]
abbrev EMx (x : Item) (i : Nat) : Env := [(0, .l (items ours)), (1, .l (items theirs)), (7, tab3 theirs g1 g2 g3), (8, .mp (ints st.met) (trues st.met)), (9, .ow 38 (encL triV st.out)), (10, .i .i64 pass), (11, .i .i64 i), (12, .bx x.cells), (36, .l (items ours)), (37, .i .i64 ours.length), (38, .i .i64 i), (39, .b true)]
abbrev EMy (x : Item) (i : Nat) (b : Bool) : Env := [(0, .l (items ours)), (1, .l (items theirs)), (7, tab3 theirs g1 g2 g3), (8, .mp (ints st.met) (trues st.met)), (9, .ow 38 (encL triV st.out)), (10, .i .i64 pass), (11, .i .i64 i), (12, .bx x.cells), (36, .l (items ours)), (37, .i .i64 ours.length), (38, .i .i64 i), (39, .b true), (45, .b b)]
abbrev EMz (x : Item) (i : Nat) (r : Option Int) : Env := [(0, .l (items ours)), (1, .l (items theirs)), (7, tab3 theirs g1 g2 g3), (8, .mp (ints st.met) (trues st.met)), (9, .ow 38 (encL triV st.out)), (10, .i .i64 pass), (11, .i .i64 i), (12, .bx x.cells), (13, .i .i64 (r.getD 0)), (14, .b r.isSome), (36, .l (items ours)), (37, .i .i64 ours.length), (38, .i .i64 i), (39, .b true), (45, .b false)]
theorem kb2 (k : Int) : keyB 2 (.i .i64 k) = true := rfl
theorem m8 {i : Nat} (h : i < ours.length) : exec O0 n11_8 (EM ours theirs g1 g2 g3 pass st i) = some (.n, EM ours theirs g1 g2 g3 pass st i ++ [(39, .b true)]) := by simp [n11_8, h]
theorem m8e : exec O0 n11_8 (EM ours theirs g1 g2 g3 pass st ours.length) = some (.n, EM ours theirs g1 g2 g3 pass st ours.length ++ [(39, .b false)]) := by simp [n11_8]
theorem m9 (i : Nat) : exec O0 n11_9 (EM ours theirs g1 g2 g3 pass st i ++ [(39, .b true)]) = some (.n, EM ours theirs g1 g2 g3 pass st i ++ [(39, .b true)]) := by simp [n11_9]
theorem m9e (i : Nat) : exec O0 n11_9 (EM ours theirs g1 g2 g3 pass st i ++ [(39, .b false)]) = some (.e 2, [(0, .l (items ours)), (1, .l (items theirs)), (7, tab3 theirs g1 g2 g3), (8, .mp (ints st.met) (trues st.met)), (9, .ow 38 (encL triV st.out)), (10, .i .i64 pass)]) := by simp [n11_9]
theorem m10 {i : Nat} (h : i < ours.length) : exec O0 n11_10 (EM ours theirs g1 g2 g3 pass st i ++ [(39, .b true)]) = some (.n, EMx ours theirs g1 g2 g3 pass st ours[i] i) := by simp [n11_10, h]
theorem m11a (x : Item) (i : Nat) (hc : st.met.contains (i : Int) = true) : exec O0 n11_11 (EMx ours theirs g1 g2 g3 pass st x i) = some (.e 3, EM ours theirs g1 g2 g3 pass st i) := by
  have h1 := mfind_set (i : Int) st.met
  have h2 := ints_keys st.met
  rw [hc] at h1
  simp [n11_11, h1, kb2]
  exact List.all_eq_true.1 h2
theorem m11b (x : Item) (i : Nat) (hc : st.met.contains (i : Int) = false) : exec O0 n11_11 (EMx ours theirs g1 g2 g3 pass st x i) = some (.n, EMy ours theirs g1 g2 g3 pass st x i false) := by
  have h1 := mfind_set (i : Int) st.met
  have h2 := ints_keys st.met
  rw [hc] at h1
  simp [n11_11, h1, kb2]
  exact List.all_eq_true.1 h2
theorem m12 {s s' : Maps} (x : Item) (i : Nat) (r : Option Int) (h : cfM s 29 [tab3 theirs g1 g2 g3, x.v, .i .i64 pass] = some (takeY r, s')) : ∃ env1, stepsR (mapsR Try.prog cfM) O0 n11_12 (EMy ours theirs g1 g2 g3 pass st x i false) s = some (env1, s') ∧
    dropE [47, 48, 49, 50, 46, 51, 52] env1 = EMz ours theirs g1 g2 g3 pass st x i r := by
  rw [takeY_t] at h
  refine ⟨_, by simp [n11_12, stepsR, stepR, eff_cf, h]; rfl, by simp⟩
theorem m13a (x : Item) (i : Nat) : exec O0 n11_13 (EMz ours theirs g1 g2 g3 pass st x i none) = some (.n, EMz ours theirs g1 g2 g3 pass st x i none ++ [(53, .b false)]) := by simp [n11_13]
theorem m13b (x : Item) (i : Nat) (k : Int) (hc : st.met.contains (i : Int) = false) (hb : (st.out.length + 1) * 24 ≤ 140737488355328) : exec O0 n11_13 (EMz ours theirs g1 g2 g3 pass st x i (some k)) = some (.n, EMz ours theirs g1 g2 g3 pass ⟨st.met ++ [(i : Int)], st.tak ++ [k], st.out ++ [((i : Int), k, pass)]⟩ x i (some k) ++ [(53, .b true)]) := by
  have h1 := mkeys_set (i : Int) st.met
  have h2 := ints_keys st.met
  have h3 := mvals_set (i : Int) st.met
  rw [hc] at h1 h3
  simp [n11_13, h1, h3, kb2, hb, encL_append, encL_cons, triV]
  exact List.all_eq_true.1 h2
theorem m14 (x : Item) (i : Nat) (r : Option Int) (b : Bool) (hi : i < 100000) : ∃ env1, exec O0 n11_14 (EMz ours theirs g1 g2 g3 pass st x i r ++ [(53, .b b)]) = some (.n, env1) ∧ keepE [0, 1, 7, 8, 9, 10, 36, 37, 38] env1 = EM ours theirs g1 g2 g3 pass st (i + 1) := by
  have hw := wrap_i64 (i + 1) (by omega)
  exact ⟨_, by simp [n11_14, hw]; rfl, by simp⟩
theorem m14' (i : Nat) (hi : i < 100000) : exec O0 n11_14 (EM ours theirs g1 g2 g3 pass st i) = some (.n, EM ours theirs g1 g2 g3 pass st (i + 1)) := by
  have hw := wrap_i64 (i + 1) (by omega)
  simp [n11_14, hw]
end
end Go.Proofs.Ytmhpmghhgppdnaa
