/-
  The names of the products: a map's keys, in whatever order they come, then sorted.
-/
import Derived.Test.YtlmbgmobghmmmaaBase
namespace Go.Proofs.Ytlmbgmobghmmmaa
open Go.VM
-- 18: corebank/catalog.Names
def n18_1 : C :=
 (.s [.as 2 (.c (.ow 9 []))] [])
def n18_2 : C :=
 (.s [.mkm 8, .as 3 (.t 8)] [8])
def body18_1 : C :=
 (.seq (.q [(12, (.op (.bin .lss) [(.sl 11), (.sl 10)]))])
 (.seq (.cond (.sl 12) .skip (.exit 0 [3]))
 (.seq (.blk 1 (.seq (.s [.ix 13 19 (.t 9) (.t 11), .q 14 (.ld 19 true) [(.t 13)], .alo 5 [(.s []), (.s []), (.s []), (.i .i64 0), (.i .i64 0), (.i .i64 0), (.i .i64 0), (.l []), (.b false), (.i .i64 0), (.i .i64 0), (.b false), (.l []), (.b false), (.i .i64 0), (.i .i64 0), (.b false), (.l []), (.l [])], .sto 19 (.t 5) (.t 14)] [13, 14])
 (.s [.mv 15 (.t 3), .fa 16 0 1 (.t 5), .q 17 (.ld 1 false) [(.t 16)], .mset 1 (.t 15) (.t 17) (.c (.b true))] [15, 16, 17])))
 (.q [(11, (.op (.bin .add) [(.sl 11), (.k (.i .i64 1))]))]))))
def n18_3 : C :=
 (.seq (.s [.mv 9 (.t 0), .q 10 .len [(.t 9)], .mv 11 (.c (.i .i64 0))] [])
 (.blk 0 (.loop [3, 9, 10, 11] body18_1)))
def n18_4 : C :=
 (.s [.as 6 (.c (.ow 9 []))] [])
def n18_5 : C :=
 (.s [.mv 25 (.t 6), .mv 26 (.t 7), .bsl 27 9 1 [(.t 26)], .app 28 9 1 16 (.t 25) (.t 27), .as 6 (.t 28)] [25, 26, 27, 28])
def n18_6 : RG := ⟨[.mv 19 (.t 3)], [19], 19, 20, 21, 22, 23, [6, 20], [.ext 24 0 23, .as 7 (.t 24)], [23, 24], 2, 3⟩
def n18_7 : C :=
 (.seq (.s [.mv 29 (.t 6), .callm (some 30) 31 (mutOf 31) (.t 29) []] [29, 30])
 (.seq (.s [.mv 31 (.t 6), .as 2 (.t 31)] [31])
 (.ret [2])))
def code18 : NCode := ⟨1, [.tmp 2],
 (.seq (.c n18_1)
 (.seq (.c n18_2)
 (.seq (.c n18_3)
 (.seq (.c n18_4)
 (.seq (.rng n18_6 (.c n18_5))
 (.c n18_7))))))⟩
theorem comp18 : compileN Try.prog (.seq .c (.seq .c (.seq .c (.seq .c (.seq (.rng .c) .c))))) Try.f18 = some code18 := by kernel_rfl
theorem okf18 : okFn Try.prog 18 = true := by kernel_rfl
/-- An element whose first cell is a text. -/
structure PN where
  name : List UInt8
  rest : List V
abbrev PN.v (x : PN) : V := .a (.s x.name :: x.rest)
def PN.ok (x : PN) : Prop := x.rest.length = 18 ∧ ∀ y ∈ x.rest, V.cell y = true
/-- The texts of a list, each once, in the order in which they come first. -/
def addN (ks : List (List UInt8)) (n : List UInt8) : List (List UInt8) := if n ∈ ks then ks else ks ++ [n]
def keysN (ns : List (List UInt8)) : List (List UInt8) := ns.foldl addN []
theorem mkeys_mem' {k : List UInt8} {l : List (List UInt8)} (h : k ∈ l) : mkeys (.s k) (setK l) = setK l := by
  induction l with
  | nil => cases h
  | cons x l ih =>
    simp only [setK, List.map_cons, mkeys, keyEq, decide_eq_true_eq]
    by_cases he : k = x
    · rw [if_pos he]
    · rw [if_neg he]
      rcases List.mem_cons.1 h with h | h
      · exact absurd h he
      · rw [show mkeys (.s k) (List.map V.s l) = setK l from ih h]
theorem mvals_mem' {k : List UInt8} {l : List (List UInt8)} (h : k ∈ l) : mvals (.s k) (.b true) (setK l) (setV l) = setV l := by
  induction l with
  | nil => cases h
  | cons x l ih =>
    simp only [setK, setV, List.map_cons, mvals, keyEq, decide_eq_true_eq]
    by_cases he : k = x
    · rw [if_pos he]
    · rw [if_neg he]
      rcases List.mem_cons.1 h with h | h
      · exact absurd h he
      · rw [show mvals (.s k) (.b true) (List.map V.s l) (List.map (fun _ => V.b true) l) = setV l from ih h]
theorem mkeys_add (k : List UInt8) (l : List (List UInt8)) : mkeys (.s k) (setK l) = setK (addN l k) := by
  unfold addN; split
  · exact mkeys_mem' ‹_›
  · exact mkeys_set ‹_›
theorem mvals_add (k : List UInt8) (l : List (List UInt8)) : mvals (.s k) (.b true) (setK l) (setV l) = setV (addN l k) := by
  unfold addN; split
  · exact mvals_mem' ‹_›
  · exact mvals_set ‹_›
theorem keysN_take (l : List PN) {i : Nat} (hi : i < l.length) : keysN ((l.take (i + 1)).map (·.name)) = addN (keysN ((l.take i).map (·.name))) l[i].name := by
  unfold keysN
  rw [List.take_succ_eq_append_getElem hi, List.map_append, List.foldl_append]; rfl
theorem addN_len (ks : List (List UInt8)) (n : List UInt8) : (addN ks n).length ≤ ks.length + 1 := by unfold addN; split <;> simp
theorem keysN_len (l : List PN) : ∀ i, i ≤ l.length → (keysN ((l.take i).map (·.name))).length ≤ i
  | 0, _ => by simp [keysN]
  | i + 1, h => by
    have hi : i < l.length := h
    rw [keysN_take l hi]
    have := addN_len (keysN ((l.take i).map (·.name))) l[i].name
    have := keysN_len l i (by omega)
    omega
theorem l18 (l : List PN) (hok : ∀ x ∈ l, x.ok) (h : l.length ≤ 1000) : loopK o0 [3, 9, 10, 11] body18_1 [(3, .mp [] []), (9, .l (encL PN.v l)), (10, .i .i64 l.length), (11, .i .i64 0)] = some (.e 0, [(3, .mp (setK (keysN (l.map (·.name)))) (setV (keysN (l.map (·.name)))))]) := by
  have := loopK_run (o := o0) (kin := [3, 9, 10, 11]) (c := body18_1) (fun i => [(3, .mp (setK (keysN ((l.take i).map (·.name)))) (setV (keysN ((l.take i).map (·.name))))), (9, .l (encL PN.v l)), (10, .i .i64 l.length), (11, .i .i64 i)]) l.length (.e 0, [(3, .mp (setK (keysN (l.map (·.name)))) (setV (keysN (l.map (·.name)))))]) (by simp) (fun i hi => by
    have hw := wrap_i64 (i + 1) (by omega)
    have h1 := mkeys_add l[i].name (keysN ((l.take i).map (·.name)))
    have h2 := mvals_add l[i].name (keysN ((l.take i).map (·.name)))
    have h3 := setK_all (keysN ((l.take i).map (·.name)))
    rw [← keysN_take l hi] at h1 h2
    generalize keysN ((l.take (i + 1)).map (·.name)) = k1 at h1 h2 ⊢
    generalize hK : setK (keysN ((l.take i).map (·.name))) = K at h1 h2 h3 ⊢
    generalize hV : setV (keysN ((l.take i).map (·.name))) = W at h1 h2 h3 ⊢
    have h5 : keyB 1 (.s l[i].name) = true := rfl
    obtain ⟨hr, hc⟩ := hok _ (List.getElem_mem hi)
    simp [body18_1, hi, hw, h1, h2, h5, hr]
    rw [if_pos hc, if_pos (fun x hx => List.all_eq_true.1 h3 x hx)]) (by simp [body18_1]) (by simp)
  exact this
/-! ### The keys, in whatever order they come -/
theorem a18 (l : List PN) (_h : l.length ≤ 1000) : exec o0 n18_1 [(0, .l (encL PN.v l))] = some (.n, [(0, .l (encL PN.v l)), (2, .ow 9 [])]) := by simp [n18_1]
theorem b18 (l : List PN) : exec o0 n18_2 [(0, .l (encL PN.v l)), (2, .ow 9 [])] = some (.n, [(0, .l (encL PN.v l)), (2, .ow 9 []), (3, .mp [] [])]) := by simp [n18_2]
theorem c18 (l : List PN) (hok : ∀ x ∈ l, x.ok) (h : l.length ≤ 1000) : exec o0 n18_3 [(0, .l (encL PN.v l)), (2, .ow 9 []), (3, .mp [] [])] = some (.n, [(3, .mp (setK (keysN (l.map (·.name)))) (setV (keysN (l.map (·.name)))))]) := by
  have hl := l18 l hok h
  generalize setK (keysN (l.map (·.name))) = K at hl ⊢
  generalize setV (keysN (l.map (·.name))) = W at hl ⊢
  simp [n18_3, exec_loopK, hl]
theorem d18 (K W : List V) : exec o0 n18_4 [(3, .mp K W)] = some (.n, [(3, .mp K W), (6, .ow 9 [])]) := by simp [n18_4]
theorem erase_perm {α : Type} : ∀ {l : List α} {i : Nat} {x : α}, l[i]? = some x → (x :: l.eraseIdx i).Perm l
  | [], i, x, h => by simp at h
  | y :: l, 0, x, h => by simp only [List.getElem?_cons_zero, Option.some.injEq] at h; subst h; exact .refl _
  | y :: l, i + 1, x, h => by
    simp only [List.getElem?_cons_succ] at h
    rw [List.eraseIdx_cons_succ]
    exact (List.Perm.swap y x _).trans ((erase_perm h).cons y)
/-- The frame in the range, and behind it. -/
def E18 (b : Nat) (done : List (List UInt8)) : Option (List UInt8) → Env
  | none => [(6, .ow 9 (strs done)), (20, .pt b)]
  | some k => [(6, .ow 9 (strs done)), (7, .s k), (20, .pt b)]
def F18 (done : List (List UInt8)) : Option (List UInt8) → Env
  | none => [(6, .ow 9 (strs done))]
  | some k => [(6, .ow 9 (strs done)), (7, .s k)]
theorem strs_snoc (l : List (List UInt8)) (k : List UInt8) : strs l ++ [.s k] = strs (l ++ [k]) := by simp [strs, encL]
theorem e18a (b : Nat) (done : List (List UInt8)) (k : List UInt8) (h : done.length ≤ 1000) : exec o0 n18_5 (E18 b done (some k)) = some (.n, E18 b (done ++ [k]) (some k)) := by
  have hb : (done.length + 1) * 16 ≤ 140737488355328 := by omega
  have hs := strs_snoc done k
  have hl := len_strs done
  unfold E18
  generalize strs done = D at hs hl ⊢
  simp [n18_5, hl, hb, hs]
theorem r18 (b : Nat) (ks : List (List UInt8)) (hk : ks.length ≤ 1000) : ∀ (n : Nat) (rem done : List (List UInt8)) (o : Option (List UInt8)), rem.length = n → (done ++ rem).Perm ks →
    roundG o0 (WP o0 (.c n18_5)) n18_6 b (fun e env => e = .n ∧ ∃ d o, d.Perm ks ∧ env = F18 d o) n (rem.map fun k => (V.s k, V.b true)) (E18 b done o)
  | 0, rem, done, o, hn, hp => by
    have : rem = [] := List.eq_nil_of_length_eq_zero hn
    subst this
    rw [List.append_nil] at hp
    refine ⟨by cases o <;> rfl, rfl, done, o, hp, ?_⟩
    cases o <;> simp [E18, F18, n18_6, dropE, V.names]
  | n + 1, rem, done, o, hn, hp => by
    refine ⟨by cases o <;> rfl, fun i k v hi => ?_⟩
    rw [List.getElem?_map] at hi
    cases hr : rem[i]? with
    | none => rw [hr] at hi; cases hi
    | some x =>
      rw [hr] at hi
      simp only [Option.map_some, Option.some.injEq, Prod.mk.injEq] at hi
      obtain ⟨rfl, rfl⟩ := hi
      have hlen : done.length ≤ 1000 := by
        have := hp.length_eq
        rw [List.length_append] at this
        omega
      refine ⟨[(6, .ow 9 (strs done)), (7, .s x), (20, .pt b), (23, .t [.s x, .b true]), (24, .s x)], ?_, .n, E18 b (done ++ [x]) (some x), ?_, ?_⟩
      · cases o <;> simp [E18, n18_6, dropE, keepE, V.names, stepsS, stepS, put', put, VM.get, purge, V.isOwn]
      · have := e18a b done x hlen
        rw [← this]
        simp [E18, n18_6, dropE, V.names]
      · have hil : i < rem.length := (List.getElem?_eq_some_iff.1 hr).1
        have hp' : (done ++ [x] ++ rem.eraseIdx i).Perm ks := by
          refine List.Perm.trans ?_ hp
          have h1 : (x :: rem.eraseIdx i).Perm rem := erase_perm hr
          rw [List.append_assoc]
          exact List.Perm.append_left _ h1
        have := r18 b ks hk n (rem.eraseIdx i) (done ++ [x]) (some x) (by rw [List.length_eraseIdx, if_pos hil]; omega) hp'
        have e : (rem.map fun k => (V.s k, V.b true)).eraseIdx i = (rem.eraseIdx i).map fun k => (V.s k, V.b true) := by
          rw [List.eraseIdx_eq_take_drop_succ, List.eraseIdx_eq_take_drop_succ, List.map_append, List.map_take, List.map_drop]
        show roundG _ _ _ _ _ n (List.eraseIdx _ i) _
        rw [e]
        exact this
theorem f18 (d : List (List UInt8)) (o : Option (List UInt8)) (h : d.length ≤ 1000) : exec o0 n18_7 (F18 d o) = some (.r, [(2, .ow 9 (strs (isortS d)))]) := by
  have hd : d.length ≤ 1000000 := by omega
  have h31 : mutOf 31 = ⟨9, false, false, sortSRun⟩ := rfl
  cases o <;> simp [F18, n18_7, h31, sortSRun, hd]
theorem pf18 (l : List PN) (hok : ∀ x ∈ l, x.ok) (h : l.length ≤ 1000) : PF Try.prog 18 [.l (encL PN.v l)] (.ow 9 (strs (isortS (keysN (l.map (·.name)))))) := by
  refine bodyN_sound (sound0 Try.prog mutOK) Try.func18 comp18 rfl rfl ?_
  have hkl : (keysN (l.map (·.name))).length ≤ 1000 := by
    have := keysN_len l l.length (Nat.le_refl _)
    rw [List.take_length] at this
    omega
  refine ⟨_, _, a18 l h, _, _, b18 l, _, _, c18 l hok h, _, _, d18 _ _, ?_⟩
  generalize keysN (l.map (·.name)) = ks at hkl ⊢
  refine WP_mono (.rng n18_6 (.c n18_5)) _ (fun e env => e = .n ∧ ∃ d o, d.Perm ks ∧ env = F18 d o) _ (fun e env he => ?_) ⟨[(3, .mp (setK ks) (setV ks)), (6, .ow 9 []), (19, .al 3)], rfl, 3, setK ks, setV ks, rfl, by simp, by simp, fun b => ?_⟩
  · obtain ⟨rfl, d, o, hp, rfl⟩ := he
    refine ⟨_, _, f18 d o (by rw [hp.length_eq]; exact hkl), by simp, ?_⟩
    have : isortS d = isortS ks := by
      refine List.Perm.eq_of_pairwise (le := fun x y => decide (x ≤ y)) (fun a b _ _ h1 h2 => ?_) ?_ ?_ ((isortS_perm d).trans (hp.trans (isortS_perm ks).symm))
      · simp only [decide_eq_true_eq] at h1 h2; exact List.le_antisymm h1 h2
      · exact (isortS_sorted d).imp fun h => by simpa using h
      · exact (isortS_sorted ks).imp fun h => by simpa using h
    rw [this]
    simp [code18, retV_eq]
  · have := r18 b ks hkl ks.length ks [] none rfl (.refl _)
    have hz : (setK ks).zip (setV ks) = ks.map fun k => (V.s k, V.b true) := by
      rw [List.zip_eq_zipWith]
      induction ks with
      | nil => rfl
      | cons x ks ih => simp [setK, setV] at ih ⊢
    rw [hz, show (setK ks).length = ks.length from by simp [setK]]
    exact this
/-! ### What other functions see of it -/
def toPN : V → Option PN
  | .a (.s n :: r) => if r.length = 18 ∧ r.all V.cell = true then some ⟨n, r⟩ else none
  | _ => none
def toPNs : List V → Option (List PN)
  | [] => some []
  | x :: r => (toPN x).bind fun y => (toPNs r).bind fun ys => some (y :: ys)
theorem toPN_inv {x : V} {y : PN} (h : toPN x = some y) : x = y.v ∧ y.ok := by
  unfold toPN at h
  split at h
  · split at h
    · rename_i hc
      cases h
      exact ⟨rfl, hc.1, fun y hy => List.all_eq_true.1 hc.2 y hy⟩
    · cases h
  · cases h
theorem toPNs_inv : ∀ {xs : List V} {ys : List PN}, toPNs xs = some ys → xs = encL PN.v ys ∧ ∀ y ∈ ys, y.ok
  | [], ys, h => by simp only [toPNs, Option.some.injEq] at h; subst h; exact ⟨rfl, by simp⟩
  | x :: r, ys, h => by
    simp only [toPNs, Option.bind_eq_some_iff, Option.some.injEq] at h
    obtain ⟨y, hy, zs, hz, rfl⟩ := h
    obtain ⟨h1, h2⟩ := toPN_inv hy
    obtain ⟨h3, h4⟩ := toPNs_inv hz
    refine ⟨by rw [h1, h3]; rfl, fun q hq => ?_⟩
    rcases List.mem_cons.1 hq with rfl | hq
    · exact h2
    · exact h4 q hq
def namesF : List V → Option V
  | [.l es] => (toPNs es).bind fun l => if l.length ≤ 1000 then some (.ow 9 (strs (isortS (keysN (l.map (·.name)))))) else none
  | _ => none
theorem namesF_PF (xs : List V) (y : V) (h : namesF xs = some y) : okFn Try.prog 18 = true ∧ PF Try.prog 18 xs y := by
  unfold namesF at h
  split at h
  · rename_i es
    cases hp : toPNs es with
    | none => rw [hp] at h; cases h
    | some l =>
      rw [hp] at h
      simp only [Option.bind_some] at h
      split at h
      · rename_i hl
        cases h
        obtain ⟨rfl, hok⟩ := toPNs_inv hp
        exact ⟨okf18, pf18 l hok hl⟩
      · cases h
  · cases h
theorem toPNs_prod (l : List Product) : toPNs (encL Product.v l) = some (l.map fun p => ⟨p.name, .s p.currency :: .s p.calendar :: .i .i64 p.from' :: p.rest⟩) := by
  induction l with
  | nil => rfl
  | cons x l ih =>
    rw [encL_cons]
    simp only [toPNs, ih, List.map_cons]
    simp [toPN, V.cell]
theorem namesF_prod (l : List Product) (h : l.length ≤ 1000) : namesF [.l (encL Product.v l)] = some (.ow 9 (strs (isortS (keysN (l.map (·.name)))))) := by
  show ((toPNs (encL Product.v l)).bind fun l => if l.length ≤ 1000 then some (V.ow 9 (strs (isortS (keysN (l.map (·.name)))))) else none) = _
  rw [toPNs_prod]
  simp only [Option.bind_some, List.length_map, List.map_map]
  rw [if_pos h]; rfl
end Go.Proofs.Ytlmbgmobghmmmaa
