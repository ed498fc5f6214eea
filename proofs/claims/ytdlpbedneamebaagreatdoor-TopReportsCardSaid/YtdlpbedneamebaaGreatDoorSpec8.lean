/-
  What the functions that the laws reach compute: the reference's report.
-/
import Derived.Test.YtdlpbedneamebaaGreatDoorSpec4
import Derived.Test.YtdlpbedneamebaaGreatDoorMut
import Derived.Test.YtdlpbedneamebaaGreatDoorVmS
namespace Go.Proofs.YtdlpbedneamebaaGreatDoor
open Go.VM
variable {X : Orc}
def cellOf (b : Books) (r : Row) (bk : Int) (x : Currency) : Cell := ⟨r.name, x.code, sumN b r x.code bk⟩
def cellBad (b : Books) (r : Row) (bk : Int) (k : Nat) : Option Unit := match b.currencies[k]? with
  | some x => if cellE (sumN b r x.code bk) = 0 then none else some ()
  | none => none
def rowBad (b : Books) (l : List Row) (bk : Int) (i : Nat) : Option Unit := match l[i]? with
  | some r => (List.range b.currencies.length).findSome? (cellBad b r bk)
  | none => none
def rowCells (b : Books) (bk : Int) (r : Row) : List Cell := b.currencies.map (cellOf b r bk)
def cellsOfL (b : Books) (l : List Row) (bk : Int) : List Cell := l.flatMap (rowCells b bk)
def makeV (b : Books) (l : List Row) (bk : Int) : V :=
  if chk b l = 0 then (match (List.range l.length).findSome? (rowBad b l bk) with
    | none => .t [.ow 47 (encX (cellsOfL b l bk)), .i .i64 0]
    | some _ => .t [.ow 47 [], .i .i64 6]) else .t [.ow 47 [], .i .i64 (chk b l)]
theorem encX_snoc (l : List Cell) (x : Cell) : encX l ++ [x.v] = encX (l ++ [x]) := by simp [encL]
theorem rowCells_len (b : Books) (bk : Int) (r : Row) : (rowCells b bk r).length = b.currencies.length := by simp [rowCells]
theorem cellsOfL_len (b : Books) (bk : Int) : ∀ l : List Row, (cellsOfL b l bk).length = l.length * b.currencies.length
  | [] => by simp [cellsOfL]
  | r :: l => by
    have := cellsOfL_len b bk l
    simp only [cellsOfL, List.flatMap_cons, List.length_append, rowCells_len, List.length_cons] at this ⊢
    rw [this, Nat.add_mul, Nat.one_mul, Nat.add_comm]
end Go.Proofs.YtdlpbedneamebaaGreatDoor
namespace Go.Proofs.YtdlpbedneamebaaGreatDoor
open Go.VM
variable {X : Orc}
-- 6: corebank/report.Make
def n6_1 : C :=
 (.s [.box 3 (.t 0), .as 6 (.c (.ow 47 [])), .as 7 (.c (.i .i64 0))] [])
def n6_2 : C :=
 (.seq (.q [(8, (.op (.call false 18) [(.op (.ld 22 true) [(.sl 3)]), (.sl 1)]))])
 (.seq (.q [(24, (.op (.bin .neq) [(.sl 8), (.k (.i .i64 0))]))])
 (.cond (.sl 24) (.seq (.s [.mv 25 (.t 8), .as 6 (.c (.ow 47 [])), .as 7 (.t 25)] [25])
 (.ret [6, 7])) .skip)))
def n6_3 : C :=
 (.s [.as 9 (.c (.ow 47 []))] [])
def n6_4 : C :=
 (.s [.mv 26 (.t 1), .q 27 .len [(.t 26)], .mv 28 (.c (.i .i64 0))] [])
def n6_5 : C :=
 (.q [(29, (.op (.bin .lss) [(.sl 28), (.sl 27)]))])
def n6_6 : C :=
 (.cond (.sl 29) .skip (.exit 0 [9]))
def n6_7 : C :=
 (.s [.ix 30 3 (.t 26) (.t 28), .q 31 (.ld 3 true) [(.t 30)], .alo 11 [(.s []), (.i .i64 0), (.l [])], .sto 3 (.t 11) (.t 31)] [30, 31])
def n6_8 : C :=
 (.s [.mkm 32, .as 12 (.t 32)] [32])
def n6_9 : C :=
 (.s [.fa 33 19 1 (.t 3), .q 34 (.ld 1 false) [(.t 33)], .q 35 .len [(.t 34)], .mv 36 (.c (.i .i64 0))] [33])
def n6_10 : C :=
 (.q [(37, (.op (.bin .lss) [(.sl 36), (.sl 35)]))])
def n6_11 : C :=
 (.cond (.sl 37) .skip (.exit 2 [2, 3, 9, 11, 12, 26, 27, 28]))
def n6_12 : C :=
 (.s [.ix 38 10 (.t 34) (.t 36), .q 39 (.ld 10 true) [(.t 38)], .alo 14 [(.i .i64 0), (.i .i64 0), (.i .i64 0), (.i .i64 0), (.i .i64 0), (.i .i64 0), (.s []), (.s []), (.l []), (.i .u64 0)], .sto 10 (.t 14) (.t 39)] [38, 39])
def n6_13 : C :=
 (.seq (.q [(43, (.op (.bin .gtr) [(.op (.ld 1 false) [(.op (.fa 1 1) [(.sl 14)])]), (.sl 2)]))])
 (.cond (.sl 43) (.exit 3 [2, 3, 9, 11, 12, 26, 27, 28, 34, 35, 36]) .skip))
def n6_14 : C :=
 (.s [.mv 54 (.t 12), .mv 55 (.t 15), .mget 56 1 (.i .i64 0) (.t 54) (.t 55), .mv 57 (.t 16), .q 58 (.bin .add) [(.t 56), (.t 57)], .mset 1 (.t 54) (.t 55) (.t 58)] [54, 55, 56, 57, 58])
def n6_15 : RG := ⟨[.q 44 (.ld 22 true) [(.t 3)], .q 45 (.ld 3 true) [(.t 11)], .q 46 (.ld 10 true) [(.t 14)], .call (some 47) 19 [(.t 44), (.t 45), (.t 46)]], [44, 45, 46, 47], 47, 48, 49, 50, 51, [2, 3, 9, 11, 12, 26, 27, 28, 34, 35, 36, 48], [.ext 52 0 51, .ext 53 1 51, .as 15 (.t 52), .as 16 (.t 53)], [51, 52, 53], 4, 5⟩
def n6_16 : C :=
 (.q [(36, (.op (.bin .add) [(.sl 36), (.k (.i .i64 1))]))])
def body7_1 : C :=
 (.seq (.q [(64, (.op (.bin .lss) [(.sl 63), (.sl 62)]))])
 (.seq (.cond (.sl 64) .skip (.exit 6 [2, 3, 9, 26, 27, 28]))
 (.seq (.blk 7 (.seq (.s [.ix 65 2 (.t 61) (.t 63), .q 66 (.ld 2 true) [(.t 65)], .alo 18 [(.s []), (.i .i64 0)], .sto 2 (.t 18) (.t 66)] [65, 66])
 (.seq (.s [.mv 67 (.t 12), .fa 68 0 1 (.t 18), .q 69 (.ld 1 false) [(.t 68)], .mget 70 1 (.i .i64 0) (.t 67) (.t 69), .as 19 (.t 70)] [67, 68, 69, 70])
 (.seq (.seq (.q [(73, (.op (.un .not) [(.op (.call false 20) [(.sl 19)])]))])
 (.cond (.sl 73) (.seq (.s [.as 6 (.c (.ow 47 [])), .as 7 (.c (.i .i64 6))] [])
 (.ret [6, 7])) .skip))
 (.s [.mv 74 (.t 9), .fa 75 0 1 (.t 11), .q 76 (.ld 1 false) [(.t 75)], .fa 77 0 1 (.t 18), .q 78 (.ld 1 false) [(.t 77)], .mv 79 (.t 19), .bld 80 [(.s []), (.s []), (.i .i64 0)] [(0, 1), (1, 1), (2, 1)] [(.t 76), (.t 78), (.t 79)], .bsl 81 47 3 [(.t 80)], .app 82 47 3 40 (.t 74) (.t 81), .as 9 (.t 82)] [74, 75, 76, 77, 78, 79, 80, 81, 82])))))
 (.q [(63, (.op (.bin .add) [(.sl 63), (.k (.i .i64 1))]))]))))
def n6_17 : C :=
 (.seq (.s [.fa 60 0 1 (.t 3), .q 61 (.ld 1 false) [(.t 60)], .q 62 .len [(.t 61)], .mv 63 (.c (.i .i64 0))] [60])
 (.blk 6 (.loop [2, 3, 9, 11, 12, 26, 27, 28, 61, 62, 63] body7_1)))
def n6_18 : C :=
 (.q [(28, (.op (.bin .add) [(.sl 28), (.k (.i .i64 1))]))])
def n6_19 : C :=
 (.seq (.s [.mv 85 (.t 9), .as 6 (.t 85), .as 7 (.c (.i .i64 0))] [85])
 (.ret [6, 7]))
def code7 : NCode := ⟨3, [.tmp 6, .tmp 7],
 (.seq (.c n6_1)
 (.seq (.c n6_2)
 (.seq (.c n6_3)
 (.seq (.seq (.c n6_4)
 (.blk 0 (.loop [2, 3, 9, 26, 27, 28] (.seq (.c n6_5)
 (.seq (.c n6_6)
 (.seq (.blk 1 (.seq (.c n6_7)
 (.seq (.c n6_8)
 (.seq (.seq (.c n6_9)
 (.blk 2 (.loop [2, 3, 9, 11, 12, 26, 27, 28, 34, 35, 36] (.seq (.c n6_10)
 (.seq (.c n6_11)
 (.seq (.blk 3 (.seq (.c n6_12)
 (.seq (.c n6_13)
 (.rng n6_15 (.c n6_14)))))
 (.c n6_16)))))))
 (.c n6_17)))))
 (.c n6_18)))))))
 (.c n6_19)))))⟩
theorem comp7 : compileN Tryz.prog (.seq .c (.seq .c (.seq .c (.seq (.seq .c (.blk (.loop (.seq .c (.seq .c (.seq (.blk (.seq .c (.seq .c (.seq (.seq .c (.blk (.loop (.seq .c (.seq .c (.seq (.blk (.seq .c (.seq .c (.rng .c)))) .c)))))) .c)))) .c)))))) .c)))) Tryz.f7 = some code7 := by kernel_rfl
theorem okf7 : okFn Tryz.prog 7 = true := by kernel_rfl

/-! ### Maps: the entries, in whatever order -/
abbrev pv (p : List UInt8 × Int) : V × V := (V.s p.1, V.i .i64 p.2)
theorem erase_perm {α : Type} : ∀ {l : List α} {i : Nat} {x : α}, l[i]? = some x → (x :: l.eraseIdx i).Perm l
  | [], i, x, h => by simp at h
  | y :: l, 0, x, h => by simp only [List.getElem?_cons_zero, Option.some.injEq] at h; subst h; exact .refl _
  | y :: l, i + 1, x, h => by
    simp only [List.getElem?_cons_succ] at h
    rw [List.eraseIdx_cons_succ]
    exact (List.Perm.swap y x _).trans ((erase_perm h).cons y)
theorem map_erase {α β : Type} (f : α → β) (l : List α) (i : Nat) : (l.map f).eraseIdx i = (l.eraseIdx i).map f := by
  rw [List.eraseIdx_eq_take_drop_succ, List.eraseIdx_eq_take_drop_succ, List.map_append, List.map_take, List.map_drop]
theorem setA_mem (c : List UInt8) (n : Int) : ∀ m : Am, ∀ x ∈ (setA c n m).map Prod.fst, x = c ∨ x ∈ m.map Prod.fst
  | [], x, h => by simp [setA] at h; exact .inl h
  | p :: r, x, h => by
    unfold setA at h
    split at h
    · right; simpa using h
    · rw [List.map_cons, List.mem_cons] at h
      rcases h with h | h
      · right; rw [h]; simp
      · rcases setA_mem c n r x h with h | h
        · exact .inl h
        · right; rw [List.map_cons]; exact List.mem_cons_of_mem _ h
theorem setA_nodup (c : List UInt8) (n : Int) : ∀ m : Am, (m.map Prod.fst).Nodup → ((setA c n m).map Prod.fst).Nodup
  | [], _ => by simp [setA]
  | p :: r, h => by
    unfold setA
    split
    · simpa using h
    · rename_i hc
      rw [List.map_cons, List.nodup_cons] at h ⊢
      refine ⟨fun hx => ?_, setA_nodup c n r h.2⟩
      rcases setA_mem c n r _ hx with h1 | h1
      · exact hc h1.symm
      · exact h.1 h1
theorem amounts_nodup (b : Books) (r : Row) (e : Entry) : ((amountsA b r e).map Prod.fst).Nodup := by
  have key : ∀ (l : List Leg) (m : Am), (m.map Prod.fst).Nodup → ((l.foldl (legA b r) m).map Prod.fst).Nodup := by
    intro l
    induction l with
    | nil => intro m h; exact h
    | cons x l ih =>
      intro m h
      rw [List.foldl_cons]
      refine ih _ ?_
      unfold legA
      split
      · exact setA_nodup _ _ _ h
      · exact h
  exact key e.legs [] (by simp)
theorem getO_mem {p : List UInt8 × Int} : ∀ {m : Am}, (m.map Prod.fst).Nodup → p ∈ m → getO p.1 m = some p.2
  | q :: r, hn, h => by
    rw [List.map_cons, List.nodup_cons] at hn
    unfold getO
    rcases List.mem_cons.1 h with rfl | h
    · rw [if_pos rfl]
    · rw [if_neg, getO_mem hn.2 h]
      intro e
      exact hn.1 (e ▸ List.mem_map_of_mem h)
theorem getO_none {c : List UInt8} : ∀ {m : Am}, (∀ p ∈ m, p.1 ≠ c) → getO c m = none
  | [], _ => rfl
  | q :: r, h => by
    unfold getO
    rw [if_neg fun e => h q (List.mem_cons_self ..) e.symm]
    exact getO_none fun p hp => h p (List.mem_cons_of_mem _ hp)
structure Half (G : List UInt8 → Int) (am rem S : Am) : Prop where
  nd : (rem.map Prod.fst).Nodup
  sub : ∀ p ∈ rem, getA p.1 am = p.2
  old : ∀ p ∈ rem, getA p.1 S = G p.1
  new : ∀ c, (∀ p ∈ rem, p.1 ≠ c) → getA c S = w (G c + getA c am)
theorem Half.start {G : List UInt8 → Int} {am S : Am} (hn : (am.map Prod.fst).Nodup) (hG : ∀ c, w (G c) = G c) (h : ∀ c, getA c S = G c) : Half G am am S :=
  ⟨hn, fun p hp => by rw [getA, getO_mem hn hp]; rfl, fun p _ => h p.1, fun c hc => by
    have : getA c am = 0 := by rw [getA, getO_none hc]; rfl
    rw [this, Int.add_zero, hG, h]⟩
theorem Half.step {G : List UInt8 → Int} {am rem S : Am} (h : Half G am rem S) {i : Nat} {p : List UInt8 × Int} (hp : rem[i]? = some p) : Half G am (rem.eraseIdx i) (setA p.1 (w (getA p.1 S + p.2)) S) := by
  have hperm : (p :: rem.eraseIdx i).Perm rem := erase_perm hp
  have hpm : p ∈ rem := hperm.subset (List.mem_cons_self ..)
  have hsub : ∀ q ∈ rem.eraseIdx i, q ∈ rem := fun q hq => hperm.subset (List.mem_cons_of_mem _ hq)
  have hnd : ((p :: rem.eraseIdx i).map Prod.fst).Nodup := ((hperm.map _).nodup_iff).2 h.nd
  rw [List.map_cons, List.nodup_cons] at hnd
  have hne : ∀ q ∈ rem.eraseIdx i, q.1 ≠ p.1 := fun q hq e => hnd.1 (e ▸ List.mem_map_of_mem hq)
  refine ⟨hnd.2, fun q hq => h.sub q (hsub q hq), fun q hq => ?_, fun c hc => ?_⟩
  · rw [getA_set, if_neg (hne q hq)]; exact h.old q (hsub q hq)
  · rw [getA_set]
    by_cases he : c = p.1
    · rw [if_pos he, he, h.old p hpm, h.sub p hpm]
    · rw [if_neg he]
      refine h.new c fun q hq e => ?_
      rcases List.mem_cons.1 (hperm.symm.subset hq) with rfl | hq
      · exact he e.symm
      · exact hc q hq e
/-! ### The frames -/
section
variable (b : Books) (l : List Row) (bk : Int)
abbrev EO (acc : List Cell) (i : Nat) : Env := [(2, .i .i64 bk), (3, .bx b.cells), (9, .ow 47 (encX acc)), (26, .l (encR l)), (27, .i .i64 l.length), (28, .i .i64 i)]
abbrev EP (acc : List Cell) (i : Nat) (r : Row) (S : Am) : Env := [(2, .i .i64 bk), (3, .bx b.cells), (9, .ow 47 (encX acc)), (11, .bx r.cells), (12, .mp (kA S) (vA S)), (26, .l (encR l)), (27, .i .i64 l.length), (28, .i .i64 i)]
abbrev EJ (acc : List Cell) (i : Nat) (r : Row) (S : Am) (k : Nat) : Env := [(2, .i .i64 bk), (3, .bx b.cells), (9, .ow 47 (encX acc)), (11, .bx r.cells), (12, .mp (kA S) (vA S)), (26, .l (encR l)), (27, .i .i64 l.length), (28, .i .i64 i), (34, .l (encE b.journal)), (35, .i .i64 b.journal.length), (36, .i .i64 k)]
def ER (acc : List Cell) (i : Nat) (r : Row) (S : Am) (k : Nat) (e : Entry) (bb : Nat) : Option (List UInt8 × Int) → Env
  | none => [(2, .i .i64 bk), (3, .bx b.cells), (9, .ow 47 (encX acc)), (11, .bx r.cells), (12, .mp (kA S) (vA S)), (14, .bx e.cells), (26, .l (encR l)), (27, .i .i64 l.length), (28, .i .i64 i), (34, .l (encE b.journal)), (35, .i .i64 b.journal.length), (36, .i .i64 k), (37, .b true), (43, .b false), (48, .pt bb)]
  | some p => [(2, .i .i64 bk), (3, .bx b.cells), (9, .ow 47 (encX acc)), (11, .bx r.cells), (12, .mp (kA S) (vA S)), (15, .s p.1), (16, .i .i64 p.2), (26, .l (encR l)), (27, .i .i64 l.length), (28, .i .i64 i), (34, .l (encE b.journal)), (35, .i .i64 b.journal.length), (36, .i .i64 k), (48, .pt bb)]
def EQ (acc : List Cell) (i : Nat) (r : Row) (S : Am) (k : Nat) (e : Entry) : Option (List UInt8 × Int) → Env
  | none => [(2, .i .i64 bk), (3, .bx b.cells), (9, .ow 47 (encX acc)), (11, .bx r.cells), (12, .mp (kA S) (vA S)), (14, .bx e.cells), (26, .l (encR l)), (27, .i .i64 l.length), (28, .i .i64 i), (34, .l (encE b.journal)), (35, .i .i64 b.journal.length), (36, .i .i64 k), (37, .b true), (43, .b false)]
  | some p => [(2, .i .i64 bk), (3, .bx b.cells), (9, .ow 47 (encX acc)), (11, .bx r.cells), (12, .mp (kA S) (vA S)), (15, .s p.1), (16, .i .i64 p.2), (26, .l (encR l)), (27, .i .i64 l.length), (28, .i .i64 i), (34, .l (encE b.journal)), (35, .i .i64 b.journal.length), (36, .i .i64 k)]
theorem x14 (acc : List Cell) (i : Nat) (r : Row) (S : Am) (k : Nat) (e : Entry) (bb : Nat) (p : List UInt8 × Int) : exec (O X) n6_14 (ER b l bk acc i r S k e bb (some p)) = some (.n, ER b l bk acc i r (setA p.1 (w (getA p.1 S + p.2)) S) k e bb (some p)) := by
  have hk := kA_set p.1 (w (getA p.1 S + p.2)) S
  have hv := vA_set p.1 (w (getA p.1 S + p.2)) S
  have hg := get_A p.1 S
  have ha := kA_all S
  have h5 : keyB 1 (.s p.1) = true := rfl
  unfold ER
  dsimp only
  generalize setA p.1 (w (getA p.1 S + p.2)) S = S' at hk hv ⊢
  generalize getA p.1 S = g at hk hv hg ⊢
  generalize kA S' = K' at hk ⊢
  generalize vA S' = W' at hv ⊢
  generalize kA S = K at hk hv hg ha ⊢
  generalize vA S = W at hv hg ⊢
  simp only [w] at hk hv
  have ha' : (∀ x, x ∈ K → keyB 1 x = true) = True := eq_true fun x hx => List.all_eq_true.1 ha x hx
  generalize b.cells = B
  generalize encE b.journal = J
  simp [n6_14, hk, hv, hg, h5, ha']
theorem r14 (acc : List Cell) (i : Nat) (r : Row) (k : Nat) (e : Entry) (G : List UInt8 → Int) (am : Am) (bb : Nat) : ∀ (n : Nat) (rem S : Am) (o : Option (List UInt8 × Int)), rem.length = n → Half G am rem S →
    roundG (O X) (WP (O X) (.c n6_14)) n6_15 bb (fun ex env => ex = .n ∧ ∃ S' o', (∀ c, getA c S' = w (G c + getA c am)) ∧ env = EQ b l bk acc i r S' k e o') n (rem.map pv) (ER b l bk acc i r S k e bb o)
  | 0, rem, S, o, hn, hh => by
    have : rem = [] := List.eq_nil_of_length_eq_zero hn
    subst this
    refine ⟨by cases o <;> rfl, rfl, S, o, fun c => hh.new c (by simp), ?_⟩
    cases o <;> simp [ER, EQ, n6_15, dropE, V.names]
  | n + 1, rem, S, o, hn, hh => by
    refine ⟨by cases o <;> rfl, fun j k' v hi => ?_⟩
    rw [List.getElem?_map] at hi
    cases hr : rem[j]? with
    | none => rw [hr] at hi; cases hi
    | some p =>
      rw [hr] at hi
      simp only [Option.map_some, Option.some.injEq, Prod.mk.injEq] at hi
      obtain ⟨rfl, rfl⟩ := hi
      refine ⟨[(2, .i .i64 bk), (3, .bx b.cells), (9, .ow 47 (encX acc)), (11, .bx r.cells), (12, .mp (kA S) (vA S)), (15, .s p.1), (16, .i .i64 p.2), (26, .l (encR l)), (27, .i .i64 l.length), (28, .i .i64 i), (34, .l (encE b.journal)), (35, .i .i64 b.journal.length), (36, .i .i64 k), (48, .pt bb), (51, .t [.s p.1, .i .i64 p.2]), (52, .s p.1), (53, .i .i64 p.2)], ?_, .n, ER b l bk acc i r (setA p.1 (w (getA p.1 S + p.2)) S) k e bb (some p), ?_, ?_⟩
      · cases o <;> simp [ER, n6_15, dropE, keepE, V.names, stepsS, stepS, put', put, VM.get, purge, V.isOwn]
      · have := x14 (X := X) b l bk acc i r S k e bb p
        rw [← this]
        simp [ER, n6_15, dropE, V.names]
      · have hil : j < rem.length := (List.getElem?_eq_some_iff.1 hr).1
        have := r14 acc i r k e G am bb n (rem.eraseIdx j) _ (some p) (by rw [List.length_eraseIdx, if_pos hil]; omega) (hh.step hr)
        show roundG _ _ _ _ _ n (List.eraseIdx _ j) _
        rw [map_erase]
        exact this
end
end Go.Proofs.YtdlpbedneamebaaGreatDoor
