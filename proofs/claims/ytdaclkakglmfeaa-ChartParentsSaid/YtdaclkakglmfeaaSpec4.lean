/-
  What the functions that the laws reach compute: the reference's Check.
-/
import Derived.Test.YtdaclkakglmfeaaSpec3
namespace Go.Proofs.Ytdaclkakglmfeaa
open Go.VM
variable {X : Orc}
def reg11 : C :=
 (.d [.mv 70 (.t 0), .mv 71 (.t 5), .slc 72 4 false true [(.t 70), (.t 71)], .fa 73 1 1 (.t 6), .q 74 (.ld 1 false) [(.t 73)], .call (some 75) 13 [(.t 72), (.t 74)], .mv 69 (.t 75), .ext 76 0 69, .ext 77 1 69, .alo 7 [(.i .i64 0), (.i .i64 0), (.i .i64 0), (.s [])], .sto 4 (.t 7) (.t 76), .as 8 (.t 77)] [[], [], [0, 1], [], [3], [2, 4], [5], [6], [6], [], [9, 7, 5, 0, 1, 2, 3, 4, 5, 6, 7, 9], [8, 10, 0, 1, 2, 3, 4, 5, 6, 7, 8, 9, 10]] [70, 71, 72, 73, 74, 75, 69, 76, 77])
def body11' : C :=
 (.seq (.seq (.q [(24, (.op (.bin .lss) [(.sl 5), (.op .len [(.sl 0)])]))])
 (.cond (.sl 24) .skip (.exit 0 [0, 3])))
 (.seq (.blk 1 (.seq (.s [.mv 27 (.t 0), .mv 28 (.t 5), .ix 29 4 (.t 27) (.t 28), .q 30 (.ld 4 true) [(.t 29)], .alo 6 [(.i .i64 0), (.i .i64 0), (.i .i64 0), (.s [])], .sto 4 (.t 6) (.t 30)] [27, 28, 29, 30])
 (.seq (.seq (.q [(48, (.ite (.ite (.ite (.op (.bin .lss) [(.op (.ld 1 false) [(.op (.fa 0 1) [(.sl 6)])]), (.k (.i .i64 1))]) (.k (.b true)) (.op (.bin .gtr) [(.op (.ld 1 false) [(.op (.fa 0 1) [(.sl 6)])]), (.k (.i .i64 999))])) (.k (.b true)) (.op (.bin .lss) [(.op (.ld 1 false) [(.op (.fa 2 1) [(.sl 6)])]), (.k (.i .i64 1))])) (.k (.b true)) (.op (.bin .gtr) [(.op (.ld 1 false) [(.op (.fa 2 1) [(.sl 6)])]), (.k (.i .i64 5))])))])
 (.cond (.sl 48) (.seq (.q [(4, (.k (.i .i64 1)))])
 (.ret [4])) .skip))
 (.seq (.seq (.q [(61, (.ite (.op (.bin .gtr) [(.sl 5), (.k (.i .i64 0))]) (.op (.bin .leq) [(.op (.ld 1 false) [(.op (.fa 0 1) [(.sl 6)])]), (.op (.ld 1 false) [(.op (.fa 0 1) [(.op (.ix 4) [(.sl 0), (.op (.bin .sub) [(.sl 5), (.k (.i .i64 1))])])])])]) (.k (.b false))))])
 (.cond (.sl 61) (.seq (.q [(4, (.k (.i .i64 10)))])
 (.ret [4])) .skip))
 (.seq (.seq (.q [(65, (.op (.un .not) [(.op (.call false 28) [(.op (.ld 1 false) [(.op (.fa 3 1) [(.sl 6)])])])]))])
 (.cond (.sl 65) (.seq (.q [(4, (.k (.i .i64 4)))])
 (.ret [4])) .skip))
 (.seq (.seq (.q [(68, (.op (.bin .eql) [(.op (.ld 1 false) [(.op (.fa 1 1) [(.sl 6)])]), (.k (.i .i64 0))]))])
 (.cond (.sl 68) (.exit 1 [0, 3, 5]) .skip))
 (.seq reg11
 (.seq (.seq (.q [(79, (.op (.un .not) [(.sl 8)]))])
 (.cond (.sl 79) (.seq (.q [(4, (.k (.i .i64 11)))])
 (.ret [4])) .skip))
 (.seq (.q [(84, (.op (.bin .neq) [(.op (.ld 1 false) [(.op (.fa 2 1) [(.sl 7)])]), (.op (.ld 1 false) [(.op (.fa 2 1) [(.sl 6)])])]))])
 (.cond (.sl 84) (.seq (.q [(4, (.k (.i .i64 3)))])
 (.ret [4])) .skip))))))))))
 (.q [(5, (.op (.bin .add) [(.sl 5), (.k (.i .i64 1))]))])))
theorem body11_eq : body11_1 = body11' := rfl
abbrev E11 (L : List V) (p : List V) (n : Int) (x : List V) : Env := [(0, .l L), (3, .bx p), (5, .i .i64 n), (6, .bx x), (24, .b true), (48, .b false), (61, .b false), (65, .b false), (68, .b false)]
set_option maxHeartbeats 4000000 in
theorem reg11_run (L M : List V) (p : List V) (n : Int) (x y : Gl) (t : Bool) (hs : opQ (O X) (.slc 4 false true) [.l L, .i .i64 n] = some (.l M)) (h13 : O X 13 [.l M, .i .i64 x.parent] = some (.t [y.v, .b t])) :
    exec (O X) reg11 (E11 L p n x.cells) = some (.n, [(0, .l L), (3, .bx p), (5, .i .i64 n), (6, .bx x.cells), (7, .bx y.cells), (8, .b t), (24, .b true), (48, .b false), (61, .b false), (65, .b false), (68, .b false)]) := by
  simp (config := { maxSteps := 1000000 }) [reg11, hs, h13]
theorem l11b (l : List Gl) (is ks : List Int) (h : l.length ≤ 1000) (hu : is.length ≤ 1000) (hik : is.length = ks.length) : loopK (O X) [0, 9, 10, 11] body11_2 [(0, .l (encG l)), (9, .ow 3 (ints is)), (10, .ow 3 (ints ks)), (11, .i .i64 0)] = some (optE (fun (e : Int) => (.r, [(4, .i .i64 e)])) (.e 2, []) ((List.range is.length).findSome? (useAt l (is.zip ks)))) := by
  have := loopK_code (o := O X) (kin := [0, 9, 10, 11]) (c := body11_2) (fun i => [(0, .l (encG l)), (9, .ow 3 (ints is)), (10, .ow 3 (ints ks)), (11, .i .i64 i)]) is.length (useAt l (is.zip ks)) (fun (e : Int) => (.r, [(4, .i .i64 e)])) (.e 2, []) (by simp) (by simp) (fun i hi => by
    have hw := wrap_i64 (i + 1) (by omega)
    have hk : i < ks.length := by omega
    have h29 := e29 (X := X) l is[i] ks[i] h
    have hz : (is.zip ks)[i]? = some (is[i], ks[i]) := by rw [List.getElem?_eq_getElem (by simp; omega)]; simp
    have hU : useAt l (is.zip ks) i = if useE l (is[i], ks[i]) = 0 then none else some (useE l (is[i], ks[i])) := by unfold useAt; rw [hz]
    rw [hU]
    generalize useE l (is[i], ks[i]) = e at h29
    by_cases h0 : e = 0
    · subst h0; simp [body11_2, hi, hk, hw, h29]
    · simp [body11_2, hi, hk, h29, h0]) (by simp [body11_2]) (by simp)
  exact this
theorem elemG_bad {m : List Gl} {g : Gl} {low : Bool} (h : g.id < 1 ∨ 999 < g.id ∨ g.kind < 1 ∨ 5 < g.kind) : elemG m g low = 1 := if_pos h
theorem elemG_ok {m : List Gl} {g : Gl} {low : Bool} (c1 : ¬ g.id < 1) (c2 : ¬ (999 : Int) < g.id) (c3 : ¬ g.kind < 1) (c4 : ¬ (5 : Int) < g.kind) : elemG m g low = if low = true then 10 else if nameOk g.name = false then 4 else if g.parent = 0 then 0 else match findG m g.parent with
      | none => 11
      | some a => if a.kind = g.kind then 0 else 3 := if_neg (by omega)
set_option maxHeartbeats 8000000 in
theorem l11a (l : List Gl) (p : Plan) (h : FineG l) : loopK (O X) [0, 3, 5] body11_1 [(0, .l (encG l)), (3, .bx p.cells), (5, .i .i64 0)] = some (optE (fun (e : Int) => (.r, [(4, .i .i64 e)])) (.e 0, [(0, .l (encG l)), (3, .bx p.cells)]) ((List.range l.length).findSome? (elemAt l))) := by
  have hlen := h.len
  rw [body11_eq]
  generalize p.cells = PC
  have := loopK_code (o := O X) (kin := [0, 3, 5]) (c := body11') (fun i => [(0, .l (encG l)), (3, .bx PC), (5, .i .i64 i)]) l.length (elemAt l) (fun (e : Int) => (.r, [(4, .i .i64 e)])) (.e 0, [(0, .l (encG l)), (3, .bx PC)]) (by simp) (by simp) (fun i hi => by
    have hw := wrap_i64 (i + 1) (by omega)
    have h28 := e28 (X := X) l[i].name
    have h13 := e13 (X := X) (l.take i) l[i].parent (by rw [List.length_take]; omega)
    have hE : elemE l i = elemG (l.take i) l[i] (lowB l l[i] i) := by unfold elemE; rw [List.getElem?_eq_getElem hi]
    unfold elemAt
    rw [hE]
    have hw1 : IntKind.i64.wrap 1 = 1 := wrap_i64 _ (by omega)
    by_cases c1 : l[i].id < 1
    · rw [elemG_bad (.inl c1)]; simp [body11', hi, c1]
    by_cases c2 : (999 : Int) < l[i].id
    · rw [elemG_bad (.inr (.inl c2))]; simp [body11', hi, c1, c2]
    by_cases c3 : l[i].kind < 1
    · rw [elemG_bad (.inr (.inr (.inl c3)))]; simp [body11', hi, c1, c2, c3]
    by_cases c4 : (5 : Int) < l[i].kind
    · rw [elemG_bad (.inr (.inr (.inr c4)))]; simp [body11', hi, c1, c2, c3, c4]
    rw [elemG_ok c1 c2 c3 c4]
    cases i with
    | zero =>
      have hlow : lowB l l[0] 0 = false := rfl
      rw [hlow]
      have hr := fun y t => reg11_run (X := X) (encG l) (encG (l.take 0)) PC 0 l[0] y t (slc_0 l)
      simp only [E11] at hr
      cases hn : nameOk l[0].name <;> rw [hn] at h28
      · simp [body11', hi, c1, c2, c3, c4, h28]
      by_cases c7 : l[0].parent = 0
      · simp [body11', hi, c1, c2, c3, c4, h28, c7, hw1]
      cases hg : findG (l.take 0) l[0].parent <;> rw [hg] at h13
      · have hr1 := hr g0 false h13
        simp [g0] at hr1
        simp [body11', hi, c1, c2, c3, c4, h28, c7, hr1]
      · rename_i a
        have hr1 := hr a true h13
        by_cases c8 : a.kind = l[0].kind
        · simp [body11', hi, c1, c2, c3, c4, h28, c7, hr1, c8, hw1]
        · simp [body11', hi, c1, c2, c3, c4, h28, c7, hr1, c8]
    | succ k =>
      have hk : k < l.length := by omega
      have hlow : lowB l l[k + 1] (k + 1) = decide (l[k + 1].id ≤ l[k].id) := by show (match l[k]? with | some b => decide (l[k + 1].id ≤ b.id) | none => false) = _; rw [List.getElem?_eq_getElem hk]
      rw [hlow]
      have hwk : IntKind.i64.wrap (k : Int) = (k : Int) := wrap_i64 _ (by omega)
      have hp : (0 : Int) < (k : Int) + 1 := by omega
      have hi2 : (k : Int) + 1 < (l.length : Int) := by omega
      have hnn : (0 : Int) ≤ (k : Int) + 1 := by omega
      have hw2 : IntKind.i64.wrap ((k : Int) + 1 + 1) = (k : Int) + 1 + 1 := wrap_i64 _ (by omega)
      have hr := fun y t => reg11_run (X := X) (encG l) (encG (l.take (k + 1))) PC ((k : Int) + 1) l[k + 1] y t (slc_s l k (by omega))
      simp only [E11] at hr
      by_cases c5 : l[k + 1].id ≤ l[k].id
      · simp [body11', hi, c1, c2, c3, c4, hp, hwk, hk, hi2, hnn, c5]
      cases hn : nameOk l[k + 1].name <;> rw [hn] at h28
      · simp [body11', hi, c1, c2, c3, c4, hp, hwk, hk, hi2, hnn, c5, h28]
      by_cases c7 : l[k + 1].parent = 0
      · simp [body11', hi, c1, c2, c3, c4, hp, hwk, hk, hi2, hnn, c5, h28, c7, hw2]
      cases hg : findG (l.take (k + 1)) l[k + 1].parent <;> rw [hg] at h13
      · have hr1 := hr g0 false h13
        simp [g0] at hr1
        simp [body11', hi, c1, c2, c3, c4, hp, hwk, hk, hi2, hnn, c5, h28, c7, hr1]
      · rename_i a
        have hr1 := hr a true h13
        by_cases c8 : a.kind = l[k + 1].kind
        · simp [body11', hi, c1, c2, c3, c4, hp, hwk, hk, hi2, hnn, c5, h28, c7, hr1, c8, hw2]
        · simp [body11', hi, c1, c2, c3, c4, hp, hwk, hk, hi2, hnn, c5, h28, c7, hr1, c8]) (by simp [body11']) (by simp)
  exact this
def ids11 (p : Plan) : List Int := [p.cash, p.deposits, p.interestPaid, p.interestEarned, p.feeEarned, p.tax, p.clearing, p.loans, p.loanInterest, p.penalty, p.provision, p.provisionCost, p.loss, p.recovery]
def kinds11 : List Int := [1, 2, 5, 4, 4, 2, 1, 1, 4, 4, 2, 5, 5, 4]
theorem zip11 (p : Plan) : (ids11 p).zip kinds11 = usesL p := rfl
/-- The stretches between the loops. -/
def mid11a : C :=
 (.s [.fa 85 0 1 (.t 3), .q 86 (.ld 1 false) [(.t 85)], .fa 87 1 1 (.t 3), .q 88 (.ld 1 false) [(.t 87)], .fa 89 2 1 (.t 3), .q 90 (.ld 1 false) [(.t 89)], .fa 91 3 1 (.t 3), .q 92 (.ld 1 false) [(.t 91)], .fa 93 4 1 (.t 3), .q 94 (.ld 1 false) [(.t 93)], .fa 95 5 1 (.t 3), .q 96 (.ld 1 false) [(.t 95)], .fa 97 6 1 (.t 3), .q 98 (.ld 1 false) [(.t 97)], .fa 99 7 1 (.t 3), .q 100 (.ld 1 false) [(.t 99)], .fa 101 8 1 (.t 3), .q 102 (.ld 1 false) [(.t 101)], .fa 103 9 1 (.t 3), .q 104 (.ld 1 false) [(.t 103)], .fa 105 10 1 (.t 3), .q 106 (.ld 1 false) [(.t 105)], .fa 107 11 1 (.t 3), .q 108 (.ld 1 false) [(.t 107)], .fa 109 12 1 (.t 3), .q 110 (.ld 1 false) [(.t 109)], .fa 111 13 1 (.t 3), .q 112 (.ld 1 false) [(.t 111)], .bsl 113 3 1 [(.t 86), (.t 88), (.t 90), (.t 92), (.t 94), (.t 96), (.t 98), (.t 100), (.t 102), (.t 104), (.t 106), (.t 108), (.t 110), (.t 112)], .as 9 (.t 113)] [85, 86, 87, 88, 89, 90, 91, 92, 93, 94, 95, 96, 97, 98, 99, 100, 101, 102, 103, 104, 105, 106, 107, 108, 109, 110, 111, 112, 113])
def mid11b : C :=
 (.s [.bsl 114 3 1 [(.c (.i .i64 1)), (.c (.i .i64 2)), (.c (.i .i64 5)), (.c (.i .i64 4)), (.c (.i .i64 4)), (.c (.i .i64 2)), (.c (.i .i64 1)), (.c (.i .i64 1)), (.c (.i .i64 4)), (.c (.i .i64 4)), (.c (.i .i64 2)), (.c (.i .i64 5)), (.c (.i .i64 5)), (.c (.i .i64 4))], .as 10 (.t 114)] [114])
def code11' : FCode := ⟨2, [.tmp 4],
 (.seq (.s [.box 3 (.t 1), .as 4 (.c (.i .i64 0))] [])
 (.seq (.seq (.q [(20, (.ite (.op (.bin .lss) [(.op .len [(.sl 0)]), (.k (.i .i64 1))]) (.k (.b true)) (.op (.bin .gtr) [(.op .len [(.sl 0)]), (.k (.i .i64 40))])))])
 (.cond (.sl 20) (.seq (.q [(4, (.k (.i .i64 5)))])
 (.ret [4])) .skip))
 (.seq (.seq (.q [(5, (.k (.i .i64 0)))])
 (.blk 0 (.loop [0, 3, 5] body11_1)))
 (.seq mid11a
 (.seq mid11b
 (.seq (.seq (.q [(11, (.k (.i .i64 0)))])
 (.blk 2 (.loop [0, 9, 10, 11] body11_2)))
 (.seq (.q [(4, (.k (.i .i64 0)))])
 (.ret [4]))))))))⟩
theorem code11_eq : code11 = code11' := rfl
theorem mid11_run1 (L : List V) (p : Plan) : exec (O X) mid11a [(0, .l L), (3, .bx p.cells)] = some (.n, [(0, .l L), (3, .bx p.cells), (9, .ow 3 (ints (ids11 p)))]) := by
  kernel_rfl
theorem mid11_run2 (L PC A : List V) : exec (O X) mid11b [(0, .l L), (3, .bx PC), (9, .ow 3 A)] = some (.n, [(0, .l L), (3, .bx PC), (9, .ow 3 A), (10, .ow 3 (ints kinds11))]) := by
  kernel_rfl
theorem e11 (l : List Gl) (p : Plan) (hn : ∀ g ∈ l, g.name.length ≤ maxLen) (_h : l.length ≤ maxLen) : O X 11 [.l (encG l), p.v] = some (.i .i64 (chkG l p)) := by
  refine orun (fc := code11') rfl rfl rfl ?_
  unfold chkG
  by_cases h1 : l.length < 1
  · have h1' : (l.length : Int) < 1 := by omega
    simp [code11', h1', h1]
  · have h1' : ¬ (l.length : Int) < 1 := by omega
    by_cases h2 : 40 < l.length
    · have h2' : (40 : Int) < (l.length : Int) := by omega
      simp [code11', h1', h2', h2]
    · have h2' : ¬ (40 : Int) < (l.length : Int) := by omega
      rw [if_neg (by omega)]
      have ha := l11a (X := X) l p ⟨by omega, hn⟩
      have hm := mid11_run1 (X := X) (encG l) p
      have hm2 := fun PC A => mid11_run2 (X := X) (encG l) PC A
      have hb := l11b (X := X) l (ids11 p) kinds11 (by omega) (by show 14 ≤ 1000; omega) rfl
      rw [zip11] at hb
      have hul : (ids11 p).length = 14 := rfl
      rw [hul] at hb
      generalize usesL p = us at hb ⊢
      generalize ints (ids11 p) = A at hm hb
      generalize ints kinds11 = B at hm2 hb
      have hv : p.v = .a p.cells := rfl
      have hcl : p.cells.length = 14 := rfl
      have hcc : (∀ y ∈ p.cells, y.cell = true) = True := by simp
      rw [hv]
      generalize p.cells = PC at ha hm hcl hcc ⊢
      cases hq : (List.range l.length).findSome? (elemAt l) <;> rw [hq] at ha <;> simp at ha
      · cases hq2 : (List.range 14).findSome? (useAt l us) <;> rw [hq2] at hb <;> simp at hb <;> simp [code11', exec_loopK, h1', h2', hcc, ha, hm, hm2, hb]
      · simp [code11', exec_loopK, h1', h2', hcc, ha]
end Go.Proofs.Ytdaclkakglmfeaa
