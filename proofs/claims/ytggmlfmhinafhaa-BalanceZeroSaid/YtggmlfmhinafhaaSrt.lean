/-
  slices.SortFunc, slices.Sort and slices.Compact as the walks ask for them; the legs in their order.
-/
import Derived.Test.YtggmlfmhinafhaaTrial
import Derived.Test.YtggmlfmhinafhaaCmp
import Derived.Test.YtggmlfmhinafhaaTypes
import Derived.Test.YtggmlfmhinafhaaVmR
namespace Go.Proofs.Ytggmlfmhinafhaa
open Go.Sort Go.Lib Go.Proofs Go.Shelf Go.RowKit Go.VM

/-! ### Legs, ascending by account and currency -/
def lessL (x y : Leg) : Bool := decide (x.account < y.account) || (decide (x.account = y.account) && Op.bytesLess x.currency y.currency)
def insL (x : Leg) : List Leg → List Leg
  | [] => [x]
  | y :: r => if lessL y x = true then y :: insL x r else x :: y :: r
def isortL : List Leg → List Leg
  | [] => []
  | x :: r => insL x (isortL r)
def sameKey (x y : Leg) : Prop := x.account = y.account ∧ x.currency = y.currency
theorem lessL_iff {x y : Leg} : lessL x y = true ↔ x.account < y.account ∨ (x.account = y.account ∧ x.currency < y.currency) := by
  simp [lessL, bl_iff]
theorem lessL_irr (x : Leg) : ¬ lessL x x = true := by
  rw [lessL_iff]
  rintro (h | ⟨_, h⟩)
  · omega
  · exact List.lt_irrefl _ h
theorem lessL_tra {x y z : Leg} (h1 : lessL x y = true) (h2 : lessL y z = true) : lessL x z = true := by
  rw [lessL_iff] at *
  rcases h1 with h1 | ⟨h1, h1'⟩
  · rcases h2 with h2 | ⟨h2, _⟩ <;> exact .inl (by omega)
  · rcases h2 with h2 | ⟨h2, h2'⟩
    · exact .inl (by omega)
    · exact .inr ⟨by omega, List.lt_trans h1' h2'⟩
theorem lessL_tri (x y : Leg) : lessL x y = true ∨ lessL y x = true ∨ sameKey x y := by
  rw [lessL_iff, lessL_iff]
  rcases Int.lt_trichotomy x.account y.account with h | h | h
  · exact .inl (.inl h)
  · rcases Std.lt_trichotomy x.currency y.currency with h' | h' | h'
    · exact .inl (.inr ⟨h, h'⟩)
    · exact .inr (.inr ⟨h, h'⟩)
    · exact .inr (.inl (.inr ⟨h.symm, h'⟩))
  · exact .inr (.inl (.inl h))
theorem insL_perm (x : Leg) : ∀ l, (insL x l).Perm (x :: l)
  | [] => .refl _
  | y :: r => by
    unfold insL
    split
    · exact ((insL_perm x r).cons y).trans (.swap x y r)
    · exact .refl _
theorem isortL_perm : ∀ l, (isortL l).Perm l
  | [] => .refl _
  | x :: r => (insL_perm x _).trans ((isortL_perm r).cons x)
/-- 'Not above'. -/
def leL (x y : Leg) : Prop := ¬ lessL y x = true
theorem leL_tra {x y z : Leg} (h1 : leL x y) (h2 : leL y z) : leL x z := fun h => by
  rcases lessL_tri y x with h' | h' | h'
  · exact h1 h'
  · exact h2 (lessL_tra h h')
  · refine h2 ?_
    rw [lessL_iff] at h ⊢
    rw [h'.1, h'.2]
    exact h
theorem insL_sorted (x : Leg) : ∀ l : List Leg, l.Pairwise leL → (insL x l).Pairwise leL
  | [], _ => by simp [insL]
  | y :: r, h => by
    have h' := List.pairwise_cons.1 h
    unfold insL
    split
    · rename_i hlt
      refine List.pairwise_cons.2 ⟨fun z hz => ?_, insL_sorted x r h'.2⟩
      rcases List.mem_cons.1 ((insL_perm x r).mem_iff.1 hz) with rfl | hz
      · exact fun h2 => lessL_irr _ (lessL_tra hlt h2)
      · exact h'.1 z hz
    · rename_i hlt
      refine List.pairwise_cons.2 ⟨fun z hz => ?_, h⟩
      rcases List.mem_cons.1 hz with rfl | hz
      · exact hlt
      · exact leL_tra hlt (h'.1 z hz)
theorem isortL_sorted : ∀ l : List Leg, (isortL l).Pairwise leL
  | [] => .nil
  | x :: r => insL_sorted x _ (isortL_sorted r)
def legKey (x : Leg) : Int × List UInt8 := (x.account, x.currency)
theorem key_eq {l : List Leg} (hn : (l.map legKey).Nodup) {x y : Leg} (hx : x ∈ l) (hy : y ∈ l) (h : sameKey x y) : x = y := by
  obtain ⟨i, hi⟩ := List.getElem?_of_mem hx
  obtain ⟨j, hj⟩ := List.getElem?_of_mem hy
  have a1 : (l.map legKey)[i]? = some (legKey x) := by simp [hi]
  have a2 : (l.map legKey)[j]? = some (legKey x) := by simp [hj, legKey, h.1, h.2]
  have := (List.getElem?_inj (List.getElem?_eq_some_iff.1 a1).1 hn).1 (a1.trans a2.symm)
  subst this
  rw [hi] at hj
  exact Option.some.inj hj
theorem sorted_uniqL {l zs : List Leg} (hn : (zs.map legKey).Nodup) (hp : l.Perm zs) (hs : l.Pairwise leL) : l = isortL zs := by
  refine List.Perm.eq_of_pairwise (le := leL) (fun x y hx hy h1 h2 => ?_) hs (isortL_sorted zs) (hp.trans (isortL_perm zs).symm)
  refine key_eq hn (hp.mem_iff.1 hx) ((isortL_perm zs).mem_iff.1 hy) ?_
  rcases lessL_tri x y with h | h | h
  · exact absurd h h2
  · exact absurd h h1
  · exact h

/-! ### Sums as legs -/
def toLeg (x : Key × Int) : Leg := ⟨x.1.1, x.2, x.1.2.data.toList⟩
def fromLeg (l : Leg) : Key × Int := ((l.account, ⟨l.currency.toArray⟩), l.amount)
theorem from_to (x : Key × Int) : fromLeg (toLeg x) = x := by simp [fromLeg, toLeg]
theorem to_from (l : Leg) : toLeg (fromLeg l) = l := by simp [fromLeg, toLeg]
theorem bytes_inj {a b : ByteArray} (h : a.data.toList = b.data.toList) : a = b := by
  cases a; cases b
  simp only [ByteArray.mk.injEq] at *
  exact Array.toList_inj.1 h
def cfL (x y : Key × Int) : Int := cmpL (x.1.1, x.2, x.1.2) (y.1.1, y.2, y.1.2)
theorem ltL (x y : Key × Int) : ltOf cfL x y = lessL (toLeg x) (toLeg y) := by
  unfold ltOf cfL cmpL lessL toLeg cmpB Lib.compareInt
  dsimp only
  by_cases h1 : x.1.1 < y.1.1
  · simp [h1]
  · by_cases h2 : y.1.1 < x.1.1
    · have : ¬ x.1.1 = y.1.1 := by omega
      simp [h1, h2, this]
    · have h3 : x.1.1 = y.1.1 := by omega
      simp only [h3, Int.lt_irrefl, if_false, gt_iff_lt, decide_false, Bool.false_or, decide_true, Bool.true_and, if_true]
      cases Op.bytesLess x.1.2.data.toList y.1.2.data.toList with
      | true => simp
      | false =>
        simp only [Bool.false_eq_true, if_false]
        split <;> simp
theorem swoL : SWO (ltOf cfL) where
  irrefl x := by rw [ltL]; exact Bool.eq_false_iff.2 (lessL_irr _)
  trans x y z h1 h2 := by rw [ltL] at *; exact lessL_tra h1 h2
  ntrans x y z h1 h2 := by
    rw [ltL] at *
    exact Bool.eq_false_iff.2 (leL_tra (x := toLeg z) (y := toLeg y) (z := toLeg x) (Bool.eq_false_iff.1 h2) (Bool.eq_false_iff.1 h1))
def legV (x : Key × Int) : V := (toLeg x).v
theorem sortL_ok {T zs : Sums} (hn : ((zs.map toLeg).map legKey).Nodup) (hp : T.Perm zs) (hlen : T.length ≤ 1000000) : SortL T ((isortL (zs.map toLeg)).map fromLeg) := by
  intro W base u hb hrow
  have eg : ∀ args w, (callFunc 31 args).run Try.prog w = .ok (.enter 31 args) w := enters_of Try.func31 (by kernel_rfl) rfl
  have hto : ∀ (S : Nat → Prop) (w : World) (vs : List Value) (x : Key × Int), Reps S w vs (legV x).cells → vs = legVals x := fun S w vs x hr => by
    match vs, hr with
    | [a, b, c], hr =>
      have h0 : Rep S w a (.i .i64 x.1.1) := hr.2 0 a _ rfl rfl
      have h1 : Rep S w b (.i .i64 x.2) := hr.2 1 b _ rfl rfl
      have h2 : Rep S w c (.s x.1.2.data.toList) := hr.2 2 c _ rfl rfl
      cases h0; cases h1
      generalize hq : x.1.2.data.toList = q at h2
      cases h2
      rw [bytes_inj hq.symm]; rfl
    | [], hr => exact absurd hr.1 (by simp [legV, V.cells])
    | [_], hr => exact absurd hr.1 (by simp [legV, V.cells])
    | [_, _], hr => exact absurd hr.1 (by simp [legV, V.cells])
    | _ :: _ :: _ :: _ :: _, hr => exact absurd hr.1 (by simp [legV, V.cells])
  have hfrom : ∀ (S : Nat → Prop) (w : World) (x : Key × Int), Reps S w (legVals x) (legV x).cells := fun S w x => Reps.cons (.i _ _) (Reps.cons (.i _ _) (Reps.cons (.s _) Reps.nil))
  have hPFM := sortK_PFM (P := Try.prog) (e := 44) (k := 3) (g := 31) (enc := legVals) (encV := legV) (cf := cfL) (zs := T) (ys := (isortL (zs.map toLeg)).map fromLeg) Try.sortP Try.isAgg44 Try.sizeOf44 (by kernel_rfl) (fun _ => rfl)
    (fun x v hv => by simp [legVals] at hv; rcases hv with rfl | rfl | rfl <;> rfl) (fun _ => rfl) (fun x c hc => by simp [legV, V.cells] at hc; rcases hc with rfl | rfl | rfl <;> rfl) hto hfrom swoL eg
    (fun _ _ _ _ _ _ _ _ x y => closure31 (x.1.1, x.2, x.1.2) (y.1.1, y.2, y.1.2) _)
    (fun l hl hs => by
      have h := sorted_uniqL (l := l.map toLeg) hn ((hl.trans hp).map toLeg) (List.pairwise_map.2 (hs.imp fun h => by rw [ltL] at h; exact Bool.eq_false_iff.1 h))
      rw [← h, List.map_map]
      exact (List.map_id'' (fun x => from_to x) l).symm) hlen
  have reps_from : ∀ (l : Sums), Reps (fun _ => False) W (l.flatMap legVals) (flatc (l.map legV)) := by
    intro l
    induction l with
    | nil => exact Reps.nil
    | cons x r ih =>
      rw [List.map_cons, flatc_cons, List.flatMap_cons]
      exact Reps.append (hfrom _ W x) ih
  have reps_to : ∀ (l : Sums) (vs : List Value), Reps (fun _ => False) W vs (flatc (l.map legV)) → vs = l.flatMap legVals := by
    intro l
    induction l with
    | nil => intro vs h; exact List.eq_nil_of_length_eq_zero h.1
    | cons x r ih =>
      intro vs h
      rw [List.map_cons, flatc_cons] at h
      have hlen := h.1
      have hlx : (legV x).cells.length = 3 := rfl
      rw [List.length_append, hlx] at hlen
      have hsp : vs = vs.take 3 ++ vs.drop 3 := (List.take_append_drop 3 vs).symm
      have ha : Reps (fun _ => False) W (vs.take 3) (legV x).cells := by
        refine ⟨by rw [List.length_take, hlx]; omega, fun j v y hv hy => h.2 j v y ?_ ?_⟩
        · have hj : j < (vs.take 3).length := (List.getElem?_eq_some_iff.1 hv).1
          rw [List.getElem?_take_of_lt (by simp at hj; omega)] at hv
          exact hv
        · have hj : j < (legV x).cells.length := (List.getElem?_eq_some_iff.1 hy).1
          rw [List.getElem?_append_left hj]; exact hy
      have hb : Reps (fun _ => False) W (vs.drop 3) (flatc (r.map legV)) := by
        refine ⟨by rw [List.length_drop]; omega, fun j v y hv hy => h.2 (3 + j) v y ?_ ?_⟩
        · rw [List.getElem?_drop] at hv; exact hv
        · rw [List.getElem?_append_right (by rw [hlx]; omega), hlx, Nat.add_sub_cancel_left]; exact hy
      rw [hsp, hto _ W _ x ha, ih _ hb, List.flatMap_cons]
  have c44 : Try.prog.cellsOf 44 = 3 := by kernel_rfl
  have cellsV : ∀ x ∈ T.map legV, x.cells.length = Try.prog.cellsOf 44 := fun x hx => by
    obtain ⟨y, _, rfl⟩ := List.mem_map.1 hx
    rw [c44]; rfl
  have cellV : ∀ x ∈ flatc (T.map legV), x.cell = true := fun x hx => by
    obtain ⟨y, hy, hx⟩ := List.mem_flatMap.1 hx
    obtain ⟨z, _, rfl⟩ := List.mem_map.1 hy
    simp [legV, V.cells] at hx
    rcases hx with rfl | rfl | rfl <;> rfl
  refine (hPFM (fun _ => False) W base u (T.flatMap legVals) [.func (.func 31) #[] #[]] (fun _ h => h.elim) (fun p hp => by cases hp) hb (by rw [List.length_map, c44]; exact hrow) cellsV cellV (reps_from T) (fun _ _ h => h) (Args.cons (.of_rep (.f _ _ _ _ _ rfl rfl (by simp) (by simp))) .nil) (by simp)).mono fun ex w' ⟨r, v', vs', he, hg, hv, ho, _, _, hr, hret⟩ => ?_
  simp only [Bool.false_eq_true, if_false] at hret
  obtain ⟨rfl, rfl⟩ := hret
  refine ⟨he, hg, ?_⟩
  rw [List.length_map, c44] at ho
  rw [← reps_to _ _ hr]
  exact ho

/-! ### Numbers -/
theorem nums_of_PFM {f : FuncId} {ret : Bool} {zs ys : List Int} (h : PFM Try.prog f 3 ret false (ints zs) [] (ints ys)) : MutI f ret zs ys := by
  intro W base u hb hrow
  have c3 : Try.prog.cellsOf 3 = 1 := by kernel_rfl
  refine (h (fun _ => False) W base u (zs.map (Value.int .i64)) [] (fun _ h => h.elim) (fun p hp => by cases hp) hb (by rw [len_ints, c3]; exact hrow) (ints_cells c3 zs) (ints_cell zs) (by rw [flatc_ints]; exact ints_reps zs) (fun _ _ h => h) .nil (by simp)).mono fun ex w' ⟨r, v', vs', he, hg, hv, ho, _, _, hr, hret⟩ => ?_
  rw [flatc_ints] at hr
  rw [reps_ints hr, len_ints, c3] at ho
  exact ⟨r, v', he, hg, hv, ho, hret⟩
theorem sortI_ok {zs : List Int} (h : zs.length ≤ 1000000) : MutI 28 false zs (isort zs) :=
  nums_of_PFM (sort_PFM Try.lays189 (by kernel_rfl) _ [] _ (by simp [sortRun, h]))
theorem compI_ok {zs : List Int} (h : zs.length ≤ 1000000) : MutI 29 true zs (Lib.compact zs) :=
  nums_of_PFM (comp_PFM Try.laysNm220 (by kernel_rfl) _ [] _ (by simp [compRun, h]))
end Go.Proofs.Ytggmlfmhinafhaa
