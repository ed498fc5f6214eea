/-
  Of, At, Turnover, Daily, Moves and Trial, as the functions that call them see them.
-/
import Derived.Test.YtggmlfmhinafhaaArgs
import Derived.Test.YtggmlfmhinafhaaDaily
namespace Go.Proofs.Ytggmlfmhinafhaa
open Go.RowKit Go.VM Go.Shelf
abbrev ents (l : List Entry) : List V := encL Entry.v l
/-- The movements of an account, in order. -/
def mv (a : Int) (l : List Entry) : List (Entry × Int) := l.flatMap fun e => (e.legs.filter fun x => x.account = a).map fun x => (e, x.amount)
def ofF (a : Int) (l : List Entry) : Int := (mv a l).foldl (fun s x => wrap64 (s - x.2)) 0
def atF (a bk vl : Int) (l : List Entry) : Int := (mv a l).foldl (fun s x => if x.1.booked ≤ bk ∧ x.1.value ≤ vl then wrap64 (s - x.2) else s) 0
def tuS (fr to : Int) (s : Int × Int) (x : Entry × Int) : Int × Int := if x.1.booked < fr ∨ to < x.1.booked then s else if 0 < x.2 then (wrap64 (s.1 + x.2), s.2) else (s.1, wrap64 (s.2 - x.2))
def tuF (a fr to : Int) (l : List Entry) : Int × Int := (mv a l).foldl (tuS fr to) (0, 0)
def daS (fr to : Int) (l : List Int) (x : Entry × Int) : List Int := if x.1.value ≤ to then l.set (max fr x.1.value - fr).toNat (wrap64 (l.getD (max fr x.1.value - fr).toNat 0 - x.2)) else l
def daA (a fr to : Int) (l : List Entry) : List Int := (mv a l).foldl (daS fr to) (List.replicate (to - fr + 1).toNat 0)
def daF (a fr to : Int) (l : List Entry) : List Int := if daOk fr to then daT (daA a fr to l) ((to - fr + 1).toNat - 1) else []
def moF (a : Int) (l : List Entry) : List Int := Lib.compact (isort ((mv a l).map fun x => x.1.value))
def addL : List Leg → Leg → List Leg
  | [], x => [⟨x.account, wrap64 (0 + x.amount), x.currency⟩]
  | y :: r, x => if y.account = x.account ∧ y.currency = x.currency then ⟨y.account, wrap64 (y.amount + x.amount), y.currency⟩ :: r else y :: addL r x
def sumsL (l : List Entry) : List Leg := l.foldl (fun s e => e.legs.foldl addL s) []
def trF (l : List Entry) : List Leg := isortL ((sumsL l).filter fun x => x.amount != 0)
def legOk (x : Leg) : Bool := (Lit.int .i64 x.account).wf && decide (x.currency.length ≤ maxLen)
def entB (e : Entry) : Bool := decide (e.legs.length ≤ 400) && e.legs.all legOk
def jok (l : List Entry) : Bool := decide (l.length ≤ 400) && l.all entB
theorem jok_len {l : List Entry} (h : jok l = true) : l.length ≤ 400 := by
  simp only [jok, Bool.and_eq_true, decide_eq_true_eq] at h; exact h.1
theorem jok_legs {l : List Entry} (h : jok l = true) : ∀ e ∈ l, e.legs.length ≤ 400 ∧ ∀ x ∈ e.legs, legOk x = true := fun e he => by
  simp only [jok, Bool.and_eq_true, List.all_eq_true] at h
  have := h.2 e he
  simp only [entB, Bool.and_eq_true, decide_eq_true_eq, List.all_eq_true] at this
  exact this

/-! ### What the walks show, of plain data -/
def mvE (x : Ev × Int) : Entry × Int := (entOf x.1, x.2)
theorem mvs_map (a : Int) (es : List Ev) : (mvs a es).map mvE = mv a (es.map entOf) := by
  unfold mvs mv
  induction es with
  | nil => rfl
  | cons e es ih =>
    rw [List.flatMap_cons, List.map_append, ih, List.map_cons, List.flatMap_cons]
    congr 1
    unfold evp
    rw [List.map_map, entOf, List.filter_map, List.map_map]
    rfl
theorem of_eq (a : Int) (es : List Ev) : ofM (mvs a es) = ofF a (es.map entOf) := by
  unfold ofF; rw [← mvs_map, List.foldl_map]; rfl
theorem at_eq (a bk vl : Int) (es : List Ev) : atM bk vl (mvs a es) = atF a bk vl (es.map entOf) := by
  unfold atF; rw [← mvs_map, List.foldl_map]; rfl
theorem tu_eq (a fr to : Int) (es : List Ev) : tuM fr to (mvs a es) = tuF a fr to (es.map entOf) := by
  unfold tuF; rw [← mvs_map, List.foldl_map]; rfl
theorem da_eq (a fr to : Int) (es : List Ev) : daM fr to (mvs a es) = daA a fr to (es.map entOf) := by
  unfold daA; rw [← mvs_map, List.foldl_map]; rfl
theorem mo_eq (a : Int) (es : List Ev) : moM (mvs a es) = (mv a (es.map entOf)).map fun x => x.1.value := by
  rw [← mvs_map, List.map_map]; rfl
theorem addS_map (l : Sums) (x : LegR) : (addS l x).map toLeg = addL (l.map toLeg) (legOf x) := by
  unfold addS
  induction l with
  | nil => rfl
  | cons y r ih =>
    obtain ⟨⟨ka, ks⟩, n⟩ := y
    obtain ⟨xa, xm, xs⟩ := x
    simp only [getS, setS, List.map_cons, addL, toLeg, legOf] at ih ⊢
    by_cases h : ka = xa ∧ ks = xs
    · obtain ⟨rfl, rfl⟩ := h
      simp [toLeg]
    · have h1 : ¬ ((ka, ks) = (xa, xs)) := fun e => h ⟨congrArg Prod.fst e, congrArg Prod.snd e⟩
      have h2 : ¬ (ka = xa ∧ ks.data.toList = xs.data.toList) := fun e => h ⟨e.1, bytes_inj e.2⟩
      rw [if_neg h1, if_neg h1, if_neg h2, List.map_cons]
      exact congrArg _ ih
theorem addAll_map (xs : List LegR) : ∀ l : Sums, (addAll l xs).map toLeg = (xs.map legOf).foldl addL (l.map toLeg) := by
  induction xs with
  | nil => intro l; rfl
  | cons x xs ih =>
    intro l
    have h1 : addAll l (x :: xs) = addAll (addS l x) xs := rfl
    rw [h1, ih, addS_map]; rfl
theorem sums_map (es : List Ev) : (sumsOf es).map toLeg = sumsL (es.map entOf) := by
  have key : ∀ (es : List Ev) (l : Sums), (es.foldl (fun l e => addAll l e.legs) l).map toLeg = (es.map entOf).foldl (fun s e => e.legs.foldl addL s) (l.map toLeg) := by
    intro es
    induction es with
    | nil => intro l; rfl
    | cons e es ih =>
      intro l
      rw [List.foldl_cons, ih, addAll_map, List.map_cons, List.foldl_cons]
      rfl
  exact key es []
theorem setS_keys (k : Key) (n : Int) : ∀ l : Sums, (l.map (·.1)).Nodup → ((setS l k n).map (·.1)).Nodup ∧ ∀ x ∈ setS l k n, x.1 = k ∨ ∃ y ∈ l, y.1 = x.1
  | [], _ => by simp [setS]
  | (k', v) :: r, h => by
    unfold setS
    split
    · rename_i he
      refine ⟨h, fun x hx => ?_⟩
      rcases List.mem_cons.1 hx with rfl | hx
      · exact .inl he
      · exact .inr ⟨x, List.mem_cons_of_mem _ hx, rfl⟩
    · rename_i he
      simp only [List.map_cons, List.nodup_cons] at h
      have ih := setS_keys k n r h.2
      refine ⟨?_, fun x hx => ?_⟩
      · rw [List.map_cons]
        refine List.nodup_cons.2 ⟨fun hm => ?_, ih.1⟩
        obtain ⟨x, hx, hxk⟩ := List.mem_map.1 hm
        rcases ih.2 x hx with h1 | ⟨y, hy, h1⟩
        · exact he (hxk.symm.trans h1)
        · exact h.1 (List.mem_map.2 ⟨y, hy, h1.trans hxk⟩)
      · rcases List.mem_cons.1 hx with rfl | hx
        · exact .inr ⟨_, List.mem_cons_self .., rfl⟩
        · rcases ih.2 x hx with h1 | ⟨y, hy, h1⟩
          · exact .inl h1
          · exact .inr ⟨y, List.mem_cons_of_mem _ hy, h1⟩
theorem sumsOf_keys (es : List Ev) : ((sumsOf es).map (·.1)).Nodup := by
  have h1 : ∀ (xs : List LegR) (l : Sums), (l.map (·.1)).Nodup → ((addAll l xs).map (·.1)).Nodup := by
    intro xs
    induction xs with
    | nil => intro l h; exact h
    | cons x xs ih => intro l h; exact ih _ (setS_keys _ _ l h).1
  have h2 : ∀ (es : List Ev) (l : Sums), (l.map (·.1)).Nodup → ((es.foldl (fun l e => addAll l e.legs) l).map (·.1)).Nodup := by
    intro es
    induction es with
    | nil => intro l h; exact h
    | cons e es ih => intro l h; exact ih _ (h1 _ _ h)
  exact h2 es [] (by simp)
theorem outT_map (l : Sums) : (outT l).map toLeg = (l.map toLeg).filter fun x => x.amount != 0 := by
  unfold outT
  rw [List.filter_map]; rfl
end Go.Proofs.Ytggmlfmhinafhaa
