/-
  The same sums, wrapped at each step or once: Of, At and Turnover are as the reference says.
-/
import Derived.Test.YtggmlfmhinafhaaEq1
namespace Go.Proofs.Ytggmlfmhinafhaa
open Go.VM Go.RowKit
theorem iw (n : Int) : IntKind.i64.wrap n = wrap64 n := by rw [IntKind.wrap_i64]; unfold wrap64; rfl
theorem ww (x : Int) : wrap64 (wrap64 x) = wrap64 x := by unfold wrap64; omega
theorem wl (x y : Int) : wrap64 (wrap64 x + y) = wrap64 (x + y) := by unfold wrap64; omega
theorem wr (x y : Int) : wrap64 (x + wrap64 y) = wrap64 (x + y) := by unfold wrap64; omega
theorem wls (x y : Int) : wrap64 (wrap64 x - y) = wrap64 (x - y) := by unfold wrap64; omega
theorem wrs (x y : Int) : wrap64 (x - wrap64 y) = wrap64 (x - y) := by unfold wrap64; omega
theorem w0 : wrap64 0 = 0 := by unfold wrap64; omega
/-- A sum. -/
def S {α : Type} (f : α → Int) : List α → Int
  | [] => 0
  | x :: r => f x + S f r
section
variable {α β : Type}
theorem S_append (f : α → Int) (l k : List α) : S f (l ++ k) = S f l + S f k := by
  induction l with
  | nil => simp [S]
  | cons x r ih => simp only [List.cons_append, S, ih]; omega
theorem S_map (f : β → Int) (g : α → β) (l : List α) : S f (l.map g) = S (fun x => f (g x)) l := by
  induction l with
  | nil => rfl
  | cons x r ih => simp only [List.map_cons, S, ih]
theorem S_filter (f : α → Int) (p : α → Bool) (l : List α) : S f (l.filter p) = S (fun x => if p x = true then f x else 0) l := by
  induction l with
  | nil => rfl
  | cons x r ih =>
    by_cases h : p x = true
    · rw [List.filter_cons_of_pos h]; simp only [S, ih, if_pos h]
    · rw [List.filter_cons_of_neg h]; simp only [S, ih, if_neg h]; omega
theorem S_flat (f : β → Int) (g : α → List β) (l : List α) : S f (l.flatMap g) = S (fun x => S f (g x)) l := by
  induction l with
  | nil => rfl
  | cons x r ih => rw [List.flatMap_cons, S_append, ih]; rfl
theorem S_congr {f g : α → Int} {l : List α} (h : ∀ x ∈ l, f x = g x) : S f l = S g l := by
  induction l with
  | nil => rfl
  | cons x r ih => simp only [S, h x (List.mem_cons_self ..), ih fun y hy => h y (List.mem_cons_of_mem _ hy)]
theorem S_zero (l : List α) : S (fun _ => (0 : Int)) l = 0 := by
  induction l with
  | nil => rfl
  | cons x r ih => simp only [S, ih]; omega
theorem S_neg (f : α → Int) (l : List α) : S (fun x => - f x) l = - S f l := by
  induction l with
  | nil => rfl
  | cons x r ih => simp only [S, ih]; omega
theorem S_add (f g : α → Int) (l : List α) : S (fun x => f x + g x) l = S f l + S g l := by
  induction l with
  | nil => rfl
  | cons x r ih => simp only [S, ih]; omega
theorem S_sub (f g : α → Int) (l : List α) : S (fun x => f x - g x) l = S f l - S g l := by
  induction l with
  | nil => rfl
  | cons x r ih => simp only [S, ih]; omega
/-- Wrapped at each step is wrapped once. -/
theorem fold_S {g : Int → α → Int} (f : α → Int) (hg : ∀ n x, wrap64 (g n x) = wrap64 (n + f x)) : ∀ (l : List α) (n : Int), wrap64 (l.foldl g n) = wrap64 (n + S f l)
  | [], n => by simp [S]
  | x :: r, n => by
    rw [List.foldl_cons, fold_S f hg r, S, ← wl, hg, wl]
    congr 1; omega
theorem fold_W {g : Int → α → Int} (hg : ∀ n x, wrap64 n = n → wrap64 (g n x) = g n x) : ∀ (l : List α) (n : Int), wrap64 n = n → wrap64 (l.foldl g n) = l.foldl g n
  | [], _, h => h
  | x :: r, n, h => fold_W hg r _ (hg n x h)
theorem fold_eq {g : Int → α → Int} (f : α → Int) (hg : ∀ n x, wrap64 (g n x) = wrap64 (n + f x)) (hw : ∀ n x, wrap64 n = n → wrap64 (g n x) = g n x) (l : List α) : l.foldl g 0 = wrap64 (S f l) := by
  rw [← fold_W hw l 0 w0, fold_S f hg l 0]
  congr 1; omega
end
/-- What moved in an entry, not wrapped. -/
def mE (a : Int) (e : Entry) : Int := S (fun x => if x.account = a then - x.amount else 0) e.legs
theorem S_mv (f : Entry × Int → Int) (a : Int) (l : List Entry) : S f (mv a l) = S (fun e => S (fun x => if x.account = a then f (e, x.amount) else 0) e.legs) l := by
  unfold mv
  rw [S_flat]
  refine S_congr fun e _ => ?_
  rw [S_map, S_filter]
  exact S_congr fun x _ => by simp
theorem movF_eq (a : Int) (e : Entry) : movF a e = wrap64 (mE a e) := by
  refine fold_eq _ (fun n x => ?_) (fun n x h => ?_) _
  · unfold movS
    split
    · rw [iw, ww]; congr 1
    · congr 1; omega
  · unfold movS
    split
    · rw [iw, ww]
    · exact h
theorem rofF_eq (a : Int) (l : List Entry) : rofF a l = wrap64 (S (mE a) l) := by
  refine fold_eq _ (fun n e => ?_) (fun n e _ => ?_) _
  · unfold rofS
    rw [iw, ww, movF_eq, wr]
  · unfold rofS
    rw [iw, ww]
theorem ofF_eq (a : Int) (l : List Entry) : ofF a l = wrap64 (S (mE a) l) := by
  unfold ofF
  rw [fold_eq (fun x : Entry × Int => - x.2) (fun n x => by rw [ww]; congr 1) (fun n x _ => ww _), S_mv]
  rfl
theorem of_ref (a : Int) (l : List Entry) : ofF a l = rofF a l := by rw [ofF_eq, rofF_eq]
/-- The entries booked and valued up to days. -/
def inE (bk vl : Int) (e : Entry) : Bool := decide (e.booked ≤ bk ∧ e.value ≤ vl)
theorem ratF_eq (a bk vl : Int) (l : List Entry) : ratF a bk vl l = wrap64 (S (fun e => if inE bk vl e = true then mE a e else 0) l) := by
  refine fold_eq _ (fun n e => ?_) (fun n e h => ?_) _
  · unfold ratS inE
    by_cases h : e.booked ≤ bk ∧ e.value ≤ vl
    · rw [if_pos h, if_pos (by simpa using h), iw, ww, movF_eq, wr]
    · rw [if_neg h, if_neg (by simpa using h)]; congr 1; omega
  · unfold ratS
    split
    · rw [iw, ww]
    · exact h
theorem atF_eq (a bk vl : Int) (l : List Entry) : atF a bk vl l = wrap64 (S (fun e => if inE bk vl e = true then mE a e else 0) l) := by
  unfold atF
  rw [fold_eq (fun x : Entry × Int => if inE bk vl x.1 = true then - x.2 else 0) (fun n x => ?_) (fun n x h => ?_), S_mv]
  · congr 1
    refine S_congr fun e _ => ?_
    unfold mE
    by_cases h : inE bk vl e = true
    · rw [if_pos h]
      exact S_congr fun x _ => by rw [if_pos h]
    · rw [if_neg h]
      refine Eq.trans (S_congr (g := fun _ => 0) fun x _ => ?_) (S_zero e.legs)
      rw [if_neg h]; exact ite_self _
  · unfold inE
    by_cases h : x.1.booked ≤ bk ∧ x.1.value ≤ vl
    · rw [if_pos h, if_pos (by simpa using h), ww]; congr 1
    · rw [if_neg h, if_neg (by simpa using h)]; congr 1; omega
  · split
    · exact ww _
    · exact h
theorem at_ref (a bk vl : Int) (l : List Entry) : atF a bk vl l = ratF a bk vl l := by rw [atF_eq, ratF_eq]
/-! ### Turnover -/
theorem fold2_S {α : Type} {g : Int × Int → α → Int × Int} (f1 f2 : α → Int) (hg : ∀ s x, wrap64 s.1 = s.1 → wrap64 s.2 = s.2 → g s x = (wrap64 (s.1 + f1 x), wrap64 (s.2 + f2 x))) : ∀ (l : List α) (s : Int × Int), wrap64 s.1 = s.1 → wrap64 s.2 = s.2 → l.foldl g s = (wrap64 (s.1 + S f1 l), wrap64 (s.2 + S f2 l))
  | [], s, h1, h2 => by simp [S, h1, h2]
  | x :: r, s, h1, h2 => by
    rw [List.foldl_cons, hg s x h1 h2, fold2_S f1 f2 hg r _ (ww _) (ww _)]
    simp only [S, wl]
    rw [Int.add_assoc, Int.add_assoc]
def outE (fr to : Int) (e : Entry) : Bool := decide (e.booked < fr ∨ to < e.booked)
def dE (a : Int) (e : Entry) : Int := S (fun x => if x.account = a ∧ 0 < x.amount then x.amount else 0) e.legs
def cE (a : Int) (e : Entry) : Int := S (fun x => if x.account = a ∧ x.amount < 0 then - x.amount else 0) e.legs
theorem rtuF_eq (a fr to : Int) (l : List Entry) : rtuF a fr to l = (wrap64 (S (fun e => if outE fr to e = true then 0 else dE a e) l), wrap64 (S (fun e => if outE fr to e = true then 0 else cE a e) l)) := by
  unfold rtuF
  rw [fold2_S (fun e => if outE fr to e = true then 0 else dE a e) (fun e => if outE fr to e = true then 0 else cE a e) (fun s e h1 h2 => ?_) l (0, 0) w0 w0]
  · simp
  · unfold rtuS outE
    by_cases h : e.booked < fr ∨ to < e.booked
    · rw [if_pos h, if_pos (by simpa using h), if_pos (by simpa using h)]
      simp [h1, h2]
    · rw [if_neg h, if_neg (by simpa using h), if_neg (by simpa using h)]
      refine fold2_S _ _ (fun s x h1 h2 => ?_) _ s h1 h2
      unfold rtuL
      by_cases h3 : x.account = a ∧ 0 < x.amount
      · have h4 : ¬ (x.account = a ∧ x.amount < 0) := by omega
        have h5 : ¬ x.amount < 0 := by omega
        simp [h3, h5, iw, h2]
      · by_cases h4 : x.account = a ∧ x.amount < 0
        · rw [if_neg h3]
          have h5 : ¬ 0 < x.amount := by omega
          simp [h4, h5, iw, h1]
          rfl
        · simp [h3, h4, h1, h2]
theorem tuF_eq (a fr to : Int) (l : List Entry) : tuF a fr to l = (wrap64 (S (fun e => if outE fr to e = true then 0 else dE a e) l), wrap64 (S (fun e => if outE fr to e = true then 0 else cE a e) l)) := by
  unfold tuF
  rw [fold2_S (fun x : Entry × Int => if outE fr to x.1 = true then 0 else if 0 < x.2 then x.2 else 0) (fun x => if outE fr to x.1 = true then 0 else if 0 < x.2 then 0 else - x.2) (fun s x h1 h2 => ?_) (mv a l) (0, 0) w0 w0]
  · rw [S_mv, S_mv]
    simp only [Int.zero_add]
    congr 2
    · refine S_congr fun e _ => ?_
      by_cases h : outE fr to e = true
      · simp only [h, if_true, ite_self, S_zero]
      · simp only [h, dE]
        exact S_congr fun x _ => by by_cases h1 : x.account = a <;> simp [h1]
    · refine S_congr fun e _ => ?_
      by_cases h : outE fr to e = true
      · simp only [h, if_true, ite_self, S_zero]
      · simp only [h, cE]
        refine S_congr fun x _ => ?_
        by_cases h1 : x.account = a
        · by_cases h2 : 0 < x.amount
          · have h3 : ¬ x.amount < 0 := by omega
            simp [h1, h2, h3]
          · by_cases h3 : x.amount < 0
            · simp [h1, h2, h3]
            · have h4 : x.amount = 0 := by omega
              simp [h1, h4]
        · simp [h1]
  · unfold tuS outE
    by_cases h : x.1.booked < fr ∨ to < x.1.booked
    · simp [h, h1, h2]
    · by_cases h3 : 0 < x.2
      · simp [h, h3, h2]
      · simp [h, h3, h1]; congr 1
theorem tu_ref (a fr to : Int) (l : List Entry) : tuF a fr to l = rtuF a fr to l := by rw [tuF_eq, rtuF_eq]
/-! ### A small journal of arguments is one that the walks take -/
theorem few_jok {l : List Entry} (h : fewB l = true) (ho : ∀ e ∈ l, e.ok) : jok l = true := by
  have h1 := few_len h
  have h2 := few_legs h
  unfold jok
  simp only [Bool.and_eq_true, decide_eq_true_eq, List.all_eq_true]
  refine ⟨by omega, fun e he => ?_⟩
  unfold entB
  simp only [Bool.and_eq_true, decide_eq_true_eq, List.all_eq_true]
  refine ⟨by have := h2 e he; omega, fun x hx => ?_⟩
  obtain ⟨_, _, _, _, _, _, _, _, ⟨_, hl⟩, _⟩ := ho e he
  obtain ⟨h3, _, h5⟩ := hl x hx
  unfold legOk
  simp only [Bool.and_eq_true, decide_eq_true_eq]
  refine ⟨?_, h5⟩
  simp only [Lit.wf, Bool.and_eq_true, decide_eq_true_eq]
  unfold I64 at h3
  exact h3
end Go.Proofs.Ytggmlfmhinafhaa
