/-
  What a call of the model is said to do with plain data: contracts. No program is named here.
-/
import Derived.Test.YtonibcnbcnibeaaVm3
namespace Go.VM
open Go.RowKit

def blkOf : Value → Option Nat
  | .slice (some a) _ _ => some a.block
  | .pointer (some a) => some a.block
  | _ => none

/-- A slice of the call's own: a row from block 'base' on, its elements read as 'es'. -/
def OwnS (P : Program) (S : Nat → Prop) (w : World) (base : Nat) (e : TypeId) (es : List V) (v : Value) : Prop :=
  ∃ vs : List Value, w.ownsRow base e (P.cellsOf e) v es.length vs ∧ (∀ x ∈ es, x.cells.length = P.cellsOf e) ∧ (∀ x ∈ flatc es, x.cell = true) ∧ Reps S w vs (flatc es)
/-- A variable of the call's own. -/
def BoxS (S : Nat → Prop) (w : World) (base : Nat) (cs : List V) (v : Value) : Prop :=
  ∃ (g : Nat) (vs : List Value) (ty : TypeId), v = .pointer (some ⟨g, 0, none⟩) ∧ base ≤ g ∧ w.heap[g]? = some (.cells vs.toArray ty (0, 0)) ∧ (∀ x ∈ cs, x.cell = true) ∧ Reps S w vs cs

/-- One value that a frame holds or hands back: what it owns lies in no block of S. -/
def Res1 (P : Program) (S : Nat → Prop) (w : World) (base : Nat) (v : Value) : V → Prop
  | .ow e es => OwnS P S w base e es v ∧ ∀ g, blkOf v = some g → ¬ S g
  | .bx cs => BoxS S w base cs v ∧ ∀ g, blkOf v = some g → ¬ S g
  | .al _ | .pe .. | .pb .. | .t _ | .ud => False
  | x => Rep S w v x
def apart (us : List Value) (ys : List V) : Prop := ∀ (i j : Nat) u u' y y' g, i ≠ j → us[i]? = some u → us[j]? = some u' → ys[i]? = some y → ys[j]? = some y' →
  y.isOwn = true → y'.isOwn = true → blkOf u = some g → blkOf u' ≠ some g
def Res (P : Program) (S : Nat → Prop) (w : World) (base : Nat) (v : Value) : V → Prop
  | .t ys => ∃ us : List Value, v = .tuple us.toArray ∧ us.length = ys.length ∧ (∀ (j : Nat) u y, us[j]? = some u → ys[j]? = some y → Res1 P S w base u y) ∧ apart us ys
  | y => Res1 P S w base v y

/-- A call of function f at data xs returns data y, and of what was there nothing has turned. -/
def PF (P : Program) (f : FuncId) (xs : List V) (y : V) : Prop :=
  ∀ (S : Nat → Prop) (w : World) (vs : List Value), (∀ b, S b → b < w.heap.size) → Reps S w vs xs →
    Calls P f vs.toArray w fun e w' => ∃ v, e = .returned v ∧ Below w.heap.size w w' ∧
      ∃ S' : Nat → Prop, (∀ b, S b → S' b) ∧ (∀ b, S' b → (S b ∨ w.heap.size ≤ b) ∧ b < w'.heap.size) ∧ Res P S' w' w.heap.size v y
/-- A function with a body, which a call enters. -/
def okFn (P : Program) (f : FuncId) : Bool := match P.funcs[f]? with
  | some fn => fn.name != "runtime.NumGoroutine" && fn.body.isSome
  | none => false
def SoundO (P : Program) (o : Orc) : Prop := ∀ f xs y, o f xs = some y → okFn P f = true ∧ PF P f xs y

/-! ### Small lemmas -/
theorem Rep.oneCell {S : Nat → Prop} {w : World} {v : Value} {x : V} (h : Rep S w v x) (hx : x.cell = true) : v.oneCell' = true := by
  cases h <;> first | rfl | simp [V.cell] at hx
theorem Rep.bel {S : Nat → Prop} {w w' : World} {v : Value} {x : V} {B : Nat} (h : Rep S w v x) (hS : ∀ b, S b → b < B) (hb : Below B w w') : Rep S w' v x :=
  h.keep fun _ hp => hb.cell (hS _ hp)
theorem Reps.bel {S : Nat → Prop} {w w' : World} {vs : List Value} {xs : List V} {B : Nat} (h : Reps S w vs xs) (hS : ∀ b, S b → b < B) (hb : Below B w w') : Reps S w' vs xs :=
  h.move (fun _ h => h) fun _ hp => hb.cell (hS _ hp)
theorem Reps.mono {S S' : Nat → Prop} {w : World} {vs : List Value} {xs : List V} (h : Reps S w vs xs) (hS : ∀ b, S b → S' b) : Reps S' w vs xs := h.move hS fun _ _ => rfl
theorem Reps.getD {S : Nat → Prop} {w : World} {vs : List Value} {xs : List V} (h : Reps S w vs xs) {j : Nat} {x : V} (hx : xs[j]? = some x) : ∃ u, vs[j]? = some u ∧ Rep S w u x := by
  have hj : j < xs.length := (List.getElem?_eq_some_iff.1 hx).1
  have hj' : j < vs.length := by rw [h.1]; exact hj
  exact ⟨vs[j], List.getElem?_eq_getElem hj', h.2 j _ x (List.getElem?_eq_getElem hj') hx⟩
theorem Reps.drop {S : Nat → Prop} {w : World} {vs : List Value} {xs : List V} (h : Reps S w vs xs) (n : Nat) : Reps S w (vs.drop n) (xs.drop n) :=
  ⟨by simp [h.1], fun j u x hu hx => h.2 (n + j) u x (by simpa using hu) (by simpa using hx)⟩
theorem Reps.take {S : Nat → Prop} {w : World} {vs : List Value} {xs : List V} (h : Reps S w vs xs) (n : Nat) : Reps S w (vs.take n) (xs.take n) := by
  refine ⟨by simp [h.1], fun j u x hu hx => ?_⟩
  rw [List.getElem?_take] at hu hx
  by_cases hj : j < n
  · rw [if_pos hj] at hu hx; exact h.2 j u x hu hx
  · rw [if_neg hj] at hu; cases hu

theorem flatc_nil : flatc [] = [] := rfl
theorem flatc_cons (e : V) (es : List V) : flatc (e :: es) = e.cells ++ flatc es := rfl
theorem flatc_append (es fs : List V) : flatc (es ++ fs) = flatc es ++ flatc fs := by simp [flatc]
theorem flatc_length {k : Nat} : ∀ {es : List V}, (∀ e ∈ es, e.cells.length = k) → (flatc es).length = es.length * k
  | [], _ => by simp [flatc]
  | e :: es, h => by
    have h1 := h e (List.mem_cons_self ..)
    have h2 := flatc_length (es := es) fun x hx => h x (List.mem_cons_of_mem _ hx)
    rw [flatc_cons, List.length_append, h1, h2, List.length_cons, Nat.succ_mul, Nat.add_comm]
theorem flatc_drop {k : Nat} : ∀ {es : List V} (i : Nat), (∀ e ∈ es, e.cells.length = k) → (flatc es).drop (i * k) = flatc (es.drop i)
  | es, 0, _ => by simp
  | [], i + 1, _ => by simp [flatc]
  | e :: es, i + 1, h => by
    have h1 := h e (List.mem_cons_self ..)
    have h2 := flatc_drop (es := es) i fun x hx => h x (List.mem_cons_of_mem _ hx)
    rw [flatc_cons, List.drop_succ_cons, ← h2, List.drop_append, h1, List.drop_eq_nil_of_le (by rw [h1, Nat.succ_mul]; omega), List.nil_append, show (i + 1) * k - k = i * k from by rw [Nat.succ_mul]; omega]
theorem flatc_take {k : Nat} : ∀ {es : List V} (i : Nat), (∀ e ∈ es, e.cells.length = k) → (flatc es).take (i * k) = flatc (es.take i)
  | es, 0, _ => by simp [flatc]
  | [], i + 1, _ => by simp [flatc]
  | e :: es, i + 1, h => by
    have h1 := h e (List.mem_cons_self ..)
    have h2 := flatc_take (es := es) i fun x hx => h x (List.mem_cons_of_mem _ hx)
    rw [flatc_cons, List.take_succ_cons, flatc_cons, ← h2, List.take_append, h1, List.take_of_length_le (by rw [h1, Nat.succ_mul]; omega), show (i + 1) * k - k = i * k from by rw [Nat.succ_mul]; omega]
theorem flatc_at {k : Nat} {es : List V} {i : Nat} {e : V} (h : ∀ e ∈ es, e.cells.length = k) (he : es[i]? = some e) : ((flatc es).drop (i * k)).take k = e.cells := by
  rw [flatc_drop i h]
  have hi : i < es.length := (List.getElem?_eq_some_iff.1 he).1
  have hd : es.drop i = e :: es.drop (i + 1) := by
    rw [List.drop_eq_getElem_cons hi]
    have := (List.getElem?_eq_some_iff.1 he).2
    rw [this]
  rw [hd, flatc_cons]
  have hl := h e (List.mem_of_getElem? he)
  rw [← hl, List.take_left]
theorem add_add (a : Addr) (i j : Nat) : (a.add i).add j = a.add (i + j) := by
  unfold Addr.add
  by_cases hi : i = 0 <;> by_cases hj : j = 0 <;> simp [hi, hj, Nat.add_assoc]

/-- A slice that is read, whatever its length. -/
theorem Rep.slice {S : Nat → Prop} {w : World} {v : Value} {es : List V} (h : Rep S w v (.l es)) :
    ∃ (a : Option Addr) (c k : Nat) (vs : List Value), v = .slice a es.length c ∧ (∀ e ∈ es, e.cells.length = k) ∧ (∀ x ∈ flatc es, x.cell = true) ∧ Reps S w vs (flatc es) ∧ es.length ≤ c ∧
      (es = [] ∨ ∃ ad, a = some ad ∧ S ad.block ∧ ∀ (j : Nat) u, vs[j]? = some u → w.cell? (ad.add j) = some u) := by
  cases h with
  | l0 a c => exact ⟨a, c, 0, [], rfl, by simp, by simp [flatc], Reps.nil, Nat.zero_le _, .inl rfl⟩
  | l a c k _ vs hs hc hk h1 hl hu h => exact ⟨some a, c, k, vs, rfl, hk, h1, ⟨hl, h⟩, hc, .inr ⟨a, rfl, hs, hu⟩⟩
theorem Rep.mk_slice {S : Nat → Prop} {w : World} {a : Option Addr} {c k : Nat} {es : List V} {vs : List Value} (hk : ∀ e ∈ es, e.cells.length = k) (h1 : ∀ x ∈ flatc es, x.cell = true) (hr : Reps S w vs (flatc es))
    (hc : es.length ≤ c) (ha : es = [] ∨ ∃ ad, a = some ad ∧ S ad.block ∧ ∀ (j : Nat) u, vs[j]? = some u → w.cell? (ad.add j) = some u) : Rep S w (.slice a es.length c) (.l es) := by
  rcases ha with rfl | ⟨ad, rfl, hs, hu⟩
  · exact .l0 _ _
  · exact .l ad c k es vs hs hc hk h1 hr.1 hu hr.2
theorem Rep.ptr {S : Nat → Prop} {w : World} {v : Value} {cs : List V} (h : Rep S w v (.r cs)) :
    ∃ (a : Addr) (vs : List Value), v = .pointer (some a) ∧ S a.block ∧ (∀ x ∈ cs, x.cell = true) ∧ Reps S w vs cs ∧ ∀ (j : Nat) u, vs[j]? = some u → w.cell? (a.add j) = some u := by
  cases h with
  | r a _ vs hs h1 hl hu h => exact ⟨a, vs, rfl, hs, h1, ⟨hl, h⟩, hu⟩
theorem Rep.agg {S : Nat → Prop} {w : World} {v : Value} {cs : List V} (h : Rep S w v (.a cs)) :
    ∃ us : List Value, v = .agg us.toArray ∧ (∀ x ∈ cs, x.cell = true) ∧ Reps S w us cs := by
  cases h with
  | a us _ hl h1 h => exact ⟨us.toList, by simp, h1, by simpa using hl, fun j u x hu hx => h j u x (by simpa using hu) hx⟩
theorem Rep.mk_agg {S : Nat → Prop} {w : World} {us : List Value} {cs : List V} (h1 : ∀ x ∈ cs, x.cell = true) (h : Reps S w us cs) : Rep S w (.agg us.toArray) (.a cs) :=
  .a _ _ (by simpa using h.1) h1 fun j u x hu hx => h.2 j u x (by simpa using hu) hx
/-- A value's cells read as the datum's cells. -/
theorem Rep.cells {S : Nat → Prop} {w : World} {v : Value} {x : V} (h : Rep S w v x) : Reps S w v.cells.toList x.cells := by
  cases h with
  | a us cs hl h1 h => exact ⟨by simpa [Value.cells, V.cells] using hl, fun j u x hu hx => h j u x (by simpa [Value.cells] using hu) (by simpa [V.cells] using hx)⟩
  | b x => exact Reps.cons (.b x) Reps.nil
  | i k n => exact Reps.cons (.i k n) Reps.nil
  | s x => exact Reps.cons (.s x) Reps.nil
  | l0 a c => exact Reps.cons (.l0 a c) Reps.nil
  | l a c k es vs hs hc hk h1 hl hu h => exact Reps.cons (.l a c k es vs hs hc hk h1 hl hu h) Reps.nil
  | r a cs vs hs h1 hl hu h => exact Reps.cons (.r a cs vs hs h1 hl hu h) Reps.nil
  | f fn fs cs xs ys hx hy h h' => exact Reps.cons (.f fn fs cs xs ys hx hy h h') Reps.nil
  | t us ys hl h => exact Reps.cons (.t us ys hl h) Reps.nil
  | nf => exact Reps.cons .nf Reps.nil
  | np => exact Reps.cons .np Reps.nil

/-- What is owned reads, in every set that holds its block. -/
theorem OwnS.frz {P : Program} {S : Nat → Prop} {w : World} {base : Nat} {e : TypeId} {es : List V} {v : Value} (h : OwnS P S w base e es v) {S' : Nat → Prop} (hS : ∀ b, S b → S' b) (hg : ∀ g, blkOf v = some g → S' g) : Rep S' w v (.l es) := by
  obtain ⟨vs, ⟨hl, hv⟩, hk, h1, hr⟩ := h
  rcases hv with ⟨rfl, h0⟩ | ⟨g, cap, cur, rfl, hg', hh, hn, _, hsz, ht⟩
  · have : es = [] := List.eq_nil_of_length_eq_zero h0
    subst this
    exact .l0 _ _
  · refine Rep.mk_slice hk h1 (hr.mono hS) hn (.inr ⟨_, rfl, hg _ rfl, fun j u hj => ?_⟩)
    have hj' : j < vs.length := (List.getElem?_eq_some_iff.1 hj).1
    rw [← ht, List.getElem?_take] at hj
    split at hj
    · simp only [World.cell?, add_block, hh]
      unfold Addr.add
      split
      · rename_i hj0; subst hj0; simpa using hj
      · simpa using hj
    · cases hj
theorem BoxS.frz {S : Nat → Prop} {w : World} {base : Nat} {cs : List V} {v : Value} (h : BoxS S w base cs v) {S' : Nat → Prop} (hS : ∀ b, S b → S' b) (hg : ∀ g, blkOf v = some g → S' g) : Rep S' w v (.r cs) := by
  obtain ⟨g, vs, ty, rfl, hb, hh, h1, hr⟩ := h
  refine .r _ _ vs (hg _ rfl) h1 hr.1 (fun j u hj => ?_) (hr.mono hS).2
  simp only [World.cell?, add_block, hh]
  unfold Addr.add
  split
  · rename_i hj0; subst hj0; simpa using hj
  · simpa using hj
end Go.VM
