/-
  Plain data for Go values, and what it means that a value of the model reads as such data. No program is named here.
-/
import Derived.WalkKit
import Derived.Laws.CopyOwn
import Derived.Maps.AppendAt
import Derived.Deep.Draws
namespace Go.VM

/-- Plain data: 'l' a slice that nobody writes any more, 'ow' a slice of the call's own (of elements of type number e), 'r' a pointer to cells that nobody writes any more, 'bx' a variable of the call's own; 'al', 'pe', 'pb' name another slot of the frame, an element or a part of what it holds; 'ud' anything. -/
inductive V where
  | b (x : Bool)
  | i (k : IntKind) (n : Int)
  | s (x : List UInt8)
  | l (es : List V)
  | ow (e : Nat) (es : List V)
  | r (cs : List V)
  | bx (cs : List V)
  | a (cs : List V)
  | t (vs : List V)
  | f (fn : Fn) (fs cs : List V)
  | nf
  | np
  | al (n : Nat)
  | pe (n i off sz : Nat)
  | pb (n off sz : Nat)
  | ud
  deriving Inhabited

def V.cells : V → List V
  | .a cs => cs
  | v => [v]
def V.one : V → Bool
  | .a _ | .t _ => false
  | _ => true
/-- Data that may lie in a cell of memory that nobody writes any more. -/
def V.cell : V → Bool
  | .b _ | .i _ _ | .s _ | .l _ | .r _ | .f _ _ _ | .nf | .np => true
  | _ => false

mutual
def V.flat : V → Bool
  | .b _ | .i _ _ | .s _ | .nf | .np => true
  | .a cs => flats cs
  | .t cs => flats cs
  | .ow _ es => flats es
  | .l es => es.isEmpty
  | _ => false
def V.flats : List V → Bool
  | [] => true
  | x :: rest => V.flat x && V.flats rest
end

def V.flat1 : V → Bool
  | .t _ => false
  | x => x.flat
mutual
/-- Data that one value alone reads as. -/
def V.uniq : V → Bool
  | .b _ | .i _ _ | .s _ | .nf | .np => true
  | .a cs => uniqs cs
  | .t cs => uniqs cs
  | _ => false
def V.uniqs : List V → Bool
  | [] => true
  | x :: rest => V.uniq x && V.uniqs rest
end
mutual
def V.toVal : V → Value
  | .b x => .bool x
  | .i k n => .int k n
  | .s x => .string ⟨x.toArray⟩
  | .nf => .nilFunc
  | .np => .pointer none
  | .a cs => .agg (toVals cs).toArray
  | .t cs => .tuple (toVals cs).toArray
  | _ => .tuple #[]
def V.toVals : List V → List Value
  | [] => []
  | x :: rest => V.toVal x :: V.toVals rest
end
theorem V.uniqs_iff (l : List V) : V.uniqs l = true ↔ ∀ x ∈ l, x.uniq = true := by
  induction l with
  | nil => simp [V.uniqs]
  | cons x rest ih => simp [V.uniqs, ih]
theorem V.toVals_eq (l : List V) : V.toVals l = l.map V.toVal := by
  induction l with
  | nil => simp [V.toVals]
  | cons x rest ih => simp [V.toVals, ih]

theorem V.flats_iff (l : List V) : V.flats l = true ↔ ∀ x ∈ l, x.flat = true := by
  induction l with
  | nil => simp [V.flats]
  | cons x rest ih => simp [V.flats, ih]

/-- The cells of a slice's elements, one behind the other. -/
def flatc (es : List V) : List V := es.flatMap V.cells

/-- The value 'v' reads as 'x' in the world 'w', and all that is read lies in blocks of S. -/
inductive Rep (S : Nat → Prop) (w : World) : Value → V → Prop
  | b (x : Bool) : Rep S w (.bool x) (.b x)
  | i (k : IntKind) (n : Int) : Rep S w (.int k n) (.i k n)
  | s (x : ByteArray) : Rep S w (.string x) (.s x.data.toList)
  | l0 (a : Option Addr) (c : Nat) : Rep S w (.slice a 0 c) (.l [])
  | l (a : Addr) (c k : Nat) (es : List V) (vs : List Value) (hs : S a.block) (hc : es.length ≤ c) (hk : ∀ e ∈ es, e.cells.length = k)
      (h1 : ∀ x ∈ flatc es, x.cell = true) (hl : vs.length = (flatc es).length)
      (hu : ∀ (j : Nat) u, vs[j]? = some u → w.cell? (a.add j) = some u)
      (h : ∀ (j : Nat) u x, vs[j]? = some u → (flatc es)[j]? = some x → Rep S w u x) : Rep S w (.slice (some a) es.length c) (.l es)
  | r (a : Addr) (cs : List V) (vs : List Value) (hs : S a.block) (h1 : ∀ x ∈ cs, x.cell = true) (hl : vs.length = cs.length)
      (hu : ∀ (j : Nat) u, vs[j]? = some u → w.cell? (a.add j) = some u)
      (h : ∀ (j : Nat) u x, vs[j]? = some u → cs[j]? = some x → Rep S w u x) : Rep S w (.pointer (some a)) (.r cs)
  | a (us : Array Value) (cs : List V) (hl : us.size = cs.length) (h1 : ∀ x ∈ cs, x.cell = true)
      (h : ∀ (j : Nat) u x, us[j]? = some u → cs[j]? = some x → Rep S w u x) : Rep S w (.agg us) (.a cs)
  | f (fn : Fn) (fs cs : Array Value) (xs ys : List V) (hx : fs.size = xs.length) (hy : cs.size = ys.length)
      (h : ∀ (j : Nat) u x, fs[j]? = some u → xs[j]? = some x → Rep S w u x)
      (h' : ∀ (j : Nat) u x, cs[j]? = some u → ys[j]? = some x → Rep S w u x) : Rep S w (.func fn fs cs) (.f fn xs ys)
  | t (us : Array Value) (ys : List V) (hl : us.size = ys.length) (h : ∀ (j : Nat) u x, us[j]? = some u → ys[j]? = some x → Rep S w u x) : Rep S w (.tuple us) (.t ys)
  | nf : Rep S w .nilFunc .nf
  | np : Rep S w (.pointer none) .np

theorem add_block (a : Addr) (n : Nat) : (a.add n).block = a.block := by unfold Addr.add; split <;> rfl

theorem Rep.move {S S' : Nat → Prop} {w w' : World} {v : Value} {x : V} (h : Rep S w v x) (hS : ∀ b, S b → S' b)
    (hw : ∀ p : Addr, S p.block → w'.cell? p = w.cell? p) : Rep S' w' v x := by
  induction h with
  | b x => exact .b x
  | i k n => exact .i k n
  | s x => exact .s x
  | l0 a c => exact .l0 a c
  | l a c k es vs hs hc hk h1 hl hu h ih =>
    exact .l a c k es vs (hS _ hs) hc hk h1 hl (fun j u hj => (hw _ (by rw [add_block]; exact hs)).trans (hu j u hj)) ih
  | r a cs vs hs h1 hl hu h ih =>
    exact .r a cs vs (hS _ hs) h1 hl (fun j u hj => (hw _ (by rw [add_block]; exact hs)).trans (hu j u hj)) ih
  | a us cs hl h1 h ih => exact .a us cs hl h1 ih
  | f fn fs cs xs ys hx hy h h' ih ih' => exact .f fn fs cs xs ys hx hy ih ih'
  | t us ys hl h ih => exact .t us ys hl ih
  | nf => exact .nf
  | np => exact .np

theorem Rep.mono {S S' : Nat → Prop} {w : World} {v : Value} {x : V} (h : Rep S w v x) (hS : ∀ b, S b → S' b) : Rep S' w v x := h.move hS fun _ _ => rfl
theorem Rep.keep {S : Nat → Prop} {w w' : World} {v : Value} {x : V} (h : Rep S w v x) (hw : ∀ p : Addr, S p.block → w'.cell? p = w.cell? p) : Rep S w' v x := h.move (fun _ h => h) hw

theorem Rep.of_flat {S S' : Nat → Prop} {w w' : World} {v : Value} {x : V} (h : Rep S w v x) (hf : x.flat = true) : Rep S' w' v x := by
  induction h with
  | b x => exact .b x
  | i k n => exact .i k n
  | s x => exact .s x
  | l0 a c => exact .l0 a c
  | l a c k es vs hs hc hk h1 hl hu h ih =>
    simp only [V.flat, List.isEmpty_iff] at hf
    subst hf
    exact .l0 _ _
  | r a cs vs hs h1 hl hu h ih => simp [V.flat] at hf
  | a us cs hl h1 h ih =>
    refine .a us cs hl h1 fun j u x hu hx => ih j u x hu hx ?_
    have := (V.flats_iff cs).1 hf
    exact this x (List.mem_of_getElem? hx)
  | f fn fs cs xs ys hx hy h h' ih ih' => simp [V.flat] at hf
  | t us ys hl h ih =>
    refine .t us ys hl fun j u x hu hx => ih j u x hu hx ?_
    have := (V.flats_iff ys).1 hf
    exact this x (List.mem_of_getElem? hx)
  | nf => exact .nf
  | np => exact .np

theorem Rep.val {S : Nat → Prop} {w : World} {v : Value} {x : V} (h : Rep S w v x) (hx : x.uniq = true) : v = x.toVal := by
  induction h with
  | b x => simp [V.toVal]
  | i k n => simp [V.toVal]
  | s x => simp [V.toVal]
  | l0 a c => simp [V.uniq] at hx
  | l a c k es vs hs hc hk h1 hl hu h ih => simp [V.uniq] at hx
  | r a cs vs hs h1 hl hu h ih => simp [V.uniq] at hx
  | a us cs hl h1 h ih =>
    simp only [V.toVal, V.toVals_eq]
    congr 1
    apply Array.ext
    · simpa using hl
    · intro j h2 h3
      have hj : j < cs.length := by simpa using h3
      have := ih j us[j] cs[j] (Array.getElem?_eq_getElem h2) (List.getElem?_eq_getElem hj) ((V.uniqs_iff cs).1 (by simpa [V.uniq] using hx) _ (List.getElem_mem hj))
      simpa using this
  | f fn fs cs xs ys hx' hy h h' ih ih' => simp [V.uniq] at hx
  | t us cs hl h ih =>
    simp only [V.toVal, V.toVals_eq]
    congr 1
    apply Array.ext
    · simpa using hl
    · intro j h2 h3
      have hj : j < cs.length := by simpa using h3
      have := ih j us[j] cs[j] (Array.getElem?_eq_getElem h2) (List.getElem?_eq_getElem hj) ((V.uniqs_iff cs).1 (by simpa [V.uniq] using hx) _ (List.getElem_mem hj))
      simpa using this
  | nf => simp [V.toVal]
  | np => simp [V.toVal]

/-- Two lists, value by datum. -/
def Reps (S : Nat → Prop) (w : World) (vs : List Value) (xs : List V) : Prop := vs.length = xs.length ∧ ∀ (j : Nat) u x, vs[j]? = some u → xs[j]? = some x → Rep S w u x
theorem Reps.nil {S : Nat → Prop} {w : World} : Reps S w [] [] := ⟨rfl, by simp⟩
theorem Reps.cons {S : Nat → Prop} {w : World} {v : Value} {x : V} {vs : List Value} {xs : List V} (h : Rep S w v x) (hs : Reps S w vs xs) : Reps S w (v :: vs) (x :: xs) := by
  refine ⟨by simp [hs.1], fun j u y hu hy => ?_⟩
  cases j with
  | zero => simp at hu hy; subst hu; subst hy; exact h
  | succ j => simp at hu hy; exact hs.2 j u y hu hy
theorem Reps.head {S : Nat → Prop} {w : World} {v : Value} {x : V} {vs : List Value} {xs : List V} (hs : Reps S w (v :: vs) (x :: xs)) : Rep S w v x := hs.2 0 v x rfl rfl
theorem Reps.tail {S : Nat → Prop} {w : World} {v : Value} {x : V} {vs : List Value} {xs : List V} (hs : Reps S w (v :: vs) (x :: xs)) : Reps S w vs xs :=
  ⟨by simpa using hs.1, fun j u y hu hy => hs.2 (j + 1) u y (by simpa using hu) (by simpa using hy)⟩
theorem Reps.move {S S' : Nat → Prop} {w w' : World} {vs : List Value} {xs : List V} (h : Reps S w vs xs) (hS : ∀ b, S b → S' b)
    (hw : ∀ p : Addr, S p.block → w'.cell? p = w.cell? p) : Reps S' w' vs xs := ⟨h.1, fun j u x hu hx => (h.2 j u x hu hx).move hS hw⟩
theorem Reps.append {S : Nat → Prop} {w : World} {vs us : List Value} {xs ys : List V} (h : Reps S w vs xs) (h' : Reps S w us ys) : Reps S w (vs ++ us) (xs ++ ys) := by
  induction vs generalizing xs with
  | nil =>
    have : xs = [] := List.eq_nil_of_length_eq_zero (by simpa using h.1.symm)
    subst this; simpa using h'
  | cons v vs ih =>
    cases xs with
    | nil => exact absurd h.1 (by simp)
    | cons x xs => exact Reps.cons h.head (ih h.tail)
end Go.VM
